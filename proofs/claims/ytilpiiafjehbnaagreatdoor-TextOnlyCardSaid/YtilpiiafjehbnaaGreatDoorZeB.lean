import Derived.Test.YtilpiiafjehbnaaGreatDoorZcW
set_option linter.unusedSimpArgs false
set_option linter.unusedVariables false
namespace Go.Proofs.YtilpiiafjehbnaaGreatDoor
open Go.Ev
theorem crlf_first {b : List UInt8} {j : Nat} (hj : At b j) (h5 : j ≤ 512) (h : ∀ i, i < j → ¬ At b i) : crlf (b.take 514) = (j : Int) := by
 have ht : At (b.take 514) j := At.take.2 ⟨hj, by omega⟩
 rcases crlf_spec (b.take 514) with ⟨h1, h2⟩ | ⟨i, h1, h2, h3⟩
 · exact absurd ht (h2 j)
 · obtain ⟨h4, h5'⟩ := At.take.1 h2
   have : i = j := by
     by_cases e : i < j
     · exact absurd h4 (h i e)
     · by_cases e2 : j < i
       · exact absurd ht (h3 j e2)
       · omega
   rw [h1, this]
theorem neqS (t : TypeId) (c : Bool) (k : IntKind) (x : Int) : binV Tryz.prog .neq t c (.int k x) (.int k x) = some (.bool false) := by rw [binV_neq, dT rfl]; rfl
theorem eqlS (t : TypeId) (c : Bool) (k : IntKind) (x : Int) : binV Tryz.prog .eql t c (.int k x) (.int k x) = some (.bool true) := by rw [binV_eql, dT rfl]
theorem neqV (t : TypeId) (c : Bool) (w : List UInt8) : binV Tryz.prog .neq t c (sv w) (sv w) = some (.bool false) := by
 have := sv_neq t c w w
 rw [dT rfl] at this
 exact this
theorem eqlV (t : TypeId) (c : Bool) (w : List UInt8) : binV Tryz.prog .eql t c (sv w) (sv w) = some (.bool true) := by
 have := sv_eql t c w w
 rw [dT rfl] at this
 exact this
theorem eqlB (b : Bool) : binV Tryz.prog .eql 4 false (.bool b) (.bool b) = some (.bool true) := by rw [bool_eq]; cases b <;> rfl
theorem pickV_true (a b : Value) : pickV (.bool true) a b = some a := rfl
def cmdQ (q : RQ) (kv : Value) : Cmd := ⟨q.ck, 0, kv, ⟨q.val.toArray⟩, q.flags, q.fo, q.uniq, q.by', q.keys⟩
theorem reg20_1 {call : CallT} {L : Nat} {q : RQ} {kv1 kv2 : Value} {A B : Nat} {h : H} {tm : T Value} (h1 : Has h A (.rw (cmdQ q kv1).cells (some 26))) (h2 : Has h B (.rw (cmdQ q kv2).cells (some 26))) (s1 : Strs h kv1 q.keys) (s2 : Strs h kv2 q.keys) (t2 : tg tm 2 = .pointer (some ⟨A, 0, none⟩)) (t3 : tg tm 3 = .pointer (some ⟨B, 0, none⟩)) {Q : Ex → T Value → H → Prop}
   (hQ : Q .norm (T.set tm 61 (.bool false)) h) : C ⟨r20_1⟩ call L tm h Q := fun K hK => by
 rw [box_f]
 unfold r20_1
 have len1 := s1.len
 have len2 := s2.len
 have la0 : loadOne h (.pointer (some ⟨A, 0, none⟩)) = some (.int .u8 q.ck) := loadOne_has h1 rfl
 have lb0 : loadOne h (.pointer (some ⟨B, 0, none⟩)) = some (.int .u8 q.ck) := loadOne_has h2 rfl
 have la1 : loadOne h (.pointer (some ⟨A, 1, none⟩)) = some (.int .i64 0) := loadOne_has h1 rfl
 have lb1 : loadOne h (.pointer (some ⟨B, 1, none⟩)) = some (.int .i64 0) := loadOne_has h2 rfl
 have la2 : loadOne h (.pointer (some ⟨A, 2, none⟩)) = some (kv1) := loadOne_has h1 rfl
 have lb2 : loadOne h (.pointer (some ⟨B, 2, none⟩)) = some (kv2) := loadOne_has h2 rfl
 have la3 : loadOne h (.pointer (some ⟨A, 3, none⟩)) = some (sv q.val) := loadOne_has h1 rfl
 have lb3 : loadOne h (.pointer (some ⟨B, 3, none⟩)) = some (sv q.val) := loadOne_has h2 rfl
 have la4 : loadOne h (.pointer (some ⟨A, 4, none⟩)) = some (.int .u32 q.flags) := loadOne_has h1 rfl
 have lb4 : loadOne h (.pointer (some ⟨B, 4, none⟩)) = some (.int .u32 q.flags) := loadOne_has h2 rfl
 have la5 : loadOne h (.pointer (some ⟨A, 5, none⟩)) = some (.int .i64 q.fo) := loadOne_has h1 rfl
 have lb5 : loadOne h (.pointer (some ⟨B, 5, none⟩)) = some (.int .i64 q.fo) := loadOne_has h2 rfl
 have la6 : loadOne h (.pointer (some ⟨A, 6, none⟩)) = some (.int .u64 q.uniq) := loadOne_has h1 rfl
 have lb6 : loadOne h (.pointer (some ⟨B, 6, none⟩)) = some (.int .u64 q.uniq) := loadOne_has h2 rfl
 have la7 : loadOne h (.pointer (some ⟨A, 7, none⟩)) = some (.int .u64 q.by') := loadOne_has h1 rfl
 have lb7 : loadOne h (.pointer (some ⟨B, 7, none⟩)) = some (.int .u64 q.by') := loadOne_has h2 rfl
 try rw [bx]
 refine ops_s ?_
 simp only [↓OF, NK, t2, fieldPtr_ptr, Nat.zero_add]
 refine ops_s ?_
 simp only [↓OF, NK, la0]
 refine ops_s ?_
 simp only [↓OF, NK, t3, fieldPtr_ptr, Nat.zero_add]
 refine ops_s ?_
 simp only [↓OF, NK, lb0]
 refine ops_s ?_
 simp only [↓OF, NK, neqS]
 refine ops_s ?_
 simp only [↓OF, NK]
 refine ops_s ?_
 simp only [↓OF, NK, t2, fieldPtr_ptr, Nat.zero_add]
 refine ops_s ?_
 simp only [↓OF, NK, la1]
 refine ops_s ?_
 simp only [↓OF, NK, t3, fieldPtr_ptr, Nat.zero_add]
 refine ops_s ?_
 simp only [↓OF, NK, lb1]
 refine ops_s ?_
 simp only [↓OF, NK, neqS]
 refine ops_s ?_
 simp only [↓OF, NK, pickV_false]
 refine ops_s ?_
 simp only [↓OF, NK]
 refine ops_s ?_
 simp only [↓OF, NK, t2, fieldPtr_ptr, Nat.zero_add]
 refine ops_s ?_
 simp only [↓OF, NK, la3]
 refine ops_s ?_
 simp only [↓OF, NK, t3, fieldPtr_ptr, Nat.zero_add]
 refine ops_s ?_
 simp only [↓OF, NK, lb3]
 refine ops_s ?_
 simp only [↓OF, NK, neqV]
 refine ops_s ?_
 simp only [↓OF, NK, pickV_false]
 refine ops_s ?_
 simp only [↓OF, NK]
 refine ops_s ?_
 simp only [↓OF, NK, t2, fieldPtr_ptr, Nat.zero_add]
 refine ops_s ?_
 simp only [↓OF, NK, la4]
 refine ops_s ?_
 simp only [↓OF, NK, t3, fieldPtr_ptr, Nat.zero_add]
 refine ops_s ?_
 simp only [↓OF, NK, lb4]
 refine ops_s ?_
 simp only [↓OF, NK, neqS]
 refine ops_s ?_
 simp only [↓OF, NK, pickV_false]
 refine ops_s ?_
 simp only [↓OF, NK]
 refine ops_s ?_
 simp only [↓OF, NK, t2, fieldPtr_ptr, Nat.zero_add]
 refine ops_s ?_
 simp only [↓OF, NK, la5]
 refine ops_s ?_
 simp only [↓OF, NK, t3, fieldPtr_ptr, Nat.zero_add]
 refine ops_s ?_
 simp only [↓OF, NK, lb5]
 refine ops_s ?_
 simp only [↓OF, NK, neqS]
 refine ops_s ?_
 simp only [↓OF, NK, pickV_false]
 refine ops_s ?_
 simp only [↓OF, NK]
 refine ops_s ?_
 simp only [↓OF, NK, t2, fieldPtr_ptr, Nat.zero_add]
 refine ops_s ?_
 simp only [↓OF, NK, la6]
 refine ops_s ?_
 simp only [↓OF, NK, t3, fieldPtr_ptr, Nat.zero_add]
 refine ops_s ?_
 simp only [↓OF, NK, lb6]
 refine ops_s ?_
 simp only [↓OF, NK, neqS]
 refine ops_s ?_
 simp only [↓OF, NK, pickV_false]
 refine ops_s ?_
 simp only [↓OF, NK]
 refine ops_s ?_
 simp only [↓OF, NK, t2, fieldPtr_ptr, Nat.zero_add]
 refine ops_s ?_
 simp only [↓OF, NK, la7]
 refine ops_s ?_
 simp only [↓OF, NK, t3, fieldPtr_ptr, Nat.zero_add]
 refine ops_s ?_
 simp only [↓OF, NK, lb7]
 refine ops_s ?_
 simp only [↓OF, NK, neqS]
 refine ops_s ?_
 simp only [↓OF, NK, pickV_false]
 refine ops_s ?_
 simp only [↓OF, NK]
 refine ops_s ?_
 simp only [↓OF, NK, t2, fieldPtr_ptr, Nat.zero_add]
 refine ops_s ?_
 simp only [↓OF, NK, la2]
 refine ops_s ?_
 simp only [↓OF, NK, len1]
 refine ops_s ?_
 simp only [↓OF, NK, t3, fieldPtr_ptr, Nat.zero_add]
 refine ops_s ?_
 simp only [↓OF, NK, lb2]
 refine ops_s ?_
 simp only [↓OF, NK, len2]
 refine ops_s ?_
 simp only [↓OF, NK, neqS]
 refine ops_s ?_
 simp only [↓OF, NK, pickV_false]
 exact hK _ _ _ hQ
theorem law20 (L n : Nat) (hL : 2000 ≤ L) {q : RQ} {kv1 kv2 : Value} {h : H} (s1 : Strs h kv1 q.keys) (s2 : Strs h kv2 q.keys) (hk : q.keys.length ≤ 1000) :
   Sp (CF L (n + 1)) 20 [(cmdQ q kv1).v, (cmdQ q kv2).v] h fun r h' => r = .bool true ∧ Keep nobody h h' := by
 refine Sp.body f20 (by simp) ?_
 have hc1 : (Value.cells (cmdQ q kv1).v).toList = (cmdQ q kv1).cells := rfl
 have hc2 : (Value.cells (cmdQ q kv2).v).toList = (cmdQ q kv2).cells := rfl
 have k1 := Keep.new h (.rw (cmdQ q kv1).cells (some 26))
 have b1 := Has.new h (.rw (cmdQ q kv1).cells (some 26))
 unfold c20
 refine C.seq fun K hK => ?_
 simp only [seval, ↓EW, EV, r20_0, hc1]
 generalize h.new (.rw (cmdQ q kv1).cells (some 26)) = h1 at *
 have k2 := Keep.new h1 (.rw (cmdQ q kv2).cells (some 26))
 have b2 := Has.new h1 (.rw (cmdQ q kv2).cells (some 26))
 simp only [hc2]
 generalize h1.new (.rw (cmdQ q kv2).cells (some 26)) = h2 at *
 have b1' := b1.keep0 k2
 have k12 := k1.then k2
 have s1' := s1.keep0 k12
 have s2' := s2.keep0 k12
 generalize h.next = A at *
 generalize h1.next = B at *
 refine hK _ _ _ (C.seq (C.seq (reg20_1 b1' b2 s1' s2' (by simp only [seval, EV]) (by simp only [seval, EV]) ?_)))
 refine C.cf <| C.skip (C.seq (C.seq fun K hK => ?_))
 simp only [r20_3]
 refine hK _ _ _ (C.block ?_)
 refine (C.loop (L := L) (fun m tm' h' => ∃ i, m = q.keys.length - i ∧ i ≤ q.keys.length ∧ Keep nobody h2 h' ∧ tg tm' 2 = .pointer (some ⟨A, 0, none⟩) ∧ tg tm' 3 = .pointer (some ⟨B, 0, none⟩) ∧ tg tm' 5 = .int .i64 (i : Int)) q.keys.length (by omega)
   ⟨0, by omega, Nat.zero_le _, .refl _ _, by simp only [↓reduceIte, EV, Nat.reduceEqDiff], by simp only [↓reduceIte, EV, Nat.reduceEqDiff], by simp only [↓reduceIte, EV]; rfl⟩ fun m tm' h' hi => ?_ :
   C (loopB l20_8) _ L _ h2 fun e tm' h' => e = .exit 0 ∧ Keep nobody h2 h').mono ?_
 · obtain ⟨i, hm, hi, kk, t2, t3, t5⟩ := hi
   have lk1 : ∀ hx, Keep nobody h2 hx → ∀ s, loadOne hx (.pointer (some ⟨A, 2, s⟩)) = some kv1 := fun hx k s => loadOne_has (b1'.keep0 k) rfl
   have lk2 : ∀ hx, Keep nobody h2 hx → ∀ s, loadOne hx (.pointer (some ⟨B, 2, s⟩)) = some kv2 := fun hx k s => loadOne_has (b2.keep0 k) rfl
   unfold l20_8
   refine C.seq (C.seq fun K hK => ?_)
   by_cases g : (i : Int) < (q.keys.length : Int)
   · simp only [EV, r20_4, t2, lk1 h' kk, s1'.len, t5, dT g]
     refine hK _ _ _ (C.ct (C.skip (C.seq (C.block (C.seq fun K hK => ?_)))))
     obtain ⟨p, hp⟩ : ∃ p, q.keys[i]? = some p := ⟨_, List.getElem?_eq_getElem (by omega)⟩
     have kr := keep_room h' 11
     have kx := kk.then kr
     generalize hh : (⟨h'.objs, h'.next + 11⟩ : H) = hx at *
     obtain ⟨b, o, e1, l1⟩ := (s1'.keep0 kx).at hp
     obtain ⟨b', o', e2, l2⟩ := (s2'.keep0 kx).at hp
     have w1 : IntKind.i64.wrap ((i : Int) + 1) = ((i + 1 : Nat) : Int) := by
       rw [show (i : Int) + 1 = ((i + 1 : Nat) : Int) by omega]; exact wrap_lt _ (by omega)
     simp only [seval, EV, r20_6, hh, t2, t3, t5, lk1 hx kx, lk2 hx kx, e1, e2, l1, l2, neqV]
     refine hK _ _ _ (C.cf <| C.skip fun K hK => ?_)
     rw [box_f]
     simp only [seval, EV, r20_5, t5, w1]
     exact hK _ _ _ ⟨q.keys.length - (i + 1), by omega, i + 1, rfl, by omega, kx, by simp only [seval, EV, t2], by simp only [seval, EV, t3], by simp only [seval, EV]⟩
   · simp only [EV, r20_4, t2, lk1 h' kk, s1'.len, t5, dF g]
     refine hK _ _ _ (C.cf <| fun K hK => ?_)
     simp only [exitC]
     exact hK _ _ _ ⟨rfl, kk⟩
 · rintro e tm' h' ⟨rfl, kk⟩
   show C _ _ _ _ _ _
   refine C.seq fun K hK => ?_
   simp only [r20_8]
   exact hK _ _ _ (C.ret ⟨.inr rfl, [.bool true], by simp only [seval, EV, q20], rfl, k12.then kk⟩)
theorem reg14_1 (L n : Nat) (hL : 2000 ≤ L) {q : RQ} {kv1 kv2 : Value} {A B : Nat} {h : H} {tm : T Value} (h1 : Has h A (.rw (q.cells kv1) (some 28))) (h2 : Has h B (.rw (q.cells kv2) (some 28))) (s1 : Strs h kv1 q.keys) (s2 : Strs h kv2 q.keys) (hk : q.keys.length ≤ 1000) (t2 : tg tm 2 = .pointer (some ⟨A, 0, none⟩)) (t3 : tg tm 3 = .pointer (some ⟨B, 0, none⟩)) {Q : Ex → T Value → H → Prop}
   (hQ : ∀ hx, Keep nobody h hx → Q .norm (T.set tm 4 (.bool true)) hx) : C ⟨r14_1⟩ (CF L (n + 1)) L tm h Q := fun K hK => by
 rw [box_f]
 unfold r14_1
 have s20 := law20 L n hL s1 s2 hk
 have lga : loadAgg 8 h (.pointer (some ⟨A, 1, none⟩)) = some (cmdQ q kv1).v := loadAgg_has (o := 1) (n := 8) (cs := q.cells kv1) h1 rfl (by show 1 + 8 ≤ 13; omega)
 have lgb : loadAgg 8 h (.pointer (some ⟨B, 1, none⟩)) = some (cmdQ q kv2).v := loadAgg_has (o := 1) (n := 8) (cs := q.cells kv2) h2 rfl (by show 1 + 8 ≤ 13; omega)
 have la0 : loadOne h (.pointer (some ⟨A, 0, none⟩)) = some (.int .u8 q.kind) := loadOne_has h1 rfl
 have lb0 : loadOne h (.pointer (some ⟨B, 0, none⟩)) = some (.int .u8 q.kind) := loadOne_has h2 rfl
 have a9 : ∀ hx, Keep nobody h hx → loadOne hx (.pointer (some ⟨A, 9, none⟩)) = some (.int .i64 q.rten) := fun hx k => loadOne_has (h1.keep0 k) rfl
 have b9 : ∀ hx, Keep nobody h hx → loadOne hx (.pointer (some ⟨B, 9, none⟩)) = some (.int .i64 q.rten) := fun hx k => loadOne_has (h2.keep0 k) rfl
 have a10 : ∀ hx, Keep nobody h hx → loadOne hx (.pointer (some ⟨A, 10, none⟩)) = some (sv q.sec) := fun hx k => loadOne_has (h1.keep0 k) rfl
 have b10 : ∀ hx, Keep nobody h hx → loadOne hx (.pointer (some ⟨B, 10, none⟩)) = some (sv q.sec) := fun hx k => loadOne_has (h2.keep0 k) rfl
 have a11 : ∀ hx, Keep nobody h hx → loadOne hx (.pointer (some ⟨A, 11, none⟩)) = some (.bool q.on) := fun hx k => loadOne_has (h1.keep0 k) rfl
 have b11 : ∀ hx, Keep nobody h hx → loadOne hx (.pointer (some ⟨B, 11, none⟩)) = some (.bool q.on) := fun hx k => loadOne_has (h2.keep0 k) rfl
 have a12 : ∀ hx, Keep nobody h hx → loadOne hx (.pointer (some ⟨A, 12, none⟩)) = some (.bool q.close) := fun hx k => loadOne_has (h1.keep0 k) rfl
 have b12 : ∀ hx, Keep nobody h hx → loadOne hx (.pointer (some ⟨B, 12, none⟩)) = some (.bool q.close) := fun hx k => loadOne_has (h2.keep0 k) rfl
 try rw [bx]
 refine ops_s ?_
 simp only [↓OF, NK, t2, fieldPtr_ptr, Nat.zero_add]
 refine ops_s ?_
 simp only [↓OF, NK, la0]
 refine ops_s ?_
 simp only [↓OF, NK, t3, fieldPtr_ptr, Nat.zero_add]
 refine ops_s ?_
 simp only [↓OF, NK, lb0]
 refine ops_s ?_
 simp only [↓OF, NK, eqlS]
 refine ops_s ?_
 simp only [↓OF, NK]
 refine ops_s ?_
 simp only [↓OF, NK, t2, fieldPtr_ptr, Nat.zero_add]
 refine ops_s ?_
 simp only [↓OF, NK, lga]
 refine ops_s ?_
 simp only [↓OF, NK, t3, fieldPtr_ptr, Nat.zero_add]
 refine ops_s ?_
 simp only [↓OF, NK, lgb]
 refine ops_s ?_
 simp only [NK]
 refine s20 _ fun r hx hq => ?_
 obtain ⟨rfl, kx⟩ := hq
 have la9 := a9 hx kx
 have la10 := a10 hx kx
 have la11 := a11 hx kx
 have la12 := a12 hx kx
 have lb9 := b9 hx kx
 have lb10 := b10 hx kx
 have lb11 := b11 hx kx
 have lb12 := b12 hx kx
 try rw [bx]
 refine ops_s ?_
 simp only [↓OF, NK, pickV_true]
 refine ops_s ?_
 simp only [↓OF, NK]
 refine ops_s ?_
 simp only [↓OF, NK, t2, fieldPtr_ptr, Nat.zero_add]
 refine ops_s ?_
 simp only [↓OF, NK, la9]
 refine ops_s ?_
 simp only [↓OF, NK, t3, fieldPtr_ptr, Nat.zero_add]
 refine ops_s ?_
 simp only [↓OF, NK, lb9]
 refine ops_s ?_
 simp only [↓OF, NK, eqlS]
 refine ops_s ?_
 simp only [↓OF, NK, pickV_true]
 refine ops_s ?_
 simp only [↓OF, NK]
 refine ops_s ?_
 simp only [↓OF, NK, t2, fieldPtr_ptr, Nat.zero_add]
 refine ops_s ?_
 simp only [↓OF, NK, la10]
 refine ops_s ?_
 simp only [↓OF, NK, t3, fieldPtr_ptr, Nat.zero_add]
 refine ops_s ?_
 simp only [↓OF, NK, lb10]
 refine ops_s ?_
 simp only [↓OF, NK, eqlV]
 refine ops_s ?_
 simp only [↓OF, NK, pickV_true]
 refine ops_s ?_
 simp only [↓OF, NK]
 refine ops_s ?_
 simp only [↓OF, NK, t2, fieldPtr_ptr, Nat.zero_add]
 refine ops_s ?_
 simp only [↓OF, NK, la11]
 refine ops_s ?_
 simp only [↓OF, NK, t3, fieldPtr_ptr, Nat.zero_add]
 refine ops_s ?_
 simp only [↓OF, NK, lb11]
 refine ops_s ?_
 simp only [↓OF, NK, eqlB]
 refine ops_s ?_
 simp only [↓OF, NK, pickV_true]
 refine ops_s ?_
 simp only [↓OF, NK]
 refine ops_s ?_
 simp only [↓OF, NK, t2, fieldPtr_ptr, Nat.zero_add]
 refine ops_s ?_
 simp only [↓OF, NK, la12]
 refine ops_s ?_
 simp only [↓OF, NK, t3, fieldPtr_ptr, Nat.zero_add]
 refine ops_s ?_
 simp only [↓OF, NK, lb12]
 refine ops_s ?_
 simp only [↓OF, NK, eqlB]
 refine ops_s ?_
 simp only [↓OF, NK, pickV_true]
 refine ops_s ?_
 simp only [↓OF, NK]
 exact hK _ _ _ (hQ hx kx)
theorem law14 (L n : Nat) (hL : 2000 ≤ L) {q : RQ} {kv1 kv2 : Value} {h : H} (s1 : Strs h kv1 q.keys) (s2 : Strs h kv2 q.keys) (hk : q.keys.length ≤ 1000) :
   Sp (CF L (n + 2)) 14 [q.v kv1, q.v kv2] h fun r h' => r = .bool true ∧ Keep nobody h h' := by
 refine Sp.body f14 (by simp) ?_
 have hc1 : (Value.cells (q.v kv1)).toList = q.cells kv1 := rfl
 have hc2 : (Value.cells (q.v kv2)).toList = q.cells kv2 := rfl
 have k1 := Keep.new h (.rw (q.cells kv1) (some 28))
 have b1 := Has.new h (.rw (q.cells kv1) (some 28))
 unfold c14
 refine C.seq fun K hK => ?_
 simp only [seval, ↓EW, EV, r14_0, hc1]
 generalize h.new (.rw (q.cells kv1) (some 28)) = h1 at *
 have k2 := Keep.new h1 (.rw (q.cells kv2) (some 28))
 have b2 := Has.new h1 (.rw (q.cells kv2) (some 28))
 simp only [hc2]
 generalize h1.new (.rw (q.cells kv2) (some 28)) = h2 at *
 have k12 := k1.then k2
 refine hK _ _ _ (C.seq (reg14_1 L n hL (b1.keep0 k2) b2 (s1.keep0 k12) (s2.keep0 k12) hk (by simp only [seval, EV]) (by simp only [seval, EV]) fun hx kx => C.ret ⟨.inr rfl, [.bool true], by simp only [seval, EV, q14], rfl, k12.then kx⟩))
def PS.sum (s : PS) : Nat := s.keys.length + s.ws.length
theorem word_sum' (s : PS) : s.word.2.sum ≤ s.sum := by
 unfold PS.word PS.sum
 split
 · exact Nat.le_refl _
 · rename_i p r hws
   show s.keys.length + r.length ≤ s.keys.length + s.ws.length
   rw [hws, List.length_cons]; omega
theorem num_sum' (s : PS) (m : Nat) : (s.num m).2.sum ≤ s.sum := num_sum s m
theorem key_sum' (s : PS) : s.key.sum ≤ s.sum + 1 := key_sum s
theorem all_sum : ∀ (f : Nat) (s : PS), (PS.all f s).sum ≤ s.sum
 | 0, s => Nat.le_refl _
 | f + 1, s => by
   unfold PS.all
   split
   · exact Nat.le_refl _
   · rename_i h
     have := all_sum f s.key
     have h2 := key_ws h
     unfold PS.sum at this ⊢
     omega
theorem puts_sum (s : PS) : s.puts.sum ≤ s.sum + 1 :=
 Nat.le_trans (num_sum' s.key.flagsN.foN 512) (Nat.le_trans (num_sum' s.key.flagsN 1099511627776) (Nat.le_trans (num_sum' s.key 4294967295) (key_sum' s)))
theorem cmdL_sum : ∀ x ∈ cmdL, ∀ s : PS, (x.2 s).sum ≤ s.sum + 1 := by
 intro x hx s
 simp only [cmdL, List.mem_cons, List.not_mem_nil, or_false] at hx
 rcases hx with rfl | rfl | rfl | rfl | rfl | rfl | rfl | rfl | rfl | rfl | rfl | rfl | rfl | rfl | rfl
 · exact Nat.le_succ _
 · exact Nat.le_trans (num_sum' ({ s with kind := 1, ck := 9 } : PS).key 1099511627776) (key_sum' _)
 · exact Nat.le_trans (num_sum' ({ s with kind := 1, ck := 7 } : PS).key 18446744073709551615) (key_sum' _)
 · exact Nat.le_trans (num_sum' ({ s with kind := 1, ck := 6 } : PS).key 18446744073709551615) (key_sum' _)
 · exact Nat.le_trans (num_sum' ({ s with kind := 1, ck := 8 } : PS).key 512) (key_sum' _)
 · exact Nat.le_trans (num_sum' ({ s with kind := 1, ck := 5 } : PS).puts 18446744073709551615) (puts_sum _)
 · exact puts_sum ({ s with kind := 1, ck := 4 } : PS)
 · exact puts_sum ({ s with kind := 1, ck := 3 } : PS)
 · exact puts_sum ({ s with kind := 1, ck := 2 } : PS)
 · exact Nat.le_trans (all_sum _ _) (key_sum' ({ s with kind := 1, ck := 10 } : PS))
 · exact Nat.le_trans (all_sum _ _) (key_sum' ({ s with kind := 1, ck := 1 } : PS))
 · exact Nat.le_succ _
 · exact Nat.le_succ _
 · exact Nat.le_succ_of_le (word_sum' s)
 · exact Nat.le_succ_of_le (Nat.le_trans (word_sum' (s.num 3).2) (num_sum' s 3))
theorem lineP_keys (l : List UInt8) : (lineP l).1.keys.length ≤ l.length + 2 := by
 unfold lineP
 split
 · exact Nat.zero_le _
 · rename_i E e
   split
   · exact Nat.zero_le _
   · obtain ⟨x, hx, rfl⟩ := lookL_mem _ _ _ e
     have h1 := cmdL_sum x hx (PS.init l).word.2
     have h2 := word_sum' (PS.init l)
     have h3 := (cut_len l).1
     have h4 : (PS.init l).sum = (cutS l).length := Nat.zero_add _
     show (x.2 (PS.init l).word.2).keys.length ≤ _
     have h5 : (x.2 (PS.init l).word.2).keys.length ≤ (x.2 (PS.init l).word.2).sum := Nat.le_add_right _ _
     omega
theorem nextP_keys (b : List UInt8) : (nextP b).1.keys.length ≤ 1000 := by
 rcases crlf_cases b with hc | ⟨i, hc⟩
 · rw [nextP_neg hc]
   split <;> exact Nat.zero_le _
 · have h1 := (crlf_pos hc)
   have h2 : (b.take i).length ≤ 514 := by
     rw [List.length_take]
     have := h1.1
     omega
   have h3 := lineP_keys (b.take i)
   rw [nextP_pos hc]
   split
   · exact Nat.zero_le _
   · split
     · show (lineP (b.take i)).1.keys.length ≤ _; omega
     · split
       · exact Nat.zero_le _
       · split
         · exact Nat.zero_le _
         · show (lineP (b.take i)).1.keys.length ≤ _; omega
theorem t3 (x y z : Value) (i : Nat) : tupNth i (.tuple #[x, y, z]) = [x, y, z][i]? := tupNth_tuple i [x, y, z]
end Go.Proofs.YtilpiiafjehbnaaGreatDoor
set_option maxRecDepth 100000
namespace Go.Proofs.YtilpiiafjehbnaaGreatDoor
open Go.Ev Go.RowKit
theorem gor : NoGor Tryz.prog := noGor_of (by kernel_rfl)
theorem xok : XOK Tryz.prog outside := xok_index Tryz.func45 (by kernel_rfl) (by kernel_rfl) (by kernel_rfl) (by kernel_rfl) (xok_cons Tryz.func62 (by kernel_rfl) (by kernel_rfl) (by kernel_rfl) (xok_cons Tryz.func83 (by kernel_rfl) (by kernel_rfl) (by kernel_rfl) (xok_noZero (e := 5) (t := 34) (ps := #[3]) Tryz.func84 (by kernel_rfl) (by kernel_rfl) (by kernel_rfl) (by kernel_rfl) (by kernel_rfl) (xok_cons Tryz.func102 (by kernel_rfl) (by kernel_rfl) (by kernel_rfl) (xok_index Tryz.func111 (by kernel_rfl) (by kernel_rfl) (by kernel_rfl) (by kernel_rfl) (xok_cons Tryz.func122 (by kernel_rfl) (by kernel_rfl) (by kernel_rfl) (xok_nil)))))))
theorem u34 : Tryz.prog.underlying 34 = some (.slice 5) := by kernel_rfl
theorem u5 : Tryz.prog.underlying 5 = some (.int .u8) := by kernel_rfl
theorem u24 : Tryz.prog.underlying 24 = some (.int .u64) := by kernel_rfl
theorem s24 : Tryz.prog.cellsOf 24 = 1 := by kernel_rfl
theorem s5 : Tryz.prog.cellsOf 5 = 1 := by kernel_rfl
section
variable {H : Type} {enc : TypeId × Value → H}
theorem bytes_at {W : World} {n : Nat} {v : Value} {x : DataW H × List MemPlace} (hok : Value.okWide Tryz.prog W .any 0 34 v) (h : DataW.trod enc Tryz.prog W 0 (fun _ => true) true n 34 v.cells.toList = some x) :
   ∃ o : Option (List Value × CB), (∀ p, o = some p → RosOk W p) ∧ ∀ (B : Nat) (σ : Sg) (h0 : Ev.H), (∀ p, o = some p → Has h0 B (.ro p.1) ∧ σ B = some p.2) → ∃ (v' : Value) (l : List UInt8), Rd h0 v' l ∧ VR σ v' v := by
 have hok2 : Cell.ok Tryz.prog W .any 0 34 v := by
   unfold Value.okWide at hok
   rw [u34] at hok
   unfold Cell.okWide at hok
   rw [u34] at hok
   exact hok
 rcases DataW.trod_slice u34 h with ⟨e, _⟩ | ⟨a, len, cap, elems, rest, m', _, e, _, _, hlc, hcm, hlen, hel, _, _⟩
 · have hv : v = .slice none 0 0 := by
     cases v <;> simp [Value.cells] at e
     case slice => simp_all
     case agg => exfalso; unfold Cell.ok at hok2; rw [u34] at hok2; exact hok2
   subst hv
   exact ⟨none, (fun p h => by cases h), fun B σ h0 _ => ⟨.slice none 0 0, [], .inl ⟨rfl, rfl⟩, .slNil _ _⟩⟩
 · have hv : v = .slice (some a) len cap := by
     cases v <;> simp [Value.cells] at e
     case slice => simp_all
     case agg => exfalso; unfold Cell.ok at hok2; rw [u34] at hok2; exact hok2
   subst hv
   unfold Cell.ok at hok2
   rw [u34] at hok2
   obtain ⟨_, _, _, hspot, row, cells, hshape, _⟩ := hok2
   have hblk : a.block < W.heap.size := by
     unfold World.shape? at hshape
     split at hshape
     · rename_i c el _ hh
       exact (Array.getElem?_eq_some_iff.1 hh).1
     · cases hshape
   have hone : ∀ i : Fin len, ∃ y : UInt8, W.cells? 0 (a.add (i.val * 1)) 1 = some [bv y] := fun i => by
     have h1 := hel i.val i.isLt
     rw [s5, List.getElem?_eq_getElem (by omega)] at h1
     simp only [Option.bind_eq_some_iff] at h1
     obtain ⟨c5, h2, h3⟩ := h1
     obtain ⟨z, rfl, _, w⟩ := DataW.trod_int u5 h3
     have := bounds_u8 w
     refine ⟨UInt8.ofNat z.toNat, ?_⟩
     have hz : bv (UInt8.ofNat z.toNat) = .int .u8 z := by
       unfold bv
       congr 1
       rw [UInt8.toNat_ofNat_of_lt' (by simp [UInt8.size]; omega)]
       omega
     rw [hz]; exact h2
   obtain ⟨f, hf⟩ := Classical.axiomOfChoice hone
   let l := List.ofFn f
   have hil : l.length = len := by simp [l]
   have hcells : ∀ j v, (l.map bv)[j]? = some v → W.cell? ⟨a.block, a.off + j, none⟩ = some v ∧ cstOk v = true := fun j v hv => by
     rw [List.getElem?_map] at hv
     obtain ⟨y, hy, rfl⟩ := Option.map_eq_some_iff.1 hv
     have hlt : j < len := by
       by_cases hlt : j < len
       · exact hlt
       · rw [List.getElem?_eq_none (by omega)] at hy; cases hy
     have hy' : f ⟨j, hlt⟩ = y := by simpa [l, hlt] using hy
     have h2 := hf ⟨j, hlt⟩
     rw [hy'] at h2
     refine ⟨?_, rfl⟩
     have h3 := (World.cells?_some h2).2.2 0 (by omega)
     have e0 : [bv y][0]? = some (bv y) := rfl
     rw [e0] at h3
     rw [← h3]
     obtain ⟨ab, ao, asp⟩ := a
     simp only at hspot
     subst hspot
     simp only [Addr.add, Nat.mul_one]
     by_cases e1 : j = 0
     · simp [e1]
     · simp [e1]
   have hcO : cap < OPEN := by have := hcm; unfold maxLen at this; unfold OPEN; omega
   have hble : Nat.ble OPEN cap = false := by
     rw [Bool.eq_false_iff]; intro e; have := Nat.le_of_ble_eq_true e; omega
   refine ⟨some (l.map bv, ⟨a.block, a.off, 1 * len, 1⟩), fun p h => ?_, fun B σ h0 hB => ?_⟩
   · simp only [Option.some.injEq] at h; subst h; exact ⟨hblk, hcells⟩
   obtain ⟨hh, hσ⟩ := hB _ rfl
   have hV : VR σ (.slice (some ⟨B, 0, none⟩) len cap) (.slice (some a) len cap) := by
     have := VR.sl (σ := σ) B 0 len cap ⟨a.block, a.off, 1 * len, 1⟩ hσ hcO
     obtain ⟨ab, ao, asp⟩ := a
     simp only at hspot
     subst hspot
     exact this
   exact ⟨.slice (some ⟨B, 0, none⟩) len cap, l, .inr ⟨B, 0, cap, _, _, by rw [hil], hh, rfl, by simp, by rw [List.drop_zero, List.take_of_length_le (by simp)], .inr ⟨hble, by omega⟩⟩, hV⟩
end
theorem star : "*" ++ "errors.errorString" = "*errors.errorString" := by decide
theorem row162 (u : TypeId) (h : Tryz.prog.typeName? 3 u = some "*errors.errorString") : u = 162 :=
 Go.typeName_ptr_named (nm := "errors.errorString") (by rw [star]; kernel_rfl) (by kernel_rfl) (by decide) u (by rw [star]; exact h)
theorem u162 : Tryz.prog.underlying 162 = some (.pointer 164) := by kernel_rfl
noncomputable def msOf : Array (String × TypeId) := match Tryz.prog.underlying 77 with | some (.interface ms) => ms | _ => #[]
theorem u77 : Tryz.prog.underlying 77 = some (.interface msOf) := by kernel_rfl
theorem err_cell {n : String} {text : List UInt8} {r : List (String × DataW Unit)} {W : World} {g : Nat}
   (h : laidMet Tryz.prog ((n, .iface "*errors.errorString" (.ptr (.agg [.lit (.string text)]))) :: r) W)
   (hg : Tryz.prog.globalNamed n = some g) (ht : (Tryz.prog.globals[g]?).map (·.type) = some 77) :
   ∃ a : Addr, W.cell? ⟨g, 0, none⟩ = some (.iface 162 (.pointer (some a))) ∧ a.spot = none ∧ a.block < W.heap.size := by
 obtain ⟨ps, ⟨g0, t0, cs0, f0, p0, q0, hg0, ht0, hv0, hd0, _, e0⟩, _, hrows⟩ := h
 obtain rfl := Option.some.inj (hg.symm.trans hg0)
 obtain rfl := Option.some.inj (ht.symm.trans ht0)
 subst e0
 obtain ⟨l0⟩ := cs0
 have hi := u77
 obtain ⟨f1, u, v, rfl, hn, h1⟩ := iface_of_trod hi hd0
 obtain rfl := row162 u hn
 have hc : W.cell? ⟨g, 0, none⟩ = some (.iface 162 v) := by simpa using World.var?_cell hg0 hv0 0
 have ok : Value.okWide Tryz.prog W .any 0 162 v := (hrows g 0 (by simp [MemPlace.row])).2 162 v hc
 obtain ⟨f2, a, cs', q, hv, hcells, h2, _⟩ := ptr_of_trod u162 h1
 unfold Value.okWide at ok
 simp only [u162] at ok
 unfold Cell.okWide at ok
 simp only [u162] at ok
 have hv' : v = .pointer (some a) := by
   cases v <;> simp [Value.cells, Cell.ok] at ok hv
   subst hv
   rfl
 subst hv'
 unfold Cell.ok at ok
 rw [u162] at ok
 obtain ⟨_, hspot, row, cells, hshape, _⟩ := ok
 refine ⟨a, hc, hspot, ?_⟩
 unfold World.shape? at hshape
 split at hshape
 · rename_i c el _ hh
   exact (Array.getElem?_eq_some_iff.1 hh).1
 · cases hshape
theorem ros_relV {w : World} {bs : Ros} (hv : ∀ p, some p ∈ bs → p.2.blk < w.heap.size ∧ ∀ j v, p.1[j]? = some v → ∃ v', w.cell? ⟨p.2.blk, p.2.off + j, none⟩ = some v' ∧ VR (rosσ bs) v v') : Rel (rosσ bs) (rosH bs) w := by
 refine ⟨fun B hB => ?_, fun B c h => ?_, fun B x hx => ?_, fun B x B' x' c c' hx hm => ?_⟩
 · have hB : bs.length ≤ B := hB
   simp [rosσ, List.getElem?_eq_none hB]
 · simp only [rosσ] at h
   split at h
   · rename_i p hp
     simp only [Option.some.injEq] at h
     subst h
     exact (hv p (List.mem_of_getElem? hp)).1
   · cases h
 · obtain ⟨_, p, hp, rfl⟩ := rosO_get bs 0 B x hx
   rw [Nat.sub_zero] at hp
   exact ⟨p.2, (ros_has hp).2, fun j v h => (hv p (List.mem_of_getElem? hp)).2 j v h⟩
 · rw [ros_ro B x hx] at hm; cases hm
theorem ros_cst {w : World} {σ : Sg} {p : List Value × CB} (h : RosOk w p) : p.2.blk < w.heap.size ∧ ∀ j v, p.1[j]? = some v → ∃ v', w.cell? ⟨p.2.blk, p.2.off + j, none⟩ = some v' ∧ VR σ v v' :=
 ⟨h.1, fun j v hj => ⟨v, (h.2 j v hj).1, cstOk_vr (h.2 j v hj).2⟩⟩
theorem laid_var {P : Program} {w : World} {n : String} {d : DataW Unit} : ∀ {l : List (String × DataW Unit)} {ps : List MemPlace}, DataW.LaidVars P w l ps → (n, d) ∈ l →
   ∃ g t cs fuel p, P.globalNamed n = some g ∧ (P.globals[g]?).map (·.type) = some t ∧ w.var? P n = some cs ∧ DataW.trod (fun _ => ()) P w 0 (fun _ => true) false fuel t cs.toList = some (d, p)
 | [], _, _, hm => by cases hm
 | (n', d') :: r, ps, h, hm => by
   obtain ⟨g, t, cs, fuel, p, q, h1, h2, h3, h4, h5, _⟩ := h
   rcases List.mem_cons.1 hm with e | hm
   · cases e; exact ⟨g, t, cs, fuel, p, h1, h2, h3, h4⟩
   · exact laid_var h5 hm
def powZ : List Int := (List.range 20).map fun i => ((10 ^ i : Nat) : Int)
theorem powZ_lay : (Rows.laid_internal_strconv_uint64pow10 : DataW Unit) = .agg (powZ.map fun n => .lit (.int .u64 n)) := by kernel_rfl
theorem uPOW : Tryz.prog.underlying 122 = some (.array 20 24) := by kernel_rfl
theorem pow_cell {W : World} {l : List (String × DataW Unit)} (hl : (l.all fun x => x.2.handleName?.isNone) = true) (hm : ("internal/strconv.uint64pow10", Rows.laid_internal_strconv_uint64pow10) ∈ l) (h : laidMetH Tryz.prog l W) (r : Nat) (hr : r < 20) : W.cell? ⟨1, r, none⟩ = some (.int .u64 ((10 ^ r : Nat) : Int)) := by
 rw [MakeChecks.laidMetH_plain _ _ _ hl] at h
 obtain ⟨ps, hv, _, _⟩ := h
 obtain ⟨g, t, cs, fuel, p, hg, ht, hv, hd⟩ := laid_var hv hm
 obtain rfl := Option.some.inj ((show Tryz.prog.globalNamed "internal/strconv.uint64pow10" = some 1 by kernel_rfl).symm.trans hg)
 obtain rfl := Option.some.inj ((show (Tryz.prog.globals[1]?).map (·.type) = some 122 by kernel_rfl).symm.trans ht)
 obtain ⟨xs, m, _, ex, _, hl, hel⟩ := DataW.trod_array uPOW hd
 have hE := hel r hr
 rw [s24, Nat.mul_one, List.getElem?_eq_getElem (by omega)] at hE
 obtain ⟨z, e1, e2, _⟩ := DataW.trod_int u24 hE
 have hlen : powZ.length = 20 := by simp [powZ]
 rw [powZ_lay] at ex
 have e3 : (xs.map (·.1)) = powZ.map fun n => .lit (.int .u64 n) := (DataW.agg.inj (Prod.mk.inj ex).1).symm
 have e4 : (xs.map (·.1))[r]? = (powZ.map fun n => (DataW.lit (.int .u64 n) : DataW Unit))[r]? := by rw [e3]
 rw [List.getElem?_map, List.getElem?_map, List.getElem?_eq_getElem (by omega : r < xs.length), List.getElem?_eq_getElem (by omega : r < powZ.length), e2] at e4
 have hz : z = ((10 ^ r : Nat) : Int) := by
   simp only [Option.map_some, Option.some.injEq, DataW.lit.injEq, Lit.int.injEq, true_and] at e4
   rw [e4]
   unfold powZ
   rw [List.getElem_map, List.getElem_range]
 rw [World.var?_cell hg hv r, ← hz]
 have : cs.toList[r]? = some (.int .u64 z) := by
   have h0 : ((cs.toList.drop r).take 1)[0]? = some (.int .u64 z) := by rw [e1]; rfl
   simpa using h0
 simpa using this
theorem pow_ros {W : World} (hc : ∀ r, r < 20 → W.cell? ⟨1, r, none⟩ = some (.int .u64 ((10 ^ r : Nat) : Int))) : RosOk W (powC, ⟨1, 0, 0, 0⟩) := by
 have hb := World.block_lt_of_cell? W _ (hc 0 (by omega))
 refine ⟨hb, fun j v hj => ?_⟩
 have hj' : j < 20 := by
   have := (List.getElem?_eq_some_iff.1 hj).1
   simpa [powC] using this
 rw [powC_at hj'] at hj
 cases hj
 exact ⟨by simpa using hc j hj', rfl⟩
def glZ (m : Int) (a : Addr) : Ros := [some ([.int .i64 m], ⟨0, 0, 0, 0⟩), some (powC, ⟨1, 0, 0, 0⟩), some ([], ⟨2, 0, 0, 0⟩), some ([], ⟨3, 0, 0, 0⟩), some ([], ⟨4, 0, 0, 0⟩), some ([], ⟨5, 0, 0, 0⟩), some ([], ⟨6, 0, 0, 0⟩), some ([.iface 162 (.pointer (some ⟨8, 0, none⟩))], ⟨7, 0, 0, 0⟩), some ([], ⟨a.block, a.off, 0, 0⟩)]
structure GlobZ (W : World) (m : Int) (a : Addr) : Prop where
 c0 : W.cell? ⟨0, 0, none⟩ = some (.int .i64 m)
 pw : ∀ r, r < 20 → W.cell? ⟨1, r, none⟩ = some (.int .u64 ((10 ^ r : Nat) : Int))
 c7 : W.cell? ⟨7, 0, none⟩ = some (.iface 162 (.pointer (some a)))
 sp : a.spot = none
 lt : a.block < W.heap.size
theorem glZ_rel {W : World} {m : Int} {a : Addr} (z : GlobZ W m a) (bs : Ros) (hv : ∀ p, some p ∈ bs → RosOk W p) :
   Rel (rosσ (glZ m a ++ bs)) (rosH (glZ m a ++ bs)) W := by
 obtain ⟨h0, hc, h5, hs, hb⟩ := z
 have l5 := World.block_lt_of_cell? W _ h5
 have l5' : 7 < W.heap.size := l5
 have e6 : rosσ (glZ m a ++ bs) 8 = some ⟨a.block, a.off, 0, 0⟩ := rfl
 refine ros_relV fun p hp => ?_
 rcases List.mem_append.1 hp with hp | hp
 · simp only [glZ, List.mem_cons, List.not_mem_nil, or_false, Option.some.injEq] at hp
   rcases hp with rfl | rfl | rfl | rfl | rfl | rfl | rfl | rfl | rfl
   · refine ⟨by show 0 < _; omega, fun j v hj => ?_⟩
     match j, hj with
     | 0, hj => simp at hj; subst hj; exact ⟨_, h0, .int _ _⟩
     | j + 1, hj => simp at hj
   · exact ros_cst (pow_ros hc)
   · exact ⟨by show 2 < _; omega, fun j v hj => by cases hj⟩
   · exact ⟨by show 3 < _; omega, fun j v hj => by cases hj⟩
   · exact ⟨by show 4 < _; omega, fun j v hj => by cases hj⟩
   · exact ⟨by show 5 < _; omega, fun j v hj => by cases hj⟩
   · exact ⟨by show 6 < _; omega, fun j v hj => by cases hj⟩
   · refine ⟨by show 7 < _; omega, fun j v hj => ?_⟩
     match j, hj with
     | 0, hj =>
       simp at hj; subst hj
       refine ⟨_, h5, .iface _ _ _ ?_⟩
       have := VR.ptr (σ := rosσ (glZ m a ++ bs)) 8 0 _ e6
       obtain ⟨ab, ao, asp⟩ := a
       simp only at hs
       subst hs
       exact this
     | j + 1, hj => simp at hj
   · exact ⟨hb, fun j v hj => by cases hj⟩
 · exact ros_cst (hv p hp)
theorem err_ok8 : ErrC (.iface 162 (.pointer (some ⟨8, 0, none⟩))) := ⟨rfl, rfl, by decide⟩
theorem glZ_glob (m : Int) (a : Addr) (bs : Ros) : Glob (rosσ (glZ m a ++ bs)) NG := fun g hg => by
 have hg' : g < 8 := hg
 rcases (show g = 0 ∨ g = 1 ∨ g = 2 ∨ g = 3 ∨ g = 4 ∨ g = 5 ∨ g = 6 ∨ g = 7 by omega) with rfl | rfl | rfl | rfl | rfl | rfl | rfl | rfl <;> exact ⟨_, rfl, rfl, rfl⟩
theorem glZ_env (m : Int) (a : Addr) (bs : Ros) : Env0 (.iface 162 (.pointer (some ⟨8, 0, none⟩))) (rosH (glZ m a ++ bs)) ∧ 7 < (rosH (glZ m a ++ bs)).next ∧ Has (rosH (glZ m a ++ bs)) 0 (.ro [.int .i64 m]) := by
 have g0 := ros_has (bs := glZ m a ++ bs) (B := 0) (p := ([.int .i64 m], ⟨0, 0, 0, 0⟩)) rfl
 have g1 := ros_has (bs := glZ m a ++ bs) (B := 1) (p := (powC, ⟨1, 0, 0, 0⟩)) rfl
 have g7 := ros_has (bs := glZ m a ++ bs) (B := 7) (p := ([.iface 162 (.pointer (some ⟨8, 0, none⟩))], ⟨7, 0, 0, 0⟩)) rfl
 exact ⟨⟨err_ok8, g7.1, g1.1⟩, g7.1.1, g0.1⟩
end Go.Proofs.YtilpiiafjehbnaaGreatDoor
