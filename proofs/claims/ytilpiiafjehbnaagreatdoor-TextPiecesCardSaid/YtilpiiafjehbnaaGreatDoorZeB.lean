import Derived.Test.YtilpiiafjehbnaaGreatDoorZcW
set_option linter.unusedSimpArgs false
set_option linter.unusedVariables false
namespace Go.Proofs.YtilpiiafjehbnaaGreatDoor
open Go.Ev
theorem crlf_first {b : List UInt8} {j : Nat} (hj : At b j) (h5 : j ≤ 512) (h : ∀ i, i < j → ¬ At b i) : crlf (b.take 514) = (j : Int) := by
 have ht : At (b.take 514) j := At.take.2 ⟨hj, by omega⟩
 rcases crlf_spec (b.take 514) with ⟨h1, h2⟩ | ⟨i, h1, h2, h3⟩
 · exact absurd ht (h2 j)
 · obtain ⟨h4, h5'⟩ := At.take.1 h2
   have : i = j := by
     by_cases e : i < j
     · exact absurd h4 (h i e)
     · by_cases e2 : j < i
       · exact absurd ht (h3 j e2)
       · omega
   rw [h1, this]
theorem neqS (t : TypeId) (c : Bool) (k : IntKind) (x : Int) : binV Tryz.prog .neq t c (.int k x) (.int k x) = some (.bool false) := by rw [binV_neq, dT rfl]; rfl
theorem eqlS (t : TypeId) (c : Bool) (k : IntKind) (x : Int) : binV Tryz.prog .eql t c (.int k x) (.int k x) = some (.bool true) := by rw [binV_eql, dT rfl]
theorem neqV (t : TypeId) (c : Bool) (w : List UInt8) : binV Tryz.prog .neq t c (sv w) (sv w) = some (.bool false) := by
 have := sv_neq t c w w
 rw [dT rfl] at this
 exact this
theorem eqlV (t : TypeId) (c : Bool) (w : List UInt8) : binV Tryz.prog .eql t c (sv w) (sv w) = some (.bool true) := by
 have := sv_eql t c w w
 rw [dT rfl] at this
 exact this
theorem eqlB (b : Bool) : binV Tryz.prog .eql 4 false (.bool b) (.bool b) = some (.bool true) := by rw [bool_eq]; cases b <;> rfl
theorem pickV_true (a b : Value) : pickV (.bool true) a b = some a := rfl
def cmdQ (q : RQ) (kv : Value) : Cmd := ⟨q.ck, 0, kv, ⟨q.val.toArray⟩, q.flags, q.fo, q.uniq, q.by', q.keys⟩
theorem reg20_1 {call : CallT} {L : Nat} {q : RQ} {kv1 kv2 : Value} {A B : Nat} {h : H} {tm : T Value} (h1 : Has h A (.rw (cmdQ q kv1).cells (some 26))) (h2 : Has h B (.rw (cmdQ q kv2).cells (some 26))) (s1 : Strs h kv1 q.keys) (s2 : Strs h kv2 q.keys) (t2 : tg tm 2 = .pointer (some ⟨A, 0, none⟩)) (t3 : tg tm 3 = .pointer (some ⟨B, 0, none⟩)) {Q : Ex → T Value → H → Prop}
   (hQ : Q .norm (T.set tm 61 (.bool false)) h) : C ⟨r20_1⟩ call L tm h Q := fun K hK => by
 rw [box_f]
 unfold r20_1
 have len1 := s1.len
 have len2 := s2.len
 have la0 : loadOne h (.pointer (some ⟨A, 0, none⟩)) = some (.int .u8 q.ck) := loadOne_has h1 rfl
 have lb0 : loadOne h (.pointer (some ⟨B, 0, none⟩)) = some (.int .u8 q.ck) := loadOne_has h2 rfl
 have la1 : loadOne h (.pointer (some ⟨A, 1, none⟩)) = some (.int .i64 0) := loadOne_has h1 rfl
 have lb1 : loadOne h (.pointer (some ⟨B, 1, none⟩)) = some (.int .i64 0) := loadOne_has h2 rfl
 have la2 : loadOne h (.pointer (some ⟨A, 2, none⟩)) = some (kv1) := loadOne_has h1 rfl
 have lb2 : loadOne h (.pointer (some ⟨B, 2, none⟩)) = some (kv2) := loadOne_has h2 rfl
 have la3 : loadOne h (.pointer (some ⟨A, 3, none⟩)) = some (sv q.val) := loadOne_has h1 rfl
 have lb3 : loadOne h (.pointer (some ⟨B, 3, none⟩)) = some (sv q.val) := loadOne_has h2 rfl
 have la4 : loadOne h (.pointer (some ⟨A, 4, none⟩)) = some (.int .u32 q.flags) := loadOne_has h1 rfl
 have lb4 : loadOne h (.pointer (some ⟨B, 4, none⟩)) = some (.int .u32 q.flags) := loadOne_has h2 rfl
 have la5 : loadOne h (.pointer (some ⟨A, 5, none⟩)) = some (.int .i64 q.fo) := loadOne_has h1 rfl
 have lb5 : loadOne h (.pointer (some ⟨B, 5, none⟩)) = some (.int .i64 q.fo) := loadOne_has h2 rfl
 have la6 : loadOne h (.pointer (some ⟨A, 6, none⟩)) = some (.int .u64 q.uniq) := loadOne_has h1 rfl
 have lb6 : loadOne h (.pointer (some ⟨B, 6, none⟩)) = some (.int .u64 q.uniq) := loadOne_has h2 rfl
 have la7 : loadOne h (.pointer (some ⟨A, 7, none⟩)) = some (.int .u64 q.by') := loadOne_has h1 rfl
 have lb7 : loadOne h (.pointer (some ⟨B, 7, none⟩)) = some (.int .u64 q.by') := loadOne_has h2 rfl
 try rw [bx]
 refine ops_s ?_
 simp only [↓OF, NK, t2, fieldPtr_ptr, Nat.zero_add]
 refine ops_s ?_
 simp only [↓OF, NK, la0]
 refine ops_s ?_
 simp only [↓OF, NK, t3, fieldPtr_ptr, Nat.zero_add]
 refine ops_s ?_
 simp only [↓OF, NK, lb0]
 refine ops_s ?_
 simp only [↓OF, NK, neqS]
 refine ops_s ?_
 simp only [↓OF, NK]
 refine ops_s ?_
 simp only [↓OF, NK, t2, fieldPtr_ptr, Nat.zero_add]
 refine ops_s ?_
 simp only [↓OF, NK, la1]
 refine ops_s ?_
 simp only [↓OF, NK, t3, fieldPtr_ptr, Nat.zero_add]
 refine ops_s ?_
 simp only [↓OF, NK, lb1]
 refine ops_s ?_
 simp only [↓OF, NK, neqS]
 refine ops_s ?_
 simp only [↓OF, NK, pickV_false]
 refine ops_s ?_
 simp only [↓OF, NK]
 refine ops_s ?_
 simp only [↓OF, NK, t2, fieldPtr_ptr, Nat.zero_add]
 refine ops_s ?_
 simp only [↓OF, NK, la3]
 refine ops_s ?_
 simp only [↓OF, NK, t3, fieldPtr_ptr, Nat.zero_add]
 refine ops_s ?_
 simp only [↓OF, NK, lb3]
 refine ops_s ?_
 simp only [↓OF, NK, neqV]
 refine ops_s ?_
 simp only [↓OF, NK, pickV_false]
 refine ops_s ?_
 simp only [↓OF, NK]
 refine ops_s ?_
 simp only [↓OF, NK, t2, fieldPtr_ptr, Nat.zero_add]
 refine ops_s ?_
 simp only [↓OF, NK, la4]
 refine ops_s ?_
 simp only [↓OF, NK, t3, fieldPtr_ptr, Nat.zero_add]
 refine ops_s ?_
 simp only [↓OF, NK, lb4]
 refine ops_s ?_
 simp only [↓OF, NK, neqS]
 refine ops_s ?_
 simp only [↓OF, NK, pickV_false]
 refine ops_s ?_
 simp only [↓OF, NK]
 refine ops_s ?_
 simp only [↓OF, NK, t2, fieldPtr_ptr, Nat.zero_add]
 refine ops_s ?_
 simp only [↓OF, NK, la5]
 refine ops_s ?_
 simp only [↓OF, NK, t3, fieldPtr_ptr, Nat.zero_add]
 refine ops_s ?_
 simp only [↓OF, NK, lb5]
 refine ops_s ?_
 simp only [↓OF, NK, neqS]
 refine ops_s ?_
 simp only [↓OF, NK, pickV_false]
 refine ops_s ?_
 simp only [↓OF, NK]
 refine ops_s ?_
 simp only [↓OF, NK, t2, fieldPtr_ptr, Nat.zero_add]
 refine ops_s ?_
 simp only [↓OF, NK, la6]
 refine ops_s ?_
 simp only [↓OF, NK, t3, fieldPtr_ptr, Nat.zero_add]
 refine ops_s ?_
 simp only [↓OF, NK, lb6]
 refine ops_s ?_
 simp only [↓OF, NK, neqS]
 refine ops_s ?_
 simp only [↓OF, NK, pickV_false]
 refine ops_s ?_
 simp only [↓OF, NK]
 refine ops_s ?_
 simp only [↓OF, NK, t2, fieldPtr_ptr, Nat.zero_add]
 refine ops_s ?_
 simp only [↓OF, NK, la7]
 refine ops_s ?_
 simp only [↓OF, NK, t3, fieldPtr_ptr, Nat.zero_add]
 refine ops_s ?_
 simp only [↓OF, NK, lb7]
 refine ops_s ?_
 simp only [↓OF, NK, neqS]
 refine ops_s ?_
 simp only [↓OF, NK, pickV_false]
 refine ops_s ?_
 simp only [↓OF, NK]
 refine ops_s ?_
 simp only [↓OF, NK, t2, fieldPtr_ptr, Nat.zero_add]
 refine ops_s ?_
 simp only [↓OF, NK, la2]
 refine ops_s ?_
 simp only [↓OF, NK, len1]
 refine ops_s ?_
 simp only [↓OF, NK, t3, fieldPtr_ptr, Nat.zero_add]
 refine ops_s ?_
 simp only [↓OF, NK, lb2]
 refine ops_s ?_
 simp only [↓OF, NK, len2]
 refine ops_s ?_
 simp only [↓OF, NK, neqS]
 refine ops_s ?_
 simp only [↓OF, NK, pickV_false]
 exact hK _ _ _ hQ
theorem law20 (L n : Nat) (hL : 2000 ≤ L) {q : RQ} {kv1 kv2 : Value} {h : H} (s1 : Strs h kv1 q.keys) (s2 : Strs h kv2 q.keys) (hk : q.keys.length ≤ 1000) :
   Sp (CF L (n + 1)) 20 [(cmdQ q kv1).v, (cmdQ q kv2).v] h fun r h' => r = .bool true ∧ Keep nobody h h' := by
 refine Sp.body f20 (by simp) ?_
 have hc1 : (Value.cells (cmdQ q kv1).v).toList = (cmdQ q kv1).cells := rfl
 have hc2 : (Value.cells (cmdQ q kv2).v).toList = (cmdQ q kv2).cells := rfl
 have k1 := Keep.new h (.rw (cmdQ q kv1).cells (some 26))
 have b1 := Has.new h (.rw (cmdQ q kv1).cells (some 26))
 unfold c20
 refine C.seq fun K hK => ?_
 simp only [seval, ↓EW, EV, r20_0, hc1]
 generalize h.new (.rw (cmdQ q kv1).cells (some 26)) = h1 at *
 have k2 := Keep.new h1 (.rw (cmdQ q kv2).cells (some 26))
 have b2 := Has.new h1 (.rw (cmdQ q kv2).cells (some 26))
 simp only [hc2]
 generalize h1.new (.rw (cmdQ q kv2).cells (some 26)) = h2 at *
 have b1' := b1.keep0 k2
 have k12 := k1.then k2
 have s1' := s1.keep0 k12
 have s2' := s2.keep0 k12
 generalize h.next = A at *
 generalize h1.next = B at *
 refine hK _ _ _ (C.seq (C.seq (reg20_1 b1' b2 s1' s2' (by simp only [seval, EV]) (by simp only [seval, EV]) ?_)))
 refine C.cf <| C.skip (C.seq (C.seq fun K hK => ?_))
 simp only [r20_3]
 refine hK _ _ _ (C.block ?_)
 refine (C.loop (L := L) (fun m tm' h' => ∃ i, m = q.keys.length - i ∧ i ≤ q.keys.length ∧ Keep nobody h2 h' ∧ tg tm' 2 = .pointer (some ⟨A, 0, none⟩) ∧ tg tm' 3 = .pointer (some ⟨B, 0, none⟩) ∧ tg tm' 5 = .int .i64 (i : Int)) q.keys.length (by omega)
   ⟨0, by omega, Nat.zero_le _, .refl _ _, by simp only [↓reduceIte, EV, Nat.reduceEqDiff], by simp only [↓reduceIte, EV, Nat.reduceEqDiff], by simp only [↓reduceIte, EV]; rfl⟩ fun m tm' h' hi => ?_ :
   C (loopB l20_8) _ L _ h2 fun e tm' h' => e = .exit 0 ∧ Keep nobody h2 h').mono ?_
 · obtain ⟨i, hm, hi, kk, t2, t3, t5⟩ := hi
   have lk1 : ∀ hx, Keep nobody h2 hx → ∀ s, loadOne hx (.pointer (some ⟨A, 2, s⟩)) = some kv1 := fun hx k s => loadOne_has (b1'.keep0 k) rfl
   have lk2 : ∀ hx, Keep nobody h2 hx → ∀ s, loadOne hx (.pointer (some ⟨B, 2, s⟩)) = some kv2 := fun hx k s => loadOne_has (b2.keep0 k) rfl
   unfold l20_8
   refine C.seq (C.seq fun K hK => ?_)
   by_cases g : (i : Int) < (q.keys.length : Int)
   · simp only [EV, r20_4, t2, lk1 h' kk, s1'.len, t5, dT g]
     refine hK _ _ _ (C.ct (C.skip (C.seq (C.block (C.seq fun K hK => ?_)))))
     obtain ⟨p, hp⟩ : ∃ p, q.keys[i]? = some p := ⟨_, List.getElem?_eq_getElem (by omega)⟩
     have kr := keep_room h' 11
     have kx := kk.then kr
     generalize hh : (⟨h'.objs, h'.next + 11⟩ : H) = hx at *
     obtain ⟨b, o, e1, l1⟩ := (s1'.keep0 kx).at hp
     obtain ⟨b', o', e2, l2⟩ := (s2'.keep0 kx).at hp
     have w1 : IntKind.i64.wrap ((i : Int) + 1) = ((i + 1 : Nat) : Int) := by
       rw [show (i : Int) + 1 = ((i + 1 : Nat) : Int) by omega]; exact wrap_lt _ (by omega)
     simp only [seval, EV, r20_6, hh, t2, t3, t5, lk1 hx kx, lk2 hx kx, e1, e2, l1, l2, neqV]
     refine hK _ _ _ (C.cf <| C.skip fun K hK => ?_)
     rw [box_f]
     simp only [seval, EV, r20_5, t5, w1]
     exact hK _ _ _ ⟨q.keys.length - (i + 1), by omega, i + 1, rfl, by omega, kx, by simp only [seval, EV, t2], by simp only [seval, EV, t3], by simp only [seval, EV]⟩
   · simp only [EV, r20_4, t2, lk1 h' kk, s1'.len, t5, dF g]
     refine hK _ _ _ (C.cf <| fun K hK => ?_)
     simp only [exitC]
     exact hK _ _ _ ⟨rfl, kk⟩
 · rintro e tm' h' ⟨rfl, kk⟩
   show C _ _ _ _ _ _
   refine C.seq fun K hK => ?_
   simp only [r20_8]
   exact hK _ _ _ (C.ret ⟨.inr rfl, [.bool true], by simp only [seval, EV, q20], rfl, k12.then kk⟩)
theorem reg14_1 (L n : Nat) (hL : 2000 ≤ L) {q : RQ} {kv1 kv2 : Value} {A B : Nat} {h : H} {tm : T Value} (h1 : Has h A (.rw (q.cells kv1) (some 28))) (h2 : Has h B (.rw (q.cells kv2) (some 28))) (s1 : Strs h kv1 q.keys) (s2 : Strs h kv2 q.keys) (hk : q.keys.length ≤ 1000) (t2 : tg tm 2 = .pointer (some ⟨A, 0, none⟩)) (t3 : tg tm 3 = .pointer (some ⟨B, 0, none⟩)) {Q : Ex → T Value → H → Prop}
   (hQ : ∀ hx, Keep nobody h hx → Q .norm (T.set tm 4 (.bool true)) hx) : C ⟨r14_1⟩ (CF L (n + 1)) L tm h Q := fun K hK => by
 rw [box_f]
 unfold r14_1
 have s20 := law20 L n hL s1 s2 hk
 have lga : loadAgg 8 h (.pointer (some ⟨A, 1, none⟩)) = some (cmdQ q kv1).v := loadAgg_has (o := 1) (n := 8) (cs := q.cells kv1) h1 rfl (by show 1 + 8 ≤ 13; omega)
 have lgb : loadAgg 8 h (.pointer (some ⟨B, 1, none⟩)) = some (cmdQ q kv2).v := loadAgg_has (o := 1) (n := 8) (cs := q.cells kv2) h2 rfl (by show 1 + 8 ≤ 13; omega)
 have la0 : loadOne h (.pointer (some ⟨A, 0, none⟩)) = some (.int .u8 q.kind) := loadOne_has h1 rfl
 have lb0 : loadOne h (.pointer (some ⟨B, 0, none⟩)) = some (.int .u8 q.kind) := loadOne_has h2 rfl
 have a9 : ∀ hx, Keep nobody h hx → loadOne hx (.pointer (some ⟨A, 9, none⟩)) = some (.int .i64 q.rten) := fun hx k => loadOne_has (h1.keep0 k) rfl
 have b9 : ∀ hx, Keep nobody h hx → loadOne hx (.pointer (some ⟨B, 9, none⟩)) = some (.int .i64 q.rten) := fun hx k => loadOne_has (h2.keep0 k) rfl
 have a10 : ∀ hx, Keep nobody h hx → loadOne hx (.pointer (some ⟨A, 10, none⟩)) = some (sv q.sec) := fun hx k => loadOne_has (h1.keep0 k) rfl
 have b10 : ∀ hx, Keep nobody h hx → loadOne hx (.pointer (some ⟨B, 10, none⟩)) = some (sv q.sec) := fun hx k => loadOne_has (h2.keep0 k) rfl
 have a11 : ∀ hx, Keep nobody h hx → loadOne hx (.pointer (some ⟨A, 11, none⟩)) = some (.bool q.on) := fun hx k => loadOne_has (h1.keep0 k) rfl
 have b11 : ∀ hx, Keep nobody h hx → loadOne hx (.pointer (some ⟨B, 11, none⟩)) = some (.bool q.on) := fun hx k => loadOne_has (h2.keep0 k) rfl
 have a12 : ∀ hx, Keep nobody h hx → loadOne hx (.pointer (some ⟨A, 12, none⟩)) = some (.bool q.close) := fun hx k => loadOne_has (h1.keep0 k) rfl
 have b12 : ∀ hx, Keep nobody h hx → loadOne hx (.pointer (some ⟨B, 12, none⟩)) = some (.bool q.close) := fun hx k => loadOne_has (h2.keep0 k) rfl
 try rw [bx]
 refine ops_s ?_
 simp only [↓OF, NK, t2, fieldPtr_ptr, Nat.zero_add]
 refine ops_s ?_
 simp only [↓OF, NK, la0]
 refine ops_s ?_
 simp only [↓OF, NK, t3, fieldPtr_ptr, Nat.zero_add]
 refine ops_s ?_
 simp only [↓OF, NK, lb0]
 refine ops_s ?_
 simp only [↓OF, NK, eqlS]
 refine ops_s ?_
 simp only [↓OF, NK]
 refine ops_s ?_
 simp only [↓OF, NK, t2, fieldPtr_ptr, Nat.zero_add]
 refine ops_s ?_
 simp only [↓OF, NK, lga]
 refine ops_s ?_
 simp only [↓OF, NK, t3, fieldPtr_ptr, Nat.zero_add]
 refine ops_s ?_
 simp only [↓OF, NK, lgb]
 refine ops_s ?_
 simp only [NK]
 refine s20 _ fun r hx hq => ?_
 obtain ⟨rfl, kx⟩ := hq
 have la9 := a9 hx kx
 have la10 := a10 hx kx
 have la11 := a11 hx kx
 have la12 := a12 hx kx
 have lb9 := b9 hx kx
 have lb10 := b10 hx kx
 have lb11 := b11 hx kx
 have lb12 := b12 hx kx
 try rw [bx]
 refine ops_s ?_
 simp only [↓OF, NK, pickV_true]
 refine ops_s ?_
 simp only [↓OF, NK]
 refine ops_s ?_
 simp only [↓OF, NK, t2, fieldPtr_ptr, Nat.zero_add]
 refine ops_s ?_
 simp only [↓OF, NK, la9]
 refine ops_s ?_
 simp only [↓OF, NK, t3, fieldPtr_ptr, Nat.zero_add]
 refine ops_s ?_
 simp only [↓OF, NK, lb9]
 refine ops_s ?_
 simp only [↓OF, NK, eqlS]
 refine ops_s ?_
 simp only [↓OF, NK, pickV_true]
 refine ops_s ?_
 simp only [↓OF, NK]
 refine ops_s ?_
 simp only [↓OF, NK, t2, fieldPtr_ptr, Nat.zero_add]
 refine ops_s ?_
 simp only [↓OF, NK, la10]
 refine ops_s ?_
 simp only [↓OF, NK, t3, fieldPtr_ptr, Nat.zero_add]
 refine ops_s ?_
 simp only [↓OF, NK, lb10]
 refine ops_s ?_
 simp only [↓OF, NK, eqlV]
 refine ops_s ?_
 simp only [↓OF, NK, pickV_true]
 refine ops_s ?_
 simp only [↓OF, NK]
 refine ops_s ?_
 simp only [↓OF, NK, t2, fieldPtr_ptr, Nat.zero_add]
 refine ops_s ?_
 simp only [↓OF, NK, la11]
 refine ops_s ?_
 simp only [↓OF, NK, t3, fieldPtr_ptr, Nat.zero_add]
 refine ops_s ?_
 simp only [↓OF, NK, lb11]
 refine ops_s ?_
 simp only [↓OF, NK, eqlB]
 refine ops_s ?_
 simp only [↓OF, NK, pickV_true]
 refine ops_s ?_
 simp only [↓OF, NK]
 refine ops_s ?_
 simp only [↓OF, NK, t2, fieldPtr_ptr, Nat.zero_add]
 refine ops_s ?_
 simp only [↓OF, NK, la12]
 refine ops_s ?_
 simp only [↓OF, NK, t3, fieldPtr_ptr, Nat.zero_add]
 refine ops_s ?_
 simp only [↓OF, NK, lb12]
 refine ops_s ?_
 simp only [↓OF, NK, eqlB]
 refine ops_s ?_
 simp only [↓OF, NK, pickV_true]
 refine ops_s ?_
 simp only [↓OF, NK]
 exact hK _ _ _ (hQ hx kx)
theorem law14 (L n : Nat) (hL : 2000 ≤ L) {q : RQ} {kv1 kv2 : Value} {h : H} (s1 : Strs h kv1 q.keys) (s2 : Strs h kv2 q.keys) (hk : q.keys.length ≤ 1000) :
   Sp (CF L (n + 2)) 14 [q.v kv1, q.v kv2] h fun r h' => r = .bool true ∧ Keep nobody h h' := by
 refine Sp.body f14 (by simp) ?_
 have hc1 : (Value.cells (q.v kv1)).toList = q.cells kv1 := rfl
 have hc2 : (Value.cells (q.v kv2)).toList = q.cells kv2 := rfl
 have k1 := Keep.new h (.rw (q.cells kv1) (some 28))
 have b1 := Has.new h (.rw (q.cells kv1) (some 28))
 unfold c14
 refine C.seq fun K hK => ?_
 simp only [seval, ↓EW, EV, r14_0, hc1]
 generalize h.new (.rw (q.cells kv1) (some 28)) = h1 at *
 have k2 := Keep.new h1 (.rw (q.cells kv2) (some 28))
 have b2 := Has.new h1 (.rw (q.cells kv2) (some 28))
 simp only [hc2]
 generalize h1.new (.rw (q.cells kv2) (some 28)) = h2 at *
 have k12 := k1.then k2
 refine hK _ _ _ (C.seq (reg14_1 L n hL (b1.keep0 k2) b2 (s1.keep0 k12) (s2.keep0 k12) hk (by simp only [seval, EV]) (by simp only [seval, EV]) fun hx kx => C.ret ⟨.inr rfl, [.bool true], by simp only [seval, EV, q14], rfl, k12.then kx⟩))
theorem law15 (L n : Nat) (hL : 2000 ≤ L) {n1 n2 : Nat} {v1 v2 : Value} {l : List RQ} {h : H} (a1 : Reqs n1 h v1 l) (a2 : Reqs n2 h v2 l) (hk : ∀ q ∈ l, q.keys.length ≤ 1000) (hl : l.length < L) (h9 : l.length ≤ 100000) :
   Sp (CF L (n + 3)) 15 [v1, v2] h fun r h' => r = .bool true ∧ Keep nobody h h' := by
 refine Sp.body f15 (by simp) ?_
 unfold c15
 refine C.seq fun K hK => ?_
 simp only [seval, EV, r15_0]
 refine hK _ _ _ (C.seq (C.seq fun K hK => ?_))
 simp only [seval, EV, r15_1, a1.len, a2.len]
 refine hK _ _ _ (C.cf <| C.skip (C.seq (C.seq fun K hK => ?_)))
 simp only [r15_3]
 refine hK _ _ _ (C.block ?_)
 refine (C.loop (L := L) (fun m tm' h' => ∃ i, m = l.length - i ∧ i ≤ l.length ∧ Keep nobody h h' ∧ tg tm' 0 = v1 ∧ tg tm' 1 = v2 ∧ tg tm' 5 = .int .i64 (i : Int)) l.length (by omega)
   ⟨0, by omega, Nat.zero_le _, .refl _ _, by simp only [↓reduceIte, EV, Nat.reduceEqDiff], by simp only [↓reduceIte, EV, Nat.reduceEqDiff], by simp only [↓reduceIte, EV]; rfl⟩ fun m tm' h' hi => ?_ :
   C (loopB l15_8) _ L _ h fun e tm' h' => e = .exit 0 ∧ Keep nobody h h').mono ?_
 · obtain ⟨i, hm, hi, kk, t0, t1, t5⟩ := hi
   unfold l15_8
   refine C.seq (C.seq fun K hK => ?_)
   by_cases g : (i : Int) < (l.length : Int)
   · simp only [EV, r15_4, t0, a1.len, t5, dT g]
     refine hK _ _ _ (C.ct (C.skip (C.seq (C.block (C.seq fun K hK => ?_)))))
     obtain ⟨q, hq⟩ : ∃ q, l[i]? = some q := ⟨_, List.getElem?_eq_getElem (by omega)⟩
     have kr := keep_room h' 10
     have kx := kk.then kr
     generalize hh : (⟨h'.objs, h'.next + 10⟩ : H) = hx at *
     obtain ⟨b, o, kv1, e1, l1, s1⟩ := a1.at hq
     obtain ⟨b', o', kv2, e2, l2, s2⟩ := a2.at hq
     have w1 : IntKind.i64.wrap ((i : Int) + 1) = ((i + 1 : Nat) : Int) := by
       rw [show (i : Int) + 1 = ((i + 1 : Nat) : Int) by omega]; exact wrap_lt _ (by omega)
     simp only [seval, EV, r15_6, hh, t0, t1, t5, e1, e2, l1 hx kx, l2 hx kx]
     refine law14 L n hL (s1.keep0 kx) (s2.keep0 kx) (hk q (List.mem_of_getElem? hq)) _ fun r hy hqq => ?_
     obtain ⟨rfl, ky⟩ := hqq
     simp only [EV]
     refine hK _ _ _ (C.cf <| C.skip fun K hK => ?_)
     rw [box_f]
     simp only [seval, EV, r15_5, t5, w1]
     exact hK _ _ _ ⟨l.length - (i + 1), by omega, i + 1, rfl, by omega, kx.then ky, by simp only [seval, EV, t0], by simp only [seval, EV, t1], by simp only [seval, EV]⟩
   · simp only [EV, r15_4, t0, a1.len, t5, dF g]
     refine hK _ _ _ (C.cf <| fun K hK => ?_)
     simp only [exitC]
     exact hK _ _ _ ⟨rfl, kk⟩
 · rintro e tm' h' ⟨rfl, kk⟩
   show C _ _ _ _ _ _
   refine C.seq fun K hK => ?_
   simp only [r15_8]
   exact hK _ _ _ (C.ret ⟨.inr rfl, [.bool true], by simp only [seval, EV, q15], rfl, kk⟩)
end Go.Proofs.YtilpiiafjehbnaaGreatDoor
