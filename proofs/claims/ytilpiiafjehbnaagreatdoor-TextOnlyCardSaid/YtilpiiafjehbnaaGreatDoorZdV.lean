import Derived.Test.YtilpiiafjehbnaaGreatDoorZdC
set_option linter.unusedSimpArgs false
set_option linter.unusedVariables false
namespace Go.Proofs.YtilpiiafjehbnaaGreatDoor
open Go.Ev
def digs : Nat → Nat → List UInt8
 | 0, _ => []
 | m + 1, u => digs m (u / 10) ++ [UInt8.ofNat (48 + u % 10)]
theorem dec_digs (x : Nat) : dec x = digs (dec x).length x := by
 induction x using Nat.strongRecOn with
 | _ x ih =>
   by_cases h : x < 10
   · have e : dec x = [UInt8.ofNat (48 + x)] := by unfold dec; rw [if_pos h]
     rw [e]
     show _ = [] ++ [UInt8.ofNat (48 + x % 10)]
     rw [Nat.mod_eq_of_lt h]; rfl
   · have e : dec x = dec (x / 10) ++ [UInt8.ofNat (48 + x % 10)] := by
       conv => lhs; unfold dec
       rw [if_neg h]
     rw [e, List.length_append]
     show dec (x / 10) ++ _ = digs (dec (x / 10)).length (x / 10) ++ _
     rw [← ih (x / 10) (by omega)]
theorem dec_lt (x : Nat) : x < 10 ^ (dec x).length := by
 induction x using Nat.strongRecOn with
 | _ x ih =>
   by_cases h : x < 10
   · have e : dec x = [UInt8.ofNat (48 + x)] := by unfold dec; rw [if_pos h]
     rw [e]; exact h
   · have e : dec x = dec (x / 10) ++ [UInt8.ofNat (48 + x % 10)] := by
       conv => lhs; unfold dec
       rw [if_neg h]
     rw [e, List.length_append]
     have := ih (x / 10) (by omega)
     show x < 10 ^ ((dec (x / 10)).length + 1)
     rw [Nat.pow_succ]; omega
def pairD (y : Nat) : List UInt8 := [UInt8.ofNat (48 + y / 10), UInt8.ofNat (48 + y % 10)]
theorem digs_two (m u : Nat) : digs (m + 2) u = digs m (u / 100) ++ pairD (u % 100) := by
 show digs m (u / 10 / 10) ++ [UInt8.ofNat (48 + u / 10 % 10)] ++ [UInt8.ofNat (48 + u % 10)] = _
 rw [List.append_assoc, Nat.div_div_eq_div_mul, show u / 10 % 10 = u % 100 / 10 by omega, show u % 10 = u % 100 % 10 by omega]; rfl
theorem digs_four (m u : Nat) : digs (m + 4) u = digs m (u / 10000) ++ (pairD (u % 10000 / 100) ++ pairD (u % 10000 % 100)) := by
 rw [show m + 4 = m + 2 + 2 from rfl, digs_two, digs_two, List.append_assoc, Nat.div_div_eq_div_mul, show u / 100 % 100 = u % 10000 / 100 by omega, show u % 100 = u % 10000 % 100 by omega]
theorem digs_eight (m u : Nat) : digs (m + 8) u = digs m (u / 100000000) ++ (pairD (u % 100000000 / 10000 / 100) ++ (pairD (u % 100000000 / 10000 % 100) ++ (pairD (u % 100000000 % 10000 / 100) ++ pairD (u % 100000000 % 10000 % 100)))) := by
 rw [show m + 8 = m + 4 + 4 from rfl, digs_four, digs_four, List.append_assoc, List.append_assoc, Nat.div_div_eq_div_mul, show u / 10000 % 10000 / 100 = u % 100000000 / 10000 / 100 by omega, show u / 10000 % 10000 % 100 = u % 100000000 / 10000 % 100 by omega, show u % 10000 / 100 = u % 100000000 % 10000 / 100 by omega, show u % 10000 % 100 = u % 100000000 % 10000 % 100 by omega]
def isBv (o : Option Value) (n : Nat) : Bool := match o with | some (.int .u8 (.ofNat k)) => Nat.beq k n | _ => false
theorem isBv_eq {o : Option Value} {n : Nat} (h : isBv o n = true) : o = some (.int .u8 (n : Int)) := by
 unfold isBv at h
 split at h
 · rename_i k
   rw [Nat.eq_of_beq_eq_true h]; rfl
 · cases h
def ixS (n : Nat) : Option Value := indexStr SM (.int .u32 (n : Int))
theorem allS : (List.range 100).all (fun y => isBv (ixS (y * 2)) (48 + y / 10) && isBv (ixS (y * 2 + 1)) (48 + y % 10)) = true := by kernel_rfl
theorem bv_nat (n : Nat) (h : n < 256) : bv (UInt8.ofNat n) = .int .u8 (n : Int) := by
 unfold bv
 have : (UInt8.ofNat n).toNat = n := by rw [UInt8.toNat_ofNat']; omega
 rw [this]
theorem ixS_eq {y : Nat} (h : y < 100) : ixS (y * 2) = some (bv (UInt8.ofNat (48 + y / 10))) ∧ ixS (y * 2 + 1) = some (bv (UInt8.ofNat (48 + y % 10))) := by
 have h1 := List.all_eq_true.1 allS y (List.mem_range.2 h)
 simp only [Bool.and_eq_true] at h1
 rw [bv_nat _ (by omega), bv_nat _ (by omega)]
 exact ⟨isBv_eq h1.1, isBv_eq h1.2⟩
theorem putAt_app {α : Type} : ∀ (A l : List α) (i : Nat) (ys l' : List α), putAt l i ys = some l' → putAt (A ++ l) (A.length + i) ys = some (A ++ l')
 | [], l, i, ys, l', h => by simpa using h
 | x :: A, l, i, ys, l', h => by
   show putAt (x :: (A ++ l)) ((A.length + 1) + i) ys = _
   rw [show A.length + 1 + i = (A.length + i) + 1 by omega]
   simp only [putAt, putAt_app A l i ys l' h]; rfl
theorem last_two {α : Type} (A : List α) (k : Nat) (h : A.length = k + 2) : ∃ (A' : List α) (x y : α), A = A' ++ [x, y] ∧ A'.length = k := by
 refine ⟨A.take k, A[k]'(by omega), A[k + 1]'(by omega), ?_, by simp; omega⟩
 apply List.ext_getElem?
 intro i
 by_cases h1 : i < k
 · rw [List.getElem?_append_left (by simp; omega), List.getElem?_take_of_lt h1]
 · rw [List.getElem?_append_right (by simp; omega)]
   have h2 : (A.take k).length = k := by simp; omega
   rw [h2]
   by_cases h3 : i = k
   · subst h3; simp
   by_cases h4 : i = k + 1
   · subst h4; simp [show k + 1 - k = 1 by omega]
   rw [List.getElem?_eq_none (by omega), List.getElem?_eq_none (by simp; omega)]
noncomputable def pairR (i j : Nat) (t : Nat) : CodeT := fun call _ tm ds h0 K =>
 (fun (b0 : Nat) (h : H) =>
 kO (binV Tryz.prog .sub 3 true (tg tm 4) (.int .i64 (i : Int))) ds h (fun v2 ds h =>
 kO (binV Tryz.prog .sub 3 true (tg tm 4) (.int .i64 (j : Int))) ds h (fun v5 ds h =>
 kO (binV Tryz.prog .add 23 true (tg tm t) (.int .u32 (1))) ds h (fun v7 ds h =>
 kO (indexStr SM v7) ds h (fun v8 ds h =>
 kO (indexStr SM (tg tm t)) ds h (fun v10 ds h =>
 kO (indexSl 1 (tg tm 0) v2) ds h (fun v11 ds h =>
 kH (withV undef (storeV 1 h v11 v8)) ds (fun v12 ds h =>
 kO (indexSl 1 (tg tm 0) v5) ds h (fun v13 ds h =>
 kH (withV undef (storeV 1 h v13 v10)) ds (fun v14 ds h =>
 K .norm tm ds h)))))))))) h0.next ⟨h0.objs, h0.next + 15⟩
theorem wrap_u32 (n : Nat) (h : n < 4294967296) : IntKind.u32.wrap (n : Int) = (n : Int) := wrap_eq _ _ (by show (0 : Int) ≤ _; omega) (by show (n : Int) ≤ 4294967295; omega)
theorem store_one {h : H} {b o : Nat} {s} {cs cs' : List Value} {ty : Option TypeId} {v : Value} (a : Has h b (.rw cs ty)) (hv : v.cells = #[v]) (h1 : ones [v] = true) (hp : putAt cs o [v] = some cs') :
   storeV 1 h (.pointer (some ⟨b, o, s⟩)) v = some (h.put b (.rw cs' ty)) := by
 unfold storeV
 have h2 : ones v.cells.toList = true := by rw [hv]; exact h1
 simp only [H.write, h2, a.2]
 rw [hv]
 show (match (putAt cs o [v]) with | some l => some (h.put b (.rw l ty)) | none => none) = _
 rw [hp]
def Fil (h : H) (b : Nat) (ty : Option TypeId) (m : Nat) (tl rest : List Value) : Prop := ∃ A : List Value, A.length = m ∧ Has h b (.rw (A ++ (tl ++ rest)) ty)
theorem ix1 (b i nd cp : Nat) (h : i < nd) : indexSl 1 (.slice (some ⟨b, 0, none⟩) nd cp) (.int .i64 (i : Int)) = some (.pointer (some ⟨b, i, none⟩)) := by
 simp only [indexSl, asNat_nat, addOff]
 rw [Nat.ble_eq_true_of_le h]
 simp
theorem pair_step {i j t m nd cp b y : Nat} {tl rest : List Value} {ty : Option TypeId} {h : H} {tm : T Value} {call : CallT} {L : Nat} {Q : Ex → T Value → H → Prop}
   (h0 : tg tm 0 = .slice (some ⟨b, 0, none⟩) nd cp) (h4 : tg tm 4 = .int .i64 (m : Int)) (ht : tg tm t = .int .u32 ((y * 2 : Nat) : Int)) (hy : y < 100) (hi : 1 ≤ i) (hj : j = i + 1) (hm : j ≤ m) (hn : m ≤ nd) (hsz : nd < 1000)
   {m1 : Nat} (hb : Fil h b ty m1 tl rest) (hm1 : m1 = m - i + 1) (hQ : ∀ h', Keep (· = b) h h' → Fil h' b ty (m - j) ((pairD y).map bv ++ tl) rest → Q .norm tm h') :
   C ⟨pairR i j t⟩ call L tm h Q := fun K hK => by
 obtain ⟨A, hA, hb⟩ := hb
 obtain ⟨A, x0, x1, rfl, hl⟩ := last_two A (m - j) (by omega)
 have w1 : IntKind.i64.wrap ((m : Int) - (i : Int)) = ((m - j + 1 : Nat) : Int) := by
   rw [show (m : Int) - (i : Int) = ((m - j + 1 : Nat) : Int) by omega]; exact wrap_lt _ (by omega)
 have w2 : IntKind.i64.wrap ((m : Int) - (j : Int)) = ((m - j : Nat) : Int) := by
   rw [show (m : Int) - (j : Int) = ((m - j : Nat) : Int) by omega]; exact wrap_lt _ (by omega)
 have w3 : IntKind.u32.wrap (((y * 2 : Nat) : Int) + 1) = ((y * 2 + 1 : Nat) : Int) := by
   rw [show ((y * 2 : Nat) : Int) + 1 = ((y * 2 + 1 : Nat) : Int) by omega]; exact wrap_u32 _ (by omega)
 have e1 := (ixS_eq hy).1
 have e2 := (ixS_eq hy).2
 unfold ixS at e1 e2
 generalize hx0 : bv (UInt8.ofNat (48 + y / 10)) = d0 at *
 generalize hx1 : bv (UInt8.ofNat (48 + y % 10)) = d1 at *
 have hb1 : Has (⟨h.objs, h.next + 15⟩ : H) b (.rw ((A ++ [x0, x1]) ++ (tl ++ rest)) ty) := ⟨Nat.lt_of_lt_of_le hb.1 (Nat.le_add_right _ _), hb.2⟩
 have p1 : putAt ((A ++ [x0, x1]) ++ (tl ++ rest)) (m - j + 1) [d1] = some (A ++ (x0 :: d1 :: (tl ++ rest))) := by
   rw [← hl, List.append_assoc]
   exact putAt_app A _ 1 [d1] (x0 :: d1 :: (tl ++ rest)) (by cases (tl ++ rest) <;> rfl)
 have s1 := store_one (s := none) hb1 (by rw [← hx1]; rfl) (by rw [← hx1]; rfl) p1
 have hb2 := Has.put (x := .rw (A ++ (x0 :: d1 :: (tl ++ rest))) ty) hb1.1
 have p2 : putAt (A ++ (x0 :: d1 :: (tl ++ rest))) (m - j) [d0] = some (A ++ (d0 :: d1 :: (tl ++ rest))) := by
   rw [← hl]
   exact putAt_app A _ 0 [d0] (d0 :: d1 :: (tl ++ rest)) rfl
 have s2 := store_one (s := none) hb2 (by rw [← hx0]; rfl) (by rw [← hx0]; rfl) p2
 have hb3 := Has.put (x := .rw (A ++ (d0 :: d1 :: (tl ++ rest))) ty) hb2.1
 show pairR i j t call L tm [] h K = true
 simp only [pairR, EV, h0, h4, ht, w1, w2, w3, e1, e2, ix1 b (m - j + 1) nd cp (by omega), ix1 b (m - j) nd cp (by omega), s1, s2]
 refine hK _ _ _ (hQ _ ?_ ⟨A, hl, ?_⟩)
 · have k0 : Keep nobody h (⟨h.objs, h.next + 15⟩ : H) := ⟨Nat.le_add_right _ _, fun _ _ _ => rfl⟩
   have k1 := Keep.put (⟨h.objs, h.next + 15⟩ : H) b (.rw (A ++ (x0 :: d1 :: (tl ++ rest))) ty)
   have k2 := Keep.put ((⟨h.objs, h.next + 15⟩ : H).put b (.rw (A ++ (x0 :: d1 :: (tl ++ rest))) ty)) b (.rw (A ++ (d0 :: d1 :: (tl ++ rest))) ty)
   exact ((k0.mono fun _ _ h => h.elim).trans k1 fun _ _ h => h).trans k2 fun _ _ h => h
 · show Has _ b (.rw (A ++ ([bv (UInt8.ofNat (48 + y / 10)), bv (UInt8.ofNat (48 + y % 10))] ++ tl ++ rest)) ty)
   rw [hx0, hx1]
   exact hb3
theorem quo64 (c : Bool) (u y : Nat) (hy : 0 < y) (hu : u < 18446744073709551616) : binV Tryz.prog .quo 24 c (.int .u64 (u : Int)) (.int .u64 (y : Int)) = some (.int .u64 ((u / y : Nat) : Int)) := by
 rw [binV_quo _ _ _ _ _ (by omega), ← Int.ofNat_tdiv, wrap_u64 _ (Nat.lt_of_le_of_lt (Nat.div_le_self _ _) hu)]
theorem rem64 (c : Bool) (u y : Nat) (hy : 0 < y) : binV Tryz.prog .rem 24 c (.int .u64 (u : Int)) (.int .u64 (y : Int)) = some (.int .u64 ((u % y : Nat) : Int)) := by
 rw [binV_rem _ _ _ _ _ (by omega), ← Int.ofNat_tmod]
theorem quo32 (c : Bool) (u y : Nat) (hy : 0 < y) (hu : u < 4294967296) : binV Tryz.prog .quo 23 c (.int .u32 (u : Int)) (.int .u32 (y : Int)) = some (.int .u32 ((u / y : Nat) : Int)) := by
 rw [binV_quo _ _ _ _ _ (by omega), ← Int.ofNat_tdiv, wrap_u32 _ (Nat.lt_of_le_of_lt (Nat.div_le_self _ _) hu)]
theorem rem32 (c : Bool) (u y : Nat) (hy : 0 < y) : binV Tryz.prog .rem 23 c (.int .u32 (u : Int)) (.int .u32 (y : Int)) = some (.int .u32 ((u % y : Nat) : Int)) := by
 rw [binV_rem _ _ _ _ _ (by omega), ← Int.ofNat_tmod]
theorem mul2 (u : Nat) (hu : u < 1000000) : IntKind.u32.wrap ((u : Int) * 2) = ((u * 2 : Nat) : Int) := by
 rw [show (u : Int) * 2 = ((u * 2 : Nat) : Int) by omega]; exact wrap_u32 _ (by omega)
structure Fb (b cp nd : Nat) (ty : Option TypeId) (rest : List Value) (x : Nat) (h0 : H) (r : Nat) (kd : IntKind) (m u : Nat) (tl : List UInt8) (tm : T Value) (h : H) : Prop where
 t0 : tg tm 0 = .slice (some ⟨b, 0, none⟩) nd cp
 tr : tg tm r = .int kd (u : Int)
 t4 : tg tm 4 = .int .i64 (m : Int)
 lu : u < 10 ^ m
 l54 : u < 18446744073709551616
 le : m ≤ nd
 fil : Fil h b ty m (tl.map bv) rest
 dg : digs nd x = digs m u ++ tl
 kp : Keep (· = b) h0 h
theorem r87_7_eq : r87_7 = pairR 1 2 9 := rfl
theorem r87_8_eq : r87_8 = pairR 3 4 8 := rfl
theorem r87_9_eq : r87_9 = pairR 5 6 11 := rfl
theorem r87_10_eq : r87_10 = pairR 7 8 10 := rfl
theorem r87_17_eq : r87_17 = pairR 1 2 15 := rfl
theorem r87_18_eq : r87_18 = pairR 3 4 14 := rfl
theorem r87_23_eq : r87_23 = pairR 1 2 16 := rfl
theorem eight_law {L : Nat} {call : CallT} {b cp nd : Nat} {ty : Option TypeId} {rest : List Value} {x : Nat} {h0 : H} (hnd : nd < 1000) {m u : Nat} {tl : List UInt8} {tm : T Value} {h : H} (a : Fb b cp nd ty rest x h0 1 .u64 m u tl tm h) :
   C l87_12 call L tm h fun e tm' h' => if 8 ≤ m then e = .norm ∧ ∃ tl', Fb b cp nd ty rest x h0 1 .u64 (m - 8) (u / 100000000) tl' tm' h' else e = .exit 0 ∧ Fb b cp nd ty rest x h0 1 .u64 m u tl tm' h' := by
 obtain ⟨t0, tr, t4, lu, l54, le, fil, dg, kp⟩ := a
 by_cases g : 8 ≤ m
 · simp only [if_pos g]
   refine C.seq (C.seq fun K hK => ?_)
   have g' : (8 : Int) ≤ (m : Int) := by omega
   simp only [EV, r87_1, t4, dT g']
   refine hK .norm _ _ (C.ct (C.skip (C.block (C.seq fun K hK => ?_))))
   have q1 := rem64 true u 100000000 (by omega)
   have q2 := quo64 true u 100000000 (by omega) l54
   have q903 : toInt .u32 (.int .u64 ((u % 100000000 : Nat) : Int)) = some (.int .u32 ((u % 100000000 : Nat) : Int)) := by
     rw [toInt_int, wrap_u32 _ (by omega)]
   generalize hy : u % 100000000 = y at *
   have hy' : y < 100000000 := by omega
   simp only [Int.cast_ofNat_Int] at q1 q2
   simp only [seval, EV, r87_2, tr, q1, q903]
   refine hK _ _ _ (C.seq fun K hK => ?_)
   simp only [seval, EV, r87_3, tr, q2]
   refine hK _ _ _ (C.seq fun K hK => ?_)
   have q904 := quo32 true y 10000 (by omega) (by omega)
   have q905 := rem32 true y 10000 (by omega)
   simp only [Int.cast_ofNat_Int] at q904 q905
   simp only [seval, EV, r87_4, q904, q905]
   refine hK _ _ _ (C.seq fun K hK => ?_)
   have q906 := quo32 true (y % 10000) 100 (by omega) (by omega)
   have q907 := rem32 true (y % 10000) 100 (by omega)
   have q908 := quo32 true (y / 10000) 100 (by omega) (by omega)
   have q909 := rem32 true (y / 10000) 100 (by omega)
   simp only [Int.cast_ofNat_Int] at q906 q907 q908 q909
   simp only [seval, EV, r87_5, q906, q907, mul2 (y % 10000 / 100) (by omega), mul2 (y % 10000 % 100) (by omega)]
   refine hK _ _ _ (C.seq fun K hK => ?_)
   simp only [seval, EV, r87_6, q908, q909, mul2 (y / 10000 / 100) (by omega), mul2 (y / 10000 % 100) (by omega)]
   refine hK _ _ _ (C.seq ?_)
   rw [r87_7_eq, r87_8_eq, r87_9_eq, r87_10_eq]
   refine pair_step (m := m) (nd := nd) (cp := cp) (b := b) (y := y % 10000 % 100) (ty := ty) (rest := rest) (by simp only [seval, EV, t0]) (by simp only [seval, EV, t4]) (by simp only [seval, EV]) (by omega) (by omega) rfl (by omega) le hnd fil (by omega) fun h1 k1 f1 => C.seq ?_
   refine pair_step (m := m) (nd := nd) (cp := cp) (b := b) (y := y % 10000 / 100) (ty := ty) (rest := rest) (by simp only [seval, EV, t0]) (by simp only [seval, EV, t4]) (by simp only [seval, EV]) (by omega) (by omega) rfl (by omega) le hnd f1 (by omega) fun h2 k2 f2 => C.seq ?_
   refine pair_step (m := m) (nd := nd) (cp := cp) (b := b) (y := y / 10000 % 100) (ty := ty) (rest := rest) (by simp only [seval, EV, t0]) (by simp only [seval, EV, t4]) (by simp only [seval, EV]) (by omega) (by omega) rfl (by omega) le hnd f2 (by omega) fun h3 k3 f903 => C.seq ?_
   refine pair_step (m := m) (nd := nd) (cp := cp) (b := b) (y := y / 10000 / 100) (ty := ty) (rest := rest) (by simp only [seval, EV, t0]) (by simp only [seval, EV, t4]) (by simp only [seval, EV]) (by omega) (by omega) rfl (by omega) le hnd f903 (by omega) fun h4 k4 f904 => fun K hK => ?_
   have w : IntKind.i64.wrap ((m : Int) - 8) = ((m - 8 : Nat) : Int) := by
     rw [show (m : Int) - 8 = ((m - 8 : Nat) : Int) by omega]; exact wrap_lt _ (by omega)
   simp only [seval, EV, r87_11, t4, w]
   refine hK _ _ _ ⟨rfl, pairD (y / 10000 / 100) ++ (pairD (y / 10000 % 100) ++ (pairD (y % 10000 / 100) ++ (pairD (y % 10000 % 100) ++ tl))), ?_, ?_, ?_, ?_, ?_, ?_, ?_, ?_, ?_⟩
   · simp only [seval, EV, t0]
   · simp only [seval, EV]
   · simp only [seval, EV]
   · have : (10 : Nat) ^ m = 10 ^ (m - 8) * 100000000 := by
       conv => lhs; rw [show m = m - 8 + 8 by omega, Nat.pow_add]
     exact Nat.div_lt_of_lt_mul (by rw [Nat.mul_comm, ← this]; exact lu)
   · exact Nat.lt_of_le_of_lt (Nat.div_le_self _ _) l54
   · omega
   · simpa only [List.map_append] using f904
   · rw [dg]
     conv => lhs; rw [show m = m - 8 + 8 by omega, digs_eight]
     simp only [List.append_assoc, hy]
   · exact (((kp.trans k1 fun _ _ h => h).trans k2 fun _ _ h => h).trans k3 fun _ _ h => h).trans k4 fun _ _ h => h
 · simp only [if_neg g]
   refine C.seq (C.seq fun K hK => ?_)
   have g' : ¬ (8 : Int) ≤ (m : Int) := by omega
   simp only [EV, r87_1, t4, dF g']
   refine hK .norm _ _ (C.cf <| C.exit ⟨rfl, ?_⟩)
   exact ⟨by simp only [seval, EV, t0], by simp only [seval, EV, tr], by simp only [seval, EV, t4], lu, l54, le, fil, dg, kp⟩
section
variable {L : Nat} {call : CallT} {b cp nd : Nat} {ty : Option TypeId} {rest : List Value} {x : Nat} {h0 : H} {m u : Nat} {tl : List UInt8} {tm : T Value} {h : H}
theorem lt32 {m u : Nat} (lu : u < 10 ^ m) (hm : m < 8) : u < 100000000 := Nat.lt_of_lt_of_le lu (show 10 ^ m ≤ 10 ^ 8 from Nat.pow_le_pow_right (by omega) (by omega))
noncomputable def c87a : Box CodeT := ⟨seqC ⟨r87_13⟩ ⟨condC (tC 99) ⟨seqC ⟨r87_14⟩ ⟨seqC ⟨r87_15⟩ ⟨seqC ⟨r87_16⟩ ⟨seqC ⟨r87_17⟩ ⟨seqC ⟨r87_18⟩ ⟨r87_19⟩⟩⟩⟩⟩⟩ skipC⟩⟩
theorem four_law (hnd : nd < 1000) (hm : m < 8) (a : Fb b cp nd ty rest x h0 12 .u32 m u tl tm h) :
   C c87a call L tm h fun e tm' h' => e = .norm ∧ ∃ m' u' tl', m' < 4 ∧ Fb b cp nd ty rest x h0 12 .u32 m' u' tl' tm' h' := by
 obtain ⟨t0, tr, t4, lu, l54, le, fil, dg, kp⟩ := a
 have hu := lt32 lu hm
 refine C.seq fun K hK => ?_
 by_cases g : 4 ≤ m
 · have g' : (4 : Int) ≤ (m : Int) := by omega
   simp only [EV, r87_13, t4, dT g']
   refine hK .norm _ _ (C.ct (C.seq fun K hK => ?_))
   have q1 := rem32 true u 10000 (by omega)
   have q2 := quo32 true u 10000 (by omega) (by omega)
   simp only [Int.cast_ofNat_Int] at q1 q2
   simp only [seval, EV, r87_14, tr, q1]
   refine hK _ _ _ (C.seq fun K hK => ?_)
   simp only [seval, EV, r87_15, tr, q2]
   refine hK _ _ _ (C.seq fun K hK => ?_)
   have q906 := quo32 true (u % 10000) 100 (by omega) (by omega)
   have q907 := rem32 true (u % 10000) 100 (by omega)
   simp only [Int.cast_ofNat_Int] at q906 q907
   simp only [seval, EV, r87_16, q906, q907, mul2 (u % 10000 / 100) (by omega), mul2 (u % 10000 % 100) (by omega)]
   refine hK _ _ _ (C.seq ?_)
   rw [r87_17_eq, r87_18_eq]
   refine pair_step (m := m) (nd := nd) (cp := cp) (b := b) (y := u % 10000 % 100) (ty := ty) (rest := rest) (by simp only [seval, EV, t0]) (by simp only [seval, EV, t4]) (by simp only [seval, EV]) (by omega) (by omega) rfl (by omega) le hnd fil (by omega) fun h1 k1 f1 => C.seq ?_
   refine pair_step (m := m) (nd := nd) (cp := cp) (b := b) (y := u % 10000 / 100) (ty := ty) (rest := rest) (by simp only [seval, EV, t0]) (by simp only [seval, EV, t4]) (by simp only [seval, EV]) (by omega) (by omega) rfl (by omega) le hnd f1 (by omega) fun h2 k2 f2 => fun K hK => ?_
   have w : IntKind.i64.wrap ((m : Int) - 4) = ((m - 4 : Nat) : Int) := by
     rw [show (m : Int) - 4 = ((m - 4 : Nat) : Int) by omega]; exact wrap_lt _ (by omega)
   simp only [seval, EV, r87_19, t4, w]
   refine hK _ _ _ ⟨rfl, m - 4, u / 10000, pairD (u % 10000 / 100) ++ (pairD (u % 10000 % 100) ++ tl), by omega, ?_, ?_, ?_, ?_, ?_, ?_, ?_, ?_, ?_⟩
   · simp only [seval, EV, t0]
   · simp only [seval, EV]
   · simp only [seval, EV]
   · have : (10 : Nat) ^ m = 10 ^ (m - 4) * 10000 := by
       conv => lhs; rw [show m = m - 4 + 4 by omega, Nat.pow_add]
     exact Nat.div_lt_of_lt_mul (by rw [Nat.mul_comm, ← this]; exact lu)
   · exact Nat.lt_of_le_of_lt (Nat.div_le_self _ _) l54
   · omega
   · simpa only [List.map_append] using f2
   · rw [dg]
     conv => lhs; rw [show m = m - 4 + 4 by omega, digs_four]
     simp only [List.append_assoc]
   · exact (kp.trans k1 fun _ _ h => h).trans k2 fun _ _ h => h
 · have g' : ¬ (4 : Int) ≤ (m : Int) := by omega
   simp only [EV, r87_13, t4, dF g']
   refine hK .norm _ _ (C.cf <| C.skip ⟨rfl, m, u, tl, by omega, ?_⟩)
   exact ⟨by simp only [seval, EV, t0], by simp only [seval, EV, tr], by simp only [seval, EV, t4], lu, l54, le, fil, dg, kp⟩
noncomputable def c87b : Box CodeT := ⟨seqC ⟨r87_20⟩ ⟨condC (tC 139) ⟨seqC ⟨r87_21⟩ ⟨seqC ⟨r87_22⟩ ⟨seqC ⟨r87_23⟩ ⟨r87_24⟩⟩⟩⟩ skipC⟩⟩
theorem two_law (hnd : nd < 1000) (hm : m < 4) (a : Fb b cp nd ty rest x h0 12 .u32 m u tl tm h) :
   C c87b call L tm h fun e tm' h' => e = .norm ∧ ∃ m' u' tl', m' < 2 ∧ Fb b cp nd ty rest x h0 12 .u32 m' u' tl' tm' h' := by
 obtain ⟨t0, tr, t4, lu, l54, le, fil, dg, kp⟩ := a
 have hu := lt32 lu (by omega)
 refine C.seq fun K hK => ?_
 by_cases g : 2 ≤ m
 · have g' : (2 : Int) ≤ (m : Int) := by omega
   simp only [EV, r87_20, t4, dT g']
   refine hK .norm _ _ (C.ct (C.seq fun K hK => ?_))
   have q1 := rem32 true u 100 (by omega)
   have q2 := quo32 true u 100 (by omega) (by omega)
   simp only [Int.cast_ofNat_Int] at q1 q2
   simp only [seval, EV, r87_21, tr, q1, mul2 (u % 100) (by omega)]
   refine hK _ _ _ (C.seq fun K hK => ?_)
   simp only [seval, EV, r87_22, tr, q2]
   refine hK _ _ _ (C.seq ?_)
   rw [r87_23_eq]
   refine pair_step (m := m) (nd := nd) (cp := cp) (b := b) (y := u % 100) (ty := ty) (rest := rest) (by simp only [seval, EV, t0]) (by simp only [seval, EV, t4]) (by simp only [seval, EV]) (by omega) (by omega) rfl (by omega) le hnd fil (by omega) fun h1 k1 f1 => fun K hK => ?_
   have w : IntKind.i64.wrap ((m : Int) - 2) = ((m - 2 : Nat) : Int) := by
     rw [show (m : Int) - 2 = ((m - 2 : Nat) : Int) by omega]; exact wrap_lt _ (by omega)
   simp only [seval, EV, r87_24, t4, w]
   refine hK _ _ _ ⟨rfl, m - 2, u / 100, pairD (u % 100) ++ tl, by omega, ?_, ?_, ?_, ?_, ?_, ?_, ?_, ?_, ?_⟩
   · simp only [seval, EV, t0]
   · simp only [seval, EV]
   · simp only [seval, EV]
   · have : (10 : Nat) ^ m = 10 ^ (m - 2) * 100 := by
       conv => lhs; rw [show m = m - 2 + 2 by omega, Nat.pow_add]
     exact Nat.div_lt_of_lt_mul (by rw [Nat.mul_comm, ← this]; exact lu)
   · exact Nat.lt_of_le_of_lt (Nat.div_le_self _ _) l54
   · omega
   · simpa only [List.map_append] using f1
   · rw [dg]
     conv => lhs; rw [show m = m - 2 + 2 by omega, digs_two]
     simp only [List.append_assoc]
   · exact kp.trans k1 fun _ _ h => h
 · have g' : ¬ (2 : Int) ≤ (m : Int) := by omega
   simp only [EV, r87_20, t4, dF g']
   refine hK .norm _ _ (C.cf <| C.skip ⟨rfl, m, u, tl, by omega, ?_⟩)
   exact ⟨by simp only [seval, EV, t0], by simp only [seval, EV, tr], by simp only [seval, EV, t4], lu, l54, le, fil, dg, kp⟩
noncomputable def c87c : Box CodeT := ⟨seqC ⟨r87_25⟩ ⟨condC (tC 161) ⟨r87_26⟩ skipC⟩⟩
theorem one_law (hnd : nd < 1000) (hm : m < 2) (a : Fb b cp nd ty rest x h0 12 .u32 m u tl tm h) :
   C c87c call L tm h fun e tm' h' => e = .norm ∧ Has h' b (.rw ((digs nd x).map bv ++ rest) ty) ∧ Keep (· = b) h0 h' := by
 obtain ⟨t0, tr, t4, lu, l54, le, fil, dg, kp⟩ := a
 refine C.seq fun K hK => ?_
 by_cases g : 1 ≤ m
 · have g' : (0 : Int) < (m : Int) := by omega
   obtain rfl : m = 1 := by omega
   simp only [EV, r87_25, t4, dT g']
   refine hK .norm _ _ (C.ct (fun K hK => ?_))
   have w : IntKind.u32.wrap (48 + (u : Int)) = ((48 + u : Nat) : Int) := by
     rw [show 48 + (u : Int) = ((48 + u : Nat) : Int) by omega]; exact wrap_u32 _ (by omega)
   have w2 : toInt .u8 (.int .u32 ((48 + u : Nat) : Int)) = some (bv (UInt8.ofNat (48 + u))) := by
     rw [bv_nat _ (by omega), toInt_int, wrap_eq _ _ (by show (0 : Int) ≤ _; omega) (by show _ ≤ (255 : Int); omega)]
   have ix : indexSl 1 (.slice (some ⟨b, 0, none⟩) nd cp) (.int .i64 0) = some (.pointer (some ⟨b, 0, none⟩)) := ix1 b 0 nd cp (by omega)
   obtain ⟨A, hA, f⟩ := fil
   obtain ⟨z, rfl⟩ : ∃ z, A = [z] := by
     match A, hA with
     | [z], _ => exact ⟨z, rfl⟩
   have s1 := store_one (s := none) (v := bv (UInt8.ofNat (48 + u))) (cs' := bv (UInt8.ofNat (48 + u)) :: (tl.map bv ++ rest)) f rfl rfl (by show putAt (z :: (tl.map bv ++ rest)) 0 _ = _; cases (tl.map bv ++ rest) <;> rfl)
   show r87_26 call L _ [] h K = true
   simp only [seval, EV, r87_26, tr, w, w2, t0, ix, s1]
   refine hK _ _ _ ⟨rfl, ?_, kp.trans (.put _ _ _) fun _ _ h => h⟩
   have e : digs nd x = UInt8.ofNat (48 + u) :: tl := by
     rw [dg]; show [] ++ [UInt8.ofNat (48 + u % 10)] ++ tl = _
     rw [Nat.mod_eq_of_lt (by omega)]; rfl
   rw [e]
   exact Has.put f.1
 · have g' : ¬ (0 : Int) < (m : Int) := by omega
   obtain rfl : m = 0 := by omega
   simp only [EV, r87_25, t4, dF g']
   refine hK .norm _ _ (C.cf <| C.skip ⟨rfl, ?_, kp⟩)
   obtain ⟨A, hA, f⟩ := fil
   obtain rfl : A = [] := List.length_eq_zero_iff.1 hA
   rw [dg]; exact f
end
theorem base10_law (L n : Nat) {b cp x : Nat} {ty : Option TypeId} {A rest : List Value} {h : H} (hx : x < 18446744073709551616) (hA : A.length = (dec x).length) (hL : 1000 ≤ L) (hb : Has h b (.rw (A ++ rest) ty)) :
   Sp (CF L (n + 1)) 87 [.slice (some ⟨b, 0, none⟩) (dec x).length cp, .int .u64 (x : Int)] h fun r h' => Has h' b (.rw ((dec x).map bv ++ rest) ty) ∧ Keep (· = b) h h' := by
 have hl : (dec x).length ≤ 20 := dec_len 19 x (by omega)
 have dd := dec_digs x
 generalize hd : (dec x).length = nd at *
 rw [dd]
 clear dd
 have lx : x < 10 ^ nd := by
   rw [← hd]; exact dec_lt x
 refine Sp.body f87 (by simp) ?_
 unfold c87
 refine C.seq fun K hK => ?_
 simp only [seval, EV, r87_0, lenSl_slice]
 refine hK .norm _ _ (C.seq (C.block ?_))
 refine (C.loop (L := L) (fun k tm h' => ∃ u tl, k ≤ nd ∧ Fb b cp nd ty rest x h 1 .u64 k u tl tm h') nd (by omega) ⟨x, [], Nat.le_refl _, ?_⟩ fun k tm h' hi => ?_ :
   C (loopB l87_12) _ L _ h fun e tm' h' => e = .exit 0 ∧ ∃ m u tl, m < 8 ∧ Fb b cp nd ty rest x h 1 .u64 m u tl tm' h').mono ?_
 · exact ⟨by simp only [seval, EV], by simp only [seval, EV], by simp only [seval, EV], lx, hx, Nat.le_refl _, ⟨A, hA, hb⟩, by simp, .refl _ _⟩
 · obtain ⟨u, tl, h1, h2⟩ := hi
   refine (eight_law (by omega) h2).mono fun e tm' h' q => ?_
   by_cases g : 8 ≤ k
   · rw [if_pos g] at q
     obtain ⟨rfl, tl', q⟩ := q
     exact ⟨k - 8, by omega, _, tl', by omega, q⟩
   · rw [if_neg g] at q
     obtain ⟨rfl, q⟩ := q
     exact ⟨rfl, k, u, tl, by omega, q⟩
 · rintro e tm' h' ⟨rfl, m, u, tl, hm, t0, tr, t4, lu, l54, le, fil, dg, kp⟩
   show if 0 = 0 then _ else _
   rw [if_pos rfl]
   refine C.seq fun K hK => ?_
   have q : toInt .u32 (.int .u64 (u : Int)) = some (.int .u32 (u : Int)) := by
     rw [toInt_int, wrap_u32 _ (by have := lt32 lu hm; omega)]
   simp only [EV, r87_12, tr, q]
   refine hK _ _ _ (C.seq ((four_law (b := b) (cp := cp) (ty := ty) (rest := rest) (x := x) (h0 := h) (by omega) hm ⟨by simp only [seval, EV, t0], by simp only [seval, EV], by simp only [seval, EV, t4], lu, l54, le, fil, dg, kp⟩).mono ?_))
   rintro e tm2 h2 ⟨rfl, m2, u2, tl2, hm2, a2⟩
   refine C.seq ((two_law (by omega) hm2 a2).mono ?_)
   rintro e tm3 h3 ⟨rfl, m3, u3, tl3, hm3, a3⟩
   refine (one_law (by omega) hm3 a3).mono ?_
   rintro e tm4 h4 ⟨rfl, b4, k4⟩
   exact ⟨.inl rfl, _, rfl, b4, k4⟩
theorem cut24 (b nd : Nat) (h : nd ≤ 24) : sliceArr 1 24 (.pointer (some ⟨b, 0, none⟩)) none (some (.int .i64 (nd : Int))) none = some (.slice (some ⟨b, 0, none⟩) nd 24) := by
 simp only [sliceArr, bnds, bnd, asNat_nat]
 simp only [Nat.ble_eq_true_of_le h]
 simp [addOff]
def z24 : List Value := List.replicate 24 (.int .u8 (0))
theorem r61_4_eq : r61_4 = fun call _ tm ds h K => K .norm (T.set tm 5 (ptrTo h.next)) ds (h.new (.rw z24 (some 113))) := rfl
theorem format_law (L n : Nat) (hL : 1000 ≤ L) {x : Nat} (hx : x < 18446744073709551616) {h : H} (hG : Has h 1 (.ro powC)) :
   Sp (CF L (n + 3)) 61 [.int .u64 (x : Int), .int .i64 10] h fun r h' => r = .string ⟨(dec x).toArray⟩ ∧ Keep nobody h h' := by
 refine Sp.body f61 (by simp) ?_
 unfold c61
 refine C.seq fun K hK => ?_
 simp only [seval, EV, r61_0]
 refine hK .norm _ _ (C.seq (C.seq fun K hK => ?_))
 simp only [seval, EV, r61_1]
 refine hK _ _ _ (C.ct (C.seq (C.seq fun K hK => ?_)))
 by_cases g : x < 100
 · have g' : (x : Int) < 100 := by omega
   simp only [seval, EV, r61_2, dT g']
   refine hK .norm _ _ (C.ct (C.seq fun K hK => ?_))
   have q : toInt .i64 (.int .u64 (x : Int)) = some (.int .i64 (x : Int)) := by rw [toInt_int, wrap_lt _ (by omega)]
   simp only [seval, EV, r61_3, q]
   refine small_law L (n + 1) g _ _ fun r h1 hq => ?_
   obtain ⟨rfl, rfl⟩ := hq
   refine hK _ _ _ (C.ret ⟨.inr rfl, _, rfl, ?_, .refl _ _⟩)
   simp only [seval, EV, resOf]
 · have g' : ¬ (x : Int) < 100 := by omega
   simp only [seval, EV, r61_2, dF g']
   refine hK .norm _ _ (C.cf <| C.skip (C.seq fun K hK => ?_))
   simp only [r61_4_eq]
   refine hK _ _ _ (C.seq fun K hK => ?_)
   have k1 := Keep.new h (.rw z24 (some 113))
   have b1 := Has.new h (.rw z24 (some 113))
   have hg1 : Has (h.new (.rw z24 (some 113))) 1 (.ro powC) := hG.keep0 k1
   generalize h.new (.rw z24 (some 113)) = h1 at *
   simp only [seval, EV, r61_5]
   refine numDigits_law L n (by omega) hx hg1 _ fun r h2 hq => ?_
   obtain ⟨rfl, rfl⟩ := hq
   have hd : (dec x).length ≤ 20 := dec_len 19 x (by omega)
   refine hK _ _ _ (C.seq fun K hK => ?_)
   simp only [seval, EV, r61_6, cut24 _ _ (show (dec x).length ≤ 24 by omega)]
   refine base10_law L (n + 1) (A := List.replicate (dec x).length (.int .u8 (0))) (rest := List.replicate (24 - (dec x).length) (.int .u8 (0))) (ty := some 113) hx (by simp) hL ?_ _ fun r h2 hq => ?_
   · rw [show z24 = List.replicate 24 (.int .u8 (0)) from rfl] at b1
     rw [List.replicate_append_replicate, show (dec x).length + (24 - (dec x).length) = 24 by omega]; exact b1
   obtain ⟨b2, k2⟩ := hq
   refine hK _ _ _ (C.seq fun K hK => ?_)
   have bs : bytesStr h2 (.slice (some ⟨h.next, 0, none⟩) (dec x).length 24) = some (.string ⟨(dec x).toArray⟩) := by
     simp only [bytesStr]
     rw [row_has b2 rfl (by simp), List.drop_zero, List.take_append_of_le_length (by simp), List.take_of_length_le (by simp)]
     simp only [bytesOf_bv]
   simp only [seval, EV, r61_7, cut24 _ _ (show (dec x).length ≤ 24 by omega), bs]
   refine hK _ _ _ (C.ret ⟨.inr rfl, _, rfl, ?_, (k1.trans (S' := (· = h.next)) k2 fun k hk e => by omega)⟩)
   simp only [seval, EV, resOf]
theorem format2_law (L n : Nat) (hL : 1000 ≤ L) {x : Nat} (hx : x < 18446744073709551616) {h : H} (hG : Has h 1 (.ro powC)) :
   Sp (CF L (n + 4)) 42 [.int .u64 (x : Int), .int .i64 10] h fun r h' => r = .string ⟨(dec x).toArray⟩ ∧ Keep nobody h h' := by
 refine Sp.body f42 (by simp) ?_
 unfold c42
 refine C.seq fun K hK => ?_
 simp only [seval, EV, r42_0]
 refine hK .norm _ _ (C.seq fun K hK => ?_)
 simp only [seval, EV, r42_1]
 refine format_law L n hL hx hG _ fun r h1 hq => ?_
 obtain ⟨rfl, k1⟩ := hq
 refine hK _ _ _ (C.ret ⟨.inr rfl, _, rfl, ?_, k1⟩)
 simp only [seval, EV, resOf]
def pb (b : UInt8) : Bool := decide (33 ≤ b.toNat) && decide (b.toNat ≤ 126)
def plainL (l : List UInt8) : Bool := l.all pb
theorem get_at {s : ByteArray} {i : Nat} {b : UInt8} (h : s.data.toList[i]? = some b) : s.get! i = b := by
 obtain ⟨d⟩ := s
 show d[i]! = b
 have h' : d[i]? = some b := by simpa using h
 rw [getElem!_def, h']
theorem dec_low {s : ByteArray} {i : Nat} (h : (s.get! i).toNat < 128) : Utf8.decode s i = ((s.get! i).toNat, 1) := by
 unfold Utf8.decode
 simp only [Nat.add_zero]
 rw [if_pos h]
theorem dec_high {s : ByteArray} {i : Nat} (h : 128 ≤ (s.get! i).toNat) : 128 ≤ (Utf8.decode s i).1 := by
 unfold Utf8.decode
 simp only [Nat.add_zero]
 rw [if_neg (by omega)]
 repeat' split
 all_goals simp only [Utf8.runeError]
 all_goals first | omega | (simp only [ge_iff_le, Bool.and_eq_true, decide_eq_true_eq] at *; omega)
theorem bool_eq : ∀ a b : Bool, binV Tryz.prog .eql 4 false (.bool a) (.bool b) = some (.bool (a == b))
 | true, true => by kernel_rfl
 | true, false => by kernel_rfl
 | false, true => by kernel_rfl
 | false, false => by kernel_rfl
theorem rune_law (L n : Nat) (c : Nat) (h : H) : Sp (CF L (n + 1)) 36 [.int .i32 (c : Int)] h fun r h' => r = .bool (decide ((c : Int) < 33) || decide ((126 : Int) < (c : Int))) ∧ h' = h := by
 refine Sp.body f36 (by simp) ?_
 unfold c36
 refine C.seq fun K hK => ?_
 simp only [EV, r36_0]
 refine hK .norm _ _ (C.seq fun K hK => ?_)
 by_cases g1 : (c : Int) < 33
 · simp only [seval, EV, r36_1, dT g1]
   refine hK _ _ _ (C.ret ⟨.inr rfl, _, rfl, ?_, rfl⟩)
   simp only [seval, EV, resOf]
   rw [dT g1]; rfl
 · simp only [seval, ↓EW, EV, r36_1, dF g1]
   refine hK _ _ _ (C.ret ⟨.inr rfl, _, rfl, ?_, rfl⟩)
   simp only [seval, EV, resOf]
   rw [dF g1]; rfl
theorem nextStr_some {h : H} {s : ByteArray} {pos : Nat} {put : AObj → H} {K : KV} (hp : pos < s.size) : nextStr h s pos put K = K (.tuple #[.bool true, .int .i64 (Int.ofNat pos), .int .i32 (Int.ofNat (Utf8.decode s pos).1)]) (put (.sit s (pos + (Utf8.decode s pos).2))) := by
 unfold nextStr
 rw [Nat.ble_eq_true_of_le hp]
theorem nextStr_none {h : H} {s : ByteArray} {pos : Nat} {put : AObj → H} {K : KV} (hp : ¬ pos < s.size) : nextStr h s pos put K = K (.tuple #[.bool false]) h := by
 unfold nextStr
 rw [show Nat.ble (pos + 1) s.size = false by rw [Bool.eq_false_iff]; intro e; exact hp (Nat.le_of_ble_eq_true e)]
theorem tup3 (i : Nat) (a b c : Value) : tupNth i (.tuple #[a, b, c]) = [a, b, c][i]? := tupNth_tuple i [a, b, c]
theorem tup1 (i : Nat) (a : Value) : tupNth i (.tuple #[a]) = [a][i]? := tupNth_tuple i [a]
theorem runes_law (L n : Nat) {s : ByteArray} (hs : s.size < L) (h0 : H) :
   Sp (CF L (n + 2)) 58 [.string s, .func (.func 36) #[] #[], .bool true] h0 fun r h' => (∃ i : Int, r = .int .i64 i ∧ (i < 0 ↔ plainL s.data.toList = true)) ∧ Keep nobody h0 h' := by
 have hsl : s.size = s.data.toList.length := rfl
 refine Sp.body f58 (by simp) ?_
 unfold c58
 refine C.seq fun K hK => ?_
 simp only [seval, EV, r58_0]
 refine hK .norm _ _ (C.seq (C.seq fun K hK => ?_))
 simp only [seval, EV, r58_1, rangeStr]
 have k1 := Keep.new h0 (.sit s 0)
 have b1 := Has.new h0 (.sit s 0)
 generalize h0.new (.sit s 0) = h1 at *
 refine hK _ _ _ (C.block ?_)
 refine (C.loop (L := L) (fun k tm h' => ∃ pos, k = s.size - pos ∧ pos ≤ s.size ∧ tg tm 1 = .func (.func 36) #[] #[] ∧ tg tm 2 = .bool true ∧ tg tm 10 = .pointer (some ⟨h0.next, 0, none⟩) ∧ Has h' h0.next (.sit s pos) ∧ (s.data.toList.take pos).all pb = true ∧ Keep nobody h0 h') s.size hs ⟨0, rfl, Nat.zero_le _, by simp only [seval, EV], by simp only [seval, EV], by simp only [seval, EV], b1, rfl, k1⟩ fun k tm h' hi => ?_ :
   C (loopB l58_6) _ L _ h1 fun e tm' h' => Keep nobody h0 h' ∧ (e = .exit 0 ∧ plainL s.data.toList = true ∨ e = .ret ∧ ∃ i : Int, tg tm' 6 = .int .i64 i ∧ 0 ≤ i ∧ plainL s.data.toList = false)).mono ?_
 · obtain ⟨pos, hk, hp, t1, t2, t10, b, hall, kp⟩ := hi
   refine C.seq fun K hK => ?_
   have hn : ∀ K : KV, nextV true h' (tg tm 10) K = nextStr h' s pos (h'.put h0.next) K := fun K => by
     rw [t10]
     simp only [nextV, b.2]
   by_cases g : pos < s.size
   · obtain ⟨c, hc⟩ : ∃ c, s.data.toList[pos]? = some c := ⟨_, List.getElem?_eq_getElem (by omega)⟩
     have hget := get_at hc
     simp only [r58_2, hn, nextStr_some g, tup3, EV]
     refine hK _ _ _ (C.seq (C.ct (C.skip (C.block (C.seq fun K hK => ?_)))))
     simp only [seval, EV, r58_3, tup3]
     refine hK _ _ _ (C.seq fun K hK => ?_)
     have k2 := Keep.put h' h0.next (.sit s (pos + (Utf8.decode s pos).2))
     have b2 := Has.put (x := .sit s (pos + (Utf8.decode s pos).2)) b.1
     have k3 : Keep nobody h0 (h'.put h0.next (.sit s (pos + (Utf8.decode s pos).2))) := kp.trans k2 fun k hk e => by omega
     generalize h'.put h0.next (.sit s (pos + (Utf8.decode s pos).2)) = h2 at *
     simp only [seval, EV, r58_4, t1, t2, funcArgs, goCall]
     refine rune_law L n _ h2 _ fun r h3 hq => ?_
     obtain ⟨rfl, rfl⟩ := hq
     simp only [EV, bool_eq]
     by_cases gp : pb c = true
     · have gp' := gp
       unfold pb at gp'
       simp only [Bool.and_eq_true, decide_eq_true_eq] at gp'
       have hd : Utf8.decode s pos = (c.toNat, 1) := by rw [dec_low (by rw [hget]; omega), hget]
       rw [hd] at b2 ⊢
       have e1 : (decide ((c.toNat : Int) < 33) || decide ((126 : Int) < (c.toNat : Int))) = false := by
         rw [dF (by omega), dF (by omega)]; rfl
       simp only [e1]
       refine hK _ _ _ (C.cond false (by simp only [seval, EV]; rfl) (fun g => by cases g) fun _ => C.skip ⟨s.size - (pos + 1), by omega, pos + 1, rfl, by omega, by simp only [seval, EV, t1], by simp only [seval, EV, t2], by simp only [seval, EV, t10], b2, ?_, k3⟩)
       rw [List.take_add_one, List.all_append, hall, hc]
       simp [gp]
     · have gp' : pb c = false := by simpa using gp
       have hd : (decide ((((Utf8.decode s pos).1 : Nat) : Int) < 33) || decide ((126 : Int) < (((Utf8.decode s pos).1 : Nat) : Int))) = true := by
         by_cases hc8 : c.toNat < 128
         · rw [dec_low (by rw [hget]; exact hc8), hget]
           unfold pb at gp'
           rw [Bool.and_eq_false_iff, decide_eq_false_iff_not, decide_eq_false_iff_not] at gp'
           simp only [Bool.or_eq_true, decide_eq_true_eq]
           omega
         · have := dec_high (s := s) (i := pos) (by rw [hget]; omega)
           simp only [Bool.or_eq_true, decide_eq_true_eq]
           omega
       simp only [Int.ofNat_eq_natCast, hd]
       refine hK _ _ _ (C.cond true (by simp only [seval, EV]; rfl) (fun _ => C.seq fun K hK => ?_) fun g => by cases g)
       simp only [seval, EV, r58_5]
       refine hK _ _ _ (C.ret ⟨k3, .inr ⟨rfl, (pos : Int), by simp only [seval, EV], by omega, ?_⟩⟩)
       unfold plainL
       rw [List.all_eq_false]
       exact ⟨c, List.mem_of_getElem? hc, by simp [gp']⟩
   · simp only [r58_2, hn, nextStr_none g, tup1, EV]
     refine hK _ _ _ (C.seq (C.cf <| C.exit ⟨kp, .inl ⟨rfl, ?_⟩⟩))
     rw [List.take_of_length_le (by omega)] at hall
     exact hall
 · rintro e tm' h' ⟨kp, (⟨rfl, hp⟩ | ⟨rfl, i, t6, hi, hp⟩)⟩
   · show if 0 = 0 then _ else _
     rw [if_pos rfl]
     refine C.seq fun K hK => ?_
     simp only [r58_6]
     refine hK _ _ _ (C.ret ⟨.inr rfl, _, rfl, ⟨-1, by simp only [seval, EV, resOf], by simp [hp]⟩, kp⟩)
   · exact ⟨.inr rfl, _, rfl, ⟨i, by simp only [resOf, t6], by rw [hp]; simp; omega⟩, kp⟩
theorem ixstr {s : ByteArray} {i : Nat} {c : UInt8} (h : s.data.toList[i]? = some c) : indexStr (.string s) (.int .i64 (i : Int)) = some (.int .u8 (c.toNat : Int)) := by
 simp only [indexStr, asNat_nat, nth_eq, h]
 rfl
theorem f83 : funcB Tryz.prog (maskOf masks) outside NG 83 = ⟨fun _ _ args h K => xK (xVal NG .same h args) K⟩ := by kernel_rfl
theorem f84 : funcB Tryz.prog (maskOf masks) outside NG 84 = ⟨fun _ _ args h K => xK (xVal NG (.noZero 5) h args) K⟩ := by kernel_rfl
theorem callF_succ {P : Program} {Sf : Nat → Nat} {X : List (Nat × XK)} {NG L n f : Nat} {args : List Value} {h : H} {K : KV} : callF P Sf X NG L (n + 1) f args h K = (funcB P Sf X NG f).f (callF P Sf X NG L n) L args h K := rfl
theorem same_law (L n : Nat) (v : Value) (h : H) : Sp (CF L (n + 1)) 83 [v] h fun r h' => r = v ∧ h' = h := fun K hK => by
 unfold CF
 rw [callF_succ, f83]
 exact hK v h ⟨rfl, rfl⟩
theorem xNoZero (NG m : Nat) (hm : m ≤ 281474976710656) (h : H) : xVal NG (.noZero 5) h [.int .i64 (m : Int)] = some (.slice (some ⟨h.next, 0, none⟩) m (opCap m 1), h.new (.op [] 1 (some 5))) := by
 unfold xVal
 simp only
 show (match Nat.ble m 281474976710656 with | true => _ | false => none) = _
 rw [Nat.ble_eq_true_of_le hm]
theorem noZero_law (L n : Nat) (m : Nat) (hm : m ≤ 281474976710656) (h : H) : Sp (CF L (n + 1)) 84 [.int .i64 (m : Int)] h fun r h' => (∃ cap, Nat.ble OPEN cap = true ∧ Nat.beq (szOf cap) 1 = true ∧ r = .slice (some ⟨h.next, 0, none⟩) m cap) ∧ h' = h.new (.op [] 1 (some 5)) := fun K hK => by
 unfold CF
 rw [callF_succ, f84]
 have e := xNoZero NG m hm h
 have o1 := opCap_open m
 have o2 := opCap_size m
 generalize opCap m 1 = cap at e o1 o2
 simp only [e, xK]
 exact hK _ _ ⟨⟨cap, o1, o2, rfl⟩, rfl⟩
def OpR (h : H) (v : Value) (l : List UInt8) : Prop := (v = .slice none 0 0 ∧ l = []) ∨ ∃ b cap, v = .slice (some ⟨b, 0, none⟩) l.length cap ∧ Nat.ble OPEN cap = true ∧ Nat.beq (szOf cap) 1 = true ∧ Has h b (.op (l.map bv) 1 (some 5))
theorem OpR.keep {S : Nat → Prop} {h h' : H} {v : Value} {l : List UInt8} (a : OpR h v l) (k : Keep S h h') (hn : ∀ b, blk v b → ¬ S b) : OpR h' v l := by
 rcases a with a | ⟨b, cap, rfl, h1, h2, h3⟩
 · exact .inl a
 · exact .inr ⟨b, cap, rfl, h1, h2, h3.keep k (hn b (by simp))⟩
theorem OpR.lt {h : H} {v : Value} {l : List UInt8} (a : OpR h v l) {b : Nat} (hb : blk v b) : b < h.next := by
 rcases a with ⟨rfl, _⟩ | ⟨b', cap, rfl, h1, h2, h3⟩
 · simp at hb
 · simp at hb; subst hb; exact h3.1
theorem tyIf_same : tyIf 5 0 (some 5) = some 5 := rfl
theorem grow_opr {S : Nat → Prop} {h h0 : H} {l m : List UInt8} (h1 : h0.next = h.next) (hk : Keep S h h0) : ∃ v' h', grow h0 (l.map bv) (m.map bv) (l.length + m.length) 1 (some 5) = some (v', h') ∧ OpR h' v' (l ++ m) ∧ Keep S h h' ∧ (∀ b, blk v' b → h.next ≤ b) := by
 refine ⟨_, _, rfl, ?_, hk.then (.new _ _), fun b hb => by simp at hb; omega⟩
 refine .inr ⟨h0.next, _, by rw [← List.length_append], opCap_open _, opCap_size _, ?_⟩
 rw [← List.map_append]; exact .new _ _
theorem append_opr {h : H} {v x : Value} {l m : List UInt8} (a : OpR h v l) (hx : Ev.Src h x m) (hsz : l.length + m.length ≤ 140737488355328) :
   ∃ v' h', appendV 5 1 1 h v x = some (v', h') ∧ OpR h' v' (l ++ m) ∧ Keep (blk v) h h' ∧ (∀ b, blk v' b → blk v b ∨ h.next ≤ b) := by
 by_cases h0 : m.length = 0
 · have : m = [] := List.length_eq_zero_iff.1 h0
   subst this
   have h1 : (∃ s l' c, v = .slice s l' c ∧ l' ≤ c) := by
     rcases a with ⟨rfl, _⟩ | ⟨b, cap, rfl, c1, _, hb⟩
     · exact ⟨_, _, _, rfl, Nat.le_refl _⟩
     · refine ⟨_, _, _, rfl, ?_⟩
       have := Nat.le_of_ble_eq_true c1; unfold OPEN at this
       have : l.length ≤ 140737488355328 := by simpa using hsz
       omega
   obtain ⟨s, l', c, rfl, h2⟩ := h1
   refine ⟨_, h, ?_, by simpa using a, .refl _ _, fun b hb => .inl hb⟩
   rw [appendV_eq hx]
   simp only [List.length_nil, appTo, Nat.ble_eq_true_of_le h2]
 · have hp : 0 < m.length := by omega
   rcases a with ⟨rfl, rfl⟩ | ⟨b, cap, rfl, c1, c2, hb⟩
   · rw [appendV_eq hx, appTo_none hp (by simpa using hsz)]
     obtain ⟨v', h', e1, e2, e3, e4⟩ := grow_opr (h := h) (h0 := h) (l := []) (m := m) rfl (Keep.refl (blk (.slice none 0 0)) h)
     exact ⟨v', h', e1, e2, e3, fun b hb => .inr (e4 b hb)⟩
   · obtain ⟨y, ys, rfl⟩ : ∃ y ys, m = y :: ys := List.exists_cons_of_length_pos hp
     rw [appendV_eq hx, appTo_open hp hsz c1, List.map_cons, appOpen_end hb (ones_bv (y :: ys)) c2, ← List.map_cons, tyIf_same]
     obtain ⟨v', h', e1, e2, e3, e4⟩ := grow_opr (h := h) (h0 := h.del b) (l := l) (m := y :: ys) rfl (S := blk (.slice (some ⟨b, 0, none⟩) l.length cap)) ((Keep.del h b).mono fun k _ e => by simp [e])
     exact ⟨v', h', e1, e2, e3, fun b hb => .inr (e4 b hb)⟩
def From (n0 : Nat) : Nat → Prop := fun b => n0 ≤ b
def Bld (n0 : Nat) (h : H) (B : Nat) (l : List UInt8) : Prop :=
 ∃ p v, Has h B (.rw [p, v] (some 74)) ∧ (p = .pointer none ∨ p = .pointer (some ⟨B, 0, none⟩)) ∧ OpR h v l ∧ n0 ≤ B ∧ ∀ b, blk v b → n0 ≤ b ∧ b ≠ B
theorem Bld.keep {n0 : Nat} {S : Nat → Prop} {h h' : H} {B : Nat} {l : List UInt8} (a : Bld n0 h B l) (k : Keep S h h') (hs : ∀ b, S b → h.next ≤ b) : Bld n0 h' B l := by
 obtain ⟨p, v, h1, h2, h3, h4, h5⟩ := a
 exact ⟨p, v, h1.keep k fun s => by have := hs _ s; have := h1.1; omega, h2, h3.keep k fun b hb s => by have := hs _ s; have := h3.lt hb; omega, h4, h5⟩
theorem ptr_none : binV Tryz.prog .eql 72 true (.pointer none) (.pointer none) = some (.bool true) := by kernel_rfl
theorem ptr_some (a : Addr) : binV Tryz.prog .eql 72 true (.pointer (some a)) (.pointer none) = some (.bool false) := by kernel_rfl
theorem ptr_self (B : Nat) : binV Tryz.prog .neq 72 false (.pointer (some ⟨B, 0, none⟩)) (.pointer (some ⟨B, 0, none⟩)) = some (.bool false) := by
 have e : binV Tryz.prog .neq 72 false (.pointer (some ⟨B, 0, none⟩)) (.pointer (some ⟨B, 0, none⟩)) = boolRes .neq (match sameAt ⟨B, 0, none⟩ ⟨B, 0, none⟩ with | some r => some r | none => none) := by kernel_rfl
 rw [e]
 have : sameAt ⟨B, 0, none⟩ ⟨B, 0, none⟩ = some true := by
   unfold sameAt
   simp only [Nat.beq_refl]
   rfl
 rw [this]; rfl
theorem nilChk_some (a : Addr) : nilChk (.pointer (some a)) = some (.pointer (some a)) := rfl
theorem copyCheck_law (L n : Nat) {h : H} {B : Nat} {p v : Value} (hb : Has h B (.rw [p, v] (some 74))) (hp : p = .pointer none ∨ p = .pointer (some ⟨B, 0, none⟩)) :
   Sp (CF L (n + 2)) 59 [.pointer (some ⟨B, 0, none⟩)] h fun r h' => Has h' B (.rw [.pointer (some ⟨B, 0, none⟩), v] (some 74)) ∧ Keep (· = B) h h' := by
 refine Sp.body f59 (by simp) ?_
 unfold c59
 refine C.seq fun K hK => ?_
 have l0 : ∀ s, loadOne h (.pointer (some ⟨B, 0, s⟩)) = some p := fun s => loadOne_has hb rfl
 rcases hp with rfl | rfl
 · simp only [seval, EV, r59_0, nilChk_some, l0, ptr_none]
   refine hK .norm _ _ (C.ct (fun K hK => ?_))
   have e1 : ptrUns h (.pointer (some ⟨B, 0, none⟩)) = some (.pointer (some ⟨B, 0, none⟩)) := by
     simp only [ptrUns, hb.cells]; rfl
   simp only [seval, EV, r59_1, e1]
   refine same_law L n _ h _ fun r h' hq => ?_
   obtain ⟨rfl, rfl⟩ := hq
   have e2 : unsPtr 74 2 h' (.pointer (some ⟨B, 0, none⟩)) = some (.pointer (some ⟨B, 0, none⟩)) := by
     simp only [unsPtr, hb.2]; rfl
   have s1 := store_one (s := none) (v := .pointer (some ⟨B, 0, none⟩)) hb rfl rfl (show putAt [.pointer none, v] 0 [.pointer (some ⟨B, 0, none⟩)] = some [.pointer (some ⟨B, 0, none⟩), v] from rfl)
   simp only [EV, e2, nilChk_some, s1]
   exact hK .norm _ _ ⟨.inl rfl, _, rfl, Has.put hb.1, .put _ _ _⟩
 · simp only [seval, EV, r59_0, nilChk_some, l0, ptr_some]
   refine hK .norm _ _ (C.cf <| C.seq fun K hK => ?_)
   simp only [seval, EV, r59_2, nilChk_some, l0, ptr_self]
   refine hK .norm _ _ (C.cf <| C.skip ⟨.inl rfl, _, rfl, hb, .refl _ _⟩)
theorem writeString_law (L n : Nat) {n0 : Nat} {h : H} {B : Nat} {l m : List UInt8} (a : Bld n0 h B l) (hsz : l.length + m.length ≤ 1000000) :
   Sp (CF L (n + 3)) 40 [.pointer (some ⟨B, 0, none⟩), .string ⟨m.toArray⟩] h fun r h' => Bld n0 h' B (l ++ m) ∧ Keep (From n0) h h' := by
 obtain ⟨p, v, hb, hp, ho, hB, hbl⟩ := a
 refine Sp.body f40 (by simp) ?_
 unfold c40
 refine C.seq fun K hK => ?_
 simp only [seval, EV, r40_0]
 refine hK .norm _ _ (C.seq fun K hK => ?_)
 simp only [seval, EV, r40_1]
 refine copyCheck_law L n hb hp _ fun r h1 hq => ?_
 obtain ⟨b1, k1⟩ := hq
 have o1 := ho.keep k1 fun b hb e => (hbl b hb).2 e
 refine hK _ _ _ (C.seq fun K hK => ?_)
 have l1 : ∀ s, loadOne h1 (.pointer (some ⟨B, 1, s⟩)) = some v := fun s => loadOne_has b1 rfl
 obtain ⟨v2, h2, e2, o2, k2, n2⟩ := append_opr o1 (str_src h1 ⟨m.toArray⟩) (by show l.length + m.length ≤ _; omega)
 have b2 := b1.keep k2 fun hb => (hbl B hb).2 rfl
 have hv2 : ∃ s c d, v2 = .slice s c d := by
   rcases o2 with ⟨rfl, _⟩ | ⟨b, cap, rfl, _⟩ <;> exact ⟨_, _, _, rfl⟩
 have s1 : storeV 1 h2 (.pointer (some ⟨B, 1, none⟩)) v2 = some (h2.put B (.rw [.pointer (some ⟨B, 0, none⟩), v2] (some 74))) := by
   obtain ⟨s, c, d, rfl⟩ := hv2
   exact store_one b2 rfl rfl rfl
 simp only [seval, EV, r40_2, nilChk_some, l1, e2, s1]
 refine hK _ _ _ (C.seq fun K hK => ?_)
 simp only [seval, EV, r40_3, lenStr_string]
 have n3 : ∀ b, blk v2 b → n0 ≤ b ∧ b ≠ B := fun b hb => by
   rcases n2 b hb with e | e
   · exact hbl b e
   · have := k1.next; have := b1.1; have := hb; exact ⟨by omega, by omega⟩
 have k3 := Keep.put h2 B (.rw [.pointer (some ⟨B, 0, none⟩), v2] (some 74))
 refine hK _ _ _ (C.ret ⟨.inr rfl, _, rfl, ⟨_, v2, Has.put b2.1, .inr rfl, o2.keep k3 fun b hb e => (n3 b hb).2 e, hB, n3⟩, ?_⟩)
 refine ((k1.mono (S' := From n0) fun _ _ e => ?_).trans k2 fun b _ hb => (hbl b hb).1).trans k3 fun b _ e => ?_
 · rw [e]; exact hB
 · rw [e]; exact hB
theorem bytesIn_bv : ∀ l : List UInt8, bytesIn (l.map bv) = some l
 | [] => rfl
 | x :: l => by
   have h : x.toNat ≤ 255 := by have := x.toNat_lt; omega
   show (match Nat.ble x.toNat 255 with | true => (match bytesIn (l.map bv) with | some t => some (UInt8.ofNat x.toNat :: t) | none => none) | false => none) = _
   rw [Nat.ble_eq_true_of_le h, bytesIn_bv l]
   simp
theorem takeN_all {α : Type} (l : List α) : takeN l l.length = some l := by rw [takeN_eq _ _ (Nat.le_refl _), List.take_length]
theorem string_law (L n : Nat) {n0 : Nat} {h : H} {B : Nat} {l : List UInt8} (a : Bld n0 h B l) (h0 : l ≠ []) (hsz : l.length ≤ 1000000) :
   Sp (CF L (n + 1)) 41 [.pointer (some ⟨B, 0, none⟩)] h fun r h' => r = .string ⟨l.toArray⟩ ∧ Keep (From n0) h h' := by
 obtain ⟨p, v, hb, hp, ho, hB, hbl⟩ := a
 refine Sp.body f41 (by simp) ?_
 unfold c41
 refine C.seq fun K hK => ?_
 simp only [EV, r41_0]
 refine hK .norm _ _ (C.seq fun K hK => ?_)
 rcases ho with ⟨_, rfl⟩ | ⟨b, cap, rfl, c1, c2, hx⟩
 · exact absurd rfl h0
 have hlen : 0 < l.length := List.length_pos_iff.2 h0
 have kk : Keep nobody h (⟨h.objs, h.next + 12⟩ : H) := ⟨Nat.le_add_right _ _, fun _ _ _ => rfl⟩
 have hb1 := hb.keep0 kk
 have hx1 := hx.keep0 kk
 have l1 : ∀ s, loadOne (⟨h.objs, h.next + 12⟩ : H) (.pointer (some ⟨B, 1, s⟩)) = some (.slice (some ⟨b, 0, none⟩) l.length cap) := fun s => loadOne_has hb1 rfl
 have d1 : dataV (.slice (some ⟨b, 0, none⟩) l.length cap) = some (.pointer (some ⟨b, 0, none⟩)) := by
   simp only [dataV, c1]
   rw [Nat.ble_eq_true_of_le (Nat.le_trans hlen (Nat.le_max_left _ _))]
 have st : strOf 5 (⟨h.objs, h.next + 12⟩ : H) (.pointer (some ⟨b, 0, none⟩)) (.int .i64 (l.length : Int)) = some (.string ⟨l.toArray⟩, (⟨h.objs, h.next + 12⟩ : H).put b (.ro (l.map bv))) := by
   obtain ⟨y, ys, rfl⟩ := List.exists_cons_of_ne_nil h0
   show (match Nat.ble (ys.length + 1) 9223372036854775807 with | true => strAt 5 (⟨h.objs, h.next + 12⟩ : H) (ys.length + 1) (.pointer (some ⟨b, 0, none⟩)) | false => none) = _
   rw [Nat.ble_eq_true_of_le (by simp at hsz; omega)]
   have hx2 := hx1.2
   have tk : takeN ((y :: ys).map bv) (ys.length + 1) = some ((y :: ys).map bv) := by
     have := takeN_all ((y :: ys).map bv)
     simpa using this
   simp only [strAt, hx2]
   show (match Nat.beq 5 5, takeN ((y :: ys).map bv) (ys.length + 1) with | true, some l => (match bytesIn l with | some bs => some (Value.string ⟨bs.toArray⟩, (⟨h.objs, h.next + 12⟩ : H).put b (.ro ((y :: ys).map bv))) | none => none) | _, _ => none) = _
   rw [tk]
   show (match bytesIn ((y :: ys).map bv) with | some bs => some (Value.string ⟨bs.toArray⟩, (⟨h.objs, h.next + 12⟩ : H).put b (.ro ((y :: ys).map bv))) | none => none) = _
   rw [bytesIn_bv]
 simp only [seval, EV, r41_1, nilChk_some, l1, d1, lenSl_slice, st]
 refine hK _ _ _ (C.ret ⟨.inr rfl, _, rfl, ?_, ?_⟩)
 · simp only [seval, EV, resOf]
 · exact (kk.mono fun _ _ e => e.elim).trans (.put _ _ _) fun k _ e => by
     rw [e]; exact (hbl b (by simp)).1
theorem capV_zero : capV (.slice none 0 0) = some (.int .i64 0) := rfl
theorem cut_open (b m cap : Nat) (h1 : Nat.ble OPEN cap = true) (h2 : Nat.beq (szOf cap) 1 = true) : ∃ cap', sliceSl 1 (.slice (some ⟨b, 0, none⟩) m cap) none (some (.int .i64 0)) none = some (.slice (some ⟨b, 0, none⟩) 0 cap') ∧ Nat.ble OPEN cap' = true ∧ Nat.beq (szOf cap') 1 = true := by
 have e : bnds none (some (.int .i64 0)) none m (Nat.max m (lbOf cap)) = some (0, 0, Nat.max m (lbOf cap)) := by
   simp only [bnds, bnd, asNat_zero]
   rw [Nat.ble_eq_true_of_le (Nat.zero_le _)]
 simp only [sliceSl, h1, h2, e]
 exact ⟨_, rfl, opCap_open _, opCap_size _⟩
theorem grow0_law (L n : Nat) {n0 : Nat} {h : H} {B m : Nat} (hb : Has h B (.rw [.pointer (some ⟨B, 0, none⟩), .slice none 0 0] (some 74))) (hB : n0 ≤ B) (hm : m ≤ 1000000) :
   Sp (CF L (n + 2)) 60 [.pointer (some ⟨B, 0, none⟩), .int .i64 (m : Int)] h fun r h' => Bld n0 h' B [] ∧ Keep (From n0) h h' := by
 refine Sp.body f60 (by simp) ?_
 unfold c60
 refine C.seq fun K hK => ?_
 have kk : Keep nobody h (⟨h.objs, h.next + 16⟩ : H) := ⟨Nat.le_add_right _ _, fun _ _ _ => rfl⟩
 have hb1 := hb.keep0 kk
 have l1 : ∀ s, loadOne (⟨h.objs, h.next + 16⟩ : H) (.pointer (some ⟨B, 1, s⟩)) = some (.slice none 0 0) := fun s => loadOne_has hb1 rfl
 have w1 : IntKind.i64.wrap ((0 : Int) + (m : Int)) = (m : Int) := by
   rw [Int.zero_add]; exact wrap_eq _ _ (by show (-9223372036854775808 : Int) ≤ _; omega) (by show (m : Int) ≤ 9223372036854775807; omega)
 have w0 : IntKind.i64.wrap (2 * (0 : Int)) = 0 := rfl
 simp only [↓reduceIte, EV, Nat.reduceAdd, Nat.reduceEqDiff, r60_0, nilChk_some, l1, capV_zero, w0, w1, lenSl_slice]
 refine noZero_law L n m (by omega) _ _ fun r h2 hq => ?_
 obtain ⟨⟨cap0, o1, o2, rfl⟩, rfl⟩ := hq
 have k2 := Keep.new (⟨h.objs, h.next + 16⟩ : H) (.op [] 1 (some 5))
 have hb2 := hb1.keep0 k2
 have b2 := Has.new (⟨h.objs, h.next + 16⟩ : H) (.op [] 1 (some 5))
 have l2 : ∀ s, loadOne ((⟨h.objs, h.next + 16⟩ : H).new (.op [] 1 (some 5))) (.pointer (some ⟨B, 1, s⟩)) = some (.slice none 0 0) := fun s => loadOne_has hb2 rfl
 have hO : hO (loadOne ((⟨h.objs, h.next + 16⟩ : H).new (.op [] 1 (some 5))) (.pointer (some ⟨B, 1, none⟩))) (.slice none 0 0) true = true := by
   rw [l2]; rfl
 have k3 : Keep nobody h ((⟨h.objs, h.next + 16⟩ : H).new (.op [] 1 (some 5))) := kk.then k2
 obtain ⟨cap, hcut, hopn, hsz⟩ := cut_open (h.next + 16) m cap0 o1 o2
 simp only [show ((0 : Nat) : Int) = 0 from rfl, hO, Bool.and_true, andB_true, hcut, kO_some]
 generalize (⟨h.objs, h.next + 16⟩ : H).new (.op [] 1 (some 5)) = h3 at *
 refine hK .norm _ _ (C.seq fun K hK => ?_)
 have cp : copyV 1 h3 (.slice (some ⟨h.next + 16, 0, none⟩) 0 cap) (.slice none 0 0) = some (.int .i64 0, h3) := rfl
 simp only [seval, EV, r60_1, nilChk_some, l2, cp]
 refine hK .norm _ _ fun K hK => ?_
 have s1 := store_one (s := none) (o := 1) (v := .slice (some ⟨h.next + 16, 0, none⟩) 0 cap) hb2 rfl rfl (show putAt [Value.pointer (some ⟨B, 0, none⟩), .slice none 0 0] 1 [Value.slice (some ⟨h.next + 16, 0, none⟩) 0 cap] = some [Value.pointer (some ⟨B, 0, none⟩), .slice (some ⟨h.next + 16, 0, none⟩) 0 cap] from rfl)
 simp only [seval, EV, r60_2, nilChk_some, s1]
 have hne : h.next + 16 ≠ B := by have := hb.1; omega
 have k4 := Keep.put h3 B (.rw [.pointer (some ⟨B, 0, none⟩), .slice (some ⟨h.next + 16, 0, none⟩) 0 cap] (some 74))
 refine hK .norm _ _ ⟨.inl rfl, _, rfl, ⟨_, _, Has.put hb2.1, .inr rfl, .inr ⟨h.next + 16, cap, rfl, hopn, hsz, b2.keep k4 hne⟩, hB, fun b hb' => ?_⟩, (k3.mono fun _ _ e => e.elim).trans k4 fun k _ e => by rw [e]; exact hB⟩
 simp only [blk_some] at hb'
 have := hb.1
 omega
theorem grow_law (L n : Nat) {n0 : Nat} {h : H} {B m : Nat} (hb : Has h B (.rw [.pointer none, .slice none 0 0] (some 74))) (hB : n0 ≤ B) (hm : m ≤ 1000000) (hm0 : 0 < m) :
   Sp (CF L (n + 3)) 39 [.pointer (some ⟨B, 0, none⟩), .int .i64 (m : Int)] h fun r h' => Bld n0 h' B [] ∧ Keep (From n0) h h' := by
 refine Sp.body f39 (by simp) ?_
 unfold c39
 refine C.seq fun K hK => ?_
 simp only [seval, EV, r39_0]
 refine copyCheck_law L n hb (.inl rfl) _ fun r h1 hq => ?_
 obtain ⟨b1, k1⟩ := hq
 refine hK .norm _ _ (C.seq (C.seq fun K hK => ?_))
 have g1 : ¬ (m : Int) < 0 := by omega
 simp only [seval, EV, r39_1, dF g1]
 refine hK .norm _ _ (C.cf <| C.skip (C.seq fun K hK => ?_))
 have kk : Keep nobody h1 (⟨h1.objs, h1.next + 13⟩ : H) := ⟨Nat.le_add_right _ _, fun _ _ _ => rfl⟩
 have b2 := b1.keep0 kk
 have l1 : ∀ s, loadOne (⟨h1.objs, h1.next + 13⟩ : H) (.pointer (some ⟨B, 1, s⟩)) = some (.slice none 0 0) := fun s => loadOne_has b2 rfl
 have w0 : IntKind.i64.wrap ((0 : Int) - 0) = 0 := rfl
 have g2 : (0 : Int) < (m : Int) := by omega
 simp only [↓reduceIte, EV, Nat.reduceEqDiff, r39_3, nilChk_some, l1, capV_zero, lenSl_slice, show ((0 : Nat) : Int) = 0 from rfl, w0, dT g2]
 refine hK .norm _ _ (C.cond true (by simp only [↓reduceIte, EV]) (fun _ => fun K hK => ?_) fun g => by cases g)
 simp only [seval, EV, r39_4]
 refine grow0_law L n b2 hB hm _ fun r h2 hq => ?_
 obtain ⟨b3, k3⟩ := hq
 refine hK .norm _ _ ⟨.inl rfl, _, rfl, b3, (k1.mono (S' := From n0) fun k _ e => ?_).trans ((kk.mono fun _ _ e => e.elim).trans k3 fun _ _ e => e) fun _ _ e => e⟩
 rw [e]; exact hB
def sv (p : List UInt8) : Value := .string ⟨p.toArray⟩
def sumL : List (List UInt8) → Nat
 | [] => 0
 | p :: r => p.length + sumL r
def joinR : List (List UInt8) → List UInt8
 | [] => []
 | p :: r => 32 :: p ++ joinR r
theorem joinR_len : ∀ r, (joinR r).length = r.length + sumL r
 | [] => rfl
 | p :: r => by
   simp only [joinR, List.length_append, List.length_cons, joinR_len r, sumL]; omega
theorem sv_len (p : List UInt8) : lenStr (sv p) = some (.int .i64 (p.length : Int)) := rfl
theorem keep_room (h : H) (n : Nat) : Keep nobody h ⟨h.objs, h.next + n⟩ := ⟨Nat.le_add_right _ _, fun _ _ _ => rfl⟩
theorem hO_self {v : Value} (hv : veq 64 v v = true) (b : Bool) : hO (some v) v b = b := by unfold hO; simp only [hv]
theorem veq_int (k : IntKind) (n : Int) : veq 64 (.int k n) (.int k n) = true := by
 show (kEq k k && iEq n n) = true
 rw [kEq_self, iEq_dec]; simp
theorem veq_str (s : ByteArray) : veq 64 (.string s) (.string s) = true := by
 show leB s.data.toList s.data.toList = true
 rw [leB_eq]; simp
theorem Bld.lt {n0 : Nat} {h : H} {B : Nat} {l : List UInt8} (a : Bld n0 h B l) : B < h.next := by
 obtain ⟨p, v, hb, _⟩ := a; exact hb.1
structure Itm.good (x : Itm) : Prop where
 ok : x.ok
 err : x.err = 0
theorem Itm.good.key {x : Itm} (g : x.good) : x.key.size ≤ 32 := by
 have := g.err
 unfold Itm.err Itm.long at this
 split at this
 · omega
 · rename_i h
   simp only [Bool.or_eq_true, decide_eq_true_eq, not_or] at h
   omega
theorem Itm.good.val {x : Itm} (g : x.good) : x.val.size ≤ 512 := by
 have := g.err
 unfold Itm.err Itm.long at this
 split at this
 · omega
 · rename_i h
   simp only [Bool.or_eq_true, decide_eq_true_eq, not_or] at h
   omega
theorem Itm.good.till {x : Itm} (g : x.good) : 0 ≤ x.till ∧ x.till ≤ 1099511627776 := by
 have := g.err
 unfold Itm.err at this
 split at this
 · omega
 · split at this
   · rename_i h
     unfold momentB at h
     simpa using h
   · omega
theorem cat_sv (t : TypeId) (c : Bool) (x y : List UInt8) (h : x.length + y.length ≤ 1000000) : binV Tryz.prog .add t c (sv x) (sv y) = some (sv (x ++ y)) := cat_eq t c x y h
def cntL (k : Nat) (num : Int) : List UInt8 := if countsB k then 32 :: dec num.toNat else []
section
variable {L n : Nat} {n0 : Nat} {h0 : H} {a : Ans} {k B b1 : Nat}
end
theorem arr_size (l : List UInt8) : (⟨l.toArray⟩ : ByteArray).size = l.length := by simp [ByteArray.size]
section
variable {L n : Nat} {h0 : H} {a : Ans} {b1 : Nat}
end
theorem mkBytes_eq (b : Nat) (l : List UInt8) : ∃ cap, mkBytes 5 b (sv l) = some (.op (l.map bv) 1 (some 5), .slice (some ⟨b, 0, none⟩) l.length cap) := ⟨_, by
 show some (AObj.op (l.map fun b => .int .u8 (Int.ofNat b.toNat)) 1 (some 5), Value.slice (some ⟨b, 0, none⟩) (⟨l.toArray⟩ : ByteArray).size _) = _
 rw [arr_size]; rfl⟩
theorem reads_new (h : H) (l : List UInt8) (ty : Option TypeId) (cap : Nat) : Reads (h.new (.op (l.map bv) 1 ty)) (.slice (some ⟨h.next, 0, none⟩) l.length cap) l :=
 .inr ⟨_, _, _, _, _, rfl, Has.new _ _, rfl, by simp, by rw [List.drop_zero, List.take_of_length_le (by simp)]⟩
section
variable {L n : Nat} {a : Ans} {b1 : Nat}
end
theorem tup2 (i : Nat) (a b : Value) : tupNth i (.tuple #[a, b]) = [a, b][i]? := tupNth_tuple i [a, b]
end Go.Proofs.YtilpiiafjehbnaaGreatDoor
set_option maxRecDepth 100000
namespace Go.Proofs.YtilpiiafjehbnaaGreatDoor
open Go.Ev Go.RowKit
theorem u3 : Tryz.prog.underlying 3 = some (.int .i64) := by kernel_rfl
section
variable {H : Type} {enc : TypeId × Value → H} {w : World} {base : Nat} {sp : Nat → Bool} {held : Bool}
end
section
variable {H : Type} {enc : TypeId × Value → H}
end
end Go.Proofs.YtilpiiafjehbnaaGreatDoor
