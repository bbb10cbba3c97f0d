import Derived.Test.YthofbmfcpfibdaaDoorWdO
set_option linter.unusedSimpArgs false
set_option linter.unusedVariables false
namespace Go.Proofs.YthofbmfcpfibdaaDoor
open Go.Ev

/-! ### the digits, in pairs -/
def digs : Nat → Nat → List UInt8
  | 0, _ => []
  | m + 1, u => digs m (u / 10) ++ [UInt8.ofNat (48 + u % 10)]
theorem dec_digs (x : Nat) : dec x = digs (dec x).length x := by
  induction x using Nat.strongRecOn with
  | _ x ih =>
    by_cases h : x < 10
    · have e : dec x = [UInt8.ofNat (48 + x)] := by unfold dec; rw [if_pos h]
      rw [e]
      show _ = [] ++ [UInt8.ofNat (48 + x % 10)]
      rw [Nat.mod_eq_of_lt h]; rfl
    · have e : dec x = dec (x / 10) ++ [UInt8.ofNat (48 + x % 10)] := by
        conv => lhs; unfold dec
        rw [if_neg h]
      rw [e, List.length_append]
      show dec (x / 10) ++ _ = digs (dec (x / 10)).length (x / 10) ++ _
      rw [← ih (x / 10) (by omega)]
theorem dec_lt (x : Nat) : x < 10 ^ (dec x).length := by
  induction x using Nat.strongRecOn with
  | _ x ih =>
    by_cases h : x < 10
    · have e : dec x = [UInt8.ofNat (48 + x)] := by unfold dec; rw [if_pos h]
      rw [e]; exact h
    · have e : dec x = dec (x / 10) ++ [UInt8.ofNat (48 + x % 10)] := by
        conv => lhs; unfold dec
        rw [if_neg h]
      rw [e, List.length_append]
      have := ih (x / 10) (by omega)
      show x < 10 ^ ((dec (x / 10)).length + 1)
      rw [Nat.pow_succ]; omega
def pairD (y : Nat) : List UInt8 := [UInt8.ofNat (48 + y / 10), UInt8.ofNat (48 + y % 10)]
theorem digs_two (m u : Nat) : digs (m + 2) u = digs m (u / 100) ++ pairD (u % 100) := by
  show digs m (u / 10 / 10) ++ [UInt8.ofNat (48 + u / 10 % 10)] ++ [UInt8.ofNat (48 + u % 10)] = _
  rw [List.append_assoc, Nat.div_div_eq_div_mul, show u / 10 % 10 = u % 100 / 10 by omega, show u % 10 = u % 100 % 10 by omega]; rfl
theorem digs_four (m u : Nat) : digs (m + 4) u = digs m (u / 10000) ++ (pairD (u % 10000 / 100) ++ pairD (u % 10000 % 100)) := by
  rw [show m + 4 = m + 2 + 2 from rfl, digs_two, digs_two, List.append_assoc, Nat.div_div_eq_div_mul, show u / 100 % 100 = u % 10000 / 100 by omega, show u % 100 = u % 10000 % 100 by omega]
theorem digs_eight (m u : Nat) : digs (m + 8) u = digs m (u / 100000000) ++ (pairD (u % 100000000 / 10000 / 100) ++ (pairD (u % 100000000 / 10000 % 100) ++ (pairD (u % 100000000 % 10000 / 100) ++ pairD (u % 100000000 % 10000 % 100)))) := by
  rw [show m + 8 = m + 4 + 4 from rfl, digs_four, digs_four, List.append_assoc, List.append_assoc, Nat.div_div_eq_div_mul, show u / 10000 % 10000 / 100 = u % 100000000 / 10000 / 100 by omega, show u / 10000 % 10000 % 100 = u % 100000000 / 10000 % 100 by omega, show u % 10000 / 100 = u % 100000000 % 10000 / 100 by omega, show u % 10000 % 100 = u % 100000000 % 10000 % 100 by omega]

def isBv (o : Option Value) (n : Nat) : Bool := match o with | some (.int .u8 (.ofNat k)) => Nat.beq k n | _ => false
theorem isBv_eq {o : Option Value} {n : Nat} (h : isBv o n = true) : o = some (.int .u8 (n : Int)) := by
  unfold isBv at h
  split at h
  · rename_i k
    rw [Nat.eq_of_beq_eq_true h]; rfl
  · cases h
def ixS (n : Nat) : Option Value := indexStr SM (.int .u32 (n : Int))
theorem allS : (List.range 100).all (fun y => isBv (ixS (y * 2)) (48 + y / 10) && isBv (ixS (y * 2 + 1)) (48 + y % 10)) = true := by kernel_rfl
theorem bv_nat (n : Nat) (h : n < 256) : bv (UInt8.ofNat n) = .int .u8 (n : Int) := by
  unfold bv
  have : (UInt8.ofNat n).toNat = n := by rw [UInt8.toNat_ofNat']; omega
  rw [this]
theorem ixS_eq {y : Nat} (h : y < 100) : ixS (y * 2) = some (bv (UInt8.ofNat (48 + y / 10))) ∧ ixS (y * 2 + 1) = some (bv (UInt8.ofNat (48 + y % 10))) := by
  have h1 := List.all_eq_true.1 allS y (List.mem_range.2 h)
  simp only [Bool.and_eq_true] at h1
  rw [bv_nat _ (by omega), bv_nat _ (by omega)]
  exact ⟨isBv_eq h1.1, isBv_eq h1.2⟩
theorem putAt_app {α : Type} : ∀ (A l : List α) (i : Nat) (ys l' : List α), putAt l i ys = some l' → putAt (A ++ l) (A.length + i) ys = some (A ++ l')
  | [], l, i, ys, l', h => by simpa using h
  | x :: A, l, i, ys, l', h => by
    show putAt (x :: (A ++ l)) ((A.length + 1) + i) ys = _
    rw [show A.length + 1 + i = (A.length + i) + 1 by omega]
    simp only [putAt, putAt_app A l i ys l' h]; rfl
theorem last_two {α : Type} (A : List α) (k : Nat) (h : A.length = k + 2) : ∃ (A' : List α) (x y : α), A = A' ++ [x, y] ∧ A'.length = k := by
  refine ⟨A.take k, A[k]'(by omega), A[k + 1]'(by omega), ?_, by simp; omega⟩
  apply List.ext_getElem?
  intro i
  by_cases h1 : i < k
  · rw [List.getElem?_append_left (by simp; omega), List.getElem?_take_of_lt h1]
  · rw [List.getElem?_append_right (by simp; omega)]
    have h2 : (A.take k).length = k := by simp; omega
    rw [h2]
    by_cases h3 : i = k
    · subst h3; simp
    by_cases h4 : i = k + 1
    · subst h4; simp [show k + 1 - k = 1 by omega]
    rw [List.getElem?_eq_none (by omega), List.getElem?_eq_none (by simp; omega)]
noncomputable def pairR (i j : Nat) (t : Nat) : CodeT := fun call _ tm ds h0 K =>
  (fun (b0 : Nat) (h : H) =>
  kO (binV Tryd.prog .sub 3 true (tg tm 4) (.int .i64 (i : Int))) ds h (fun v2 ds h =>
  kO (binV Tryd.prog .sub 3 true (tg tm 4) (.int .i64 (j : Int))) ds h (fun v5 ds h =>
  kO (binV Tryd.prog .add 46 true (tg tm t) (.int .u32 (1))) ds h (fun v7 ds h =>
  kO (indexStr SM v7) ds h (fun v8 ds h =>
  kO (indexStr SM (tg tm t)) ds h (fun v10 ds h =>
  kO (indexSl 1 (tg tm 0) v2) ds h (fun v11 ds h =>
  kH (withV undef (storeV 1 h v11 v8)) ds (fun v12 ds h =>
  kO (indexSl 1 (tg tm 0) v5) ds h (fun v13 ds h =>
  kH (withV undef (storeV 1 h v13 v10)) ds (fun v14 ds h =>
  K .norm tm ds h)))))))))) h0.next ⟨h0.objs, h0.next + 15⟩
theorem wrap_u32 (n : Nat) (h : n < 4294967296) : IntKind.u32.wrap (n : Int) = (n : Int) := wrap_eq _ _ (by show (0 : Int) ≤ _; omega) (by show (n : Int) ≤ 4294967295; omega)
theorem store_one {h : H} {b o : Nat} {s} {cs cs' : List Value} {ty : Option TypeId} {v : Value} (a : Has h b (.rw cs ty)) (hv : v.cells = #[v]) (h1 : ones [v] = true) (hp : putAt cs o [v] = some cs') :
    storeV 1 h (.pointer (some ⟨b, o, s⟩)) v = some (h.put b (.rw cs' ty)) := by
  unfold storeV
  have h2 : ones v.cells.toList = true := by rw [hv]; exact h1
  simp only [H.write, h2, a.2]
  rw [hv]
  show (match (putAt cs o [v]) with | some l => some (h.put b (.rw l ty)) | none => none) = _
  rw [hp]

/-- a row that is filled from its end -/
def Fil (h : H) (b : Nat) (ty : Option TypeId) (m : Nat) (tl rest : List Value) : Prop := ∃ A : List Value, A.length = m ∧ Has h b (.rw (A ++ (tl ++ rest)) ty)

theorem ix1 (b i nd cp : Nat) (h : i < nd) : indexSl 1 (.slice (some ⟨b, 0, none⟩) nd cp) (.int .i64 (i : Int)) = some (.pointer (some ⟨b, i, none⟩)) := by
  simp only [indexSl, asNat_nat, addOff]
  rw [Nat.ble_eq_true_of_le h]
  simp
theorem pair_step {i j t m nd cp b y : Nat} {tl rest : List Value} {ty : Option TypeId} {h : H} {tm : T Value} {call : CallT} {L : Nat} {Q : Ex → T Value → H → Prop}
    (h0 : tg tm 0 = .slice (some ⟨b, 0, none⟩) nd cp) (h4 : tg tm 4 = .int .i64 (m : Int)) (ht : tg tm t = .int .u32 ((y * 2 : Nat) : Int)) (hy : y < 100) (hi : 1 ≤ i) (hj : j = i + 1) (hm : j ≤ m) (hn : m ≤ nd) (hsz : nd < 1000)
    {m1 : Nat} (hb : Fil h b ty m1 tl rest) (hm1 : m1 = m - i + 1) (hQ : ∀ h', Keep (· = b) h h' → Fil h' b ty (m - j) ((pairD y).map bv ++ tl) rest → Q .norm tm h') :
    C ⟨pairR i j t⟩ call L tm h Q := fun K hK => by
  obtain ⟨A, hA, hb⟩ := hb
  obtain ⟨A, x0, x1, rfl, hl⟩ := last_two A (m - j) (by omega)
  have w1 : IntKind.i64.wrap ((m : Int) - (i : Int)) = ((m - j + 1 : Nat) : Int) := by
    rw [show (m : Int) - (i : Int) = ((m - j + 1 : Nat) : Int) by omega]; exact wrap_lt _ (by omega)
  have w2 : IntKind.i64.wrap ((m : Int) - (j : Int)) = ((m - j : Nat) : Int) := by
    rw [show (m : Int) - (j : Int) = ((m - j : Nat) : Int) by omega]; exact wrap_lt _ (by omega)
  have w3 : IntKind.u32.wrap (((y * 2 : Nat) : Int) + 1) = ((y * 2 + 1 : Nat) : Int) := by
    rw [show ((y * 2 : Nat) : Int) + 1 = ((y * 2 + 1 : Nat) : Int) by omega]; exact wrap_u32 _ (by omega)
  have e1 := (ixS_eq hy).1
  have e2 := (ixS_eq hy).2
  unfold ixS at e1 e2
  generalize hx0 : bv (UInt8.ofNat (48 + y / 10)) = d0 at *
  generalize hx1 : bv (UInt8.ofNat (48 + y % 10)) = d1 at *
  have hb1 : Has (⟨h.objs, h.next + 15⟩ : H) b (.rw ((A ++ [x0, x1]) ++ (tl ++ rest)) ty) := ⟨Nat.lt_of_lt_of_le hb.1 (Nat.le_add_right _ _), hb.2⟩
  have p1 : putAt ((A ++ [x0, x1]) ++ (tl ++ rest)) (m - j + 1) [d1] = some (A ++ (x0 :: d1 :: (tl ++ rest))) := by
    rw [← hl, List.append_assoc]
    exact putAt_app A _ 1 [d1] (x0 :: d1 :: (tl ++ rest)) (by cases (tl ++ rest) <;> rfl)
  have s1 := store_one (s := none) hb1 (by rw [← hx1]; rfl) (by rw [← hx1]; rfl) p1
  have hb2 := Has.put (x := .rw (A ++ (x0 :: d1 :: (tl ++ rest))) ty) hb1.1
  have p2 : putAt (A ++ (x0 :: d1 :: (tl ++ rest))) (m - j) [d0] = some (A ++ (d0 :: d1 :: (tl ++ rest))) := by
    rw [← hl]
    exact putAt_app A _ 0 [d0] (d0 :: d1 :: (tl ++ rest)) rfl
  have s2 := store_one (s := none) hb2 (by rw [← hx0]; rfl) (by rw [← hx0]; rfl) p2
  have hb3 := Has.put (x := .rw (A ++ (d0 :: d1 :: (tl ++ rest))) ty) hb2.1
  show pairR i j t call L tm [] h K = true
  simp only [pairR, EV, h0, h4, ht, w1, w2, w3, e1, e2, ix1 b (m - j + 1) nd cp (by omega), ix1 b (m - j) nd cp (by omega), s1, s2]
  refine hK _ _ _ (hQ _ ?_ ⟨A, hl, ?_⟩)
  · have k0 : Keep nobody h (⟨h.objs, h.next + 15⟩ : H) := ⟨Nat.le_add_right _ _, fun _ _ _ => rfl⟩
    have k1 := Keep.put (⟨h.objs, h.next + 15⟩ : H) b (.rw (A ++ (x0 :: d1 :: (tl ++ rest))) ty)
    have k2 := Keep.put ((⟨h.objs, h.next + 15⟩ : H).put b (.rw (A ++ (x0 :: d1 :: (tl ++ rest))) ty)) b (.rw (A ++ (d0 :: d1 :: (tl ++ rest))) ty)
    exact ((k0.mono fun _ _ h => h.elim).trans k1 fun _ _ h => h).trans k2 fun _ _ h => h
  · show Has _ b (.rw (A ++ ([bv (UInt8.ofNat (48 + y / 10)), bv (UInt8.ofNat (48 + y % 10))] ++ tl ++ rest)) ty)
    rw [hx0, hx1]
    exact hb3
end Go.Proofs.YthofbmfcpfibdaaDoor

namespace Go.Proofs.YthofbmfcpfibdaaDoor
open Go.Ev

theorem quo64 (c : Bool) (u y : Nat) (hy : 0 < y) (hu : u < 18446744073709551616) : binV Tryd.prog .quo 23 c (.int .u64 (u : Int)) (.int .u64 (y : Int)) = some (.int .u64 ((u / y : Nat) : Int)) := by
  rw [binV_quo _ _ _ _ _ (by omega), ← Int.ofNat_tdiv, wrap_u64 _ (Nat.lt_of_le_of_lt (Nat.div_le_self _ _) hu)]
theorem rem64 (c : Bool) (u y : Nat) (hy : 0 < y) : binV Tryd.prog .rem 23 c (.int .u64 (u : Int)) (.int .u64 (y : Int)) = some (.int .u64 ((u % y : Nat) : Int)) := by
  rw [binV_rem _ _ _ _ _ (by omega), ← Int.ofNat_tmod]
theorem quo32 (c : Bool) (u y : Nat) (hy : 0 < y) (hu : u < 4294967296) : binV Tryd.prog .quo 46 c (.int .u32 (u : Int)) (.int .u32 (y : Int)) = some (.int .u32 ((u / y : Nat) : Int)) := by
  rw [binV_quo _ _ _ _ _ (by omega), ← Int.ofNat_tdiv, wrap_u32 _ (Nat.lt_of_le_of_lt (Nat.div_le_self _ _) hu)]
theorem rem32 (c : Bool) (u y : Nat) (hy : 0 < y) : binV Tryd.prog .rem 46 c (.int .u32 (u : Int)) (.int .u32 (y : Int)) = some (.int .u32 ((u % y : Nat) : Int)) := by
  rw [binV_rem _ _ _ _ _ (by omega), ← Int.ofNat_tmod]
theorem mul2 (u : Nat) (hu : u < 1000000) : IntKind.u32.wrap ((u : Int) * 2) = ((u * 2 : Nat) : Int) := by
  rw [show (u : Int) * 2 = ((u * 2 : Nat) : Int) by omega]; exact wrap_u32 _ (by omega)

structure Fb (b cp nd : Nat) (ty : Option TypeId) (rest : List Value) (x : Nat) (h0 : H) (r : Nat) (kd : IntKind) (m u : Nat) (tl : List UInt8) (tm : T Value) (h : H) : Prop where
  t0 : tg tm 0 = .slice (some ⟨b, 0, none⟩) nd cp
  tr : tg tm r = .int kd (u : Int)
  t4 : tg tm 4 = .int .i64 (m : Int)
  lu : u < 10 ^ m
  l64 : u < 18446744073709551616
  le : m ≤ nd
  fil : Fil h b ty m (tl.map bv) rest
  dg : digs nd x = digs m u ++ tl
  kp : Keep (· = b) h0 h

theorem r89_7_eq : r89_7 = pairR 1 2 9 := rfl
theorem r89_8_eq : r89_8 = pairR 3 4 8 := rfl
theorem r89_9_eq : r89_9 = pairR 5 6 11 := rfl
theorem r89_10_eq : r89_10 = pairR 7 8 10 := rfl
theorem r89_17_eq : r89_17 = pairR 1 2 15 := rfl
theorem r89_18_eq : r89_18 = pairR 3 4 14 := rfl
theorem r89_23_eq : r89_23 = pairR 1 2 16 := rfl

theorem eight_law {L : Nat} {call : CallT} {b cp nd : Nat} {ty : Option TypeId} {rest : List Value} {x : Nat} {h0 : H} (hnd : nd < 1000) {m u : Nat} {tl : List UInt8} {tm : T Value} {h : H} (a : Fb b cp nd ty rest x h0 1 .u64 m u tl tm h) :
    C l89_12 call L tm h fun e tm' h' => if 8 ≤ m then e = .norm ∧ ∃ tl', Fb b cp nd ty rest x h0 1 .u64 (m - 8) (u / 100000000) tl' tm' h' else e = .exit 0 ∧ Fb b cp nd ty rest x h0 1 .u64 m u tl tm' h' := by
  obtain ⟨t0, tr, t4, lu, l64, le, fil, dg, kp⟩ := a
  by_cases g : 8 ≤ m
  · simp only [if_pos g]
    refine C.seq (C.seq fun K hK => ?_)
    have g' : (8 : Int) ≤ (m : Int) := by omega
    simp only [EV, r89_1, t4, decide_eq_true g']
    refine hK .norm _ _ (C.cond true (by simp only [↓reduceIte, EV]) (fun _ => C.skip (C.block (C.seq fun K hK => ?_))) fun g => by cases g)
    have q1 := rem64 true u 100000000 (by omega)
    have q2 := quo64 true u 100000000 (by omega) l64
    have q3 : toInt .u32 (.int .u64 ((u % 100000000 : Nat) : Int)) = some (.int .u32 ((u % 100000000 : Nat) : Int)) := by
      rw [toInt_int, wrap_u32 _ (by omega)]
    generalize hy : u % 100000000 = y at *
    have hy' : y < 100000000 := by omega
    simp only [Int.cast_ofNat_Int] at q1 q2
    simp only [↓reduceIte, EV, Nat.reduceEqDiff, r89_2, tr, q1, q3]
    refine hK _ _ _ (C.seq fun K hK => ?_)
    simp only [↓reduceIte, EV, Nat.reduceEqDiff, r89_3, tr, q2]
    refine hK _ _ _ (C.seq fun K hK => ?_)
    have q4 := quo32 true y 10000 (by omega) (by omega)
    have q5 := rem32 true y 10000 (by omega)
    simp only [Int.cast_ofNat_Int] at q4 q5
    simp only [↓reduceIte, EV, Nat.reduceEqDiff, r89_4, q4, q5]
    refine hK _ _ _ (C.seq fun K hK => ?_)
    have q6 := quo32 true (y % 10000) 100 (by omega) (by omega)
    have q7 := rem32 true (y % 10000) 100 (by omega)
    have q8 := quo32 true (y / 10000) 100 (by omega) (by omega)
    have q9 := rem32 true (y / 10000) 100 (by omega)
    simp only [Int.cast_ofNat_Int] at q6 q7 q8 q9
    simp only [↓reduceIte, EV, r89_5, q6, q7, mul2 (y % 10000 / 100) (by omega), mul2 (y % 10000 % 100) (by omega)]
    refine hK _ _ _ (C.seq fun K hK => ?_)
    simp only [↓reduceIte, EV, Nat.reduceEqDiff, r89_6, q8, q9, mul2 (y / 10000 / 100) (by omega), mul2 (y / 10000 % 100) (by omega)]
    refine hK _ _ _ (C.seq ?_)
    rw [r89_7_eq, r89_8_eq, r89_9_eq, r89_10_eq]
    refine pair_step (m := m) (nd := nd) (cp := cp) (b := b) (y := y % 10000 % 100) (ty := ty) (rest := rest) (by simp only [↓reduceIte, EV, Nat.reduceEqDiff, t0]) (by simp only [↓reduceIte, EV, Nat.reduceEqDiff, t4]) (by simp only [↓reduceIte, EV, Nat.reduceEqDiff]) (by omega) (by omega) rfl (by omega) le hnd fil (by omega) fun h1 k1 f1 => C.seq ?_
    refine pair_step (m := m) (nd := nd) (cp := cp) (b := b) (y := y % 10000 / 100) (ty := ty) (rest := rest) (by simp only [↓reduceIte, EV, Nat.reduceEqDiff, t0]) (by simp only [↓reduceIte, EV, Nat.reduceEqDiff, t4]) (by simp only [↓reduceIte, EV, Nat.reduceEqDiff]) (by omega) (by omega) rfl (by omega) le hnd f1 (by omega) fun h2 k2 f2 => C.seq ?_
    refine pair_step (m := m) (nd := nd) (cp := cp) (b := b) (y := y / 10000 % 100) (ty := ty) (rest := rest) (by simp only [↓reduceIte, EV, Nat.reduceEqDiff, t0]) (by simp only [↓reduceIte, EV, Nat.reduceEqDiff, t4]) (by simp only [↓reduceIte, EV]) (by omega) (by omega) rfl (by omega) le hnd f2 (by omega) fun h3 k3 f3 => C.seq ?_
    refine pair_step (m := m) (nd := nd) (cp := cp) (b := b) (y := y / 10000 / 100) (ty := ty) (rest := rest) (by simp only [↓reduceIte, EV, Nat.reduceEqDiff, t0]) (by simp only [↓reduceIte, EV, Nat.reduceEqDiff, t4]) (by simp only [↓reduceIte, EV, Nat.reduceEqDiff]) (by omega) (by omega) rfl (by omega) le hnd f3 (by omega) fun h4 k4 f4 => fun K hK => ?_
    have w : IntKind.i64.wrap ((m : Int) - 8) = ((m - 8 : Nat) : Int) := by
      rw [show (m : Int) - 8 = ((m - 8 : Nat) : Int) by omega]; exact wrap_lt _ (by omega)
    simp only [↓reduceIte, EV, Nat.reduceEqDiff, r89_11, t4, w]
    refine hK _ _ _ ⟨rfl, pairD (y / 10000 / 100) ++ (pairD (y / 10000 % 100) ++ (pairD (y % 10000 / 100) ++ (pairD (y % 10000 % 100) ++ tl))), ?_, ?_, ?_, ?_, ?_, ?_, ?_, ?_, ?_⟩
    · simp only [↓reduceIte, EV, Nat.reduceEqDiff, t0]
    · simp only [↓reduceIte, EV, Nat.reduceEqDiff]
    · simp only [↓reduceIte, EV]
    · have : (10 : Nat) ^ m = 10 ^ (m - 8) * 100000000 := by
        conv => lhs; rw [show m = m - 8 + 8 by omega, Nat.pow_add]
      exact Nat.div_lt_of_lt_mul (by rw [Nat.mul_comm, ← this]; exact lu)
    · exact Nat.lt_of_le_of_lt (Nat.div_le_self _ _) l64
    · omega
    · simpa only [List.map_append] using f4
    · rw [dg]
      conv => lhs; rw [show m = m - 8 + 8 by omega, digs_eight]
      simp only [List.append_assoc, hy]
    · exact (((kp.trans k1 fun _ _ h => h).trans k2 fun _ _ h => h).trans k3 fun _ _ h => h).trans k4 fun _ _ h => h
  · simp only [if_neg g]
    refine C.seq (C.seq fun K hK => ?_)
    have g' : ¬ (8 : Int) ≤ (m : Int) := by omega
    simp only [EV, r89_1, t4, decide_eq_false g']
    refine hK .norm _ _ (C.cond false (by simp only [↓reduceIte, EV]) (fun g => by cases g) fun _ => C.exit ⟨rfl, ?_⟩)
    exact ⟨by simp only [↓reduceIte, EV, Nat.reduceEqDiff, t0], by simp only [↓reduceIte, EV, Nat.reduceEqDiff, tr], by simp only [↓reduceIte, EV, Nat.reduceEqDiff, t4], lu, l64, le, fil, dg, kp⟩
end Go.Proofs.YthofbmfcpfibdaaDoor

namespace Go.Proofs.YthofbmfcpfibdaaDoor
open Go.Ev
section
variable {L : Nat} {call : CallT} {b cp nd : Nat} {ty : Option TypeId} {rest : List Value} {x : Nat} {h0 : H} {m u : Nat} {tl : List UInt8} {tm : T Value} {h : H}
theorem lt32 {m u : Nat} (lu : u < 10 ^ m) (hm : m < 8) : u < 100000000 := Nat.lt_of_lt_of_le lu (show 10 ^ m ≤ 10 ^ 8 from Nat.pow_le_pow_right (by omega) (by omega))
noncomputable def c89a : Box CodeT := ⟨seqC ⟨r89_13⟩ ⟨condC ⟨fun _ tm => tg tm 99⟩ ⟨seqC ⟨r89_14⟩ ⟨seqC ⟨r89_15⟩ ⟨seqC ⟨r89_16⟩ ⟨seqC ⟨r89_17⟩ ⟨seqC ⟨r89_18⟩ ⟨r89_19⟩⟩⟩⟩⟩⟩ skipC⟩⟩
theorem four_law (hnd : nd < 1000) (hm : m < 8) (a : Fb b cp nd ty rest x h0 12 .u32 m u tl tm h) :
    C c89a call L tm h fun e tm' h' => e = .norm ∧ ∃ m' u' tl', m' < 4 ∧ Fb b cp nd ty rest x h0 12 .u32 m' u' tl' tm' h' := by
  obtain ⟨t0, tr, t4, lu, l64, le, fil, dg, kp⟩ := a
  have hu := lt32 lu hm
  refine C.seq fun K hK => ?_
  by_cases g : 4 ≤ m
  · have g' : (4 : Int) ≤ (m : Int) := by omega
    simp only [EV, r89_13, t4, decide_eq_true g']
    refine hK .norm _ _ (C.cond true (by simp only [↓reduceIte, EV]) (fun _ => C.seq fun K hK => ?_) fun g => by cases g)
    have q1 := rem32 true u 10000 (by omega)
    have q2 := quo32 true u 10000 (by omega) (by omega)
    simp only [Int.cast_ofNat_Int] at q1 q2
    simp only [↓reduceIte, EV, Nat.reduceEqDiff, r89_14, tr, q1]
    refine hK _ _ _ (C.seq fun K hK => ?_)
    simp only [↓reduceIte, EV, Nat.reduceEqDiff, r89_15, tr, q2]
    refine hK _ _ _ (C.seq fun K hK => ?_)
    have q6 := quo32 true (u % 10000) 100 (by omega) (by omega)
    have q7 := rem32 true (u % 10000) 100 (by omega)
    simp only [Int.cast_ofNat_Int] at q6 q7
    simp only [↓reduceIte, EV, Nat.reduceEqDiff, r89_16, q6, q7, mul2 (u % 10000 / 100) (by omega), mul2 (u % 10000 % 100) (by omega)]
    refine hK _ _ _ (C.seq ?_)
    rw [r89_17_eq, r89_18_eq]
    refine pair_step (m := m) (nd := nd) (cp := cp) (b := b) (y := u % 10000 % 100) (ty := ty) (rest := rest) (by simp only [↓reduceIte, EV, Nat.reduceEqDiff, t0]) (by simp only [↓reduceIte, EV, Nat.reduceEqDiff, t4]) (by simp only [↓reduceIte, EV]) (by omega) (by omega) rfl (by omega) le hnd fil (by omega) fun h1 k1 f1 => C.seq ?_
    refine pair_step (m := m) (nd := nd) (cp := cp) (b := b) (y := u % 10000 / 100) (ty := ty) (rest := rest) (by simp only [↓reduceIte, EV, Nat.reduceEqDiff, t0]) (by simp only [↓reduceIte, EV, Nat.reduceEqDiff, t4]) (by simp only [↓reduceIte, EV, Nat.reduceEqDiff]) (by omega) (by omega) rfl (by omega) le hnd f1 (by omega) fun h2 k2 f2 => fun K hK => ?_
    have w : IntKind.i64.wrap ((m : Int) - 4) = ((m - 4 : Nat) : Int) := by
      rw [show (m : Int) - 4 = ((m - 4 : Nat) : Int) by omega]; exact wrap_lt _ (by omega)
    simp only [↓reduceIte, EV, Nat.reduceEqDiff, r89_19, t4, w]
    refine hK _ _ _ ⟨rfl, m - 4, u / 10000, pairD (u % 10000 / 100) ++ (pairD (u % 10000 % 100) ++ tl), by omega, ?_, ?_, ?_, ?_, ?_, ?_, ?_, ?_, ?_⟩
    · simp only [↓reduceIte, EV, Nat.reduceEqDiff, t0]
    · simp only [↓reduceIte, EV, Nat.reduceEqDiff]
    · simp only [↓reduceIte, EV]
    · have : (10 : Nat) ^ m = 10 ^ (m - 4) * 10000 := by
        conv => lhs; rw [show m = m - 4 + 4 by omega, Nat.pow_add]
      exact Nat.div_lt_of_lt_mul (by rw [Nat.mul_comm, ← this]; exact lu)
    · exact Nat.lt_of_le_of_lt (Nat.div_le_self _ _) l64
    · omega
    · simpa only [List.map_append] using f2
    · rw [dg]
      conv => lhs; rw [show m = m - 4 + 4 by omega, digs_four]
      simp only [List.append_assoc]
    · exact (kp.trans k1 fun _ _ h => h).trans k2 fun _ _ h => h
  · have g' : ¬ (4 : Int) ≤ (m : Int) := by omega
    simp only [EV, r89_13, t4, decide_eq_false g']
    refine hK .norm _ _ (C.cond false (by simp only [↓reduceIte, EV]) (fun g => by cases g) fun _ => C.skip ⟨rfl, m, u, tl, by omega, ?_⟩)
    exact ⟨by simp only [↓reduceIte, EV, Nat.reduceEqDiff, t0], by simp only [↓reduceIte, EV, Nat.reduceEqDiff, tr], by simp only [↓reduceIte, EV, Nat.reduceEqDiff, t4], lu, l64, le, fil, dg, kp⟩
noncomputable def c89b : Box CodeT := ⟨seqC ⟨r89_20⟩ ⟨condC ⟨fun _ tm => tg tm 139⟩ ⟨seqC ⟨r89_21⟩ ⟨seqC ⟨r89_22⟩ ⟨seqC ⟨r89_23⟩ ⟨r89_24⟩⟩⟩⟩ skipC⟩⟩
theorem two_law (hnd : nd < 1000) (hm : m < 4) (a : Fb b cp nd ty rest x h0 12 .u32 m u tl tm h) :
    C c89b call L tm h fun e tm' h' => e = .norm ∧ ∃ m' u' tl', m' < 2 ∧ Fb b cp nd ty rest x h0 12 .u32 m' u' tl' tm' h' := by
  obtain ⟨t0, tr, t4, lu, l64, le, fil, dg, kp⟩ := a
  have hu := lt32 lu (by omega)
  refine C.seq fun K hK => ?_
  by_cases g : 2 ≤ m
  · have g' : (2 : Int) ≤ (m : Int) := by omega
    simp only [EV, r89_20, t4, decide_eq_true g']
    refine hK .norm _ _ (C.cond true (by simp only [↓reduceIte, EV]) (fun _ => C.seq fun K hK => ?_) fun g => by cases g)
    have q1 := rem32 true u 100 (by omega)
    have q2 := quo32 true u 100 (by omega) (by omega)
    simp only [Int.cast_ofNat_Int] at q1 q2
    simp only [↓reduceIte, EV, Nat.reduceEqDiff, r89_21, tr, q1, mul2 (u % 100) (by omega)]
    refine hK _ _ _ (C.seq fun K hK => ?_)
    simp only [↓reduceIte, EV, Nat.reduceEqDiff, r89_22, tr, q2]
    refine hK _ _ _ (C.seq ?_)
    rw [r89_23_eq]
    refine pair_step (m := m) (nd := nd) (cp := cp) (b := b) (y := u % 100) (ty := ty) (rest := rest) (by simp only [↓reduceIte, EV, Nat.reduceEqDiff, t0]) (by simp only [↓reduceIte, EV, Nat.reduceEqDiff, t4]) (by simp only [↓reduceIte, EV, Nat.reduceEqDiff]) (by omega) (by omega) rfl (by omega) le hnd fil (by omega) fun h1 k1 f1 => fun K hK => ?_
    have w : IntKind.i64.wrap ((m : Int) - 2) = ((m - 2 : Nat) : Int) := by
      rw [show (m : Int) - 2 = ((m - 2 : Nat) : Int) by omega]; exact wrap_lt _ (by omega)
    simp only [↓reduceIte, EV, Nat.reduceEqDiff, r89_24, t4, w]
    refine hK _ _ _ ⟨rfl, m - 2, u / 100, pairD (u % 100) ++ tl, by omega, ?_, ?_, ?_, ?_, ?_, ?_, ?_, ?_, ?_⟩
    · simp only [↓reduceIte, EV, Nat.reduceEqDiff, t0]
    · simp only [↓reduceIte, EV, Nat.reduceEqDiff]
    · simp only [↓reduceIte, EV]
    · have : (10 : Nat) ^ m = 10 ^ (m - 2) * 100 := by
        conv => lhs; rw [show m = m - 2 + 2 by omega, Nat.pow_add]
      exact Nat.div_lt_of_lt_mul (by rw [Nat.mul_comm, ← this]; exact lu)
    · exact Nat.lt_of_le_of_lt (Nat.div_le_self _ _) l64
    · omega
    · simpa only [List.map_append] using f1
    · rw [dg]
      conv => lhs; rw [show m = m - 2 + 2 by omega, digs_two]
      simp only [List.append_assoc]
    · exact kp.trans k1 fun _ _ h => h
  · have g' : ¬ (2 : Int) ≤ (m : Int) := by omega
    simp only [EV, r89_20, t4, decide_eq_false g']
    refine hK .norm _ _ (C.cond false (by simp only [↓reduceIte, EV]) (fun g => by cases g) fun _ => C.skip ⟨rfl, m, u, tl, by omega, ?_⟩)
    exact ⟨by simp only [↓reduceIte, EV, Nat.reduceEqDiff, t0], by simp only [↓reduceIte, EV, Nat.reduceEqDiff, tr], by simp only [↓reduceIte, EV, Nat.reduceEqDiff, t4], lu, l64, le, fil, dg, kp⟩
noncomputable def c89c : Box CodeT := ⟨seqC ⟨r89_25⟩ ⟨condC ⟨fun _ tm => tg tm 161⟩ ⟨r89_26⟩ skipC⟩⟩
theorem one_law (hnd : nd < 1000) (hm : m < 2) (a : Fb b cp nd ty rest x h0 12 .u32 m u tl tm h) :
    C c89c call L tm h fun e tm' h' => e = .norm ∧ Has h' b (.rw ((digs nd x).map bv ++ rest) ty) ∧ Keep (· = b) h0 h' := by
  obtain ⟨t0, tr, t4, lu, l64, le, fil, dg, kp⟩ := a
  refine C.seq fun K hK => ?_
  by_cases g : 1 ≤ m
  · have g' : (0 : Int) < (m : Int) := by omega
    obtain rfl : m = 1 := by omega
    simp only [EV, r89_25, t4, decide_eq_true g']
    refine hK .norm _ _ (C.cond true (by simp only [↓reduceIte, EV]) (fun _ => fun K hK => ?_) fun g => by cases g)
    have w : IntKind.u32.wrap (48 + (u : Int)) = ((48 + u : Nat) : Int) := by
      rw [show 48 + (u : Int) = ((48 + u : Nat) : Int) by omega]; exact wrap_u32 _ (by omega)
    have w2 : toInt .u8 (.int .u32 ((48 + u : Nat) : Int)) = some (bv (UInt8.ofNat (48 + u))) := by
      rw [bv_nat _ (by omega), toInt_int, wrap_eq _ _ (by show (0 : Int) ≤ _; omega) (by show _ ≤ (255 : Int); omega)]
    have ix : indexSl 1 (.slice (some ⟨b, 0, none⟩) nd cp) (.int .i64 0) = some (.pointer (some ⟨b, 0, none⟩)) := ix1 b 0 nd cp (by omega)
    obtain ⟨A, hA, f⟩ := fil
    obtain ⟨z, rfl⟩ : ∃ z, A = [z] := by
      match A, hA with
      | [z], _ => exact ⟨z, rfl⟩
    have s1 := store_one (s := none) (v := bv (UInt8.ofNat (48 + u))) (cs' := bv (UInt8.ofNat (48 + u)) :: (tl.map bv ++ rest)) f rfl rfl (by show putAt (z :: (tl.map bv ++ rest)) 0 _ = _; cases (tl.map bv ++ rest) <;> rfl)
    show r89_26 call L _ [] h K = true
    simp only [↓reduceIte, EV, Nat.reduceEqDiff, r89_26, tr, w, w2, t0, ix, s1]
    refine hK _ _ _ ⟨rfl, ?_, kp.trans (.put _ _ _) fun _ _ h => h⟩
    have e : digs nd x = UInt8.ofNat (48 + u) :: tl := by
      rw [dg]; show [] ++ [UInt8.ofNat (48 + u % 10)] ++ tl = _
      rw [Nat.mod_eq_of_lt (by omega)]; rfl
    rw [e]
    exact Has.put f.1
  · have g' : ¬ (0 : Int) < (m : Int) := by omega
    obtain rfl : m = 0 := by omega
    simp only [EV, r89_25, t4, decide_eq_false g']
    refine hK .norm _ _ (C.cond false (by simp only [↓reduceIte, EV]) (fun g => by cases g) fun _ => C.skip ⟨rfl, ?_, kp⟩)
    obtain ⟨A, hA, f⟩ := fil
    obtain rfl : A = [] := List.length_eq_zero_iff.1 hA
    rw [dg]; exact f
end
theorem base10_law (L n : Nat) {b cp x : Nat} {ty : Option TypeId} {A rest : List Value} {h : H} (hx : x < 18446744073709551616) (hA : A.length = (dec x).length) (hL : 1000 ≤ L) (hb : Has h b (.rw (A ++ rest) ty)) :
    Sp (CF L (n + 1)) 89 [.slice (some ⟨b, 0, none⟩) (dec x).length cp, .int .u64 (x : Int)] h fun r h' => Has h' b (.rw ((dec x).map bv ++ rest) ty) ∧ Keep (· = b) h h' := by
  have hl : (dec x).length ≤ 20 := dec_len 19 x (by omega)
  have dd := dec_digs x
  generalize hd : (dec x).length = nd at *
  rw [dd]
  clear dd
  have lx : x < 10 ^ nd := by
    rw [← hd]; exact dec_lt x
  refine Sp.body f89 (by simp) ?_
  unfold c89
  refine C.seq fun K hK => ?_
  simp only [↓reduceIte, EV, Nat.reduceAdd, Nat.reduceEqDiff, r89_0, lenSl_slice]
  refine hK .norm _ _ (C.seq (C.block ?_))
  refine (C.loop (L := L) (fun k tm h' => ∃ u tl, k ≤ nd ∧ Fb b cp nd ty rest x h 1 .u64 k u tl tm h') nd (by omega) ⟨x, [], Nat.le_refl _, ?_⟩ fun k tm h' hi => ?_ :
    C (loopB l89_12) _ L _ h fun e tm' h' => e = .exit 0 ∧ ∃ m u tl, m < 8 ∧ Fb b cp nd ty rest x h 1 .u64 m u tl tm' h').mono ?_
  · exact ⟨by simp only [↓reduceIte, EV, Nat.reduceEqDiff], by simp only [↓reduceIte, EV, Nat.reduceEqDiff], by simp only [↓reduceIte, EV], lx, hx, Nat.le_refl _, ⟨A, hA, hb⟩, by simp, .refl _ _⟩
  · obtain ⟨u, tl, h1, h2⟩ := hi
    refine (eight_law (by omega) h2).mono fun e tm' h' q => ?_
    by_cases g : 8 ≤ k
    · rw [if_pos g] at q
      obtain ⟨rfl, tl', q⟩ := q
      exact ⟨k - 8, by omega, _, tl', by omega, q⟩
    · rw [if_neg g] at q
      obtain ⟨rfl, q⟩ := q
      exact ⟨rfl, k, u, tl, by omega, q⟩
  · rintro e tm' h' ⟨rfl, m, u, tl, hm, t0, tr, t4, lu, l64, le, fil, dg, kp⟩
    show if 0 = 0 then _ else _
    rw [if_pos rfl]
    refine C.seq fun K hK => ?_
    have q : toInt .u32 (.int .u64 (u : Int)) = some (.int .u32 (u : Int)) := by
      rw [toInt_int, wrap_u32 _ (by have := lt32 lu hm; omega)]
    simp only [EV, r89_12, tr, q]
    refine hK _ _ _ (C.seq ((four_law (b := b) (cp := cp) (ty := ty) (rest := rest) (x := x) (h0 := h) (by omega) hm ⟨by simp only [↓reduceIte, EV, Nat.reduceEqDiff, t0], by simp only [↓reduceIte, EV], by simp only [↓reduceIte, EV, Nat.reduceEqDiff, t4], lu, l64, le, fil, dg, kp⟩).mono ?_))
    rintro e tm2 h2 ⟨rfl, m2, u2, tl2, hm2, a2⟩
    refine C.seq ((two_law (by omega) hm2 a2).mono ?_)
    rintro e tm3 h3 ⟨rfl, m3, u3, tl3, hm3, a3⟩
    refine (one_law (by omega) hm3 a3).mono ?_
    rintro e tm4 h4 ⟨rfl, b4, k4⟩
    exact ⟨.inl rfl, _, rfl, b4, k4⟩
end Go.Proofs.YthofbmfcpfibdaaDoor

namespace Go.Proofs.YthofbmfcpfibdaaDoor
open Go.Ev

theorem cut24 (b nd : Nat) (h : nd ≤ 24) : sliceArr 1 24 (.pointer (some ⟨b, 0, none⟩)) none (some (.int .i64 (nd : Int))) none = some (.slice (some ⟨b, 0, none⟩) nd 24) := by
  simp only [sliceArr, bnds, bnd, asNat_nat]
  simp only [Nat.ble_eq_true_of_le h]
  simp [addOff]
def z24 : List Value := List.replicate 24 (.int .u8 (0))
theorem r80_4_eq : r80_4 = fun call _ tm ds h K => K .norm (T.set tm 5 (ptrTo h.next)) ds (h.new (.rw z24 (some 120))) := rfl
theorem format_law (L n : Nat) (hL : 1000 ≤ L) {x : Nat} (hx : x < 18446744073709551616) {h : H} (hG : Has h 1 (.ro powC)) :
    Sp (CF L (n + 3)) 80 [.int .u64 (x : Int), .int .i64 10] h fun r h' => r = .string ⟨(dec x).toArray⟩ ∧ Keep nobody h h' := by
  refine Sp.body f80 (by simp) ?_
  unfold c80
  refine C.seq fun K hK => ?_
  simp only [EV, Nat.reduceAdd, r80_0]
  refine hK .norm _ _ (C.seq (C.seq fun K hK => ?_))
  simp only [↓reduceIte, EV, Nat.reduceEqDiff, r80_1]
  refine hK _ _ _ (C.cond true (by simp only [↓reduceIte, EV]) (fun _ => C.seq (C.seq fun K hK => ?_)) fun g => by cases g)
  by_cases g : x < 100
  · have g' : (x : Int) < 100 := by omega
    simp only [↓reduceIte, EV, Nat.reduceEqDiff, r80_2, decide_eq_true g']
    refine hK .norm _ _ (C.cond true (by simp only [↓reduceIte, EV]) (fun _ => C.seq fun K hK => ?_) fun g => by cases g)
    have q : toInt .i64 (.int .u64 (x : Int)) = some (.int .i64 (x : Int)) := by rw [toInt_int, wrap_lt _ (by omega)]
    simp only [↓reduceIte, EV, Nat.reduceEqDiff, r80_3, q]
    refine small_law L (n + 1) g _ _ fun r h1 hq => ?_
    obtain ⟨rfl, rfl⟩ := hq
    refine hK _ _ _ (C.ret ⟨.inr rfl, _, rfl, ?_, .refl _ _⟩)
    simp only [↓reduceIte, EV, resOf]
  · have g' : ¬ (x : Int) < 100 := by omega
    simp only [↓reduceIte, EV, Nat.reduceEqDiff, r80_2, decide_eq_false g']
    refine hK .norm _ _ (C.cond false (by simp only [↓reduceIte, EV]) (fun g => by cases g) fun _ => C.skip (C.seq fun K hK => ?_))
    simp only [r80_4_eq]
    refine hK _ _ _ (C.seq fun K hK => ?_)
    have k1 := Keep.new h (.rw z24 (some 120))
    have b1 := Has.new h (.rw z24 (some 120))
    have hg1 : Has (h.new (.rw z24 (some 120))) 1 (.ro powC) := hG.keep0 k1
    generalize h.new (.rw z24 (some 120)) = h1 at *
    simp only [↓reduceIte, EV, Nat.reduceEqDiff, r80_5]
    refine numDigits_law L n (by omega) hx hg1 _ fun r h2 hq => ?_
    obtain ⟨rfl, rfl⟩ := hq
    have hd : (dec x).length ≤ 20 := dec_len 19 x (by omega)
    refine hK _ _ _ (C.seq fun K hK => ?_)
    simp only [↓reduceIte, EV, Nat.reduceEqDiff, r80_6, cut24 _ _ (show (dec x).length ≤ 24 by omega)]
    refine base10_law L (n + 1) (A := List.replicate (dec x).length (.int .u8 (0))) (rest := List.replicate (24 - (dec x).length) (.int .u8 (0))) (ty := some 120) hx (by simp) hL ?_ _ fun r h2 hq => ?_
    · rw [show z24 = List.replicate 24 (.int .u8 (0)) from rfl] at b1
      rw [List.replicate_append_replicate, show (dec x).length + (24 - (dec x).length) = 24 by omega]; exact b1
    obtain ⟨b2, k2⟩ := hq
    refine hK _ _ _ (C.seq fun K hK => ?_)
    have bs : bytesStr h2 (.slice (some ⟨h.next, 0, none⟩) (dec x).length 24) = some (.string ⟨(dec x).toArray⟩) := by
      simp only [bytesStr]
      rw [row_has b2 rfl (by simp), List.drop_zero, List.take_append_of_le_length (by simp), List.take_of_length_le (by simp)]
      simp only [bytesOf_bv]
    simp only [↓reduceIte, EV, Nat.reduceEqDiff, r80_7, cut24 _ _ (show (dec x).length ≤ 24 by omega), bs]
    refine hK _ _ _ (C.ret ⟨.inr rfl, _, rfl, ?_, (k1.trans (S' := (· = h.next)) k2 fun k hk e => by omega)⟩)
    simp only [↓reduceIte, EV, resOf]
theorem format2_law (L n : Nat) (hL : 1000 ≤ L) {x : Nat} (hx : x < 18446744073709551616) {h : H} (hG : Has h 1 (.ro powC)) :
    Sp (CF L (n + 4)) 68 [.int .u64 (x : Int), .int .i64 10] h fun r h' => r = .string ⟨(dec x).toArray⟩ ∧ Keep nobody h h' := by
  refine Sp.body f68 (by simp) ?_
  unfold c68
  refine C.seq fun K hK => ?_
  simp only [EV, Nat.reduceAdd, r68_0]
  refine hK .norm _ _ (C.seq fun K hK => ?_)
  simp only [↓reduceIte, EV, Nat.reduceEqDiff, r68_1]
  refine format_law L n hL hx hG _ fun r h1 hq => ?_
  obtain ⟨rfl, k1⟩ := hq
  refine hK _ _ _ (C.ret ⟨.inr rfl, _, rfl, ?_, k1⟩)
  simp only [↓reduceIte, EV, resOf]
theorem itext_law (L n : Nat) (hL : 1000 ≤ L) {x : Nat} (hx : x < 18446744073709551616) {h : H} (hG : Has h 1 (.ro powC)) :
    Sp (CF L (n + 5)) 43 [.int .u64 (x : Int)] h fun r h' => r = .string ⟨(dec x).toArray⟩ ∧ Keep nobody h h' := by
  refine Sp.body f43 (by simp) ?_
  unfold c43
  refine C.seq fun K hK => ?_
  simp only [EV, r43_0]
  refine hK .norm _ _ (C.seq fun K hK => ?_)
  simp only [↓reduceIte, EV, Nat.reduceEqDiff, r43_1]
  refine format2_law L n hL hx hG _ fun r h1 hq => ?_
  obtain ⟨rfl, k1⟩ := hq
  refine hK _ _ _ (C.ret ⟨.inr rfl, _, rfl, ?_, k1⟩)
  simp only [↓reduceIte, EV, resOf]
end Go.Proofs.YthofbmfcpfibdaaDoor
