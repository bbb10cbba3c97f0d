import Derived.Test.YtpaolklbogakgaaPkK
set_option linter.unusedSimpArgs false
set_option linter.unusedVariables false
namespace Go.Proofs.Ytpaolklbogakgaa
open Go.Ev

theorem keep_room (h : H) (n : Nat) : Keep nobody h ⟨h.objs, h.next + n⟩ := ⟨Nat.le_add_right _ _, fun _ _ _ => rfl⟩
theorem Mine.cells {h : H} {v : Value} {l : List UInt8} (m : Mine h v l) : v.cells = #[v] := by cases m <;> rfl
theorem hO_self {v : Value} (hv : veq 64 v v = true) (b : Bool) : hO (some v) v b = b := by unfold hO; simp only [hv]
theorem veq_int (k : IntKind) (n : Int) : veq 64 (.int k n) (.int k n) = true := by
  show (kEq k k && iEq n n) = true
  rw [kEq_self, iEq_dec]; simp
theorem veq_str (s : ByteArray) : veq 64 (.string s) (.string s) = true := by
  show leB s.data.toList s.data.toList = true
  rw [leB_eq]; simp
theorem veq_slice (b o n c : Nat) : veq 64 (.slice (some ⟨b, o, none⟩) n c) (.slice (some ⟨b, o, none⟩) n c) = true := by
  show ((Nat.beq b b && Nat.beq o o && true) && Nat.beq n n && Nat.beq c c) = true
  simp only [Nat.beq_refl, Bool.and_self]
theorem ItemsAt.veq {h : H} {v : Value} {l : List Itm} (a : ItemsAt h v l) : veq 64 v v = true := by
  rcases a with ⟨rfl, rfl⟩ | ⟨b, o, c, x, cs, rfl, _⟩
  · rfl
  · exact veq_slice _ _ _ _

theorem lit2v {b : Nat} {v w : Value} (hv : v.cells = #[v]) (hw : w.cells = #[w]) : mkLit 2 b (fill (repl [(.slice none 0 0)] 2) (pl 1) [(0, v), (1, w)]) = some (.rw [v, w], .slice (some ⟨b, 0, none⟩) 2 2) := by
  simp [mkLit, fill, pl, hv, hw, repl, putAt]
theorem lit5v {b : Nat} {v1 v2 v3 v4 v5 : Value} (h1 : v1.cells = #[v1]) (h2 : v2.cells = #[v2]) (h3 : v3.cells = #[v3]) (h4 : v4.cells = #[v4]) (h5 : v5.cells = #[v5]) :
    mkLit 5 b (fill (repl [(.slice none 0 0)] 5) (pl 1) [(0, v1), (1, v2), (2, v3), (3, v4), (4, v5)]) = some (.rw [v1, v2, v3, v4, v5], .slice (some ⟨b, 0, none⟩) 5 5) := by
  simp [mkLit, fill, pl, h1, h2, h3, h4, h5, repl, putAt]

def u8 (z : Int) : UInt8 := UInt8.ofNat z.toNat
theorem u8_bv {z : Int} (h0 : 0 ≤ z) (h1 : z < 256) : Value.int .u8 z = bv (u8 z) := by
  have : z = ((z.toNat : Nat) : Int) := by omega
  rw [u8, bv_ofNat _ (by omega), ← this]

def itemBytes (x : Itm) : List UInt8 := txt x.key ++ (txt x.val ++ (small x.flags.toNat ++ (small (IntKind.u64.wrap x.till).toNat ++ small x.uniq.toNat)))
def resBytes (of : Int) (r : Res) : List UInt8 := [u8 of, u8 r.kind] ++ (small r.num.toNat ++ small r.items.length) ++ r.items.flatMap itemBytes
structure Itm.slim (x : Itm) : Prop where
  key : x.key.size ≤ 32
  val : x.val.size ≤ 512

theorem u64_range (z : Int) : 0 ≤ IntKind.u64.wrap z ∧ IntKind.u64.wrap z < 18446744073709551616 := by
  simp [IntKind.wrap, IntKind.bits, IntKind.signed]; omega

theorem txt_len (s : ByteArray) (h : s.size ≤ 512) : (txt s).length ≤ 522 := by
  have := small_len 10 s.size (by omega) (by omega)
  have e : s.data.toList.length = s.size := rfl
  simp only [txt, List.length_append, e]; omega
theorem itemBytes_len {x : Itm} (ok : x.ok) (sl : x.slim) : (itemBytes x).length ≤ 1100 := by
  have h1 := txt_len x.key (by have := sl.key; omega)
  have h2 := txt_len x.val sl.val
  have h3 := small_len 10 x.flags.toNat (by have := ok.flags; omega) (by omega)
  have h4 := small_len 10 (IntKind.u64.wrap x.till).toNat (by have := u64_range x.till; omega) (by omega)
  have h5 := small_len 10 x.uniq.toNat (by have := ok.uniq; omega) (by omega)
  simp only [itemBytes, List.length_append]; omega

theorem reg16_6 {L n : Nat} (hL : 100 < L) {tm : T Value} {h0 : H} {w : Value} {pre : List UInt8} {b5 : Nat} {x : Itm} (ok : x.ok) (sl : x.slim) (t3 : tg tm 3 = w) (t5 : tg tm 5 = .pointer (some ⟨b5, 0, none⟩)) (m0 : Mine h0 w pre) (hb : Has h0 b5 (.rw x.cells)) (hsz : pre.length ≤ 1000000) :
    C ⟨r16_6⟩ (CF L (n + 2)) L tm h0 fun e tm' h' => e = .norm ∧ ∃ w', tm' = T.set tm 3 w' ∧ Mine h' w' (pre ++ itemBytes x) ∧ Keep (blk w) h0 h' ∧ ∀ b, blk w' b → blk w b ∨ h0.next ≤ b := fun K hK => by
  have k0 := keep_room h0 21
  have hb1 := hb.keep0 k0
  have ld : ∀ (h : H), Has h b5 (.rw x.cells) → ∀ o s, loadOne h (.pointer (some ⟨b5, o, s⟩)) = [Value.string x.key, .string x.val, .int .u32 x.flags, .int .i64 x.till, .int .u64 ((x.uniq.toNat : Nat) : Int)][o]? := fun h hb o s => by
    rw [loadOne_has hb rfl, Itm.cells, show ((x.uniq.toNat : Nat) : Int) = x.uniq by have := ok.uniq; omega]
  have fl : toInt .u64 (.int .u32 x.flags) = some (.int .u64 ((x.flags.toNat : Nat) : Int)) := by
    have := ok.flags
    rw [toInt_int, show x.flags = ((x.flags.toNat : Nat) : Int) by omega, wrap_u64 _ (by omega)]; rfl
  have ti : toInt .u64 (.int .i64 x.till) = some (.int .u64 (((IntKind.u64.wrap x.till).toNat : Nat) : Int)) := by
    have := u64_range x.till
    rw [toInt_int, show (((IntKind.u64.wrap x.till).toNat : Nat) : Int) = IntKind.u64.wrap x.till by omega]
  have hs1 := hO_self (veq_str x.val)
  have hs2 := hO_self (veq_int .u32 x.flags)
  have hs3 := hO_self (veq_int .i64 x.till)
  have hs4 := hO_self (veq_int .u64 ((x.uniq.toNat : Nat) : Int))
  simp only [r16_6, ↓opStep_eq, ↓reduceIte, tg_set, toTm_cons, toTm_nil, fieldPtr_ptr, Nat.add_zero, Nat.zero_add, Nat.reduceAdd, Nat.reduceEqDiff, Int.reduceEq, Int.reduceLT, Int.reduceLE, Int.reduceNe, ↓kO_some, ↓kA_some, ↓kH_some, kO_some, kA_some, kH_some, gd_true, gd_false, nthD_zero, nthD_succ, isB_true, isB_false, isB_undef, pickV_true, pickV_false, binV_add, binV_sub, binV_mul, binV_eql, binV_neq, binV_lss, binV_leq, binV_gtr, binV_geq, unV_not, nt, nf, Bool.false_eq_true, dt, df, decide_true, decide_false, withV_some, aggO_some, ptrTo_eq, ↓aO_some, aO_some, ↓andB_true, andB_true, gz, gs, seqC, retC, skipC, exitC, blockC, condC, cells_agg, t3, t5, ld _ hb1, fl, ti]
  refine code_text L n hL x.key (by have := sl.key; omega) _ _ fun v1 h1 hv => ?_
  obtain ⟨m1, k1, f1⟩ := hv
  simp only [↓opStep_eq, ↓reduceIte, tg_set, toTm_cons, toTm_nil, fieldPtr_ptr, Nat.add_zero, Nat.zero_add, Nat.reduceAdd, Nat.reduceEqDiff, Int.reduceEq, Int.reduceLT, Int.reduceLE, Int.reduceNe, ↓kO_some, ↓kA_some, ↓kH_some, kO_some, kA_some, kH_some, gd_true, gd_false, nthD_zero, nthD_succ, isB_true, isB_false, isB_undef, pickV_true, pickV_false, binV_add, binV_sub, binV_mul, binV_eql, binV_neq, binV_lss, binV_leq, binV_gtr, binV_geq, unV_not, nt, nf, Bool.false_eq_true, dt, df, decide_true, decide_false, withV_some, aggO_some, ptrTo_eq, ↓aO_some, aO_some, ↓andB_true, andB_true, gz, gs, seqC, retC, skipC, exitC, blockC, condC, cells_agg, ld _ (hb1.keep0 k1), hs1, hs2, hs3, hs4]
  refine code_text L n hL x.val (by have := sl.val; omega) _ _ fun v2 h2 hv => ?_
  obtain ⟨m2, k2, f2⟩ := hv
  simp only [↓opStep_eq, ↓reduceIte, tg_set, toTm_cons, toTm_nil, fieldPtr_ptr, Nat.add_zero, Nat.zero_add, Nat.reduceAdd, Nat.reduceEqDiff, Int.reduceEq, Int.reduceLT, Int.reduceLE, Int.reduceNe, ↓kO_some, ↓kA_some, ↓kH_some, kO_some, kA_some, kH_some, gd_true, gd_false, nthD_zero, nthD_succ, isB_true, isB_false, isB_undef, pickV_true, pickV_false, binV_add, binV_sub, binV_mul, binV_eql, binV_neq, binV_lss, binV_leq, binV_gtr, binV_geq, unV_not, nt, nf, Bool.false_eq_true, dt, df, decide_true, decide_false, withV_some, aggO_some, ptrTo_eq, ↓aO_some, aO_some, ↓andB_true, andB_true, gz, gs, seqC, retC, skipC, exitC, blockC, condC, cells_agg, ld _ (hb1.keep0 (k1.then k2)), hs1, hs2, hs3, hs4]
  refine code_small L (n + 1) hL x.flags.toNat (by have := ok.flags; omega) _ _ fun v3 h3 hv => ?_
  obtain ⟨m3, k3, f3⟩ := hv
  simp only [↓opStep_eq, ↓reduceIte, tg_set, toTm_cons, toTm_nil, fieldPtr_ptr, Nat.add_zero, Nat.zero_add, Nat.reduceAdd, Nat.reduceEqDiff, Int.reduceEq, Int.reduceLT, Int.reduceLE, Int.reduceNe, ↓kO_some, ↓kA_some, ↓kH_some, kO_some, kA_some, kH_some, gd_true, gd_false, nthD_zero, nthD_succ, isB_true, isB_false, isB_undef, pickV_true, pickV_false, binV_add, binV_sub, binV_mul, binV_eql, binV_neq, binV_lss, binV_leq, binV_gtr, binV_geq, unV_not, nt, nf, Bool.false_eq_true, dt, df, decide_true, decide_false, withV_some, aggO_some, ptrTo_eq, ↓aO_some, aO_some, ↓andB_true, andB_true, gz, gs, seqC, retC, skipC, exitC, blockC, condC, cells_agg, ld _ (hb1.keep0 ((k1.then k2).then k3)), hs1, hs2, hs3, hs4]
  refine code_small L (n + 1) hL (IntKind.u64.wrap x.till).toNat (by have := u64_range x.till; omega) _ _ fun v4 h4 hv => ?_
  obtain ⟨m4, k4, f4⟩ := hv
  simp only [↓opStep_eq, ↓reduceIte, tg_set, toTm_cons, toTm_nil, fieldPtr_ptr, Nat.add_zero, Nat.zero_add, Nat.reduceAdd, Nat.reduceEqDiff, Int.reduceEq, Int.reduceLT, Int.reduceLE, Int.reduceNe, ↓kO_some, ↓kA_some, ↓kH_some, kO_some, kA_some, kH_some, gd_true, gd_false, nthD_zero, nthD_succ, isB_true, isB_false, isB_undef, pickV_true, pickV_false, binV_add, binV_sub, binV_mul, binV_eql, binV_neq, binV_lss, binV_leq, binV_gtr, binV_geq, unV_not, nt, nf, Bool.false_eq_true, dt, df, decide_true, decide_false, withV_some, aggO_some, ptrTo_eq, ↓aO_some, aO_some, ↓andB_true, andB_true, gz, gs, seqC, retC, skipC, exitC, blockC, condC, cells_agg, ld _ (hb1.keep0 (((k1.then k2).then k3).then k4)), hs1, hs2, hs3, hs4]
  refine code_small L (n + 1) hL x.uniq.toNat (by have := ok.uniq; omega) _ _ fun v5 h5 hv => ?_
  obtain ⟨m5, k5, f5⟩ := hv
  simp only [↓opStep_eq, ↓reduceIte, tg_set, toTm_cons, toTm_nil, fieldPtr_ptr, Nat.add_zero, Nat.zero_add, Nat.reduceAdd, Nat.reduceEqDiff, Int.reduceEq, Int.reduceLT, Int.reduceLE, Int.reduceNe, ↓kO_some, ↓kA_some, ↓kH_some, kO_some, kA_some, kH_some, gd_true, gd_false, nthD_zero, nthD_succ, isB_true, isB_false, isB_undef, pickV_true, pickV_false, binV_add, binV_sub, binV_mul, binV_eql, binV_neq, binV_lss, binV_leq, binV_gtr, binV_geq, unV_not, nt, nf, Bool.false_eq_true, dt, df, decide_true, decide_false, withV_some, aggO_some, ptrTo_eq, ↓aO_some, aO_some, ↓andB_true, andB_true, gz, gs, seqC, retC, skipC, exitC, blockC, condC, cells_agg, lit5v (Mine.cells m1) (Mine.cells m2) (Mine.cells m3) (Mine.cells m4) (Mine.cells m5)]
  have kk := (((k1.then k2).then k3).then k4).then k5
  have n1 := k1.next
  have n2 := k2.next
  have n3 := k3.next
  have n4 := k4.next
  have n5 := k5.next
  simp only at n1
  have kp := Keep.put h5 (h0.next + 18) (.rw [v1, v2, v3, v4, v5])
  have hsum := itemBytes_len ok sl
  have mw : Mine (h5.put (h0.next + 18) (.rw [v1, v2, v3, v4, v5])) w pre := (m0.keep0 (k0.then kk)).keep kp fun b hb e => by have := m0.lt hb; omega
  have old : ∀ b, blk w b → b < h0.next := fun b hb => m0.lt hb
  refine behind L (n + 1) w pre [(v1, txt x.key), (v2, txt x.val), (v3, small x.flags.toNat), (v4, small (IntKind.u64.wrap x.till).toNat), (v5, small x.uniq.toNat)] _ (h0.next + 18) (by simp; omega) mw (Has.put (by omega)) (fun hb => by have := old _ hb; omega) ?_ ?_ (by simp) _ fun v h' hv => ?_
  · have mk : ∀ (v : Value) (l : List UInt8) (hx : H), Mine hx v l → Keep nobody hx h5 → (∀ b, blk v b → h0.next + 21 ≤ b) → Reads (h5.put (h0.next + 18) (.rw [v1, v2, v3, v4, v5])) v l ∧ ∀ b, blk v b → ¬ blk w b := fun v l hx m k f =>
      ⟨(m.keep0 k).reads.keep kp fun b hb e => by have := f b hb; omega, fun b hb hw => by have := f b hb; have := old b hw; omega⟩
    intro p hp
    simp only [List.mem_cons, List.not_mem_nil, or_false] at hp
    rcases hp with rfl | rfl | rfl | rfl | rfl
    · exact mk _ _ _ m1 (((k2.then k3).then k4).then k5) f1
    · exact mk _ _ _ m2 ((k3.then k4).then k5) fun b hb => Nat.le_trans n1 (f2 b hb)
    · exact mk _ _ _ m3 (k4.then k5) fun b hb => by have := f3 b hb; omega
    · exact mk _ _ _ m4 k5 fun b hb => by have := f4 b hb; omega
    · exact mk _ _ _ m5 (.refl _ _) fun b hb => by have := f5 b hb; omega
  · have : cat [(v1, txt x.key), (v2, txt x.val), (v3, small x.flags.toNat), (v4, small (IntKind.u64.wrap x.till).toNat), (v5, small x.uniq.toNat)] = itemBytes x := by simp [cat, itemBytes]
    rw [this]; omega
  · obtain ⟨m6, k6, f6⟩ := hv
    have e : cat [(v1, txt x.key), (v2, txt x.val), (v3, small x.flags.toNat), (v4, small (IntKind.u64.wrap x.till).toNat), (v5, small x.uniq.toNat)] = itemBytes x := by simp [cat, itemBytes]
    rw [e] at m6
    refine hK _ _ _ ⟨rfl, v, rfl, m6, ?_, fun b hb => (f6 b hb).imp_right fun h => by simp only [next_put] at h; omega⟩
    refine ((k0.then kk).mono fun _ _ h => h.elim).trans (S' := fun b => b = h0.next + 18 ∨ blk w b) ⟨Nat.le_trans kp.next k6.next, fun b hb hn => ?_⟩ fun b hb hs => hs.resolve_left (by omega)
    rw [k6.same b (by simpa using hb) fun h => hn (.inr h), kp.same b hb fun h => hn (.inl h)]

theorem resBytes_len {of : Int} {r : Res} (hn : r.num < 18446744073709551616) (h8 : r.items.length ≤ 8) (ok : ∀ x ∈ r.items, x.ok ∧ x.slim) (i : Nat) :
    ([u8 of, u8 r.kind] ++ (small r.num.toNat ++ small r.items.length) ++ (r.items.take i).flatMap itemBytes).length ≤ 10000 := by
  have h1 := small_len 10 r.num.toNat (by omega) (by omega)
  have h2 := small_len 10 r.items.length (by omega) (by omega)
  have h3 : ∀ l : List Itm, (∀ x ∈ l, x.ok ∧ x.slim) → (l.flatMap itemBytes).length ≤ 1100 * l.length := by
    intro l
    induction l with
    | nil => intro _; simp
    | cons x l ih =>
      intro hx
      have := ih fun y hy => hx y (by simp [hy])
      have := itemBytes_len (hx x (by simp)).1 (hx x (by simp)).2
      simp only [List.flatMap_cons, List.length_append, List.length_cons]; omega
  have h4 := h3 (r.items.take i) fun x hx => ok x (List.mem_of_mem_take hx)
  have h5 : (r.items.take i).length ≤ 8 := by rw [List.length_take]; omega
  simp only [List.length_append, List.length_cons, List.length_nil]; omega

theorem packed_result (L n : Nat) (hL : 100 < L) (a : Ans) (h : H) (hi : ItemsAt h a.r.iv a.r.items) (ho : 0 ≤ a.of ∧ a.of < 256) (hk : 0 ≤ a.r.kind ∧ a.r.kind < 256) (hn : 0 ≤ a.r.num ∧ a.r.num < 18446744073709551616)
    (h8 : a.r.items.length ≤ 8) (ok : ∀ x ∈ a.r.items, x.ok ∧ x.slim) :
    Sp (CF L (n + 3)) 16 [a.v] h fun v h' => Mine h' v (resBytes a.of a.r) ∧ Keep nobody h h' ∧ ∀ b, blk v b → h.next ≤ b := by
  refine Sp.body f16 (by simp) ?_
  have hc : (Value.cells a.v).toList = a.cells := rfl
  have k1 := Keep.new h (.rw a.cells)
  have b1 := Has.new h (.rw a.cells)
  generalize hh : h.new (.rw a.cells) = h1 at *
  have ld : ∀ (hx : H), Has hx h.next (.rw a.cells) → ∀ o s, loadOne hx (.pointer (some ⟨h.next, o, s⟩)) = [Value.int .u8 a.kind, bv (u8 a.of), bv (u8 a.r.kind), a.r.iv, .int .u64 ((a.r.num.toNat : Nat) : Int), .bool a.yes, .string a.key][o]? := fun hx hb o s => by
    rw [loadOne_has hb rfl, Ans.cells, ← u8_bv ho.1 ho.2, ← u8_bv hk.1 hk.2, show ((a.r.num.toNat : Nat) : Int) = a.r.num by omega]
  have hiv := hO_self hi.veq
  have hlen := hi.len
  have hu : toInt .u64 (.int .i64 (a.r.items.length : Int)) = some (.int .u64 (a.r.items.length : Int)) := by rw [toInt_int, wrap_u64 _ (by omega)]
  unfold c16
  refine C.seq fun K hK => ?_
  simp only [↓opStep_eq, ↓reduceIte, tg_set, toTm_cons, toTm_nil, fieldPtr_ptr, Nat.add_zero, Nat.zero_add, Nat.reduceAdd, Nat.reduceEqDiff, Int.reduceEq, Int.reduceLT, Int.reduceLE, Int.reduceNe, ↓kO_some, ↓kA_some, ↓kH_some, kO_some, kA_some, kH_some, gd_true, gd_false, nthD_zero, nthD_succ, isB_true, isB_false, isB_undef, pickV_true, pickV_false, binV_add, binV_sub, binV_mul, binV_eql, binV_neq, binV_lss, binV_leq, binV_gtr, binV_geq, unV_not, nt, nf, Bool.false_eq_true, dt, df, decide_true, decide_false, withV_some, aggO_some, ptrTo_eq, ↓aO_some, aO_some, ↓andB_true, andB_true, gz, gs, seqC, retC, skipC, exitC, blockC, condC, cells_agg, r16_0, hc, hh]
  refine hK _ _ _ (C.seq fun K hK => ?_)
  simp only [↓opStep_eq, ↓reduceIte, tg_set, toTm_cons, toTm_nil, fieldPtr_ptr, Nat.add_zero, Nat.zero_add, Nat.reduceAdd, Nat.reduceEqDiff, Int.reduceEq, Int.reduceLT, Int.reduceLE, Int.reduceNe, ↓kO_some, ↓kA_some, ↓kH_some, kO_some, kA_some, kH_some, gd_true, gd_false, nthD_zero, nthD_succ, isB_true, isB_false, isB_undef, pickV_true, pickV_false, binV_add, binV_sub, binV_mul, binV_eql, binV_neq, binV_lss, binV_leq, binV_gtr, binV_geq, unV_not, nt, nf, Bool.false_eq_true, dt, df, decide_true, decide_false, withV_some, aggO_some, ptrTo_eq, ↓aO_some, aO_some, ↓andB_true, andB_true, gz, gs, seqC, retC, skipC, exitC, blockC, condC, cells_agg, r16_1, ld _ b1, lit2]
  have k2 := Keep.new h1 (.rw ([u8 a.of, u8 a.r.kind].map bv))
  have m2 : Mine _ _ [u8 a.of, u8 a.r.kind] := Mine.rw _ _ (Has.new h1 (.rw ([u8 a.of, u8 a.r.kind].map bv)))
  have hbk : ∀ b, blk (.slice (some ⟨h1.next, 0, none⟩) [u8 a.of, u8 a.r.kind].length [u8 a.of, u8 a.r.kind].length) b → b = h1.next := fun b hb => by simp at hb; exact hb.symm
  have b2 := b1.keep0 k2
  have hnx : (h1.new (.rw ([u8 a.of, u8 a.r.kind].map bv))).next = h1.next + 1 := rfl
  generalize hw : Value.slice (some ⟨h1.next, 0, none⟩) [u8 a.of, u8 a.r.kind].length [u8 a.of, u8 a.r.kind].length = w at *
  generalize hh2 : h1.new (.rw ([u8 a.of, u8 a.r.kind].map bv)) = h2 at *
  refine hK _ _ _ (C.seq fun K hK => ?_)
  have k3 := keep_room h2 14
  have b3 := b2.keep0 k3
  simp only [↓opStep_eq, ↓reduceIte, tg_set, toTm_cons, toTm_nil, fieldPtr_ptr, Nat.add_zero, Nat.zero_add, Nat.reduceAdd, Nat.reduceEqDiff, Int.reduceEq, Int.reduceLT, Int.reduceLE, Int.reduceNe, ↓kO_some, ↓kA_some, ↓kH_some, kO_some, kA_some, kH_some, gd_true, gd_false, nthD_zero, nthD_succ, isB_true, isB_false, isB_undef, pickV_true, pickV_false, binV_add, binV_sub, binV_mul, binV_eql, binV_neq, binV_lss, binV_leq, binV_gtr, binV_geq, unV_not, nt, nf, Bool.false_eq_true, dt, df, decide_true, decide_false, withV_some, aggO_some, ptrTo_eq, ↓aO_some, aO_some, ↓andB_true, andB_true, gz, gs, seqC, retC, skipC, exitC, blockC, condC, cells_agg, r16_2, ld _ b3, hlen, hu]
  refine code_small L (n + 1) hL a.r.num.toNat (by omega) _ _ fun v4 h4 hv => ?_
  obtain ⟨m4, k4, f4⟩ := hv
  simp only [↓opStep_eq, ↓reduceIte, tg_set, toTm_cons, toTm_nil, fieldPtr_ptr, Nat.add_zero, Nat.zero_add, Nat.reduceAdd, Nat.reduceEqDiff, Int.reduceEq, Int.reduceLT, Int.reduceLE, Int.reduceNe, ↓kO_some, ↓kA_some, ↓kH_some, kO_some, kA_some, kH_some, gd_true, gd_false, nthD_zero, nthD_succ, isB_true, isB_false, isB_undef, pickV_true, pickV_false, binV_add, binV_sub, binV_mul, binV_eql, binV_neq, binV_lss, binV_leq, binV_gtr, binV_geq, unV_not, nt, nf, Bool.false_eq_true, dt, df, decide_true, decide_false, withV_some, aggO_some, ptrTo_eq, ↓aO_some, aO_some, ↓andB_true, andB_true, gz, gs, seqC, retC, skipC, exitC, blockC, condC, cells_agg, ld _ (b3.keep0 k4), hiv]
  refine code_small L (n + 1) hL a.r.items.length (by omega) _ _ fun v5 h5 hv => ?_
  obtain ⟨m5, k5, f5⟩ := hv
  simp only [↓opStep_eq, ↓reduceIte, tg_set, toTm_cons, toTm_nil, fieldPtr_ptr, Nat.add_zero, Nat.zero_add, Nat.reduceAdd, Nat.reduceEqDiff, Int.reduceEq, Int.reduceLT, Int.reduceLE, Int.reduceNe, ↓kO_some, ↓kA_some, ↓kH_some, kO_some, kA_some, kH_some, gd_true, gd_false, nthD_zero, nthD_succ, isB_true, isB_false, isB_undef, pickV_true, pickV_false, binV_add, binV_sub, binV_mul, binV_eql, binV_neq, binV_lss, binV_leq, binV_gtr, binV_geq, unV_not, nt, nf, Bool.false_eq_true, dt, df, decide_true, decide_false, withV_some, aggO_some, ptrTo_eq, ↓aO_some, aO_some, ↓andB_true, andB_true, gz, gs, seqC, retC, skipC, exitC, blockC, condC, cells_agg, lit2v (Mine.cells m4) (Mine.cells m5)]
  have n3 := k3.next
  have n4 := k4.next
  have n5 := k5.next
  have n1 := k1.next
  simp only at n4 f4
  have kp := Keep.put h5 (h2.next + 11) (.rw [v4, v5])
  have mw := (m2.keep0 (k3.then (k4.then k5))).keep kp fun b hb e => by have := hbk b hb; omega
  refine behind L (n + 1) w [u8 a.of, u8 a.r.kind] [(v4, small a.r.num.toNat), (v5, small a.r.items.length)] _ (h2.next + 11) (by simp; omega) mw (Has.put (by omega)) (fun hb => by have := hbk _ hb; omega) ?_ ?_ (by simp) _ fun w2 h6 hv => ?_
  · intro p hp
    simp only [List.mem_cons, List.not_mem_nil, or_false] at hp
    rcases hp with rfl | rfl
    · exact ⟨(m4.keep0 k5).reads.keep kp fun b hb e => by have := f4 b hb; omega, fun b hb hw => by have := f4 b hb; have := hbk b hw; omega⟩
    · exact ⟨m5.reads.keep kp fun b hb e => by have := f5 b hb; omega, fun b hb hw => by have := f5 b hb; have := hbk b hw; omega⟩
  · have h1 := small_len 10 a.r.num.toNat (by omega) (by omega)
    have h2 := small_len 10 a.r.items.length (by omega) (by omega)
    simp [cat]; omega
  obtain ⟨m6, k6, f6⟩ := hv
  have hcat : cat [(v4, small a.r.num.toNat), (v5, small a.r.items.length)] = small a.r.num.toNat ++ small a.r.items.length := by simp [cat]
  rw [hcat] at m6
  have kall : Keep nobody h1 h6 := by
    refine k2.trans (S' := fun b => b = h2.next + 11 ∨ blk w b) ⟨Nat.le_trans (k3.then (k4.then k5)).next (Nat.le_trans kp.next k6.next), fun b hb hn => ?_⟩ (fun b hb hs => (hs.elim (fun e => by omega) fun e => by have := hbk b e; omega))
    rw [k6.same b (by simp only [next_put]; exact Nat.lt_of_lt_of_le hb (k3.then (k4.then k5)).next) fun h => hn (.inr h), kp.same b (Nat.lt_of_lt_of_le hb (k3.then (k4.then k5)).next) fun h => hn (.inl h), (k3.then (k4.then k5)).same b hb id]
  have f6' : ∀ b, blk w2 b → h1.next ≤ b := fun b hb => by
    rcases f6 b hb with h | h
    · have := hbk b h; omega
    · simp only [next_put] at h; omega
  refine hK _ _ _ (C.seq (C.seq fun K hK => ?_))
  simp only [↓opStep_eq, ↓reduceIte, tg_set, toTm_cons, toTm_nil, fieldPtr_ptr, Nat.add_zero, Nat.zero_add, Nat.reduceAdd, Nat.reduceEqDiff, Int.reduceEq, Int.reduceLT, Int.reduceLE, Int.reduceNe, ↓kO_some, ↓kA_some, ↓kH_some, kO_some, kA_some, kH_some, gd_true, gd_false, nthD_zero, nthD_succ, isB_true, isB_false, isB_undef, pickV_true, pickV_false, binV_add, binV_sub, binV_mul, binV_eql, binV_neq, binV_lss, binV_leq, binV_gtr, binV_geq, unV_not, nt, nf, Bool.false_eq_true, dt, df, decide_true, decide_false, withV_some, aggO_some, ptrTo_eq, ↓aO_some, aO_some, ↓andB_true, andB_true, gz, gs, seqC, retC, skipC, exitC, blockC, condC, cells_agg, r16_3, ld _ (b1.keep0 kall), hlen]
  refine hK _ _ _ ?_
  refine C.block (C.loop (fun k tm hx => ∃ (i : Nat) (w : Value), k = a.r.items.length - i ∧ i ≤ a.r.items.length ∧ tg tm 3 = w ∧ tg tm 27 = a.r.iv ∧ tg tm 28 = .int .i64 (a.r.items.length : Int) ∧ tg tm 29 = .int .i64 (i : Int) ∧ Mine hx w ([u8 a.of, u8 a.r.kind] ++ (small a.r.num.toNat ++ small a.r.items.length) ++ (a.r.items.take i).flatMap itemBytes) ∧ Keep nobody h1 hx ∧ ∀ b, blk w b → h1.next ≤ b) a.r.items.length (by omega)
    ⟨0, w2, by simp, by simp, by simp only [↓opStep_eq, ↓reduceIte, tg_set, toTm_cons, toTm_nil, fieldPtr_ptr, Nat.add_zero, Nat.zero_add, Nat.reduceAdd, Nat.reduceEqDiff, Int.reduceEq, Int.reduceLT, Int.reduceLE, Int.reduceNe, ↓kO_some, ↓kA_some, ↓kH_some, kO_some, kA_some, kH_some, gd_true, gd_false, nthD_zero, nthD_succ, isB_true, isB_false, isB_undef, pickV_true, pickV_false, binV_add, binV_sub, binV_mul, binV_eql, binV_neq, binV_lss, binV_leq, binV_gtr, binV_geq, unV_not, nt, nf, Bool.false_eq_true, dt, df, decide_true, decide_false, withV_some, aggO_some, ptrTo_eq, ↓aO_some, aO_some, ↓andB_true, andB_true, gz, gs, seqC, retC, skipC, exitC, blockC, condC, cells_agg], by simp only [↓opStep_eq, ↓reduceIte, tg_set, toTm_cons, toTm_nil, fieldPtr_ptr, Nat.add_zero, Nat.zero_add, Nat.reduceAdd, Nat.reduceEqDiff, Int.reduceEq, Int.reduceLT, Int.reduceLE, Int.reduceNe, ↓kO_some, ↓kA_some, ↓kH_some, kO_some, kA_some, kH_some, gd_true, gd_false, nthD_zero, nthD_succ, isB_true, isB_false, isB_undef, pickV_true, pickV_false, binV_add, binV_sub, binV_mul, binV_eql, binV_neq, binV_lss, binV_leq, binV_gtr, binV_geq, unV_not, nt, nf, Bool.false_eq_true, dt, df, decide_true, decide_false, withV_some, aggO_some, ptrTo_eq, ↓aO_some, aO_some, ↓andB_true, andB_true, gz, gs, seqC, retC, skipC, exitC, blockC, condC, cells_agg], by simp only [↓opStep_eq, ↓reduceIte, tg_set, toTm_cons, toTm_nil, fieldPtr_ptr, Nat.add_zero, Nat.zero_add, Nat.reduceAdd, Nat.reduceEqDiff, Int.reduceEq, Int.reduceLT, Int.reduceLE, Int.reduceNe, ↓kO_some, ↓kA_some, ↓kH_some, kO_some, kA_some, kH_some, gd_true, gd_false, nthD_zero, nthD_succ, isB_true, isB_false, isB_undef, pickV_true, pickV_false, binV_add, binV_sub, binV_mul, binV_eql, binV_neq, binV_lss, binV_leq, binV_gtr, binV_geq, unV_not, nt, nf, Bool.false_eq_true, dt, df, decide_true, decide_false, withV_some, aggO_some, ptrTo_eq, ↓aO_some, aO_some, ↓andB_true, andB_true, gz, gs, seqC, retC, skipC, exitC, blockC, condC, cells_agg], by simp only [↓opStep_eq, ↓reduceIte, tg_set, toTm_cons, toTm_nil, fieldPtr_ptr, Nat.add_zero, Nat.zero_add, Nat.reduceAdd, Nat.reduceEqDiff, Int.reduceEq, Int.reduceLT, Int.reduceLE, Int.reduceNe, ↓kO_some, ↓kA_some, ↓kH_some, kO_some, kA_some, kH_some, gd_true, gd_false, nthD_zero, nthD_succ, isB_true, isB_false, isB_undef, pickV_true, pickV_false, binV_add, binV_sub, binV_mul, binV_eql, binV_neq, binV_lss, binV_leq, binV_gtr, binV_geq, unV_not, nt, nf, Bool.false_eq_true, dt, df, decide_true, decide_false, withV_some, aggO_some, ptrTo_eq, ↓aO_some, aO_some, ↓andB_true, andB_true, gz, gs, seqC, retC, skipC, exitC, blockC, condC, cells_agg]; rfl, by simpa using m6, kall, f6'⟩ ?_)
  rintro k tm hx ⟨i, wi, rfl, hil, t3, t27, t28, t29, mi, ki, fi⟩
  unfold l16_8
  refine C.seq fun K hK => ?_
  simp only [↓opStep_eq, ↓reduceIte, tg_set, toTm_cons, toTm_nil, fieldPtr_ptr, Nat.add_zero, Nat.zero_add, Nat.reduceAdd, Nat.reduceEqDiff, Int.reduceEq, Int.reduceLT, Int.reduceLE, Int.reduceNe, ↓kO_some, ↓kA_some, ↓kH_some, kO_some, kA_some, kH_some, gd_true, gd_false, nthD_zero, nthD_succ, isB_true, isB_false, isB_undef, pickV_true, pickV_false, binV_add, binV_sub, binV_mul, binV_eql, binV_neq, binV_lss, binV_leq, binV_gtr, binV_geq, unV_not, nt, nf, Bool.false_eq_true, dt, df, decide_true, decide_false, withV_some, aggO_some, ptrTo_eq, ↓aO_some, aO_some, ↓andB_true, andB_true, gz, gs, seqC, retC, skipC, exitC, blockC, condC, cells_agg, r16_4, t28, t29]
  refine hK _ _ _ (C.seq (C.cond (decide ((i : Int) < a.r.items.length)) (by simp only [↓opStep_eq, ↓reduceIte, tg_set, toTm_cons, toTm_nil, fieldPtr_ptr, Nat.add_zero, Nat.zero_add, Nat.reduceAdd, Nat.reduceEqDiff, Int.reduceEq, Int.reduceLT, Int.reduceLE, Int.reduceNe, ↓kO_some, ↓kA_some, ↓kH_some, kO_some, kA_some, kH_some, gd_true, gd_false, nthD_zero, nthD_succ, isB_true, isB_false, isB_undef, pickV_true, pickV_false, binV_add, binV_sub, binV_mul, binV_eql, binV_neq, binV_lss, binV_leq, binV_gtr, binV_geq, unV_not, nt, nf, Bool.false_eq_true, dt, df, decide_true, decide_false, withV_some, aggO_some, ptrTo_eq, ↓aO_some, aO_some, ↓andB_true, andB_true, gz, gs, seqC, retC, skipC, exitC, blockC, condC, cells_agg]) (fun hy => C.skip ?_) fun hy => C.exit ?_))
  · have hlt : i < a.r.items.length := by simpa using hy
    obtain ⟨x, hxi⟩ : ∃ x, a.r.items[i]? = some x := ⟨a.r.items[i], List.getElem?_eq_getElem hlt⟩
    have hxm := List.mem_of_getElem? hxi
    obtain ⟨b, o, e1, e2, _, e3, e4⟩ := (hi.keep0 (k1.then ki)).at hxi
    have hst := store_new hx 5 none [(.string (strB [])), (.string (strB [])), (.int .u32 (0)), (.int .i64 (0)), (.int .u64 (0))] x.v rfl rfl rfl
    have ka := keep_alloc hx (.rw [(.string (strB [])), (.string (strB [])), (.int .u32 (0)), (.int .i64 (0)), (.int .u64 (0))]) (.rw x.cells)
    have ba := has_alloc hx (.rw [(.string (strB [])), (.string (strB [])), (.int .u32 (0)), (.int .i64 (0)), (.int .u64 (0))]) (.rw x.cells)
    have hcx : (Value.cells x.v).toList = x.cells := rfl
    rw [hcx] at hst
    generalize hh7 : (hx.new (.rw [(.string (strB [])), (.string (strB [])), (.int .u32 (0)), (.int .i64 (0)), (.int .u64 (0))])).put hx.next (.rw x.cells) = h7 at *
    refine C.seq (C.block (C.seq fun K hK => ?_))
    simp only [↓opStep_eq, ↓reduceIte, tg_set, toTm_cons, toTm_nil, fieldPtr_ptr, Nat.add_zero, Nat.zero_add, Nat.reduceAdd, Nat.reduceEqDiff, Int.reduceEq, Int.reduceLT, Int.reduceLE, Int.reduceNe, ↓kO_some, ↓kA_some, ↓kH_some, kO_some, kA_some, kH_some, gd_true, gd_false, nthD_zero, nthD_succ, isB_true, isB_false, isB_undef, pickV_true, pickV_false, binV_add, binV_sub, binV_mul, binV_eql, binV_neq, binV_lss, binV_leq, binV_gtr, binV_geq, unV_not, nt, nf, Bool.false_eq_true, dt, df, decide_true, decide_false, withV_some, aggO_some, ptrTo_eq, ↓aO_some, aO_some, ↓andB_true, andB_true, gz, gs, seqC, retC, skipC, exitC, blockC, condC, cells_agg, r16_5, t27, t29, e1, e4, hst]
    have hpre := resBytes_len hn.2 h8 ok i (of := a.of)
    refine hK _ _ _ ((reg16_6 (L := L) (n := n) hL (ok x hxm).1 (ok x hxm).2 (by simp only [↓opStep_eq, ↓reduceIte, tg_set, toTm_cons, toTm_nil, fieldPtr_ptr, Nat.add_zero, Nat.zero_add, Nat.reduceAdd, Nat.reduceEqDiff, Int.reduceEq, Int.reduceLT, Int.reduceLE, Int.reduceNe, ↓kO_some, ↓kA_some, ↓kH_some, kO_some, kA_some, kH_some, gd_true, gd_false, nthD_zero, nthD_succ, isB_true, isB_false, isB_undef, pickV_true, pickV_false, binV_add, binV_sub, binV_mul, binV_eql, binV_neq, binV_lss, binV_leq, binV_gtr, binV_geq, unV_not, nt, nf, Bool.false_eq_true, dt, df, decide_true, decide_false, withV_some, aggO_some, ptrTo_eq, ↓aO_some, aO_some, ↓andB_true, andB_true, gz, gs, seqC, retC, skipC, exitC, blockC, condC, cells_agg, t3]) (by simp only [↓opStep_eq, ↓reduceIte, tg_set, toTm_cons, toTm_nil, fieldPtr_ptr, Nat.add_zero, Nat.zero_add, Nat.reduceAdd, Nat.reduceEqDiff, Int.reduceEq, Int.reduceLT, Int.reduceLE, Int.reduceNe, ↓kO_some, ↓kA_some, ↓kH_some, kO_some, kA_some, kH_some, gd_true, gd_false, nthD_zero, nthD_succ, isB_true, isB_false, isB_undef, pickV_true, pickV_false, binV_add, binV_sub, binV_mul, binV_eql, binV_neq, binV_lss, binV_leq, binV_gtr, binV_geq, unV_not, nt, nf, Bool.false_eq_true, dt, df, decide_true, decide_false, withV_some, aggO_some, ptrTo_eq, ↓aO_some, aO_some, ↓andB_true, andB_true, gz, gs, seqC, retC, skipC, exitC, blockC, condC, cells_agg]) (mi.keep0 ka) ba (by omega)).mono fun e tm' h' q => ?_)
    obtain ⟨rfl, w', rfl, m7, k7, f7⟩ := q
    intro K hK
    simp only [↓opStep_eq, ↓reduceIte, tg_set, toTm_cons, toTm_nil, fieldPtr_ptr, Nat.add_zero, Nat.zero_add, Nat.reduceAdd, Nat.reduceEqDiff, Int.reduceEq, Int.reduceLT, Int.reduceLE, Int.reduceNe, ↓kO_some, ↓kA_some, ↓kH_some, kO_some, kA_some, kH_some, gd_true, gd_false, nthD_zero, nthD_succ, isB_true, isB_false, isB_undef, pickV_true, pickV_false, binV_add, binV_sub, binV_mul, binV_eql, binV_neq, binV_lss, binV_leq, binV_gtr, binV_geq, unV_not, nt, nf, Bool.false_eq_true, dt, df, decide_true, decide_false, withV_some, aggO_some, ptrTo_eq, ↓aO_some, aO_some, ↓andB_true, andB_true, gz, gs, seqC, retC, skipC, exitC, blockC, condC, cells_agg, r16_7, t29]
    refine hK _ _ _ ⟨a.r.items.length - (i + 1), by omega, i + 1, w', rfl, by omega, by simp only [↓opStep_eq, ↓reduceIte, tg_set, toTm_cons, toTm_nil, fieldPtr_ptr, Nat.add_zero, Nat.zero_add, Nat.reduceAdd, Nat.reduceEqDiff, Int.reduceEq, Int.reduceLT, Int.reduceLE, Int.reduceNe, ↓kO_some, ↓kA_some, ↓kH_some, kO_some, kA_some, kH_some, gd_true, gd_false, nthD_zero, nthD_succ, isB_true, isB_false, isB_undef, pickV_true, pickV_false, binV_add, binV_sub, binV_mul, binV_eql, binV_neq, binV_lss, binV_leq, binV_gtr, binV_geq, unV_not, nt, nf, Bool.false_eq_true, dt, df, decide_true, decide_false, withV_some, aggO_some, ptrTo_eq, ↓aO_some, aO_some, ↓andB_true, andB_true, gz, gs, seqC, retC, skipC, exitC, blockC, condC, cells_agg], by simp only [↓opStep_eq, ↓reduceIte, tg_set, toTm_cons, toTm_nil, fieldPtr_ptr, Nat.add_zero, Nat.zero_add, Nat.reduceAdd, Nat.reduceEqDiff, Int.reduceEq, Int.reduceLT, Int.reduceLE, Int.reduceNe, ↓kO_some, ↓kA_some, ↓kH_some, kO_some, kA_some, kH_some, gd_true, gd_false, nthD_zero, nthD_succ, isB_true, isB_false, isB_undef, pickV_true, pickV_false, binV_add, binV_sub, binV_mul, binV_eql, binV_neq, binV_lss, binV_leq, binV_gtr, binV_geq, unV_not, nt, nf, Bool.false_eq_true, dt, df, decide_true, decide_false, withV_some, aggO_some, ptrTo_eq, ↓aO_some, aO_some, ↓andB_true, andB_true, gz, gs, seqC, retC, skipC, exitC, blockC, condC, cells_agg, t27], by simp only [↓opStep_eq, ↓reduceIte, tg_set, toTm_cons, toTm_nil, fieldPtr_ptr, Nat.add_zero, Nat.zero_add, Nat.reduceAdd, Nat.reduceEqDiff, Int.reduceEq, Int.reduceLT, Int.reduceLE, Int.reduceNe, ↓kO_some, ↓kA_some, ↓kH_some, kO_some, kA_some, kH_some, gd_true, gd_false, nthD_zero, nthD_succ, isB_true, isB_false, isB_undef, pickV_true, pickV_false, binV_add, binV_sub, binV_mul, binV_eql, binV_neq, binV_lss, binV_leq, binV_gtr, binV_geq, unV_not, nt, nf, Bool.false_eq_true, dt, df, decide_true, decide_false, withV_some, aggO_some, ptrTo_eq, ↓aO_some, aO_some, ↓andB_true, andB_true, gz, gs, seqC, retC, skipC, exitC, blockC, condC, cells_agg, t28], by simp only [↓opStep_eq, ↓reduceIte, tg_set, toTm_cons, toTm_nil, fieldPtr_ptr, Nat.add_zero, Nat.zero_add, Nat.reduceAdd, Nat.reduceEqDiff, Int.reduceEq, Int.reduceLT, Int.reduceLE, Int.reduceNe, ↓kO_some, ↓kA_some, ↓kH_some, kO_some, kA_some, kH_some, gd_true, gd_false, nthD_zero, nthD_succ, isB_true, isB_false, isB_undef, pickV_true, pickV_false, binV_add, binV_sub, binV_mul, binV_eql, binV_neq, binV_lss, binV_leq, binV_gtr, binV_geq, unV_not, nt, nf, Bool.false_eq_true, dt, df, decide_true, decide_false, withV_some, aggO_some, ptrTo_eq, ↓aO_some, aO_some, ↓andB_true, andB_true, gz, gs, seqC, retC, skipC, exitC, blockC, condC, cells_agg, wrap_succ i (show i < 9223372036854775807 by omega)], ?_, ?_, ?_⟩
    · rw [List.take_add_one, hxi]
      simpa using m7
    · refine (ki.then ka).trans k7 fun b hb hs => ?_
      have := fi b hs; omega
    · intro b hb
      rcases f7 b hb with h | h
      · exact fi b h
      · exact Nat.le_trans (ki.then ka).next h
  · have hge : i = a.r.items.length := by simp at hy; omega
    simp only [if_pos]
    refine C.seq fun K hK => ?_
    simp only [↓opStep_eq, ↓reduceIte, tg_set, toTm_cons, toTm_nil, fieldPtr_ptr, Nat.add_zero, Nat.zero_add, Nat.reduceAdd, Nat.reduceEqDiff, Int.reduceEq, Int.reduceLT, Int.reduceLE, Int.reduceNe, ↓kO_some, ↓kA_some, ↓kH_some, kO_some, kA_some, kH_some, gd_true, gd_false, nthD_zero, nthD_succ, isB_true, isB_false, isB_undef, pickV_true, pickV_false, binV_add, binV_sub, binV_mul, binV_eql, binV_neq, binV_lss, binV_leq, binV_gtr, binV_geq, unV_not, nt, nf, Bool.false_eq_true, dt, df, decide_true, decide_false, withV_some, aggO_some, ptrTo_eq, ↓aO_some, aO_some, ↓andB_true, andB_true, gz, gs, seqC, retC, skipC, exitC, blockC, condC, cells_agg, r16_8, t3]
    rw [hge, List.take_length] at mi
    exact hK _ _ _ (C.ret ⟨.inr rfl, _, rfl, by simpa only [↓opStep_eq, ↓reduceIte, tg_set, toTm_cons, toTm_nil, fieldPtr_ptr, Nat.add_zero, Nat.zero_add, Nat.reduceAdd, Nat.reduceEqDiff, Int.reduceEq, Int.reduceLT, Int.reduceLE, Int.reduceNe, ↓kO_some, ↓kA_some, ↓kH_some, kO_some, kA_some, kH_some, gd_true, gd_false, nthD_zero, nthD_succ, isB_true, isB_false, isB_undef, pickV_true, pickV_false, binV_add, binV_sub, binV_mul, binV_eql, binV_neq, binV_lss, binV_leq, binV_gtr, binV_geq, unV_not, nt, nf, Bool.false_eq_true, dt, df, decide_true, decide_false, withV_some, aggO_some, ptrTo_eq, ↓aO_some, aO_some, ↓andB_true, andB_true, gz, gs, seqC, retC, skipC, exitC, blockC, condC, cells_agg, resOf, resBytes] using mi, k1.then ki, fun b hb => by
      have := fi b (by simpa only [↓opStep_eq, ↓reduceIte, tg_set, toTm_cons, toTm_nil, fieldPtr_ptr, Nat.add_zero, Nat.zero_add, Nat.reduceAdd, Nat.reduceEqDiff, Int.reduceEq, Int.reduceLT, Int.reduceLE, Int.reduceNe, ↓kO_some, ↓kA_some, ↓kH_some, kO_some, kA_some, kH_some, gd_true, gd_false, nthD_zero, nthD_succ, isB_true, isB_false, isB_undef, pickV_true, pickV_false, binV_add, binV_sub, binV_mul, binV_eql, binV_neq, binV_lss, binV_leq, binV_gtr, binV_geq, unV_not, nt, nf, Bool.false_eq_true, dt, df, decide_true, decide_false, withV_some, aggO_some, ptrTo_eq, ↓aO_some, aO_some, ↓andB_true, andB_true, gz, gs, seqC, retC, skipC, exitC, blockC, condC, cells_agg, resOf] using hb); omega⟩)
end Go.Proofs.Ytpaolklbogakgaa

namespace Go.Proofs.Ytpaolklbogakgaa
open Go.Ev

def ansBytes (a : Ans) : List UInt8 := if a.kind = 1 then resBytes a.of a.r else if a.kind = 2 ∨ a.kind = 3 then [if a.yes then 1 else 0] else if a.kind = 7 then a.key.data.toList else []
/-- an answer whose numbers are of their kinds -/
structure Ans.ok (a : Ans) : Prop where
  kind : 0 ≤ a.kind ∧ a.kind < 256
  of : 0 ≤ a.of ∧ a.of < 256
  rk : 0 ≤ a.r.kind ∧ a.r.kind < 256
  num : 0 ≤ a.r.num ∧ a.r.num < 18446744073709551616
  items : ∀ x ∈ a.r.items, x.ok

theorem slim_of_err {x : Itm} (h : x.err = 0) : x.slim := by
  have hl : x.long = false := by
    rw [Bool.eq_false_iff]; intro hl
    simp [Itm.err, hl] at h
  simp only [Itm.long, Bool.or_eq_false_iff, decide_eq_false_iff_not] at hl
  exact ⟨by omega, by omega⟩
theorem may_items {a : Ans} (h : mayB a = true) (hk : a.kind = 1) : a.r.items.length ≤ 8 ∧ ∀ x ∈ a.r.items, x.slim := by
  simp only [mayB, bodyB, hk, if_true, Bool.and_eq_true, resultB, goodItems] at h
  obtain ⟨⟨⟨⟨⟨_, h2⟩, _⟩, h4⟩, _⟩, _⟩ := h
  refine ⟨?_, fun x hx => slim_of_err (by simpa using List.all_eq_true.1 h4 x hx)⟩
  simp only [Bool.not_eq_true', Bool.or_eq_false_iff, decide_eq_false_iff_not] at h2
  omega
theorem may_key {a : Ans} (h : mayB a = true) : a.key.size ≤ 32 := by
  simp only [mayB, Bool.and_eq_true, keyB] at h
  obtain ⟨⟨_, h2⟩, _⟩ := h
  split at h2
  · simp only [Bool.and_eq_true, decide_eq_true_eq] at h2; omega
  · simp only [decide_eq_true_eq] at h2; omega
theorem ansBytes_len {a : Ans} (ok : a.ok) (h : mayB a = true) : (ansBytes a).length ≤ 10000 := by
  unfold ansBytes
  split
  · rename_i hk
    obtain ⟨h8, hs⟩ := may_items h hk
    have := resBytes_len ok.num.2 h8 (fun x hx => ⟨ok.items x hx, hs x hx⟩) 8 (of := a.of)
    rw [List.take_of_length_le h8] at this
    exact this
  · split
    · simp
    · split
      · have := may_key h
        have e : a.key.data.toList.length = a.key.size := rfl
        omega
      · simp

/-- what a writer answers -/
def wErr (a : Ans) : Int := if mayB a then (if 4096 < ((ansBytes a).length : Int) then 3 else 0) else 8
def wBytes (a : Ans) : List UInt8 := if mayB a then (if 4096 < ((ansBytes a).length : Int) then [] else pack 178 (u8 a.kind) (ansBytes a)) else []

theorem mkBytes_eq (b : Nat) (s : ByteArray) : mkBytes b (.string s) = some (.op (s.data.toList.map bv) 1, .slice (some ⟨b, 0, none⟩) s.size (opCap s.size 1)) := rfl

theorem packed_write (L n : Nat) (a : Ans) (h : H) (ok : a.ok) (hi : ItemsAt h a.r.iv a.r.items) (hL : 100 < L) (hLi : a.r.items.length < L) (h63 : a.r.items.length < 9223372036854775807) :
    Sp (CF L (n + 8)) 9 [a.v] h fun r h' => ∃ x, r = .tuple [x, .int .i64 (wErr a)].toArray ∧ Mine h' x (wBytes a) ∧ Keep nobody h h' ∧ ∀ b, blk x b → h.next ≤ b := by
  refine Sp.body f9 (by simp) ?_
  have hc : (Value.cells a.v).toList = a.cells := rfl
  have k1 := Keep.new h (.rw a.cells)
  have b1 := Has.new h (.rw a.cells)
  generalize hh : h.new (.rw a.cells) = h1 at *
  have ld : ∀ (hx : H), Has hx h.next (.rw a.cells) → ∀ o s, loadOne hx (.pointer (some ⟨h.next, o, s⟩)) = [Value.int .u8 a.kind, .int .u8 a.of, .int .u8 a.r.kind, a.r.iv, .int .u64 a.r.num, .bool a.yes, .string a.key][o]? := fun hx hb o s => loadOne_has hb rfl
  have lda : ∀ (hx : H), Has hx h.next (.rw a.cells) → ∀ s, loadAgg 7 hx (.pointer (some ⟨h.next, 0, s⟩)) = some a.v := fun hx hb s => loadAgg_has hb rfl (by simp [Ans.cells])
  unfold c9
  refine C.seq fun K hK => ?_
  simp only [↓opStep_eq, ↓reduceIte, tg_set, toTm_cons, toTm_nil, fieldPtr_ptr, Nat.add_zero, Nat.zero_add, Nat.reduceAdd, Nat.reduceEqDiff, Int.reduceEq, Int.reduceLT, Int.reduceLE, Int.reduceNe, ↓kO_some, ↓kA_some, ↓kH_some, kO_some, kA_some, kH_some, gd_true, gd_false, nthD_zero, nthD_succ, isB_true, isB_false, isB_undef, pickV_true, pickV_false, binV_add, binV_sub, binV_mul, binV_eql, binV_neq, binV_lss, binV_leq, binV_gtr, binV_geq, unV_not, nt, nf, Bool.false_eq_true, dt, df, decide_true, decide_false, withV_some, aggO_some, ptrTo_eq, ↓aO_some, aO_some, ↓andB_true, andB_true, gz, gs, seqC, retC, skipC, exitC, blockC, condC, cells_agg, r9_0, hc, hh]
  refine hK _ _ _ (C.seq (C.seq fun K hK => ?_))
  simp only [↓opStep_eq, ↓reduceIte, tg_set, toTm_cons, toTm_nil, fieldPtr_ptr, Nat.add_zero, Nat.zero_add, Nat.reduceAdd, Nat.reduceEqDiff, Int.reduceEq, Int.reduceLT, Int.reduceLE, Int.reduceNe, ↓kO_some, ↓kA_some, ↓kH_some, kO_some, kA_some, kH_some, gd_true, gd_false, nthD_zero, nthD_succ, isB_true, isB_false, isB_undef, pickV_true, pickV_false, binV_add, binV_sub, binV_mul, binV_eql, binV_neq, binV_lss, binV_leq, binV_gtr, binV_geq, unV_not, nt, nf, Bool.false_eq_true, dt, df, decide_true, decide_false, withV_some, aggO_some, ptrTo_eq, ↓aO_some, aO_some, ↓andB_true, andB_true, gz, gs, seqC, retC, skipC, exitC, blockC, condC, cells_agg, r9_1, lda _ b1]
  refine words_check L n a h1 (hi.keep0 k1) hLi h63 _ fun v h2 hv => ?_
  obtain ⟨rfl, k2⟩ := hv
  refine hK _ _ _ (C.seq fun K hK => ?_)
  have hne : (!decide ((if mayB a = true then (0 : Int) else 8) = 0)) = !mayB a := by cases mayB a <;> rfl
  simp only [↓opStep_eq, ↓reduceIte, tg_set, toTm_cons, toTm_nil, fieldPtr_ptr, Nat.add_zero, Nat.zero_add, Nat.reduceAdd, Nat.reduceEqDiff, Int.reduceEq, Int.reduceLT, Int.reduceLE, Int.reduceNe, ↓kO_some, ↓kA_some, ↓kH_some, kO_some, kA_some, kH_some, gd_true, gd_false, nthD_zero, nthD_succ, isB_true, isB_false, isB_undef, pickV_true, pickV_false, binV_add, binV_sub, binV_mul, binV_eql, binV_neq, binV_lss, binV_leq, binV_gtr, binV_geq, unV_not, nt, nf, Bool.false_eq_true, dt, df, decide_true, decide_false, withV_some, aggO_some, ptrTo_eq, ↓aO_some, aO_some, ↓andB_true, andB_true, gz, gs, seqC, retC, skipC, exitC, blockC, condC, cells_agg, r9_2]
  refine hK _ _ _ (C.cond (!mayB a) (by simp only [↓opStep_eq, ↓reduceIte, tg_set, toTm_cons, toTm_nil, fieldPtr_ptr, Nat.add_zero, Nat.zero_add, Nat.reduceAdd, Nat.reduceEqDiff, Int.reduceEq, Int.reduceLT, Int.reduceLE, Int.reduceNe, ↓kO_some, ↓kA_some, ↓kH_some, kO_some, kA_some, kH_some, gd_true, gd_false, nthD_zero, nthD_succ, isB_true, isB_false, isB_undef, pickV_true, pickV_false, binV_add, binV_sub, binV_mul, binV_eql, binV_neq, binV_lss, binV_leq, binV_gtr, binV_geq, unV_not, nt, nf, Bool.false_eq_true, dt, df, decide_true, decide_false, withV_some, aggO_some, ptrTo_eq, ↓aO_some, aO_some, ↓andB_true, andB_true, gz, gs, seqC, retC, skipC, exitC, blockC, condC, cells_agg]; rw [← hne]) (fun g => C.seq fun K hK => ?_) fun g => C.skip ?_)
  · have g : mayB a = false := by simpa using g
    simp only [↓opStep_eq, ↓reduceIte, tg_set, toTm_cons, toTm_nil, fieldPtr_ptr, Nat.add_zero, Nat.zero_add, Nat.reduceAdd, Nat.reduceEqDiff, Int.reduceEq, Int.reduceLT, Int.reduceLE, Int.reduceNe, ↓kO_some, ↓kA_some, ↓kH_some, kO_some, kA_some, kH_some, gd_true, gd_false, nthD_zero, nthD_succ, isB_true, isB_false, isB_undef, pickV_true, pickV_false, binV_add, binV_sub, binV_mul, binV_eql, binV_neq, binV_lss, binV_leq, binV_gtr, binV_geq, unV_not, nt, nf, Bool.false_eq_true, dt, df, decide_true, decide_false, withV_some, aggO_some, ptrTo_eq, ↓aO_some, aO_some, ↓andB_true, andB_true, gz, gs, seqC, retC, skipC, exitC, blockC, condC, cells_agg, r9_3, g]
    refine hK _ _ _ (C.ret ⟨.inr rfl, _, rfl, .slice none 0 0, by simp [resOf, wErr, g], by simp only [wBytes, g, ↓opStep_eq, ↓reduceIte, tg_set, toTm_cons, toTm_nil, fieldPtr_ptr, Nat.add_zero, Nat.zero_add, Nat.reduceAdd, Nat.reduceEqDiff, Int.reduceEq, Int.reduceLT, Int.reduceLE, Int.reduceNe, ↓kO_some, ↓kA_some, ↓kH_some, kO_some, kA_some, kH_some, gd_true, gd_false, nthD_zero, nthD_succ, isB_true, isB_false, isB_undef, pickV_true, pickV_false, binV_add, binV_sub, binV_mul, binV_eql, binV_neq, binV_lss, binV_leq, binV_gtr, binV_geq, unV_not, nt, nf, Bool.false_eq_true, dt, df, decide_true, decide_false, withV_some, aggO_some, ptrTo_eq, ↓aO_some, aO_some, ↓andB_true, andB_true, gz, gs, seqC, retC, skipC, exitC, blockC, condC, cells_agg]; exact .nil, k1.then k2, by simp⟩)
  have g : mayB a = true := by simpa using g
  have b2 := b1.keep0 k2
  have hlen := ansBytes_len ok g
  have tail : ∀ (tm : T Value) (h3 : H) (v : Value), tg tm 1 = .pointer (some ⟨h.next, 0, none⟩) → tg tm 5 = v → Mine h3 v (ansBytes a) → Keep nobody h1 h3 → C ⟨seqC ⟨r9_13⟩ retC⟩ (CF L (n + 7)) L tm h3 fun e tm h' => (e = .norm ∨ e = .ret) ∧ ∃ l, q9.f tm h' = some l ∧ ∃ x, resOf l = .tuple [x, .int .i64 (wErr a)].toArray ∧ Mine h' x (wBytes a) ∧ Keep nobody h h' ∧ ∀ b, blk x b → h.next ≤ b := fun tm h3 v t1 t5 m3 k3 => by
    refine C.seq fun K hK => ?_
    have e178 : Value.int .u8 178 = bv 178 := rfl
    simp only [↓opStep_eq, ↓reduceIte, tg_set, toTm_cons, toTm_nil, fieldPtr_ptr, Nat.add_zero, Nat.zero_add, Nat.reduceAdd, Nat.reduceEqDiff, Int.reduceEq, Int.reduceLT, Int.reduceLE, Int.reduceNe, ↓kO_some, ↓kA_some, ↓kH_some, kO_some, kA_some, kH_some, gd_true, gd_false, nthD_zero, nthD_succ, isB_true, isB_false, isB_undef, pickV_true, pickV_false, binV_add, binV_sub, binV_mul, binV_eql, binV_neq, binV_lss, binV_leq, binV_gtr, binV_geq, unV_not, nt, nf, Bool.false_eq_true, dt, df, decide_true, decide_false, withV_some, aggO_some, ptrTo_eq, ↓aO_some, aO_some, ↓andB_true, andB_true, gz, gs, seqC, retC, skipC, exitC, blockC, condC, cells_agg, r9_13, t1, t5, ld _ (b1.keep0 k3), e178, u8_bv ok.kind.1 ok.kind.2]
    refine bin_Packet L (n + 5) 178 (u8 a.kind) v (ansBytes a) h3 m3.reads (by omega) _ fun r h4 hr => ?_
    obtain ⟨x, rfl, m4, k4, f4⟩ := hr
    simp only [↓opStep_eq, ↓reduceIte, tg_set, toTm_cons, toTm_nil, fieldPtr_ptr, Nat.add_zero, Nat.zero_add, Nat.reduceAdd, Nat.reduceEqDiff, Int.reduceEq, Int.reduceLT, Int.reduceLE, Int.reduceNe, ↓kO_some, ↓kA_some, ↓kH_some, kO_some, kA_some, kH_some, gd_true, gd_false, nthD_zero, nthD_succ, isB_true, isB_false, isB_undef, pickV_true, pickV_false, binV_add, binV_sub, binV_mul, binV_eql, binV_neq, binV_lss, binV_leq, binV_gtr, binV_geq, unV_not, nt, nf, Bool.false_eq_true, dt, df, decide_true, decide_false, withV_some, aggO_some, ptrTo_eq, ↓aO_some, aO_some, ↓andB_true, andB_true, gz, gs, seqC, retC, skipC, exitC, blockC, condC, cells_agg, tupNth_tuple]
    refine hK _ _ _ (C.ret ⟨.inr rfl, _, rfl, x, by simp [resOf, wErr, g], by simpa only [wBytes, g, ↓opStep_eq, ↓reduceIte, tg_set, toTm_cons, toTm_nil, fieldPtr_ptr, Nat.add_zero, Nat.zero_add, Nat.reduceAdd, Nat.reduceEqDiff, Int.reduceEq, Int.reduceLT, Int.reduceLE, Int.reduceNe, ↓kO_some, ↓kA_some, ↓kH_some, kO_some, kA_some, kH_some, gd_true, gd_false, nthD_zero, nthD_succ, isB_true, isB_false, isB_undef, pickV_true, pickV_false, binV_add, binV_sub, binV_mul, binV_eql, binV_neq, binV_lss, binV_leq, binV_gtr, binV_geq, unV_not, nt, nf, Bool.false_eq_true, dt, df, decide_true, decide_false, withV_some, aggO_some, ptrTo_eq, ↓aO_some, aO_some, ↓andB_true, andB_true, gz, gs, seqC, retC, skipC, exitC, blockC, condC, cells_agg] using m4, (k1.then k3).then k4, fun b hb => ?_⟩)
    have := f4 b hb
    have := (k1.then k3).next
    omega
  refine C.seq fun K hK => hK .norm _ _ (C.seq (C.seq fun K hK => ?_))
  simp only [↓opStep_eq, ↓reduceIte, tg_set, toTm_cons, toTm_nil, fieldPtr_ptr, Nat.add_zero, Nat.zero_add, Nat.reduceAdd, Nat.reduceEqDiff, Int.reduceEq, Int.reduceLT, Int.reduceLE, Int.reduceNe, ↓kO_some, ↓kA_some, ↓kH_some, kO_some, kA_some, kH_some, gd_true, gd_false, nthD_zero, nthD_succ, isB_true, isB_false, isB_undef, pickV_true, pickV_false, binV_add, binV_sub, binV_mul, binV_eql, binV_neq, binV_lss, binV_leq, binV_gtr, binV_geq, unV_not, nt, nf, Bool.false_eq_true, dt, df, decide_true, decide_false, withV_some, aggO_some, ptrTo_eq, ↓aO_some, aO_some, ↓andB_true, andB_true, gz, gs, seqC, retC, skipC, exitC, blockC, condC, cells_agg, r9_5, ld _ b2]
  refine hK _ _ _ (C.block (C.seq fun K hK => ?_))
  simp only [↓opStep_eq, ↓reduceIte, tg_set, toTm_cons, toTm_nil, fieldPtr_ptr, Nat.add_zero, Nat.zero_add, Nat.reduceAdd, Nat.reduceEqDiff, Int.reduceEq, Int.reduceLT, Int.reduceLE, Int.reduceNe, ↓kO_some, ↓kA_some, ↓kH_some, kO_some, kA_some, kH_some, gd_true, gd_false, nthD_zero, nthD_succ, isB_true, isB_false, isB_undef, pickV_true, pickV_false, binV_add, binV_sub, binV_mul, binV_eql, binV_neq, binV_lss, binV_leq, binV_gtr, binV_geq, unV_not, nt, nf, Bool.false_eq_true, dt, df, decide_true, decide_false, withV_some, aggO_some, ptrTo_eq, ↓aO_some, aO_some, ↓andB_true, andB_true, gz, gs, seqC, retC, skipC, exitC, blockC, condC, cells_agg, r9_6]
  refine hK _ _ _ (C.cond (decide (a.kind = 1)) (by simp only [↓opStep_eq, ↓reduceIte, tg_set, toTm_cons, toTm_nil, fieldPtr_ptr, Nat.add_zero, Nat.zero_add, Nat.reduceAdd, Nat.reduceEqDiff, Int.reduceEq, Int.reduceLT, Int.reduceLE, Int.reduceNe, ↓kO_some, ↓kA_some, ↓kH_some, kO_some, kA_some, kH_some, gd_true, gd_false, nthD_zero, nthD_succ, isB_true, isB_false, isB_undef, pickV_true, pickV_false, binV_add, binV_sub, binV_mul, binV_eql, binV_neq, binV_lss, binV_leq, binV_gtr, binV_geq, unV_not, nt, nf, Bool.false_eq_true, dt, df, decide_true, decide_false, withV_some, aggO_some, ptrTo_eq, ↓aO_some, aO_some, ↓andB_true, andB_true, gz, gs, seqC, retC, skipC, exitC, blockC, condC, cells_agg]) (fun g1 => ?_) fun g1 => ?_)
  · have g1 : a.kind = 1 := by simpa using g1
    obtain ⟨h8, hs⟩ := may_items g g1
    intro K hK
    simp only [↓opStep_eq, ↓reduceIte, tg_set, toTm_cons, toTm_nil, fieldPtr_ptr, Nat.add_zero, Nat.zero_add, Nat.reduceAdd, Nat.reduceEqDiff, Int.reduceEq, Int.reduceLT, Int.reduceLE, Int.reduceNe, ↓kO_some, ↓kA_some, ↓kH_some, kO_some, kA_some, kH_some, gd_true, gd_false, nthD_zero, nthD_succ, isB_true, isB_false, isB_undef, pickV_true, pickV_false, binV_add, binV_sub, binV_mul, binV_eql, binV_neq, binV_lss, binV_leq, binV_gtr, binV_geq, unV_not, nt, nf, Bool.false_eq_true, dt, df, decide_true, decide_false, withV_some, aggO_some, ptrTo_eq, ↓aO_some, aO_some, ↓andB_true, andB_true, gz, gs, seqC, retC, skipC, exitC, blockC, condC, cells_agg, r9_7, lda _ b2]
    refine packed_result L (n + 4) hL a h2 (hi.keep0 (k1.then k2)) ok.of ok.rk ok.num h8 (fun x hx => ⟨ok.items x hx, hs x hx⟩) _ fun v h3 hv => ?_
    obtain ⟨m3, k3, f3⟩ := hv
    exact hK _ _ _ (tail _ _ v (by simp only [↓opStep_eq, ↓reduceIte, tg_set, toTm_cons, toTm_nil, fieldPtr_ptr, Nat.add_zero, Nat.zero_add, Nat.reduceAdd, Nat.reduceEqDiff, Int.reduceEq, Int.reduceLT, Int.reduceLE, Int.reduceNe, ↓kO_some, ↓kA_some, ↓kH_some, kO_some, kA_some, kH_some, gd_true, gd_false, nthD_zero, nthD_succ, isB_true, isB_false, isB_undef, pickV_true, pickV_false, binV_add, binV_sub, binV_mul, binV_eql, binV_neq, binV_lss, binV_leq, binV_gtr, binV_geq, unV_not, nt, nf, Bool.false_eq_true, dt, df, decide_true, decide_false, withV_some, aggO_some, ptrTo_eq, ↓aO_some, aO_some, ↓andB_true, andB_true, gz, gs, seqC, retC, skipC, exitC, blockC, condC, cells_agg]) (by simp only [↓opStep_eq, ↓reduceIte, tg_set, toTm_cons, toTm_nil, fieldPtr_ptr, Nat.add_zero, Nat.zero_add, Nat.reduceAdd, Nat.reduceEqDiff, Int.reduceEq, Int.reduceLT, Int.reduceLE, Int.reduceNe, ↓kO_some, ↓kA_some, ↓kH_some, kO_some, kA_some, kH_some, gd_true, gd_false, nthD_zero, nthD_succ, isB_true, isB_false, isB_undef, pickV_true, pickV_false, binV_add, binV_sub, binV_mul, binV_eql, binV_neq, binV_lss, binV_leq, binV_gtr, binV_geq, unV_not, nt, nf, Bool.false_eq_true, dt, df, decide_true, decide_false, withV_some, aggO_some, ptrTo_eq, ↓aO_some, aO_some, ↓andB_true, andB_true, gz, gs, seqC, retC, skipC, exitC, blockC, condC, cells_agg]) (by simpa only [ansBytes, g1, if_true] using m3) (k2.then k3))
  have g1 : ¬ a.kind = 1 := by simpa using g1
  have next : ∀ (tm : T Value), tg tm 1 = .pointer (some ⟨h.next, 0, none⟩) → tg tm 5 = .slice none 0 0 → tg tm 12 = .int .u8 a.kind → tg tm 17 = .bool (decide (a.kind = 2) || decide (a.kind = 3)) → C ⟨condC ⟨fun _ tm => tg tm 17⟩ ⟨r9_10⟩ ⟨seqC ⟨r9_11⟩ ⟨condC ⟨fun _ tm => tg tm 23⟩ ⟨r9_12⟩ skipC⟩⟩⟩ (CF L (n + 7)) L tm h2 fun e tm' h' => e = .norm ∧ tg tm' 1 = .pointer (some ⟨h.next, 0, none⟩) ∧ ∃ v, tg tm' 5 = v ∧ Mine h' v (ansBytes a) ∧ Keep nobody h1 h' := fun tm t1 t5 t12 t17 => by
    refine C.cond _ t17 (fun g2 => ?_) fun g2 => ?_
    · intro K hK
      simp only [↓opStep_eq, ↓reduceIte, tg_set, toTm_cons, toTm_nil, fieldPtr_ptr, Nat.add_zero, Nat.zero_add, Nat.reduceAdd, Nat.reduceEqDiff, Int.reduceEq, Int.reduceLT, Int.reduceLE, Int.reduceNe, ↓kO_some, ↓kA_some, ↓kH_some, kO_some, kA_some, kH_some, gd_true, gd_false, nthD_zero, nthD_succ, isB_true, isB_false, isB_undef, pickV_true, pickV_false, binV_add, binV_sub, binV_mul, binV_eql, binV_neq, binV_lss, binV_leq, binV_gtr, binV_geq, unV_not, nt, nf, Bool.false_eq_true, dt, df, decide_true, decide_false, withV_some, aggO_some, ptrTo_eq, ↓aO_some, aO_some, ↓andB_true, andB_true, gz, gs, seqC, retC, skipC, exitC, blockC, condC, cells_agg, r9_10, t1, ld _ b2]
      refine packed_flag L (n + 6) a.yes h2 _ fun v h3 hv => ?_
      obtain ⟨m3, k3, f3⟩ := hv
      have g2 : a.kind = 2 ∨ a.kind = 3 := by simpa using g2
      exact hK _ _ _ ⟨rfl, by simp only [↓opStep_eq, ↓reduceIte, tg_set, toTm_cons, toTm_nil, fieldPtr_ptr, Nat.add_zero, Nat.zero_add, Nat.reduceAdd, Nat.reduceEqDiff, Int.reduceEq, Int.reduceLT, Int.reduceLE, Int.reduceNe, ↓kO_some, ↓kA_some, ↓kH_some, kO_some, kA_some, kH_some, gd_true, gd_false, nthD_zero, nthD_succ, isB_true, isB_false, isB_undef, pickV_true, pickV_false, binV_add, binV_sub, binV_mul, binV_eql, binV_neq, binV_lss, binV_leq, binV_gtr, binV_geq, unV_not, nt, nf, Bool.false_eq_true, dt, df, decide_true, decide_false, withV_some, aggO_some, ptrTo_eq, ↓aO_some, aO_some, ↓andB_true, andB_true, gz, gs, seqC, retC, skipC, exitC, blockC, condC, cells_agg, t1], v, by simp only [↓opStep_eq, ↓reduceIte, tg_set, toTm_cons, toTm_nil, fieldPtr_ptr, Nat.add_zero, Nat.zero_add, Nat.reduceAdd, Nat.reduceEqDiff, Int.reduceEq, Int.reduceLT, Int.reduceLE, Int.reduceNe, ↓kO_some, ↓kA_some, ↓kH_some, kO_some, kA_some, kH_some, gd_true, gd_false, nthD_zero, nthD_succ, isB_true, isB_false, isB_undef, pickV_true, pickV_false, binV_add, binV_sub, binV_mul, binV_eql, binV_neq, binV_lss, binV_leq, binV_gtr, binV_geq, unV_not, nt, nf, Bool.false_eq_true, dt, df, decide_true, decide_false, withV_some, aggO_some, ptrTo_eq, ↓aO_some, aO_some, ↓andB_true, andB_true, gz, gs, seqC, retC, skipC, exitC, blockC, condC, cells_agg], by simpa only [ansBytes, g1, g2, if_true, if_false] using m3, k2.then k3⟩
    · have g2 : ¬ (a.kind = 2 ∨ a.kind = 3) := by simpa using g2
      refine C.seq fun K hK => ?_
      simp only [↓opStep_eq, ↓reduceIte, tg_set, toTm_cons, toTm_nil, fieldPtr_ptr, Nat.add_zero, Nat.zero_add, Nat.reduceAdd, Nat.reduceEqDiff, Int.reduceEq, Int.reduceLT, Int.reduceLE, Int.reduceNe, ↓kO_some, ↓kA_some, ↓kH_some, kO_some, kA_some, kH_some, gd_true, gd_false, nthD_zero, nthD_succ, isB_true, isB_false, isB_undef, pickV_true, pickV_false, binV_add, binV_sub, binV_mul, binV_eql, binV_neq, binV_lss, binV_leq, binV_gtr, binV_geq, unV_not, nt, nf, Bool.false_eq_true, dt, df, decide_true, decide_false, withV_some, aggO_some, ptrTo_eq, ↓aO_some, aO_some, ↓andB_true, andB_true, gz, gs, seqC, retC, skipC, exitC, blockC, condC, cells_agg, r9_11, t12]
      refine hK _ _ _ (C.cond (decide (a.kind = 7)) (by simp only [↓opStep_eq, ↓reduceIte, tg_set, toTm_cons, toTm_nil, fieldPtr_ptr, Nat.add_zero, Nat.zero_add, Nat.reduceAdd, Nat.reduceEqDiff, Int.reduceEq, Int.reduceLT, Int.reduceLE, Int.reduceNe, ↓kO_some, ↓kA_some, ↓kH_some, kO_some, kA_some, kH_some, gd_true, gd_false, nthD_zero, nthD_succ, isB_true, isB_false, isB_undef, pickV_true, pickV_false, binV_add, binV_sub, binV_mul, binV_eql, binV_neq, binV_lss, binV_leq, binV_gtr, binV_geq, unV_not, nt, nf, Bool.false_eq_true, dt, df, decide_true, decide_false, withV_some, aggO_some, ptrTo_eq, ↓aO_some, aO_some, ↓andB_true, andB_true, gz, gs, seqC, retC, skipC, exitC, blockC, condC, cells_agg]) (fun g3 => ?_) fun g3 => C.skip ?_)
      · have g3 : a.kind = 7 := by simpa using g3
        intro K hK
        simp only [↓opStep_eq, ↓reduceIte, tg_set, toTm_cons, toTm_nil, fieldPtr_ptr, Nat.add_zero, Nat.zero_add, Nat.reduceAdd, Nat.reduceEqDiff, Int.reduceEq, Int.reduceLT, Int.reduceLE, Int.reduceNe, ↓kO_some, ↓kA_some, ↓kH_some, kO_some, kA_some, kH_some, gd_true, gd_false, nthD_zero, nthD_succ, isB_true, isB_false, isB_undef, pickV_true, pickV_false, binV_add, binV_sub, binV_mul, binV_eql, binV_neq, binV_lss, binV_leq, binV_gtr, binV_geq, unV_not, nt, nf, Bool.false_eq_true, dt, df, decide_true, decide_false, withV_some, aggO_some, ptrTo_eq, ↓aO_some, aO_some, ↓andB_true, andB_true, gz, gs, seqC, retC, skipC, exitC, blockC, condC, cells_agg, r9_12, t1, ld _ b2, mkBytes_eq]
        refine hK _ _ _ ⟨rfl, by simp only [↓opStep_eq, ↓reduceIte, tg_set, toTm_cons, toTm_nil, fieldPtr_ptr, Nat.add_zero, Nat.zero_add, Nat.reduceAdd, Nat.reduceEqDiff, Int.reduceEq, Int.reduceLT, Int.reduceLE, Int.reduceNe, ↓kO_some, ↓kA_some, ↓kH_some, kO_some, kA_some, kH_some, gd_true, gd_false, nthD_zero, nthD_succ, isB_true, isB_false, isB_undef, pickV_true, pickV_false, binV_add, binV_sub, binV_mul, binV_eql, binV_neq, binV_lss, binV_leq, binV_gtr, binV_geq, unV_not, nt, nf, Bool.false_eq_true, dt, df, decide_true, decide_false, withV_some, aggO_some, ptrTo_eq, ↓aO_some, aO_some, ↓andB_true, andB_true, gz, gs, seqC, retC, skipC, exitC, blockC, condC, cells_agg, t1], _, by simp only [↓opStep_eq, ↓reduceIte, tg_set, toTm_cons, toTm_nil, fieldPtr_ptr, Nat.add_zero, Nat.zero_add, Nat.reduceAdd, Nat.reduceEqDiff, Int.reduceEq, Int.reduceLT, Int.reduceLE, Int.reduceNe, ↓kO_some, ↓kA_some, ↓kH_some, kO_some, kA_some, kH_some, gd_true, gd_false, nthD_zero, nthD_succ, isB_true, isB_false, isB_undef, pickV_true, pickV_false, binV_add, binV_sub, binV_mul, binV_eql, binV_neq, binV_lss, binV_leq, binV_gtr, binV_geq, unV_not, nt, nf, Bool.false_eq_true, dt, df, decide_true, decide_false, withV_some, aggO_some, ptrTo_eq, ↓aO_some, aO_some, ↓andB_true, andB_true, gz, gs, seqC, retC, skipC, exitC, blockC, condC, cells_agg]; rfl, ?_, k2.then (Keep.new _ _)⟩
        simp only [ansBytes, g1, g2, g3, if_false, if_true]
        have e7 : ¬ ((7 : Int) = 1) := by decide
        have e8 : ¬ ((7 : Int) = 2 ∨ (7 : Int) = 3) := by decide
        simp only [e7, e8, if_false, if_true]
        exact Mine.op _ _ _ (opCap_open _) (opCap_size _) (Has.new _ _)
      · have g3 : ¬ a.kind = 7 := by simpa using g3
        refine ⟨rfl, by simp only [↓opStep_eq, ↓reduceIte, tg_set, toTm_cons, toTm_nil, fieldPtr_ptr, Nat.add_zero, Nat.zero_add, Nat.reduceAdd, Nat.reduceEqDiff, Int.reduceEq, Int.reduceLT, Int.reduceLE, Int.reduceNe, ↓kO_some, ↓kA_some, ↓kH_some, kO_some, kA_some, kH_some, gd_true, gd_false, nthD_zero, nthD_succ, isB_true, isB_false, isB_undef, pickV_true, pickV_false, binV_add, binV_sub, binV_mul, binV_eql, binV_neq, binV_lss, binV_leq, binV_gtr, binV_geq, unV_not, nt, nf, Bool.false_eq_true, dt, df, decide_true, decide_false, withV_some, aggO_some, ptrTo_eq, ↓aO_some, aO_some, ↓andB_true, andB_true, gz, gs, seqC, retC, skipC, exitC, blockC, condC, cells_agg, t1], _, by simp only [↓opStep_eq, ↓reduceIte, tg_set, toTm_cons, toTm_nil, fieldPtr_ptr, Nat.add_zero, Nat.zero_add, Nat.reduceAdd, Nat.reduceEqDiff, Int.reduceEq, Int.reduceLT, Int.reduceLE, Int.reduceNe, ↓kO_some, ↓kA_some, ↓kH_some, kO_some, kA_some, kH_some, gd_true, gd_false, nthD_zero, nthD_succ, isB_true, isB_false, isB_undef, pickV_true, pickV_false, binV_add, binV_sub, binV_mul, binV_eql, binV_neq, binV_lss, binV_leq, binV_gtr, binV_geq, unV_not, nt, nf, Bool.false_eq_true, dt, df, decide_true, decide_false, withV_some, aggO_some, ptrTo_eq, ↓aO_some, aO_some, ↓andB_true, andB_true, gz, gs, seqC, retC, skipC, exitC, blockC, condC, cells_agg, t5]; rfl, ?_, k2⟩
        simp only [ansBytes, g1, g2, g3, if_false]
        exact .nil
  refine C.seq (C.seq fun K hK => ?_)
  simp only [↓opStep_eq, ↓reduceIte, tg_set, toTm_cons, toTm_nil, fieldPtr_ptr, Nat.add_zero, Nat.zero_add, Nat.reduceAdd, Nat.reduceEqDiff, Int.reduceEq, Int.reduceLT, Int.reduceLE, Int.reduceNe, ↓kO_some, ↓kA_some, ↓kH_some, kO_some, kA_some, kH_some, gd_true, gd_false, nthD_zero, nthD_succ, isB_true, isB_false, isB_undef, pickV_true, pickV_false, binV_add, binV_sub, binV_mul, binV_eql, binV_neq, binV_lss, binV_leq, binV_gtr, binV_geq, unV_not, nt, nf, Bool.false_eq_true, dt, df, decide_true, decide_false, withV_some, aggO_some, ptrTo_eq, ↓aO_some, aO_some, ↓andB_true, andB_true, gz, gs, seqC, retC, skipC, exitC, blockC, condC, cells_agg, r9_8]
  refine hK _ _ _ (C.cond (decide (a.kind = 2)) (by simp only [↓opStep_eq, ↓reduceIte, tg_set, toTm_cons, toTm_nil, fieldPtr_ptr, Nat.add_zero, Nat.zero_add, Nat.reduceAdd, Nat.reduceEqDiff, Int.reduceEq, Int.reduceLT, Int.reduceLE, Int.reduceNe, ↓kO_some, ↓kA_some, ↓kH_some, kO_some, kA_some, kH_some, gd_true, gd_false, nthD_zero, nthD_succ, isB_true, isB_false, isB_undef, pickV_true, pickV_false, binV_add, binV_sub, binV_mul, binV_eql, binV_neq, binV_lss, binV_leq, binV_gtr, binV_geq, unV_not, nt, nf, Bool.false_eq_true, dt, df, decide_true, decide_false, withV_some, aggO_some, ptrTo_eq, ↓aO_some, aO_some, ↓andB_true, andB_true, gz, gs, seqC, retC, skipC, exitC, blockC, condC, cells_agg]) (fun g2 => C.skip ?_) fun g2 K hK => ?_)
  · refine (next _ (by simp only [↓opStep_eq, ↓reduceIte, tg_set, toTm_cons, toTm_nil, fieldPtr_ptr, Nat.add_zero, Nat.zero_add, Nat.reduceAdd, Nat.reduceEqDiff, Int.reduceEq, Int.reduceLT, Int.reduceLE, Int.reduceNe, ↓kO_some, ↓kA_some, ↓kH_some, kO_some, kA_some, kH_some, gd_true, gd_false, nthD_zero, nthD_succ, isB_true, isB_false, isB_undef, pickV_true, pickV_false, binV_add, binV_sub, binV_mul, binV_eql, binV_neq, binV_lss, binV_leq, binV_gtr, binV_geq, unV_not, nt, nf, Bool.false_eq_true, dt, df, decide_true, decide_false, withV_some, aggO_some, ptrTo_eq, ↓aO_some, aO_some, ↓andB_true, andB_true, gz, gs, seqC, retC, skipC, exitC, blockC, condC, cells_agg]) (by simp only [↓opStep_eq, ↓reduceIte, tg_set, toTm_cons, toTm_nil, fieldPtr_ptr, Nat.add_zero, Nat.zero_add, Nat.reduceAdd, Nat.reduceEqDiff, Int.reduceEq, Int.reduceLT, Int.reduceLE, Int.reduceNe, ↓kO_some, ↓kA_some, ↓kH_some, kO_some, kA_some, kH_some, gd_true, gd_false, nthD_zero, nthD_succ, isB_true, isB_false, isB_undef, pickV_true, pickV_false, binV_add, binV_sub, binV_mul, binV_eql, binV_neq, binV_lss, binV_leq, binV_gtr, binV_geq, unV_not, nt, nf, Bool.false_eq_true, dt, df, decide_true, decide_false, withV_some, aggO_some, ptrTo_eq, ↓aO_some, aO_some, ↓andB_true, andB_true, gz, gs, seqC, retC, skipC, exitC, blockC, condC, cells_agg]) (by simp only [↓opStep_eq, ↓reduceIte, tg_set, toTm_cons, toTm_nil, fieldPtr_ptr, Nat.add_zero, Nat.zero_add, Nat.reduceAdd, Nat.reduceEqDiff, Int.reduceEq, Int.reduceLT, Int.reduceLE, Int.reduceNe, ↓kO_some, ↓kA_some, ↓kH_some, kO_some, kA_some, kH_some, gd_true, gd_false, nthD_zero, nthD_succ, isB_true, isB_false, isB_undef, pickV_true, pickV_false, binV_add, binV_sub, binV_mul, binV_eql, binV_neq, binV_lss, binV_leq, binV_gtr, binV_geq, unV_not, nt, nf, Bool.false_eq_true, dt, df, decide_true, decide_false, withV_some, aggO_some, ptrTo_eq, ↓aO_some, aO_some, ↓andB_true, andB_true, gz, gs, seqC, retC, skipC, exitC, blockC, condC, cells_agg]) (by simp only [↓opStep_eq, ↓reduceIte, tg_set, toTm_cons, toTm_nil, fieldPtr_ptr, Nat.add_zero, Nat.zero_add, Nat.reduceAdd, Nat.reduceEqDiff, Int.reduceEq, Int.reduceLT, Int.reduceLE, Int.reduceNe, ↓kO_some, ↓kA_some, ↓kH_some, kO_some, kA_some, kH_some, gd_true, gd_false, nthD_zero, nthD_succ, isB_true, isB_false, isB_undef, pickV_true, pickV_false, binV_add, binV_sub, binV_mul, binV_eql, binV_neq, binV_lss, binV_leq, binV_gtr, binV_geq, unV_not, nt, nf, Bool.false_eq_true, dt, df, decide_true, decide_false, withV_some, aggO_some, ptrTo_eq, ↓aO_some, aO_some, ↓andB_true, andB_true, gz, gs, seqC, retC, skipC, exitC, blockC, condC, cells_agg, g2, Bool.true_or])).mono fun e tm' h' q => ?_
    obtain ⟨rfl, q1, v, q2, q3, q4⟩ := q
    exact tail _ _ v q1 q2 q3 q4
  · simp only [↓opStep_eq, ↓reduceIte, tg_set, toTm_cons, toTm_nil, fieldPtr_ptr, Nat.add_zero, Nat.zero_add, Nat.reduceAdd, Nat.reduceEqDiff, Int.reduceEq, Int.reduceLT, Int.reduceLE, Int.reduceNe, ↓kO_some, ↓kA_some, ↓kH_some, kO_some, kA_some, kH_some, gd_true, gd_false, nthD_zero, nthD_succ, isB_true, isB_false, isB_undef, pickV_true, pickV_false, binV_add, binV_sub, binV_mul, binV_eql, binV_neq, binV_lss, binV_leq, binV_gtr, binV_geq, unV_not, nt, nf, Bool.false_eq_true, dt, df, decide_true, decide_false, withV_some, aggO_some, ptrTo_eq, ↓aO_some, aO_some, ↓andB_true, andB_true, gz, gs, seqC, retC, skipC, exitC, blockC, condC, cells_agg, r9_9]
    refine hK _ _ _ ((next _ (by simp only [↓opStep_eq, ↓reduceIte, tg_set, toTm_cons, toTm_nil, fieldPtr_ptr, Nat.add_zero, Nat.zero_add, Nat.reduceAdd, Nat.reduceEqDiff, Int.reduceEq, Int.reduceLT, Int.reduceLE, Int.reduceNe, ↓kO_some, ↓kA_some, ↓kH_some, kO_some, kA_some, kH_some, gd_true, gd_false, nthD_zero, nthD_succ, isB_true, isB_false, isB_undef, pickV_true, pickV_false, binV_add, binV_sub, binV_mul, binV_eql, binV_neq, binV_lss, binV_leq, binV_gtr, binV_geq, unV_not, nt, nf, Bool.false_eq_true, dt, df, decide_true, decide_false, withV_some, aggO_some, ptrTo_eq, ↓aO_some, aO_some, ↓andB_true, andB_true, gz, gs, seqC, retC, skipC, exitC, blockC, condC, cells_agg]) (by simp only [↓opStep_eq, ↓reduceIte, tg_set, toTm_cons, toTm_nil, fieldPtr_ptr, Nat.add_zero, Nat.zero_add, Nat.reduceAdd, Nat.reduceEqDiff, Int.reduceEq, Int.reduceLT, Int.reduceLE, Int.reduceNe, ↓kO_some, ↓kA_some, ↓kH_some, kO_some, kA_some, kH_some, gd_true, gd_false, nthD_zero, nthD_succ, isB_true, isB_false, isB_undef, pickV_true, pickV_false, binV_add, binV_sub, binV_mul, binV_eql, binV_neq, binV_lss, binV_leq, binV_gtr, binV_geq, unV_not, nt, nf, Bool.false_eq_true, dt, df, decide_true, decide_false, withV_some, aggO_some, ptrTo_eq, ↓aO_some, aO_some, ↓andB_true, andB_true, gz, gs, seqC, retC, skipC, exitC, blockC, condC, cells_agg]) (by simp only [↓opStep_eq, ↓reduceIte, tg_set, toTm_cons, toTm_nil, fieldPtr_ptr, Nat.add_zero, Nat.zero_add, Nat.reduceAdd, Nat.reduceEqDiff, Int.reduceEq, Int.reduceLT, Int.reduceLE, Int.reduceNe, ↓kO_some, ↓kA_some, ↓kH_some, kO_some, kA_some, kH_some, gd_true, gd_false, nthD_zero, nthD_succ, isB_true, isB_false, isB_undef, pickV_true, pickV_false, binV_add, binV_sub, binV_mul, binV_eql, binV_neq, binV_lss, binV_leq, binV_gtr, binV_geq, unV_not, nt, nf, Bool.false_eq_true, dt, df, decide_true, decide_false, withV_some, aggO_some, ptrTo_eq, ↓aO_some, aO_some, ↓andB_true, andB_true, gz, gs, seqC, retC, skipC, exitC, blockC, condC, cells_agg]) (by simp only [↓opStep_eq, ↓reduceIte, tg_set, toTm_cons, toTm_nil, fieldPtr_ptr, Nat.add_zero, Nat.zero_add, Nat.reduceAdd, Nat.reduceEqDiff, Int.reduceEq, Int.reduceLT, Int.reduceLE, Int.reduceNe, ↓kO_some, ↓kA_some, ↓kH_some, kO_some, kA_some, kH_some, gd_true, gd_false, nthD_zero, nthD_succ, isB_true, isB_false, isB_undef, pickV_true, pickV_false, binV_add, binV_sub, binV_mul, binV_eql, binV_neq, binV_lss, binV_leq, binV_gtr, binV_geq, unV_not, nt, nf, Bool.false_eq_true, dt, df, decide_true, decide_false, withV_some, aggO_some, ptrTo_eq, ↓aO_some, aO_some, ↓andB_true, andB_true, gz, gs, seqC, retC, skipC, exitC, blockC, condC, cells_agg, g2, Bool.false_or])).mono fun e tm' h' q => ?_)
    obtain ⟨rfl, q1, v, q2, q3, q4⟩ := q
    exact tail _ _ v q1 q2 q3 q4
end Go.Proofs.Ytpaolklbogakgaa
