import Derived.Test.YthofbmfcpfibdaaDoorWrY
set_option linter.unusedSimpArgs false
set_option linter.unusedVariables false
namespace Go.Proofs.YthofbmfcpfibdaaDoor
open Go.Ev

end Go.Proofs.YthofbmfcpfibdaaDoor

namespace Go.Proofs.YthofbmfcpfibdaaDoor
open Go.Ev

/-- the program's Read -/
theorem read13_law (L n : Nat) (hL : 2000 ≤ L) {h0 : H} {v : Value} {b : List UInt8} {k : Nat} {e : Value} {m : Int} (he : ErrC e) (hG : Has h0 5 (.ro [e])) (hM : Has h0 0 (.ro [.int .i64 m])) (hr : Rd h0 v b) (hb : b.length < 100000) :
    Sp (CF L (n + 8)) 13 [v, .int .u8 (k : Int)] h0 fun r h' => GotV k h' r (readAll k b) ∧ Keep nobody h0 h' := by
  refine Sp.body f13 (by simp) ?_
  have fin : ∀ (e : Ex) tm h', (e = .ret ∧ RG h0 k (readAll k b) tm h') → (e = .norm ∨ e = .ret) ∧ ∃ l, q13.f tm h' = some l ∧ GotV k h' (resOf l) (readAll k b) ∧ Keep nobody h0 h' := by
    rintro e tm h' ⟨rfl, hq⟩
    exact ⟨.inr rfl, hq⟩
  generalize hg : readAll k b = G at *
  unfold readAll at hg
  unfold c13
  refine C.seq fun K hK => ?_
  have b0 := Has.new h0 (.rw zA.cells (some 27))
  have k0 := Keep.new h0 (.rw zA.cells (some 27))
  have hz : ∀ h : H, h.new (.rw [(.int .u8 (0)), (.int .u8 (0)), (.int .u8 (0)), (.slice none 0 0), (.int .u64 (0)), (.bool false), (.string (strB []))] (some 27)) = h.new (.rw zA.cells (some 27)) := fun _ => rfl
  simp only [↓EW, EV, Nat.reduceAdd, r13_0, hz]
  generalize hh1 : h0.new (.rw zA.cells (some 27)) = h1 at *
  have hn1 : h1.next = h0.next + 1 := by rw [← hh1]; rfl
  refine hK _ _ _ (C.seq (C.seq fun K hK => ?_))
  have hr1 := hr.keep0 k0
  by_cases g : (16384 : Int) < (b.length : Int)
  · rw [if_pos (by omega)] at hg
    simp only [↓reduceIte, EV, Nat.reduceEqDiff, r13_1, hr1.len, decide_eq_true g]
    refine hK _ _ _ (C.cond true (by simp only [↓reduceIte, EV]) (fun _ => (zero_at (h0 := h0) (k := k) (B4 := h0.next) 3 (by simp only [↓reduceIte, EV, Nat.reduceEqDiff]) b0 (Nat.le_refl _) k0 : C ⟨seqC ⟨r13_2⟩ retC⟩ (CF L (n + 7)) L _ h1 _).mono ?_) fun g => by cases g)
    rintro e tm' h' ⟨rfl, hq⟩
    exact fin _ _ _ ⟨rfl, by rw [← hg]; exact hq⟩
  rw [if_neg (by omega)] at hg
  simp only [↓reduceIte, EV, Nat.reduceEqDiff, r13_1, hr1.len, decide_eq_false g]
  refine hK _ _ _ (C.cond false (by simp only [↓reduceIte, EV]) (fun g => by cases g) fun _ => C.skip (C.seq fun K hK => ?_))
  have f1 : aggO (fill [(.int .u8 (0)), (.slice none 0 0), (.int .u64 (0))] (plc [(0, 1), (1, 1), (2, 1)]) [(0, (.int .u8 (1)))]) = some (.agg #[.int .u8 1, .slice none 0 0, .int .u64 0]) := rfl
  have f2 : aggO (fill [(.int .u8 (0)), (.int .u8 (0)), (.int .u8 (0)), (.slice none 0 0), (.int .u64 (0)), (.bool false), (.string (strB []))] (plc [(0, 1), (1, 1), (2, 3), (5, 1), (6, 1)]) [(0, (.int .u8 (1))), (1, (.int .u8 (k : Int))), (2, (.agg #[.int .u8 1, .slice none 0 0, .int .u64 0]))]) = some (getA k [] (.slice none 0 0)).v := rfl
  have st : storeV 7 (h1.new (.rw zA.cells (some 27))) (.pointer (some ⟨h1.next, 0, none⟩)) (getA k [] (.slice none 0 0)).v = some ((h1.new (.rw zA.cells (some 27))).put h1.next (.rw (getA k [] (.slice none 0 0)).cells (some 27))) := put7 (Has.new _ _) rfl rfl
  simp only [↓reduceIte, ↓EW, EV, Nat.reduceEqDiff, r13_3, f1, f2, hz, st]
  refine hK _ _ _ (C.seq fun K hK => ?_)
  have ka := keep_alloc h1 (.rw zA.cells (some 27)) (.rw (getA k [] (.slice none 0 0)).cells (some 27))
  have b7 := has_alloc h1 (.rw zA.cells (some 27)) (.rw (getA k [] (.slice none 0 0)).cells (some 27))
  have b4 := b0.keep0 ka
  have kp := k0.then ka
  generalize (h1.new (.rw zA.cells (some 27))).put h1.next (.rw (getA k [] (.slice none 0 0)).cells (some 27)) = h2 at *
  simp only [r13_4]
  refine hK _ _ _ (C.block ?_)
  refine (C.loop (L := L) (fun m tm' h' => ∃ at_ iv xs, m = 8 - xs.length ∧ xs.length ≤ 8 ∧ at_ ≤ b.length ∧ SR h0 v k h0.next h1.next at_ iv xs tm' h' ∧ G = readP k b (m + 1) at_ xs) 8 (by omega)
    ⟨0, .slice none 0 0, [], rfl, by decide, by omega, ⟨by simp only [↓reduceIte, EV, Nat.reduceEqDiff], by simp only [↓reduceIte, EV, Nat.reduceEqDiff], by simp only [↓reduceIte, EV, Nat.reduceEqDiff], by simp only [↓reduceIte, EV, Nat.reduceEqDiff], by simp only [↓reduceIte, EV]; rfl, b4, b7, .nil, fun c hc => by simp at hc, ⟨Nat.le_refl _, by omega⟩, kp⟩, hg.symm⟩ fun m tm' h' hi => ?_ :
    C (loopB l13_27) _ L _ h2 fun e tm' h' => e = .ret ∧ RG h0 k G tm' h').mono ?_
  · obtain ⟨at_, iv, xs, hm, x8, hat, a, hG'⟩ := hi
    refine (body13 L n hL he hG hM hr (by omega) hat x8 a (f := m)).mono ?_
    rintro e tm3 h3 (⟨rfl, at', iv', xs', a', ha', hl', h8', hp⟩ | ⟨rfl, hq⟩)
    · exact ⟨m - 1, by omega, at', iv', xs', by omega, h8', ha', a', by rw [hG', hp, show m - 1 + 1 = m by omega]⟩
    · exact ⟨rfl, by rw [hG']; exact hq⟩
  · rintro e tm' h' ⟨rfl, hq⟩
    exact fin _ _ _ ⟨rfl, hq⟩
end Go.Proofs.YthofbmfcpfibdaaDoor

namespace Go.Proofs.YthofbmfcpfibdaaDoor
open Go.Ev

/-! ### what is read, whichever it is -/
def Got.a (k : Nat) : Got → Ans
  | .none _ => zA
  | .line a _ => a
  | .items l _ => getA k l (.slice Option.none 0 0)
def Got.n : Got → Int
  | .none _ => 0
  | .line _ n => (n : Int)
  | .items _ n => (n : Int)
def Got.e : Got → Int
  | .none e => e
  | .line _ _ => 0
  | .items _ _ => 0
def GOk : Got → Prop
  | .none _ => True
  | .line a _ => a.r.iv = .slice none 0 0 ∧ a.r.items = []
  | .items l _ => l.length ≤ 8
theorem bareF_mem {s : List UInt8} {a : Ans} : ∀ {T : List (List UInt8 × Ans)}, bareF s T = some a → ∃ w, (w, a) ∈ T
  | [], h => by cases h
  | (k, b) :: r, h => by
    unfold bareF at h
    split at h
    · cases h; exact ⟨k, List.mem_cons_self ..⟩
    · obtain ⟨w, hw⟩ := bareF_mem h
      exact ⟨w, List.mem_cons_of_mem _ hw⟩
theorem line_ok {k : Nat} {ws : List (List UInt8)} {a : Ans} (h : lineA k ws = some a) : a.r.iv = .slice none 0 0 ∧ a.r.items = [] := by
  unfold lineA at h
  split at h
  · split at h
    · cases h; exact ⟨rfl, rfl⟩
    · cases h
  · split at h
    · split at h
      · split at h
        · cases h; exact ⟨rfl, rfl⟩
        · cases h
      · split at h
        · cases h
        · split at h
          · cases h; exact ⟨rfl, rfl⟩
          · cases h
    · split at h
      · split at h
        · cases h; exact ⟨rfl, rfl⟩
        · cases h
      · split at h
        · obtain ⟨w, hw⟩ := bareF_mem h
          simp only [bareT, List.mem_cons, List.not_mem_nil, or_false, Prod.mk.injEq] at hw
          rcases hw with ⟨_, rfl⟩ | ⟨_, rfl⟩ | ⟨_, rfl⟩ | ⟨_, rfl⟩ | ⟨_, rfl⟩ | ⟨_, rfl⟩ | ⟨_, rfl⟩ <;> exact ⟨rfl, rfl⟩
        · cases h
theorem last_ok (k at_ : Nat) (xs : List Itm) (s : List UInt8) (h8 : xs.length ≤ 8) : GOk (lastP k at_ xs s) := by
  unfold lastP
  split
  · exact h8
  · split
    · rename_i a ha
      split
      · exact line_ok ha
      · trivial
    · trivial
theorem read_ok (k : Nat) (b : List UInt8) : ∀ (f at_ : Nat) (xs : List Itm), xs.length ≤ 8 → GOk (readP k b f at_ xs)
  | 0, _, _, _ => trivial
  | f + 1, at_, xs, h8 => by
    rcases crlf_cases (b.drop at_) with hc | ⟨i, hc⟩
    · rw [readP_neg hc]; split <;> trivial
    · rw [readP_pos hc rfl]
      split
      · rename_i hv
        split
        · trivial
        · split
          · trivial
          · exact read_ok k b f _ _ (by rw [List.length_append]; show xs.length + 1 ≤ 8; omega)
      · exact last_ok _ _ _ _ h8
theorem all_ok (k : Nat) (b : List UInt8) : GOk (readAll k b) := by
  unfold readAll
  split
  · trivial
  · exact read_ok k b 9 0 [] (by decide)
theorem ones_iv {h : H} {l : List Itm} {a : Ans} {iv : Value} (m : MineI h iv l) : ones (withIv a iv).cells = true := by cases m <;> rfl
theorem GotV.all {k : Nat} {h : H} {r : Value} {G : Got} (g : GotV k h r G) (ok : GOk G) : ∃ iv, r = .tuple #[(withIv (G.a k) iv).v, .int .i64 G.n, .int .i64 G.e] ∧ MineI h iv (G.a k).r.items ∧ (G.a k).r.items.length ≤ 8 := by
  cases G with
  | none e => exact ⟨.slice none 0 0, g, .nil, Nat.zero_le _⟩
  | line a n =>
    obtain ⟨o1, o2⟩ := ok
    refine ⟨.slice none 0 0, ?_, ?_, ?_⟩
    · have : withIv a (.slice none 0 0) = a := by
        unfold withIv
        rw [← o1]
      show r = .tuple #[(withIv a (.slice none 0 0)).v, _, _]
      rw [this]; exact g
    · show MineI h _ a.r.items
      rw [o2]; exact .nil
    · show a.r.items.length ≤ 8
      rw [o2]; exact Nat.zero_le _
  | items l n =>
    obtain ⟨iv, m, e⟩ := g
    exact ⟨iv, e, m, ok⟩

end Go.Proofs.YthofbmfcpfibdaaDoor

set_option maxRecDepth 100000
namespace Go.Proofs.YthofbmfcpfibdaaDoor
open Go.Ev Go.RowKit

theorem gor : NoGor Tryd.prog := noGor_of (by kernel_rfl)
theorem xok : XOK Tryd.prog outside := xok_index Tryd.func58 (by kernel_rfl) (by kernel_rfl) (by kernel_rfl) (by kernel_rfl) (xok_cons Tryd.func71 (by kernel_rfl) (by kernel_rfl) (by kernel_rfl) (xok_cons Tryd.func78 (by kernel_rfl) (by kernel_rfl) (by kernel_rfl) (xok_cons Tryd.func83 (by kernel_rfl) (by kernel_rfl) (by kernel_rfl) (xok_noZero (e := 5) (t := 29) (ps := #[3]) Tryd.func86 (by kernel_rfl) (by kernel_rfl) (by kernel_rfl) (by kernel_rfl) (by kernel_rfl) (xok_index Tryd.func93 (by kernel_rfl) (by kernel_rfl) (by kernel_rfl) (by kernel_rfl) (xok_cons Tryd.func102 (by kernel_rfl) (by kernel_rfl) (by kernel_rfl) (xok_nil)))))))
theorem u29 : Tryd.prog.underlying 29 = some (.slice 5) := by kernel_rfl
section
variable {H : Type} {enc : TypeId × Value → H}
/-- bytes that lie in memory, as the evaluator has them -/
theorem bytes_at {W : World} {n : Nat} {v : Value} {x : DataW H × List MemPlace} (hok : Value.okWide Tryd.prog W .any 0 29 v) (h : DataW.trod enc Tryd.prog W 0 (fun _ => true) true n 29 v.cells.toList = some x) :
    ∃ o : Option (List Value × CB), (∀ p, o = some p → RosOk W p) ∧ ∀ (B : Nat) (σ : Sg) (h0 : Ev.H), (∀ p, o = some p → Has h0 B (.ro p.1) ∧ σ B = some p.2) → ∃ (v' : Value) (l : List UInt8), Rd h0 v' l ∧ VR σ v' v := by
  have hok2 : Cell.ok Tryd.prog W .any 0 29 v := by
    unfold Value.okWide at hok
    rw [u29] at hok
    unfold Cell.okWide at hok
    rw [u29] at hok
    exact hok
  rcases DataW.trod_slice u29 h with ⟨e, _⟩ | ⟨a, len, cap, elems, rest, m', _, e, _, _, hlc, hcm, hlen, hel, _, _⟩
  · have hv : v = .slice none 0 0 := by
      cases v <;> simp [Value.cells] at e
      case slice => simp_all
      case agg => exfalso; unfold Cell.ok at hok2; rw [u29] at hok2; exact hok2
    subst hv
    exact ⟨none, (fun p h => by cases h), fun B σ h0 _ => ⟨.slice none 0 0, [], .inl ⟨rfl, rfl⟩, .slNil _ _⟩⟩
  · have hv : v = .slice (some a) len cap := by
      cases v <;> simp [Value.cells] at e
      case slice => simp_all
      case agg => exfalso; unfold Cell.ok at hok2; rw [u29] at hok2; exact hok2
    subst hv
    unfold Cell.ok at hok2
    rw [u29] at hok2
    obtain ⟨_, _, _, hspot, row, cells, hshape, _⟩ := hok2
    have hblk : a.block < W.heap.size := by
      unfold World.shape? at hshape
      split at hshape
      · rename_i c el _ hh
        exact (Array.getElem?_eq_some_iff.1 hh).1
      · cases hshape
    have hone : ∀ i : Fin len, ∃ y : UInt8, W.cells? 0 (a.add (i.val * 1)) 1 = some [bv y] := fun i => by
      have h1 := hel i.val i.isLt
      rw [s5, List.getElem?_eq_getElem (by omega)] at h1
      simp only [Option.bind_eq_some_iff] at h1
      obtain ⟨c5, h2, h3⟩ := h1
      obtain ⟨z, rfl, _, w⟩ := DataW.trod_int u5 h3
      have := bounds_u8 w
      refine ⟨UInt8.ofNat z.toNat, ?_⟩
      have hz : bv (UInt8.ofNat z.toNat) = .int .u8 z := by
        unfold bv
        congr 1
        rw [UInt8.toNat_ofNat_of_lt' (by simp [UInt8.size]; omega)]
        omega
      rw [hz]; exact h2
    obtain ⟨f, hf⟩ := Classical.axiomOfChoice hone
    let l := List.ofFn f
    have hil : l.length = len := by simp [l]
    have hcells : ∀ j v, (l.map bv)[j]? = some v → W.cell? ⟨a.block, a.off + j, none⟩ = some v ∧ cstOk v = true := fun j v hv => by
      rw [List.getElem?_map] at hv
      obtain ⟨y, hy, rfl⟩ := Option.map_eq_some_iff.1 hv
      have hlt : j < len := by
        by_cases hlt : j < len
        · exact hlt
        · rw [List.getElem?_eq_none (by omega)] at hy; cases hy
      have hy' : f ⟨j, hlt⟩ = y := by simpa [l, hlt] using hy
      have h2 := hf ⟨j, hlt⟩
      rw [hy'] at h2
      refine ⟨?_, rfl⟩
      have h3 := (World.cells?_some h2).2.2 0 (by omega)
      have e0 : [bv y][0]? = some (bv y) := rfl
      rw [e0] at h3
      rw [← h3]
      obtain ⟨ab, ao, asp⟩ := a
      simp only at hspot
      subst hspot
      simp only [Addr.add, Nat.mul_one]
      by_cases e1 : j = 0
      · simp [e1]
      · simp [e1]
    have hcO : cap < OPEN := by have := hcm; unfold maxLen at this; unfold OPEN; omega
    have hble : Nat.ble OPEN cap = false := by
      rw [Bool.eq_false_iff]; intro e; have := Nat.le_of_ble_eq_true e; omega
    refine ⟨some (l.map bv, ⟨a.block, a.off, 1 * len, 1⟩), fun p h => ?_, fun B σ h0 hB => ?_⟩
    · simp only [Option.some.injEq] at h; subst h; exact ⟨hblk, hcells⟩
    obtain ⟨hh, hσ⟩ := hB _ rfl
    have hV : VR σ (.slice (some ⟨B, 0, none⟩) len cap) (.slice (some a) len cap) := by
      have := VR.sl (σ := σ) B 0 len cap ⟨a.block, a.off, 1 * len, 1⟩ hσ hcO
      obtain ⟨ab, ao, asp⟩ := a
      simp only at hspot
      subst hspot
      exact this
    exact ⟨.slice (some ⟨B, 0, none⟩) len cap, l, .inr ⟨B, 0, cap, _, _, by rw [hil], hh, rfl, by simp, by rw [List.drop_zero, List.take_of_length_le (by simp)], .inr ⟨hble, by omega⟩⟩, hV⟩

end

/-! ### the package variables -/
theorem star : "*" ++ "errors.errorString" = "*errors.errorString" := by decide
theorem row147 (u : TypeId) (h : Tryd.prog.typeName? 3 u = some "*errors.errorString") : u = 147 :=
  Go.typeName_ptr_named (nm := "errors.errorString") (by rw [star]; kernel_rfl) (by kernel_rfl) (by decide) u (by rw [star]; exact h)
theorem u147 : Tryd.prog.underlying 147 = some (.pointer 149) := by kernel_rfl
noncomputable def msOf : Array (String × TypeId) := match Tryd.prog.underlying 76 with | some (.interface ms) => ms | _ => #[]
theorem u76 : Tryd.prog.underlying 76 = some (.interface msOf) := by kernel_rfl
/-- what a listed error's variable holds: a pointer that is not nil -/
theorem err_cell {n : String} {text : List UInt8} {r : List (String × DataW Unit)} {W : World} {g : Nat}
    (h : laidMet Tryd.prog ((n, .iface "*errors.errorString" (.ptr (.agg [.lit (.string text)]))) :: r) W)
    (hg : Tryd.prog.globalNamed n = some g) (ht : (Tryd.prog.globals[g]?).map (·.type) = some 76) :
    ∃ a : Addr, W.cell? ⟨g, 0, none⟩ = some (.iface 147 (.pointer (some a))) ∧ a.spot = none ∧ a.block < W.heap.size := by
  obtain ⟨ps, ⟨g0, t0, cs0, f0, p0, q0, hg0, ht0, hv0, hd0, _, e0⟩, _, hrows⟩ := h
  obtain rfl := Option.some.inj (hg.symm.trans hg0)
  obtain rfl := Option.some.inj (ht.symm.trans ht0)
  subst e0
  obtain ⟨l0⟩ := cs0
  have hi := u76
  obtain ⟨f1, u, v, rfl, hn, h1⟩ := iface_of_trod hi hd0
  obtain rfl := row147 u hn
  have hc : W.cell? ⟨g, 0, none⟩ = some (.iface 147 v) := by simpa using World.var?_cell hg0 hv0 0
  have ok : Value.okWide Tryd.prog W .any 0 147 v := (hrows g 0 (by simp [MemPlace.row])).2 147 v hc
  obtain ⟨f2, a, cs', q, hv, hcells, h2, _⟩ := ptr_of_trod u147 h1
  unfold Value.okWide at ok
  simp only [u147] at ok
  unfold Cell.okWide at ok
  simp only [u147] at ok
  have hv' : v = .pointer (some a) := by
    cases v <;> simp [Value.cells, Cell.ok] at ok hv
    subst hv
    rfl
  subst hv'
  unfold Cell.ok at ok
  rw [u147] at ok
  obtain ⟨_, hspot, row, cells, hshape, _⟩ := ok
  refine ⟨a, hc, hspot, ?_⟩
  unfold World.shape? at hshape
  split at hshape
  · rename_i c el _ hh
    exact (Array.getElem?_eq_some_iff.1 hh).1
  · cases hshape
theorem ros_relV {w : World} {bs : Ros} (hv : ∀ p, some p ∈ bs → p.2.blk < w.heap.size ∧ ∀ j v, p.1[j]? = some v → ∃ v', w.cell? ⟨p.2.blk, p.2.off + j, none⟩ = some v' ∧ VR (rosσ bs) v v') : Rel (rosσ bs) (rosH bs) w := by
  refine ⟨fun B hB => ?_, fun B c h => ?_, fun B x hx => ?_, fun B x B' x' c c' hx hm => ?_⟩
  · have hB : bs.length ≤ B := hB
    simp [rosσ, List.getElem?_eq_none hB]
  · simp only [rosσ] at h
    split at h
    · rename_i p hp
      simp only [Option.some.injEq] at h
      subst h
      exact (hv p (List.mem_of_getElem? hp)).1
    · cases h
  · obtain ⟨_, p, hp, rfl⟩ := rosO_get bs 0 B x hx
    rw [Nat.sub_zero] at hp
    exact ⟨p.2, (ros_has hp).2, fun j v h => (hv p (List.mem_of_getElem? hp)).2 j v h⟩
  · rw [ros_ro B x hx] at hm; cases hm
theorem ros_cst {w : World} {σ : Sg} {p : List Value × CB} (h : RosOk w p) : p.2.blk < w.heap.size ∧ ∀ j v, p.1[j]? = some v → ∃ v', w.cell? ⟨p.2.blk, p.2.off + j, none⟩ = some v' ∧ VR σ v v' :=
  ⟨h.1, fun j v hj => ⟨v, (h.2 j v hj).1, cstOk_vr (h.2 j v hj).2⟩⟩
theorem err_ok : ErrC (.iface 147 (.pointer (some ⟨6, 0, none⟩))) := ⟨rfl, rfl, by decide⟩
section
variable {H : Type} {enc : TypeId × Value → H}
end
end Go.Proofs.YthofbmfcpfibdaaDoor
