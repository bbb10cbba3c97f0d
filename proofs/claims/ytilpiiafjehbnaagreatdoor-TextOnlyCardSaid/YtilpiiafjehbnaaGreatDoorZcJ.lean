import Derived.Test.YtilpiiafjehbnaaGreatDoorZcD
set_option linter.unusedSimpArgs false
set_option linter.unusedVariables false
namespace Go.Proofs.YtilpiiafjehbnaaGreatDoor
open Go.Ev
def fn1 (f B : Nat) : Value := .func (.func f) #[.pointer (some ⟨B, 0, none⟩)] #[]
def fn2 (f P : Nat) : Value := .func (.func f) #[] #[.pointer (some ⟨P, 0, none⟩)]
def fn3 (f : Nat) : Value := .func (.func f) #[] #[]
def cmdL : List (List UInt8 × (PS → PS)) := [([102, 108, 117, 115, 104], cmdE 11 fun s => s),
 ([116, 111, 117, 99, 104], cmdE 9 fun s => s.key.foN),
 ([100, 101, 99, 114], cmdE 7 fun s => s.key.byN),
 ([105, 110, 99, 114], cmdE 6 fun s => s.key.byN),
 ([97, 112, 112, 101, 110, 100], cmdE 8 fun s => s.key.nN),
 ([99, 97, 115], cmdE 5 fun s => s.puts.uniqN),
 ([114, 101, 112, 108, 97, 99, 101], cmdE 4 PS.puts),
 ([97, 100, 100], cmdE 3 PS.puts),
 ([115, 101, 116], cmdE 2 PS.puts),
 ([100, 101, 108, 101, 116, 101], cmdE 10 PS.keys'),
 ([103, 101, 116], cmdE 1 PS.keys'),
 ([113, 117, 105, 116], fun s => { s with kind := 5 }),
 ([112, 105, 110, 103], fun s => { s with kind := 4 }),
 ([116, 114, 97, 99, 107], PS.track),
 ([117, 115, 101, 114], PS.user)]
def lookL' (w : List UInt8) : List (List UInt8 × (PS → PS)) → Option (PS → PS)
 | [] => none
 | x :: r => if w = x.1 then some x.2 else lookL' w r
def Corr (R : Value → (PS → PS) → Prop) : List (ByteArray × Value) → List (List UInt8 × (PS → PS)) → Prop
 | [], [] => True
 | x :: r, y :: r' => x.1.data.toList = y.1 ∧ R x.2 y.2 ∧ Corr R r r'
 | [], _ :: _ => False
 | _ :: _, [] => False
theorem Corr.find {R : Value → (PS → PS) → Prop} (w : List UInt8) : ∀ {es : List (ByteArray × Value)} {cs : List (List UInt8 × (PS → PS))}, Corr R es cs → (lookL' w cs = none ∧ findS w es = none) ∨ ∃ E fv, lookL' w cs = some E ∧ findS w es = some fv ∧ R fv E
 | [], [], _ => .inl ⟨rfl, rfl⟩
 | x :: r, y :: r', a => by
   obtain ⟨e, hr, c⟩ := a
   by_cases g : w = y.1
   · have : leB w x.1.data.toList = true := by rw [e, leB_eq]; simp [g]
     exact .inr ⟨y.2, x.2, by simp only [lookL', g, if_true], by simp only [findS, this], hr⟩
   · have : leB w x.1.data.toList = false := by rw [Bool.eq_false_iff]; intro q; rw [e, leB_eq] at q; simp only [beq_iff_eq] at q; exact g q
     simp only [lookL', if_neg g, findS, this]
     exact c.find w
def Lns (L N B n2 : Nat) (e r : Value) (h : H) : Prop := ∃ M es, r = .map (some M) ∧ Has h M (.lit es) ∧ M < n2 ∧ M ≠ B ∧ Corr (RunOK L N B n2 e h) es cmdL
theorem run70 (L n : Nat) (hL : 2000 ≤ L) (B n2 : Nat) (e : Value) (h : H) : RunOK L (n + 8) B n2 e h (fn1 70 B) PS.keys' := fun h' s kp ev pm hs => ⟨70, [.pointer (some ⟨B, 0, none⟩)], rfl, keys70_law L (n + 2) hL (by omega) pm⟩
theorem run71 (L n : Nat) (hL : 2000 ≤ L) (B n2 : Nat) (e : Value) (h : H) : RunOK L (n + 8) B n2 e h (fn1 71 B) PS.puts := fun h' s kp ev pm hs => ⟨71, [.pointer (some ⟨B, 0, none⟩)], rfl, puts_law L (n + 1) hL ev (by omega) pm⟩
theorem run72 (L n : Nat) (hL : 2000 ≤ L) {B n2 P : Nat} (e : Value) {h : H} (at2 : At2 n2 B P h) : RunOK L (n + 8) B n2 e h (fn2 72 P) (fun s => s.puts.uniqN) := fun h' s kp ev pm hs => ⟨72, [.pointer (some ⟨P, 0, none⟩)], rfl, f72_law L n hL ev (at2.keep kp) (by omega) pm⟩
theorem run73 (L n : Nat) (hL : 2000 ≤ L) {B n2 P : Nat} (e : Value) {h : H} (at2 : At2 n2 B P h) : RunOK L (n + 8) B n2 e h (fn2 73 P) (fun s => s.key.nN) := fun h' s kp ev pm hs => ⟨73, [.pointer (some ⟨P, 0, none⟩)], rfl, f73_law L n hL ev (at2.keep kp) (by omega) pm⟩
theorem run67 (L n : Nat) (hL : 2000 ≤ L) {B n2 P : Nat} (e : Value) {h : H} (at2 : At2 n2 B P h) : RunOK L (n + 8) B n2 e h (fn2 67 P) (fun s => s.key.byN) := fun h' s kp ev pm hs => ⟨67, [.pointer (some ⟨P, 0, none⟩)], rfl, f67_law L n hL ev (at2.keep kp) (by omega) pm⟩
theorem run74 (L n : Nat) (hL : 2000 ≤ L) {B n2 P : Nat} (e : Value) {h : H} (at2 : At2 n2 B P h) : RunOK L (n + 8) B n2 e h (fn2 74 P) (fun s => s.key.foN) := fun h' s kp ev pm hs => ⟨74, [.pointer (some ⟨P, 0, none⟩)], rfl, f74_law L n hL ev (at2.keep kp) (by omega) pm⟩
theorem run76 (L n : Nat) (hL : 2000 ≤ L) {B n2 P : Nat} (e : Value) {h : H} (at2 : At2 n2 B P h) : RunOK L (n + 9) B n2 e h (fn2 76 P) (PS.user) := fun h' s kp ev pm hs => ⟨76, [.pointer (some ⟨P, 0, none⟩)], rfl, f76_law L (n + 2) hL ev (at2.keep kp) pm⟩
theorem run77 (L n : Nat) (hL : 2000 ≤ L) {B n2 P : Nat} (e : Value) {h : H} (at2 : At2 n2 B P h) : RunOK L (n + 9) B n2 e h (fn2 77 P) (PS.track) := fun h' s kp ev pm hs => ⟨77, [.pointer (some ⟨P, 0, none⟩)], rfl, f77_law L (n + 7) (at2.keep kp) pm⟩
theorem run78 (L n : Nat) (hL : 2000 ≤ L) {B n2 P : Nat} (e : Value) {h : H} (at2 : At2 n2 B P h) : RunOK L (n + 9) B n2 e h (fn2 78 P) (fun s => { s with kind := 4 }) := fun h' s kp ev pm hs => ⟨78, [.pointer (some ⟨P, 0, none⟩)], rfl, f78_law L (n + 8) (at2.keep kp) pm⟩
theorem run79 (L n : Nat) (hL : 2000 ≤ L) {B n2 P : Nat} (e : Value) {h : H} (at2 : At2 n2 B P h) : RunOK L (n + 9) B n2 e h (fn2 79 P) (fun s => { s with kind := 5 }) := fun h' s kp ev pm hs => ⟨79, [.pointer (some ⟨P, 0, none⟩)], rfl, f79_law L (n + 8) (at2.keep kp) pm⟩
theorem run75 (L n : Nat) (B n2 : Nat) (e : Value) (h : H) : RunOK L (n + 8) B n2 e h (fn3 75) (fun s => s) := fun h' s kp ev pm hs => ⟨75, [], rfl, f75_law L (n + 7) pm⟩
theorem Cmd65.keepS {P n0 : Nat} {k : Int} {rf : Value} {h h' : H} {r : Value} {M : Nat} (a : Cmd65 P k rf n0 h r) (kp : Keep (fun b => b = M) h h') (hM : M < n0) : Cmd65 P k rf n0 h' r := by
 obtain ⟨kb, rb, e, h1, h2, h3, h4⟩ := a
 exact ⟨kb, rb, e, h1.keep kp (by omega), h2.keep kp (by omega), h3, h4⟩
theorem keyOk_str (w : List Nat) : keyOk Tryz.prog 9 (.string (strB w)) = true := keyOk_sv (w.map UInt8.ofNat)
set_option maxRecDepth 4000
theorem law49 (L n m : Nat) (hL : 2000 ≤ L) {B : Nat} {h : H} (hB : B < h.next) (e : Value) : Sp (CF L (n + 2)) 49 [.pointer (some ⟨B, 0, none⟩)] h fun r h' => Keep nobody h h' ∧ Lns L (m + 9) B h'.next e r h' := by
 refine Sp.body f49 (by simp) ?_
 unfold c49
 refine C.seq fun K hK => ?_
 have c1 : (Value.cells (.pointer (some ⟨B, 0, none⟩))).toList = [.pointer (some ⟨B, 0, none⟩)] := rfl
 have p0 : Has (h.new (PB B)) h.next (PB B) := Has.new h (PB B)
 have k0 := Keep.new h (PB B)
 have e0 : (h.new (PB B)).next = h.next + 1 := rfl
 unfold PB at p0 k0 e0
 simp only [seval, ↓EW, EV, r49_0, c1]
 generalize hP : h.next = P at *
 generalize h.new (.rw [.pointer (some ⟨B, 0, none⟩)] (some 85)) = ha at *
 refine hK _ _ _ (C.seq fun K hK => ?_)
 simp only [seval, ↓EW, EV, r49_1]
 refine hK _ _ _ (C.seq fun K hK => ?_)
 simp only [seval, ↓EW, EV, r49_2]
 refine hK _ _ _ (C.seq fun K hK => ?_)
 have kr := keep_room ha 59
 have p1 := p0.keep0 kr
 have n1 : (⟨ha.objs, ha.next + 59⟩ : H).next = ha.next + 59 := rfl
 generalize hM : ha.next = M at *
 generalize hk0 : (⟨ha.objs, M + 59⟩ : H) = h0 at *
 have ld0 : ∀ sp, loadOne h0 (.pointer (some ⟨P, 0, sp⟩)) = some (.pointer (some ⟨B, 0, none⟩)) := fun sp => loadOne_has p1 rfl
 have i0 := insV_lit 562949953421313 50 M [] [117, 115, 101, 114] (fn2 76 P) rfl rfl (keyOk_str _)
 have i1 := insV_lit 2251799813685249 52 M [(50, strB [117, 115, 101, 114], fn2 76 P)] [116, 114, 97, 99, 107] (fn2 77 P) rfl rfl (keyOk_str _)
 have i2 := insV_lit 9007199254740993 54 M [(52, strB [116, 114, 97, 99, 107], fn2 77 P), (50, strB [117, 115, 101, 114], fn2 76 P)] [112, 105, 110, 103] (fn2 78 P) rfl rfl (keyOk_str _)
 have i3 := insV_lit 36028797018963969 56 M [(54, strB [112, 105, 110, 103], fn2 78 P), (52, strB [116, 114, 97, 99, 107], fn2 77 P), (50, strB [117, 115, 101, 114], fn2 76 P)] [113, 117, 105, 116] (fn2 79 P) rfl rfl (keyOk_str _)
 unfold fn2 at i0 i1 i2 i3
 simp only [seval, ↓EW, EV, Bool.true_and, r49_3, hM, hk0, ld0, kL_some, i0, i1, i2, i3]
 have s0 := law65 L n (P := P) (n0 := M + 59) (k := 1) (rf := fn1 70 B) (h := h0) rfl (by omega)
 refine s0 _ fun r0 h1 hq => ?_
 obtain ⟨a0, k1⟩ := hq
 have p2 := p1.keep0 k1
 have n2 := k1.next
 have ld1 : ∀ sp, loadOne h1 (.pointer (some ⟨P, 0, sp⟩)) = some (.pointer (some ⟨B, 0, none⟩)) := fun sp => loadOne_has p2 rfl
 have fr := ltFree_one 14 M [(56, strB [113, 117, 105, 116], fn2 79 P), (54, strB [112, 105, 110, 103], fn2 78 P), (52, strB [116, 114, 97, 99, 107], fn2 77 P), (50, strB [117, 115, 101, 114], fn2 76 P)] rfl
 have ii := insV_lit 31 5 M [(56, strB [113, 117, 105, 116], fn2 79 P), (54, strB [112, 105, 110, 103], fn2 78 P), (52, strB [116, 114, 97, 99, 107], fn2 77 P), (50, strB [117, 115, 101, 114], fn2 76 P)] [103, 101, 116] r0 rfl rfl (keyOk_str _)
 unfold fn2 at fr ii
 simp only [EV, Bool.and_true, ld1, hO_ptr, fr, ii, kL_some]
 have s1 := law65 L n (P := P) (n0 := M + 59) (k := 10) (rf := fn1 70 B) (h := h1) rfl (by omega)
 refine s1 _ fun r1 h2 hq => ?_
 obtain ⟨a1, k2⟩ := hq
 have p3 := p2.keep0 k2
 have n3 := k2.next
 have ld2 : ∀ sp, loadOne h2 (.pointer (some ⟨P, 0, sp⟩)) = some (.pointer (some ⟨B, 0, none⟩)) := fun sp => loadOne_has p3 rfl
 have fr := ltFree_one 478 M [(5, strB [103, 101, 116], r0), (56, strB [113, 117, 105, 116], fn2 79 P), (54, strB [112, 105, 110, 103], fn2 78 P), (52, strB [116, 114, 97, 99, 107], fn2 77 P), (50, strB [117, 115, 101, 114], fn2 76 P)] rfl
 have ii := insV_lit 991 10 M [(5, strB [103, 101, 116], r0), (56, strB [113, 117, 105, 116], fn2 79 P), (54, strB [112, 105, 110, 103], fn2 78 P), (52, strB [116, 114, 97, 99, 107], fn2 77 P), (50, strB [117, 115, 101, 114], fn2 76 P)] [100, 101, 108, 101, 116, 101] r1 rfl rfl (keyOk_str _)
 unfold fn2 at fr ii
 simp only [EV, Bool.and_true, ld2, hO_ptr, fr, ii, kL_some]
 have s2 := law65 L n (P := P) (n0 := M + 59) (k := 2) (rf := fn1 71 B) (h := h2) rfl (by omega)
 refine s2 _ fun r2 h3 hq => ?_
 obtain ⟨a2, k3⟩ := hq
 have p4 := p3.keep0 k3
 have n4 := k3.next
 have ld3 : ∀ sp, loadOne h3 (.pointer (some ⟨P, 0, sp⟩)) = some (.pointer (some ⟨B, 0, none⟩)) := fun sp => loadOne_has p4 rfl
 have fr := ltFree_one 15326 M [(10, strB [100, 101, 108, 101, 116, 101], r1), (5, strB [103, 101, 116], r0), (56, strB [113, 117, 105, 116], fn2 79 P), (54, strB [112, 105, 110, 103], fn2 78 P), (52, strB [116, 114, 97, 99, 107], fn2 77 P), (50, strB [117, 115, 101, 114], fn2 76 P)] rfl
 have ii := insV_lit 31711 15 M [(10, strB [100, 101, 108, 101, 116, 101], r1), (5, strB [103, 101, 116], r0), (56, strB [113, 117, 105, 116], fn2 79 P), (54, strB [112, 105, 110, 103], fn2 78 P), (52, strB [116, 114, 97, 99, 107], fn2 77 P), (50, strB [117, 115, 101, 114], fn2 76 P)] [115, 101, 116] r2 rfl rfl (keyOk_str _)
 unfold fn2 at fr ii
 simp only [EV, Bool.and_true, ld3, hO_ptr, fr, ii, kL_some]
 have s3 := law65 L n (P := P) (n0 := M + 59) (k := 3) (rf := fn1 71 B) (h := h3) rfl (by omega)
 refine s3 _ fun r3 h4 hq => ?_
 obtain ⟨a3, k4⟩ := hq
 have p5 := p4.keep0 k4
 have n5 := k4.next
 have ld4 : ∀ sp, loadOne h4 (.pointer (some ⟨P, 0, sp⟩)) = some (.pointer (some ⟨B, 0, none⟩)) := fun sp => loadOne_has p5 rfl
 have fr := ltFree_one 490462 M [(15, strB [115, 101, 116], r2), (10, strB [100, 101, 108, 101, 116, 101], r1), (5, strB [103, 101, 116], r0), (56, strB [113, 117, 105, 116], fn2 79 P), (54, strB [112, 105, 110, 103], fn2 78 P), (52, strB [116, 114, 97, 99, 107], fn2 77 P), (50, strB [117, 115, 101, 114], fn2 76 P)] rfl
 have ii := insV_lit 1014751 20 M [(15, strB [115, 101, 116], r2), (10, strB [100, 101, 108, 101, 116, 101], r1), (5, strB [103, 101, 116], r0), (56, strB [113, 117, 105, 116], fn2 79 P), (54, strB [112, 105, 110, 103], fn2 78 P), (52, strB [116, 114, 97, 99, 107], fn2 77 P), (50, strB [117, 115, 101, 114], fn2 76 P)] [97, 100, 100] r3 rfl rfl (keyOk_str _)
 unfold fn2 at fr ii
 simp only [EV, Bool.and_true, ld4, hO_ptr, fr, ii, kL_some]
 have s4 := law65 L n (P := P) (n0 := M + 59) (k := 4) (rf := fn1 71 B) (h := h4) rfl (by omega)
 refine s4 _ fun r4 h5 hq => ?_
 obtain ⟨a4, k5⟩ := hq
 have p6 := p5.keep0 k5
 have n6 := k5.next
 have ld5 : ∀ sp, loadOne h5 (.pointer (some ⟨P, 0, sp⟩)) = some (.pointer (some ⟨B, 0, none⟩)) := fun sp => loadOne_has p6 rfl
 have fr := ltFree_one 15694814 M [(20, strB [97, 100, 100], r3), (15, strB [115, 101, 116], r2), (10, strB [100, 101, 108, 101, 116, 101], r1), (5, strB [103, 101, 116], r0), (56, strB [113, 117, 105, 116], fn2 79 P), (54, strB [112, 105, 110, 103], fn2 78 P), (52, strB [116, 114, 97, 99, 107], fn2 77 P), (50, strB [117, 115, 101, 114], fn2 76 P)] rfl
 have ii := insV_lit 32472031 25 M [(20, strB [97, 100, 100], r3), (15, strB [115, 101, 116], r2), (10, strB [100, 101, 108, 101, 116, 101], r1), (5, strB [103, 101, 116], r0), (56, strB [113, 117, 105, 116], fn2 79 P), (54, strB [112, 105, 110, 103], fn2 78 P), (52, strB [116, 114, 97, 99, 107], fn2 77 P), (50, strB [117, 115, 101, 114], fn2 76 P)] [114, 101, 112, 108, 97, 99, 101] r4 rfl rfl (keyOk_str _)
 unfold fn2 at fr ii
 simp only [EV, fr, ii, kL_some]
 have s5 := law65 L n (P := P) (n0 := M + 59) (k := 5) (rf := fn2 72 P) (h := h5) rfl (by omega)
 refine s5 _ fun r5 h6 hq => ?_
 obtain ⟨a5, k6⟩ := hq
 have p7 := p6.keep0 k6
 have n7 := k6.next
 have ld6 : ∀ sp, loadOne h6 (.pointer (some ⟨P, 0, sp⟩)) = some (.pointer (some ⟨B, 0, none⟩)) := fun sp => loadOne_has p7 rfl
 have fr := ltFree_one 233798622 M [(25, strB [114, 101, 112, 108, 97, 99, 101], r4), (20, strB [97, 100, 100], r3), (15, strB [115, 101, 116], r2), (10, strB [100, 101, 108, 101, 116, 101], r1), (5, strB [103, 101, 116], r0), (56, strB [113, 117, 105, 116], fn2 79 P), (54, strB [112, 105, 110, 103], fn2 78 P), (52, strB [116, 114, 97, 99, 107], fn2 77 P), (50, strB [117, 115, 101, 114], fn2 76 P)] rfl
 have ii := insV_lit 502234079 29 M [(25, strB [114, 101, 112, 108, 97, 99, 101], r4), (20, strB [97, 100, 100], r3), (15, strB [115, 101, 116], r2), (10, strB [100, 101, 108, 101, 116, 101], r1), (5, strB [103, 101, 116], r0), (56, strB [113, 117, 105, 116], fn2 79 P), (54, strB [112, 105, 110, 103], fn2 78 P), (52, strB [116, 114, 97, 99, 107], fn2 77 P), (50, strB [117, 115, 101, 114], fn2 76 P)] [99, 97, 115] r5 rfl rfl (keyOk_str _)
 unfold fn2 at fr ii
 simp only [EV, fr, ii, kL_some]
 have s6 := law65 L n (P := P) (n0 := M + 59) (k := 8) (rf := fn2 73 P) (h := h6) rfl (by omega)
 refine s6 _ fun r6 h7 hq => ?_
 obtain ⟨a6, k7⟩ := hq
 have p8 := p7.keep0 k7
 have n8 := k7.next
 have ld7 : ∀ sp, loadOne h7 (.pointer (some ⟨P, 0, sp⟩)) = some (.pointer (some ⟨B, 0, none⟩)) := fun sp => loadOne_has p8 rfl
 have fr := ltFree_one 3723459550 M [(29, strB [99, 97, 115], r5), (25, strB [114, 101, 112, 108, 97, 99, 101], r4), (20, strB [97, 100, 100], r3), (15, strB [115, 101, 116], r2), (10, strB [100, 101, 108, 101, 116, 101], r1), (5, strB [103, 101, 116], r0), (56, strB [113, 117, 105, 116], fn2 79 P), (54, strB [112, 105, 110, 103], fn2 78 P), (52, strB [116, 114, 97, 99, 107], fn2 77 P), (50, strB [117, 115, 101, 114], fn2 76 P)] rfl
 have ii := insV_lit 8018426847 33 M [(29, strB [99, 97, 115], r5), (25, strB [114, 101, 112, 108, 97, 99, 101], r4), (20, strB [97, 100, 100], r3), (15, strB [115, 101, 116], r2), (10, strB [100, 101, 108, 101, 116, 101], r1), (5, strB [103, 101, 116], r0), (56, strB [113, 117, 105, 116], fn2 79 P), (54, strB [112, 105, 110, 103], fn2 78 P), (52, strB [116, 114, 97, 99, 107], fn2 77 P), (50, strB [117, 115, 101, 114], fn2 76 P)] [97, 112, 112, 101, 110, 100] r6 rfl rfl (keyOk_str _)
 unfold fn2 at fr ii
 simp only [EV, fr, ii, kL_some]
 have s7 := law65 L n (P := P) (n0 := M + 59) (k := 6) (rf := fn2 67 P) (h := h7) rfl (by omega)
 refine s7 _ fun r7 h8 hq => ?_
 obtain ⟨a7, k8⟩ := hq
 have p9 := p8.keep0 k8
 have n9 := k8.next
 have ld8 : ∀ sp, loadOne h8 (.pointer (some ⟨P, 0, sp⟩)) = some (.pointer (some ⟨B, 0, none⟩)) := fun sp => loadOne_has p9 rfl
 have fr := ltFree_one 59558034398 M [(33, strB [97, 112, 112, 101, 110, 100], r6), (29, strB [99, 97, 115], r5), (25, strB [114, 101, 112, 108, 97, 99, 101], r4), (20, strB [97, 100, 100], r3), (15, strB [115, 101, 116], r2), (10, strB [100, 101, 108, 101, 116, 101], r1), (5, strB [103, 101, 116], r0), (56, strB [113, 117, 105, 116], fn2 79 P), (54, strB [112, 105, 110, 103], fn2 78 P), (52, strB [116, 114, 97, 99, 107], fn2 77 P), (50, strB [117, 115, 101, 114], fn2 76 P)] rfl
 have ii := insV_lit 128277511135 37 M [(33, strB [97, 112, 112, 101, 110, 100], r6), (29, strB [99, 97, 115], r5), (25, strB [114, 101, 112, 108, 97, 99, 101], r4), (20, strB [97, 100, 100], r3), (15, strB [115, 101, 116], r2), (10, strB [100, 101, 108, 101, 116, 101], r1), (5, strB [103, 101, 116], r0), (56, strB [113, 117, 105, 116], fn2 79 P), (54, strB [112, 105, 110, 103], fn2 78 P), (52, strB [116, 114, 97, 99, 107], fn2 77 P), (50, strB [117, 115, 101, 114], fn2 76 P)] [105, 110, 99, 114] r7 rfl rfl (keyOk_str _)
 unfold fn2 at fr ii
 simp only [EV, fr, ii, kL_some]
 have s8 := law65 L n (P := P) (n0 := M + 59) (k := 7) (rf := fn2 67 P) (h := h8) rfl (by omega)
 refine s8 _ fun r8 h9 hq => ?_
 obtain ⟨a8, k9⟩ := hq
 have p10 := p9.keep0 k9
 have n10 := k9.next
 have ld9 : ∀ sp, loadOne h9 (.pointer (some ⟨P, 0, sp⟩)) = some (.pointer (some ⟨B, 0, none⟩)) := fun sp => loadOne_has p10 rfl
 have fr := ltFree_one 952911231966 M [(37, strB [105, 110, 99, 114], r7), (33, strB [97, 112, 112, 101, 110, 100], r6), (29, strB [99, 97, 115], r5), (25, strB [114, 101, 112, 108, 97, 99, 101], r4), (20, strB [97, 100, 100], r3), (15, strB [115, 101, 116], r2), (10, strB [100, 101, 108, 101, 116, 101], r1), (5, strB [103, 101, 116], r0), (56, strB [113, 117, 105, 116], fn2 79 P), (54, strB [112, 105, 110, 103], fn2 78 P), (52, strB [116, 114, 97, 99, 107], fn2 77 P), (50, strB [117, 115, 101, 114], fn2 76 P)] rfl
 have ii := insV_lit 2052422859743 41 M [(37, strB [105, 110, 99, 114], r7), (33, strB [97, 112, 112, 101, 110, 100], r6), (29, strB [99, 97, 115], r5), (25, strB [114, 101, 112, 108, 97, 99, 101], r4), (20, strB [97, 100, 100], r3), (15, strB [115, 101, 116], r2), (10, strB [100, 101, 108, 101, 116, 101], r1), (5, strB [103, 101, 116], r0), (56, strB [113, 117, 105, 116], fn2 79 P), (54, strB [112, 105, 110, 103], fn2 78 P), (52, strB [116, 114, 97, 99, 107], fn2 77 P), (50, strB [117, 115, 101, 114], fn2 76 P)] [100, 101, 99, 114] r8 rfl rfl (keyOk_str _)
 unfold fn2 at fr ii
 simp only [EV, fr, ii, kL_some]
 have s9 := law65 L n (P := P) (n0 := M + 59) (k := 9) (rf := fn2 74 P) (h := h9) rfl (by omega)
 refine s9 _ fun r9 h10 hq => ?_
 obtain ⟨a9, k10⟩ := hq
 have p11 := p10.keep0 k10
 have n11 := k10.next
 have ld10 : ∀ sp, loadOne h10 (.pointer (some ⟨P, 0, sp⟩)) = some (.pointer (some ⟨B, 0, none⟩)) := fun sp => loadOne_has p11 rfl
 have fr := ltFree_one 15246562393054 M [(41, strB [100, 101, 99, 114], r8), (37, strB [105, 110, 99, 114], r7), (33, strB [97, 112, 112, 101, 110, 100], r6), (29, strB [99, 97, 115], r5), (25, strB [114, 101, 112, 108, 97, 99, 101], r4), (20, strB [97, 100, 100], r3), (15, strB [115, 101, 116], r2), (10, strB [100, 101, 108, 101, 116, 101], r1), (5, strB [103, 101, 116], r0), (56, strB [113, 117, 105, 116], fn2 79 P), (54, strB [112, 105, 110, 103], fn2 78 P), (52, strB [116, 114, 97, 99, 107], fn2 77 P), (50, strB [117, 115, 101, 114], fn2 76 P)] rfl
 have ii := insV_lit 32838748437471 45 M [(41, strB [100, 101, 99, 114], r8), (37, strB [105, 110, 99, 114], r7), (33, strB [97, 112, 112, 101, 110, 100], r6), (29, strB [99, 97, 115], r5), (25, strB [114, 101, 112, 108, 97, 99, 101], r4), (20, strB [97, 100, 100], r3), (15, strB [115, 101, 116], r2), (10, strB [100, 101, 108, 101, 116, 101], r1), (5, strB [103, 101, 116], r0), (56, strB [113, 117, 105, 116], fn2 79 P), (54, strB [112, 105, 110, 103], fn2 78 P), (52, strB [116, 114, 97, 99, 107], fn2 77 P), (50, strB [117, 115, 101, 114], fn2 76 P)] [116, 111, 117, 99, 104] r9 rfl rfl (keyOk_str _)
 unfold fn2 at fr ii
 simp only [EV, fr, ii, kL_some]
 have s10 := law65 L n (P := P) (n0 := M + 59) (k := 11) (rf := fn3 75) (h := h10) rfl (by omega)
 refine s10 _ fun r10 h11 hq => ?_
 obtain ⟨a10, k11⟩ := hq
 have p12 := p11.keep0 k11
 have n12 := k11.next
 have ld11 : ∀ sp, loadOne h11 (.pointer (some ⟨P, 0, sp⟩)) = some (.pointer (some ⟨B, 0, none⟩)) := fun sp => loadOne_has p12 rfl
 have fr := ltFree_one 103207492615134 M [(45, strB [116, 111, 117, 99, 104], r9), (41, strB [100, 101, 99, 114], r8), (37, strB [105, 110, 99, 114], r7), (33, strB [97, 112, 112, 101, 110, 100], r6), (29, strB [99, 97, 115], r5), (25, strB [114, 101, 112, 108, 97, 99, 101], r4), (20, strB [97, 100, 100], r3), (15, strB [115, 101, 116], r2), (10, strB [100, 101, 108, 101, 116, 101], r1), (5, strB [103, 101, 116], r0), (56, strB [113, 117, 105, 116], fn2 79 P), (54, strB [112, 105, 110, 103], fn2 78 P), (52, strB [116, 114, 97, 99, 107], fn2 77 P), (50, strB [117, 115, 101, 114], fn2 76 P)] rfl
 have ii := insV_lit 243944980970463 48 M [(45, strB [116, 111, 117, 99, 104], r9), (41, strB [100, 101, 99, 114], r8), (37, strB [105, 110, 99, 114], r7), (33, strB [97, 112, 112, 101, 110, 100], r6), (29, strB [99, 97, 115], r5), (25, strB [114, 101, 112, 108, 97, 99, 101], r4), (20, strB [97, 100, 100], r3), (15, strB [115, 101, 116], r2), (10, strB [100, 101, 108, 101, 116, 101], r1), (5, strB [103, 101, 116], r0), (56, strB [113, 117, 105, 116], fn2 79 P), (54, strB [112, 105, 110, 103], fn2 78 P), (52, strB [116, 114, 97, 99, 107], fn2 77 P), (50, strB [117, 115, 101, 114], fn2 76 P)] [102, 108, 117, 115, 104] r10 rfl rfl (keyOk_str _)
 unfold fn2 at fr ii
 simp only [EV, fr, ii, kL_some]
 have k1_ := k1
 have k2_ := k1_.then k2
 have k3_ := k2_.then k3
 have k4_ := k3_.then k4
 have k5_ := k4_.then k5
 have k6_ := k5_.then k6
 have k7_ := k6_.then k7
 have k8_ := k7_.then k8
 have k9_ := k8_.then k9
 have k10_ := k9_.then k10
 have k11_ := k10_.then k11
 have k12 : Keep nobody h h11 := k0.then (kr.then k11_)
 have nn := k11_.next
 have kf := Keep.put h11 M (.lit [(strB [102, 108, 117, 115, 104], r10), (strB [116, 111, 117, 99, 104], r9), (strB [100, 101, 99, 114], r8), (strB [105, 110, 99, 114], r7), (strB [97, 112, 112, 101, 110, 100], r6), (strB [99, 97, 115], r5), (strB [114, 101, 112, 108, 97, 99, 101], r4), (strB [97, 100, 100], r3), (strB [115, 101, 116], r2), (strB [100, 101, 108, 101, 116, 101], r1), (strB [103, 101, 116], r0), (strB [113, 117, 105, 116], fn2 79 P), (strB [112, 105, 110, 103], fn2 78 P), (strB [116, 114, 97, 99, 107], fn2 77 P), (strB [117, 115, 101, 114], fn2 76 P)])
 have hL1 : Has (h11.put M (.lit [(strB [102, 108, 117, 115, 104], r10), (strB [116, 111, 117, 99, 104], r9), (strB [100, 101, 99, 114], r8), (strB [105, 110, 99, 114], r7), (strB [97, 112, 112, 101, 110, 100], r6), (strB [99, 97, 115], r5), (strB [114, 101, 112, 108, 97, 99, 101], r4), (strB [97, 100, 100], r3), (strB [115, 101, 116], r2), (strB [100, 101, 108, 101, 116, 101], r1), (strB [103, 101, 116], r0), (strB [113, 117, 105, 116], fn2 79 P), (strB [112, 105, 110, 103], fn2 78 P), (strB [116, 114, 97, 99, 107], fn2 77 P), (strB [117, 115, 101, 114], fn2 76 P)])) M (.lit [(strB [102, 108, 117, 115, 104], r10), (strB [116, 111, 117, 99, 104], r9), (strB [100, 101, 99, 114], r8), (strB [105, 110, 99, 114], r7), (strB [97, 112, 112, 101, 110, 100], r6), (strB [99, 97, 115], r5), (strB [114, 101, 112, 108, 97, 99, 101], r4), (strB [97, 100, 100], r3), (strB [115, 101, 116], r2), (strB [100, 101, 108, 101, 116, 101], r1), (strB [103, 101, 116], r0), (strB [113, 117, 105, 116], fn2 79 P), (strB [112, 105, 110, 103], fn2 78 P), (strB [116, 114, 97, 99, 107], fn2 77 P), (strB [117, 115, 101, 114], fn2 76 P)]) := Has.put (by omega)
 have nF : (h11.put M (.lit [(strB [102, 108, 117, 115, 104], r10), (strB [116, 111, 117, 99, 104], r9), (strB [100, 101, 99, 114], r8), (strB [105, 110, 99, 114], r7), (strB [97, 112, 112, 101, 110, 100], r6), (strB [99, 97, 115], r5), (strB [114, 101, 112, 108, 97, 99, 101], r4), (strB [97, 100, 100], r3), (strB [115, 101, 116], r2), (strB [100, 101, 108, 101, 116, 101], r1), (strB [103, 101, 116], r0), (strB [113, 117, 105, 116], fn2 79 P), (strB [112, 105, 110, 103], fn2 78 P), (strB [116, 114, 97, 99, 107], fn2 77 P), (strB [117, 115, 101, 114], fn2 76 P)])).next = h11.next := rfl
 have y11 : Keep nobody h11 h11 := .refl _ _
 have y10 := k11.then y11
 have y9 := k10.then y10
 have y8 := k9.then y9
 have y7 := k8.then y8
 have y6 := k7.then y7
 have y5 := k6.then y6
 have y4 := k5.then y5
 have y3 := k4.then y4
 have y2 := k3.then y3
 have y1 := k2.then y2
 have b0 := a0.keep0 y1
 have b1 := a1.keep0 y2
 have b2 := a2.keep0 y3
 have b3 := a3.keep0 y4
 have b4 := a4.keep0 y5
 have b5 := a5.keep0 y6
 have b6 := a6.keep0 y7
 have b7 := a7.keep0 y8
 have b8 := a8.keep0 y9
 have b9 := a9.keep0 y10
 have b10 := a10.keep0 y11
 simp only [absorb, litsAll, litE]
 unfold fn2 at kf hL1 nF
 refine hK _ _ _ (C.ret ⟨.inr rfl, _, rfl, k12.trans kf fun b hb e => by omega, ?_⟩)
 generalize h11.put M _ = hF at *
 have at2 : At2 hF.next B P hF := ⟨p12.keep kf (by omega), by omega⟩
 have w0 := b0.keepS kf (by omega)
 have w1 := b1.keepS kf (by omega)
 have w2 := b2.keepS kf (by omega)
 have w3 := b3.keepS kf (by omega)
 have w4 := b4.keepS kf (by omega)
 have w5 := b5.keepS kf (by omega)
 have w6 := b6.keepS kf (by omega)
 have w7 := b7.keepS kf (by omega)
 have w8 := b8.keepS kf (by omega)
 have w9 := b9.keepS kf (by omega)
 have w10 := b10.keepS kf (by omega)
 have u0 := law66 L m (by omega) at2 w0 (Nat.le_refl _) (run70 L m hL B hF.next e hF)
 have u1 := law66 L m (by omega) at2 w1 (Nat.le_refl _) (run70 L m hL B hF.next e hF)
 have u2 := law66 L m (by omega) at2 w2 (Nat.le_refl _) (run71 L m hL B hF.next e hF)
 have u3 := law66 L m (by omega) at2 w3 (Nat.le_refl _) (run71 L m hL B hF.next e hF)
 have u4 := law66 L m (by omega) at2 w4 (Nat.le_refl _) (run71 L m hL B hF.next e hF)
 have u5 := law66 L m (by omega) at2 w5 (Nat.le_refl _) (run72 L m hL e at2)
 have u6 := law66 L m (by omega) at2 w6 (Nat.le_refl _) (run73 L m hL e at2)
 have u7 := law66 L m (by omega) at2 w7 (Nat.le_refl _) (run67 L m hL e at2)
 have u8 := law66 L m (by omega) at2 w8 (Nat.le_refl _) (run67 L m hL e at2)
 have u9 := law66 L m (by omega) at2 w9 (Nat.le_refl _) (run74 L m hL e at2)
 have u10 := law66 L m (by omega) at2 w10 (Nat.le_refl _) (run75 L m B hF.next e hF)
 have u76 := run76 L m hL e at2
 have u77 := run77 L m hL e at2
 have u78 := run78 L m hL e at2
 have u79 := run79 L m hL e at2
 exact ⟨M, _, by simp only [seval, EV, resOf], hL1, by omega, by omega, rfl, u10, rfl, u9, rfl, u8, rfl, u7, rfl, u6, rfl, u5, rfl, u4, rfl, u3, rfl, u2, rfl, u1, rfl, u0, rfl, u79, rfl, u78, rfl, u77, rfl, u76, trivial⟩
structure RQ where
 kind : Int
 ck : Int
 keys : List (List UInt8)
 val : List UInt8
 flags : Int
 fo : Int
 uniq : Int
 by' : Int
 rten : Int
 sec : List UInt8
 on : Bool
 close : Bool
def RQ.cells (q : RQ) (kv : Value) : List Value := [.int .u8 q.kind, .int .u8 q.ck, .int .i64 0, kv, sv q.val, .int .u32 q.flags, .int .i64 q.fo, .int .u64 q.uniq, .int .u64 q.by', .int .i64 q.rten, sv q.sec, .bool q.on, .bool q.close]
def RQ.v (q : RQ) (kv : Value) : Value := .agg (q.cells kv).toArray
def RQ.zero : RQ := ⟨0, 0, [], [], 0, 0, 0, 0, 0, [], false, false⟩
def rqOf (s : PS) : RQ := ⟨s.kind, s.ck, s.keys, [], s.flags, s.fo, s.uniq, s.by', s.rten, s.sec, s.on, false⟩
def cmdOf (s : PS) (kv : Value) : Cmd := ⟨s.ck, 0, kv, strB [], s.flags, s.fo, s.uniq, s.by', s.keys⟩
def PS.init (l : List UInt8) : PS := ⟨cutS l, true, 0, 0, [], 0, 0, 0, 0, 0, [], false, -1⟩
def badP (s : PS) : Bool := !s.ok || (decide ((0 : Int) < (s.ws.length : Int)) || (decide (s.kind = 1) && !mayB (cmdOf s (.slice none 0 0)) s.ck.toNat))
def lineP (l : List UInt8) : RQ × Int × Bool := match lookL' (PS.init l).word.1 cmdL with
 | none => (.zero, 0, false)
 | some E => if badP (E (PS.init l).word.2) = true then (.zero, 0, false) else (rqOf (E (PS.init l).word.2), (E (PS.init l).word.2).n, true)
theorem mayB_kv (s : PS) (kv kv' : Value) (k : Nat) : mayB (cmdOf s kv) k = mayB (cmdOf s kv') k := rfl
theorem word_ck (s : PS) : s.word.2.ck = s.ck := by unfold PS.word; split <;> rfl
theorem num_ck (s : PS) (m : Nat) : (s.num m).2.ck = s.ck := word_ck s
theorem key_ck (s : PS) : s.key.ck = s.ck := word_ck s
theorem all_ck : ∀ (f : Nat) (s : PS), (PS.all f s).ck = s.ck
 | 0, s => rfl
 | f + 1, s => by
   unfold PS.all
   split
   · rfl
   · rw [all_ck f, key_ck]
theorem flags_ck (s : PS) : s.flagsN.ck = s.ck := num_ck s 4294967295
theorem fo_ck (s : PS) : s.foN.ck = s.ck := num_ck s 1099511627776
theorem n_ck (s : PS) : s.nN.ck = s.ck := num_ck s 512
theorem uniq_ck (s : PS) : s.uniqN.ck = s.ck := num_ck s 18446744073709551615
theorem by_ck (s : PS) : s.byN.ck = s.ck := num_ck s 18446744073709551615
theorem puts_ck (s : PS) : s.puts.ck = s.ck := by unfold PS.puts; rw [n_ck, fo_ck, flags_ck, key_ck]
theorem keys_ck (s : PS) : s.keys'.ck = s.ck := by unfold PS.keys'; rw [all_ck, key_ck]
theorem lookL_mem (w : List UInt8) : ∀ (l : List (List UInt8 × (PS → PS))) (E : PS → PS), lookL' w l = some E → ∃ x ∈ l, x.2 = E
 | [], _, h => by cases h
 | x :: r, E, h => by
   unfold lookL' at h
   split at h
   · exact ⟨x, by simp, Option.some.inj h⟩
   · obtain ⟨y, hy, e⟩ := lookL_mem w r E h
     exact ⟨y, by simp [hy], e⟩
theorem cmdL_ck : ∀ x ∈ cmdL, ∀ s : PS, 0 ≤ s.ck → 0 ≤ (x.2 s).ck := by
 intro x hx s hs
 simp only [cmdL, List.mem_cons, List.not_mem_nil, or_false] at hx
 rcases hx with rfl | rfl | rfl | rfl | rfl | rfl | rfl | rfl | rfl | rfl | rfl | rfl | rfl | rfl | rfl <;>
   simp only [cmdE, by_ck, fo_ck, n_ck, uniq_ck, puts_ck, keys_ck, key_ck, PS.track, PS.user, word_ck, num_ck] <;> first | exact hs | decide
theorem look_ck {w : List UInt8} {E : PS → PS} (h : lookL' w cmdL = some E) {s : PS} (hs : 0 ≤ s.ck) : 0 ≤ (E s).ck := by
 obtain ⟨x, hx, rfl⟩ := lookL_mem w _ E h
 exact cmdL_ck x hx s hs
theorem agg88 {h : H} {v : Value} {ws : List (List UInt8)} (l : List UInt8) (hv : Strs h v ws) : aggO (fill [(.slice none 0 0), (.bool false), (.int .u8 (0)), (.int .u8 (0)), (.int .i64 (0)), (.slice none 0 0), (.string (strB [])), (.int .u32 (0)), (.int .i64 (0)), (.int .u64 (0)), (.int .u64 (0)), (.int .i64 (0)), (.string (strB [])), (.bool false), (.bool false), (.int .i64 (0))] (plc [(0, 1), (1, 1), (2, 13), (15, 1)]) [(0, v), (1, (.bool true)), (3, (.int .i64 (-1)))]) = some (.agg ((PS.init l).cells v (.slice none 0 0)).toArray) := by
 rcases hv with ⟨rfl, _⟩ | ⟨b, o, c, x, cs, rfl, _⟩ <;> rfl
theorem StrG.ones {h : H} {v : Value} {l : List (List UInt8)} (a : StrG h v l) : v.cells = #[v] ∧ ∀ r, Go.Ev.ones (v :: r) = Go.Ev.ones r := by
 rcases a.strs with ⟨rfl, _⟩ | ⟨b, o, c, x, cs, rfl, _⟩ <;> exact ⟨rfl, fun _ => rfl⟩
theorem zero13 : aggO (fill [(.int .u8 (0)), (.int .u8 (0)), (.int .i64 (0)), (.slice none 0 0), (.string (strB [])), (.int .u32 (0)), (.int .i64 (0)), (.int .u64 (0)), (.int .u64 (0)), (.int .i64 (0)), (.string (strB [])), (.bool false), (.bool false)] (plc [(0, 1), (1, 8), (9, 1), (10, 1), (11, 1), (12, 1)]) []) = some (RQ.zero.v (.slice none 0 0)) := rfl
theorem ones13 {kv : Value} (hk : ∀ r, ones (kv :: r) = ones r) (q : RQ) : ones (q.cells kv) = true := by
 unfold RQ.cells
 show ones (kv :: _) = true
 rw [hk]
 rfl
theorem ones8 {kv : Value} (hk : ∀ r, ones (kv :: r) = ones r) (s : PS) : ones (cmdOf s kv).cells = true := by
 unfold Cmd.cells cmdOf
 show ones (kv :: _) = true
 rw [hk]
 rfl
theorem reg30_8 (L n : Nat) (hL : 2000 ≤ L) {B Cb : Nat} {s : PS} {lv kv : Value} {h : H} {tm : T Value} (hb : Has h B (.rw (s.cells lv kv) (some 88))) (hl : Strs h lv s.ws) (hk : Strs h kv s.keys) (hc : Has h Cb (.rw (cmdOf s kv).cells (some 26))) (h1000 : s.keys.length ≤ 1000) (hck : 0 ≤ s.ck) (t5 : tg tm 5 = .pointer (some ⟨B, 0, none⟩)) (t8 : tg tm 8 = .pointer (some ⟨Cb, 0, none⟩)) {Q : Ex → T Value → H → Prop}
   (hQ : ∀ h', Keep nobody h h' → Q .norm (T.set tm 57 (.bool (badP s))) h') : C ⟨r30_8⟩ (CF L (n + 5)) L tm h Q := fun K hK => by
 rw [box_f]
 unfold r30_8
 have fp1 : fieldPtr 1 (.pointer (some ⟨B, 0, none⟩)) = some (.pointer (some ⟨B, 1, none⟩)) := rfl
 have fp0 : fieldPtr 0 (.pointer (some ⟨B, 0, none⟩)) = some (.pointer (some ⟨B, 0, none⟩)) := rfl
 have fp2 : fieldPtr 2 (.pointer (some ⟨B, 0, none⟩)) = some (.pointer (some ⟨B, 2, none⟩)) := rfl
 have fp20 : fieldPtr 0 (.pointer (some ⟨B, 2, none⟩)) = some (.pointer (some ⟨B, 2, none⟩)) := rfl
 have lok : loadOne h (.pointer (some ⟨B, 1, none⟩)) = some (.bool s.ok) := loadOne_has hb rfl
 have lws : loadOne h (.pointer (some ⟨B, 0, none⟩)) = some lv := loadOne_has hb rfl
 have llen := hl.len
 have lkd : loadOne h (.pointer (some ⟨B, 2, none⟩)) = some (.int .u8 s.kind) := loadOne_has hb rfl
 have lcmd : loadAgg 8 h (.pointer (some ⟨Cb, 0, none⟩)) = some (cmdOf s kv).v := loadAgg_has hc rfl (by show 0 + 8 ≤ 8; omega)
 have pickV_true : ∀ a b : Value, pickV (.bool true) a b = some a := fun _ _ => rfl
 unfold badP at hQ
 cases ho : s.ok with
 | false =>
   rw [ho] at lok hQ
   try rw [bx]
   refine ops_s ?_
   simp only [↓OF, NK, t5]
   refine ops_s ?_
   simp only [↓OF, NK, nilChk_ptr]
   refine ops_s ?_
   simp only [↓OF, NK, fp1]
   refine ops_s ?_
   simp only [↓OF, NK, lok]
   refine ops_s ?_
   simp only [↓OF, NK, unV_not, Bool.not_false]
   refine ops_s ?_
   simp only [↓OF, NK]
   refine ops_k ?_
   refine ops_k ?_
   refine ops_k ?_
   refine ops_k ?_
   refine ops_k ?_
   refine ops_k ?_
   refine ops_s ?_
   simp only [↓OF, NK, pickV_true]
   refine ops_s ?_
   simp only [↓OF, NK]
   refine ops_k ?_
   refine ops_k ?_
   refine ops_k ?_
   refine ops_k ?_
   refine ops_k ?_
   refine ops_k ?_
   refine ops_k ?_
   refine ops_k ?_
   refine ops_k ?_
   refine ops_k ?_
   refine ops_k ?_
   refine ops_s ?_
   simp only [↓OF, NK, pickV_true]
   exact hK _ _ _ (hQ _ (.refl _ _))
 | true =>
   rw [ho] at lok hQ
   by_cases g1 : (0 : Int) < (s.ws.length : Int)
   · rw [dT g1] at hQ
     try rw [bx]
     refine ops_s ?_
     simp only [↓OF, NK, t5]
     refine ops_s ?_
     simp only [↓OF, NK, nilChk_ptr]
     refine ops_s ?_
     simp only [↓OF, NK, fp1]
     refine ops_s ?_
     simp only [↓OF, NK, lok]
     refine ops_s ?_
     simp only [↓OF, NK, unV_not, Bool.not_true]
     refine ops_s ?_
     simp only [↓OF, NK]
     refine ops_s ?_
     simp only [↓OF, NK, t5]
     refine ops_s ?_
     simp only [↓OF, NK, nilChk_ptr]
     refine ops_s ?_
     simp only [↓OF, NK, fp0]
     refine ops_s ?_
     simp only [↓OF, NK, lws]
     refine ops_s ?_
     simp only [↓OF, NK, llen]
     refine ops_s ?_
     simp only [↓OF, NK, binV_gtr, dT g1]
     refine ops_s ?_
     simp only [↓OF, NK, pickV_false]
     refine ops_s ?_
     simp only [↓OF, NK]
     refine ops_k ?_
     refine ops_k ?_
     refine ops_k ?_
     refine ops_k ?_
     refine ops_k ?_
     refine ops_k ?_
     refine ops_k ?_
     refine ops_k ?_
     refine ops_k ?_
     refine ops_k ?_
     refine ops_k ?_
     refine ops_s ?_
     simp only [↓OF, NK, pickV_true]
     exact hK _ _ _ (hQ _ (.refl _ _))
   · rw [dF g1] at hQ
     by_cases g2 : s.kind = 1
     · rw [dT g2] at hQ
       have chk : Sp (CF L (n + 5)) 22 [(cmdOf s kv).v] h fun r h' => r = .int .i64 (if mayB (cmdOf s kv) s.ck.toNat = true then 0 else 100) ∧ Keep nobody h h' := check_law L n (by omega) (show s.ck = ((s.ck.toNat : Nat) : Int) by omega) hk h1000
       rw [mayB_kv s (.slice none 0 0) kv] at hQ
       cases hm : mayB (cmdOf s kv) s.ck.toNat with
       | false =>
         rw [hm] at hQ chk
         rw [if_neg (show ¬ (false = true) by decide)] at chk
         have hneq : (!decide ((100 : Int) = 0)) = true := rfl
         try rw [bx]
         refine ops_s ?_
         simp only [↓OF, NK, t5]
         refine ops_s ?_
         simp only [↓OF, NK, nilChk_ptr]
         refine ops_s ?_
         simp only [↓OF, NK, fp1]
         refine ops_s ?_
         simp only [↓OF, NK, lok]
         refine ops_s ?_
         simp only [↓OF, NK, unV_not, Bool.not_true]
         refine ops_s ?_
         simp only [↓OF, NK]
         refine ops_s ?_
         simp only [↓OF, NK, t5]
         refine ops_s ?_
         simp only [↓OF, NK, nilChk_ptr]
         refine ops_s ?_
         simp only [↓OF, NK, fp0]
         refine ops_s ?_
         simp only [↓OF, NK, lws]
         refine ops_s ?_
         simp only [↓OF, NK, llen]
         refine ops_s ?_
         simp only [↓OF, NK, binV_gtr, dF g1]
         refine ops_s ?_
         simp only [↓OF, NK, pickV_false]
         refine ops_s ?_
         simp only [↓OF, NK]
         refine ops_s ?_
         simp only [↓OF, NK, t5]
         refine ops_s ?_
         simp only [↓OF, NK, nilChk_ptr]
         refine ops_s ?_
         simp only [↓OF, NK, fp2]
         refine ops_s ?_
         simp only [↓OF, NK, fp20]
         refine ops_s ?_
         simp only [↓OF, NK, lkd]
         refine ops_s ?_
         simp only [↓OF, NK, binV_eql, dT g2]
         refine ops_s ?_
         simp only [↓OF, NK]
         refine ops_s ?_
         simp only [↓OF, NK, t8, lcmd]
         refine ops_s ?_
         simp only [NK]
         refine chk _ fun r h2 hq => ?_
         obtain ⟨rfl, k2⟩ := hq
         try rw [bx]
         refine ops_s ?_
         simp only [↓OF, NK, binV_neq, hneq]
         refine ops_s ?_
         simp only [↓OF, NK, pickV_true]
         refine ops_s ?_
         simp only [↓OF, NK, pickV_false]
         exact hK _ _ _ (hQ _ k2)
       | true =>
         rw [hm] at hQ chk
         rw [if_pos rfl] at chk
         have hneq : (!decide ((0 : Int) = 0)) = false := rfl
         try rw [bx]
         refine ops_s ?_
         simp only [↓OF, NK, t5]
         refine ops_s ?_
         simp only [↓OF, NK, nilChk_ptr]
         refine ops_s ?_
         simp only [↓OF, NK, fp1]
         refine ops_s ?_
         simp only [↓OF, NK, lok]
         refine ops_s ?_
         simp only [↓OF, NK, unV_not, Bool.not_true]
         refine ops_s ?_
         simp only [↓OF, NK]
         refine ops_s ?_
         simp only [↓OF, NK, t5]
         refine ops_s ?_
         simp only [↓OF, NK, nilChk_ptr]
         refine ops_s ?_
         simp only [↓OF, NK, fp0]
         refine ops_s ?_
         simp only [↓OF, NK, lws]
         refine ops_s ?_
         simp only [↓OF, NK, llen]
         refine ops_s ?_
         simp only [↓OF, NK, binV_gtr, dF g1]
         refine ops_s ?_
         simp only [↓OF, NK, pickV_false]
         refine ops_s ?_
         simp only [↓OF, NK]
         refine ops_s ?_
         simp only [↓OF, NK, t5]
         refine ops_s ?_
         simp only [↓OF, NK, nilChk_ptr]
         refine ops_s ?_
         simp only [↓OF, NK, fp2]
         refine ops_s ?_
         simp only [↓OF, NK, fp20]
         refine ops_s ?_
         simp only [↓OF, NK, lkd]
         refine ops_s ?_
         simp only [↓OF, NK, binV_eql, dT g2]
         refine ops_s ?_
         simp only [↓OF, NK]
         refine ops_s ?_
         simp only [↓OF, NK, t8, lcmd]
         refine ops_s ?_
         simp only [NK]
         refine chk _ fun r h2 hq => ?_
         obtain ⟨rfl, k2⟩ := hq
         try rw [bx]
         refine ops_s ?_
         simp only [↓OF, NK, binV_neq]
         refine ops_s ?_
         simp only [↓OF, NK, pickV_true]
         refine ops_s ?_
         simp only [↓OF, NK, pickV_false]
         exact hK _ _ _ (hQ _ k2)
     · rw [dF g2] at hQ
       try rw [bx]
       refine ops_s ?_
       simp only [↓OF, NK, t5]
       refine ops_s ?_
       simp only [↓OF, NK, nilChk_ptr]
       refine ops_s ?_
       simp only [↓OF, NK, fp1]
       refine ops_s ?_
       simp only [↓OF, NK, lok]
       refine ops_s ?_
       simp only [↓OF, NK, unV_not, Bool.not_true]
       refine ops_s ?_
       simp only [↓OF, NK]
       refine ops_s ?_
       simp only [↓OF, NK, t5]
       refine ops_s ?_
       simp only [↓OF, NK, nilChk_ptr]
       refine ops_s ?_
       simp only [↓OF, NK, fp0]
       refine ops_s ?_
       simp only [↓OF, NK, lws]
       refine ops_s ?_
       simp only [↓OF, NK, llen]
       refine ops_s ?_
       simp only [↓OF, NK, binV_gtr, dF g1]
       refine ops_s ?_
       simp only [↓OF, NK, pickV_false]
       refine ops_s ?_
       simp only [↓OF, NK]
       refine ops_s ?_
       simp only [↓OF, NK, t5]
       refine ops_s ?_
       simp only [↓OF, NK, nilChk_ptr]
       refine ops_s ?_
       simp only [↓OF, NK, fp2]
       refine ops_s ?_
       simp only [↓OF, NK, fp20]
       refine ops_s ?_
       simp only [↓OF, NK, lkd]
       refine ops_s ?_
       simp only [↓OF, NK, binV_eql, dF g2]
       refine ops_s ?_
       simp only [↓OF, NK]
       refine ops_k ?_
       refine ops_k ?_
       refine ops_k ?_
       refine ops_s ?_
       simp only [↓OF, NK, pickV_false]
       refine ops_s ?_
       simp only [↓OF, NK, pickV_false]
       exact hK _ _ _ (hQ _ (.refl _ _))
structure Env0 (e : Value) (h : H) : Prop where
 he : ErrC e
 hG : Has h 7 (.ro [e])
 hP : Has h 1 (.ro powC)
theorem Env0.keep0 {e : Value} {h h' : H} (a : Env0 e h) (k : Keep nobody h h') : Env0 e h' := ⟨a.he, a.hG.keep0 k, a.hP.keep0 k⟩
def LineQ (l : List UInt8) (h0 : H) (r : Value) (h' : H) : Prop := Keep nobody h0 h' ∧ ∃ kv, r = .tuple #[(lineP l).1.v kv, .int .i64 (lineP l).2.1, .bool (lineP l).2.2] ∧ StrG h' kv (lineP l).1.keys ∧ ∀ b, blk kv b → h0.next ≤ b
theorem cut_len (l : List UInt8) : (cutS l).length ≤ l.length + 1 ∧ ∀ p ∈ cutS l, p.length ≤ l.length := by
 induction l with
 | nil => simp [cutS]
 | cons x r ih =>
   unfold cutS
   split
   · refine ⟨by simp only [List.length_cons]; omega, fun p hp => ?_⟩
     rcases List.mem_cons.1 hp with rfl | hp
     · simp
     · have := ih.2 p hp
       simp only [List.length_cons]; omega
   · split
     · rename_i p ps e
       rw [e] at ih
       refine ⟨by simpa using Nat.le_succ_of_le ih.1, fun q hq => ?_⟩
       rcases List.mem_cons.1 hq with rfl | hq
       · have := ih.2 p (by simp)
         simp only [List.length_cons]; omega
       · have := ih.2 q (by simp [hq])
         simp only [List.length_cons]; omega
     · refine ⟨by simp, fun q hq => ?_⟩
       simp at hq
       subst hq
       simp
theorem ch_old' {n2 B n0 : Nat} {h h' : H} (k : Keep (Ch n2 B) h h') (hB : n0 ≤ B) (h2 : n0 ≤ n2) {h0 : H} (h1 : h0.next = n0) (k0 : Keep nobody h0 h) : Keep nobody h0 h' := k0.trans k fun b hb e => by rcases e with e | e <;> omega
theorem law30 (L n : Nat) (hL : 2000 ≤ L) {l : List UInt8} (hl : l.length ≤ 512) {h : H} {e : Value} (ev : Env0 e h) (h7 : 7 < h.next) :
   Sp (CF L (n + 12)) 30 [sv l] h (LineQ l h) := by
 unfold LineQ
 generalize hR : lineP l = R
 refine Sp.body f30 (by simp) ?_
 unfold c30
 refine C.seq fun K hK => ?_
 have cutl := cut_len l
 have b0 := Has.new h (.rw (RQ.zero.cells (.slice none 0 0)) (some 28))
 have k0 := Keep.new h (.rw (RQ.zero.cells (.slice none 0 0)) (some 28))
 have n0 : (h.new (.rw (RQ.zero.cells (.slice none 0 0)) (some 28))).next = h.next + 1 := rfl
 have hz : h.new (.rw [.int .u8 0, .int .u8 0, .int .i64 0, .slice none 0 0, .string (strB []), .int .u32 0, .int .i64 0, .int .u64 0, .int .u64 0, .int .i64 0, .string (strB []), .bool false, .bool false] (some 28)) = h.new (.rw (RQ.zero.cells (.slice none 0 0)) (some 28)) := rfl
 simp only [↓EW, EV, r30_0, hz]
 generalize hZ : h.next = Z at *
 generalize h.new (.rw (RQ.zero.cells (.slice none 0 0)) (some 28)) = h0 at *
 refine hK _ _ _ (C.seq fun K hK => ?_)
 simp only [seval, ↓EW, EV, r30_1]
 refine split_law L (n + 5) (l := l) (by omega) (by omega) _ fun r h1 hq => ?_
 obtain ⟨hs, k1, hn⟩ := hq
 have cc : (Value.cells (.agg ((PS.init l).cells r (.slice none 0 0)).toArray)).toList = (PS.init l).cells r (.slice none 0 0) := rfl
 have b2 := Has.new h1 (.rw ((PS.init l).cells r (.slice none 0 0)) (some 88))
 have k2 := Keep.new h1 (.rw ((PS.init l).cells r (.slice none 0 0)) (some 88))
 have n2 : (h1.new (.rw ((PS.init l).cells r (.slice none 0 0)) (some 88))).next = h1.next + 1 := rfl
 have nn1 := k1.next
 have hlt : ∀ b, blk r b → b < h1.next := fun b hb => hs.lt hb
 simp only [EV, agg88 l hs]
 generalize hB : h1.next = B at *
 generalize h1.new (.rw ((PS.init l).cells r (.slice none 0 0)) (some 88)) = h2 at *
 refine hK _ _ _ (C.seq fun K hK => ?_)
 simp only [seval, EV, r30_2]
 refine law49 L (n + 9) (n + 2) hL (by omega) e _ fun r1 h3 hq => ?_
 obtain ⟨k3, M, es, rfl, hM, lM, nM, cor⟩ := hq
 have nn3 := k3.next
 have ev3 : Env B e h3 := ⟨ev.he, ev.hG.keep0 (k0.then (k1.then (k2.then k3))), ev.hP.keep0 (k0.then (k1.then (k2.then k3))), by omega⟩
 have b03 : Has h3 Z (.rw (RQ.zero.cells (.slice none 0 0)) (some 28)) := b0.keep0 (k1.then (k2.then k3))
 have pm : PM h3.next B (PS.init l) h3 := ⟨⟨r, .slice none 0 0, b2.keep0 k3, ⟨hs.keep0 (k2.then k3), fun b hb => by have := hlt b hb; omega⟩, .inl ⟨rfl, rfl⟩, fun b hb => by simp at hb⟩, by omega, by show ([] : List (List UInt8)).length + (cutS l).length ≤ 1000; simp only [List.length_nil]; omega, fun p hp => by have := cutl.2 p hp; omega⟩
 have k03 : Keep nobody h h3 := k0.then (k1.then (k2.then k3))
 refine word_law L (n + 10) pm _ fun r2 h4 hq => ?_
 obtain ⟨rfl, a4, k4⟩ := hq
 have look := look_lit (hM.keep k4 (ch_old lM nM)) (PS.init l).word.1
 have ev4 := ev3.keep (by omega) k4
 have b04 : Has h4 Z (.rw (RQ.zero.cells (.slice none 0 0)) (some 28)) := b03.keep k4 (ch_old (by have := b03.1; omega) (by omega))
 have kh4 : Keep nobody h h4 := ch_old' (n0 := Z) k4 (by omega) (by omega) hZ k03
 have few : (PS.init l).word.2.keys.length + (PS.init l).word.2.ws.length ≤ 880 := by
   unfold PS.word
   split
   · rename_i hw
     show ([] : List (List UInt8)).length + (PS.init l).ws.length ≤ 880
     rw [hw]; simp
   · rename_i p q hw
     have : (cutS l).length = q.length + 1 := by
       have : (PS.init l).ws = cutS l := rfl
       rw [← this, hw, List.length_cons]
     show ([] : List (List UInt8)).length + q.length ≤ 880
     simp only [List.length_nil]; omega
 simp only [EV, look]
 unfold lineP at hR
 have hone0 : ∀ r, ones (Value.slice none 0 0 :: r) = ones r := fun _ => rfl
 have zst : ∀ {hx : H}, Has hx Z (.rw (RQ.zero.cells (.slice none 0 0)) (some 28)) → ∀ sp, storeV 13 hx (.pointer (some ⟨Z, 0, sp⟩)) (RQ.zero.v (.slice none 0 0)) = some (hx.put Z (.rw (RQ.zero.cells (.slice none 0 0)) (some 28))) := fun hb sp => store_has hb rfl rfl (ones13 hone0 _)
 have fin : ∀ {hx : H}, Has hx Z (.rw (RQ.zero.cells (.slice none 0 0)) (some 28)) → Keep nobody h hx → ∀ sp, loadAgg 13 (hx.put Z (.rw (RQ.zero.cells (.slice none 0 0)) (some 28))) (.pointer (some ⟨Z, 0, sp⟩)) = some (RQ.zero.v (.slice none 0 0)) ∧ Keep nobody h (hx.put Z (.rw (RQ.zero.cells (.slice none 0 0)) (some 28))) := fun {hx} hb kx sp => ⟨loadAgg_has (o := 0) (n := 13) (cs := RQ.zero.cells (.slice none 0 0)) (Has.put hb.1) rfl (by show 0 + 13 ≤ 13; omega), kx.trans (Keep.put hx Z _) fun b hb e => by subst e; omega⟩
 rcases cor.find (PS.init l).word.1 with ⟨c1, c2⟩ | ⟨E, fv, c1, c2, run⟩
 · rw [c1] at hR
   subst hR
   simp only [c2, foundS]
   refine hK _ _ _ (C.seq (C.seq fun K hK => ?_))
   simp only [seval, EV, r30_3]
   refine hK .norm _ _ (C.ct (C.seq fun K hK => ?_))
   obtain ⟨la, ka⟩ := fin b04 kh4 none
   simp only [seval, EV, r30_4, zero13, zst b04]
   refine hK _ _ _ (C.ret ⟨.inr rfl, [RQ.zero.v (.slice none 0 0), .int .i64 0, .bool false], ?_, ka, .slice none 0 0, rfl, .inl ⟨rfl, rfl⟩, fun b hb => by simp at hb⟩)
   simp only [seval, EV, q30, la]
 have ck0 : 0 ≤ (E (PS.init l).word.2).ck := look_ck c1 (by rw [word_ck]; exact Int.le_refl 0)
 simp only [c1] at hR
 obtain ⟨g, args, e1, sp⟩ := run h4 _ k4 ev4 a4 few
 generalize E (PS.init l).word.2 = s at *
 simp only [c2, foundS]
 refine hK _ _ _ (C.seq (C.seq fun K hK => ?_))
 simp only [seval, EV, r30_3]
 refine hK .norm _ _ (C.cf <| C.skip (C.seq fun K hK => ?_))
 simp only [seval, EV, r30_5, e1, goCall]
 refine sp _ fun r5 h5 hq => ?_
 obtain ⟨a5, k5⟩ := hq
 obtain ⟨lv, kv, hb, ⟨hlv, llv⟩, hkv, lkv⟩ := a5.ex
 have kh5 : Keep nobody h h5 := kh4.trans k5 fun b hb e => by rcases e with e | e <;> omega
 have b05 : Has h5 Z (.rw (RQ.zero.cells (.slice none 0 0)) (some 28)) := b04.keep k5 (ch_old (by omega) (by omega))
 have lg3 : ∀ sp, loadAgg 8 h5 (.pointer (some ⟨B, 3, sp⟩)) = some (cmdOf s kv).v := fun sp => loadAgg_has hb rfl (by show 3 + 8 ≤ 16; omega)
 refine hK _ _ _ (C.seq fun K hK => ?_)
 have hcc : (Value.cells (cmdOf s kv).v).toList = (cmdOf s kv).cells := rfl
 have st6 : ∀ cs ty, cs.length = 8 → ∀ sp, storeV 8 (h5.new (.rw cs ty)) (.pointer (some ⟨h5.next, 0, sp⟩)) (cmdOf s kv).v = some ((h5.new (.rw cs ty)).put h5.next (.rw (cmdOf s kv).cells ty)) := fun cs ty hc sp => store_new h5 8 sp cs ty _ hc.symm rfl (ones8 hkv.ones.2 s)
 have b6 : Has ((h5.new (.rw [.int .u8 0, .int .i64 0, .slice none 0 0, .string (strB []), .int .u32 0, .int .i64 0, .int .u64 0, .int .u64 0] (some 26))).put h5.next (.rw (cmdOf s kv).cells (some 26))) h5.next (.rw (cmdOf s kv).cells (some 26)) := Has.put (Nat.lt_succ_self _)
 have k6 := keep_alloc h5 (.rw [.int .u8 0, .int .i64 0, .slice none 0 0, .string (strB []), .int .u32 0, .int .i64 0, .int .u64 0, .int .u64 0] (some 26)) (.rw (cmdOf s kv).cells (some 26))
 simp only [seval, ↓EW, EV, r30_6, nilChk_ptr, lg3, st6 [.int .u8 0, .int .i64 0, .slice none 0 0, .string (strB []), .int .u32 0, .int .i64 0, .int .u64 0, .int .u64 0] (some 26) rfl]
 generalize hC : h5.next = Cb at *
 generalize (h5.new (.rw [.int .u8 0, .int .i64 0, .slice none 0 0, .string (strB []), .int .u32 0, .int .i64 0, .int .u64 0, .int .u64 0] (some 26))).put Cb (.rw (cmdOf s kv).cells (some 26)) = h6 at *
 refine hK _ _ _ (C.seq fun K hK => ?_)
 have st7 : ∀ sp, storeV 1 h6 (.pointer (some ⟨Cb, 3, sp⟩)) (.string (strB [])) = some (h6.put Cb (.rw (cmdOf s kv).cells (some 26))) := fun sp => store_one b6 rfl rfl rfl
 have b7 := Has.put (x := .rw (cmdOf s kv).cells (some 26)) b6.1
 have k7 : Keep nobody h5 (h6.put Cb (.rw (cmdOf s kv).cells (some 26))) := k6.trans (Keep.put h6 Cb _) fun b hb e => by subst e; omega
 simp only [seval, EV, r30_7, st7]
 generalize h6.put Cb (.rw (cmdOf s kv).cells (some 26)) = h7' at *
 refine hK _ _ _ (C.seq (C.seq (reg30_8 L (n + 6) hL (hb.keep0 k7) (hlv.keep0 k7) (hkv.keep k7 fun _ _ => id).strs b7 (by have := a5.few; omega) ck0 (by simp only [seval, EV]) (by simp only [seval, EV]) fun h8 k8 => ?_)))
 have k58 := k7.then k8
 have kh8 := kh5.then k58
 have b08 := b05.keep0 k58
 cases hbad : badP s with
 | true =>
   rw [hbad, if_pos rfl] at hR
   subst hR
   refine C.ct (C.seq fun K hK => ?_)
   obtain ⟨la, ka⟩ := fin b08 kh8 none
   simp only [seval, EV, r30_9, zero13, zst b08]
   refine hK _ _ _ (C.ret ⟨.inr rfl, [RQ.zero.v (.slice none 0 0), .int .i64 0, .bool false], ?_, ka, .slice none 0 0, rfl, .inl ⟨rfl, rfl⟩, fun b hb => by simp at hb⟩)
   simp only [seval, EV, q30, la]
 | false =>
   rw [hbad, if_neg (by decide)] at hR
   subst hR
   refine C.cf <| C.skip (C.seq fun K hK => ?_)
   have kr := keep_room h8 11
   have hb9 := (hb.keep0 k58).keep0 kr
   have b09 := b08.keep0 kr
   have hq9 := (hkv.keep k58 fun _ _ => id).keep kr fun _ _ => id
   have lg2 : ∀ sp, loadAgg 13 ⟨h8.objs, h8.next + 11⟩ (.pointer (some ⟨B, 2, sp⟩)) = some ((rqOf s).v kv) := fun sp => loadAgg_has hb9 rfl (by show 2 + 13 ≤ 16; omega)
   have lgn : ∀ sp, loadOne ⟨h8.objs, h8.next + 11⟩ (.pointer (some ⟨B, 15, sp⟩)) = some (.int .i64 s.n) := fun sp => loadOne_has hb9 rfl
   have st9 : ∀ sp, storeV 13 ⟨h8.objs, h8.next + 11⟩ (.pointer (some ⟨Z, 0, sp⟩)) ((rqOf s).v kv) = some (H.put ⟨h8.objs, h8.next + 11⟩ Z (.rw ((rqOf s).cells kv) (some 28))) := fun sp => store_has b09 rfl rfl (ones13 hkv.ones.2 _)
   have kz := Keep.put (⟨h8.objs, h8.next + 11⟩ : H) Z (.rw ((rqOf s).cells kv) (some 28))
   have bz := Has.put (x := .rw ((rqOf s).cells kv) (some 28)) b09.1
   have hOi : ∀ x, hO (some (.int .i64 s.n)) (.int .i64 s.n) x = x := fun x => hO_self (veq_int _ _) x
   have lgn' : ∀ sp, loadOne (H.put ⟨h8.objs, h8.next + 11⟩ Z (.rw ((rqOf s).cells kv) (some 28))) (.pointer (some ⟨B, 15, sp⟩)) = some (.int .i64 s.n) := fun sp => loadOne_has (hb9.keep kz (by omega)) rfl
   simp only [seval, EV, Bool.and_true, r30_10, nilChk_ptr, lg2, lgn, lgn', st9, hOi]
   refine hK _ _ _ (C.ret ⟨.inr rfl, [(rqOf s).v kv, .int .i64 s.n, .bool true], ?_, (kh8.then kr).trans kz fun b hb e => by subst e; omega, kv, rfl, hq9.keep kz fun b hb e => by have := lkv b hb; omega, fun b hb => by have := lkv b hb; omega⟩)
   have la : ∀ sp, loadAgg 13 (H.put ⟨h8.objs, h8.next + 11⟩ Z (.rw ((rqOf s).cells kv) (some 28))) (.pointer (some ⟨Z, 0, sp⟩)) = some ((rqOf s).v kv) := fun sp => loadAgg_has bz rfl (by show 0 + 13 ≤ 13; omega)
   simp only [seval, EV, q30, la]
end Go.Proofs.YtilpiiafjehbnaaGreatDoor
