import Derived.Test.YtbdmhdidehfmoaaDoorEvV
import Derived.KernelRfl
import Derived.Test.YtbdmhdidehfmoaaDoorRows
set_option linter.unusedVariables false
namespace Go.Proofs.YtbdmhdidehfmoaaDoor
open Go.Ev
def masks : List Nat := [0, 0, 0, 11874700803313586215476161921236043312114073337853, 5586943, 84180224902860762419187810301, 89202982123350657949004689704837523664011251, 5119, 1, 5, 2171, 34863089367, 541, 34863089403, 541, 19, 8375437953725, 33571891, 144115188130381815, 543, 31, 32827, 10385861445041135941798790903627805, 4198523, 540545147, 27, 19, 31, 17389, 604275, 19, 526847, 2102271, 8589944799, 3, 59, 66483, 15, 65735, 42535296023574879666274036850519702559, 5, 5, 19, 7, 2097279, 1965, 17179886351, 8592039695, 35218731966215, 1333065575601045263, 33543, 21268317252094917911888073248812900111, 1217485249602318769183, 22997644815212700899627017342834150232570911, 277, 16661, 0, 5, 5, 288231475663604767, 5, 5, 271, 4159, 4197407, 0, 0, 0, 0, 0, 0, 0, 0, 0, 0, 0, 0, 0, 0, 0, 0, 0, 0, 0, 0, 0]
def outside : List (Nat × XK) := []
abbrev NG : Nat := 1
/-! 3 cloakroom/cloakroomlaw06.TableLast -/
noncomputable def r3_0 : CodeT := fun call _ tm ds h K =>
  K .norm (T.set tm 2 (.bool false)) ds h
noncomputable def r3_1 : CodeT := fun call _ tm ds h K =>
  call 7 [] h (fun v h => (fun v0 ds h =>
  K .norm (T.set tm 3 v0) ds h) v ds h)
noncomputable def r3_2 : CodeT := fun call _ tm ds h K =>
  kO (unV .not (tg tm 3)) ds h (fun v1 ds h =>
  K .norm (T.set tm 23 v1) ds h)
noncomputable def r3_3 : CodeT := fun call _ tm ds h K =>
  K .norm (T.set tm 2 (.bool false)) ds h
noncomputable def r3_4 : CodeT := fun call _ tm ds h K =>
  kO (lenSl (tg tm 0)) ds h (fun v1 ds h =>
  kO (binV Tryd.prog .gtr 3 true v1 (.int .i64 (600))) ds h (fun v2 ds h =>
  K .norm (T.set tm 26 v2) ds h))
noncomputable def r3_5 : CodeT := fun call _ tm ds h K =>
  K .norm (T.set tm 2 (tg tm 3)) ds h
noncomputable def r3_6 : CodeT := fun call _ tm ds h K =>
  call 8 [] h (fun v h => (fun v0 ds h =>
  K .norm (T.set tm 4 v0) ds h) v ds h)
noncomputable def r3_7 : CodeT := fun call _ tm ds h K =>
  K .norm (T.set tm 5 (.int .i64 (0))) ds h
noncomputable def r3_8 : CodeT := fun call _ tm ds h K =>
  kO (lenSl (tg tm 0)) ds h (fun v2 ds h =>
  kO (binV Tryd.prog .lss 3 false (tg tm 5) v2) ds h (fun v3 ds h =>
  K .norm (T.set tm 32 v3) ds h))
noncomputable def r3_10 : CodeT := fun call _ tm ds h K =>
  kO (indexSl 1 (tg tm 0) (tg tm 5)) ds h (fun v2 ds h =>
  kO (loadOne h v2) ds h (fun v3 ds h =>
  kO (toInt .i64 v3) ds h (fun v4 ds h =>
  kO (binV Tryd.prog .quo 3 true v4 (.int .i64 (4))) ds h (fun v5 ds h =>
  call 9 [v5] h (fun v h => (fun v6 ds h =>
  kA (some (.rw [(.int .i64 (0)), (.string (strB []))], ptrTo h.next)) ds h (fun v7 ds h =>
  kH (withV undef (storeV 2 h v7 v6)) ds (fun v8 ds h =>
  K .norm (T.set tm 6 v7) ds h))) v ds h)))))
noncomputable def r3_11 : CodeT := fun call _ tm ds h K =>
  K .norm (T.set tm 7 (.int .i64 (0))) ds h
noncomputable def r3_12 : CodeT := fun call _ tm ds h K =>
  kO (indexSl 1 (tg tm 0) (tg tm 5)) ds h (fun v2 ds h =>
  kO (loadOne h v2) ds h (fun v3 ds h =>
  kO (binV Tryd.prog .rem 29 true v3 (.int .u16 (4))) ds h (fun v4 ds h =>
  kO (binV Tryd.prog .eql 29 true v4 (.int .u16 (3))) ds h (fun v5 ds h =>
  K .norm (T.set tm 47 v5) ds h))))
noncomputable def r3_13 : CodeT := fun call _ tm ds h K =>
  kO (loadAgg 2 h (tg tm 6)) ds h (fun v1 ds h =>
  call 10 [(tg tm 4), v1] h (fun v h => (fun v2 ds h =>
  kO (tupNth 0 v2) ds h (fun v4 ds h =>
  kO (tupNth 1 v2) ds h (fun v5 ds h =>
  K .norm (T.set tm 7 v5) ds h))) v ds h))
noncomputable def r3_14 : CodeT := fun call _ tm ds h K =>
  kO (loadAgg 2 h (tg tm 6)) ds h (fun v1 ds h =>
  call 11 [(tg tm 4), v1, (tg tm 5)] h (fun v h => (fun v3 ds h =>
  K .norm (T.set tm 7 v3) ds h) v ds h))
noncomputable def r3_15 : CodeT := fun call _ tm ds h K =>
  call 12 [(tg tm 4)] h (fun v h => (fun v1 ds h =>
  kO (tupNth 0 v1) ds h (fun v3 ds h =>
  kO (tupNth 1 v1) ds h (fun v4 ds h =>
  K .norm (T.set (T.set tm 8 v3) 9 v4) ds h))) v ds h)
noncomputable def r3_16 : CodeT := fun call _ tm ds h K => (⟨opStep ⟨fun call env tm ds h K => kO (some (tg tm 7)) ds h K⟩ ⟨fun v tm => tm⟩ ⟨fun env tm => true⟩
  ⟨opStep ⟨fun call env tm ds h K => kO (binV Tryd.prog .neq 30 true (nthD 0 env) (.int .i64 (0))) ds h K⟩ ⟨fun v tm => tm⟩ ⟨fun env tm => true⟩
  ⟨opStep ⟨fun call env tm ds h K => kO (some (nthD 0 env)) ds h K⟩ ⟨fun v tm => tm⟩ ⟨fun env tm => true⟩
  ⟨opStep ⟨fun call env tm ds h K => kO (some (tg tm 9)) ds h K⟩ ⟨fun v tm => tm⟩ ⟨fun env tm => isB false (nthD 0 env)⟩
  ⟨opStep ⟨fun call env tm ds h K => kO (binV Tryd.prog .neq 30 true (nthD 0 env) (.int .i64 (0))) ds h K⟩ ⟨fun v tm => tm⟩ ⟨fun env tm => isB false (nthD 1 env)⟩
  ⟨opStep ⟨fun call env tm ds h K => kO (pickV (nthD 2 env) (.bool true) (nthD 0 env)) ds h K⟩ ⟨fun v tm => tm⟩ ⟨fun env tm => true⟩
  ⟨opStep ⟨fun call env tm ds h K => kO (some (nthD 0 env)) ds h K⟩ ⟨fun v tm => tm⟩ ⟨fun env tm => true⟩
  ⟨opStep ⟨fun call env tm ds h K => kO (some (tg tm 8)) ds h K⟩ ⟨fun v tm => tm⟩ ⟨fun env tm => isB false (nthD 0 env)⟩
  ⟨opStep ⟨fun call env tm ds h K => kO (binV Tryd.prog .lss 3 true (nthD 0 env) (.int .i64 (0))) ds h K⟩ ⟨fun v tm => tm⟩ ⟨fun env tm => isB false (nthD 1 env)⟩
  ⟨opStep ⟨fun call env tm ds h K => kO (pickV (nthD 2 env) (.bool true) (nthD 0 env)) ds h K⟩ ⟨fun v tm => tm⟩ ⟨fun env tm => true⟩
  ⟨opStep ⟨fun call env tm ds h K => kO (some (nthD 0 env)) ds h K⟩ ⟨fun v tm => tm⟩ ⟨fun env tm => true⟩
  ⟨opStep ⟨fun call env tm ds h K => kO (some (tg tm 8)) ds h K⟩ ⟨fun v tm => tm⟩ ⟨fun env tm => isB false (nthD 0 env)⟩
  ⟨opStep ⟨fun call env tm ds h K => kO (binV Tryd.prog .gtr 3 true (nthD 0 env) (.int .i64 (4))) ds h K⟩ ⟨fun v tm => tm⟩ ⟨fun env tm => isB false (nthD 1 env)⟩
  ⟨opStep ⟨fun call env tm ds h K => kO (pickV (nthD 2 env) (.bool true) (nthD 0 env)) ds h K⟩ ⟨fun v tm => (T.set tm 76 v)⟩ ⟨fun env tm => true⟩
  ⟨fun _ _ tm ds h K => K .norm tm ds h⟩⟩⟩⟩⟩⟩⟩⟩⟩⟩⟩⟩⟩⟩⟩ : Box OpsT).f call [] tm ds h K
noncomputable def r3_17 : CodeT := fun call _ tm ds h K =>
  K .norm (T.set tm 2 (.bool false)) ds h
noncomputable def r3_9 : CodeT := fun call _ tm ds h K =>
  kO (binV Tryd.prog .add 3 true (tg tm 5) (.int .i64 (1))) ds h (fun v1 ds h =>
  K .norm (T.set tm 5 v1) ds h)
noncomputable def l3_18 : Box CodeT := ⟨seqC ⟨seqC ⟨r3_8⟩ ⟨condC ⟨fun _ tm => tg tm 32⟩ skipC (exitC 0)⟩⟩ ⟨seqC ⟨blockC 1 ⟨seqC ⟨r3_10⟩ ⟨seqC ⟨r3_11⟩ ⟨seqC ⟨seqC ⟨r3_12⟩ ⟨condC ⟨fun _ tm => tg tm 47⟩ ⟨r3_13⟩ ⟨r3_14⟩⟩⟩ ⟨seqC ⟨r3_15⟩ ⟨seqC ⟨r3_16⟩ ⟨condC ⟨fun _ tm => tg tm 76⟩ ⟨seqC ⟨r3_17⟩ retC⟩ skipC⟩⟩⟩⟩⟩⟩⟩ ⟨r3_9⟩⟩⟩
noncomputable def r3_18 : CodeT := fun call _ tm ds h K =>
  K .norm (T.set tm 10 (.int .i64 (0))) ds h
noncomputable def r3_19 : CodeT := fun call _ tm ds h K =>
  K .norm (T.set tm 11 (.int .i64 (0))) ds h
noncomputable def r3_20 : CodeT := fun call _ tm ds h K =>
  kO (lenSl (tg tm 0)) ds h (fun v2 ds h =>
  kO (binV Tryd.prog .lss 3 false (tg tm 11) v2) ds h (fun v3 ds h =>
  K .norm (T.set tm 80 v3) ds h))
noncomputable def r3_22 : CodeT := fun call _ tm ds h K =>
  K .norm (T.set tm 12 (tg tm 11)) ds h
noncomputable def r3_23 : CodeT := fun call _ tm ds h K =>
  kO (binV Tryd.prog .add 3 true (tg tm 11) (.int .i64 (1))) ds h (fun v1 ds h =>
  K .norm (T.set tm 13 v1) ds h)
noncomputable def r3_24 : CodeT := fun call _ tm ds h K =>
  kO (lenSl (tg tm 0)) ds h (fun v2 ds h =>
  kO (binV Tryd.prog .lss 3 false (tg tm 13) v2) ds h (fun v3 ds h =>
  K .norm (T.set tm 89 v3) ds h))
noncomputable def r3_26 : CodeT := fun call _ tm ds h0 K =>
  (fun (b0 : Nat) (h : H) =>
  kO (indexSl 1 (tg tm 0) (tg tm 13)) ds h (fun v2 ds h =>
  kO (loadOne h v2) ds h (fun v3 ds h =>
  kO (binV Tryd.prog .quo 29 true v3 (.int .u16 (4))) ds h (fun v4 ds h =>
  kO (indexSl 1 (tg tm 0) (tg tm 11)) ds h (fun v7 ds h =>
  kO (loadOne h v7) ds h (fun v8 ds h =>
  kO (binV Tryd.prog .quo 29 true v8 (.int .u16 (4))) ds h (fun v9 ds h =>
  kO (binV Tryd.prog .eql 29 false v4 v9) ds h (fun v10 ds h =>
  K .norm (T.set tm 102 v10) ds h)))))))) h0.next ⟨h0.objs, h0.next + 11⟩
noncomputable def r3_27 : CodeT := fun call _ tm ds h K =>
  K .norm (T.set tm 12 (tg tm 13)) ds h
noncomputable def r3_25 : CodeT := fun call _ tm ds h K =>
  kO (binV Tryd.prog .add 3 true (tg tm 13) (.int .i64 (1))) ds h (fun v1 ds h =>
  K .norm (T.set tm 13 v1) ds h)
noncomputable def l3_28 : Box CodeT := ⟨seqC ⟨seqC ⟨r3_24⟩ ⟨condC ⟨fun _ tm => tg tm 89⟩ skipC (exitC 4)⟩⟩ ⟨seqC ⟨blockC 5 ⟨seqC ⟨r3_26⟩ ⟨condC ⟨fun _ tm => tg tm 102⟩ ⟨r3_27⟩ skipC⟩⟩⟩ ⟨r3_25⟩⟩⟩
noncomputable def r3_28 : CodeT := fun call _ tm ds h K =>
  kO (indexSl 1 (tg tm 0) (tg tm 11)) ds h (fun v3 ds h =>
  kO (loadOne h v3) ds h (fun v4 ds h =>
  kO (toInt .i64 v4) ds h (fun v5 ds h =>
  kO (binV Tryd.prog .quo 3 true v5 (.int .i64 (4))) ds h (fun v6 ds h =>
  call 9 [v6] h (fun v h => (fun v7 ds h =>
  call 13 [(tg tm 4), v7] h (fun v h => (fun v8 ds h =>
  kO (tupNth 0 v8) ds h (fun v10 ds h =>
  kO (tupNth 1 v8) ds h (fun v11 ds h =>
  kO (tupNth 2 v8) ds h (fun v12 ds h =>
  K .norm (T.set (T.set (T.set tm 14 v10) 15 v11) 16 v12) ds h)))) v ds h)) v ds h)))))
noncomputable def r3_29 : CodeT := fun call _ tm ds h K =>
  call 12 [(tg tm 4)] h (fun v h => (fun v1 ds h =>
  kO (tupNth 0 v1) ds h (fun v3 ds h =>
  kO (tupNth 1 v1) ds h (fun v4 ds h =>
  K .norm (T.set (T.set tm 17 v3) 18 v4) ds h))) v ds h)
noncomputable def r3_30 : CodeT := fun call _ tm ds h K => (⟨opStep ⟨fun call env tm ds h K => kO (some (tg tm 16)) ds h K⟩ ⟨fun v tm => tm⟩ ⟨fun env tm => true⟩
  ⟨opStep ⟨fun call env tm ds h K => kO (binV Tryd.prog .neq 30 true (nthD 0 env) (.int .i64 (0))) ds h K⟩ ⟨fun v tm => tm⟩ ⟨fun env tm => true⟩
  ⟨opStep ⟨fun call env tm ds h K => kO (some (nthD 0 env)) ds h K⟩ ⟨fun v tm => tm⟩ ⟨fun env tm => true⟩
  ⟨opStep ⟨fun call env tm ds h K => kO (some (tg tm 18)) ds h K⟩ ⟨fun v tm => tm⟩ ⟨fun env tm => isB false (nthD 0 env)⟩
  ⟨opStep ⟨fun call env tm ds h K => kO (binV Tryd.prog .neq 30 true (nthD 0 env) (.int .i64 (0))) ds h K⟩ ⟨fun v tm => tm⟩ ⟨fun env tm => isB false (nthD 1 env)⟩
  ⟨opStep ⟨fun call env tm ds h K => kO (pickV (nthD 2 env) (.bool true) (nthD 0 env)) ds h K⟩ ⟨fun v tm => tm⟩ ⟨fun env tm => true⟩
  ⟨opStep ⟨fun call env tm ds h K => kO (some (nthD 0 env)) ds h K⟩ ⟨fun v tm => tm⟩ ⟨fun env tm => true⟩
  ⟨opStep ⟨fun call env tm ds h K => kO (some (tg tm 17)) ds h K⟩ ⟨fun v tm => tm⟩ ⟨fun env tm => isB false (nthD 0 env)⟩
  ⟨opStep ⟨fun call env tm ds h K => kO (binV Tryd.prog .gtr 3 true (nthD 0 env) (.int .i64 (4))) ds h K⟩ ⟨fun v tm => tm⟩ ⟨fun env tm => isB false (nthD 1 env)⟩
  ⟨opStep ⟨fun call env tm ds h K => kO (pickV (nthD 2 env) (.bool true) (nthD 0 env)) ds h K⟩ ⟨fun v tm => tm⟩ ⟨fun env tm => true⟩
  ⟨opStep ⟨fun call env tm ds h K => kO (some (nthD 0 env)) ds h K⟩ ⟨fun v tm => tm⟩ ⟨fun env tm => true⟩
  ⟨opStep ⟨fun call env tm ds h K => kO (some (tg tm 15)) ds h K⟩ ⟨fun v tm => tm⟩ ⟨fun env tm => isB false (nthD 0 env)⟩
  ⟨opStep ⟨fun call env tm ds h K => kO (some (tg tm 0)) ds h K⟩ ⟨fun v tm => tm⟩ ⟨fun env tm => isB false (nthD 1 env)⟩
  ⟨opStep ⟨fun call env tm ds h K => kO (some (tg tm 12)) ds h K⟩ ⟨fun v tm => tm⟩ ⟨fun env tm => isB false (nthD 2 env)⟩
  ⟨opStep ⟨fun call env tm ds h K => kO (indexSl 1 (nthD 1 env) (nthD 0 env)) ds h K⟩ ⟨fun v tm => tm⟩ ⟨fun env tm => isB false (nthD 3 env)⟩
  ⟨opStep ⟨fun call env tm ds h K => kO (loadOne h (nthD 0 env)) ds h K⟩ ⟨fun v tm => tm⟩ ⟨fun env tm => isB false (nthD 4 env)⟩
  ⟨opStep ⟨fun call env tm ds h K => kO (binV Tryd.prog .rem 29 true (nthD 0 env) (.int .u16 (4))) ds h K⟩ ⟨fun v tm => tm⟩ ⟨fun env tm => isB false (nthD 5 env)⟩
  ⟨opStep ⟨fun call env tm ds h K => kO (binV Tryd.prog .neq 29 true (nthD 0 env) (.int .u16 (3))) ds h K⟩ ⟨fun v tm => tm⟩ ⟨fun env tm => isB false (nthD 6 env)⟩
  ⟨opStep ⟨fun call env tm ds h K => kO (binV Tryd.prog .neq 4 false (nthD 6 env) (nthD 0 env)) ds h K⟩ ⟨fun v tm => tm⟩ ⟨fun env tm => isB false (nthD 7 env)⟩
  ⟨opStep ⟨fun call env tm ds h K => kO (pickV (nthD 8 env) (.bool true) (nthD 0 env)) ds h K⟩ ⟨fun v tm => tm⟩ ⟨fun env tm => true⟩
  ⟨opStep ⟨fun call env tm ds h K => kO (some (nthD 0 env)) ds h K⟩ ⟨fun v tm => tm⟩ ⟨fun env tm => true⟩
  ⟨opStep ⟨fun call env tm ds h K => kO (some (tg tm 15)) ds h K⟩ ⟨fun v tm => tm⟩ ⟨fun env tm => isB false (nthD 0 env)⟩
  ⟨opStep ⟨fun call env tm ds h K => kO (some (nthD 0 env)) ds h K⟩ ⟨fun v tm => tm⟩ ⟨fun env tm => isB false (nthD 1 env)⟩
  ⟨opStep ⟨fun call env tm ds h K => kO (some (tg tm 14)) ds h K⟩ ⟨fun v tm => tm⟩ ⟨fun env tm => isB true (nthD 0 env)⟩
  ⟨opStep ⟨fun call env tm ds h K => kO (some (tg tm 12)) ds h K⟩ ⟨fun v tm => tm⟩ ⟨fun env tm => isB true (nthD 1 env)⟩
  ⟨opStep ⟨fun call env tm ds h K => kO (binV Tryd.prog .neq 3 false (nthD 1 env) (nthD 0 env)) ds h K⟩ ⟨fun v tm => tm⟩ ⟨fun env tm => isB true (nthD 2 env)⟩
  ⟨opStep ⟨fun call env tm ds h K => kO (pickV (nthD 3 env) (nthD 0 env) (.bool false)) ds h K⟩ ⟨fun v tm => tm⟩ ⟨fun env tm => isB false (nthD 5 env)⟩
  ⟨opStep ⟨fun call env tm ds h K => kO (pickV (nthD 6 env) (.bool true) (nthD 0 env)) ds h K⟩ ⟨fun v tm => tm⟩ ⟨fun env tm => true⟩
  ⟨opStep ⟨fun call env tm ds h K => kO (some (nthD 0 env)) ds h K⟩ ⟨fun v tm => tm⟩ ⟨fun env tm => true⟩
  ⟨opStep ⟨fun call env tm ds h K => kO (some (tg tm 15)) ds h K⟩ ⟨fun v tm => tm⟩ ⟨fun env tm => isB false (nthD 0 env)⟩
  ⟨opStep ⟨fun call env tm ds h K => kO (unV .not (nthD 0 env)) ds h K⟩ ⟨fun v tm => tm⟩ ⟨fun env tm => isB false (nthD 1 env)⟩
  ⟨opStep ⟨fun call env tm ds h K => kO (some (nthD 0 env)) ds h K⟩ ⟨fun v tm => tm⟩ ⟨fun env tm => isB false (nthD 2 env)⟩
  ⟨opStep ⟨fun call env tm ds h K => kO (some (tg tm 14)) ds h K⟩ ⟨fun v tm => tm⟩ ⟨fun env tm => isB true (nthD 0 env)⟩
  ⟨opStep ⟨fun call env tm ds h K => kO (binV Tryd.prog .neq 3 true (nthD 0 env) (.int .i64 (0))) ds h K⟩ ⟨fun v tm => tm⟩ ⟨fun env tm => isB true (nthD 1 env)⟩
  ⟨opStep ⟨fun call env tm ds h K => kO (pickV (nthD 2 env) (nthD 0 env) (.bool false)) ds h K⟩ ⟨fun v tm => tm⟩ ⟨fun env tm => isB false (nthD 5 env)⟩
  ⟨opStep ⟨fun call env tm ds h K => kO (pickV (nthD 6 env) (.bool true) (nthD 0 env)) ds h K⟩ ⟨fun v tm => (T.set tm 157 v)⟩ ⟨fun env tm => true⟩
  ⟨fun _ _ tm ds h K => K .norm tm ds h⟩⟩⟩⟩⟩⟩⟩⟩⟩⟩⟩⟩⟩⟩⟩⟩⟩⟩⟩⟩⟩⟩⟩⟩⟩⟩⟩⟩⟩⟩⟩⟩⟩⟩⟩⟩⟩ : Box OpsT).f call [] tm ds h K
noncomputable def r3_31 : CodeT := fun call _ tm ds h K =>
  K .norm (T.set tm 2 (.bool false)) ds h
noncomputable def r3_32 : CodeT := fun call _ tm ds h K => (⟨opStep ⟨fun call env tm ds h K => kO (some (tg tm 15)) ds h K⟩ ⟨fun v tm => tm⟩ ⟨fun env tm => true⟩
  ⟨opStep ⟨fun call env tm ds h K => kO (some (nthD 0 env)) ds h K⟩ ⟨fun v tm => tm⟩ ⟨fun env tm => true⟩
  ⟨opStep ⟨fun call env tm ds h K => kO (some (tg tm 12)) ds h K⟩ ⟨fun v tm => tm⟩ ⟨fun env tm => isB true (nthD 0 env)⟩
  ⟨opStep ⟨fun call env tm ds h K => kO (some (tg tm 11)) ds h K⟩ ⟨fun v tm => tm⟩ ⟨fun env tm => isB true (nthD 1 env)⟩
  ⟨opStep ⟨fun call env tm ds h K => kO (binV Tryd.prog .eql 3 false (nthD 1 env) (nthD 0 env)) ds h K⟩ ⟨fun v tm => tm⟩ ⟨fun env tm => isB true (nthD 2 env)⟩
  ⟨opStep ⟨fun call env tm ds h K => kO (pickV (nthD 3 env) (nthD 0 env) (.bool false)) ds h K⟩ ⟨fun v tm => (T.set tm 163 v)⟩ ⟨fun env tm => true⟩
  ⟨fun _ _ tm ds h K => K .norm tm ds h⟩⟩⟩⟩⟩⟩⟩ : Box OpsT).f call [] tm ds h K
noncomputable def r3_33 : CodeT := fun call _ tm ds h K =>
  kO (binV Tryd.prog .add 3 true (tg tm 10) (.int .i64 (1))) ds h (fun v1 ds h =>
  K .norm (T.set tm 10 v1) ds h)
noncomputable def r3_21 : CodeT := fun call _ tm ds h K =>
  kO (binV Tryd.prog .add 3 true (tg tm 11) (.int .i64 (1))) ds h (fun v1 ds h =>
  K .norm (T.set tm 11 v1) ds h)
noncomputable def l3_36 : Box CodeT := ⟨seqC ⟨seqC ⟨r3_20⟩ ⟨condC ⟨fun _ tm => tg tm 80⟩ skipC (exitC 2)⟩⟩ ⟨seqC ⟨blockC 3 ⟨seqC ⟨r3_22⟩ ⟨seqC ⟨seqC ⟨r3_23⟩ ⟨blockC 4 (loopB l3_28)⟩⟩ ⟨seqC ⟨r3_28⟩ ⟨seqC ⟨r3_29⟩ ⟨seqC ⟨seqC ⟨r3_30⟩ ⟨condC ⟨fun _ tm => tg tm 157⟩ ⟨seqC ⟨r3_31⟩ retC⟩ skipC⟩⟩ ⟨seqC ⟨r3_32⟩ ⟨condC ⟨fun _ tm => tg tm 163⟩ ⟨r3_33⟩ skipC⟩⟩⟩⟩⟩⟩⟩⟩ ⟨r3_21⟩⟩⟩
noncomputable def r3_34 : CodeT := fun call _ tm ds h K =>
  call 14 [(tg tm 4)] h (fun v h => (fun v1 ds h =>
  kO (tupNth 0 v1) ds h (fun v3 ds h =>
  kO (tupNth 1 v1) ds h (fun v4 ds h =>
  K .norm (T.set (T.set tm 19 v3) 20 v4) ds h))) v ds h)
noncomputable def r3_35 : CodeT := fun call _ tm ds h K => (⟨opStep ⟨fun call env tm ds h K => kO (some (tg tm 3)) ds h K⟩ ⟨fun v tm => tm⟩ ⟨fun env tm => true⟩
  ⟨opStep ⟨fun call env tm ds h K => kO (some (nthD 0 env)) ds h K⟩ ⟨fun v tm => tm⟩ ⟨fun env tm => true⟩
  ⟨opStep ⟨fun call env tm ds h K => kO (some (tg tm 20)) ds h K⟩ ⟨fun v tm => tm⟩ ⟨fun env tm => isB true (nthD 0 env)⟩
  ⟨opStep ⟨fun call env tm ds h K => kO (binV Tryd.prog .eql 30 true (nthD 0 env) (.int .i64 (0))) ds h K⟩ ⟨fun v tm => tm⟩ ⟨fun env tm => isB true (nthD 1 env)⟩
  ⟨opStep ⟨fun call env tm ds h K => kO (pickV (nthD 2 env) (nthD 0 env) (.bool false)) ds h K⟩ ⟨fun v tm => tm⟩ ⟨fun env tm => true⟩
  ⟨opStep ⟨fun call env tm ds h K => kO (some (nthD 0 env)) ds h K⟩ ⟨fun v tm => tm⟩ ⟨fun env tm => true⟩
  ⟨opStep ⟨fun call env tm ds h K => kO (some (tg tm 19)) ds h K⟩ ⟨fun v tm => tm⟩ ⟨fun env tm => isB true (nthD 0 env)⟩
  ⟨opStep ⟨fun call env tm ds h K => kO (some (tg tm 10)) ds h K⟩ ⟨fun v tm => tm⟩ ⟨fun env tm => isB true (nthD 1 env)⟩
  ⟨opStep ⟨fun call env tm ds h K => kO (binV Tryd.prog .eql 3 false (nthD 1 env) (nthD 0 env)) ds h K⟩ ⟨fun v tm => tm⟩ ⟨fun env tm => isB true (nthD 2 env)⟩
  ⟨opStep ⟨fun call env tm ds h K => kO (pickV (nthD 3 env) (nthD 0 env) (.bool false)) ds h K⟩ ⟨fun v tm => tm⟩ ⟨fun env tm => true⟩
  ⟨opStep ⟨fun call env tm ds h K => kO (some (nthD 0 env)) ds h K⟩ ⟨fun v tm => (T.set tm 2 v)⟩ ⟨fun env tm => true⟩
  ⟨fun _ _ tm ds h K => K .norm tm ds h⟩⟩⟩⟩⟩⟩⟩⟩⟩⟩⟩⟩ : Box OpsT).f call [] tm ds h K
noncomputable def c3 : Box CodeT := ⟨seqC ⟨r3_0⟩ ⟨seqC ⟨r3_1⟩ ⟨seqC ⟨seqC ⟨r3_2⟩ ⟨condC ⟨fun _ tm => tg tm 23⟩ ⟨seqC ⟨r3_3⟩ retC⟩ skipC⟩⟩ ⟨seqC ⟨seqC ⟨r3_4⟩ ⟨condC ⟨fun _ tm => tg tm 26⟩ ⟨seqC ⟨r3_5⟩ retC⟩ skipC⟩⟩ ⟨seqC ⟨r3_6⟩ ⟨seqC ⟨seqC ⟨r3_7⟩ ⟨blockC 0 (loopB l3_18)⟩⟩ ⟨seqC ⟨r3_18⟩ ⟨seqC ⟨seqC ⟨r3_19⟩ ⟨blockC 2 (loopB l3_36)⟩⟩ ⟨seqC ⟨r3_34⟩ ⟨seqC ⟨r3_35⟩ retC⟩⟩⟩⟩⟩⟩⟩⟩⟩⟩
noncomputable def q3 : Box (T Value → H → Option (List Value)) := ⟨fun tm h => some [tg tm 2]⟩
/-! 7 cloakroom/cloakroomlaw06.alive -/
noncomputable def r7_0 : CodeT := fun call _ tm ds h K =>
  K .norm (T.set tm 0 (.bool false)) ds h
noncomputable def r7_1 : CodeT := fun call _ tm ds h K =>
  call 8 [] h (fun v h => (fun v0 ds h =>
  K .norm (T.set tm 1 v0) ds h) v ds h)
noncomputable def r7_2 : CodeT := fun call _ tm ds h K =>
  kO (binV Tryd.prog .eql 24 true (tg tm 1) (.pointer none)) ds h (fun v1 ds h =>
  K .norm (T.set tm 12 v1) ds h)
noncomputable def r7_3 : CodeT := fun call _ tm ds h K =>
  K .norm (T.set tm 0 (.bool false)) ds h
noncomputable def r7_4 : CodeT := fun call _ tm ds h K =>
  call 15 [(.int .i64 (0)), (.string (strB [97]))] h (fun v h => (fun v1 ds h =>
  call 11 [(tg tm 1), v1, (.int .i64 (5))] h (fun v h => (fun v2 ds h =>
  K .norm (T.set tm 2 v2) ds h) v ds h)) v ds h)
noncomputable def r7_5 : CodeT := fun call _ tm ds h K =>
  call 15 [(.int .i64 (1)), (.string (strB [97]))] h (fun v h => (fun v1 ds h =>
  call 11 [(tg tm 1), v1, (.int .i64 (6))] h (fun v h => (fun v2 ds h =>
  K .norm (T.set tm 3 v2) ds h) v ds h)) v ds h)
noncomputable def r7_6 : CodeT := fun call _ tm ds h K =>
  call 15 [(.int .i64 (0)), (.string (strB [97]))] h (fun v h => (fun v1 ds h =>
  call 11 [(tg tm 1), v1, (.int .i64 (7))] h (fun v h => (fun v2 ds h =>
  K .norm (T.set tm 4 v2) ds h) v ds h)) v ds h)
noncomputable def r7_7 : CodeT := fun call _ tm ds h K =>
  call 15 [(.int .i64 (0)), (.string (strB [97]))] h (fun v h => (fun v1 ds h =>
  call 13 [(tg tm 1), v1] h (fun v h => (fun v2 ds h =>
  kO (tupNth 0 v2) ds h (fun v4 ds h =>
  kO (tupNth 1 v2) ds h (fun v5 ds h =>
  kO (tupNth 2 v2) ds h (fun v6 ds h =>
  K .norm (T.set (T.set (T.set tm 5 v4) 6 v5) 7 v6) ds h)))) v ds h)) v ds h)
noncomputable def r7_8 : CodeT := fun call _ tm ds h K =>
  call 14 [(tg tm 1)] h (fun v h => (fun v1 ds h =>
  kO (tupNth 0 v1) ds h (fun v3 ds h =>
  kO (tupNth 1 v1) ds h (fun v4 ds h =>
  K .norm (T.set (T.set tm 8 v3) 9 v4) ds h))) v ds h)
noncomputable def r7_9 : CodeT := fun call _ tm ds h K => (⟨opStep ⟨fun call env tm ds h K => kO (some (tg tm 2)) ds h K⟩ ⟨fun v tm => tm⟩ ⟨fun env tm => true⟩
  ⟨opStep ⟨fun call env tm ds h K => kO (binV Tryd.prog .eql 30 true (nthD 0 env) (.int .i64 (0))) ds h K⟩ ⟨fun v tm => tm⟩ ⟨fun env tm => true⟩
  ⟨opStep ⟨fun call env tm ds h K => kO (some (nthD 0 env)) ds h K⟩ ⟨fun v tm => tm⟩ ⟨fun env tm => true⟩
  ⟨opStep ⟨fun call env tm ds h K => kO (some (tg tm 3)) ds h K⟩ ⟨fun v tm => tm⟩ ⟨fun env tm => isB true (nthD 0 env)⟩
  ⟨opStep ⟨fun call env tm ds h K => kO (binV Tryd.prog .eql 30 true (nthD 0 env) (.int .i64 (0))) ds h K⟩ ⟨fun v tm => tm⟩ ⟨fun env tm => isB true (nthD 1 env)⟩
  ⟨opStep ⟨fun call env tm ds h K => kO (pickV (nthD 2 env) (nthD 0 env) (.bool false)) ds h K⟩ ⟨fun v tm => tm⟩ ⟨fun env tm => true⟩
  ⟨opStep ⟨fun call env tm ds h K => kO (some (nthD 0 env)) ds h K⟩ ⟨fun v tm => tm⟩ ⟨fun env tm => true⟩
  ⟨opStep ⟨fun call env tm ds h K => kO (some (tg tm 4)) ds h K⟩ ⟨fun v tm => tm⟩ ⟨fun env tm => isB true (nthD 0 env)⟩
  ⟨opStep ⟨fun call env tm ds h K => kO (binV Tryd.prog .eql 30 true (nthD 0 env) (.int .i64 (0))) ds h K⟩ ⟨fun v tm => tm⟩ ⟨fun env tm => isB true (nthD 1 env)⟩
  ⟨opStep ⟨fun call env tm ds h K => kO (pickV (nthD 2 env) (nthD 0 env) (.bool false)) ds h K⟩ ⟨fun v tm => tm⟩ ⟨fun env tm => true⟩
  ⟨opStep ⟨fun call env tm ds h K => kO (some (nthD 0 env)) ds h K⟩ ⟨fun v tm => tm⟩ ⟨fun env tm => true⟩
  ⟨opStep ⟨fun call env tm ds h K => kO (some (tg tm 7)) ds h K⟩ ⟨fun v tm => tm⟩ ⟨fun env tm => isB true (nthD 0 env)⟩
  ⟨opStep ⟨fun call env tm ds h K => kO (binV Tryd.prog .eql 30 true (nthD 0 env) (.int .i64 (0))) ds h K⟩ ⟨fun v tm => tm⟩ ⟨fun env tm => isB true (nthD 1 env)⟩
  ⟨opStep ⟨fun call env tm ds h K => kO (pickV (nthD 2 env) (nthD 0 env) (.bool false)) ds h K⟩ ⟨fun v tm => tm⟩ ⟨fun env tm => true⟩
  ⟨opStep ⟨fun call env tm ds h K => kO (some (nthD 0 env)) ds h K⟩ ⟨fun v tm => tm⟩ ⟨fun env tm => true⟩
  ⟨opStep ⟨fun call env tm ds h K => kO (some (tg tm 6)) ds h K⟩ ⟨fun v tm => tm⟩ ⟨fun env tm => isB true (nthD 0 env)⟩
  ⟨opStep ⟨fun call env tm ds h K => kO (pickV (nthD 1 env) (nthD 0 env) (.bool false)) ds h K⟩ ⟨fun v tm => tm⟩ ⟨fun env tm => true⟩
  ⟨opStep ⟨fun call env tm ds h K => kO (some (nthD 0 env)) ds h K⟩ ⟨fun v tm => tm⟩ ⟨fun env tm => true⟩
  ⟨opStep ⟨fun call env tm ds h K => kO (some (tg tm 5)) ds h K⟩ ⟨fun v tm => tm⟩ ⟨fun env tm => isB true (nthD 0 env)⟩
  ⟨opStep ⟨fun call env tm ds h K => kO (binV Tryd.prog .eql 3 true (nthD 0 env) (.int .i64 (7))) ds h K⟩ ⟨fun v tm => tm⟩ ⟨fun env tm => isB true (nthD 1 env)⟩
  ⟨opStep ⟨fun call env tm ds h K => kO (pickV (nthD 2 env) (nthD 0 env) (.bool false)) ds h K⟩ ⟨fun v tm => tm⟩ ⟨fun env tm => true⟩
  ⟨opStep ⟨fun call env tm ds h K => kO (some (nthD 0 env)) ds h K⟩ ⟨fun v tm => tm⟩ ⟨fun env tm => true⟩
  ⟨opStep ⟨fun call env tm ds h K => kO (some (tg tm 9)) ds h K⟩ ⟨fun v tm => tm⟩ ⟨fun env tm => isB true (nthD 0 env)⟩
  ⟨opStep ⟨fun call env tm ds h K => kO (binV Tryd.prog .eql 30 true (nthD 0 env) (.int .i64 (0))) ds h K⟩ ⟨fun v tm => tm⟩ ⟨fun env tm => isB true (nthD 1 env)⟩
  ⟨opStep ⟨fun call env tm ds h K => kO (pickV (nthD 2 env) (nthD 0 env) (.bool false)) ds h K⟩ ⟨fun v tm => tm⟩ ⟨fun env tm => true⟩
  ⟨opStep ⟨fun call env tm ds h K => kO (some (nthD 0 env)) ds h K⟩ ⟨fun v tm => tm⟩ ⟨fun env tm => true⟩
  ⟨opStep ⟨fun call env tm ds h K => kO (some (tg tm 8)) ds h K⟩ ⟨fun v tm => tm⟩ ⟨fun env tm => isB true (nthD 0 env)⟩
  ⟨opStep ⟨fun call env tm ds h K => kO (binV Tryd.prog .eql 3 true (nthD 0 env) (.int .i64 (2))) ds h K⟩ ⟨fun v tm => tm⟩ ⟨fun env tm => isB true (nthD 1 env)⟩
  ⟨opStep ⟨fun call env tm ds h K => kO (pickV (nthD 2 env) (nthD 0 env) (.bool false)) ds h K⟩ ⟨fun v tm => tm⟩ ⟨fun env tm => true⟩
  ⟨opStep ⟨fun call env tm ds h K => kO (some (nthD 0 env)) ds h K⟩ ⟨fun v tm => (T.set tm 0 v)⟩ ⟨fun env tm => true⟩
  ⟨fun _ _ tm ds h K => K .norm tm ds h⟩⟩⟩⟩⟩⟩⟩⟩⟩⟩⟩⟩⟩⟩⟩⟩⟩⟩⟩⟩⟩⟩⟩⟩⟩⟩⟩⟩⟩⟩⟩ : Box OpsT).f call [] tm ds h K
noncomputable def c7 : Box CodeT := ⟨seqC ⟨r7_0⟩ ⟨seqC ⟨r7_1⟩ ⟨seqC ⟨seqC ⟨r7_2⟩ ⟨condC ⟨fun _ tm => tg tm 12⟩ ⟨seqC ⟨r7_3⟩ retC⟩ skipC⟩⟩ ⟨seqC ⟨r7_4⟩ ⟨seqC ⟨r7_5⟩ ⟨seqC ⟨r7_6⟩ ⟨seqC ⟨r7_7⟩ ⟨seqC ⟨r7_8⟩ ⟨seqC ⟨r7_9⟩ retC⟩⟩⟩⟩⟩⟩⟩⟩⟩
noncomputable def q7 : Box (T Value → H → Option (List Value)) := ⟨fun tm h => some [tg tm 0]⟩
/-! 8 cloakroom/table.New -/
noncomputable def r8_0 : CodeT := fun call _ tm ds h K =>
  K .norm (T.set tm 0 (.pointer none)) ds h
noncomputable def r8_1 : CodeT := fun call _ tm ds h K =>
  kA (mkSlice [(.slice none 0 0)] 24 h.next (.int .i64 (4)) (.int .i64 (4))) ds h (fun v0 ds h =>
  kO (aggO (fill [(.slice none 0 0), (.int .i64 (0))] (plc [(0, 1), (1, 1)]) [(0, v0)])) ds h (fun v1 ds h =>
  kO (aggO (fill [(.slice none 0 0), (.int .i64 (0)), (.slice none 0 0), (.int .i64 (0)), (.int .i64 (0)), (.int .i64 (0)), (.bool false)] (plc [(0, 2), (2, 2), (4, 1), (5, 1), (6, 1)]) [(0, v1), (4, (.bool true))])) ds h (fun v2 ds h =>
  kA (some (.rw (Value.cells v2).toList, ptrTo h.next)) ds h (fun v3 ds h =>
  K .norm (T.set tm 0 v3) ds h))))
noncomputable def c8 : Box CodeT := ⟨seqC ⟨r8_0⟩ ⟨seqC ⟨r8_1⟩ retC⟩⟩
noncomputable def q8 : Box (T Value → H → Option (List Value)) := ⟨fun tm h => some [tg tm 0]⟩
/-! 9 cloakroom/cloakroomlaw06.many -/
noncomputable def r9_0 : CodeT := fun call _ tm ds h K =>
  kA (some (.rw [(.int .i64 (0)), (.string (strB []))], ptrTo h.next)) ds h (fun v0 ds h =>
  K .norm (T.set tm 2 v0) ds h)
noncomputable def r9_1 : CodeT := fun call _ tm ds h K =>
  kO (binV Tryd.prog .rem 3 true (tg tm 0) (.int .i64 (4))) ds h (fun v1 ds h =>
  kO (binV Tryd.prog .rem 3 true (tg tm 0) (.int .i64 (26))) ds h (fun v3 ds h =>
  kO (binV Tryd.prog .add 3 true (.int .i64 (97)) v3) ds h (fun v4 ds h =>
  kO (toInt .u8 v4) ds h (fun v5 ds h =>
  kO (binV Tryd.prog .quo 3 true (tg tm 0) (.int .i64 (26))) ds h (fun v7 ds h =>
  kO (binV Tryd.prog .rem 3 true v7 (.int .i64 (26))) ds h (fun v8 ds h =>
  kO (binV Tryd.prog .add 3 true (.int .i64 (97)) v8) ds h (fun v9 ds h =>
  kO (toInt .u8 v9) ds h (fun v10 ds h =>
  kO (binV Tryd.prog .quo 3 true (tg tm 0) (.int .i64 (676))) ds h (fun v12 ds h =>
  kO (binV Tryd.prog .rem 3 true v12 (.int .i64 (26))) ds h (fun v13 ds h =>
  kO (binV Tryd.prog .add 3 true (.int .i64 (97)) v13) ds h (fun v14 ds h =>
  kO (toInt .u8 v14) ds h (fun v15 ds h =>
  kA (mkLit 3 h.next (fill (repl [(.int .u8 (0))] 3) (pl 1) [(0, v5), (1, v10), (2, v15)])) ds h (fun v16 ds h =>
  kO (bytesStr h v16) ds h (fun v17 ds h =>
  call 15 [v1, v17] h (fun v h => (fun v18 ds h =>
  kH (withV undef (storeV 2 h (tg tm 2) v18)) ds (fun v19 ds h =>
  K .norm tm ds h)) v ds h)))))))))))))))
noncomputable def c9 : Box CodeT := ⟨seqC ⟨r9_0⟩ ⟨seqC ⟨r9_1⟩ retC⟩⟩
noncomputable def q9 : Box (T Value → H → Option (List Value)) := ⟨fun tm h => (match loadAgg 2 h (tg tm 2) with | some v => (match (some [] : Option (List Value)) with | some l => some (v :: l) | none => none) | none => none)⟩
/-! 10 (*cloakroom/table.Table).Del -/
noncomputable def r10_0 : CodeT := fun call _ tm ds h K =>
  kA (some (.rw (Value.cells (tg tm 1)).toList, ptrTo h.next)) ds h (fun v0 ds h =>
  K .norm (T.set (T.set (T.set tm 3 v0) 4 (.bool false)) 5 (.int .i64 (0))) ds h)
noncomputable def r10_1 : CodeT := fun call _ tm ds h K =>
  kO (loadAgg 2 h (tg tm 3)) ds h (fun v1 ds h =>
  call 21 [(tg tm 0), v1] h (fun v h => (fun v2 ds h =>
  K .norm (T.set tm 6 v2) ds h) v ds h))
noncomputable def r10_2 : CodeT := fun call _ tm ds h K =>
  kO (binV Tryd.prog .neq 30 true (tg tm 6) (.int .i64 (0))) ds h (fun v1 ds h =>
  K .norm (T.set tm 11 v1) ds h)
noncomputable def r10_3 : CodeT := fun call _ tm ds h K =>
  K .norm (T.set (T.set tm 4 (.bool false)) 5 (tg tm 6)) ds h
noncomputable def r10_4 : CodeT := fun call _ tm ds h K =>
  call 22 [(tg tm 0)] h (fun v h => (fun v1 ds h =>
  K .norm tm ds h) v ds h)
noncomputable def r10_5 : CodeT := fun call _ tm ds h0 K =>
  (fun (b0 : Nat) (h : H) =>
  kO (nilChk (tg tm 0)) ds h (fun v1 ds h =>
  kO (fieldPtr 0 v1) ds h (fun v2 ds h =>
  kO (loadAgg 2 h (tg tm 3)) ds h (fun v3 ds h =>
  call 23 [v2, v3] h (fun v h => (fun v4 ds h =>
  gd (isB false v4) (fun k => kO (some (tg tm 0)) ds h k) ds h (fun v6 ds h =>
  gd (isB false v4) (fun k => kO (nilChk v6) ds h k) ds h (fun v7 ds h =>
  gd (isB false v4) (fun k => kO (fieldPtr 2 v7) ds h k) ds h (fun v8 ds h =>
  ite2 (isB false v4) (kO (loadAgg 2 h (tg tm 3)) ds h (fun v9 ds h =>
  ite2 (isB false v4) (call 23 [v8, v9] h (fun v h => (fun v10 ds h =>
  kO (pickV v4 (.bool true) v10) ds h (fun v11 ds h =>
  K .norm (T.set (T.set tm 4 v11) 5 (.int .i64 (0))) ds h)) v ds h))
  (kO (pickV v4 (.bool true) undef) ds h (fun v11 ds h =>
  K .norm (T.set (T.set tm 4 v11) 5 (.int .i64 (0))) ds h))))
  (ite2 (isB false v4) (call 23 [v8, undef] h (fun v h => (fun v10 ds h =>
  kO (pickV v4 (.bool true) v10) ds h (fun v11 ds h =>
  K .norm (T.set (T.set tm 4 v11) 5 (.int .i64 (0))) ds h)) v ds h))
  (kO (pickV v4 (.bool true) undef) ds h (fun v11 ds h =>
  K .norm (T.set (T.set tm 4 v11) 5 (.int .i64 (0))) ds h))))))) v ds h))))) h0.next ⟨h0.objs, h0.next + 14⟩
noncomputable def c10 : Box CodeT := ⟨seqC ⟨r10_0⟩ ⟨seqC ⟨seqC ⟨r10_1⟩ ⟨seqC ⟨r10_2⟩ ⟨condC ⟨fun _ tm => tg tm 11⟩ ⟨seqC ⟨r10_3⟩ retC⟩ skipC⟩⟩⟩ ⟨seqC ⟨r10_4⟩ ⟨seqC ⟨r10_5⟩ retC⟩⟩⟩⟩
noncomputable def q10 : Box (T Value → H → Option (List Value)) := ⟨fun tm h => some [tg tm 4, tg tm 5]⟩
/-! 11 (*cloakroom/table.Table).Put -/
noncomputable def r11_0 : CodeT := fun call _ tm ds h K =>
  kA (some (.rw (Value.cells (tg tm 1)).toList, ptrTo h.next)) ds h (fun v0 ds h =>
  K .norm (T.set (T.set tm 4 v0) 6 (.int .i64 (0))) ds h)
noncomputable def r11_1 : CodeT := fun call _ tm ds h K =>
  kO (loadAgg 2 h (tg tm 4)) ds h (fun v1 ds h =>
  call 21 [(tg tm 0), v1] h (fun v h => (fun v2 ds h =>
  K .norm (T.set tm 7 v2) ds h) v ds h))
noncomputable def r11_2 : CodeT := fun call _ tm ds h K =>
  kO (binV Tryd.prog .neq 30 true (tg tm 7) (.int .i64 (0))) ds h (fun v1 ds h =>
  K .norm (T.set tm 15 v1) ds h)
noncomputable def r11_3 : CodeT := fun call _ tm ds h K =>
  K .norm (T.set tm 6 (tg tm 7)) ds h
noncomputable def r11_4 : CodeT := fun call _ tm ds h K =>
  call 22 [(tg tm 0)] h (fun v h => (fun v1 ds h =>
  K .norm tm ds h) v ds h)
noncomputable def r11_5 : CodeT := fun call _ tm ds h0 K =>
  (fun (b0 : Nat) (h : H) =>
  kO (nilChk (tg tm 0)) ds h (fun v1 ds h =>
  kO (fieldPtr 0 v1) ds h (fun v2 ds h =>
  kO (nilChk (tg tm 0)) ds h (fun v4 ds h =>
  kO (fieldPtr 2 v4) ds h (fun v5 ds h =>
  aO (mkLit 2 (b0 + 6) (fill (repl [(.pointer none)] 2) (pl 1) [(0, v2), (1, v5)])) (fun x6 v6 =>
  kO (lenSl v6) ds h (fun v7 ds h =>
  K .norm (T.set (T.set (T.set tm 25 v6) 26 v7) 27 (.int .i64 (0))) ds (H.put h (b0 + 6) x6)))))))) h0.next ⟨h0.objs, h0.next + 9⟩
noncomputable def r11_6 : CodeT := fun call _ tm ds h K =>
  kO (binV Tryd.prog .lss 3 false (tg tm 27) (tg tm 26)) ds h (fun v0 ds h =>
  K .norm (T.set tm 28 v0) ds h)
noncomputable def r11_7 : CodeT := fun call _ tm ds h K =>
  kO (indexSl 1 (tg tm 25) (tg tm 27)) ds h (fun v0 ds h =>
  kO (loadOne h v0) ds h (fun v1 ds h =>
  K .norm (T.set tm 9 v1) ds h))
noncomputable def r11_8 : CodeT := fun call _ tm ds h K =>
  kO (loadAgg 2 h (tg tm 4)) ds h (fun v1 ds h =>
  call 24 [(tg tm 9), v1] h (fun v h => (fun v2 ds h =>
  K .norm (T.set tm 10 v2) ds h) v ds h))
noncomputable def r11_9 : CodeT := fun call _ tm ds h K =>
  kO (binV Tryd.prog .neq 66 true (tg tm 10) (.pointer none)) ds h (fun v1 ds h =>
  K .norm (T.set tm 35 v1) ds h)
noncomputable def r11_10 : CodeT := fun call _ tm ds h K =>
  kO (nilChk (tg tm 10)) ds h (fun v2 ds h =>
  kO (fieldPtr 2 v2) ds h (fun v3 ds h =>
  kH (withV undef (storeV 1 h v3 (tg tm 2))) ds (fun v4 ds h =>
  K .norm tm ds h)))
noncomputable def r11_11 : CodeT := fun call _ tm ds h K =>
  K .norm (T.set tm 6 (.int .i64 (0))) ds h
noncomputable def r11_12 : CodeT := fun call _ tm ds h K =>
  kO (binV Tryd.prog .add 3 true (tg tm 27) (.int .i64 (1))) ds h (fun v0 ds h =>
  K .norm (T.set tm 27 v0) ds h)
noncomputable def l11_13 : Box CodeT := ⟨seqC ⟨r11_6⟩ ⟨seqC ⟨condC ⟨fun _ tm => tg tm 28⟩ skipC (exitC 0)⟩ ⟨seqC ⟨blockC 1 ⟨seqC ⟨r11_7⟩ ⟨seqC ⟨r11_8⟩ ⟨seqC ⟨r11_9⟩ ⟨condC ⟨fun _ tm => tg tm 35⟩ ⟨seqC ⟨r11_10⟩ ⟨seqC ⟨r11_11⟩ retC⟩⟩ skipC⟩⟩⟩⟩⟩ ⟨r11_12⟩⟩⟩⟩
noncomputable def r11_13 : CodeT := fun call _ tm ds h0 K =>
  (fun (b0 : Nat) (h : H) =>
  kO (nilChk (tg tm 0)) ds h (fun v1 ds h =>
  kO (fieldPtr 0 v1) ds h (fun v2 ds h =>
  kO (loadAgg 2 h (tg tm 4)) ds h (fun v3 ds h =>
  kO (aggO (fill [(.int .i64 (0)), (.string (strB [])), (.int .i64 (0))] (plc [(0, 2), (2, 1)]) [(0, v3), (1, (tg tm 2))])) ds h (fun v5 ds h =>
  call 25 [v2, v5] h (fun v h => (fun v6 ds h =>
  K .norm tm ds h) v ds h)))))) h0.next ⟨h0.objs, h0.next + 7⟩
noncomputable def r11_14 : CodeT := fun call _ tm ds h K =>
  K .norm (T.set tm 6 (.int .i64 (0))) ds h
noncomputable def c11 : Box CodeT := ⟨seqC ⟨r11_0⟩ ⟨seqC ⟨seqC ⟨r11_1⟩ ⟨seqC ⟨r11_2⟩ ⟨condC ⟨fun _ tm => tg tm 15⟩ ⟨seqC ⟨r11_3⟩ retC⟩ skipC⟩⟩⟩ ⟨seqC ⟨r11_4⟩ ⟨seqC ⟨seqC ⟨r11_5⟩ ⟨blockC 0 (loopB l11_13)⟩⟩ ⟨seqC ⟨r11_13⟩ ⟨seqC ⟨r11_14⟩ retC⟩⟩⟩⟩⟩⟩
noncomputable def q11 : Box (T Value → H → Option (List Value)) := ⟨fun tm h => some [tg tm 6]⟩
/-! 12 (*cloakroom/table.Table).Moved -/
noncomputable def r12_0 : CodeT := fun call _ tm ds h K =>
  K .norm (T.set (T.set tm 2 (.int .i64 (0))) 3 (.int .i64 (0))) ds h
noncomputable def r12_1 : CodeT := fun call _ tm ds h K =>
  kO (loadAgg 2 h (.pointer (some ⟨0, 0, none⟩))) ds h (fun v1 ds h =>
  call 21 [(tg tm 0), v1] h (fun v h => (fun v2 ds h =>
  K .norm (T.set tm 4 v2) ds h) v ds h))
noncomputable def r12_2 : CodeT := fun call _ tm ds h K =>
  kO (binV Tryd.prog .neq 30 true (tg tm 4) (.int .i64 (0))) ds h (fun v1 ds h =>
  K .norm (T.set tm 9 v1) ds h)
noncomputable def r12_3 : CodeT := fun call _ tm ds h K =>
  K .norm (T.set (T.set tm 2 (.int .i64 (0))) 3 (tg tm 4)) ds h
noncomputable def r12_4 : CodeT := fun call _ tm ds h K =>
  kO (nilChk (tg tm 0)) ds h (fun v1 ds h =>
  kO (fieldPtr 5 v1) ds h (fun v2 ds h =>
  kO (loadOne h v2) ds h (fun v3 ds h =>
  K .norm (T.set (T.set tm 2 v3) 3 (.int .i64 (0))) ds h)))
noncomputable def c12 : Box CodeT := ⟨seqC ⟨r12_0⟩ ⟨seqC ⟨seqC ⟨r12_1⟩ ⟨seqC ⟨r12_2⟩ ⟨condC ⟨fun _ tm => tg tm 9⟩ ⟨seqC ⟨r12_3⟩ retC⟩ skipC⟩⟩⟩ ⟨seqC ⟨r12_4⟩ retC⟩⟩⟩
noncomputable def q12 : Box (T Value → H → Option (List Value)) := ⟨fun tm h => some [tg tm 2, tg tm 3]⟩
/-! 13 (*cloakroom/table.Table).Get -/
noncomputable def r13_0 : CodeT := fun call _ tm ds h K =>
  kA (some (.rw (Value.cells (tg tm 1)).toList, ptrTo h.next)) ds h (fun v0 ds h =>
  K .norm (T.set (T.set (T.set (T.set tm 3 v0) 4 (.int .i64 (0))) 5 (.bool false)) 6 (.int .i64 (0))) ds h)
noncomputable def r13_1 : CodeT := fun call _ tm ds h K =>
  kO (loadAgg 2 h (tg tm 3)) ds h (fun v1 ds h =>
  call 21 [(tg tm 0), v1] h (fun v h => (fun v2 ds h =>
  K .norm (T.set tm 7 v2) ds h) v ds h))
noncomputable def r13_2 : CodeT := fun call _ tm ds h K =>
  kO (binV Tryd.prog .neq 30 true (tg tm 7) (.int .i64 (0))) ds h (fun v1 ds h =>
  K .norm (T.set tm 15 v1) ds h)
noncomputable def r13_3 : CodeT := fun call _ tm ds h K =>
  K .norm (T.set (T.set (T.set tm 4 (.int .i64 (0))) 5 (.bool false)) 6 (tg tm 7)) ds h
noncomputable def r13_4 : CodeT := fun call _ tm ds h K =>
  call 22 [(tg tm 0)] h (fun v h => (fun v1 ds h =>
  K .norm tm ds h) v ds h)
noncomputable def r13_5 : CodeT := fun call _ tm ds h0 K =>
  (fun (b0 : Nat) (h : H) =>
  kO (nilChk (tg tm 0)) ds h (fun v1 ds h =>
  kO (fieldPtr 0 v1) ds h (fun v2 ds h =>
  kO (nilChk (tg tm 0)) ds h (fun v4 ds h =>
  kO (fieldPtr 2 v4) ds h (fun v5 ds h =>
  aO (mkLit 2 (b0 + 6) (fill (repl [(.pointer none)] 2) (pl 1) [(0, v2), (1, v5)])) (fun x6 v6 =>
  kO (lenSl v6) ds h (fun v7 ds h =>
  K .norm (T.set (T.set (T.set tm 25 v6) 26 v7) 27 (.int .i64 (0))) ds (H.put h (b0 + 6) x6)))))))) h0.next ⟨h0.objs, h0.next + 9⟩
noncomputable def r13_6 : CodeT := fun call _ tm ds h K =>
  kO (binV Tryd.prog .lss 3 false (tg tm 27) (tg tm 26)) ds h (fun v0 ds h =>
  K .norm (T.set tm 28 v0) ds h)
noncomputable def r13_7 : CodeT := fun call _ tm ds h K =>
  kO (indexSl 1 (tg tm 25) (tg tm 27)) ds h (fun v0 ds h =>
  kO (loadOne h v0) ds h (fun v1 ds h =>
  K .norm (T.set tm 9 v1) ds h))
noncomputable def r13_8 : CodeT := fun call _ tm ds h K =>
  kO (loadAgg 2 h (tg tm 3)) ds h (fun v1 ds h =>
  call 24 [(tg tm 9), v1] h (fun v h => (fun v2 ds h =>
  K .norm (T.set tm 10 v2) ds h) v ds h))
noncomputable def r13_9 : CodeT := fun call _ tm ds h K =>
  kO (binV Tryd.prog .neq 66 true (tg tm 10) (.pointer none)) ds h (fun v1 ds h =>
  K .norm (T.set tm 35 v1) ds h)
noncomputable def r13_10 : CodeT := fun call _ tm ds h K =>
  kO (nilChk (tg tm 10)) ds h (fun v1 ds h =>
  kO (fieldPtr 2 v1) ds h (fun v2 ds h =>
  kO (loadOne h v2) ds h (fun v3 ds h =>
  K .norm (T.set (T.set (T.set tm 4 v3) 5 (.bool true)) 6 (.int .i64 (0))) ds h)))
noncomputable def r13_11 : CodeT := fun call _ tm ds h K =>
  kO (binV Tryd.prog .add 3 true (tg tm 27) (.int .i64 (1))) ds h (fun v0 ds h =>
  K .norm (T.set tm 27 v0) ds h)
noncomputable def l13_12 : Box CodeT := ⟨seqC ⟨r13_6⟩ ⟨seqC ⟨condC ⟨fun _ tm => tg tm 28⟩ skipC (exitC 0)⟩ ⟨seqC ⟨blockC 1 ⟨seqC ⟨r13_7⟩ ⟨seqC ⟨r13_8⟩ ⟨seqC ⟨r13_9⟩ ⟨condC ⟨fun _ tm => tg tm 35⟩ ⟨seqC ⟨r13_10⟩ retC⟩ skipC⟩⟩⟩⟩⟩ ⟨r13_11⟩⟩⟩⟩
noncomputable def r13_12 : CodeT := fun call _ tm ds h K =>
  K .norm (T.set (T.set (T.set tm 4 (.int .i64 (0))) 5 (.bool false)) 6 (.int .i64 (0))) ds h
noncomputable def c13 : Box CodeT := ⟨seqC ⟨r13_0⟩ ⟨seqC ⟨seqC ⟨r13_1⟩ ⟨seqC ⟨r13_2⟩ ⟨condC ⟨fun _ tm => tg tm 15⟩ ⟨seqC ⟨r13_3⟩ retC⟩ skipC⟩⟩⟩ ⟨seqC ⟨r13_4⟩ ⟨seqC ⟨seqC ⟨r13_5⟩ ⟨blockC 0 (loopB l13_12)⟩⟩ ⟨seqC ⟨r13_12⟩ retC⟩⟩⟩⟩⟩
noncomputable def q13 : Box (T Value → H → Option (List Value)) := ⟨fun tm h => some [tg tm 4, tg tm 5, tg tm 6]⟩
/-! 14 (*cloakroom/table.Table).Len -/
noncomputable def r14_0 : CodeT := fun call _ tm ds h K =>
  K .norm (T.set (T.set tm 2 (.int .i64 (0))) 3 (.int .i64 (0))) ds h
noncomputable def r14_1 : CodeT := fun call _ tm ds h K =>
  kO (loadAgg 2 h (.pointer (some ⟨0, 0, none⟩))) ds h (fun v1 ds h =>
  call 21 [(tg tm 0), v1] h (fun v h => (fun v2 ds h =>
  K .norm (T.set tm 4 v2) ds h) v ds h))
noncomputable def r14_2 : CodeT := fun call _ tm ds h K =>
  kO (binV Tryd.prog .neq 30 true (tg tm 4) (.int .i64 (0))) ds h (fun v1 ds h =>
  K .norm (T.set tm 9 v1) ds h)
noncomputable def r14_3 : CodeT := fun call _ tm ds h K =>
  K .norm (T.set (T.set tm 2 (.int .i64 (0))) 3 (tg tm 4)) ds h
noncomputable def r14_4 : CodeT := fun call _ tm ds h0 K =>
  (fun (b0 : Nat) (h : H) =>
  kO (nilChk (tg tm 0)) ds h (fun v1 ds h =>
  kO (fieldPtr 0 v1) ds h (fun v2 ds h =>
  kO (fieldPtr 1 v2) ds h (fun v3 ds h =>
  kO (loadOne h v3) ds h (fun v4 ds h =>
  kO (nilChk (tg tm 0)) ds h (fun v6 ds h =>
  kO (fieldPtr 2 v6) ds h (fun v7 ds h =>
  kO (fieldPtr 1 v7) ds h (fun v8 ds h =>
  kO (loadOne h v8) ds h (fun v9 ds h =>
  kO (binV Tryd.prog .add 3 false v4 v9) ds h (fun v10 ds h =>
  K .norm (T.set (T.set tm 2 v10) 3 (.int .i64 (0))) ds h)))))))))) h0.next ⟨h0.objs, h0.next + 13⟩
noncomputable def c14 : Box CodeT := ⟨seqC ⟨r14_0⟩ ⟨seqC ⟨seqC ⟨r14_1⟩ ⟨seqC ⟨r14_2⟩ ⟨condC ⟨fun _ tm => tg tm 9⟩ ⟨seqC ⟨r14_3⟩ retC⟩ skipC⟩⟩⟩ ⟨seqC ⟨r14_4⟩ retC⟩⟩⟩
noncomputable def q14 : Box (T Value → H → Option (List Value)) := ⟨fun tm h => some [tg tm 2, tg tm 3]⟩
/-! 15 cloakroom/cloakroomlaw06.name -/
noncomputable def r15_0 : CodeT := fun call _ tm ds h K =>
  kA (some (.rw [(.int .i64 (0)), (.string (strB []))], ptrTo h.next)) ds h (fun v0 ds h =>
  K .norm (T.set tm 4 v0) ds h)
noncomputable def r15_1 : CodeT := fun call _ tm ds h K =>
  kO (aggO (fill [(.int .i64 (0)), (.string (strB []))] (plc [(0, 1), (1, 1)]) [(0, (tg tm 0)), (1, (tg tm 1))])) ds h (fun v2 ds h =>
  kH (withV undef (storeV 2 h (tg tm 4) v2)) ds (fun v3 ds h =>
  K .norm tm ds h))
noncomputable def c15 : Box CodeT := ⟨seqC ⟨r15_0⟩ ⟨seqC ⟨r15_1⟩ retC⟩⟩
noncomputable def q15 : Box (T Value → H → Option (List Value)) := ⟨fun tm h => (match loadAgg 2 h (tg tm 4) with | some v => (match (some [] : Option (List Value)) with | some l => some (v :: l) | none => none) | none => none)⟩
/-! 21 (*cloakroom/table.Table).asked -/
noncomputable def r21_0 : CodeT := fun call _ tm ds h K =>
  kA (some (.rw (Value.cells (tg tm 1)).toList, ptrTo h.next)) ds h (fun v0 ds h =>
  K .norm (T.set (T.set tm 3 v0) 4 (.int .i64 (0))) ds h)
noncomputable def r21_1 : CodeT := fun call _ tm ds h K => (⟨opStep ⟨fun call env tm ds h K => kO (some (tg tm 0)) ds h K⟩ ⟨fun v tm => tm⟩ ⟨fun env tm => true⟩
  ⟨opStep ⟨fun call env tm ds h K => kO (binV Tryd.prog .eql 24 true (nthD 0 env) (.pointer none)) ds h K⟩ ⟨fun v tm => tm⟩ ⟨fun env tm => true⟩
  ⟨opStep ⟨fun call env tm ds h K => kO (some (nthD 0 env)) ds h K⟩ ⟨fun v tm => tm⟩ ⟨fun env tm => true⟩
  ⟨opStep ⟨fun call env tm ds h K => kO (some (tg tm 0)) ds h K⟩ ⟨fun v tm => tm⟩ ⟨fun env tm => isB false (nthD 0 env)⟩
  ⟨opStep ⟨fun call env tm ds h K => kO (nilChk (nthD 0 env)) ds h K⟩ ⟨fun v tm => tm⟩ ⟨fun env tm => isB false (nthD 1 env)⟩
  ⟨opStep ⟨fun call env tm ds h K => kO (fieldPtr 6 (nthD 0 env)) ds h K⟩ ⟨fun v tm => tm⟩ ⟨fun env tm => isB false (nthD 2 env)⟩
  ⟨opStep ⟨fun call env tm ds h K => kO (loadOne h (nthD 0 env)) ds h K⟩ ⟨fun v tm => tm⟩ ⟨fun env tm => isB false (nthD 3 env)⟩
  ⟨opStep ⟨fun call env tm ds h K => kO (unV .not (nthD 0 env)) ds h K⟩ ⟨fun v tm => tm⟩ ⟨fun env tm => isB false (nthD 4 env)⟩
  ⟨opStep ⟨fun call env tm ds h K => kO (pickV (nthD 5 env) (.bool true) (nthD 0 env)) ds h K⟩ ⟨fun v tm => tm⟩ ⟨fun env tm => true⟩
  ⟨opStep ⟨fun call env tm ds h K => kO (some (nthD 0 env)) ds h K⟩ ⟨fun v tm => (T.set tm 5 v)⟩ ⟨fun env tm => true⟩
  ⟨fun _ _ tm ds h K => K .norm tm ds h⟩⟩⟩⟩⟩⟩⟩⟩⟩⟩⟩ : Box OpsT).f call [] tm ds h K
noncomputable def r21_2 : CodeT := fun call _ tm ds h K =>
  K .norm (T.set tm 4 (.int .i64 (1))) ds h
noncomputable def r21_3 : CodeT := fun call _ tm ds h K => (⟨opStep ⟨fun call env tm ds h K => kO (fieldPtr 0 (tg tm 3)) ds h K⟩ ⟨fun v tm => tm⟩ ⟨fun env tm => true⟩
  ⟨opStep ⟨fun call env tm ds h K => kO (loadOne h (nthD 0 env)) ds h K⟩ ⟨fun v tm => tm⟩ ⟨fun env tm => true⟩
  ⟨opStep ⟨fun call env tm ds h K => kO (binV Tryd.prog .lss 3 true (nthD 0 env) (.int .i64 (0))) ds h K⟩ ⟨fun v tm => tm⟩ ⟨fun env tm => true⟩
  ⟨opStep ⟨fun call env tm ds h K => kO (some (nthD 0 env)) ds h K⟩ ⟨fun v tm => tm⟩ ⟨fun env tm => true⟩
  ⟨opStep ⟨fun call env tm ds h K => kO (fieldPtr 0 (tg tm 3)) ds h K⟩ ⟨fun v tm => tm⟩ ⟨fun env tm => isB false (nthD 0 env)⟩
  ⟨opStep ⟨fun call env tm ds h K => kO (loadOne h (nthD 0 env)) ds h K⟩ ⟨fun v tm => tm⟩ ⟨fun env tm => isB false (nthD 1 env)⟩
  ⟨opStep ⟨fun call env tm ds h K => kO (binV Tryd.prog .geq 3 true (nthD 0 env) (.int .i64 (4))) ds h K⟩ ⟨fun v tm => tm⟩ ⟨fun env tm => isB false (nthD 2 env)⟩
  ⟨opStep ⟨fun call env tm ds h K => kO (pickV (nthD 3 env) (.bool true) (nthD 0 env)) ds h K⟩ ⟨fun v tm => tm⟩ ⟨fun env tm => true⟩
  ⟨opStep ⟨fun call env tm ds h K => kO (some (nthD 0 env)) ds h K⟩ ⟨fun v tm => tm⟩ ⟨fun env tm => true⟩
  ⟨opStep ⟨fun call env tm ds h K => kO (fieldPtr 1 (tg tm 3)) ds h K⟩ ⟨fun v tm => tm⟩ ⟨fun env tm => isB false (nthD 0 env)⟩
  ⟨opStep ⟨fun call env tm ds h K => kO (loadOne h (nthD 0 env)) ds h K⟩ ⟨fun v tm => tm⟩ ⟨fun env tm => isB false (nthD 1 env)⟩
  ⟨opStep ⟨fun call env tm ds h K => kO (binV Tryd.prog .eql 9 true (nthD 0 env) (.string (strB []))) ds h K⟩ ⟨fun v tm => tm⟩ ⟨fun env tm => isB false (nthD 2 env)⟩
  ⟨opStep ⟨fun call env tm ds h K => kO (pickV (nthD 3 env) (.bool true) (nthD 0 env)) ds h K⟩ ⟨fun v tm => tm⟩ ⟨fun env tm => true⟩
  ⟨opStep ⟨fun call env tm ds h K => kO (some (nthD 0 env)) ds h K⟩ ⟨fun v tm => tm⟩ ⟨fun env tm => true⟩
  ⟨opStep ⟨fun call env tm ds h K => kO (fieldPtr 1 (tg tm 3)) ds h K⟩ ⟨fun v tm => tm⟩ ⟨fun env tm => isB false (nthD 0 env)⟩
  ⟨opStep ⟨fun call env tm ds h K => kO (loadOne h (nthD 0 env)) ds h K⟩ ⟨fun v tm => tm⟩ ⟨fun env tm => isB false (nthD 1 env)⟩
  ⟨opStep ⟨fun call env tm ds h K => kO (lenStr (nthD 0 env)) ds h K⟩ ⟨fun v tm => tm⟩ ⟨fun env tm => isB false (nthD 2 env)⟩
  ⟨opStep ⟨fun call env tm ds h K => kO (binV Tryd.prog .gtr 3 true (nthD 0 env) (.int .i64 (32))) ds h K⟩ ⟨fun v tm => tm⟩ ⟨fun env tm => isB false (nthD 3 env)⟩
  ⟨opStep ⟨fun call env tm ds h K => kO (pickV (nthD 4 env) (.bool true) (nthD 0 env)) ds h K⟩ ⟨fun v tm => tm⟩ ⟨fun env tm => true⟩
  ⟨opStep ⟨fun call env tm ds h K => kO (some (nthD 0 env)) ds h K⟩ ⟨fun v tm => (T.set tm 15 v)⟩ ⟨fun env tm => true⟩
  ⟨fun _ _ tm ds h K => K .norm tm ds h⟩⟩⟩⟩⟩⟩⟩⟩⟩⟩⟩⟩⟩⟩⟩⟩⟩⟩⟩⟩⟩ : Box OpsT).f call [] tm ds h K
noncomputable def r21_4 : CodeT := fun call _ tm ds h K =>
  K .norm (T.set tm 4 (.int .i64 (8))) ds h
noncomputable def r21_5 : CodeT := fun call _ tm ds h K =>
  K .norm (T.set tm 4 (.int .i64 (0))) ds h
noncomputable def c21 : Box CodeT := ⟨seqC ⟨r21_0⟩ ⟨seqC ⟨blockC 0 ⟨seqC ⟨r21_1⟩ ⟨condC ⟨fun _ tm => tg tm 5⟩ ⟨seqC ⟨r21_2⟩ retC⟩ ⟨seqC ⟨r21_3⟩ ⟨condC ⟨fun _ tm => tg tm 15⟩ ⟨seqC ⟨r21_4⟩ retC⟩ skipC⟩⟩⟩⟩⟩ ⟨seqC ⟨r21_5⟩ retC⟩⟩⟩
noncomputable def q21 : Box (T Value → H → Option (List Value)) := ⟨fun tm h => some [tg tm 4]⟩
/-! 22 (*cloakroom/table.Table).step -/
noncomputable def r22_0 : CodeT := fun call _ tm ds h K =>
  kO (nilChk (tg tm 0)) ds h (fun v1 ds h =>
  kO (fieldPtr 5 v1) ds h (fun v2 ds h =>
  kH (withV undef (storeV 1 h v2 (.int .i64 (0)))) ds (fun v3 ds h =>
  K .norm tm ds h)))
noncomputable def r22_1 : CodeT := fun call _ tm ds h K => (⟨opStep ⟨fun call env tm ds h K => kO (some (tg tm 0)) ds h K⟩ ⟨fun v tm => tm⟩ ⟨fun env tm => true⟩
  ⟨opStep ⟨fun call env tm ds h K => kO (nilChk (nthD 0 env)) ds h K⟩ ⟨fun v tm => tm⟩ ⟨fun env tm => true⟩
  ⟨opStep ⟨fun call env tm ds h K => kO (fieldPtr 2 (nthD 0 env)) ds h K⟩ ⟨fun v tm => tm⟩ ⟨fun env tm => true⟩
  ⟨opStep ⟨fun call env tm ds h K => kO (fieldPtr 1 (nthD 0 env)) ds h K⟩ ⟨fun v tm => tm⟩ ⟨fun env tm => true⟩
  ⟨opStep ⟨fun call env tm ds h K => kO (loadOne h (nthD 0 env)) ds h K⟩ ⟨fun v tm => tm⟩ ⟨fun env tm => true⟩
  ⟨opStep ⟨fun call env tm ds h K => kO (binV Tryd.prog .gtr 3 true (nthD 0 env) (.int .i64 (0))) ds h K⟩ ⟨fun v tm => tm⟩ ⟨fun env tm => true⟩
  ⟨opStep ⟨fun call env tm ds h K => kO (some (nthD 0 env)) ds h K⟩ ⟨fun v tm => tm⟩ ⟨fun env tm => true⟩
  ⟨opStep ⟨fun call env tm ds h K => kO (some (tg tm 0)) ds h K⟩ ⟨fun v tm => tm⟩ ⟨fun env tm => isB true (nthD 0 env)⟩
  ⟨opStep ⟨fun call env tm ds h K => kO (nilChk (nthD 0 env)) ds h K⟩ ⟨fun v tm => tm⟩ ⟨fun env tm => isB true (nthD 1 env)⟩
  ⟨opStep ⟨fun call env tm ds h K => kO (fieldPtr 5 (nthD 0 env)) ds h K⟩ ⟨fun v tm => tm⟩ ⟨fun env tm => isB true (nthD 2 env)⟩
  ⟨opStep ⟨fun call env tm ds h K => kO (loadOne h (nthD 0 env)) ds h K⟩ ⟨fun v tm => tm⟩ ⟨fun env tm => isB true (nthD 3 env)⟩
  ⟨opStep ⟨fun call env tm ds h K => kO (binV Tryd.prog .lss 3 true (nthD 0 env) (.int .i64 (4))) ds h K⟩ ⟨fun v tm => tm⟩ ⟨fun env tm => isB true (nthD 4 env)⟩
  ⟨opStep ⟨fun call env tm ds h K => kO (pickV (nthD 5 env) (nthD 0 env) (.bool false)) ds h K⟩ ⟨fun v tm => (T.set tm 20 v)⟩ ⟨fun env tm => true⟩
  ⟨fun _ _ tm ds h K => K .norm tm ds h⟩⟩⟩⟩⟩⟩⟩⟩⟩⟩⟩⟩⟩⟩ : Box OpsT).f call [] tm ds h K
noncomputable def r22_2 : CodeT := fun call _ tm ds h0 K =>
  (fun (b0 : Nat) (h : H) =>
  kO (nilChk (tg tm 0)) ds h (fun v1 ds h =>
  kO (fieldPtr 2 v1) ds h (fun v2 ds h =>
  kO (fieldPtr 0 v2) ds h (fun v3 ds h =>
  kO (loadOne h v3) ds h (fun v4 ds h =>
  kO (nilChk (tg tm 0)) ds h (fun v6 ds h =>
  kO (fieldPtr 4 v6) ds h (fun v7 ds h =>
  kO (loadOne h v7) ds h (fun v8 ds h =>
  kO (indexSl 1 v4 v8) ds h (fun v9 ds h =>
  K .norm (T.set tm 2 v9) ds h))))))))) h0.next ⟨h0.objs, h0.next + 11⟩
noncomputable def r22_3 : CodeT := fun call _ tm ds h K =>
  kO (nilChk (tg tm 2)) ds h (fun v1 ds h =>
  kO (loadOne h v1) ds h (fun v2 ds h =>
  kO (lenSl v2) ds h (fun v3 ds h =>
  kO (binV Tryd.prog .eql 3 true v3 (.int .i64 (0))) ds h (fun v4 ds h =>
  K .norm (T.set tm 35 v4) ds h))))
noncomputable def r22_4 : CodeT := fun call _ tm ds h K =>
  kO (nilChk (tg tm 0)) ds h (fun v1 ds h =>
  kO (fieldPtr 4 v1) ds h (fun v2 ds h =>
  kO (loadOne h v2) ds h (fun v3 ds h =>
  kO (binV Tryd.prog .add 3 true v3 (.int .i64 (1))) ds h (fun v4 ds h =>
  kO (nilChk (tg tm 0)) ds h (fun v5 ds h =>
  kO (fieldPtr 4 v5) ds h (fun v6 ds h =>
  kH (withV undef (storeV 1 h v6 v4)) ds (fun v7 ds h =>
  K .norm tm ds h)))))))
noncomputable def r22_5 : CodeT := fun call _ tm ds h K =>
  kO (nilChk (tg tm 2)) ds h (fun v1 ds h =>
  kO (loadOne h v1) ds h (fun v2 ds h =>
  kO (lenSl v2) ds h (fun v3 ds h =>
  kO (binV Tryd.prog .sub 3 true v3 (.int .i64 (1))) ds h (fun v4 ds h =>
  K .norm (T.set tm 3 v4) ds h))))
noncomputable def r22_6 : CodeT := fun call _ tm ds h0 K =>
  (fun (b0 : Nat) (h : H) =>
  kO (nilChk (tg tm 0)) ds h (fun v1 ds h =>
  kO (fieldPtr 0 v1) ds h (fun v2 ds h =>
  kO (nilChk (tg tm 2)) ds h (fun v4 ds h =>
  kO (loadOne h v4) ds h (fun v5 ds h =>
  kO (indexSl 3 v5 (tg tm 3)) ds h (fun v7 ds h =>
  kO (loadAgg 3 h v7) ds h (fun v8 ds h =>
  call 25 [v2, v8] h (fun v h => (fun v9 ds h =>
  K .norm tm ds h) v ds h)))))))) h0.next ⟨h0.objs, h0.next + 10⟩
noncomputable def r22_7 : CodeT := fun call _ tm ds h K =>
  kO (nilChk (tg tm 2)) ds h (fun v2 ds h =>
  kO (loadOne h v2) ds h (fun v3 ds h =>
  kO (sliceSl 3 v3 none (some (tg tm 3)) none) ds h (fun v5 ds h =>
  kO (nilChk (tg tm 2)) ds h (fun v6 ds h =>
  kH (withV undef (storeV 1 h v6 v5)) ds (fun v7 ds h =>
  K .norm tm ds h)))))
noncomputable def r22_8 : CodeT := fun call _ tm ds h K =>
  kO (nilChk (tg tm 0)) ds h (fun v1 ds h =>
  kO (fieldPtr 2 v1) ds h (fun v2 ds h =>
  kO (fieldPtr 1 v2) ds h (fun v3 ds h =>
  kO (loadOne h v3) ds h (fun v4 ds h =>
  kO (binV Tryd.prog .sub 3 true v4 (.int .i64 (1))) ds h (fun v5 ds h =>
  kO (nilChk (tg tm 0)) ds h (fun v6 ds h =>
  kO (fieldPtr 2 v6) ds h (fun v7 ds h =>
  kO (fieldPtr 1 v7) ds h (fun v8 ds h =>
  kH (withV undef (storeV 1 h v8 v5)) ds (fun v9 ds h =>
  K .norm tm ds h)))))))))
noncomputable def r22_9 : CodeT := fun call _ tm ds h K =>
  kO (nilChk (tg tm 0)) ds h (fun v1 ds h =>
  kO (fieldPtr 5 v1) ds h (fun v2 ds h =>
  kO (loadOne h v2) ds h (fun v3 ds h =>
  kO (binV Tryd.prog .add 3 true v3 (.int .i64 (1))) ds h (fun v4 ds h =>
  kO (nilChk (tg tm 0)) ds h (fun v5 ds h =>
  kO (fieldPtr 5 v5) ds h (fun v6 ds h =>
  kH (withV undef (storeV 1 h v6 v4)) ds (fun v7 ds h =>
  K .norm tm ds h)))))))
noncomputable def l22_10 : Box CodeT := ⟨seqC ⟨seqC ⟨r22_1⟩ ⟨condC ⟨fun _ tm => tg tm 20⟩ skipC (exitC 0)⟩⟩ ⟨blockC 1 ⟨seqC ⟨r22_2⟩ ⟨seqC ⟨seqC ⟨r22_3⟩ ⟨condC ⟨fun _ tm => tg tm 35⟩ ⟨seqC ⟨r22_4⟩ (exitC 1)⟩ skipC⟩⟩ ⟨seqC ⟨r22_5⟩ ⟨seqC ⟨r22_6⟩ ⟨seqC ⟨r22_7⟩ ⟨seqC ⟨r22_8⟩ ⟨r22_9⟩⟩⟩⟩⟩⟩⟩⟩⟩
noncomputable def r22_10 : CodeT := fun call _ tm ds h K =>
  kO (nilChk (tg tm 0)) ds h (fun v1 ds h =>
  kO (fieldPtr 2 v1) ds h (fun v2 ds h =>
  kO (fieldPtr 1 v2) ds h (fun v3 ds h =>
  kO (loadOne h v3) ds h (fun v4 ds h =>
  kO (binV Tryd.prog .gtr 3 true v4 (.int .i64 (0))) ds h (fun v5 ds h =>
  K .norm (T.set tm 86 v5) ds h)))))
noncomputable def r22_11 : CodeT := fun call _ tm ds h K =>
  kO (aggO (fill [(.slice none 0 0), (.int .i64 (0))] (plc [(0, 1), (1, 1)]) [])) ds h (fun v2 ds h =>
  kO (nilChk (tg tm 0)) ds h (fun v3 ds h =>
  kO (fieldPtr 2 v3) ds h (fun v4 ds h =>
  kH (withV undef (storeV 2 h v4 v2)) ds (fun v5 ds h =>
  kO (nilChk (tg tm 0)) ds h (fun v6 ds h =>
  kO (fieldPtr 4 v6) ds h (fun v7 ds h =>
  kH (withV undef (storeV 1 h v7 (.int .i64 (0)))) ds (fun v8 ds h =>
  K .norm tm ds h)))))))
noncomputable def r22_12 : CodeT := fun call _ tm ds h K =>
  kO (nilChk (tg tm 0)) ds h (fun v1 ds h =>
  kO (fieldPtr 0 v1) ds h (fun v2 ds h =>
  kO (fieldPtr 0 v2) ds h (fun v3 ds h =>
  kO (loadOne h v3) ds h (fun v4 ds h =>
  kO (lenSl v4) ds h (fun v5 ds h =>
  K .norm (T.set tm 4 v5) ds h)))))
noncomputable def r22_13 : CodeT := fun call _ tm ds h K =>
  kO (nilChk (tg tm 0)) ds h (fun v1 ds h =>
  kO (fieldPtr 0 v1) ds h (fun v2 ds h =>
  kO (fieldPtr 1 v2) ds h (fun v3 ds h =>
  kO (loadOne h v3) ds h (fun v4 ds h =>
  kO (binV Tryd.prog .mul 3 true (.int .i64 (2)) (tg tm 4)) ds h (fun v6 ds h =>
  kO (binV Tryd.prog .gtr 3 false v4 v6) ds h (fun v7 ds h =>
  K .norm (T.set tm 100 v7) ds h))))))
noncomputable def r22_14 : CodeT := fun call _ tm ds h K =>
  kO (binV Tryd.prog .mul 3 true (.int .i64 (2)) (tg tm 4)) ds h (fun v2 ds h =>
  call 34 [(tg tm 0), v2] h (fun v h => (fun v3 ds h =>
  K .norm tm ds h) v ds h))
noncomputable def r22_15 : CodeT := fun call _ tm ds h K => (⟨opStep ⟨fun call env tm ds h K => kO (some (tg tm 4)) ds h K⟩ ⟨fun v tm => tm⟩ ⟨fun env tm => true⟩
  ⟨opStep ⟨fun call env tm ds h K => kO (binV Tryd.prog .gtr 3 true (nthD 0 env) (.int .i64 (4))) ds h K⟩ ⟨fun v tm => tm⟩ ⟨fun env tm => true⟩
  ⟨opStep ⟨fun call env tm ds h K => kO (some (nthD 0 env)) ds h K⟩ ⟨fun v tm => tm⟩ ⟨fun env tm => true⟩
  ⟨opStep ⟨fun call env tm ds h K => kO (some (tg tm 0)) ds h K⟩ ⟨fun v tm => tm⟩ ⟨fun env tm => isB true (nthD 0 env)⟩
  ⟨opStep ⟨fun call env tm ds h K => kO (nilChk (nthD 0 env)) ds h K⟩ ⟨fun v tm => tm⟩ ⟨fun env tm => isB true (nthD 1 env)⟩
  ⟨opStep ⟨fun call env tm ds h K => kO (fieldPtr 0 (nthD 0 env)) ds h K⟩ ⟨fun v tm => tm⟩ ⟨fun env tm => isB true (nthD 2 env)⟩
  ⟨opStep ⟨fun call env tm ds h K => kO (fieldPtr 1 (nthD 0 env)) ds h K⟩ ⟨fun v tm => tm⟩ ⟨fun env tm => isB true (nthD 3 env)⟩
  ⟨opStep ⟨fun call env tm ds h K => kO (loadOne h (nthD 0 env)) ds h K⟩ ⟨fun v tm => tm⟩ ⟨fun env tm => isB true (nthD 4 env)⟩
  ⟨opStep ⟨fun call env tm ds h K => kO (some (tg tm 4)) ds h K⟩ ⟨fun v tm => tm⟩ ⟨fun env tm => isB true (nthD 5 env)⟩
  ⟨opStep ⟨fun call env tm ds h K => kO (binV Tryd.prog .quo 3 true (nthD 0 env) (.int .i64 (4))) ds h K⟩ ⟨fun v tm => tm⟩ ⟨fun env tm => isB true (nthD 6 env)⟩
  ⟨opStep ⟨fun call env tm ds h K => kO (binV Tryd.prog .lss 3 false (nthD 2 env) (nthD 0 env)) ds h K⟩ ⟨fun v tm => tm⟩ ⟨fun env tm => isB true (nthD 7 env)⟩
  ⟨opStep ⟨fun call env tm ds h K => kO (pickV (nthD 8 env) (nthD 0 env) (.bool false)) ds h K⟩ ⟨fun v tm => tm⟩ ⟨fun env tm => true⟩
  ⟨opStep ⟨fun call env tm ds h K => kO (some (nthD 0 env)) ds h K⟩ ⟨fun v tm => (T.set tm 113 v)⟩ ⟨fun env tm => true⟩
  ⟨fun _ _ tm ds h K => K .norm tm ds h⟩⟩⟩⟩⟩⟩⟩⟩⟩⟩⟩⟩⟩⟩ : Box OpsT).f call [] tm ds h K
noncomputable def r22_16 : CodeT := fun call _ tm ds h K =>
  kO (binV Tryd.prog .quo 3 true (tg tm 4) (.int .i64 (2))) ds h (fun v2 ds h =>
  call 34 [(tg tm 0), v2] h (fun v h => (fun v3 ds h =>
  K .norm tm ds h) v ds h))
noncomputable def c22 : Box CodeT := ⟨seqC ⟨r22_0⟩ ⟨seqC ⟨blockC 0 (loopB l22_10)⟩ ⟨seqC ⟨seqC ⟨r22_10⟩ ⟨condC ⟨fun _ tm => tg tm 86⟩ retC skipC⟩⟩ ⟨seqC ⟨r22_11⟩ ⟨seqC ⟨r22_12⟩ ⟨blockC 2 ⟨seqC ⟨r22_13⟩ ⟨condC ⟨fun _ tm => tg tm 100⟩ ⟨r22_14⟩ ⟨seqC ⟨r22_15⟩ ⟨condC ⟨fun _ tm => tg tm 113⟩ ⟨r22_16⟩ skipC⟩⟩⟩⟩⟩⟩⟩⟩⟩⟩
noncomputable def q22 : Box (T Value → H → Option (List Value)) := ⟨fun tm h => some []⟩
/-! 23 (*cloakroom/table.rows).del -/
noncomputable def r23_0 : CodeT := fun call _ tm ds h K =>
  kA (some (.rw (Value.cells (tg tm 1)).toList, ptrTo h.next)) ds h (fun v0 ds h =>
  K .norm (T.set (T.set tm 3 v0) 4 (.bool false)) ds h)
noncomputable def r23_1 : CodeT := fun call _ tm ds h K =>
  kO (nilChk (tg tm 0)) ds h (fun v1 ds h =>
  kO (fieldPtr 0 v1) ds h (fun v2 ds h =>
  kO (loadOne h v2) ds h (fun v3 ds h =>
  kO (lenSl v3) ds h (fun v4 ds h =>
  kO (binV Tryd.prog .eql 3 true v4 (.int .i64 (0))) ds h (fun v5 ds h =>
  K .norm (T.set tm 12 v5) ds h)))))
noncomputable def r23_2 : CodeT := fun call _ tm ds h K =>
  K .norm (T.set tm 4 (.bool false)) ds h
noncomputable def r23_3 : CodeT := fun call _ tm ds h K =>
  kO (loadAgg 2 h (tg tm 3)) ds h (fun v1 ds h =>
  call 35 [(tg tm 0), v1] h (fun v h => (fun v2 ds h =>
  K .norm (T.set tm 5 v2) ds h) v ds h))
noncomputable def r23_4 : CodeT := fun call _ tm ds h K =>
  kO (nilChk (tg tm 5)) ds h (fun v1 ds h =>
  kO (loadOne h v1) ds h (fun v2 ds h =>
  kO (some (.func (.func 37) [].toArray [(tg tm 3)].toArray)) ds h (fun v3 ds h =>
  call 36 [v2, v3] h (fun v h => (fun v4 ds h =>
  K .norm (T.set tm 6 v4) ds h) v ds h))))
noncomputable def r23_5 : CodeT := fun call _ tm ds h K =>
  kO (binV Tryd.prog .lss 3 true (tg tm 6) (.int .i64 (0))) ds h (fun v1 ds h =>
  K .norm (T.set tm 22 v1) ds h)
noncomputable def r23_6 : CodeT := fun call _ tm ds h K =>
  K .norm (T.set tm 4 (.bool false)) ds h
noncomputable def r23_7 : CodeT := fun call _ tm ds h K =>
  kO (nilChk (tg tm 5)) ds h (fun v2 ds h =>
  kO (loadOne h v2) ds h (fun v3 ds h =>
  kO (binV Tryd.prog .add 3 true (tg tm 6) (.int .i64 (1))) ds h (fun v6 ds h =>
  call 38 [v3, (tg tm 6), v6] h (fun v h => (fun v7 ds h =>
  kO (nilChk (tg tm 5)) ds h (fun v8 ds h =>
  kH (withV undef (storeV 1 h v8 v7)) ds (fun v9 ds h =>
  K .norm tm ds h))) v ds h))))
noncomputable def r23_8 : CodeT := fun call _ tm ds h K =>
  kO (nilChk (tg tm 0)) ds h (fun v1 ds h =>
  kO (fieldPtr 1 v1) ds h (fun v2 ds h =>
  kO (loadOne h v2) ds h (fun v3 ds h =>
  kO (binV Tryd.prog .sub 3 true v3 (.int .i64 (1))) ds h (fun v4 ds h =>
  kO (nilChk (tg tm 0)) ds h (fun v5 ds h =>
  kO (fieldPtr 1 v5) ds h (fun v6 ds h =>
  kH (withV undef (storeV 1 h v6 v4)) ds (fun v7 ds h =>
  K .norm tm ds h)))))))
noncomputable def r23_9 : CodeT := fun call _ tm ds h K =>
  K .norm (T.set tm 4 (.bool true)) ds h
noncomputable def c23 : Box CodeT := ⟨seqC ⟨r23_0⟩ ⟨seqC ⟨seqC ⟨r23_1⟩ ⟨condC ⟨fun _ tm => tg tm 12⟩ ⟨seqC ⟨r23_2⟩ retC⟩ skipC⟩⟩ ⟨seqC ⟨r23_3⟩ ⟨seqC ⟨r23_4⟩ ⟨seqC ⟨seqC ⟨r23_5⟩ ⟨condC ⟨fun _ tm => tg tm 22⟩ ⟨seqC ⟨r23_6⟩ retC⟩ skipC⟩⟩ ⟨seqC ⟨r23_7⟩ ⟨seqC ⟨r23_8⟩ ⟨seqC ⟨r23_9⟩ retC⟩⟩⟩⟩⟩⟩⟩⟩
noncomputable def q23 : Box (T Value → H → Option (List Value)) := ⟨fun tm h => some [tg tm 4]⟩
/-! 24 (*cloakroom/table.rows).find -/
noncomputable def r24_0 : CodeT := fun call _ tm ds h K =>
  kA (some (.rw (Value.cells (tg tm 1)).toList, ptrTo h.next)) ds h (fun v0 ds h =>
  K .norm (T.set (T.set tm 3 v0) 4 (.pointer none)) ds h)
noncomputable def r24_1 : CodeT := fun call _ tm ds h K =>
  kO (nilChk (tg tm 0)) ds h (fun v1 ds h =>
  kO (fieldPtr 0 v1) ds h (fun v2 ds h =>
  kO (loadOne h v2) ds h (fun v3 ds h =>
  kO (lenSl v3) ds h (fun v4 ds h =>
  kO (binV Tryd.prog .eql 3 true v4 (.int .i64 (0))) ds h (fun v5 ds h =>
  K .norm (T.set tm 12 v5) ds h)))))
noncomputable def r24_2 : CodeT := fun call _ tm ds h K =>
  K .norm (T.set tm 4 (.pointer none)) ds h
noncomputable def r24_3 : CodeT := fun call _ tm ds h K =>
  kO (loadAgg 2 h (tg tm 3)) ds h (fun v1 ds h =>
  call 35 [(tg tm 0), v1] h (fun v h => (fun v2 ds h =>
  kO (nilChk v2) ds h (fun v3 ds h =>
  kO (loadOne h v3) ds h (fun v4 ds h =>
  K .norm (T.set tm 5 v4) ds h))) v ds h))
noncomputable def r24_4 : CodeT := fun call _ tm ds h K =>
  kO (lenSl (tg tm 5)) ds h (fun v1 ds h =>
  K .norm (T.set (T.set tm 19 v1) 20 (.int .i64 (0))) ds h)
noncomputable def r24_5 : CodeT := fun call _ tm ds h K =>
  kO (binV Tryd.prog .lss 3 false (tg tm 20) (tg tm 19)) ds h (fun v0 ds h =>
  K .norm (T.set tm 21 v0) ds h)
noncomputable def r24_6 : CodeT := fun call _ tm ds h K =>
  K .norm (T.set tm 6 (tg tm 20)) ds h
noncomputable def r24_7 : CodeT := fun call _ tm ds h0 K =>
  (fun (b0 : Nat) (h : H) =>
  kO (indexSl 3 (tg tm 5) (tg tm 6)) ds h (fun v2 ds h =>
  kO (fieldPtr 0 v2) ds h (fun v3 ds h =>
  kO (loadAgg 2 h v3) ds h (fun v4 ds h =>
  kO (loadAgg 2 h (tg tm 3)) ds h (fun v5 ds h =>
  kO (binV Tryd.prog .eql 27 false v4 v5) ds h (fun v6 ds h =>
  K .norm (T.set tm 29 v6) ds h)))))) h0.next ⟨h0.objs, h0.next + 7⟩
noncomputable def r24_8 : CodeT := fun call _ tm ds h K =>
  kO (indexSl 3 (tg tm 5) (tg tm 6)) ds h (fun v2 ds h =>
  K .norm (T.set tm 4 v2) ds h)
noncomputable def r24_9 : CodeT := fun call _ tm ds h K =>
  kO (binV Tryd.prog .add 3 true (tg tm 20) (.int .i64 (1))) ds h (fun v0 ds h =>
  K .norm (T.set tm 20 v0) ds h)
noncomputable def l24_10 : Box CodeT := ⟨seqC ⟨r24_5⟩ ⟨seqC ⟨condC ⟨fun _ tm => tg tm 21⟩ skipC (exitC 0)⟩ ⟨seqC ⟨blockC 1 ⟨seqC ⟨r24_6⟩ ⟨seqC ⟨r24_7⟩ ⟨condC ⟨fun _ tm => tg tm 29⟩ ⟨seqC ⟨r24_8⟩ retC⟩ skipC⟩⟩⟩⟩ ⟨r24_9⟩⟩⟩⟩
noncomputable def r24_10 : CodeT := fun call _ tm ds h K =>
  K .norm (T.set tm 4 (.pointer none)) ds h
noncomputable def c24 : Box CodeT := ⟨seqC ⟨r24_0⟩ ⟨seqC ⟨seqC ⟨r24_1⟩ ⟨condC ⟨fun _ tm => tg tm 12⟩ ⟨seqC ⟨r24_2⟩ retC⟩ skipC⟩⟩ ⟨seqC ⟨r24_3⟩ ⟨seqC ⟨seqC ⟨r24_4⟩ ⟨blockC 0 (loopB l24_10)⟩⟩ ⟨seqC ⟨r24_10⟩ retC⟩⟩⟩⟩⟩
noncomputable def q24 : Box (T Value → H → Option (List Value)) := ⟨fun tm h => some [tg tm 4]⟩
/-! 25 (*cloakroom/table.rows).put -/
noncomputable def r25_0 : CodeT := fun call _ tm ds h K =>
  kA (some (.rw (Value.cells (tg tm 1)).toList, ptrTo h.next)) ds h (fun v0 ds h =>
  K .norm (T.set tm 3 v0) ds h)
noncomputable def r25_1 : CodeT := fun call _ tm ds h K =>
  kO (fieldPtr 0 (tg tm 3)) ds h (fun v1 ds h =>
  kO (loadAgg 2 h v1) ds h (fun v2 ds h =>
  call 35 [(tg tm 0), v2] h (fun v h => (fun v3 ds h =>
  K .norm (T.set tm 4 v3) ds h) v ds h)))
noncomputable def r25_2 : CodeT := fun call _ tm ds h0 K =>
  (fun (b0 : Nat) (h : H) =>
  kO (nilChk (tg tm 4)) ds h (fun v2 ds h =>
  kO (loadOne h v2) ds h (fun v3 ds h =>
  kO (loadAgg 3 h (tg tm 3)) ds h (fun v4 ds h =>
  aO (mkLit 1 (b0 + 5) (fill (repl [(.int .i64 (0)), (.string (strB [])), (.int .i64 (0))] 1) (pl 3) [(0, v4)])) (fun x5 v5 =>
  kH (appendV 3 32 (H.put h (b0 + 5) x5) v3 v5) ds (fun v6 ds h =>
  kO (nilChk (tg tm 4)) ds h (fun v7 ds h =>
  kH (withV undef (storeV 1 h v7 v6)) ds (fun v8 ds h =>
  K .norm tm ds h)))))))) h0.next ⟨h0.objs, h0.next + 9⟩
noncomputable def r25_3 : CodeT := fun call _ tm ds h K =>
  kO (nilChk (tg tm 0)) ds h (fun v1 ds h =>
  kO (fieldPtr 1 v1) ds h (fun v2 ds h =>
  kO (loadOne h v2) ds h (fun v3 ds h =>
  kO (binV Tryd.prog .add 3 true v3 (.int .i64 (1))) ds h (fun v4 ds h =>
  kO (nilChk (tg tm 0)) ds h (fun v5 ds h =>
  kO (fieldPtr 1 v5) ds h (fun v6 ds h =>
  kH (withV undef (storeV 1 h v6 v4)) ds (fun v7 ds h =>
  K .norm tm ds h)))))))
noncomputable def c25 : Box CodeT := ⟨seqC ⟨r25_0⟩ ⟨seqC ⟨r25_1⟩ ⟨seqC ⟨r25_2⟩ ⟨r25_3⟩⟩⟩⟩
noncomputable def q25 : Box (T Value → H → Option (List Value)) := ⟨fun tm h => some []⟩
/-! 34 (*cloakroom/table.Table).turn -/
noncomputable def r34_0 : CodeT := fun call _ tm ds h0 K =>
  (fun (b0 : Nat) (h : H) =>
  kO (nilChk (tg tm 0)) ds h (fun v3 ds h =>
  kO (fieldPtr 0 v3) ds h (fun v4 ds h =>
  kO (loadAgg 2 h v4) ds h (fun v5 ds h =>
  aO (mkSlice [(.slice none 0 0)] 24 (b0 + 7) (tg tm 1) (tg tm 1)) (fun x7 v7 =>
  kO (aggO (fill [(.slice none 0 0), (.int .i64 (0))] (plc [(0, 1), (1, 1)]) [(0, v7)])) ds h (fun v8 ds h =>
  kO (nilChk (tg tm 0)) ds h (fun v9 ds h =>
  kO (fieldPtr 2 v9) ds h (fun v10 ds h =>
  kH (withV undef (storeV 2 h v10 v5)) ds (fun v11 ds h =>
  kO (nilChk (tg tm 0)) ds h (fun v12 ds h =>
  kO (fieldPtr 0 v12) ds h (fun v13 ds h =>
  kH (withV undef (storeV 2 (H.put h (b0 + 7) x7) v13 v8)) ds (fun v14 ds h =>
  K .norm tm ds h)))))))))))) h0.next ⟨h0.objs, h0.next + 15⟩
noncomputable def c34 : Box CodeT := ⟨r34_0⟩
noncomputable def q34 : Box (T Value → H → Option (List Value)) := ⟨fun tm h => some []⟩
/-! 35 (*cloakroom/table.rows).row -/
noncomputable def r35_0 : CodeT := fun call _ tm ds h K =>
  kA (some (.rw (Value.cells (tg tm 1)).toList, ptrTo h.next)) ds h (fun v0 ds h =>
  K .norm (T.set (T.set tm 3 v0) 4 (.pointer none)) ds h)
noncomputable def r35_1 : CodeT := fun call _ tm ds h K =>
  kO (fieldPtr 0 (tg tm 3)) ds h (fun v0 ds h =>
  kO (loadOne h v0) ds h (fun v1 ds h =>
  kO (toInt .u8 v1) ds h (fun v2 ds h =>
  kA (mkLit 1 h.next (fill (repl [(.int .u8 (0))] 1) (pl 1) [(0, v2)])) ds h (fun v3 ds h =>
  kO (bytesStr h v3) ds h (fun v4 ds h =>
  kO (fieldPtr 1 (tg tm 3)) ds h (fun v5 ds h =>
  kO (loadOne h v5) ds h (fun v6 ds h =>
  kO (binV Tryd.prog .add 9 false v4 v6) ds h (fun v7 ds h =>
  call 45 [v7] h (fun v h => (fun v8 ds h =>
  K .norm (T.set tm 5 v8) ds h) v ds h)))))))))
noncomputable def r35_2 : CodeT := fun call _ tm ds h0 K =>
  (fun (b0 : Nat) (h : H) =>
  kO (nilChk (tg tm 0)) ds h (fun v1 ds h =>
  kO (fieldPtr 0 v1) ds h (fun v2 ds h =>
  kO (loadOne h v2) ds h (fun v3 ds h =>
  kO (binV Tryd.prog .shr 98 true (tg tm 5) (.int .u64 (32))) ds h (fun v6 ds h =>
  kO (binV Tryd.prog .xor 98 false (tg tm 5) v6) ds h (fun v7 ds h =>
  kO (nilChk (tg tm 0)) ds h (fun v9 ds h =>
  kO (fieldPtr 0 v9) ds h (fun v10 ds h =>
  kO (loadOne h v10) ds h (fun v11 ds h =>
  kO (lenSl v11) ds h (fun v12 ds h =>
  kO (binV Tryd.prog .sub 3 true v12 (.int .i64 (1))) ds h (fun v13 ds h =>
  kO (toInt .u64 v13) ds h (fun v14 ds h =>
  kO (binV Tryd.prog .and 98 false v7 v14) ds h (fun v15 ds h =>
  kO (indexSl 1 v3 v15) ds h (fun v16 ds h =>
  K .norm (T.set tm 4 v16) ds h)))))))))))))) h0.next ⟨h0.objs, h0.next + 18⟩
noncomputable def c35 : Box CodeT := ⟨seqC ⟨r35_0⟩ ⟨seqC ⟨r35_1⟩ ⟨seqC ⟨r35_2⟩ retC⟩⟩⟩
noncomputable def q35 : Box (T Value → H → Option (List Value)) := ⟨fun tm h => some [tg tm 4]⟩
/-! 36 slices.IndexFunc[[]cloakroom/table.entry,cloakroom/table.entry] -/
noncomputable def r36_0 : CodeT := fun call _ tm ds h K =>
  K .norm (T.set tm 4 (.int .i64 (0))) ds h
noncomputable def r36_1 : CodeT := fun call _ tm ds h K =>
  kO (lenSl (tg tm 0)) ds h (fun v1 ds h =>
  K .norm (T.set (T.set tm 7 v1) 8 (.int .i64 (0))) ds h)
noncomputable def r36_2 : CodeT := fun call _ tm ds h K =>
  kO (binV Tryd.prog .lss 3 false (tg tm 8) (tg tm 7)) ds h (fun v0 ds h =>
  K .norm (T.set tm 9 v0) ds h)
noncomputable def r36_3 : CodeT := fun call _ tm ds h K =>
  K .norm (T.set tm 5 (tg tm 8)) ds h
noncomputable def r36_4 : CodeT := fun call _ tm ds h K =>
  kO (indexSl 3 (tg tm 0) (tg tm 5)) ds h (fun v3 ds h =>
  kO (loadAgg 3 h v3) ds h (fun v4 ds h =>
  goCall call (funcArgs (tg tm 1) [v4]) ds h (fun v5 ds h =>
  K .norm (T.set tm 16 v5) ds h)))
noncomputable def r36_5 : CodeT := fun call _ tm ds h K =>
  K .norm (T.set tm 4 (tg tm 5)) ds h
noncomputable def r36_6 : CodeT := fun call _ tm ds h K =>
  kO (binV Tryd.prog .add 3 true (tg tm 8) (.int .i64 (1))) ds h (fun v0 ds h =>
  K .norm (T.set tm 8 v0) ds h)
noncomputable def l36_7 : Box CodeT := ⟨seqC ⟨r36_2⟩ ⟨seqC ⟨condC ⟨fun _ tm => tg tm 9⟩ skipC (exitC 0)⟩ ⟨seqC ⟨blockC 1 ⟨seqC ⟨r36_3⟩ ⟨seqC ⟨r36_4⟩ ⟨condC ⟨fun _ tm => tg tm 16⟩ ⟨seqC ⟨r36_5⟩ retC⟩ skipC⟩⟩⟩⟩ ⟨r36_6⟩⟩⟩⟩
noncomputable def r36_7 : CodeT := fun call _ tm ds h K =>
  K .norm (T.set tm 4 (.int .i64 (-1))) ds h
noncomputable def c36 : Box CodeT := ⟨seqC ⟨r36_0⟩ ⟨seqC ⟨seqC ⟨r36_1⟩ ⟨blockC 0 (loopB l36_7)⟩⟩ ⟨seqC ⟨r36_7⟩ retC⟩⟩⟩
noncomputable def q36 : Box (T Value → H → Option (List Value)) := ⟨fun tm h => some [tg tm 4]⟩
/-! 37 (*cloakroom/table.rows).del$1 -/
noncomputable def r37_0 : CodeT := fun call _ tm ds h K =>
  kA (some (.rw (Value.cells (tg tm 0)).toList, ptrTo h.next)) ds h (fun v0 ds h =>
  K .norm (T.set (T.set tm 2 v0) 3 (.bool false)) ds h)
noncomputable def r37_1 : CodeT := fun call _ tm ds h K =>
  kO (fieldPtr 0 (tg tm 2)) ds h (fun v0 ds h =>
  kO (loadAgg 2 h v0) ds h (fun v1 ds h =>
  kO (loadAgg 2 h (tg tm 1)) ds h (fun v2 ds h =>
  kO (binV Tryd.prog .eql 27 false v1 v2) ds h (fun v3 ds h =>
  K .norm (T.set tm 3 v3) ds h))))
noncomputable def c37 : Box CodeT := ⟨seqC ⟨r37_0⟩ ⟨seqC ⟨r37_1⟩ retC⟩⟩
noncomputable def q37 : Box (T Value → H → Option (List Value)) := ⟨fun tm h => some [tg tm 3]⟩
/-! 38 slices.Delete[[]cloakroom/table.entry,cloakroom/table.entry] -/
noncomputable def r38_0 : CodeT := fun call _ tm ds h K =>
  K .norm (T.set tm 6 (.slice none 0 0)) ds h
noncomputable def r38_1 : CodeT := fun call _ tm ds h K =>
  kO (lenSl (tg tm 0)) ds h (fun v4 ds h =>
  kO (sliceSl 3 (tg tm 0) (some (tg tm 1)) (some (tg tm 2)) (some v4)) ds h (fun v5 ds h =>
  K .norm tm ds h))
noncomputable def r38_2 : CodeT := fun call _ tm ds h K =>
  kO (binV Tryd.prog .eql 3 false (tg tm 1) (tg tm 2)) ds h (fun v2 ds h =>
  K .norm (T.set tm 16 v2) ds h)
noncomputable def r38_3 : CodeT := fun call _ tm ds h K =>
  K .norm (T.set tm 6 (tg tm 0)) ds h
noncomputable def r38_4 : CodeT := fun call _ tm ds h K =>
  kO (lenSl (tg tm 0)) ds h (fun v1 ds h =>
  K .norm (T.set tm 7 v1) ds h)
noncomputable def r38_5 : CodeT := fun call _ tm ds h0 K =>
  (fun (b0 : Nat) (h : H) =>
  kO (sliceSl 3 (tg tm 0) none (some (tg tm 1)) none) ds h (fun v2 ds h =>
  kO (sliceSl 3 (tg tm 0) (some (tg tm 2)) none none) ds h (fun v5 ds h =>
  kH (appendV 3 32 h v2 v5) ds (fun v6 ds h =>
  K .norm (T.set tm 0 v6) ds h)))) h0.next ⟨h0.objs, h0.next + 8⟩
noncomputable def r38_6 : CodeT := fun call _ tm ds h K =>
  kO (lenSl (tg tm 0)) ds h (fun v2 ds h =>
  kO (sliceSl 3 (tg tm 0) (some v2) (some (tg tm 7)) none) ds h (fun v4 ds h =>
  kH (withV (.tuple #[]) (clearS [(.int .i64 (0)), (.string (strB [])), (.int .i64 (0))] h v4)) ds (fun v5 ds h =>
  K .norm tm ds h)))
noncomputable def r38_7 : CodeT := fun call _ tm ds h K =>
  K .norm (T.set tm 6 (tg tm 0)) ds h
noncomputable def c38 : Box CodeT := ⟨seqC ⟨r38_0⟩ ⟨seqC ⟨r38_1⟩ ⟨seqC ⟨seqC ⟨r38_2⟩ ⟨condC ⟨fun _ tm => tg tm 16⟩ ⟨seqC ⟨r38_3⟩ retC⟩ skipC⟩⟩ ⟨seqC ⟨r38_4⟩ ⟨seqC ⟨r38_5⟩ ⟨seqC ⟨r38_6⟩ ⟨seqC ⟨r38_7⟩ retC⟩⟩⟩⟩⟩⟩⟩
noncomputable def q38 : Box (T Value → H → Option (List Value)) := ⟨fun tm h => some [tg tm 6]⟩
/-! 45 cloakroom/code.Hash -/
noncomputable def r45_0 : CodeT := fun call _ tm ds h K =>
  K .norm (T.set tm 2 (.int .u64 (0))) ds h
noncomputable def r45_1 : CodeT := fun call _ tm ds h K =>
  K .norm (T.set tm 3 (.int .u64 (14695981039346656037))) ds h
noncomputable def r45_2 : CodeT := fun call _ tm ds h K =>
  kA (mkBytes h.next (tg tm 0)) ds h (fun v1 ds h =>
  kO (lenSl v1) ds h (fun v2 ds h =>
  K .norm (T.set (T.set (T.set tm 7 v1) 8 v2) 9 (.int .i64 (0))) ds h))
noncomputable def r45_3 : CodeT := fun call _ tm ds h K =>
  kO (binV Tryd.prog .lss 3 false (tg tm 9) (tg tm 8)) ds h (fun v0 ds h =>
  K .norm (T.set tm 10 v0) ds h)
noncomputable def r45_4 : CodeT := fun call _ tm ds h K =>
  kO (indexSl 1 (tg tm 7) (tg tm 9)) ds h (fun v0 ds h =>
  kO (loadOne h v0) ds h (fun v1 ds h =>
  K .norm (T.set tm 5 v1) ds h))
noncomputable def r45_5 : CodeT := fun call _ tm ds h K =>
  kO (toInt .u64 (tg tm 5)) ds h (fun v2 ds h =>
  kO (binV Tryd.prog .xor 98 false (tg tm 3) v2) ds h (fun v3 ds h =>
  kO (binV Tryd.prog .mul 98 true v3 (.int .u64 (1099511628211))) ds h (fun v4 ds h =>
  K .norm (T.set tm 3 v4) ds h)))
noncomputable def r45_6 : CodeT := fun call _ tm ds h K =>
  kO (binV Tryd.prog .add 3 true (tg tm 9) (.int .i64 (1))) ds h (fun v0 ds h =>
  K .norm (T.set tm 9 v0) ds h)
noncomputable def l45_7 : Box CodeT := ⟨seqC ⟨r45_3⟩ ⟨seqC ⟨condC ⟨fun _ tm => tg tm 10⟩ skipC (exitC 0)⟩ ⟨seqC ⟨blockC 1 ⟨seqC ⟨r45_4⟩ ⟨r45_5⟩⟩⟩ ⟨r45_6⟩⟩⟩⟩
noncomputable def r45_7 : CodeT := fun call _ tm ds h K =>
  K .norm (T.set tm 2 (tg tm 3)) ds h
noncomputable def c45 : Box CodeT := ⟨seqC ⟨r45_0⟩ ⟨seqC ⟨r45_1⟩ ⟨seqC ⟨seqC ⟨r45_2⟩ ⟨blockC 0 (loopB l45_7)⟩⟩ ⟨seqC ⟨r45_7⟩ retC⟩⟩⟩⟩
noncomputable def q45 : Box (T Value → H → Option (List Value)) := ⟨fun tm h => some [tg tm 2]⟩

end Go.Proofs.YtbdmhdidehfmoaaDoor
