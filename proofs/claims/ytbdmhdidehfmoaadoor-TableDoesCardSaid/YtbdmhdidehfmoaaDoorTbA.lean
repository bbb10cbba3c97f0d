import Derived.Test.YtbdmhdidehfmoaaDoorEvZ
import Derived.KernelRfl
import Derived.Test.YtbdmhdidehfmoaaDoorRows
import Derived.WalkKit
import Derived.ProofKit
import Derived.OpenShut
import Derived.Lib.Bytealg
set_option linter.unusedSimpArgs false
set_option linter.unusedVariables false
namespace Go.Proofs.YtbdmhdidehfmoaaDoor
open Go.Ev
def masks : List Nat := [0, 0, 0, 11874700803313586215476161921236043312114073337853, 5586943, 84180224902860762419187810301, 89202982123350657949004689704837523664011251, 5119, 1, 5, 2171, 34863089367, 541, 34863089403, 541, 19, 8375437953725, 33571891, 144115188130381815, 543, 31, 32827, 10385861445041135941798790903627805, 4198523, 540545147, 27, 19, 31, 17389, 604275, 19, 526847, 2102271, 8589944799, 3, 59, 66483, 15, 65735, 42535296023574879666274036850519702559, 5, 5, 19, 7, 2097279, 1965, 17179886351, 8592039695, 35218731966215, 1333065575601045263, 33543, 21268317252094917911888073248812900111, 1217485249602318769183, 22997644815212700899627017342834150232570911, 277, 16661, 0, 5, 5, 288231475663604767, 5, 5, 271, 4159, 4197407, 0, 0, 0, 0, 0, 0, 0, 0, 0, 0, 0, 0, 0, 0, 0, 0, 0, 0, 0, 0, 0]
def outside : List (Nat × XK) := [(56, .cmp)]
abbrev NG : Nat := 1
/-! 3 cloakroom/cloakroomlaw06.TableLast -/
noncomputable def r3_0 : CodeT := fun call _ tm ds h K =>
  K .norm (T.set tm 2 (.bool false)) ds h
noncomputable def r3_1 : CodeT := fun call _ tm ds h K =>
  call 7 [] h (fun v h => (fun v0 ds h =>
  K .norm (T.set tm 3 v0) ds h) v ds h)
noncomputable def r3_2 : CodeT := fun call _ tm ds h K =>
  kO (unV .not (tg tm 3)) ds h (fun v1 ds h =>
  K .norm (T.set tm 23 v1) ds h)
noncomputable def r3_3 : CodeT := fun call _ tm ds h K =>
  K .norm (T.set tm 2 (.bool false)) ds h
noncomputable def r3_4 : CodeT := fun call _ tm ds h K =>
  kO (lenSl (tg tm 0)) ds h (fun v1 ds h =>
  kO (binV Tryd.prog .gtr 3 true v1 (.int .i64 (600))) ds h (fun v2 ds h =>
  K .norm (T.set tm 26 v2) ds h))
noncomputable def r3_5 : CodeT := fun call _ tm ds h K =>
  K .norm (T.set tm 2 (tg tm 3)) ds h
noncomputable def r3_6 : CodeT := fun call _ tm ds h K =>
  call 8 [] h (fun v h => (fun v0 ds h =>
  K .norm (T.set tm 4 v0) ds h) v ds h)
noncomputable def r3_7 : CodeT := fun call _ tm ds h K =>
  K .norm (T.set tm 5 (.int .i64 (0))) ds h
noncomputable def r3_8 : CodeT := fun call _ tm ds h K =>
  kO (lenSl (tg tm 0)) ds h (fun v2 ds h =>
  kO (binV Tryd.prog .lss 3 false (tg tm 5) v2) ds h (fun v3 ds h =>
  K .norm (T.set tm 32 v3) ds h))
noncomputable def r3_10 : CodeT := fun call _ tm ds h K =>
  kO (indexSl 1 (tg tm 0) (tg tm 5)) ds h (fun v2 ds h =>
  kO (loadOne h v2) ds h (fun v3 ds h =>
  kO (toInt .i64 v3) ds h (fun v4 ds h =>
  kO (binV Tryd.prog .quo 3 true v4 (.int .i64 (4))) ds h (fun v5 ds h =>
  call 9 [v5] h (fun v h => (fun v6 ds h =>
  kA (some (.rw [(.int .i64 (0)), (.string (strB []))], ptrTo h.next)) ds h (fun v7 ds h =>
  kH (withV undef (storeV 2 h v7 v6)) ds (fun v8 ds h =>
  K .norm (T.set tm 6 v7) ds h))) v ds h)))))
noncomputable def r3_11 : CodeT := fun call _ tm ds h K =>
  K .norm (T.set tm 7 (.int .i64 (0))) ds h
noncomputable def r3_12 : CodeT := fun call _ tm ds h K =>
  kO (indexSl 1 (tg tm 0) (tg tm 5)) ds h (fun v2 ds h =>
  kO (loadOne h v2) ds h (fun v3 ds h =>
  kO (binV Tryd.prog .rem 29 true v3 (.int .u16 (4))) ds h (fun v4 ds h =>
  kO (binV Tryd.prog .eql 29 true v4 (.int .u16 (3))) ds h (fun v5 ds h =>
  K .norm (T.set tm 47 v5) ds h))))
noncomputable def r3_13 : CodeT := fun call _ tm ds h K =>
  kO (loadAgg 2 h (tg tm 6)) ds h (fun v1 ds h =>
  call 10 [(tg tm 4), v1] h (fun v h => (fun v2 ds h =>
  kO (tupNth 0 v2) ds h (fun v4 ds h =>
  kO (tupNth 1 v2) ds h (fun v5 ds h =>
  K .norm (T.set tm 7 v5) ds h))) v ds h))
noncomputable def r3_14 : CodeT := fun call _ tm ds h K =>
  kO (loadAgg 2 h (tg tm 6)) ds h (fun v1 ds h =>
  call 11 [(tg tm 4), v1, (tg tm 5)] h (fun v h => (fun v3 ds h =>
  K .norm (T.set tm 7 v3) ds h) v ds h))
noncomputable def r3_15 : CodeT := fun call _ tm ds h K =>
  call 12 [(tg tm 4)] h (fun v h => (fun v1 ds h =>
  kO (tupNth 0 v1) ds h (fun v3 ds h =>
  kO (tupNth 1 v1) ds h (fun v4 ds h =>
  K .norm (T.set (T.set tm 8 v3) 9 v4) ds h))) v ds h)
noncomputable def r3_16 : CodeT := fun call _ tm ds h K => (⟨opStep ⟨fun call env tm ds h K => kO (some (tg tm 7)) ds h K⟩ ⟨fun v tm => tm⟩ ⟨fun env tm => true⟩
  ⟨opStep ⟨fun call env tm ds h K => kO (binV Tryd.prog .neq 30 true (nthD 0 env) (.int .i64 (0))) ds h K⟩ ⟨fun v tm => tm⟩ ⟨fun env tm => true⟩
  ⟨opStep ⟨fun call env tm ds h K => kO (some (nthD 0 env)) ds h K⟩ ⟨fun v tm => tm⟩ ⟨fun env tm => true⟩
  ⟨opStep ⟨fun call env tm ds h K => kO (some (tg tm 9)) ds h K⟩ ⟨fun v tm => tm⟩ ⟨fun env tm => isB false (nthD 0 env)⟩
  ⟨opStep ⟨fun call env tm ds h K => kO (binV Tryd.prog .neq 30 true (nthD 0 env) (.int .i64 (0))) ds h K⟩ ⟨fun v tm => tm⟩ ⟨fun env tm => isB false (nthD 1 env)⟩
  ⟨opStep ⟨fun call env tm ds h K => kO (pickV (nthD 2 env) (.bool true) (nthD 0 env)) ds h K⟩ ⟨fun v tm => tm⟩ ⟨fun env tm => true⟩
  ⟨opStep ⟨fun call env tm ds h K => kO (some (nthD 0 env)) ds h K⟩ ⟨fun v tm => tm⟩ ⟨fun env tm => true⟩
  ⟨opStep ⟨fun call env tm ds h K => kO (some (tg tm 8)) ds h K⟩ ⟨fun v tm => tm⟩ ⟨fun env tm => isB false (nthD 0 env)⟩
  ⟨opStep ⟨fun call env tm ds h K => kO (binV Tryd.prog .lss 3 true (nthD 0 env) (.int .i64 (0))) ds h K⟩ ⟨fun v tm => tm⟩ ⟨fun env tm => isB false (nthD 1 env)⟩
  ⟨opStep ⟨fun call env tm ds h K => kO (pickV (nthD 2 env) (.bool true) (nthD 0 env)) ds h K⟩ ⟨fun v tm => tm⟩ ⟨fun env tm => true⟩
  ⟨opStep ⟨fun call env tm ds h K => kO (some (nthD 0 env)) ds h K⟩ ⟨fun v tm => tm⟩ ⟨fun env tm => true⟩
  ⟨opStep ⟨fun call env tm ds h K => kO (some (tg tm 8)) ds h K⟩ ⟨fun v tm => tm⟩ ⟨fun env tm => isB false (nthD 0 env)⟩
  ⟨opStep ⟨fun call env tm ds h K => kO (binV Tryd.prog .gtr 3 true (nthD 0 env) (.int .i64 (4))) ds h K⟩ ⟨fun v tm => tm⟩ ⟨fun env tm => isB false (nthD 1 env)⟩
  ⟨opStep ⟨fun call env tm ds h K => kO (pickV (nthD 2 env) (.bool true) (nthD 0 env)) ds h K⟩ ⟨fun v tm => (T.set tm 76 v)⟩ ⟨fun env tm => true⟩
  ⟨fun _ _ tm ds h K => K .norm tm ds h⟩⟩⟩⟩⟩⟩⟩⟩⟩⟩⟩⟩⟩⟩⟩ : Box OpsT).f call [] tm ds h K
noncomputable def r3_17 : CodeT := fun call _ tm ds h K =>
  K .norm (T.set tm 2 (.bool false)) ds h
noncomputable def r3_9 : CodeT := fun call _ tm ds h K =>
  kO (binV Tryd.prog .add 3 true (tg tm 5) (.int .i64 (1))) ds h (fun v1 ds h =>
  K .norm (T.set tm 5 v1) ds h)
noncomputable def l3_18 : Box CodeT := ⟨seqC ⟨seqC ⟨r3_8⟩ ⟨condC ⟨fun _ tm => tg tm 32⟩ skipC (exitC 0)⟩⟩ ⟨seqC ⟨blockC 1 ⟨seqC ⟨r3_10⟩ ⟨seqC ⟨r3_11⟩ ⟨seqC ⟨seqC ⟨r3_12⟩ ⟨condC ⟨fun _ tm => tg tm 47⟩ ⟨r3_13⟩ ⟨r3_14⟩⟩⟩ ⟨seqC ⟨r3_15⟩ ⟨seqC ⟨r3_16⟩ ⟨condC ⟨fun _ tm => tg tm 76⟩ ⟨seqC ⟨r3_17⟩ retC⟩ skipC⟩⟩⟩⟩⟩⟩⟩ ⟨r3_9⟩⟩⟩
noncomputable def r3_18 : CodeT := fun call _ tm ds h K =>
  K .norm (T.set tm 10 (.int .i64 (0))) ds h
noncomputable def r3_19 : CodeT := fun call _ tm ds h K =>
  K .norm (T.set tm 11 (.int .i64 (0))) ds h
noncomputable def r3_20 : CodeT := fun call _ tm ds h K =>
  kO (lenSl (tg tm 0)) ds h (fun v2 ds h =>
  kO (binV Tryd.prog .lss 3 false (tg tm 11) v2) ds h (fun v3 ds h =>
  K .norm (T.set tm 80 v3) ds h))
noncomputable def r3_22 : CodeT := fun call _ tm ds h K =>
  K .norm (T.set tm 12 (tg tm 11)) ds h
noncomputable def r3_23 : CodeT := fun call _ tm ds h K =>
  kO (binV Tryd.prog .add 3 true (tg tm 11) (.int .i64 (1))) ds h (fun v1 ds h =>
  K .norm (T.set tm 13 v1) ds h)
noncomputable def r3_24 : CodeT := fun call _ tm ds h K =>
  kO (lenSl (tg tm 0)) ds h (fun v2 ds h =>
  kO (binV Tryd.prog .lss 3 false (tg tm 13) v2) ds h (fun v3 ds h =>
  K .norm (T.set tm 89 v3) ds h))
noncomputable def r3_26 : CodeT := fun call _ tm ds h0 K =>
  (fun (b0 : Nat) (h : H) =>
  kO (indexSl 1 (tg tm 0) (tg tm 13)) ds h (fun v2 ds h =>
  kO (loadOne h v2) ds h (fun v3 ds h =>
  kO (binV Tryd.prog .quo 29 true v3 (.int .u16 (4))) ds h (fun v4 ds h =>
  kO (indexSl 1 (tg tm 0) (tg tm 11)) ds h (fun v7 ds h =>
  kO (loadOne h v7) ds h (fun v8 ds h =>
  kO (binV Tryd.prog .quo 29 true v8 (.int .u16 (4))) ds h (fun v9 ds h =>
  kO (binV Tryd.prog .eql 29 false v4 v9) ds h (fun v10 ds h =>
  K .norm (T.set tm 102 v10) ds h)))))))) h0.next ⟨h0.objs, h0.next + 11⟩
noncomputable def r3_27 : CodeT := fun call _ tm ds h K =>
  K .norm (T.set tm 12 (tg tm 13)) ds h
noncomputable def r3_25 : CodeT := fun call _ tm ds h K =>
  kO (binV Tryd.prog .add 3 true (tg tm 13) (.int .i64 (1))) ds h (fun v1 ds h =>
  K .norm (T.set tm 13 v1) ds h)
noncomputable def l3_28 : Box CodeT := ⟨seqC ⟨seqC ⟨r3_24⟩ ⟨condC ⟨fun _ tm => tg tm 89⟩ skipC (exitC 4)⟩⟩ ⟨seqC ⟨blockC 5 ⟨seqC ⟨r3_26⟩ ⟨condC ⟨fun _ tm => tg tm 102⟩ ⟨r3_27⟩ skipC⟩⟩⟩ ⟨r3_25⟩⟩⟩
noncomputable def r3_28 : CodeT := fun call _ tm ds h K =>
  kO (indexSl 1 (tg tm 0) (tg tm 11)) ds h (fun v3 ds h =>
  kO (loadOne h v3) ds h (fun v4 ds h =>
  kO (toInt .i64 v4) ds h (fun v5 ds h =>
  kO (binV Tryd.prog .quo 3 true v5 (.int .i64 (4))) ds h (fun v6 ds h =>
  call 9 [v6] h (fun v h => (fun v7 ds h =>
  call 13 [(tg tm 4), v7] h (fun v h => (fun v8 ds h =>
  kO (tupNth 0 v8) ds h (fun v10 ds h =>
  kO (tupNth 1 v8) ds h (fun v11 ds h =>
  kO (tupNth 2 v8) ds h (fun v12 ds h =>
  K .norm (T.set (T.set (T.set tm 14 v10) 15 v11) 16 v12) ds h)))) v ds h)) v ds h)))))
noncomputable def r3_29 : CodeT := fun call _ tm ds h K =>
  call 12 [(tg tm 4)] h (fun v h => (fun v1 ds h =>
  kO (tupNth 0 v1) ds h (fun v3 ds h =>
  kO (tupNth 1 v1) ds h (fun v4 ds h =>
  K .norm (T.set (T.set tm 17 v3) 18 v4) ds h))) v ds h)
noncomputable def r3_30 : CodeT := fun call _ tm ds h K => (⟨opStep ⟨fun call env tm ds h K => kO (some (tg tm 16)) ds h K⟩ ⟨fun v tm => tm⟩ ⟨fun env tm => true⟩
  ⟨opStep ⟨fun call env tm ds h K => kO (binV Tryd.prog .neq 30 true (nthD 0 env) (.int .i64 (0))) ds h K⟩ ⟨fun v tm => tm⟩ ⟨fun env tm => true⟩
  ⟨opStep ⟨fun call env tm ds h K => kO (some (nthD 0 env)) ds h K⟩ ⟨fun v tm => tm⟩ ⟨fun env tm => true⟩
  ⟨opStep ⟨fun call env tm ds h K => kO (some (tg tm 18)) ds h K⟩ ⟨fun v tm => tm⟩ ⟨fun env tm => isB false (nthD 0 env)⟩
  ⟨opStep ⟨fun call env tm ds h K => kO (binV Tryd.prog .neq 30 true (nthD 0 env) (.int .i64 (0))) ds h K⟩ ⟨fun v tm => tm⟩ ⟨fun env tm => isB false (nthD 1 env)⟩
  ⟨opStep ⟨fun call env tm ds h K => kO (pickV (nthD 2 env) (.bool true) (nthD 0 env)) ds h K⟩ ⟨fun v tm => tm⟩ ⟨fun env tm => true⟩
  ⟨opStep ⟨fun call env tm ds h K => kO (some (nthD 0 env)) ds h K⟩ ⟨fun v tm => tm⟩ ⟨fun env tm => true⟩
  ⟨opStep ⟨fun call env tm ds h K => kO (some (tg tm 17)) ds h K⟩ ⟨fun v tm => tm⟩ ⟨fun env tm => isB false (nthD 0 env)⟩
  ⟨opStep ⟨fun call env tm ds h K => kO (binV Tryd.prog .gtr 3 true (nthD 0 env) (.int .i64 (4))) ds h K⟩ ⟨fun v tm => tm⟩ ⟨fun env tm => isB false (nthD 1 env)⟩
  ⟨opStep ⟨fun call env tm ds h K => kO (pickV (nthD 2 env) (.bool true) (nthD 0 env)) ds h K⟩ ⟨fun v tm => tm⟩ ⟨fun env tm => true⟩
  ⟨opStep ⟨fun call env tm ds h K => kO (some (nthD 0 env)) ds h K⟩ ⟨fun v tm => tm⟩ ⟨fun env tm => true⟩
  ⟨opStep ⟨fun call env tm ds h K => kO (some (tg tm 15)) ds h K⟩ ⟨fun v tm => tm⟩ ⟨fun env tm => isB false (nthD 0 env)⟩
  ⟨opStep ⟨fun call env tm ds h K => kO (some (tg tm 0)) ds h K⟩ ⟨fun v tm => tm⟩ ⟨fun env tm => isB false (nthD 1 env)⟩
  ⟨opStep ⟨fun call env tm ds h K => kO (some (tg tm 12)) ds h K⟩ ⟨fun v tm => tm⟩ ⟨fun env tm => isB false (nthD 2 env)⟩
  ⟨opStep ⟨fun call env tm ds h K => kO (indexSl 1 (nthD 1 env) (nthD 0 env)) ds h K⟩ ⟨fun v tm => tm⟩ ⟨fun env tm => isB false (nthD 3 env)⟩
  ⟨opStep ⟨fun call env tm ds h K => kO (loadOne h (nthD 0 env)) ds h K⟩ ⟨fun v tm => tm⟩ ⟨fun env tm => isB false (nthD 4 env)⟩
  ⟨opStep ⟨fun call env tm ds h K => kO (binV Tryd.prog .rem 29 true (nthD 0 env) (.int .u16 (4))) ds h K⟩ ⟨fun v tm => tm⟩ ⟨fun env tm => isB false (nthD 5 env)⟩
  ⟨opStep ⟨fun call env tm ds h K => kO (binV Tryd.prog .neq 29 true (nthD 0 env) (.int .u16 (3))) ds h K⟩ ⟨fun v tm => tm⟩ ⟨fun env tm => isB false (nthD 6 env)⟩
  ⟨opStep ⟨fun call env tm ds h K => kO (binV Tryd.prog .neq 4 false (nthD 6 env) (nthD 0 env)) ds h K⟩ ⟨fun v tm => tm⟩ ⟨fun env tm => isB false (nthD 7 env)⟩
  ⟨opStep ⟨fun call env tm ds h K => kO (pickV (nthD 8 env) (.bool true) (nthD 0 env)) ds h K⟩ ⟨fun v tm => tm⟩ ⟨fun env tm => true⟩
  ⟨opStep ⟨fun call env tm ds h K => kO (some (nthD 0 env)) ds h K⟩ ⟨fun v tm => tm⟩ ⟨fun env tm => true⟩
  ⟨opStep ⟨fun call env tm ds h K => kO (some (tg tm 15)) ds h K⟩ ⟨fun v tm => tm⟩ ⟨fun env tm => isB false (nthD 0 env)⟩
  ⟨opStep ⟨fun call env tm ds h K => kO (some (nthD 0 env)) ds h K⟩ ⟨fun v tm => tm⟩ ⟨fun env tm => isB false (nthD 1 env)⟩
  ⟨opStep ⟨fun call env tm ds h K => kO (some (tg tm 14)) ds h K⟩ ⟨fun v tm => tm⟩ ⟨fun env tm => isB true (nthD 0 env)⟩
  ⟨opStep ⟨fun call env tm ds h K => kO (some (tg tm 12)) ds h K⟩ ⟨fun v tm => tm⟩ ⟨fun env tm => isB true (nthD 1 env)⟩
  ⟨opStep ⟨fun call env tm ds h K => kO (binV Tryd.prog .neq 3 false (nthD 1 env) (nthD 0 env)) ds h K⟩ ⟨fun v tm => tm⟩ ⟨fun env tm => isB true (nthD 2 env)⟩
  ⟨opStep ⟨fun call env tm ds h K => kO (pickV (nthD 3 env) (nthD 0 env) (.bool false)) ds h K⟩ ⟨fun v tm => tm⟩ ⟨fun env tm => isB false (nthD 5 env)⟩
  ⟨opStep ⟨fun call env tm ds h K => kO (pickV (nthD 6 env) (.bool true) (nthD 0 env)) ds h K⟩ ⟨fun v tm => tm⟩ ⟨fun env tm => true⟩
  ⟨opStep ⟨fun call env tm ds h K => kO (some (nthD 0 env)) ds h K⟩ ⟨fun v tm => tm⟩ ⟨fun env tm => true⟩
  ⟨opStep ⟨fun call env tm ds h K => kO (some (tg tm 15)) ds h K⟩ ⟨fun v tm => tm⟩ ⟨fun env tm => isB false (nthD 0 env)⟩
  ⟨opStep ⟨fun call env tm ds h K => kO (unV .not (nthD 0 env)) ds h K⟩ ⟨fun v tm => tm⟩ ⟨fun env tm => isB false (nthD 1 env)⟩
  ⟨opStep ⟨fun call env tm ds h K => kO (some (nthD 0 env)) ds h K⟩ ⟨fun v tm => tm⟩ ⟨fun env tm => isB false (nthD 2 env)⟩
  ⟨opStep ⟨fun call env tm ds h K => kO (some (tg tm 14)) ds h K⟩ ⟨fun v tm => tm⟩ ⟨fun env tm => isB true (nthD 0 env)⟩
  ⟨opStep ⟨fun call env tm ds h K => kO (binV Tryd.prog .neq 3 true (nthD 0 env) (.int .i64 (0))) ds h K⟩ ⟨fun v tm => tm⟩ ⟨fun env tm => isB true (nthD 1 env)⟩
  ⟨opStep ⟨fun call env tm ds h K => kO (pickV (nthD 2 env) (nthD 0 env) (.bool false)) ds h K⟩ ⟨fun v tm => tm⟩ ⟨fun env tm => isB false (nthD 5 env)⟩
  ⟨opStep ⟨fun call env tm ds h K => kO (pickV (nthD 6 env) (.bool true) (nthD 0 env)) ds h K⟩ ⟨fun v tm => (T.set tm 157 v)⟩ ⟨fun env tm => true⟩
  ⟨fun _ _ tm ds h K => K .norm tm ds h⟩⟩⟩⟩⟩⟩⟩⟩⟩⟩⟩⟩⟩⟩⟩⟩⟩⟩⟩⟩⟩⟩⟩⟩⟩⟩⟩⟩⟩⟩⟩⟩⟩⟩⟩⟩⟩ : Box OpsT).f call [] tm ds h K
noncomputable def r3_31 : CodeT := fun call _ tm ds h K =>
  K .norm (T.set tm 2 (.bool false)) ds h
noncomputable def r3_32 : CodeT := fun call _ tm ds h K => (⟨opStep ⟨fun call env tm ds h K => kO (some (tg tm 15)) ds h K⟩ ⟨fun v tm => tm⟩ ⟨fun env tm => true⟩
  ⟨opStep ⟨fun call env tm ds h K => kO (some (nthD 0 env)) ds h K⟩ ⟨fun v tm => tm⟩ ⟨fun env tm => true⟩
  ⟨opStep ⟨fun call env tm ds h K => kO (some (tg tm 12)) ds h K⟩ ⟨fun v tm => tm⟩ ⟨fun env tm => isB true (nthD 0 env)⟩
  ⟨opStep ⟨fun call env tm ds h K => kO (some (tg tm 11)) ds h K⟩ ⟨fun v tm => tm⟩ ⟨fun env tm => isB true (nthD 1 env)⟩
  ⟨opStep ⟨fun call env tm ds h K => kO (binV Tryd.prog .eql 3 false (nthD 1 env) (nthD 0 env)) ds h K⟩ ⟨fun v tm => tm⟩ ⟨fun env tm => isB true (nthD 2 env)⟩
  ⟨opStep ⟨fun call env tm ds h K => kO (pickV (nthD 3 env) (nthD 0 env) (.bool false)) ds h K⟩ ⟨fun v tm => (T.set tm 163 v)⟩ ⟨fun env tm => true⟩
  ⟨fun _ _ tm ds h K => K .norm tm ds h⟩⟩⟩⟩⟩⟩⟩ : Box OpsT).f call [] tm ds h K
noncomputable def r3_33 : CodeT := fun call _ tm ds h K =>
  kO (binV Tryd.prog .add 3 true (tg tm 10) (.int .i64 (1))) ds h (fun v1 ds h =>
  K .norm (T.set tm 10 v1) ds h)
noncomputable def r3_21 : CodeT := fun call _ tm ds h K =>
  kO (binV Tryd.prog .add 3 true (tg tm 11) (.int .i64 (1))) ds h (fun v1 ds h =>
  K .norm (T.set tm 11 v1) ds h)
noncomputable def l3_36 : Box CodeT := ⟨seqC ⟨seqC ⟨r3_20⟩ ⟨condC ⟨fun _ tm => tg tm 80⟩ skipC (exitC 2)⟩⟩ ⟨seqC ⟨blockC 3 ⟨seqC ⟨r3_22⟩ ⟨seqC ⟨seqC ⟨r3_23⟩ ⟨blockC 4 (loopB l3_28)⟩⟩ ⟨seqC ⟨r3_28⟩ ⟨seqC ⟨r3_29⟩ ⟨seqC ⟨seqC ⟨r3_30⟩ ⟨condC ⟨fun _ tm => tg tm 157⟩ ⟨seqC ⟨r3_31⟩ retC⟩ skipC⟩⟩ ⟨seqC ⟨r3_32⟩ ⟨condC ⟨fun _ tm => tg tm 163⟩ ⟨r3_33⟩ skipC⟩⟩⟩⟩⟩⟩⟩⟩ ⟨r3_21⟩⟩⟩
noncomputable def r3_34 : CodeT := fun call _ tm ds h K =>
  call 14 [(tg tm 4)] h (fun v h => (fun v1 ds h =>
  kO (tupNth 0 v1) ds h (fun v3 ds h =>
  kO (tupNth 1 v1) ds h (fun v4 ds h =>
  K .norm (T.set (T.set tm 19 v3) 20 v4) ds h))) v ds h)
noncomputable def r3_35 : CodeT := fun call _ tm ds h K => (⟨opStep ⟨fun call env tm ds h K => kO (some (tg tm 3)) ds h K⟩ ⟨fun v tm => tm⟩ ⟨fun env tm => true⟩
  ⟨opStep ⟨fun call env tm ds h K => kO (some (nthD 0 env)) ds h K⟩ ⟨fun v tm => tm⟩ ⟨fun env tm => true⟩
  ⟨opStep ⟨fun call env tm ds h K => kO (some (tg tm 20)) ds h K⟩ ⟨fun v tm => tm⟩ ⟨fun env tm => isB true (nthD 0 env)⟩
  ⟨opStep ⟨fun call env tm ds h K => kO (binV Tryd.prog .eql 30 true (nthD 0 env) (.int .i64 (0))) ds h K⟩ ⟨fun v tm => tm⟩ ⟨fun env tm => isB true (nthD 1 env)⟩
  ⟨opStep ⟨fun call env tm ds h K => kO (pickV (nthD 2 env) (nthD 0 env) (.bool false)) ds h K⟩ ⟨fun v tm => tm⟩ ⟨fun env tm => true⟩
  ⟨opStep ⟨fun call env tm ds h K => kO (some (nthD 0 env)) ds h K⟩ ⟨fun v tm => tm⟩ ⟨fun env tm => true⟩
  ⟨opStep ⟨fun call env tm ds h K => kO (some (tg tm 19)) ds h K⟩ ⟨fun v tm => tm⟩ ⟨fun env tm => isB true (nthD 0 env)⟩
  ⟨opStep ⟨fun call env tm ds h K => kO (some (tg tm 10)) ds h K⟩ ⟨fun v tm => tm⟩ ⟨fun env tm => isB true (nthD 1 env)⟩
  ⟨opStep ⟨fun call env tm ds h K => kO (binV Tryd.prog .eql 3 false (nthD 1 env) (nthD 0 env)) ds h K⟩ ⟨fun v tm => tm⟩ ⟨fun env tm => isB true (nthD 2 env)⟩
  ⟨opStep ⟨fun call env tm ds h K => kO (pickV (nthD 3 env) (nthD 0 env) (.bool false)) ds h K⟩ ⟨fun v tm => tm⟩ ⟨fun env tm => true⟩
  ⟨opStep ⟨fun call env tm ds h K => kO (some (nthD 0 env)) ds h K⟩ ⟨fun v tm => (T.set tm 2 v)⟩ ⟨fun env tm => true⟩
  ⟨fun _ _ tm ds h K => K .norm tm ds h⟩⟩⟩⟩⟩⟩⟩⟩⟩⟩⟩⟩ : Box OpsT).f call [] tm ds h K
noncomputable def c3 : Box CodeT := ⟨seqC ⟨r3_0⟩ ⟨seqC ⟨r3_1⟩ ⟨seqC ⟨seqC ⟨r3_2⟩ ⟨condC ⟨fun _ tm => tg tm 23⟩ ⟨seqC ⟨r3_3⟩ retC⟩ skipC⟩⟩ ⟨seqC ⟨seqC ⟨r3_4⟩ ⟨condC ⟨fun _ tm => tg tm 26⟩ ⟨seqC ⟨r3_5⟩ retC⟩ skipC⟩⟩ ⟨seqC ⟨r3_6⟩ ⟨seqC ⟨seqC ⟨r3_7⟩ ⟨blockC 0 (loopB l3_18)⟩⟩ ⟨seqC ⟨r3_18⟩ ⟨seqC ⟨seqC ⟨r3_19⟩ ⟨blockC 2 (loopB l3_36)⟩⟩ ⟨seqC ⟨r3_34⟩ ⟨seqC ⟨r3_35⟩ retC⟩⟩⟩⟩⟩⟩⟩⟩⟩⟩
noncomputable def q3 : Box (T Value → H → Option (List Value)) := ⟨fun tm h => some [tg tm 2]⟩
/-! 5 cloakroom/cloakroomlaw06.TableDoes -/
noncomputable def r5_0 : CodeT := fun call _ tm ds h K =>
  K .norm (T.set tm 2 (.bool false)) ds h
noncomputable def r5_1 : CodeT := fun call _ tm ds h K =>
  kO (lenSl (tg tm 0)) ds h (fun v1 ds h =>
  kO (binV Tryd.prog .gtr 3 true v1 (.int .i64 (400))) ds h (fun v2 ds h =>
  K .norm (T.set tm 19 v2) ds h))
noncomputable def r5_2 : CodeT := fun call _ tm ds h K =>
  K .norm (T.set tm 2 (.bool true)) ds h
noncomputable def r5_3 : CodeT := fun call _ tm ds h K =>
  call 8 [] h (fun v h => (fun v0 ds h =>
  K .norm (T.set tm 3 v0) ds h) v ds h)
noncomputable def r5_4 : CodeT := fun call _ tm ds h K =>
  kO (aggO (fill [(.slice none 0 0)] (plc [(0, 1)]) [])) ds h (fun v0 ds h =>
  kA (some (.rw [(.slice none 0 0)], ptrTo h.next)) ds h (fun v1 ds h =>
  kH (withV undef (storeV 1 h v1 v0)) ds (fun v2 ds h =>
  K .norm (T.set tm 4 v1) ds h)))
noncomputable def r5_5 : CodeT := fun call _ tm ds h K =>
  K .norm (T.set tm 5 (.int .i64 (0))) ds h
noncomputable def r5_6 : CodeT := fun call _ tm ds h K =>
  kO (lenSl (tg tm 0)) ds h (fun v2 ds h =>
  kO (binV Tryd.prog .lss 3 false (tg tm 5) v2) ds h (fun v3 ds h =>
  K .norm (T.set tm 25 v3) ds h))
noncomputable def r5_8 : CodeT := fun call _ tm ds h K =>
  kO (indexSl 4 (tg tm 0) (tg tm 5)) ds h (fun v2 ds h =>
  kO (loadAgg 4 h v2) ds h (fun v3 ds h =>
  kA (some (.rw [(.int .u8 (0)), (.int .i64 (0)), (.string (strB [])), (.int .i64 (0))], ptrTo h.next)) ds h (fun v4 ds h =>
  kH (withV undef (storeV 4 h v4 v3)) ds (fun v5 ds h =>
  K .norm (T.set tm 6 v4) ds h))))
noncomputable def r5_9 : CodeT := fun call _ tm ds h K =>
  kO (fieldPtr 1 (tg tm 6)) ds h (fun v0 ds h =>
  kO (fieldPtr 1 v0) ds h (fun v1 ds h =>
  kO (loadOne h v1) ds h (fun v2 ds h =>
  kO (lenStr v2) ds h (fun v3 ds h =>
  kO (binV Tryd.prog .gtr 3 true v3 (.int .i64 (10000))) ds h (fun v4 ds h =>
  K .norm (T.set tm 36 v4) ds h)))))
noncomputable def r5_10 : CodeT := fun call _ tm ds h K =>
  K .norm (T.set tm 2 (.bool true)) ds h
noncomputable def r5_11 : CodeT := fun call _ tm ds h K =>
  K .norm (T.set tm 7 (.bool false)) ds h
noncomputable def r5_12 : CodeT := fun call _ tm ds h K =>
  kO (loadAgg 1 h (tg tm 4)) ds h (fun v1 ds h =>
  kO (loadAgg 4 h (tg tm 6)) ds h (fun v2 ds h =>
  call 18 [(tg tm 3), v1, v2] h (fun v h => (fun v3 ds h =>
  kO (tupNth 0 v3) ds h (fun v5 ds h =>
  kO (tupNth 1 v3) ds h (fun v6 ds h =>
  kH (withV undef (storeV 1 h (tg tm 4) v5)) ds (fun v7 ds h =>
  K .norm (T.set tm 7 v6) ds h)))) v ds h)))
noncomputable def r5_13 : CodeT := fun call _ tm ds h K =>
  call 14 [(tg tm 3)] h (fun v h => (fun v1 ds h =>
  kO (tupNth 0 v1) ds h (fun v3 ds h =>
  kO (tupNth 1 v1) ds h (fun v4 ds h =>
  K .norm (T.set (T.set tm 8 v3) 9 v4) ds h))) v ds h)
noncomputable def r5_14 : CodeT := fun call _ tm ds h K =>
  call 12 [(tg tm 3)] h (fun v h => (fun v1 ds h =>
  kO (tupNth 0 v1) ds h (fun v3 ds h =>
  kO (tupNth 1 v1) ds h (fun v4 ds h =>
  K .norm (T.set (T.set tm 10 v3) 11 v4) ds h))) v ds h)
noncomputable def r5_15 : CodeT := fun call _ tm ds h K => (⟨opStep ⟨fun call env tm ds h K => kO (some (tg tm 7)) ds h K⟩ ⟨fun v tm => tm⟩ ⟨fun env tm => true⟩
  ⟨opStep ⟨fun call env tm ds h K => kO (unV .not (nthD 0 env)) ds h K⟩ ⟨fun v tm => tm⟩ ⟨fun env tm => true⟩
  ⟨opStep ⟨fun call env tm ds h K => kO (some (nthD 0 env)) ds h K⟩ ⟨fun v tm => tm⟩ ⟨fun env tm => true⟩
  ⟨opStep ⟨fun call env tm ds h K => kO (some (tg tm 9)) ds h K⟩ ⟨fun v tm => tm⟩ ⟨fun env tm => isB false (nthD 0 env)⟩
  ⟨opStep ⟨fun call env tm ds h K => kO (binV Tryd.prog .neq 30 true (nthD 0 env) (.int .i64 (0))) ds h K⟩ ⟨fun v tm => tm⟩ ⟨fun env tm => isB false (nthD 1 env)⟩
  ⟨opStep ⟨fun call env tm ds h K => kO (pickV (nthD 2 env) (.bool true) (nthD 0 env)) ds h K⟩ ⟨fun v tm => tm⟩ ⟨fun env tm => true⟩
  ⟨opStep ⟨fun call env tm ds h K => kO (some (nthD 0 env)) ds h K⟩ ⟨fun v tm => tm⟩ ⟨fun env tm => true⟩
  ⟨opStep ⟨fun call env tm ds h K => kO (some (tg tm 11)) ds h K⟩ ⟨fun v tm => tm⟩ ⟨fun env tm => isB false (nthD 0 env)⟩
  ⟨opStep ⟨fun call env tm ds h K => kO (binV Tryd.prog .neq 30 true (nthD 0 env) (.int .i64 (0))) ds h K⟩ ⟨fun v tm => tm⟩ ⟨fun env tm => isB false (nthD 1 env)⟩
  ⟨opStep ⟨fun call env tm ds h K => kO (pickV (nthD 2 env) (.bool true) (nthD 0 env)) ds h K⟩ ⟨fun v tm => tm⟩ ⟨fun env tm => true⟩
  ⟨opStep ⟨fun call env tm ds h K => kO (some (nthD 0 env)) ds h K⟩ ⟨fun v tm => tm⟩ ⟨fun env tm => true⟩
  ⟨opStep ⟨fun call env tm ds h K => kO (some (tg tm 8)) ds h K⟩ ⟨fun v tm => tm⟩ ⟨fun env tm => isB false (nthD 0 env)⟩
  ⟨opStep ⟨fun call env tm ds h K => kO (fieldPtr 0 (tg tm 4)) ds h K⟩ ⟨fun v tm => tm⟩ ⟨fun env tm => isB false (nthD 1 env)⟩
  ⟨opStep ⟨fun call env tm ds h K => kO (loadOne h (nthD 0 env)) ds h K⟩ ⟨fun v tm => tm⟩ ⟨fun env tm => isB false (nthD 2 env)⟩
  ⟨opStep ⟨fun call env tm ds h K => kO (lenSl (nthD 0 env)) ds h K⟩ ⟨fun v tm => tm⟩ ⟨fun env tm => isB false (nthD 3 env)⟩
  ⟨opStep ⟨fun call env tm ds h K => kO (binV Tryd.prog .neq 3 false (nthD 3 env) (nthD 0 env)) ds h K⟩ ⟨fun v tm => tm⟩ ⟨fun env tm => isB false (nthD 4 env)⟩
  ⟨opStep ⟨fun call env tm ds h K => kO (pickV (nthD 5 env) (.bool true) (nthD 0 env)) ds h K⟩ ⟨fun v tm => tm⟩ ⟨fun env tm => true⟩
  ⟨opStep ⟨fun call env tm ds h K => kO (some (nthD 0 env)) ds h K⟩ ⟨fun v tm => tm⟩ ⟨fun env tm => true⟩
  ⟨opStep ⟨fun call env tm ds h K => kO (some (tg tm 10)) ds h K⟩ ⟨fun v tm => tm⟩ ⟨fun env tm => isB false (nthD 0 env)⟩
  ⟨opStep ⟨fun call env tm ds h K => kO (binV Tryd.prog .lss 3 true (nthD 0 env) (.int .i64 (0))) ds h K⟩ ⟨fun v tm => tm⟩ ⟨fun env tm => isB false (nthD 1 env)⟩
  ⟨opStep ⟨fun call env tm ds h K => kO (pickV (nthD 2 env) (.bool true) (nthD 0 env)) ds h K⟩ ⟨fun v tm => tm⟩ ⟨fun env tm => true⟩
  ⟨opStep ⟨fun call env tm ds h K => kO (some (nthD 0 env)) ds h K⟩ ⟨fun v tm => tm⟩ ⟨fun env tm => true⟩
  ⟨opStep ⟨fun call env tm ds h K => kO (some (tg tm 10)) ds h K⟩ ⟨fun v tm => tm⟩ ⟨fun env tm => isB false (nthD 0 env)⟩
  ⟨opStep ⟨fun call env tm ds h K => kO (binV Tryd.prog .gtr 3 true (nthD 0 env) (.int .i64 (4))) ds h K⟩ ⟨fun v tm => tm⟩ ⟨fun env tm => isB false (nthD 1 env)⟩
  ⟨opStep ⟨fun call env tm ds h K => kO (pickV (nthD 2 env) (.bool true) (nthD 0 env)) ds h K⟩ ⟨fun v tm => (T.set tm 78 v)⟩ ⟨fun env tm => true⟩
  ⟨fun _ _ tm ds h K => K .norm tm ds h⟩⟩⟩⟩⟩⟩⟩⟩⟩⟩⟩⟩⟩⟩⟩⟩⟩⟩⟩⟩⟩⟩⟩⟩⟩⟩ : Box OpsT).f call [] tm ds h K
noncomputable def r5_16 : CodeT := fun call _ tm ds h K =>
  K .norm (T.set tm 2 (.bool false)) ds h
noncomputable def r5_7 : CodeT := fun call _ tm ds h K =>
  kO (binV Tryd.prog .add 3 true (tg tm 5) (.int .i64 (1))) ds h (fun v1 ds h =>
  K .norm (T.set tm 5 v1) ds h)
noncomputable def l5_17 : Box CodeT := ⟨seqC ⟨seqC ⟨r5_6⟩ ⟨condC ⟨fun _ tm => tg tm 25⟩ skipC (exitC 0)⟩⟩ ⟨seqC ⟨blockC 1 ⟨seqC ⟨r5_8⟩ ⟨seqC ⟨seqC ⟨r5_9⟩ ⟨condC ⟨fun _ tm => tg tm 36⟩ ⟨seqC ⟨r5_10⟩ retC⟩ skipC⟩⟩ ⟨seqC ⟨r5_11⟩ ⟨seqC ⟨r5_12⟩ ⟨seqC ⟨r5_13⟩ ⟨seqC ⟨r5_14⟩ ⟨seqC ⟨r5_15⟩ ⟨condC ⟨fun _ tm => tg tm 78⟩ ⟨seqC ⟨r5_16⟩ retC⟩ skipC⟩⟩⟩⟩⟩⟩⟩⟩⟩ ⟨r5_7⟩⟩⟩
noncomputable def r5_17 : CodeT := fun call _ tm ds h K =>
  call 16 [(tg tm 3)] h (fun v h => (fun v1 ds h =>
  kO (tupNth 0 v1) ds h (fun v3 ds h =>
  kO (tupNth 1 v1) ds h (fun v4 ds h =>
  K .norm (T.set (T.set tm 12 v3) 13 v4) ds h))) v ds h)
noncomputable def r5_18 : CodeT := fun call _ tm ds h K => (⟨opStep ⟨fun call env tm ds h K => kO (some (tg tm 13)) ds h K⟩ ⟨fun v tm => tm⟩ ⟨fun env tm => true⟩
  ⟨opStep ⟨fun call env tm ds h K => kO (binV Tryd.prog .neq 30 true (nthD 0 env) (.int .i64 (0))) ds h K⟩ ⟨fun v tm => tm⟩ ⟨fun env tm => true⟩
  ⟨opStep ⟨fun call env tm ds h K => kO (some (nthD 0 env)) ds h K⟩ ⟨fun v tm => tm⟩ ⟨fun env tm => true⟩
  ⟨opStep ⟨fun call env tm ds h K => kO (some (tg tm 12)) ds h K⟩ ⟨fun v tm => tm⟩ ⟨fun env tm => isB false (nthD 0 env)⟩
  ⟨opStep ⟨fun call env tm ds h K => kO (loadAgg 1 h (tg tm 4)) ds h K⟩ ⟨fun v tm => tm⟩ ⟨fun env tm => isB false (nthD 1 env)⟩
  ⟨opStep ⟨fun call env tm ds h K => call 19 [(nthD 0 env)] h (fun v h => (K) v ds h)⟩ ⟨fun v tm => tm⟩ ⟨fun env tm => isB false (nthD 2 env)⟩
  ⟨opStep ⟨fun call env tm ds h K => call 17 [(nthD 2 env), (nthD 0 env)] h (fun v h => (K) v ds h)⟩ ⟨fun v tm => tm⟩ ⟨fun env tm => isB false (nthD 3 env)⟩
  ⟨opStep ⟨fun call env tm ds h K => kO (unV .not (nthD 0 env)) ds h K⟩ ⟨fun v tm => tm⟩ ⟨fun env tm => isB false (nthD 4 env)⟩
  ⟨opStep ⟨fun call env tm ds h K => kO (pickV (nthD 5 env) (.bool true) (nthD 0 env)) ds h K⟩ ⟨fun v tm => (T.set tm 92 v)⟩ ⟨fun env tm => true⟩
  ⟨fun _ _ tm ds h K => K .norm tm ds h⟩⟩⟩⟩⟩⟩⟩⟩⟩⟩ : Box OpsT).f call [] tm ds h K
noncomputable def r5_19 : CodeT := fun call _ tm ds h K =>
  K .norm (T.set tm 2 (.bool false)) ds h
noncomputable def r5_20 : CodeT := fun call _ tm ds h K =>
  K .norm (T.set tm 14 (.int .i64 (0))) ds h
noncomputable def r5_21 : CodeT := fun call _ tm ds h K =>
  kO (lenSl (tg tm 12)) ds h (fun v2 ds h =>
  kO (binV Tryd.prog .lss 3 false (tg tm 14) v2) ds h (fun v3 ds h =>
  K .norm (T.set tm 96 v3) ds h))
noncomputable def r5_23 : CodeT := fun call _ tm ds h K =>
  kO (aggO (fill [(.int .i64 (0)), (.string (strB []))] (plc [(0, 1), (1, 1)]) [(0, (.int .i64 (9)))])) ds h (fun v2 ds h =>
  kO (indexSl 2 (tg tm 12) (tg tm 14)) ds h (fun v3 ds h =>
  kH (withV undef (storeV 2 h v3 v2)) ds (fun v4 ds h =>
  K .norm tm ds h)))
noncomputable def r5_22 : CodeT := fun call _ tm ds h K =>
  kO (binV Tryd.prog .add 3 true (tg tm 14) (.int .i64 (1))) ds h (fun v1 ds h =>
  K .norm (T.set tm 14 v1) ds h)
noncomputable def l5_25 : Box CodeT := ⟨seqC ⟨seqC ⟨r5_21⟩ ⟨condC ⟨fun _ tm => tg tm 96⟩ skipC (exitC 2)⟩⟩ ⟨seqC ⟨blockC 3 ⟨r5_23⟩⟩ ⟨r5_22⟩⟩⟩
noncomputable def r5_24 : CodeT := fun call _ tm ds h K =>
  call 16 [(tg tm 3)] h (fun v h => (fun v1 ds h =>
  kO (tupNth 0 v1) ds h (fun v3 ds h =>
  kO (tupNth 1 v1) ds h (fun v4 ds h =>
  K .norm (T.set (T.set tm 15 v3) 16 v4) ds h))) v ds h)
noncomputable def r5_25 : CodeT := fun call _ tm ds h K => (⟨opStep ⟨fun call env tm ds h K => kO (some (tg tm 16)) ds h K⟩ ⟨fun v tm => tm⟩ ⟨fun env tm => true⟩
  ⟨opStep ⟨fun call env tm ds h K => kO (binV Tryd.prog .eql 30 true (nthD 0 env) (.int .i64 (0))) ds h K⟩ ⟨fun v tm => tm⟩ ⟨fun env tm => true⟩
  ⟨opStep ⟨fun call env tm ds h K => kO (some (nthD 0 env)) ds h K⟩ ⟨fun v tm => tm⟩ ⟨fun env tm => true⟩
  ⟨opStep ⟨fun call env tm ds h K => kO (some (tg tm 15)) ds h K⟩ ⟨fun v tm => tm⟩ ⟨fun env tm => isB true (nthD 0 env)⟩
  ⟨opStep ⟨fun call env tm ds h K => kO (loadAgg 1 h (tg tm 4)) ds h K⟩ ⟨fun v tm => tm⟩ ⟨fun env tm => isB true (nthD 1 env)⟩
  ⟨opStep ⟨fun call env tm ds h K => call 19 [(nthD 0 env)] h (fun v h => (K) v ds h)⟩ ⟨fun v tm => tm⟩ ⟨fun env tm => isB true (nthD 2 env)⟩
  ⟨opStep ⟨fun call env tm ds h K => call 17 [(nthD 2 env), (nthD 0 env)] h (fun v h => (K) v ds h)⟩ ⟨fun v tm => tm⟩ ⟨fun env tm => isB true (nthD 3 env)⟩
  ⟨opStep ⟨fun call env tm ds h K => kO (pickV (nthD 4 env) (nthD 0 env) (.bool false)) ds h K⟩ ⟨fun v tm => tm⟩ ⟨fun env tm => true⟩
  ⟨opStep ⟨fun call env tm ds h K => kO (some (nthD 0 env)) ds h K⟩ ⟨fun v tm => (T.set tm 2 v)⟩ ⟨fun env tm => true⟩
  ⟨fun _ _ tm ds h K => K .norm tm ds h⟩⟩⟩⟩⟩⟩⟩⟩⟩⟩ : Box OpsT).f call [] tm ds h K
noncomputable def c5 : Box CodeT := ⟨seqC ⟨r5_0⟩ ⟨seqC ⟨seqC ⟨r5_1⟩ ⟨condC ⟨fun _ tm => tg tm 19⟩ ⟨seqC ⟨r5_2⟩ retC⟩ skipC⟩⟩ ⟨seqC ⟨r5_3⟩ ⟨seqC ⟨r5_4⟩ ⟨seqC ⟨seqC ⟨r5_5⟩ ⟨blockC 0 (loopB l5_17)⟩⟩ ⟨seqC ⟨r5_17⟩ ⟨seqC ⟨seqC ⟨r5_18⟩ ⟨condC ⟨fun _ tm => tg tm 92⟩ ⟨seqC ⟨r5_19⟩ retC⟩ skipC⟩⟩ ⟨seqC ⟨seqC ⟨r5_20⟩ ⟨blockC 2 (loopB l5_25)⟩⟩ ⟨seqC ⟨r5_24⟩ ⟨seqC ⟨r5_25⟩ retC⟩⟩⟩⟩⟩⟩⟩⟩⟩⟩
noncomputable def q5 : Box (T Value → H → Option (List Value)) := ⟨fun tm h => some [tg tm 2]⟩
/-! 6 cloakroom/cloakroomlaw06.TableGrows -/
noncomputable def r6_0 : CodeT := fun call _ tm ds h K =>
  K .norm (T.set tm 4 (.bool false)) ds h
noncomputable def r6_1 : CodeT := fun call _ tm ds h K =>
  call 7 [] h (fun v h => (fun v0 ds h =>
  K .norm (T.set tm 5 v0) ds h) v ds h)
noncomputable def r6_2 : CodeT := fun call _ tm ds h K =>
  kO (unV .not (tg tm 5)) ds h (fun v1 ds h =>
  K .norm (T.set tm 27 v1) ds h)
noncomputable def r6_3 : CodeT := fun call _ tm ds h K =>
  K .norm (T.set tm 4 (.bool false)) ds h
noncomputable def r6_4 : CodeT := fun call _ tm ds h K =>
  kO (binV Tryd.prog .lss 3 true (tg tm 0) (.int .i64 (0))) ds h (fun v1 ds h =>
  gd (isB false v1) (fun k => kO (some (tg tm 0)) ds h (k)) ds h (fun v3 ds h =>
  gd (isB false v1) (fun k => kO (binV Tryd.prog .gtr 3 true v3 (.int .i64 (3000))) ds h (k)) ds h (fun v4 ds h =>
  kO (pickV v1 (.bool true) v4) ds h (fun v5 ds h =>
  K .norm (T.set tm 33 v5) ds h))))
noncomputable def r6_5 : CodeT := fun call _ tm ds h K =>
  K .norm (T.set tm 4 (tg tm 5)) ds h
noncomputable def r6_6 : CodeT := fun call _ tm ds h K =>
  call 8 [] h (fun v h => (fun v0 ds h =>
  K .norm (T.set tm 6 v0) ds h) v ds h)
noncomputable def r6_7 : CodeT := fun call _ tm ds h K =>
  K .norm (T.set tm 7 (.int .i64 (0))) ds h
noncomputable def r6_8 : CodeT := fun call _ tm ds h K =>
  kO (binV Tryd.prog .lss 3 false (tg tm 7) (tg tm 0)) ds h (fun v2 ds h =>
  K .norm (T.set tm 38 v2) ds h)
noncomputable def r6_10 : CodeT := fun call _ tm ds h K =>
  call 9 [(tg tm 7)] h (fun v h => (fun v2 ds h =>
  call 11 [(tg tm 6), v2, (tg tm 7)] h (fun v h => (fun v4 ds h =>
  K .norm (T.set tm 8 v4) ds h) v ds h)) v ds h)
noncomputable def r6_11 : CodeT := fun call _ tm ds h K =>
  call 12 [(tg tm 6)] h (fun v h => (fun v1 ds h =>
  kO (tupNth 0 v1) ds h (fun v3 ds h =>
  kO (tupNth 1 v1) ds h (fun v4 ds h =>
  K .norm (T.set (T.set tm 9 v3) 10 v4) ds h))) v ds h)
noncomputable def r6_12 : CodeT := fun call _ tm ds h K => (⟨opStep ⟨fun call env tm ds h K => kO (some (tg tm 8)) ds h K⟩ ⟨fun v tm => tm⟩ ⟨fun env tm => true⟩
  ⟨opStep ⟨fun call env tm ds h K => kO (binV Tryd.prog .neq 30 true (nthD 0 env) (.int .i64 (0))) ds h K⟩ ⟨fun v tm => tm⟩ ⟨fun env tm => true⟩
  ⟨opStep ⟨fun call env tm ds h K => kO (some (nthD 0 env)) ds h K⟩ ⟨fun v tm => tm⟩ ⟨fun env tm => true⟩
  ⟨opStep ⟨fun call env tm ds h K => kO (some (tg tm 10)) ds h K⟩ ⟨fun v tm => tm⟩ ⟨fun env tm => isB false (nthD 0 env)⟩
  ⟨opStep ⟨fun call env tm ds h K => kO (binV Tryd.prog .neq 30 true (nthD 0 env) (.int .i64 (0))) ds h K⟩ ⟨fun v tm => tm⟩ ⟨fun env tm => isB false (nthD 1 env)⟩
  ⟨opStep ⟨fun call env tm ds h K => kO (pickV (nthD 2 env) (.bool true) (nthD 0 env)) ds h K⟩ ⟨fun v tm => tm⟩ ⟨fun env tm => true⟩
  ⟨opStep ⟨fun call env tm ds h K => kO (some (nthD 0 env)) ds h K⟩ ⟨fun v tm => tm⟩ ⟨fun env tm => true⟩
  ⟨opStep ⟨fun call env tm ds h K => kO (some (tg tm 9)) ds h K⟩ ⟨fun v tm => tm⟩ ⟨fun env tm => isB false (nthD 0 env)⟩
  ⟨opStep ⟨fun call env tm ds h K => kO (binV Tryd.prog .gtr 3 true (nthD 0 env) (.int .i64 (4))) ds h K⟩ ⟨fun v tm => tm⟩ ⟨fun env tm => isB false (nthD 1 env)⟩
  ⟨opStep ⟨fun call env tm ds h K => kO (pickV (nthD 2 env) (.bool true) (nthD 0 env)) ds h K⟩ ⟨fun v tm => (T.set tm 60 v)⟩ ⟨fun env tm => true⟩
  ⟨fun _ _ tm ds h K => K .norm tm ds h⟩⟩⟩⟩⟩⟩⟩⟩⟩⟩⟩ : Box OpsT).f call [] tm ds h K
noncomputable def r6_13 : CodeT := fun call _ tm ds h K =>
  K .norm (T.set tm 4 (.bool false)) ds h
noncomputable def r6_9 : CodeT := fun call _ tm ds h K =>
  kO (binV Tryd.prog .add 3 true (tg tm 7) (.int .i64 (1))) ds h (fun v1 ds h =>
  K .norm (T.set tm 7 v1) ds h)
noncomputable def l6_14 : Box CodeT := ⟨seqC ⟨seqC ⟨r6_8⟩ ⟨condC ⟨fun _ tm => tg tm 38⟩ skipC (exitC 0)⟩⟩ ⟨seqC ⟨blockC 1 ⟨seqC ⟨r6_10⟩ ⟨seqC ⟨r6_11⟩ ⟨seqC ⟨r6_12⟩ ⟨condC ⟨fun _ tm => tg tm 60⟩ ⟨seqC ⟨r6_13⟩ retC⟩ skipC⟩⟩⟩⟩⟩ ⟨r6_9⟩⟩⟩
noncomputable def r6_14 : CodeT := fun call _ tm ds h K =>
  call 16 [(tg tm 6)] h (fun v h => (fun v1 ds h =>
  kO (tupNth 0 v1) ds h (fun v3 ds h =>
  kO (tupNth 1 v1) ds h (fun v4 ds h =>
  K .norm (T.set (T.set tm 11 v3) 12 v4) ds h))) v ds h)
noncomputable def r6_15 : CodeT := fun call _ tm ds h K => (⟨opStep ⟨fun call env tm ds h K => kO (some (tg tm 12)) ds h K⟩ ⟨fun v tm => tm⟩ ⟨fun env tm => true⟩
  ⟨opStep ⟨fun call env tm ds h K => kO (binV Tryd.prog .neq 30 true (nthD 0 env) (.int .i64 (0))) ds h K⟩ ⟨fun v tm => tm⟩ ⟨fun env tm => true⟩
  ⟨opStep ⟨fun call env tm ds h K => kO (some (nthD 0 env)) ds h K⟩ ⟨fun v tm => tm⟩ ⟨fun env tm => true⟩
  ⟨opStep ⟨fun call env tm ds h K => kO (some (tg tm 11)) ds h K⟩ ⟨fun v tm => tm⟩ ⟨fun env tm => isB false (nthD 0 env)⟩
  ⟨opStep ⟨fun call env tm ds h K => kO (lenSl (nthD 0 env)) ds h K⟩ ⟨fun v tm => tm⟩ ⟨fun env tm => isB false (nthD 1 env)⟩
  ⟨opStep ⟨fun call env tm ds h K => kO (some (tg tm 0)) ds h K⟩ ⟨fun v tm => tm⟩ ⟨fun env tm => isB false (nthD 2 env)⟩
  ⟨opStep ⟨fun call env tm ds h K => kO (binV Tryd.prog .neq 3 false (nthD 1 env) (nthD 0 env)) ds h K⟩ ⟨fun v tm => tm⟩ ⟨fun env tm => isB false (nthD 3 env)⟩
  ⟨opStep ⟨fun call env tm ds h K => kO (pickV (nthD 4 env) (.bool true) (nthD 0 env)) ds h K⟩ ⟨fun v tm => (T.set tm 73 v)⟩ ⟨fun env tm => true⟩
  ⟨fun _ _ tm ds h K => K .norm tm ds h⟩⟩⟩⟩⟩⟩⟩⟩⟩ : Box OpsT).f call [] tm ds h K
noncomputable def r6_16 : CodeT := fun call _ tm ds h K =>
  K .norm (T.set tm 4 (.bool false)) ds h
noncomputable def r6_17 : CodeT := fun call _ tm ds h K =>
  K .norm (T.set tm 13 (.int .i64 (1))) ds h
noncomputable def r6_18 : CodeT := fun call _ tm ds h K =>
  kO (lenSl (tg tm 11)) ds h (fun v2 ds h =>
  kO (binV Tryd.prog .lss 3 false (tg tm 13) v2) ds h (fun v3 ds h =>
  K .norm (T.set tm 77 v3) ds h))
noncomputable def r6_20 : CodeT := fun call _ tm ds h0 K =>
  (fun (b0 : Nat) (h : H) =>
  kO (binV Tryd.prog .sub 3 true (tg tm 13) (.int .i64 (1))) ds h (fun v2 ds h =>
  kO (indexSl 2 (tg tm 11) v2) ds h (fun v3 ds h =>
  kO (loadAgg 2 h v3) ds h (fun v4 ds h =>
  kO (indexSl 2 (tg tm 11) (tg tm 13)) ds h (fun v7 ds h =>
  kO (loadAgg 2 h v7) ds h (fun v8 ds h =>
  call 20 [v4, v8] h (fun v h => (fun v9 ds h =>
  kO (unV .not v9) ds h (fun v10 ds h =>
  K .norm (T.set tm 90 v10) ds h)) v ds h))))))) h0.next ⟨h0.objs, h0.next + 11⟩
noncomputable def r6_21 : CodeT := fun call _ tm ds h K =>
  K .norm (T.set tm 4 (.bool false)) ds h
noncomputable def r6_19 : CodeT := fun call _ tm ds h K =>
  kO (binV Tryd.prog .add 3 true (tg tm 13) (.int .i64 (1))) ds h (fun v1 ds h =>
  K .norm (T.set tm 13 v1) ds h)
noncomputable def l6_23 : Box CodeT := ⟨seqC ⟨seqC ⟨r6_18⟩ ⟨condC ⟨fun _ tm => tg tm 77⟩ skipC (exitC 2)⟩⟩ ⟨seqC ⟨blockC 3 ⟨seqC ⟨r6_20⟩ ⟨condC ⟨fun _ tm => tg tm 90⟩ ⟨seqC ⟨r6_21⟩ retC⟩ skipC⟩⟩⟩ ⟨r6_19⟩⟩⟩
noncomputable def r6_22 : CodeT := fun call _ tm ds h K =>
  K .norm (T.set tm 14 (.int .i64 (0))) ds h
noncomputable def r6_23 : CodeT := fun call _ tm ds h K =>
  kO (binV Tryd.prog .lss 3 false (tg tm 14) (tg tm 0)) ds h (fun v2 ds h =>
  K .norm (T.set tm 93 v2) ds h)
noncomputable def r6_25 : CodeT := fun call _ tm ds h K =>
  K .norm (T.set tm 15 (tg tm 14)) ds h
noncomputable def r6_26 : CodeT := fun call _ tm ds h K =>
  K .norm (T.set tm 97 (tg tm 1)) ds h
noncomputable def r6_27 : CodeT := fun call _ tm ds h K =>
  kO (binV Tryd.prog .sub 3 true (tg tm 0) (.int .i64 (1))) ds h (fun v1 ds h =>
  kO (binV Tryd.prog .sub 3 false v1 (tg tm 14)) ds h (fun v3 ds h =>
  K .norm (T.set tm 15 v3) ds h))
noncomputable def r6_28 : CodeT := fun call _ tm ds h K =>
  call 9 [(tg tm 15)] h (fun v h => (fun v2 ds h =>
  call 13 [(tg tm 6), v2] h (fun v h => (fun v3 ds h =>
  kO (tupNth 0 v3) ds h (fun v5 ds h =>
  kO (tupNth 1 v3) ds h (fun v6 ds h =>
  kO (tupNth 2 v3) ds h (fun v7 ds h =>
  K .norm (T.set (T.set (T.set tm 16 v5) 17 v6) 18 v7) ds h)))) v ds h)) v ds h)
noncomputable def r6_29 : CodeT := fun call _ tm ds h K => (⟨opStep ⟨fun call env tm ds h K => kO (some (tg tm 18)) ds h K⟩ ⟨fun v tm => tm⟩ ⟨fun env tm => true⟩
  ⟨opStep ⟨fun call env tm ds h K => kO (binV Tryd.prog .neq 30 true (nthD 0 env) (.int .i64 (0))) ds h K⟩ ⟨fun v tm => tm⟩ ⟨fun env tm => true⟩
  ⟨opStep ⟨fun call env tm ds h K => kO (some (nthD 0 env)) ds h K⟩ ⟨fun v tm => tm⟩ ⟨fun env tm => true⟩
  ⟨opStep ⟨fun call env tm ds h K => kO (some (tg tm 17)) ds h K⟩ ⟨fun v tm => tm⟩ ⟨fun env tm => isB false (nthD 0 env)⟩
  ⟨opStep ⟨fun call env tm ds h K => kO (unV .not (nthD 0 env)) ds h K⟩ ⟨fun v tm => tm⟩ ⟨fun env tm => isB false (nthD 1 env)⟩
  ⟨opStep ⟨fun call env tm ds h K => kO (pickV (nthD 2 env) (.bool true) (nthD 0 env)) ds h K⟩ ⟨fun v tm => tm⟩ ⟨fun env tm => true⟩
  ⟨opStep ⟨fun call env tm ds h K => kO (some (nthD 0 env)) ds h K⟩ ⟨fun v tm => tm⟩ ⟨fun env tm => true⟩
  ⟨opStep ⟨fun call env tm ds h K => kO (some (tg tm 16)) ds h K⟩ ⟨fun v tm => tm⟩ ⟨fun env tm => isB false (nthD 0 env)⟩
  ⟨opStep ⟨fun call env tm ds h K => kO (some (tg tm 15)) ds h K⟩ ⟨fun v tm => tm⟩ ⟨fun env tm => isB false (nthD 1 env)⟩
  ⟨opStep ⟨fun call env tm ds h K => kO (binV Tryd.prog .neq 3 false (nthD 1 env) (nthD 0 env)) ds h K⟩ ⟨fun v tm => tm⟩ ⟨fun env tm => isB false (nthD 2 env)⟩
  ⟨opStep ⟨fun call env tm ds h K => kO (pickV (nthD 3 env) (.bool true) (nthD 0 env)) ds h K⟩ ⟨fun v tm => (T.set tm 120 v)⟩ ⟨fun env tm => true⟩
  ⟨fun _ _ tm ds h K => K .norm tm ds h⟩⟩⟩⟩⟩⟩⟩⟩⟩⟩⟩⟩ : Box OpsT).f call [] tm ds h K
noncomputable def r6_30 : CodeT := fun call _ tm ds h K =>
  K .norm (T.set tm 4 (.bool false)) ds h
noncomputable def r6_31 : CodeT := fun call _ tm ds h K =>
  call 9 [(tg tm 15)] h (fun v h => (fun v2 ds h =>
  call 10 [(tg tm 6), v2] h (fun v h => (fun v3 ds h =>
  kO (tupNth 0 v3) ds h (fun v5 ds h =>
  kO (tupNth 1 v3) ds h (fun v6 ds h =>
  K .norm (T.set (T.set tm 19 v5) 20 v6) ds h))) v ds h)) v ds h)
noncomputable def r6_32 : CodeT := fun call _ tm ds h K =>
  call 12 [(tg tm 6)] h (fun v h => (fun v1 ds h =>
  kO (tupNth 0 v1) ds h (fun v3 ds h =>
  kO (tupNth 1 v1) ds h (fun v4 ds h =>
  K .norm (T.set (T.set tm 21 v3) 22 v4) ds h))) v ds h)
noncomputable def r6_33 : CodeT := fun call _ tm ds h K => (⟨opStep ⟨fun call env tm ds h K => kO (some (tg tm 20)) ds h K⟩ ⟨fun v tm => tm⟩ ⟨fun env tm => true⟩
  ⟨opStep ⟨fun call env tm ds h K => kO (binV Tryd.prog .neq 30 true (nthD 0 env) (.int .i64 (0))) ds h K⟩ ⟨fun v tm => tm⟩ ⟨fun env tm => true⟩
  ⟨opStep ⟨fun call env tm ds h K => kO (some (nthD 0 env)) ds h K⟩ ⟨fun v tm => tm⟩ ⟨fun env tm => true⟩
  ⟨opStep ⟨fun call env tm ds h K => kO (some (tg tm 19)) ds h K⟩ ⟨fun v tm => tm⟩ ⟨fun env tm => isB false (nthD 0 env)⟩
  ⟨opStep ⟨fun call env tm ds h K => kO (unV .not (nthD 0 env)) ds h K⟩ ⟨fun v tm => tm⟩ ⟨fun env tm => isB false (nthD 1 env)⟩
  ⟨opStep ⟨fun call env tm ds h K => kO (pickV (nthD 2 env) (.bool true) (nthD 0 env)) ds h K⟩ ⟨fun v tm => tm⟩ ⟨fun env tm => true⟩
  ⟨opStep ⟨fun call env tm ds h K => kO (some (nthD 0 env)) ds h K⟩ ⟨fun v tm => tm⟩ ⟨fun env tm => true⟩
  ⟨opStep ⟨fun call env tm ds h K => kO (some (tg tm 22)) ds h K⟩ ⟨fun v tm => tm⟩ ⟨fun env tm => isB false (nthD 0 env)⟩
  ⟨opStep ⟨fun call env tm ds h K => kO (binV Tryd.prog .neq 30 true (nthD 0 env) (.int .i64 (0))) ds h K⟩ ⟨fun v tm => tm⟩ ⟨fun env tm => isB false (nthD 1 env)⟩
  ⟨opStep ⟨fun call env tm ds h K => kO (pickV (nthD 2 env) (.bool true) (nthD 0 env)) ds h K⟩ ⟨fun v tm => tm⟩ ⟨fun env tm => true⟩
  ⟨opStep ⟨fun call env tm ds h K => kO (some (nthD 0 env)) ds h K⟩ ⟨fun v tm => tm⟩ ⟨fun env tm => true⟩
  ⟨opStep ⟨fun call env tm ds h K => kO (some (tg tm 21)) ds h K⟩ ⟨fun v tm => tm⟩ ⟨fun env tm => isB false (nthD 0 env)⟩
  ⟨opStep ⟨fun call env tm ds h K => kO (binV Tryd.prog .gtr 3 true (nthD 0 env) (.int .i64 (4))) ds h K⟩ ⟨fun v tm => tm⟩ ⟨fun env tm => isB false (nthD 1 env)⟩
  ⟨opStep ⟨fun call env tm ds h K => kO (pickV (nthD 2 env) (.bool true) (nthD 0 env)) ds h K⟩ ⟨fun v tm => (T.set tm 146 v)⟩ ⟨fun env tm => true⟩
  ⟨fun _ _ tm ds h K => K .norm tm ds h⟩⟩⟩⟩⟩⟩⟩⟩⟩⟩⟩⟩⟩⟩⟩ : Box OpsT).f call [] tm ds h K
noncomputable def r6_34 : CodeT := fun call _ tm ds h K =>
  K .norm (T.set tm 4 (.bool false)) ds h
noncomputable def r6_24 : CodeT := fun call _ tm ds h K =>
  kO (binV Tryd.prog .add 3 true (tg tm 14) (.int .i64 (1))) ds h (fun v1 ds h =>
  K .norm (T.set tm 14 v1) ds h)
noncomputable def l6_37 : Box CodeT := ⟨seqC ⟨seqC ⟨r6_23⟩ ⟨condC ⟨fun _ tm => tg tm 93⟩ skipC (exitC 4)⟩⟩ ⟨seqC ⟨blockC 5 ⟨seqC ⟨r6_25⟩ ⟨seqC ⟨seqC ⟨r6_26⟩ ⟨condC ⟨fun _ tm => tg tm 97⟩ ⟨r6_27⟩ skipC⟩⟩ ⟨seqC ⟨r6_28⟩ ⟨seqC ⟨seqC ⟨r6_29⟩ ⟨condC ⟨fun _ tm => tg tm 120⟩ ⟨seqC ⟨r6_30⟩ retC⟩ skipC⟩⟩ ⟨seqC ⟨r6_31⟩ ⟨seqC ⟨r6_32⟩ ⟨seqC ⟨r6_33⟩ ⟨condC ⟨fun _ tm => tg tm 146⟩ ⟨seqC ⟨r6_34⟩ retC⟩ skipC⟩⟩⟩⟩⟩⟩⟩⟩⟩ ⟨r6_24⟩⟩⟩
noncomputable def r6_35 : CodeT := fun call _ tm ds h K =>
  call 14 [(tg tm 6)] h (fun v h => (fun v1 ds h =>
  kO (tupNth 0 v1) ds h (fun v3 ds h =>
  kO (tupNth 1 v1) ds h (fun v4 ds h =>
  K .norm (T.set (T.set tm 23 v3) 24 v4) ds h))) v ds h)
noncomputable def r6_36 : CodeT := fun call _ tm ds h K => (⟨opStep ⟨fun call env tm ds h K => kO (some (tg tm 5)) ds h K⟩ ⟨fun v tm => tm⟩ ⟨fun env tm => true⟩
  ⟨opStep ⟨fun call env tm ds h K => kO (some (nthD 0 env)) ds h K⟩ ⟨fun v tm => tm⟩ ⟨fun env tm => true⟩
  ⟨opStep ⟨fun call env tm ds h K => kO (some (tg tm 24)) ds h K⟩ ⟨fun v tm => tm⟩ ⟨fun env tm => isB true (nthD 0 env)⟩
  ⟨opStep ⟨fun call env tm ds h K => kO (binV Tryd.prog .eql 30 true (nthD 0 env) (.int .i64 (0))) ds h K⟩ ⟨fun v tm => tm⟩ ⟨fun env tm => isB true (nthD 1 env)⟩
  ⟨opStep ⟨fun call env tm ds h K => kO (pickV (nthD 2 env) (nthD 0 env) (.bool false)) ds h K⟩ ⟨fun v tm => tm⟩ ⟨fun env tm => true⟩
  ⟨opStep ⟨fun call env tm ds h K => kO (some (nthD 0 env)) ds h K⟩ ⟨fun v tm => tm⟩ ⟨fun env tm => true⟩
  ⟨opStep ⟨fun call env tm ds h K => kO (some (tg tm 23)) ds h K⟩ ⟨fun v tm => tm⟩ ⟨fun env tm => isB true (nthD 0 env)⟩
  ⟨opStep ⟨fun call env tm ds h K => kO (binV Tryd.prog .eql 3 true (nthD 0 env) (.int .i64 (0))) ds h K⟩ ⟨fun v tm => tm⟩ ⟨fun env tm => isB true (nthD 1 env)⟩
  ⟨opStep ⟨fun call env tm ds h K => kO (pickV (nthD 2 env) (nthD 0 env) (.bool false)) ds h K⟩ ⟨fun v tm => tm⟩ ⟨fun env tm => true⟩
  ⟨opStep ⟨fun call env tm ds h K => kO (some (nthD 0 env)) ds h K⟩ ⟨fun v tm => (T.set tm 4 v)⟩ ⟨fun env tm => true⟩
  ⟨fun _ _ tm ds h K => K .norm tm ds h⟩⟩⟩⟩⟩⟩⟩⟩⟩⟩⟩ : Box OpsT).f call [] tm ds h K
noncomputable def c6 : Box CodeT := ⟨seqC ⟨r6_0⟩ ⟨seqC ⟨r6_1⟩ ⟨seqC ⟨seqC ⟨r6_2⟩ ⟨condC ⟨fun _ tm => tg tm 27⟩ ⟨seqC ⟨r6_3⟩ retC⟩ skipC⟩⟩ ⟨seqC ⟨seqC ⟨r6_4⟩ ⟨condC ⟨fun _ tm => tg tm 33⟩ ⟨seqC ⟨r6_5⟩ retC⟩ skipC⟩⟩ ⟨seqC ⟨r6_6⟩ ⟨seqC ⟨seqC ⟨r6_7⟩ ⟨blockC 0 (loopB l6_14)⟩⟩ ⟨seqC ⟨r6_14⟩ ⟨seqC ⟨seqC ⟨r6_15⟩ ⟨condC ⟨fun _ tm => tg tm 73⟩ ⟨seqC ⟨r6_16⟩ retC⟩ skipC⟩⟩ ⟨seqC ⟨seqC ⟨r6_17⟩ ⟨blockC 2 (loopB l6_23)⟩⟩ ⟨seqC ⟨seqC ⟨r6_22⟩ ⟨blockC 4 (loopB l6_37)⟩⟩ ⟨seqC ⟨r6_35⟩ ⟨seqC ⟨r6_36⟩ retC⟩⟩⟩⟩⟩⟩⟩⟩⟩⟩⟩⟩
noncomputable def q6 : Box (T Value → H → Option (List Value)) := ⟨fun tm h => some [tg tm 4]⟩
/-! 7 cloakroom/cloakroomlaw06.alive -/
noncomputable def r7_0 : CodeT := fun call _ tm ds h K =>
  K .norm (T.set tm 0 (.bool false)) ds h
noncomputable def r7_1 : CodeT := fun call _ tm ds h K =>
  call 8 [] h (fun v h => (fun v0 ds h =>
  K .norm (T.set tm 1 v0) ds h) v ds h)
noncomputable def r7_2 : CodeT := fun call _ tm ds h K =>
  kO (binV Tryd.prog .eql 24 true (tg tm 1) (.pointer none)) ds h (fun v1 ds h =>
  K .norm (T.set tm 12 v1) ds h)
noncomputable def r7_3 : CodeT := fun call _ tm ds h K =>
  K .norm (T.set tm 0 (.bool false)) ds h
noncomputable def r7_4 : CodeT := fun call _ tm ds h K =>
  call 15 [(.int .i64 (0)), (.string (strB [97]))] h (fun v h => (fun v1 ds h =>
  call 11 [(tg tm 1), v1, (.int .i64 (5))] h (fun v h => (fun v2 ds h =>
  K .norm (T.set tm 2 v2) ds h) v ds h)) v ds h)
noncomputable def r7_5 : CodeT := fun call _ tm ds h K =>
  call 15 [(.int .i64 (1)), (.string (strB [97]))] h (fun v h => (fun v1 ds h =>
  call 11 [(tg tm 1), v1, (.int .i64 (6))] h (fun v h => (fun v2 ds h =>
  K .norm (T.set tm 3 v2) ds h) v ds h)) v ds h)
noncomputable def r7_6 : CodeT := fun call _ tm ds h K =>
  call 15 [(.int .i64 (0)), (.string (strB [97]))] h (fun v h => (fun v1 ds h =>
  call 11 [(tg tm 1), v1, (.int .i64 (7))] h (fun v h => (fun v2 ds h =>
  K .norm (T.set tm 4 v2) ds h) v ds h)) v ds h)
noncomputable def r7_7 : CodeT := fun call _ tm ds h K =>
  call 15 [(.int .i64 (0)), (.string (strB [97]))] h (fun v h => (fun v1 ds h =>
  call 13 [(tg tm 1), v1] h (fun v h => (fun v2 ds h =>
  kO (tupNth 0 v2) ds h (fun v4 ds h =>
  kO (tupNth 1 v2) ds h (fun v5 ds h =>
  kO (tupNth 2 v2) ds h (fun v6 ds h =>
  K .norm (T.set (T.set (T.set tm 5 v4) 6 v5) 7 v6) ds h)))) v ds h)) v ds h)
noncomputable def r7_8 : CodeT := fun call _ tm ds h K =>
  call 14 [(tg tm 1)] h (fun v h => (fun v1 ds h =>
  kO (tupNth 0 v1) ds h (fun v3 ds h =>
  kO (tupNth 1 v1) ds h (fun v4 ds h =>
  K .norm (T.set (T.set tm 8 v3) 9 v4) ds h))) v ds h)
noncomputable def r7_9 : CodeT := fun call _ tm ds h K => (⟨opStep ⟨fun call env tm ds h K => kO (some (tg tm 2)) ds h K⟩ ⟨fun v tm => tm⟩ ⟨fun env tm => true⟩
  ⟨opStep ⟨fun call env tm ds h K => kO (binV Tryd.prog .eql 30 true (nthD 0 env) (.int .i64 (0))) ds h K⟩ ⟨fun v tm => tm⟩ ⟨fun env tm => true⟩
  ⟨opStep ⟨fun call env tm ds h K => kO (some (nthD 0 env)) ds h K⟩ ⟨fun v tm => tm⟩ ⟨fun env tm => true⟩
  ⟨opStep ⟨fun call env tm ds h K => kO (some (tg tm 3)) ds h K⟩ ⟨fun v tm => tm⟩ ⟨fun env tm => isB true (nthD 0 env)⟩
  ⟨opStep ⟨fun call env tm ds h K => kO (binV Tryd.prog .eql 30 true (nthD 0 env) (.int .i64 (0))) ds h K⟩ ⟨fun v tm => tm⟩ ⟨fun env tm => isB true (nthD 1 env)⟩
  ⟨opStep ⟨fun call env tm ds h K => kO (pickV (nthD 2 env) (nthD 0 env) (.bool false)) ds h K⟩ ⟨fun v tm => tm⟩ ⟨fun env tm => true⟩
  ⟨opStep ⟨fun call env tm ds h K => kO (some (nthD 0 env)) ds h K⟩ ⟨fun v tm => tm⟩ ⟨fun env tm => true⟩
  ⟨opStep ⟨fun call env tm ds h K => kO (some (tg tm 4)) ds h K⟩ ⟨fun v tm => tm⟩ ⟨fun env tm => isB true (nthD 0 env)⟩
  ⟨opStep ⟨fun call env tm ds h K => kO (binV Tryd.prog .eql 30 true (nthD 0 env) (.int .i64 (0))) ds h K⟩ ⟨fun v tm => tm⟩ ⟨fun env tm => isB true (nthD 1 env)⟩
  ⟨opStep ⟨fun call env tm ds h K => kO (pickV (nthD 2 env) (nthD 0 env) (.bool false)) ds h K⟩ ⟨fun v tm => tm⟩ ⟨fun env tm => true⟩
  ⟨opStep ⟨fun call env tm ds h K => kO (some (nthD 0 env)) ds h K⟩ ⟨fun v tm => tm⟩ ⟨fun env tm => true⟩
  ⟨opStep ⟨fun call env tm ds h K => kO (some (tg tm 7)) ds h K⟩ ⟨fun v tm => tm⟩ ⟨fun env tm => isB true (nthD 0 env)⟩
  ⟨opStep ⟨fun call env tm ds h K => kO (binV Tryd.prog .eql 30 true (nthD 0 env) (.int .i64 (0))) ds h K⟩ ⟨fun v tm => tm⟩ ⟨fun env tm => isB true (nthD 1 env)⟩
  ⟨opStep ⟨fun call env tm ds h K => kO (pickV (nthD 2 env) (nthD 0 env) (.bool false)) ds h K⟩ ⟨fun v tm => tm⟩ ⟨fun env tm => true⟩
  ⟨opStep ⟨fun call env tm ds h K => kO (some (nthD 0 env)) ds h K⟩ ⟨fun v tm => tm⟩ ⟨fun env tm => true⟩
  ⟨opStep ⟨fun call env tm ds h K => kO (some (tg tm 6)) ds h K⟩ ⟨fun v tm => tm⟩ ⟨fun env tm => isB true (nthD 0 env)⟩
  ⟨opStep ⟨fun call env tm ds h K => kO (pickV (nthD 1 env) (nthD 0 env) (.bool false)) ds h K⟩ ⟨fun v tm => tm⟩ ⟨fun env tm => true⟩
  ⟨opStep ⟨fun call env tm ds h K => kO (some (nthD 0 env)) ds h K⟩ ⟨fun v tm => tm⟩ ⟨fun env tm => true⟩
  ⟨opStep ⟨fun call env tm ds h K => kO (some (tg tm 5)) ds h K⟩ ⟨fun v tm => tm⟩ ⟨fun env tm => isB true (nthD 0 env)⟩
  ⟨opStep ⟨fun call env tm ds h K => kO (binV Tryd.prog .eql 3 true (nthD 0 env) (.int .i64 (7))) ds h K⟩ ⟨fun v tm => tm⟩ ⟨fun env tm => isB true (nthD 1 env)⟩
  ⟨opStep ⟨fun call env tm ds h K => kO (pickV (nthD 2 env) (nthD 0 env) (.bool false)) ds h K⟩ ⟨fun v tm => tm⟩ ⟨fun env tm => true⟩
  ⟨opStep ⟨fun call env tm ds h K => kO (some (nthD 0 env)) ds h K⟩ ⟨fun v tm => tm⟩ ⟨fun env tm => true⟩
  ⟨opStep ⟨fun call env tm ds h K => kO (some (tg tm 9)) ds h K⟩ ⟨fun v tm => tm⟩ ⟨fun env tm => isB true (nthD 0 env)⟩
  ⟨opStep ⟨fun call env tm ds h K => kO (binV Tryd.prog .eql 30 true (nthD 0 env) (.int .i64 (0))) ds h K⟩ ⟨fun v tm => tm⟩ ⟨fun env tm => isB true (nthD 1 env)⟩
  ⟨opStep ⟨fun call env tm ds h K => kO (pickV (nthD 2 env) (nthD 0 env) (.bool false)) ds h K⟩ ⟨fun v tm => tm⟩ ⟨fun env tm => true⟩
  ⟨opStep ⟨fun call env tm ds h K => kO (some (nthD 0 env)) ds h K⟩ ⟨fun v tm => tm⟩ ⟨fun env tm => true⟩
  ⟨opStep ⟨fun call env tm ds h K => kO (some (tg tm 8)) ds h K⟩ ⟨fun v tm => tm⟩ ⟨fun env tm => isB true (nthD 0 env)⟩
  ⟨opStep ⟨fun call env tm ds h K => kO (binV Tryd.prog .eql 3 true (nthD 0 env) (.int .i64 (2))) ds h K⟩ ⟨fun v tm => tm⟩ ⟨fun env tm => isB true (nthD 1 env)⟩
  ⟨opStep ⟨fun call env tm ds h K => kO (pickV (nthD 2 env) (nthD 0 env) (.bool false)) ds h K⟩ ⟨fun v tm => tm⟩ ⟨fun env tm => true⟩
  ⟨opStep ⟨fun call env tm ds h K => kO (some (nthD 0 env)) ds h K⟩ ⟨fun v tm => (T.set tm 0 v)⟩ ⟨fun env tm => true⟩
  ⟨fun _ _ tm ds h K => K .norm tm ds h⟩⟩⟩⟩⟩⟩⟩⟩⟩⟩⟩⟩⟩⟩⟩⟩⟩⟩⟩⟩⟩⟩⟩⟩⟩⟩⟩⟩⟩⟩⟩ : Box OpsT).f call [] tm ds h K
noncomputable def c7 : Box CodeT := ⟨seqC ⟨r7_0⟩ ⟨seqC ⟨r7_1⟩ ⟨seqC ⟨seqC ⟨r7_2⟩ ⟨condC ⟨fun _ tm => tg tm 12⟩ ⟨seqC ⟨r7_3⟩ retC⟩ skipC⟩⟩ ⟨seqC ⟨r7_4⟩ ⟨seqC ⟨r7_5⟩ ⟨seqC ⟨r7_6⟩ ⟨seqC ⟨r7_7⟩ ⟨seqC ⟨r7_8⟩ ⟨seqC ⟨r7_9⟩ retC⟩⟩⟩⟩⟩⟩⟩⟩⟩
noncomputable def q7 : Box (T Value → H → Option (List Value)) := ⟨fun tm h => some [tg tm 0]⟩
/-! 8 cloakroom/table.New -/
noncomputable def r8_0 : CodeT := fun call _ tm ds h K =>
  K .norm (T.set tm 0 (.pointer none)) ds h
noncomputable def r8_1 : CodeT := fun call _ tm ds h K =>
  kA (mkSlice [(.slice none 0 0)] 24 h.next (.int .i64 (4)) (.int .i64 (4))) ds h (fun v0 ds h =>
  kO (aggO (fill [(.slice none 0 0), (.int .i64 (0))] (plc [(0, 1), (1, 1)]) [(0, v0)])) ds h (fun v1 ds h =>
  kO (aggO (fill [(.slice none 0 0), (.int .i64 (0)), (.slice none 0 0), (.int .i64 (0)), (.int .i64 (0)), (.int .i64 (0)), (.bool false)] (plc [(0, 2), (2, 2), (4, 1), (5, 1), (6, 1)]) [(0, v1), (4, (.bool true))])) ds h (fun v2 ds h =>
  kA (some (.rw (Value.cells v2).toList, ptrTo h.next)) ds h (fun v3 ds h =>
  K .norm (T.set tm 0 v3) ds h))))
noncomputable def c8 : Box CodeT := ⟨seqC ⟨r8_0⟩ ⟨seqC ⟨r8_1⟩ retC⟩⟩
noncomputable def q8 : Box (T Value → H → Option (List Value)) := ⟨fun tm h => some [tg tm 0]⟩
/-! 9 cloakroom/cloakroomlaw06.many -/
noncomputable def r9_0 : CodeT := fun call _ tm ds h K =>
  kA (some (.rw [(.int .i64 (0)), (.string (strB []))], ptrTo h.next)) ds h (fun v0 ds h =>
  K .norm (T.set tm 2 v0) ds h)
noncomputable def r9_1 : CodeT := fun call _ tm ds h K =>
  kO (binV Tryd.prog .rem 3 true (tg tm 0) (.int .i64 (4))) ds h (fun v1 ds h =>
  kO (binV Tryd.prog .rem 3 true (tg tm 0) (.int .i64 (26))) ds h (fun v3 ds h =>
  kO (binV Tryd.prog .add 3 true (.int .i64 (97)) v3) ds h (fun v4 ds h =>
  kO (toInt .u8 v4) ds h (fun v5 ds h =>
  kO (binV Tryd.prog .quo 3 true (tg tm 0) (.int .i64 (26))) ds h (fun v7 ds h =>
  kO (binV Tryd.prog .rem 3 true v7 (.int .i64 (26))) ds h (fun v8 ds h =>
  kO (binV Tryd.prog .add 3 true (.int .i64 (97)) v8) ds h (fun v9 ds h =>
  kO (toInt .u8 v9) ds h (fun v10 ds h =>
  kO (binV Tryd.prog .quo 3 true (tg tm 0) (.int .i64 (676))) ds h (fun v12 ds h =>
  kO (binV Tryd.prog .rem 3 true v12 (.int .i64 (26))) ds h (fun v13 ds h =>
  kO (binV Tryd.prog .add 3 true (.int .i64 (97)) v13) ds h (fun v14 ds h =>
  kO (toInt .u8 v14) ds h (fun v15 ds h =>
  kA (mkLit 3 h.next (fill (repl [(.int .u8 (0))] 3) (pl 1) [(0, v5), (1, v10), (2, v15)])) ds h (fun v16 ds h =>
  kO (bytesStr h v16) ds h (fun v17 ds h =>
  call 15 [v1, v17] h (fun v h => (fun v18 ds h =>
  kH (withV undef (storeV 2 h (tg tm 2) v18)) ds (fun v19 ds h =>
  K .norm tm ds h)) v ds h)))))))))))))))
noncomputable def c9 : Box CodeT := ⟨seqC ⟨r9_0⟩ ⟨seqC ⟨r9_1⟩ retC⟩⟩
noncomputable def q9 : Box (T Value → H → Option (List Value)) := ⟨fun tm h => (match loadAgg 2 h (tg tm 2) with | some v => (match (some [] : Option (List Value)) with | some l => some (v :: l) | none => none) | none => none)⟩
/-! 10 (*cloakroom/table.Table).Del -/
noncomputable def r10_0 : CodeT := fun call _ tm ds h K =>
  kA (some (.rw (Value.cells (tg tm 1)).toList, ptrTo h.next)) ds h (fun v0 ds h =>
  K .norm (T.set (T.set (T.set tm 3 v0) 4 (.bool false)) 5 (.int .i64 (0))) ds h)
noncomputable def r10_1 : CodeT := fun call _ tm ds h K =>
  kO (loadAgg 2 h (tg tm 3)) ds h (fun v1 ds h =>
  call 21 [(tg tm 0), v1] h (fun v h => (fun v2 ds h =>
  K .norm (T.set tm 6 v2) ds h) v ds h))
noncomputable def r10_2 : CodeT := fun call _ tm ds h K =>
  kO (binV Tryd.prog .neq 30 true (tg tm 6) (.int .i64 (0))) ds h (fun v1 ds h =>
  K .norm (T.set tm 11 v1) ds h)
noncomputable def r10_3 : CodeT := fun call _ tm ds h K =>
  K .norm (T.set (T.set tm 4 (.bool false)) 5 (tg tm 6)) ds h
noncomputable def r10_4 : CodeT := fun call _ tm ds h K =>
  call 22 [(tg tm 0)] h (fun v h => (fun v1 ds h =>
  K .norm tm ds h) v ds h)
noncomputable def r10_5 : CodeT := fun call _ tm ds h0 K =>
  (fun (b0 : Nat) (h : H) =>
  kO (nilChk (tg tm 0)) ds h (fun v1 ds h =>
  kO (fieldPtr 0 v1) ds h (fun v2 ds h =>
  kO (loadAgg 2 h (tg tm 3)) ds h (fun v3 ds h =>
  call 23 [v2, v3] h (fun v h => (fun v4 ds h =>
  gd (isB false v4) (fun k => kO (some (tg tm 0)) ds h k) ds h (fun v6 ds h =>
  gd (isB false v4) (fun k => kO (nilChk v6) ds h k) ds h (fun v7 ds h =>
  gd (isB false v4) (fun k => kO (fieldPtr 2 v7) ds h k) ds h (fun v8 ds h =>
  ite2 (isB false v4) (kO (loadAgg 2 h (tg tm 3)) ds h (fun v9 ds h =>
  ite2 (isB false v4) (call 23 [v8, v9] h (fun v h => (fun v10 ds h =>
  kO (pickV v4 (.bool true) v10) ds h (fun v11 ds h =>
  K .norm (T.set (T.set tm 4 v11) 5 (.int .i64 (0))) ds h)) v ds h))
  (kO (pickV v4 (.bool true) undef) ds h (fun v11 ds h =>
  K .norm (T.set (T.set tm 4 v11) 5 (.int .i64 (0))) ds h))))
  (ite2 (isB false v4) (call 23 [v8, undef] h (fun v h => (fun v10 ds h =>
  kO (pickV v4 (.bool true) v10) ds h (fun v11 ds h =>
  K .norm (T.set (T.set tm 4 v11) 5 (.int .i64 (0))) ds h)) v ds h))
  (kO (pickV v4 (.bool true) undef) ds h (fun v11 ds h =>
  K .norm (T.set (T.set tm 4 v11) 5 (.int .i64 (0))) ds h))))))) v ds h))))) h0.next ⟨h0.objs, h0.next + 14⟩
noncomputable def c10 : Box CodeT := ⟨seqC ⟨r10_0⟩ ⟨seqC ⟨seqC ⟨r10_1⟩ ⟨seqC ⟨r10_2⟩ ⟨condC ⟨fun _ tm => tg tm 11⟩ ⟨seqC ⟨r10_3⟩ retC⟩ skipC⟩⟩⟩ ⟨seqC ⟨r10_4⟩ ⟨seqC ⟨r10_5⟩ retC⟩⟩⟩⟩
noncomputable def q10 : Box (T Value → H → Option (List Value)) := ⟨fun tm h => some [tg tm 4, tg tm 5]⟩
/-! 11 (*cloakroom/table.Table).Put -/
noncomputable def r11_0 : CodeT := fun call _ tm ds h K =>
  kA (some (.rw (Value.cells (tg tm 1)).toList, ptrTo h.next)) ds h (fun v0 ds h =>
  K .norm (T.set (T.set tm 4 v0) 6 (.int .i64 (0))) ds h)
noncomputable def r11_1 : CodeT := fun call _ tm ds h K =>
  kO (loadAgg 2 h (tg tm 4)) ds h (fun v1 ds h =>
  call 21 [(tg tm 0), v1] h (fun v h => (fun v2 ds h =>
  K .norm (T.set tm 7 v2) ds h) v ds h))
noncomputable def r11_2 : CodeT := fun call _ tm ds h K =>
  kO (binV Tryd.prog .neq 30 true (tg tm 7) (.int .i64 (0))) ds h (fun v1 ds h =>
  K .norm (T.set tm 15 v1) ds h)
noncomputable def r11_3 : CodeT := fun call _ tm ds h K =>
  K .norm (T.set tm 6 (tg tm 7)) ds h
noncomputable def r11_4 : CodeT := fun call _ tm ds h K =>
  call 22 [(tg tm 0)] h (fun v h => (fun v1 ds h =>
  K .norm tm ds h) v ds h)
noncomputable def r11_5 : CodeT := fun call _ tm ds h0 K =>
  (fun (b0 : Nat) (h : H) =>
  kO (nilChk (tg tm 0)) ds h (fun v1 ds h =>
  kO (fieldPtr 0 v1) ds h (fun v2 ds h =>
  kO (nilChk (tg tm 0)) ds h (fun v4 ds h =>
  kO (fieldPtr 2 v4) ds h (fun v5 ds h =>
  aO (mkLit 2 (b0 + 6) (fill (repl [(.pointer none)] 2) (pl 1) [(0, v2), (1, v5)])) (fun x6 v6 =>
  kO (lenSl v6) ds h (fun v7 ds h =>
  K .norm (T.set (T.set (T.set tm 25 v6) 26 v7) 27 (.int .i64 (0))) ds (H.put h (b0 + 6) x6)))))))) h0.next ⟨h0.objs, h0.next + 9⟩
noncomputable def r11_6 : CodeT := fun call _ tm ds h K =>
  kO (binV Tryd.prog .lss 3 false (tg tm 27) (tg tm 26)) ds h (fun v0 ds h =>
  K .norm (T.set tm 28 v0) ds h)
noncomputable def r11_7 : CodeT := fun call _ tm ds h K =>
  kO (indexSl 1 (tg tm 25) (tg tm 27)) ds h (fun v0 ds h =>
  kO (loadOne h v0) ds h (fun v1 ds h =>
  K .norm (T.set tm 9 v1) ds h))
noncomputable def r11_8 : CodeT := fun call _ tm ds h K =>
  kO (loadAgg 2 h (tg tm 4)) ds h (fun v1 ds h =>
  call 24 [(tg tm 9), v1] h (fun v h => (fun v2 ds h =>
  K .norm (T.set tm 10 v2) ds h) v ds h))
noncomputable def r11_9 : CodeT := fun call _ tm ds h K =>
  kO (binV Tryd.prog .neq 66 true (tg tm 10) (.pointer none)) ds h (fun v1 ds h =>
  K .norm (T.set tm 35 v1) ds h)
noncomputable def r11_10 : CodeT := fun call _ tm ds h K =>
  kO (nilChk (tg tm 10)) ds h (fun v2 ds h =>
  kO (fieldPtr 2 v2) ds h (fun v3 ds h =>
  kH (withV undef (storeV 1 h v3 (tg tm 2))) ds (fun v4 ds h =>
  K .norm tm ds h)))
noncomputable def r11_11 : CodeT := fun call _ tm ds h K =>
  K .norm (T.set tm 6 (.int .i64 (0))) ds h
noncomputable def r11_12 : CodeT := fun call _ tm ds h K =>
  kO (binV Tryd.prog .add 3 true (tg tm 27) (.int .i64 (1))) ds h (fun v0 ds h =>
  K .norm (T.set tm 27 v0) ds h)
noncomputable def l11_13 : Box CodeT := ⟨seqC ⟨r11_6⟩ ⟨seqC ⟨condC ⟨fun _ tm => tg tm 28⟩ skipC (exitC 0)⟩ ⟨seqC ⟨blockC 1 ⟨seqC ⟨r11_7⟩ ⟨seqC ⟨r11_8⟩ ⟨seqC ⟨r11_9⟩ ⟨condC ⟨fun _ tm => tg tm 35⟩ ⟨seqC ⟨r11_10⟩ ⟨seqC ⟨r11_11⟩ retC⟩⟩ skipC⟩⟩⟩⟩⟩ ⟨r11_12⟩⟩⟩⟩
noncomputable def r11_13 : CodeT := fun call _ tm ds h0 K =>
  (fun (b0 : Nat) (h : H) =>
  kO (nilChk (tg tm 0)) ds h (fun v1 ds h =>
  kO (fieldPtr 0 v1) ds h (fun v2 ds h =>
  kO (loadAgg 2 h (tg tm 4)) ds h (fun v3 ds h =>
  kO (aggO (fill [(.int .i64 (0)), (.string (strB [])), (.int .i64 (0))] (plc [(0, 2), (2, 1)]) [(0, v3), (1, (tg tm 2))])) ds h (fun v5 ds h =>
  call 25 [v2, v5] h (fun v h => (fun v6 ds h =>
  K .norm tm ds h) v ds h)))))) h0.next ⟨h0.objs, h0.next + 7⟩
noncomputable def r11_14 : CodeT := fun call _ tm ds h K =>
  K .norm (T.set tm 6 (.int .i64 (0))) ds h
noncomputable def c11 : Box CodeT := ⟨seqC ⟨r11_0⟩ ⟨seqC ⟨seqC ⟨r11_1⟩ ⟨seqC ⟨r11_2⟩ ⟨condC ⟨fun _ tm => tg tm 15⟩ ⟨seqC ⟨r11_3⟩ retC⟩ skipC⟩⟩⟩ ⟨seqC ⟨r11_4⟩ ⟨seqC ⟨seqC ⟨r11_5⟩ ⟨blockC 0 (loopB l11_13)⟩⟩ ⟨seqC ⟨r11_13⟩ ⟨seqC ⟨r11_14⟩ retC⟩⟩⟩⟩⟩⟩
noncomputable def q11 : Box (T Value → H → Option (List Value)) := ⟨fun tm h => some [tg tm 6]⟩
/-! 12 (*cloakroom/table.Table).Moved -/
noncomputable def r12_0 : CodeT := fun call _ tm ds h K =>
  K .norm (T.set (T.set tm 2 (.int .i64 (0))) 3 (.int .i64 (0))) ds h
noncomputable def r12_1 : CodeT := fun call _ tm ds h K =>
  kO (loadAgg 2 h (.pointer (some ⟨0, 0, none⟩))) ds h (fun v1 ds h =>
  call 21 [(tg tm 0), v1] h (fun v h => (fun v2 ds h =>
  K .norm (T.set tm 4 v2) ds h) v ds h))
noncomputable def r12_2 : CodeT := fun call _ tm ds h K =>
  kO (binV Tryd.prog .neq 30 true (tg tm 4) (.int .i64 (0))) ds h (fun v1 ds h =>
  K .norm (T.set tm 9 v1) ds h)
noncomputable def r12_3 : CodeT := fun call _ tm ds h K =>
  K .norm (T.set (T.set tm 2 (.int .i64 (0))) 3 (tg tm 4)) ds h
noncomputable def r12_4 : CodeT := fun call _ tm ds h K =>
  kO (nilChk (tg tm 0)) ds h (fun v1 ds h =>
  kO (fieldPtr 5 v1) ds h (fun v2 ds h =>
  kO (loadOne h v2) ds h (fun v3 ds h =>
  K .norm (T.set (T.set tm 2 v3) 3 (.int .i64 (0))) ds h)))
noncomputable def c12 : Box CodeT := ⟨seqC ⟨r12_0⟩ ⟨seqC ⟨seqC ⟨r12_1⟩ ⟨seqC ⟨r12_2⟩ ⟨condC ⟨fun _ tm => tg tm 9⟩ ⟨seqC ⟨r12_3⟩ retC⟩ skipC⟩⟩⟩ ⟨seqC ⟨r12_4⟩ retC⟩⟩⟩
noncomputable def q12 : Box (T Value → H → Option (List Value)) := ⟨fun tm h => some [tg tm 2, tg tm 3]⟩
/-! 13 (*cloakroom/table.Table).Get -/
noncomputable def r13_0 : CodeT := fun call _ tm ds h K =>
  kA (some (.rw (Value.cells (tg tm 1)).toList, ptrTo h.next)) ds h (fun v0 ds h =>
  K .norm (T.set (T.set (T.set (T.set tm 3 v0) 4 (.int .i64 (0))) 5 (.bool false)) 6 (.int .i64 (0))) ds h)
noncomputable def r13_1 : CodeT := fun call _ tm ds h K =>
  kO (loadAgg 2 h (tg tm 3)) ds h (fun v1 ds h =>
  call 21 [(tg tm 0), v1] h (fun v h => (fun v2 ds h =>
  K .norm (T.set tm 7 v2) ds h) v ds h))
noncomputable def r13_2 : CodeT := fun call _ tm ds h K =>
  kO (binV Tryd.prog .neq 30 true (tg tm 7) (.int .i64 (0))) ds h (fun v1 ds h =>
  K .norm (T.set tm 15 v1) ds h)
noncomputable def r13_3 : CodeT := fun call _ tm ds h K =>
  K .norm (T.set (T.set (T.set tm 4 (.int .i64 (0))) 5 (.bool false)) 6 (tg tm 7)) ds h
noncomputable def r13_4 : CodeT := fun call _ tm ds h K =>
  call 22 [(tg tm 0)] h (fun v h => (fun v1 ds h =>
  K .norm tm ds h) v ds h)
noncomputable def r13_5 : CodeT := fun call _ tm ds h0 K =>
  (fun (b0 : Nat) (h : H) =>
  kO (nilChk (tg tm 0)) ds h (fun v1 ds h =>
  kO (fieldPtr 0 v1) ds h (fun v2 ds h =>
  kO (nilChk (tg tm 0)) ds h (fun v4 ds h =>
  kO (fieldPtr 2 v4) ds h (fun v5 ds h =>
  aO (mkLit 2 (b0 + 6) (fill (repl [(.pointer none)] 2) (pl 1) [(0, v2), (1, v5)])) (fun x6 v6 =>
  kO (lenSl v6) ds h (fun v7 ds h =>
  K .norm (T.set (T.set (T.set tm 25 v6) 26 v7) 27 (.int .i64 (0))) ds (H.put h (b0 + 6) x6)))))))) h0.next ⟨h0.objs, h0.next + 9⟩
noncomputable def r13_6 : CodeT := fun call _ tm ds h K =>
  kO (binV Tryd.prog .lss 3 false (tg tm 27) (tg tm 26)) ds h (fun v0 ds h =>
  K .norm (T.set tm 28 v0) ds h)
noncomputable def r13_7 : CodeT := fun call _ tm ds h K =>
  kO (indexSl 1 (tg tm 25) (tg tm 27)) ds h (fun v0 ds h =>
  kO (loadOne h v0) ds h (fun v1 ds h =>
  K .norm (T.set tm 9 v1) ds h))
noncomputable def r13_8 : CodeT := fun call _ tm ds h K =>
  kO (loadAgg 2 h (tg tm 3)) ds h (fun v1 ds h =>
  call 24 [(tg tm 9), v1] h (fun v h => (fun v2 ds h =>
  K .norm (T.set tm 10 v2) ds h) v ds h))
noncomputable def r13_9 : CodeT := fun call _ tm ds h K =>
  kO (binV Tryd.prog .neq 66 true (tg tm 10) (.pointer none)) ds h (fun v1 ds h =>
  K .norm (T.set tm 35 v1) ds h)
noncomputable def r13_10 : CodeT := fun call _ tm ds h K =>
  kO (nilChk (tg tm 10)) ds h (fun v1 ds h =>
  kO (fieldPtr 2 v1) ds h (fun v2 ds h =>
  kO (loadOne h v2) ds h (fun v3 ds h =>
  K .norm (T.set (T.set (T.set tm 4 v3) 5 (.bool true)) 6 (.int .i64 (0))) ds h)))
noncomputable def r13_11 : CodeT := fun call _ tm ds h K =>
  kO (binV Tryd.prog .add 3 true (tg tm 27) (.int .i64 (1))) ds h (fun v0 ds h =>
  K .norm (T.set tm 27 v0) ds h)
noncomputable def l13_12 : Box CodeT := ⟨seqC ⟨r13_6⟩ ⟨seqC ⟨condC ⟨fun _ tm => tg tm 28⟩ skipC (exitC 0)⟩ ⟨seqC ⟨blockC 1 ⟨seqC ⟨r13_7⟩ ⟨seqC ⟨r13_8⟩ ⟨seqC ⟨r13_9⟩ ⟨condC ⟨fun _ tm => tg tm 35⟩ ⟨seqC ⟨r13_10⟩ retC⟩ skipC⟩⟩⟩⟩⟩ ⟨r13_11⟩⟩⟩⟩
noncomputable def r13_12 : CodeT := fun call _ tm ds h K =>
  K .norm (T.set (T.set (T.set tm 4 (.int .i64 (0))) 5 (.bool false)) 6 (.int .i64 (0))) ds h
noncomputable def c13 : Box CodeT := ⟨seqC ⟨r13_0⟩ ⟨seqC ⟨seqC ⟨r13_1⟩ ⟨seqC ⟨r13_2⟩ ⟨condC ⟨fun _ tm => tg tm 15⟩ ⟨seqC ⟨r13_3⟩ retC⟩ skipC⟩⟩⟩ ⟨seqC ⟨r13_4⟩ ⟨seqC ⟨seqC ⟨r13_5⟩ ⟨blockC 0 (loopB l13_12)⟩⟩ ⟨seqC ⟨r13_12⟩ retC⟩⟩⟩⟩⟩
noncomputable def q13 : Box (T Value → H → Option (List Value)) := ⟨fun tm h => some [tg tm 4, tg tm 5, tg tm 6]⟩
/-! 14 (*cloakroom/table.Table).Len -/
noncomputable def r14_0 : CodeT := fun call _ tm ds h K =>
  K .norm (T.set (T.set tm 2 (.int .i64 (0))) 3 (.int .i64 (0))) ds h
noncomputable def r14_1 : CodeT := fun call _ tm ds h K =>
  kO (loadAgg 2 h (.pointer (some ⟨0, 0, none⟩))) ds h (fun v1 ds h =>
  call 21 [(tg tm 0), v1] h (fun v h => (fun v2 ds h =>
  K .norm (T.set tm 4 v2) ds h) v ds h))
noncomputable def r14_2 : CodeT := fun call _ tm ds h K =>
  kO (binV Tryd.prog .neq 30 true (tg tm 4) (.int .i64 (0))) ds h (fun v1 ds h =>
  K .norm (T.set tm 9 v1) ds h)
noncomputable def r14_3 : CodeT := fun call _ tm ds h K =>
  K .norm (T.set (T.set tm 2 (.int .i64 (0))) 3 (tg tm 4)) ds h
noncomputable def r14_4 : CodeT := fun call _ tm ds h0 K =>
  (fun (b0 : Nat) (h : H) =>
  kO (nilChk (tg tm 0)) ds h (fun v1 ds h =>
  kO (fieldPtr 0 v1) ds h (fun v2 ds h =>
  kO (fieldPtr 1 v2) ds h (fun v3 ds h =>
  kO (loadOne h v3) ds h (fun v4 ds h =>
  kO (nilChk (tg tm 0)) ds h (fun v6 ds h =>
  kO (fieldPtr 2 v6) ds h (fun v7 ds h =>
  kO (fieldPtr 1 v7) ds h (fun v8 ds h =>
  kO (loadOne h v8) ds h (fun v9 ds h =>
  kO (binV Tryd.prog .add 3 false v4 v9) ds h (fun v10 ds h =>
  K .norm (T.set (T.set tm 2 v10) 3 (.int .i64 (0))) ds h)))))))))) h0.next ⟨h0.objs, h0.next + 13⟩
noncomputable def c14 : Box CodeT := ⟨seqC ⟨r14_0⟩ ⟨seqC ⟨seqC ⟨r14_1⟩ ⟨seqC ⟨r14_2⟩ ⟨condC ⟨fun _ tm => tg tm 9⟩ ⟨seqC ⟨r14_3⟩ retC⟩ skipC⟩⟩⟩ ⟨seqC ⟨r14_4⟩ retC⟩⟩⟩
noncomputable def q14 : Box (T Value → H → Option (List Value)) := ⟨fun tm h => some [tg tm 2, tg tm 3]⟩
/-! 15 cloakroom/cloakroomlaw06.name -/
/-! 16 (*cloakroom/table.Table).All -/
noncomputable def r16_0 : CodeT := fun call _ tm ds h K =>
  K .norm (T.set (T.set tm 2 (.slice none 0 0)) 3 (.int .i64 (0))) ds h
noncomputable def r16_1 : CodeT := fun call _ tm ds h K =>
  kO (loadAgg 2 h (.pointer (some ⟨0, 0, none⟩))) ds h (fun v1 ds h =>
  call 21 [(tg tm 0), v1] h (fun v h => (fun v2 ds h =>
  K .norm (T.set tm 4 v2) ds h) v ds h))
noncomputable def r16_2 : CodeT := fun call _ tm ds h K =>
  kO (binV Tryd.prog .neq 30 true (tg tm 4) (.int .i64 (0))) ds h (fun v1 ds h =>
  K .norm (T.set tm 16 v1) ds h)
noncomputable def r16_3 : CodeT := fun call _ tm ds h K =>
  K .norm (T.set (T.set tm 2 (.slice none 0 0)) 3 (tg tm 4)) ds h
noncomputable def r16_4 : CodeT := fun call _ tm ds h K =>
  K .norm (T.set tm 5 (.slice none 0 0)) ds h
noncomputable def r16_5 : CodeT := fun call _ tm ds h0 K =>
  (fun (b0 : Nat) (h : H) =>
  kO (nilChk (tg tm 0)) ds h (fun v1 ds h =>
  kO (fieldPtr 0 v1) ds h (fun v2 ds h =>
  kO (nilChk (tg tm 0)) ds h (fun v4 ds h =>
  kO (fieldPtr 2 v4) ds h (fun v5 ds h =>
  aO (mkLit 2 (b0 + 6) (fill (repl [(.pointer none)] 2) (pl 1) [(0, v2), (1, v5)])) (fun x6 v6 =>
  kO (lenSl v6) ds h (fun v7 ds h =>
  K .norm (T.set (T.set (T.set tm 24 v6) 25 v7) 26 (.int .i64 (0))) ds (H.put h (b0 + 6) x6)))))))) h0.next ⟨h0.objs, h0.next + 9⟩
noncomputable def r16_6 : CodeT := fun call _ tm ds h K =>
  kO (binV Tryd.prog .lss 3 false (tg tm 26) (tg tm 25)) ds h (fun v0 ds h =>
  K .norm (T.set tm 27 v0) ds h)
noncomputable def r16_7 : CodeT := fun call _ tm ds h K =>
  kO (indexSl 1 (tg tm 24) (tg tm 26)) ds h (fun v0 ds h =>
  kO (loadOne h v0) ds h (fun v1 ds h =>
  K .norm (T.set tm 7 v1) ds h))
noncomputable def r16_8 : CodeT := fun call _ tm ds h K =>
  kO (nilChk (tg tm 7)) ds h (fun v1 ds h =>
  kO (fieldPtr 0 v1) ds h (fun v2 ds h =>
  kO (loadOne h v2) ds h (fun v3 ds h =>
  kO (lenSl v3) ds h (fun v4 ds h =>
  K .norm (T.set (T.set (T.set tm 33 v3) 34 v4) 35 (.int .i64 (0))) ds h))))
noncomputable def r16_9 : CodeT := fun call _ tm ds h K =>
  kO (binV Tryd.prog .lss 3 false (tg tm 35) (tg tm 34)) ds h (fun v0 ds h =>
  K .norm (T.set tm 36 v0) ds h)
noncomputable def r16_10 : CodeT := fun call _ tm ds h K =>
  kO (indexSl 1 (tg tm 33) (tg tm 35)) ds h (fun v0 ds h =>
  kO (loadOne h v0) ds h (fun v1 ds h =>
  K .norm (T.set tm 9 v1) ds h))
noncomputable def r16_11 : CodeT := fun call _ tm ds h K =>
  kO (lenSl (tg tm 9)) ds h (fun v1 ds h =>
  K .norm (T.set (T.set (T.set tm 39 (tg tm 9)) 40 v1) 41 (.int .i64 (0))) ds h)
noncomputable def r16_12 : CodeT := fun call _ tm ds h K =>
  kO (binV Tryd.prog .lss 3 false (tg tm 41) (tg tm 40)) ds h (fun v0 ds h =>
  K .norm (T.set tm 42 v0) ds h)
noncomputable def r16_13 : CodeT := fun call _ tm ds h K =>
  kO (indexSl 3 (tg tm 39) (tg tm 41)) ds h (fun v0 ds h =>
  kO (loadAgg 3 h v0) ds h (fun v1 ds h =>
  kA (some (.rw [(.int .i64 (0)), (.string (strB [])), (.int .i64 (0))], ptrTo h.next)) ds h (fun v2 ds h =>
  kH (withV undef (storeV 3 h v2 v1)) ds (fun v3 ds h =>
  K .norm (T.set tm 11 v2) ds h))))
noncomputable def r16_14 : CodeT := fun call _ tm ds h K =>
  kO (fieldPtr 0 (tg tm 11)) ds h (fun v1 ds h =>
  kO (loadAgg 2 h v1) ds h (fun v2 ds h =>
  kA (mkLit 1 h.next (fill (repl [(.int .i64 (0)), (.string (strB []))] 1) (pl 2) [(0, v2)])) ds h (fun v3 ds h =>
  kH (appendV 2 24 h (tg tm 5) v3) ds (fun v4 ds h =>
  K .norm (T.set tm 5 v4) ds h))))
noncomputable def r16_15 : CodeT := fun call _ tm ds h K =>
  kO (binV Tryd.prog .add 3 true (tg tm 41) (.int .i64 (1))) ds h (fun v0 ds h =>
  K .norm (T.set tm 41 v0) ds h)
noncomputable def l16_16 : Box CodeT := ⟨seqC ⟨r16_12⟩ ⟨seqC ⟨condC ⟨fun _ tm => tg tm 42⟩ skipC (exitC 4)⟩ ⟨seqC ⟨blockC 5 ⟨seqC ⟨r16_13⟩ ⟨r16_14⟩⟩⟩ ⟨r16_15⟩⟩⟩⟩
noncomputable def r16_16 : CodeT := fun call _ tm ds h K =>
  kO (binV Tryd.prog .add 3 true (tg tm 35) (.int .i64 (1))) ds h (fun v0 ds h =>
  K .norm (T.set tm 35 v0) ds h)
noncomputable def l16_18 : Box CodeT := ⟨seqC ⟨r16_9⟩ ⟨seqC ⟨condC ⟨fun _ tm => tg tm 36⟩ skipC (exitC 2)⟩ ⟨seqC ⟨blockC 3 ⟨seqC ⟨r16_10⟩ ⟨seqC ⟨r16_11⟩ ⟨blockC 4 (loopB l16_16)⟩⟩⟩⟩ ⟨r16_16⟩⟩⟩⟩
noncomputable def r16_17 : CodeT := fun call _ tm ds h K =>
  kO (binV Tryd.prog .add 3 true (tg tm 26) (.int .i64 (1))) ds h (fun v0 ds h =>
  K .norm (T.set tm 26 v0) ds h)
noncomputable def l16_20 : Box CodeT := ⟨seqC ⟨r16_6⟩ ⟨seqC ⟨condC ⟨fun _ tm => tg tm 27⟩ skipC (exitC 0)⟩ ⟨seqC ⟨blockC 1 ⟨seqC ⟨r16_7⟩ ⟨seqC ⟨r16_8⟩ ⟨blockC 2 (loopB l16_18)⟩⟩⟩⟩ ⟨r16_17⟩⟩⟩⟩
noncomputable def r16_18 : CodeT := fun call _ tm ds h K =>
  call 26 [(tg tm 5), (.func (.func 27) #[] #[])] h (fun v h => (fun v1 ds h =>
  K .norm tm ds h) v ds h)
noncomputable def r16_19 : CodeT := fun call _ tm ds h K =>
  K .norm (T.set (T.set tm 2 (tg tm 5)) 3 (.int .i64 (0))) ds h
noncomputable def c16 : Box CodeT := ⟨seqC ⟨r16_0⟩ ⟨seqC ⟨seqC ⟨r16_1⟩ ⟨seqC ⟨r16_2⟩ ⟨condC ⟨fun _ tm => tg tm 16⟩ ⟨seqC ⟨r16_3⟩ retC⟩ skipC⟩⟩⟩ ⟨seqC ⟨r16_4⟩ ⟨seqC ⟨seqC ⟨r16_5⟩ ⟨blockC 0 (loopB l16_20)⟩⟩ ⟨seqC ⟨r16_18⟩ ⟨seqC ⟨r16_19⟩ retC⟩⟩⟩⟩⟩⟩
noncomputable def q16 : Box (T Value → H → Option (List Value)) := ⟨fun tm h => some [tg tm 2, tg tm 3]⟩
/-! 17 cloakroom/cloakroomref01.SameNames -/
noncomputable def r17_0 : CodeT := fun call _ tm ds h K =>
  K .norm (T.set tm 4 (.bool false)) ds h
noncomputable def r17_1 : CodeT := fun call _ tm ds h K =>
  kO (lenSl (tg tm 0)) ds h (fun v1 ds h =>
  kO (lenSl (tg tm 1)) ds h (fun v3 ds h =>
  kO (binV Tryd.prog .neq 3 false v1 v3) ds h (fun v4 ds h =>
  K .norm (T.set tm 10 v4) ds h)))
noncomputable def r17_2 : CodeT := fun call _ tm ds h K =>
  K .norm (T.set tm 4 (.bool false)) ds h
noncomputable def r17_3 : CodeT := fun call _ tm ds h K =>
  K .norm (T.set tm 5 (.int .i64 (0))) ds h
noncomputable def r17_4 : CodeT := fun call _ tm ds h K =>
  kO (lenSl (tg tm 0)) ds h (fun v2 ds h =>
  kO (binV Tryd.prog .lss 3 false (tg tm 5) v2) ds h (fun v3 ds h =>
  K .norm (T.set tm 14 v3) ds h))
noncomputable def r17_6 : CodeT := fun call _ tm ds h0 K =>
  (fun (b0 : Nat) (h : H) =>
  kO (indexSl 2 (tg tm 0) (tg tm 5)) ds h (fun v2 ds h =>
  kO (loadAgg 2 h v2) ds h (fun v3 ds h =>
  kO (indexSl 2 (tg tm 1) (tg tm 5)) ds h (fun v6 ds h =>
  kO (loadAgg 2 h v6) ds h (fun v7 ds h =>
  kO (binV Tryd.prog .neq 27 false v3 v7) ds h (fun v8 ds h =>
  K .norm (T.set tm 25 v8) ds h)))))) h0.next ⟨h0.objs, h0.next + 9⟩
noncomputable def r17_7 : CodeT := fun call _ tm ds h K =>
  K .norm (T.set tm 4 (.bool false)) ds h
noncomputable def r17_5 : CodeT := fun call _ tm ds h K =>
  kO (binV Tryd.prog .add 3 true (tg tm 5) (.int .i64 (1))) ds h (fun v1 ds h =>
  K .norm (T.set tm 5 v1) ds h)
noncomputable def l17_8 : Box CodeT := ⟨seqC ⟨seqC ⟨r17_4⟩ ⟨condC ⟨fun _ tm => tg tm 14⟩ skipC (exitC 0)⟩⟩ ⟨seqC ⟨blockC 1 ⟨seqC ⟨r17_6⟩ ⟨condC ⟨fun _ tm => tg tm 25⟩ ⟨seqC ⟨r17_7⟩ retC⟩ skipC⟩⟩⟩ ⟨r17_5⟩⟩⟩
noncomputable def r17_8 : CodeT := fun call _ tm ds h K =>
  K .norm (T.set tm 4 (.bool true)) ds h
noncomputable def c17 : Box CodeT := ⟨seqC ⟨r17_0⟩ ⟨seqC ⟨seqC ⟨r17_1⟩ ⟨condC ⟨fun _ tm => tg tm 10⟩ ⟨seqC ⟨r17_2⟩ retC⟩ skipC⟩⟩ ⟨seqC ⟨seqC ⟨r17_3⟩ ⟨blockC 0 (loopB l17_8)⟩⟩ ⟨seqC ⟨r17_8⟩ retC⟩⟩⟩⟩
noncomputable def q17 : Box (T Value → H → Option (List Value)) := ⟨fun tm h => some [tg tm 4]⟩
/-! 18 cloakroom/cloakroomlaw06.one -/
noncomputable def r18_0 : CodeT := fun call _ tm ds h K =>
  kA (some (.rw (Value.cells (tg tm 1)).toList, ptrTo h.next)) ds h (fun v0 ds h =>
  kA (some (.rw (Value.cells (tg (T.set tm 4 v0) 2)).toList, ptrTo h.next)) ds h (fun v1 ds h =>
  kA (some (.rw [(.slice none 0 0)], ptrTo h.next)) ds h (fun v2 ds h =>
  K .norm (T.set (T.set (T.set (T.set tm 4 v0) 5 v1) 6 v2) 7 (.bool false)) ds h)))
noncomputable def r18_1 : CodeT := fun call _ tm ds h K =>
  kO (fieldPtr 0 (tg tm 5)) ds h (fun v0 ds h =>
  kO (loadOne h v0) ds h (fun v1 ds h =>
  kO (binV Tryd.prog .rem 5 true v1 (.int .u8 (4))) ds h (fun v2 ds h =>
  K .norm (T.set tm 24 v2) ds h)))
noncomputable def r18_2 : CodeT := fun call _ tm ds h K =>
  kO (binV Tryd.prog .eql 5 true (tg tm 24) (.int .u8 (0))) ds h (fun v0 ds h =>
  K .norm (T.set tm 25 v0) ds h)
noncomputable def r18_3 : CodeT := fun call _ tm ds h K =>
  kO (fieldPtr 1 (tg tm 5)) ds h (fun v1 ds h =>
  kO (loadAgg 2 h v1) ds h (fun v2 ds h =>
  call 13 [(tg tm 0), v2] h (fun v h => (fun v3 ds h =>
  kO (tupNth 0 v3) ds h (fun v5 ds h =>
  kO (tupNth 1 v3) ds h (fun v6 ds h =>
  kO (tupNth 2 v3) ds h (fun v7 ds h =>
  K .norm (T.set (T.set (T.set tm 8 v5) 9 v6) 10 v7) ds h)))) v ds h)))
noncomputable def r18_4 : CodeT := fun call _ tm ds h K =>
  kO (loadAgg 1 h (tg tm 4)) ds h (fun v0 ds h =>
  kO (fieldPtr 1 (tg tm 5)) ds h (fun v1 ds h =>
  kO (loadAgg 2 h v1) ds h (fun v2 ds h =>
  call 31 [v0, v2] h (fun v h => (fun v3 ds h =>
  kO (tupNth 0 v3) ds h (fun v5 ds h =>
  kO (tupNth 1 v3) ds h (fun v6 ds h =>
  kO (tupNth 2 v3) ds h (fun v7 ds h =>
  K .norm (T.set (T.set (T.set tm 11 v5) 12 v6) 13 v7) ds h)))) v ds h))))
noncomputable def r18_5 : CodeT := fun call _ tm ds h K => (⟨opStep ⟨fun call env tm ds h K => kO (loadAgg 1 h (tg tm 4)) ds h K⟩ ⟨fun v tm => tm⟩ ⟨fun env tm => true⟩
  ⟨opStep ⟨fun call env tm ds h K => kO (some (tg tm 8)) ds h K⟩ ⟨fun v tm => tm⟩ ⟨fun env tm => true⟩
  ⟨opStep ⟨fun call env tm ds h K => kO (some (tg tm 11)) ds h K⟩ ⟨fun v tm => tm⟩ ⟨fun env tm => true⟩
  ⟨opStep ⟨fun call env tm ds h K => kO (binV Tryd.prog .eql 3 false (nthD 1 env) (nthD 0 env)) ds h K⟩ ⟨fun v tm => tm⟩ ⟨fun env tm => true⟩
  ⟨opStep ⟨fun call env tm ds h K => kO (some (nthD 0 env)) ds h K⟩ ⟨fun v tm => tm⟩ ⟨fun env tm => true⟩
  ⟨opStep ⟨fun call env tm ds h K => kO (some (tg tm 9)) ds h K⟩ ⟨fun v tm => tm⟩ ⟨fun env tm => isB true (nthD 0 env)⟩
  ⟨opStep ⟨fun call env tm ds h K => kO (some (tg tm 12)) ds h K⟩ ⟨fun v tm => tm⟩ ⟨fun env tm => isB true (nthD 1 env)⟩
  ⟨opStep ⟨fun call env tm ds h K => kO (binV Tryd.prog .eql 4 false (nthD 1 env) (nthD 0 env)) ds h K⟩ ⟨fun v tm => tm⟩ ⟨fun env tm => isB true (nthD 2 env)⟩
  ⟨opStep ⟨fun call env tm ds h K => kO (pickV (nthD 3 env) (nthD 0 env) (.bool false)) ds h K⟩ ⟨fun v tm => tm⟩ ⟨fun env tm => true⟩
  ⟨opStep ⟨fun call env tm ds h K => kO (some (nthD 0 env)) ds h K⟩ ⟨fun v tm => tm⟩ ⟨fun env tm => true⟩
  ⟨opStep ⟨fun call env tm ds h K => kO (some (tg tm 10)) ds h K⟩ ⟨fun v tm => tm⟩ ⟨fun env tm => isB true (nthD 0 env)⟩
  ⟨opStep ⟨fun call env tm ds h K => kO (some (tg tm 13)) ds h K⟩ ⟨fun v tm => tm⟩ ⟨fun env tm => isB true (nthD 1 env)⟩
  ⟨opStep ⟨fun call env tm ds h K => kO (binV Tryd.prog .eql 3 false (nthD 1 env) (nthD 0 env)) ds h K⟩ ⟨fun v tm => tm⟩ ⟨fun env tm => isB true (nthD 2 env)⟩
  ⟨opStep ⟨fun call env tm ds h K => kO (pickV (nthD 3 env) (nthD 0 env) (.bool false)) ds h K⟩ ⟨fun v tm => tm⟩ ⟨fun env tm => true⟩
  ⟨opStep ⟨fun call env tm ds h K => kH (withV undef (storeV 1 h (tg tm 6) (nthD 13 env))) ds (K)⟩ ⟨fun v tm => tm⟩ ⟨fun env tm => true⟩
  ⟨opStep ⟨fun call env tm ds h K => kO (some (nthD 1 env)) ds h K⟩ ⟨fun v tm => (T.set tm 7 v)⟩ ⟨fun env tm => true⟩
  ⟨fun _ _ tm ds h K => K .norm tm ds h⟩⟩⟩⟩⟩⟩⟩⟩⟩⟩⟩⟩⟩⟩⟩⟩⟩ : Box OpsT).f call [] tm ds h K
noncomputable def r18_6 : CodeT := fun call _ tm ds h K =>
  kO (binV Tryd.prog .eql 5 true (tg tm 24) (.int .u8 (3))) ds h (fun v0 ds h =>
  K .norm (T.set tm 57 v0) ds h)
noncomputable def r18_7 : CodeT := fun call _ tm ds h K =>
  kO (fieldPtr 1 (tg tm 5)) ds h (fun v1 ds h =>
  kO (loadAgg 2 h v1) ds h (fun v2 ds h =>
  call 10 [(tg tm 0), v2] h (fun v h => (fun v3 ds h =>
  kO (tupNth 0 v3) ds h (fun v5 ds h =>
  kO (tupNth 1 v3) ds h (fun v6 ds h =>
  K .norm (T.set (T.set tm 14 v5) 15 v6) ds h))) v ds h)))
noncomputable def r18_8 : CodeT := fun call _ tm ds h K =>
  kO (loadAgg 1 h (tg tm 4)) ds h (fun v0 ds h =>
  kO (fieldPtr 1 (tg tm 5)) ds h (fun v1 ds h =>
  kO (loadAgg 2 h v1) ds h (fun v2 ds h =>
  call 32 [v0, v2] h (fun v h => (fun v3 ds h =>
  kO (tupNth 0 v3) ds h (fun v5 ds h =>
  kO (tupNth 1 v3) ds h (fun v6 ds h =>
  kO (tupNth 2 v3) ds h (fun v7 ds h =>
  kA (some (.rw [(.slice none 0 0)], ptrTo h.next)) ds h (fun v8 ds h =>
  kH (withV undef (storeV 1 h v8 v5)) ds (fun v9 ds h =>
  K .norm (T.set (T.set (T.set tm 16 v8) 17 v6) 18 v7) ds h)))))) v ds h))))
noncomputable def r18_9 : CodeT := fun call _ tm ds h K => (⟨opStep ⟨fun call env tm ds h K => kO (loadAgg 1 h (tg tm 16)) ds h K⟩ ⟨fun v tm => tm⟩ ⟨fun env tm => true⟩
  ⟨opStep ⟨fun call env tm ds h K => kO (some (tg tm 14)) ds h K⟩ ⟨fun v tm => tm⟩ ⟨fun env tm => true⟩
  ⟨opStep ⟨fun call env tm ds h K => kO (some (tg tm 17)) ds h K⟩ ⟨fun v tm => tm⟩ ⟨fun env tm => true⟩
  ⟨opStep ⟨fun call env tm ds h K => kO (binV Tryd.prog .eql 4 false (nthD 1 env) (nthD 0 env)) ds h K⟩ ⟨fun v tm => tm⟩ ⟨fun env tm => true⟩
  ⟨opStep ⟨fun call env tm ds h K => kO (some (nthD 0 env)) ds h K⟩ ⟨fun v tm => tm⟩ ⟨fun env tm => true⟩
  ⟨opStep ⟨fun call env tm ds h K => kO (some (tg tm 15)) ds h K⟩ ⟨fun v tm => tm⟩ ⟨fun env tm => isB true (nthD 0 env)⟩
  ⟨opStep ⟨fun call env tm ds h K => kO (some (tg tm 18)) ds h K⟩ ⟨fun v tm => tm⟩ ⟨fun env tm => isB true (nthD 1 env)⟩
  ⟨opStep ⟨fun call env tm ds h K => kO (binV Tryd.prog .eql 3 false (nthD 1 env) (nthD 0 env)) ds h K⟩ ⟨fun v tm => tm⟩ ⟨fun env tm => isB true (nthD 2 env)⟩
  ⟨opStep ⟨fun call env tm ds h K => kO (pickV (nthD 3 env) (nthD 0 env) (.bool false)) ds h K⟩ ⟨fun v tm => tm⟩ ⟨fun env tm => true⟩
  ⟨opStep ⟨fun call env tm ds h K => kH (withV undef (storeV 1 h (tg tm 6) (nthD 8 env))) ds (K)⟩ ⟨fun v tm => tm⟩ ⟨fun env tm => true⟩
  ⟨opStep ⟨fun call env tm ds h K => kO (some (nthD 1 env)) ds h K⟩ ⟨fun v tm => (T.set tm 7 v)⟩ ⟨fun env tm => true⟩
  ⟨fun _ _ tm ds h K => K .norm tm ds h⟩⟩⟩⟩⟩⟩⟩⟩⟩⟩⟩⟩ : Box OpsT).f call [] tm ds h K
noncomputable def r18_10 : CodeT := fun call _ tm ds h K =>
  kO (fieldPtr 1 (tg tm 5)) ds h (fun v1 ds h =>
  kO (loadAgg 2 h v1) ds h (fun v2 ds h =>
  kO (fieldPtr 3 (tg tm 5)) ds h (fun v3 ds h =>
  kO (loadOne h v3) ds h (fun v4 ds h =>
  call 11 [(tg tm 0), v2, v4] h (fun v h => (fun v5 ds h =>
  K .norm (T.set tm 19 v5) ds h) v ds h)))))
noncomputable def r18_11 : CodeT := fun call _ tm ds h K =>
  kO (loadAgg 1 h (tg tm 4)) ds h (fun v0 ds h =>
  kO (fieldPtr 1 (tg tm 5)) ds h (fun v1 ds h =>
  kO (loadAgg 2 h v1) ds h (fun v2 ds h =>
  kO (fieldPtr 3 (tg tm 5)) ds h (fun v3 ds h =>
  kO (loadOne h v3) ds h (fun v4 ds h =>
  call 33 [v0, v2, v4] h (fun v h => (fun v5 ds h =>
  kO (tupNth 0 v5) ds h (fun v7 ds h =>
  kO (tupNth 1 v5) ds h (fun v8 ds h =>
  kA (some (.rw [(.slice none 0 0)], ptrTo h.next)) ds h (fun v9 ds h =>
  kH (withV undef (storeV 1 h v9 v7)) ds (fun v10 ds h =>
  K .norm (T.set (T.set tm 20 v9) 21 v8) ds h))))) v ds h))))))
noncomputable def r18_12 : CodeT := fun call _ tm ds h K =>
  kO (loadAgg 1 h (tg tm 20)) ds h (fun v0 ds h =>
  kO (binV Tryd.prog .eql 3 false (tg tm 19) (tg tm 21)) ds h (fun v3 ds h =>
  kH (withV undef (storeV 1 h (tg tm 6) v0)) ds (fun v4 ds h =>
  K .norm (T.set tm 7 v3) ds h)))
noncomputable def c18 : Box CodeT := ⟨seqC ⟨r18_0⟩ ⟨seqC ⟨seqC ⟨r18_1⟩ ⟨blockC 0 ⟨seqC ⟨r18_2⟩ ⟨condC ⟨fun _ tm => tg tm 25⟩ ⟨seqC ⟨r18_3⟩ ⟨seqC ⟨r18_4⟩ ⟨seqC ⟨r18_5⟩ retC⟩⟩⟩ ⟨seqC ⟨r18_6⟩ ⟨condC ⟨fun _ tm => tg tm 57⟩ ⟨seqC ⟨r18_7⟩ ⟨seqC ⟨r18_8⟩ ⟨seqC ⟨r18_9⟩ retC⟩⟩⟩ skipC⟩⟩⟩⟩⟩⟩ ⟨seqC ⟨r18_10⟩ ⟨seqC ⟨r18_11⟩ ⟨seqC ⟨r18_12⟩ retC⟩⟩⟩⟩⟩
noncomputable def q18 : Box (T Value → H → Option (List Value)) := ⟨fun tm h => (match loadAgg 1 h (tg tm 6) with | some v => (match (some [tg tm 7] : Option (List Value)) with | some l => some (v :: l) | none => none) | none => none)⟩
/-! 19 cloakroom/cloakroomref06.All -/
noncomputable def r19_0 : CodeT := fun call _ tm ds h K =>
  kA (some (.rw (Value.cells (tg tm 0)).toList, ptrTo h.next)) ds h (fun v0 ds h =>
  K .norm (T.set (T.set tm 1 v0) 2 (.slice none 0 0)) ds h)
noncomputable def r19_1 : CodeT := fun call _ tm ds h K =>
  K .norm (T.set tm 3 (.slice none 0 0)) ds h
noncomputable def r19_2 : CodeT := fun call _ tm ds h K =>
  K .norm (T.set tm 4 (.int .i64 (0))) ds h
noncomputable def r19_3 : CodeT := fun call _ tm ds h K =>
  kO (fieldPtr 0 (tg tm 1)) ds h (fun v1 ds h =>
  kO (loadOne h v1) ds h (fun v2 ds h =>
  kO (lenSl v2) ds h (fun v3 ds h =>
  kO (binV Tryd.prog .lss 3 false (tg tm 4) v3) ds h (fun v4 ds h =>
  K .norm (T.set tm 9 v4) ds h))))
noncomputable def r19_5 : CodeT := fun call _ tm ds h K =>
  kO (fieldPtr 0 (tg tm 1)) ds h (fun v1 ds h =>
  kO (loadOne h v1) ds h (fun v2 ds h =>
  kO (indexSl 3 v2 (tg tm 4)) ds h (fun v4 ds h =>
  kO (fieldPtr 0 v4) ds h (fun v5 ds h =>
  kO (loadAgg 2 h v5) ds h (fun v6 ds h =>
  kA (mkLit 1 h.next (fill (repl [(.int .i64 (0)), (.string (strB []))] 1) (pl 2) [(0, v6)])) ds h (fun v7 ds h =>
  kH (appendV 2 24 h (tg tm 3) v7) ds (fun v8 ds h =>
  K .norm (T.set tm 3 v8) ds h)))))))
noncomputable def r19_4 : CodeT := fun call _ tm ds h K =>
  kO (binV Tryd.prog .add 3 true (tg tm 4) (.int .i64 (1))) ds h (fun v1 ds h =>
  K .norm (T.set tm 4 v1) ds h)
noncomputable def l19_6 : Box CodeT := ⟨seqC ⟨seqC ⟨r19_3⟩ ⟨condC ⟨fun _ tm => tg tm 9⟩ skipC (exitC 0)⟩⟩ ⟨seqC ⟨blockC 1 ⟨r19_5⟩⟩ ⟨r19_4⟩⟩⟩
noncomputable def r19_6 : CodeT := fun call _ tm ds h K =>
  K .norm (T.set tm 2 (tg tm 3)) ds h
noncomputable def c19 : Box CodeT := ⟨seqC ⟨r19_0⟩ ⟨seqC ⟨r19_1⟩ ⟨seqC ⟨seqC ⟨r19_2⟩ ⟨blockC 0 (loopB l19_6)⟩⟩ ⟨seqC ⟨r19_6⟩ retC⟩⟩⟩⟩
noncomputable def q19 : Box (T Value → H → Option (List Value)) := ⟨fun tm h => some [tg tm 2]⟩
/-! 20 cloakroom/cloakroomref01.Less -/
noncomputable def r20_0 : CodeT := fun call _ tm ds h K =>
  kA (some (.rw (Value.cells (tg tm 0)).toList, ptrTo h.next)) ds h (fun v0 ds h =>
  kA (some (.rw (Value.cells (tg (T.set tm 2 v0) 1)).toList, ptrTo h.next)) ds h (fun v1 ds h =>
  K .norm (T.set (T.set (T.set tm 2 v0) 3 v1) 4 (.bool false)) ds h))
noncomputable def r20_1 : CodeT := fun call _ tm ds h K => (⟨opStep ⟨fun call env tm ds h K => kO (fieldPtr 0 (tg tm 2)) ds h K⟩ ⟨fun v tm => tm⟩ ⟨fun env tm => true⟩
  ⟨opStep ⟨fun call env tm ds h K => kO (loadOne h (nthD 0 env)) ds h K⟩ ⟨fun v tm => tm⟩ ⟨fun env tm => true⟩
  ⟨opStep ⟨fun call env tm ds h K => kO (fieldPtr 0 (tg tm 3)) ds h K⟩ ⟨fun v tm => tm⟩ ⟨fun env tm => true⟩
  ⟨opStep ⟨fun call env tm ds h K => kO (loadOne h (nthD 0 env)) ds h K⟩ ⟨fun v tm => tm⟩ ⟨fun env tm => true⟩
  ⟨opStep ⟨fun call env tm ds h K => kO (binV Tryd.prog .lss 3 false (nthD 2 env) (nthD 0 env)) ds h K⟩ ⟨fun v tm => tm⟩ ⟨fun env tm => true⟩
  ⟨opStep ⟨fun call env tm ds h K => kO (some (nthD 0 env)) ds h K⟩ ⟨fun v tm => tm⟩ ⟨fun env tm => true⟩
  ⟨opStep ⟨fun call env tm ds h K => kO (fieldPtr 0 (tg tm 2)) ds h K⟩ ⟨fun v tm => tm⟩ ⟨fun env tm => isB false (nthD 0 env)⟩
  ⟨opStep ⟨fun call env tm ds h K => kO (loadOne h (nthD 0 env)) ds h K⟩ ⟨fun v tm => tm⟩ ⟨fun env tm => isB false (nthD 1 env)⟩
  ⟨opStep ⟨fun call env tm ds h K => kO (fieldPtr 0 (tg tm 3)) ds h K⟩ ⟨fun v tm => tm⟩ ⟨fun env tm => isB false (nthD 2 env)⟩
  ⟨opStep ⟨fun call env tm ds h K => kO (loadOne h (nthD 0 env)) ds h K⟩ ⟨fun v tm => tm⟩ ⟨fun env tm => isB false (nthD 3 env)⟩
  ⟨opStep ⟨fun call env tm ds h K => kO (binV Tryd.prog .eql 3 false (nthD 2 env) (nthD 0 env)) ds h K⟩ ⟨fun v tm => tm⟩ ⟨fun env tm => isB false (nthD 4 env)⟩
  ⟨opStep ⟨fun call env tm ds h K => kO (some (nthD 0 env)) ds h K⟩ ⟨fun v tm => tm⟩ ⟨fun env tm => isB false (nthD 5 env)⟩
  ⟨opStep ⟨fun call env tm ds h K => kO (fieldPtr 1 (tg tm 2)) ds h K⟩ ⟨fun v tm => tm⟩ ⟨fun env tm => isB true (nthD 0 env)⟩
  ⟨opStep ⟨fun call env tm ds h K => kO (loadOne h (nthD 0 env)) ds h K⟩ ⟨fun v tm => tm⟩ ⟨fun env tm => isB true (nthD 1 env)⟩
  ⟨opStep ⟨fun call env tm ds h K => kO (fieldPtr 1 (tg tm 3)) ds h K⟩ ⟨fun v tm => tm⟩ ⟨fun env tm => isB true (nthD 2 env)⟩
  ⟨opStep ⟨fun call env tm ds h K => kO (loadOne h (nthD 0 env)) ds h K⟩ ⟨fun v tm => tm⟩ ⟨fun env tm => isB true (nthD 3 env)⟩
  ⟨opStep ⟨fun call env tm ds h K => kO (binV Tryd.prog .lss 9 false (nthD 2 env) (nthD 0 env)) ds h K⟩ ⟨fun v tm => tm⟩ ⟨fun env tm => isB true (nthD 4 env)⟩
  ⟨opStep ⟨fun call env tm ds h K => kO (pickV (nthD 5 env) (nthD 0 env) (.bool false)) ds h K⟩ ⟨fun v tm => tm⟩ ⟨fun env tm => isB false (nthD 11 env)⟩
  ⟨opStep ⟨fun call env tm ds h K => kO (pickV (nthD 12 env) (.bool true) (nthD 0 env)) ds h K⟩ ⟨fun v tm => tm⟩ ⟨fun env tm => true⟩
  ⟨opStep ⟨fun call env tm ds h K => kO (some (nthD 0 env)) ds h K⟩ ⟨fun v tm => (T.set tm 4 v)⟩ ⟨fun env tm => true⟩
  ⟨fun _ _ tm ds h K => K .norm tm ds h⟩⟩⟩⟩⟩⟩⟩⟩⟩⟩⟩⟩⟩⟩⟩⟩⟩⟩⟩⟩⟩ : Box OpsT).f call [] tm ds h K
noncomputable def c20 : Box CodeT := ⟨seqC ⟨r20_0⟩ ⟨seqC ⟨r20_1⟩ retC⟩⟩
noncomputable def q20 : Box (T Value → H → Option (List Value)) := ⟨fun tm h => some [tg tm 4]⟩
/-! 21 (*cloakroom/table.Table).asked -/
noncomputable def r21_0 : CodeT := fun call _ tm ds h K =>
  kA (some (.rw (Value.cells (tg tm 1)).toList, ptrTo h.next)) ds h (fun v0 ds h =>
  K .norm (T.set (T.set tm 3 v0) 4 (.int .i64 (0))) ds h)
noncomputable def r21_1 : CodeT := fun call _ tm ds h K => (⟨opStep ⟨fun call env tm ds h K => kO (some (tg tm 0)) ds h K⟩ ⟨fun v tm => tm⟩ ⟨fun env tm => true⟩
  ⟨opStep ⟨fun call env tm ds h K => kO (binV Tryd.prog .eql 24 true (nthD 0 env) (.pointer none)) ds h K⟩ ⟨fun v tm => tm⟩ ⟨fun env tm => true⟩
  ⟨opStep ⟨fun call env tm ds h K => kO (some (nthD 0 env)) ds h K⟩ ⟨fun v tm => tm⟩ ⟨fun env tm => true⟩
  ⟨opStep ⟨fun call env tm ds h K => kO (some (tg tm 0)) ds h K⟩ ⟨fun v tm => tm⟩ ⟨fun env tm => isB false (nthD 0 env)⟩
  ⟨opStep ⟨fun call env tm ds h K => kO (nilChk (nthD 0 env)) ds h K⟩ ⟨fun v tm => tm⟩ ⟨fun env tm => isB false (nthD 1 env)⟩
  ⟨opStep ⟨fun call env tm ds h K => kO (fieldPtr 6 (nthD 0 env)) ds h K⟩ ⟨fun v tm => tm⟩ ⟨fun env tm => isB false (nthD 2 env)⟩
  ⟨opStep ⟨fun call env tm ds h K => kO (loadOne h (nthD 0 env)) ds h K⟩ ⟨fun v tm => tm⟩ ⟨fun env tm => isB false (nthD 3 env)⟩
  ⟨opStep ⟨fun call env tm ds h K => kO (unV .not (nthD 0 env)) ds h K⟩ ⟨fun v tm => tm⟩ ⟨fun env tm => isB false (nthD 4 env)⟩
  ⟨opStep ⟨fun call env tm ds h K => kO (pickV (nthD 5 env) (.bool true) (nthD 0 env)) ds h K⟩ ⟨fun v tm => tm⟩ ⟨fun env tm => true⟩
  ⟨opStep ⟨fun call env tm ds h K => kO (some (nthD 0 env)) ds h K⟩ ⟨fun v tm => (T.set tm 5 v)⟩ ⟨fun env tm => true⟩
  ⟨fun _ _ tm ds h K => K .norm tm ds h⟩⟩⟩⟩⟩⟩⟩⟩⟩⟩⟩ : Box OpsT).f call [] tm ds h K
noncomputable def r21_2 : CodeT := fun call _ tm ds h K =>
  K .norm (T.set tm 4 (.int .i64 (1))) ds h
noncomputable def r21_3 : CodeT := fun call _ tm ds h K => (⟨opStep ⟨fun call env tm ds h K => kO (fieldPtr 0 (tg tm 3)) ds h K⟩ ⟨fun v tm => tm⟩ ⟨fun env tm => true⟩
  ⟨opStep ⟨fun call env tm ds h K => kO (loadOne h (nthD 0 env)) ds h K⟩ ⟨fun v tm => tm⟩ ⟨fun env tm => true⟩
  ⟨opStep ⟨fun call env tm ds h K => kO (binV Tryd.prog .lss 3 true (nthD 0 env) (.int .i64 (0))) ds h K⟩ ⟨fun v tm => tm⟩ ⟨fun env tm => true⟩
  ⟨opStep ⟨fun call env tm ds h K => kO (some (nthD 0 env)) ds h K⟩ ⟨fun v tm => tm⟩ ⟨fun env tm => true⟩
  ⟨opStep ⟨fun call env tm ds h K => kO (fieldPtr 0 (tg tm 3)) ds h K⟩ ⟨fun v tm => tm⟩ ⟨fun env tm => isB false (nthD 0 env)⟩
  ⟨opStep ⟨fun call env tm ds h K => kO (loadOne h (nthD 0 env)) ds h K⟩ ⟨fun v tm => tm⟩ ⟨fun env tm => isB false (nthD 1 env)⟩
  ⟨opStep ⟨fun call env tm ds h K => kO (binV Tryd.prog .geq 3 true (nthD 0 env) (.int .i64 (4))) ds h K⟩ ⟨fun v tm => tm⟩ ⟨fun env tm => isB false (nthD 2 env)⟩
  ⟨opStep ⟨fun call env tm ds h K => kO (pickV (nthD 3 env) (.bool true) (nthD 0 env)) ds h K⟩ ⟨fun v tm => tm⟩ ⟨fun env tm => true⟩
  ⟨opStep ⟨fun call env tm ds h K => kO (some (nthD 0 env)) ds h K⟩ ⟨fun v tm => tm⟩ ⟨fun env tm => true⟩
  ⟨opStep ⟨fun call env tm ds h K => kO (fieldPtr 1 (tg tm 3)) ds h K⟩ ⟨fun v tm => tm⟩ ⟨fun env tm => isB false (nthD 0 env)⟩
  ⟨opStep ⟨fun call env tm ds h K => kO (loadOne h (nthD 0 env)) ds h K⟩ ⟨fun v tm => tm⟩ ⟨fun env tm => isB false (nthD 1 env)⟩
  ⟨opStep ⟨fun call env tm ds h K => kO (binV Tryd.prog .eql 9 true (nthD 0 env) (.string (strB []))) ds h K⟩ ⟨fun v tm => tm⟩ ⟨fun env tm => isB false (nthD 2 env)⟩
  ⟨opStep ⟨fun call env tm ds h K => kO (pickV (nthD 3 env) (.bool true) (nthD 0 env)) ds h K⟩ ⟨fun v tm => tm⟩ ⟨fun env tm => true⟩
  ⟨opStep ⟨fun call env tm ds h K => kO (some (nthD 0 env)) ds h K⟩ ⟨fun v tm => tm⟩ ⟨fun env tm => true⟩
  ⟨opStep ⟨fun call env tm ds h K => kO (fieldPtr 1 (tg tm 3)) ds h K⟩ ⟨fun v tm => tm⟩ ⟨fun env tm => isB false (nthD 0 env)⟩
  ⟨opStep ⟨fun call env tm ds h K => kO (loadOne h (nthD 0 env)) ds h K⟩ ⟨fun v tm => tm⟩ ⟨fun env tm => isB false (nthD 1 env)⟩
  ⟨opStep ⟨fun call env tm ds h K => kO (lenStr (nthD 0 env)) ds h K⟩ ⟨fun v tm => tm⟩ ⟨fun env tm => isB false (nthD 2 env)⟩
  ⟨opStep ⟨fun call env tm ds h K => kO (binV Tryd.prog .gtr 3 true (nthD 0 env) (.int .i64 (32))) ds h K⟩ ⟨fun v tm => tm⟩ ⟨fun env tm => isB false (nthD 3 env)⟩
  ⟨opStep ⟨fun call env tm ds h K => kO (pickV (nthD 4 env) (.bool true) (nthD 0 env)) ds h K⟩ ⟨fun v tm => tm⟩ ⟨fun env tm => true⟩
  ⟨opStep ⟨fun call env tm ds h K => kO (some (nthD 0 env)) ds h K⟩ ⟨fun v tm => (T.set tm 15 v)⟩ ⟨fun env tm => true⟩
  ⟨fun _ _ tm ds h K => K .norm tm ds h⟩⟩⟩⟩⟩⟩⟩⟩⟩⟩⟩⟩⟩⟩⟩⟩⟩⟩⟩⟩⟩ : Box OpsT).f call [] tm ds h K
noncomputable def r21_4 : CodeT := fun call _ tm ds h K =>
  K .norm (T.set tm 4 (.int .i64 (8))) ds h
noncomputable def r21_5 : CodeT := fun call _ tm ds h K =>
  K .norm (T.set tm 4 (.int .i64 (0))) ds h
noncomputable def c21 : Box CodeT := ⟨seqC ⟨r21_0⟩ ⟨seqC ⟨blockC 0 ⟨seqC ⟨r21_1⟩ ⟨condC ⟨fun _ tm => tg tm 5⟩ ⟨seqC ⟨r21_2⟩ retC⟩ ⟨seqC ⟨r21_3⟩ ⟨condC ⟨fun _ tm => tg tm 15⟩ ⟨seqC ⟨r21_4⟩ retC⟩ skipC⟩⟩⟩⟩⟩ ⟨seqC ⟨r21_5⟩ retC⟩⟩⟩
noncomputable def q21 : Box (T Value → H → Option (List Value)) := ⟨fun tm h => some [tg tm 4]⟩
/-! 22 (*cloakroom/table.Table).step -/
noncomputable def r22_0 : CodeT := fun call _ tm ds h K =>
  kO (nilChk (tg tm 0)) ds h (fun v1 ds h =>
  kO (fieldPtr 5 v1) ds h (fun v2 ds h =>
  kH (withV undef (storeV 1 h v2 (.int .i64 (0)))) ds (fun v3 ds h =>
  K .norm tm ds h)))
noncomputable def r22_1 : CodeT := fun call _ tm ds h K => (⟨opStep ⟨fun call env tm ds h K => kO (some (tg tm 0)) ds h K⟩ ⟨fun v tm => tm⟩ ⟨fun env tm => true⟩
  ⟨opStep ⟨fun call env tm ds h K => kO (nilChk (nthD 0 env)) ds h K⟩ ⟨fun v tm => tm⟩ ⟨fun env tm => true⟩
  ⟨opStep ⟨fun call env tm ds h K => kO (fieldPtr 2 (nthD 0 env)) ds h K⟩ ⟨fun v tm => tm⟩ ⟨fun env tm => true⟩
  ⟨opStep ⟨fun call env tm ds h K => kO (fieldPtr 1 (nthD 0 env)) ds h K⟩ ⟨fun v tm => tm⟩ ⟨fun env tm => true⟩
  ⟨opStep ⟨fun call env tm ds h K => kO (loadOne h (nthD 0 env)) ds h K⟩ ⟨fun v tm => tm⟩ ⟨fun env tm => true⟩
  ⟨opStep ⟨fun call env tm ds h K => kO (binV Tryd.prog .gtr 3 true (nthD 0 env) (.int .i64 (0))) ds h K⟩ ⟨fun v tm => tm⟩ ⟨fun env tm => true⟩
  ⟨opStep ⟨fun call env tm ds h K => kO (some (nthD 0 env)) ds h K⟩ ⟨fun v tm => tm⟩ ⟨fun env tm => true⟩
  ⟨opStep ⟨fun call env tm ds h K => kO (some (tg tm 0)) ds h K⟩ ⟨fun v tm => tm⟩ ⟨fun env tm => isB true (nthD 0 env)⟩
  ⟨opStep ⟨fun call env tm ds h K => kO (nilChk (nthD 0 env)) ds h K⟩ ⟨fun v tm => tm⟩ ⟨fun env tm => isB true (nthD 1 env)⟩
  ⟨opStep ⟨fun call env tm ds h K => kO (fieldPtr 5 (nthD 0 env)) ds h K⟩ ⟨fun v tm => tm⟩ ⟨fun env tm => isB true (nthD 2 env)⟩
  ⟨opStep ⟨fun call env tm ds h K => kO (loadOne h (nthD 0 env)) ds h K⟩ ⟨fun v tm => tm⟩ ⟨fun env tm => isB true (nthD 3 env)⟩
  ⟨opStep ⟨fun call env tm ds h K => kO (binV Tryd.prog .lss 3 true (nthD 0 env) (.int .i64 (4))) ds h K⟩ ⟨fun v tm => tm⟩ ⟨fun env tm => isB true (nthD 4 env)⟩
  ⟨opStep ⟨fun call env tm ds h K => kO (pickV (nthD 5 env) (nthD 0 env) (.bool false)) ds h K⟩ ⟨fun v tm => (T.set tm 20 v)⟩ ⟨fun env tm => true⟩
  ⟨fun _ _ tm ds h K => K .norm tm ds h⟩⟩⟩⟩⟩⟩⟩⟩⟩⟩⟩⟩⟩⟩ : Box OpsT).f call [] tm ds h K
noncomputable def r22_2 : CodeT := fun call _ tm ds h0 K =>
  (fun (b0 : Nat) (h : H) =>
  kO (nilChk (tg tm 0)) ds h (fun v1 ds h =>
  kO (fieldPtr 2 v1) ds h (fun v2 ds h =>
  kO (fieldPtr 0 v2) ds h (fun v3 ds h =>
  kO (loadOne h v3) ds h (fun v4 ds h =>
  kO (nilChk (tg tm 0)) ds h (fun v6 ds h =>
  kO (fieldPtr 4 v6) ds h (fun v7 ds h =>
  kO (loadOne h v7) ds h (fun v8 ds h =>
  kO (indexSl 1 v4 v8) ds h (fun v9 ds h =>
  K .norm (T.set tm 2 v9) ds h))))))))) h0.next ⟨h0.objs, h0.next + 11⟩
noncomputable def r22_3 : CodeT := fun call _ tm ds h K =>
  kO (nilChk (tg tm 2)) ds h (fun v1 ds h =>
  kO (loadOne h v1) ds h (fun v2 ds h =>
  kO (lenSl v2) ds h (fun v3 ds h =>
  kO (binV Tryd.prog .eql 3 true v3 (.int .i64 (0))) ds h (fun v4 ds h =>
  K .norm (T.set tm 35 v4) ds h))))
noncomputable def r22_4 : CodeT := fun call _ tm ds h K =>
  kO (nilChk (tg tm 0)) ds h (fun v1 ds h =>
  kO (fieldPtr 4 v1) ds h (fun v2 ds h =>
  kO (loadOne h v2) ds h (fun v3 ds h =>
  kO (binV Tryd.prog .add 3 true v3 (.int .i64 (1))) ds h (fun v4 ds h =>
  kO (nilChk (tg tm 0)) ds h (fun v5 ds h =>
  kO (fieldPtr 4 v5) ds h (fun v6 ds h =>
  kH (withV undef (storeV 1 h v6 v4)) ds (fun v7 ds h =>
  K .norm tm ds h)))))))
noncomputable def r22_5 : CodeT := fun call _ tm ds h K =>
  kO (nilChk (tg tm 2)) ds h (fun v1 ds h =>
  kO (loadOne h v1) ds h (fun v2 ds h =>
  kO (lenSl v2) ds h (fun v3 ds h =>
  kO (binV Tryd.prog .sub 3 true v3 (.int .i64 (1))) ds h (fun v4 ds h =>
  K .norm (T.set tm 3 v4) ds h))))
noncomputable def r22_6 : CodeT := fun call _ tm ds h0 K =>
  (fun (b0 : Nat) (h : H) =>
  kO (nilChk (tg tm 0)) ds h (fun v1 ds h =>
  kO (fieldPtr 0 v1) ds h (fun v2 ds h =>
  kO (nilChk (tg tm 2)) ds h (fun v4 ds h =>
  kO (loadOne h v4) ds h (fun v5 ds h =>
  kO (indexSl 3 v5 (tg tm 3)) ds h (fun v7 ds h =>
  kO (loadAgg 3 h v7) ds h (fun v8 ds h =>
  call 25 [v2, v8] h (fun v h => (fun v9 ds h =>
  K .norm tm ds h) v ds h)))))))) h0.next ⟨h0.objs, h0.next + 10⟩
noncomputable def r22_7 : CodeT := fun call _ tm ds h K =>
  kO (nilChk (tg tm 2)) ds h (fun v2 ds h =>
  kO (loadOne h v2) ds h (fun v3 ds h =>
  kO (sliceSl 3 v3 none (some (tg tm 3)) none) ds h (fun v5 ds h =>
  kO (nilChk (tg tm 2)) ds h (fun v6 ds h =>
  kH (withV undef (storeV 1 h v6 v5)) ds (fun v7 ds h =>
  K .norm tm ds h)))))
noncomputable def r22_8 : CodeT := fun call _ tm ds h K =>
  kO (nilChk (tg tm 0)) ds h (fun v1 ds h =>
  kO (fieldPtr 2 v1) ds h (fun v2 ds h =>
  kO (fieldPtr 1 v2) ds h (fun v3 ds h =>
  kO (loadOne h v3) ds h (fun v4 ds h =>
  kO (binV Tryd.prog .sub 3 true v4 (.int .i64 (1))) ds h (fun v5 ds h =>
  kO (nilChk (tg tm 0)) ds h (fun v6 ds h =>
  kO (fieldPtr 2 v6) ds h (fun v7 ds h =>
  kO (fieldPtr 1 v7) ds h (fun v8 ds h =>
  kH (withV undef (storeV 1 h v8 v5)) ds (fun v9 ds h =>
  K .norm tm ds h)))))))))
noncomputable def r22_9 : CodeT := fun call _ tm ds h K =>
  kO (nilChk (tg tm 0)) ds h (fun v1 ds h =>
  kO (fieldPtr 5 v1) ds h (fun v2 ds h =>
  kO (loadOne h v2) ds h (fun v3 ds h =>
  kO (binV Tryd.prog .add 3 true v3 (.int .i64 (1))) ds h (fun v4 ds h =>
  kO (nilChk (tg tm 0)) ds h (fun v5 ds h =>
  kO (fieldPtr 5 v5) ds h (fun v6 ds h =>
  kH (withV undef (storeV 1 h v6 v4)) ds (fun v7 ds h =>
  K .norm tm ds h)))))))
noncomputable def l22_10 : Box CodeT := ⟨seqC ⟨seqC ⟨r22_1⟩ ⟨condC ⟨fun _ tm => tg tm 20⟩ skipC (exitC 0)⟩⟩ ⟨blockC 1 ⟨seqC ⟨r22_2⟩ ⟨seqC ⟨seqC ⟨r22_3⟩ ⟨condC ⟨fun _ tm => tg tm 35⟩ ⟨seqC ⟨r22_4⟩ (exitC 1)⟩ skipC⟩⟩ ⟨seqC ⟨r22_5⟩ ⟨seqC ⟨r22_6⟩ ⟨seqC ⟨r22_7⟩ ⟨seqC ⟨r22_8⟩ ⟨r22_9⟩⟩⟩⟩⟩⟩⟩⟩⟩
noncomputable def r22_10 : CodeT := fun call _ tm ds h K =>
  kO (nilChk (tg tm 0)) ds h (fun v1 ds h =>
  kO (fieldPtr 2 v1) ds h (fun v2 ds h =>
  kO (fieldPtr 1 v2) ds h (fun v3 ds h =>
  kO (loadOne h v3) ds h (fun v4 ds h =>
  kO (binV Tryd.prog .gtr 3 true v4 (.int .i64 (0))) ds h (fun v5 ds h =>
  K .norm (T.set tm 86 v5) ds h)))))
noncomputable def r22_11 : CodeT := fun call _ tm ds h K =>
  kO (aggO (fill [(.slice none 0 0), (.int .i64 (0))] (plc [(0, 1), (1, 1)]) [])) ds h (fun v2 ds h =>
  kO (nilChk (tg tm 0)) ds h (fun v3 ds h =>
  kO (fieldPtr 2 v3) ds h (fun v4 ds h =>
  kH (withV undef (storeV 2 h v4 v2)) ds (fun v5 ds h =>
  kO (nilChk (tg tm 0)) ds h (fun v6 ds h =>
  kO (fieldPtr 4 v6) ds h (fun v7 ds h =>
  kH (withV undef (storeV 1 h v7 (.int .i64 (0)))) ds (fun v8 ds h =>
  K .norm tm ds h)))))))
noncomputable def r22_12 : CodeT := fun call _ tm ds h K =>
  kO (nilChk (tg tm 0)) ds h (fun v1 ds h =>
  kO (fieldPtr 0 v1) ds h (fun v2 ds h =>
  kO (fieldPtr 0 v2) ds h (fun v3 ds h =>
  kO (loadOne h v3) ds h (fun v4 ds h =>
  kO (lenSl v4) ds h (fun v5 ds h =>
  K .norm (T.set tm 4 v5) ds h)))))
noncomputable def r22_13 : CodeT := fun call _ tm ds h K =>
  kO (nilChk (tg tm 0)) ds h (fun v1 ds h =>
  kO (fieldPtr 0 v1) ds h (fun v2 ds h =>
  kO (fieldPtr 1 v2) ds h (fun v3 ds h =>
  kO (loadOne h v3) ds h (fun v4 ds h =>
  kO (binV Tryd.prog .mul 3 true (.int .i64 (2)) (tg tm 4)) ds h (fun v6 ds h =>
  kO (binV Tryd.prog .gtr 3 false v4 v6) ds h (fun v7 ds h =>
  K .norm (T.set tm 100 v7) ds h))))))
noncomputable def r22_14 : CodeT := fun call _ tm ds h K =>
  kO (binV Tryd.prog .mul 3 true (.int .i64 (2)) (tg tm 4)) ds h (fun v2 ds h =>
  call 34 [(tg tm 0), v2] h (fun v h => (fun v3 ds h =>
  K .norm tm ds h) v ds h))
noncomputable def r22_15 : CodeT := fun call _ tm ds h K => (⟨opStep ⟨fun call env tm ds h K => kO (some (tg tm 4)) ds h K⟩ ⟨fun v tm => tm⟩ ⟨fun env tm => true⟩
  ⟨opStep ⟨fun call env tm ds h K => kO (binV Tryd.prog .gtr 3 true (nthD 0 env) (.int .i64 (4))) ds h K⟩ ⟨fun v tm => tm⟩ ⟨fun env tm => true⟩
  ⟨opStep ⟨fun call env tm ds h K => kO (some (nthD 0 env)) ds h K⟩ ⟨fun v tm => tm⟩ ⟨fun env tm => true⟩
  ⟨opStep ⟨fun call env tm ds h K => kO (some (tg tm 0)) ds h K⟩ ⟨fun v tm => tm⟩ ⟨fun env tm => isB true (nthD 0 env)⟩
  ⟨opStep ⟨fun call env tm ds h K => kO (nilChk (nthD 0 env)) ds h K⟩ ⟨fun v tm => tm⟩ ⟨fun env tm => isB true (nthD 1 env)⟩
  ⟨opStep ⟨fun call env tm ds h K => kO (fieldPtr 0 (nthD 0 env)) ds h K⟩ ⟨fun v tm => tm⟩ ⟨fun env tm => isB true (nthD 2 env)⟩
  ⟨opStep ⟨fun call env tm ds h K => kO (fieldPtr 1 (nthD 0 env)) ds h K⟩ ⟨fun v tm => tm⟩ ⟨fun env tm => isB true (nthD 3 env)⟩
  ⟨opStep ⟨fun call env tm ds h K => kO (loadOne h (nthD 0 env)) ds h K⟩ ⟨fun v tm => tm⟩ ⟨fun env tm => isB true (nthD 4 env)⟩
  ⟨opStep ⟨fun call env tm ds h K => kO (some (tg tm 4)) ds h K⟩ ⟨fun v tm => tm⟩ ⟨fun env tm => isB true (nthD 5 env)⟩
  ⟨opStep ⟨fun call env tm ds h K => kO (binV Tryd.prog .quo 3 true (nthD 0 env) (.int .i64 (4))) ds h K⟩ ⟨fun v tm => tm⟩ ⟨fun env tm => isB true (nthD 6 env)⟩
  ⟨opStep ⟨fun call env tm ds h K => kO (binV Tryd.prog .lss 3 false (nthD 2 env) (nthD 0 env)) ds h K⟩ ⟨fun v tm => tm⟩ ⟨fun env tm => isB true (nthD 7 env)⟩
  ⟨opStep ⟨fun call env tm ds h K => kO (pickV (nthD 8 env) (nthD 0 env) (.bool false)) ds h K⟩ ⟨fun v tm => tm⟩ ⟨fun env tm => true⟩
  ⟨opStep ⟨fun call env tm ds h K => kO (some (nthD 0 env)) ds h K⟩ ⟨fun v tm => (T.set tm 113 v)⟩ ⟨fun env tm => true⟩
  ⟨fun _ _ tm ds h K => K .norm tm ds h⟩⟩⟩⟩⟩⟩⟩⟩⟩⟩⟩⟩⟩⟩ : Box OpsT).f call [] tm ds h K
noncomputable def r22_16 : CodeT := fun call _ tm ds h K =>
  kO (binV Tryd.prog .quo 3 true (tg tm 4) (.int .i64 (2))) ds h (fun v2 ds h =>
  call 34 [(tg tm 0), v2] h (fun v h => (fun v3 ds h =>
  K .norm tm ds h) v ds h))
noncomputable def c22 : Box CodeT := ⟨seqC ⟨r22_0⟩ ⟨seqC ⟨blockC 0 (loopB l22_10)⟩ ⟨seqC ⟨seqC ⟨r22_10⟩ ⟨condC ⟨fun _ tm => tg tm 86⟩ retC skipC⟩⟩ ⟨seqC ⟨r22_11⟩ ⟨seqC ⟨r22_12⟩ ⟨blockC 2 ⟨seqC ⟨r22_13⟩ ⟨condC ⟨fun _ tm => tg tm 100⟩ ⟨r22_14⟩ ⟨seqC ⟨r22_15⟩ ⟨condC ⟨fun _ tm => tg tm 113⟩ ⟨r22_16⟩ skipC⟩⟩⟩⟩⟩⟩⟩⟩⟩⟩
noncomputable def q22 : Box (T Value → H → Option (List Value)) := ⟨fun tm h => some []⟩
/-! 23 (*cloakroom/table.rows).del -/
noncomputable def r23_0 : CodeT := fun call _ tm ds h K =>
  kA (some (.rw (Value.cells (tg tm 1)).toList, ptrTo h.next)) ds h (fun v0 ds h =>
  K .norm (T.set (T.set tm 3 v0) 4 (.bool false)) ds h)
noncomputable def r23_1 : CodeT := fun call _ tm ds h K =>
  kO (nilChk (tg tm 0)) ds h (fun v1 ds h =>
  kO (fieldPtr 0 v1) ds h (fun v2 ds h =>
  kO (loadOne h v2) ds h (fun v3 ds h =>
  kO (lenSl v3) ds h (fun v4 ds h =>
  kO (binV Tryd.prog .eql 3 true v4 (.int .i64 (0))) ds h (fun v5 ds h =>
  K .norm (T.set tm 12 v5) ds h)))))
noncomputable def r23_2 : CodeT := fun call _ tm ds h K =>
  K .norm (T.set tm 4 (.bool false)) ds h
noncomputable def r23_3 : CodeT := fun call _ tm ds h K =>
  kO (loadAgg 2 h (tg tm 3)) ds h (fun v1 ds h =>
  call 35 [(tg tm 0), v1] h (fun v h => (fun v2 ds h =>
  K .norm (T.set tm 5 v2) ds h) v ds h))
noncomputable def r23_4 : CodeT := fun call _ tm ds h K =>
  kO (nilChk (tg tm 5)) ds h (fun v1 ds h =>
  kO (loadOne h v1) ds h (fun v2 ds h =>
  kO (some (.func (.func 37) [].toArray [(tg tm 3)].toArray)) ds h (fun v3 ds h =>
  call 36 [v2, v3] h (fun v h => (fun v4 ds h =>
  K .norm (T.set tm 6 v4) ds h) v ds h))))
noncomputable def r23_5 : CodeT := fun call _ tm ds h K =>
  kO (binV Tryd.prog .lss 3 true (tg tm 6) (.int .i64 (0))) ds h (fun v1 ds h =>
  K .norm (T.set tm 22 v1) ds h)
noncomputable def r23_6 : CodeT := fun call _ tm ds h K =>
  K .norm (T.set tm 4 (.bool false)) ds h
noncomputable def r23_7 : CodeT := fun call _ tm ds h K =>
  kO (nilChk (tg tm 5)) ds h (fun v2 ds h =>
  kO (loadOne h v2) ds h (fun v3 ds h =>
  kO (binV Tryd.prog .add 3 true (tg tm 6) (.int .i64 (1))) ds h (fun v6 ds h =>
  call 38 [v3, (tg tm 6), v6] h (fun v h => (fun v7 ds h =>
  kO (nilChk (tg tm 5)) ds h (fun v8 ds h =>
  kH (withV undef (storeV 1 h v8 v7)) ds (fun v9 ds h =>
  K .norm tm ds h))) v ds h))))
noncomputable def r23_8 : CodeT := fun call _ tm ds h K =>
  kO (nilChk (tg tm 0)) ds h (fun v1 ds h =>
  kO (fieldPtr 1 v1) ds h (fun v2 ds h =>
  kO (loadOne h v2) ds h (fun v3 ds h =>
  kO (binV Tryd.prog .sub 3 true v3 (.int .i64 (1))) ds h (fun v4 ds h =>
  kO (nilChk (tg tm 0)) ds h (fun v5 ds h =>
  kO (fieldPtr 1 v5) ds h (fun v6 ds h =>
  kH (withV undef (storeV 1 h v6 v4)) ds (fun v7 ds h =>
  K .norm tm ds h)))))))
noncomputable def r23_9 : CodeT := fun call _ tm ds h K =>
  K .norm (T.set tm 4 (.bool true)) ds h
noncomputable def c23 : Box CodeT := ⟨seqC ⟨r23_0⟩ ⟨seqC ⟨seqC ⟨r23_1⟩ ⟨condC ⟨fun _ tm => tg tm 12⟩ ⟨seqC ⟨r23_2⟩ retC⟩ skipC⟩⟩ ⟨seqC ⟨r23_3⟩ ⟨seqC ⟨r23_4⟩ ⟨seqC ⟨seqC ⟨r23_5⟩ ⟨condC ⟨fun _ tm => tg tm 22⟩ ⟨seqC ⟨r23_6⟩ retC⟩ skipC⟩⟩ ⟨seqC ⟨r23_7⟩ ⟨seqC ⟨r23_8⟩ ⟨seqC ⟨r23_9⟩ retC⟩⟩⟩⟩⟩⟩⟩⟩
noncomputable def q23 : Box (T Value → H → Option (List Value)) := ⟨fun tm h => some [tg tm 4]⟩
/-! 24 (*cloakroom/table.rows).find -/
noncomputable def r24_0 : CodeT := fun call _ tm ds h K =>
  kA (some (.rw (Value.cells (tg tm 1)).toList, ptrTo h.next)) ds h (fun v0 ds h =>
  K .norm (T.set (T.set tm 3 v0) 4 (.pointer none)) ds h)
noncomputable def r24_1 : CodeT := fun call _ tm ds h K =>
  kO (nilChk (tg tm 0)) ds h (fun v1 ds h =>
  kO (fieldPtr 0 v1) ds h (fun v2 ds h =>
  kO (loadOne h v2) ds h (fun v3 ds h =>
  kO (lenSl v3) ds h (fun v4 ds h =>
  kO (binV Tryd.prog .eql 3 true v4 (.int .i64 (0))) ds h (fun v5 ds h =>
  K .norm (T.set tm 12 v5) ds h)))))
noncomputable def r24_2 : CodeT := fun call _ tm ds h K =>
  K .norm (T.set tm 4 (.pointer none)) ds h
noncomputable def r24_3 : CodeT := fun call _ tm ds h K =>
  kO (loadAgg 2 h (tg tm 3)) ds h (fun v1 ds h =>
  call 35 [(tg tm 0), v1] h (fun v h => (fun v2 ds h =>
  kO (nilChk v2) ds h (fun v3 ds h =>
  kO (loadOne h v3) ds h (fun v4 ds h =>
  K .norm (T.set tm 5 v4) ds h))) v ds h))
noncomputable def r24_4 : CodeT := fun call _ tm ds h K =>
  kO (lenSl (tg tm 5)) ds h (fun v1 ds h =>
  K .norm (T.set (T.set tm 19 v1) 20 (.int .i64 (0))) ds h)
noncomputable def r24_5 : CodeT := fun call _ tm ds h K =>
  kO (binV Tryd.prog .lss 3 false (tg tm 20) (tg tm 19)) ds h (fun v0 ds h =>
  K .norm (T.set tm 21 v0) ds h)
noncomputable def r24_6 : CodeT := fun call _ tm ds h K =>
  K .norm (T.set tm 6 (tg tm 20)) ds h
noncomputable def r24_7 : CodeT := fun call _ tm ds h0 K =>
  (fun (b0 : Nat) (h : H) =>
  kO (indexSl 3 (tg tm 5) (tg tm 6)) ds h (fun v2 ds h =>
  kO (fieldPtr 0 v2) ds h (fun v3 ds h =>
  kO (loadAgg 2 h v3) ds h (fun v4 ds h =>
  kO (loadAgg 2 h (tg tm 3)) ds h (fun v5 ds h =>
  kO (binV Tryd.prog .eql 27 false v4 v5) ds h (fun v6 ds h =>
  K .norm (T.set tm 29 v6) ds h)))))) h0.next ⟨h0.objs, h0.next + 7⟩
noncomputable def r24_8 : CodeT := fun call _ tm ds h K =>
  kO (indexSl 3 (tg tm 5) (tg tm 6)) ds h (fun v2 ds h =>
  K .norm (T.set tm 4 v2) ds h)
noncomputable def r24_9 : CodeT := fun call _ tm ds h K =>
  kO (binV Tryd.prog .add 3 true (tg tm 20) (.int .i64 (1))) ds h (fun v0 ds h =>
  K .norm (T.set tm 20 v0) ds h)
noncomputable def l24_10 : Box CodeT := ⟨seqC ⟨r24_5⟩ ⟨seqC ⟨condC ⟨fun _ tm => tg tm 21⟩ skipC (exitC 0)⟩ ⟨seqC ⟨blockC 1 ⟨seqC ⟨r24_6⟩ ⟨seqC ⟨r24_7⟩ ⟨condC ⟨fun _ tm => tg tm 29⟩ ⟨seqC ⟨r24_8⟩ retC⟩ skipC⟩⟩⟩⟩ ⟨r24_9⟩⟩⟩⟩
noncomputable def r24_10 : CodeT := fun call _ tm ds h K =>
  K .norm (T.set tm 4 (.pointer none)) ds h
noncomputable def c24 : Box CodeT := ⟨seqC ⟨r24_0⟩ ⟨seqC ⟨seqC ⟨r24_1⟩ ⟨condC ⟨fun _ tm => tg tm 12⟩ ⟨seqC ⟨r24_2⟩ retC⟩ skipC⟩⟩ ⟨seqC ⟨r24_3⟩ ⟨seqC ⟨seqC ⟨r24_4⟩ ⟨blockC 0 (loopB l24_10)⟩⟩ ⟨seqC ⟨r24_10⟩ retC⟩⟩⟩⟩⟩
noncomputable def q24 : Box (T Value → H → Option (List Value)) := ⟨fun tm h => some [tg tm 4]⟩
/-! 25 (*cloakroom/table.rows).put -/
noncomputable def r25_0 : CodeT := fun call _ tm ds h K =>
  kA (some (.rw (Value.cells (tg tm 1)).toList, ptrTo h.next)) ds h (fun v0 ds h =>
  K .norm (T.set tm 3 v0) ds h)
noncomputable def r25_1 : CodeT := fun call _ tm ds h K =>
  kO (fieldPtr 0 (tg tm 3)) ds h (fun v1 ds h =>
  kO (loadAgg 2 h v1) ds h (fun v2 ds h =>
  call 35 [(tg tm 0), v2] h (fun v h => (fun v3 ds h =>
  K .norm (T.set tm 4 v3) ds h) v ds h)))
noncomputable def r25_2 : CodeT := fun call _ tm ds h0 K =>
  (fun (b0 : Nat) (h : H) =>
  kO (nilChk (tg tm 4)) ds h (fun v2 ds h =>
  kO (loadOne h v2) ds h (fun v3 ds h =>
  kO (loadAgg 3 h (tg tm 3)) ds h (fun v4 ds h =>
  aO (mkLit 1 (b0 + 5) (fill (repl [(.int .i64 (0)), (.string (strB [])), (.int .i64 (0))] 1) (pl 3) [(0, v4)])) (fun x5 v5 =>
  kH (appendV 3 32 (H.put h (b0 + 5) x5) v3 v5) ds (fun v6 ds h =>
  kO (nilChk (tg tm 4)) ds h (fun v7 ds h =>
  kH (withV undef (storeV 1 h v7 v6)) ds (fun v8 ds h =>
  K .norm tm ds h)))))))) h0.next ⟨h0.objs, h0.next + 9⟩
noncomputable def r25_3 : CodeT := fun call _ tm ds h K =>
  kO (nilChk (tg tm 0)) ds h (fun v1 ds h =>
  kO (fieldPtr 1 v1) ds h (fun v2 ds h =>
  kO (loadOne h v2) ds h (fun v3 ds h =>
  kO (binV Tryd.prog .add 3 true v3 (.int .i64 (1))) ds h (fun v4 ds h =>
  kO (nilChk (tg tm 0)) ds h (fun v5 ds h =>
  kO (fieldPtr 1 v5) ds h (fun v6 ds h =>
  kH (withV undef (storeV 1 h v6 v4)) ds (fun v7 ds h =>
  K .norm tm ds h)))))))
noncomputable def c25 : Box CodeT := ⟨seqC ⟨r25_0⟩ ⟨seqC ⟨r25_1⟩ ⟨seqC ⟨r25_2⟩ ⟨r25_3⟩⟩⟩⟩
noncomputable def q25 : Box (T Value → H → Option (List Value)) := ⟨fun tm h => some []⟩
/-! 26 slices.SortFunc[[]cloakroom/api.Name,cloakroom/api.Name] -/
noncomputable def r26_0 : CodeT := fun call _ tm ds h K =>
  kO (lenSl (tg tm 0)) ds h (fun v1 ds h =>
  K .norm (T.set tm 4 v1) ds h)
noncomputable def r26_1 : CodeT := fun call _ tm ds h K =>
  kO (toInt .u64 (tg tm 4)) ds h (fun v3 ds h =>
  call 40 [v3] h (fun v h => (fun v4 ds h =>
  call 39 [(tg tm 0), (.int .i64 (0)), (tg tm 4), v4, (tg tm 1)] h (fun v h => (fun v6 ds h =>
  K .norm tm ds h) v ds h)) v ds h))
noncomputable def c26 : Box CodeT := ⟨seqC ⟨r26_0⟩ ⟨r26_1⟩⟩
noncomputable def q26 : Box (T Value → H → Option (List Value)) := ⟨fun tm h => some []⟩
/-! 27 (*cloakroom/table.Table).All$1 -/
noncomputable def r27_0 : CodeT := fun call _ tm ds h K =>
  kA (some (.rw (Value.cells (tg tm 0)).toList, ptrTo h.next)) ds h (fun v0 ds h =>
  kA (some (.rw (Value.cells (tg (T.set tm 2 v0) 1)).toList, ptrTo h.next)) ds h (fun v1 ds h =>
  K .norm (T.set (T.set (T.set tm 2 v0) 3 v1) 4 (.int .i64 (0))) ds h))
noncomputable def r27_1 : CodeT := fun call _ tm ds h0 K =>
  (fun (b0 : Nat) (h : H) =>
  kO (fieldPtr 0 (tg tm 2)) ds h (fun v0 ds h =>
  kO (loadOne h v0) ds h (fun v1 ds h =>
  kO (fieldPtr 0 (tg tm 3)) ds h (fun v2 ds h =>
  kO (loadOne h v2) ds h (fun v3 ds h =>
  kO (fieldPtr 1 (tg tm 2)) ds h (fun v5 ds h =>
  kO (loadOne h v5) ds h (fun v6 ds h =>
  kO (fieldPtr 1 (tg tm 3)) ds h (fun v7 ds h =>
  kO (loadOne h v7) ds h (fun v8 ds h =>
  call 29 [v1, v3] h (fun v h => (fun v4 ds h =>
  andB (hO (loadOne h v7) v8 (hO (loadOne h v5) v6 true)) (call 30 [v6, v8] h (fun v h => (fun v9 ds h =>
  aO (mkLit 2 (b0 + 10) (fill (repl [(.int .i64 (0))] 2) (pl 1) [(0, v4), (1, v9)])) (fun x10 v10 =>
  call 28 [v10] (H.put h (b0 + 10) x10) (fun v h => (fun v11 ds h =>
  K .norm (T.set tm 4 v11) ds h) v ds h))) v ds h))) v ds h)))))))))) h0.next ⟨h0.objs, h0.next + 13⟩
noncomputable def c27 : Box CodeT := ⟨seqC ⟨r27_0⟩ ⟨seqC ⟨r27_1⟩ retC⟩⟩
noncomputable def q27 : Box (T Value → H → Option (List Value)) := ⟨fun tm h => some [tg tm 4]⟩
/-! 28 cmp.Or[int] -/
noncomputable def r28_0 : CodeT := fun call _ tm ds h K =>
  K .norm (T.set tm 2 (.int .i64 (0))) ds h
noncomputable def r28_1 : CodeT := fun call _ tm ds h K =>
  K .norm (T.set tm 3 (.int .i64 (0))) ds h
noncomputable def r28_2 : CodeT := fun call _ tm ds h K =>
  kO (lenSl (tg tm 0)) ds h (fun v1 ds h =>
  K .norm (T.set (T.set (T.set tm 6 (tg tm 0)) 7 v1) 8 (.int .i64 (0))) ds h)
noncomputable def r28_3 : CodeT := fun call _ tm ds h K =>
  kO (binV Tryd.prog .lss 3 false (tg tm 8) (tg tm 7)) ds h (fun v0 ds h =>
  K .norm (T.set tm 9 v0) ds h)
noncomputable def r28_4 : CodeT := fun call _ tm ds h K =>
  kO (indexSl 1 (tg tm 6) (tg tm 8)) ds h (fun v0 ds h =>
  kO (loadOne h v0) ds h (fun v1 ds h =>
  K .norm (T.set tm 5 v1) ds h))
noncomputable def r28_5 : CodeT := fun call _ tm ds h K =>
  kO (binV Tryd.prog .neq 3 false (tg tm 5) (tg tm 3)) ds h (fun v2 ds h =>
  K .norm (T.set tm 14 v2) ds h)
noncomputable def r28_6 : CodeT := fun call _ tm ds h K =>
  K .norm (T.set tm 2 (tg tm 5)) ds h
noncomputable def r28_7 : CodeT := fun call _ tm ds h K =>
  kO (binV Tryd.prog .add 3 true (tg tm 8) (.int .i64 (1))) ds h (fun v0 ds h =>
  K .norm (T.set tm 8 v0) ds h)
noncomputable def l28_8 : Box CodeT := ⟨seqC ⟨r28_3⟩ ⟨seqC ⟨condC ⟨fun _ tm => tg tm 9⟩ skipC (exitC 0)⟩ ⟨seqC ⟨blockC 1 ⟨seqC ⟨r28_4⟩ ⟨seqC ⟨r28_5⟩ ⟨condC ⟨fun _ tm => tg tm 14⟩ ⟨seqC ⟨r28_6⟩ retC⟩ skipC⟩⟩⟩⟩ ⟨r28_7⟩⟩⟩⟩
noncomputable def r28_8 : CodeT := fun call _ tm ds h K =>
  K .norm (T.set tm 2 (tg tm 3)) ds h
noncomputable def c28 : Box CodeT := ⟨seqC ⟨r28_0⟩ ⟨seqC ⟨r28_1⟩ ⟨seqC ⟨seqC ⟨r28_2⟩ ⟨blockC 0 (loopB l28_8)⟩⟩ ⟨seqC ⟨r28_8⟩ retC⟩⟩⟩⟩
noncomputable def q28 : Box (T Value → H → Option (List Value)) := ⟨fun tm h => some [tg tm 2]⟩
/-! 29 cmp.Compare[int] -/
noncomputable def r29_0 : CodeT := fun call _ tm ds h K =>
  K .norm (T.set tm 4 (.int .i64 (0))) ds h
noncomputable def r29_1 : CodeT := fun call _ tm ds h K =>
  call 41 [(tg tm 0)] h (fun v h => (fun v1 ds h =>
  K .norm (T.set tm 5 v1) ds h) v ds h)
noncomputable def r29_2 : CodeT := fun call _ tm ds h K =>
  call 41 [(tg tm 1)] h (fun v h => (fun v1 ds h =>
  K .norm (T.set tm 6 v1) ds h) v ds h)
noncomputable def r29_3 : CodeT := fun call _ tm ds h K =>
  K .norm (T.set tm 11 (tg tm 5)) ds h
noncomputable def r29_4 : CodeT := fun call _ tm ds h K =>
  K .norm (T.set tm 12 (tg tm 6)) ds h
noncomputable def r29_5 : CodeT := fun call _ tm ds h K =>
  K .norm (T.set tm 4 (.int .i64 (0))) ds h
noncomputable def r29_6 : CodeT := fun call _ tm ds h K =>
  K .norm (T.set tm 4 (.int .i64 (-1))) ds h
noncomputable def r29_7 : CodeT := fun call _ tm ds h K =>
  K .norm (T.set tm 13 (tg tm 6)) ds h
noncomputable def r29_8 : CodeT := fun call _ tm ds h K =>
  K .norm (T.set tm 4 (.int .i64 (1))) ds h
noncomputable def r29_9 : CodeT := fun call _ tm ds h K =>
  kO (binV Tryd.prog .lss 3 false (tg tm 0) (tg tm 1)) ds h (fun v2 ds h =>
  K .norm (T.set tm 16 v2) ds h)
noncomputable def r29_10 : CodeT := fun call _ tm ds h K =>
  K .norm (T.set tm 4 (.int .i64 (-1))) ds h
noncomputable def r29_11 : CodeT := fun call _ tm ds h K =>
  kO (binV Tryd.prog .gtr 3 false (tg tm 0) (tg tm 1)) ds h (fun v2 ds h =>
  K .norm (T.set tm 19 v2) ds h)
noncomputable def r29_12 : CodeT := fun call _ tm ds h K =>
  K .norm (T.set tm 4 (.int .i64 (1))) ds h
noncomputable def r29_13 : CodeT := fun call _ tm ds h K =>
  K .norm (T.set tm 4 (.int .i64 (0))) ds h
noncomputable def c29 : Box CodeT := ⟨seqC ⟨r29_0⟩ ⟨seqC ⟨r29_1⟩ ⟨seqC ⟨r29_2⟩ ⟨seqC ⟨seqC ⟨r29_3⟩ ⟨condC ⟨fun _ tm => tg tm 11⟩ ⟨seqC ⟨seqC ⟨r29_4⟩ ⟨condC ⟨fun _ tm => tg tm 12⟩ ⟨seqC ⟨r29_5⟩ retC⟩ skipC⟩⟩ ⟨seqC ⟨r29_6⟩ retC⟩⟩ skipC⟩⟩ ⟨seqC ⟨seqC ⟨r29_7⟩ ⟨condC ⟨fun _ tm => tg tm 13⟩ ⟨seqC ⟨r29_8⟩ retC⟩ skipC⟩⟩ ⟨seqC ⟨seqC ⟨r29_9⟩ ⟨condC ⟨fun _ tm => tg tm 16⟩ ⟨seqC ⟨r29_10⟩ retC⟩ skipC⟩⟩ ⟨seqC ⟨seqC ⟨r29_11⟩ ⟨condC ⟨fun _ tm => tg tm 19⟩ ⟨seqC ⟨r29_12⟩ retC⟩ skipC⟩⟩ ⟨seqC ⟨r29_13⟩ retC⟩⟩⟩⟩⟩⟩⟩⟩
noncomputable def q29 : Box (T Value → H → Option (List Value)) := ⟨fun tm h => some [tg tm 4]⟩
/-! 30 strings.Compare -/
noncomputable def r30_0 : CodeT := fun call _ tm ds h K =>
  K .norm (T.set tm 4 (.int .i64 (0))) ds h
noncomputable def r30_1 : CodeT := fun call _ tm ds h K =>
  call 42 [(tg tm 0), (tg tm 1)] h (fun v h => (fun v2 ds h =>
  K .norm (T.set tm 4 v2) ds h) v ds h)
noncomputable def c30 : Box CodeT := ⟨seqC ⟨r30_0⟩ ⟨seqC ⟨r30_1⟩ retC⟩⟩
noncomputable def q30 : Box (T Value → H → Option (List Value)) := ⟨fun tm h => some [tg tm 4]⟩
/-! 31 cloakroom/cloakroomref06.Get -/
noncomputable def r31_0 : CodeT := fun call _ tm ds h K =>
  kA (some (.rw (Value.cells (tg tm 0)).toList, ptrTo h.next)) ds h (fun v0 ds h =>
  kA (some (.rw (Value.cells (tg (T.set tm 2 v0) 1)).toList, ptrTo h.next)) ds h (fun v1 ds h =>
  K .norm (T.set (T.set (T.set (T.set (T.set tm 2 v0) 3 v1) 4 (.int .i64 (0))) 5 (.bool false)) 6 (.int .i64 (0))) ds h))
noncomputable def r31_1 : CodeT := fun call _ tm ds h K =>
  kO (loadAgg 2 h (tg tm 3)) ds h (fun v0 ds h =>
  call 43 [v0] h (fun v h => (fun v1 ds h =>
  kO (unV .not v1) ds h (fun v2 ds h =>
  K .norm (T.set tm 11 v2) ds h)) v ds h))
noncomputable def r31_2 : CodeT := fun call _ tm ds h K =>
  K .norm (T.set (T.set (T.set tm 4 (.int .i64 (0))) 5 (.bool false)) 6 (.int .i64 (8))) ds h
noncomputable def r31_3 : CodeT := fun call _ tm ds h K =>
  kO (loadAgg 1 h (tg tm 2)) ds h (fun v0 ds h =>
  kO (loadAgg 2 h (tg tm 3)) ds h (fun v1 ds h =>
  call 44 [v0, v1] h (fun v h => (fun v2 ds h =>
  kO (tupNth 0 v2) ds h (fun v4 ds h =>
  kO (tupNth 1 v2) ds h (fun v5 ds h =>
  K .norm (T.set (T.set tm 7 v4) 8 v5) ds h))) v ds h)))
noncomputable def r31_4 : CodeT := fun call _ tm ds h K =>
  kO (unV .not (tg tm 8)) ds h (fun v1 ds h =>
  K .norm (T.set tm 19 v1) ds h)
noncomputable def r31_5 : CodeT := fun call _ tm ds h K =>
  K .norm (T.set (T.set (T.set tm 4 (.int .i64 (0))) 5 (.bool false)) 6 (.int .i64 (0))) ds h
noncomputable def r31_6 : CodeT := fun call _ tm ds h K =>
  kO (fieldPtr 0 (tg tm 2)) ds h (fun v0 ds h =>
  kO (loadOne h v0) ds h (fun v1 ds h =>
  kO (indexSl 3 v1 (tg tm 7)) ds h (fun v3 ds h =>
  kO (fieldPtr 2 v3) ds h (fun v4 ds h =>
  kO (loadOne h v4) ds h (fun v5 ds h =>
  K .norm (T.set (T.set (T.set tm 4 v5) 5 (.bool true)) 6 (.int .i64 (0))) ds h)))))
noncomputable def c31 : Box CodeT := ⟨seqC ⟨r31_0⟩ ⟨seqC ⟨seqC ⟨r31_1⟩ ⟨condC ⟨fun _ tm => tg tm 11⟩ ⟨seqC ⟨r31_2⟩ retC⟩ skipC⟩⟩ ⟨seqC ⟨r31_3⟩ ⟨seqC ⟨seqC ⟨r31_4⟩ ⟨condC ⟨fun _ tm => tg tm 19⟩ ⟨seqC ⟨r31_5⟩ retC⟩ skipC⟩⟩ ⟨seqC ⟨r31_6⟩ retC⟩⟩⟩⟩⟩
noncomputable def q31 : Box (T Value → H → Option (List Value)) := ⟨fun tm h => some [tg tm 4, tg tm 5, tg tm 6]⟩
/-! 32 cloakroom/cloakroomref06.Del -/
noncomputable def r32_0 : CodeT := fun call _ tm ds h K =>
  kA (some (.rw (Value.cells (tg tm 0)).toList, ptrTo h.next)) ds h (fun v0 ds h =>
  kA (some (.rw (Value.cells (tg (T.set tm 2 v0) 1)).toList, ptrTo h.next)) ds h (fun v1 ds h =>
  kA (some (.rw [(.slice none 0 0)], ptrTo h.next)) ds h (fun v2 ds h =>
  K .norm (T.set (T.set (T.set (T.set (T.set tm 2 v0) 3 v1) 4 v2) 5 (.bool false)) 6 (.int .i64 (0))) ds h)))
noncomputable def r32_1 : CodeT := fun call _ tm ds h K =>
  kO (loadAgg 2 h (tg tm 3)) ds h (fun v0 ds h =>
  call 43 [v0] h (fun v h => (fun v1 ds h =>
  kO (unV .not v1) ds h (fun v2 ds h =>
  K .norm (T.set tm 12 v2) ds h)) v ds h))
noncomputable def r32_2 : CodeT := fun call _ tm ds h K =>
  kO (loadAgg 1 h (tg tm 2)) ds h (fun v0 ds h =>
  kH (withV undef (storeV 1 h (tg tm 4) v0)) ds (fun v1 ds h =>
  K .norm (T.set (T.set tm 5 (.bool false)) 6 (.int .i64 (8))) ds h))
noncomputable def r32_3 : CodeT := fun call _ tm ds h K =>
  kO (loadAgg 1 h (tg tm 2)) ds h (fun v0 ds h =>
  kO (loadAgg 2 h (tg tm 3)) ds h (fun v1 ds h =>
  call 44 [v0, v1] h (fun v h => (fun v2 ds h =>
  kO (tupNth 0 v2) ds h (fun v4 ds h =>
  kO (tupNth 1 v2) ds h (fun v5 ds h =>
  K .norm (T.set (T.set tm 7 v4) 8 v5) ds h))) v ds h)))
noncomputable def r32_4 : CodeT := fun call _ tm ds h K =>
  kO (unV .not (tg tm 8)) ds h (fun v1 ds h =>
  K .norm (T.set tm 21 v1) ds h)
noncomputable def r32_5 : CodeT := fun call _ tm ds h K =>
  kO (loadAgg 1 h (tg tm 2)) ds h (fun v0 ds h =>
  kH (withV undef (storeV 1 h (tg tm 4) v0)) ds (fun v1 ds h =>
  K .norm (T.set (T.set tm 5 (.bool false)) 6 (.int .i64 (0))) ds h))
noncomputable def r32_6 : CodeT := fun call _ tm ds h K =>
  K .norm (T.set tm 9 (.slice none 0 0)) ds h
noncomputable def r32_7 : CodeT := fun call _ tm ds h K =>
  kO (fieldPtr 0 (tg tm 2)) ds h (fun v1 ds h =>
  kO (loadOne h v1) ds h (fun v2 ds h =>
  kO (sliceSl 3 v2 none (some (tg tm 7)) none) ds h (fun v4 ds h =>
  kH (appendV 3 32 h (tg tm 9) v4) ds (fun v5 ds h =>
  K .norm (T.set tm 9 v5) ds h))))
noncomputable def r32_8 : CodeT := fun call _ tm ds h K =>
  kO (fieldPtr 0 (tg tm 2)) ds h (fun v1 ds h =>
  kO (loadOne h v1) ds h (fun v2 ds h =>
  kO (binV Tryd.prog .add 3 true (tg tm 7) (.int .i64 (1))) ds h (fun v4 ds h =>
  kO (sliceSl 3 v2 (some v4) none none) ds h (fun v5 ds h =>
  kH (appendV 3 32 h (tg tm 9) v5) ds (fun v6 ds h =>
  kO (aggO (fill [(.slice none 0 0)] (plc [(0, 1)]) [(0, v6)])) ds h (fun v7 ds h =>
  kH (withV undef (storeV 1 h (tg tm 4) v7)) ds (fun v8 ds h =>
  K .norm (T.set (T.set tm 5 (.bool true)) 6 (.int .i64 (0))) ds h)))))))
noncomputable def c32 : Box CodeT := ⟨seqC ⟨r32_0⟩ ⟨seqC ⟨seqC ⟨r32_1⟩ ⟨condC ⟨fun _ tm => tg tm 12⟩ ⟨seqC ⟨r32_2⟩ retC⟩ skipC⟩⟩ ⟨seqC ⟨r32_3⟩ ⟨seqC ⟨seqC ⟨r32_4⟩ ⟨condC ⟨fun _ tm => tg tm 21⟩ ⟨seqC ⟨r32_5⟩ retC⟩ skipC⟩⟩ ⟨seqC ⟨r32_6⟩ ⟨seqC ⟨r32_7⟩ ⟨seqC ⟨r32_8⟩ retC⟩⟩⟩⟩⟩⟩⟩
noncomputable def q32 : Box (T Value → H → Option (List Value)) := ⟨fun tm h => (match loadAgg 1 h (tg tm 4) with | some v => (match (some [tg tm 5, tg tm 6] : Option (List Value)) with | some l => some (v :: l) | none => none) | none => none)⟩
/-! 33 cloakroom/cloakroomref06.Put -/
noncomputable def r33_0 : CodeT := fun call _ tm ds h K =>
  kA (some (.rw (Value.cells (tg tm 0)).toList, ptrTo h.next)) ds h (fun v0 ds h =>
  kA (some (.rw (Value.cells (tg (T.set tm 3 v0) 1)).toList, ptrTo h.next)) ds h (fun v1 ds h =>
  kA (some (.rw [(.slice none 0 0)], ptrTo h.next)) ds h (fun v2 ds h =>
  K .norm (T.set (T.set (T.set (T.set tm 3 v0) 4 v1) 6 v2) 7 (.int .i64 (0))) ds h)))
noncomputable def r33_1 : CodeT := fun call _ tm ds h K =>
  kO (loadAgg 2 h (tg tm 4)) ds h (fun v0 ds h =>
  call 43 [v0] h (fun v h => (fun v1 ds h =>
  kO (unV .not v1) ds h (fun v2 ds h =>
  K .norm (T.set tm 13 v2) ds h)) v ds h))
noncomputable def r33_2 : CodeT := fun call _ tm ds h K =>
  kO (loadAgg 1 h (tg tm 3)) ds h (fun v0 ds h =>
  kH (withV undef (storeV 1 h (tg tm 6) v0)) ds (fun v1 ds h =>
  K .norm (T.set tm 7 (.int .i64 (8))) ds h))
noncomputable def r33_3 : CodeT := fun call _ tm ds h K =>
  kO (loadAgg 1 h (tg tm 3)) ds h (fun v0 ds h =>
  kO (loadAgg 2 h (tg tm 4)) ds h (fun v1 ds h =>
  call 44 [v0, v1] h (fun v h => (fun v2 ds h =>
  kO (tupNth 0 v2) ds h (fun v4 ds h =>
  kO (tupNth 1 v2) ds h (fun v5 ds h =>
  K .norm (T.set (T.set tm 8 v4) 9 v5) ds h))) v ds h)))
noncomputable def r33_4 : CodeT := fun call _ tm ds h K =>
  K .norm (T.set tm 10 (.slice none 0 0)) ds h
noncomputable def r33_5 : CodeT := fun call _ tm ds h K =>
  kO (fieldPtr 0 (tg tm 3)) ds h (fun v1 ds h =>
  kO (loadOne h v1) ds h (fun v2 ds h =>
  kO (sliceSl 3 v2 none (some (tg tm 8)) none) ds h (fun v4 ds h =>
  kH (appendV 3 32 h (tg tm 10) v4) ds (fun v5 ds h =>
  K .norm (T.set tm 10 v5) ds h))))
noncomputable def r33_6 : CodeT := fun call _ tm ds h K =>
  kO (loadAgg 2 h (tg tm 4)) ds h (fun v1 ds h =>
  kO (aggO (fill [(.int .i64 (0)), (.string (strB [])), (.int .i64 (0))] (plc [(0, 2), (2, 1)]) [(0, v1), (1, (tg tm 2))])) ds h (fun v3 ds h =>
  kA (mkLit 1 h.next (fill (repl [(.int .i64 (0)), (.string (strB [])), (.int .i64 (0))] 1) (pl 3) [(0, v3)])) ds h (fun v4 ds h =>
  kH (appendV 3 32 h (tg tm 10) v4) ds (fun v5 ds h =>
  K .norm (T.set tm 10 v5) ds h))))
noncomputable def r33_7 : CodeT := fun call _ tm ds h K =>
  K .norm (T.set tm 33 (tg tm 9)) ds h
noncomputable def r33_8 : CodeT := fun call _ tm ds h K =>
  kO (binV Tryd.prog .add 3 true (tg tm 8) (.int .i64 (1))) ds h (fun v1 ds h =>
  K .norm (T.set tm 8 v1) ds h)
noncomputable def r33_9 : CodeT := fun call _ tm ds h K =>
  kO (fieldPtr 0 (tg tm 3)) ds h (fun v1 ds h =>
  kO (loadOne h v1) ds h (fun v2 ds h =>
  kO (sliceSl 3 v2 (some (tg tm 8)) none none) ds h (fun v4 ds h =>
  kH (appendV 3 32 h (tg tm 10) v4) ds (fun v5 ds h =>
  kO (aggO (fill [(.slice none 0 0)] (plc [(0, 1)]) [(0, v5)])) ds h (fun v6 ds h =>
  kH (withV undef (storeV 1 h (tg tm 6) v6)) ds (fun v7 ds h =>
  K .norm (T.set tm 7 (.int .i64 (0))) ds h))))))
noncomputable def c33 : Box CodeT := ⟨seqC ⟨r33_0⟩ ⟨seqC ⟨seqC ⟨r33_1⟩ ⟨condC ⟨fun _ tm => tg tm 13⟩ ⟨seqC ⟨r33_2⟩ retC⟩ skipC⟩⟩ ⟨seqC ⟨r33_3⟩ ⟨seqC ⟨r33_4⟩ ⟨seqC ⟨r33_5⟩ ⟨seqC ⟨r33_6⟩ ⟨seqC ⟨seqC ⟨r33_7⟩ ⟨condC ⟨fun _ tm => tg tm 33⟩ ⟨r33_8⟩ skipC⟩⟩ ⟨seqC ⟨r33_9⟩ retC⟩⟩⟩⟩⟩⟩⟩⟩
noncomputable def q33 : Box (T Value → H → Option (List Value)) := ⟨fun tm h => (match loadAgg 1 h (tg tm 6) with | some v => (match (some [tg tm 7] : Option (List Value)) with | some l => some (v :: l) | none => none) | none => none)⟩
/-! 34 (*cloakroom/table.Table).turn -/
noncomputable def r34_0 : CodeT := fun call _ tm ds h0 K =>
  (fun (b0 : Nat) (h : H) =>
  kO (nilChk (tg tm 0)) ds h (fun v3 ds h =>
  kO (fieldPtr 0 v3) ds h (fun v4 ds h =>
  kO (loadAgg 2 h v4) ds h (fun v5 ds h =>
  aO (mkSlice [(.slice none 0 0)] 24 (b0 + 7) (tg tm 1) (tg tm 1)) (fun x7 v7 =>
  kO (aggO (fill [(.slice none 0 0), (.int .i64 (0))] (plc [(0, 1), (1, 1)]) [(0, v7)])) ds h (fun v8 ds h =>
  kO (nilChk (tg tm 0)) ds h (fun v9 ds h =>
  kO (fieldPtr 2 v9) ds h (fun v10 ds h =>
  kH (withV undef (storeV 2 h v10 v5)) ds (fun v11 ds h =>
  kO (nilChk (tg tm 0)) ds h (fun v12 ds h =>
  kO (fieldPtr 0 v12) ds h (fun v13 ds h =>
  kH (withV undef (storeV 2 (H.put h (b0 + 7) x7) v13 v8)) ds (fun v14 ds h =>
  K .norm tm ds h)))))))))))) h0.next ⟨h0.objs, h0.next + 15⟩
noncomputable def c34 : Box CodeT := ⟨r34_0⟩
noncomputable def q34 : Box (T Value → H → Option (List Value)) := ⟨fun tm h => some []⟩
/-! 35 (*cloakroom/table.rows).row -/
noncomputable def r35_0 : CodeT := fun call _ tm ds h K =>
  kA (some (.rw (Value.cells (tg tm 1)).toList, ptrTo h.next)) ds h (fun v0 ds h =>
  K .norm (T.set (T.set tm 3 v0) 4 (.pointer none)) ds h)
noncomputable def r35_1 : CodeT := fun call _ tm ds h K =>
  kO (fieldPtr 0 (tg tm 3)) ds h (fun v0 ds h =>
  kO (loadOne h v0) ds h (fun v1 ds h =>
  kO (toInt .u8 v1) ds h (fun v2 ds h =>
  kA (mkLit 1 h.next (fill (repl [(.int .u8 (0))] 1) (pl 1) [(0, v2)])) ds h (fun v3 ds h =>
  kO (bytesStr h v3) ds h (fun v4 ds h =>
  kO (fieldPtr 1 (tg tm 3)) ds h (fun v5 ds h =>
  kO (loadOne h v5) ds h (fun v6 ds h =>
  kO (binV Tryd.prog .add 9 false v4 v6) ds h (fun v7 ds h =>
  call 45 [v7] h (fun v h => (fun v8 ds h =>
  K .norm (T.set tm 5 v8) ds h) v ds h)))))))))
noncomputable def r35_2 : CodeT := fun call _ tm ds h0 K =>
  (fun (b0 : Nat) (h : H) =>
  kO (nilChk (tg tm 0)) ds h (fun v1 ds h =>
  kO (fieldPtr 0 v1) ds h (fun v2 ds h =>
  kO (loadOne h v2) ds h (fun v3 ds h =>
  kO (binV Tryd.prog .shr 98 true (tg tm 5) (.int .u64 (32))) ds h (fun v6 ds h =>
  kO (binV Tryd.prog .xor 98 false (tg tm 5) v6) ds h (fun v7 ds h =>
  kO (nilChk (tg tm 0)) ds h (fun v9 ds h =>
  kO (fieldPtr 0 v9) ds h (fun v10 ds h =>
  kO (loadOne h v10) ds h (fun v11 ds h =>
  kO (lenSl v11) ds h (fun v12 ds h =>
  kO (binV Tryd.prog .sub 3 true v12 (.int .i64 (1))) ds h (fun v13 ds h =>
  kO (toInt .u64 v13) ds h (fun v14 ds h =>
  kO (binV Tryd.prog .and 98 false v7 v14) ds h (fun v15 ds h =>
  kO (indexSl 1 v3 v15) ds h (fun v16 ds h =>
  K .norm (T.set tm 4 v16) ds h)))))))))))))) h0.next ⟨h0.objs, h0.next + 18⟩
noncomputable def c35 : Box CodeT := ⟨seqC ⟨r35_0⟩ ⟨seqC ⟨r35_1⟩ ⟨seqC ⟨r35_2⟩ retC⟩⟩⟩
noncomputable def q35 : Box (T Value → H → Option (List Value)) := ⟨fun tm h => some [tg tm 4]⟩
/-! 36 slices.IndexFunc[[]cloakroom/table.entry,cloakroom/table.entry] -/
noncomputable def r36_0 : CodeT := fun call _ tm ds h K =>
  K .norm (T.set tm 4 (.int .i64 (0))) ds h
noncomputable def r36_1 : CodeT := fun call _ tm ds h K =>
  kO (lenSl (tg tm 0)) ds h (fun v1 ds h =>
  K .norm (T.set (T.set tm 7 v1) 8 (.int .i64 (0))) ds h)
noncomputable def r36_2 : CodeT := fun call _ tm ds h K =>
  kO (binV Tryd.prog .lss 3 false (tg tm 8) (tg tm 7)) ds h (fun v0 ds h =>
  K .norm (T.set tm 9 v0) ds h)
noncomputable def r36_3 : CodeT := fun call _ tm ds h K =>
  K .norm (T.set tm 5 (tg tm 8)) ds h
noncomputable def r36_4 : CodeT := fun call _ tm ds h K =>
  kO (indexSl 3 (tg tm 0) (tg tm 5)) ds h (fun v3 ds h =>
  kO (loadAgg 3 h v3) ds h (fun v4 ds h =>
  goCall call (funcArgs (tg tm 1) [v4]) ds h (fun v5 ds h =>
  K .norm (T.set tm 16 v5) ds h)))
noncomputable def r36_5 : CodeT := fun call _ tm ds h K =>
  K .norm (T.set tm 4 (tg tm 5)) ds h
noncomputable def r36_6 : CodeT := fun call _ tm ds h K =>
  kO (binV Tryd.prog .add 3 true (tg tm 8) (.int .i64 (1))) ds h (fun v0 ds h =>
  K .norm (T.set tm 8 v0) ds h)
noncomputable def l36_7 : Box CodeT := ⟨seqC ⟨r36_2⟩ ⟨seqC ⟨condC ⟨fun _ tm => tg tm 9⟩ skipC (exitC 0)⟩ ⟨seqC ⟨blockC 1 ⟨seqC ⟨r36_3⟩ ⟨seqC ⟨r36_4⟩ ⟨condC ⟨fun _ tm => tg tm 16⟩ ⟨seqC ⟨r36_5⟩ retC⟩ skipC⟩⟩⟩⟩ ⟨r36_6⟩⟩⟩⟩
noncomputable def r36_7 : CodeT := fun call _ tm ds h K =>
  K .norm (T.set tm 4 (.int .i64 (-1))) ds h
noncomputable def c36 : Box CodeT := ⟨seqC ⟨r36_0⟩ ⟨seqC ⟨seqC ⟨r36_1⟩ ⟨blockC 0 (loopB l36_7)⟩⟩ ⟨seqC ⟨r36_7⟩ retC⟩⟩⟩
noncomputable def q36 : Box (T Value → H → Option (List Value)) := ⟨fun tm h => some [tg tm 4]⟩
/-! 37 (*cloakroom/table.rows).del$1 -/
noncomputable def r37_0 : CodeT := fun call _ tm ds h K =>
  kA (some (.rw (Value.cells (tg tm 0)).toList, ptrTo h.next)) ds h (fun v0 ds h =>
  K .norm (T.set (T.set tm 2 v0) 3 (.bool false)) ds h)
noncomputable def r37_1 : CodeT := fun call _ tm ds h K =>
  kO (fieldPtr 0 (tg tm 2)) ds h (fun v0 ds h =>
  kO (loadAgg 2 h v0) ds h (fun v1 ds h =>
  kO (loadAgg 2 h (tg tm 1)) ds h (fun v2 ds h =>
  kO (binV Tryd.prog .eql 27 false v1 v2) ds h (fun v3 ds h =>
  K .norm (T.set tm 3 v3) ds h))))
noncomputable def c37 : Box CodeT := ⟨seqC ⟨r37_0⟩ ⟨seqC ⟨r37_1⟩ retC⟩⟩
noncomputable def q37 : Box (T Value → H → Option (List Value)) := ⟨fun tm h => some [tg tm 3]⟩
/-! 38 slices.Delete[[]cloakroom/table.entry,cloakroom/table.entry] -/
noncomputable def r38_0 : CodeT := fun call _ tm ds h K =>
  K .norm (T.set tm 6 (.slice none 0 0)) ds h
noncomputable def r38_1 : CodeT := fun call _ tm ds h K =>
  kO (lenSl (tg tm 0)) ds h (fun v4 ds h =>
  kO (sliceSl 3 (tg tm 0) (some (tg tm 1)) (some (tg tm 2)) (some v4)) ds h (fun v5 ds h =>
  K .norm tm ds h))
noncomputable def r38_2 : CodeT := fun call _ tm ds h K =>
  kO (binV Tryd.prog .eql 3 false (tg tm 1) (tg tm 2)) ds h (fun v2 ds h =>
  K .norm (T.set tm 16 v2) ds h)
noncomputable def r38_3 : CodeT := fun call _ tm ds h K =>
  K .norm (T.set tm 6 (tg tm 0)) ds h
noncomputable def r38_4 : CodeT := fun call _ tm ds h K =>
  kO (lenSl (tg tm 0)) ds h (fun v1 ds h =>
  K .norm (T.set tm 7 v1) ds h)
noncomputable def r38_5 : CodeT := fun call _ tm ds h0 K =>
  (fun (b0 : Nat) (h : H) =>
  kO (sliceSl 3 (tg tm 0) none (some (tg tm 1)) none) ds h (fun v2 ds h =>
  kO (sliceSl 3 (tg tm 0) (some (tg tm 2)) none none) ds h (fun v5 ds h =>
  kH (appendV 3 32 h v2 v5) ds (fun v6 ds h =>
  K .norm (T.set tm 0 v6) ds h)))) h0.next ⟨h0.objs, h0.next + 8⟩
noncomputable def r38_6 : CodeT := fun call _ tm ds h K =>
  kO (lenSl (tg tm 0)) ds h (fun v2 ds h =>
  kO (sliceSl 3 (tg tm 0) (some v2) (some (tg tm 7)) none) ds h (fun v4 ds h =>
  kH (withV (.tuple #[]) (clearS [(.int .i64 (0)), (.string (strB [])), (.int .i64 (0))] h v4)) ds (fun v5 ds h =>
  K .norm tm ds h)))
noncomputable def r38_7 : CodeT := fun call _ tm ds h K =>
  K .norm (T.set tm 6 (tg tm 0)) ds h
noncomputable def c38 : Box CodeT := ⟨seqC ⟨r38_0⟩ ⟨seqC ⟨r38_1⟩ ⟨seqC ⟨seqC ⟨r38_2⟩ ⟨condC ⟨fun _ tm => tg tm 16⟩ ⟨seqC ⟨r38_3⟩ retC⟩ skipC⟩⟩ ⟨seqC ⟨r38_4⟩ ⟨seqC ⟨r38_5⟩ ⟨seqC ⟨r38_6⟩ ⟨seqC ⟨r38_7⟩ retC⟩⟩⟩⟩⟩⟩⟩
noncomputable def q38 : Box (T Value → H → Option (List Value)) := ⟨fun tm h => some [tg tm 6]⟩
/-! 39 slices.pdqsortCmpFunc[cloakroom/api.Name] -/
noncomputable def r39_0 : CodeT := fun call _ tm ds h K =>
  K .norm (T.set tm 10 (.bool true)) ds h
noncomputable def r39_1 : CodeT := fun call _ tm ds h K =>
  K .norm (T.set tm 11 (.bool true)) ds h
noncomputable def r39_2 : CodeT := fun call _ tm ds h K =>
  kO (binV Tryd.prog .sub 3 false (tg tm 2) (tg tm 1)) ds h (fun v2 ds h =>
  K .norm (T.set tm 12 v2) ds h)
noncomputable def r39_3 : CodeT := fun call _ tm ds h K =>
  kO (binV Tryd.prog .leq 3 true (tg tm 12) (.int .i64 (12))) ds h (fun v1 ds h =>
  K .norm (T.set tm 25 v1) ds h)
noncomputable def r39_4 : CodeT := fun call _ tm ds h K =>
  call 46 [(tg tm 0), (tg tm 1), (tg tm 2), (tg tm 4)] h (fun v h => (fun v4 ds h =>
  K .norm tm ds h) v ds h)
noncomputable def r39_5 : CodeT := fun call _ tm ds h K =>
  kO (binV Tryd.prog .eql 3 true (tg tm 3) (.int .i64 (0))) ds h (fun v1 ds h =>
  K .norm (T.set tm 32 v1) ds h)
noncomputable def r39_6 : CodeT := fun call _ tm ds h K =>
  call 47 [(tg tm 0), (tg tm 1), (tg tm 2), (tg tm 4)] h (fun v h => (fun v4 ds h =>
  K .norm tm ds h) v ds h)
noncomputable def r39_7 : CodeT := fun call _ tm ds h K =>
  kO (unV .not (tg tm 10)) ds h (fun v1 ds h =>
  K .norm (T.set tm 39 v1) ds h)
noncomputable def r39_8 : CodeT := fun call _ tm ds h K =>
  call 48 [(tg tm 0), (tg tm 1), (tg tm 2), (tg tm 4)] h (fun v h => (fun v4 ds h =>
  K .norm tm ds h) v ds h)
noncomputable def r39_9 : CodeT := fun call _ tm ds h K =>
  kO (binV Tryd.prog .sub 3 true (tg tm 3) (.int .i64 (1))) ds h (fun v1 ds h =>
  K .norm (T.set tm 3 v1) ds h)
noncomputable def r39_10 : CodeT := fun call _ tm ds h K =>
  call 49 [(tg tm 0), (tg tm 1), (tg tm 2), (tg tm 4)] h (fun v h => (fun v4 ds h =>
  kO (tupNth 0 v4) ds h (fun v6 ds h =>
  kO (tupNth 1 v4) ds h (fun v7 ds h =>
  K .norm (T.set (T.set tm 13 v6) 14 v7) ds h))) v ds h)
noncomputable def r39_11 : CodeT := fun call _ tm ds h K =>
  kO (binV Tryd.prog .eql 101 true (tg tm 14) (.int .i64 (2))) ds h (fun v1 ds h =>
  K .norm (T.set tm 56 v1) ds h)
noncomputable def r39_12 : CodeT := fun call _ tm ds h K =>
  call 50 [(tg tm 0), (tg tm 1), (tg tm 2), (tg tm 4)] h (fun v h => (fun v4 ds h =>
  K .norm tm ds h) v ds h)
noncomputable def r39_13 : CodeT := fun call _ tm ds h K =>
  kO (binV Tryd.prog .sub 3 true (tg tm 2) (.int .i64 (1))) ds h (fun v1 ds h =>
  kO (binV Tryd.prog .sub 3 false (tg tm 13) (tg tm 1)) ds h (fun v4 ds h =>
  kO (binV Tryd.prog .sub 3 false v1 v4) ds h (fun v5 ds h =>
  K .norm (T.set tm 13 v5) ds h)))
noncomputable def r39_14 : CodeT := fun call _ tm ds h K =>
  K .norm (T.set tm 14 (.int .i64 (1))) ds h
noncomputable def r39_15 : CodeT := fun call _ tm ds h K => (⟨opStep ⟨fun call env tm ds h K => kO (some (tg tm 10)) ds h K⟩ ⟨fun v tm => tm⟩ ⟨fun env tm => true⟩
  ⟨opStep ⟨fun call env tm ds h K => kO (some (nthD 0 env)) ds h K⟩ ⟨fun v tm => tm⟩ ⟨fun env tm => true⟩
  ⟨opStep ⟨fun call env tm ds h K => kO (some (tg tm 11)) ds h K⟩ ⟨fun v tm => tm⟩ ⟨fun env tm => isB true (nthD 0 env)⟩
  ⟨opStep ⟨fun call env tm ds h K => kO (pickV (nthD 1 env) (nthD 0 env) (.bool false)) ds h K⟩ ⟨fun v tm => tm⟩ ⟨fun env tm => true⟩
  ⟨opStep ⟨fun call env tm ds h K => kO (some (nthD 0 env)) ds h K⟩ ⟨fun v tm => tm⟩ ⟨fun env tm => true⟩
  ⟨opStep ⟨fun call env tm ds h K => kO (some (tg tm 14)) ds h K⟩ ⟨fun v tm => tm⟩ ⟨fun env tm => isB true (nthD 0 env)⟩
  ⟨opStep ⟨fun call env tm ds h K => kO (binV Tryd.prog .eql 101 true (nthD 0 env) (.int .i64 (1))) ds h K⟩ ⟨fun v tm => tm⟩ ⟨fun env tm => isB true (nthD 1 env)⟩
  ⟨opStep ⟨fun call env tm ds h K => kO (pickV (nthD 2 env) (nthD 0 env) (.bool false)) ds h K⟩ ⟨fun v tm => (T.set tm 75 v)⟩ ⟨fun env tm => true⟩
  ⟨fun _ _ tm ds h K => K .norm tm ds h⟩⟩⟩⟩⟩⟩⟩⟩⟩ : Box OpsT).f call [] tm ds h K
noncomputable def r39_16 : CodeT := fun call _ tm ds h K =>
  call 51 [(tg tm 0), (tg tm 1), (tg tm 2), (tg tm 4)] h (fun v h => (fun v4 ds h =>
  K .norm (T.set tm 80 v4) ds h) v ds h)
noncomputable def r39_17 : CodeT := fun call _ tm ds h0 K =>
  (fun (b0 : Nat) (h : H) =>
  kO (binV Tryd.prog .gtr 3 true (tg tm 1) (.int .i64 (0))) ds h (fun v1 ds h =>
  gd (isB true v1) (fun k => kO (some (tg tm 4)) ds h k) ds h (fun v3 ds h =>
  gd (isB true v1) (fun k => kO (some (tg tm 0)) ds h k) ds h (fun v4 ds h =>
  gd (isB true v1) (fun k => kO (some (tg tm 1)) ds h k) ds h (fun v5 ds h =>
  gd (isB true v1) (fun k => kO (binV Tryd.prog .sub 3 true v5 (.int .i64 (1))) ds h k) ds h (fun v6 ds h =>
  gd (isB true v1) (fun k => kO (indexSl 2 v4 v6) ds h k) ds h (fun v7 ds h =>
  ite2 (isB true v1) (kO (loadAgg 2 h v7) ds h (fun v8 ds h =>
  gd (isB true v1) (fun k => kO (some (tg tm 0)) ds h k) ds h (fun v9 ds h =>
  gd (isB true v1) (fun k => kO (some (tg tm 13)) ds h k) ds h (fun v10 ds h =>
  gd (isB true v1) (fun k => kO (indexSl 2 v9 v10) ds h k) ds h (fun v11 ds h =>
  ite2 (isB true v1) (kO (loadAgg 2 h v11) ds h (fun v12 ds h =>
  ite2 (isB true v1) (goCall call (funcArgs v3 [v8, v12]) ds h (fun v13 ds h =>
  gd (isB true v1) (fun k => kO (binV Tryd.prog .lss 3 true v13 (.int .i64 (0))) ds h k) ds h (fun v14 ds h =>
  gd (isB true v1) (fun k => kO (unV .not v14) ds h k) ds h (fun v15 ds h =>
  kO (pickV v1 v15 (.bool false)) ds h (fun v16 ds h =>
  K .norm (T.set tm 97 v16) ds h)))))
  (gd (isB true v1) (fun k => kO (binV Tryd.prog .lss 3 true undef (.int .i64 (0))) ds h k) ds h (fun v14 ds h =>
  gd (isB true v1) (fun k => kO (unV .not v14) ds h k) ds h (fun v15 ds h =>
  kO (pickV v1 v15 (.bool false)) ds h (fun v16 ds h =>
  K .norm (T.set tm 97 v16) ds h))))))
  (ite2 (isB true v1) (goCall call (funcArgs v3 [v8, undef]) ds h (fun v13 ds h =>
  gd (isB true v1) (fun k => kO (binV Tryd.prog .lss 3 true v13 (.int .i64 (0))) ds h k) ds h (fun v14 ds h =>
  gd (isB true v1) (fun k => kO (unV .not v14) ds h k) ds h (fun v15 ds h =>
  kO (pickV v1 v15 (.bool false)) ds h (fun v16 ds h =>
  K .norm (T.set tm 97 v16) ds h)))))
  (gd (isB true v1) (fun k => kO (binV Tryd.prog .lss 3 true undef (.int .i64 (0))) ds h k) ds h (fun v14 ds h =>
  gd (isB true v1) (fun k => kO (unV .not v14) ds h k) ds h (fun v15 ds h =>
  kO (pickV v1 v15 (.bool false)) ds h (fun v16 ds h =>
  K .norm (T.set tm 97 v16) ds h))))))))))
  (gd (isB true v1) (fun k => kO (some (tg tm 0)) ds h k) ds h (fun v9 ds h =>
  gd (isB true v1) (fun k => kO (some (tg tm 13)) ds h k) ds h (fun v10 ds h =>
  gd (isB true v1) (fun k => kO (indexSl 2 v9 v10) ds h k) ds h (fun v11 ds h =>
  ite2 (isB true v1) (kO (loadAgg 2 h v11) ds h (fun v12 ds h =>
  ite2 (isB true v1) (goCall call (funcArgs v3 [undef, v12]) ds h (fun v13 ds h =>
  gd (isB true v1) (fun k => kO (binV Tryd.prog .lss 3 true v13 (.int .i64 (0))) ds h k) ds h (fun v14 ds h =>
  gd (isB true v1) (fun k => kO (unV .not v14) ds h k) ds h (fun v15 ds h =>
  kO (pickV v1 v15 (.bool false)) ds h (fun v16 ds h =>
  K .norm (T.set tm 97 v16) ds h)))))
  (gd (isB true v1) (fun k => kO (binV Tryd.prog .lss 3 true undef (.int .i64 (0))) ds h k) ds h (fun v14 ds h =>
  gd (isB true v1) (fun k => kO (unV .not v14) ds h k) ds h (fun v15 ds h =>
  kO (pickV v1 v15 (.bool false)) ds h (fun v16 ds h =>
  K .norm (T.set tm 97 v16) ds h))))))
  (ite2 (isB true v1) (goCall call (funcArgs v3 [undef, undef]) ds h (fun v13 ds h =>
  gd (isB true v1) (fun k => kO (binV Tryd.prog .lss 3 true v13 (.int .i64 (0))) ds h k) ds h (fun v14 ds h =>
  gd (isB true v1) (fun k => kO (unV .not v14) ds h k) ds h (fun v15 ds h =>
  kO (pickV v1 v15 (.bool false)) ds h (fun v16 ds h =>
  K .norm (T.set tm 97 v16) ds h)))))
  (gd (isB true v1) (fun k => kO (binV Tryd.prog .lss 3 true undef (.int .i64 (0))) ds h k) ds h (fun v14 ds h =>
  gd (isB true v1) (fun k => kO (unV .not v14) ds h k) ds h (fun v15 ds h =>
  kO (pickV v1 v15 (.bool false)) ds h (fun v16 ds h =>
  K .norm (T.set tm 97 v16) ds h)))))))))))))))) h0.next ⟨h0.objs, h0.next + 17⟩
noncomputable def r39_18 : CodeT := fun call _ tm ds h K =>
  call 52 [(tg tm 0), (tg tm 1), (tg tm 2), (tg tm 13), (tg tm 4)] h (fun v h => (fun v5 ds h =>
  K .norm (T.set tm 15 v5) ds h) v ds h)
noncomputable def r39_19 : CodeT := fun call _ tm ds h K =>
  K .norm (T.set tm 1 (tg tm 15)) ds h
noncomputable def r39_20 : CodeT := fun call _ tm ds h K =>
  call 53 [(tg tm 0), (tg tm 1), (tg tm 2), (tg tm 13), (tg tm 4)] h (fun v h => (fun v5 ds h =>
  kO (tupNth 0 v5) ds h (fun v7 ds h =>
  kO (tupNth 1 v5) ds h (fun v8 ds h =>
  K .norm (T.set (T.set tm 16 v7) 17 v8) ds h))) v ds h)
noncomputable def r39_21 : CodeT := fun call _ tm ds h K =>
  K .norm (T.set tm 11 (tg tm 17)) ds h
noncomputable def r39_22 : CodeT := fun call _ tm ds h K =>
  kO (binV Tryd.prog .sub 3 false (tg tm 16) (tg tm 1)) ds h (fun v2 ds h =>
  kO (binV Tryd.prog .sub 3 false (tg tm 2) (tg tm 16)) ds h (fun v5 ds h =>
  K .norm (T.set (T.set tm 18 v2) 19 v5) ds h))
noncomputable def r39_23 : CodeT := fun call _ tm ds h K =>
  kO (binV Tryd.prog .quo 3 true (tg tm 12) (.int .i64 (8))) ds h (fun v1 ds h =>
  K .norm (T.set tm 20 v1) ds h)
noncomputable def r39_24 : CodeT := fun call _ tm ds h K =>
  kO (binV Tryd.prog .lss 3 false (tg tm 18) (tg tm 19)) ds h (fun v2 ds h =>
  K .norm (T.set tm 125 v2) ds h)
noncomputable def r39_25 : CodeT := fun call _ tm ds h K =>
  kO (binV Tryd.prog .geq 3 false (tg tm 18) (tg tm 20)) ds h (fun v2 ds h =>
  K .norm (T.set tm 10 v2) ds h)
noncomputable def r39_26 : CodeT := fun call _ tm ds h K =>
  call 39 [(tg tm 0), (tg tm 1), (tg tm 16), (tg tm 3), (tg tm 4)] h (fun v h => (fun v5 ds h =>
  K .norm tm ds h) v ds h)
noncomputable def r39_27 : CodeT := fun call _ tm ds h K =>
  kO (binV Tryd.prog .add 3 true (tg tm 16) (.int .i64 (1))) ds h (fun v1 ds h =>
  K .norm (T.set tm 1 v1) ds h)
noncomputable def r39_28 : CodeT := fun call _ tm ds h K =>
  kO (binV Tryd.prog .geq 3 false (tg tm 19) (tg tm 20)) ds h (fun v2 ds h =>
  K .norm (T.set tm 10 v2) ds h)
noncomputable def r39_29 : CodeT := fun call _ tm ds h K =>
  kO (binV Tryd.prog .add 3 true (tg tm 16) (.int .i64 (1))) ds h (fun v2 ds h =>
  call 39 [(tg tm 0), v2, (tg tm 2), (tg tm 3), (tg tm 4)] h (fun v h => (fun v6 ds h =>
  K .norm tm ds h) v ds h))
noncomputable def r39_30 : CodeT := fun call _ tm ds h K =>
  K .norm (T.set tm 2 (tg tm 16)) ds h
noncomputable def l39_31 : Box CodeT := ⟨blockC 1 ⟨seqC ⟨r39_2⟩ ⟨seqC ⟨seqC ⟨r39_3⟩ ⟨condC ⟨fun _ tm => tg tm 25⟩ ⟨seqC ⟨r39_4⟩ retC⟩ skipC⟩⟩ ⟨seqC ⟨seqC ⟨r39_5⟩ ⟨condC ⟨fun _ tm => tg tm 32⟩ ⟨seqC ⟨r39_6⟩ retC⟩ skipC⟩⟩ ⟨seqC ⟨seqC ⟨r39_7⟩ ⟨condC ⟨fun _ tm => tg tm 39⟩ ⟨seqC ⟨r39_8⟩ ⟨r39_9⟩⟩ skipC⟩⟩ ⟨seqC ⟨r39_10⟩ ⟨seqC ⟨seqC ⟨r39_11⟩ ⟨condC ⟨fun _ tm => tg tm 56⟩ ⟨seqC ⟨r39_12⟩ ⟨seqC ⟨r39_13⟩ ⟨r39_14⟩⟩⟩ skipC⟩⟩ ⟨seqC ⟨seqC ⟨r39_15⟩ ⟨condC ⟨fun _ tm => tg tm 75⟩ ⟨seqC ⟨r39_16⟩ ⟨condC ⟨fun _ tm => tg tm 80⟩ retC skipC⟩⟩ skipC⟩⟩ ⟨seqC ⟨seqC ⟨r39_17⟩ ⟨condC ⟨fun _ tm => tg tm 97⟩ ⟨seqC ⟨r39_18⟩ ⟨seqC ⟨r39_19⟩ (exitC 1)⟩⟩ skipC⟩⟩ ⟨seqC ⟨r39_20⟩ ⟨seqC ⟨r39_21⟩ ⟨seqC ⟨r39_22⟩ ⟨seqC ⟨r39_23⟩ ⟨seqC ⟨r39_24⟩ ⟨condC ⟨fun _ tm => tg tm 125⟩ ⟨seqC ⟨r39_25⟩ ⟨seqC ⟨r39_26⟩ ⟨r39_27⟩⟩⟩ ⟨seqC ⟨r39_28⟩ ⟨seqC ⟨r39_29⟩ ⟨r39_30⟩⟩⟩⟩⟩⟩⟩⟩⟩⟩⟩⟩⟩⟩⟩⟩⟩⟩
noncomputable def c39 : Box CodeT := ⟨seqC ⟨r39_0⟩ ⟨seqC ⟨r39_1⟩ ⟨blockC 0 (loopB l39_31)⟩⟩⟩
noncomputable def q39 : Box (T Value → H → Option (List Value)) := ⟨fun tm h => some []⟩
/-! 40 math/bits.Len -/
noncomputable def r40_0 : CodeT := fun call _ tm ds h K =>
  K .norm (T.set tm 2 (.int .i64 (0))) ds h
noncomputable def r40_1 : CodeT := fun call _ tm ds h K =>
  kO (toInt .u32 (tg tm 0)) ds h (fun v1 ds h =>
  call 54 [v1] h (fun v h => (fun v2 ds h =>
  K .norm (T.set tm 2 v2) ds h) v ds h))
noncomputable def r40_2 : CodeT := fun call _ tm ds h K =>
  call 55 [(tg tm 0)] h (fun v h => (fun v1 ds h =>
  K .norm (T.set tm 2 v1) ds h) v ds h)
noncomputable def c40 : Box CodeT := ⟨seqC ⟨r40_0⟩ ⟨seqC ⟨condC ⟨fun _ _ => (.bool false)⟩ ⟨seqC ⟨r40_1⟩ retC⟩ skipC⟩ ⟨seqC ⟨r40_2⟩ retC⟩⟩⟩
noncomputable def q40 : Box (T Value → H → Option (List Value)) := ⟨fun tm h => some [tg tm 2]⟩
/-! 41 cmp.isNaN[int] -/
noncomputable def r41_0 : CodeT := fun call _ tm ds h K =>
  K .norm (T.set tm 2 (.bool false)) ds h
noncomputable def r41_1 : CodeT := fun call _ tm ds h K =>
  kO (binV Tryd.prog .neq 3 false (tg tm 0) (tg tm 0)) ds h (fun v2 ds h =>
  K .norm (T.set tm 2 v2) ds h)
noncomputable def c41 : Box CodeT := ⟨seqC ⟨r41_0⟩ ⟨seqC ⟨r41_1⟩ retC⟩⟩
noncomputable def q41 : Box (T Value → H → Option (List Value)) := ⟨fun tm h => some [tg tm 2]⟩
/-! 42 internal/bytealg.CompareString -/
noncomputable def r42_0 : CodeT := fun call _ tm ds h K =>
  K .norm (T.set tm 4 (.int .i64 (0))) ds h
noncomputable def r42_1 : CodeT := fun call _ tm ds h K =>
  call 56 [(tg tm 0), (tg tm 1)] h (fun v h => (fun v2 ds h =>
  K .norm (T.set tm 4 v2) ds h) v ds h)
noncomputable def c42 : Box CodeT := ⟨seqC ⟨r42_0⟩ ⟨seqC ⟨r42_1⟩ retC⟩⟩
noncomputable def q42 : Box (T Value → H → Option (List Value)) := ⟨fun tm h => some [tg tm 4]⟩
/-! 43 cloakroom/cloakroomref04.Name -/
noncomputable def r43_0 : CodeT := fun call _ tm ds h K =>
  kA (some (.rw (Value.cells (tg tm 0)).toList, ptrTo h.next)) ds h (fun v0 ds h =>
  K .norm (T.set (T.set tm 1 v0) 2 (.bool false)) ds h)
noncomputable def r43_1 : CodeT := fun call _ tm ds h K => (⟨opStep ⟨fun call env tm ds h K => kO (fieldPtr 0 (tg tm 1)) ds h K⟩ ⟨fun v tm => tm⟩ ⟨fun env tm => true⟩
  ⟨opStep ⟨fun call env tm ds h K => kO (loadOne h (nthD 0 env)) ds h K⟩ ⟨fun v tm => tm⟩ ⟨fun env tm => true⟩
  ⟨opStep ⟨fun call env tm ds h K => call 57 [(nthD 0 env)] h (fun v h => (K) v ds h)⟩ ⟨fun v tm => tm⟩ ⟨fun env tm => true⟩
  ⟨opStep ⟨fun call env tm ds h K => kO (some (nthD 0 env)) ds h K⟩ ⟨fun v tm => tm⟩ ⟨fun env tm => true⟩
  ⟨opStep ⟨fun call env tm ds h K => kO (fieldPtr 1 (tg tm 1)) ds h K⟩ ⟨fun v tm => tm⟩ ⟨fun env tm => isB true (nthD 0 env)⟩
  ⟨opStep ⟨fun call env tm ds h K => kO (loadOne h (nthD 0 env)) ds h K⟩ ⟨fun v tm => tm⟩ ⟨fun env tm => isB true (nthD 1 env)⟩
  ⟨opStep ⟨fun call env tm ds h K => call 58 [(nthD 0 env)] h (fun v h => (K) v ds h)⟩ ⟨fun v tm => tm⟩ ⟨fun env tm => isB true (nthD 2 env)⟩
  ⟨opStep ⟨fun call env tm ds h K => kO (pickV (nthD 3 env) (nthD 0 env) (.bool false)) ds h K⟩ ⟨fun v tm => tm⟩ ⟨fun env tm => true⟩
  ⟨opStep ⟨fun call env tm ds h K => kO (some (nthD 0 env)) ds h K⟩ ⟨fun v tm => (T.set tm 2 v)⟩ ⟨fun env tm => true⟩
  ⟨fun _ _ tm ds h K => K .norm tm ds h⟩⟩⟩⟩⟩⟩⟩⟩⟩⟩ : Box OpsT).f call [] tm ds h K
noncomputable def c43 : Box CodeT := ⟨seqC ⟨r43_0⟩ ⟨seqC ⟨r43_1⟩ retC⟩⟩
noncomputable def q43 : Box (T Value → H → Option (List Value)) := ⟨fun tm h => some [tg tm 2]⟩
/-! 44 cloakroom/cloakroomref06.find -/
noncomputable def r44_0 : CodeT := fun call _ tm ds h K =>
  kA (some (.rw (Value.cells (tg tm 0)).toList, ptrTo h.next)) ds h (fun v0 ds h =>
  kA (some (.rw (Value.cells (tg (T.set tm 2 v0) 1)).toList, ptrTo h.next)) ds h (fun v1 ds h =>
  K .norm (T.set (T.set (T.set (T.set tm 2 v0) 3 v1) 4 (.int .i64 (0))) 5 (.bool false)) ds h))
noncomputable def r44_1 : CodeT := fun call _ tm ds h K =>
  K .norm (T.set tm 6 (.int .i64 (0))) ds h
noncomputable def r44_2 : CodeT := fun call _ tm ds h0 K =>
  (fun (b0 : Nat) (h : H) =>
  kO (fieldPtr 0 (tg tm 2)) ds h (fun v1 ds h =>
  kO (loadOne h v1) ds h (fun v2 ds h =>
  kO (lenSl v2) ds h (fun v3 ds h =>
  kO (binV Tryd.prog .lss 3 false (tg tm 6) v3) ds h (fun v4 ds h =>
  gd (isB true v4) (fun k => kO (fieldPtr 0 (tg tm 2)) ds h k) ds h (fun v6 ds h =>
  ite2 (isB true v4) (kO (loadOne h v6) ds h (fun v7 ds h =>
  gd (isB true v4) (fun k => kO (some (tg tm 6)) ds h k) ds h (fun v8 ds h =>
  gd (isB true v4) (fun k => kO (indexSl 3 v7 v8) ds h k) ds h (fun v9 ds h =>
  gd (isB true v4) (fun k => kO (fieldPtr 0 v9) ds h k) ds h (fun v10 ds h =>
  ite2 (isB true v4) (kO (loadAgg 2 h v10) ds h (fun v11 ds h =>
  ite2 (isB true v4) (kO (loadAgg 2 h (tg tm 3)) ds h (fun v12 ds h =>
  ite2 (isB true v4) (call 20 [v11, v12] h (fun v h => (fun v13 ds h =>
  kO (pickV v4 v13 (.bool false)) ds h (fun v14 ds h =>
  K .norm (T.set tm 21 v14) ds h)) v ds h))
  (kO (pickV v4 undef (.bool false)) ds h (fun v14 ds h =>
  K .norm (T.set tm 21 v14) ds h))))
  (ite2 (isB true v4) (call 20 [v11, undef] h (fun v h => (fun v13 ds h =>
  kO (pickV v4 v13 (.bool false)) ds h (fun v14 ds h =>
  K .norm (T.set tm 21 v14) ds h)) v ds h))
  (kO (pickV v4 undef (.bool false)) ds h (fun v14 ds h =>
  K .norm (T.set tm 21 v14) ds h)))))
  (ite2 (isB true v4) (kO (loadAgg 2 h (tg tm 3)) ds h (fun v12 ds h =>
  ite2 (isB true v4) (call 20 [undef, v12] h (fun v h => (fun v13 ds h =>
  kO (pickV v4 v13 (.bool false)) ds h (fun v14 ds h =>
  K .norm (T.set tm 21 v14) ds h)) v ds h))
  (kO (pickV v4 undef (.bool false)) ds h (fun v14 ds h =>
  K .norm (T.set tm 21 v14) ds h))))
  (ite2 (isB true v4) (call 20 [undef, undef] h (fun v h => (fun v13 ds h =>
  kO (pickV v4 v13 (.bool false)) ds h (fun v14 ds h =>
  K .norm (T.set tm 21 v14) ds h)) v ds h))
  (kO (pickV v4 undef (.bool false)) ds h (fun v14 ds h =>
  K .norm (T.set tm 21 v14) ds h)))))))))
  (gd (isB true v4) (fun k => kO (some (tg tm 6)) ds h k) ds h (fun v8 ds h =>
  gd (isB true v4) (fun k => kO (indexSl 3 undef v8) ds h k) ds h (fun v9 ds h =>
  gd (isB true v4) (fun k => kO (fieldPtr 0 v9) ds h k) ds h (fun v10 ds h =>
  ite2 (isB true v4) (kO (loadAgg 2 h v10) ds h (fun v11 ds h =>
  ite2 (isB true v4) (kO (loadAgg 2 h (tg tm 3)) ds h (fun v12 ds h =>
  ite2 (isB true v4) (call 20 [v11, v12] h (fun v h => (fun v13 ds h =>
  kO (pickV v4 v13 (.bool false)) ds h (fun v14 ds h =>
  K .norm (T.set tm 21 v14) ds h)) v ds h))
  (kO (pickV v4 undef (.bool false)) ds h (fun v14 ds h =>
  K .norm (T.set tm 21 v14) ds h))))
  (ite2 (isB true v4) (call 20 [v11, undef] h (fun v h => (fun v13 ds h =>
  kO (pickV v4 v13 (.bool false)) ds h (fun v14 ds h =>
  K .norm (T.set tm 21 v14) ds h)) v ds h))
  (kO (pickV v4 undef (.bool false)) ds h (fun v14 ds h =>
  K .norm (T.set tm 21 v14) ds h)))))
  (ite2 (isB true v4) (kO (loadAgg 2 h (tg tm 3)) ds h (fun v12 ds h =>
  ite2 (isB true v4) (call 20 [undef, v12] h (fun v h => (fun v13 ds h =>
  kO (pickV v4 v13 (.bool false)) ds h (fun v14 ds h =>
  K .norm (T.set tm 21 v14) ds h)) v ds h))
  (kO (pickV v4 undef (.bool false)) ds h (fun v14 ds h =>
  K .norm (T.set tm 21 v14) ds h))))
  (ite2 (isB true v4) (call 20 [undef, undef] h (fun v h => (fun v13 ds h =>
  kO (pickV v4 v13 (.bool false)) ds h (fun v14 ds h =>
  K .norm (T.set tm 21 v14) ds h)) v ds h))
  (kO (pickV v4 undef (.bool false)) ds h (fun v14 ds h =>
  K .norm (T.set tm 21 v14) ds h)))))))))))))) h0.next ⟨h0.objs, h0.next + 15⟩
noncomputable def r44_3 : CodeT := fun call _ tm ds h K =>
  kO (binV Tryd.prog .add 3 true (tg tm 6) (.int .i64 (1))) ds h (fun v1 ds h =>
  K .norm (T.set tm 6 v1) ds h)
noncomputable def l44_4 : Box CodeT := ⟨seqC ⟨seqC ⟨r44_2⟩ ⟨condC ⟨fun _ tm => tg tm 21⟩ skipC (exitC 0)⟩⟩ ⟨blockC 1 ⟨r44_3⟩⟩⟩
noncomputable def r44_4 : CodeT := fun call _ tm ds h0 K =>
  (fun (b0 : Nat) (h : H) =>
  kO (fieldPtr 0 (tg tm 2)) ds h (fun v2 ds h =>
  kO (loadOne h v2) ds h (fun v3 ds h =>
  kO (lenSl v3) ds h (fun v4 ds h =>
  kO (binV Tryd.prog .lss 3 false (tg tm 6) v4) ds h (fun v5 ds h =>
  gd (isB true v5) (fun k => kO (fieldPtr 0 (tg tm 2)) ds h k) ds h (fun v7 ds h =>
  ite2 (isB true v5) (kO (loadOne h v7) ds h (fun v8 ds h =>
  gd (isB true v5) (fun k => kO (some (tg tm 6)) ds h k) ds h (fun v9 ds h =>
  gd (isB true v5) (fun k => kO (indexSl 3 v8 v9) ds h k) ds h (fun v10 ds h =>
  gd (isB true v5) (fun k => kO (fieldPtr 0 v10) ds h k) ds h (fun v11 ds h =>
  ite2 (isB true v5) (kO (loadAgg 2 h v11) ds h (fun v12 ds h =>
  ite2 (isB true v5) (kO (loadAgg 2 h (tg tm 3)) ds h (fun v13 ds h =>
  gd (isB true v5) (fun k => kO (binV Tryd.prog .eql 27 false v12 v13) ds h k) ds h (fun v14 ds h =>
  kO (pickV v5 v14 (.bool false)) ds h (fun v15 ds h =>
  K .norm (T.set (T.set tm 4 (tg tm 6)) 5 v15) ds h))))
  (gd (isB true v5) (fun k => kO (binV Tryd.prog .eql 27 false v12 undef) ds h k) ds h (fun v14 ds h =>
  kO (pickV v5 v14 (.bool false)) ds h (fun v15 ds h =>
  K .norm (T.set (T.set tm 4 (tg tm 6)) 5 v15) ds h)))))
  (ite2 (isB true v5) (kO (loadAgg 2 h (tg tm 3)) ds h (fun v13 ds h =>
  gd (isB true v5) (fun k => kO (binV Tryd.prog .eql 27 false undef v13) ds h k) ds h (fun v14 ds h =>
  kO (pickV v5 v14 (.bool false)) ds h (fun v15 ds h =>
  K .norm (T.set (T.set tm 4 (tg tm 6)) 5 v15) ds h))))
  (gd (isB true v5) (fun k => kO (binV Tryd.prog .eql 27 false undef undef) ds h k) ds h (fun v14 ds h =>
  kO (pickV v5 v14 (.bool false)) ds h (fun v15 ds h =>
  K .norm (T.set (T.set tm 4 (tg tm 6)) 5 v15) ds h)))))))))
  (gd (isB true v5) (fun k => kO (some (tg tm 6)) ds h k) ds h (fun v9 ds h =>
  gd (isB true v5) (fun k => kO (indexSl 3 undef v9) ds h k) ds h (fun v10 ds h =>
  gd (isB true v5) (fun k => kO (fieldPtr 0 v10) ds h k) ds h (fun v11 ds h =>
  ite2 (isB true v5) (kO (loadAgg 2 h v11) ds h (fun v12 ds h =>
  ite2 (isB true v5) (kO (loadAgg 2 h (tg tm 3)) ds h (fun v13 ds h =>
  gd (isB true v5) (fun k => kO (binV Tryd.prog .eql 27 false v12 v13) ds h k) ds h (fun v14 ds h =>
  kO (pickV v5 v14 (.bool false)) ds h (fun v15 ds h =>
  K .norm (T.set (T.set tm 4 (tg tm 6)) 5 v15) ds h))))
  (gd (isB true v5) (fun k => kO (binV Tryd.prog .eql 27 false v12 undef) ds h k) ds h (fun v14 ds h =>
  kO (pickV v5 v14 (.bool false)) ds h (fun v15 ds h =>
  K .norm (T.set (T.set tm 4 (tg tm 6)) 5 v15) ds h)))))
  (ite2 (isB true v5) (kO (loadAgg 2 h (tg tm 3)) ds h (fun v13 ds h =>
  gd (isB true v5) (fun k => kO (binV Tryd.prog .eql 27 false undef v13) ds h k) ds h (fun v14 ds h =>
  kO (pickV v5 v14 (.bool false)) ds h (fun v15 ds h =>
  K .norm (T.set (T.set tm 4 (tg tm 6)) 5 v15) ds h))))
  (gd (isB true v5) (fun k => kO (binV Tryd.prog .eql 27 false undef undef) ds h k) ds h (fun v14 ds h =>
  kO (pickV v5 v14 (.bool false)) ds h (fun v15 ds h =>
  K .norm (T.set (T.set tm 4 (tg tm 6)) 5 v15) ds h)))))))))))))) h0.next ⟨h0.objs, h0.next + 18⟩
noncomputable def c44 : Box CodeT := ⟨seqC ⟨r44_0⟩ ⟨seqC ⟨r44_1⟩ ⟨seqC ⟨blockC 0 (loopB l44_4)⟩ ⟨seqC ⟨r44_4⟩ retC⟩⟩⟩⟩
noncomputable def q44 : Box (T Value → H → Option (List Value)) := ⟨fun tm h => some [tg tm 4, tg tm 5]⟩
/-! 45 cloakroom/code.Hash -/
noncomputable def r45_0 : CodeT := fun call _ tm ds h K =>
  K .norm (T.set tm 2 (.int .u64 (0))) ds h
noncomputable def r45_1 : CodeT := fun call _ tm ds h K =>
  K .norm (T.set tm 3 (.int .u64 (14695981039346656037))) ds h
noncomputable def r45_2 : CodeT := fun call _ tm ds h K =>
  kA (mkBytes h.next (tg tm 0)) ds h (fun v1 ds h =>
  kO (lenSl v1) ds h (fun v2 ds h =>
  K .norm (T.set (T.set (T.set tm 7 v1) 8 v2) 9 (.int .i64 (0))) ds h))
noncomputable def r45_3 : CodeT := fun call _ tm ds h K =>
  kO (binV Tryd.prog .lss 3 false (tg tm 9) (tg tm 8)) ds h (fun v0 ds h =>
  K .norm (T.set tm 10 v0) ds h)
noncomputable def r45_4 : CodeT := fun call _ tm ds h K =>
  kO (indexSl 1 (tg tm 7) (tg tm 9)) ds h (fun v0 ds h =>
  kO (loadOne h v0) ds h (fun v1 ds h =>
  K .norm (T.set tm 5 v1) ds h))
noncomputable def r45_5 : CodeT := fun call _ tm ds h K =>
  kO (toInt .u64 (tg tm 5)) ds h (fun v2 ds h =>
  kO (binV Tryd.prog .xor 98 false (tg tm 3) v2) ds h (fun v3 ds h =>
  kO (binV Tryd.prog .mul 98 true v3 (.int .u64 (1099511628211))) ds h (fun v4 ds h =>
  K .norm (T.set tm 3 v4) ds h)))
noncomputable def r45_6 : CodeT := fun call _ tm ds h K =>
  kO (binV Tryd.prog .add 3 true (tg tm 9) (.int .i64 (1))) ds h (fun v0 ds h =>
  K .norm (T.set tm 9 v0) ds h)
noncomputable def l45_7 : Box CodeT := ⟨seqC ⟨r45_3⟩ ⟨seqC ⟨condC ⟨fun _ tm => tg tm 10⟩ skipC (exitC 0)⟩ ⟨seqC ⟨blockC 1 ⟨seqC ⟨r45_4⟩ ⟨r45_5⟩⟩⟩ ⟨r45_6⟩⟩⟩⟩
noncomputable def r45_7 : CodeT := fun call _ tm ds h K =>
  K .norm (T.set tm 2 (tg tm 3)) ds h
noncomputable def c45 : Box CodeT := ⟨seqC ⟨r45_0⟩ ⟨seqC ⟨r45_1⟩ ⟨seqC ⟨seqC ⟨r45_2⟩ ⟨blockC 0 (loopB l45_7)⟩⟩ ⟨seqC ⟨r45_7⟩ retC⟩⟩⟩⟩
noncomputable def q45 : Box (T Value → H → Option (List Value)) := ⟨fun tm h => some [tg tm 2]⟩
/-! 46 slices.insertionSortCmpFunc[cloakroom/api.Name] -/
noncomputable def r46_0 : CodeT := fun call _ tm ds h K =>
  kO (binV Tryd.prog .add 3 true (tg tm 1) (.int .i64 (1))) ds h (fun v1 ds h =>
  K .norm (T.set tm 8 v1) ds h)
noncomputable def r46_1 : CodeT := fun call _ tm ds h K =>
  kO (binV Tryd.prog .lss 3 false (tg tm 8) (tg tm 2)) ds h (fun v2 ds h =>
  K .norm (T.set tm 14 v2) ds h)
noncomputable def r46_3 : CodeT := fun call _ tm ds h K =>
  K .norm (T.set tm 9 (tg tm 8)) ds h
noncomputable def r46_4 : CodeT := fun call _ tm ds h0 K =>
  (fun (b0 : Nat) (h : H) =>
  kO (binV Tryd.prog .gtr 3 false (tg tm 9) (tg tm 1)) ds h (fun v2 ds h =>
  gd (isB true v2) (fun k => kO (some (tg tm 3)) ds h k) ds h (fun v4 ds h =>
  gd (isB true v2) (fun k => kO (some (tg tm 0)) ds h k) ds h (fun v5 ds h =>
  gd (isB true v2) (fun k => kO (some (tg tm 9)) ds h k) ds h (fun v6 ds h =>
  gd (isB true v2) (fun k => kO (indexSl 2 v5 v6) ds h k) ds h (fun v7 ds h =>
  ite2 (isB true v2) (kO (loadAgg 2 h v7) ds h (fun v8 ds h =>
  gd (isB true v2) (fun k => kO (some (tg tm 0)) ds h k) ds h (fun v9 ds h =>
  gd (isB true v2) (fun k => kO (some (tg tm 9)) ds h k) ds h (fun v10 ds h =>
  gd (isB true v2) (fun k => kO (binV Tryd.prog .sub 3 true v10 (.int .i64 (1))) ds h k) ds h (fun v11 ds h =>
  gd (isB true v2) (fun k => kO (indexSl 2 v9 v11) ds h k) ds h (fun v12 ds h =>
  ite2 (isB true v2) (kO (loadAgg 2 h v12) ds h (fun v13 ds h =>
  ite2 (isB true v2) (goCall call (funcArgs v4 [v8, v13]) ds h (fun v14 ds h =>
  gd (isB true v2) (fun k => kO (binV Tryd.prog .lss 3 true v14 (.int .i64 (0))) ds h k) ds h (fun v15 ds h =>
  kO (pickV v2 v15 (.bool false)) ds h (fun v16 ds h =>
  K .norm (T.set tm 34 v16) ds h))))
  (gd (isB true v2) (fun k => kO (binV Tryd.prog .lss 3 true undef (.int .i64 (0))) ds h k) ds h (fun v15 ds h =>
  kO (pickV v2 v15 (.bool false)) ds h (fun v16 ds h =>
  K .norm (T.set tm 34 v16) ds h)))))
  (ite2 (isB true v2) (goCall call (funcArgs v4 [v8, undef]) ds h (fun v14 ds h =>
  gd (isB true v2) (fun k => kO (binV Tryd.prog .lss 3 true v14 (.int .i64 (0))) ds h k) ds h (fun v15 ds h =>
  kO (pickV v2 v15 (.bool false)) ds h (fun v16 ds h =>
  K .norm (T.set tm 34 v16) ds h))))
  (gd (isB true v2) (fun k => kO (binV Tryd.prog .lss 3 true undef (.int .i64 (0))) ds h k) ds h (fun v15 ds h =>
  kO (pickV v2 v15 (.bool false)) ds h (fun v16 ds h =>
  K .norm (T.set tm 34 v16) ds h))))))))))
  (gd (isB true v2) (fun k => kO (some (tg tm 0)) ds h k) ds h (fun v9 ds h =>
  gd (isB true v2) (fun k => kO (some (tg tm 9)) ds h k) ds h (fun v10 ds h =>
  gd (isB true v2) (fun k => kO (binV Tryd.prog .sub 3 true v10 (.int .i64 (1))) ds h k) ds h (fun v11 ds h =>
  gd (isB true v2) (fun k => kO (indexSl 2 v9 v11) ds h k) ds h (fun v12 ds h =>
  ite2 (isB true v2) (kO (loadAgg 2 h v12) ds h (fun v13 ds h =>
  ite2 (isB true v2) (goCall call (funcArgs v4 [undef, v13]) ds h (fun v14 ds h =>
  gd (isB true v2) (fun k => kO (binV Tryd.prog .lss 3 true v14 (.int .i64 (0))) ds h k) ds h (fun v15 ds h =>
  kO (pickV v2 v15 (.bool false)) ds h (fun v16 ds h =>
  K .norm (T.set tm 34 v16) ds h))))
  (gd (isB true v2) (fun k => kO (binV Tryd.prog .lss 3 true undef (.int .i64 (0))) ds h k) ds h (fun v15 ds h =>
  kO (pickV v2 v15 (.bool false)) ds h (fun v16 ds h =>
  K .norm (T.set tm 34 v16) ds h)))))
  (ite2 (isB true v2) (goCall call (funcArgs v4 [undef, undef]) ds h (fun v14 ds h =>
  gd (isB true v2) (fun k => kO (binV Tryd.prog .lss 3 true v14 (.int .i64 (0))) ds h k) ds h (fun v15 ds h =>
  kO (pickV v2 v15 (.bool false)) ds h (fun v16 ds h =>
  K .norm (T.set tm 34 v16) ds h))))
  (gd (isB true v2) (fun k => kO (binV Tryd.prog .lss 3 true undef (.int .i64 (0))) ds h k) ds h (fun v15 ds h =>
  kO (pickV v2 v15 (.bool false)) ds h (fun v16 ds h =>
  K .norm (T.set tm 34 v16) ds h))))))))))))))) h0.next ⟨h0.objs, h0.next + 17⟩
noncomputable def r46_6 : CodeT := fun call _ tm ds h0 K =>
  (fun (b0 : Nat) (h : H) =>
  kO (binV Tryd.prog .sub 3 true (tg tm 9) (.int .i64 (1))) ds h (fun v4 ds h =>
  kO (binV Tryd.prog .sub 3 true (tg tm 9) (.int .i64 (1))) ds h (fun v7 ds h =>
  kO (indexSl 2 (tg tm 0) v7) ds h (fun v8 ds h =>
  kO (loadAgg 2 h v8) ds h (fun v9 ds h =>
  kO (indexSl 2 (tg tm 0) (tg tm 9)) ds h (fun v12 ds h =>
  kO (loadAgg 2 h v12) ds h (fun v13 ds h =>
  kO (indexSl 2 (tg tm 0) (tg tm 9)) ds h (fun v14 ds h =>
  kH (withV undef (storeV 2 h v14 v9)) ds (fun v15 ds h =>
  kO (indexSl 2 (tg tm 0) v4) ds h (fun v16 ds h =>
  kH (withV undef (storeV 2 h v16 v13)) ds (fun v17 ds h =>
  K .norm tm ds h))))))))))) h0.next ⟨h0.objs, h0.next + 18⟩
noncomputable def r46_5 : CodeT := fun call _ tm ds h K =>
  kO (binV Tryd.prog .sub 3 true (tg tm 9) (.int .i64 (1))) ds h (fun v1 ds h =>
  K .norm (T.set tm 9 v1) ds h)
noncomputable def l46_6 : Box CodeT := ⟨seqC ⟨seqC ⟨r46_4⟩ ⟨condC ⟨fun _ tm => tg tm 34⟩ skipC (exitC 2)⟩⟩ ⟨seqC ⟨blockC 3 ⟨r46_6⟩⟩ ⟨r46_5⟩⟩⟩
noncomputable def r46_2 : CodeT := fun call _ tm ds h K =>
  kO (binV Tryd.prog .add 3 true (tg tm 8) (.int .i64 (1))) ds h (fun v1 ds h =>
  K .norm (T.set tm 8 v1) ds h)
noncomputable def l46_8 : Box CodeT := ⟨seqC ⟨seqC ⟨r46_1⟩ ⟨condC ⟨fun _ tm => tg tm 14⟩ skipC (exitC 0)⟩⟩ ⟨seqC ⟨blockC 1 ⟨seqC ⟨r46_3⟩ ⟨blockC 2 (loopB l46_6)⟩⟩⟩ ⟨r46_2⟩⟩⟩
noncomputable def c46 : Box CodeT := ⟨seqC ⟨r46_0⟩ ⟨blockC 0 (loopB l46_8)⟩⟩
noncomputable def q46 : Box (T Value → H → Option (List Value)) := ⟨fun tm h => some []⟩
/-! 47 slices.heapSortCmpFunc[cloakroom/api.Name] -/
noncomputable def r47_0 : CodeT := fun call _ tm ds h K =>
  K .norm (T.set tm 8 (tg tm 1)) ds h
noncomputable def r47_1 : CodeT := fun call _ tm ds h K =>
  K .norm (T.set tm 9 (.int .i64 (0))) ds h
noncomputable def r47_2 : CodeT := fun call _ tm ds h K =>
  kO (binV Tryd.prog .sub 3 false (tg tm 2) (tg tm 1)) ds h (fun v2 ds h =>
  K .norm (T.set tm 10 v2) ds h)
noncomputable def r47_3 : CodeT := fun call _ tm ds h K =>
  kO (binV Tryd.prog .sub 3 true (tg tm 10) (.int .i64 (1))) ds h (fun v1 ds h =>
  kO (binV Tryd.prog .quo 3 true v1 (.int .i64 (2))) ds h (fun v2 ds h =>
  K .norm (T.set tm 11 v2) ds h))
noncomputable def r47_4 : CodeT := fun call _ tm ds h K =>
  kO (binV Tryd.prog .geq 3 true (tg tm 11) (.int .i64 (0))) ds h (fun v1 ds h =>
  K .norm (T.set tm 21 v1) ds h)
noncomputable def r47_6 : CodeT := fun call _ tm ds h K =>
  call 59 [(tg tm 0), (tg tm 11), (tg tm 10), (tg tm 8), (tg tm 3)] h (fun v h => (fun v5 ds h =>
  K .norm tm ds h) v ds h)
noncomputable def r47_5 : CodeT := fun call _ tm ds h K =>
  kO (binV Tryd.prog .sub 3 true (tg tm 11) (.int .i64 (1))) ds h (fun v1 ds h =>
  K .norm (T.set tm 11 v1) ds h)
noncomputable def l47_7 : Box CodeT := ⟨seqC ⟨seqC ⟨r47_4⟩ ⟨condC ⟨fun _ tm => tg tm 21⟩ skipC (exitC 0)⟩⟩ ⟨seqC ⟨blockC 1 ⟨r47_6⟩⟩ ⟨r47_5⟩⟩⟩
noncomputable def r47_7 : CodeT := fun call _ tm ds h K =>
  kO (binV Tryd.prog .sub 3 true (tg tm 10) (.int .i64 (1))) ds h (fun v1 ds h =>
  K .norm (T.set tm 12 v1) ds h)
noncomputable def r47_8 : CodeT := fun call _ tm ds h K =>
  kO (binV Tryd.prog .geq 3 true (tg tm 12) (.int .i64 (0))) ds h (fun v1 ds h =>
  K .norm (T.set tm 33 v1) ds h)
noncomputable def r47_10 : CodeT := fun call _ tm ds h0 K =>
  (fun (b0 : Nat) (h : H) =>
  kO (binV Tryd.prog .add 3 false (tg tm 8) (tg tm 12)) ds h (fun v5 ds h =>
  kO (binV Tryd.prog .add 3 false (tg tm 8) (tg tm 12)) ds h (fun v9 ds h =>
  kO (indexSl 2 (tg tm 0) v9) ds h (fun v10 ds h =>
  kO (loadAgg 2 h v10) ds h (fun v11 ds h =>
  kO (indexSl 2 (tg tm 0) (tg tm 8)) ds h (fun v14 ds h =>
  kO (loadAgg 2 h v14) ds h (fun v15 ds h =>
  kO (indexSl 2 (tg tm 0) (tg tm 8)) ds h (fun v16 ds h =>
  kH (withV undef (storeV 2 h v16 v11)) ds (fun v17 ds h =>
  kO (indexSl 2 (tg tm 0) v5) ds h (fun v18 ds h =>
  kH (withV undef (storeV 2 h v18 v15)) ds (fun v19 ds h =>
  K .norm tm ds h))))))))))) h0.next ⟨h0.objs, h0.next + 20⟩
noncomputable def r47_11 : CodeT := fun call _ tm ds h K =>
  call 59 [(tg tm 0), (tg tm 9), (tg tm 12), (tg tm 8), (tg tm 3)] h (fun v h => (fun v5 ds h =>
  K .norm tm ds h) v ds h)
noncomputable def r47_9 : CodeT := fun call _ tm ds h K =>
  kO (binV Tryd.prog .sub 3 true (tg tm 12) (.int .i64 (1))) ds h (fun v1 ds h =>
  K .norm (T.set tm 12 v1) ds h)
noncomputable def l47_13 : Box CodeT := ⟨seqC ⟨seqC ⟨r47_8⟩ ⟨condC ⟨fun _ tm => tg tm 33⟩ skipC (exitC 2)⟩⟩ ⟨seqC ⟨blockC 3 ⟨seqC ⟨r47_10⟩ ⟨r47_11⟩⟩⟩ ⟨r47_9⟩⟩⟩
noncomputable def c47 : Box CodeT := ⟨seqC ⟨r47_0⟩ ⟨seqC ⟨r47_1⟩ ⟨seqC ⟨r47_2⟩ ⟨seqC ⟨seqC ⟨r47_3⟩ ⟨blockC 0 (loopB l47_7)⟩⟩ ⟨seqC ⟨r47_7⟩ ⟨blockC 2 (loopB l47_13)⟩⟩⟩⟩⟩⟩
noncomputable def q47 : Box (T Value → H → Option (List Value)) := ⟨fun tm h => some []⟩
/-! 48 slices.breakPatternsCmpFunc[cloakroom/api.Name] -/
noncomputable def r48_0 : CodeT := fun call _ tm ds h K =>
  kO (binV Tryd.prog .sub 3 false (tg tm 2) (tg tm 1)) ds h (fun v2 ds h =>
  K .norm (T.set tm 8 v2) ds h)
noncomputable def r48_1 : CodeT := fun call _ tm ds h K =>
  kO (binV Tryd.prog .geq 3 true (tg tm 8) (.int .i64 (8))) ds h (fun v1 ds h =>
  K .norm (T.set tm 17 v1) ds h)
noncomputable def r48_2 : CodeT := fun call _ tm ds h K =>
  kO (toInt .u64 (tg tm 8)) ds h (fun v1 ds h =>
  kA (some (.rw [(.int .u64 (0))], ptrTo h.next)) ds h (fun v2 ds h =>
  kH (withV undef (storeV 1 h v2 v1)) ds (fun v3 ds h =>
  K .norm (T.set tm 9 v2) ds h)))
noncomputable def r48_3 : CodeT := fun call _ tm ds h K =>
  call 60 [(tg tm 8)] h (fun v h => (fun v1 ds h =>
  K .norm (T.set tm 10 v1) ds h) v ds h)
noncomputable def r48_4 : CodeT := fun call _ tm ds h K =>
  kO (binV Tryd.prog .quo 3 true (tg tm 8) (.int .i64 (4))) ds h (fun v2 ds h =>
  kO (binV Tryd.prog .mul 3 true v2 (.int .i64 (2))) ds h (fun v3 ds h =>
  kO (binV Tryd.prog .add 3 false (tg tm 1) v3) ds h (fun v4 ds h =>
  kO (binV Tryd.prog .sub 3 true v4 (.int .i64 (1))) ds h (fun v5 ds h =>
  K .norm (T.set tm 11 v5) ds h))))
noncomputable def r48_5 : CodeT := fun call _ tm ds h K =>
  kO (binV Tryd.prog .quo 3 true (tg tm 8) (.int .i64 (4))) ds h (fun v3 ds h =>
  kO (binV Tryd.prog .mul 3 true v3 (.int .i64 (2))) ds h (fun v4 ds h =>
  kO (binV Tryd.prog .add 3 false (tg tm 1) v4) ds h (fun v5 ds h =>
  kO (binV Tryd.prog .add 3 true v5 (.int .i64 (1))) ds h (fun v6 ds h =>
  kO (binV Tryd.prog .leq 3 false (tg tm 11) v6) ds h (fun v7 ds h =>
  K .norm (T.set tm 35 v7) ds h)))))
noncomputable def r48_7 : CodeT := fun call _ tm ds h K =>
  call 61 [(tg tm 9)] h (fun v h => (fun v0 ds h =>
  kO (binV Tryd.prog .sub 93 true (tg tm 10) (.int .u64 (1))) ds h (fun v2 ds h =>
  kO (binV Tryd.prog .and 93 false v0 v2) ds h (fun v3 ds h =>
  kO (toInt .i64 v3) ds h (fun v4 ds h =>
  K .norm (T.set tm 12 v4) ds h)))) v ds h)
noncomputable def r48_8 : CodeT := fun call _ tm ds h K =>
  kO (binV Tryd.prog .geq 3 false (tg tm 12) (tg tm 8)) ds h (fun v2 ds h =>
  K .norm (T.set tm 45 v2) ds h)
noncomputable def r48_9 : CodeT := fun call _ tm ds h K =>
  kO (binV Tryd.prog .sub 3 false (tg tm 12) (tg tm 8)) ds h (fun v2 ds h =>
  K .norm (T.set tm 12 v2) ds h)
noncomputable def r48_10 : CodeT := fun call _ tm ds h0 K =>
  (fun (b0 : Nat) (h : H) =>
  kO (binV Tryd.prog .add 3 false (tg tm 1) (tg tm 12)) ds h (fun v5 ds h =>
  kO (binV Tryd.prog .add 3 false (tg tm 1) (tg tm 12)) ds h (fun v9 ds h =>
  kO (indexSl 2 (tg tm 0) v9) ds h (fun v10 ds h =>
  kO (loadAgg 2 h v10) ds h (fun v11 ds h =>
  kO (indexSl 2 (tg tm 0) (tg tm 11)) ds h (fun v14 ds h =>
  kO (loadAgg 2 h v14) ds h (fun v15 ds h =>
  kO (indexSl 2 (tg tm 0) (tg tm 11)) ds h (fun v16 ds h =>
  kH (withV undef (storeV 2 h v16 v11)) ds (fun v17 ds h =>
  kO (indexSl 2 (tg tm 0) v5) ds h (fun v18 ds h =>
  kH (withV undef (storeV 2 h v18 v15)) ds (fun v19 ds h =>
  K .norm tm ds h))))))))))) h0.next ⟨h0.objs, h0.next + 20⟩
noncomputable def r48_6 : CodeT := fun call _ tm ds h K =>
  kO (binV Tryd.prog .add 3 true (tg tm 11) (.int .i64 (1))) ds h (fun v1 ds h =>
  K .norm (T.set tm 11 v1) ds h)
noncomputable def l48_11 : Box CodeT := ⟨seqC ⟨seqC ⟨r48_5⟩ ⟨condC ⟨fun _ tm => tg tm 35⟩ skipC (exitC 0)⟩⟩ ⟨seqC ⟨blockC 1 ⟨seqC ⟨r48_7⟩ ⟨seqC ⟨seqC ⟨r48_8⟩ ⟨condC ⟨fun _ tm => tg tm 45⟩ ⟨r48_9⟩ skipC⟩⟩ ⟨r48_10⟩⟩⟩⟩ ⟨r48_6⟩⟩⟩
noncomputable def c48 : Box CodeT := ⟨seqC ⟨r48_0⟩ ⟨seqC ⟨r48_1⟩ ⟨condC ⟨fun _ tm => tg tm 17⟩ ⟨seqC ⟨r48_2⟩ ⟨seqC ⟨r48_3⟩ ⟨seqC ⟨r48_4⟩ ⟨blockC 0 (loopB l48_11)⟩⟩⟩⟩ skipC⟩⟩⟩
noncomputable def q48 : Box (T Value → H → Option (List Value)) := ⟨fun tm h => some []⟩
/-! 49 slices.choosePivotCmpFunc[cloakroom/api.Name] -/
noncomputable def r49_0 : CodeT := fun call _ tm ds h K =>
  K .norm (T.set (T.set tm 8 (.int .i64 (0))) 9 (.int .i64 (0))) ds h
noncomputable def r49_1 : CodeT := fun call _ tm ds h K =>
  kO (binV Tryd.prog .sub 3 false (tg tm 2) (tg tm 1)) ds h (fun v2 ds h =>
  K .norm (T.set tm 10 v2) ds h)
noncomputable def r49_2 : CodeT := fun call _ tm ds h K =>
  kA (some (.rw [(.int .i64 (0))], ptrTo h.next)) ds h (fun v0 ds h =>
  K .norm (T.set tm 11 v0) ds h)
noncomputable def r49_3 : CodeT := fun call _ tm ds h K =>
  kO (binV Tryd.prog .quo 3 true (tg tm 10) (.int .i64 (4))) ds h (fun v2 ds h =>
  kO (binV Tryd.prog .mul 3 true v2 (.int .i64 (1))) ds h (fun v3 ds h =>
  kO (binV Tryd.prog .add 3 false (tg tm 1) v3) ds h (fun v4 ds h =>
  K .norm (T.set tm 12 v4) ds h)))
noncomputable def r49_4 : CodeT := fun call _ tm ds h K =>
  kO (binV Tryd.prog .quo 3 true (tg tm 10) (.int .i64 (4))) ds h (fun v2 ds h =>
  kO (binV Tryd.prog .mul 3 true v2 (.int .i64 (2))) ds h (fun v3 ds h =>
  kO (binV Tryd.prog .add 3 false (tg tm 1) v3) ds h (fun v4 ds h =>
  K .norm (T.set tm 13 v4) ds h)))
noncomputable def r49_5 : CodeT := fun call _ tm ds h K =>
  kO (binV Tryd.prog .quo 3 true (tg tm 10) (.int .i64 (4))) ds h (fun v2 ds h =>
  kO (binV Tryd.prog .mul 3 true v2 (.int .i64 (3))) ds h (fun v3 ds h =>
  kO (binV Tryd.prog .add 3 false (tg tm 1) v3) ds h (fun v4 ds h =>
  K .norm (T.set tm 14 v4) ds h)))
noncomputable def r49_6 : CodeT := fun call _ tm ds h K =>
  kO (binV Tryd.prog .geq 3 true (tg tm 10) (.int .i64 (8))) ds h (fun v1 ds h =>
  K .norm (T.set tm 34 v1) ds h)
noncomputable def r49_7 : CodeT := fun call _ tm ds h K =>
  kO (binV Tryd.prog .geq 3 true (tg tm 10) (.int .i64 (50))) ds h (fun v1 ds h =>
  K .norm (T.set tm 36 v1) ds h)
noncomputable def r49_8 : CodeT := fun call _ tm ds h K =>
  call 62 [(tg tm 0), (tg tm 12), (tg tm 11), (tg tm 3)] h (fun v h => (fun v3 ds h =>
  K .norm (T.set tm 12 v3) ds h) v ds h)
noncomputable def r49_9 : CodeT := fun call _ tm ds h K =>
  call 62 [(tg tm 0), (tg tm 13), (tg tm 11), (tg tm 3)] h (fun v h => (fun v3 ds h =>
  K .norm (T.set tm 13 v3) ds h) v ds h)
noncomputable def r49_10 : CodeT := fun call _ tm ds h K =>
  call 62 [(tg tm 0), (tg tm 14), (tg tm 11), (tg tm 3)] h (fun v h => (fun v3 ds h =>
  K .norm (T.set tm 14 v3) ds h) v ds h)
noncomputable def r49_11 : CodeT := fun call _ tm ds h K =>
  call 63 [(tg tm 0), (tg tm 12), (tg tm 13), (tg tm 14), (tg tm 11), (tg tm 3)] h (fun v h => (fun v5 ds h =>
  K .norm (T.set tm 13 v5) ds h) v ds h)
noncomputable def r49_12 : CodeT := fun call _ tm ds h K =>
  kO (loadOne h (tg tm 11)) ds h (fun v0 ds h =>
  K .norm (T.set tm 55 v0) ds h)
noncomputable def r49_14 : CodeT := fun call _ tm ds h K =>
  kO (binV Tryd.prog .eql 3 true (tg tm 55) (.int .i64 (0))) ds h (fun v0 ds h =>
  K .norm (T.set tm 57 v0) ds h)
noncomputable def r49_15 : CodeT := fun call _ tm ds h K =>
  K .norm (T.set (T.set tm 8 (tg tm 13)) 9 (.int .i64 (1))) ds h
noncomputable def r49_16 : CodeT := fun call _ tm ds h K =>
  kO (binV Tryd.prog .eql 3 true (tg tm 55) (.int .i64 (12))) ds h (fun v0 ds h =>
  K .norm (T.set tm 60 v0) ds h)
noncomputable def r49_17 : CodeT := fun call _ tm ds h K =>
  K .norm (T.set (T.set tm 8 (tg tm 13)) 9 (.int .i64 (2))) ds h
noncomputable def r49_13 : CodeT := fun call _ tm ds h K =>
  K .norm (T.set (T.set tm 8 (tg tm 13)) 9 (.int .i64 (0))) ds h
noncomputable def c49 : Box CodeT := ⟨seqC ⟨r49_0⟩ ⟨seqC ⟨r49_1⟩ ⟨seqC ⟨r49_2⟩ ⟨seqC ⟨r49_3⟩ ⟨seqC ⟨r49_4⟩ ⟨seqC ⟨r49_5⟩ ⟨seqC ⟨seqC ⟨r49_6⟩ ⟨condC ⟨fun _ tm => tg tm 34⟩ ⟨seqC ⟨seqC ⟨r49_7⟩ ⟨condC ⟨fun _ tm => tg tm 36⟩ ⟨seqC ⟨r49_8⟩ ⟨seqC ⟨r49_9⟩ ⟨r49_10⟩⟩⟩ skipC⟩⟩ ⟨r49_11⟩⟩ skipC⟩⟩ ⟨seqC ⟨r49_12⟩ ⟨blockC 0 ⟨seqC ⟨r49_14⟩ ⟨condC ⟨fun _ tm => tg tm 57⟩ ⟨seqC ⟨r49_15⟩ retC⟩ ⟨seqC ⟨r49_16⟩ ⟨condC ⟨fun _ tm => tg tm 60⟩ ⟨seqC ⟨r49_17⟩ retC⟩ ⟨seqC ⟨r49_13⟩ retC⟩⟩⟩⟩⟩⟩⟩⟩⟩⟩⟩⟩⟩⟩
noncomputable def q49 : Box (T Value → H → Option (List Value)) := ⟨fun tm h => some [tg tm 8, tg tm 9]⟩
/-! 50 slices.reverseRangeCmpFunc[cloakroom/api.Name] -/
noncomputable def r50_0 : CodeT := fun call _ tm ds h K =>
  K .norm (T.set tm 8 (tg tm 1)) ds h
noncomputable def r50_1 : CodeT := fun call _ tm ds h K =>
  kO (binV Tryd.prog .sub 3 true (tg tm 2) (.int .i64 (1))) ds h (fun v1 ds h =>
  K .norm (T.set tm 9 v1) ds h)
noncomputable def r50_2 : CodeT := fun call _ tm ds h K =>
  kO (binV Tryd.prog .lss 3 false (tg tm 8) (tg tm 9)) ds h (fun v2 ds h =>
  K .norm (T.set tm 15 v2) ds h)
noncomputable def r50_3 : CodeT := fun call _ tm ds h0 K =>
  (fun (b0 : Nat) (h : H) =>
  kO (indexSl 2 (tg tm 0) (tg tm 9)) ds h (fun v6 ds h =>
  kO (loadAgg 2 h v6) ds h (fun v7 ds h =>
  kO (indexSl 2 (tg tm 0) (tg tm 8)) ds h (fun v10 ds h =>
  kO (loadAgg 2 h v10) ds h (fun v11 ds h =>
  kO (indexSl 2 (tg tm 0) (tg tm 8)) ds h (fun v12 ds h =>
  kH (withV undef (storeV 2 h v12 v7)) ds (fun v13 ds h =>
  kO (indexSl 2 (tg tm 0) (tg tm 9)) ds h (fun v14 ds h =>
  kH (withV undef (storeV 2 h v14 v11)) ds (fun v15 ds h =>
  K .norm tm ds h))))))))) h0.next ⟨h0.objs, h0.next + 16⟩
noncomputable def r50_4 : CodeT := fun call _ tm ds h K =>
  kO (binV Tryd.prog .add 3 true (tg tm 8) (.int .i64 (1))) ds h (fun v1 ds h =>
  K .norm (T.set tm 8 v1) ds h)
noncomputable def r50_5 : CodeT := fun call _ tm ds h K =>
  kO (binV Tryd.prog .sub 3 true (tg tm 9) (.int .i64 (1))) ds h (fun v1 ds h =>
  K .norm (T.set tm 9 v1) ds h)
noncomputable def l50_6 : Box CodeT := ⟨seqC ⟨seqC ⟨r50_2⟩ ⟨condC ⟨fun _ tm => tg tm 15⟩ skipC (exitC 0)⟩⟩ ⟨blockC 1 ⟨seqC ⟨r50_3⟩ ⟨seqC ⟨r50_4⟩ ⟨r50_5⟩⟩⟩⟩⟩
noncomputable def c50 : Box CodeT := ⟨seqC ⟨r50_0⟩ ⟨seqC ⟨r50_1⟩ ⟨blockC 0 (loopB l50_6)⟩⟩⟩
noncomputable def q50 : Box (T Value → H → Option (List Value)) := ⟨fun tm h => some []⟩
/-! 51 slices.partialInsertionSortCmpFunc[cloakroom/api.Name] -/
noncomputable def r51_0 : CodeT := fun call _ tm ds h K =>
  K .norm (T.set tm 8 (.bool false)) ds h
noncomputable def r51_1 : CodeT := fun call _ tm ds h K =>
  kO (binV Tryd.prog .add 3 true (tg tm 1) (.int .i64 (1))) ds h (fun v1 ds h =>
  K .norm (T.set tm 9 v1) ds h)
noncomputable def r51_2 : CodeT := fun call _ tm ds h K =>
  K .norm (T.set tm 10 (.int .i64 (0))) ds h
noncomputable def r51_3 : CodeT := fun call _ tm ds h K =>
  kO (binV Tryd.prog .lss 3 true (tg tm 10) (.int .i64 (5))) ds h (fun v1 ds h =>
  K .norm (T.set tm 16 v1) ds h)
noncomputable def r51_5 : CodeT := fun call _ tm ds h0 K =>
  (fun (b0 : Nat) (h : H) =>
  kO (binV Tryd.prog .lss 3 false (tg tm 9) (tg tm 2)) ds h (fun v2 ds h =>
  gd (isB true v2) (fun k => kO (some (tg tm 3)) ds h k) ds h (fun v4 ds h =>
  gd (isB true v2) (fun k => kO (some (tg tm 0)) ds h k) ds h (fun v5 ds h =>
  gd (isB true v2) (fun k => kO (some (tg tm 9)) ds h k) ds h (fun v6 ds h =>
  gd (isB true v2) (fun k => kO (indexSl 2 v5 v6) ds h k) ds h (fun v7 ds h =>
  ite2 (isB true v2) (kO (loadAgg 2 h v7) ds h (fun v8 ds h =>
  gd (isB true v2) (fun k => kO (some (tg tm 0)) ds h k) ds h (fun v9 ds h =>
  gd (isB true v2) (fun k => kO (some (tg tm 9)) ds h k) ds h (fun v10 ds h =>
  gd (isB true v2) (fun k => kO (binV Tryd.prog .sub 3 true v10 (.int .i64 (1))) ds h k) ds h (fun v11 ds h =>
  gd (isB true v2) (fun k => kO (indexSl 2 v9 v11) ds h k) ds h (fun v12 ds h =>
  ite2 (isB true v2) (kO (loadAgg 2 h v12) ds h (fun v13 ds h =>
  ite2 (isB true v2) (goCall call (funcArgs v4 [v8, v13]) ds h (fun v14 ds h =>
  gd (isB true v2) (fun k => kO (binV Tryd.prog .lss 3 true v14 (.int .i64 (0))) ds h k) ds h (fun v15 ds h =>
  gd (isB true v2) (fun k => kO (unV .not v15) ds h k) ds h (fun v16 ds h =>
  kO (pickV v2 v16 (.bool false)) ds h (fun v17 ds h =>
  K .norm (T.set tm 36 v17) ds h)))))
  (gd (isB true v2) (fun k => kO (binV Tryd.prog .lss 3 true undef (.int .i64 (0))) ds h k) ds h (fun v15 ds h =>
  gd (isB true v2) (fun k => kO (unV .not v15) ds h k) ds h (fun v16 ds h =>
  kO (pickV v2 v16 (.bool false)) ds h (fun v17 ds h =>
  K .norm (T.set tm 36 v17) ds h))))))
  (ite2 (isB true v2) (goCall call (funcArgs v4 [v8, undef]) ds h (fun v14 ds h =>
  gd (isB true v2) (fun k => kO (binV Tryd.prog .lss 3 true v14 (.int .i64 (0))) ds h k) ds h (fun v15 ds h =>
  gd (isB true v2) (fun k => kO (unV .not v15) ds h k) ds h (fun v16 ds h =>
  kO (pickV v2 v16 (.bool false)) ds h (fun v17 ds h =>
  K .norm (T.set tm 36 v17) ds h)))))
  (gd (isB true v2) (fun k => kO (binV Tryd.prog .lss 3 true undef (.int .i64 (0))) ds h k) ds h (fun v15 ds h =>
  gd (isB true v2) (fun k => kO (unV .not v15) ds h k) ds h (fun v16 ds h =>
  kO (pickV v2 v16 (.bool false)) ds h (fun v17 ds h =>
  K .norm (T.set tm 36 v17) ds h)))))))))))
  (gd (isB true v2) (fun k => kO (some (tg tm 0)) ds h k) ds h (fun v9 ds h =>
  gd (isB true v2) (fun k => kO (some (tg tm 9)) ds h k) ds h (fun v10 ds h =>
  gd (isB true v2) (fun k => kO (binV Tryd.prog .sub 3 true v10 (.int .i64 (1))) ds h k) ds h (fun v11 ds h =>
  gd (isB true v2) (fun k => kO (indexSl 2 v9 v11) ds h k) ds h (fun v12 ds h =>
  ite2 (isB true v2) (kO (loadAgg 2 h v12) ds h (fun v13 ds h =>
  ite2 (isB true v2) (goCall call (funcArgs v4 [undef, v13]) ds h (fun v14 ds h =>
  gd (isB true v2) (fun k => kO (binV Tryd.prog .lss 3 true v14 (.int .i64 (0))) ds h k) ds h (fun v15 ds h =>
  gd (isB true v2) (fun k => kO (unV .not v15) ds h k) ds h (fun v16 ds h =>
  kO (pickV v2 v16 (.bool false)) ds h (fun v17 ds h =>
  K .norm (T.set tm 36 v17) ds h)))))
  (gd (isB true v2) (fun k => kO (binV Tryd.prog .lss 3 true undef (.int .i64 (0))) ds h k) ds h (fun v15 ds h =>
  gd (isB true v2) (fun k => kO (unV .not v15) ds h k) ds h (fun v16 ds h =>
  kO (pickV v2 v16 (.bool false)) ds h (fun v17 ds h =>
  K .norm (T.set tm 36 v17) ds h))))))
  (ite2 (isB true v2) (goCall call (funcArgs v4 [undef, undef]) ds h (fun v14 ds h =>
  gd (isB true v2) (fun k => kO (binV Tryd.prog .lss 3 true v14 (.int .i64 (0))) ds h k) ds h (fun v15 ds h =>
  gd (isB true v2) (fun k => kO (unV .not v15) ds h k) ds h (fun v16 ds h =>
  kO (pickV v2 v16 (.bool false)) ds h (fun v17 ds h =>
  K .norm (T.set tm 36 v17) ds h)))))
  (gd (isB true v2) (fun k => kO (binV Tryd.prog .lss 3 true undef (.int .i64 (0))) ds h k) ds h (fun v15 ds h =>
  gd (isB true v2) (fun k => kO (unV .not v15) ds h k) ds h (fun v16 ds h =>
  kO (pickV v2 v16 (.bool false)) ds h (fun v17 ds h =>
  K .norm (T.set tm 36 v17) ds h)))))))))))))))) h0.next ⟨h0.objs, h0.next + 18⟩
noncomputable def r51_6 : CodeT := fun call _ tm ds h K =>
  kO (binV Tryd.prog .add 3 true (tg tm 9) (.int .i64 (1))) ds h (fun v1 ds h =>
  K .norm (T.set tm 9 v1) ds h)
noncomputable def l51_6 : Box CodeT := ⟨seqC ⟨seqC ⟨r51_5⟩ ⟨condC ⟨fun _ tm => tg tm 36⟩ skipC (exitC 2)⟩⟩ ⟨blockC 3 ⟨r51_6⟩⟩⟩
noncomputable def r51_7 : CodeT := fun call _ tm ds h K =>
  kO (binV Tryd.prog .eql 3 false (tg tm 9) (tg tm 2)) ds h (fun v2 ds h =>
  K .norm (T.set tm 41 v2) ds h)
noncomputable def r51_8 : CodeT := fun call _ tm ds h K =>
  K .norm (T.set tm 8 (.bool true)) ds h
noncomputable def r51_9 : CodeT := fun call _ tm ds h K =>
  kO (binV Tryd.prog .sub 3 false (tg tm 2) (tg tm 1)) ds h (fun v2 ds h =>
  kO (binV Tryd.prog .lss 3 true v2 (.int .i64 (50))) ds h (fun v3 ds h =>
  K .norm (T.set tm 45 v3) ds h))
noncomputable def r51_10 : CodeT := fun call _ tm ds h K =>
  K .norm (T.set tm 8 (.bool false)) ds h
noncomputable def r51_11 : CodeT := fun call _ tm ds h0 K =>
  (fun (b0 : Nat) (h : H) =>
  kO (binV Tryd.prog .sub 3 true (tg tm 9) (.int .i64 (1))) ds h (fun v4 ds h =>
  kO (binV Tryd.prog .sub 3 true (tg tm 9) (.int .i64 (1))) ds h (fun v7 ds h =>
  kO (indexSl 2 (tg tm 0) v7) ds h (fun v8 ds h =>
  kO (loadAgg 2 h v8) ds h (fun v9 ds h =>
  kO (indexSl 2 (tg tm 0) (tg tm 9)) ds h (fun v12 ds h =>
  kO (loadAgg 2 h v12) ds h (fun v13 ds h =>
  kO (indexSl 2 (tg tm 0) (tg tm 9)) ds h (fun v14 ds h =>
  kH (withV undef (storeV 2 h v14 v9)) ds (fun v15 ds h =>
  kO (indexSl 2 (tg tm 0) v4) ds h (fun v16 ds h =>
  kH (withV undef (storeV 2 h v16 v13)) ds (fun v17 ds h =>
  K .norm tm ds h))))))))))) h0.next ⟨h0.objs, h0.next + 18⟩
noncomputable def r51_12 : CodeT := fun call _ tm ds h K =>
  kO (binV Tryd.prog .sub 3 false (tg tm 9) (tg tm 1)) ds h (fun v2 ds h =>
  kO (binV Tryd.prog .geq 3 true v2 (.int .i64 (2))) ds h (fun v3 ds h =>
  K .norm (T.set tm 65 v3) ds h))
noncomputable def r51_13 : CodeT := fun call _ tm ds h K =>
  kO (binV Tryd.prog .sub 3 true (tg tm 9) (.int .i64 (1))) ds h (fun v1 ds h =>
  K .norm (T.set tm 11 v1) ds h)
noncomputable def r51_14 : CodeT := fun call _ tm ds h K =>
  kO (binV Tryd.prog .geq 3 true (tg tm 11) (.int .i64 (1))) ds h (fun v1 ds h =>
  K .norm (T.set tm 69 v1) ds h)
noncomputable def r51_16 : CodeT := fun call _ tm ds h0 K =>
  (fun (b0 : Nat) (h : H) =>
  kO (indexSl 2 (tg tm 0) (tg tm 11)) ds h (fun v3 ds h =>
  kO (loadAgg 2 h v3) ds h (fun v4 ds h =>
  kO (binV Tryd.prog .sub 3 true (tg tm 11) (.int .i64 (1))) ds h (fun v7 ds h =>
  kO (indexSl 2 (tg tm 0) v7) ds h (fun v8 ds h =>
  kO (loadAgg 2 h v8) ds h (fun v9 ds h =>
  goCall call (funcArgs (tg tm 3) [v4, v9]) ds h (fun v10 ds h =>
  kO (binV Tryd.prog .lss 3 true v10 (.int .i64 (0))) ds h (fun v11 ds h =>
  kO (unV .not v11) ds h (fun v12 ds h =>
  K .norm (T.set tm 84 v12) ds h))))))))) h0.next ⟨h0.objs, h0.next + 13⟩
noncomputable def r51_17 : CodeT := fun call _ tm ds h0 K =>
  (fun (b0 : Nat) (h : H) =>
  kO (binV Tryd.prog .sub 3 true (tg tm 11) (.int .i64 (1))) ds h (fun v4 ds h =>
  kO (binV Tryd.prog .sub 3 true (tg tm 11) (.int .i64 (1))) ds h (fun v7 ds h =>
  kO (indexSl 2 (tg tm 0) v7) ds h (fun v8 ds h =>
  kO (loadAgg 2 h v8) ds h (fun v9 ds h =>
  kO (indexSl 2 (tg tm 0) (tg tm 11)) ds h (fun v12 ds h =>
  kO (loadAgg 2 h v12) ds h (fun v13 ds h =>
  kO (indexSl 2 (tg tm 0) (tg tm 11)) ds h (fun v14 ds h =>
  kH (withV undef (storeV 2 h v14 v9)) ds (fun v15 ds h =>
  kO (indexSl 2 (tg tm 0) v4) ds h (fun v16 ds h =>
  kH (withV undef (storeV 2 h v16 v13)) ds (fun v17 ds h =>
  K .norm tm ds h))))))))))) h0.next ⟨h0.objs, h0.next + 18⟩
noncomputable def r51_15 : CodeT := fun call _ tm ds h K =>
  kO (binV Tryd.prog .sub 3 true (tg tm 11) (.int .i64 (1))) ds h (fun v1 ds h =>
  K .norm (T.set tm 11 v1) ds h)
noncomputable def l51_18 : Box CodeT := ⟨seqC ⟨seqC ⟨r51_14⟩ ⟨condC ⟨fun _ tm => tg tm 69⟩ skipC (exitC 4)⟩⟩ ⟨seqC ⟨blockC 5 ⟨seqC ⟨seqC ⟨r51_16⟩ ⟨condC ⟨fun _ tm => tg tm 84⟩ (exitC 4) skipC⟩⟩ ⟨r51_17⟩⟩⟩ ⟨r51_15⟩⟩⟩
noncomputable def r51_18 : CodeT := fun call _ tm ds h K =>
  kO (binV Tryd.prog .sub 3 false (tg tm 2) (tg tm 9)) ds h (fun v2 ds h =>
  kO (binV Tryd.prog .geq 3 true v2 (.int .i64 (2))) ds h (fun v3 ds h =>
  K .norm (T.set tm 104 v3) ds h))
noncomputable def r51_19 : CodeT := fun call _ tm ds h K =>
  kO (binV Tryd.prog .add 3 true (tg tm 9) (.int .i64 (1))) ds h (fun v1 ds h =>
  K .norm (T.set tm 12 v1) ds h)
noncomputable def r51_20 : CodeT := fun call _ tm ds h K =>
  kO (binV Tryd.prog .lss 3 false (tg tm 12) (tg tm 2)) ds h (fun v2 ds h =>
  K .norm (T.set tm 109 v2) ds h)
noncomputable def r51_22 : CodeT := fun call _ tm ds h0 K =>
  (fun (b0 : Nat) (h : H) =>
  kO (indexSl 2 (tg tm 0) (tg tm 12)) ds h (fun v3 ds h =>
  kO (loadAgg 2 h v3) ds h (fun v4 ds h =>
  kO (binV Tryd.prog .sub 3 true (tg tm 12) (.int .i64 (1))) ds h (fun v7 ds h =>
  kO (indexSl 2 (tg tm 0) v7) ds h (fun v8 ds h =>
  kO (loadAgg 2 h v8) ds h (fun v9 ds h =>
  goCall call (funcArgs (tg tm 3) [v4, v9]) ds h (fun v10 ds h =>
  kO (binV Tryd.prog .lss 3 true v10 (.int .i64 (0))) ds h (fun v11 ds h =>
  kO (unV .not v11) ds h (fun v12 ds h =>
  K .norm (T.set tm 124 v12) ds h))))))))) h0.next ⟨h0.objs, h0.next + 13⟩
noncomputable def r51_23 : CodeT := fun call _ tm ds h0 K =>
  (fun (b0 : Nat) (h : H) =>
  kO (binV Tryd.prog .sub 3 true (tg tm 12) (.int .i64 (1))) ds h (fun v4 ds h =>
  kO (binV Tryd.prog .sub 3 true (tg tm 12) (.int .i64 (1))) ds h (fun v7 ds h =>
  kO (indexSl 2 (tg tm 0) v7) ds h (fun v8 ds h =>
  kO (loadAgg 2 h v8) ds h (fun v9 ds h =>
  kO (indexSl 2 (tg tm 0) (tg tm 12)) ds h (fun v12 ds h =>
  kO (loadAgg 2 h v12) ds h (fun v13 ds h =>
  kO (indexSl 2 (tg tm 0) (tg tm 12)) ds h (fun v14 ds h =>
  kH (withV undef (storeV 2 h v14 v9)) ds (fun v15 ds h =>
  kO (indexSl 2 (tg tm 0) v4) ds h (fun v16 ds h =>
  kH (withV undef (storeV 2 h v16 v13)) ds (fun v17 ds h =>
  K .norm tm ds h))))))))))) h0.next ⟨h0.objs, h0.next + 18⟩
noncomputable def r51_21 : CodeT := fun call _ tm ds h K =>
  kO (binV Tryd.prog .add 3 true (tg tm 12) (.int .i64 (1))) ds h (fun v1 ds h =>
  K .norm (T.set tm 12 v1) ds h)
noncomputable def l51_25 : Box CodeT := ⟨seqC ⟨seqC ⟨r51_20⟩ ⟨condC ⟨fun _ tm => tg tm 109⟩ skipC (exitC 6)⟩⟩ ⟨seqC ⟨blockC 7 ⟨seqC ⟨seqC ⟨r51_22⟩ ⟨condC ⟨fun _ tm => tg tm 124⟩ (exitC 6) skipC⟩⟩ ⟨r51_23⟩⟩⟩ ⟨r51_21⟩⟩⟩
noncomputable def r51_4 : CodeT := fun call _ tm ds h K =>
  kO (binV Tryd.prog .add 3 true (tg tm 10) (.int .i64 (1))) ds h (fun v1 ds h =>
  K .norm (T.set tm 10 v1) ds h)
noncomputable def l51_27 : Box CodeT := ⟨seqC ⟨seqC ⟨r51_3⟩ ⟨condC ⟨fun _ tm => tg tm 16⟩ skipC (exitC 0)⟩⟩ ⟨seqC ⟨blockC 1 ⟨seqC ⟨blockC 2 (loopB l51_6)⟩ ⟨seqC ⟨seqC ⟨r51_7⟩ ⟨condC ⟨fun _ tm => tg tm 41⟩ ⟨seqC ⟨r51_8⟩ retC⟩ skipC⟩⟩ ⟨seqC ⟨seqC ⟨r51_9⟩ ⟨condC ⟨fun _ tm => tg tm 45⟩ ⟨seqC ⟨r51_10⟩ retC⟩ skipC⟩⟩ ⟨seqC ⟨r51_11⟩ ⟨seqC ⟨seqC ⟨r51_12⟩ ⟨condC ⟨fun _ tm => tg tm 65⟩ ⟨seqC ⟨r51_13⟩ ⟨blockC 4 (loopB l51_18)⟩⟩ skipC⟩⟩ ⟨seqC ⟨r51_18⟩ ⟨condC ⟨fun _ tm => tg tm 104⟩ ⟨seqC ⟨r51_19⟩ ⟨blockC 6 (loopB l51_25)⟩⟩ skipC⟩⟩⟩⟩⟩⟩⟩⟩ ⟨r51_4⟩⟩⟩
noncomputable def r51_24 : CodeT := fun call _ tm ds h K =>
  K .norm (T.set tm 8 (.bool false)) ds h
noncomputable def c51 : Box CodeT := ⟨seqC ⟨r51_0⟩ ⟨seqC ⟨r51_1⟩ ⟨seqC ⟨seqC ⟨r51_2⟩ ⟨blockC 0 (loopB l51_27)⟩⟩ ⟨seqC ⟨r51_24⟩ retC⟩⟩⟩⟩
noncomputable def q51 : Box (T Value → H → Option (List Value)) := ⟨fun tm h => some [tg tm 8]⟩
/-! 53 slices.partitionCmpFunc[cloakroom/api.Name] -/
noncomputable def r53_0 : CodeT := fun call _ tm ds h K =>
  K .norm (T.set (T.set tm 10 (.int .i64 (0))) 11 (.bool false)) ds h
noncomputable def r53_1 : CodeT := fun call _ tm ds h0 K =>
  (fun (b0 : Nat) (h : H) =>
  kO (indexSl 2 (tg tm 0) (tg tm 3)) ds h (fun v6 ds h =>
  kO (loadAgg 2 h v6) ds h (fun v7 ds h =>
  kO (indexSl 2 (tg tm 0) (tg tm 1)) ds h (fun v10 ds h =>
  kO (loadAgg 2 h v10) ds h (fun v11 ds h =>
  kO (indexSl 2 (tg tm 0) (tg tm 1)) ds h (fun v12 ds h =>
  kH (withV undef (storeV 2 h v12 v7)) ds (fun v13 ds h =>
  kO (indexSl 2 (tg tm 0) (tg tm 3)) ds h (fun v14 ds h =>
  kH (withV undef (storeV 2 h v14 v11)) ds (fun v15 ds h =>
  K .norm tm ds h))))))))) h0.next ⟨h0.objs, h0.next + 16⟩
noncomputable def r53_2 : CodeT := fun call _ tm ds h K =>
  kO (binV Tryd.prog .add 3 true (tg tm 1) (.int .i64 (1))) ds h (fun v1 ds h =>
  kO (binV Tryd.prog .sub 3 true (tg tm 2) (.int .i64 (1))) ds h (fun v3 ds h =>
  K .norm (T.set (T.set tm 12 v1) 13 v3) ds h))
noncomputable def r53_3 : CodeT := fun call _ tm ds h0 K =>
  (fun (b0 : Nat) (h : H) =>
  kO (binV Tryd.prog .leq 3 false (tg tm 12) (tg tm 13)) ds h (fun v2 ds h =>
  gd (isB true v2) (fun k => kO (some (tg tm 4)) ds h k) ds h (fun v4 ds h =>
  gd (isB true v2) (fun k => kO (some (tg tm 0)) ds h k) ds h (fun v5 ds h =>
  gd (isB true v2) (fun k => kO (some (tg tm 12)) ds h k) ds h (fun v6 ds h =>
  gd (isB true v2) (fun k => kO (indexSl 2 v5 v6) ds h k) ds h (fun v7 ds h =>
  ite2 (isB true v2) (kO (loadAgg 2 h v7) ds h (fun v8 ds h =>
  gd (isB true v2) (fun k => kO (some (tg tm 0)) ds h k) ds h (fun v9 ds h =>
  gd (isB true v2) (fun k => kO (some (tg tm 1)) ds h k) ds h (fun v10 ds h =>
  gd (isB true v2) (fun k => kO (indexSl 2 v9 v10) ds h k) ds h (fun v11 ds h =>
  ite2 (isB true v2) (kO (loadAgg 2 h v11) ds h (fun v12 ds h =>
  ite2 (isB true v2) (goCall call (funcArgs v4 [v8, v12]) ds h (fun v13 ds h =>
  gd (isB true v2) (fun k => kO (binV Tryd.prog .lss 3 true v13 (.int .i64 (0))) ds h k) ds h (fun v14 ds h =>
  kO (pickV v2 v14 (.bool false)) ds h (fun v15 ds h =>
  K .norm (T.set tm 47 v15) ds h))))
  (gd (isB true v2) (fun k => kO (binV Tryd.prog .lss 3 true undef (.int .i64 (0))) ds h k) ds h (fun v14 ds h =>
  kO (pickV v2 v14 (.bool false)) ds h (fun v15 ds h =>
  K .norm (T.set tm 47 v15) ds h)))))
  (ite2 (isB true v2) (goCall call (funcArgs v4 [v8, undef]) ds h (fun v13 ds h =>
  gd (isB true v2) (fun k => kO (binV Tryd.prog .lss 3 true v13 (.int .i64 (0))) ds h k) ds h (fun v14 ds h =>
  kO (pickV v2 v14 (.bool false)) ds h (fun v15 ds h =>
  K .norm (T.set tm 47 v15) ds h))))
  (gd (isB true v2) (fun k => kO (binV Tryd.prog .lss 3 true undef (.int .i64 (0))) ds h k) ds h (fun v14 ds h =>
  kO (pickV v2 v14 (.bool false)) ds h (fun v15 ds h =>
  K .norm (T.set tm 47 v15) ds h)))))))))
  (gd (isB true v2) (fun k => kO (some (tg tm 0)) ds h k) ds h (fun v9 ds h =>
  gd (isB true v2) (fun k => kO (some (tg tm 1)) ds h k) ds h (fun v10 ds h =>
  gd (isB true v2) (fun k => kO (indexSl 2 v9 v10) ds h k) ds h (fun v11 ds h =>
  ite2 (isB true v2) (kO (loadAgg 2 h v11) ds h (fun v12 ds h =>
  ite2 (isB true v2) (goCall call (funcArgs v4 [undef, v12]) ds h (fun v13 ds h =>
  gd (isB true v2) (fun k => kO (binV Tryd.prog .lss 3 true v13 (.int .i64 (0))) ds h k) ds h (fun v14 ds h =>
  kO (pickV v2 v14 (.bool false)) ds h (fun v15 ds h =>
  K .norm (T.set tm 47 v15) ds h))))
  (gd (isB true v2) (fun k => kO (binV Tryd.prog .lss 3 true undef (.int .i64 (0))) ds h k) ds h (fun v14 ds h =>
  kO (pickV v2 v14 (.bool false)) ds h (fun v15 ds h =>
  K .norm (T.set tm 47 v15) ds h)))))
  (ite2 (isB true v2) (goCall call (funcArgs v4 [undef, undef]) ds h (fun v13 ds h =>
  gd (isB true v2) (fun k => kO (binV Tryd.prog .lss 3 true v13 (.int .i64 (0))) ds h k) ds h (fun v14 ds h =>
  kO (pickV v2 v14 (.bool false)) ds h (fun v15 ds h =>
  K .norm (T.set tm 47 v15) ds h))))
  (gd (isB true v2) (fun k => kO (binV Tryd.prog .lss 3 true undef (.int .i64 (0))) ds h k) ds h (fun v14 ds h =>
  kO (pickV v2 v14 (.bool false)) ds h (fun v15 ds h =>
  K .norm (T.set tm 47 v15) ds h)))))))))))))) h0.next ⟨h0.objs, h0.next + 16⟩
noncomputable def r53_4 : CodeT := fun call _ tm ds h K =>
  kO (binV Tryd.prog .add 3 true (tg tm 12) (.int .i64 (1))) ds h (fun v1 ds h =>
  K .norm (T.set tm 12 v1) ds h)
noncomputable def l53_5 : Box CodeT := ⟨seqC ⟨seqC ⟨r53_3⟩ ⟨condC ⟨fun _ tm => tg tm 47⟩ skipC (exitC 0)⟩⟩ ⟨blockC 1 ⟨r53_4⟩⟩⟩
noncomputable def r53_5 : CodeT := fun call _ tm ds h0 K =>
  (fun (b0 : Nat) (h : H) =>
  kO (binV Tryd.prog .leq 3 false (tg tm 12) (tg tm 13)) ds h (fun v2 ds h =>
  gd (isB true v2) (fun k => kO (some (tg tm 4)) ds h k) ds h (fun v4 ds h =>
  gd (isB true v2) (fun k => kO (some (tg tm 0)) ds h k) ds h (fun v5 ds h =>
  gd (isB true v2) (fun k => kO (some (tg tm 13)) ds h k) ds h (fun v6 ds h =>
  gd (isB true v2) (fun k => kO (indexSl 2 v5 v6) ds h k) ds h (fun v7 ds h =>
  ite2 (isB true v2) (kO (loadAgg 2 h v7) ds h (fun v8 ds h =>
  gd (isB true v2) (fun k => kO (some (tg tm 0)) ds h k) ds h (fun v9 ds h =>
  gd (isB true v2) (fun k => kO (some (tg tm 1)) ds h k) ds h (fun v10 ds h =>
  gd (isB true v2) (fun k => kO (indexSl 2 v9 v10) ds h k) ds h (fun v11 ds h =>
  ite2 (isB true v2) (kO (loadAgg 2 h v11) ds h (fun v12 ds h =>
  ite2 (isB true v2) (goCall call (funcArgs v4 [v8, v12]) ds h (fun v13 ds h =>
  gd (isB true v2) (fun k => kO (binV Tryd.prog .lss 3 true v13 (.int .i64 (0))) ds h k) ds h (fun v14 ds h =>
  gd (isB true v2) (fun k => kO (unV .not v14) ds h k) ds h (fun v15 ds h =>
  kO (pickV v2 v15 (.bool false)) ds h (fun v16 ds h =>
  K .norm (T.set tm 66 v16) ds h)))))
  (gd (isB true v2) (fun k => kO (binV Tryd.prog .lss 3 true undef (.int .i64 (0))) ds h k) ds h (fun v14 ds h =>
  gd (isB true v2) (fun k => kO (unV .not v14) ds h k) ds h (fun v15 ds h =>
  kO (pickV v2 v15 (.bool false)) ds h (fun v16 ds h =>
  K .norm (T.set tm 66 v16) ds h))))))
  (ite2 (isB true v2) (goCall call (funcArgs v4 [v8, undef]) ds h (fun v13 ds h =>
  gd (isB true v2) (fun k => kO (binV Tryd.prog .lss 3 true v13 (.int .i64 (0))) ds h k) ds h (fun v14 ds h =>
  gd (isB true v2) (fun k => kO (unV .not v14) ds h k) ds h (fun v15 ds h =>
  kO (pickV v2 v15 (.bool false)) ds h (fun v16 ds h =>
  K .norm (T.set tm 66 v16) ds h)))))
  (gd (isB true v2) (fun k => kO (binV Tryd.prog .lss 3 true undef (.int .i64 (0))) ds h k) ds h (fun v14 ds h =>
  gd (isB true v2) (fun k => kO (unV .not v14) ds h k) ds h (fun v15 ds h =>
  kO (pickV v2 v15 (.bool false)) ds h (fun v16 ds h =>
  K .norm (T.set tm 66 v16) ds h))))))))))
  (gd (isB true v2) (fun k => kO (some (tg tm 0)) ds h k) ds h (fun v9 ds h =>
  gd (isB true v2) (fun k => kO (some (tg tm 1)) ds h k) ds h (fun v10 ds h =>
  gd (isB true v2) (fun k => kO (indexSl 2 v9 v10) ds h k) ds h (fun v11 ds h =>
  ite2 (isB true v2) (kO (loadAgg 2 h v11) ds h (fun v12 ds h =>
  ite2 (isB true v2) (goCall call (funcArgs v4 [undef, v12]) ds h (fun v13 ds h =>
  gd (isB true v2) (fun k => kO (binV Tryd.prog .lss 3 true v13 (.int .i64 (0))) ds h k) ds h (fun v14 ds h =>
  gd (isB true v2) (fun k => kO (unV .not v14) ds h k) ds h (fun v15 ds h =>
  kO (pickV v2 v15 (.bool false)) ds h (fun v16 ds h =>
  K .norm (T.set tm 66 v16) ds h)))))
  (gd (isB true v2) (fun k => kO (binV Tryd.prog .lss 3 true undef (.int .i64 (0))) ds h k) ds h (fun v14 ds h =>
  gd (isB true v2) (fun k => kO (unV .not v14) ds h k) ds h (fun v15 ds h =>
  kO (pickV v2 v15 (.bool false)) ds h (fun v16 ds h =>
  K .norm (T.set tm 66 v16) ds h))))))
  (ite2 (isB true v2) (goCall call (funcArgs v4 [undef, undef]) ds h (fun v13 ds h =>
  gd (isB true v2) (fun k => kO (binV Tryd.prog .lss 3 true v13 (.int .i64 (0))) ds h k) ds h (fun v14 ds h =>
  gd (isB true v2) (fun k => kO (unV .not v14) ds h k) ds h (fun v15 ds h =>
  kO (pickV v2 v15 (.bool false)) ds h (fun v16 ds h =>
  K .norm (T.set tm 66 v16) ds h)))))
  (gd (isB true v2) (fun k => kO (binV Tryd.prog .lss 3 true undef (.int .i64 (0))) ds h k) ds h (fun v14 ds h =>
  gd (isB true v2) (fun k => kO (unV .not v14) ds h k) ds h (fun v15 ds h =>
  kO (pickV v2 v15 (.bool false)) ds h (fun v16 ds h =>
  K .norm (T.set tm 66 v16) ds h))))))))))))))) h0.next ⟨h0.objs, h0.next + 17⟩
noncomputable def r53_6 : CodeT := fun call _ tm ds h K =>
  kO (binV Tryd.prog .sub 3 true (tg tm 13) (.int .i64 (1))) ds h (fun v1 ds h =>
  K .norm (T.set tm 13 v1) ds h)
noncomputable def l53_8 : Box CodeT := ⟨seqC ⟨seqC ⟨r53_5⟩ ⟨condC ⟨fun _ tm => tg tm 66⟩ skipC (exitC 2)⟩⟩ ⟨blockC 3 ⟨r53_6⟩⟩⟩
noncomputable def r53_7 : CodeT := fun call _ tm ds h K =>
  kO (binV Tryd.prog .gtr 3 false (tg tm 12) (tg tm 13)) ds h (fun v2 ds h =>
  K .norm (T.set tm 71 v2) ds h)
noncomputable def r53_8 : CodeT := fun call _ tm ds h0 K =>
  (fun (b0 : Nat) (h : H) =>
  kO (indexSl 2 (tg tm 0) (tg tm 1)) ds h (fun v6 ds h =>
  kO (loadAgg 2 h v6) ds h (fun v7 ds h =>
  kO (indexSl 2 (tg tm 0) (tg tm 13)) ds h (fun v10 ds h =>
  kO (loadAgg 2 h v10) ds h (fun v11 ds h =>
  kO (indexSl 2 (tg tm 0) (tg tm 13)) ds h (fun v12 ds h =>
  kH (withV undef (storeV 2 h v12 v7)) ds (fun v13 ds h =>
  kO (indexSl 2 (tg tm 0) (tg tm 1)) ds h (fun v14 ds h =>
  kH (withV undef (storeV 2 h v14 v11)) ds (fun v15 ds h =>
  K .norm tm ds h))))))))) h0.next ⟨h0.objs, h0.next + 16⟩
noncomputable def r53_9 : CodeT := fun call _ tm ds h K =>
  K .norm (T.set (T.set tm 10 (tg tm 13)) 11 (.bool true)) ds h
noncomputable def r53_10 : CodeT := fun call _ tm ds h0 K =>
  (fun (b0 : Nat) (h : H) =>
  kO (indexSl 2 (tg tm 0) (tg tm 13)) ds h (fun v6 ds h =>
  kO (loadAgg 2 h v6) ds h (fun v7 ds h =>
  kO (indexSl 2 (tg tm 0) (tg tm 12)) ds h (fun v10 ds h =>
  kO (loadAgg 2 h v10) ds h (fun v11 ds h =>
  kO (indexSl 2 (tg tm 0) (tg tm 12)) ds h (fun v12 ds h =>
  kH (withV undef (storeV 2 h v12 v7)) ds (fun v13 ds h =>
  kO (indexSl 2 (tg tm 0) (tg tm 13)) ds h (fun v14 ds h =>
  kH (withV undef (storeV 2 h v14 v11)) ds (fun v15 ds h =>
  K .norm tm ds h))))))))) h0.next ⟨h0.objs, h0.next + 16⟩
noncomputable def r53_11 : CodeT := fun call _ tm ds h K =>
  kO (binV Tryd.prog .add 3 true (tg tm 12) (.int .i64 (1))) ds h (fun v1 ds h =>
  K .norm (T.set tm 12 v1) ds h)
noncomputable def r53_12 : CodeT := fun call _ tm ds h K =>
  kO (binV Tryd.prog .sub 3 true (tg tm 13) (.int .i64 (1))) ds h (fun v1 ds h =>
  K .norm (T.set tm 13 v1) ds h)
noncomputable def r53_13 : CodeT := fun call _ tm ds h0 K =>
  (fun (b0 : Nat) (h : H) =>
  kO (binV Tryd.prog .leq 3 false (tg tm 12) (tg tm 13)) ds h (fun v2 ds h =>
  gd (isB true v2) (fun k => kO (some (tg tm 4)) ds h k) ds h (fun v4 ds h =>
  gd (isB true v2) (fun k => kO (some (tg tm 0)) ds h k) ds h (fun v5 ds h =>
  gd (isB true v2) (fun k => kO (some (tg tm 12)) ds h k) ds h (fun v6 ds h =>
  gd (isB true v2) (fun k => kO (indexSl 2 v5 v6) ds h k) ds h (fun v7 ds h =>
  ite2 (isB true v2) (kO (loadAgg 2 h v7) ds h (fun v8 ds h =>
  gd (isB true v2) (fun k => kO (some (tg tm 0)) ds h k) ds h (fun v9 ds h =>
  gd (isB true v2) (fun k => kO (some (tg tm 1)) ds h k) ds h (fun v10 ds h =>
  gd (isB true v2) (fun k => kO (indexSl 2 v9 v10) ds h k) ds h (fun v11 ds h =>
  ite2 (isB true v2) (kO (loadAgg 2 h v11) ds h (fun v12 ds h =>
  ite2 (isB true v2) (goCall call (funcArgs v4 [v8, v12]) ds h (fun v13 ds h =>
  gd (isB true v2) (fun k => kO (binV Tryd.prog .lss 3 true v13 (.int .i64 (0))) ds h k) ds h (fun v14 ds h =>
  kO (pickV v2 v14 (.bool false)) ds h (fun v15 ds h =>
  K .norm (T.set tm 120 v15) ds h))))
  (gd (isB true v2) (fun k => kO (binV Tryd.prog .lss 3 true undef (.int .i64 (0))) ds h k) ds h (fun v14 ds h =>
  kO (pickV v2 v14 (.bool false)) ds h (fun v15 ds h =>
  K .norm (T.set tm 120 v15) ds h)))))
  (ite2 (isB true v2) (goCall call (funcArgs v4 [v8, undef]) ds h (fun v13 ds h =>
  gd (isB true v2) (fun k => kO (binV Tryd.prog .lss 3 true v13 (.int .i64 (0))) ds h k) ds h (fun v14 ds h =>
  kO (pickV v2 v14 (.bool false)) ds h (fun v15 ds h =>
  K .norm (T.set tm 120 v15) ds h))))
  (gd (isB true v2) (fun k => kO (binV Tryd.prog .lss 3 true undef (.int .i64 (0))) ds h k) ds h (fun v14 ds h =>
  kO (pickV v2 v14 (.bool false)) ds h (fun v15 ds h =>
  K .norm (T.set tm 120 v15) ds h)))))))))
  (gd (isB true v2) (fun k => kO (some (tg tm 0)) ds h k) ds h (fun v9 ds h =>
  gd (isB true v2) (fun k => kO (some (tg tm 1)) ds h k) ds h (fun v10 ds h =>
  gd (isB true v2) (fun k => kO (indexSl 2 v9 v10) ds h k) ds h (fun v11 ds h =>
  ite2 (isB true v2) (kO (loadAgg 2 h v11) ds h (fun v12 ds h =>
  ite2 (isB true v2) (goCall call (funcArgs v4 [undef, v12]) ds h (fun v13 ds h =>
  gd (isB true v2) (fun k => kO (binV Tryd.prog .lss 3 true v13 (.int .i64 (0))) ds h k) ds h (fun v14 ds h =>
  kO (pickV v2 v14 (.bool false)) ds h (fun v15 ds h =>
  K .norm (T.set tm 120 v15) ds h))))
  (gd (isB true v2) (fun k => kO (binV Tryd.prog .lss 3 true undef (.int .i64 (0))) ds h k) ds h (fun v14 ds h =>
  kO (pickV v2 v14 (.bool false)) ds h (fun v15 ds h =>
  K .norm (T.set tm 120 v15) ds h)))))
  (ite2 (isB true v2) (goCall call (funcArgs v4 [undef, undef]) ds h (fun v13 ds h =>
  gd (isB true v2) (fun k => kO (binV Tryd.prog .lss 3 true v13 (.int .i64 (0))) ds h k) ds h (fun v14 ds h =>
  kO (pickV v2 v14 (.bool false)) ds h (fun v15 ds h =>
  K .norm (T.set tm 120 v15) ds h))))
  (gd (isB true v2) (fun k => kO (binV Tryd.prog .lss 3 true undef (.int .i64 (0))) ds h k) ds h (fun v14 ds h =>
  kO (pickV v2 v14 (.bool false)) ds h (fun v15 ds h =>
  K .norm (T.set tm 120 v15) ds h)))))))))))))) h0.next ⟨h0.objs, h0.next + 16⟩
noncomputable def r53_14 : CodeT := fun call _ tm ds h K =>
  kO (binV Tryd.prog .add 3 true (tg tm 12) (.int .i64 (1))) ds h (fun v1 ds h =>
  K .norm (T.set tm 12 v1) ds h)
noncomputable def l53_17 : Box CodeT := ⟨seqC ⟨seqC ⟨r53_13⟩ ⟨condC ⟨fun _ tm => tg tm 120⟩ skipC (exitC 6)⟩⟩ ⟨blockC 7 ⟨r53_14⟩⟩⟩
noncomputable def r53_15 : CodeT := fun call _ tm ds h0 K =>
  (fun (b0 : Nat) (h : H) =>
  kO (binV Tryd.prog .leq 3 false (tg tm 12) (tg tm 13)) ds h (fun v2 ds h =>
  gd (isB true v2) (fun k => kO (some (tg tm 4)) ds h k) ds h (fun v4 ds h =>
  gd (isB true v2) (fun k => kO (some (tg tm 0)) ds h k) ds h (fun v5 ds h =>
  gd (isB true v2) (fun k => kO (some (tg tm 13)) ds h k) ds h (fun v6 ds h =>
  gd (isB true v2) (fun k => kO (indexSl 2 v5 v6) ds h k) ds h (fun v7 ds h =>
  ite2 (isB true v2) (kO (loadAgg 2 h v7) ds h (fun v8 ds h =>
  gd (isB true v2) (fun k => kO (some (tg tm 0)) ds h k) ds h (fun v9 ds h =>
  gd (isB true v2) (fun k => kO (some (tg tm 1)) ds h k) ds h (fun v10 ds h =>
  gd (isB true v2) (fun k => kO (indexSl 2 v9 v10) ds h k) ds h (fun v11 ds h =>
  ite2 (isB true v2) (kO (loadAgg 2 h v11) ds h (fun v12 ds h =>
  ite2 (isB true v2) (goCall call (funcArgs v4 [v8, v12]) ds h (fun v13 ds h =>
  gd (isB true v2) (fun k => kO (binV Tryd.prog .lss 3 true v13 (.int .i64 (0))) ds h k) ds h (fun v14 ds h =>
  gd (isB true v2) (fun k => kO (unV .not v14) ds h k) ds h (fun v15 ds h =>
  kO (pickV v2 v15 (.bool false)) ds h (fun v16 ds h =>
  K .norm (T.set tm 139 v16) ds h)))))
  (gd (isB true v2) (fun k => kO (binV Tryd.prog .lss 3 true undef (.int .i64 (0))) ds h k) ds h (fun v14 ds h =>
  gd (isB true v2) (fun k => kO (unV .not v14) ds h k) ds h (fun v15 ds h =>
  kO (pickV v2 v15 (.bool false)) ds h (fun v16 ds h =>
  K .norm (T.set tm 139 v16) ds h))))))
  (ite2 (isB true v2) (goCall call (funcArgs v4 [v8, undef]) ds h (fun v13 ds h =>
  gd (isB true v2) (fun k => kO (binV Tryd.prog .lss 3 true v13 (.int .i64 (0))) ds h k) ds h (fun v14 ds h =>
  gd (isB true v2) (fun k => kO (unV .not v14) ds h k) ds h (fun v15 ds h =>
  kO (pickV v2 v15 (.bool false)) ds h (fun v16 ds h =>
  K .norm (T.set tm 139 v16) ds h)))))
  (gd (isB true v2) (fun k => kO (binV Tryd.prog .lss 3 true undef (.int .i64 (0))) ds h k) ds h (fun v14 ds h =>
  gd (isB true v2) (fun k => kO (unV .not v14) ds h k) ds h (fun v15 ds h =>
  kO (pickV v2 v15 (.bool false)) ds h (fun v16 ds h =>
  K .norm (T.set tm 139 v16) ds h))))))))))
  (gd (isB true v2) (fun k => kO (some (tg tm 0)) ds h k) ds h (fun v9 ds h =>
  gd (isB true v2) (fun k => kO (some (tg tm 1)) ds h k) ds h (fun v10 ds h =>
  gd (isB true v2) (fun k => kO (indexSl 2 v9 v10) ds h k) ds h (fun v11 ds h =>
  ite2 (isB true v2) (kO (loadAgg 2 h v11) ds h (fun v12 ds h =>
  ite2 (isB true v2) (goCall call (funcArgs v4 [undef, v12]) ds h (fun v13 ds h =>
  gd (isB true v2) (fun k => kO (binV Tryd.prog .lss 3 true v13 (.int .i64 (0))) ds h k) ds h (fun v14 ds h =>
  gd (isB true v2) (fun k => kO (unV .not v14) ds h k) ds h (fun v15 ds h =>
  kO (pickV v2 v15 (.bool false)) ds h (fun v16 ds h =>
  K .norm (T.set tm 139 v16) ds h)))))
  (gd (isB true v2) (fun k => kO (binV Tryd.prog .lss 3 true undef (.int .i64 (0))) ds h k) ds h (fun v14 ds h =>
  gd (isB true v2) (fun k => kO (unV .not v14) ds h k) ds h (fun v15 ds h =>
  kO (pickV v2 v15 (.bool false)) ds h (fun v16 ds h =>
  K .norm (T.set tm 139 v16) ds h))))))
  (ite2 (isB true v2) (goCall call (funcArgs v4 [undef, undef]) ds h (fun v13 ds h =>
  gd (isB true v2) (fun k => kO (binV Tryd.prog .lss 3 true v13 (.int .i64 (0))) ds h k) ds h (fun v14 ds h =>
  gd (isB true v2) (fun k => kO (unV .not v14) ds h k) ds h (fun v15 ds h =>
  kO (pickV v2 v15 (.bool false)) ds h (fun v16 ds h =>
  K .norm (T.set tm 139 v16) ds h)))))
  (gd (isB true v2) (fun k => kO (binV Tryd.prog .lss 3 true undef (.int .i64 (0))) ds h k) ds h (fun v14 ds h =>
  gd (isB true v2) (fun k => kO (unV .not v14) ds h k) ds h (fun v15 ds h =>
  kO (pickV v2 v15 (.bool false)) ds h (fun v16 ds h =>
  K .norm (T.set tm 139 v16) ds h))))))))))))))) h0.next ⟨h0.objs, h0.next + 17⟩
noncomputable def r53_16 : CodeT := fun call _ tm ds h K =>
  kO (binV Tryd.prog .sub 3 true (tg tm 13) (.int .i64 (1))) ds h (fun v1 ds h =>
  K .norm (T.set tm 13 v1) ds h)
noncomputable def l53_20 : Box CodeT := ⟨seqC ⟨seqC ⟨r53_15⟩ ⟨condC ⟨fun _ tm => tg tm 139⟩ skipC (exitC 8)⟩⟩ ⟨blockC 9 ⟨r53_16⟩⟩⟩
noncomputable def r53_17 : CodeT := fun call _ tm ds h K =>
  kO (binV Tryd.prog .gtr 3 false (tg tm 12) (tg tm 13)) ds h (fun v2 ds h =>
  K .norm (T.set tm 144 v2) ds h)
noncomputable def r53_18 : CodeT := fun call _ tm ds h0 K =>
  (fun (b0 : Nat) (h : H) =>
  kO (indexSl 2 (tg tm 0) (tg tm 13)) ds h (fun v6 ds h =>
  kO (loadAgg 2 h v6) ds h (fun v7 ds h =>
  kO (indexSl 2 (tg tm 0) (tg tm 12)) ds h (fun v10 ds h =>
  kO (loadAgg 2 h v10) ds h (fun v11 ds h =>
  kO (indexSl 2 (tg tm 0) (tg tm 12)) ds h (fun v12 ds h =>
  kH (withV undef (storeV 2 h v12 v7)) ds (fun v13 ds h =>
  kO (indexSl 2 (tg tm 0) (tg tm 13)) ds h (fun v14 ds h =>
  kH (withV undef (storeV 2 h v14 v11)) ds (fun v15 ds h =>
  K .norm tm ds h))))))))) h0.next ⟨h0.objs, h0.next + 16⟩
noncomputable def r53_19 : CodeT := fun call _ tm ds h K =>
  kO (binV Tryd.prog .add 3 true (tg tm 12) (.int .i64 (1))) ds h (fun v1 ds h =>
  K .norm (T.set tm 12 v1) ds h)
noncomputable def r53_20 : CodeT := fun call _ tm ds h K =>
  kO (binV Tryd.prog .sub 3 true (tg tm 13) (.int .i64 (1))) ds h (fun v1 ds h =>
  K .norm (T.set tm 13 v1) ds h)
noncomputable def l53_25 : Box CodeT := ⟨blockC 5 ⟨seqC ⟨blockC 6 (loopB l53_17)⟩ ⟨seqC ⟨blockC 8 (loopB l53_20)⟩ ⟨seqC ⟨seqC ⟨r53_17⟩ ⟨condC ⟨fun _ tm => tg tm 144⟩ (exitC 4) skipC⟩⟩ ⟨seqC ⟨r53_18⟩ ⟨seqC ⟨r53_19⟩ ⟨r53_20⟩⟩⟩⟩⟩⟩⟩
noncomputable def r53_21 : CodeT := fun call _ tm ds h0 K =>
  (fun (b0 : Nat) (h : H) =>
  kO (indexSl 2 (tg tm 0) (tg tm 1)) ds h (fun v6 ds h =>
  kO (loadAgg 2 h v6) ds h (fun v7 ds h =>
  kO (indexSl 2 (tg tm 0) (tg tm 13)) ds h (fun v10 ds h =>
  kO (loadAgg 2 h v10) ds h (fun v11 ds h =>
  kO (indexSl 2 (tg tm 0) (tg tm 13)) ds h (fun v12 ds h =>
  kH (withV undef (storeV 2 h v12 v7)) ds (fun v13 ds h =>
  kO (indexSl 2 (tg tm 0) (tg tm 1)) ds h (fun v14 ds h =>
  kH (withV undef (storeV 2 h v14 v11)) ds (fun v15 ds h =>
  K .norm tm ds h))))))))) h0.next ⟨h0.objs, h0.next + 16⟩
noncomputable def r53_22 : CodeT := fun call _ tm ds h K =>
  K .norm (T.set (T.set tm 10 (tg tm 13)) 11 (.bool false)) ds h
noncomputable def c53 : Box CodeT := ⟨seqC ⟨r53_0⟩ ⟨seqC ⟨r53_1⟩ ⟨seqC ⟨r53_2⟩ ⟨seqC ⟨blockC 0 (loopB l53_5)⟩ ⟨seqC ⟨blockC 2 (loopB l53_8)⟩ ⟨seqC ⟨seqC ⟨r53_7⟩ ⟨condC ⟨fun _ tm => tg tm 71⟩ ⟨seqC ⟨r53_8⟩ ⟨seqC ⟨r53_9⟩ retC⟩⟩ skipC⟩⟩ ⟨seqC ⟨r53_10⟩ ⟨seqC ⟨r53_11⟩ ⟨seqC ⟨r53_12⟩ ⟨seqC ⟨blockC 4 (loopB l53_25)⟩ ⟨seqC ⟨r53_21⟩ ⟨seqC ⟨r53_22⟩ retC⟩⟩⟩⟩⟩⟩⟩⟩⟩⟩⟩⟩
noncomputable def q53 : Box (T Value → H → Option (List Value)) := ⟨fun tm h => some [tg tm 10, tg tm 11]⟩
/-! 54 math/bits.Len32 -/
/-! 55 math/bits.Len64 -/
noncomputable def r55_0 : CodeT := fun call _ tm ds h K =>
  K .norm (T.set tm 2 (.int .i64 (0))) ds h
noncomputable def r55_1 : CodeT := fun call _ tm ds h K =>
  kO (binV Tryd.prog .geq 98 true (tg tm 0) (.int .u64 (4294967296))) ds h (fun v1 ds h =>
  K .norm (T.set tm 4 v1) ds h)
noncomputable def r55_2 : CodeT := fun call _ tm ds h K =>
  kO (binV Tryd.prog .shr 98 true (tg tm 0) (.int .u64 (32))) ds h (fun v1 ds h =>
  K .norm (T.set tm 0 v1) ds h)
noncomputable def r55_3 : CodeT := fun call _ tm ds h K =>
  K .norm (T.set tm 2 (.int .i64 (32))) ds h
noncomputable def r55_4 : CodeT := fun call _ tm ds h K =>
  kO (binV Tryd.prog .geq 98 true (tg tm 0) (.int .u64 (65536))) ds h (fun v1 ds h =>
  K .norm (T.set tm 8 v1) ds h)
noncomputable def r55_5 : CodeT := fun call _ tm ds h K =>
  kO (binV Tryd.prog .shr 98 true (tg tm 0) (.int .u64 (16))) ds h (fun v1 ds h =>
  K .norm (T.set tm 0 v1) ds h)
noncomputable def r55_6 : CodeT := fun call _ tm ds h K =>
  kO (binV Tryd.prog .add 3 true (tg tm 2) (.int .i64 (16))) ds h (fun v1 ds h =>
  K .norm (T.set tm 2 v1) ds h)
noncomputable def r55_7 : CodeT := fun call _ tm ds h K =>
  kO (binV Tryd.prog .geq 98 true (tg tm 0) (.int .u64 (256))) ds h (fun v1 ds h =>
  K .norm (T.set tm 14 v1) ds h)
noncomputable def r55_8 : CodeT := fun call _ tm ds h K =>
  kO (binV Tryd.prog .shr 98 true (tg tm 0) (.int .u64 (8))) ds h (fun v1 ds h =>
  K .norm (T.set tm 0 v1) ds h)
noncomputable def r55_9 : CodeT := fun call _ tm ds h K =>
  kO (binV Tryd.prog .add 3 true (tg tm 2) (.int .i64 (8))) ds h (fun v1 ds h =>
  K .norm (T.set tm 2 v1) ds h)
noncomputable def r55_10 : CodeT := fun call _ tm ds h K =>
  kO (toInt .u8 (tg tm 0)) ds h (fun v2 ds h =>
  kO (indexStr (.string (strB [0, 1, 2, 2, 3, 3, 3, 3, 4, 4, 4, 4, 4, 4, 4, 4, 5, 5, 5, 5, 5, 5, 5, 5, 5, 5, 5, 5, 5, 5, 5, 5, 6, 6, 6, 6, 6, 6, 6, 6, 6, 6, 6, 6, 6, 6, 6, 6, 6, 6, 6, 6, 6, 6, 6, 6, 6, 6, 6, 6, 6, 6, 6, 6, 7, 7, 7, 7, 7, 7, 7, 7, 7, 7, 7, 7, 7, 7, 7, 7, 7, 7, 7, 7, 7, 7, 7, 7, 7, 7, 7, 7, 7, 7, 7, 7, 7, 7, 7, 7, 7, 7, 7, 7, 7, 7, 7, 7, 7, 7, 7, 7, 7, 7, 7, 7, 7, 7, 7, 7, 7, 7, 7, 7, 7, 7, 7, 7, 8, 8, 8, 8, 8, 8, 8, 8, 8, 8, 8, 8, 8, 8, 8, 8, 8, 8, 8, 8, 8, 8, 8, 8, 8, 8, 8, 8, 8, 8, 8, 8, 8, 8, 8, 8, 8, 8, 8, 8, 8, 8, 8, 8, 8, 8, 8, 8, 8, 8, 8, 8, 8, 8, 8, 8, 8, 8, 8, 8, 8, 8, 8, 8, 8, 8, 8, 8, 8, 8, 8, 8, 8, 8, 8, 8, 8, 8, 8, 8, 8, 8, 8, 8, 8, 8, 8, 8, 8, 8, 8, 8, 8, 8, 8, 8, 8, 8, 8, 8, 8, 8, 8, 8, 8, 8, 8, 8, 8, 8, 8, 8, 8, 8, 8, 8, 8, 8, 8, 8, 8, 8, 8, 8, 8, 8, 8, 8])) v2) ds h (fun v3 ds h =>
  kO (toInt .i64 v3) ds h (fun v4 ds h =>
  kO (binV Tryd.prog .add 3 false (tg tm 2) v4) ds h (fun v5 ds h =>
  K .norm (T.set tm 2 v5) ds h))))
noncomputable def c55 : Box CodeT := ⟨seqC ⟨r55_0⟩ ⟨seqC ⟨seqC ⟨r55_1⟩ ⟨condC ⟨fun _ tm => tg tm 4⟩ ⟨seqC ⟨r55_2⟩ ⟨r55_3⟩⟩ skipC⟩⟩ ⟨seqC ⟨seqC ⟨r55_4⟩ ⟨condC ⟨fun _ tm => tg tm 8⟩ ⟨seqC ⟨r55_5⟩ ⟨r55_6⟩⟩ skipC⟩⟩ ⟨seqC ⟨seqC ⟨r55_7⟩ ⟨condC ⟨fun _ tm => tg tm 14⟩ ⟨seqC ⟨r55_8⟩ ⟨r55_9⟩⟩ skipC⟩⟩ ⟨seqC ⟨r55_10⟩ retC⟩⟩⟩⟩⟩
noncomputable def q55 : Box (T Value → H → Option (List Value)) := ⟨fun tm h => some [tg tm 2]⟩
/-! 57 cloakroom/cloakroomref01.Tenant -/
noncomputable def r57_0 : CodeT := fun call _ tm ds h K =>
  K .norm (T.set tm 2 (.bool false)) ds h
noncomputable def r57_1 : CodeT := fun call _ tm ds h K =>
  kO (binV Tryd.prog .geq 3 true (tg tm 0) (.int .i64 (0))) ds h (fun v1 ds h =>
  gd (isB true v1) (fun k => kO (some (tg tm 0)) ds h (k)) ds h (fun v3 ds h =>
  gd (isB true v1) (fun k => kO (binV Tryd.prog .lss 3 true v3 (.int .i64 (4))) ds h (k)) ds h (fun v4 ds h =>
  kO (pickV v1 v4 (.bool false)) ds h (fun v5 ds h =>
  K .norm (T.set tm 2 v5) ds h))))
noncomputable def c57 : Box CodeT := ⟨seqC ⟨r57_0⟩ ⟨seqC ⟨r57_1⟩ retC⟩⟩
noncomputable def q57 : Box (T Value → H → Option (List Value)) := ⟨fun tm h => some [tg tm 2]⟩
/-! 58 cloakroom/cloakroomref01.Key -/
noncomputable def r58_0 : CodeT := fun call _ tm ds h K =>
  K .norm (T.set tm 2 (.bool false)) ds h
noncomputable def r58_1 : CodeT := fun call _ tm ds h K => (⟨opStep ⟨fun call env tm ds h K => kO (some (tg tm 0)) ds h K⟩ ⟨fun v tm => tm⟩ ⟨fun env tm => true⟩
  ⟨opStep ⟨fun call env tm ds h K => kO (lenStr (nthD 0 env)) ds h K⟩ ⟨fun v tm => tm⟩ ⟨fun env tm => true⟩
  ⟨opStep ⟨fun call env tm ds h K => kO (binV Tryd.prog .geq 3 true (nthD 0 env) (.int .i64 (1))) ds h K⟩ ⟨fun v tm => tm⟩ ⟨fun env tm => true⟩
  ⟨opStep ⟨fun call env tm ds h K => kO (some (nthD 0 env)) ds h K⟩ ⟨fun v tm => tm⟩ ⟨fun env tm => true⟩
  ⟨opStep ⟨fun call env tm ds h K => kO (some (tg tm 0)) ds h K⟩ ⟨fun v tm => tm⟩ ⟨fun env tm => isB true (nthD 0 env)⟩
  ⟨opStep ⟨fun call env tm ds h K => kO (lenStr (nthD 0 env)) ds h K⟩ ⟨fun v tm => tm⟩ ⟨fun env tm => isB true (nthD 1 env)⟩
  ⟨opStep ⟨fun call env tm ds h K => kO (binV Tryd.prog .leq 3 true (nthD 0 env) (.int .i64 (32))) ds h K⟩ ⟨fun v tm => tm⟩ ⟨fun env tm => isB true (nthD 2 env)⟩
  ⟨opStep ⟨fun call env tm ds h K => kO (pickV (nthD 3 env) (nthD 0 env) (.bool false)) ds h K⟩ ⟨fun v tm => tm⟩ ⟨fun env tm => true⟩
  ⟨opStep ⟨fun call env tm ds h K => kO (some (nthD 0 env)) ds h K⟩ ⟨fun v tm => (T.set tm 2 v)⟩ ⟨fun env tm => true⟩
  ⟨fun _ _ tm ds h K => K .norm tm ds h⟩⟩⟩⟩⟩⟩⟩⟩⟩⟩ : Box OpsT).f call [] tm ds h K
noncomputable def c58 : Box CodeT := ⟨seqC ⟨r58_0⟩ ⟨seqC ⟨r58_1⟩ retC⟩⟩
noncomputable def q58 : Box (T Value → H → Option (List Value)) := ⟨fun tm h => some [tg tm 2]⟩
/-! 59 slices.siftDownCmpFunc[cloakroom/api.Name] -/
noncomputable def r59_0 : CodeT := fun call _ tm ds h K =>
  K .norm (T.set tm 10 (tg tm 1)) ds h
noncomputable def r59_1 : CodeT := fun call _ tm ds h K =>
  kO (binV Tryd.prog .mul 3 true (.int .i64 (2)) (tg tm 10)) ds h (fun v1 ds h =>
  kO (binV Tryd.prog .add 3 true v1 (.int .i64 (1))) ds h (fun v2 ds h =>
  K .norm (T.set tm 11 v2) ds h))
noncomputable def r59_2 : CodeT := fun call _ tm ds h K =>
  kO (binV Tryd.prog .geq 3 false (tg tm 11) (tg tm 2)) ds h (fun v2 ds h =>
  K .norm (T.set tm 18 v2) ds h)
noncomputable def r59_3 : CodeT := fun call _ tm ds h0 K =>
  (fun (b0 : Nat) (h : H) =>
  kO (binV Tryd.prog .add 3 true (tg tm 11) (.int .i64 (1))) ds h (fun v1 ds h =>
  kO (binV Tryd.prog .lss 3 false v1 (tg tm 2)) ds h (fun v3 ds h =>
  gd (isB true v3) (fun k => kO (some (tg tm 4)) ds h k) ds h (fun v5 ds h =>
  gd (isB true v3) (fun k => kO (some (tg tm 0)) ds h k) ds h (fun v6 ds h =>
  gd (isB true v3) (fun k => kO (some (tg tm 3)) ds h k) ds h (fun v7 ds h =>
  gd (isB true v3) (fun k => kO (some (tg tm 11)) ds h k) ds h (fun v8 ds h =>
  gd (isB true v3) (fun k => kO (binV Tryd.prog .add 3 false v7 v8) ds h k) ds h (fun v9 ds h =>
  gd (isB true v3) (fun k => kO (indexSl 2 v6 v9) ds h k) ds h (fun v10 ds h =>
  ite2 (isB true v3) (kO (loadAgg 2 h v10) ds h (fun v11 ds h =>
  gd (isB true v3) (fun k => kO (some (tg tm 0)) ds h k) ds h (fun v12 ds h =>
  gd (isB true v3) (fun k => kO (some (tg tm 3)) ds h k) ds h (fun v13 ds h =>
  gd (isB true v3) (fun k => kO (some (tg tm 11)) ds h k) ds h (fun v14 ds h =>
  gd (isB true v3) (fun k => kO (binV Tryd.prog .add 3 false v13 v14) ds h k) ds h (fun v15 ds h =>
  gd (isB true v3) (fun k => kO (binV Tryd.prog .add 3 true v15 (.int .i64 (1))) ds h k) ds h (fun v16 ds h =>
  gd (isB true v3) (fun k => kO (indexSl 2 v12 v16) ds h k) ds h (fun v17 ds h =>
  ite2 (isB true v3) (kO (loadAgg 2 h v17) ds h (fun v18 ds h =>
  ite2 (isB true v3) (goCall call (funcArgs v5 [v11, v18]) ds h (fun v19 ds h =>
  gd (isB true v3) (fun k => kO (binV Tryd.prog .lss 3 true v19 (.int .i64 (0))) ds h k) ds h (fun v20 ds h =>
  kO (pickV v3 v20 (.bool false)) ds h (fun v21 ds h =>
  K .norm (T.set tm 40 v21) ds h))))
  (gd (isB true v3) (fun k => kO (binV Tryd.prog .lss 3 true undef (.int .i64 (0))) ds h k) ds h (fun v20 ds h =>
  kO (pickV v3 v20 (.bool false)) ds h (fun v21 ds h =>
  K .norm (T.set tm 40 v21) ds h)))))
  (ite2 (isB true v3) (goCall call (funcArgs v5 [v11, undef]) ds h (fun v19 ds h =>
  gd (isB true v3) (fun k => kO (binV Tryd.prog .lss 3 true v19 (.int .i64 (0))) ds h k) ds h (fun v20 ds h =>
  kO (pickV v3 v20 (.bool false)) ds h (fun v21 ds h =>
  K .norm (T.set tm 40 v21) ds h))))
  (gd (isB true v3) (fun k => kO (binV Tryd.prog .lss 3 true undef (.int .i64 (0))) ds h k) ds h (fun v20 ds h =>
  kO (pickV v3 v20 (.bool false)) ds h (fun v21 ds h =>
  K .norm (T.set tm 40 v21) ds h))))))))))))
  (gd (isB true v3) (fun k => kO (some (tg tm 0)) ds h k) ds h (fun v12 ds h =>
  gd (isB true v3) (fun k => kO (some (tg tm 3)) ds h k) ds h (fun v13 ds h =>
  gd (isB true v3) (fun k => kO (some (tg tm 11)) ds h k) ds h (fun v14 ds h =>
  gd (isB true v3) (fun k => kO (binV Tryd.prog .add 3 false v13 v14) ds h k) ds h (fun v15 ds h =>
  gd (isB true v3) (fun k => kO (binV Tryd.prog .add 3 true v15 (.int .i64 (1))) ds h k) ds h (fun v16 ds h =>
  gd (isB true v3) (fun k => kO (indexSl 2 v12 v16) ds h k) ds h (fun v17 ds h =>
  ite2 (isB true v3) (kO (loadAgg 2 h v17) ds h (fun v18 ds h =>
  ite2 (isB true v3) (goCall call (funcArgs v5 [undef, v18]) ds h (fun v19 ds h =>
  gd (isB true v3) (fun k => kO (binV Tryd.prog .lss 3 true v19 (.int .i64 (0))) ds h k) ds h (fun v20 ds h =>
  kO (pickV v3 v20 (.bool false)) ds h (fun v21 ds h =>
  K .norm (T.set tm 40 v21) ds h))))
  (gd (isB true v3) (fun k => kO (binV Tryd.prog .lss 3 true undef (.int .i64 (0))) ds h k) ds h (fun v20 ds h =>
  kO (pickV v3 v20 (.bool false)) ds h (fun v21 ds h =>
  K .norm (T.set tm 40 v21) ds h)))))
  (ite2 (isB true v3) (goCall call (funcArgs v5 [undef, undef]) ds h (fun v19 ds h =>
  gd (isB true v3) (fun k => kO (binV Tryd.prog .lss 3 true v19 (.int .i64 (0))) ds h k) ds h (fun v20 ds h =>
  kO (pickV v3 v20 (.bool false)) ds h (fun v21 ds h =>
  K .norm (T.set tm 40 v21) ds h))))
  (gd (isB true v3) (fun k => kO (binV Tryd.prog .lss 3 true undef (.int .i64 (0))) ds h k) ds h (fun v20 ds h =>
  kO (pickV v3 v20 (.bool false)) ds h (fun v21 ds h =>
  K .norm (T.set tm 40 v21) ds h)))))))))))))))))))) h0.next ⟨h0.objs, h0.next + 22⟩
noncomputable def r59_4 : CodeT := fun call _ tm ds h K =>
  kO (binV Tryd.prog .add 3 true (tg tm 11) (.int .i64 (1))) ds h (fun v1 ds h =>
  K .norm (T.set tm 11 v1) ds h)
noncomputable def r59_5 : CodeT := fun call _ tm ds h0 K =>
  (fun (b0 : Nat) (h : H) =>
  kO (binV Tryd.prog .add 3 false (tg tm 3) (tg tm 10)) ds h (fun v4 ds h =>
  kO (indexSl 2 (tg tm 0) v4) ds h (fun v5 ds h =>
  kO (loadAgg 2 h v5) ds h (fun v6 ds h =>
  kO (binV Tryd.prog .add 3 false (tg tm 3) (tg tm 11)) ds h (fun v10 ds h =>
  kO (indexSl 2 (tg tm 0) v10) ds h (fun v11 ds h =>
  kO (loadAgg 2 h v11) ds h (fun v12 ds h =>
  goCall call (funcArgs (tg tm 4) [v6, v12]) ds h (fun v13 ds h =>
  kO (binV Tryd.prog .lss 3 true v13 (.int .i64 (0))) ds h (fun v14 ds h =>
  kO (unV .not v14) ds h (fun v15 ds h =>
  K .norm (T.set tm 58 v15) ds h)))))))))) h0.next ⟨h0.objs, h0.next + 16⟩
noncomputable def r59_6 : CodeT := fun call _ tm ds h0 K =>
  (fun (b0 : Nat) (h : H) =>
  kO (binV Tryd.prog .add 3 false (tg tm 3) (tg tm 10)) ds h (fun v3 ds h =>
  kO (binV Tryd.prog .add 3 false (tg tm 3) (tg tm 11)) ds h (fun v7 ds h =>
  kO (binV Tryd.prog .add 3 false (tg tm 3) (tg tm 11)) ds h (fun v11 ds h =>
  kO (indexSl 2 (tg tm 0) v11) ds h (fun v12 ds h =>
  kO (loadAgg 2 h v12) ds h (fun v13 ds h =>
  kO (binV Tryd.prog .add 3 false (tg tm 3) (tg tm 10)) ds h (fun v17 ds h =>
  kO (indexSl 2 (tg tm 0) v17) ds h (fun v18 ds h =>
  kO (loadAgg 2 h v18) ds h (fun v19 ds h =>
  kO (indexSl 2 (tg tm 0) v3) ds h (fun v20 ds h =>
  kH (withV undef (storeV 2 h v20 v13)) ds (fun v21 ds h =>
  kO (indexSl 2 (tg tm 0) v7) ds h (fun v22 ds h =>
  kH (withV undef (storeV 2 h v22 v19)) ds (fun v23 ds h =>
  K .norm tm ds h))))))))))))) h0.next ⟨h0.objs, h0.next + 24⟩
noncomputable def r59_7 : CodeT := fun call _ tm ds h K =>
  K .norm (T.set tm 10 (tg tm 11)) ds h
noncomputable def l59_8 : Box CodeT := ⟨blockC 1 ⟨seqC ⟨r59_1⟩ ⟨seqC ⟨seqC ⟨r59_2⟩ ⟨condC ⟨fun _ tm => tg tm 18⟩ (exitC 0) skipC⟩⟩ ⟨seqC ⟨seqC ⟨r59_3⟩ ⟨condC ⟨fun _ tm => tg tm 40⟩ ⟨r59_4⟩ skipC⟩⟩ ⟨seqC ⟨seqC ⟨r59_5⟩ ⟨condC ⟨fun _ tm => tg tm 58⟩ retC skipC⟩⟩ ⟨seqC ⟨r59_6⟩ ⟨r59_7⟩⟩⟩⟩⟩⟩⟩
noncomputable def c59 : Box CodeT := ⟨seqC ⟨r59_0⟩ ⟨blockC 0 (loopB l59_8)⟩⟩
noncomputable def q59 : Box (T Value → H → Option (List Value)) := ⟨fun tm h => some []⟩
/-! 60 slices.nextPowerOfTwo -/
noncomputable def r60_0 : CodeT := fun call _ tm ds h K =>
  K .norm (T.set tm 2 (.int .u64 (0))) ds h
noncomputable def r60_1 : CodeT := fun call _ tm ds h K =>
  kO (toInt .u64 (tg tm 0)) ds h (fun v1 ds h =>
  call 40 [v1] h (fun v h => (fun v2 ds h =>
  kO (binV Tryd.prog .shl 93 true (.int .u64 (1)) v2) ds h (fun v3 ds h =>
  K .norm (T.set tm 2 v3) ds h)) v ds h))
noncomputable def c60 : Box CodeT := ⟨seqC ⟨r60_0⟩ ⟨seqC ⟨r60_1⟩ retC⟩⟩
noncomputable def q60 : Box (T Value → H → Option (List Value)) := ⟨fun tm h => some [tg tm 2]⟩
/-! 61 (*slices.xorshift).Next -/
noncomputable def r61_0 : CodeT := fun call _ tm ds h K =>
  K .norm (T.set tm 2 (.int .u64 (0))) ds h
noncomputable def r61_1 : CodeT := fun call _ tm ds h0 K =>
  (fun (b0 : Nat) (h : H) =>
  kO (nilChk (tg tm 0)) ds h (fun v1 ds h =>
  kO (loadOne h v1) ds h (fun v2 ds h =>
  kO (nilChk (tg tm 0)) ds h (fun v4 ds h =>
  kO (loadOne h v4) ds h (fun v5 ds h =>
  kO (binV Tryd.prog .shl 111 true v5 (.int .u64 (13))) ds h (fun v6 ds h =>
  kO (binV Tryd.prog .xor 111 false v2 v6) ds h (fun v7 ds h =>
  kO (nilChk (tg tm 0)) ds h (fun v8 ds h =>
  kH (withV undef (storeV 1 h v8 v7)) ds (fun v9 ds h =>
  K .norm tm ds h))))))))) h0.next ⟨h0.objs, h0.next + 10⟩
noncomputable def r61_2 : CodeT := fun call _ tm ds h0 K =>
  (fun (b0 : Nat) (h : H) =>
  kO (nilChk (tg tm 0)) ds h (fun v1 ds h =>
  kO (loadOne h v1) ds h (fun v2 ds h =>
  kO (nilChk (tg tm 0)) ds h (fun v4 ds h =>
  kO (loadOne h v4) ds h (fun v5 ds h =>
  kO (binV Tryd.prog .shr 111 true v5 (.int .u64 (7))) ds h (fun v6 ds h =>
  kO (binV Tryd.prog .xor 111 false v2 v6) ds h (fun v7 ds h =>
  kO (nilChk (tg tm 0)) ds h (fun v8 ds h =>
  kH (withV undef (storeV 1 h v8 v7)) ds (fun v9 ds h =>
  K .norm tm ds h))))))))) h0.next ⟨h0.objs, h0.next + 10⟩
noncomputable def r61_3 : CodeT := fun call _ tm ds h0 K =>
  (fun (b0 : Nat) (h : H) =>
  kO (nilChk (tg tm 0)) ds h (fun v1 ds h =>
  kO (loadOne h v1) ds h (fun v2 ds h =>
  kO (nilChk (tg tm 0)) ds h (fun v4 ds h =>
  kO (loadOne h v4) ds h (fun v5 ds h =>
  kO (binV Tryd.prog .shl 111 true v5 (.int .u64 (17))) ds h (fun v6 ds h =>
  kO (binV Tryd.prog .xor 111 false v2 v6) ds h (fun v7 ds h =>
  kO (nilChk (tg tm 0)) ds h (fun v8 ds h =>
  kH (withV undef (storeV 1 h v8 v7)) ds (fun v9 ds h =>
  K .norm tm ds h))))))))) h0.next ⟨h0.objs, h0.next + 10⟩
noncomputable def r61_4 : CodeT := fun call _ tm ds h K =>
  kO (nilChk (tg tm 0)) ds h (fun v1 ds h =>
  kO (loadOne h v1) ds h (fun v2 ds h =>
  K .norm (T.set tm 2 v2) ds h))
noncomputable def c61 : Box CodeT := ⟨seqC ⟨r61_0⟩ ⟨seqC ⟨r61_1⟩ ⟨seqC ⟨r61_2⟩ ⟨seqC ⟨r61_3⟩ ⟨seqC ⟨r61_4⟩ retC⟩⟩⟩⟩⟩
noncomputable def q61 : Box (T Value → H → Option (List Value)) := ⟨fun tm h => some [tg tm 2]⟩
/-! 62 slices.medianAdjacentCmpFunc[cloakroom/api.Name] -/
noncomputable def r62_0 : CodeT := fun call _ tm ds h K =>
  K .norm (T.set tm 8 (.int .i64 (0))) ds h
noncomputable def r62_1 : CodeT := fun call _ tm ds h K =>
  kO (binV Tryd.prog .sub 3 true (tg tm 1) (.int .i64 (1))) ds h (fun v2 ds h =>
  kO (binV Tryd.prog .add 3 true (tg tm 1) (.int .i64 (1))) ds h (fun v5 ds h =>
  call 63 [(tg tm 0), v2, (tg tm 1), v5, (tg tm 2), (tg tm 3)] h (fun v h => (fun v8 ds h =>
  K .norm (T.set tm 8 v8) ds h) v ds h)))
noncomputable def c62 : Box CodeT := ⟨seqC ⟨r62_0⟩ ⟨seqC ⟨r62_1⟩ retC⟩⟩
noncomputable def q62 : Box (T Value → H → Option (List Value)) := ⟨fun tm h => some [tg tm 8]⟩
/-! 63 slices.medianCmpFunc[cloakroom/api.Name] -/
noncomputable def r63_0 : CodeT := fun call _ tm ds h K =>
  K .norm (T.set tm 12 (.int .i64 (0))) ds h
noncomputable def r63_1 : CodeT := fun call _ tm ds h K =>
  call 64 [(tg tm 0), (tg tm 1), (tg tm 2), (tg tm 4), (tg tm 5)] h (fun v h => (fun v5 ds h =>
  kO (tupNth 0 v5) ds h (fun v7 ds h =>
  kO (tupNth 1 v5) ds h (fun v8 ds h =>
  K .norm (T.set (T.set tm 1 v7) 2 v8) ds h))) v ds h)
noncomputable def r63_2 : CodeT := fun call _ tm ds h K =>
  call 64 [(tg tm 0), (tg tm 2), (tg tm 3), (tg tm 4), (tg tm 5)] h (fun v h => (fun v5 ds h =>
  kO (tupNth 0 v5) ds h (fun v7 ds h =>
  kO (tupNth 1 v5) ds h (fun v8 ds h =>
  K .norm (T.set (T.set tm 2 v7) 3 v8) ds h))) v ds h)
noncomputable def r63_3 : CodeT := fun call _ tm ds h K =>
  call 64 [(tg tm 0), (tg tm 1), (tg tm 2), (tg tm 4), (tg tm 5)] h (fun v h => (fun v5 ds h =>
  kO (tupNth 0 v5) ds h (fun v7 ds h =>
  kO (tupNth 1 v5) ds h (fun v8 ds h =>
  K .norm (T.set (T.set tm 1 v7) 2 v8) ds h))) v ds h)
noncomputable def r63_4 : CodeT := fun call _ tm ds h K =>
  K .norm (T.set tm 12 (tg tm 2)) ds h
noncomputable def c63 : Box CodeT := ⟨seqC ⟨r63_0⟩ ⟨seqC ⟨r63_1⟩ ⟨seqC ⟨r63_2⟩ ⟨seqC ⟨r63_3⟩ ⟨seqC ⟨r63_4⟩ retC⟩⟩⟩⟩⟩
noncomputable def q63 : Box (T Value → H → Option (List Value)) := ⟨fun tm h => some [tg tm 12]⟩
/-! 64 slices.order2CmpFunc[cloakroom/api.Name] -/
noncomputable def r64_0 : CodeT := fun call _ tm ds h K =>
  K .norm (T.set (T.set tm 10 (.int .i64 (0))) 11 (.int .i64 (0))) ds h
noncomputable def r64_1 : CodeT := fun call _ tm ds h0 K =>
  (fun (b0 : Nat) (h : H) =>
  kO (indexSl 2 (tg tm 0) (tg tm 2)) ds h (fun v3 ds h =>
  kO (loadAgg 2 h v3) ds h (fun v4 ds h =>
  kO (indexSl 2 (tg tm 0) (tg tm 1)) ds h (fun v7 ds h =>
  kO (loadAgg 2 h v7) ds h (fun v8 ds h =>
  goCall call (funcArgs (tg tm 4) [v4, v8]) ds h (fun v9 ds h =>
  kO (binV Tryd.prog .lss 3 true v9 (.int .i64 (0))) ds h (fun v10 ds h =>
  K .norm (T.set tm 22 v10) ds h))))))) h0.next ⟨h0.objs, h0.next + 11⟩
noncomputable def r64_2 : CodeT := fun call _ tm ds h K =>
  kO (nilChk (tg tm 3)) ds h (fun v1 ds h =>
  kO (loadOne h v1) ds h (fun v2 ds h =>
  kO (binV Tryd.prog .add 3 true v2 (.int .i64 (1))) ds h (fun v3 ds h =>
  kO (nilChk (tg tm 3)) ds h (fun v4 ds h =>
  kH (withV undef (storeV 1 h v4 v3)) ds (fun v5 ds h =>
  K .norm tm ds h)))))
noncomputable def r64_3 : CodeT := fun call _ tm ds h K =>
  K .norm (T.set (T.set tm 10 (tg tm 2)) 11 (tg tm 1)) ds h
noncomputable def r64_4 : CodeT := fun call _ tm ds h K =>
  K .norm (T.set (T.set tm 10 (tg tm 1)) 11 (tg tm 2)) ds h
noncomputable def c64 : Box CodeT := ⟨seqC ⟨r64_0⟩ ⟨seqC ⟨seqC ⟨r64_1⟩ ⟨condC ⟨fun _ tm => tg tm 22⟩ ⟨seqC ⟨r64_2⟩ ⟨seqC ⟨r64_3⟩ retC⟩⟩ skipC⟩⟩ ⟨seqC ⟨r64_4⟩ retC⟩⟩⟩
noncomputable def q64 : Box (T Value → H → Option (List Value)) := ⟨fun tm h => some [tg tm 10, tg tm 11]⟩

end Go.Proofs.YtbdmhdidehfmoaaDoor
