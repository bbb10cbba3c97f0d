import Derived.Test.YtpoedopdcpejmaaEvZ
import Derived.KernelRfl
import Derived.Test.YtpoedopdcpejmaaRows
import Derived.WalkKit
import Derived.ProofKit
import Derived.OpenShut
import Derived.Lib.Bytealg
set_option linter.unusedSimpArgs false
set_option linter.unusedVariables false
namespace Go.Proofs.Ytpoedopdcpejmaa
open Go.Ev
def masks : List Nat := [0, 0, 0, 9672587157544950231465927, 383123885227625332045352966213518110654591263672631239, 349810273843762002499707532736298829738303, 22408183, 158456325028672861018786168819, 65663, 525, 2099213, 2251799813951987, 605016312624374960283635, 45, 45, 33571891, 33563131, 31, 8392919, 33851, 525, 316912651237649006276395401207, 5, 147, 19, 2611, 8279, 19, 63, 17389, 604275, 19, 315, 65659, 33407, 17023, 8598455287, 4611686018429490143, 16661, 51, 42535296023574879666274036850519702559, 5, 5, 19, 7, 1049663, 67703, 17179886351, 8592039695, 35218731966215, 1333065575601045263, 33543, 21268317252094917911888073248812900111, 1217485249602318769183, 22997644815212700899627017342834150232570911, 277, 0, 5, 5, 288231475663604767, 5, 5, 271, 4159, 4197407, 0, 0, 0, 0, 0, 0, 0, 0, 0, 0, 0, 0, 0, 0, 0, 0, 0]
def outside : List (Nat × XK) := [(56, .cmp)]
abbrev NG : Nat := 0
/-! 3 cloakroom/cloakroomlaw04.WheelSteps -/
/-! 4 cloakroom/cloakroomlaw04.WheelDue -/
/-! 5 cloakroom/cloakroomlaw04.WheelAgain -/
/-! 7 cloakroom/cloakroomlaw04.WheelDoes -/
noncomputable def r7_0 : CodeT := fun call _ tm ds h K =>
  K .norm (T.set tm 4 (.bool false)) ds h
noncomputable def r7_1 : CodeT := fun call _ tm ds h K =>
  kO (lenSl (tg tm 1)) ds h (fun v1 ds h =>
  kO (binV Try.prog .gtr 3 true v1 (.int .i64 (300))) ds h (fun v2 ds h =>
  K .norm (T.set tm 18 v2) ds h))
noncomputable def r7_2 : CodeT := fun call _ tm ds h K =>
  K .norm (T.set tm 4 (.bool true)) ds h
noncomputable def r7_3 : CodeT := fun call _ tm ds h K =>
  call 9 [(tg tm 0)] h (fun v h => (fun v1 ds h =>
  kO (tupNth 0 v1) ds h (fun v3 ds h =>
  kO (tupNth 1 v1) ds h (fun v4 ds h =>
  K .norm (T.set (T.set tm 5 v3) 6 v4) ds h))) v ds h)
noncomputable def r7_4 : CodeT := fun call _ tm ds h K =>
  call 20 [(tg tm 0)] h (fun v h => (fun v1 ds h =>
  kO (tupNth 0 v1) ds h (fun v3 ds h =>
  kO (tupNth 1 v1) ds h (fun v4 ds h =>
  kA (some (.rw [(.int .i64 (0)), (.slice none 0 0)], ptrTo h.next)) ds h (fun v5 ds h =>
  kH (withV undef (storeV 2 h v5 v3)) ds (fun v6 ds h =>
  K .norm (T.set (T.set tm 7 v5) 8 v4) ds h))))) v ds h)
noncomputable def r7_5 : CodeT := fun call _ tm ds h K => (⟨opStep ⟨fun call env tm ds h K => kO (some (tg tm 6)) ds h K⟩ ⟨fun v tm => tm⟩ ⟨fun env tm => true⟩
  ⟨opStep ⟨fun call env tm ds h K => kO (some (tg tm 8)) ds h K⟩ ⟨fun v tm => tm⟩ ⟨fun env tm => true⟩
  ⟨opStep ⟨fun call env tm ds h K => kO (binV Try.prog .neq 3 false (nthD 1 env) (nthD 0 env)) ds h K⟩ ⟨fun v tm => tm⟩ ⟨fun env tm => true⟩
  ⟨opStep ⟨fun call env tm ds h K => kO (some (nthD 0 env)) ds h K⟩ ⟨fun v tm => tm⟩ ⟨fun env tm => true⟩
  ⟨opStep ⟨fun call env tm ds h K => kO (some (tg tm 5)) ds h K⟩ ⟨fun v tm => tm⟩ ⟨fun env tm => isB false (nthD 0 env)⟩
  ⟨opStep ⟨fun call env tm ds h K => kO (binV Try.prog .eql 25 true (nthD 0 env) (.pointer none)) ds h K⟩ ⟨fun v tm => tm⟩ ⟨fun env tm => isB false (nthD 1 env)⟩
  ⟨opStep ⟨fun call env tm ds h K => kO (some (tg tm 8)) ds h K⟩ ⟨fun v tm => tm⟩ ⟨fun env tm => isB false (nthD 2 env)⟩
  ⟨opStep ⟨fun call env tm ds h K => kO (binV Try.prog .neq 3 true (nthD 0 env) (.int .i64 (0))) ds h K⟩ ⟨fun v tm => tm⟩ ⟨fun env tm => isB false (nthD 3 env)⟩
  ⟨opStep ⟨fun call env tm ds h K => kO (binV Try.prog .neq 4 false (nthD 2 env) (nthD 0 env)) ds h K⟩ ⟨fun v tm => tm⟩ ⟨fun env tm => isB false (nthD 4 env)⟩
  ⟨opStep ⟨fun call env tm ds h K => kO (pickV (nthD 5 env) (.bool true) (nthD 0 env)) ds h K⟩ ⟨fun v tm => (T.set tm 38 v)⟩ ⟨fun env tm => true⟩
  ⟨fun _ _ tm ds h K => K .norm tm ds h⟩⟩⟩⟩⟩⟩⟩⟩⟩⟩⟩ : Box OpsT).f call [] tm ds h K
noncomputable def r7_6 : CodeT := fun call _ tm ds h K =>
  K .norm (T.set tm 4 (.bool false)) ds h
noncomputable def r7_7 : CodeT := fun call _ tm ds h K =>
  K .norm (T.set tm 9 (.int .i64 (0))) ds h
noncomputable def r7_8 : CodeT := fun call _ tm ds h K =>
  kO (lenSl (tg tm 1)) ds h (fun v2 ds h =>
  kO (binV Try.prog .lss 3 false (tg tm 9) v2) ds h (fun v3 ds h =>
  gd (isB true v3) (fun k => kO (some (tg tm 8)) ds h (k)) ds h (fun v5 ds h =>
  gd (isB true v3) (fun k => kO (binV Try.prog .eql 3 true v5 (.int .i64 (0))) ds h (k)) ds h (fun v6 ds h =>
  kO (pickV v3 v6 (.bool false)) ds h (fun v7 ds h =>
  K .norm (T.set tm 46 v7) ds h)))))
noncomputable def r7_10 : CodeT := fun call _ tm ds h K =>
  kO (indexSl 4 (tg tm 1) (tg tm 9)) ds h (fun v2 ds h =>
  kO (loadAgg 4 h v2) ds h (fun v3 ds h =>
  kA (some (.rw [(.int .u8 (0)), (.int .i64 (0)), (.string (strB [])), (.int .i64 (0))], ptrTo h.next)) ds h (fun v4 ds h =>
  kH (withV undef (storeV 4 h v4 v3)) ds (fun v5 ds h =>
  K .norm (T.set tm 10 v4) ds h))))
noncomputable def r7_11 : CodeT := fun call _ tm ds h K =>
  kO (fieldPtr 1 (tg tm 10)) ds h (fun v0 ds h =>
  kO (fieldPtr 1 v0) ds h (fun v1 ds h =>
  kO (loadOne h v1) ds h (fun v2 ds h =>
  kO (lenStr v2) ds h (fun v3 ds h =>
  kO (binV Try.prog .gtr 3 true v3 (.int .i64 (10000))) ds h (fun v4 ds h =>
  K .norm (T.set tm 57 v4) ds h)))))
noncomputable def r7_12 : CodeT := fun call _ tm ds h K =>
  K .norm (T.set tm 4 (.bool true)) ds h
noncomputable def r7_13 : CodeT := fun call _ tm ds h K =>
  K .norm (T.set tm 11 (.bool false)) ds h
noncomputable def r7_14 : CodeT := fun call _ tm ds h K =>
  kO (loadAgg 2 h (tg tm 7)) ds h (fun v1 ds h =>
  kO (loadAgg 4 h (tg tm 10)) ds h (fun v2 ds h =>
  call 21 [(tg tm 5), v1, v2] h (fun v h => (fun v3 ds h =>
  kO (tupNth 0 v3) ds h (fun v5 ds h =>
  kO (tupNth 1 v3) ds h (fun v6 ds h =>
  kH (withV undef (storeV 2 h (tg tm 7) v5)) ds (fun v7 ds h =>
  K .norm (T.set tm 11 v6) ds h)))) v ds h)))
noncomputable def r7_15 : CodeT := fun call _ tm ds h K =>
  call 14 [(tg tm 5)] h (fun v h => (fun v1 ds h =>
  kO (tupNth 0 v1) ds h (fun v3 ds h =>
  kO (tupNth 1 v1) ds h (fun v4 ds h =>
  K .norm (T.set (T.set tm 12 v3) 13 v4) ds h))) v ds h)
noncomputable def r7_16 : CodeT := fun call _ tm ds h K =>
  call 13 [(tg tm 5)] h (fun v h => (fun v1 ds h =>
  kO (tupNth 0 v1) ds h (fun v3 ds h =>
  kO (tupNth 1 v1) ds h (fun v4 ds h =>
  K .norm (T.set (T.set tm 14 v3) 15 v4) ds h))) v ds h)
noncomputable def r7_17 : CodeT := fun call _ tm ds h K => (⟨opStep ⟨fun call env tm ds h K => kO (some (tg tm 11)) ds h K⟩ ⟨fun v tm => tm⟩ ⟨fun env tm => true⟩
  ⟨opStep ⟨fun call env tm ds h K => kO (unV .not (nthD 0 env)) ds h K⟩ ⟨fun v tm => tm⟩ ⟨fun env tm => true⟩
  ⟨opStep ⟨fun call env tm ds h K => kO (some (nthD 0 env)) ds h K⟩ ⟨fun v tm => tm⟩ ⟨fun env tm => true⟩
  ⟨opStep ⟨fun call env tm ds h K => kO (some (tg tm 13)) ds h K⟩ ⟨fun v tm => tm⟩ ⟨fun env tm => isB false (nthD 0 env)⟩
  ⟨opStep ⟨fun call env tm ds h K => kO (binV Try.prog .neq 26 true (nthD 0 env) (.int .i64 (0))) ds h K⟩ ⟨fun v tm => tm⟩ ⟨fun env tm => isB false (nthD 1 env)⟩
  ⟨opStep ⟨fun call env tm ds h K => kO (pickV (nthD 2 env) (.bool true) (nthD 0 env)) ds h K⟩ ⟨fun v tm => tm⟩ ⟨fun env tm => true⟩
  ⟨opStep ⟨fun call env tm ds h K => kO (some (nthD 0 env)) ds h K⟩ ⟨fun v tm => tm⟩ ⟨fun env tm => true⟩
  ⟨opStep ⟨fun call env tm ds h K => kO (some (tg tm 15)) ds h K⟩ ⟨fun v tm => tm⟩ ⟨fun env tm => isB false (nthD 0 env)⟩
  ⟨opStep ⟨fun call env tm ds h K => kO (binV Try.prog .neq 26 true (nthD 0 env) (.int .i64 (0))) ds h K⟩ ⟨fun v tm => tm⟩ ⟨fun env tm => isB false (nthD 1 env)⟩
  ⟨opStep ⟨fun call env tm ds h K => kO (pickV (nthD 2 env) (.bool true) (nthD 0 env)) ds h K⟩ ⟨fun v tm => tm⟩ ⟨fun env tm => true⟩
  ⟨opStep ⟨fun call env tm ds h K => kO (some (nthD 0 env)) ds h K⟩ ⟨fun v tm => tm⟩ ⟨fun env tm => true⟩
  ⟨opStep ⟨fun call env tm ds h K => kO (some (tg tm 12)) ds h K⟩ ⟨fun v tm => tm⟩ ⟨fun env tm => isB false (nthD 0 env)⟩
  ⟨opStep ⟨fun call env tm ds h K => kO (fieldPtr 1 (tg tm 7)) ds h K⟩ ⟨fun v tm => tm⟩ ⟨fun env tm => isB false (nthD 1 env)⟩
  ⟨opStep ⟨fun call env tm ds h K => kO (loadOne h (nthD 0 env)) ds h K⟩ ⟨fun v tm => tm⟩ ⟨fun env tm => isB false (nthD 2 env)⟩
  ⟨opStep ⟨fun call env tm ds h K => kO (lenSl (nthD 0 env)) ds h K⟩ ⟨fun v tm => tm⟩ ⟨fun env tm => isB false (nthD 3 env)⟩
  ⟨opStep ⟨fun call env tm ds h K => kO (binV Try.prog .neq 3 false (nthD 3 env) (nthD 0 env)) ds h K⟩ ⟨fun v tm => tm⟩ ⟨fun env tm => isB false (nthD 4 env)⟩
  ⟨opStep ⟨fun call env tm ds h K => kO (pickV (nthD 5 env) (.bool true) (nthD 0 env)) ds h K⟩ ⟨fun v tm => tm⟩ ⟨fun env tm => true⟩
  ⟨opStep ⟨fun call env tm ds h K => kO (some (nthD 0 env)) ds h K⟩ ⟨fun v tm => tm⟩ ⟨fun env tm => true⟩
  ⟨opStep ⟨fun call env tm ds h K => kO (some (tg tm 14)) ds h K⟩ ⟨fun v tm => tm⟩ ⟨fun env tm => isB false (nthD 0 env)⟩
  ⟨opStep ⟨fun call env tm ds h K => kO (fieldPtr 0 (tg tm 7)) ds h K⟩ ⟨fun v tm => tm⟩ ⟨fun env tm => isB false (nthD 1 env)⟩
  ⟨opStep ⟨fun call env tm ds h K => kO (loadOne h (nthD 0 env)) ds h K⟩ ⟨fun v tm => tm⟩ ⟨fun env tm => isB false (nthD 2 env)⟩
  ⟨opStep ⟨fun call env tm ds h K => kO (binV Try.prog .neq 3 false (nthD 2 env) (nthD 0 env)) ds h K⟩ ⟨fun v tm => tm⟩ ⟨fun env tm => isB false (nthD 3 env)⟩
  ⟨opStep ⟨fun call env tm ds h K => kO (pickV (nthD 4 env) (.bool true) (nthD 0 env)) ds h K⟩ ⟨fun v tm => (T.set tm 97 v)⟩ ⟨fun env tm => true⟩
  ⟨fun _ _ tm ds h K => K .norm tm ds h⟩⟩⟩⟩⟩⟩⟩⟩⟩⟩⟩⟩⟩⟩⟩⟩⟩⟩⟩⟩⟩⟩⟩⟩ : Box OpsT).f call [] tm ds h K
noncomputable def r7_18 : CodeT := fun call _ tm ds h K =>
  K .norm (T.set tm 4 (.bool false)) ds h
noncomputable def r7_9 : CodeT := fun call _ tm ds h K =>
  kO (binV Try.prog .add 3 true (tg tm 9) (.int .i64 (1))) ds h (fun v1 ds h =>
  K .norm (T.set tm 9 v1) ds h)
noncomputable def l7_19 : Box CodeT := ⟨seqC ⟨seqC ⟨r7_8⟩ ⟨condC ⟨fun _ tm => tg tm 46⟩ skipC (exitC 0)⟩⟩ ⟨seqC ⟨blockC 1 ⟨seqC ⟨r7_10⟩ ⟨seqC ⟨seqC ⟨r7_11⟩ ⟨condC ⟨fun _ tm => tg tm 57⟩ ⟨seqC ⟨r7_12⟩ retC⟩ skipC⟩⟩ ⟨seqC ⟨r7_13⟩ ⟨seqC ⟨r7_14⟩ ⟨seqC ⟨r7_15⟩ ⟨seqC ⟨r7_16⟩ ⟨seqC ⟨r7_17⟩ ⟨condC ⟨fun _ tm => tg tm 97⟩ ⟨seqC ⟨r7_18⟩ retC⟩ skipC⟩⟩⟩⟩⟩⟩⟩⟩⟩ ⟨r7_9⟩⟩⟩
noncomputable def r7_19 : CodeT := fun call _ tm ds h K =>
  K .norm (T.set tm 4 (.bool true)) ds h
noncomputable def c7 : Box CodeT := ⟨seqC ⟨r7_0⟩ ⟨seqC ⟨seqC ⟨r7_1⟩ ⟨condC ⟨fun _ tm => tg tm 18⟩ ⟨seqC ⟨r7_2⟩ retC⟩ skipC⟩⟩ ⟨seqC ⟨r7_3⟩ ⟨seqC ⟨r7_4⟩ ⟨seqC ⟨seqC ⟨r7_5⟩ ⟨condC ⟨fun _ tm => tg tm 38⟩ ⟨seqC ⟨r7_6⟩ retC⟩ skipC⟩⟩ ⟨seqC ⟨seqC ⟨r7_7⟩ ⟨blockC 0 (loopB l7_19)⟩⟩ ⟨seqC ⟨r7_19⟩ retC⟩⟩⟩⟩⟩⟩⟩
noncomputable def q7 : Box (T Value → H → Option (List Value)) := ⟨fun tm h => some [tg tm 4]⟩
/-! 8 cloakroom/cloakroomlaw04.alive -/
/-! 9 cloakroom/wheel.New -/
noncomputable def r9_0 : CodeT := fun call _ tm ds h K =>
  K .norm (T.set (T.set tm 2 (.pointer none)) 3 (.int .i64 (0))) ds h
noncomputable def r9_1 : CodeT := fun call _ tm ds h K =>
  kO (binV Try.prog .lss 3 true (tg tm 0) (.int .i64 (0))) ds h (fun v1 ds h =>
  gd (isB false v1) (fun k => kO (some (tg tm 0)) ds h (k)) ds h (fun v3 ds h =>
  gd (isB false v1) (fun k => kO (binV Try.prog .gtr 3 true v3 (.int .i64 (1099511627776))) ds h (k)) ds h (fun v4 ds h =>
  kO (pickV v1 (.bool true) v4) ds h (fun v5 ds h =>
  K .norm (T.set tm 9 v5) ds h))))
noncomputable def r9_2 : CodeT := fun call _ tm ds h K =>
  K .norm (T.set (T.set tm 2 (.pointer none)) 3 (.int .i64 (2))) ds h
noncomputable def r9_3 : CodeT := fun call _ tm ds h K =>
  kA (some (.map [] 0, .map (some h.next))) ds h (fun v1 ds h =>
  kO (aggO (fill [(.int .i64 (0)), (.map none), (.map none), (.map none), (.map none), (.map none), (.map none), (.map none), (.map none), (.map none), (.map none), (.map none), (.map none), (.map none), (.map none), (.map none), (.map none), (.map none), (.map none), (.map none), (.map none), (.map none), (.map none), (.map none), (.map none), (.map none), (.map none), (.map none), (.map none), (.map none), (.map none), (.map none), (.map none), (.map none), (.map none), (.map none), (.map none), (.map none), (.map none), (.map none), (.map none), (.map none), (.map none), (.map none), (.map none), (.map none), (.map none), (.map none), (.map none), (.map none), (.map none), (.map none), (.map none), (.map none), (.map none), (.map none), (.map none), (.map none), (.map none), (.map none), (.map none), (.map none), (.map none), (.map none), (.map none), (.map none), (.map none), (.map none), (.map none), (.map none), (.map none), (.map none), (.map none), (.map none), (.map none), (.map none), (.map none), (.map none), (.map none), (.map none), (.map none), (.map none), (.map none), (.map none), (.map none), (.map none), (.map none), (.map none), (.map none), (.map none), (.map none), (.map none), (.map none), (.map none), (.map none), (.map none), (.map none), (.map none), (.map none), (.map none), (.map none), (.map none), (.map none), (.map none), (.map none), (.map none), (.map none), (.map none), (.map none), (.map none), (.map none), (.map none), (.map none), (.map none), (.map none), (.map none), (.map none), (.map none), (.map none), (.map none), (.map none), (.map none), (.map none), (.map none), (.map none), (.map none), (.map none), (.map none), (.map none), (.map none), (.map none), (.map none), (.map none), (.map none), (.map none), (.map none), (.map none), (.map none), (.map none), (.map none), (.map none), (.map none), (.map none), (.map none), (.map none), (.map none), (.map none), (.map none), (.map none), (.map none), (.map none), (.map none), (.map none), (.map none), (.map none), (.map none), (.map none), (.map none), (.map none), (.map none), (.map none), (.map none), (.map none), (.map none), (.map none), (.map none), (.map none), (.map none), (.map none), (.map none), (.map none), (.map none), (.map none), (.map none), (.map none), (.map none), (.map none), (.map none), (.map none), (.map none), (.map none), (.map none), (.map none), (.map none), (.map none), (.map none), (.map none), (.map none), (.map none), (.map none), (.map none), (.map none), (.map none), (.map none), (.map none), (.map none), (.map none), (.map none), (.map none), (.map none), (.map none), (.map none), (.map none), (.map none), (.map none), (.map none), (.map none), (.map none), (.map none), (.map none), (.map none), (.map none), (.map none), (.map none), (.map none), (.map none), (.map none), (.map none), (.map none), (.map none), (.map none), (.map none), (.map none), (.map none), (.map none), (.map none), (.map none), (.map none), (.map none), (.map none), (.map none), (.map none), (.map none), (.map none), (.map none), (.map none), (.map none), (.map none), (.map none), (.map none), (.map none), (.map none), (.map none), (.map none), (.map none), (.map none), (.map none), (.map none), (.map none), (.map none), (.map none), (.map none), (.map none), (.map none), (.map none), (.map none), (.map none), (.map none), (.map none), (.map none), (.map none), (.map none), (.map none), (.map none), (.map none), (.map none), (.map none), (.map none), (.map none), (.map none), (.map none), (.map none), (.map none), (.map none), (.map none), (.map none), (.map none), (.map none), (.map none), (.map none), (.map none), (.map none), (.map none), (.map none), (.map none), (.map none), (.map none), (.map none), (.map none), (.map none), (.map none), (.map none), (.map none), (.map none), (.map none), (.map none), (.map none), (.map none), (.map none), (.map none), (.map none), (.map none), (.map none), (.map none), (.map none), (.map none), (.map none), (.map none), (.map none), (.map none), (.map none), (.map none), (.map none), (.map none), (.map none), (.map none), (.map none), (.map none), (.map none), (.map none), (.map none), (.map none), (.map none), (.map none), (.map none), (.map none), (.map none), (.map none), (.map none), (.map none), (.map none), (.map none), (.map none), (.map none), (.map none), (.map none), (.map none), (.map none), (.map none), (.map none), (.map none), (.map none), (.map none), (.map none), (.map none), (.map none), (.map none), (.map none), (.map none), (.map none), (.map none), (.map none), (.map none), (.map none), (.map none), (.map none), (.map none), (.map none), (.map none), (.map none), (.map none), (.map none), (.map none), (.map none), (.map none), (.map none), (.map none), (.map none), (.map none), (.map none), (.map none), (.map none), (.map none), (.map none), (.map none), (.map none), (.map none), (.map none), (.map none), (.map none), (.map none), (.map none), (.map none), (.map none), (.map none), (.map none), (.map none), (.map none), (.map none), (.map none), (.map none), (.map none), (.map none), (.map none), (.map none), (.map none), (.map none), (.map none), (.map none), (.map none), (.map none), (.map none), (.map none), (.map none), (.map none), (.map none), (.map none), (.map none), (.map none), (.map none), (.map none), (.map none), (.map none), (.map none), (.map none), (.map none), (.map none), (.map none), (.map none), (.map none), (.map none), (.map none), (.map none), (.map none), (.map none), (.map none), (.map none), (.map none), (.map none), (.map none), (.map none), (.map none), (.map none), (.map none), (.map none), (.map none), (.map none), (.map none), (.map none), (.map none), (.map none), (.map none), (.map none), (.map none), (.map none), (.map none), (.map none), (.map none), (.map none), (.map none), (.bool false)] (plc [(0, 1), (1, 1), (2, 448), (450, 1)]) [(0, (tg tm 0)), (1, v1), (3, (.bool true))])) ds h (fun v2 ds h =>
  kA (some (.rw (Value.cells v2).toList, ptrTo h.next)) ds h (fun v3 ds h =>
  K .norm (T.set (T.set tm 2 v3) 3 (.int .i64 (0))) ds h)))
noncomputable def c9 : Box CodeT := ⟨seqC ⟨r9_0⟩ ⟨seqC ⟨seqC ⟨r9_1⟩ ⟨condC ⟨fun _ tm => tg tm 9⟩ ⟨seqC ⟨r9_2⟩ retC⟩ skipC⟩⟩ ⟨seqC ⟨r9_3⟩ retC⟩⟩⟩
noncomputable def q9 : Box (T Value → H → Option (List Value)) := ⟨fun tm h => some [tg tm 2, tg tm 3]⟩
/-! 10 cloakroom/cloakroomlaw04.small -/
/-! 11 cloakroom/cloakroomlaw04.add -/
/-! 12 (*cloakroom/wheel.Wheel).Tick -/
noncomputable def r12_0 : CodeT := fun call _ tm ds h K =>
  K .norm (T.set (T.set tm 4 (.slice none 0 0)) 5 (.int .i64 (0))) ds h
noncomputable def r12_1 : CodeT := fun call _ tm ds h K =>
  call 22 [(tg tm 0)] h (fun v h => (fun v1 ds h =>
  K .norm (T.set tm 17 v1) ds h) v ds h)
noncomputable def r12_2 : CodeT := fun call _ tm ds h K =>
  K .norm (T.set (T.set tm 4 (.slice none 0 0)) 5 (.int .i64 (1))) ds h
noncomputable def r12_3 : CodeT := fun call _ tm ds h K =>
  kO (nilChk (tg tm 0)) ds h (fun v2 ds h =>
  kO (fieldPtr 0 v2) ds h (fun v3 ds h =>
  kO (loadOne h v3) ds h (fun v4 ds h =>
  kO (binV Try.prog .lss 3 false (tg tm 1) v4) ds h (fun v5 ds h =>
  gd (isB false v5) (fun k => kO (some (tg tm 1)) ds h (k)) ds h (fun v7 ds h =>
  gd (isB false v5) (fun k => kO (binV Try.prog .gtr 3 true v7 (.int .i64 (1099511627776))) ds h (k)) ds h (fun v8 ds h =>
  kO (pickV v5 (.bool true) v8) ds h (fun v9 ds h =>
  K .norm (T.set tm 27 v9) ds h)))))))
noncomputable def r12_4 : CodeT := fun call _ tm ds h K =>
  K .norm (T.set (T.set tm 4 (.slice none 0 0)) 5 (.int .i64 (2))) ds h
noncomputable def r12_5 : CodeT := fun call _ tm ds h K =>
  K .norm (T.set tm 6 (.slice none 0 0)) ds h
noncomputable def r12_6 : CodeT := fun call _ tm ds h K =>
  kO (nilChk (tg tm 0)) ds h (fun v1 ds h =>
  kO (fieldPtr 0 v1) ds h (fun v2 ds h =>
  kO (loadOne h v2) ds h (fun v3 ds h =>
  call 23 [v3, (tg tm 1)] h (fun v h => (fun v5 ds h =>
  K .norm (T.set tm 7 v5) ds h) v ds h))))
noncomputable def r12_7 : CodeT := fun call _ tm ds h K =>
  K .norm (T.set tm 8 (.int .i64 (0))) ds h
noncomputable def r12_8 : CodeT := fun call _ tm ds h K =>
  kO (binV Try.prog .leq 3 false (tg tm 8) (tg tm 7)) ds h (fun v2 ds h =>
  K .norm (T.set tm 36 v2) ds h)
noncomputable def r12_10 : CodeT := fun call _ tm ds h K =>
  K .norm (T.set tm 9 (.int .i64 (63))) ds h
noncomputable def r12_11 : CodeT := fun call _ tm ds h K =>
  kO (binV Try.prog .eql 3 false (tg tm 8) (tg tm 7)) ds h (fun v2 ds h =>
  K .norm (T.set tm 41 v2) ds h)
noncomputable def r12_12 : CodeT := fun call _ tm ds h K =>
  call 24 [(tg tm 1), (tg tm 8)] h (fun v h => (fun v2 ds h =>
  K .norm (T.set tm 9 v2) ds h) v ds h)
noncomputable def r12_13 : CodeT := fun call _ tm ds h K =>
  kO (binV Try.prog .add 3 true (tg tm 9) (.int .i64 (1))) ds h (fun v1 ds h =>
  K .norm (T.set (T.set tm 46 v1) 47 (.int .i64 (0))) ds h)
noncomputable def r12_14 : CodeT := fun call _ tm ds h K =>
  kO (binV Try.prog .lss 3 false (tg tm 47) (tg tm 46)) ds h (fun v0 ds h =>
  K .norm (T.set tm 48 v0) ds h)
noncomputable def r12_15 : CodeT := fun call _ tm ds h K =>
  K .norm (T.set tm 10 (tg tm 47)) ds h
noncomputable def r12_16 : CodeT := fun call _ tm ds h K =>
  kO (nilChk (tg tm 0)) ds h (fun v3 ds h =>
  kO (fieldPtr 2 v3) ds h (fun v4 ds h =>
  kO (indexArr 64 7 v4 (tg tm 8)) ds h (fun v5 ds h =>
  kO (indexArr 1 64 v5 (tg tm 10)) ds h (fun v6 ds h =>
  call 25 [v6, (tg tm 6)] h (fun v h => (fun v8 ds h =>
  K .norm (T.set tm 6 v8) ds h) v ds h)))))
noncomputable def r12_17 : CodeT := fun call _ tm ds h K =>
  kO (binV Try.prog .add 3 true (tg tm 47) (.int .i64 (1))) ds h (fun v0 ds h =>
  K .norm (T.set tm 47 v0) ds h)
noncomputable def l12_17 : Box CodeT := ⟨seqC ⟨r12_14⟩ ⟨seqC ⟨condC ⟨fun _ tm => tg tm 48⟩ skipC (exitC 2)⟩ ⟨seqC ⟨blockC 3 ⟨seqC ⟨r12_15⟩ ⟨r12_16⟩⟩⟩ ⟨r12_17⟩⟩⟩⟩
noncomputable def r12_9 : CodeT := fun call _ tm ds h K =>
  kO (binV Try.prog .add 3 true (tg tm 8) (.int .i64 (1))) ds h (fun v1 ds h =>
  K .norm (T.set tm 8 v1) ds h)
noncomputable def l12_19 : Box CodeT := ⟨seqC ⟨seqC ⟨r12_8⟩ ⟨condC ⟨fun _ tm => tg tm 36⟩ skipC (exitC 0)⟩⟩ ⟨seqC ⟨blockC 1 ⟨seqC ⟨r12_10⟩ ⟨seqC ⟨seqC ⟨r12_11⟩ ⟨condC ⟨fun _ tm => tg tm 41⟩ ⟨r12_12⟩ skipC⟩⟩ ⟨seqC ⟨r12_13⟩ ⟨blockC 2 (loopB l12_17)⟩⟩⟩⟩⟩ ⟨r12_9⟩⟩⟩
noncomputable def r12_18 : CodeT := fun call _ tm ds h K =>
  kO (nilChk (tg tm 0)) ds h (fun v2 ds h =>
  kO (fieldPtr 0 v2) ds h (fun v3 ds h =>
  kH (withV undef (storeV 1 h v3 (tg tm 1))) ds (fun v4 ds h =>
  K .norm tm ds h)))
noncomputable def r12_19 : CodeT := fun call _ tm ds h K =>
  K .norm (T.set tm 11 (.slice none 0 0)) ds h
noncomputable def r12_20 : CodeT := fun call _ tm ds h K =>
  kA (some (.map [] 0, .map (some h.next))) ds h (fun v0 ds h =>
  kA (some (.rw [(.map none)], ptrTo h.next)) ds h (fun v1 ds h =>
  kH (withV undef (storeV 1 h v1 v0)) ds (fun v2 ds h =>
  K .norm (T.set tm 12 v1) ds h)))
noncomputable def r12_21 : CodeT := fun call _ tm ds h K =>
  kO (lenSl (tg tm 6)) ds h (fun v1 ds h =>
  K .norm (T.set (T.set (T.set tm 65 (tg tm 6)) 66 v1) 67 (.int .i64 (0))) ds h)
noncomputable def r12_22 : CodeT := fun call _ tm ds h K =>
  kO (binV Try.prog .lss 3 false (tg tm 67) (tg tm 66)) ds h (fun v0 ds h =>
  K .norm (T.set tm 68 v0) ds h)
noncomputable def r12_23 : CodeT := fun call _ tm ds h K =>
  kO (indexSl 2 (tg tm 65) (tg tm 67)) ds h (fun v0 ds h =>
  kO (loadAgg 2 h v0) ds h (fun v1 ds h =>
  kA (some (.rw [(.int .i64 (0)), (.string (strB []))], ptrTo h.next)) ds h (fun v2 ds h =>
  kH (withV undef (storeV 2 h v2 v1)) ds (fun v3 ds h =>
  K .norm (T.set tm 14 v2) ds h))))
noncomputable def r12_24 : CodeT := fun call _ tm ds h0 K =>
  (fun (b0 : Nat) (h : H) =>
  kO (nilChk (tg tm 0)) ds h (fun v1 ds h =>
  kO (fieldPtr 1 v1) ds h (fun v2 ds h =>
  kO (loadOne h v2) ds h (fun v3 ds h =>
  kO (loadAgg 2 h (tg tm 14)) ds h (fun v4 ds h =>
  kO (lookV Try.prog 39 (.int .i64 (0)) false h v3 v4) ds h (fun v5 ds h =>
  K .norm (T.set tm 15 v5) ds h)))))) h0.next ⟨h0.objs, h0.next + 7⟩
noncomputable def r12_25 : CodeT := fun call _ tm ds h K =>
  kO (binV Try.prog .gtr 3 false (tg tm 15) (tg tm 1)) ds h (fun v2 ds h =>
  K .norm (T.set tm 79 v2) ds h)
noncomputable def r12_26 : CodeT := fun call _ tm ds h K =>
  kO (loadAgg 2 h (tg tm 14)) ds h (fun v1 ds h =>
  call 26 [(tg tm 0), v1, (tg tm 15)] h (fun v h => (fun v3 ds h =>
  K .norm tm ds h) v ds h))
noncomputable def r12_27 : CodeT := fun call _ tm ds h K =>
  kO (loadOne h (tg tm 12)) ds h (fun v0 ds h =>
  kO (loadAgg 2 h (tg tm 14)) ds h (fun v1 ds h =>
  kH (withV undef (updM Try.prog 39 h v0 v1 (tg tm 15))) ds (fun v3 ds h =>
  K .norm tm ds h)))
noncomputable def r12_28 : CodeT := fun call _ tm ds h K =>
  kO (loadAgg 2 h (tg tm 14)) ds h (fun v1 ds h =>
  kA (mkLit 1 h.next (fill (repl [(.int .i64 (0)), (.string (strB []))] 1) (pl 2) [(0, v1)])) ds h (fun v2 ds h =>
  kH (appendV 2 24 h (tg tm 11) v2) ds (fun v3 ds h =>
  K .norm (T.set tm 11 v3) ds h)))
noncomputable def r12_29 : CodeT := fun call _ tm ds h0 K =>
  (fun (b0 : Nat) (h : H) =>
  kO (nilChk (tg tm 0)) ds h (fun v1 ds h =>
  kO (fieldPtr 1 v1) ds h (fun v2 ds h =>
  kO (loadOne h v2) ds h (fun v3 ds h =>
  kO (loadAgg 2 h (tg tm 14)) ds h (fun v4 ds h =>
  kH (withV (.tuple #[]) (delM Try.prog 39 h v3 v4)) ds (fun v5 ds h =>
  K .norm tm ds h)))))) h0.next ⟨h0.objs, h0.next + 6⟩
noncomputable def r12_30 : CodeT := fun call _ tm ds h K =>
  kO (binV Try.prog .add 3 true (tg tm 67) (.int .i64 (1))) ds h (fun v0 ds h =>
  K .norm (T.set tm 67 v0) ds h)
noncomputable def l12_33 : Box CodeT := ⟨seqC ⟨r12_22⟩ ⟨seqC ⟨condC ⟨fun _ tm => tg tm 68⟩ skipC (exitC 4)⟩ ⟨seqC ⟨blockC 5 ⟨seqC ⟨r12_23⟩ ⟨seqC ⟨r12_24⟩ ⟨seqC ⟨seqC ⟨r12_25⟩ ⟨condC ⟨fun _ tm => tg tm 79⟩ ⟨seqC ⟨r12_26⟩ (exitC 5)⟩ skipC⟩⟩ ⟨seqC ⟨r12_27⟩ ⟨seqC ⟨r12_28⟩ ⟨r12_29⟩⟩⟩⟩⟩⟩⟩ ⟨r12_30⟩⟩⟩⟩
noncomputable def r12_31 : CodeT := fun call _ tm ds h K =>
  kO (some (.func (.func 28) [].toArray [(tg tm 12)].toArray)) ds h (fun v1 ds h =>
  call 27 [(tg tm 11), v1] h (fun v h => (fun v2 ds h =>
  K .norm tm ds h) v ds h))
noncomputable def r12_32 : CodeT := fun call _ tm ds h K =>
  K .norm (T.set (T.set tm 4 (tg tm 11)) 5 (.int .i64 (0))) ds h
noncomputable def c12 : Box CodeT := ⟨seqC ⟨r12_0⟩ ⟨seqC ⟨seqC ⟨r12_1⟩ ⟨condC ⟨fun _ tm => tg tm 17⟩ ⟨seqC ⟨r12_2⟩ retC⟩ skipC⟩⟩ ⟨seqC ⟨seqC ⟨r12_3⟩ ⟨condC ⟨fun _ tm => tg tm 27⟩ ⟨seqC ⟨r12_4⟩ retC⟩ skipC⟩⟩ ⟨seqC ⟨r12_5⟩ ⟨seqC ⟨r12_6⟩ ⟨seqC ⟨seqC ⟨r12_7⟩ ⟨blockC 0 (loopB l12_19)⟩⟩ ⟨seqC ⟨r12_18⟩ ⟨seqC ⟨r12_19⟩ ⟨seqC ⟨r12_20⟩ ⟨seqC ⟨seqC ⟨r12_21⟩ ⟨blockC 4 (loopB l12_33)⟩⟩ ⟨seqC ⟨r12_31⟩ ⟨seqC ⟨r12_32⟩ retC⟩⟩⟩⟩⟩⟩⟩⟩⟩⟩⟩⟩
noncomputable def q12 : Box (T Value → H → Option (List Value)) := ⟨fun tm h => some [tg tm 4, tg tm 5]⟩
/-! 13 (*cloakroom/wheel.Wheel).Now -/
noncomputable def r13_0 : CodeT := fun call _ tm ds h K =>
  K .norm (T.set (T.set tm 2 (.int .i64 (0))) 3 (.int .i64 (0))) ds h
noncomputable def r13_1 : CodeT := fun call _ tm ds h K =>
  call 22 [(tg tm 0)] h (fun v h => (fun v1 ds h =>
  K .norm (T.set tm 5 v1) ds h) v ds h)
noncomputable def r13_2 : CodeT := fun call _ tm ds h K =>
  K .norm (T.set (T.set tm 2 (.int .i64 (0))) 3 (.int .i64 (1))) ds h
noncomputable def r13_3 : CodeT := fun call _ tm ds h K =>
  kO (nilChk (tg tm 0)) ds h (fun v1 ds h =>
  kO (fieldPtr 0 v1) ds h (fun v2 ds h =>
  kO (loadOne h v2) ds h (fun v3 ds h =>
  K .norm (T.set (T.set tm 2 v3) 3 (.int .i64 (0))) ds h)))
noncomputable def c13 : Box CodeT := ⟨seqC ⟨r13_0⟩ ⟨seqC ⟨seqC ⟨r13_1⟩ ⟨condC ⟨fun _ tm => tg tm 5⟩ ⟨seqC ⟨r13_2⟩ retC⟩ skipC⟩⟩ ⟨seqC ⟨r13_3⟩ retC⟩⟩⟩
noncomputable def q13 : Box (T Value → H → Option (List Value)) := ⟨fun tm h => some [tg tm 2, tg tm 3]⟩
/-! 14 (*cloakroom/wheel.Wheel).Len -/
noncomputable def r14_0 : CodeT := fun call _ tm ds h K =>
  K .norm (T.set (T.set tm 2 (.int .i64 (0))) 3 (.int .i64 (0))) ds h
noncomputable def r14_1 : CodeT := fun call _ tm ds h K =>
  call 22 [(tg tm 0)] h (fun v h => (fun v1 ds h =>
  K .norm (T.set tm 5 v1) ds h) v ds h)
noncomputable def r14_2 : CodeT := fun call _ tm ds h K =>
  K .norm (T.set (T.set tm 2 (.int .i64 (0))) 3 (.int .i64 (1))) ds h
noncomputable def r14_3 : CodeT := fun call _ tm ds h K =>
  kO (nilChk (tg tm 0)) ds h (fun v1 ds h =>
  kO (fieldPtr 1 v1) ds h (fun v2 ds h =>
  kO (loadOne h v2) ds h (fun v3 ds h =>
  kO (lenMap h v3) ds h (fun v4 ds h =>
  K .norm (T.set (T.set tm 2 v4) 3 (.int .i64 (0))) ds h))))
noncomputable def c14 : Box CodeT := ⟨seqC ⟨r14_0⟩ ⟨seqC ⟨seqC ⟨r14_1⟩ ⟨condC ⟨fun _ tm => tg tm 5⟩ ⟨seqC ⟨r14_2⟩ retC⟩ skipC⟩⟩ ⟨seqC ⟨r14_3⟩ retC⟩⟩⟩
noncomputable def q14 : Box (T Value → H → Option (List Value)) := ⟨fun tm h => some [tg tm 2, tg tm 3]⟩
/-! 15 cloakroom/cloakroomref01.SameNames -/
noncomputable def r15_0 : CodeT := fun call _ tm ds h K =>
  K .norm (T.set tm 4 (.bool false)) ds h
noncomputable def r15_1 : CodeT := fun call _ tm ds h K =>
  kO (lenSl (tg tm 0)) ds h (fun v1 ds h =>
  kO (lenSl (tg tm 1)) ds h (fun v3 ds h =>
  kO (binV Try.prog .neq 3 false v1 v3) ds h (fun v4 ds h =>
  K .norm (T.set tm 10 v4) ds h)))
noncomputable def r15_2 : CodeT := fun call _ tm ds h K =>
  K .norm (T.set tm 4 (.bool false)) ds h
noncomputable def r15_3 : CodeT := fun call _ tm ds h K =>
  K .norm (T.set tm 5 (.int .i64 (0))) ds h
noncomputable def r15_4 : CodeT := fun call _ tm ds h K =>
  kO (lenSl (tg tm 0)) ds h (fun v2 ds h =>
  kO (binV Try.prog .lss 3 false (tg tm 5) v2) ds h (fun v3 ds h =>
  K .norm (T.set tm 14 v3) ds h))
noncomputable def r15_6 : CodeT := fun call _ tm ds h0 K =>
  (fun (b0 : Nat) (h : H) =>
  kO (indexSl 2 (tg tm 0) (tg tm 5)) ds h (fun v2 ds h =>
  kO (loadAgg 2 h v2) ds h (fun v3 ds h =>
  kO (indexSl 2 (tg tm 1) (tg tm 5)) ds h (fun v6 ds h =>
  kO (loadAgg 2 h v6) ds h (fun v7 ds h =>
  kO (binV Try.prog .neq 39 false v3 v7) ds h (fun v8 ds h =>
  K .norm (T.set tm 25 v8) ds h)))))) h0.next ⟨h0.objs, h0.next + 9⟩
noncomputable def r15_7 : CodeT := fun call _ tm ds h K =>
  K .norm (T.set tm 4 (.bool false)) ds h
noncomputable def r15_5 : CodeT := fun call _ tm ds h K =>
  kO (binV Try.prog .add 3 true (tg tm 5) (.int .i64 (1))) ds h (fun v1 ds h =>
  K .norm (T.set tm 5 v1) ds h)
noncomputable def l15_8 : Box CodeT := ⟨seqC ⟨seqC ⟨r15_4⟩ ⟨condC ⟨fun _ tm => tg tm 14⟩ skipC (exitC 0)⟩⟩ ⟨seqC ⟨blockC 1 ⟨seqC ⟨r15_6⟩ ⟨condC ⟨fun _ tm => tg tm 25⟩ ⟨seqC ⟨r15_7⟩ retC⟩ skipC⟩⟩⟩ ⟨r15_5⟩⟩⟩
noncomputable def r15_8 : CodeT := fun call _ tm ds h K =>
  K .norm (T.set tm 4 (.bool true)) ds h
noncomputable def c15 : Box CodeT := ⟨seqC ⟨r15_0⟩ ⟨seqC ⟨seqC ⟨r15_1⟩ ⟨condC ⟨fun _ tm => tg tm 10⟩ ⟨seqC ⟨r15_2⟩ retC⟩ skipC⟩⟩ ⟨seqC ⟨seqC ⟨r15_3⟩ ⟨blockC 0 (loopB l15_8)⟩⟩ ⟨seqC ⟨r15_8⟩ retC⟩⟩⟩⟩
noncomputable def q15 : Box (T Value → H → Option (List Value)) := ⟨fun tm h => some [tg tm 4]⟩
/-! 16 (*cloakroom/wheel.Wheel).Until -/
noncomputable def r16_0 : CodeT := fun call _ tm ds h K =>
  kA (some (.rw (Value.cells (tg tm 1)).toList, ptrTo h.next)) ds h (fun v0 ds h =>
  K .norm (T.set (T.set (T.set tm 3 v0) 4 (.int .i64 (0))) 5 (.int .i64 (0))) ds h)
noncomputable def r16_1 : CodeT := fun call _ tm ds h K =>
  kO (loadAgg 2 h (tg tm 3)) ds h (fun v1 ds h =>
  call 32 [(tg tm 0), v1] h (fun v h => (fun v2 ds h =>
  K .norm (T.set tm 6 v2) ds h) v ds h))
noncomputable def r16_2 : CodeT := fun call _ tm ds h K =>
  kO (binV Try.prog .neq 26 true (tg tm 6) (.int .i64 (0))) ds h (fun v1 ds h =>
  K .norm (T.set tm 13 v1) ds h)
noncomputable def r16_3 : CodeT := fun call _ tm ds h K =>
  K .norm (T.set (T.set tm 4 (.int .i64 (0))) 5 (tg tm 6)) ds h
noncomputable def r16_4 : CodeT := fun call _ tm ds h0 K =>
  (fun (b0 : Nat) (h : H) =>
  kO (nilChk (tg tm 0)) ds h (fun v1 ds h =>
  kO (fieldPtr 1 v1) ds h (fun v2 ds h =>
  kO (loadOne h v2) ds h (fun v3 ds h =>
  kO (loadAgg 2 h (tg tm 3)) ds h (fun v4 ds h =>
  kO (lookV Try.prog 39 (.int .i64 (0)) true h v3 v4) ds h (fun v5 ds h =>
  kO (tupNth 0 v5) ds h (fun v7 ds h =>
  kO (tupNth 1 v5) ds h (fun v8 ds h =>
  K .norm (T.set (T.set tm 7 v7) 8 v8) ds h)))))))) h0.next ⟨h0.objs, h0.next + 11⟩
noncomputable def r16_5 : CodeT := fun call _ tm ds h K =>
  kO (unV .not (tg tm 8)) ds h (fun v1 ds h =>
  K .norm (T.set tm 25 v1) ds h)
noncomputable def r16_6 : CodeT := fun call _ tm ds h K =>
  K .norm (T.set (T.set tm 4 (.int .i64 (0))) 5 (.int .i64 (6))) ds h
noncomputable def r16_7 : CodeT := fun call _ tm ds h K =>
  K .norm (T.set (T.set tm 4 (tg tm 7)) 5 (.int .i64 (0))) ds h
noncomputable def c16 : Box CodeT := ⟨seqC ⟨r16_0⟩ ⟨seqC ⟨seqC ⟨r16_1⟩ ⟨seqC ⟨r16_2⟩ ⟨condC ⟨fun _ tm => tg tm 13⟩ ⟨seqC ⟨r16_3⟩ retC⟩ skipC⟩⟩⟩ ⟨seqC ⟨r16_4⟩ ⟨seqC ⟨seqC ⟨r16_5⟩ ⟨condC ⟨fun _ tm => tg tm 25⟩ ⟨seqC ⟨r16_6⟩ retC⟩ skipC⟩⟩ ⟨seqC ⟨r16_7⟩ retC⟩⟩⟩⟩⟩
noncomputable def q16 : Box (T Value → H → Option (List Value)) := ⟨fun tm h => some [tg tm 4, tg tm 5]⟩
/-! 17 cloakroom/cloakroomref01.Less -/
noncomputable def r17_0 : CodeT := fun call _ tm ds h K =>
  kA (some (.rw (Value.cells (tg tm 0)).toList, ptrTo h.next)) ds h (fun v0 ds h =>
  kA (some (.rw (Value.cells (tg (T.set tm 2 v0) 1)).toList, ptrTo h.next)) ds h (fun v1 ds h =>
  K .norm (T.set (T.set (T.set tm 2 v0) 3 v1) 4 (.bool false)) ds h))
noncomputable def r17_1 : CodeT := fun call _ tm ds h K => (⟨opStep ⟨fun call env tm ds h K => kO (fieldPtr 0 (tg tm 2)) ds h K⟩ ⟨fun v tm => tm⟩ ⟨fun env tm => true⟩
  ⟨opStep ⟨fun call env tm ds h K => kO (loadOne h (nthD 0 env)) ds h K⟩ ⟨fun v tm => tm⟩ ⟨fun env tm => true⟩
  ⟨opStep ⟨fun call env tm ds h K => kO (fieldPtr 0 (tg tm 3)) ds h K⟩ ⟨fun v tm => tm⟩ ⟨fun env tm => true⟩
  ⟨opStep ⟨fun call env tm ds h K => kO (loadOne h (nthD 0 env)) ds h K⟩ ⟨fun v tm => tm⟩ ⟨fun env tm => true⟩
  ⟨opStep ⟨fun call env tm ds h K => kO (binV Try.prog .lss 3 false (nthD 2 env) (nthD 0 env)) ds h K⟩ ⟨fun v tm => tm⟩ ⟨fun env tm => true⟩
  ⟨opStep ⟨fun call env tm ds h K => kO (some (nthD 0 env)) ds h K⟩ ⟨fun v tm => tm⟩ ⟨fun env tm => true⟩
  ⟨opStep ⟨fun call env tm ds h K => kO (fieldPtr 0 (tg tm 2)) ds h K⟩ ⟨fun v tm => tm⟩ ⟨fun env tm => isB false (nthD 0 env)⟩
  ⟨opStep ⟨fun call env tm ds h K => kO (loadOne h (nthD 0 env)) ds h K⟩ ⟨fun v tm => tm⟩ ⟨fun env tm => isB false (nthD 1 env)⟩
  ⟨opStep ⟨fun call env tm ds h K => kO (fieldPtr 0 (tg tm 3)) ds h K⟩ ⟨fun v tm => tm⟩ ⟨fun env tm => isB false (nthD 2 env)⟩
  ⟨opStep ⟨fun call env tm ds h K => kO (loadOne h (nthD 0 env)) ds h K⟩ ⟨fun v tm => tm⟩ ⟨fun env tm => isB false (nthD 3 env)⟩
  ⟨opStep ⟨fun call env tm ds h K => kO (binV Try.prog .eql 3 false (nthD 2 env) (nthD 0 env)) ds h K⟩ ⟨fun v tm => tm⟩ ⟨fun env tm => isB false (nthD 4 env)⟩
  ⟨opStep ⟨fun call env tm ds h K => kO (some (nthD 0 env)) ds h K⟩ ⟨fun v tm => tm⟩ ⟨fun env tm => isB false (nthD 5 env)⟩
  ⟨opStep ⟨fun call env tm ds h K => kO (fieldPtr 1 (tg tm 2)) ds h K⟩ ⟨fun v tm => tm⟩ ⟨fun env tm => isB true (nthD 0 env)⟩
  ⟨opStep ⟨fun call env tm ds h K => kO (loadOne h (nthD 0 env)) ds h K⟩ ⟨fun v tm => tm⟩ ⟨fun env tm => isB true (nthD 1 env)⟩
  ⟨opStep ⟨fun call env tm ds h K => kO (fieldPtr 1 (tg tm 3)) ds h K⟩ ⟨fun v tm => tm⟩ ⟨fun env tm => isB true (nthD 2 env)⟩
  ⟨opStep ⟨fun call env tm ds h K => kO (loadOne h (nthD 0 env)) ds h K⟩ ⟨fun v tm => tm⟩ ⟨fun env tm => isB true (nthD 3 env)⟩
  ⟨opStep ⟨fun call env tm ds h K => kO (binV Try.prog .lss 9 false (nthD 2 env) (nthD 0 env)) ds h K⟩ ⟨fun v tm => tm⟩ ⟨fun env tm => isB true (nthD 4 env)⟩
  ⟨opStep ⟨fun call env tm ds h K => kO (pickV (nthD 5 env) (nthD 0 env) (.bool false)) ds h K⟩ ⟨fun v tm => tm⟩ ⟨fun env tm => isB false (nthD 11 env)⟩
  ⟨opStep ⟨fun call env tm ds h K => kO (pickV (nthD 12 env) (.bool true) (nthD 0 env)) ds h K⟩ ⟨fun v tm => tm⟩ ⟨fun env tm => true⟩
  ⟨opStep ⟨fun call env tm ds h K => kO (some (nthD 0 env)) ds h K⟩ ⟨fun v tm => (T.set tm 4 v)⟩ ⟨fun env tm => true⟩
  ⟨fun _ _ tm ds h K => K .norm tm ds h⟩⟩⟩⟩⟩⟩⟩⟩⟩⟩⟩⟩⟩⟩⟩⟩⟩⟩⟩⟩⟩ : Box OpsT).f call [] tm ds h K
noncomputable def c17 : Box CodeT := ⟨seqC ⟨r17_0⟩ ⟨seqC ⟨r17_1⟩ retC⟩⟩
noncomputable def q17 : Box (T Value → H → Option (List Value)) := ⟨fun tm h => some [tg tm 4]⟩
/-! 18 (*cloakroom/wheel.Wheel).Add -/
noncomputable def r18_0 : CodeT := fun call _ tm ds h K =>
  kA (some (.rw (Value.cells (tg tm 1)).toList, ptrTo h.next)) ds h (fun v0 ds h =>
  K .norm (T.set (T.set tm 4 v0) 6 (.int .i64 (0))) ds h)
noncomputable def r18_1 : CodeT := fun call _ tm ds h K =>
  kO (loadAgg 2 h (tg tm 4)) ds h (fun v1 ds h =>
  call 32 [(tg tm 0), v1] h (fun v h => (fun v2 ds h =>
  K .norm (T.set tm 7 v2) ds h) v ds h))
noncomputable def r18_2 : CodeT := fun call _ tm ds h K =>
  kO (binV Try.prog .neq 26 true (tg tm 7) (.int .i64 (0))) ds h (fun v1 ds h =>
  K .norm (T.set tm 12 v1) ds h)
noncomputable def r18_3 : CodeT := fun call _ tm ds h K =>
  K .norm (T.set tm 6 (tg tm 7)) ds h
noncomputable def r18_4 : CodeT := fun call _ tm ds h K =>
  kO (nilChk (tg tm 0)) ds h (fun v2 ds h =>
  kO (fieldPtr 0 v2) ds h (fun v3 ds h =>
  kO (loadOne h v3) ds h (fun v4 ds h =>
  kO (binV Try.prog .leq 3 false (tg tm 2) v4) ds h (fun v5 ds h =>
  gd (isB false v5) (fun k => kO (some (tg tm 2)) ds h (k)) ds h (fun v7 ds h =>
  gd (isB false v5) (fun k => kO (binV Try.prog .gtr 3 true v7 (.int .i64 (1099511627776))) ds h (k)) ds h (fun v8 ds h =>
  kO (pickV v5 (.bool true) v8) ds h (fun v9 ds h =>
  K .norm (T.set tm 23 v9) ds h)))))))
noncomputable def r18_5 : CodeT := fun call _ tm ds h K =>
  K .norm (T.set tm 6 (.int .i64 (2))) ds h
noncomputable def r18_6 : CodeT := fun call _ tm ds h K =>
  kO (loadAgg 2 h (tg tm 4)) ds h (fun v1 ds h =>
  call 33 [(tg tm 0), v1] h (fun v h => (fun v2 ds h =>
  K .norm tm ds h) v ds h))
noncomputable def r18_7 : CodeT := fun call _ tm ds h0 K =>
  (fun (b0 : Nat) (h : H) =>
  kO (nilChk (tg tm 0)) ds h (fun v1 ds h =>
  kO (fieldPtr 1 v1) ds h (fun v2 ds h =>
  kO (loadOne h v2) ds h (fun v3 ds h =>
  kO (loadAgg 2 h (tg tm 4)) ds h (fun v4 ds h =>
  kH (withV undef (updM Try.prog 39 h v3 v4 (tg tm 2))) ds (fun v6 ds h =>
  K .norm tm ds h)))))) h0.next ⟨h0.objs, h0.next + 7⟩
noncomputable def r18_8 : CodeT := fun call _ tm ds h K =>
  kO (loadAgg 2 h (tg tm 4)) ds h (fun v1 ds h =>
  call 26 [(tg tm 0), v1, (tg tm 2)] h (fun v h => (fun v3 ds h =>
  K .norm tm ds h) v ds h))
noncomputable def r18_9 : CodeT := fun call _ tm ds h K =>
  K .norm (T.set tm 6 (.int .i64 (0))) ds h
noncomputable def c18 : Box CodeT := ⟨seqC ⟨r18_0⟩ ⟨seqC ⟨seqC ⟨r18_1⟩ ⟨seqC ⟨r18_2⟩ ⟨condC ⟨fun _ tm => tg tm 12⟩ ⟨seqC ⟨r18_3⟩ retC⟩ skipC⟩⟩⟩ ⟨seqC ⟨seqC ⟨r18_4⟩ ⟨condC ⟨fun _ tm => tg tm 23⟩ ⟨seqC ⟨r18_5⟩ retC⟩ skipC⟩⟩ ⟨seqC ⟨r18_6⟩ ⟨seqC ⟨r18_7⟩ ⟨seqC ⟨r18_8⟩ ⟨seqC ⟨r18_9⟩ retC⟩⟩⟩⟩⟩⟩⟩
noncomputable def q18 : Box (T Value → H → Option (List Value)) := ⟨fun tm h => some [tg tm 6]⟩
/-! 19 (*cloakroom/wheel.Wheel).Del -/
noncomputable def r19_0 : CodeT := fun call _ tm ds h K =>
  kA (some (.rw (Value.cells (tg tm 1)).toList, ptrTo h.next)) ds h (fun v0 ds h =>
  K .norm (T.set (T.set tm 3 v0) 4 (.int .i64 (0))) ds h)
noncomputable def r19_1 : CodeT := fun call _ tm ds h K =>
  kO (loadAgg 2 h (tg tm 3)) ds h (fun v1 ds h =>
  call 32 [(tg tm 0), v1] h (fun v h => (fun v2 ds h =>
  K .norm (T.set tm 5 v2) ds h) v ds h))
noncomputable def r19_2 : CodeT := fun call _ tm ds h K =>
  kO (binV Try.prog .neq 26 true (tg tm 5) (.int .i64 (0))) ds h (fun v1 ds h =>
  K .norm (T.set tm 10 v1) ds h)
noncomputable def r19_3 : CodeT := fun call _ tm ds h K =>
  K .norm (T.set tm 4 (tg tm 5)) ds h
noncomputable def r19_4 : CodeT := fun call _ tm ds h K =>
  kO (loadAgg 2 h (tg tm 3)) ds h (fun v1 ds h =>
  call 33 [(tg tm 0), v1] h (fun v h => (fun v2 ds h =>
  kO (unV .not v2) ds h (fun v3 ds h =>
  K .norm (T.set tm 15 v3) ds h)) v ds h))
noncomputable def r19_5 : CodeT := fun call _ tm ds h K =>
  K .norm (T.set tm 4 (.int .i64 (6))) ds h
noncomputable def r19_6 : CodeT := fun call _ tm ds h K =>
  K .norm (T.set tm 4 (.int .i64 (0))) ds h
noncomputable def c19 : Box CodeT := ⟨seqC ⟨r19_0⟩ ⟨seqC ⟨seqC ⟨r19_1⟩ ⟨seqC ⟨r19_2⟩ ⟨condC ⟨fun _ tm => tg tm 10⟩ ⟨seqC ⟨r19_3⟩ retC⟩ skipC⟩⟩⟩ ⟨seqC ⟨seqC ⟨r19_4⟩ ⟨condC ⟨fun _ tm => tg tm 15⟩ ⟨seqC ⟨r19_5⟩ retC⟩ skipC⟩⟩ ⟨seqC ⟨r19_6⟩ retC⟩⟩⟩⟩
noncomputable def q19 : Box (T Value → H → Option (List Value)) := ⟨fun tm h => some [tg tm 4]⟩
/-! 20 cloakroom/cloakroomref04.New -/
noncomputable def r20_0 : CodeT := fun call _ tm ds h K =>
  kA (some (.rw [(.int .i64 (0)), (.slice none 0 0)], ptrTo h.next)) ds h (fun v0 ds h =>
  K .norm (T.set (T.set tm 2 v0) 3 (.int .i64 (0))) ds h)
noncomputable def r20_1 : CodeT := fun call _ tm ds h K =>
  kO (binV Try.prog .lss 3 true (tg tm 0) (.int .i64 (0))) ds h (fun v1 ds h =>
  gd (isB false v1) (fun k => kO (some (tg tm 0)) ds h (k)) ds h (fun v3 ds h =>
  gd (isB false v1) (fun k => kO (binV Try.prog .gtr 3 true v3 (.int .i64 (1099511627776))) ds h (k)) ds h (fun v4 ds h =>
  kO (pickV v1 (.bool true) v4) ds h (fun v5 ds h =>
  K .norm (T.set tm 9 v5) ds h))))
noncomputable def r20_2 : CodeT := fun call _ tm ds h K =>
  kO (aggO (fill [(.int .i64 (0)), (.slice none 0 0)] (plc [(0, 1), (1, 1)]) [])) ds h (fun v0 ds h =>
  kH (withV undef (storeV 2 h (tg tm 2) v0)) ds (fun v1 ds h =>
  K .norm (T.set tm 3 (.int .i64 (2))) ds h))
noncomputable def r20_3 : CodeT := fun call _ tm ds h K =>
  kO (aggO (fill [(.int .i64 (0)), (.slice none 0 0)] (plc [(0, 1), (1, 1)]) [(0, (tg tm 0))])) ds h (fun v1 ds h =>
  kH (withV undef (storeV 2 h (tg tm 2) v1)) ds (fun v2 ds h =>
  K .norm (T.set tm 3 (.int .i64 (0))) ds h))
noncomputable def c20 : Box CodeT := ⟨seqC ⟨r20_0⟩ ⟨seqC ⟨seqC ⟨r20_1⟩ ⟨condC ⟨fun _ tm => tg tm 9⟩ ⟨seqC ⟨r20_2⟩ retC⟩ skipC⟩⟩ ⟨seqC ⟨r20_3⟩ retC⟩⟩⟩
noncomputable def q20 : Box (T Value → H → Option (List Value)) := ⟨fun tm h => (match loadAgg 2 h (tg tm 2) with | some v => (match (some [tg tm 3] : Option (List Value)) with | some l => some (v :: l) | none => none) | none => none)⟩
/-! 21 cloakroom/cloakroomlaw04.one -/
noncomputable def r21_0 : CodeT := fun call _ tm ds h K =>
  kA (some (.rw (Value.cells (tg tm 1)).toList, ptrTo h.next)) ds h (fun v0 ds h =>
  kA (some (.rw (Value.cells (tg (T.set tm 4 v0) 2)).toList, ptrTo h.next)) ds h (fun v1 ds h =>
  kA (some (.rw [(.int .i64 (0)), (.slice none 0 0)], ptrTo h.next)) ds h (fun v2 ds h =>
  K .norm (T.set (T.set (T.set (T.set tm 4 v0) 5 v1) 6 v2) 7 (.bool false)) ds h)))
noncomputable def r21_1 : CodeT := fun call _ tm ds h K =>
  kO (fieldPtr 0 (tg tm 5)) ds h (fun v0 ds h =>
  kO (loadOne h v0) ds h (fun v1 ds h =>
  kO (binV Try.prog .rem 5 true v1 (.int .u8 (5))) ds h (fun v2 ds h =>
  K .norm (T.set tm 27 v2) ds h)))
noncomputable def r21_2 : CodeT := fun call _ tm ds h K =>
  kO (binV Try.prog .eql 5 true (tg tm 27) (.int .u8 (2))) ds h (fun v0 ds h =>
  K .norm (T.set tm 28 v0) ds h)
noncomputable def r21_3 : CodeT := fun call _ tm ds h K =>
  kO (fieldPtr 1 (tg tm 5)) ds h (fun v1 ds h =>
  kO (loadAgg 2 h v1) ds h (fun v2 ds h =>
  call 19 [(tg tm 0), v2] h (fun v h => (fun v3 ds h =>
  K .norm (T.set tm 8 v3) ds h) v ds h)))
noncomputable def r21_4 : CodeT := fun call _ tm ds h K =>
  kO (loadAgg 2 h (tg tm 4)) ds h (fun v0 ds h =>
  kO (fieldPtr 1 (tg tm 5)) ds h (fun v1 ds h =>
  kO (loadAgg 2 h v1) ds h (fun v2 ds h =>
  call 34 [v0, v2] h (fun v h => (fun v3 ds h =>
  kO (tupNth 0 v3) ds h (fun v5 ds h =>
  kO (tupNth 1 v3) ds h (fun v6 ds h =>
  kA (some (.rw [(.int .i64 (0)), (.slice none 0 0)], ptrTo h.next)) ds h (fun v7 ds h =>
  kH (withV undef (storeV 2 h v7 v5)) ds (fun v8 ds h =>
  K .norm (T.set (T.set tm 9 v7) 10 v6) ds h))))) v ds h))))
noncomputable def r21_5 : CodeT := fun call _ tm ds h K =>
  kO (loadAgg 2 h (tg tm 9)) ds h (fun v0 ds h =>
  kO (binV Try.prog .eql 3 false (tg tm 8) (tg tm 10)) ds h (fun v3 ds h =>
  kH (withV undef (storeV 2 h (tg tm 6) v0)) ds (fun v4 ds h =>
  K .norm (T.set tm 7 v3) ds h)))
noncomputable def r21_6 : CodeT := fun call _ tm ds h K =>
  kO (binV Try.prog .eql 5 true (tg tm 27) (.int .u8 (3))) ds h (fun v0 ds h =>
  K .norm (T.set tm 45 v0) ds h)
noncomputable def r21_7 : CodeT := fun call _ tm ds h K =>
  kO (fieldPtr 1 (tg tm 5)) ds h (fun v1 ds h =>
  kO (loadAgg 2 h v1) ds h (fun v2 ds h =>
  call 16 [(tg tm 0), v2] h (fun v h => (fun v3 ds h =>
  kO (tupNth 0 v3) ds h (fun v5 ds h =>
  kO (tupNth 1 v3) ds h (fun v6 ds h =>
  K .norm (T.set (T.set tm 11 v5) 12 v6) ds h))) v ds h)))
noncomputable def r21_8 : CodeT := fun call _ tm ds h K =>
  kO (loadAgg 2 h (tg tm 4)) ds h (fun v0 ds h =>
  kO (fieldPtr 1 (tg tm 5)) ds h (fun v1 ds h =>
  kO (loadAgg 2 h v1) ds h (fun v2 ds h =>
  call 35 [v0, v2] h (fun v h => (fun v3 ds h =>
  kO (tupNth 0 v3) ds h (fun v5 ds h =>
  kO (tupNth 1 v3) ds h (fun v6 ds h =>
  K .norm (T.set (T.set tm 13 v5) 14 v6) ds h))) v ds h))))
noncomputable def r21_9 : CodeT := fun call _ tm ds h K => (⟨opStep ⟨fun call env tm ds h K => kO (loadAgg 2 h (tg tm 4)) ds h K⟩ ⟨fun v tm => tm⟩ ⟨fun env tm => true⟩
  ⟨opStep ⟨fun call env tm ds h K => kO (some (tg tm 11)) ds h K⟩ ⟨fun v tm => tm⟩ ⟨fun env tm => true⟩
  ⟨opStep ⟨fun call env tm ds h K => kO (some (tg tm 13)) ds h K⟩ ⟨fun v tm => tm⟩ ⟨fun env tm => true⟩
  ⟨opStep ⟨fun call env tm ds h K => kO (binV Try.prog .eql 3 false (nthD 1 env) (nthD 0 env)) ds h K⟩ ⟨fun v tm => tm⟩ ⟨fun env tm => true⟩
  ⟨opStep ⟨fun call env tm ds h K => kO (some (nthD 0 env)) ds h K⟩ ⟨fun v tm => tm⟩ ⟨fun env tm => true⟩
  ⟨opStep ⟨fun call env tm ds h K => kO (some (tg tm 12)) ds h K⟩ ⟨fun v tm => tm⟩ ⟨fun env tm => isB true (nthD 0 env)⟩
  ⟨opStep ⟨fun call env tm ds h K => kO (some (tg tm 14)) ds h K⟩ ⟨fun v tm => tm⟩ ⟨fun env tm => isB true (nthD 1 env)⟩
  ⟨opStep ⟨fun call env tm ds h K => kO (binV Try.prog .eql 3 false (nthD 1 env) (nthD 0 env)) ds h K⟩ ⟨fun v tm => tm⟩ ⟨fun env tm => isB true (nthD 2 env)⟩
  ⟨opStep ⟨fun call env tm ds h K => kO (pickV (nthD 3 env) (nthD 0 env) (.bool false)) ds h K⟩ ⟨fun v tm => tm⟩ ⟨fun env tm => true⟩
  ⟨opStep ⟨fun call env tm ds h K => kH (withV undef (storeV 2 h (tg tm 6) (nthD 8 env))) ds (K)⟩ ⟨fun v tm => tm⟩ ⟨fun env tm => true⟩
  ⟨opStep ⟨fun call env tm ds h K => kO (some (nthD 1 env)) ds h K⟩ ⟨fun v tm => (T.set tm 7 v)⟩ ⟨fun env tm => true⟩
  ⟨fun _ _ tm ds h K => K .norm tm ds h⟩⟩⟩⟩⟩⟩⟩⟩⟩⟩⟩⟩ : Box OpsT).f call [] tm ds h K
noncomputable def r21_10 : CodeT := fun call _ tm ds h K =>
  kO (binV Try.prog .eql 5 true (tg tm 27) (.int .u8 (4))) ds h (fun v0 ds h =>
  K .norm (T.set tm 70 v0) ds h)
noncomputable def r21_11 : CodeT := fun call _ tm ds h K =>
  kO (fieldPtr 3 (tg tm 5)) ds h (fun v1 ds h =>
  kO (loadOne h v1) ds h (fun v2 ds h =>
  call 12 [(tg tm 0), v2] h (fun v h => (fun v3 ds h =>
  kO (tupNth 0 v3) ds h (fun v5 ds h =>
  kO (tupNth 1 v3) ds h (fun v6 ds h =>
  K .norm (T.set (T.set tm 15 v5) 16 v6) ds h))) v ds h)))
noncomputable def r21_12 : CodeT := fun call _ tm ds h K =>
  kO (loadAgg 2 h (tg tm 4)) ds h (fun v0 ds h =>
  kO (fieldPtr 3 (tg tm 5)) ds h (fun v1 ds h =>
  kO (loadOne h v1) ds h (fun v2 ds h =>
  call 36 [v0, v2] h (fun v h => (fun v3 ds h =>
  kO (tupNth 0 v3) ds h (fun v5 ds h =>
  kO (tupNth 1 v3) ds h (fun v6 ds h =>
  kO (tupNth 2 v3) ds h (fun v7 ds h =>
  kA (some (.rw [(.int .i64 (0)), (.slice none 0 0)], ptrTo h.next)) ds h (fun v8 ds h =>
  kH (withV undef (storeV 2 h v8 v5)) ds (fun v9 ds h =>
  K .norm (T.set (T.set (T.set tm 17 v8) 18 v6) 19 v7) ds h)))))) v ds h))))
noncomputable def r21_13 : CodeT := fun call _ tm ds h K => (⟨opStep ⟨fun call env tm ds h K => kO (some (tg tm 15)) ds h K⟩ ⟨fun v tm => tm⟩ ⟨fun env tm => true⟩
  ⟨opStep ⟨fun call env tm ds h K => kO (some (tg tm 18)) ds h K⟩ ⟨fun v tm => tm⟩ ⟨fun env tm => true⟩
  ⟨opStep ⟨fun call env tm ds h K => call 15 [(nthD 1 env), (nthD 0 env)] h (fun v h => (K) v ds h)⟩ ⟨fun v tm => tm⟩ ⟨fun env tm => true⟩
  ⟨opStep ⟨fun call env tm ds h K => kO (some (nthD 0 env)) ds h K⟩ ⟨fun v tm => tm⟩ ⟨fun env tm => true⟩
  ⟨opStep ⟨fun call env tm ds h K => kO (some (tg tm 16)) ds h K⟩ ⟨fun v tm => tm⟩ ⟨fun env tm => isB true (nthD 0 env)⟩
  ⟨opStep ⟨fun call env tm ds h K => kO (some (tg tm 19)) ds h K⟩ ⟨fun v tm => tm⟩ ⟨fun env tm => isB true (nthD 1 env)⟩
  ⟨opStep ⟨fun call env tm ds h K => kO (binV Try.prog .eql 3 false (nthD 1 env) (nthD 0 env)) ds h K⟩ ⟨fun v tm => tm⟩ ⟨fun env tm => isB true (nthD 2 env)⟩
  ⟨opStep ⟨fun call env tm ds h K => kO (pickV (nthD 3 env) (nthD 0 env) (.bool false)) ds h K⟩ ⟨fun v tm => tm⟩ ⟨fun env tm => true⟩
  ⟨opStep ⟨fun call env tm ds h K => kO (some (nthD 0 env)) ds h K⟩ ⟨fun v tm => (T.set tm 20 v)⟩ ⟨fun env tm => true⟩
  ⟨fun _ _ tm ds h K => K .norm tm ds h⟩⟩⟩⟩⟩⟩⟩⟩⟩⟩ : Box OpsT).f call [] tm ds h K
noncomputable def r21_14 : CodeT := fun call _ tm ds h K =>
  K .norm (T.set tm 21 (.int .i64 (0))) ds h
noncomputable def r21_15 : CodeT := fun call _ tm ds h K =>
  kO (lenSl (tg tm 15)) ds h (fun v2 ds h =>
  kO (binV Try.prog .lss 3 false (tg tm 21) v2) ds h (fun v3 ds h =>
  K .norm (T.set tm 98 v3) ds h))
noncomputable def r21_17 : CodeT := fun call _ tm ds h K =>
  kO (aggO (fill [(.int .i64 (0)), (.string (strB []))] (plc [(0, 1), (1, 1)]) [(0, (.int .i64 (7)))])) ds h (fun v2 ds h =>
  kO (indexSl 2 (tg tm 15) (tg tm 21)) ds h (fun v3 ds h =>
  kH (withV undef (storeV 2 h v3 v2)) ds (fun v4 ds h =>
  K .norm tm ds h)))
noncomputable def r21_16 : CodeT := fun call _ tm ds h K =>
  kO (binV Try.prog .add 3 true (tg tm 21) (.int .i64 (1))) ds h (fun v1 ds h =>
  K .norm (T.set tm 21 v1) ds h)
noncomputable def l21_18 : Box CodeT := ⟨seqC ⟨seqC ⟨r21_15⟩ ⟨condC ⟨fun _ tm => tg tm 98⟩ skipC (exitC 1)⟩⟩ ⟨seqC ⟨blockC 2 ⟨r21_17⟩⟩ ⟨r21_16⟩⟩⟩
noncomputable def r21_18 : CodeT := fun call _ tm ds h K =>
  kO (loadAgg 2 h (tg tm 17)) ds h (fun v0 ds h =>
  kH (withV undef (storeV 2 h (tg tm 6) v0)) ds (fun v2 ds h =>
  K .norm (T.set tm 7 (tg tm 20)) ds h))
noncomputable def r21_19 : CodeT := fun call _ tm ds h K =>
  kO (fieldPtr 1 (tg tm 5)) ds h (fun v1 ds h =>
  kO (loadAgg 2 h v1) ds h (fun v2 ds h =>
  kO (fieldPtr 3 (tg tm 5)) ds h (fun v3 ds h =>
  kO (loadOne h v3) ds h (fun v4 ds h =>
  call 18 [(tg tm 0), v2, v4] h (fun v h => (fun v5 ds h =>
  K .norm (T.set tm 22 v5) ds h) v ds h)))))
noncomputable def r21_20 : CodeT := fun call _ tm ds h K =>
  kO (loadAgg 2 h (tg tm 4)) ds h (fun v0 ds h =>
  kO (fieldPtr 1 (tg tm 5)) ds h (fun v1 ds h =>
  kO (loadAgg 2 h v1) ds h (fun v2 ds h =>
  kO (fieldPtr 3 (tg tm 5)) ds h (fun v3 ds h =>
  kO (loadOne h v3) ds h (fun v4 ds h =>
  call 37 [v0, v2, v4] h (fun v h => (fun v5 ds h =>
  kO (tupNth 0 v5) ds h (fun v7 ds h =>
  kO (tupNth 1 v5) ds h (fun v8 ds h =>
  kA (some (.rw [(.int .i64 (0)), (.slice none 0 0)], ptrTo h.next)) ds h (fun v9 ds h =>
  kH (withV undef (storeV 2 h v9 v7)) ds (fun v10 ds h =>
  K .norm (T.set (T.set tm 23 v9) 24 v8) ds h))))) v ds h))))))
noncomputable def r21_21 : CodeT := fun call _ tm ds h K =>
  kO (loadAgg 2 h (tg tm 23)) ds h (fun v0 ds h =>
  kO (binV Try.prog .eql 3 false (tg tm 22) (tg tm 24)) ds h (fun v3 ds h =>
  kH (withV undef (storeV 2 h (tg tm 6) v0)) ds (fun v4 ds h =>
  K .norm (T.set tm 7 v3) ds h)))
noncomputable def c21 : Box CodeT := ⟨seqC ⟨r21_0⟩ ⟨seqC ⟨seqC ⟨r21_1⟩ ⟨blockC 0 ⟨seqC ⟨r21_2⟩ ⟨condC ⟨fun _ tm => tg tm 28⟩ ⟨seqC ⟨r21_3⟩ ⟨seqC ⟨r21_4⟩ ⟨seqC ⟨r21_5⟩ retC⟩⟩⟩ ⟨seqC ⟨r21_6⟩ ⟨condC ⟨fun _ tm => tg tm 45⟩ ⟨seqC ⟨r21_7⟩ ⟨seqC ⟨r21_8⟩ ⟨seqC ⟨r21_9⟩ retC⟩⟩⟩ ⟨seqC ⟨r21_10⟩ ⟨condC ⟨fun _ tm => tg tm 70⟩ ⟨seqC ⟨r21_11⟩ ⟨seqC ⟨r21_12⟩ ⟨seqC ⟨r21_13⟩ ⟨seqC ⟨seqC ⟨r21_14⟩ ⟨blockC 1 (loopB l21_18)⟩⟩ ⟨seqC ⟨r21_18⟩ retC⟩⟩⟩⟩⟩ skipC⟩⟩⟩⟩⟩⟩⟩⟩ ⟨seqC ⟨r21_19⟩ ⟨seqC ⟨r21_20⟩ ⟨seqC ⟨r21_21⟩ retC⟩⟩⟩⟩⟩
noncomputable def q21 : Box (T Value → H → Option (List Value)) := ⟨fun tm h => (match loadAgg 2 h (tg tm 6) with | some v => (match (some [tg tm 7] : Option (List Value)) with | some l => some (v :: l) | none => none) | none => none)⟩
/-! 22 (*cloakroom/wheel.Wheel).none -/
noncomputable def r22_0 : CodeT := fun call _ tm ds h K =>
  K .norm (T.set tm 2 (.bool false)) ds h
noncomputable def r22_1 : CodeT := fun call _ tm ds h K => (⟨opStep ⟨fun call env tm ds h K => kO (some (tg tm 0)) ds h K⟩ ⟨fun v tm => tm⟩ ⟨fun env tm => true⟩
  ⟨opStep ⟨fun call env tm ds h K => kO (binV Try.prog .eql 25 true (nthD 0 env) (.pointer none)) ds h K⟩ ⟨fun v tm => tm⟩ ⟨fun env tm => true⟩
  ⟨opStep ⟨fun call env tm ds h K => kO (some (nthD 0 env)) ds h K⟩ ⟨fun v tm => tm⟩ ⟨fun env tm => true⟩
  ⟨opStep ⟨fun call env tm ds h K => kO (some (tg tm 0)) ds h K⟩ ⟨fun v tm => tm⟩ ⟨fun env tm => isB false (nthD 0 env)⟩
  ⟨opStep ⟨fun call env tm ds h K => kO (nilChk (nthD 0 env)) ds h K⟩ ⟨fun v tm => tm⟩ ⟨fun env tm => isB false (nthD 1 env)⟩
  ⟨opStep ⟨fun call env tm ds h K => kO (fieldPtr 450 (nthD 0 env)) ds h K⟩ ⟨fun v tm => tm⟩ ⟨fun env tm => isB false (nthD 2 env)⟩
  ⟨opStep ⟨fun call env tm ds h K => kO (loadOne h (nthD 0 env)) ds h K⟩ ⟨fun v tm => tm⟩ ⟨fun env tm => isB false (nthD 3 env)⟩
  ⟨opStep ⟨fun call env tm ds h K => kO (unV .not (nthD 0 env)) ds h K⟩ ⟨fun v tm => tm⟩ ⟨fun env tm => isB false (nthD 4 env)⟩
  ⟨opStep ⟨fun call env tm ds h K => kO (pickV (nthD 5 env) (.bool true) (nthD 0 env)) ds h K⟩ ⟨fun v tm => tm⟩ ⟨fun env tm => true⟩
  ⟨opStep ⟨fun call env tm ds h K => kO (some (nthD 0 env)) ds h K⟩ ⟨fun v tm => (T.set tm 2 v)⟩ ⟨fun env tm => true⟩
  ⟨fun _ _ tm ds h K => K .norm tm ds h⟩⟩⟩⟩⟩⟩⟩⟩⟩⟩⟩ : Box OpsT).f call [] tm ds h K
noncomputable def c22 : Box CodeT := ⟨seqC ⟨r22_0⟩ ⟨seqC ⟨r22_1⟩ retC⟩⟩
noncomputable def q22 : Box (T Value → H → Option (List Value)) := ⟨fun tm h => some [tg tm 2]⟩
/-! 23 cloakroom/wheel.ring -/
noncomputable def r23_0 : CodeT := fun call _ tm ds h K =>
  K .norm (T.set tm 4 (.int .i64 (0))) ds h
noncomputable def r23_1 : CodeT := fun call _ tm ds h K =>
  kO (binV Try.prog .eql 3 false (tg tm 0) (tg tm 1)) ds h (fun v2 ds h =>
  K .norm (T.set tm 7 v2) ds h)
noncomputable def r23_2 : CodeT := fun call _ tm ds h K =>
  K .norm (T.set tm 4 (.int .i64 (-1))) ds h
noncomputable def r23_3 : CodeT := fun call _ tm ds h K =>
  kO (binV Try.prog .xor 3 false (tg tm 0) (tg tm 1)) ds h (fun v2 ds h =>
  kO (toInt .u64 v2) ds h (fun v3 ds h =>
  call 38 [v3] h (fun v h => (fun v4 ds h =>
  kO (binV Try.prog .sub 3 true v4 (.int .i64 (1))) ds h (fun v5 ds h =>
  kO (binV Try.prog .quo 3 true v5 (.int .i64 (6))) ds h (fun v6 ds h =>
  K .norm (T.set tm 4 v6) ds h))) v ds h)))
noncomputable def c23 : Box CodeT := ⟨seqC ⟨r23_0⟩ ⟨seqC ⟨seqC ⟨r23_1⟩ ⟨condC ⟨fun _ tm => tg tm 7⟩ ⟨seqC ⟨r23_2⟩ retC⟩ skipC⟩⟩ ⟨seqC ⟨r23_3⟩ retC⟩⟩⟩
noncomputable def q23 : Box (T Value → H → Option (List Value)) := ⟨fun tm h => some [tg tm 4]⟩
/-! 24 cloakroom/wheel.place -/
noncomputable def r24_0 : CodeT := fun call _ tm ds h K =>
  K .norm (T.set tm 4 (.int .i64 (0))) ds h
noncomputable def r24_1 : CodeT := fun call _ tm ds h K =>
  kO (binV Try.prog .mul 3 true (tg tm 1) (.int .i64 (6))) ds h (fun v2 ds h =>
  kO (binV Try.prog .shr 3 false (tg tm 0) v2) ds h (fun v3 ds h =>
  kO (binV Try.prog .and 3 true v3 (.int .i64 (63))) ds h (fun v4 ds h =>
  K .norm (T.set tm 4 v4) ds h)))
noncomputable def c24 : Box CodeT := ⟨seqC ⟨r24_0⟩ ⟨seqC ⟨r24_1⟩ retC⟩⟩
noncomputable def q24 : Box (T Value → H → Option (List Value)) := ⟨fun tm h => some [tg tm 4]⟩
/-! 25 cloakroom/wheel.take -/
noncomputable def r25_0 : CodeT := fun call _ tm ds h K =>
  K .norm (T.set tm 4 (.slice none 0 0)) ds h
noncomputable def r25_1 : CodeT := fun call _ tm ds h K =>
  kO (nilChk (tg tm 0)) ds h (fun v1 ds h =>
  kO (loadOne h v1) ds h (fun v2 ds h =>
  kH (rangeMap h v2) ds (fun v3 ds h =>
  K .norm (T.set tm 9 v3) ds h)))
noncomputable def r25_2 : CodeT := fun call _ tm ds h K =>
  nextV false h (tg tm 9) (fun v h => (fun v0 ds h =>
  kO (tupNth 0 v0) ds h (fun v1 ds h =>
  K .norm (T.set tm 11 v1) ds h)) v ds h)
noncomputable def r25_3 : CodeT := fun call _ tm ds h K =>
  kO (entryV h (tg tm 9)) ds h (fun v0 ds h =>
  kO (tupNth 0 v0) ds h (fun v1 ds h =>
  kA (some (.rw [(.int .i64 (0)), (.string (strB []))], ptrTo h.next)) ds h (fun v2 ds h =>
  kH (withV undef (storeV 2 h v2 v1)) ds (fun v3 ds h =>
  K .norm (T.set tm 5 v2) ds h))))
noncomputable def r25_4 : CodeT := fun call _ tm ds h K =>
  kO (loadAgg 2 h (tg tm 5)) ds h (fun v1 ds h =>
  kA (mkLit 1 h.next (fill (repl [(.int .i64 (0)), (.string (strB []))] 1) (pl 2) [(0, v1)])) ds h (fun v2 ds h =>
  kH (appendV 2 24 h (tg tm 1) v2) ds (fun v3 ds h =>
  K .norm (T.set tm 1 v3) ds h)))
noncomputable def l25_5 : Box CodeT := ⟨seqC ⟨r25_2⟩ ⟨seqC ⟨condC ⟨fun _ tm => tg tm 11⟩ skipC (exitC 0)⟩ ⟨blockC 1 ⟨seqC ⟨r25_3⟩ ⟨r25_4⟩⟩⟩⟩⟩
noncomputable def r25_5 : CodeT := fun call _ tm ds h K =>
  kO (nilChk (tg tm 0)) ds h (fun v1 ds h =>
  kH (withV undef (storeV 1 h v1 (.map none))) ds (fun v2 ds h =>
  K .norm tm ds h))
noncomputable def r25_6 : CodeT := fun call _ tm ds h K =>
  K .norm (T.set tm 4 (tg tm 1)) ds h
noncomputable def c25 : Box CodeT := ⟨seqC ⟨r25_0⟩ ⟨seqC ⟨seqC ⟨r25_1⟩ ⟨blockC 0 (loopB l25_5)⟩⟩ ⟨seqC ⟨r25_5⟩ ⟨seqC ⟨r25_6⟩ retC⟩⟩⟩⟩
noncomputable def q25 : Box (T Value → H → Option (List Value)) := ⟨fun tm h => some [tg tm 4]⟩
/-! 26 (*cloakroom/wheel.Wheel).put -/
noncomputable def r26_0 : CodeT := fun call _ tm ds h K =>
  kA (some (.rw (Value.cells (tg tm 1)).toList, ptrTo h.next)) ds h (fun v0 ds h =>
  K .norm (T.set tm 4 v0) ds h)
noncomputable def r26_1 : CodeT := fun call _ tm ds h K =>
  call 39 [(tg tm 0), (tg tm 2)] h (fun v h => (fun v2 ds h =>
  K .norm (T.set tm 6 v2) ds h) v ds h)
noncomputable def r26_2 : CodeT := fun call _ tm ds h K =>
  kO (nilChk (tg tm 6)) ds h (fun v1 ds h =>
  kO (loadOne h v1) ds h (fun v2 ds h =>
  kO (binV Try.prog .eql 50 true v2 (.map none)) ds h (fun v3 ds h =>
  K .norm (T.set tm 13 v3) ds h)))
noncomputable def r26_3 : CodeT := fun call _ tm ds h K =>
  kA (some (.map [] 0, .map (some h.next))) ds h (fun v1 ds h =>
  kO (nilChk (tg tm 6)) ds h (fun v2 ds h =>
  kH (withV undef (storeV 1 h v2 v1)) ds (fun v3 ds h =>
  K .norm tm ds h)))
noncomputable def r26_4 : CodeT := fun call _ tm ds h0 K =>
  (fun (b0 : Nat) (h : H) =>
  kO (nilChk (tg tm 6)) ds h (fun v1 ds h =>
  kO (loadOne h v1) ds h (fun v2 ds h =>
  kO (loadAgg 2 h (tg tm 4)) ds h (fun v3 ds h =>
  kH (withV undef (updM Try.prog 39 h v2 v3 (.bool true))) ds (fun v4 ds h =>
  K .norm tm ds h))))) h0.next ⟨h0.objs, h0.next + 5⟩
noncomputable def c26 : Box CodeT := ⟨seqC ⟨r26_0⟩ ⟨seqC ⟨r26_1⟩ ⟨seqC ⟨seqC ⟨r26_2⟩ ⟨condC ⟨fun _ tm => tg tm 13⟩ ⟨r26_3⟩ skipC⟩⟩ ⟨r26_4⟩⟩⟩⟩
noncomputable def q26 : Box (T Value → H → Option (List Value)) := ⟨fun tm h => some []⟩
/-! 27 slices.SortFunc[[]cloakroom/api.Name,cloakroom/api.Name] -/
noncomputable def r27_0 : CodeT := fun call _ tm ds h K =>
  kO (lenSl (tg tm 0)) ds h (fun v1 ds h =>
  K .norm (T.set tm 4 v1) ds h)
noncomputable def r27_1 : CodeT := fun call _ tm ds h K =>
  kO (toInt .u64 (tg tm 4)) ds h (fun v3 ds h =>
  call 41 [v3] h (fun v h => (fun v4 ds h =>
  call 40 [(tg tm 0), (.int .i64 (0)), (tg tm 4), v4, (tg tm 1)] h (fun v h => (fun v6 ds h =>
  K .norm tm ds h) v ds h)) v ds h))
noncomputable def c27 : Box CodeT := ⟨seqC ⟨r27_0⟩ ⟨r27_1⟩⟩
noncomputable def q27 : Box (T Value → H → Option (List Value)) := ⟨fun tm h => some []⟩
/-! 28 (*cloakroom/wheel.Wheel).Tick$1 -/
noncomputable def r28_0 : CodeT := fun call _ tm ds h K =>
  kA (some (.rw (Value.cells (tg tm 0)).toList, ptrTo h.next)) ds h (fun v0 ds h =>
  kA (some (.rw (Value.cells (tg (T.set tm 3 v0) 1)).toList, ptrTo h.next)) ds h (fun v1 ds h =>
  K .norm (T.set (T.set (T.set tm 3 v0) 4 v1) 5 (.int .i64 (0))) ds h))
noncomputable def r28_1 : CodeT := fun call _ tm ds h0 K =>
  (fun (b0 : Nat) (h : H) =>
  kO (loadOne h (tg tm 2)) ds h (fun v0 ds h =>
  kO (loadAgg 2 h (tg tm 3)) ds h (fun v1 ds h =>
  kO (lookV Try.prog 39 (.int .i64 (0)) false h v0 v1) ds h (fun v2 ds h =>
  kO (loadOne h (tg tm 2)) ds h (fun v3 ds h =>
  kO (loadAgg 2 h (tg tm 4)) ds h (fun v4 ds h =>
  kO (lookV Try.prog 39 (.int .i64 (0)) false h v3 v4) ds h (fun v5 ds h =>
  kO (fieldPtr 0 (tg tm 3)) ds h (fun v7 ds h =>
  kO (loadOne h v7) ds h (fun v8 ds h =>
  kO (fieldPtr 0 (tg tm 4)) ds h (fun v9 ds h =>
  kO (loadOne h v9) ds h (fun v10 ds h =>
  kO (fieldPtr 1 (tg tm 3)) ds h (fun v12 ds h =>
  kO (loadOne h v12) ds h (fun v13 ds h =>
  kO (fieldPtr 1 (tg tm 4)) ds h (fun v14 ds h =>
  kO (loadOne h v14) ds h (fun v15 ds h =>
  call 30 [v2, v5] h (fun v h => (fun v6 ds h =>
  andB (hO (loadOne h v14) v15 (hO (loadOne h v12) v13 (hO (loadOne h v9) v10 (hO (loadOne h v7) v8 true)))) (call 30 [v8, v10] h (fun v h => (fun v11 ds h =>
  andB (hO (loadOne h v14) v15 (hO (loadOne h v12) v13 true)) (call 31 [v13, v15] h (fun v h => (fun v16 ds h =>
  aO (mkLit 3 (b0 + 17) (fill (repl [(.int .i64 (0))] 3) (pl 1) [(0, v6), (1, v11), (2, v16)])) (fun x17 v17 =>
  call 29 [v17] (H.put h (b0 + 17) x17) (fun v h => (fun v18 ds h =>
  K .norm (T.set tm 5 v18) ds h) v ds h))) v ds h))) v ds h))) v ds h)))))))))))))))) h0.next ⟨h0.objs, h0.next + 20⟩
noncomputable def c28 : Box CodeT := ⟨seqC ⟨r28_0⟩ ⟨seqC ⟨r28_1⟩ retC⟩⟩
noncomputable def q28 : Box (T Value → H → Option (List Value)) := ⟨fun tm h => some [tg tm 5]⟩
/-! 29 cmp.Or[int] -/
noncomputable def r29_0 : CodeT := fun call _ tm ds h K =>
  K .norm (T.set tm 2 (.int .i64 (0))) ds h
noncomputable def r29_1 : CodeT := fun call _ tm ds h K =>
  K .norm (T.set tm 3 (.int .i64 (0))) ds h
noncomputable def r29_2 : CodeT := fun call _ tm ds h K =>
  kO (lenSl (tg tm 0)) ds h (fun v1 ds h =>
  K .norm (T.set (T.set (T.set tm 6 (tg tm 0)) 7 v1) 8 (.int .i64 (0))) ds h)
noncomputable def r29_3 : CodeT := fun call _ tm ds h K =>
  kO (binV Try.prog .lss 3 false (tg tm 8) (tg tm 7)) ds h (fun v0 ds h =>
  K .norm (T.set tm 9 v0) ds h)
noncomputable def r29_4 : CodeT := fun call _ tm ds h K =>
  kO (indexSl 1 (tg tm 6) (tg tm 8)) ds h (fun v0 ds h =>
  kO (loadOne h v0) ds h (fun v1 ds h =>
  K .norm (T.set tm 5 v1) ds h))
noncomputable def r29_5 : CodeT := fun call _ tm ds h K =>
  kO (binV Try.prog .neq 3 false (tg tm 5) (tg tm 3)) ds h (fun v2 ds h =>
  K .norm (T.set tm 14 v2) ds h)
noncomputable def r29_6 : CodeT := fun call _ tm ds h K =>
  K .norm (T.set tm 2 (tg tm 5)) ds h
noncomputable def r29_7 : CodeT := fun call _ tm ds h K =>
  kO (binV Try.prog .add 3 true (tg tm 8) (.int .i64 (1))) ds h (fun v0 ds h =>
  K .norm (T.set tm 8 v0) ds h)
noncomputable def l29_8 : Box CodeT := ⟨seqC ⟨r29_3⟩ ⟨seqC ⟨condC ⟨fun _ tm => tg tm 9⟩ skipC (exitC 0)⟩ ⟨seqC ⟨blockC 1 ⟨seqC ⟨r29_4⟩ ⟨seqC ⟨r29_5⟩ ⟨condC ⟨fun _ tm => tg tm 14⟩ ⟨seqC ⟨r29_6⟩ retC⟩ skipC⟩⟩⟩⟩ ⟨r29_7⟩⟩⟩⟩
noncomputable def r29_8 : CodeT := fun call _ tm ds h K =>
  K .norm (T.set tm 2 (tg tm 3)) ds h
noncomputable def c29 : Box CodeT := ⟨seqC ⟨r29_0⟩ ⟨seqC ⟨r29_1⟩ ⟨seqC ⟨seqC ⟨r29_2⟩ ⟨blockC 0 (loopB l29_8)⟩⟩ ⟨seqC ⟨r29_8⟩ retC⟩⟩⟩⟩
noncomputable def q29 : Box (T Value → H → Option (List Value)) := ⟨fun tm h => some [tg tm 2]⟩
/-! 30 cmp.Compare[int] -/
noncomputable def r30_0 : CodeT := fun call _ tm ds h K =>
  K .norm (T.set tm 4 (.int .i64 (0))) ds h
noncomputable def r30_1 : CodeT := fun call _ tm ds h K =>
  call 42 [(tg tm 0)] h (fun v h => (fun v1 ds h =>
  K .norm (T.set tm 5 v1) ds h) v ds h)
noncomputable def r30_2 : CodeT := fun call _ tm ds h K =>
  call 42 [(tg tm 1)] h (fun v h => (fun v1 ds h =>
  K .norm (T.set tm 6 v1) ds h) v ds h)
noncomputable def r30_3 : CodeT := fun call _ tm ds h K =>
  K .norm (T.set tm 11 (tg tm 5)) ds h
noncomputable def r30_4 : CodeT := fun call _ tm ds h K =>
  K .norm (T.set tm 12 (tg tm 6)) ds h
noncomputable def r30_5 : CodeT := fun call _ tm ds h K =>
  K .norm (T.set tm 4 (.int .i64 (0))) ds h
noncomputable def r30_6 : CodeT := fun call _ tm ds h K =>
  K .norm (T.set tm 4 (.int .i64 (-1))) ds h
noncomputable def r30_7 : CodeT := fun call _ tm ds h K =>
  K .norm (T.set tm 13 (tg tm 6)) ds h
noncomputable def r30_8 : CodeT := fun call _ tm ds h K =>
  K .norm (T.set tm 4 (.int .i64 (1))) ds h
noncomputable def r30_9 : CodeT := fun call _ tm ds h K =>
  kO (binV Try.prog .lss 3 false (tg tm 0) (tg tm 1)) ds h (fun v2 ds h =>
  K .norm (T.set tm 16 v2) ds h)
noncomputable def r30_10 : CodeT := fun call _ tm ds h K =>
  K .norm (T.set tm 4 (.int .i64 (-1))) ds h
noncomputable def r30_11 : CodeT := fun call _ tm ds h K =>
  kO (binV Try.prog .gtr 3 false (tg tm 0) (tg tm 1)) ds h (fun v2 ds h =>
  K .norm (T.set tm 19 v2) ds h)
noncomputable def r30_12 : CodeT := fun call _ tm ds h K =>
  K .norm (T.set tm 4 (.int .i64 (1))) ds h
noncomputable def r30_13 : CodeT := fun call _ tm ds h K =>
  K .norm (T.set tm 4 (.int .i64 (0))) ds h
noncomputable def c30 : Box CodeT := ⟨seqC ⟨r30_0⟩ ⟨seqC ⟨r30_1⟩ ⟨seqC ⟨r30_2⟩ ⟨seqC ⟨seqC ⟨r30_3⟩ ⟨condC ⟨fun _ tm => tg tm 11⟩ ⟨seqC ⟨seqC ⟨r30_4⟩ ⟨condC ⟨fun _ tm => tg tm 12⟩ ⟨seqC ⟨r30_5⟩ retC⟩ skipC⟩⟩ ⟨seqC ⟨r30_6⟩ retC⟩⟩ skipC⟩⟩ ⟨seqC ⟨seqC ⟨r30_7⟩ ⟨condC ⟨fun _ tm => tg tm 13⟩ ⟨seqC ⟨r30_8⟩ retC⟩ skipC⟩⟩ ⟨seqC ⟨seqC ⟨r30_9⟩ ⟨condC ⟨fun _ tm => tg tm 16⟩ ⟨seqC ⟨r30_10⟩ retC⟩ skipC⟩⟩ ⟨seqC ⟨seqC ⟨r30_11⟩ ⟨condC ⟨fun _ tm => tg tm 19⟩ ⟨seqC ⟨r30_12⟩ retC⟩ skipC⟩⟩ ⟨seqC ⟨r30_13⟩ retC⟩⟩⟩⟩⟩⟩⟩⟩
noncomputable def q30 : Box (T Value → H → Option (List Value)) := ⟨fun tm h => some [tg tm 4]⟩
/-! 31 strings.Compare -/
noncomputable def r31_0 : CodeT := fun call _ tm ds h K =>
  K .norm (T.set tm 4 (.int .i64 (0))) ds h
noncomputable def r31_1 : CodeT := fun call _ tm ds h K =>
  call 43 [(tg tm 0), (tg tm 1)] h (fun v h => (fun v2 ds h =>
  K .norm (T.set tm 4 v2) ds h) v ds h)
noncomputable def c31 : Box CodeT := ⟨seqC ⟨r31_0⟩ ⟨seqC ⟨r31_1⟩ retC⟩⟩
noncomputable def q31 : Box (T Value → H → Option (List Value)) := ⟨fun tm h => some [tg tm 4]⟩
/-! 32 (*cloakroom/wheel.Wheel).asked -/
noncomputable def r32_0 : CodeT := fun call _ tm ds h K =>
  kA (some (.rw (Value.cells (tg tm 1)).toList, ptrTo h.next)) ds h (fun v0 ds h =>
  K .norm (T.set (T.set tm 3 v0) 4 (.int .i64 (0))) ds h)
noncomputable def r32_1 : CodeT := fun call _ tm ds h K =>
  call 22 [(tg tm 0)] h (fun v h => (fun v1 ds h =>
  K .norm (T.set tm 5 v1) ds h) v ds h)
noncomputable def r32_2 : CodeT := fun call _ tm ds h K =>
  K .norm (T.set tm 4 (.int .i64 (1))) ds h
noncomputable def r32_3 : CodeT := fun call _ tm ds h K => (⟨opStep ⟨fun call env tm ds h K => kO (fieldPtr 0 (tg tm 3)) ds h K⟩ ⟨fun v tm => tm⟩ ⟨fun env tm => true⟩
  ⟨opStep ⟨fun call env tm ds h K => kO (loadOne h (nthD 0 env)) ds h K⟩ ⟨fun v tm => tm⟩ ⟨fun env tm => true⟩
  ⟨opStep ⟨fun call env tm ds h K => kO (binV Try.prog .lss 3 true (nthD 0 env) (.int .i64 (0))) ds h K⟩ ⟨fun v tm => tm⟩ ⟨fun env tm => true⟩
  ⟨opStep ⟨fun call env tm ds h K => kO (some (nthD 0 env)) ds h K⟩ ⟨fun v tm => tm⟩ ⟨fun env tm => true⟩
  ⟨opStep ⟨fun call env tm ds h K => kO (fieldPtr 0 (tg tm 3)) ds h K⟩ ⟨fun v tm => tm⟩ ⟨fun env tm => isB false (nthD 0 env)⟩
  ⟨opStep ⟨fun call env tm ds h K => kO (loadOne h (nthD 0 env)) ds h K⟩ ⟨fun v tm => tm⟩ ⟨fun env tm => isB false (nthD 1 env)⟩
  ⟨opStep ⟨fun call env tm ds h K => kO (binV Try.prog .geq 3 true (nthD 0 env) (.int .i64 (4))) ds h K⟩ ⟨fun v tm => tm⟩ ⟨fun env tm => isB false (nthD 2 env)⟩
  ⟨opStep ⟨fun call env tm ds h K => kO (pickV (nthD 3 env) (.bool true) (nthD 0 env)) ds h K⟩ ⟨fun v tm => tm⟩ ⟨fun env tm => true⟩
  ⟨opStep ⟨fun call env tm ds h K => kO (some (nthD 0 env)) ds h K⟩ ⟨fun v tm => tm⟩ ⟨fun env tm => true⟩
  ⟨opStep ⟨fun call env tm ds h K => kO (fieldPtr 1 (tg tm 3)) ds h K⟩ ⟨fun v tm => tm⟩ ⟨fun env tm => isB false (nthD 0 env)⟩
  ⟨opStep ⟨fun call env tm ds h K => kO (loadOne h (nthD 0 env)) ds h K⟩ ⟨fun v tm => tm⟩ ⟨fun env tm => isB false (nthD 1 env)⟩
  ⟨opStep ⟨fun call env tm ds h K => kO (binV Try.prog .eql 9 true (nthD 0 env) (.string (strB []))) ds h K⟩ ⟨fun v tm => tm⟩ ⟨fun env tm => isB false (nthD 2 env)⟩
  ⟨opStep ⟨fun call env tm ds h K => kO (pickV (nthD 3 env) (.bool true) (nthD 0 env)) ds h K⟩ ⟨fun v tm => tm⟩ ⟨fun env tm => true⟩
  ⟨opStep ⟨fun call env tm ds h K => kO (some (nthD 0 env)) ds h K⟩ ⟨fun v tm => tm⟩ ⟨fun env tm => true⟩
  ⟨opStep ⟨fun call env tm ds h K => kO (fieldPtr 1 (tg tm 3)) ds h K⟩ ⟨fun v tm => tm⟩ ⟨fun env tm => isB false (nthD 0 env)⟩
  ⟨opStep ⟨fun call env tm ds h K => kO (loadOne h (nthD 0 env)) ds h K⟩ ⟨fun v tm => tm⟩ ⟨fun env tm => isB false (nthD 1 env)⟩
  ⟨opStep ⟨fun call env tm ds h K => kO (lenStr (nthD 0 env)) ds h K⟩ ⟨fun v tm => tm⟩ ⟨fun env tm => isB false (nthD 2 env)⟩
  ⟨opStep ⟨fun call env tm ds h K => kO (binV Try.prog .gtr 3 true (nthD 0 env) (.int .i64 (32))) ds h K⟩ ⟨fun v tm => tm⟩ ⟨fun env tm => isB false (nthD 3 env)⟩
  ⟨opStep ⟨fun call env tm ds h K => kO (pickV (nthD 4 env) (.bool true) (nthD 0 env)) ds h K⟩ ⟨fun v tm => tm⟩ ⟨fun env tm => true⟩
  ⟨opStep ⟨fun call env tm ds h K => kO (some (nthD 0 env)) ds h K⟩ ⟨fun v tm => (T.set tm 8 v)⟩ ⟨fun env tm => true⟩
  ⟨fun _ _ tm ds h K => K .norm tm ds h⟩⟩⟩⟩⟩⟩⟩⟩⟩⟩⟩⟩⟩⟩⟩⟩⟩⟩⟩⟩⟩ : Box OpsT).f call [] tm ds h K
noncomputable def r32_4 : CodeT := fun call _ tm ds h K =>
  K .norm (T.set tm 4 (.int .i64 (8))) ds h
noncomputable def r32_5 : CodeT := fun call _ tm ds h K =>
  K .norm (T.set tm 4 (.int .i64 (0))) ds h
noncomputable def c32 : Box CodeT := ⟨seqC ⟨r32_0⟩ ⟨seqC ⟨blockC 0 ⟨seqC ⟨r32_1⟩ ⟨condC ⟨fun _ tm => tg tm 5⟩ ⟨seqC ⟨r32_2⟩ retC⟩ ⟨seqC ⟨r32_3⟩ ⟨condC ⟨fun _ tm => tg tm 8⟩ ⟨seqC ⟨r32_4⟩ retC⟩ skipC⟩⟩⟩⟩⟩ ⟨seqC ⟨r32_5⟩ retC⟩⟩⟩
noncomputable def q32 : Box (T Value → H → Option (List Value)) := ⟨fun tm h => some [tg tm 4]⟩
/-! 33 (*cloakroom/wheel.Wheel).drop -/
noncomputable def r33_0 : CodeT := fun call _ tm ds h K =>
  kA (some (.rw (Value.cells (tg tm 1)).toList, ptrTo h.next)) ds h (fun v0 ds h =>
  K .norm (T.set (T.set tm 3 v0) 4 (.bool false)) ds h)
noncomputable def r33_1 : CodeT := fun call _ tm ds h0 K =>
  (fun (b0 : Nat) (h : H) =>
  kO (nilChk (tg tm 0)) ds h (fun v1 ds h =>
  kO (fieldPtr 1 v1) ds h (fun v2 ds h =>
  kO (loadOne h v2) ds h (fun v3 ds h =>
  kO (loadAgg 2 h (tg tm 3)) ds h (fun v4 ds h =>
  kO (lookV Try.prog 39 (.int .i64 (0)) true h v3 v4) ds h (fun v5 ds h =>
  kO (tupNth 0 v5) ds h (fun v7 ds h =>
  kO (tupNth 1 v5) ds h (fun v8 ds h =>
  K .norm (T.set (T.set tm 5 v7) 6 v8) ds h)))))))) h0.next ⟨h0.objs, h0.next + 11⟩
noncomputable def r33_2 : CodeT := fun call _ tm ds h K =>
  K .norm (T.set tm 16 (tg tm 6)) ds h
noncomputable def r33_3 : CodeT := fun call _ tm ds h0 K =>
  (fun (b0 : Nat) (h : H) =>
  kO (loadAgg 2 h (tg tm 3)) ds h (fun v5 ds h =>
  call 39 [(tg tm 0), (tg tm 5)] h (fun v h => (fun v2 ds h =>
  andB (hO (loadAgg 2 h (tg tm 3)) v5 true) (kO (nilChk v2) ds h (fun v3 ds h =>
  kO (loadOne h v3) ds h (fun v4 ds h =>
  kH (withV (.tuple #[]) (delM Try.prog 39 h v4 v5)) ds (fun v6 ds h =>
  K .norm tm ds h))))) v ds h))) h0.next ⟨h0.objs, h0.next + 7⟩
noncomputable def r33_4 : CodeT := fun call _ tm ds h0 K =>
  (fun (b0 : Nat) (h : H) =>
  kO (nilChk (tg tm 0)) ds h (fun v1 ds h =>
  kO (fieldPtr 1 v1) ds h (fun v2 ds h =>
  kO (loadOne h v2) ds h (fun v3 ds h =>
  kO (loadAgg 2 h (tg tm 3)) ds h (fun v4 ds h =>
  kH (withV (.tuple #[]) (delM Try.prog 39 h v3 v4)) ds (fun v5 ds h =>
  K .norm tm ds h)))))) h0.next ⟨h0.objs, h0.next + 6⟩
noncomputable def r33_5 : CodeT := fun call _ tm ds h K =>
  K .norm (T.set tm 4 (tg tm 6)) ds h
noncomputable def c33 : Box CodeT := ⟨seqC ⟨r33_0⟩ ⟨seqC ⟨r33_1⟩ ⟨seqC ⟨seqC ⟨r33_2⟩ ⟨condC ⟨fun _ tm => tg tm 16⟩ ⟨seqC ⟨r33_3⟩ ⟨r33_4⟩⟩ skipC⟩⟩ ⟨seqC ⟨r33_5⟩ retC⟩⟩⟩⟩
noncomputable def q33 : Box (T Value → H → Option (List Value)) := ⟨fun tm h => some [tg tm 4]⟩
/-! 34 cloakroom/cloakroomref04.Del -/
noncomputable def r34_0 : CodeT := fun call _ tm ds h K =>
  kA (some (.rw (Value.cells (tg tm 0)).toList, ptrTo h.next)) ds h (fun v0 ds h =>
  kA (some (.rw (Value.cells (tg (T.set tm 2 v0) 1)).toList, ptrTo h.next)) ds h (fun v1 ds h =>
  kA (some (.rw [(.int .i64 (0)), (.slice none 0 0)], ptrTo h.next)) ds h (fun v2 ds h =>
  K .norm (T.set (T.set (T.set (T.set tm 2 v0) 3 v1) 4 v2) 5 (.int .i64 (0))) ds h)))
noncomputable def r34_1 : CodeT := fun call _ tm ds h K =>
  kO (loadAgg 2 h (tg tm 3)) ds h (fun v0 ds h =>
  call 44 [v0] h (fun v h => (fun v1 ds h =>
  kO (unV .not v1) ds h (fun v2 ds h =>
  K .norm (T.set tm 9 v2) ds h)) v ds h))
noncomputable def r34_2 : CodeT := fun call _ tm ds h K =>
  kO (loadAgg 2 h (tg tm 2)) ds h (fun v0 ds h =>
  kH (withV undef (storeV 2 h (tg tm 4) v0)) ds (fun v1 ds h =>
  K .norm (T.set tm 5 (.int .i64 (8))) ds h))
noncomputable def r34_3 : CodeT := fun call _ tm ds h K =>
  kO (loadAgg 2 h (tg tm 2)) ds h (fun v0 ds h =>
  kO (loadAgg 2 h (tg tm 3)) ds h (fun v1 ds h =>
  call 45 [v0, v1] h (fun v h => (fun v2 ds h =>
  K .norm (T.set tm 6 v2) ds h) v ds h)))
noncomputable def r34_4 : CodeT := fun call _ tm ds h K =>
  kO (binV Try.prog .lss 3 true (tg tm 6) (.int .i64 (0))) ds h (fun v1 ds h =>
  K .norm (T.set tm 15 v1) ds h)
noncomputable def r34_5 : CodeT := fun call _ tm ds h K =>
  kO (loadAgg 2 h (tg tm 2)) ds h (fun v0 ds h =>
  kH (withV undef (storeV 2 h (tg tm 4) v0)) ds (fun v1 ds h =>
  K .norm (T.set tm 5 (.int .i64 (6))) ds h))
noncomputable def r34_6 : CodeT := fun call _ tm ds h K =>
  kO (loadAgg 2 h (tg tm 2)) ds h (fun v0 ds h =>
  call 46 [v0, (tg tm 6)] h (fun v h => (fun v2 ds h =>
  kH (withV undef (storeV 2 h (tg tm 4) v2)) ds (fun v3 ds h =>
  K .norm (T.set tm 5 (.int .i64 (0))) ds h)) v ds h))
noncomputable def c34 : Box CodeT := ⟨seqC ⟨r34_0⟩ ⟨seqC ⟨seqC ⟨r34_1⟩ ⟨condC ⟨fun _ tm => tg tm 9⟩ ⟨seqC ⟨r34_2⟩ retC⟩ skipC⟩⟩ ⟨seqC ⟨r34_3⟩ ⟨seqC ⟨seqC ⟨r34_4⟩ ⟨condC ⟨fun _ tm => tg tm 15⟩ ⟨seqC ⟨r34_5⟩ retC⟩ skipC⟩⟩ ⟨seqC ⟨r34_6⟩ retC⟩⟩⟩⟩⟩
noncomputable def q34 : Box (T Value → H → Option (List Value)) := ⟨fun tm h => (match loadAgg 2 h (tg tm 4) with | some v => (match (some [tg tm 5] : Option (List Value)) with | some l => some (v :: l) | none => none) | none => none)⟩
/-! 35 cloakroom/cloakroomref04.Until -/
noncomputable def r35_0 : CodeT := fun call _ tm ds h K =>
  kA (some (.rw (Value.cells (tg tm 0)).toList, ptrTo h.next)) ds h (fun v0 ds h =>
  kA (some (.rw (Value.cells (tg (T.set tm 2 v0) 1)).toList, ptrTo h.next)) ds h (fun v1 ds h =>
  K .norm (T.set (T.set (T.set (T.set tm 2 v0) 3 v1) 4 (.int .i64 (0))) 5 (.int .i64 (0))) ds h))
noncomputable def r35_1 : CodeT := fun call _ tm ds h K =>
  kO (loadAgg 2 h (tg tm 3)) ds h (fun v0 ds h =>
  call 44 [v0] h (fun v h => (fun v1 ds h =>
  kO (unV .not v1) ds h (fun v2 ds h =>
  K .norm (T.set tm 9 v2) ds h)) v ds h))
noncomputable def r35_2 : CodeT := fun call _ tm ds h K =>
  K .norm (T.set (T.set tm 4 (.int .i64 (0))) 5 (.int .i64 (8))) ds h
noncomputable def r35_3 : CodeT := fun call _ tm ds h K =>
  kO (loadAgg 2 h (tg tm 2)) ds h (fun v0 ds h =>
  kO (loadAgg 2 h (tg tm 3)) ds h (fun v1 ds h =>
  call 45 [v0, v1] h (fun v h => (fun v2 ds h =>
  K .norm (T.set tm 6 v2) ds h) v ds h)))
noncomputable def r35_4 : CodeT := fun call _ tm ds h K =>
  kO (binV Try.prog .lss 3 true (tg tm 6) (.int .i64 (0))) ds h (fun v1 ds h =>
  K .norm (T.set tm 14 v1) ds h)
noncomputable def r35_5 : CodeT := fun call _ tm ds h K =>
  K .norm (T.set (T.set tm 4 (.int .i64 (0))) 5 (.int .i64 (6))) ds h
noncomputable def r35_6 : CodeT := fun call _ tm ds h K =>
  kO (fieldPtr 1 (tg tm 2)) ds h (fun v0 ds h =>
  kO (loadOne h v0) ds h (fun v1 ds h =>
  kO (indexSl 3 v1 (tg tm 6)) ds h (fun v3 ds h =>
  kO (fieldPtr 2 v3) ds h (fun v4 ds h =>
  kO (loadOne h v4) ds h (fun v5 ds h =>
  K .norm (T.set (T.set tm 4 v5) 5 (.int .i64 (0))) ds h)))))
noncomputable def c35 : Box CodeT := ⟨seqC ⟨r35_0⟩ ⟨seqC ⟨seqC ⟨r35_1⟩ ⟨condC ⟨fun _ tm => tg tm 9⟩ ⟨seqC ⟨r35_2⟩ retC⟩ skipC⟩⟩ ⟨seqC ⟨r35_3⟩ ⟨seqC ⟨seqC ⟨r35_4⟩ ⟨condC ⟨fun _ tm => tg tm 14⟩ ⟨seqC ⟨r35_5⟩ retC⟩ skipC⟩⟩ ⟨seqC ⟨r35_6⟩ retC⟩⟩⟩⟩⟩
noncomputable def q35 : Box (T Value → H → Option (List Value)) := ⟨fun tm h => some [tg tm 4, tg tm 5]⟩
/-! 36 cloakroom/cloakroomref04.Tick -/
noncomputable def r36_0 : CodeT := fun call _ tm ds h K =>
  kA (some (.rw (Value.cells (tg tm 0)).toList, ptrTo h.next)) ds h (fun v0 ds h =>
  kA (some (.rw [(.int .i64 (0)), (.slice none 0 0)], ptrTo h.next)) ds h (fun v1 ds h =>
  K .norm (T.set (T.set (T.set (T.set tm 2 v0) 4 v1) 5 (.slice none 0 0)) 6 (.int .i64 (0))) ds h))
noncomputable def r36_1 : CodeT := fun call _ tm ds h K =>
  kO (fieldPtr 0 (tg tm 2)) ds h (fun v1 ds h =>
  kO (loadOne h v1) ds h (fun v2 ds h =>
  kO (binV Try.prog .lss 3 false (tg tm 1) v2) ds h (fun v3 ds h =>
  gd (isB false v3) (fun k => kO (some (tg tm 1)) ds h (k)) ds h (fun v5 ds h =>
  gd (isB false v3) (fun k => kO (binV Try.prog .gtr 3 true v5 (.int .i64 (1099511627776))) ds h (k)) ds h (fun v6 ds h =>
  kO (pickV v3 (.bool true) v6) ds h (fun v7 ds h =>
  K .norm (T.set tm 17 v7) ds h))))))
noncomputable def r36_2 : CodeT := fun call _ tm ds h K =>
  kO (loadAgg 2 h (tg tm 2)) ds h (fun v0 ds h =>
  kH (withV undef (storeV 2 h (tg tm 4) v0)) ds (fun v1 ds h =>
  K .norm (T.set (T.set tm 5 (.slice none 0 0)) 6 (.int .i64 (2))) ds h))
noncomputable def r36_3 : CodeT := fun call _ tm ds h K =>
  K .norm (T.set tm 7 (.slice none 0 0)) ds h
noncomputable def r36_4 : CodeT := fun call _ tm ds h K =>
  K .norm (T.set tm 8 (.slice none 0 0)) ds h
noncomputable def r36_5 : CodeT := fun call _ tm ds h K =>
  K .norm (T.set tm 9 (.int .i64 (0))) ds h
noncomputable def r36_6 : CodeT := fun call _ tm ds h K =>
  kO (fieldPtr 1 (tg tm 2)) ds h (fun v1 ds h =>
  kO (loadOne h v1) ds h (fun v2 ds h =>
  kO (lenSl v2) ds h (fun v3 ds h =>
  kO (binV Try.prog .lss 3 false (tg tm 9) v3) ds h (fun v4 ds h =>
  K .norm (T.set tm 23 v4) ds h))))
noncomputable def r36_8 : CodeT := fun call _ tm ds h K =>
  kO (fieldPtr 1 (tg tm 2)) ds h (fun v0 ds h =>
  kO (loadOne h v0) ds h (fun v1 ds h =>
  kO (indexSl 3 v1 (tg tm 9)) ds h (fun v3 ds h =>
  kO (fieldPtr 2 v3) ds h (fun v4 ds h =>
  kO (loadOne h v4) ds h (fun v5 ds h =>
  kO (binV Try.prog .leq 3 false v5 (tg tm 1)) ds h (fun v7 ds h =>
  K .norm (T.set tm 33 v7) ds h))))))
noncomputable def r36_9 : CodeT := fun call _ tm ds h K =>
  kO (fieldPtr 1 (tg tm 2)) ds h (fun v1 ds h =>
  kO (loadOne h v1) ds h (fun v2 ds h =>
  kO (indexSl 3 v2 (tg tm 9)) ds h (fun v4 ds h =>
  kO (fieldPtr 0 v4) ds h (fun v5 ds h =>
  kO (loadAgg 2 h v5) ds h (fun v6 ds h =>
  kA (mkLit 1 h.next (fill (repl [(.int .i64 (0)), (.string (strB []))] 1) (pl 2) [(0, v6)])) ds h (fun v7 ds h =>
  kH (appendV 2 24 h (tg tm 7) v7) ds (fun v8 ds h =>
  K .norm (T.set tm 7 v8) ds h)))))))
noncomputable def r36_10 : CodeT := fun call _ tm ds h K =>
  kO (fieldPtr 1 (tg tm 2)) ds h (fun v1 ds h =>
  kO (loadOne h v1) ds h (fun v2 ds h =>
  kO (indexSl 3 v2 (tg tm 9)) ds h (fun v4 ds h =>
  kO (loadAgg 3 h v4) ds h (fun v5 ds h =>
  kA (mkLit 1 h.next (fill (repl [(.int .i64 (0)), (.string (strB [])), (.int .i64 (0))] 1) (pl 3) [(0, v5)])) ds h (fun v6 ds h =>
  kH (appendV 3 32 h (tg tm 8) v6) ds (fun v7 ds h =>
  K .norm (T.set tm 8 v7) ds h))))))
noncomputable def r36_7 : CodeT := fun call _ tm ds h K =>
  kO (binV Try.prog .add 3 true (tg tm 9) (.int .i64 (1))) ds h (fun v1 ds h =>
  K .norm (T.set tm 9 v1) ds h)
noncomputable def l36_11 : Box CodeT := ⟨seqC ⟨seqC ⟨r36_6⟩ ⟨condC ⟨fun _ tm => tg tm 23⟩ skipC (exitC 0)⟩⟩ ⟨seqC ⟨blockC 1 ⟨seqC ⟨r36_8⟩ ⟨condC ⟨fun _ tm => tg tm 33⟩ ⟨r36_9⟩ ⟨r36_10⟩⟩⟩⟩ ⟨r36_7⟩⟩⟩
noncomputable def r36_11 : CodeT := fun call _ tm ds h K =>
  kO (aggO (fill [(.int .i64 (0)), (.slice none 0 0)] (plc [(0, 1), (1, 1)]) [(0, (tg tm 1)), (1, (tg tm 8))])) ds h (fun v2 ds h =>
  kH (withV undef (storeV 2 h (tg tm 4) v2)) ds (fun v4 ds h =>
  K .norm (T.set (T.set tm 5 (tg tm 7)) 6 (.int .i64 (0))) ds h))
noncomputable def c36 : Box CodeT := ⟨seqC ⟨r36_0⟩ ⟨seqC ⟨seqC ⟨r36_1⟩ ⟨condC ⟨fun _ tm => tg tm 17⟩ ⟨seqC ⟨r36_2⟩ retC⟩ skipC⟩⟩ ⟨seqC ⟨r36_3⟩ ⟨seqC ⟨r36_4⟩ ⟨seqC ⟨seqC ⟨r36_5⟩ ⟨blockC 0 (loopB l36_11)⟩⟩ ⟨seqC ⟨r36_11⟩ retC⟩⟩⟩⟩⟩⟩
noncomputable def q36 : Box (T Value → H → Option (List Value)) := ⟨fun tm h => (match loadAgg 2 h (tg tm 4) with | some v => (match (some [tg tm 5, tg tm 6] : Option (List Value)) with | some l => some (v :: l) | none => none) | none => none)⟩
/-! 38 math/bits.Len64 -/
noncomputable def r38_0 : CodeT := fun call _ tm ds h K =>
  K .norm (T.set tm 2 (.int .i64 (0))) ds h
noncomputable def r38_1 : CodeT := fun call _ tm ds h K =>
  kO (binV Try.prog .geq 83 true (tg tm 0) (.int .u64 (4294967296))) ds h (fun v1 ds h =>
  K .norm (T.set tm 4 v1) ds h)
noncomputable def r38_2 : CodeT := fun call _ tm ds h K =>
  kO (binV Try.prog .shr 83 true (tg tm 0) (.int .u64 (32))) ds h (fun v1 ds h =>
  K .norm (T.set tm 0 v1) ds h)
noncomputable def r38_3 : CodeT := fun call _ tm ds h K =>
  K .norm (T.set tm 2 (.int .i64 (32))) ds h
noncomputable def r38_4 : CodeT := fun call _ tm ds h K =>
  kO (binV Try.prog .geq 83 true (tg tm 0) (.int .u64 (65536))) ds h (fun v1 ds h =>
  K .norm (T.set tm 8 v1) ds h)
noncomputable def r38_5 : CodeT := fun call _ tm ds h K =>
  kO (binV Try.prog .shr 83 true (tg tm 0) (.int .u64 (16))) ds h (fun v1 ds h =>
  K .norm (T.set tm 0 v1) ds h)
noncomputable def r38_6 : CodeT := fun call _ tm ds h K =>
  kO (binV Try.prog .add 3 true (tg tm 2) (.int .i64 (16))) ds h (fun v1 ds h =>
  K .norm (T.set tm 2 v1) ds h)
noncomputable def r38_7 : CodeT := fun call _ tm ds h K =>
  kO (binV Try.prog .geq 83 true (tg tm 0) (.int .u64 (256))) ds h (fun v1 ds h =>
  K .norm (T.set tm 14 v1) ds h)
noncomputable def r38_8 : CodeT := fun call _ tm ds h K =>
  kO (binV Try.prog .shr 83 true (tg tm 0) (.int .u64 (8))) ds h (fun v1 ds h =>
  K .norm (T.set tm 0 v1) ds h)
noncomputable def r38_9 : CodeT := fun call _ tm ds h K =>
  kO (binV Try.prog .add 3 true (tg tm 2) (.int .i64 (8))) ds h (fun v1 ds h =>
  K .norm (T.set tm 2 v1) ds h)
noncomputable def r38_10 : CodeT := fun call _ tm ds h K =>
  kO (toInt .u8 (tg tm 0)) ds h (fun v2 ds h =>
  kO (indexStr (.string (strB [0, 1, 2, 2, 3, 3, 3, 3, 4, 4, 4, 4, 4, 4, 4, 4, 5, 5, 5, 5, 5, 5, 5, 5, 5, 5, 5, 5, 5, 5, 5, 5, 6, 6, 6, 6, 6, 6, 6, 6, 6, 6, 6, 6, 6, 6, 6, 6, 6, 6, 6, 6, 6, 6, 6, 6, 6, 6, 6, 6, 6, 6, 6, 6, 7, 7, 7, 7, 7, 7, 7, 7, 7, 7, 7, 7, 7, 7, 7, 7, 7, 7, 7, 7, 7, 7, 7, 7, 7, 7, 7, 7, 7, 7, 7, 7, 7, 7, 7, 7, 7, 7, 7, 7, 7, 7, 7, 7, 7, 7, 7, 7, 7, 7, 7, 7, 7, 7, 7, 7, 7, 7, 7, 7, 7, 7, 7, 7, 8, 8, 8, 8, 8, 8, 8, 8, 8, 8, 8, 8, 8, 8, 8, 8, 8, 8, 8, 8, 8, 8, 8, 8, 8, 8, 8, 8, 8, 8, 8, 8, 8, 8, 8, 8, 8, 8, 8, 8, 8, 8, 8, 8, 8, 8, 8, 8, 8, 8, 8, 8, 8, 8, 8, 8, 8, 8, 8, 8, 8, 8, 8, 8, 8, 8, 8, 8, 8, 8, 8, 8, 8, 8, 8, 8, 8, 8, 8, 8, 8, 8, 8, 8, 8, 8, 8, 8, 8, 8, 8, 8, 8, 8, 8, 8, 8, 8, 8, 8, 8, 8, 8, 8, 8, 8, 8, 8, 8, 8, 8, 8, 8, 8, 8, 8, 8, 8, 8, 8, 8, 8, 8, 8, 8, 8, 8, 8])) v2) ds h (fun v3 ds h =>
  kO (toInt .i64 v3) ds h (fun v4 ds h =>
  kO (binV Try.prog .add 3 false (tg tm 2) v4) ds h (fun v5 ds h =>
  K .norm (T.set tm 2 v5) ds h))))
noncomputable def c38 : Box CodeT := ⟨seqC ⟨r38_0⟩ ⟨seqC ⟨seqC ⟨r38_1⟩ ⟨condC ⟨fun _ tm => tg tm 4⟩ ⟨seqC ⟨r38_2⟩ ⟨r38_3⟩⟩ skipC⟩⟩ ⟨seqC ⟨seqC ⟨r38_4⟩ ⟨condC ⟨fun _ tm => tg tm 8⟩ ⟨seqC ⟨r38_5⟩ ⟨r38_6⟩⟩ skipC⟩⟩ ⟨seqC ⟨seqC ⟨r38_7⟩ ⟨condC ⟨fun _ tm => tg tm 14⟩ ⟨seqC ⟨r38_8⟩ ⟨r38_9⟩⟩ skipC⟩⟩ ⟨seqC ⟨r38_10⟩ retC⟩⟩⟩⟩⟩
noncomputable def q38 : Box (T Value → H → Option (List Value)) := ⟨fun tm h => some [tg tm 2]⟩
/-! 39 (*cloakroom/wheel.Wheel).at -/
noncomputable def r39_0 : CodeT := fun call _ tm ds h K =>
  K .norm (T.set tm 4 (.pointer none)) ds h
noncomputable def r39_1 : CodeT := fun call _ tm ds h K =>
  kO (nilChk (tg tm 0)) ds h (fun v1 ds h =>
  kO (fieldPtr 0 v1) ds h (fun v2 ds h =>
  kO (loadOne h v2) ds h (fun v3 ds h =>
  call 23 [v3, (tg tm 1)] h (fun v h => (fun v5 ds h =>
  K .norm (T.set tm 5 v5) ds h) v ds h))))
noncomputable def r39_2 : CodeT := fun call _ tm ds h0 K =>
  (fun (b0 : Nat) (h : H) =>
  kO (nilChk (tg tm 0)) ds h (fun v5 ds h =>
  kO (fieldPtr 2 v5) ds h (fun v6 ds h =>
  kO (indexArr 64 7 v6 (tg tm 5)) ds h (fun v7 ds h =>
  call 24 [(tg tm 1), (tg tm 5)] h (fun v h => (fun v4 ds h =>
  kO (indexArr 1 64 v7 v4) ds h (fun v8 ds h =>
  K .norm (T.set tm 4 v8) ds h)) v ds h))))) h0.next ⟨h0.objs, h0.next + 10⟩
noncomputable def c39 : Box CodeT := ⟨seqC ⟨r39_0⟩ ⟨seqC ⟨r39_1⟩ ⟨seqC ⟨r39_2⟩ retC⟩⟩⟩
noncomputable def q39 : Box (T Value → H → Option (List Value)) := ⟨fun tm h => some [tg tm 4]⟩
/-! 40 slices.pdqsortCmpFunc[cloakroom/api.Name] -/
noncomputable def r40_0 : CodeT := fun call _ tm ds h K =>
  K .norm (T.set tm 10 (.bool true)) ds h
noncomputable def r40_1 : CodeT := fun call _ tm ds h K =>
  K .norm (T.set tm 11 (.bool true)) ds h
noncomputable def r40_2 : CodeT := fun call _ tm ds h K =>
  kO (binV Try.prog .sub 3 false (tg tm 2) (tg tm 1)) ds h (fun v2 ds h =>
  K .norm (T.set tm 12 v2) ds h)
noncomputable def r40_3 : CodeT := fun call _ tm ds h K =>
  kO (binV Try.prog .leq 3 true (tg tm 12) (.int .i64 (12))) ds h (fun v1 ds h =>
  K .norm (T.set tm 25 v1) ds h)
noncomputable def r40_4 : CodeT := fun call _ tm ds h K =>
  call 47 [(tg tm 0), (tg tm 1), (tg tm 2), (tg tm 4)] h (fun v h => (fun v4 ds h =>
  K .norm tm ds h) v ds h)
noncomputable def r40_5 : CodeT := fun call _ tm ds h K =>
  kO (binV Try.prog .eql 3 true (tg tm 3) (.int .i64 (0))) ds h (fun v1 ds h =>
  K .norm (T.set tm 32 v1) ds h)
noncomputable def r40_6 : CodeT := fun call _ tm ds h K =>
  call 48 [(tg tm 0), (tg tm 1), (tg tm 2), (tg tm 4)] h (fun v h => (fun v4 ds h =>
  K .norm tm ds h) v ds h)
noncomputable def r40_7 : CodeT := fun call _ tm ds h K =>
  kO (unV .not (tg tm 10)) ds h (fun v1 ds h =>
  K .norm (T.set tm 39 v1) ds h)
noncomputable def r40_8 : CodeT := fun call _ tm ds h K =>
  call 49 [(tg tm 0), (tg tm 1), (tg tm 2), (tg tm 4)] h (fun v h => (fun v4 ds h =>
  K .norm tm ds h) v ds h)
noncomputable def r40_9 : CodeT := fun call _ tm ds h K =>
  kO (binV Try.prog .sub 3 true (tg tm 3) (.int .i64 (1))) ds h (fun v1 ds h =>
  K .norm (T.set tm 3 v1) ds h)
noncomputable def r40_10 : CodeT := fun call _ tm ds h K =>
  call 50 [(tg tm 0), (tg tm 1), (tg tm 2), (tg tm 4)] h (fun v h => (fun v4 ds h =>
  kO (tupNth 0 v4) ds h (fun v6 ds h =>
  kO (tupNth 1 v4) ds h (fun v7 ds h =>
  K .norm (T.set (T.set tm 13 v6) 14 v7) ds h))) v ds h)
noncomputable def r40_11 : CodeT := fun call _ tm ds h K =>
  kO (binV Try.prog .eql 93 true (tg tm 14) (.int .i64 (2))) ds h (fun v1 ds h =>
  K .norm (T.set tm 56 v1) ds h)
noncomputable def r40_12 : CodeT := fun call _ tm ds h K =>
  call 51 [(tg tm 0), (tg tm 1), (tg tm 2), (tg tm 4)] h (fun v h => (fun v4 ds h =>
  K .norm tm ds h) v ds h)
noncomputable def r40_13 : CodeT := fun call _ tm ds h K =>
  kO (binV Try.prog .sub 3 true (tg tm 2) (.int .i64 (1))) ds h (fun v1 ds h =>
  kO (binV Try.prog .sub 3 false (tg tm 13) (tg tm 1)) ds h (fun v4 ds h =>
  kO (binV Try.prog .sub 3 false v1 v4) ds h (fun v5 ds h =>
  K .norm (T.set tm 13 v5) ds h)))
noncomputable def r40_14 : CodeT := fun call _ tm ds h K =>
  K .norm (T.set tm 14 (.int .i64 (1))) ds h
noncomputable def r40_15 : CodeT := fun call _ tm ds h K => (⟨opStep ⟨fun call env tm ds h K => kO (some (tg tm 10)) ds h K⟩ ⟨fun v tm => tm⟩ ⟨fun env tm => true⟩
  ⟨opStep ⟨fun call env tm ds h K => kO (some (nthD 0 env)) ds h K⟩ ⟨fun v tm => tm⟩ ⟨fun env tm => true⟩
  ⟨opStep ⟨fun call env tm ds h K => kO (some (tg tm 11)) ds h K⟩ ⟨fun v tm => tm⟩ ⟨fun env tm => isB true (nthD 0 env)⟩
  ⟨opStep ⟨fun call env tm ds h K => kO (pickV (nthD 1 env) (nthD 0 env) (.bool false)) ds h K⟩ ⟨fun v tm => tm⟩ ⟨fun env tm => true⟩
  ⟨opStep ⟨fun call env tm ds h K => kO (some (nthD 0 env)) ds h K⟩ ⟨fun v tm => tm⟩ ⟨fun env tm => true⟩
  ⟨opStep ⟨fun call env tm ds h K => kO (some (tg tm 14)) ds h K⟩ ⟨fun v tm => tm⟩ ⟨fun env tm => isB true (nthD 0 env)⟩
  ⟨opStep ⟨fun call env tm ds h K => kO (binV Try.prog .eql 93 true (nthD 0 env) (.int .i64 (1))) ds h K⟩ ⟨fun v tm => tm⟩ ⟨fun env tm => isB true (nthD 1 env)⟩
  ⟨opStep ⟨fun call env tm ds h K => kO (pickV (nthD 2 env) (nthD 0 env) (.bool false)) ds h K⟩ ⟨fun v tm => (T.set tm 75 v)⟩ ⟨fun env tm => true⟩
  ⟨fun _ _ tm ds h K => K .norm tm ds h⟩⟩⟩⟩⟩⟩⟩⟩⟩ : Box OpsT).f call [] tm ds h K
noncomputable def r40_16 : CodeT := fun call _ tm ds h K =>
  call 52 [(tg tm 0), (tg tm 1), (tg tm 2), (tg tm 4)] h (fun v h => (fun v4 ds h =>
  K .norm (T.set tm 80 v4) ds h) v ds h)
noncomputable def r40_17 : CodeT := fun call _ tm ds h0 K =>
  (fun (b0 : Nat) (h : H) =>
  kO (binV Try.prog .gtr 3 true (tg tm 1) (.int .i64 (0))) ds h (fun v1 ds h =>
  gd (isB true v1) (fun k => kO (some (tg tm 4)) ds h k) ds h (fun v3 ds h =>
  gd (isB true v1) (fun k => kO (some (tg tm 0)) ds h k) ds h (fun v4 ds h =>
  gd (isB true v1) (fun k => kO (some (tg tm 1)) ds h k) ds h (fun v5 ds h =>
  gd (isB true v1) (fun k => kO (binV Try.prog .sub 3 true v5 (.int .i64 (1))) ds h k) ds h (fun v6 ds h =>
  gd (isB true v1) (fun k => kO (indexSl 2 v4 v6) ds h k) ds h (fun v7 ds h =>
  ite2 (isB true v1) (kO (loadAgg 2 h v7) ds h (fun v8 ds h =>
  gd (isB true v1) (fun k => kO (some (tg tm 0)) ds h k) ds h (fun v9 ds h =>
  gd (isB true v1) (fun k => kO (some (tg tm 13)) ds h k) ds h (fun v10 ds h =>
  gd (isB true v1) (fun k => kO (indexSl 2 v9 v10) ds h k) ds h (fun v11 ds h =>
  ite2 (isB true v1) (kO (loadAgg 2 h v11) ds h (fun v12 ds h =>
  ite2 (isB true v1) (goCall call (funcArgs v3 [v8, v12]) ds h (fun v13 ds h =>
  gd (isB true v1) (fun k => kO (binV Try.prog .lss 3 true v13 (.int .i64 (0))) ds h k) ds h (fun v14 ds h =>
  gd (isB true v1) (fun k => kO (unV .not v14) ds h k) ds h (fun v15 ds h =>
  kO (pickV v1 v15 (.bool false)) ds h (fun v16 ds h =>
  K .norm (T.set tm 97 v16) ds h)))))
  (gd (isB true v1) (fun k => kO (binV Try.prog .lss 3 true undef (.int .i64 (0))) ds h k) ds h (fun v14 ds h =>
  gd (isB true v1) (fun k => kO (unV .not v14) ds h k) ds h (fun v15 ds h =>
  kO (pickV v1 v15 (.bool false)) ds h (fun v16 ds h =>
  K .norm (T.set tm 97 v16) ds h))))))
  (ite2 (isB true v1) (goCall call (funcArgs v3 [v8, undef]) ds h (fun v13 ds h =>
  gd (isB true v1) (fun k => kO (binV Try.prog .lss 3 true v13 (.int .i64 (0))) ds h k) ds h (fun v14 ds h =>
  gd (isB true v1) (fun k => kO (unV .not v14) ds h k) ds h (fun v15 ds h =>
  kO (pickV v1 v15 (.bool false)) ds h (fun v16 ds h =>
  K .norm (T.set tm 97 v16) ds h)))))
  (gd (isB true v1) (fun k => kO (binV Try.prog .lss 3 true undef (.int .i64 (0))) ds h k) ds h (fun v14 ds h =>
  gd (isB true v1) (fun k => kO (unV .not v14) ds h k) ds h (fun v15 ds h =>
  kO (pickV v1 v15 (.bool false)) ds h (fun v16 ds h =>
  K .norm (T.set tm 97 v16) ds h))))))))))
  (gd (isB true v1) (fun k => kO (some (tg tm 0)) ds h k) ds h (fun v9 ds h =>
  gd (isB true v1) (fun k => kO (some (tg tm 13)) ds h k) ds h (fun v10 ds h =>
  gd (isB true v1) (fun k => kO (indexSl 2 v9 v10) ds h k) ds h (fun v11 ds h =>
  ite2 (isB true v1) (kO (loadAgg 2 h v11) ds h (fun v12 ds h =>
  ite2 (isB true v1) (goCall call (funcArgs v3 [undef, v12]) ds h (fun v13 ds h =>
  gd (isB true v1) (fun k => kO (binV Try.prog .lss 3 true v13 (.int .i64 (0))) ds h k) ds h (fun v14 ds h =>
  gd (isB true v1) (fun k => kO (unV .not v14) ds h k) ds h (fun v15 ds h =>
  kO (pickV v1 v15 (.bool false)) ds h (fun v16 ds h =>
  K .norm (T.set tm 97 v16) ds h)))))
  (gd (isB true v1) (fun k => kO (binV Try.prog .lss 3 true undef (.int .i64 (0))) ds h k) ds h (fun v14 ds h =>
  gd (isB true v1) (fun k => kO (unV .not v14) ds h k) ds h (fun v15 ds h =>
  kO (pickV v1 v15 (.bool false)) ds h (fun v16 ds h =>
  K .norm (T.set tm 97 v16) ds h))))))
  (ite2 (isB true v1) (goCall call (funcArgs v3 [undef, undef]) ds h (fun v13 ds h =>
  gd (isB true v1) (fun k => kO (binV Try.prog .lss 3 true v13 (.int .i64 (0))) ds h k) ds h (fun v14 ds h =>
  gd (isB true v1) (fun k => kO (unV .not v14) ds h k) ds h (fun v15 ds h =>
  kO (pickV v1 v15 (.bool false)) ds h (fun v16 ds h =>
  K .norm (T.set tm 97 v16) ds h)))))
  (gd (isB true v1) (fun k => kO (binV Try.prog .lss 3 true undef (.int .i64 (0))) ds h k) ds h (fun v14 ds h =>
  gd (isB true v1) (fun k => kO (unV .not v14) ds h k) ds h (fun v15 ds h =>
  kO (pickV v1 v15 (.bool false)) ds h (fun v16 ds h =>
  K .norm (T.set tm 97 v16) ds h)))))))))))))))) h0.next ⟨h0.objs, h0.next + 17⟩
noncomputable def r40_18 : CodeT := fun call _ tm ds h K =>
  call 53 [(tg tm 0), (tg tm 1), (tg tm 2), (tg tm 13), (tg tm 4)] h (fun v h => (fun v5 ds h =>
  K .norm (T.set tm 15 v5) ds h) v ds h)
noncomputable def r40_19 : CodeT := fun call _ tm ds h K =>
  K .norm (T.set tm 1 (tg tm 15)) ds h
noncomputable def r40_20 : CodeT := fun call _ tm ds h K =>
  call 54 [(tg tm 0), (tg tm 1), (tg tm 2), (tg tm 13), (tg tm 4)] h (fun v h => (fun v5 ds h =>
  kO (tupNth 0 v5) ds h (fun v7 ds h =>
  kO (tupNth 1 v5) ds h (fun v8 ds h =>
  K .norm (T.set (T.set tm 16 v7) 17 v8) ds h))) v ds h)
noncomputable def r40_21 : CodeT := fun call _ tm ds h K =>
  K .norm (T.set tm 11 (tg tm 17)) ds h
noncomputable def r40_22 : CodeT := fun call _ tm ds h K =>
  kO (binV Try.prog .sub 3 false (tg tm 16) (tg tm 1)) ds h (fun v2 ds h =>
  kO (binV Try.prog .sub 3 false (tg tm 2) (tg tm 16)) ds h (fun v5 ds h =>
  K .norm (T.set (T.set tm 18 v2) 19 v5) ds h))
noncomputable def r40_23 : CodeT := fun call _ tm ds h K =>
  kO (binV Try.prog .quo 3 true (tg tm 12) (.int .i64 (8))) ds h (fun v1 ds h =>
  K .norm (T.set tm 20 v1) ds h)
noncomputable def r40_24 : CodeT := fun call _ tm ds h K =>
  kO (binV Try.prog .lss 3 false (tg tm 18) (tg tm 19)) ds h (fun v2 ds h =>
  K .norm (T.set tm 125 v2) ds h)
noncomputable def r40_25 : CodeT := fun call _ tm ds h K =>
  kO (binV Try.prog .geq 3 false (tg tm 18) (tg tm 20)) ds h (fun v2 ds h =>
  K .norm (T.set tm 10 v2) ds h)
noncomputable def r40_26 : CodeT := fun call _ tm ds h K =>
  call 40 [(tg tm 0), (tg tm 1), (tg tm 16), (tg tm 3), (tg tm 4)] h (fun v h => (fun v5 ds h =>
  K .norm tm ds h) v ds h)
noncomputable def r40_27 : CodeT := fun call _ tm ds h K =>
  kO (binV Try.prog .add 3 true (tg tm 16) (.int .i64 (1))) ds h (fun v1 ds h =>
  K .norm (T.set tm 1 v1) ds h)
noncomputable def r40_28 : CodeT := fun call _ tm ds h K =>
  kO (binV Try.prog .geq 3 false (tg tm 19) (tg tm 20)) ds h (fun v2 ds h =>
  K .norm (T.set tm 10 v2) ds h)
noncomputable def r40_29 : CodeT := fun call _ tm ds h K =>
  kO (binV Try.prog .add 3 true (tg tm 16) (.int .i64 (1))) ds h (fun v2 ds h =>
  call 40 [(tg tm 0), v2, (tg tm 2), (tg tm 3), (tg tm 4)] h (fun v h => (fun v6 ds h =>
  K .norm tm ds h) v ds h))
noncomputable def r40_30 : CodeT := fun call _ tm ds h K =>
  K .norm (T.set tm 2 (tg tm 16)) ds h
noncomputable def l40_31 : Box CodeT := ⟨blockC 1 ⟨seqC ⟨r40_2⟩ ⟨seqC ⟨seqC ⟨r40_3⟩ ⟨condC ⟨fun _ tm => tg tm 25⟩ ⟨seqC ⟨r40_4⟩ retC⟩ skipC⟩⟩ ⟨seqC ⟨seqC ⟨r40_5⟩ ⟨condC ⟨fun _ tm => tg tm 32⟩ ⟨seqC ⟨r40_6⟩ retC⟩ skipC⟩⟩ ⟨seqC ⟨seqC ⟨r40_7⟩ ⟨condC ⟨fun _ tm => tg tm 39⟩ ⟨seqC ⟨r40_8⟩ ⟨r40_9⟩⟩ skipC⟩⟩ ⟨seqC ⟨r40_10⟩ ⟨seqC ⟨seqC ⟨r40_11⟩ ⟨condC ⟨fun _ tm => tg tm 56⟩ ⟨seqC ⟨r40_12⟩ ⟨seqC ⟨r40_13⟩ ⟨r40_14⟩⟩⟩ skipC⟩⟩ ⟨seqC ⟨seqC ⟨r40_15⟩ ⟨condC ⟨fun _ tm => tg tm 75⟩ ⟨seqC ⟨r40_16⟩ ⟨condC ⟨fun _ tm => tg tm 80⟩ retC skipC⟩⟩ skipC⟩⟩ ⟨seqC ⟨seqC ⟨r40_17⟩ ⟨condC ⟨fun _ tm => tg tm 97⟩ ⟨seqC ⟨r40_18⟩ ⟨seqC ⟨r40_19⟩ (exitC 1)⟩⟩ skipC⟩⟩ ⟨seqC ⟨r40_20⟩ ⟨seqC ⟨r40_21⟩ ⟨seqC ⟨r40_22⟩ ⟨seqC ⟨r40_23⟩ ⟨seqC ⟨r40_24⟩ ⟨condC ⟨fun _ tm => tg tm 125⟩ ⟨seqC ⟨r40_25⟩ ⟨seqC ⟨r40_26⟩ ⟨r40_27⟩⟩⟩ ⟨seqC ⟨r40_28⟩ ⟨seqC ⟨r40_29⟩ ⟨r40_30⟩⟩⟩⟩⟩⟩⟩⟩⟩⟩⟩⟩⟩⟩⟩⟩⟩⟩
noncomputable def c40 : Box CodeT := ⟨seqC ⟨r40_0⟩ ⟨seqC ⟨r40_1⟩ ⟨blockC 0 (loopB l40_31)⟩⟩⟩
noncomputable def q40 : Box (T Value → H → Option (List Value)) := ⟨fun tm h => some []⟩
/-! 41 math/bits.Len -/
noncomputable def r41_0 : CodeT := fun call _ tm ds h K =>
  K .norm (T.set tm 2 (.int .i64 (0))) ds h
noncomputable def r41_1 : CodeT := fun call _ tm ds h K =>
  kO (toInt .u32 (tg tm 0)) ds h (fun v1 ds h =>
  call 55 [v1] h (fun v h => (fun v2 ds h =>
  K .norm (T.set tm 2 v2) ds h) v ds h))
noncomputable def r41_2 : CodeT := fun call _ tm ds h K =>
  call 38 [(tg tm 0)] h (fun v h => (fun v1 ds h =>
  K .norm (T.set tm 2 v1) ds h) v ds h)
noncomputable def c41 : Box CodeT := ⟨seqC ⟨r41_0⟩ ⟨seqC ⟨condC ⟨fun _ _ => (.bool false)⟩ ⟨seqC ⟨r41_1⟩ retC⟩ skipC⟩ ⟨seqC ⟨r41_2⟩ retC⟩⟩⟩
noncomputable def q41 : Box (T Value → H → Option (List Value)) := ⟨fun tm h => some [tg tm 2]⟩
/-! 42 cmp.isNaN[int] -/
noncomputable def r42_0 : CodeT := fun call _ tm ds h K =>
  K .norm (T.set tm 2 (.bool false)) ds h
noncomputable def r42_1 : CodeT := fun call _ tm ds h K =>
  kO (binV Try.prog .neq 3 false (tg tm 0) (tg tm 0)) ds h (fun v2 ds h =>
  K .norm (T.set tm 2 v2) ds h)
noncomputable def c42 : Box CodeT := ⟨seqC ⟨r42_0⟩ ⟨seqC ⟨r42_1⟩ retC⟩⟩
noncomputable def q42 : Box (T Value → H → Option (List Value)) := ⟨fun tm h => some [tg tm 2]⟩
/-! 43 internal/bytealg.CompareString -/
noncomputable def r43_0 : CodeT := fun call _ tm ds h K =>
  K .norm (T.set tm 4 (.int .i64 (0))) ds h
noncomputable def r43_1 : CodeT := fun call _ tm ds h K =>
  call 56 [(tg tm 0), (tg tm 1)] h (fun v h => (fun v2 ds h =>
  K .norm (T.set tm 4 v2) ds h) v ds h)
noncomputable def c43 : Box CodeT := ⟨seqC ⟨r43_0⟩ ⟨seqC ⟨r43_1⟩ retC⟩⟩
noncomputable def q43 : Box (T Value → H → Option (List Value)) := ⟨fun tm h => some [tg tm 4]⟩
/-! 44 cloakroom/cloakroomref04.Name -/
noncomputable def r44_0 : CodeT := fun call _ tm ds h K =>
  kA (some (.rw (Value.cells (tg tm 0)).toList, ptrTo h.next)) ds h (fun v0 ds h =>
  K .norm (T.set (T.set tm 1 v0) 2 (.bool false)) ds h)
noncomputable def r44_1 : CodeT := fun call _ tm ds h K => (⟨opStep ⟨fun call env tm ds h K => kO (fieldPtr 0 (tg tm 1)) ds h K⟩ ⟨fun v tm => tm⟩ ⟨fun env tm => true⟩
  ⟨opStep ⟨fun call env tm ds h K => kO (loadOne h (nthD 0 env)) ds h K⟩ ⟨fun v tm => tm⟩ ⟨fun env tm => true⟩
  ⟨opStep ⟨fun call env tm ds h K => call 57 [(nthD 0 env)] h (fun v h => (K) v ds h)⟩ ⟨fun v tm => tm⟩ ⟨fun env tm => true⟩
  ⟨opStep ⟨fun call env tm ds h K => kO (some (nthD 0 env)) ds h K⟩ ⟨fun v tm => tm⟩ ⟨fun env tm => true⟩
  ⟨opStep ⟨fun call env tm ds h K => kO (fieldPtr 1 (tg tm 1)) ds h K⟩ ⟨fun v tm => tm⟩ ⟨fun env tm => isB true (nthD 0 env)⟩
  ⟨opStep ⟨fun call env tm ds h K => kO (loadOne h (nthD 0 env)) ds h K⟩ ⟨fun v tm => tm⟩ ⟨fun env tm => isB true (nthD 1 env)⟩
  ⟨opStep ⟨fun call env tm ds h K => call 58 [(nthD 0 env)] h (fun v h => (K) v ds h)⟩ ⟨fun v tm => tm⟩ ⟨fun env tm => isB true (nthD 2 env)⟩
  ⟨opStep ⟨fun call env tm ds h K => kO (pickV (nthD 3 env) (nthD 0 env) (.bool false)) ds h K⟩ ⟨fun v tm => tm⟩ ⟨fun env tm => true⟩
  ⟨opStep ⟨fun call env tm ds h K => kO (some (nthD 0 env)) ds h K⟩ ⟨fun v tm => (T.set tm 2 v)⟩ ⟨fun env tm => true⟩
  ⟨fun _ _ tm ds h K => K .norm tm ds h⟩⟩⟩⟩⟩⟩⟩⟩⟩⟩ : Box OpsT).f call [] tm ds h K
noncomputable def c44 : Box CodeT := ⟨seqC ⟨r44_0⟩ ⟨seqC ⟨r44_1⟩ retC⟩⟩
noncomputable def q44 : Box (T Value → H → Option (List Value)) := ⟨fun tm h => some [tg tm 2]⟩
/-! 45 cloakroom/cloakroomref04.find -/
noncomputable def r45_0 : CodeT := fun call _ tm ds h K =>
  kA (some (.rw (Value.cells (tg tm 0)).toList, ptrTo h.next)) ds h (fun v0 ds h =>
  kA (some (.rw (Value.cells (tg (T.set tm 2 v0) 1)).toList, ptrTo h.next)) ds h (fun v1 ds h =>
  K .norm (T.set (T.set (T.set tm 2 v0) 3 v1) 4 (.int .i64 (0))) ds h))
noncomputable def r45_1 : CodeT := fun call _ tm ds h K =>
  K .norm (T.set tm 5 (.int .i64 (0))) ds h
noncomputable def r45_2 : CodeT := fun call _ tm ds h K =>
  kO (fieldPtr 1 (tg tm 2)) ds h (fun v1 ds h =>
  kO (loadOne h v1) ds h (fun v2 ds h =>
  kO (lenSl v2) ds h (fun v3 ds h =>
  kO (binV Try.prog .lss 3 false (tg tm 5) v3) ds h (fun v4 ds h =>
  K .norm (T.set tm 10 v4) ds h))))
noncomputable def r45_4 : CodeT := fun call _ tm ds h0 K =>
  (fun (b0 : Nat) (h : H) =>
  kO (fieldPtr 1 (tg tm 2)) ds h (fun v0 ds h =>
  kO (loadOne h v0) ds h (fun v1 ds h =>
  kO (indexSl 3 v1 (tg tm 5)) ds h (fun v3 ds h =>
  kO (fieldPtr 0 v3) ds h (fun v4 ds h =>
  kO (loadAgg 2 h v4) ds h (fun v5 ds h =>
  kO (loadAgg 2 h (tg tm 3)) ds h (fun v6 ds h =>
  kO (binV Try.prog .eql 39 false v5 v6) ds h (fun v7 ds h =>
  K .norm (T.set tm 20 v7) ds h)))))))) h0.next ⟨h0.objs, h0.next + 8⟩
noncomputable def r45_5 : CodeT := fun call _ tm ds h K =>
  K .norm (T.set tm 4 (tg tm 5)) ds h
noncomputable def r45_3 : CodeT := fun call _ tm ds h K =>
  kO (binV Try.prog .add 3 true (tg tm 5) (.int .i64 (1))) ds h (fun v1 ds h =>
  K .norm (T.set tm 5 v1) ds h)
noncomputable def l45_6 : Box CodeT := ⟨seqC ⟨seqC ⟨r45_2⟩ ⟨condC ⟨fun _ tm => tg tm 10⟩ skipC (exitC 0)⟩⟩ ⟨seqC ⟨blockC 1 ⟨seqC ⟨r45_4⟩ ⟨condC ⟨fun _ tm => tg tm 20⟩ ⟨seqC ⟨r45_5⟩ retC⟩ skipC⟩⟩⟩ ⟨r45_3⟩⟩⟩
noncomputable def r45_6 : CodeT := fun call _ tm ds h K =>
  K .norm (T.set tm 4 (.int .i64 (-1))) ds h
noncomputable def c45 : Box CodeT := ⟨seqC ⟨r45_0⟩ ⟨seqC ⟨seqC ⟨r45_1⟩ ⟨blockC 0 (loopB l45_6)⟩⟩ ⟨seqC ⟨r45_6⟩ retC⟩⟩⟩
noncomputable def q45 : Box (T Value → H → Option (List Value)) := ⟨fun tm h => some [tg tm 4]⟩
/-! 46 cloakroom/cloakroomref04.without -/
noncomputable def r46_0 : CodeT := fun call _ tm ds h K =>
  kA (some (.rw (Value.cells (tg tm 0)).toList, ptrTo h.next)) ds h (fun v0 ds h =>
  kA (some (.rw [(.int .i64 (0)), (.slice none 0 0)], ptrTo h.next)) ds h (fun v1 ds h =>
  K .norm (T.set (T.set tm 2 v0) 4 v1) ds h))
noncomputable def r46_1 : CodeT := fun call _ tm ds h K =>
  K .norm (T.set tm 5 (.slice none 0 0)) ds h
noncomputable def r46_2 : CodeT := fun call _ tm ds h K =>
  K .norm (T.set tm 6 (.int .i64 (0))) ds h
noncomputable def r46_3 : CodeT := fun call _ tm ds h K =>
  kO (fieldPtr 1 (tg tm 2)) ds h (fun v1 ds h =>
  kO (loadOne h v1) ds h (fun v2 ds h =>
  kO (lenSl v2) ds h (fun v3 ds h =>
  kO (binV Try.prog .lss 3 false (tg tm 6) v3) ds h (fun v4 ds h =>
  K .norm (T.set tm 11 v4) ds h))))
noncomputable def r46_5 : CodeT := fun call _ tm ds h K =>
  kO (binV Try.prog .neq 3 false (tg tm 6) (tg tm 1)) ds h (fun v2 ds h =>
  K .norm (T.set tm 16 v2) ds h)
noncomputable def r46_6 : CodeT := fun call _ tm ds h K =>
  kO (fieldPtr 1 (tg tm 2)) ds h (fun v1 ds h =>
  kO (loadOne h v1) ds h (fun v2 ds h =>
  kO (indexSl 3 v2 (tg tm 6)) ds h (fun v4 ds h =>
  kO (loadAgg 3 h v4) ds h (fun v5 ds h =>
  kA (mkLit 1 h.next (fill (repl [(.int .i64 (0)), (.string (strB [])), (.int .i64 (0))] 1) (pl 3) [(0, v5)])) ds h (fun v6 ds h =>
  kH (appendV 3 32 h (tg tm 5) v6) ds (fun v7 ds h =>
  K .norm (T.set tm 5 v7) ds h))))))
noncomputable def r46_4 : CodeT := fun call _ tm ds h K =>
  kO (binV Try.prog .add 3 true (tg tm 6) (.int .i64 (1))) ds h (fun v1 ds h =>
  K .norm (T.set tm 6 v1) ds h)
noncomputable def l46_7 : Box CodeT := ⟨seqC ⟨seqC ⟨r46_3⟩ ⟨condC ⟨fun _ tm => tg tm 11⟩ skipC (exitC 0)⟩⟩ ⟨seqC ⟨blockC 1 ⟨seqC ⟨r46_5⟩ ⟨condC ⟨fun _ tm => tg tm 16⟩ ⟨r46_6⟩ skipC⟩⟩⟩ ⟨r46_4⟩⟩⟩
noncomputable def r46_7 : CodeT := fun call _ tm ds h K =>
  kO (fieldPtr 0 (tg tm 2)) ds h (fun v0 ds h =>
  kO (loadOne h v0) ds h (fun v1 ds h =>
  kO (aggO (fill [(.int .i64 (0)), (.slice none 0 0)] (plc [(0, 1), (1, 1)]) [(0, v1), (1, (tg tm 5))])) ds h (fun v3 ds h =>
  kH (withV undef (storeV 2 h (tg tm 4) v3)) ds (fun v4 ds h =>
  K .norm tm ds h))))
noncomputable def c46 : Box CodeT := ⟨seqC ⟨r46_0⟩ ⟨seqC ⟨r46_1⟩ ⟨seqC ⟨seqC ⟨r46_2⟩ ⟨blockC 0 (loopB l46_7)⟩⟩ ⟨seqC ⟨r46_7⟩ retC⟩⟩⟩⟩
noncomputable def q46 : Box (T Value → H → Option (List Value)) := ⟨fun tm h => (match loadAgg 2 h (tg tm 4) with | some v => (match (some [] : Option (List Value)) with | some l => some (v :: l) | none => none) | none => none)⟩
/-! 47 slices.insertionSortCmpFunc[cloakroom/api.Name] -/
noncomputable def r47_0 : CodeT := fun call _ tm ds h K =>
  kO (binV Try.prog .add 3 true (tg tm 1) (.int .i64 (1))) ds h (fun v1 ds h =>
  K .norm (T.set tm 8 v1) ds h)
noncomputable def r47_1 : CodeT := fun call _ tm ds h K =>
  kO (binV Try.prog .lss 3 false (tg tm 8) (tg tm 2)) ds h (fun v2 ds h =>
  K .norm (T.set tm 14 v2) ds h)
noncomputable def r47_3 : CodeT := fun call _ tm ds h K =>
  K .norm (T.set tm 9 (tg tm 8)) ds h
noncomputable def r47_4 : CodeT := fun call _ tm ds h0 K =>
  (fun (b0 : Nat) (h : H) =>
  kO (binV Try.prog .gtr 3 false (tg tm 9) (tg tm 1)) ds h (fun v2 ds h =>
  gd (isB true v2) (fun k => kO (some (tg tm 3)) ds h k) ds h (fun v4 ds h =>
  gd (isB true v2) (fun k => kO (some (tg tm 0)) ds h k) ds h (fun v5 ds h =>
  gd (isB true v2) (fun k => kO (some (tg tm 9)) ds h k) ds h (fun v6 ds h =>
  gd (isB true v2) (fun k => kO (indexSl 2 v5 v6) ds h k) ds h (fun v7 ds h =>
  ite2 (isB true v2) (kO (loadAgg 2 h v7) ds h (fun v8 ds h =>
  gd (isB true v2) (fun k => kO (some (tg tm 0)) ds h k) ds h (fun v9 ds h =>
  gd (isB true v2) (fun k => kO (some (tg tm 9)) ds h k) ds h (fun v10 ds h =>
  gd (isB true v2) (fun k => kO (binV Try.prog .sub 3 true v10 (.int .i64 (1))) ds h k) ds h (fun v11 ds h =>
  gd (isB true v2) (fun k => kO (indexSl 2 v9 v11) ds h k) ds h (fun v12 ds h =>
  ite2 (isB true v2) (kO (loadAgg 2 h v12) ds h (fun v13 ds h =>
  ite2 (isB true v2) (goCall call (funcArgs v4 [v8, v13]) ds h (fun v14 ds h =>
  gd (isB true v2) (fun k => kO (binV Try.prog .lss 3 true v14 (.int .i64 (0))) ds h k) ds h (fun v15 ds h =>
  kO (pickV v2 v15 (.bool false)) ds h (fun v16 ds h =>
  K .norm (T.set tm 34 v16) ds h))))
  (gd (isB true v2) (fun k => kO (binV Try.prog .lss 3 true undef (.int .i64 (0))) ds h k) ds h (fun v15 ds h =>
  kO (pickV v2 v15 (.bool false)) ds h (fun v16 ds h =>
  K .norm (T.set tm 34 v16) ds h)))))
  (ite2 (isB true v2) (goCall call (funcArgs v4 [v8, undef]) ds h (fun v14 ds h =>
  gd (isB true v2) (fun k => kO (binV Try.prog .lss 3 true v14 (.int .i64 (0))) ds h k) ds h (fun v15 ds h =>
  kO (pickV v2 v15 (.bool false)) ds h (fun v16 ds h =>
  K .norm (T.set tm 34 v16) ds h))))
  (gd (isB true v2) (fun k => kO (binV Try.prog .lss 3 true undef (.int .i64 (0))) ds h k) ds h (fun v15 ds h =>
  kO (pickV v2 v15 (.bool false)) ds h (fun v16 ds h =>
  K .norm (T.set tm 34 v16) ds h))))))))))
  (gd (isB true v2) (fun k => kO (some (tg tm 0)) ds h k) ds h (fun v9 ds h =>
  gd (isB true v2) (fun k => kO (some (tg tm 9)) ds h k) ds h (fun v10 ds h =>
  gd (isB true v2) (fun k => kO (binV Try.prog .sub 3 true v10 (.int .i64 (1))) ds h k) ds h (fun v11 ds h =>
  gd (isB true v2) (fun k => kO (indexSl 2 v9 v11) ds h k) ds h (fun v12 ds h =>
  ite2 (isB true v2) (kO (loadAgg 2 h v12) ds h (fun v13 ds h =>
  ite2 (isB true v2) (goCall call (funcArgs v4 [undef, v13]) ds h (fun v14 ds h =>
  gd (isB true v2) (fun k => kO (binV Try.prog .lss 3 true v14 (.int .i64 (0))) ds h k) ds h (fun v15 ds h =>
  kO (pickV v2 v15 (.bool false)) ds h (fun v16 ds h =>
  K .norm (T.set tm 34 v16) ds h))))
  (gd (isB true v2) (fun k => kO (binV Try.prog .lss 3 true undef (.int .i64 (0))) ds h k) ds h (fun v15 ds h =>
  kO (pickV v2 v15 (.bool false)) ds h (fun v16 ds h =>
  K .norm (T.set tm 34 v16) ds h)))))
  (ite2 (isB true v2) (goCall call (funcArgs v4 [undef, undef]) ds h (fun v14 ds h =>
  gd (isB true v2) (fun k => kO (binV Try.prog .lss 3 true v14 (.int .i64 (0))) ds h k) ds h (fun v15 ds h =>
  kO (pickV v2 v15 (.bool false)) ds h (fun v16 ds h =>
  K .norm (T.set tm 34 v16) ds h))))
  (gd (isB true v2) (fun k => kO (binV Try.prog .lss 3 true undef (.int .i64 (0))) ds h k) ds h (fun v15 ds h =>
  kO (pickV v2 v15 (.bool false)) ds h (fun v16 ds h =>
  K .norm (T.set tm 34 v16) ds h))))))))))))))) h0.next ⟨h0.objs, h0.next + 17⟩
noncomputable def r47_6 : CodeT := fun call _ tm ds h0 K =>
  (fun (b0 : Nat) (h : H) =>
  kO (binV Try.prog .sub 3 true (tg tm 9) (.int .i64 (1))) ds h (fun v4 ds h =>
  kO (binV Try.prog .sub 3 true (tg tm 9) (.int .i64 (1))) ds h (fun v7 ds h =>
  kO (indexSl 2 (tg tm 0) v7) ds h (fun v8 ds h =>
  kO (loadAgg 2 h v8) ds h (fun v9 ds h =>
  kO (indexSl 2 (tg tm 0) (tg tm 9)) ds h (fun v12 ds h =>
  kO (loadAgg 2 h v12) ds h (fun v13 ds h =>
  kO (indexSl 2 (tg tm 0) (tg tm 9)) ds h (fun v14 ds h =>
  kH (withV undef (storeV 2 h v14 v9)) ds (fun v15 ds h =>
  kO (indexSl 2 (tg tm 0) v4) ds h (fun v16 ds h =>
  kH (withV undef (storeV 2 h v16 v13)) ds (fun v17 ds h =>
  K .norm tm ds h))))))))))) h0.next ⟨h0.objs, h0.next + 18⟩
noncomputable def r47_5 : CodeT := fun call _ tm ds h K =>
  kO (binV Try.prog .sub 3 true (tg tm 9) (.int .i64 (1))) ds h (fun v1 ds h =>
  K .norm (T.set tm 9 v1) ds h)
noncomputable def l47_6 : Box CodeT := ⟨seqC ⟨seqC ⟨r47_4⟩ ⟨condC ⟨fun _ tm => tg tm 34⟩ skipC (exitC 2)⟩⟩ ⟨seqC ⟨blockC 3 ⟨r47_6⟩⟩ ⟨r47_5⟩⟩⟩
noncomputable def r47_2 : CodeT := fun call _ tm ds h K =>
  kO (binV Try.prog .add 3 true (tg tm 8) (.int .i64 (1))) ds h (fun v1 ds h =>
  K .norm (T.set tm 8 v1) ds h)
noncomputable def l47_8 : Box CodeT := ⟨seqC ⟨seqC ⟨r47_1⟩ ⟨condC ⟨fun _ tm => tg tm 14⟩ skipC (exitC 0)⟩⟩ ⟨seqC ⟨blockC 1 ⟨seqC ⟨r47_3⟩ ⟨blockC 2 (loopB l47_6)⟩⟩⟩ ⟨r47_2⟩⟩⟩
noncomputable def c47 : Box CodeT := ⟨seqC ⟨r47_0⟩ ⟨blockC 0 (loopB l47_8)⟩⟩
noncomputable def q47 : Box (T Value → H → Option (List Value)) := ⟨fun tm h => some []⟩
/-! 48 slices.heapSortCmpFunc[cloakroom/api.Name] -/
noncomputable def r48_0 : CodeT := fun call _ tm ds h K =>
  K .norm (T.set tm 8 (tg tm 1)) ds h
noncomputable def r48_1 : CodeT := fun call _ tm ds h K =>
  K .norm (T.set tm 9 (.int .i64 (0))) ds h
noncomputable def r48_2 : CodeT := fun call _ tm ds h K =>
  kO (binV Try.prog .sub 3 false (tg tm 2) (tg tm 1)) ds h (fun v2 ds h =>
  K .norm (T.set tm 10 v2) ds h)
noncomputable def r48_3 : CodeT := fun call _ tm ds h K =>
  kO (binV Try.prog .sub 3 true (tg tm 10) (.int .i64 (1))) ds h (fun v1 ds h =>
  kO (binV Try.prog .quo 3 true v1 (.int .i64 (2))) ds h (fun v2 ds h =>
  K .norm (T.set tm 11 v2) ds h))
noncomputable def r48_4 : CodeT := fun call _ tm ds h K =>
  kO (binV Try.prog .geq 3 true (tg tm 11) (.int .i64 (0))) ds h (fun v1 ds h =>
  K .norm (T.set tm 21 v1) ds h)
noncomputable def r48_6 : CodeT := fun call _ tm ds h K =>
  call 59 [(tg tm 0), (tg tm 11), (tg tm 10), (tg tm 8), (tg tm 3)] h (fun v h => (fun v5 ds h =>
  K .norm tm ds h) v ds h)
noncomputable def r48_5 : CodeT := fun call _ tm ds h K =>
  kO (binV Try.prog .sub 3 true (tg tm 11) (.int .i64 (1))) ds h (fun v1 ds h =>
  K .norm (T.set tm 11 v1) ds h)
noncomputable def l48_7 : Box CodeT := ⟨seqC ⟨seqC ⟨r48_4⟩ ⟨condC ⟨fun _ tm => tg tm 21⟩ skipC (exitC 0)⟩⟩ ⟨seqC ⟨blockC 1 ⟨r48_6⟩⟩ ⟨r48_5⟩⟩⟩
noncomputable def r48_7 : CodeT := fun call _ tm ds h K =>
  kO (binV Try.prog .sub 3 true (tg tm 10) (.int .i64 (1))) ds h (fun v1 ds h =>
  K .norm (T.set tm 12 v1) ds h)
noncomputable def r48_8 : CodeT := fun call _ tm ds h K =>
  kO (binV Try.prog .geq 3 true (tg tm 12) (.int .i64 (0))) ds h (fun v1 ds h =>
  K .norm (T.set tm 33 v1) ds h)
noncomputable def r48_10 : CodeT := fun call _ tm ds h0 K =>
  (fun (b0 : Nat) (h : H) =>
  kO (binV Try.prog .add 3 false (tg tm 8) (tg tm 12)) ds h (fun v5 ds h =>
  kO (binV Try.prog .add 3 false (tg tm 8) (tg tm 12)) ds h (fun v9 ds h =>
  kO (indexSl 2 (tg tm 0) v9) ds h (fun v10 ds h =>
  kO (loadAgg 2 h v10) ds h (fun v11 ds h =>
  kO (indexSl 2 (tg tm 0) (tg tm 8)) ds h (fun v14 ds h =>
  kO (loadAgg 2 h v14) ds h (fun v15 ds h =>
  kO (indexSl 2 (tg tm 0) (tg tm 8)) ds h (fun v16 ds h =>
  kH (withV undef (storeV 2 h v16 v11)) ds (fun v17 ds h =>
  kO (indexSl 2 (tg tm 0) v5) ds h (fun v18 ds h =>
  kH (withV undef (storeV 2 h v18 v15)) ds (fun v19 ds h =>
  K .norm tm ds h))))))))))) h0.next ⟨h0.objs, h0.next + 20⟩
noncomputable def r48_11 : CodeT := fun call _ tm ds h K =>
  call 59 [(tg tm 0), (tg tm 9), (tg tm 12), (tg tm 8), (tg tm 3)] h (fun v h => (fun v5 ds h =>
  K .norm tm ds h) v ds h)
noncomputable def r48_9 : CodeT := fun call _ tm ds h K =>
  kO (binV Try.prog .sub 3 true (tg tm 12) (.int .i64 (1))) ds h (fun v1 ds h =>
  K .norm (T.set tm 12 v1) ds h)
noncomputable def l48_13 : Box CodeT := ⟨seqC ⟨seqC ⟨r48_8⟩ ⟨condC ⟨fun _ tm => tg tm 33⟩ skipC (exitC 2)⟩⟩ ⟨seqC ⟨blockC 3 ⟨seqC ⟨r48_10⟩ ⟨r48_11⟩⟩⟩ ⟨r48_9⟩⟩⟩
noncomputable def c48 : Box CodeT := ⟨seqC ⟨r48_0⟩ ⟨seqC ⟨r48_1⟩ ⟨seqC ⟨r48_2⟩ ⟨seqC ⟨seqC ⟨r48_3⟩ ⟨blockC 0 (loopB l48_7)⟩⟩ ⟨seqC ⟨r48_7⟩ ⟨blockC 2 (loopB l48_13)⟩⟩⟩⟩⟩⟩
noncomputable def q48 : Box (T Value → H → Option (List Value)) := ⟨fun tm h => some []⟩
/-! 49 slices.breakPatternsCmpFunc[cloakroom/api.Name] -/
noncomputable def r49_0 : CodeT := fun call _ tm ds h K =>
  kO (binV Try.prog .sub 3 false (tg tm 2) (tg tm 1)) ds h (fun v2 ds h =>
  K .norm (T.set tm 8 v2) ds h)
noncomputable def r49_1 : CodeT := fun call _ tm ds h K =>
  kO (binV Try.prog .geq 3 true (tg tm 8) (.int .i64 (8))) ds h (fun v1 ds h =>
  K .norm (T.set tm 17 v1) ds h)
noncomputable def r49_2 : CodeT := fun call _ tm ds h K =>
  kO (toInt .u64 (tg tm 8)) ds h (fun v1 ds h =>
  kA (some (.rw [(.int .u64 (0))], ptrTo h.next)) ds h (fun v2 ds h =>
  kH (withV undef (storeV 1 h v2 v1)) ds (fun v3 ds h =>
  K .norm (T.set tm 9 v2) ds h)))
noncomputable def r49_3 : CodeT := fun call _ tm ds h K =>
  call 60 [(tg tm 8)] h (fun v h => (fun v1 ds h =>
  K .norm (T.set tm 10 v1) ds h) v ds h)
noncomputable def r49_4 : CodeT := fun call _ tm ds h K =>
  kO (binV Try.prog .quo 3 true (tg tm 8) (.int .i64 (4))) ds h (fun v2 ds h =>
  kO (binV Try.prog .mul 3 true v2 (.int .i64 (2))) ds h (fun v3 ds h =>
  kO (binV Try.prog .add 3 false (tg tm 1) v3) ds h (fun v4 ds h =>
  kO (binV Try.prog .sub 3 true v4 (.int .i64 (1))) ds h (fun v5 ds h =>
  K .norm (T.set tm 11 v5) ds h))))
noncomputable def r49_5 : CodeT := fun call _ tm ds h K =>
  kO (binV Try.prog .quo 3 true (tg tm 8) (.int .i64 (4))) ds h (fun v3 ds h =>
  kO (binV Try.prog .mul 3 true v3 (.int .i64 (2))) ds h (fun v4 ds h =>
  kO (binV Try.prog .add 3 false (tg tm 1) v4) ds h (fun v5 ds h =>
  kO (binV Try.prog .add 3 true v5 (.int .i64 (1))) ds h (fun v6 ds h =>
  kO (binV Try.prog .leq 3 false (tg tm 11) v6) ds h (fun v7 ds h =>
  K .norm (T.set tm 35 v7) ds h)))))
noncomputable def r49_7 : CodeT := fun call _ tm ds h K =>
  call 61 [(tg tm 9)] h (fun v h => (fun v0 ds h =>
  kO (binV Try.prog .sub 87 true (tg tm 10) (.int .u64 (1))) ds h (fun v2 ds h =>
  kO (binV Try.prog .and 87 false v0 v2) ds h (fun v3 ds h =>
  kO (toInt .i64 v3) ds h (fun v4 ds h =>
  K .norm (T.set tm 12 v4) ds h)))) v ds h)
noncomputable def r49_8 : CodeT := fun call _ tm ds h K =>
  kO (binV Try.prog .geq 3 false (tg tm 12) (tg tm 8)) ds h (fun v2 ds h =>
  K .norm (T.set tm 45 v2) ds h)
noncomputable def r49_9 : CodeT := fun call _ tm ds h K =>
  kO (binV Try.prog .sub 3 false (tg tm 12) (tg tm 8)) ds h (fun v2 ds h =>
  K .norm (T.set tm 12 v2) ds h)
noncomputable def r49_10 : CodeT := fun call _ tm ds h0 K =>
  (fun (b0 : Nat) (h : H) =>
  kO (binV Try.prog .add 3 false (tg tm 1) (tg tm 12)) ds h (fun v5 ds h =>
  kO (binV Try.prog .add 3 false (tg tm 1) (tg tm 12)) ds h (fun v9 ds h =>
  kO (indexSl 2 (tg tm 0) v9) ds h (fun v10 ds h =>
  kO (loadAgg 2 h v10) ds h (fun v11 ds h =>
  kO (indexSl 2 (tg tm 0) (tg tm 11)) ds h (fun v14 ds h =>
  kO (loadAgg 2 h v14) ds h (fun v15 ds h =>
  kO (indexSl 2 (tg tm 0) (tg tm 11)) ds h (fun v16 ds h =>
  kH (withV undef (storeV 2 h v16 v11)) ds (fun v17 ds h =>
  kO (indexSl 2 (tg tm 0) v5) ds h (fun v18 ds h =>
  kH (withV undef (storeV 2 h v18 v15)) ds (fun v19 ds h =>
  K .norm tm ds h))))))))))) h0.next ⟨h0.objs, h0.next + 20⟩
noncomputable def r49_6 : CodeT := fun call _ tm ds h K =>
  kO (binV Try.prog .add 3 true (tg tm 11) (.int .i64 (1))) ds h (fun v1 ds h =>
  K .norm (T.set tm 11 v1) ds h)
noncomputable def l49_11 : Box CodeT := ⟨seqC ⟨seqC ⟨r49_5⟩ ⟨condC ⟨fun _ tm => tg tm 35⟩ skipC (exitC 0)⟩⟩ ⟨seqC ⟨blockC 1 ⟨seqC ⟨r49_7⟩ ⟨seqC ⟨seqC ⟨r49_8⟩ ⟨condC ⟨fun _ tm => tg tm 45⟩ ⟨r49_9⟩ skipC⟩⟩ ⟨r49_10⟩⟩⟩⟩ ⟨r49_6⟩⟩⟩
noncomputable def c49 : Box CodeT := ⟨seqC ⟨r49_0⟩ ⟨seqC ⟨r49_1⟩ ⟨condC ⟨fun _ tm => tg tm 17⟩ ⟨seqC ⟨r49_2⟩ ⟨seqC ⟨r49_3⟩ ⟨seqC ⟨r49_4⟩ ⟨blockC 0 (loopB l49_11)⟩⟩⟩⟩ skipC⟩⟩⟩
noncomputable def q49 : Box (T Value → H → Option (List Value)) := ⟨fun tm h => some []⟩
/-! 50 slices.choosePivotCmpFunc[cloakroom/api.Name] -/
noncomputable def r50_0 : CodeT := fun call _ tm ds h K =>
  K .norm (T.set (T.set tm 8 (.int .i64 (0))) 9 (.int .i64 (0))) ds h
noncomputable def r50_1 : CodeT := fun call _ tm ds h K =>
  kO (binV Try.prog .sub 3 false (tg tm 2) (tg tm 1)) ds h (fun v2 ds h =>
  K .norm (T.set tm 10 v2) ds h)
noncomputable def r50_2 : CodeT := fun call _ tm ds h K =>
  kA (some (.rw [(.int .i64 (0))], ptrTo h.next)) ds h (fun v0 ds h =>
  K .norm (T.set tm 11 v0) ds h)
noncomputable def r50_3 : CodeT := fun call _ tm ds h K =>
  kO (binV Try.prog .quo 3 true (tg tm 10) (.int .i64 (4))) ds h (fun v2 ds h =>
  kO (binV Try.prog .mul 3 true v2 (.int .i64 (1))) ds h (fun v3 ds h =>
  kO (binV Try.prog .add 3 false (tg tm 1) v3) ds h (fun v4 ds h =>
  K .norm (T.set tm 12 v4) ds h)))
noncomputable def r50_4 : CodeT := fun call _ tm ds h K =>
  kO (binV Try.prog .quo 3 true (tg tm 10) (.int .i64 (4))) ds h (fun v2 ds h =>
  kO (binV Try.prog .mul 3 true v2 (.int .i64 (2))) ds h (fun v3 ds h =>
  kO (binV Try.prog .add 3 false (tg tm 1) v3) ds h (fun v4 ds h =>
  K .norm (T.set tm 13 v4) ds h)))
noncomputable def r50_5 : CodeT := fun call _ tm ds h K =>
  kO (binV Try.prog .quo 3 true (tg tm 10) (.int .i64 (4))) ds h (fun v2 ds h =>
  kO (binV Try.prog .mul 3 true v2 (.int .i64 (3))) ds h (fun v3 ds h =>
  kO (binV Try.prog .add 3 false (tg tm 1) v3) ds h (fun v4 ds h =>
  K .norm (T.set tm 14 v4) ds h)))
noncomputable def r50_6 : CodeT := fun call _ tm ds h K =>
  kO (binV Try.prog .geq 3 true (tg tm 10) (.int .i64 (8))) ds h (fun v1 ds h =>
  K .norm (T.set tm 34 v1) ds h)
noncomputable def r50_7 : CodeT := fun call _ tm ds h K =>
  kO (binV Try.prog .geq 3 true (tg tm 10) (.int .i64 (50))) ds h (fun v1 ds h =>
  K .norm (T.set tm 36 v1) ds h)
noncomputable def r50_8 : CodeT := fun call _ tm ds h K =>
  call 62 [(tg tm 0), (tg tm 12), (tg tm 11), (tg tm 3)] h (fun v h => (fun v3 ds h =>
  K .norm (T.set tm 12 v3) ds h) v ds h)
noncomputable def r50_9 : CodeT := fun call _ tm ds h K =>
  call 62 [(tg tm 0), (tg tm 13), (tg tm 11), (tg tm 3)] h (fun v h => (fun v3 ds h =>
  K .norm (T.set tm 13 v3) ds h) v ds h)
noncomputable def r50_10 : CodeT := fun call _ tm ds h K =>
  call 62 [(tg tm 0), (tg tm 14), (tg tm 11), (tg tm 3)] h (fun v h => (fun v3 ds h =>
  K .norm (T.set tm 14 v3) ds h) v ds h)
noncomputable def r50_11 : CodeT := fun call _ tm ds h K =>
  call 63 [(tg tm 0), (tg tm 12), (tg tm 13), (tg tm 14), (tg tm 11), (tg tm 3)] h (fun v h => (fun v5 ds h =>
  K .norm (T.set tm 13 v5) ds h) v ds h)
noncomputable def r50_12 : CodeT := fun call _ tm ds h K =>
  kO (loadOne h (tg tm 11)) ds h (fun v0 ds h =>
  K .norm (T.set tm 55 v0) ds h)
noncomputable def r50_14 : CodeT := fun call _ tm ds h K =>
  kO (binV Try.prog .eql 3 true (tg tm 55) (.int .i64 (0))) ds h (fun v0 ds h =>
  K .norm (T.set tm 57 v0) ds h)
noncomputable def r50_15 : CodeT := fun call _ tm ds h K =>
  K .norm (T.set (T.set tm 8 (tg tm 13)) 9 (.int .i64 (1))) ds h
noncomputable def r50_16 : CodeT := fun call _ tm ds h K =>
  kO (binV Try.prog .eql 3 true (tg tm 55) (.int .i64 (12))) ds h (fun v0 ds h =>
  K .norm (T.set tm 60 v0) ds h)
noncomputable def r50_17 : CodeT := fun call _ tm ds h K =>
  K .norm (T.set (T.set tm 8 (tg tm 13)) 9 (.int .i64 (2))) ds h
noncomputable def r50_13 : CodeT := fun call _ tm ds h K =>
  K .norm (T.set (T.set tm 8 (tg tm 13)) 9 (.int .i64 (0))) ds h
noncomputable def c50 : Box CodeT := ⟨seqC ⟨r50_0⟩ ⟨seqC ⟨r50_1⟩ ⟨seqC ⟨r50_2⟩ ⟨seqC ⟨r50_3⟩ ⟨seqC ⟨r50_4⟩ ⟨seqC ⟨r50_5⟩ ⟨seqC ⟨seqC ⟨r50_6⟩ ⟨condC ⟨fun _ tm => tg tm 34⟩ ⟨seqC ⟨seqC ⟨r50_7⟩ ⟨condC ⟨fun _ tm => tg tm 36⟩ ⟨seqC ⟨r50_8⟩ ⟨seqC ⟨r50_9⟩ ⟨r50_10⟩⟩⟩ skipC⟩⟩ ⟨r50_11⟩⟩ skipC⟩⟩ ⟨seqC ⟨r50_12⟩ ⟨blockC 0 ⟨seqC ⟨r50_14⟩ ⟨condC ⟨fun _ tm => tg tm 57⟩ ⟨seqC ⟨r50_15⟩ retC⟩ ⟨seqC ⟨r50_16⟩ ⟨condC ⟨fun _ tm => tg tm 60⟩ ⟨seqC ⟨r50_17⟩ retC⟩ ⟨seqC ⟨r50_13⟩ retC⟩⟩⟩⟩⟩⟩⟩⟩⟩⟩⟩⟩⟩⟩
noncomputable def q50 : Box (T Value → H → Option (List Value)) := ⟨fun tm h => some [tg tm 8, tg tm 9]⟩
/-! 51 slices.reverseRangeCmpFunc[cloakroom/api.Name] -/
noncomputable def r51_0 : CodeT := fun call _ tm ds h K =>
  K .norm (T.set tm 8 (tg tm 1)) ds h
noncomputable def r51_1 : CodeT := fun call _ tm ds h K =>
  kO (binV Try.prog .sub 3 true (tg tm 2) (.int .i64 (1))) ds h (fun v1 ds h =>
  K .norm (T.set tm 9 v1) ds h)
noncomputable def r51_2 : CodeT := fun call _ tm ds h K =>
  kO (binV Try.prog .lss 3 false (tg tm 8) (tg tm 9)) ds h (fun v2 ds h =>
  K .norm (T.set tm 15 v2) ds h)
noncomputable def r51_3 : CodeT := fun call _ tm ds h0 K =>
  (fun (b0 : Nat) (h : H) =>
  kO (indexSl 2 (tg tm 0) (tg tm 9)) ds h (fun v6 ds h =>
  kO (loadAgg 2 h v6) ds h (fun v7 ds h =>
  kO (indexSl 2 (tg tm 0) (tg tm 8)) ds h (fun v10 ds h =>
  kO (loadAgg 2 h v10) ds h (fun v11 ds h =>
  kO (indexSl 2 (tg tm 0) (tg tm 8)) ds h (fun v12 ds h =>
  kH (withV undef (storeV 2 h v12 v7)) ds (fun v13 ds h =>
  kO (indexSl 2 (tg tm 0) (tg tm 9)) ds h (fun v14 ds h =>
  kH (withV undef (storeV 2 h v14 v11)) ds (fun v15 ds h =>
  K .norm tm ds h))))))))) h0.next ⟨h0.objs, h0.next + 16⟩
noncomputable def r51_4 : CodeT := fun call _ tm ds h K =>
  kO (binV Try.prog .add 3 true (tg tm 8) (.int .i64 (1))) ds h (fun v1 ds h =>
  K .norm (T.set tm 8 v1) ds h)
noncomputable def r51_5 : CodeT := fun call _ tm ds h K =>
  kO (binV Try.prog .sub 3 true (tg tm 9) (.int .i64 (1))) ds h (fun v1 ds h =>
  K .norm (T.set tm 9 v1) ds h)
noncomputable def l51_6 : Box CodeT := ⟨seqC ⟨seqC ⟨r51_2⟩ ⟨condC ⟨fun _ tm => tg tm 15⟩ skipC (exitC 0)⟩⟩ ⟨blockC 1 ⟨seqC ⟨r51_3⟩ ⟨seqC ⟨r51_4⟩ ⟨r51_5⟩⟩⟩⟩⟩
noncomputable def c51 : Box CodeT := ⟨seqC ⟨r51_0⟩ ⟨seqC ⟨r51_1⟩ ⟨blockC 0 (loopB l51_6)⟩⟩⟩
noncomputable def q51 : Box (T Value → H → Option (List Value)) := ⟨fun tm h => some []⟩
/-! 52 slices.partialInsertionSortCmpFunc[cloakroom/api.Name] -/
noncomputable def r52_0 : CodeT := fun call _ tm ds h K =>
  K .norm (T.set tm 8 (.bool false)) ds h
noncomputable def r52_1 : CodeT := fun call _ tm ds h K =>
  kO (binV Try.prog .add 3 true (tg tm 1) (.int .i64 (1))) ds h (fun v1 ds h =>
  K .norm (T.set tm 9 v1) ds h)
noncomputable def r52_2 : CodeT := fun call _ tm ds h K =>
  K .norm (T.set tm 10 (.int .i64 (0))) ds h
noncomputable def r52_3 : CodeT := fun call _ tm ds h K =>
  kO (binV Try.prog .lss 3 true (tg tm 10) (.int .i64 (5))) ds h (fun v1 ds h =>
  K .norm (T.set tm 16 v1) ds h)
noncomputable def r52_5 : CodeT := fun call _ tm ds h0 K =>
  (fun (b0 : Nat) (h : H) =>
  kO (binV Try.prog .lss 3 false (tg tm 9) (tg tm 2)) ds h (fun v2 ds h =>
  gd (isB true v2) (fun k => kO (some (tg tm 3)) ds h k) ds h (fun v4 ds h =>
  gd (isB true v2) (fun k => kO (some (tg tm 0)) ds h k) ds h (fun v5 ds h =>
  gd (isB true v2) (fun k => kO (some (tg tm 9)) ds h k) ds h (fun v6 ds h =>
  gd (isB true v2) (fun k => kO (indexSl 2 v5 v6) ds h k) ds h (fun v7 ds h =>
  ite2 (isB true v2) (kO (loadAgg 2 h v7) ds h (fun v8 ds h =>
  gd (isB true v2) (fun k => kO (some (tg tm 0)) ds h k) ds h (fun v9 ds h =>
  gd (isB true v2) (fun k => kO (some (tg tm 9)) ds h k) ds h (fun v10 ds h =>
  gd (isB true v2) (fun k => kO (binV Try.prog .sub 3 true v10 (.int .i64 (1))) ds h k) ds h (fun v11 ds h =>
  gd (isB true v2) (fun k => kO (indexSl 2 v9 v11) ds h k) ds h (fun v12 ds h =>
  ite2 (isB true v2) (kO (loadAgg 2 h v12) ds h (fun v13 ds h =>
  ite2 (isB true v2) (goCall call (funcArgs v4 [v8, v13]) ds h (fun v14 ds h =>
  gd (isB true v2) (fun k => kO (binV Try.prog .lss 3 true v14 (.int .i64 (0))) ds h k) ds h (fun v15 ds h =>
  gd (isB true v2) (fun k => kO (unV .not v15) ds h k) ds h (fun v16 ds h =>
  kO (pickV v2 v16 (.bool false)) ds h (fun v17 ds h =>
  K .norm (T.set tm 36 v17) ds h)))))
  (gd (isB true v2) (fun k => kO (binV Try.prog .lss 3 true undef (.int .i64 (0))) ds h k) ds h (fun v15 ds h =>
  gd (isB true v2) (fun k => kO (unV .not v15) ds h k) ds h (fun v16 ds h =>
  kO (pickV v2 v16 (.bool false)) ds h (fun v17 ds h =>
  K .norm (T.set tm 36 v17) ds h))))))
  (ite2 (isB true v2) (goCall call (funcArgs v4 [v8, undef]) ds h (fun v14 ds h =>
  gd (isB true v2) (fun k => kO (binV Try.prog .lss 3 true v14 (.int .i64 (0))) ds h k) ds h (fun v15 ds h =>
  gd (isB true v2) (fun k => kO (unV .not v15) ds h k) ds h (fun v16 ds h =>
  kO (pickV v2 v16 (.bool false)) ds h (fun v17 ds h =>
  K .norm (T.set tm 36 v17) ds h)))))
  (gd (isB true v2) (fun k => kO (binV Try.prog .lss 3 true undef (.int .i64 (0))) ds h k) ds h (fun v15 ds h =>
  gd (isB true v2) (fun k => kO (unV .not v15) ds h k) ds h (fun v16 ds h =>
  kO (pickV v2 v16 (.bool false)) ds h (fun v17 ds h =>
  K .norm (T.set tm 36 v17) ds h)))))))))))
  (gd (isB true v2) (fun k => kO (some (tg tm 0)) ds h k) ds h (fun v9 ds h =>
  gd (isB true v2) (fun k => kO (some (tg tm 9)) ds h k) ds h (fun v10 ds h =>
  gd (isB true v2) (fun k => kO (binV Try.prog .sub 3 true v10 (.int .i64 (1))) ds h k) ds h (fun v11 ds h =>
  gd (isB true v2) (fun k => kO (indexSl 2 v9 v11) ds h k) ds h (fun v12 ds h =>
  ite2 (isB true v2) (kO (loadAgg 2 h v12) ds h (fun v13 ds h =>
  ite2 (isB true v2) (goCall call (funcArgs v4 [undef, v13]) ds h (fun v14 ds h =>
  gd (isB true v2) (fun k => kO (binV Try.prog .lss 3 true v14 (.int .i64 (0))) ds h k) ds h (fun v15 ds h =>
  gd (isB true v2) (fun k => kO (unV .not v15) ds h k) ds h (fun v16 ds h =>
  kO (pickV v2 v16 (.bool false)) ds h (fun v17 ds h =>
  K .norm (T.set tm 36 v17) ds h)))))
  (gd (isB true v2) (fun k => kO (binV Try.prog .lss 3 true undef (.int .i64 (0))) ds h k) ds h (fun v15 ds h =>
  gd (isB true v2) (fun k => kO (unV .not v15) ds h k) ds h (fun v16 ds h =>
  kO (pickV v2 v16 (.bool false)) ds h (fun v17 ds h =>
  K .norm (T.set tm 36 v17) ds h))))))
  (ite2 (isB true v2) (goCall call (funcArgs v4 [undef, undef]) ds h (fun v14 ds h =>
  gd (isB true v2) (fun k => kO (binV Try.prog .lss 3 true v14 (.int .i64 (0))) ds h k) ds h (fun v15 ds h =>
  gd (isB true v2) (fun k => kO (unV .not v15) ds h k) ds h (fun v16 ds h =>
  kO (pickV v2 v16 (.bool false)) ds h (fun v17 ds h =>
  K .norm (T.set tm 36 v17) ds h)))))
  (gd (isB true v2) (fun k => kO (binV Try.prog .lss 3 true undef (.int .i64 (0))) ds h k) ds h (fun v15 ds h =>
  gd (isB true v2) (fun k => kO (unV .not v15) ds h k) ds h (fun v16 ds h =>
  kO (pickV v2 v16 (.bool false)) ds h (fun v17 ds h =>
  K .norm (T.set tm 36 v17) ds h)))))))))))))))) h0.next ⟨h0.objs, h0.next + 18⟩
noncomputable def r52_6 : CodeT := fun call _ tm ds h K =>
  kO (binV Try.prog .add 3 true (tg tm 9) (.int .i64 (1))) ds h (fun v1 ds h =>
  K .norm (T.set tm 9 v1) ds h)
noncomputable def l52_6 : Box CodeT := ⟨seqC ⟨seqC ⟨r52_5⟩ ⟨condC ⟨fun _ tm => tg tm 36⟩ skipC (exitC 2)⟩⟩ ⟨blockC 3 ⟨r52_6⟩⟩⟩
noncomputable def r52_7 : CodeT := fun call _ tm ds h K =>
  kO (binV Try.prog .eql 3 false (tg tm 9) (tg tm 2)) ds h (fun v2 ds h =>
  K .norm (T.set tm 41 v2) ds h)
noncomputable def r52_8 : CodeT := fun call _ tm ds h K =>
  K .norm (T.set tm 8 (.bool true)) ds h
noncomputable def r52_9 : CodeT := fun call _ tm ds h K =>
  kO (binV Try.prog .sub 3 false (tg tm 2) (tg tm 1)) ds h (fun v2 ds h =>
  kO (binV Try.prog .lss 3 true v2 (.int .i64 (50))) ds h (fun v3 ds h =>
  K .norm (T.set tm 45 v3) ds h))
noncomputable def r52_10 : CodeT := fun call _ tm ds h K =>
  K .norm (T.set tm 8 (.bool false)) ds h
noncomputable def r52_11 : CodeT := fun call _ tm ds h0 K =>
  (fun (b0 : Nat) (h : H) =>
  kO (binV Try.prog .sub 3 true (tg tm 9) (.int .i64 (1))) ds h (fun v4 ds h =>
  kO (binV Try.prog .sub 3 true (tg tm 9) (.int .i64 (1))) ds h (fun v7 ds h =>
  kO (indexSl 2 (tg tm 0) v7) ds h (fun v8 ds h =>
  kO (loadAgg 2 h v8) ds h (fun v9 ds h =>
  kO (indexSl 2 (tg tm 0) (tg tm 9)) ds h (fun v12 ds h =>
  kO (loadAgg 2 h v12) ds h (fun v13 ds h =>
  kO (indexSl 2 (tg tm 0) (tg tm 9)) ds h (fun v14 ds h =>
  kH (withV undef (storeV 2 h v14 v9)) ds (fun v15 ds h =>
  kO (indexSl 2 (tg tm 0) v4) ds h (fun v16 ds h =>
  kH (withV undef (storeV 2 h v16 v13)) ds (fun v17 ds h =>
  K .norm tm ds h))))))))))) h0.next ⟨h0.objs, h0.next + 18⟩
noncomputable def r52_12 : CodeT := fun call _ tm ds h K =>
  kO (binV Try.prog .sub 3 false (tg tm 9) (tg tm 1)) ds h (fun v2 ds h =>
  kO (binV Try.prog .geq 3 true v2 (.int .i64 (2))) ds h (fun v3 ds h =>
  K .norm (T.set tm 65 v3) ds h))
noncomputable def r52_13 : CodeT := fun call _ tm ds h K =>
  kO (binV Try.prog .sub 3 true (tg tm 9) (.int .i64 (1))) ds h (fun v1 ds h =>
  K .norm (T.set tm 11 v1) ds h)
noncomputable def r52_14 : CodeT := fun call _ tm ds h K =>
  kO (binV Try.prog .geq 3 true (tg tm 11) (.int .i64 (1))) ds h (fun v1 ds h =>
  K .norm (T.set tm 69 v1) ds h)
noncomputable def r52_16 : CodeT := fun call _ tm ds h0 K =>
  (fun (b0 : Nat) (h : H) =>
  kO (indexSl 2 (tg tm 0) (tg tm 11)) ds h (fun v3 ds h =>
  kO (loadAgg 2 h v3) ds h (fun v4 ds h =>
  kO (binV Try.prog .sub 3 true (tg tm 11) (.int .i64 (1))) ds h (fun v7 ds h =>
  kO (indexSl 2 (tg tm 0) v7) ds h (fun v8 ds h =>
  kO (loadAgg 2 h v8) ds h (fun v9 ds h =>
  goCall call (funcArgs (tg tm 3) [v4, v9]) ds h (fun v10 ds h =>
  kO (binV Try.prog .lss 3 true v10 (.int .i64 (0))) ds h (fun v11 ds h =>
  kO (unV .not v11) ds h (fun v12 ds h =>
  K .norm (T.set tm 84 v12) ds h))))))))) h0.next ⟨h0.objs, h0.next + 13⟩
noncomputable def r52_17 : CodeT := fun call _ tm ds h0 K =>
  (fun (b0 : Nat) (h : H) =>
  kO (binV Try.prog .sub 3 true (tg tm 11) (.int .i64 (1))) ds h (fun v4 ds h =>
  kO (binV Try.prog .sub 3 true (tg tm 11) (.int .i64 (1))) ds h (fun v7 ds h =>
  kO (indexSl 2 (tg tm 0) v7) ds h (fun v8 ds h =>
  kO (loadAgg 2 h v8) ds h (fun v9 ds h =>
  kO (indexSl 2 (tg tm 0) (tg tm 11)) ds h (fun v12 ds h =>
  kO (loadAgg 2 h v12) ds h (fun v13 ds h =>
  kO (indexSl 2 (tg tm 0) (tg tm 11)) ds h (fun v14 ds h =>
  kH (withV undef (storeV 2 h v14 v9)) ds (fun v15 ds h =>
  kO (indexSl 2 (tg tm 0) v4) ds h (fun v16 ds h =>
  kH (withV undef (storeV 2 h v16 v13)) ds (fun v17 ds h =>
  K .norm tm ds h))))))))))) h0.next ⟨h0.objs, h0.next + 18⟩
noncomputable def r52_15 : CodeT := fun call _ tm ds h K =>
  kO (binV Try.prog .sub 3 true (tg tm 11) (.int .i64 (1))) ds h (fun v1 ds h =>
  K .norm (T.set tm 11 v1) ds h)
noncomputable def l52_18 : Box CodeT := ⟨seqC ⟨seqC ⟨r52_14⟩ ⟨condC ⟨fun _ tm => tg tm 69⟩ skipC (exitC 4)⟩⟩ ⟨seqC ⟨blockC 5 ⟨seqC ⟨seqC ⟨r52_16⟩ ⟨condC ⟨fun _ tm => tg tm 84⟩ (exitC 4) skipC⟩⟩ ⟨r52_17⟩⟩⟩ ⟨r52_15⟩⟩⟩
noncomputable def r52_18 : CodeT := fun call _ tm ds h K =>
  kO (binV Try.prog .sub 3 false (tg tm 2) (tg tm 9)) ds h (fun v2 ds h =>
  kO (binV Try.prog .geq 3 true v2 (.int .i64 (2))) ds h (fun v3 ds h =>
  K .norm (T.set tm 104 v3) ds h))
noncomputable def r52_19 : CodeT := fun call _ tm ds h K =>
  kO (binV Try.prog .add 3 true (tg tm 9) (.int .i64 (1))) ds h (fun v1 ds h =>
  K .norm (T.set tm 12 v1) ds h)
noncomputable def r52_20 : CodeT := fun call _ tm ds h K =>
  kO (binV Try.prog .lss 3 false (tg tm 12) (tg tm 2)) ds h (fun v2 ds h =>
  K .norm (T.set tm 109 v2) ds h)
noncomputable def r52_22 : CodeT := fun call _ tm ds h0 K =>
  (fun (b0 : Nat) (h : H) =>
  kO (indexSl 2 (tg tm 0) (tg tm 12)) ds h (fun v3 ds h =>
  kO (loadAgg 2 h v3) ds h (fun v4 ds h =>
  kO (binV Try.prog .sub 3 true (tg tm 12) (.int .i64 (1))) ds h (fun v7 ds h =>
  kO (indexSl 2 (tg tm 0) v7) ds h (fun v8 ds h =>
  kO (loadAgg 2 h v8) ds h (fun v9 ds h =>
  goCall call (funcArgs (tg tm 3) [v4, v9]) ds h (fun v10 ds h =>
  kO (binV Try.prog .lss 3 true v10 (.int .i64 (0))) ds h (fun v11 ds h =>
  kO (unV .not v11) ds h (fun v12 ds h =>
  K .norm (T.set tm 124 v12) ds h))))))))) h0.next ⟨h0.objs, h0.next + 13⟩
noncomputable def r52_23 : CodeT := fun call _ tm ds h0 K =>
  (fun (b0 : Nat) (h : H) =>
  kO (binV Try.prog .sub 3 true (tg tm 12) (.int .i64 (1))) ds h (fun v4 ds h =>
  kO (binV Try.prog .sub 3 true (tg tm 12) (.int .i64 (1))) ds h (fun v7 ds h =>
  kO (indexSl 2 (tg tm 0) v7) ds h (fun v8 ds h =>
  kO (loadAgg 2 h v8) ds h (fun v9 ds h =>
  kO (indexSl 2 (tg tm 0) (tg tm 12)) ds h (fun v12 ds h =>
  kO (loadAgg 2 h v12) ds h (fun v13 ds h =>
  kO (indexSl 2 (tg tm 0) (tg tm 12)) ds h (fun v14 ds h =>
  kH (withV undef (storeV 2 h v14 v9)) ds (fun v15 ds h =>
  kO (indexSl 2 (tg tm 0) v4) ds h (fun v16 ds h =>
  kH (withV undef (storeV 2 h v16 v13)) ds (fun v17 ds h =>
  K .norm tm ds h))))))))))) h0.next ⟨h0.objs, h0.next + 18⟩
noncomputable def r52_21 : CodeT := fun call _ tm ds h K =>
  kO (binV Try.prog .add 3 true (tg tm 12) (.int .i64 (1))) ds h (fun v1 ds h =>
  K .norm (T.set tm 12 v1) ds h)
noncomputable def l52_25 : Box CodeT := ⟨seqC ⟨seqC ⟨r52_20⟩ ⟨condC ⟨fun _ tm => tg tm 109⟩ skipC (exitC 6)⟩⟩ ⟨seqC ⟨blockC 7 ⟨seqC ⟨seqC ⟨r52_22⟩ ⟨condC ⟨fun _ tm => tg tm 124⟩ (exitC 6) skipC⟩⟩ ⟨r52_23⟩⟩⟩ ⟨r52_21⟩⟩⟩
noncomputable def r52_4 : CodeT := fun call _ tm ds h K =>
  kO (binV Try.prog .add 3 true (tg tm 10) (.int .i64 (1))) ds h (fun v1 ds h =>
  K .norm (T.set tm 10 v1) ds h)
noncomputable def l52_27 : Box CodeT := ⟨seqC ⟨seqC ⟨r52_3⟩ ⟨condC ⟨fun _ tm => tg tm 16⟩ skipC (exitC 0)⟩⟩ ⟨seqC ⟨blockC 1 ⟨seqC ⟨blockC 2 (loopB l52_6)⟩ ⟨seqC ⟨seqC ⟨r52_7⟩ ⟨condC ⟨fun _ tm => tg tm 41⟩ ⟨seqC ⟨r52_8⟩ retC⟩ skipC⟩⟩ ⟨seqC ⟨seqC ⟨r52_9⟩ ⟨condC ⟨fun _ tm => tg tm 45⟩ ⟨seqC ⟨r52_10⟩ retC⟩ skipC⟩⟩ ⟨seqC ⟨r52_11⟩ ⟨seqC ⟨seqC ⟨r52_12⟩ ⟨condC ⟨fun _ tm => tg tm 65⟩ ⟨seqC ⟨r52_13⟩ ⟨blockC 4 (loopB l52_18)⟩⟩ skipC⟩⟩ ⟨seqC ⟨r52_18⟩ ⟨condC ⟨fun _ tm => tg tm 104⟩ ⟨seqC ⟨r52_19⟩ ⟨blockC 6 (loopB l52_25)⟩⟩ skipC⟩⟩⟩⟩⟩⟩⟩⟩ ⟨r52_4⟩⟩⟩
noncomputable def r52_24 : CodeT := fun call _ tm ds h K =>
  K .norm (T.set tm 8 (.bool false)) ds h
noncomputable def c52 : Box CodeT := ⟨seqC ⟨r52_0⟩ ⟨seqC ⟨r52_1⟩ ⟨seqC ⟨seqC ⟨r52_2⟩ ⟨blockC 0 (loopB l52_27)⟩⟩ ⟨seqC ⟨r52_24⟩ retC⟩⟩⟩⟩
noncomputable def q52 : Box (T Value → H → Option (List Value)) := ⟨fun tm h => some [tg tm 8]⟩
/-! 53 slices.partitionEqualCmpFunc[cloakroom/api.Name] -/
/-! 54 slices.partitionCmpFunc[cloakroom/api.Name] -/
noncomputable def r54_0 : CodeT := fun call _ tm ds h K =>
  K .norm (T.set (T.set tm 10 (.int .i64 (0))) 11 (.bool false)) ds h
noncomputable def r54_1 : CodeT := fun call _ tm ds h0 K =>
  (fun (b0 : Nat) (h : H) =>
  kO (indexSl 2 (tg tm 0) (tg tm 3)) ds h (fun v6 ds h =>
  kO (loadAgg 2 h v6) ds h (fun v7 ds h =>
  kO (indexSl 2 (tg tm 0) (tg tm 1)) ds h (fun v10 ds h =>
  kO (loadAgg 2 h v10) ds h (fun v11 ds h =>
  kO (indexSl 2 (tg tm 0) (tg tm 1)) ds h (fun v12 ds h =>
  kH (withV undef (storeV 2 h v12 v7)) ds (fun v13 ds h =>
  kO (indexSl 2 (tg tm 0) (tg tm 3)) ds h (fun v14 ds h =>
  kH (withV undef (storeV 2 h v14 v11)) ds (fun v15 ds h =>
  K .norm tm ds h))))))))) h0.next ⟨h0.objs, h0.next + 16⟩
noncomputable def r54_2 : CodeT := fun call _ tm ds h K =>
  kO (binV Try.prog .add 3 true (tg tm 1) (.int .i64 (1))) ds h (fun v1 ds h =>
  kO (binV Try.prog .sub 3 true (tg tm 2) (.int .i64 (1))) ds h (fun v3 ds h =>
  K .norm (T.set (T.set tm 12 v1) 13 v3) ds h))
noncomputable def r54_3 : CodeT := fun call _ tm ds h0 K =>
  (fun (b0 : Nat) (h : H) =>
  kO (binV Try.prog .leq 3 false (tg tm 12) (tg tm 13)) ds h (fun v2 ds h =>
  gd (isB true v2) (fun k => kO (some (tg tm 4)) ds h k) ds h (fun v4 ds h =>
  gd (isB true v2) (fun k => kO (some (tg tm 0)) ds h k) ds h (fun v5 ds h =>
  gd (isB true v2) (fun k => kO (some (tg tm 12)) ds h k) ds h (fun v6 ds h =>
  gd (isB true v2) (fun k => kO (indexSl 2 v5 v6) ds h k) ds h (fun v7 ds h =>
  ite2 (isB true v2) (kO (loadAgg 2 h v7) ds h (fun v8 ds h =>
  gd (isB true v2) (fun k => kO (some (tg tm 0)) ds h k) ds h (fun v9 ds h =>
  gd (isB true v2) (fun k => kO (some (tg tm 1)) ds h k) ds h (fun v10 ds h =>
  gd (isB true v2) (fun k => kO (indexSl 2 v9 v10) ds h k) ds h (fun v11 ds h =>
  ite2 (isB true v2) (kO (loadAgg 2 h v11) ds h (fun v12 ds h =>
  ite2 (isB true v2) (goCall call (funcArgs v4 [v8, v12]) ds h (fun v13 ds h =>
  gd (isB true v2) (fun k => kO (binV Try.prog .lss 3 true v13 (.int .i64 (0))) ds h k) ds h (fun v14 ds h =>
  kO (pickV v2 v14 (.bool false)) ds h (fun v15 ds h =>
  K .norm (T.set tm 47 v15) ds h))))
  (gd (isB true v2) (fun k => kO (binV Try.prog .lss 3 true undef (.int .i64 (0))) ds h k) ds h (fun v14 ds h =>
  kO (pickV v2 v14 (.bool false)) ds h (fun v15 ds h =>
  K .norm (T.set tm 47 v15) ds h)))))
  (ite2 (isB true v2) (goCall call (funcArgs v4 [v8, undef]) ds h (fun v13 ds h =>
  gd (isB true v2) (fun k => kO (binV Try.prog .lss 3 true v13 (.int .i64 (0))) ds h k) ds h (fun v14 ds h =>
  kO (pickV v2 v14 (.bool false)) ds h (fun v15 ds h =>
  K .norm (T.set tm 47 v15) ds h))))
  (gd (isB true v2) (fun k => kO (binV Try.prog .lss 3 true undef (.int .i64 (0))) ds h k) ds h (fun v14 ds h =>
  kO (pickV v2 v14 (.bool false)) ds h (fun v15 ds h =>
  K .norm (T.set tm 47 v15) ds h)))))))))
  (gd (isB true v2) (fun k => kO (some (tg tm 0)) ds h k) ds h (fun v9 ds h =>
  gd (isB true v2) (fun k => kO (some (tg tm 1)) ds h k) ds h (fun v10 ds h =>
  gd (isB true v2) (fun k => kO (indexSl 2 v9 v10) ds h k) ds h (fun v11 ds h =>
  ite2 (isB true v2) (kO (loadAgg 2 h v11) ds h (fun v12 ds h =>
  ite2 (isB true v2) (goCall call (funcArgs v4 [undef, v12]) ds h (fun v13 ds h =>
  gd (isB true v2) (fun k => kO (binV Try.prog .lss 3 true v13 (.int .i64 (0))) ds h k) ds h (fun v14 ds h =>
  kO (pickV v2 v14 (.bool false)) ds h (fun v15 ds h =>
  K .norm (T.set tm 47 v15) ds h))))
  (gd (isB true v2) (fun k => kO (binV Try.prog .lss 3 true undef (.int .i64 (0))) ds h k) ds h (fun v14 ds h =>
  kO (pickV v2 v14 (.bool false)) ds h (fun v15 ds h =>
  K .norm (T.set tm 47 v15) ds h)))))
  (ite2 (isB true v2) (goCall call (funcArgs v4 [undef, undef]) ds h (fun v13 ds h =>
  gd (isB true v2) (fun k => kO (binV Try.prog .lss 3 true v13 (.int .i64 (0))) ds h k) ds h (fun v14 ds h =>
  kO (pickV v2 v14 (.bool false)) ds h (fun v15 ds h =>
  K .norm (T.set tm 47 v15) ds h))))
  (gd (isB true v2) (fun k => kO (binV Try.prog .lss 3 true undef (.int .i64 (0))) ds h k) ds h (fun v14 ds h =>
  kO (pickV v2 v14 (.bool false)) ds h (fun v15 ds h =>
  K .norm (T.set tm 47 v15) ds h)))))))))))))) h0.next ⟨h0.objs, h0.next + 16⟩
noncomputable def r54_4 : CodeT := fun call _ tm ds h K =>
  kO (binV Try.prog .add 3 true (tg tm 12) (.int .i64 (1))) ds h (fun v1 ds h =>
  K .norm (T.set tm 12 v1) ds h)
noncomputable def l54_5 : Box CodeT := ⟨seqC ⟨seqC ⟨r54_3⟩ ⟨condC ⟨fun _ tm => tg tm 47⟩ skipC (exitC 0)⟩⟩ ⟨blockC 1 ⟨r54_4⟩⟩⟩
noncomputable def r54_5 : CodeT := fun call _ tm ds h0 K =>
  (fun (b0 : Nat) (h : H) =>
  kO (binV Try.prog .leq 3 false (tg tm 12) (tg tm 13)) ds h (fun v2 ds h =>
  gd (isB true v2) (fun k => kO (some (tg tm 4)) ds h k) ds h (fun v4 ds h =>
  gd (isB true v2) (fun k => kO (some (tg tm 0)) ds h k) ds h (fun v5 ds h =>
  gd (isB true v2) (fun k => kO (some (tg tm 13)) ds h k) ds h (fun v6 ds h =>
  gd (isB true v2) (fun k => kO (indexSl 2 v5 v6) ds h k) ds h (fun v7 ds h =>
  ite2 (isB true v2) (kO (loadAgg 2 h v7) ds h (fun v8 ds h =>
  gd (isB true v2) (fun k => kO (some (tg tm 0)) ds h k) ds h (fun v9 ds h =>
  gd (isB true v2) (fun k => kO (some (tg tm 1)) ds h k) ds h (fun v10 ds h =>
  gd (isB true v2) (fun k => kO (indexSl 2 v9 v10) ds h k) ds h (fun v11 ds h =>
  ite2 (isB true v2) (kO (loadAgg 2 h v11) ds h (fun v12 ds h =>
  ite2 (isB true v2) (goCall call (funcArgs v4 [v8, v12]) ds h (fun v13 ds h =>
  gd (isB true v2) (fun k => kO (binV Try.prog .lss 3 true v13 (.int .i64 (0))) ds h k) ds h (fun v14 ds h =>
  gd (isB true v2) (fun k => kO (unV .not v14) ds h k) ds h (fun v15 ds h =>
  kO (pickV v2 v15 (.bool false)) ds h (fun v16 ds h =>
  K .norm (T.set tm 66 v16) ds h)))))
  (gd (isB true v2) (fun k => kO (binV Try.prog .lss 3 true undef (.int .i64 (0))) ds h k) ds h (fun v14 ds h =>
  gd (isB true v2) (fun k => kO (unV .not v14) ds h k) ds h (fun v15 ds h =>
  kO (pickV v2 v15 (.bool false)) ds h (fun v16 ds h =>
  K .norm (T.set tm 66 v16) ds h))))))
  (ite2 (isB true v2) (goCall call (funcArgs v4 [v8, undef]) ds h (fun v13 ds h =>
  gd (isB true v2) (fun k => kO (binV Try.prog .lss 3 true v13 (.int .i64 (0))) ds h k) ds h (fun v14 ds h =>
  gd (isB true v2) (fun k => kO (unV .not v14) ds h k) ds h (fun v15 ds h =>
  kO (pickV v2 v15 (.bool false)) ds h (fun v16 ds h =>
  K .norm (T.set tm 66 v16) ds h)))))
  (gd (isB true v2) (fun k => kO (binV Try.prog .lss 3 true undef (.int .i64 (0))) ds h k) ds h (fun v14 ds h =>
  gd (isB true v2) (fun k => kO (unV .not v14) ds h k) ds h (fun v15 ds h =>
  kO (pickV v2 v15 (.bool false)) ds h (fun v16 ds h =>
  K .norm (T.set tm 66 v16) ds h))))))))))
  (gd (isB true v2) (fun k => kO (some (tg tm 0)) ds h k) ds h (fun v9 ds h =>
  gd (isB true v2) (fun k => kO (some (tg tm 1)) ds h k) ds h (fun v10 ds h =>
  gd (isB true v2) (fun k => kO (indexSl 2 v9 v10) ds h k) ds h (fun v11 ds h =>
  ite2 (isB true v2) (kO (loadAgg 2 h v11) ds h (fun v12 ds h =>
  ite2 (isB true v2) (goCall call (funcArgs v4 [undef, v12]) ds h (fun v13 ds h =>
  gd (isB true v2) (fun k => kO (binV Try.prog .lss 3 true v13 (.int .i64 (0))) ds h k) ds h (fun v14 ds h =>
  gd (isB true v2) (fun k => kO (unV .not v14) ds h k) ds h (fun v15 ds h =>
  kO (pickV v2 v15 (.bool false)) ds h (fun v16 ds h =>
  K .norm (T.set tm 66 v16) ds h)))))
  (gd (isB true v2) (fun k => kO (binV Try.prog .lss 3 true undef (.int .i64 (0))) ds h k) ds h (fun v14 ds h =>
  gd (isB true v2) (fun k => kO (unV .not v14) ds h k) ds h (fun v15 ds h =>
  kO (pickV v2 v15 (.bool false)) ds h (fun v16 ds h =>
  K .norm (T.set tm 66 v16) ds h))))))
  (ite2 (isB true v2) (goCall call (funcArgs v4 [undef, undef]) ds h (fun v13 ds h =>
  gd (isB true v2) (fun k => kO (binV Try.prog .lss 3 true v13 (.int .i64 (0))) ds h k) ds h (fun v14 ds h =>
  gd (isB true v2) (fun k => kO (unV .not v14) ds h k) ds h (fun v15 ds h =>
  kO (pickV v2 v15 (.bool false)) ds h (fun v16 ds h =>
  K .norm (T.set tm 66 v16) ds h)))))
  (gd (isB true v2) (fun k => kO (binV Try.prog .lss 3 true undef (.int .i64 (0))) ds h k) ds h (fun v14 ds h =>
  gd (isB true v2) (fun k => kO (unV .not v14) ds h k) ds h (fun v15 ds h =>
  kO (pickV v2 v15 (.bool false)) ds h (fun v16 ds h =>
  K .norm (T.set tm 66 v16) ds h))))))))))))))) h0.next ⟨h0.objs, h0.next + 17⟩
noncomputable def r54_6 : CodeT := fun call _ tm ds h K =>
  kO (binV Try.prog .sub 3 true (tg tm 13) (.int .i64 (1))) ds h (fun v1 ds h =>
  K .norm (T.set tm 13 v1) ds h)
noncomputable def l54_8 : Box CodeT := ⟨seqC ⟨seqC ⟨r54_5⟩ ⟨condC ⟨fun _ tm => tg tm 66⟩ skipC (exitC 2)⟩⟩ ⟨blockC 3 ⟨r54_6⟩⟩⟩
noncomputable def r54_7 : CodeT := fun call _ tm ds h K =>
  kO (binV Try.prog .gtr 3 false (tg tm 12) (tg tm 13)) ds h (fun v2 ds h =>
  K .norm (T.set tm 71 v2) ds h)
noncomputable def r54_8 : CodeT := fun call _ tm ds h0 K =>
  (fun (b0 : Nat) (h : H) =>
  kO (indexSl 2 (tg tm 0) (tg tm 1)) ds h (fun v6 ds h =>
  kO (loadAgg 2 h v6) ds h (fun v7 ds h =>
  kO (indexSl 2 (tg tm 0) (tg tm 13)) ds h (fun v10 ds h =>
  kO (loadAgg 2 h v10) ds h (fun v11 ds h =>
  kO (indexSl 2 (tg tm 0) (tg tm 13)) ds h (fun v12 ds h =>
  kH (withV undef (storeV 2 h v12 v7)) ds (fun v13 ds h =>
  kO (indexSl 2 (tg tm 0) (tg tm 1)) ds h (fun v14 ds h =>
  kH (withV undef (storeV 2 h v14 v11)) ds (fun v15 ds h =>
  K .norm tm ds h))))))))) h0.next ⟨h0.objs, h0.next + 16⟩
noncomputable def r54_9 : CodeT := fun call _ tm ds h K =>
  K .norm (T.set (T.set tm 10 (tg tm 13)) 11 (.bool true)) ds h
noncomputable def r54_10 : CodeT := fun call _ tm ds h0 K =>
  (fun (b0 : Nat) (h : H) =>
  kO (indexSl 2 (tg tm 0) (tg tm 13)) ds h (fun v6 ds h =>
  kO (loadAgg 2 h v6) ds h (fun v7 ds h =>
  kO (indexSl 2 (tg tm 0) (tg tm 12)) ds h (fun v10 ds h =>
  kO (loadAgg 2 h v10) ds h (fun v11 ds h =>
  kO (indexSl 2 (tg tm 0) (tg tm 12)) ds h (fun v12 ds h =>
  kH (withV undef (storeV 2 h v12 v7)) ds (fun v13 ds h =>
  kO (indexSl 2 (tg tm 0) (tg tm 13)) ds h (fun v14 ds h =>
  kH (withV undef (storeV 2 h v14 v11)) ds (fun v15 ds h =>
  K .norm tm ds h))))))))) h0.next ⟨h0.objs, h0.next + 16⟩
noncomputable def r54_11 : CodeT := fun call _ tm ds h K =>
  kO (binV Try.prog .add 3 true (tg tm 12) (.int .i64 (1))) ds h (fun v1 ds h =>
  K .norm (T.set tm 12 v1) ds h)
noncomputable def r54_12 : CodeT := fun call _ tm ds h K =>
  kO (binV Try.prog .sub 3 true (tg tm 13) (.int .i64 (1))) ds h (fun v1 ds h =>
  K .norm (T.set tm 13 v1) ds h)
noncomputable def r54_13 : CodeT := fun call _ tm ds h0 K =>
  (fun (b0 : Nat) (h : H) =>
  kO (binV Try.prog .leq 3 false (tg tm 12) (tg tm 13)) ds h (fun v2 ds h =>
  gd (isB true v2) (fun k => kO (some (tg tm 4)) ds h k) ds h (fun v4 ds h =>
  gd (isB true v2) (fun k => kO (some (tg tm 0)) ds h k) ds h (fun v5 ds h =>
  gd (isB true v2) (fun k => kO (some (tg tm 12)) ds h k) ds h (fun v6 ds h =>
  gd (isB true v2) (fun k => kO (indexSl 2 v5 v6) ds h k) ds h (fun v7 ds h =>
  ite2 (isB true v2) (kO (loadAgg 2 h v7) ds h (fun v8 ds h =>
  gd (isB true v2) (fun k => kO (some (tg tm 0)) ds h k) ds h (fun v9 ds h =>
  gd (isB true v2) (fun k => kO (some (tg tm 1)) ds h k) ds h (fun v10 ds h =>
  gd (isB true v2) (fun k => kO (indexSl 2 v9 v10) ds h k) ds h (fun v11 ds h =>
  ite2 (isB true v2) (kO (loadAgg 2 h v11) ds h (fun v12 ds h =>
  ite2 (isB true v2) (goCall call (funcArgs v4 [v8, v12]) ds h (fun v13 ds h =>
  gd (isB true v2) (fun k => kO (binV Try.prog .lss 3 true v13 (.int .i64 (0))) ds h k) ds h (fun v14 ds h =>
  kO (pickV v2 v14 (.bool false)) ds h (fun v15 ds h =>
  K .norm (T.set tm 120 v15) ds h))))
  (gd (isB true v2) (fun k => kO (binV Try.prog .lss 3 true undef (.int .i64 (0))) ds h k) ds h (fun v14 ds h =>
  kO (pickV v2 v14 (.bool false)) ds h (fun v15 ds h =>
  K .norm (T.set tm 120 v15) ds h)))))
  (ite2 (isB true v2) (goCall call (funcArgs v4 [v8, undef]) ds h (fun v13 ds h =>
  gd (isB true v2) (fun k => kO (binV Try.prog .lss 3 true v13 (.int .i64 (0))) ds h k) ds h (fun v14 ds h =>
  kO (pickV v2 v14 (.bool false)) ds h (fun v15 ds h =>
  K .norm (T.set tm 120 v15) ds h))))
  (gd (isB true v2) (fun k => kO (binV Try.prog .lss 3 true undef (.int .i64 (0))) ds h k) ds h (fun v14 ds h =>
  kO (pickV v2 v14 (.bool false)) ds h (fun v15 ds h =>
  K .norm (T.set tm 120 v15) ds h)))))))))
  (gd (isB true v2) (fun k => kO (some (tg tm 0)) ds h k) ds h (fun v9 ds h =>
  gd (isB true v2) (fun k => kO (some (tg tm 1)) ds h k) ds h (fun v10 ds h =>
  gd (isB true v2) (fun k => kO (indexSl 2 v9 v10) ds h k) ds h (fun v11 ds h =>
  ite2 (isB true v2) (kO (loadAgg 2 h v11) ds h (fun v12 ds h =>
  ite2 (isB true v2) (goCall call (funcArgs v4 [undef, v12]) ds h (fun v13 ds h =>
  gd (isB true v2) (fun k => kO (binV Try.prog .lss 3 true v13 (.int .i64 (0))) ds h k) ds h (fun v14 ds h =>
  kO (pickV v2 v14 (.bool false)) ds h (fun v15 ds h =>
  K .norm (T.set tm 120 v15) ds h))))
  (gd (isB true v2) (fun k => kO (binV Try.prog .lss 3 true undef (.int .i64 (0))) ds h k) ds h (fun v14 ds h =>
  kO (pickV v2 v14 (.bool false)) ds h (fun v15 ds h =>
  K .norm (T.set tm 120 v15) ds h)))))
  (ite2 (isB true v2) (goCall call (funcArgs v4 [undef, undef]) ds h (fun v13 ds h =>
  gd (isB true v2) (fun k => kO (binV Try.prog .lss 3 true v13 (.int .i64 (0))) ds h k) ds h (fun v14 ds h =>
  kO (pickV v2 v14 (.bool false)) ds h (fun v15 ds h =>
  K .norm (T.set tm 120 v15) ds h))))
  (gd (isB true v2) (fun k => kO (binV Try.prog .lss 3 true undef (.int .i64 (0))) ds h k) ds h (fun v14 ds h =>
  kO (pickV v2 v14 (.bool false)) ds h (fun v15 ds h =>
  K .norm (T.set tm 120 v15) ds h)))))))))))))) h0.next ⟨h0.objs, h0.next + 16⟩
noncomputable def r54_14 : CodeT := fun call _ tm ds h K =>
  kO (binV Try.prog .add 3 true (tg tm 12) (.int .i64 (1))) ds h (fun v1 ds h =>
  K .norm (T.set tm 12 v1) ds h)
noncomputable def l54_17 : Box CodeT := ⟨seqC ⟨seqC ⟨r54_13⟩ ⟨condC ⟨fun _ tm => tg tm 120⟩ skipC (exitC 6)⟩⟩ ⟨blockC 7 ⟨r54_14⟩⟩⟩
noncomputable def r54_15 : CodeT := fun call _ tm ds h0 K =>
  (fun (b0 : Nat) (h : H) =>
  kO (binV Try.prog .leq 3 false (tg tm 12) (tg tm 13)) ds h (fun v2 ds h =>
  gd (isB true v2) (fun k => kO (some (tg tm 4)) ds h k) ds h (fun v4 ds h =>
  gd (isB true v2) (fun k => kO (some (tg tm 0)) ds h k) ds h (fun v5 ds h =>
  gd (isB true v2) (fun k => kO (some (tg tm 13)) ds h k) ds h (fun v6 ds h =>
  gd (isB true v2) (fun k => kO (indexSl 2 v5 v6) ds h k) ds h (fun v7 ds h =>
  ite2 (isB true v2) (kO (loadAgg 2 h v7) ds h (fun v8 ds h =>
  gd (isB true v2) (fun k => kO (some (tg tm 0)) ds h k) ds h (fun v9 ds h =>
  gd (isB true v2) (fun k => kO (some (tg tm 1)) ds h k) ds h (fun v10 ds h =>
  gd (isB true v2) (fun k => kO (indexSl 2 v9 v10) ds h k) ds h (fun v11 ds h =>
  ite2 (isB true v2) (kO (loadAgg 2 h v11) ds h (fun v12 ds h =>
  ite2 (isB true v2) (goCall call (funcArgs v4 [v8, v12]) ds h (fun v13 ds h =>
  gd (isB true v2) (fun k => kO (binV Try.prog .lss 3 true v13 (.int .i64 (0))) ds h k) ds h (fun v14 ds h =>
  gd (isB true v2) (fun k => kO (unV .not v14) ds h k) ds h (fun v15 ds h =>
  kO (pickV v2 v15 (.bool false)) ds h (fun v16 ds h =>
  K .norm (T.set tm 139 v16) ds h)))))
  (gd (isB true v2) (fun k => kO (binV Try.prog .lss 3 true undef (.int .i64 (0))) ds h k) ds h (fun v14 ds h =>
  gd (isB true v2) (fun k => kO (unV .not v14) ds h k) ds h (fun v15 ds h =>
  kO (pickV v2 v15 (.bool false)) ds h (fun v16 ds h =>
  K .norm (T.set tm 139 v16) ds h))))))
  (ite2 (isB true v2) (goCall call (funcArgs v4 [v8, undef]) ds h (fun v13 ds h =>
  gd (isB true v2) (fun k => kO (binV Try.prog .lss 3 true v13 (.int .i64 (0))) ds h k) ds h (fun v14 ds h =>
  gd (isB true v2) (fun k => kO (unV .not v14) ds h k) ds h (fun v15 ds h =>
  kO (pickV v2 v15 (.bool false)) ds h (fun v16 ds h =>
  K .norm (T.set tm 139 v16) ds h)))))
  (gd (isB true v2) (fun k => kO (binV Try.prog .lss 3 true undef (.int .i64 (0))) ds h k) ds h (fun v14 ds h =>
  gd (isB true v2) (fun k => kO (unV .not v14) ds h k) ds h (fun v15 ds h =>
  kO (pickV v2 v15 (.bool false)) ds h (fun v16 ds h =>
  K .norm (T.set tm 139 v16) ds h))))))))))
  (gd (isB true v2) (fun k => kO (some (tg tm 0)) ds h k) ds h (fun v9 ds h =>
  gd (isB true v2) (fun k => kO (some (tg tm 1)) ds h k) ds h (fun v10 ds h =>
  gd (isB true v2) (fun k => kO (indexSl 2 v9 v10) ds h k) ds h (fun v11 ds h =>
  ite2 (isB true v2) (kO (loadAgg 2 h v11) ds h (fun v12 ds h =>
  ite2 (isB true v2) (goCall call (funcArgs v4 [undef, v12]) ds h (fun v13 ds h =>
  gd (isB true v2) (fun k => kO (binV Try.prog .lss 3 true v13 (.int .i64 (0))) ds h k) ds h (fun v14 ds h =>
  gd (isB true v2) (fun k => kO (unV .not v14) ds h k) ds h (fun v15 ds h =>
  kO (pickV v2 v15 (.bool false)) ds h (fun v16 ds h =>
  K .norm (T.set tm 139 v16) ds h)))))
  (gd (isB true v2) (fun k => kO (binV Try.prog .lss 3 true undef (.int .i64 (0))) ds h k) ds h (fun v14 ds h =>
  gd (isB true v2) (fun k => kO (unV .not v14) ds h k) ds h (fun v15 ds h =>
  kO (pickV v2 v15 (.bool false)) ds h (fun v16 ds h =>
  K .norm (T.set tm 139 v16) ds h))))))
  (ite2 (isB true v2) (goCall call (funcArgs v4 [undef, undef]) ds h (fun v13 ds h =>
  gd (isB true v2) (fun k => kO (binV Try.prog .lss 3 true v13 (.int .i64 (0))) ds h k) ds h (fun v14 ds h =>
  gd (isB true v2) (fun k => kO (unV .not v14) ds h k) ds h (fun v15 ds h =>
  kO (pickV v2 v15 (.bool false)) ds h (fun v16 ds h =>
  K .norm (T.set tm 139 v16) ds h)))))
  (gd (isB true v2) (fun k => kO (binV Try.prog .lss 3 true undef (.int .i64 (0))) ds h k) ds h (fun v14 ds h =>
  gd (isB true v2) (fun k => kO (unV .not v14) ds h k) ds h (fun v15 ds h =>
  kO (pickV v2 v15 (.bool false)) ds h (fun v16 ds h =>
  K .norm (T.set tm 139 v16) ds h))))))))))))))) h0.next ⟨h0.objs, h0.next + 17⟩
noncomputable def r54_16 : CodeT := fun call _ tm ds h K =>
  kO (binV Try.prog .sub 3 true (tg tm 13) (.int .i64 (1))) ds h (fun v1 ds h =>
  K .norm (T.set tm 13 v1) ds h)
noncomputable def l54_20 : Box CodeT := ⟨seqC ⟨seqC ⟨r54_15⟩ ⟨condC ⟨fun _ tm => tg tm 139⟩ skipC (exitC 8)⟩⟩ ⟨blockC 9 ⟨r54_16⟩⟩⟩
noncomputable def r54_17 : CodeT := fun call _ tm ds h K =>
  kO (binV Try.prog .gtr 3 false (tg tm 12) (tg tm 13)) ds h (fun v2 ds h =>
  K .norm (T.set tm 144 v2) ds h)
noncomputable def r54_18 : CodeT := fun call _ tm ds h0 K =>
  (fun (b0 : Nat) (h : H) =>
  kO (indexSl 2 (tg tm 0) (tg tm 13)) ds h (fun v6 ds h =>
  kO (loadAgg 2 h v6) ds h (fun v7 ds h =>
  kO (indexSl 2 (tg tm 0) (tg tm 12)) ds h (fun v10 ds h =>
  kO (loadAgg 2 h v10) ds h (fun v11 ds h =>
  kO (indexSl 2 (tg tm 0) (tg tm 12)) ds h (fun v12 ds h =>
  kH (withV undef (storeV 2 h v12 v7)) ds (fun v13 ds h =>
  kO (indexSl 2 (tg tm 0) (tg tm 13)) ds h (fun v14 ds h =>
  kH (withV undef (storeV 2 h v14 v11)) ds (fun v15 ds h =>
  K .norm tm ds h))))))))) h0.next ⟨h0.objs, h0.next + 16⟩
noncomputable def r54_19 : CodeT := fun call _ tm ds h K =>
  kO (binV Try.prog .add 3 true (tg tm 12) (.int .i64 (1))) ds h (fun v1 ds h =>
  K .norm (T.set tm 12 v1) ds h)
noncomputable def r54_20 : CodeT := fun call _ tm ds h K =>
  kO (binV Try.prog .sub 3 true (tg tm 13) (.int .i64 (1))) ds h (fun v1 ds h =>
  K .norm (T.set tm 13 v1) ds h)
noncomputable def l54_25 : Box CodeT := ⟨blockC 5 ⟨seqC ⟨blockC 6 (loopB l54_17)⟩ ⟨seqC ⟨blockC 8 (loopB l54_20)⟩ ⟨seqC ⟨seqC ⟨r54_17⟩ ⟨condC ⟨fun _ tm => tg tm 144⟩ (exitC 4) skipC⟩⟩ ⟨seqC ⟨r54_18⟩ ⟨seqC ⟨r54_19⟩ ⟨r54_20⟩⟩⟩⟩⟩⟩⟩
noncomputable def r54_21 : CodeT := fun call _ tm ds h0 K =>
  (fun (b0 : Nat) (h : H) =>
  kO (indexSl 2 (tg tm 0) (tg tm 1)) ds h (fun v6 ds h =>
  kO (loadAgg 2 h v6) ds h (fun v7 ds h =>
  kO (indexSl 2 (tg tm 0) (tg tm 13)) ds h (fun v10 ds h =>
  kO (loadAgg 2 h v10) ds h (fun v11 ds h =>
  kO (indexSl 2 (tg tm 0) (tg tm 13)) ds h (fun v12 ds h =>
  kH (withV undef (storeV 2 h v12 v7)) ds (fun v13 ds h =>
  kO (indexSl 2 (tg tm 0) (tg tm 1)) ds h (fun v14 ds h =>
  kH (withV undef (storeV 2 h v14 v11)) ds (fun v15 ds h =>
  K .norm tm ds h))))))))) h0.next ⟨h0.objs, h0.next + 16⟩
noncomputable def r54_22 : CodeT := fun call _ tm ds h K =>
  K .norm (T.set (T.set tm 10 (tg tm 13)) 11 (.bool false)) ds h
noncomputable def c54 : Box CodeT := ⟨seqC ⟨r54_0⟩ ⟨seqC ⟨r54_1⟩ ⟨seqC ⟨r54_2⟩ ⟨seqC ⟨blockC 0 (loopB l54_5)⟩ ⟨seqC ⟨blockC 2 (loopB l54_8)⟩ ⟨seqC ⟨seqC ⟨r54_7⟩ ⟨condC ⟨fun _ tm => tg tm 71⟩ ⟨seqC ⟨r54_8⟩ ⟨seqC ⟨r54_9⟩ retC⟩⟩ skipC⟩⟩ ⟨seqC ⟨r54_10⟩ ⟨seqC ⟨r54_11⟩ ⟨seqC ⟨r54_12⟩ ⟨seqC ⟨blockC 4 (loopB l54_25)⟩ ⟨seqC ⟨r54_21⟩ ⟨seqC ⟨r54_22⟩ retC⟩⟩⟩⟩⟩⟩⟩⟩⟩⟩⟩⟩
noncomputable def q54 : Box (T Value → H → Option (List Value)) := ⟨fun tm h => some [tg tm 10, tg tm 11]⟩
/-! 55 math/bits.Len32 -/
/-! 57 cloakroom/cloakroomref01.Tenant -/
noncomputable def r57_0 : CodeT := fun call _ tm ds h K =>
  K .norm (T.set tm 2 (.bool false)) ds h
noncomputable def r57_1 : CodeT := fun call _ tm ds h K =>
  kO (binV Try.prog .geq 3 true (tg tm 0) (.int .i64 (0))) ds h (fun v1 ds h =>
  gd (isB true v1) (fun k => kO (some (tg tm 0)) ds h (k)) ds h (fun v3 ds h =>
  gd (isB true v1) (fun k => kO (binV Try.prog .lss 3 true v3 (.int .i64 (4))) ds h (k)) ds h (fun v4 ds h =>
  kO (pickV v1 v4 (.bool false)) ds h (fun v5 ds h =>
  K .norm (T.set tm 2 v5) ds h))))
noncomputable def c57 : Box CodeT := ⟨seqC ⟨r57_0⟩ ⟨seqC ⟨r57_1⟩ retC⟩⟩
noncomputable def q57 : Box (T Value → H → Option (List Value)) := ⟨fun tm h => some [tg tm 2]⟩
/-! 58 cloakroom/cloakroomref01.Key -/
noncomputable def r58_0 : CodeT := fun call _ tm ds h K =>
  K .norm (T.set tm 2 (.bool false)) ds h
noncomputable def r58_1 : CodeT := fun call _ tm ds h K => (⟨opStep ⟨fun call env tm ds h K => kO (some (tg tm 0)) ds h K⟩ ⟨fun v tm => tm⟩ ⟨fun env tm => true⟩
  ⟨opStep ⟨fun call env tm ds h K => kO (lenStr (nthD 0 env)) ds h K⟩ ⟨fun v tm => tm⟩ ⟨fun env tm => true⟩
  ⟨opStep ⟨fun call env tm ds h K => kO (binV Try.prog .geq 3 true (nthD 0 env) (.int .i64 (1))) ds h K⟩ ⟨fun v tm => tm⟩ ⟨fun env tm => true⟩
  ⟨opStep ⟨fun call env tm ds h K => kO (some (nthD 0 env)) ds h K⟩ ⟨fun v tm => tm⟩ ⟨fun env tm => true⟩
  ⟨opStep ⟨fun call env tm ds h K => kO (some (tg tm 0)) ds h K⟩ ⟨fun v tm => tm⟩ ⟨fun env tm => isB true (nthD 0 env)⟩
  ⟨opStep ⟨fun call env tm ds h K => kO (lenStr (nthD 0 env)) ds h K⟩ ⟨fun v tm => tm⟩ ⟨fun env tm => isB true (nthD 1 env)⟩
  ⟨opStep ⟨fun call env tm ds h K => kO (binV Try.prog .leq 3 true (nthD 0 env) (.int .i64 (32))) ds h K⟩ ⟨fun v tm => tm⟩ ⟨fun env tm => isB true (nthD 2 env)⟩
  ⟨opStep ⟨fun call env tm ds h K => kO (pickV (nthD 3 env) (nthD 0 env) (.bool false)) ds h K⟩ ⟨fun v tm => tm⟩ ⟨fun env tm => true⟩
  ⟨opStep ⟨fun call env tm ds h K => kO (some (nthD 0 env)) ds h K⟩ ⟨fun v tm => (T.set tm 2 v)⟩ ⟨fun env tm => true⟩
  ⟨fun _ _ tm ds h K => K .norm tm ds h⟩⟩⟩⟩⟩⟩⟩⟩⟩⟩ : Box OpsT).f call [] tm ds h K
noncomputable def c58 : Box CodeT := ⟨seqC ⟨r58_0⟩ ⟨seqC ⟨r58_1⟩ retC⟩⟩
noncomputable def q58 : Box (T Value → H → Option (List Value)) := ⟨fun tm h => some [tg tm 2]⟩
/-! 59 slices.siftDownCmpFunc[cloakroom/api.Name] -/
noncomputable def r59_0 : CodeT := fun call _ tm ds h K =>
  K .norm (T.set tm 10 (tg tm 1)) ds h
noncomputable def r59_1 : CodeT := fun call _ tm ds h K =>
  kO (binV Try.prog .mul 3 true (.int .i64 (2)) (tg tm 10)) ds h (fun v1 ds h =>
  kO (binV Try.prog .add 3 true v1 (.int .i64 (1))) ds h (fun v2 ds h =>
  K .norm (T.set tm 11 v2) ds h))
noncomputable def r59_2 : CodeT := fun call _ tm ds h K =>
  kO (binV Try.prog .geq 3 false (tg tm 11) (tg tm 2)) ds h (fun v2 ds h =>
  K .norm (T.set tm 18 v2) ds h)
noncomputable def r59_3 : CodeT := fun call _ tm ds h0 K =>
  (fun (b0 : Nat) (h : H) =>
  kO (binV Try.prog .add 3 true (tg tm 11) (.int .i64 (1))) ds h (fun v1 ds h =>
  kO (binV Try.prog .lss 3 false v1 (tg tm 2)) ds h (fun v3 ds h =>
  gd (isB true v3) (fun k => kO (some (tg tm 4)) ds h k) ds h (fun v5 ds h =>
  gd (isB true v3) (fun k => kO (some (tg tm 0)) ds h k) ds h (fun v6 ds h =>
  gd (isB true v3) (fun k => kO (some (tg tm 3)) ds h k) ds h (fun v7 ds h =>
  gd (isB true v3) (fun k => kO (some (tg tm 11)) ds h k) ds h (fun v8 ds h =>
  gd (isB true v3) (fun k => kO (binV Try.prog .add 3 false v7 v8) ds h k) ds h (fun v9 ds h =>
  gd (isB true v3) (fun k => kO (indexSl 2 v6 v9) ds h k) ds h (fun v10 ds h =>
  ite2 (isB true v3) (kO (loadAgg 2 h v10) ds h (fun v11 ds h =>
  gd (isB true v3) (fun k => kO (some (tg tm 0)) ds h k) ds h (fun v12 ds h =>
  gd (isB true v3) (fun k => kO (some (tg tm 3)) ds h k) ds h (fun v13 ds h =>
  gd (isB true v3) (fun k => kO (some (tg tm 11)) ds h k) ds h (fun v14 ds h =>
  gd (isB true v3) (fun k => kO (binV Try.prog .add 3 false v13 v14) ds h k) ds h (fun v15 ds h =>
  gd (isB true v3) (fun k => kO (binV Try.prog .add 3 true v15 (.int .i64 (1))) ds h k) ds h (fun v16 ds h =>
  gd (isB true v3) (fun k => kO (indexSl 2 v12 v16) ds h k) ds h (fun v17 ds h =>
  ite2 (isB true v3) (kO (loadAgg 2 h v17) ds h (fun v18 ds h =>
  ite2 (isB true v3) (goCall call (funcArgs v5 [v11, v18]) ds h (fun v19 ds h =>
  gd (isB true v3) (fun k => kO (binV Try.prog .lss 3 true v19 (.int .i64 (0))) ds h k) ds h (fun v20 ds h =>
  kO (pickV v3 v20 (.bool false)) ds h (fun v21 ds h =>
  K .norm (T.set tm 40 v21) ds h))))
  (gd (isB true v3) (fun k => kO (binV Try.prog .lss 3 true undef (.int .i64 (0))) ds h k) ds h (fun v20 ds h =>
  kO (pickV v3 v20 (.bool false)) ds h (fun v21 ds h =>
  K .norm (T.set tm 40 v21) ds h)))))
  (ite2 (isB true v3) (goCall call (funcArgs v5 [v11, undef]) ds h (fun v19 ds h =>
  gd (isB true v3) (fun k => kO (binV Try.prog .lss 3 true v19 (.int .i64 (0))) ds h k) ds h (fun v20 ds h =>
  kO (pickV v3 v20 (.bool false)) ds h (fun v21 ds h =>
  K .norm (T.set tm 40 v21) ds h))))
  (gd (isB true v3) (fun k => kO (binV Try.prog .lss 3 true undef (.int .i64 (0))) ds h k) ds h (fun v20 ds h =>
  kO (pickV v3 v20 (.bool false)) ds h (fun v21 ds h =>
  K .norm (T.set tm 40 v21) ds h))))))))))))
  (gd (isB true v3) (fun k => kO (some (tg tm 0)) ds h k) ds h (fun v12 ds h =>
  gd (isB true v3) (fun k => kO (some (tg tm 3)) ds h k) ds h (fun v13 ds h =>
  gd (isB true v3) (fun k => kO (some (tg tm 11)) ds h k) ds h (fun v14 ds h =>
  gd (isB true v3) (fun k => kO (binV Try.prog .add 3 false v13 v14) ds h k) ds h (fun v15 ds h =>
  gd (isB true v3) (fun k => kO (binV Try.prog .add 3 true v15 (.int .i64 (1))) ds h k) ds h (fun v16 ds h =>
  gd (isB true v3) (fun k => kO (indexSl 2 v12 v16) ds h k) ds h (fun v17 ds h =>
  ite2 (isB true v3) (kO (loadAgg 2 h v17) ds h (fun v18 ds h =>
  ite2 (isB true v3) (goCall call (funcArgs v5 [undef, v18]) ds h (fun v19 ds h =>
  gd (isB true v3) (fun k => kO (binV Try.prog .lss 3 true v19 (.int .i64 (0))) ds h k) ds h (fun v20 ds h =>
  kO (pickV v3 v20 (.bool false)) ds h (fun v21 ds h =>
  K .norm (T.set tm 40 v21) ds h))))
  (gd (isB true v3) (fun k => kO (binV Try.prog .lss 3 true undef (.int .i64 (0))) ds h k) ds h (fun v20 ds h =>
  kO (pickV v3 v20 (.bool false)) ds h (fun v21 ds h =>
  K .norm (T.set tm 40 v21) ds h)))))
  (ite2 (isB true v3) (goCall call (funcArgs v5 [undef, undef]) ds h (fun v19 ds h =>
  gd (isB true v3) (fun k => kO (binV Try.prog .lss 3 true v19 (.int .i64 (0))) ds h k) ds h (fun v20 ds h =>
  kO (pickV v3 v20 (.bool false)) ds h (fun v21 ds h =>
  K .norm (T.set tm 40 v21) ds h))))
  (gd (isB true v3) (fun k => kO (binV Try.prog .lss 3 true undef (.int .i64 (0))) ds h k) ds h (fun v20 ds h =>
  kO (pickV v3 v20 (.bool false)) ds h (fun v21 ds h =>
  K .norm (T.set tm 40 v21) ds h)))))))))))))))))))) h0.next ⟨h0.objs, h0.next + 22⟩
noncomputable def r59_4 : CodeT := fun call _ tm ds h K =>
  kO (binV Try.prog .add 3 true (tg tm 11) (.int .i64 (1))) ds h (fun v1 ds h =>
  K .norm (T.set tm 11 v1) ds h)
noncomputable def r59_5 : CodeT := fun call _ tm ds h0 K =>
  (fun (b0 : Nat) (h : H) =>
  kO (binV Try.prog .add 3 false (tg tm 3) (tg tm 10)) ds h (fun v4 ds h =>
  kO (indexSl 2 (tg tm 0) v4) ds h (fun v5 ds h =>
  kO (loadAgg 2 h v5) ds h (fun v6 ds h =>
  kO (binV Try.prog .add 3 false (tg tm 3) (tg tm 11)) ds h (fun v10 ds h =>
  kO (indexSl 2 (tg tm 0) v10) ds h (fun v11 ds h =>
  kO (loadAgg 2 h v11) ds h (fun v12 ds h =>
  goCall call (funcArgs (tg tm 4) [v6, v12]) ds h (fun v13 ds h =>
  kO (binV Try.prog .lss 3 true v13 (.int .i64 (0))) ds h (fun v14 ds h =>
  kO (unV .not v14) ds h (fun v15 ds h =>
  K .norm (T.set tm 58 v15) ds h)))))))))) h0.next ⟨h0.objs, h0.next + 16⟩
noncomputable def r59_6 : CodeT := fun call _ tm ds h0 K =>
  (fun (b0 : Nat) (h : H) =>
  kO (binV Try.prog .add 3 false (tg tm 3) (tg tm 10)) ds h (fun v3 ds h =>
  kO (binV Try.prog .add 3 false (tg tm 3) (tg tm 11)) ds h (fun v7 ds h =>
  kO (binV Try.prog .add 3 false (tg tm 3) (tg tm 11)) ds h (fun v11 ds h =>
  kO (indexSl 2 (tg tm 0) v11) ds h (fun v12 ds h =>
  kO (loadAgg 2 h v12) ds h (fun v13 ds h =>
  kO (binV Try.prog .add 3 false (tg tm 3) (tg tm 10)) ds h (fun v17 ds h =>
  kO (indexSl 2 (tg tm 0) v17) ds h (fun v18 ds h =>
  kO (loadAgg 2 h v18) ds h (fun v19 ds h =>
  kO (indexSl 2 (tg tm 0) v3) ds h (fun v20 ds h =>
  kH (withV undef (storeV 2 h v20 v13)) ds (fun v21 ds h =>
  kO (indexSl 2 (tg tm 0) v7) ds h (fun v22 ds h =>
  kH (withV undef (storeV 2 h v22 v19)) ds (fun v23 ds h =>
  K .norm tm ds h))))))))))))) h0.next ⟨h0.objs, h0.next + 24⟩
noncomputable def r59_7 : CodeT := fun call _ tm ds h K =>
  K .norm (T.set tm 10 (tg tm 11)) ds h
noncomputable def l59_8 : Box CodeT := ⟨blockC 1 ⟨seqC ⟨r59_1⟩ ⟨seqC ⟨seqC ⟨r59_2⟩ ⟨condC ⟨fun _ tm => tg tm 18⟩ (exitC 0) skipC⟩⟩ ⟨seqC ⟨seqC ⟨r59_3⟩ ⟨condC ⟨fun _ tm => tg tm 40⟩ ⟨r59_4⟩ skipC⟩⟩ ⟨seqC ⟨seqC ⟨r59_5⟩ ⟨condC ⟨fun _ tm => tg tm 58⟩ retC skipC⟩⟩ ⟨seqC ⟨r59_6⟩ ⟨r59_7⟩⟩⟩⟩⟩⟩⟩
noncomputable def c59 : Box CodeT := ⟨seqC ⟨r59_0⟩ ⟨blockC 0 (loopB l59_8)⟩⟩
noncomputable def q59 : Box (T Value → H → Option (List Value)) := ⟨fun tm h => some []⟩
/-! 60 slices.nextPowerOfTwo -/
noncomputable def r60_0 : CodeT := fun call _ tm ds h K =>
  K .norm (T.set tm 2 (.int .u64 (0))) ds h
noncomputable def r60_1 : CodeT := fun call _ tm ds h K =>
  kO (toInt .u64 (tg tm 0)) ds h (fun v1 ds h =>
  call 41 [v1] h (fun v h => (fun v2 ds h =>
  kO (binV Try.prog .shl 87 true (.int .u64 (1)) v2) ds h (fun v3 ds h =>
  K .norm (T.set tm 2 v3) ds h)) v ds h))
noncomputable def c60 : Box CodeT := ⟨seqC ⟨r60_0⟩ ⟨seqC ⟨r60_1⟩ retC⟩⟩
noncomputable def q60 : Box (T Value → H → Option (List Value)) := ⟨fun tm h => some [tg tm 2]⟩
/-! 61 (*slices.xorshift).Next -/
noncomputable def r61_0 : CodeT := fun call _ tm ds h K =>
  K .norm (T.set tm 2 (.int .u64 (0))) ds h
noncomputable def r61_1 : CodeT := fun call _ tm ds h0 K =>
  (fun (b0 : Nat) (h : H) =>
  kO (nilChk (tg tm 0)) ds h (fun v1 ds h =>
  kO (loadOne h v1) ds h (fun v2 ds h =>
  kO (nilChk (tg tm 0)) ds h (fun v4 ds h =>
  kO (loadOne h v4) ds h (fun v5 ds h =>
  kO (binV Try.prog .shl 102 true v5 (.int .u64 (13))) ds h (fun v6 ds h =>
  kO (binV Try.prog .xor 102 false v2 v6) ds h (fun v7 ds h =>
  kO (nilChk (tg tm 0)) ds h (fun v8 ds h =>
  kH (withV undef (storeV 1 h v8 v7)) ds (fun v9 ds h =>
  K .norm tm ds h))))))))) h0.next ⟨h0.objs, h0.next + 10⟩
noncomputable def r61_2 : CodeT := fun call _ tm ds h0 K =>
  (fun (b0 : Nat) (h : H) =>
  kO (nilChk (tg tm 0)) ds h (fun v1 ds h =>
  kO (loadOne h v1) ds h (fun v2 ds h =>
  kO (nilChk (tg tm 0)) ds h (fun v4 ds h =>
  kO (loadOne h v4) ds h (fun v5 ds h =>
  kO (binV Try.prog .shr 102 true v5 (.int .u64 (7))) ds h (fun v6 ds h =>
  kO (binV Try.prog .xor 102 false v2 v6) ds h (fun v7 ds h =>
  kO (nilChk (tg tm 0)) ds h (fun v8 ds h =>
  kH (withV undef (storeV 1 h v8 v7)) ds (fun v9 ds h =>
  K .norm tm ds h))))))))) h0.next ⟨h0.objs, h0.next + 10⟩
noncomputable def r61_3 : CodeT := fun call _ tm ds h0 K =>
  (fun (b0 : Nat) (h : H) =>
  kO (nilChk (tg tm 0)) ds h (fun v1 ds h =>
  kO (loadOne h v1) ds h (fun v2 ds h =>
  kO (nilChk (tg tm 0)) ds h (fun v4 ds h =>
  kO (loadOne h v4) ds h (fun v5 ds h =>
  kO (binV Try.prog .shl 102 true v5 (.int .u64 (17))) ds h (fun v6 ds h =>
  kO (binV Try.prog .xor 102 false v2 v6) ds h (fun v7 ds h =>
  kO (nilChk (tg tm 0)) ds h (fun v8 ds h =>
  kH (withV undef (storeV 1 h v8 v7)) ds (fun v9 ds h =>
  K .norm tm ds h))))))))) h0.next ⟨h0.objs, h0.next + 10⟩
noncomputable def r61_4 : CodeT := fun call _ tm ds h K =>
  kO (nilChk (tg tm 0)) ds h (fun v1 ds h =>
  kO (loadOne h v1) ds h (fun v2 ds h =>
  K .norm (T.set tm 2 v2) ds h))
noncomputable def c61 : Box CodeT := ⟨seqC ⟨r61_0⟩ ⟨seqC ⟨r61_1⟩ ⟨seqC ⟨r61_2⟩ ⟨seqC ⟨r61_3⟩ ⟨seqC ⟨r61_4⟩ retC⟩⟩⟩⟩⟩
noncomputable def q61 : Box (T Value → H → Option (List Value)) := ⟨fun tm h => some [tg tm 2]⟩
/-! 62 slices.medianAdjacentCmpFunc[cloakroom/api.Name] -/
noncomputable def r62_0 : CodeT := fun call _ tm ds h K =>
  K .norm (T.set tm 8 (.int .i64 (0))) ds h
noncomputable def r62_1 : CodeT := fun call _ tm ds h K =>
  kO (binV Try.prog .sub 3 true (tg tm 1) (.int .i64 (1))) ds h (fun v2 ds h =>
  kO (binV Try.prog .add 3 true (tg tm 1) (.int .i64 (1))) ds h (fun v5 ds h =>
  call 63 [(tg tm 0), v2, (tg tm 1), v5, (tg tm 2), (tg tm 3)] h (fun v h => (fun v8 ds h =>
  K .norm (T.set tm 8 v8) ds h) v ds h)))
noncomputable def c62 : Box CodeT := ⟨seqC ⟨r62_0⟩ ⟨seqC ⟨r62_1⟩ retC⟩⟩
noncomputable def q62 : Box (T Value → H → Option (List Value)) := ⟨fun tm h => some [tg tm 8]⟩
/-! 63 slices.medianCmpFunc[cloakroom/api.Name] -/
noncomputable def r63_0 : CodeT := fun call _ tm ds h K =>
  K .norm (T.set tm 12 (.int .i64 (0))) ds h
noncomputable def r63_1 : CodeT := fun call _ tm ds h K =>
  call 64 [(tg tm 0), (tg tm 1), (tg tm 2), (tg tm 4), (tg tm 5)] h (fun v h => (fun v5 ds h =>
  kO (tupNth 0 v5) ds h (fun v7 ds h =>
  kO (tupNth 1 v5) ds h (fun v8 ds h =>
  K .norm (T.set (T.set tm 1 v7) 2 v8) ds h))) v ds h)
noncomputable def r63_2 : CodeT := fun call _ tm ds h K =>
  call 64 [(tg tm 0), (tg tm 2), (tg tm 3), (tg tm 4), (tg tm 5)] h (fun v h => (fun v5 ds h =>
  kO (tupNth 0 v5) ds h (fun v7 ds h =>
  kO (tupNth 1 v5) ds h (fun v8 ds h =>
  K .norm (T.set (T.set tm 2 v7) 3 v8) ds h))) v ds h)
noncomputable def r63_3 : CodeT := fun call _ tm ds h K =>
  call 64 [(tg tm 0), (tg tm 1), (tg tm 2), (tg tm 4), (tg tm 5)] h (fun v h => (fun v5 ds h =>
  kO (tupNth 0 v5) ds h (fun v7 ds h =>
  kO (tupNth 1 v5) ds h (fun v8 ds h =>
  K .norm (T.set (T.set tm 1 v7) 2 v8) ds h))) v ds h)
noncomputable def r63_4 : CodeT := fun call _ tm ds h K =>
  K .norm (T.set tm 12 (tg tm 2)) ds h
noncomputable def c63 : Box CodeT := ⟨seqC ⟨r63_0⟩ ⟨seqC ⟨r63_1⟩ ⟨seqC ⟨r63_2⟩ ⟨seqC ⟨r63_3⟩ ⟨seqC ⟨r63_4⟩ retC⟩⟩⟩⟩⟩
noncomputable def q63 : Box (T Value → H → Option (List Value)) := ⟨fun tm h => some [tg tm 12]⟩
/-! 64 slices.order2CmpFunc[cloakroom/api.Name] -/
noncomputable def r64_0 : CodeT := fun call _ tm ds h K =>
  K .norm (T.set (T.set tm 10 (.int .i64 (0))) 11 (.int .i64 (0))) ds h
noncomputable def r64_1 : CodeT := fun call _ tm ds h0 K =>
  (fun (b0 : Nat) (h : H) =>
  kO (indexSl 2 (tg tm 0) (tg tm 2)) ds h (fun v3 ds h =>
  kO (loadAgg 2 h v3) ds h (fun v4 ds h =>
  kO (indexSl 2 (tg tm 0) (tg tm 1)) ds h (fun v7 ds h =>
  kO (loadAgg 2 h v7) ds h (fun v8 ds h =>
  goCall call (funcArgs (tg tm 4) [v4, v8]) ds h (fun v9 ds h =>
  kO (binV Try.prog .lss 3 true v9 (.int .i64 (0))) ds h (fun v10 ds h =>
  K .norm (T.set tm 22 v10) ds h))))))) h0.next ⟨h0.objs, h0.next + 11⟩
noncomputable def r64_2 : CodeT := fun call _ tm ds h K =>
  kO (nilChk (tg tm 3)) ds h (fun v1 ds h =>
  kO (loadOne h v1) ds h (fun v2 ds h =>
  kO (binV Try.prog .add 3 true v2 (.int .i64 (1))) ds h (fun v3 ds h =>
  kO (nilChk (tg tm 3)) ds h (fun v4 ds h =>
  kH (withV undef (storeV 1 h v4 v3)) ds (fun v5 ds h =>
  K .norm tm ds h)))))
noncomputable def r64_3 : CodeT := fun call _ tm ds h K =>
  K .norm (T.set (T.set tm 10 (tg tm 2)) 11 (tg tm 1)) ds h
noncomputable def r64_4 : CodeT := fun call _ tm ds h K =>
  K .norm (T.set (T.set tm 10 (tg tm 1)) 11 (tg tm 2)) ds h
noncomputable def c64 : Box CodeT := ⟨seqC ⟨r64_0⟩ ⟨seqC ⟨seqC ⟨r64_1⟩ ⟨condC ⟨fun _ tm => tg tm 22⟩ ⟨seqC ⟨r64_2⟩ ⟨seqC ⟨r64_3⟩ retC⟩⟩ skipC⟩⟩ ⟨seqC ⟨r64_4⟩ retC⟩⟩⟩
noncomputable def q64 : Box (T Value → H → Option (List Value)) := ⟨fun tm h => some [tg tm 10, tg tm 11]⟩

end Go.Proofs.Ytpoedopdcpejmaa
