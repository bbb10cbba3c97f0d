import Derived.Test.YthofbmfcpfibdaaDoorEvZ
import Derived.KernelRfl
import Derived.Test.YthofbmfcpfibdaaDoorRows
import Derived.WalkKit
import Derived.ProofKit
import Derived.OpenShut
import Derived.LaidMore
import Derived.SevenTiedAt
set_option linter.unusedSimpArgs false
set_option linter.unusedVariables false
namespace Go.Proofs.YthofbmfcpfibdaaDoor
open Go.Ev
def masks : List Nat := [0, 0, 0, 383, 16781299, 1215, 4311752695, 4295231475, 4398047576079, 11840159755534911, 1074274335, 2417851639299627093598239, 39, 89204341923590176321209194183517581051822067, 1329230532324065960954913605489917939, 31, 15391, 7, 5, 19, 7, 1, 73245066595941551, 199, 11440979185133664387406296579253639856135340063, 5, 1237940039285381375490103743, 137440002619, 101218289428364493977104185500852357152742950873023135088627, 19, 4398046519293, 4951760161790361815218143219, 134221837, 268443645, 2097725, 2658628471356996554050030416712204275, 17594400636991, 3, 19, 5, 66483, 51, 138351151749653378483, 5, 1, 2290630771, 5, 5, 5, 4456455, 2097715, 13, 21, 13, 7, 65551, 19, 19, 0, 5, 19342813113979202331215859, 2267743825679, 243, 66483, 243, 531911, 524353, 2097283, 19, 5, 5, 0, 2214597117, 8796126839539, 16810611, 19, 8865785577709, 281749925920893, 0, 19, 5491, 85, 1037, 0, 702342826256273603086707106465568295829491, 263111, 0, 21, 13, 2923003971560093291123168138537876760321514930163, 20426010943356750102455122975, 316912838952437276284744179709, 19, 0, 151115727469970589747187, 749019592093908130998168547243562859198691857383367, 17247509535, 5, 16661, 13, 5, 5, 0, 1107300861, 5, 3259264009699125022261772349, 19, 19, 71, 71, 21, 21, 77, 5, 5, 5, 17188391667, 0, 0, 0, 0, 0, 0, 0, 0, 0, 0, 0, 0, 0, 0, 0, 0, 0, 0, 0, 0, 0, 0, 0, 0, 0, 0, 0, 0, 0, 0, 0]
def outside : List (Nat × XK) := [(78, .same), (86, .noZero 5)]
abbrev NG : Nat := 2
def SM : Value := (.string (strB [48, 48, 48, 49, 48, 50, 48, 51, 48, 52, 48, 53, 48, 54, 48, 55, 48, 56, 48, 57, 49, 48, 49, 49, 49, 50, 49, 51, 49, 52, 49, 53, 49, 54, 49, 55, 49, 56, 49, 57, 50, 48, 50, 49, 50, 50, 50, 51, 50, 52, 50, 53, 50, 54, 50, 55, 50, 56, 50, 57, 51, 48, 51, 49, 51, 50, 51, 51, 51, 52, 51, 53, 51, 54, 51, 55, 51, 56, 51, 57, 52, 48, 52, 49, 52, 50, 52, 51, 52, 52, 52, 53, 52, 54, 52, 55, 52, 56, 52, 57, 53, 48, 53, 49, 53, 50, 53, 51, 53, 52, 53, 53, 53, 54, 53, 55, 53, 56, 53, 57, 54, 48, 54, 49, 54, 50, 54, 51, 54, 52, 54, 53, 54, 54, 54, 55, 54, 56, 54, 57, 55, 48, 55, 49, 55, 50, 55, 51, 55, 52, 55, 53, 55, 54, 55, 55, 55, 56, 55, 57, 56, 48, 56, 49, 56, 50, 56, 51, 56, 52, 56, 53, 56, 54, 56, 55, 56, 56, 56, 57, 57, 48, 57, 49, 57, 50, 57, 51, 57, 52, 57, 53, 57, 54, 57, 55, 57, 56, 57, 57]))
/-! 3 cloakroom/cloakroomlaw15.WordsWrites -/
noncomputable def r3_0 : CodeT := fun call _ tm ds h K =>
  kA (some (.rw (Value.cells (tg tm 0)).toList (some 27), ptrTo h.next)) ds h (fun v0 ds h =>
  K .norm (T.set (T.set tm 1 v0) 2 (.bool false)) ds h)
noncomputable def r3_1 : CodeT := fun call _ tm ds h K =>
  kO (loadAgg 7 h (tg tm 1)) ds h (fun v0 ds h =>
  call 8 [v0] h (fun v h => (fun v1 ds h =>
  K .norm (T.set tm 8 v1) ds h) v ds h))
noncomputable def r3_2 : CodeT := fun call _ tm ds h K =>
  K .norm (T.set tm 2 (.bool true)) ds h
noncomputable def r3_3 : CodeT := fun call _ tm ds h K =>
  kO (loadAgg 7 h (tg tm 1)) ds h (fun v0 ds h =>
  call 9 [v0] h (fun v h => (fun v1 ds h =>
  kO (tupNth 0 v1) ds h (fun v3 ds h =>
  kO (tupNth 1 v1) ds h (fun v4 ds h =>
  K .norm (T.set (T.set tm 3 v3) 4 v4) ds h))) v ds h))
noncomputable def r3_4 : CodeT := fun call _ tm ds h K =>
  kO (loadAgg 7 h (tg tm 1)) ds h (fun v0 ds h =>
  call 10 [v0] h (fun v h => (fun v1 ds h =>
  kO (tupNth 0 v1) ds h (fun v3 ds h =>
  kO (tupNth 1 v1) ds h (fun v4 ds h =>
  K .norm (T.set (T.set tm 5 v3) 6 v4) ds h))) v ds h))
noncomputable def r3_5 : CodeT := fun call _ tm ds h0 K =>
  (fun (b0 : Nat) (h : H) =>
  kO (loadAgg 7 h (tg tm 1)) ds h (fun v0 ds h =>
  kO (loadAgg 7 h (tg tm 1)) ds h (fun v2 ds h =>
  call 11 [v0] h (fun v h => (fun v1 ds h =>
  andB ((hO (loadAgg 7 h (tg tm 1)) v2 true) && true) (call 12 [v2] h (fun v h => (fun v3 ds h =>
  kO (binV Tryd.prog .eql 3 false v1 v3) ds h (fun v4 ds h =>
  gd (isB true v4) (fun k => kO (some (tg tm 3)) ds h k) ds h (fun v6 ds h =>
  ite2 (isB true v4) (kO (bytesStr h v6) ds h (fun v7 ds h =>
  gd (isB true v4) (fun k => kO (some (tg tm 5)) ds h k) ds h (fun v8 ds h =>
  ite2 (isB true v4) (kO (bytesStr h v8) ds h (fun v9 ds h =>
  gd (isB true v4) (fun k => kO (binV Tryd.prog .eql 9 false v7 v9) ds h k) ds h (fun v10 ds h =>
  kO (pickV v4 v10 (.bool false)) ds h (fun v11 ds h =>
  gd (isB true v11) (fun k => kO (some (tg tm 4)) ds h k) ds h (fun v13 ds h =>
  gd (isB true v11) (fun k => kO (some (tg tm 6)) ds h k) ds h (fun v14 ds h =>
  gd (isB true v11) (fun k => kO (binV Tryd.prog .eql 3 false v13 v14) ds h k) ds h (fun v15 ds h =>
  kO (pickV v11 v15 (.bool false)) ds h (fun v16 ds h =>
  K .norm (T.set tm 2 v16) ds h))))))))
  (gd (isB true v4) (fun k => kO (binV Tryd.prog .eql 9 false v7 undef) ds h k) ds h (fun v10 ds h =>
  kO (pickV v4 v10 (.bool false)) ds h (fun v11 ds h =>
  gd (isB true v11) (fun k => kO (some (tg tm 4)) ds h k) ds h (fun v13 ds h =>
  gd (isB true v11) (fun k => kO (some (tg tm 6)) ds h k) ds h (fun v14 ds h =>
  gd (isB true v11) (fun k => kO (binV Tryd.prog .eql 3 false v13 v14) ds h k) ds h (fun v15 ds h =>
  kO (pickV v11 v15 (.bool false)) ds h (fun v16 ds h =>
  K .norm (T.set tm 2 v16) ds h))))))))))
  (gd (isB true v4) (fun k => kO (some (tg tm 5)) ds h k) ds h (fun v8 ds h =>
  ite2 (isB true v4) (kO (bytesStr h v8) ds h (fun v9 ds h =>
  gd (isB true v4) (fun k => kO (binV Tryd.prog .eql 9 false undef v9) ds h k) ds h (fun v10 ds h =>
  kO (pickV v4 v10 (.bool false)) ds h (fun v11 ds h =>
  gd (isB true v11) (fun k => kO (some (tg tm 4)) ds h k) ds h (fun v13 ds h =>
  gd (isB true v11) (fun k => kO (some (tg tm 6)) ds h k) ds h (fun v14 ds h =>
  gd (isB true v11) (fun k => kO (binV Tryd.prog .eql 3 false v13 v14) ds h k) ds h (fun v15 ds h =>
  kO (pickV v11 v15 (.bool false)) ds h (fun v16 ds h =>
  K .norm (T.set tm 2 v16) ds h))))))))
  (gd (isB true v4) (fun k => kO (binV Tryd.prog .eql 9 false undef undef) ds h k) ds h (fun v10 ds h =>
  kO (pickV v4 v10 (.bool false)) ds h (fun v11 ds h =>
  gd (isB true v11) (fun k => kO (some (tg tm 4)) ds h k) ds h (fun v13 ds h =>
  gd (isB true v11) (fun k => kO (some (tg tm 6)) ds h k) ds h (fun v14 ds h =>
  gd (isB true v11) (fun k => kO (binV Tryd.prog .eql 3 false v13 v14) ds h k) ds h (fun v15 ds h =>
  kO (pickV v11 v15 (.bool false)) ds h (fun v16 ds h =>
  K .norm (T.set tm 2 v16) ds h)))))))))))) v ds h))) v ds h)))) h0.next ⟨h0.objs, h0.next + 18⟩
noncomputable def c3 : Box CodeT := ⟨seqC ⟨r3_0⟩ ⟨seqC ⟨seqC ⟨r3_1⟩ ⟨condC ⟨fun _ tm => tg tm 8⟩ ⟨seqC ⟨r3_2⟩ retC⟩ skipC⟩⟩ ⟨seqC ⟨r3_3⟩ ⟨seqC ⟨r3_4⟩ ⟨seqC ⟨r3_5⟩ retC⟩⟩⟩⟩⟩
noncomputable def q3 : Box (T Value → H → Option (List Value)) := ⟨fun tm h => some [tg tm 2]⟩

/-! 8 cloakroom/cloakroomref15.Long -/
noncomputable def r8_0 : CodeT := fun call _ tm ds h K =>
  kA (some (.rw (Value.cells (tg tm 0)).toList (some 27), ptrTo h.next)) ds h (fun v0 ds h =>
  K .norm (T.set (T.set tm 1 v0) 2 (.bool false)) ds h)
noncomputable def r8_1 : CodeT := fun call _ tm ds h K => (⟨opStep ⟨fun call env tm ds h K => kO (fieldPtr 6 (tg tm 1)) ds h K⟩ ⟨fun v tm => tm⟩ ⟨fun env tm => true⟩
  ⟨opStep ⟨fun call env tm ds h K => kO (loadOne h (nthD 0 env)) ds h K⟩ ⟨fun v tm => tm⟩ ⟨fun env tm => true⟩
  ⟨opStep ⟨fun call env tm ds h K => kO (lenStr (nthD 0 env)) ds h K⟩ ⟨fun v tm => tm⟩ ⟨fun env tm => true⟩
  ⟨opStep ⟨fun call env tm ds h K => kO (binV Tryd.prog .gtr 3 true (nthD 0 env) (.int .i64 (1000))) ds h K⟩ ⟨fun v tm => tm⟩ ⟨fun env tm => true⟩
  ⟨opStep ⟨fun call env tm ds h K => kO (some (nthD 0 env)) ds h K⟩ ⟨fun v tm => tm⟩ ⟨fun env tm => true⟩
  ⟨opStep ⟨fun call env tm ds h K => kO (fieldPtr 2 (tg tm 1)) ds h K⟩ ⟨fun v tm => tm⟩ ⟨fun env tm => isB false (nthD 0 env)⟩
  ⟨opStep ⟨fun call env tm ds h K => kO (fieldPtr 1 (nthD 0 env)) ds h K⟩ ⟨fun v tm => tm⟩ ⟨fun env tm => isB false (nthD 1 env)⟩
  ⟨opStep ⟨fun call env tm ds h K => kO (loadOne h (nthD 0 env)) ds h K⟩ ⟨fun v tm => tm⟩ ⟨fun env tm => isB false (nthD 2 env)⟩
  ⟨opStep ⟨fun call env tm ds h K => kO (lenSl (nthD 0 env)) ds h K⟩ ⟨fun v tm => tm⟩ ⟨fun env tm => isB false (nthD 3 env)⟩
  ⟨opStep ⟨fun call env tm ds h K => kO (binV Tryd.prog .gtr 3 true (nthD 0 env) (.int .i64 (40))) ds h K⟩ ⟨fun v tm => tm⟩ ⟨fun env tm => isB false (nthD 4 env)⟩
  ⟨opStep ⟨fun call env tm ds h K => kO (pickV (nthD 5 env) (.bool true) (nthD 0 env)) ds h K⟩ ⟨fun v tm => (T.set tm 14 v)⟩ ⟨fun env tm => true⟩
  ⟨fun _ _ tm ds h K => K .norm tm ds h⟩⟩⟩⟩⟩⟩⟩⟩⟩⟩⟩⟩ : Box OpsT).f call [] tm ds h K
noncomputable def r8_2 : CodeT := fun call _ tm ds h K =>
  K .norm (T.set tm 2 (.bool true)) ds h
noncomputable def r8_3 : CodeT := fun call _ tm ds h K =>
  K .norm (T.set tm 3 (.int .i64 (0))) ds h
noncomputable def r8_4 : CodeT := fun call _ tm ds h K =>
  kO (fieldPtr 2 (tg tm 1)) ds h (fun v1 ds h =>
  kO (fieldPtr 1 v1) ds h (fun v2 ds h =>
  kO (loadOne h v2) ds h (fun v3 ds h =>
  kO (lenSl v3) ds h (fun v4 ds h =>
  kO (binV Tryd.prog .lss 3 false (tg tm 3) v4) ds h (fun v5 ds h =>
  K .norm (T.set tm 20 v5) ds h)))))
noncomputable def r8_6 : CodeT := fun call _ tm ds h K => (⟨opStep ⟨fun call env tm ds h K => kO (fieldPtr 2 (tg tm 1)) ds h K⟩ ⟨fun v tm => tm⟩ ⟨fun env tm => true⟩
  ⟨opStep ⟨fun call env tm ds h K => kO (fieldPtr 1 (nthD 0 env)) ds h K⟩ ⟨fun v tm => tm⟩ ⟨fun env tm => true⟩
  ⟨opStep ⟨fun call env tm ds h K => kO (loadOne h (nthD 0 env)) ds h K⟩ ⟨fun v tm => tm⟩ ⟨fun env tm => true⟩
  ⟨opStep ⟨fun call env tm ds h K => kO (some (tg tm 3)) ds h K⟩ ⟨fun v tm => tm⟩ ⟨fun env tm => true⟩
  ⟨opStep ⟨fun call env tm ds h K => kO (indexSl 5 (nthD 1 env) (nthD 0 env)) ds h K⟩ ⟨fun v tm => tm⟩ ⟨fun env tm => true⟩
  ⟨opStep ⟨fun call env tm ds h K => kO (fieldPtr 0 (nthD 0 env)) ds h K⟩ ⟨fun v tm => tm⟩ ⟨fun env tm => true⟩
  ⟨opStep ⟨fun call env tm ds h K => kO (loadOne h (nthD 0 env)) ds h K⟩ ⟨fun v tm => tm⟩ ⟨fun env tm => true⟩
  ⟨opStep ⟨fun call env tm ds h K => kO (lenStr (nthD 0 env)) ds h K⟩ ⟨fun v tm => tm⟩ ⟨fun env tm => true⟩
  ⟨opStep ⟨fun call env tm ds h K => kO (binV Tryd.prog .gtr 3 true (nthD 0 env) (.int .i64 (1000))) ds h K⟩ ⟨fun v tm => tm⟩ ⟨fun env tm => true⟩
  ⟨opStep ⟨fun call env tm ds h K => kO (some (nthD 0 env)) ds h K⟩ ⟨fun v tm => tm⟩ ⟨fun env tm => true⟩
  ⟨opStep ⟨fun call env tm ds h K => kO (fieldPtr 2 (tg tm 1)) ds h K⟩ ⟨fun v tm => tm⟩ ⟨fun env tm => isB false (nthD 0 env)⟩
  ⟨opStep ⟨fun call env tm ds h K => kO (fieldPtr 1 (nthD 0 env)) ds h K⟩ ⟨fun v tm => tm⟩ ⟨fun env tm => isB false (nthD 1 env)⟩
  ⟨opStep ⟨fun call env tm ds h K => kO (loadOne h (nthD 0 env)) ds h K⟩ ⟨fun v tm => tm⟩ ⟨fun env tm => isB false (nthD 2 env)⟩
  ⟨opStep ⟨fun call env tm ds h K => kO (some (tg tm 3)) ds h K⟩ ⟨fun v tm => tm⟩ ⟨fun env tm => isB false (nthD 3 env)⟩
  ⟨opStep ⟨fun call env tm ds h K => kO (indexSl 5 (nthD 1 env) (nthD 0 env)) ds h K⟩ ⟨fun v tm => tm⟩ ⟨fun env tm => isB false (nthD 4 env)⟩
  ⟨opStep ⟨fun call env tm ds h K => kO (fieldPtr 1 (nthD 0 env)) ds h K⟩ ⟨fun v tm => tm⟩ ⟨fun env tm => isB false (nthD 5 env)⟩
  ⟨opStep ⟨fun call env tm ds h K => kO (loadOne h (nthD 0 env)) ds h K⟩ ⟨fun v tm => tm⟩ ⟨fun env tm => isB false (nthD 6 env)⟩
  ⟨opStep ⟨fun call env tm ds h K => kO (lenStr (nthD 0 env)) ds h K⟩ ⟨fun v tm => tm⟩ ⟨fun env tm => isB false (nthD 7 env)⟩
  ⟨opStep ⟨fun call env tm ds h K => kO (binV Tryd.prog .gtr 3 true (nthD 0 env) (.int .i64 (1000))) ds h K⟩ ⟨fun v tm => tm⟩ ⟨fun env tm => isB false (nthD 8 env)⟩
  ⟨opStep ⟨fun call env tm ds h K => kO (pickV (nthD 9 env) (.bool true) (nthD 0 env)) ds h K⟩ ⟨fun v tm => (T.set tm 42 v)⟩ ⟨fun env tm => true⟩
  ⟨fun _ _ tm ds h K => K .norm tm ds h⟩⟩⟩⟩⟩⟩⟩⟩⟩⟩⟩⟩⟩⟩⟩⟩⟩⟩⟩⟩⟩ : Box OpsT).f call [] tm ds h K
noncomputable def r8_7 : CodeT := fun call _ tm ds h K =>
  K .norm (T.set tm 2 (.bool true)) ds h
noncomputable def r8_5 : CodeT := fun call _ tm ds h K =>
  kO (binV Tryd.prog .add 3 true (tg tm 3) (.int .i64 (1))) ds h (fun v1 ds h =>
  K .norm (T.set tm 3 v1) ds h)
noncomputable def l8_8 : Box CodeT := ⟨seqC ⟨seqC ⟨r8_4⟩ ⟨condC ⟨fun _ tm => tg tm 20⟩ skipC (exitC 0)⟩⟩ ⟨seqC ⟨blockC 1 ⟨seqC ⟨r8_6⟩ ⟨condC ⟨fun _ tm => tg tm 42⟩ ⟨seqC ⟨r8_7⟩ retC⟩ skipC⟩⟩⟩ ⟨r8_5⟩⟩⟩
noncomputable def r8_8 : CodeT := fun call _ tm ds h K =>
  K .norm (T.set tm 2 (.bool false)) ds h
noncomputable def c8 : Box CodeT := ⟨seqC ⟨r8_0⟩ ⟨seqC ⟨seqC ⟨r8_1⟩ ⟨condC ⟨fun _ tm => tg tm 14⟩ ⟨seqC ⟨r8_2⟩ retC⟩ skipC⟩⟩ ⟨seqC ⟨seqC ⟨r8_3⟩ ⟨blockC 0 (loopB l8_8)⟩⟩ ⟨seqC ⟨r8_8⟩ retC⟩⟩⟩⟩
noncomputable def q8 : Box (T Value → H → Option (List Value)) := ⟨fun tm h => some [tg tm 2]⟩

/-! 9 cloakroom/words.Write -/
noncomputable def r9_0 : CodeT := fun call _ tm ds h K =>
  kA (some (.rw (Value.cells (tg tm 0)).toList (some 27), ptrTo h.next)) ds h (fun v0 ds h =>
  K .norm (T.set (T.set (T.set tm 1 v0) 2 (.slice none 0 0)) 3 (.int .i64 (0))) ds h)
noncomputable def r9_1 : CodeT := fun call _ tm ds h K =>
  kO (loadAgg 7 h (tg tm 1)) ds h (fun v0 ds h =>
  call 11 [v0] h (fun v h => (fun v1 ds h =>
  K .norm (T.set tm 4 v1) ds h) v ds h))
noncomputable def r9_2 : CodeT := fun call _ tm ds h K =>
  kO (binV Tryd.prog .neq 30 true (tg tm 4) (.int .i64 (0))) ds h (fun v1 ds h =>
  K .norm (T.set tm 9 v1) ds h)
noncomputable def r9_3 : CodeT := fun call _ tm ds h K =>
  K .norm (T.set (T.set tm 2 (.slice none 0 0)) 3 (tg tm 4)) ds h
noncomputable def r9_4 : CodeT := fun call _ tm ds h K => (⟨opStep ⟨fun call env tm ds h K => kO (fieldPtr 6 (tg tm 1)) ds h K⟩ ⟨fun v tm => tm⟩ ⟨fun env tm => true⟩
  ⟨opStep ⟨fun call env tm ds h K => kO (loadOne h (nthD 0 env)) ds h K⟩ ⟨fun v tm => tm⟩ ⟨fun env tm => true⟩
  ⟨opStep ⟨fun call env tm ds h K => call 18 [(nthD 0 env)] h (fun v h => (K) v ds h)⟩ ⟨fun v tm => tm⟩ ⟨fun env tm => true⟩
  ⟨opStep ⟨fun call env tm ds h K => kO (unV .not (nthD 0 env)) ds h K⟩ ⟨fun v tm => tm⟩ ⟨fun env tm => true⟩
  ⟨opStep ⟨fun call env tm ds h K => kO (some (nthD 0 env)) ds h K⟩ ⟨fun v tm => tm⟩ ⟨fun env tm => true⟩
  ⟨opStep ⟨fun call env tm ds h K => kO (fieldPtr 2 (tg tm 1)) ds h K⟩ ⟨fun v tm => tm⟩ ⟨fun env tm => isB false (nthD 0 env)⟩
  ⟨opStep ⟨fun call env tm ds h K => kO (fieldPtr 1 (nthD 0 env)) ds h K⟩ ⟨fun v tm => tm⟩ ⟨fun env tm => isB false (nthD 1 env)⟩
  ⟨opStep ⟨fun call env tm ds h K => kO (loadOne h (nthD 0 env)) ds h K⟩ ⟨fun v tm => tm⟩ ⟨fun env tm => isB false (nthD 2 env)⟩
  ⟨opStep ⟨fun call env tm ds h K => call 19 [(nthD 0 env), (.func (.func 20) #[] #[])] h (fun v h => (K) v ds h)⟩ ⟨fun v tm => tm⟩ ⟨fun env tm => isB false (nthD 3 env)⟩
  ⟨opStep ⟨fun call env tm ds h K => kO (pickV (nthD 4 env) (.bool true) (nthD 0 env)) ds h K⟩ ⟨fun v tm => (T.set tm 20 v)⟩ ⟨fun env tm => true⟩
  ⟨fun _ _ tm ds h K => K .norm tm ds h⟩⟩⟩⟩⟩⟩⟩⟩⟩⟩⟩ : Box OpsT).f call [] tm ds h K
noncomputable def r9_5 : CodeT := fun call _ tm ds h K =>
  K .norm (T.set (T.set tm 2 (.slice none 0 0)) 3 (.int .i64 (8))) ds h
noncomputable def r9_6 : CodeT := fun call _ tm ds h K =>
  K .norm (T.set tm 5 (.string (strB []))) ds h
noncomputable def r9_7 : CodeT := fun call _ tm ds h K =>
  kO (fieldPtr 0 (tg tm 1)) ds h (fun v0 ds h =>
  kO (loadOne h v0) ds h (fun v1 ds h =>
  K .norm (T.set tm 22 v1) ds h))
noncomputable def r9_9 : CodeT := fun call _ tm ds h K =>
  kO (binV Tryd.prog .eql 5 true (tg tm 22) (.int .u8 (1))) ds h (fun v0 ds h =>
  K .norm (T.set tm 26 v0) ds h)
noncomputable def r9_10 : CodeT := fun call _ tm ds h0 K =>
  (fun (b0 : Nat) (h : H) =>
  kO (fieldPtr 2 (tg tm 1)) ds h (fun v1 ds h =>
  kO (fieldPtr 0 v1) ds h (fun v2 ds h =>
  kO (loadOne h v2) ds h (fun v3 ds h =>
  call 21 [] h (fun v h => (fun v0 ds h =>
  andB ((hO (loadOne h v2) v3 true) && true) (kO (indexAgg false 1 8 v0 v3) ds h (fun v4 ds h =>
  K .norm (T.set tm 5 v4) ds h))) v ds h))))) h0.next ⟨h0.objs, h0.next + 6⟩
noncomputable def r9_11 : CodeT := fun call _ tm ds h K =>
  kO (fieldPtr 2 (tg tm 1)) ds h (fun v0 ds h =>
  kO (fieldPtr 0 v0) ds h (fun v1 ds h =>
  kO (loadOne h v1) ds h (fun v2 ds h =>
  kO (binV Tryd.prog .eql 5 true v2 (.int .u8 (1))) ds h (fun v3 ds h =>
  K .norm (T.set tm 36 v3) ds h))))
noncomputable def r9_12 : CodeT := fun call _ tm ds h K =>
  kO (loadAgg 7 h (tg tm 1)) ds h (fun v0 ds h =>
  call 22 [v0] h (fun v h => (fun v1 ds h =>
  K .norm (T.set tm 5 v1) ds h) v ds h))
noncomputable def r9_13 : CodeT := fun call _ tm ds h K =>
  kO (binV Tryd.prog .eql 5 true (tg tm 22) (.int .u8 (2))) ds h (fun v0 ds h =>
  K .norm (T.set tm 39 v0) ds h)
noncomputable def r9_14 : CodeT := fun call _ tm ds h K =>
  kO (fieldPtr 5 (tg tm 1)) ds h (fun v0 ds h =>
  kO (loadOne h v0) ds h (fun v1 ds h =>
  call 23 [v1, (.string (strB [87, 69, 76, 67, 79, 77, 69])), (.string (strB [85, 78, 75, 78, 79, 87, 78]))] h (fun v h => (fun v2 ds h =>
  K .norm (T.set tm 5 v2) ds h) v ds h)))
noncomputable def r9_15 : CodeT := fun call _ tm ds h K =>
  kO (binV Tryd.prog .eql 5 true (tg tm 22) (.int .u8 (3))) ds h (fun v0 ds h =>
  K .norm (T.set tm 44 v0) ds h)
noncomputable def r9_16 : CodeT := fun call _ tm ds h K =>
  kO (fieldPtr 5 (tg tm 1)) ds h (fun v0 ds h =>
  kO (loadOne h v0) ds h (fun v1 ds h =>
  call 23 [v1, (.string (strB [84, 82, 65, 67, 75, 69, 68])), (.string (strB [85, 78, 84, 82, 65, 67, 75, 69, 68]))] h (fun v h => (fun v2 ds h =>
  K .norm (T.set tm 5 v2) ds h) v ds h)))
noncomputable def r9_17 : CodeT := fun call _ tm ds h K =>
  kO (binV Tryd.prog .eql 5 true (tg tm 22) (.int .u8 (4))) ds h (fun v0 ds h =>
  K .norm (T.set tm 49 v0) ds h)
noncomputable def r9_18 : CodeT := fun call _ tm ds h K =>
  K .norm (T.set tm 5 (.string (strB [80, 79, 78, 71]))) ds h
noncomputable def r9_19 : CodeT := fun call _ tm ds h K =>
  kO (binV Tryd.prog .eql 5 true (tg tm 22) (.int .u8 (5))) ds h (fun v0 ds h =>
  K .norm (T.set tm 51 v0) ds h)
noncomputable def r9_20 : CodeT := fun call _ tm ds h K =>
  K .norm (T.set tm 5 (.string (strB [66, 89, 69]))) ds h
noncomputable def r9_21 : CodeT := fun call _ tm ds h K =>
  kO (binV Tryd.prog .eql 5 true (tg tm 22) (.int .u8 (6))) ds h (fun v0 ds h =>
  K .norm (T.set tm 53 v0) ds h)
noncomputable def r9_22 : CodeT := fun call _ tm ds h K =>
  K .norm (T.set tm 5 (.string (strB [69, 82, 82, 79, 82]))) ds h
noncomputable def r9_8 : CodeT := fun call _ tm ds h K =>
  kO (fieldPtr 6 (tg tm 1)) ds h (fun v0 ds h =>
  kO (loadOne h v0) ds h (fun v1 ds h =>
  kO (binV Tryd.prog .add 9 true (.string (strB [80, 85, 83, 72, 32])) v1) ds h (fun v2 ds h =>
  K .norm (T.set tm 5 v2) ds h)))
noncomputable def r9_23 : CodeT := fun call _ tm ds h K =>
  kO (binV Tryd.prog .add 9 true (tg tm 5) (.string (strB [13, 10]))) ds h (fun v1 ds h =>
  kA (mkBytes 5 h.next v1) ds h (fun v2 ds h =>
  K .norm (T.set (T.set tm 2 v2) 3 (.int .i64 (0))) ds h))
noncomputable def c9 : Box CodeT := ⟨seqC ⟨r9_0⟩ ⟨seqC ⟨seqC ⟨r9_1⟩ ⟨seqC ⟨r9_2⟩ ⟨condC ⟨fun _ tm => tg tm 9⟩ ⟨seqC ⟨r9_3⟩ retC⟩ skipC⟩⟩⟩ ⟨seqC ⟨seqC ⟨r9_4⟩ ⟨condC ⟨fun _ tm => tg tm 20⟩ ⟨seqC ⟨r9_5⟩ retC⟩ skipC⟩⟩ ⟨seqC ⟨r9_6⟩ ⟨seqC ⟨seqC ⟨r9_7⟩ ⟨blockC 0 ⟨seqC ⟨r9_9⟩ ⟨condC ⟨fun _ tm => tg tm 26⟩ ⟨seqC ⟨r9_10⟩ ⟨seqC ⟨r9_11⟩ ⟨condC ⟨fun _ tm => tg tm 36⟩ ⟨r9_12⟩ skipC⟩⟩⟩ ⟨seqC ⟨r9_13⟩ ⟨condC ⟨fun _ tm => tg tm 39⟩ ⟨r9_14⟩ ⟨seqC ⟨r9_15⟩ ⟨condC ⟨fun _ tm => tg tm 44⟩ ⟨r9_16⟩ ⟨seqC ⟨r9_17⟩ ⟨condC ⟨fun _ tm => tg tm 49⟩ ⟨r9_18⟩ ⟨seqC ⟨r9_19⟩ ⟨condC ⟨fun _ tm => tg tm 51⟩ ⟨r9_20⟩ ⟨seqC ⟨r9_21⟩ ⟨condC ⟨fun _ tm => tg tm 53⟩ ⟨r9_22⟩ ⟨r9_8⟩⟩⟩⟩⟩⟩⟩⟩⟩⟩⟩⟩⟩⟩⟩ ⟨seqC ⟨r9_23⟩ retC⟩⟩⟩⟩⟩⟩
noncomputable def q9 : Box (T Value → H → Option (List Value)) := ⟨fun tm h => some [tg tm 2, tg tm 3]⟩

/-! 10 cloakroom/cloakroomref15.Write -/
noncomputable def r10_0 : CodeT := fun call _ tm ds h K =>
  kA (some (.rw (Value.cells (tg tm 0)).toList (some 27), ptrTo h.next)) ds h (fun v0 ds h =>
  K .norm (T.set (T.set (T.set tm 1 v0) 2 (.slice none 0 0)) 3 (.int .i64 (0))) ds h)
noncomputable def r10_1 : CodeT := fun call _ tm ds h K => (⟨opStep ⟨fun call env tm ds h K => kO (loadAgg 7 h (tg tm 1)) ds h K⟩ ⟨fun v tm => tm⟩ ⟨fun env tm => true⟩
  ⟨opStep ⟨fun call env tm ds h K => call 24 [(nthD 0 env)] h (fun v h => (K) v ds h)⟩ ⟨fun v tm => tm⟩ ⟨fun env tm => true⟩
  ⟨opStep ⟨fun call env tm ds h K => kO (unV .not (nthD 0 env)) ds h K⟩ ⟨fun v tm => tm⟩ ⟨fun env tm => true⟩
  ⟨opStep ⟨fun call env tm ds h K => kO (some (nthD 0 env)) ds h K⟩ ⟨fun v tm => tm⟩ ⟨fun env tm => true⟩
  ⟨opStep ⟨fun call env tm ds h K => kO (fieldPtr 6 (tg tm 1)) ds h K⟩ ⟨fun v tm => tm⟩ ⟨fun env tm => isB false (nthD 0 env)⟩
  ⟨opStep ⟨fun call env tm ds h K => kO (loadOne h (nthD 0 env)) ds h K⟩ ⟨fun v tm => tm⟩ ⟨fun env tm => isB false (nthD 1 env)⟩
  ⟨opStep ⟨fun call env tm ds h K => call 25 [(nthD 0 env)] h (fun v h => (K) v ds h)⟩ ⟨fun v tm => tm⟩ ⟨fun env tm => isB false (nthD 2 env)⟩
  ⟨opStep ⟨fun call env tm ds h K => kO (unV .not (nthD 0 env)) ds h K⟩ ⟨fun v tm => tm⟩ ⟨fun env tm => isB false (nthD 3 env)⟩
  ⟨opStep ⟨fun call env tm ds h K => kO (pickV (nthD 4 env) (.bool true) (nthD 0 env)) ds h K⟩ ⟨fun v tm => (T.set tm 13 v)⟩ ⟨fun env tm => true⟩
  ⟨fun _ _ tm ds h K => K .norm tm ds h⟩⟩⟩⟩⟩⟩⟩⟩⟩⟩ : Box OpsT).f call [] tm ds h K
noncomputable def r10_2 : CodeT := fun call _ tm ds h K =>
  K .norm (T.set (T.set tm 2 (.slice none 0 0)) 3 (.int .i64 (8))) ds h
noncomputable def r10_3 : CodeT := fun call _ tm ds h K =>
  K .norm (T.set tm 4 (.int .i64 (0))) ds h
noncomputable def r10_4 : CodeT := fun call _ tm ds h K =>
  kO (fieldPtr 2 (tg tm 1)) ds h (fun v1 ds h =>
  kO (fieldPtr 1 v1) ds h (fun v2 ds h =>
  kO (loadOne h v2) ds h (fun v3 ds h =>
  kO (lenSl v3) ds h (fun v4 ds h =>
  kO (binV Tryd.prog .lss 3 false (tg tm 4) v4) ds h (fun v5 ds h =>
  K .norm (T.set tm 19 v5) ds h)))))
noncomputable def r10_6 : CodeT := fun call _ tm ds h K =>
  kO (fieldPtr 2 (tg tm 1)) ds h (fun v0 ds h =>
  kO (fieldPtr 1 v0) ds h (fun v1 ds h =>
  kO (loadOne h v1) ds h (fun v2 ds h =>
  kO (indexSl 5 v2 (tg tm 4)) ds h (fun v4 ds h =>
  kO (fieldPtr 0 v4) ds h (fun v5 ds h =>
  kO (loadOne h v5) ds h (fun v6 ds h =>
  call 25 [v6] h (fun v h => (fun v7 ds h =>
  kO (unV .not v7) ds h (fun v8 ds h =>
  K .norm (T.set tm 30 v8) ds h)) v ds h)))))))
noncomputable def r10_7 : CodeT := fun call _ tm ds h K =>
  K .norm (T.set (T.set tm 2 (.slice none 0 0)) 3 (.int .i64 (8))) ds h
noncomputable def r10_5 : CodeT := fun call _ tm ds h K =>
  kO (binV Tryd.prog .add 3 true (tg tm 4) (.int .i64 (1))) ds h (fun v1 ds h =>
  K .norm (T.set tm 4 v1) ds h)
noncomputable def l10_8 : Box CodeT := ⟨seqC ⟨seqC ⟨r10_4⟩ ⟨condC ⟨fun _ tm => tg tm 19⟩ skipC (exitC 0)⟩⟩ ⟨seqC ⟨blockC 1 ⟨seqC ⟨r10_6⟩ ⟨condC ⟨fun _ tm => tg tm 30⟩ ⟨seqC ⟨r10_7⟩ retC⟩ skipC⟩⟩⟩ ⟨r10_5⟩⟩⟩
noncomputable def r10_8 : CodeT := fun call _ tm ds h K =>
  kO (loadAgg 7 h (tg tm 1)) ds h (fun v0 ds h =>
  call 26 [v0] h (fun v h => (fun v1 ds h =>
  kO (binV Tryd.prog .add 9 true v1 (.string (strB [13, 10]))) ds h (fun v2 ds h =>
  kA (mkBytes 5 h.next v2) ds h (fun v3 ds h =>
  K .norm (T.set (T.set tm 2 v3) 3 (.int .i64 (0))) ds h))) v ds h))
noncomputable def c10 : Box CodeT := ⟨seqC ⟨r10_0⟩ ⟨seqC ⟨seqC ⟨r10_1⟩ ⟨condC ⟨fun _ tm => tg tm 13⟩ ⟨seqC ⟨r10_2⟩ retC⟩ skipC⟩⟩ ⟨seqC ⟨seqC ⟨r10_3⟩ ⟨blockC 0 (loopB l10_8)⟩⟩ ⟨seqC ⟨r10_8⟩ retC⟩⟩⟩⟩
noncomputable def q10 : Box (T Value → H → Option (List Value)) := ⟨fun tm h => some [tg tm 2, tg tm 3]⟩

/-! 11 cloakroom/words.Check -/
noncomputable def r11_0 : CodeT := fun call _ tm ds h K =>
  kA (some (.rw (Value.cells (tg tm 0)).toList (some 27), ptrTo h.next)) ds h (fun v0 ds h =>
  K .norm (T.set (T.set tm 1 v0) 2 (.int .i64 (0))) ds h)
noncomputable def r11_1 : CodeT := fun call _ tm ds h K =>
  K .norm (T.set tm 3 (.bool false)) ds h
noncomputable def r11_2 : CodeT := fun call _ tm ds h K =>
  kO (fieldPtr 0 (tg tm 1)) ds h (fun v0 ds h =>
  kO (loadOne h v0) ds h (fun v1 ds h =>
  kO (binV Tryd.prog .eql 5 true v1 (.int .u8 (1))) ds h (fun v2 ds h =>
  K .norm (T.set tm 4 v2) ds h)))
noncomputable def r11_3 : CodeT := fun call _ tm ds h K =>
  kO (fieldPtr 1 (tg tm 1)) ds h (fun v0 ds h =>
  kO (loadOne h v0) ds h (fun v1 ds h =>
  kO (fieldPtr 2 (tg tm 1)) ds h (fun v2 ds h =>
  kO (loadAgg 3 h v2) ds h (fun v3 ds h =>
  call 27 [v1, v3] h (fun v h => (fun v4 ds h =>
  K .norm (T.set tm 3 v4) ds h) v ds h)))))
noncomputable def r11_4 : CodeT := fun call _ tm ds h K => (⟨opStep ⟨fun call env tm ds h K => kO (fieldPtr 0 (tg tm 1)) ds h K⟩ ⟨fun v tm => tm⟩ ⟨fun env tm => true⟩
  ⟨opStep ⟨fun call env tm ds h K => kO (loadOne h (nthD 0 env)) ds h K⟩ ⟨fun v tm => tm⟩ ⟨fun env tm => true⟩
  ⟨opStep ⟨fun call env tm ds h K => kO (binV Tryd.prog .gtr 5 true (nthD 0 env) (.int .u8 (1))) ds h K⟩ ⟨fun v tm => tm⟩ ⟨fun env tm => true⟩
  ⟨opStep ⟨fun call env tm ds h K => kO (some (nthD 0 env)) ds h K⟩ ⟨fun v tm => tm⟩ ⟨fun env tm => true⟩
  ⟨opStep ⟨fun call env tm ds h K => kO (fieldPtr 0 (tg tm 1)) ds h K⟩ ⟨fun v tm => tm⟩ ⟨fun env tm => isB true (nthD 0 env)⟩
  ⟨opStep ⟨fun call env tm ds h K => kO (loadOne h (nthD 0 env)) ds h K⟩ ⟨fun v tm => tm⟩ ⟨fun env tm => isB true (nthD 1 env)⟩
  ⟨opStep ⟨fun call env tm ds h K => kO (binV Tryd.prog .leq 5 true (nthD 0 env) (.int .u8 (7))) ds h K⟩ ⟨fun v tm => tm⟩ ⟨fun env tm => isB true (nthD 2 env)⟩
  ⟨opStep ⟨fun call env tm ds h K => kO (pickV (nthD 3 env) (nthD 0 env) (.bool false)) ds h K⟩ ⟨fun v tm => tm⟩ ⟨fun env tm => true⟩
  ⟨opStep ⟨fun call env tm ds h K => kO (some (nthD 0 env)) ds h K⟩ ⟨fun v tm => (T.set tm 13 v)⟩ ⟨fun env tm => true⟩
  ⟨fun _ _ tm ds h K => K .norm tm ds h⟩⟩⟩⟩⟩⟩⟩⟩⟩⟩ : Box OpsT).f call [] tm ds h K
noncomputable def r11_5 : CodeT := fun call _ tm ds h K => (⟨opStep ⟨fun call env tm ds h K => kO (fieldPtr 1 (tg tm 1)) ds h K⟩ ⟨fun v tm => tm⟩ ⟨fun env tm => true⟩
  ⟨opStep ⟨fun call env tm ds h K => kO (loadOne h (nthD 0 env)) ds h K⟩ ⟨fun v tm => tm⟩ ⟨fun env tm => true⟩
  ⟨opStep ⟨fun call env tm ds h K => kO (binV Tryd.prog .eql 5 true (nthD 0 env) (.int .u8 (0))) ds h K⟩ ⟨fun v tm => tm⟩ ⟨fun env tm => true⟩
  ⟨opStep ⟨fun call env tm ds h K => kO (some (nthD 0 env)) ds h K⟩ ⟨fun v tm => tm⟩ ⟨fun env tm => true⟩
  ⟨opStep ⟨fun call env tm ds h K => kO (fieldPtr 2 (tg tm 1)) ds h K⟩ ⟨fun v tm => tm⟩ ⟨fun env tm => isB true (nthD 0 env)⟩
  ⟨opStep ⟨fun call env tm ds h K => kO (fieldPtr 0 (nthD 0 env)) ds h K⟩ ⟨fun v tm => tm⟩ ⟨fun env tm => isB true (nthD 1 env)⟩
  ⟨opStep ⟨fun call env tm ds h K => kO (loadOne h (nthD 0 env)) ds h K⟩ ⟨fun v tm => tm⟩ ⟨fun env tm => isB true (nthD 2 env)⟩
  ⟨opStep ⟨fun call env tm ds h K => kO (binV Tryd.prog .eql 5 true (nthD 0 env) (.int .u8 (0))) ds h K⟩ ⟨fun v tm => tm⟩ ⟨fun env tm => isB true (nthD 3 env)⟩
  ⟨opStep ⟨fun call env tm ds h K => kO (pickV (nthD 4 env) (nthD 0 env) (.bool false)) ds h K⟩ ⟨fun v tm => tm⟩ ⟨fun env tm => true⟩
  ⟨opStep ⟨fun call env tm ds h K => kO (some (nthD 0 env)) ds h K⟩ ⟨fun v tm => tm⟩ ⟨fun env tm => true⟩
  ⟨opStep ⟨fun call env tm ds h K => kO (fieldPtr 2 (tg tm 1)) ds h K⟩ ⟨fun v tm => tm⟩ ⟨fun env tm => isB true (nthD 0 env)⟩
  ⟨opStep ⟨fun call env tm ds h K => kO (fieldPtr 2 (nthD 0 env)) ds h K⟩ ⟨fun v tm => tm⟩ ⟨fun env tm => isB true (nthD 1 env)⟩
  ⟨opStep ⟨fun call env tm ds h K => kO (loadOne h (nthD 0 env)) ds h K⟩ ⟨fun v tm => tm⟩ ⟨fun env tm => isB true (nthD 2 env)⟩
  ⟨opStep ⟨fun call env tm ds h K => kO (binV Tryd.prog .eql 23 true (nthD 0 env) (.int .u64 (0))) ds h K⟩ ⟨fun v tm => tm⟩ ⟨fun env tm => isB true (nthD 3 env)⟩
  ⟨opStep ⟨fun call env tm ds h K => kO (pickV (nthD 4 env) (nthD 0 env) (.bool false)) ds h K⟩ ⟨fun v tm => tm⟩ ⟨fun env tm => true⟩
  ⟨opStep ⟨fun call env tm ds h K => kO (some (nthD 0 env)) ds h K⟩ ⟨fun v tm => tm⟩ ⟨fun env tm => true⟩
  ⟨opStep ⟨fun call env tm ds h K => kO (fieldPtr 2 (tg tm 1)) ds h K⟩ ⟨fun v tm => tm⟩ ⟨fun env tm => isB true (nthD 0 env)⟩
  ⟨opStep ⟨fun call env tm ds h K => kO (fieldPtr 1 (nthD 0 env)) ds h K⟩ ⟨fun v tm => tm⟩ ⟨fun env tm => isB true (nthD 1 env)⟩
  ⟨opStep ⟨fun call env tm ds h K => kO (loadOne h (nthD 0 env)) ds h K⟩ ⟨fun v tm => tm⟩ ⟨fun env tm => isB true (nthD 2 env)⟩
  ⟨opStep ⟨fun call env tm ds h K => kO (lenSl (nthD 0 env)) ds h K⟩ ⟨fun v tm => tm⟩ ⟨fun env tm => isB true (nthD 3 env)⟩
  ⟨opStep ⟨fun call env tm ds h K => kO (binV Tryd.prog .eql 3 true (nthD 0 env) (.int .i64 (0))) ds h K⟩ ⟨fun v tm => tm⟩ ⟨fun env tm => isB true (nthD 4 env)⟩
  ⟨opStep ⟨fun call env tm ds h K => kO (pickV (nthD 5 env) (nthD 0 env) (.bool false)) ds h K⟩ ⟨fun v tm => tm⟩ ⟨fun env tm => true⟩
  ⟨opStep ⟨fun call env tm ds h K => kO (some (nthD 0 env)) ds h K⟩ ⟨fun v tm => (T.set tm 3 v)⟩ ⟨fun env tm => true⟩
  ⟨fun _ _ tm ds h K => K .norm tm ds h⟩⟩⟩⟩⟩⟩⟩⟩⟩⟩⟩⟩⟩⟩⟩⟩⟩⟩⟩⟩⟩⟩⟩⟩ : Box OpsT).f call [] tm ds h K
noncomputable def r11_6 : CodeT := fun call _ tm ds h K =>
  kO (fieldPtr 0 (tg tm 1)) ds h (fun v0 ds h =>
  kO (loadOne h v0) ds h (fun v1 ds h =>
  kO (binV Tryd.prog .eql 5 true v1 (.int .u8 (7))) ds h (fun v2 ds h =>
  K .norm (T.set tm 46 v2) ds h)))
noncomputable def r11_7 : CodeT := fun call _ tm ds h K => (⟨opStep ⟨fun call env tm ds h K => kO (some (tg tm 3)) ds h K⟩ ⟨fun v tm => tm⟩ ⟨fun env tm => true⟩
  ⟨opStep ⟨fun call env tm ds h K => kO (some (nthD 0 env)) ds h K⟩ ⟨fun v tm => tm⟩ ⟨fun env tm => true⟩
  ⟨opStep ⟨fun call env tm ds h K => kO (fieldPtr 6 (tg tm 1)) ds h K⟩ ⟨fun v tm => tm⟩ ⟨fun env tm => isB true (nthD 0 env)⟩
  ⟨opStep ⟨fun call env tm ds h K => kO (loadOne h (nthD 0 env)) ds h K⟩ ⟨fun v tm => tm⟩ ⟨fun env tm => isB true (nthD 1 env)⟩
  ⟨opStep ⟨fun call env tm ds h K => kO (lenStr (nthD 0 env)) ds h K⟩ ⟨fun v tm => tm⟩ ⟨fun env tm => isB true (nthD 2 env)⟩
  ⟨opStep ⟨fun call env tm ds h K => kO (binV Tryd.prog .geq 3 true (nthD 0 env) (.int .i64 (1))) ds h K⟩ ⟨fun v tm => tm⟩ ⟨fun env tm => isB true (nthD 3 env)⟩
  ⟨opStep ⟨fun call env tm ds h K => kO (pickV (nthD 4 env) (nthD 0 env) (.bool false)) ds h K⟩ ⟨fun v tm => tm⟩ ⟨fun env tm => true⟩
  ⟨opStep ⟨fun call env tm ds h K => kO (some (nthD 0 env)) ds h K⟩ ⟨fun v tm => tm⟩ ⟨fun env tm => true⟩
  ⟨opStep ⟨fun call env tm ds h K => kO (fieldPtr 6 (tg tm 1)) ds h K⟩ ⟨fun v tm => tm⟩ ⟨fun env tm => isB true (nthD 0 env)⟩
  ⟨opStep ⟨fun call env tm ds h K => kO (loadOne h (nthD 0 env)) ds h K⟩ ⟨fun v tm => tm⟩ ⟨fun env tm => isB true (nthD 1 env)⟩
  ⟨opStep ⟨fun call env tm ds h K => kO (lenStr (nthD 0 env)) ds h K⟩ ⟨fun v tm => tm⟩ ⟨fun env tm => isB true (nthD 2 env)⟩
  ⟨opStep ⟨fun call env tm ds h K => kO (binV Tryd.prog .leq 3 true (nthD 0 env) (.int .i64 (32))) ds h K⟩ ⟨fun v tm => tm⟩ ⟨fun env tm => isB true (nthD 3 env)⟩
  ⟨opStep ⟨fun call env tm ds h K => kO (pickV (nthD 4 env) (nthD 0 env) (.bool false)) ds h K⟩ ⟨fun v tm => tm⟩ ⟨fun env tm => true⟩
  ⟨opStep ⟨fun call env tm ds h K => kO (some (nthD 0 env)) ds h K⟩ ⟨fun v tm => (T.set tm 3 v)⟩ ⟨fun env tm => true⟩
  ⟨fun _ _ tm ds h K => K .norm tm ds h⟩⟩⟩⟩⟩⟩⟩⟩⟩⟩⟩⟩⟩⟩⟩ : Box OpsT).f call [] tm ds h K
noncomputable def r11_8 : CodeT := fun call _ tm ds h K => (⟨opStep ⟨fun call env tm ds h K => kO (some (tg tm 3)) ds h K⟩ ⟨fun v tm => tm⟩ ⟨fun env tm => true⟩
  ⟨opStep ⟨fun call env tm ds h K => kO (some (nthD 0 env)) ds h K⟩ ⟨fun v tm => tm⟩ ⟨fun env tm => true⟩
  ⟨opStep ⟨fun call env tm ds h K => kO (fieldPtr 6 (tg tm 1)) ds h K⟩ ⟨fun v tm => tm⟩ ⟨fun env tm => isB true (nthD 0 env)⟩
  ⟨opStep ⟨fun call env tm ds h K => kO (loadOne h (nthD 0 env)) ds h K⟩ ⟨fun v tm => tm⟩ ⟨fun env tm => isB true (nthD 1 env)⟩
  ⟨opStep ⟨fun call env tm ds h K => kO (binV Tryd.prog .eql 9 true (nthD 0 env) (.string (strB []))) ds h K⟩ ⟨fun v tm => tm⟩ ⟨fun env tm => isB true (nthD 2 env)⟩
  ⟨opStep ⟨fun call env tm ds h K => kO (pickV (nthD 3 env) (nthD 0 env) (.bool false)) ds h K⟩ ⟨fun v tm => tm⟩ ⟨fun env tm => true⟩
  ⟨opStep ⟨fun call env tm ds h K => kO (some (nthD 0 env)) ds h K⟩ ⟨fun v tm => (T.set tm 3 v)⟩ ⟨fun env tm => true⟩
  ⟨fun _ _ tm ds h K => K .norm tm ds h⟩⟩⟩⟩⟩⟩⟩⟩ : Box OpsT).f call [] tm ds h K
noncomputable def r11_9 : CodeT := fun call _ tm ds h K => (⟨opStep ⟨fun call env tm ds h K => kO (some (tg tm 3)) ds h K⟩ ⟨fun v tm => tm⟩ ⟨fun env tm => true⟩
  ⟨opStep ⟨fun call env tm ds h K => kO (unV .not (nthD 0 env)) ds h K⟩ ⟨fun v tm => tm⟩ ⟨fun env tm => true⟩
  ⟨opStep ⟨fun call env tm ds h K => kO (some (nthD 0 env)) ds h K⟩ ⟨fun v tm => tm⟩ ⟨fun env tm => true⟩
  ⟨opStep ⟨fun call env tm ds h K => kO (fieldPtr 5 (tg tm 1)) ds h K⟩ ⟨fun v tm => tm⟩ ⟨fun env tm => isB false (nthD 0 env)⟩
  ⟨opStep ⟨fun call env tm ds h K => kO (loadOne h (nthD 0 env)) ds h K⟩ ⟨fun v tm => tm⟩ ⟨fun env tm => isB false (nthD 1 env)⟩
  ⟨opStep ⟨fun call env tm ds h K => kO (some (nthD 0 env)) ds h K⟩ ⟨fun v tm => tm⟩ ⟨fun env tm => isB false (nthD 2 env)⟩
  ⟨opStep ⟨fun call env tm ds h K => kO (fieldPtr 0 (tg tm 1)) ds h K⟩ ⟨fun v tm => tm⟩ ⟨fun env tm => isB true (nthD 0 env)⟩
  ⟨opStep ⟨fun call env tm ds h K => kO (loadOne h (nthD 0 env)) ds h K⟩ ⟨fun v tm => tm⟩ ⟨fun env tm => isB true (nthD 1 env)⟩
  ⟨opStep ⟨fun call env tm ds h K => kO (binV Tryd.prog .neq 5 true (nthD 0 env) (.int .u8 (2))) ds h K⟩ ⟨fun v tm => tm⟩ ⟨fun env tm => isB true (nthD 2 env)⟩
  ⟨opStep ⟨fun call env tm ds h K => kO (pickV (nthD 3 env) (nthD 0 env) (.bool false)) ds h K⟩ ⟨fun v tm => tm⟩ ⟨fun env tm => isB false (nthD 6 env)⟩
  ⟨opStep ⟨fun call env tm ds h K => kO (some (nthD 0 env)) ds h K⟩ ⟨fun v tm => tm⟩ ⟨fun env tm => isB false (nthD 7 env)⟩
  ⟨opStep ⟨fun call env tm ds h K => kO (fieldPtr 0 (tg tm 1)) ds h K⟩ ⟨fun v tm => tm⟩ ⟨fun env tm => isB true (nthD 0 env)⟩
  ⟨opStep ⟨fun call env tm ds h K => kO (loadOne h (nthD 0 env)) ds h K⟩ ⟨fun v tm => tm⟩ ⟨fun env tm => isB true (nthD 1 env)⟩
  ⟨opStep ⟨fun call env tm ds h K => kO (binV Tryd.prog .neq 5 true (nthD 0 env) (.int .u8 (3))) ds h K⟩ ⟨fun v tm => tm⟩ ⟨fun env tm => isB true (nthD 2 env)⟩
  ⟨opStep ⟨fun call env tm ds h K => kO (pickV (nthD 3 env) (nthD 0 env) (.bool false)) ds h K⟩ ⟨fun v tm => tm⟩ ⟨fun env tm => isB false (nthD 11 env)⟩
  ⟨opStep ⟨fun call env tm ds h K => kO (pickV (nthD 12 env) (.bool true) (nthD 0 env)) ds h K⟩ ⟨fun v tm => (T.set tm 81 v)⟩ ⟨fun env tm => true⟩
  ⟨fun _ _ tm ds h K => K .norm tm ds h⟩⟩⟩⟩⟩⟩⟩⟩⟩⟩⟩⟩⟩⟩⟩⟩⟩ : Box OpsT).f call [] tm ds h K
noncomputable def r11_10 : CodeT := fun call _ tm ds h K =>
  K .norm (T.set tm 2 (.int .i64 (8))) ds h
noncomputable def r11_11 : CodeT := fun call _ tm ds h K =>
  K .norm (T.set tm 2 (.int .i64 (0))) ds h
noncomputable def c11 : Box CodeT := ⟨seqC ⟨r11_0⟩ ⟨seqC ⟨r11_1⟩ ⟨seqC ⟨blockC 0 ⟨seqC ⟨r11_2⟩ ⟨condC ⟨fun _ tm => tg tm 4⟩ ⟨r11_3⟩ ⟨seqC ⟨r11_4⟩ ⟨condC ⟨fun _ tm => tg tm 13⟩ ⟨r11_5⟩ skipC⟩⟩⟩⟩⟩ ⟨seqC ⟨seqC ⟨r11_6⟩ ⟨condC ⟨fun _ tm => tg tm 46⟩ ⟨r11_7⟩ ⟨r11_8⟩⟩⟩ ⟨seqC ⟨seqC ⟨r11_9⟩ ⟨condC ⟨fun _ tm => tg tm 81⟩ ⟨seqC ⟨r11_10⟩ retC⟩ skipC⟩⟩ ⟨seqC ⟨r11_11⟩ retC⟩⟩⟩⟩⟩⟩
noncomputable def q11 : Box (T Value → H → Option (List Value)) := ⟨fun tm h => some [tg tm 2]⟩

/-! 12 cloakroom/cloakroomref15.Check -/
noncomputable def r12_0 : CodeT := fun call _ tm ds h K =>
  kA (some (.rw (Value.cells (tg tm 0)).toList (some 27), ptrTo h.next)) ds h (fun v0 ds h =>
  K .norm (T.set (T.set tm 1 v0) 2 (.int .i64 (0))) ds h)
noncomputable def r12_1 : CodeT := fun call _ tm ds h K =>
  kO (loadAgg 7 h (tg tm 1)) ds h (fun v0 ds h =>
  call 24 [v0] h (fun v h => (fun v1 ds h =>
  kO (unV .not v1) ds h (fun v2 ds h =>
  K .norm (T.set tm 5 v2) ds h)) v ds h))
noncomputable def r12_2 : CodeT := fun call _ tm ds h K =>
  K .norm (T.set tm 2 (.int .i64 (8))) ds h
noncomputable def r12_3 : CodeT := fun call _ tm ds h K =>
  K .norm (T.set tm 2 (.int .i64 (0))) ds h
noncomputable def c12 : Box CodeT := ⟨seqC ⟨r12_0⟩ ⟨seqC ⟨seqC ⟨r12_1⟩ ⟨condC ⟨fun _ tm => tg tm 5⟩ ⟨seqC ⟨r12_2⟩ retC⟩ skipC⟩⟩ ⟨seqC ⟨r12_3⟩ retC⟩⟩⟩
noncomputable def q12 : Box (T Value → H → Option (List Value)) := ⟨fun tm h => some [tg tm 2]⟩

/-! 18 cloakroom/words.plain -/
noncomputable def r18_0 : CodeT := fun call _ tm ds h K =>
  K .norm (T.set tm 2 (.bool false)) ds h
noncomputable def r18_1 : CodeT := fun call _ tm ds h K =>
  call 38 [(tg tm 0), (.func (.func 39) #[] #[])] h (fun v h => (fun v1 ds h =>
  kO (binV Tryd.prog .lss 3 true v1 (.int .i64 (0))) ds h (fun v2 ds h =>
  K .norm (T.set tm 2 v2) ds h)) v ds h)
noncomputable def c18 : Box CodeT := ⟨seqC ⟨r18_0⟩ ⟨seqC ⟨r18_1⟩ retC⟩⟩
noncomputable def q18 : Box (T Value → H → Option (List Value)) := ⟨fun tm h => some [tg tm 2]⟩

/-! 19 slices.ContainsFunc[[]cloakroom/api.Item,cloakroom/api.Item] -/
noncomputable def r19_0 : CodeT := fun call _ tm ds h K =>
  K .norm (T.set tm 4 (.bool false)) ds h
noncomputable def r19_1 : CodeT := fun call _ tm ds h K =>
  call 40 [(tg tm 0), (tg tm 1)] h (fun v h => (fun v2 ds h =>
  kO (binV Tryd.prog .geq 3 true v2 (.int .i64 (0))) ds h (fun v3 ds h =>
  K .norm (T.set tm 4 v3) ds h)) v ds h)
noncomputable def c19 : Box CodeT := ⟨seqC ⟨r19_0⟩ ⟨seqC ⟨r19_1⟩ retC⟩⟩
noncomputable def q19 : Box (T Value → H → Option (List Value)) := ⟨fun tm h => some [tg tm 4]⟩

/-! 20 cloakroom/words.Write$1 -/
noncomputable def r20_0 : CodeT := fun call _ tm ds h K =>
  kA (some (.rw (Value.cells (tg tm 0)).toList (some 48), ptrTo h.next)) ds h (fun v0 ds h =>
  K .norm (T.set (T.set tm 1 v0) 2 (.bool false)) ds h)
noncomputable def r20_1 : CodeT := fun call _ tm ds h K =>
  kO (fieldPtr 0 (tg tm 1)) ds h (fun v0 ds h =>
  kO (loadOne h v0) ds h (fun v1 ds h =>
  call 18 [v1] h (fun v h => (fun v2 ds h =>
  kO (unV .not v2) ds h (fun v3 ds h =>
  K .norm (T.set tm 2 v3) ds h)) v ds h)))
noncomputable def c20 : Box CodeT := ⟨seqC ⟨r20_0⟩ ⟨seqC ⟨r20_1⟩ retC⟩⟩
noncomputable def q20 : Box (T Value → H → Option (List Value)) := ⟨fun tm h => some [tg tm 2]⟩

/-! 21 cloakroom/words.results -/
noncomputable def r21_0 : CodeT := fun call _ tm ds h K =>
  kA (some (.rw [(.string (strB [])), (.string (strB [])), (.string (strB [])), (.string (strB [])), (.string (strB [])), (.string (strB [])), (.string (strB [])), (.string (strB []))] (some 52), ptrTo h.next)) ds h (fun v0 ds h =>
  K .norm (T.set tm 0 v0) ds h)
noncomputable def r21_1 : CodeT := fun call _ tm ds h K =>
  kO (aggO (fill [(.string (strB [])), (.string (strB [])), (.string (strB [])), (.string (strB [])), (.string (strB [])), (.string (strB [])), (.string (strB [])), (.string (strB []))] (pl 1) [(2, (.string (strB [78, 79, 84, 95, 70, 79, 85, 78, 68]))), (3, (.string (strB [69, 88, 73, 83, 84, 83]))), (4, (.string (strB [84, 79, 79, 95, 76, 65, 82, 71, 69]))), (5, (.string (strB [78, 79, 95, 77, 69, 77, 79, 82, 89]))), (6, (.string (strB [78, 79, 84, 95, 78, 85, 77, 66, 69, 82]))), (7, (.string (strB [68, 69, 78, 73, 69, 68])))])) ds h (fun v0 ds h =>
  kH (withV undef (storeV 8 h (tg tm 0) v0)) ds (fun v1 ds h =>
  K .norm tm ds h))
noncomputable def c21 : Box CodeT := ⟨seqC ⟨r21_0⟩ ⟨seqC ⟨r21_1⟩ retC⟩⟩
noncomputable def q21 : Box (T Value → H → Option (List Value)) := ⟨fun tm h => (match loadAgg 8 h (tg tm 0) with | some v => (match (some [] : Option (List Value)) with | some l => some (v :: l) | none => none) | none => none)⟩

/-! 22 cloakroom/words.done -/
noncomputable def r22_0 : CodeT := fun call _ tm ds h K =>
  kA (some (.rw (Value.cells (tg tm 0)).toList (some 27), ptrTo h.next)) ds h (fun v0 ds h =>
  K .norm (T.set (T.set tm 1 v0) 2 (.string (strB []))) ds h)
noncomputable def r22_1 : CodeT := fun call _ tm ds h K =>
  kA (some (.rw [(.pointer none), (.slice none 0 0)] (some 74), ptrTo h.next)) ds h (fun v0 ds h =>
  K .norm (T.set tm 3 v0) ds h)
noncomputable def r22_2 : CodeT := fun call _ tm ds h K =>
  kO (fieldPtr 2 (tg tm 1)) ds h (fun v0 ds h =>
  kO (fieldPtr 1 v0) ds h (fun v1 ds h =>
  kO (loadOne h v1) ds h (fun v2 ds h =>
  kO (lenSl v2) ds h (fun v3 ds h =>
  K .norm (T.set (T.set (T.set tm 10 v2) 11 v3) 12 (.int .i64 (0))) ds h))))
noncomputable def r22_3 : CodeT := fun call _ tm ds h K =>
  kO (binV Tryd.prog .lss 3 false (tg tm 12) (tg tm 11)) ds h (fun v0 ds h =>
  K .norm (T.set tm 13 v0) ds h)
noncomputable def r22_4 : CodeT := fun call _ tm ds h K =>
  kO (indexSl 5 (tg tm 10) (tg tm 12)) ds h (fun v0 ds h =>
  kO (loadAgg 5 h v0) ds h (fun v1 ds h =>
  kA (some (.rw [(.string (strB [])), (.string (strB [])), (.int .u32 (0)), (.int .i64 (0)), (.int .u64 (0))] (some 48), ptrTo h.next)) ds h (fun v2 ds h =>
  kH (withV undef (storeV 5 h v2 v1)) ds (fun v3 ds h =>
  K .norm (T.set tm 5 v2) ds h))))
noncomputable def r22_5 : CodeT := fun call _ tm ds h0 K =>
  (fun (b0 : Nat) (h : H) =>
  kO (fieldPtr 0 (tg tm 5)) ds h (fun v0 ds h =>
  kO (loadOne h v0) ds h (fun v1 ds h =>
  kO (fieldPtr 2 (tg tm 5)) ds h (fun v2 ds h =>
  kO (loadOne h v2) ds h (fun v3 ds h =>
  kO (toInt .u64 v3) ds h (fun v4 ds h =>
  kO (fieldPtr 3 (tg tm 5)) ds h (fun v6 ds h =>
  kO (loadOne h v6) ds h (fun v7 ds h =>
  kO (toInt .u64 v7) ds h (fun v8 ds h =>
  kO (fieldPtr 4 (tg tm 5)) ds h (fun v10 ds h =>
  kO (loadOne h v10) ds h (fun v11 ds h =>
  kO (fieldPtr 1 (tg tm 5)) ds h (fun v13 ds h =>
  kO (loadOne h v13) ds h (fun v14 ds h =>
  kO (lenStr v14) ds h (fun v15 ds h =>
  kO (toInt .u64 v15) ds h (fun v16 ds h =>
  kO (fieldPtr 1 (tg tm 5)) ds h (fun v21 ds h =>
  kO (loadOne h v21) ds h (fun v22 ds h =>
  call 43 [v4] h (fun v h => (fun v5 ds h =>
  andB ((hO (loadOne h v21) v22 (hO (loadOne h v13) v14 (hO (loadOne h v10) v11 (hO (loadOne h v6) v7 (hO (loadOne h v0) v1 true))))) && true) (call 43 [v8] h (fun v h => (fun v9 ds h =>
  andB ((hO (loadOne h v21) v22 (hO (loadOne h v13) v14 (hO (loadOne h v10) v11 (hO (loadOne h v0) v1 true)))) && true) (call 43 [v11] h (fun v h => (fun v12 ds h =>
  andB ((hO (loadOne h v21) v22 (hO (loadOne h v13) v14 (hO (loadOne h v0) v1 true))) && true) (call 43 [v16] h (fun v h => (fun v17 ds h =>
  andB ((hO (loadOne h v21) v22 (hO (loadOne h v0) v1 true)) && true) (aO (mkLit 9 6 (b0 + 18) (fill (repl [(.string (strB []))] 6) (pl 1) [(0, (.string (strB [86, 65, 76, 85, 69]))), (1, v1), (2, v5), (3, v9), (4, v12), (5, v17)])) (fun x18 v18 =>
  call 42 [v18, (.string (strB [32]))] (H.put h (b0 + 18) x18) (fun v h => (fun v19 ds h =>
  andB ((hO (loadOne h v21) v22 true) && true) (kO (binV Tryd.prog .add 9 true v19 (.string (strB [13, 10]))) ds h (fun v20 ds h =>
  kO (binV Tryd.prog .add 9 false v20 v22) ds h (fun v23 ds h =>
  kO (binV Tryd.prog .add 9 true v23 (.string (strB [13, 10]))) ds h (fun v24 ds h =>
  call 41 [(tg tm 3), v24] h (fun v h => (fun v25 ds h =>
  K .norm tm ds h) v ds h)))))) v ds h)))) v ds h))) v ds h))) v ds h))) v ds h)))))))))))))))))) h0.next ⟨h0.objs, h0.next + 26⟩
noncomputable def r22_6 : CodeT := fun call _ tm ds h K =>
  kO (binV Tryd.prog .add 3 true (tg tm 12) (.int .i64 (1))) ds h (fun v0 ds h =>
  K .norm (T.set tm 12 v0) ds h)
noncomputable def l22_7 : Box CodeT := ⟨seqC ⟨r22_3⟩ ⟨seqC ⟨condC ⟨fun _ tm => tg tm 13⟩ skipC (exitC 0)⟩ ⟨seqC ⟨blockC 1 ⟨seqC ⟨r22_4⟩ ⟨r22_5⟩⟩⟩ ⟨r22_6⟩⟩⟩⟩
noncomputable def r22_7 : CodeT := fun call _ tm ds h K =>
  call 44 [] h (fun v h => (fun v0 ds h =>
  K .norm (T.set (T.set tm 43 v0) 44 (.int .i64 (0))) ds h) v ds h)
noncomputable def r22_8 : CodeT := fun call _ tm ds h K =>
  kO (binV Tryd.prog .lss 3 true (tg tm 44) (.int .i64 (6))) ds h (fun v0 ds h =>
  K .norm (T.set tm 45 v0) ds h)
noncomputable def r22_9 : CodeT := fun call _ tm ds h K =>
  kO (indexAgg false 1 6 (tg tm 43) (tg tm 44)) ds h (fun v0 ds h =>
  K .norm (T.set tm 7 v0) ds h)
noncomputable def r22_10 : CodeT := fun call _ tm ds h K =>
  kO (fieldPtr 1 (tg tm 1)) ds h (fun v1 ds h =>
  kO (loadOne h v1) ds h (fun v2 ds h =>
  call 45 [(tg tm 7), v2] h (fun v h => (fun v3 ds h =>
  K .norm (T.set tm 50 v3) ds h) v ds h)))
noncomputable def r22_11 : CodeT := fun call _ tm ds h K =>
  call 41 [(tg tm 3), (tg tm 7)] h (fun v h => (fun v1 ds h =>
  K .norm tm ds h) v ds h)
noncomputable def r22_12 : CodeT := fun call _ tm ds h K =>
  kO (binV Tryd.prog .add 3 true (tg tm 44) (.int .i64 (1))) ds h (fun v0 ds h =>
  K .norm (T.set tm 44 v0) ds h)
noncomputable def l22_14 : Box CodeT := ⟨seqC ⟨r22_8⟩ ⟨seqC ⟨condC ⟨fun _ tm => tg tm 45⟩ skipC (exitC 2)⟩ ⟨seqC ⟨blockC 3 ⟨seqC ⟨r22_9⟩ ⟨seqC ⟨r22_10⟩ ⟨condC ⟨fun _ tm => tg tm 50⟩ ⟨r22_11⟩ skipC⟩⟩⟩⟩ ⟨r22_12⟩⟩⟩⟩
noncomputable def r22_13 : CodeT := fun call _ tm ds h K =>
  kO (fieldPtr 1 (tg tm 1)) ds h (fun v0 ds h =>
  kO (loadOne h v0) ds h (fun v1 ds h =>
  call 46 [v1] h (fun v h => (fun v2 ds h =>
  K .norm (T.set tm 56 v2) ds h) v ds h)))
noncomputable def r22_14 : CodeT := fun call _ tm ds h K =>
  kO (fieldPtr 2 (tg tm 1)) ds h (fun v0 ds h =>
  kO (fieldPtr 2 v0) ds h (fun v1 ds h =>
  kO (loadOne h v1) ds h (fun v2 ds h =>
  call 43 [v2] h (fun v h => (fun v3 ds h =>
  kO (binV Tryd.prog .add 9 true (.string (strB [32])) v3) ds h (fun v4 ds h =>
  call 41 [(tg tm 3), v4] h (fun v h => (fun v5 ds h =>
  K .norm tm ds h) v ds h))) v ds h))))
noncomputable def r22_15 : CodeT := fun call _ tm ds h K =>
  call 47 [(tg tm 3)] h (fun v h => (fun v0 ds h =>
  K .norm (T.set tm 2 v0) ds h) v ds h)
noncomputable def c22 : Box CodeT := ⟨seqC ⟨r22_0⟩ ⟨seqC ⟨r22_1⟩ ⟨seqC ⟨seqC ⟨r22_2⟩ ⟨blockC 0 (loopB l22_7)⟩⟩ ⟨seqC ⟨seqC ⟨r22_7⟩ ⟨blockC 2 (loopB l22_14)⟩⟩ ⟨seqC ⟨seqC ⟨r22_13⟩ ⟨condC ⟨fun _ tm => tg tm 56⟩ ⟨r22_14⟩ skipC⟩⟩ ⟨seqC ⟨r22_15⟩ retC⟩⟩⟩⟩⟩⟩
noncomputable def q22 : Box (T Value → H → Option (List Value)) := ⟨fun tm h => some [tg tm 2]⟩

/-! 23 cloakroom/words.either -/
noncomputable def r23_0 : CodeT := fun call _ tm ds h K =>
  K .norm (T.set tm 6 (.string (strB []))) ds h
noncomputable def r23_1 : CodeT := fun call _ tm ds h K =>
  K .norm (T.set tm 7 (tg tm 0)) ds h
noncomputable def r23_2 : CodeT := fun call _ tm ds h K =>
  K .norm (T.set tm 6 (tg tm 1)) ds h
noncomputable def r23_3 : CodeT := fun call _ tm ds h K =>
  K .norm (T.set tm 6 (tg tm 2)) ds h
noncomputable def c23 : Box CodeT := ⟨seqC ⟨r23_0⟩ ⟨seqC ⟨seqC ⟨r23_1⟩ ⟨condC ⟨fun _ tm => tg tm 7⟩ ⟨seqC ⟨r23_2⟩ retC⟩ skipC⟩⟩ ⟨seqC ⟨r23_3⟩ retC⟩⟩⟩
noncomputable def q23 : Box (T Value → H → Option (List Value)) := ⟨fun tm h => some [tg tm 6]⟩

/-! 24 cloakroom/cloakroomref15.May -/
noncomputable def r24_0 : CodeT := fun call _ tm ds h K =>
  kA (some (.rw (Value.cells (tg tm 0)).toList (some 27), ptrTo h.next)) ds h (fun v0 ds h =>
  K .norm (T.set (T.set tm 1 v0) 2 (.bool false)) ds h)
noncomputable def r24_1 : CodeT := fun call _ tm ds h K => (⟨opStep ⟨fun call env tm ds h K => kO (fieldPtr 0 (tg tm 1)) ds h K⟩ ⟨fun v tm => tm⟩ ⟨fun env tm => true⟩
  ⟨opStep ⟨fun call env tm ds h K => kO (loadOne h (nthD 0 env)) ds h K⟩ ⟨fun v tm => tm⟩ ⟨fun env tm => true⟩
  ⟨opStep ⟨fun call env tm ds h K => kO (binV Tryd.prog .lss 5 true (nthD 0 env) (.int .u8 (1))) ds h K⟩ ⟨fun v tm => tm⟩ ⟨fun env tm => true⟩
  ⟨opStep ⟨fun call env tm ds h K => kO (some (nthD 0 env)) ds h K⟩ ⟨fun v tm => tm⟩ ⟨fun env tm => true⟩
  ⟨opStep ⟨fun call env tm ds h K => kO (fieldPtr 0 (tg tm 1)) ds h K⟩ ⟨fun v tm => tm⟩ ⟨fun env tm => isB false (nthD 0 env)⟩
  ⟨opStep ⟨fun call env tm ds h K => kO (loadOne h (nthD 0 env)) ds h K⟩ ⟨fun v tm => tm⟩ ⟨fun env tm => isB false (nthD 1 env)⟩
  ⟨opStep ⟨fun call env tm ds h K => kO (binV Tryd.prog .gtr 5 true (nthD 0 env) (.int .u8 (7))) ds h K⟩ ⟨fun v tm => tm⟩ ⟨fun env tm => isB false (nthD 2 env)⟩
  ⟨opStep ⟨fun call env tm ds h K => kO (pickV (nthD 3 env) (.bool true) (nthD 0 env)) ds h K⟩ ⟨fun v tm => tm⟩ ⟨fun env tm => true⟩
  ⟨opStep ⟨fun call env tm ds h K => kO (some (nthD 0 env)) ds h K⟩ ⟨fun v tm => tm⟩ ⟨fun env tm => true⟩
  ⟨opStep ⟨fun call env tm ds h K => kO (fieldPtr 5 (tg tm 1)) ds h K⟩ ⟨fun v tm => tm⟩ ⟨fun env tm => isB false (nthD 0 env)⟩
  ⟨opStep ⟨fun call env tm ds h K => kO (loadOne h (nthD 0 env)) ds h K⟩ ⟨fun v tm => tm⟩ ⟨fun env tm => isB false (nthD 1 env)⟩
  ⟨opStep ⟨fun call env tm ds h K => kO (some (nthD 0 env)) ds h K⟩ ⟨fun v tm => tm⟩ ⟨fun env tm => isB false (nthD 2 env)⟩
  ⟨opStep ⟨fun call env tm ds h K => kO (fieldPtr 0 (tg tm 1)) ds h K⟩ ⟨fun v tm => tm⟩ ⟨fun env tm => isB true (nthD 0 env)⟩
  ⟨opStep ⟨fun call env tm ds h K => kO (loadOne h (nthD 0 env)) ds h K⟩ ⟨fun v tm => tm⟩ ⟨fun env tm => isB true (nthD 1 env)⟩
  ⟨opStep ⟨fun call env tm ds h K => kO (binV Tryd.prog .neq 5 true (nthD 0 env) (.int .u8 (2))) ds h K⟩ ⟨fun v tm => tm⟩ ⟨fun env tm => isB true (nthD 2 env)⟩
  ⟨opStep ⟨fun call env tm ds h K => kO (pickV (nthD 3 env) (nthD 0 env) (.bool false)) ds h K⟩ ⟨fun v tm => tm⟩ ⟨fun env tm => isB false (nthD 6 env)⟩
  ⟨opStep ⟨fun call env tm ds h K => kO (some (nthD 0 env)) ds h K⟩ ⟨fun v tm => tm⟩ ⟨fun env tm => isB false (nthD 7 env)⟩
  ⟨opStep ⟨fun call env tm ds h K => kO (fieldPtr 0 (tg tm 1)) ds h K⟩ ⟨fun v tm => tm⟩ ⟨fun env tm => isB true (nthD 0 env)⟩
  ⟨opStep ⟨fun call env tm ds h K => kO (loadOne h (nthD 0 env)) ds h K⟩ ⟨fun v tm => tm⟩ ⟨fun env tm => isB true (nthD 1 env)⟩
  ⟨opStep ⟨fun call env tm ds h K => kO (binV Tryd.prog .neq 5 true (nthD 0 env) (.int .u8 (3))) ds h K⟩ ⟨fun v tm => tm⟩ ⟨fun env tm => isB true (nthD 2 env)⟩
  ⟨opStep ⟨fun call env tm ds h K => kO (pickV (nthD 3 env) (nthD 0 env) (.bool false)) ds h K⟩ ⟨fun v tm => tm⟩ ⟨fun env tm => isB false (nthD 11 env)⟩
  ⟨opStep ⟨fun call env tm ds h K => kO (pickV (nthD 12 env) (.bool true) (nthD 0 env)) ds h K⟩ ⟨fun v tm => (T.set tm 26 v)⟩ ⟨fun env tm => true⟩
  ⟨fun _ _ tm ds h K => K .norm tm ds h⟩⟩⟩⟩⟩⟩⟩⟩⟩⟩⟩⟩⟩⟩⟩⟩⟩⟩⟩⟩⟩⟩⟩ : Box OpsT).f call [] tm ds h K
noncomputable def r24_2 : CodeT := fun call _ tm ds h K =>
  K .norm (T.set tm 2 (.bool false)) ds h
noncomputable def r24_3 : CodeT := fun call _ tm ds h K => (⟨opStep ⟨fun call env tm ds h K => kO (fieldPtr 0 (tg tm 1)) ds h K⟩ ⟨fun v tm => tm⟩ ⟨fun env tm => true⟩
  ⟨opStep ⟨fun call env tm ds h K => kO (loadOne h (nthD 0 env)) ds h K⟩ ⟨fun v tm => tm⟩ ⟨fun env tm => true⟩
  ⟨opStep ⟨fun call env tm ds h K => kO (binV Tryd.prog .eql 5 true (nthD 0 env) (.int .u8 (7))) ds h K⟩ ⟨fun v tm => tm⟩ ⟨fun env tm => true⟩
  ⟨opStep ⟨fun call env tm ds h K => kO (some (nthD 0 env)) ds h K⟩ ⟨fun v tm => tm⟩ ⟨fun env tm => true⟩
  ⟨opStep ⟨fun call env tm ds h K => kO (fieldPtr 6 (tg tm 1)) ds h K⟩ ⟨fun v tm => tm⟩ ⟨fun env tm => isB true (nthD 0 env)⟩
  ⟨opStep ⟨fun call env tm ds h K => kO (loadOne h (nthD 0 env)) ds h K⟩ ⟨fun v tm => tm⟩ ⟨fun env tm => isB true (nthD 1 env)⟩
  ⟨opStep ⟨fun call env tm ds h K => kO (lenStr (nthD 0 env)) ds h K⟩ ⟨fun v tm => tm⟩ ⟨fun env tm => isB true (nthD 2 env)⟩
  ⟨opStep ⟨fun call env tm ds h K => kO (binV Tryd.prog .lss 3 true (nthD 0 env) (.int .i64 (1))) ds h K⟩ ⟨fun v tm => tm⟩ ⟨fun env tm => isB true (nthD 3 env)⟩
  ⟨opStep ⟨fun call env tm ds h K => kO (some (nthD 0 env)) ds h K⟩ ⟨fun v tm => tm⟩ ⟨fun env tm => isB true (nthD 4 env)⟩
  ⟨opStep ⟨fun call env tm ds h K => kO (fieldPtr 6 (tg tm 1)) ds h K⟩ ⟨fun v tm => tm⟩ ⟨fun env tm => isB false (nthD 0 env)⟩
  ⟨opStep ⟨fun call env tm ds h K => kO (loadOne h (nthD 0 env)) ds h K⟩ ⟨fun v tm => tm⟩ ⟨fun env tm => isB false (nthD 1 env)⟩
  ⟨opStep ⟨fun call env tm ds h K => kO (lenStr (nthD 0 env)) ds h K⟩ ⟨fun v tm => tm⟩ ⟨fun env tm => isB false (nthD 2 env)⟩
  ⟨opStep ⟨fun call env tm ds h K => kO (binV Tryd.prog .gtr 3 true (nthD 0 env) (.int .i64 (32))) ds h K⟩ ⟨fun v tm => tm⟩ ⟨fun env tm => isB false (nthD 3 env)⟩
  ⟨opStep ⟨fun call env tm ds h K => kO (pickV (nthD 4 env) (.bool true) (nthD 0 env)) ds h K⟩ ⟨fun v tm => tm⟩ ⟨fun env tm => isB true (nthD 9 env)⟩
  ⟨opStep ⟨fun call env tm ds h K => kO (pickV (nthD 10 env) (nthD 0 env) (.bool false)) ds h K⟩ ⟨fun v tm => tm⟩ ⟨fun env tm => true⟩
  ⟨opStep ⟨fun call env tm ds h K => kO (some (nthD 0 env)) ds h K⟩ ⟨fun v tm => tm⟩ ⟨fun env tm => true⟩
  ⟨opStep ⟨fun call env tm ds h K => kO (fieldPtr 0 (tg tm 1)) ds h K⟩ ⟨fun v tm => tm⟩ ⟨fun env tm => isB false (nthD 0 env)⟩
  ⟨opStep ⟨fun call env tm ds h K => kO (loadOne h (nthD 0 env)) ds h K⟩ ⟨fun v tm => tm⟩ ⟨fun env tm => isB false (nthD 1 env)⟩
  ⟨opStep ⟨fun call env tm ds h K => kO (binV Tryd.prog .neq 5 true (nthD 0 env) (.int .u8 (7))) ds h K⟩ ⟨fun v tm => tm⟩ ⟨fun env tm => isB false (nthD 2 env)⟩
  ⟨opStep ⟨fun call env tm ds h K => kO (some (nthD 0 env)) ds h K⟩ ⟨fun v tm => tm⟩ ⟨fun env tm => isB false (nthD 3 env)⟩
  ⟨opStep ⟨fun call env tm ds h K => kO (fieldPtr 6 (tg tm 1)) ds h K⟩ ⟨fun v tm => tm⟩ ⟨fun env tm => isB true (nthD 0 env)⟩
  ⟨opStep ⟨fun call env tm ds h K => kO (loadOne h (nthD 0 env)) ds h K⟩ ⟨fun v tm => tm⟩ ⟨fun env tm => isB true (nthD 1 env)⟩
  ⟨opStep ⟨fun call env tm ds h K => kO (binV Tryd.prog .neq 9 true (nthD 0 env) (.string (strB []))) ds h K⟩ ⟨fun v tm => tm⟩ ⟨fun env tm => isB true (nthD 2 env)⟩
  ⟨opStep ⟨fun call env tm ds h K => kO (pickV (nthD 3 env) (nthD 0 env) (.bool false)) ds h K⟩ ⟨fun v tm => tm⟩ ⟨fun env tm => isB false (nthD 7 env)⟩
  ⟨opStep ⟨fun call env tm ds h K => kO (pickV (nthD 8 env) (.bool true) (nthD 0 env)) ds h K⟩ ⟨fun v tm => (T.set tm 51 v)⟩ ⟨fun env tm => true⟩
  ⟨fun _ _ tm ds h K => K .norm tm ds h⟩⟩⟩⟩⟩⟩⟩⟩⟩⟩⟩⟩⟩⟩⟩⟩⟩⟩⟩⟩⟩⟩⟩⟩⟩⟩ : Box OpsT).f call [] tm ds h K
noncomputable def r24_4 : CodeT := fun call _ tm ds h K =>
  K .norm (T.set tm 2 (.bool false)) ds h
noncomputable def r24_5 : CodeT := fun call _ tm ds h K =>
  kO (fieldPtr 2 (tg tm 1)) ds h (fun v0 ds h =>
  kO (loadAgg 3 h v0) ds h (fun v1 ds h =>
  kA (some (.rw [(.int .u8 (0)), (.slice none 0 0), (.int .u64 (0))] (some 25), ptrTo h.next)) ds h (fun v2 ds h =>
  kH (withV undef (storeV 3 h v2 v1)) ds (fun v3 ds h =>
  K .norm (T.set tm 3 v2) ds h))))
noncomputable def r24_6 : CodeT := fun call _ tm ds h K =>
  kO (fieldPtr 0 (tg tm 1)) ds h (fun v0 ds h =>
  kO (loadOne h v0) ds h (fun v1 ds h =>
  kO (binV Tryd.prog .neq 5 true v1 (.int .u8 (1))) ds h (fun v2 ds h =>
  K .norm (T.set tm 56 v2) ds h)))
noncomputable def r24_7 : CodeT := fun call _ tm ds h K => (⟨opStep ⟨fun call env tm ds h K => kO (fieldPtr 1 (tg tm 1)) ds h K⟩ ⟨fun v tm => tm⟩ ⟨fun env tm => true⟩
  ⟨opStep ⟨fun call env tm ds h K => kO (loadOne h (nthD 0 env)) ds h K⟩ ⟨fun v tm => tm⟩ ⟨fun env tm => true⟩
  ⟨opStep ⟨fun call env tm ds h K => kO (binV Tryd.prog .eql 5 true (nthD 0 env) (.int .u8 (0))) ds h K⟩ ⟨fun v tm => tm⟩ ⟨fun env tm => true⟩
  ⟨opStep ⟨fun call env tm ds h K => kO (some (nthD 0 env)) ds h K⟩ ⟨fun v tm => tm⟩ ⟨fun env tm => true⟩
  ⟨opStep ⟨fun call env tm ds h K => kO (fieldPtr 0 (tg tm 3)) ds h K⟩ ⟨fun v tm => tm⟩ ⟨fun env tm => isB true (nthD 0 env)⟩
  ⟨opStep ⟨fun call env tm ds h K => kO (loadOne h (nthD 0 env)) ds h K⟩ ⟨fun v tm => tm⟩ ⟨fun env tm => isB true (nthD 1 env)⟩
  ⟨opStep ⟨fun call env tm ds h K => kO (binV Tryd.prog .eql 5 true (nthD 0 env) (.int .u8 (0))) ds h K⟩ ⟨fun v tm => tm⟩ ⟨fun env tm => isB true (nthD 2 env)⟩
  ⟨opStep ⟨fun call env tm ds h K => kO (pickV (nthD 3 env) (nthD 0 env) (.bool false)) ds h K⟩ ⟨fun v tm => tm⟩ ⟨fun env tm => true⟩
  ⟨opStep ⟨fun call env tm ds h K => kO (some (nthD 0 env)) ds h K⟩ ⟨fun v tm => tm⟩ ⟨fun env tm => true⟩
  ⟨opStep ⟨fun call env tm ds h K => kO (fieldPtr 2 (tg tm 3)) ds h K⟩ ⟨fun v tm => tm⟩ ⟨fun env tm => isB true (nthD 0 env)⟩
  ⟨opStep ⟨fun call env tm ds h K => kO (loadOne h (nthD 0 env)) ds h K⟩ ⟨fun v tm => tm⟩ ⟨fun env tm => isB true (nthD 1 env)⟩
  ⟨opStep ⟨fun call env tm ds h K => kO (binV Tryd.prog .eql 23 true (nthD 0 env) (.int .u64 (0))) ds h K⟩ ⟨fun v tm => tm⟩ ⟨fun env tm => isB true (nthD 2 env)⟩
  ⟨opStep ⟨fun call env tm ds h K => kO (pickV (nthD 3 env) (nthD 0 env) (.bool false)) ds h K⟩ ⟨fun v tm => tm⟩ ⟨fun env tm => true⟩
  ⟨opStep ⟨fun call env tm ds h K => kO (some (nthD 0 env)) ds h K⟩ ⟨fun v tm => tm⟩ ⟨fun env tm => true⟩
  ⟨opStep ⟨fun call env tm ds h K => kO (fieldPtr 1 (tg tm 3)) ds h K⟩ ⟨fun v tm => tm⟩ ⟨fun env tm => isB true (nthD 0 env)⟩
  ⟨opStep ⟨fun call env tm ds h K => kO (loadOne h (nthD 0 env)) ds h K⟩ ⟨fun v tm => tm⟩ ⟨fun env tm => isB true (nthD 1 env)⟩
  ⟨opStep ⟨fun call env tm ds h K => kO (lenSl (nthD 0 env)) ds h K⟩ ⟨fun v tm => tm⟩ ⟨fun env tm => isB true (nthD 2 env)⟩
  ⟨opStep ⟨fun call env tm ds h K => kO (binV Tryd.prog .eql 3 true (nthD 0 env) (.int .i64 (0))) ds h K⟩ ⟨fun v tm => tm⟩ ⟨fun env tm => isB true (nthD 3 env)⟩
  ⟨opStep ⟨fun call env tm ds h K => kO (pickV (nthD 4 env) (nthD 0 env) (.bool false)) ds h K⟩ ⟨fun v tm => tm⟩ ⟨fun env tm => true⟩
  ⟨opStep ⟨fun call env tm ds h K => kO (some (nthD 0 env)) ds h K⟩ ⟨fun v tm => (T.set tm 2 v)⟩ ⟨fun env tm => true⟩
  ⟨fun _ _ tm ds h K => K .norm tm ds h⟩⟩⟩⟩⟩⟩⟩⟩⟩⟩⟩⟩⟩⟩⟩⟩⟩⟩⟩⟩⟩ : Box OpsT).f call [] tm ds h K
noncomputable def r24_8 : CodeT := fun call _ tm ds h K => (⟨opStep ⟨fun call env tm ds h K => kO (fieldPtr 1 (tg tm 1)) ds h K⟩ ⟨fun v tm => tm⟩ ⟨fun env tm => true⟩
  ⟨opStep ⟨fun call env tm ds h K => kO (loadOne h (nthD 0 env)) ds h K⟩ ⟨fun v tm => tm⟩ ⟨fun env tm => true⟩
  ⟨opStep ⟨fun call env tm ds h K => kO (binV Tryd.prog .lss 5 true (nthD 0 env) (.int .u8 (1))) ds h K⟩ ⟨fun v tm => tm⟩ ⟨fun env tm => true⟩
  ⟨opStep ⟨fun call env tm ds h K => kO (some (nthD 0 env)) ds h K⟩ ⟨fun v tm => tm⟩ ⟨fun env tm => true⟩
  ⟨opStep ⟨fun call env tm ds h K => kO (fieldPtr 1 (tg tm 1)) ds h K⟩ ⟨fun v tm => tm⟩ ⟨fun env tm => isB false (nthD 0 env)⟩
  ⟨opStep ⟨fun call env tm ds h K => kO (loadOne h (nthD 0 env)) ds h K⟩ ⟨fun v tm => tm⟩ ⟨fun env tm => isB false (nthD 1 env)⟩
  ⟨opStep ⟨fun call env tm ds h K => kO (binV Tryd.prog .gtr 5 true (nthD 0 env) (.int .u8 (11))) ds h K⟩ ⟨fun v tm => tm⟩ ⟨fun env tm => isB false (nthD 2 env)⟩
  ⟨opStep ⟨fun call env tm ds h K => kO (pickV (nthD 3 env) (.bool true) (nthD 0 env)) ds h K⟩ ⟨fun v tm => tm⟩ ⟨fun env tm => true⟩
  ⟨opStep ⟨fun call env tm ds h K => kO (some (nthD 0 env)) ds h K⟩ ⟨fun v tm => tm⟩ ⟨fun env tm => true⟩
  ⟨opStep ⟨fun call env tm ds h K => kO (fieldPtr 0 (tg tm 3)) ds h K⟩ ⟨fun v tm => tm⟩ ⟨fun env tm => isB false (nthD 0 env)⟩
  ⟨opStep ⟨fun call env tm ds h K => kO (loadOne h (nthD 0 env)) ds h K⟩ ⟨fun v tm => tm⟩ ⟨fun env tm => isB false (nthD 1 env)⟩
  ⟨opStep ⟨fun call env tm ds h K => kO (binV Tryd.prog .lss 5 true (nthD 0 env) (.int .u8 (1))) ds h K⟩ ⟨fun v tm => tm⟩ ⟨fun env tm => isB false (nthD 2 env)⟩
  ⟨opStep ⟨fun call env tm ds h K => kO (pickV (nthD 3 env) (.bool true) (nthD 0 env)) ds h K⟩ ⟨fun v tm => tm⟩ ⟨fun env tm => true⟩
  ⟨opStep ⟨fun call env tm ds h K => kO (some (nthD 0 env)) ds h K⟩ ⟨fun v tm => tm⟩ ⟨fun env tm => true⟩
  ⟨opStep ⟨fun call env tm ds h K => kO (fieldPtr 0 (tg tm 3)) ds h K⟩ ⟨fun v tm => tm⟩ ⟨fun env tm => isB false (nthD 0 env)⟩
  ⟨opStep ⟨fun call env tm ds h K => kO (loadOne h (nthD 0 env)) ds h K⟩ ⟨fun v tm => tm⟩ ⟨fun env tm => isB false (nthD 1 env)⟩
  ⟨opStep ⟨fun call env tm ds h K => kO (binV Tryd.prog .gtr 5 true (nthD 0 env) (.int .u8 (7))) ds h K⟩ ⟨fun v tm => tm⟩ ⟨fun env tm => isB false (nthD 2 env)⟩
  ⟨opStep ⟨fun call env tm ds h K => kO (pickV (nthD 3 env) (.bool true) (nthD 0 env)) ds h K⟩ ⟨fun v tm => tm⟩ ⟨fun env tm => true⟩
  ⟨opStep ⟨fun call env tm ds h K => kO (some (nthD 0 env)) ds h K⟩ ⟨fun v tm => tm⟩ ⟨fun env tm => true⟩
  ⟨opStep ⟨fun call env tm ds h K => kO (fieldPtr 1 (tg tm 3)) ds h K⟩ ⟨fun v tm => tm⟩ ⟨fun env tm => isB false (nthD 0 env)⟩
  ⟨opStep ⟨fun call env tm ds h K => kO (loadOne h (nthD 0 env)) ds h K⟩ ⟨fun v tm => tm⟩ ⟨fun env tm => isB false (nthD 1 env)⟩
  ⟨opStep ⟨fun call env tm ds h K => kO (lenSl (nthD 0 env)) ds h K⟩ ⟨fun v tm => tm⟩ ⟨fun env tm => isB false (nthD 2 env)⟩
  ⟨opStep ⟨fun call env tm ds h K => kO (binV Tryd.prog .gtr 3 true (nthD 0 env) (.int .i64 (8))) ds h K⟩ ⟨fun v tm => tm⟩ ⟨fun env tm => isB false (nthD 3 env)⟩
  ⟨opStep ⟨fun call env tm ds h K => kO (pickV (nthD 4 env) (.bool true) (nthD 0 env)) ds h K⟩ ⟨fun v tm => (T.set tm 99 v)⟩ ⟨fun env tm => true⟩
  ⟨fun _ _ tm ds h K => K .norm tm ds h⟩⟩⟩⟩⟩⟩⟩⟩⟩⟩⟩⟩⟩⟩⟩⟩⟩⟩⟩⟩⟩⟩⟩⟩⟩ : Box OpsT).f call [] tm ds h K
noncomputable def r24_9 : CodeT := fun call _ tm ds h K =>
  K .norm (T.set tm 2 (.bool false)) ds h
noncomputable def r24_10 : CodeT := fun call _ tm ds h K => (⟨opStep ⟨fun call env tm ds h K => kO (fieldPtr 1 (tg tm 3)) ds h K⟩ ⟨fun v tm => tm⟩ ⟨fun env tm => true⟩
  ⟨opStep ⟨fun call env tm ds h K => kO (loadOne h (nthD 0 env)) ds h K⟩ ⟨fun v tm => tm⟩ ⟨fun env tm => true⟩
  ⟨opStep ⟨fun call env tm ds h K => kO (lenSl (nthD 0 env)) ds h K⟩ ⟨fun v tm => tm⟩ ⟨fun env tm => true⟩
  ⟨opStep ⟨fun call env tm ds h K => kO (binV Tryd.prog .gtr 3 true (nthD 0 env) (.int .i64 (0))) ds h K⟩ ⟨fun v tm => tm⟩ ⟨fun env tm => true⟩
  ⟨opStep ⟨fun call env tm ds h K => kO (some (nthD 0 env)) ds h K⟩ ⟨fun v tm => tm⟩ ⟨fun env tm => true⟩
  ⟨opStep ⟨fun call env tm ds h K => kO (fieldPtr 1 (tg tm 1)) ds h K⟩ ⟨fun v tm => tm⟩ ⟨fun env tm => isB true (nthD 0 env)⟩
  ⟨opStep ⟨fun call env tm ds h K => kO (loadOne h (nthD 0 env)) ds h K⟩ ⟨fun v tm => tm⟩ ⟨fun env tm => isB true (nthD 1 env)⟩
  ⟨opStep ⟨fun call env tm ds h K => kO (binV Tryd.prog .neq 5 true (nthD 0 env) (.int .u8 (1))) ds h K⟩ ⟨fun v tm => tm⟩ ⟨fun env tm => isB true (nthD 2 env)⟩
  ⟨opStep ⟨fun call env tm ds h K => kO (some (nthD 0 env)) ds h K⟩ ⟨fun v tm => tm⟩ ⟨fun env tm => isB true (nthD 3 env)⟩
  ⟨opStep ⟨fun call env tm ds h K => kO (fieldPtr 0 (tg tm 3)) ds h K⟩ ⟨fun v tm => tm⟩ ⟨fun env tm => isB false (nthD 0 env)⟩
  ⟨opStep ⟨fun call env tm ds h K => kO (loadOne h (nthD 0 env)) ds h K⟩ ⟨fun v tm => tm⟩ ⟨fun env tm => isB false (nthD 1 env)⟩
  ⟨opStep ⟨fun call env tm ds h K => kO (binV Tryd.prog .neq 5 true (nthD 0 env) (.int .u8 (1))) ds h K⟩ ⟨fun v tm => tm⟩ ⟨fun env tm => isB false (nthD 2 env)⟩
  ⟨opStep ⟨fun call env tm ds h K => kO (pickV (nthD 3 env) (.bool true) (nthD 0 env)) ds h K⟩ ⟨fun v tm => tm⟩ ⟨fun env tm => isB true (nthD 7 env)⟩
  ⟨opStep ⟨fun call env tm ds h K => kO (pickV (nthD 8 env) (nthD 0 env) (.bool false)) ds h K⟩ ⟨fun v tm => tm⟩ ⟨fun env tm => true⟩
  ⟨opStep ⟨fun call env tm ds h K => kO (some (nthD 0 env)) ds h K⟩ ⟨fun v tm => tm⟩ ⟨fun env tm => true⟩
  ⟨opStep ⟨fun call env tm ds h K => kO (fieldPtr 2 (tg tm 3)) ds h K⟩ ⟨fun v tm => tm⟩ ⟨fun env tm => isB false (nthD 0 env)⟩
  ⟨opStep ⟨fun call env tm ds h K => kO (loadOne h (nthD 0 env)) ds h K⟩ ⟨fun v tm => tm⟩ ⟨fun env tm => isB false (nthD 1 env)⟩
  ⟨opStep ⟨fun call env tm ds h K => kO (binV Tryd.prog .neq 23 true (nthD 0 env) (.int .u64 (0))) ds h K⟩ ⟨fun v tm => tm⟩ ⟨fun env tm => isB false (nthD 2 env)⟩
  ⟨opStep ⟨fun call env tm ds h K => kO (some (nthD 0 env)) ds h K⟩ ⟨fun v tm => tm⟩ ⟨fun env tm => isB false (nthD 3 env)⟩
  ⟨opStep ⟨fun call env tm ds h K => kO (fieldPtr 1 (tg tm 1)) ds h K⟩ ⟨fun v tm => tm⟩ ⟨fun env tm => isB true (nthD 0 env)⟩
  ⟨opStep ⟨fun call env tm ds h K => kO (loadOne h (nthD 0 env)) ds h K⟩ ⟨fun v tm => tm⟩ ⟨fun env tm => isB true (nthD 1 env)⟩
  ⟨opStep ⟨fun call env tm ds h K => call 48 [(nthD 0 env)] h (fun v h => (K) v ds h)⟩ ⟨fun v tm => tm⟩ ⟨fun env tm => isB true (nthD 2 env)⟩
  ⟨opStep ⟨fun call env tm ds h K => kO (unV .not (nthD 0 env)) ds h K⟩ ⟨fun v tm => tm⟩ ⟨fun env tm => isB true (nthD 3 env)⟩
  ⟨opStep ⟨fun call env tm ds h K => kO (some (nthD 0 env)) ds h K⟩ ⟨fun v tm => tm⟩ ⟨fun env tm => isB true (nthD 4 env)⟩
  ⟨opStep ⟨fun call env tm ds h K => kO (fieldPtr 0 (tg tm 3)) ds h K⟩ ⟨fun v tm => tm⟩ ⟨fun env tm => isB false (nthD 0 env)⟩
  ⟨opStep ⟨fun call env tm ds h K => kO (loadOne h (nthD 0 env)) ds h K⟩ ⟨fun v tm => tm⟩ ⟨fun env tm => isB false (nthD 1 env)⟩
  ⟨opStep ⟨fun call env tm ds h K => kO (binV Tryd.prog .neq 5 true (nthD 0 env) (.int .u8 (1))) ds h K⟩ ⟨fun v tm => tm⟩ ⟨fun env tm => isB false (nthD 2 env)⟩
  ⟨opStep ⟨fun call env tm ds h K => kO (pickV (nthD 3 env) (.bool true) (nthD 0 env)) ds h K⟩ ⟨fun v tm => tm⟩ ⟨fun env tm => isB true (nthD 8 env)⟩
  ⟨opStep ⟨fun call env tm ds h K => kO (pickV (nthD 9 env) (nthD 0 env) (.bool false)) ds h K⟩ ⟨fun v tm => tm⟩ ⟨fun env tm => isB false (nthD 13 env)⟩
  ⟨opStep ⟨fun call env tm ds h K => kO (pickV (nthD 14 env) (.bool true) (nthD 0 env)) ds h K⟩ ⟨fun v tm => tm⟩ ⟨fun env tm => true⟩
  ⟨opStep ⟨fun call env tm ds h K => kO (some (nthD 0 env)) ds h K⟩ ⟨fun v tm => tm⟩ ⟨fun env tm => true⟩
  ⟨opStep ⟨fun call env tm ds h K => kO (fieldPtr 1 (tg tm 1)) ds h K⟩ ⟨fun v tm => tm⟩ ⟨fun env tm => isB false (nthD 0 env)⟩
  ⟨opStep ⟨fun call env tm ds h K => kO (loadOne h (nthD 0 env)) ds h K⟩ ⟨fun v tm => tm⟩ ⟨fun env tm => isB false (nthD 1 env)⟩
  ⟨opStep ⟨fun call env tm ds h K => kO (binV Tryd.prog .eql 5 true (nthD 0 env) (.int .u8 (10))) ds h K⟩ ⟨fun v tm => tm⟩ ⟨fun env tm => isB false (nthD 2 env)⟩
  ⟨opStep ⟨fun call env tm ds h K => kO (some (nthD 0 env)) ds h K⟩ ⟨fun v tm => tm⟩ ⟨fun env tm => isB false (nthD 3 env)⟩
  ⟨opStep ⟨fun call env tm ds h K => kO (fieldPtr 2 (tg tm 3)) ds h K⟩ ⟨fun v tm => tm⟩ ⟨fun env tm => isB true (nthD 0 env)⟩
  ⟨opStep ⟨fun call env tm ds h K => kO (loadOne h (nthD 0 env)) ds h K⟩ ⟨fun v tm => tm⟩ ⟨fun env tm => isB true (nthD 1 env)⟩
  ⟨opStep ⟨fun call env tm ds h K => kO (binV Tryd.prog .gtr 23 true (nthD 0 env) (.int .u64 (8))) ds h K⟩ ⟨fun v tm => tm⟩ ⟨fun env tm => isB true (nthD 2 env)⟩
  ⟨opStep ⟨fun call env tm ds h K => kO (pickV (nthD 3 env) (nthD 0 env) (.bool false)) ds h K⟩ ⟨fun v tm => tm⟩ ⟨fun env tm => isB false (nthD 7 env)⟩
  ⟨opStep ⟨fun call env tm ds h K => kO (pickV (nthD 8 env) (.bool true) (nthD 0 env)) ds h K⟩ ⟨fun v tm => (T.set tm 139 v)⟩ ⟨fun env tm => true⟩
  ⟨fun _ _ tm ds h K => K .norm tm ds h⟩⟩⟩⟩⟩⟩⟩⟩⟩⟩⟩⟩⟩⟩⟩⟩⟩⟩⟩⟩⟩⟩⟩⟩⟩⟩⟩⟩⟩⟩⟩⟩⟩⟩⟩⟩⟩⟩⟩⟩⟩ : Box OpsT).f call [] tm ds h K
noncomputable def r24_11 : CodeT := fun call _ tm ds h K =>
  K .norm (T.set tm 2 (.bool false)) ds h
noncomputable def r24_12 : CodeT := fun call _ tm ds h K =>
  K .norm (T.set tm 4 (.int .i64 (0))) ds h
noncomputable def r24_13 : CodeT := fun call _ tm ds h K =>
  kO (fieldPtr 1 (tg tm 3)) ds h (fun v1 ds h =>
  kO (loadOne h v1) ds h (fun v2 ds h =>
  kO (lenSl v2) ds h (fun v3 ds h =>
  kO (binV Tryd.prog .lss 3 false (tg tm 4) v3) ds h (fun v4 ds h =>
  K .norm (T.set tm 144 v4) ds h))))
noncomputable def r24_15 : CodeT := fun call _ tm ds h K =>
  kO (fieldPtr 1 (tg tm 3)) ds h (fun v0 ds h =>
  kO (loadOne h v0) ds h (fun v1 ds h =>
  kO (indexSl 5 v1 (tg tm 4)) ds h (fun v3 ds h =>
  kO (loadAgg 5 h v3) ds h (fun v4 ds h =>
  call 49 [v4] h (fun v h => (fun v5 ds h =>
  kO (binV Tryd.prog .neq 3 true v5 (.int .i64 (0))) ds h (fun v6 ds h =>
  K .norm (T.set tm 153 v6) ds h)) v ds h)))))
noncomputable def r24_16 : CodeT := fun call _ tm ds h K =>
  K .norm (T.set tm 2 (.bool false)) ds h
noncomputable def r24_14 : CodeT := fun call _ tm ds h K =>
  kO (binV Tryd.prog .add 3 true (tg tm 4) (.int .i64 (1))) ds h (fun v1 ds h =>
  K .norm (T.set tm 4 v1) ds h)
noncomputable def l24_17 : Box CodeT := ⟨seqC ⟨seqC ⟨r24_13⟩ ⟨condC ⟨fun _ tm => tg tm 144⟩ skipC (exitC 0)⟩⟩ ⟨seqC ⟨blockC 1 ⟨seqC ⟨r24_15⟩ ⟨condC ⟨fun _ tm => tg tm 153⟩ ⟨seqC ⟨r24_16⟩ retC⟩ skipC⟩⟩⟩ ⟨r24_14⟩⟩⟩
noncomputable def r24_17 : CodeT := fun call _ tm ds h K =>
  K .norm (T.set tm 2 (.bool true)) ds h
noncomputable def c24 : Box CodeT := ⟨seqC ⟨r24_0⟩ ⟨seqC ⟨seqC ⟨r24_1⟩ ⟨condC ⟨fun _ tm => tg tm 26⟩ ⟨seqC ⟨r24_2⟩ retC⟩ skipC⟩⟩ ⟨seqC ⟨seqC ⟨r24_3⟩ ⟨condC ⟨fun _ tm => tg tm 51⟩ ⟨seqC ⟨r24_4⟩ retC⟩ skipC⟩⟩ ⟨seqC ⟨r24_5⟩ ⟨seqC ⟨seqC ⟨r24_6⟩ ⟨condC ⟨fun _ tm => tg tm 56⟩ ⟨seqC ⟨r24_7⟩ retC⟩ skipC⟩⟩ ⟨seqC ⟨seqC ⟨r24_8⟩ ⟨condC ⟨fun _ tm => tg tm 99⟩ ⟨seqC ⟨r24_9⟩ retC⟩ skipC⟩⟩ ⟨seqC ⟨seqC ⟨r24_10⟩ ⟨condC ⟨fun _ tm => tg tm 139⟩ ⟨seqC ⟨r24_11⟩ retC⟩ skipC⟩⟩ ⟨seqC ⟨seqC ⟨r24_12⟩ ⟨blockC 0 (loopB l24_17)⟩⟩ ⟨seqC ⟨r24_17⟩ retC⟩⟩⟩⟩⟩⟩⟩⟩⟩
noncomputable def q24 : Box (T Value → H → Option (List Value)) := ⟨fun tm h => some [tg tm 2]⟩

/-! 25 cloakroom/cloakroomref15.plain -/
noncomputable def r25_0 : CodeT := fun call _ tm ds h K =>
  K .norm (T.set tm 2 (.bool false)) ds h
noncomputable def r25_1 : CodeT := fun call _ tm ds h K =>
  kO (binV Tryd.prog .eql 9 true (tg tm 0) (.string (strB []))) ds h (fun v1 ds h =>
  gd (isB false v1) (fun k => kO (some (tg tm 0)) ds h (k)) ds h (fun v3 ds h =>
  gd (isB false v1) (fun k => call 50 [v3, (.int .i64 (2000))] h (fun v h => (k) v ds h)) ds h (fun v4 ds h =>
  kO (pickV v1 (.bool true) v4) ds h (fun v5 ds h =>
  K .norm (T.set tm 2 v5) ds h))))
noncomputable def c25 : Box CodeT := ⟨seqC ⟨r25_0⟩ ⟨seqC ⟨r25_1⟩ retC⟩⟩
noncomputable def q25 : Box (T Value → H → Option (List Value)) := ⟨fun tm h => some [tg tm 2]⟩

/-! 26 cloakroom/cloakroomref15.Lines -/
noncomputable def r26_0 : CodeT := fun call _ tm ds h K =>
  kA (some (.rw (Value.cells (tg tm 0)).toList (some 27), ptrTo h.next)) ds h (fun v0 ds h =>
  K .norm (T.set (T.set tm 1 v0) 2 (.string (strB []))) ds h)
noncomputable def r26_1 : CodeT := fun call _ tm ds h K =>
  kO (fieldPtr 0 (tg tm 1)) ds h (fun v0 ds h =>
  kO (loadOne h v0) ds h (fun v1 ds h =>
  K .norm (T.set tm 7 v1) ds h))
noncomputable def r26_2 : CodeT := fun call _ tm ds h K =>
  kO (binV Tryd.prog .eql 5 true (tg tm 7) (.int .u8 (2))) ds h (fun v0 ds h =>
  K .norm (T.set tm 8 v0) ds h)
noncomputable def r26_3 : CodeT := fun call _ tm ds h K =>
  kO (fieldPtr 5 (tg tm 1)) ds h (fun v0 ds h =>
  kO (loadOne h v0) ds h (fun v1 ds h =>
  K .norm (T.set tm 11 v1) ds h))
noncomputable def r26_4 : CodeT := fun call _ tm ds h K =>
  K .norm (T.set tm 2 (.string (strB [87, 69, 76, 67, 79, 77, 69]))) ds h
noncomputable def r26_5 : CodeT := fun call _ tm ds h K =>
  K .norm (T.set tm 2 (.string (strB [85, 78, 75, 78, 79, 87, 78]))) ds h
noncomputable def r26_6 : CodeT := fun call _ tm ds h K =>
  kO (binV Tryd.prog .eql 5 true (tg tm 7) (.int .u8 (3))) ds h (fun v0 ds h =>
  K .norm (T.set tm 12 v0) ds h)
noncomputable def r26_7 : CodeT := fun call _ tm ds h K =>
  kO (fieldPtr 5 (tg tm 1)) ds h (fun v0 ds h =>
  kO (loadOne h v0) ds h (fun v1 ds h =>
  K .norm (T.set tm 15 v1) ds h))
noncomputable def r26_8 : CodeT := fun call _ tm ds h K =>
  K .norm (T.set tm 2 (.string (strB [84, 82, 65, 67, 75, 69, 68]))) ds h
noncomputable def r26_9 : CodeT := fun call _ tm ds h K =>
  K .norm (T.set tm 2 (.string (strB [85, 78, 84, 82, 65, 67, 75, 69, 68]))) ds h
noncomputable def r26_10 : CodeT := fun call _ tm ds h K =>
  kO (binV Tryd.prog .eql 5 true (tg tm 7) (.int .u8 (4))) ds h (fun v0 ds h =>
  K .norm (T.set tm 16 v0) ds h)
noncomputable def r26_11 : CodeT := fun call _ tm ds h K =>
  K .norm (T.set tm 2 (.string (strB [80, 79, 78, 71]))) ds h
noncomputable def r26_12 : CodeT := fun call _ tm ds h K =>
  kO (binV Tryd.prog .eql 5 true (tg tm 7) (.int .u8 (5))) ds h (fun v0 ds h =>
  K .norm (T.set tm 18 v0) ds h)
noncomputable def r26_13 : CodeT := fun call _ tm ds h K =>
  K .norm (T.set tm 2 (.string (strB [66, 89, 69]))) ds h
noncomputable def r26_14 : CodeT := fun call _ tm ds h K =>
  kO (binV Tryd.prog .eql 5 true (tg tm 7) (.int .u8 (6))) ds h (fun v0 ds h =>
  K .norm (T.set tm 20 v0) ds h)
noncomputable def r26_15 : CodeT := fun call _ tm ds h K =>
  K .norm (T.set tm 2 (.string (strB [69, 82, 82, 79, 82]))) ds h
noncomputable def r26_16 : CodeT := fun call _ tm ds h K =>
  kO (binV Tryd.prog .eql 5 true (tg tm 7) (.int .u8 (7))) ds h (fun v0 ds h =>
  K .norm (T.set tm 22 v0) ds h)
noncomputable def r26_17 : CodeT := fun call _ tm ds h K =>
  kO (fieldPtr 6 (tg tm 1)) ds h (fun v0 ds h =>
  kO (loadOne h v0) ds h (fun v1 ds h =>
  kO (binV Tryd.prog .add 9 true (.string (strB [80, 85, 83, 72, 32])) v1) ds h (fun v2 ds h =>
  K .norm (T.set tm 2 v2) ds h)))
noncomputable def r26_18 : CodeT := fun call _ tm ds h K =>
  kO (fieldPtr 2 (tg tm 1)) ds h (fun v0 ds h =>
  kO (fieldPtr 0 v0) ds h (fun v1 ds h =>
  kO (loadOne h v1) ds h (fun v2 ds h =>
  kO (binV Tryd.prog .neq 5 true v2 (.int .u8 (1))) ds h (fun v3 ds h =>
  K .norm (T.set tm 30 v3) ds h))))
noncomputable def r26_19 : CodeT := fun call _ tm ds h K =>
  kO (fieldPtr 2 (tg tm 1)) ds h (fun v0 ds h =>
  kO (fieldPtr 0 v0) ds h (fun v1 ds h =>
  kO (loadOne h v1) ds h (fun v2 ds h =>
  call 51 [v2] h (fun v h => (fun v3 ds h =>
  K .norm (T.set tm 2 v3) ds h) v ds h))))
noncomputable def r26_20 : CodeT := fun call _ tm ds h K =>
  K .norm (T.set tm 3 (.string (strB []))) ds h
noncomputable def r26_21 : CodeT := fun call _ tm ds h K =>
  K .norm (T.set tm 4 (.int .i64 (0))) ds h
noncomputable def r26_22 : CodeT := fun call _ tm ds h K =>
  kO (fieldPtr 2 (tg tm 1)) ds h (fun v1 ds h =>
  kO (fieldPtr 1 v1) ds h (fun v2 ds h =>
  kO (loadOne h v2) ds h (fun v3 ds h =>
  kO (lenSl v3) ds h (fun v4 ds h =>
  kO (binV Tryd.prog .lss 3 false (tg tm 4) v4) ds h (fun v5 ds h =>
  K .norm (T.set tm 40 v5) ds h)))))
noncomputable def r26_24 : CodeT := fun call _ tm ds h K =>
  kO (fieldPtr 2 (tg tm 1)) ds h (fun v0 ds h =>
  kO (fieldPtr 1 v0) ds h (fun v1 ds h =>
  kO (loadOne h v1) ds h (fun v2 ds h =>
  kO (indexSl 5 v2 (tg tm 4)) ds h (fun v4 ds h =>
  kO (loadAgg 5 h v4) ds h (fun v5 ds h =>
  kA (some (.rw [(.string (strB [])), (.string (strB [])), (.int .u32 (0)), (.int .i64 (0)), (.int .u64 (0))] (some 48), ptrTo h.next)) ds h (fun v6 ds h =>
  kH (withV undef (storeV 5 h v6 v5)) ds (fun v7 ds h =>
  K .norm (T.set tm 5 v6) ds h)))))))
noncomputable def r26_25 : CodeT := fun call _ tm ds h0 K =>
  (fun (b0 : Nat) (h : H) =>
  kO (binV Tryd.prog .add 9 true (tg tm 3) (.string (strB [86, 65, 76, 85, 69, 32]))) ds h (fun v1 ds h =>
  kO (fieldPtr 0 (tg tm 5)) ds h (fun v2 ds h =>
  kO (loadOne h v2) ds h (fun v3 ds h =>
  kO (binV Tryd.prog .add 9 false v1 v3) ds h (fun v4 ds h =>
  kO (binV Tryd.prog .add 9 true v4 (.string (strB [32]))) ds h (fun v5 ds h =>
  kO (fieldPtr 2 (tg tm 5)) ds h (fun v6 ds h =>
  kO (loadOne h v6) ds h (fun v7 ds h =>
  kO (toInt .u64 v7) ds h (fun v8 ds h =>
  kO (fieldPtr 3 (tg tm 5)) ds h (fun v12 ds h =>
  kO (loadOne h v12) ds h (fun v13 ds h =>
  kO (toInt .u64 v13) ds h (fun v14 ds h =>
  kO (fieldPtr 4 (tg tm 5)) ds h (fun v18 ds h =>
  kO (loadOne h v18) ds h (fun v19 ds h =>
  kO (fieldPtr 1 (tg tm 5)) ds h (fun v23 ds h =>
  kO (loadOne h v23) ds h (fun v24 ds h =>
  kO (lenStr v24) ds h (fun v25 ds h =>
  kO (toInt .u64 v25) ds h (fun v26 ds h =>
  kO (fieldPtr 1 (tg tm 5)) ds h (fun v30 ds h =>
  kO (loadOne h v30) ds h (fun v31 ds h =>
  call 52 [v8] h (fun v h => (fun v9 ds h =>
  andB ((hO (loadOne h v30) v31 (hO (loadOne h v23) v24 (hO (loadOne h v18) v19 (hO (loadOne h v12) v13 (hO (loadOne h v2) v3 true))))) && true) (kO (binV Tryd.prog .add 9 false v5 v9) ds h (fun v10 ds h =>
  kO (binV Tryd.prog .add 9 true v10 (.string (strB [32]))) ds h (fun v11 ds h =>
  call 52 [v14] h (fun v h => (fun v15 ds h =>
  andB ((hO (loadOne h v30) v31 (hO (loadOne h v23) v24 (hO (loadOne h v18) v19 (hO (loadOne h v2) v3 true)))) && true) (kO (binV Tryd.prog .add 9 false v11 v15) ds h (fun v16 ds h =>
  kO (binV Tryd.prog .add 9 true v16 (.string (strB [32]))) ds h (fun v17 ds h =>
  call 52 [v19] h (fun v h => (fun v20 ds h =>
  andB ((hO (loadOne h v30) v31 (hO (loadOne h v23) v24 (hO (loadOne h v2) v3 true))) && true) (kO (binV Tryd.prog .add 9 false v17 v20) ds h (fun v21 ds h =>
  kO (binV Tryd.prog .add 9 true v21 (.string (strB [32]))) ds h (fun v22 ds h =>
  call 52 [v26] h (fun v h => (fun v27 ds h =>
  andB ((hO (loadOne h v30) v31 (hO (loadOne h v2) v3 true)) && true) (kO (binV Tryd.prog .add 9 false v22 v27) ds h (fun v28 ds h =>
  kO (binV Tryd.prog .add 9 true v28 (.string (strB [13, 10]))) ds h (fun v29 ds h =>
  kO (binV Tryd.prog .add 9 false v29 v31) ds h (fun v32 ds h =>
  kO (binV Tryd.prog .add 9 true v32 (.string (strB [13, 10]))) ds h (fun v33 ds h =>
  K .norm (T.set tm 3 v33) ds h)))))) v ds h))))) v ds h))))) v ds h))))) v ds h))))))))))))))))))))) h0.next ⟨h0.objs, h0.next + 35⟩
noncomputable def r26_23 : CodeT := fun call _ tm ds h K =>
  kO (binV Tryd.prog .add 3 true (tg tm 4) (.int .i64 (1))) ds h (fun v1 ds h =>
  K .norm (T.set tm 4 v1) ds h)
noncomputable def l26_26 : Box CodeT := ⟨seqC ⟨seqC ⟨r26_22⟩ ⟨condC ⟨fun _ tm => tg tm 40⟩ skipC (exitC 1)⟩⟩ ⟨seqC ⟨blockC 2 ⟨seqC ⟨r26_24⟩ ⟨r26_25⟩⟩⟩ ⟨r26_23⟩⟩⟩
noncomputable def r26_26 : CodeT := fun call _ tm ds h K =>
  kO (fieldPtr 1 (tg tm 1)) ds h (fun v1 ds h =>
  kO (loadOne h v1) ds h (fun v2 ds h =>
  call 53 [v2] h (fun v h => (fun v3 ds h =>
  kO (binV Tryd.prog .add 9 false (tg tm 3) v3) ds h (fun v4 ds h =>
  K .norm (T.set tm 3 v4) ds h)) v ds h)))
noncomputable def r26_27 : CodeT := fun call _ tm ds h K =>
  kO (fieldPtr 1 (tg tm 1)) ds h (fun v0 ds h =>
  kO (loadOne h v0) ds h (fun v1 ds h =>
  call 48 [v1] h (fun v h => (fun v2 ds h =>
  K .norm (T.set tm 90 v2) ds h) v ds h)))
noncomputable def r26_28 : CodeT := fun call _ tm ds h K =>
  kO (binV Tryd.prog .add 9 true (tg tm 3) (.string (strB [32]))) ds h (fun v1 ds h =>
  kO (fieldPtr 2 (tg tm 1)) ds h (fun v2 ds h =>
  kO (fieldPtr 2 v2) ds h (fun v3 ds h =>
  kO (loadOne h v3) ds h (fun v4 ds h =>
  call 52 [v4] h (fun v h => (fun v5 ds h =>
  kO (binV Tryd.prog .add 9 false v1 v5) ds h (fun v6 ds h =>
  K .norm (T.set tm 3 v6) ds h)) v ds h)))))
noncomputable def r26_29 : CodeT := fun call _ tm ds h K =>
  K .norm (T.set tm 2 (tg tm 3)) ds h
noncomputable def c26 : Box CodeT := ⟨seqC ⟨r26_0⟩ ⟨seqC ⟨seqC ⟨r26_1⟩ ⟨blockC 0 ⟨seqC ⟨r26_2⟩ ⟨condC ⟨fun _ tm => tg tm 8⟩ ⟨seqC ⟨seqC ⟨r26_3⟩ ⟨condC ⟨fun _ tm => tg tm 11⟩ ⟨seqC ⟨r26_4⟩ retC⟩ skipC⟩⟩ ⟨seqC ⟨r26_5⟩ retC⟩⟩ ⟨seqC ⟨r26_6⟩ ⟨condC ⟨fun _ tm => tg tm 12⟩ ⟨seqC ⟨seqC ⟨r26_7⟩ ⟨condC ⟨fun _ tm => tg tm 15⟩ ⟨seqC ⟨r26_8⟩ retC⟩ skipC⟩⟩ ⟨seqC ⟨r26_9⟩ retC⟩⟩ ⟨seqC ⟨r26_10⟩ ⟨condC ⟨fun _ tm => tg tm 16⟩ ⟨seqC ⟨r26_11⟩ retC⟩ ⟨seqC ⟨r26_12⟩ ⟨condC ⟨fun _ tm => tg tm 18⟩ ⟨seqC ⟨r26_13⟩ retC⟩ ⟨seqC ⟨r26_14⟩ ⟨condC ⟨fun _ tm => tg tm 20⟩ ⟨seqC ⟨r26_15⟩ retC⟩ ⟨seqC ⟨r26_16⟩ ⟨condC ⟨fun _ tm => tg tm 22⟩ ⟨seqC ⟨r26_17⟩ retC⟩ skipC⟩⟩⟩⟩⟩⟩⟩⟩⟩⟩⟩⟩⟩⟩ ⟨seqC ⟨seqC ⟨r26_18⟩ ⟨condC ⟨fun _ tm => tg tm 30⟩ ⟨seqC ⟨r26_19⟩ retC⟩ skipC⟩⟩ ⟨seqC ⟨r26_20⟩ ⟨seqC ⟨seqC ⟨r26_21⟩ ⟨blockC 1 (loopB l26_26)⟩⟩ ⟨seqC ⟨r26_26⟩ ⟨seqC ⟨seqC ⟨r26_27⟩ ⟨condC ⟨fun _ tm => tg tm 90⟩ ⟨r26_28⟩ skipC⟩⟩ ⟨seqC ⟨r26_29⟩ retC⟩⟩⟩⟩⟩⟩⟩⟩
noncomputable def q26 : Box (T Value → H → Option (List Value)) := ⟨fun tm h => some [tg tm 2]⟩

/-! 27 cloakroom/words.result -/
noncomputable def r27_0 : CodeT := fun call _ tm ds h K =>
  kA (some (.rw (Value.cells (tg tm 1)).toList (some 25), ptrTo h.next)) ds h (fun v0 ds h =>
  K .norm (T.set (T.set tm 3 v0) 4 (.bool false)) ds h)
noncomputable def r27_1 : CodeT := fun call _ tm ds h K =>
  kO (fieldPtr 0 (tg tm 3)) ds h (fun v0 ds h =>
  kO (loadOne h v0) ds h (fun v1 ds h =>
  kO (binV Tryd.prog .eql 5 true v1 (.int .u8 (1))) ds h (fun v2 ds h =>
  K .norm (T.set tm 5 v2) ds h)))
noncomputable def r27_2 : CodeT := fun call _ tm ds h K =>
  kO (binV Tryd.prog .lss 5 true (tg tm 0) (.int .u8 (1))) ds h (fun v1 ds h =>
  K .norm (T.set tm 9 v1) ds h)
noncomputable def r27_3 : CodeT := fun call _ tm ds h K =>
  kO (binV Tryd.prog .gtr 5 true (tg tm 0) (.int .u8 (11))) ds h (fun v1 ds h =>
  K .norm (T.set tm 9 v1) ds h)
noncomputable def r27_4 : CodeT := fun call _ tm ds h K =>
  kO (fieldPtr 0 (tg tm 3)) ds h (fun v0 ds h =>
  kO (loadOne h v0) ds h (fun v1 ds h =>
  kO (binV Tryd.prog .lss 5 true v1 (.int .u8 (1))) ds h (fun v2 ds h =>
  K .norm (T.set tm 9 v2) ds h)))
noncomputable def r27_5 : CodeT := fun call _ tm ds h K =>
  kO (fieldPtr 0 (tg tm 3)) ds h (fun v0 ds h =>
  kO (loadOne h v0) ds h (fun v1 ds h =>
  kO (binV Tryd.prog .gtr 5 true v1 (.int .u8 (7))) ds h (fun v2 ds h =>
  K .norm (T.set tm 9 v2) ds h)))
noncomputable def r27_6 : CodeT := fun call _ tm ds h K =>
  K .norm (T.set tm 4 (.bool false)) ds h
noncomputable def r27_7 : CodeT := fun call _ tm ds h K => (⟨opStep ⟨fun call env tm ds h K => kO (fieldPtr 1 (tg tm 3)) ds h K⟩ ⟨fun v tm => tm⟩ ⟨fun env tm => true⟩
  ⟨opStep ⟨fun call env tm ds h K => kO (loadOne h (nthD 0 env)) ds h K⟩ ⟨fun v tm => tm⟩ ⟨fun env tm => true⟩
  ⟨opStep ⟨fun call env tm ds h K => kO (lenSl (nthD 0 env)) ds h K⟩ ⟨fun v tm => tm⟩ ⟨fun env tm => true⟩
  ⟨opStep ⟨fun call env tm ds h K => kO (binV Tryd.prog .gtr 3 true (nthD 0 env) (.int .i64 (0))) ds h K⟩ ⟨fun v tm => tm⟩ ⟨fun env tm => true⟩
  ⟨opStep ⟨fun call env tm ds h K => kO (some (nthD 0 env)) ds h K⟩ ⟨fun v tm => tm⟩ ⟨fun env tm => true⟩
  ⟨opStep ⟨fun call env tm ds h K => kO (some (tg tm 5)) ds h K⟩ ⟨fun v tm => tm⟩ ⟨fun env tm => isB true (nthD 0 env)⟩
  ⟨opStep ⟨fun call env tm ds h K => kO (some (nthD 0 env)) ds h K⟩ ⟨fun v tm => tm⟩ ⟨fun env tm => isB true (nthD 1 env)⟩
  ⟨opStep ⟨fun call env tm ds h K => kO (some (tg tm 0)) ds h K⟩ ⟨fun v tm => tm⟩ ⟨fun env tm => isB true (nthD 0 env)⟩
  ⟨opStep ⟨fun call env tm ds h K => kO (binV Tryd.prog .eql 5 true (nthD 0 env) (.int .u8 (1))) ds h K⟩ ⟨fun v tm => tm⟩ ⟨fun env tm => isB true (nthD 1 env)⟩
  ⟨opStep ⟨fun call env tm ds h K => kO (pickV (nthD 2 env) (nthD 0 env) (.bool false)) ds h K⟩ ⟨fun v tm => tm⟩ ⟨fun env tm => isB true (nthD 4 env)⟩
  ⟨opStep ⟨fun call env tm ds h K => kO (unV .not (nthD 0 env)) ds h K⟩ ⟨fun v tm => tm⟩ ⟨fun env tm => isB true (nthD 5 env)⟩
  ⟨opStep ⟨fun call env tm ds h K => kO (pickV (nthD 6 env) (nthD 0 env) (.bool false)) ds h K⟩ ⟨fun v tm => tm⟩ ⟨fun env tm => true⟩
  ⟨opStep ⟨fun call env tm ds h K => kO (some (nthD 0 env)) ds h K⟩ ⟨fun v tm => (T.set tm 20 v)⟩ ⟨fun env tm => true⟩
  ⟨fun _ _ tm ds h K => K .norm tm ds h⟩⟩⟩⟩⟩⟩⟩⟩⟩⟩⟩⟩⟩⟩ : Box OpsT).f call [] tm ds h K
noncomputable def r27_8 : CodeT := fun call _ tm ds h K =>
  kO (fieldPtr 1 (tg tm 3)) ds h (fun v0 ds h =>
  kO (loadOne h v0) ds h (fun v1 ds h =>
  kO (lenSl v1) ds h (fun v2 ds h =>
  kO (binV Tryd.prog .gtr 3 true v2 (.int .i64 (8))) ds h (fun v3 ds h =>
  K .norm (T.set tm 20 v3) ds h))))
noncomputable def r27_9 : CodeT := fun call _ tm ds h K =>
  K .norm (T.set tm 4 (.bool false)) ds h
noncomputable def r27_10 : CodeT := fun call _ tm ds h K => (⟨opStep ⟨fun call env tm ds h K => kO (fieldPtr 2 (tg tm 3)) ds h K⟩ ⟨fun v tm => tm⟩ ⟨fun env tm => true⟩
  ⟨opStep ⟨fun call env tm ds h K => kO (loadOne h (nthD 0 env)) ds h K⟩ ⟨fun v tm => tm⟩ ⟨fun env tm => true⟩
  ⟨opStep ⟨fun call env tm ds h K => kO (binV Tryd.prog .neq 23 true (nthD 0 env) (.int .u64 (0))) ds h K⟩ ⟨fun v tm => tm⟩ ⟨fun env tm => true⟩
  ⟨opStep ⟨fun call env tm ds h K => kO (some (nthD 0 env)) ds h K⟩ ⟨fun v tm => tm⟩ ⟨fun env tm => true⟩
  ⟨opStep ⟨fun call env tm ds h K => kO (some (tg tm 5)) ds h K⟩ ⟨fun v tm => tm⟩ ⟨fun env tm => isB true (nthD 0 env)⟩
  ⟨opStep ⟨fun call env tm ds h K => kO (some (nthD 0 env)) ds h K⟩ ⟨fun v tm => tm⟩ ⟨fun env tm => isB true (nthD 1 env)⟩
  ⟨opStep ⟨fun call env tm ds h K => kO (some (tg tm 0)) ds h K⟩ ⟨fun v tm => tm⟩ ⟨fun env tm => isB true (nthD 0 env)⟩
  ⟨opStep ⟨fun call env tm ds h K => call 46 [(nthD 0 env)] h (fun v h => (K) v ds h)⟩ ⟨fun v tm => tm⟩ ⟨fun env tm => isB true (nthD 1 env)⟩
  ⟨opStep ⟨fun call env tm ds h K => kO (pickV (nthD 2 env) (nthD 0 env) (.bool false)) ds h K⟩ ⟨fun v tm => tm⟩ ⟨fun env tm => isB true (nthD 4 env)⟩
  ⟨opStep ⟨fun call env tm ds h K => kO (unV .not (nthD 0 env)) ds h K⟩ ⟨fun v tm => tm⟩ ⟨fun env tm => isB true (nthD 5 env)⟩
  ⟨opStep ⟨fun call env tm ds h K => kO (pickV (nthD 6 env) (nthD 0 env) (.bool false)) ds h K⟩ ⟨fun v tm => tm⟩ ⟨fun env tm => true⟩
  ⟨opStep ⟨fun call env tm ds h K => kO (some (nthD 0 env)) ds h K⟩ ⟨fun v tm => (T.set tm 37 v)⟩ ⟨fun env tm => true⟩
  ⟨fun _ _ tm ds h K => K .norm tm ds h⟩⟩⟩⟩⟩⟩⟩⟩⟩⟩⟩⟩⟩ : Box OpsT).f call [] tm ds h K
noncomputable def r27_11 : CodeT := fun call _ tm ds h K => (⟨opStep ⟨fun call env tm ds h K => kO (some (tg tm 0)) ds h K⟩ ⟨fun v tm => tm⟩ ⟨fun env tm => true⟩
  ⟨opStep ⟨fun call env tm ds h K => kO (binV Tryd.prog .eql 5 true (nthD 0 env) (.int .u8 (10))) ds h K⟩ ⟨fun v tm => tm⟩ ⟨fun env tm => true⟩
  ⟨opStep ⟨fun call env tm ds h K => kO (some (nthD 0 env)) ds h K⟩ ⟨fun v tm => tm⟩ ⟨fun env tm => true⟩
  ⟨opStep ⟨fun call env tm ds h K => kO (fieldPtr 2 (tg tm 3)) ds h K⟩ ⟨fun v tm => tm⟩ ⟨fun env tm => isB true (nthD 0 env)⟩
  ⟨opStep ⟨fun call env tm ds h K => kO (loadOne h (nthD 0 env)) ds h K⟩ ⟨fun v tm => tm⟩ ⟨fun env tm => isB true (nthD 1 env)⟩
  ⟨opStep ⟨fun call env tm ds h K => kO (binV Tryd.prog .gtr 23 true (nthD 0 env) (.int .u64 (8))) ds h K⟩ ⟨fun v tm => tm⟩ ⟨fun env tm => isB true (nthD 2 env)⟩
  ⟨opStep ⟨fun call env tm ds h K => kO (pickV (nthD 3 env) (nthD 0 env) (.bool false)) ds h K⟩ ⟨fun v tm => tm⟩ ⟨fun env tm => true⟩
  ⟨opStep ⟨fun call env tm ds h K => kO (some (nthD 0 env)) ds h K⟩ ⟨fun v tm => (T.set tm 37 v)⟩ ⟨fun env tm => true⟩
  ⟨fun _ _ tm ds h K => K .norm tm ds h⟩⟩⟩⟩⟩⟩⟩⟩⟩ : Box OpsT).f call [] tm ds h K
noncomputable def r27_12 : CodeT := fun call _ tm ds h K =>
  K .norm (T.set tm 4 (.bool false)) ds h
noncomputable def r27_13 : CodeT := fun call _ tm ds h K =>
  kO (fieldPtr 1 (tg tm 3)) ds h (fun v0 ds h =>
  kO (loadOne h v0) ds h (fun v1 ds h =>
  call 19 [v1, (.func (.func 54) #[] #[])] h (fun v h => (fun v2 ds h =>
  kO (unV .not v2) ds h (fun v3 ds h =>
  K .norm (T.set tm 4 v3) ds h)) v ds h)))
noncomputable def c27 : Box CodeT := ⟨seqC ⟨r27_0⟩ ⟨seqC ⟨r27_1⟩ ⟨seqC ⟨blockC 0 ⟨seqC ⟨seqC ⟨r27_2⟩ ⟨condC ⟨fun _ tm => tg tm 9⟩ skipC ⟨seqC ⟨r27_3⟩ ⟨condC ⟨fun _ tm => tg tm 9⟩ skipC ⟨seqC ⟨r27_4⟩ ⟨condC ⟨fun _ tm => tg tm 9⟩ skipC ⟨r27_5⟩⟩⟩⟩⟩⟩⟩ ⟨condC ⟨fun _ tm => tg tm 9⟩ ⟨seqC ⟨r27_6⟩ retC⟩ ⟨seqC ⟨seqC ⟨r27_7⟩ ⟨condC ⟨fun _ tm => tg tm 20⟩ skipC ⟨r27_8⟩⟩⟩ ⟨condC ⟨fun _ tm => tg tm 20⟩ ⟨seqC ⟨r27_9⟩ retC⟩ ⟨seqC ⟨seqC ⟨r27_10⟩ ⟨condC ⟨fun _ tm => tg tm 37⟩ skipC ⟨r27_11⟩⟩⟩ ⟨condC ⟨fun _ tm => tg tm 37⟩ ⟨seqC ⟨r27_12⟩ retC⟩ skipC⟩⟩⟩⟩⟩⟩⟩ ⟨seqC ⟨r27_13⟩ retC⟩⟩⟩⟩
noncomputable def q27 : Box (T Value → H → Option (List Value)) := ⟨fun tm h => some [tg tm 4]⟩

/-! 38 strings.IndexFunc -/
noncomputable def r38_0 : CodeT := fun call _ tm ds h K =>
  K .norm (T.set tm 4 (.int .i64 (0))) ds h
noncomputable def r38_1 : CodeT := fun call _ tm ds h K =>
  call 65 [(tg tm 0), (tg tm 1), (.bool true)] h (fun v h => (fun v2 ds h =>
  K .norm (T.set tm 4 v2) ds h) v ds h)
noncomputable def c38 : Box CodeT := ⟨seqC ⟨r38_0⟩ ⟨seqC ⟨r38_1⟩ retC⟩⟩
noncomputable def q38 : Box (T Value → H → Option (List Value)) := ⟨fun tm h => some [tg tm 4]⟩

/-! 39 cloakroom/words.plain$1 -/
noncomputable def r39_0 : CodeT := fun call _ tm ds h K =>
  K .norm (T.set tm 2 (.bool false)) ds h
noncomputable def r39_1 : CodeT := fun call _ tm ds h K =>
  kO (binV Tryd.prog .lss 21 true (tg tm 0) (.int .i32 (33))) ds h (fun v1 ds h =>
  gd (isB false v1) (fun k => kO (some (tg tm 0)) ds h (k)) ds h (fun v3 ds h =>
  gd (isB false v1) (fun k => kO (binV Tryd.prog .gtr 21 true v3 (.int .i32 (126))) ds h (k)) ds h (fun v4 ds h =>
  kO (pickV v1 (.bool true) v4) ds h (fun v5 ds h =>
  K .norm (T.set tm 2 v5) ds h))))
noncomputable def c39 : Box CodeT := ⟨seqC ⟨r39_0⟩ ⟨seqC ⟨r39_1⟩ retC⟩⟩
noncomputable def q39 : Box (T Value → H → Option (List Value)) := ⟨fun tm h => some [tg tm 2]⟩

/-! 40 slices.IndexFunc[[]cloakroom/api.Item,cloakroom/api.Item] -/
noncomputable def r40_0 : CodeT := fun call _ tm ds h K =>
  K .norm (T.set tm 4 (.int .i64 (0))) ds h
noncomputable def r40_1 : CodeT := fun call _ tm ds h K =>
  kO (lenSl (tg tm 0)) ds h (fun v1 ds h =>
  K .norm (T.set (T.set tm 7 v1) 8 (.int .i64 (0))) ds h)
noncomputable def r40_2 : CodeT := fun call _ tm ds h K =>
  kO (binV Tryd.prog .lss 3 false (tg tm 8) (tg tm 7)) ds h (fun v0 ds h =>
  K .norm (T.set tm 9 v0) ds h)
noncomputable def r40_3 : CodeT := fun call _ tm ds h K =>
  K .norm (T.set tm 5 (tg tm 8)) ds h
noncomputable def r40_4 : CodeT := fun call _ tm ds h K =>
  kO (indexSl 5 (tg tm 0) (tg tm 5)) ds h (fun v3 ds h =>
  kO (loadAgg 5 h v3) ds h (fun v4 ds h =>
  goCall call (funcArgs (tg tm 1) [v4]) ds h (fun v5 ds h =>
  K .norm (T.set tm 16 v5) ds h)))
noncomputable def r40_5 : CodeT := fun call _ tm ds h K =>
  K .norm (T.set tm 4 (tg tm 5)) ds h
noncomputable def r40_6 : CodeT := fun call _ tm ds h K =>
  kO (binV Tryd.prog .add 3 true (tg tm 8) (.int .i64 (1))) ds h (fun v0 ds h =>
  K .norm (T.set tm 8 v0) ds h)
noncomputable def l40_7 : Box CodeT := ⟨seqC ⟨r40_2⟩ ⟨seqC ⟨condC ⟨fun _ tm => tg tm 9⟩ skipC (exitC 0)⟩ ⟨seqC ⟨blockC 1 ⟨seqC ⟨r40_3⟩ ⟨seqC ⟨r40_4⟩ ⟨condC ⟨fun _ tm => tg tm 16⟩ ⟨seqC ⟨r40_5⟩ retC⟩ skipC⟩⟩⟩⟩ ⟨r40_6⟩⟩⟩⟩
noncomputable def r40_7 : CodeT := fun call _ tm ds h K =>
  K .norm (T.set tm 4 (.int .i64 (-1))) ds h
noncomputable def c40 : Box CodeT := ⟨seqC ⟨r40_0⟩ ⟨seqC ⟨seqC ⟨r40_1⟩ ⟨blockC 0 (loopB l40_7)⟩⟩ ⟨seqC ⟨r40_7⟩ retC⟩⟩⟩
noncomputable def q40 : Box (T Value → H → Option (List Value)) := ⟨fun tm h => some [tg tm 4]⟩

/-! 41 (*strings.Builder).WriteString -/
noncomputable def r41_0 : CodeT := fun call _ tm ds h K =>
  K .norm (T.set (T.set tm 4 (.int .i64 (0))) 5 .nilIface) ds h
noncomputable def r41_1 : CodeT := fun call _ tm ds h K =>
  call 66 [(tg tm 0)] h (fun v h => (fun v1 ds h =>
  K .norm tm ds h) v ds h)
noncomputable def r41_2 : CodeT := fun call _ tm ds h K =>
  kO (nilChk (tg tm 0)) ds h (fun v2 ds h =>
  kO (fieldPtr 1 v2) ds h (fun v3 ds h =>
  kO (loadOne h v3) ds h (fun v4 ds h =>
  kH (appendV 5 1 1 h v4 (tg tm 1)) ds (fun v6 ds h =>
  kO (nilChk (tg tm 0)) ds h (fun v7 ds h =>
  kO (fieldPtr 1 v7) ds h (fun v8 ds h =>
  kH (withV undef (storeV 1 h v8 v6)) ds (fun v9 ds h =>
  K .norm tm ds h)))))))
noncomputable def r41_3 : CodeT := fun call _ tm ds h K =>
  kO (lenStr (tg tm 1)) ds h (fun v1 ds h =>
  K .norm (T.set (T.set tm 4 v1) 5 .nilIface) ds h)
noncomputable def c41 : Box CodeT := ⟨seqC ⟨r41_0⟩ ⟨seqC ⟨r41_1⟩ ⟨seqC ⟨r41_2⟩ ⟨seqC ⟨r41_3⟩ retC⟩⟩⟩⟩
noncomputable def q41 : Box (T Value → H → Option (List Value)) := ⟨fun tm h => some [tg tm 4, tg tm 5]⟩

/-! 42 strings.Join -/
noncomputable def r42_0 : CodeT := fun call _ tm ds h K =>
  K .norm (T.set tm 4 (.string (strB []))) ds h
noncomputable def r42_1 : CodeT := fun call _ tm ds h K =>
  kO (lenSl (tg tm 0)) ds h (fun v1 ds h =>
  K .norm (T.set tm 12 v1) ds h)
noncomputable def r42_2 : CodeT := fun call _ tm ds h K =>
  kO (binV Tryd.prog .eql 3 true (tg tm 12) (.int .i64 (0))) ds h (fun v0 ds h =>
  K .norm (T.set tm 13 v0) ds h)
noncomputable def r42_3 : CodeT := fun call _ tm ds h K =>
  K .norm (T.set tm 4 (.string (strB []))) ds h
noncomputable def r42_4 : CodeT := fun call _ tm ds h K =>
  kO (binV Tryd.prog .eql 3 true (tg tm 12) (.int .i64 (1))) ds h (fun v0 ds h =>
  K .norm (T.set tm 15 v0) ds h)
noncomputable def r42_5 : CodeT := fun call _ tm ds h K =>
  kO (indexSl 1 (tg tm 0) (.int .i64 (0))) ds h (fun v1 ds h =>
  kO (loadOne h v1) ds h (fun v2 ds h =>
  K .norm (T.set tm 4 v2) ds h))
noncomputable def r42_6 : CodeT := fun call _ tm ds h K =>
  K .norm (T.set tm 5 (.int .i64 (0))) ds h
noncomputable def r42_7 : CodeT := fun call _ tm ds h K =>
  kO (lenStr (tg tm 1)) ds h (fun v1 ds h =>
  kO (binV Tryd.prog .gtr 3 true v1 (.int .i64 (0))) ds h (fun v2 ds h =>
  K .norm (T.set tm 22 v2) ds h))
noncomputable def r42_8 : CodeT := fun call _ tm ds h K =>
  kO (lenStr (tg tm 1)) ds h (fun v1 ds h =>
  kO (lenSl (tg tm 0)) ds h (fun v3 ds h =>
  kO (binV Tryd.prog .sub 3 true v3 (.int .i64 (1))) ds h (fun v4 ds h =>
  kO (binV Tryd.prog .quo 3 true (.int .i64 (9223372036854775807)) v4) ds h (fun v5 ds h =>
  kO (binV Tryd.prog .geq 3 false v1 v5) ds h (fun v6 ds h =>
  K .norm (T.set tm 29 v6) ds h)))))
noncomputable def r42_9 : CodeT := fun call _ tm ds h K =>
  kO (some (.iface 9 (.string (strB [115, 116, 114, 105, 110, 103, 115, 58, 32, 74, 111, 105, 110, 32, 111, 117, 116, 112, 117, 116, 32, 108, 101, 110, 103, 116, 104, 32, 111, 118, 101, 114, 102, 108, 111, 119])))) ds h (fun v0 ds h =>
  kO none ds h (fun v1 ds h =>
  K .norm tm ds h))
noncomputable def r42_10 : CodeT := fun call _ tm ds h K =>
  kO (lenStr (tg tm 1)) ds h (fun v2 ds h =>
  kO (lenSl (tg tm 0)) ds h (fun v4 ds h =>
  kO (binV Tryd.prog .sub 3 true v4 (.int .i64 (1))) ds h (fun v5 ds h =>
  kO (binV Tryd.prog .mul 3 false v2 v5) ds h (fun v6 ds h =>
  kO (binV Tryd.prog .add 3 false (tg tm 5) v6) ds h (fun v7 ds h =>
  K .norm (T.set tm 5 v7) ds h)))))
noncomputable def r42_11 : CodeT := fun call _ tm ds h K =>
  kO (lenSl (tg tm 0)) ds h (fun v1 ds h =>
  K .norm (T.set (T.set (T.set tm 39 (tg tm 0)) 40 v1) 41 (.int .i64 (0))) ds h)
noncomputable def r42_12 : CodeT := fun call _ tm ds h K =>
  kO (binV Tryd.prog .lss 3 false (tg tm 41) (tg tm 40)) ds h (fun v0 ds h =>
  K .norm (T.set tm 42 v0) ds h)
noncomputable def r42_13 : CodeT := fun call _ tm ds h K =>
  kO (indexSl 1 (tg tm 39) (tg tm 41)) ds h (fun v0 ds h =>
  kO (loadOne h v0) ds h (fun v1 ds h =>
  K .norm (T.set tm 7 v1) ds h))
noncomputable def r42_14 : CodeT := fun call _ tm ds h K =>
  kO (lenStr (tg tm 7)) ds h (fun v1 ds h =>
  kO (binV Tryd.prog .sub 3 true (.int .i64 (9223372036854775807)) (tg tm 5)) ds h (fun v3 ds h =>
  kO (binV Tryd.prog .gtr 3 false v1 v3) ds h (fun v4 ds h =>
  K .norm (T.set tm 49 v4) ds h)))
noncomputable def r42_15 : CodeT := fun call _ tm ds h K =>
  kO (some (.iface 9 (.string (strB [115, 116, 114, 105, 110, 103, 115, 58, 32, 74, 111, 105, 110, 32, 111, 117, 116, 112, 117, 116, 32, 108, 101, 110, 103, 116, 104, 32, 111, 118, 101, 114, 102, 108, 111, 119])))) ds h (fun v0 ds h =>
  kO none ds h (fun v1 ds h =>
  K .norm tm ds h))
noncomputable def r42_16 : CodeT := fun call _ tm ds h K =>
  kO (lenStr (tg tm 7)) ds h (fun v2 ds h =>
  kO (binV Tryd.prog .add 3 false (tg tm 5) v2) ds h (fun v3 ds h =>
  K .norm (T.set tm 5 v3) ds h))
noncomputable def r42_17 : CodeT := fun call _ tm ds h K =>
  kO (binV Tryd.prog .add 3 true (tg tm 41) (.int .i64 (1))) ds h (fun v0 ds h =>
  K .norm (T.set tm 41 v0) ds h)
noncomputable def l42_18 : Box CodeT := ⟨seqC ⟨r42_12⟩ ⟨seqC ⟨condC ⟨fun _ tm => tg tm 42⟩ skipC (exitC 1)⟩ ⟨seqC ⟨blockC 2 ⟨seqC ⟨r42_13⟩ ⟨seqC ⟨seqC ⟨r42_14⟩ ⟨condC ⟨fun _ tm => tg tm 49⟩ ⟨r42_15⟩ skipC⟩⟩ ⟨r42_16⟩⟩⟩⟩ ⟨r42_17⟩⟩⟩⟩
noncomputable def r42_18 : CodeT := fun call _ tm ds h K =>
  kA (some (.rw [(.pointer none), (.slice none 0 0)] (some 74), ptrTo h.next)) ds h (fun v0 ds h =>
  K .norm (T.set tm 8 v0) ds h)
noncomputable def r42_19 : CodeT := fun call _ tm ds h K =>
  call 67 [(tg tm 8), (tg tm 5)] h (fun v h => (fun v1 ds h =>
  K .norm tm ds h) v ds h)
noncomputable def r42_20 : CodeT := fun call _ tm ds h K =>
  kO (indexSl 1 (tg tm 0) (.int .i64 (0))) ds h (fun v1 ds h =>
  kO (loadOne h v1) ds h (fun v2 ds h =>
  call 41 [(tg tm 8), v2] h (fun v h => (fun v3 ds h =>
  K .norm tm ds h) v ds h)))
noncomputable def r42_21 : CodeT := fun call _ tm ds h K =>
  kO (sliceSl 1 (tg tm 0) (some (.int .i64 (1))) none none) ds h (fun v1 ds h =>
  kO (lenSl v1) ds h (fun v2 ds h =>
  K .norm (T.set (T.set (T.set tm 63 v1) 64 v2) 65 (.int .i64 (0))) ds h))
noncomputable def r42_22 : CodeT := fun call _ tm ds h K =>
  kO (binV Tryd.prog .lss 3 false (tg tm 65) (tg tm 64)) ds h (fun v0 ds h =>
  K .norm (T.set tm 66 v0) ds h)
noncomputable def r42_23 : CodeT := fun call _ tm ds h K =>
  kO (indexSl 1 (tg tm 63) (tg tm 65)) ds h (fun v0 ds h =>
  kO (loadOne h v0) ds h (fun v1 ds h =>
  K .norm (T.set tm 10 v1) ds h))
noncomputable def r42_24 : CodeT := fun call _ tm ds h K =>
  call 41 [(tg tm 8), (tg tm 1)] h (fun v h => (fun v1 ds h =>
  K .norm tm ds h) v ds h)
noncomputable def r42_25 : CodeT := fun call _ tm ds h K =>
  call 41 [(tg tm 8), (tg tm 10)] h (fun v h => (fun v1 ds h =>
  K .norm tm ds h) v ds h)
noncomputable def r42_26 : CodeT := fun call _ tm ds h K =>
  kO (binV Tryd.prog .add 3 true (tg tm 65) (.int .i64 (1))) ds h (fun v0 ds h =>
  K .norm (T.set tm 65 v0) ds h)
noncomputable def l42_28 : Box CodeT := ⟨seqC ⟨r42_22⟩ ⟨seqC ⟨condC ⟨fun _ tm => tg tm 66⟩ skipC (exitC 3)⟩ ⟨seqC ⟨blockC 4 ⟨seqC ⟨r42_23⟩ ⟨seqC ⟨r42_24⟩ ⟨r42_25⟩⟩⟩⟩ ⟨r42_26⟩⟩⟩⟩
noncomputable def r42_27 : CodeT := fun call _ tm ds h K =>
  call 47 [(tg tm 8)] h (fun v h => (fun v0 ds h =>
  K .norm (T.set tm 4 v0) ds h) v ds h)
noncomputable def c42 : Box CodeT := ⟨seqC ⟨r42_0⟩ ⟨seqC ⟨seqC ⟨r42_1⟩ ⟨blockC 0 ⟨seqC ⟨r42_2⟩ ⟨condC ⟨fun _ tm => tg tm 13⟩ ⟨seqC ⟨r42_3⟩ retC⟩ ⟨seqC ⟨r42_4⟩ ⟨condC ⟨fun _ tm => tg tm 15⟩ ⟨seqC ⟨r42_5⟩ retC⟩ skipC⟩⟩⟩⟩⟩⟩ ⟨seqC ⟨r42_6⟩ ⟨seqC ⟨seqC ⟨r42_7⟩ ⟨condC ⟨fun _ tm => tg tm 22⟩ ⟨seqC ⟨seqC ⟨r42_8⟩ ⟨condC ⟨fun _ tm => tg tm 29⟩ ⟨r42_9⟩ skipC⟩⟩ ⟨r42_10⟩⟩ skipC⟩⟩ ⟨seqC ⟨seqC ⟨r42_11⟩ ⟨blockC 1 (loopB l42_18)⟩⟩ ⟨seqC ⟨r42_18⟩ ⟨seqC ⟨r42_19⟩ ⟨seqC ⟨r42_20⟩ ⟨seqC ⟨seqC ⟨r42_21⟩ ⟨blockC 3 (loopB l42_28)⟩⟩ ⟨seqC ⟨r42_27⟩ retC⟩⟩⟩⟩⟩⟩⟩⟩⟩⟩
noncomputable def q42 : Box (T Value → H → Option (List Value)) := ⟨fun tm h => some [tg tm 4]⟩

/-! 43 cloakroom/item.Text -/
noncomputable def r43_0 : CodeT := fun call _ tm ds h K =>
  K .norm (T.set tm 2 (.string (strB []))) ds h
noncomputable def r43_1 : CodeT := fun call _ tm ds h K =>
  call 68 [(tg tm 0), (.int .i64 (10))] h (fun v h => (fun v1 ds h =>
  K .norm (T.set tm 2 v1) ds h) v ds h)
noncomputable def c43 : Box CodeT := ⟨seqC ⟨r43_0⟩ ⟨seqC ⟨r43_1⟩ retC⟩⟩
noncomputable def q43 : Box (T Value → H → Option (List Value)) := ⟨fun tm h => some [tg tm 2]⟩

/-! 44 cloakroom/words.rows -/
noncomputable def r44_0 : CodeT := fun call _ tm ds h K =>
  kA (some (.rw [(.string (strB [])), (.string (strB [])), (.string (strB [])), (.string (strB [])), (.string (strB [])), (.string (strB []))] (some 81), ptrTo h.next)) ds h (fun v0 ds h =>
  K .norm (T.set tm 0 v0) ds h)
noncomputable def r44_1 : CodeT := fun call _ tm ds h K =>
  kO (aggO (fill [(.string (strB [])), (.string (strB [])), (.string (strB [])), (.string (strB [])), (.string (strB [])), (.string (strB []))] (pl 1) [(0, (.string (strB [83, 84, 79, 82, 69, 68]))), (1, (.string (strB [78, 85, 77, 66, 69, 82]))), (2, (.string (strB [84, 79, 85, 67, 72, 69, 68]))), (3, (.string (strB [68, 69, 76, 69, 84, 69, 68]))), (4, (.string (strB [70, 76, 85, 83, 72, 69, 68]))), (5, (.string (strB [69, 78, 68])))])) ds h (fun v0 ds h =>
  kH (withV undef (storeV 6 h (tg tm 0) v0)) ds (fun v1 ds h =>
  K .norm tm ds h))
noncomputable def c44 : Box CodeT := ⟨seqC ⟨r44_0⟩ ⟨seqC ⟨r44_1⟩ retC⟩⟩
noncomputable def q44 : Box (T Value → H → Option (List Value)) := ⟨fun tm h => (match loadAgg 6 h (tg tm 0) with | some v => (match (some [] : Option (List Value)) with | some l => some (v :: l) | none => none) | none => none)⟩

/-! 45 cloakroom/words.of -/
noncomputable def r45_0 : CodeT := fun call _ tm ds h K =>
  K .norm (T.set tm 4 (.bool false)) ds h
noncomputable def r45_1 : CodeT := fun call _ tm ds h K =>
  K .norm (T.set tm 5 (tg tm 1)) ds h
noncomputable def r45_2 : CodeT := fun call _ tm ds h K =>
  kO (binV Tryd.prog .eql 5 true (tg tm 5) (.int .u8 (2))) ds h (fun v0 ds h =>
  K .norm (T.set tm 6 v0) ds h)
noncomputable def r45_3 : CodeT := fun call _ tm ds h K =>
  kO (binV Tryd.prog .eql 5 true (tg tm 5) (.int .u8 (3))) ds h (fun v0 ds h =>
  K .norm (T.set tm 6 v0) ds h)
noncomputable def r45_4 : CodeT := fun call _ tm ds h K =>
  kO (binV Tryd.prog .eql 5 true (tg tm 5) (.int .u8 (4))) ds h (fun v0 ds h =>
  K .norm (T.set tm 6 v0) ds h)
noncomputable def r45_5 : CodeT := fun call _ tm ds h K =>
  kO (binV Tryd.prog .eql 5 true (tg tm 5) (.int .u8 (5))) ds h (fun v0 ds h =>
  K .norm (T.set tm 6 v0) ds h)
noncomputable def r45_6 : CodeT := fun call _ tm ds h K =>
  kO (binV Tryd.prog .eql 5 true (tg tm 5) (.int .u8 (8))) ds h (fun v0 ds h =>
  K .norm (T.set tm 6 v0) ds h)
noncomputable def r45_7 : CodeT := fun call _ tm ds h K =>
  kO (binV Tryd.prog .eql 9 true (tg tm 0) (.string (strB [83, 84, 79, 82, 69, 68]))) ds h (fun v1 ds h =>
  K .norm (T.set tm 4 v1) ds h)
noncomputable def r45_8 : CodeT := fun call _ tm ds h K =>
  kO (binV Tryd.prog .eql 5 true (tg tm 5) (.int .u8 (6))) ds h (fun v0 ds h =>
  K .norm (T.set tm 14 v0) ds h)
noncomputable def r45_9 : CodeT := fun call _ tm ds h K =>
  kO (binV Tryd.prog .eql 5 true (tg tm 5) (.int .u8 (7))) ds h (fun v0 ds h =>
  K .norm (T.set tm 14 v0) ds h)
noncomputable def r45_10 : CodeT := fun call _ tm ds h K =>
  kO (binV Tryd.prog .eql 9 true (tg tm 0) (.string (strB [78, 85, 77, 66, 69, 82]))) ds h (fun v1 ds h =>
  K .norm (T.set tm 4 v1) ds h)
noncomputable def r45_11 : CodeT := fun call _ tm ds h K =>
  kO (binV Tryd.prog .eql 5 true (tg tm 5) (.int .u8 (9))) ds h (fun v0 ds h =>
  K .norm (T.set tm 19 v0) ds h)
noncomputable def r45_12 : CodeT := fun call _ tm ds h K =>
  kO (binV Tryd.prog .eql 9 true (tg tm 0) (.string (strB [84, 79, 85, 67, 72, 69, 68]))) ds h (fun v1 ds h =>
  K .norm (T.set tm 4 v1) ds h)
noncomputable def r45_13 : CodeT := fun call _ tm ds h K =>
  kO (binV Tryd.prog .eql 5 true (tg tm 5) (.int .u8 (10))) ds h (fun v0 ds h =>
  K .norm (T.set tm 23 v0) ds h)
noncomputable def r45_14 : CodeT := fun call _ tm ds h K =>
  kO (binV Tryd.prog .eql 9 true (tg tm 0) (.string (strB [68, 69, 76, 69, 84, 69, 68]))) ds h (fun v1 ds h =>
  K .norm (T.set tm 4 v1) ds h)
noncomputable def r45_15 : CodeT := fun call _ tm ds h K =>
  kO (binV Tryd.prog .eql 5 true (tg tm 5) (.int .u8 (11))) ds h (fun v0 ds h =>
  K .norm (T.set tm 27 v0) ds h)
noncomputable def r45_16 : CodeT := fun call _ tm ds h K =>
  kO (binV Tryd.prog .eql 9 true (tg tm 0) (.string (strB [70, 76, 85, 83, 72, 69, 68]))) ds h (fun v1 ds h =>
  K .norm (T.set tm 4 v1) ds h)
noncomputable def r45_17 : CodeT := fun call _ tm ds h K =>
  kO (binV Tryd.prog .eql 5 true (tg tm 5) (.int .u8 (1))) ds h (fun v0 ds h =>
  K .norm (T.set tm 31 v0) ds h)
noncomputable def r45_18 : CodeT := fun call _ tm ds h K =>
  kO (binV Tryd.prog .eql 9 true (tg tm 0) (.string (strB [69, 78, 68]))) ds h (fun v1 ds h =>
  K .norm (T.set tm 4 v1) ds h)
noncomputable def r45_19 : CodeT := fun call _ tm ds h K =>
  K .norm (T.set tm 4 (.bool false)) ds h
noncomputable def c45 : Box CodeT := ⟨seqC ⟨r45_0⟩ ⟨seqC ⟨seqC ⟨r45_1⟩ ⟨blockC 0 ⟨seqC ⟨seqC ⟨r45_2⟩ ⟨condC ⟨fun _ tm => tg tm 6⟩ skipC ⟨seqC ⟨r45_3⟩ ⟨condC ⟨fun _ tm => tg tm 6⟩ skipC ⟨seqC ⟨r45_4⟩ ⟨condC ⟨fun _ tm => tg tm 6⟩ skipC ⟨seqC ⟨r45_5⟩ ⟨condC ⟨fun _ tm => tg tm 6⟩ skipC ⟨r45_6⟩⟩⟩⟩⟩⟩⟩⟩⟩ ⟨condC ⟨fun _ tm => tg tm 6⟩ ⟨seqC ⟨r45_7⟩ retC⟩ ⟨seqC ⟨seqC ⟨r45_8⟩ ⟨condC ⟨fun _ tm => tg tm 14⟩ skipC ⟨r45_9⟩⟩⟩ ⟨condC ⟨fun _ tm => tg tm 14⟩ ⟨seqC ⟨r45_10⟩ retC⟩ ⟨seqC ⟨r45_11⟩ ⟨condC ⟨fun _ tm => tg tm 19⟩ ⟨seqC ⟨r45_12⟩ retC⟩ ⟨seqC ⟨r45_13⟩ ⟨condC ⟨fun _ tm => tg tm 23⟩ ⟨seqC ⟨r45_14⟩ retC⟩ ⟨seqC ⟨r45_15⟩ ⟨condC ⟨fun _ tm => tg tm 27⟩ ⟨seqC ⟨r45_16⟩ retC⟩ ⟨seqC ⟨r45_17⟩ ⟨condC ⟨fun _ tm => tg tm 31⟩ ⟨seqC ⟨r45_18⟩ retC⟩ skipC⟩⟩⟩⟩⟩⟩⟩⟩⟩⟩⟩⟩⟩⟩ ⟨seqC ⟨r45_19⟩ retC⟩⟩⟩
noncomputable def q45 : Box (T Value → H → Option (List Value)) := ⟨fun tm h => some [tg tm 4]⟩

/-! 46 cloakroom/words.counts -/
noncomputable def r46_0 : CodeT := fun call _ tm ds h K =>
  K .norm (T.set tm 2 (.bool false)) ds h
noncomputable def r46_1 : CodeT := fun call _ tm ds h K => (⟨opStep ⟨fun call env tm ds h K => kO (some (tg tm 0)) ds h K⟩ ⟨fun v tm => tm⟩ ⟨fun env tm => true⟩
  ⟨opStep ⟨fun call env tm ds h K => kO (binV Tryd.prog .eql 5 true (nthD 0 env) (.int .u8 (6))) ds h K⟩ ⟨fun v tm => tm⟩ ⟨fun env tm => true⟩
  ⟨opStep ⟨fun call env tm ds h K => kO (some (nthD 0 env)) ds h K⟩ ⟨fun v tm => tm⟩ ⟨fun env tm => true⟩
  ⟨opStep ⟨fun call env tm ds h K => kO (some (tg tm 0)) ds h K⟩ ⟨fun v tm => tm⟩ ⟨fun env tm => isB false (nthD 0 env)⟩
  ⟨opStep ⟨fun call env tm ds h K => kO (binV Tryd.prog .eql 5 true (nthD 0 env) (.int .u8 (7))) ds h K⟩ ⟨fun v tm => tm⟩ ⟨fun env tm => isB false (nthD 1 env)⟩
  ⟨opStep ⟨fun call env tm ds h K => kO (pickV (nthD 2 env) (.bool true) (nthD 0 env)) ds h K⟩ ⟨fun v tm => tm⟩ ⟨fun env tm => true⟩
  ⟨opStep ⟨fun call env tm ds h K => kO (some (nthD 0 env)) ds h K⟩ ⟨fun v tm => tm⟩ ⟨fun env tm => true⟩
  ⟨opStep ⟨fun call env tm ds h K => kO (some (tg tm 0)) ds h K⟩ ⟨fun v tm => tm⟩ ⟨fun env tm => isB false (nthD 0 env)⟩
  ⟨opStep ⟨fun call env tm ds h K => kO (binV Tryd.prog .eql 5 true (nthD 0 env) (.int .u8 (10))) ds h K⟩ ⟨fun v tm => tm⟩ ⟨fun env tm => isB false (nthD 1 env)⟩
  ⟨opStep ⟨fun call env tm ds h K => kO (pickV (nthD 2 env) (.bool true) (nthD 0 env)) ds h K⟩ ⟨fun v tm => tm⟩ ⟨fun env tm => true⟩
  ⟨opStep ⟨fun call env tm ds h K => kO (some (nthD 0 env)) ds h K⟩ ⟨fun v tm => (T.set tm 2 v)⟩ ⟨fun env tm => true⟩
  ⟨fun _ _ tm ds h K => K .norm tm ds h⟩⟩⟩⟩⟩⟩⟩⟩⟩⟩⟩⟩ : Box OpsT).f call [] tm ds h K
noncomputable def c46 : Box CodeT := ⟨seqC ⟨r46_0⟩ ⟨seqC ⟨r46_1⟩ retC⟩⟩
noncomputable def q46 : Box (T Value → H → Option (List Value)) := ⟨fun tm h => some [tg tm 2]⟩

/-! 47 (*strings.Builder).String -/
noncomputable def r47_0 : CodeT := fun call _ tm ds h K =>
  K .norm (T.set tm 2 (.string (strB []))) ds h
noncomputable def r47_1 : CodeT := fun call _ tm ds h0 K =>
  (fun (b0 : Nat) (h : H) =>
  kO (nilChk (tg tm 0)) ds h (fun v1 ds h =>
  kO (fieldPtr 1 v1) ds h (fun v2 ds h =>
  kO (loadOne h v2) ds h (fun v3 ds h =>
  kO (dataV v3) ds h (fun v4 ds h =>
  kO (nilChk (tg tm 0)) ds h (fun v6 ds h =>
  kO (fieldPtr 1 v6) ds h (fun v7 ds h =>
  kO (loadOne h v7) ds h (fun v8 ds h =>
  kO (lenSl v8) ds h (fun v9 ds h =>
  kH (strOf 5 h v4 v9) ds (fun v10 ds h =>
  K .norm (T.set tm 2 v10) ds h)))))))))) h0.next ⟨h0.objs, h0.next + 12⟩
noncomputable def c47 : Box CodeT := ⟨seqC ⟨r47_0⟩ ⟨seqC ⟨r47_1⟩ retC⟩⟩
noncomputable def q47 : Box (T Value → H → Option (List Value)) := ⟨fun tm h => some [tg tm 2]⟩

/-! 48 cloakroom/cloakroomref15.counts -/
noncomputable def r48_0 : CodeT := fun call _ tm ds h K =>
  K .norm (T.set tm 2 (.bool false)) ds h
noncomputable def r48_1 : CodeT := fun call _ tm ds h K => (⟨opStep ⟨fun call env tm ds h K => kO (some (tg tm 0)) ds h K⟩ ⟨fun v tm => tm⟩ ⟨fun env tm => true⟩
  ⟨opStep ⟨fun call env tm ds h K => kO (binV Tryd.prog .eql 5 true (nthD 0 env) (.int .u8 (6))) ds h K⟩ ⟨fun v tm => tm⟩ ⟨fun env tm => true⟩
  ⟨opStep ⟨fun call env tm ds h K => kO (some (nthD 0 env)) ds h K⟩ ⟨fun v tm => tm⟩ ⟨fun env tm => true⟩
  ⟨opStep ⟨fun call env tm ds h K => kO (some (tg tm 0)) ds h K⟩ ⟨fun v tm => tm⟩ ⟨fun env tm => isB false (nthD 0 env)⟩
  ⟨opStep ⟨fun call env tm ds h K => kO (binV Tryd.prog .eql 5 true (nthD 0 env) (.int .u8 (7))) ds h K⟩ ⟨fun v tm => tm⟩ ⟨fun env tm => isB false (nthD 1 env)⟩
  ⟨opStep ⟨fun call env tm ds h K => kO (pickV (nthD 2 env) (.bool true) (nthD 0 env)) ds h K⟩ ⟨fun v tm => tm⟩ ⟨fun env tm => true⟩
  ⟨opStep ⟨fun call env tm ds h K => kO (some (nthD 0 env)) ds h K⟩ ⟨fun v tm => tm⟩ ⟨fun env tm => true⟩
  ⟨opStep ⟨fun call env tm ds h K => kO (some (tg tm 0)) ds h K⟩ ⟨fun v tm => tm⟩ ⟨fun env tm => isB false (nthD 0 env)⟩
  ⟨opStep ⟨fun call env tm ds h K => kO (binV Tryd.prog .eql 5 true (nthD 0 env) (.int .u8 (10))) ds h K⟩ ⟨fun v tm => tm⟩ ⟨fun env tm => isB false (nthD 1 env)⟩
  ⟨opStep ⟨fun call env tm ds h K => kO (pickV (nthD 2 env) (.bool true) (nthD 0 env)) ds h K⟩ ⟨fun v tm => tm⟩ ⟨fun env tm => true⟩
  ⟨opStep ⟨fun call env tm ds h K => kO (some (nthD 0 env)) ds h K⟩ ⟨fun v tm => (T.set tm 2 v)⟩ ⟨fun env tm => true⟩
  ⟨fun _ _ tm ds h K => K .norm tm ds h⟩⟩⟩⟩⟩⟩⟩⟩⟩⟩⟩⟩ : Box OpsT).f call [] tm ds h K
noncomputable def c48 : Box CodeT := ⟨seqC ⟨r48_0⟩ ⟨seqC ⟨r48_1⟩ retC⟩⟩
noncomputable def q48 : Box (T Value → H → Option (List Value)) := ⟨fun tm h => some [tg tm 2]⟩

/-! 49 cloakroom/cloakroomref09.Check -/
noncomputable def r49_0 : CodeT := fun call _ tm ds h K =>
  kA (some (.rw (Value.cells (tg tm 0)).toList (some 48), ptrTo h.next)) ds h (fun v0 ds h =>
  K .norm (T.set (T.set tm 1 v0) 2 (.int .i64 (0))) ds h)
noncomputable def r49_1 : CodeT := fun call _ tm ds h K => (⟨opStep ⟨fun call env tm ds h K => kO (fieldPtr 0 (tg tm 1)) ds h K⟩ ⟨fun v tm => tm⟩ ⟨fun env tm => true⟩
  ⟨opStep ⟨fun call env tm ds h K => kO (loadOne h (nthD 0 env)) ds h K⟩ ⟨fun v tm => tm⟩ ⟨fun env tm => true⟩
  ⟨opStep ⟨fun call env tm ds h K => kO (lenStr (nthD 0 env)) ds h K⟩ ⟨fun v tm => tm⟩ ⟨fun env tm => true⟩
  ⟨opStep ⟨fun call env tm ds h K => kO (binV Tryd.prog .lss 3 true (nthD 0 env) (.int .i64 (1))) ds h K⟩ ⟨fun v tm => tm⟩ ⟨fun env tm => true⟩
  ⟨opStep ⟨fun call env tm ds h K => kO (some (nthD 0 env)) ds h K⟩ ⟨fun v tm => tm⟩ ⟨fun env tm => true⟩
  ⟨opStep ⟨fun call env tm ds h K => kO (fieldPtr 0 (tg tm 1)) ds h K⟩ ⟨fun v tm => tm⟩ ⟨fun env tm => isB false (nthD 0 env)⟩
  ⟨opStep ⟨fun call env tm ds h K => kO (loadOne h (nthD 0 env)) ds h K⟩ ⟨fun v tm => tm⟩ ⟨fun env tm => isB false (nthD 1 env)⟩
  ⟨opStep ⟨fun call env tm ds h K => kO (lenStr (nthD 0 env)) ds h K⟩ ⟨fun v tm => tm⟩ ⟨fun env tm => isB false (nthD 2 env)⟩
  ⟨opStep ⟨fun call env tm ds h K => kO (binV Tryd.prog .gtr 3 true (nthD 0 env) (.int .i64 (32))) ds h K⟩ ⟨fun v tm => tm⟩ ⟨fun env tm => isB false (nthD 3 env)⟩
  ⟨opStep ⟨fun call env tm ds h K => kO (pickV (nthD 4 env) (.bool true) (nthD 0 env)) ds h K⟩ ⟨fun v tm => tm⟩ ⟨fun env tm => true⟩
  ⟨opStep ⟨fun call env tm ds h K => kO (some (nthD 0 env)) ds h K⟩ ⟨fun v tm => tm⟩ ⟨fun env tm => true⟩
  ⟨opStep ⟨fun call env tm ds h K => kO (fieldPtr 1 (tg tm 1)) ds h K⟩ ⟨fun v tm => tm⟩ ⟨fun env tm => isB false (nthD 0 env)⟩
  ⟨opStep ⟨fun call env tm ds h K => kO (loadOne h (nthD 0 env)) ds h K⟩ ⟨fun v tm => tm⟩ ⟨fun env tm => isB false (nthD 1 env)⟩
  ⟨opStep ⟨fun call env tm ds h K => kO (lenStr (nthD 0 env)) ds h K⟩ ⟨fun v tm => tm⟩ ⟨fun env tm => isB false (nthD 2 env)⟩
  ⟨opStep ⟨fun call env tm ds h K => kO (binV Tryd.prog .gtr 3 true (nthD 0 env) (.int .i64 (512))) ds h K⟩ ⟨fun v tm => tm⟩ ⟨fun env tm => isB false (nthD 3 env)⟩
  ⟨opStep ⟨fun call env tm ds h K => kO (pickV (nthD 4 env) (.bool true) (nthD 0 env)) ds h K⟩ ⟨fun v tm => (T.set tm 18 v)⟩ ⟨fun env tm => true⟩
  ⟨fun _ _ tm ds h K => K .norm tm ds h⟩⟩⟩⟩⟩⟩⟩⟩⟩⟩⟩⟩⟩⟩⟩⟩⟩ : Box OpsT).f call [] tm ds h K
noncomputable def r49_2 : CodeT := fun call _ tm ds h K =>
  K .norm (T.set tm 2 (.int .i64 (3))) ds h
noncomputable def r49_3 : CodeT := fun call _ tm ds h K =>
  kO (fieldPtr 3 (tg tm 1)) ds h (fun v0 ds h =>
  kO (loadOne h v0) ds h (fun v1 ds h =>
  call 69 [v1] h (fun v h => (fun v2 ds h =>
  kO (unV .not v2) ds h (fun v3 ds h =>
  K .norm (T.set tm 22 v3) ds h)) v ds h)))
noncomputable def r49_4 : CodeT := fun call _ tm ds h K =>
  K .norm (T.set tm 2 (.int .i64 (2))) ds h
noncomputable def r49_5 : CodeT := fun call _ tm ds h K =>
  K .norm (T.set tm 2 (.int .i64 (0))) ds h
noncomputable def c49 : Box CodeT := ⟨seqC ⟨r49_0⟩ ⟨seqC ⟨seqC ⟨r49_1⟩ ⟨condC ⟨fun _ tm => tg tm 18⟩ ⟨seqC ⟨r49_2⟩ retC⟩ skipC⟩⟩ ⟨seqC ⟨seqC ⟨r49_3⟩ ⟨condC ⟨fun _ tm => tg tm 22⟩ ⟨seqC ⟨r49_4⟩ retC⟩ skipC⟩⟩ ⟨seqC ⟨r49_5⟩ retC⟩⟩⟩⟩
noncomputable def q49 : Box (T Value → H → Option (List Value)) := ⟨fun tm h => some [tg tm 2]⟩

/-! 50 cloakroom/cloakroomref14.Plain -/
noncomputable def r50_0 : CodeT := fun call _ tm ds h K =>
  K .norm (T.set tm 4 (.bool false)) ds h
noncomputable def r50_1 : CodeT := fun call _ tm ds h K =>
  K .norm (T.set tm 5 (.int .i64 (0))) ds h
noncomputable def r50_2 : CodeT := fun call _ tm ds h K =>
  kO (lenStr (tg tm 0)) ds h (fun v2 ds h =>
  kO (binV Tryd.prog .lss 3 false (tg tm 5) v2) ds h (fun v3 ds h =>
  K .norm (T.set tm 9 v3) ds h))
noncomputable def r50_4 : CodeT := fun call _ tm ds h K => (⟨opStep ⟨fun call env tm ds h K => kO (some (tg tm 0)) ds h K⟩ ⟨fun v tm => tm⟩ ⟨fun env tm => true⟩
  ⟨opStep ⟨fun call env tm ds h K => kO (some (tg tm 5)) ds h K⟩ ⟨fun v tm => tm⟩ ⟨fun env tm => true⟩
  ⟨opStep ⟨fun call env tm ds h K => kO (indexStr (nthD 1 env) (nthD 0 env)) ds h K⟩ ⟨fun v tm => tm⟩ ⟨fun env tm => true⟩
  ⟨opStep ⟨fun call env tm ds h K => kO (binV Tryd.prog .lss 5 true (nthD 0 env) (.int .u8 (33))) ds h K⟩ ⟨fun v tm => tm⟩ ⟨fun env tm => true⟩
  ⟨opStep ⟨fun call env tm ds h K => kO (some (nthD 0 env)) ds h K⟩ ⟨fun v tm => tm⟩ ⟨fun env tm => true⟩
  ⟨opStep ⟨fun call env tm ds h K => kO (some (tg tm 0)) ds h K⟩ ⟨fun v tm => tm⟩ ⟨fun env tm => isB false (nthD 0 env)⟩
  ⟨opStep ⟨fun call env tm ds h K => kO (some (tg tm 5)) ds h K⟩ ⟨fun v tm => tm⟩ ⟨fun env tm => isB false (nthD 1 env)⟩
  ⟨opStep ⟨fun call env tm ds h K => kO (indexStr (nthD 1 env) (nthD 0 env)) ds h K⟩ ⟨fun v tm => tm⟩ ⟨fun env tm => isB false (nthD 2 env)⟩
  ⟨opStep ⟨fun call env tm ds h K => kO (binV Tryd.prog .gtr 5 true (nthD 0 env) (.int .u8 (126))) ds h K⟩ ⟨fun v tm => tm⟩ ⟨fun env tm => isB false (nthD 3 env)⟩
  ⟨opStep ⟨fun call env tm ds h K => kO (pickV (nthD 4 env) (.bool true) (nthD 0 env)) ds h K⟩ ⟨fun v tm => (T.set tm 21 v)⟩ ⟨fun env tm => true⟩
  ⟨fun _ _ tm ds h K => K .norm tm ds h⟩⟩⟩⟩⟩⟩⟩⟩⟩⟩⟩ : Box OpsT).f call [] tm ds h K
noncomputable def r50_5 : CodeT := fun call _ tm ds h K =>
  K .norm (T.set tm 4 (.bool false)) ds h
noncomputable def r50_3 : CodeT := fun call _ tm ds h K =>
  kO (binV Tryd.prog .add 3 true (tg tm 5) (.int .i64 (1))) ds h (fun v1 ds h =>
  K .norm (T.set tm 5 v1) ds h)
noncomputable def l50_6 : Box CodeT := ⟨seqC ⟨seqC ⟨r50_2⟩ ⟨condC ⟨fun _ tm => tg tm 9⟩ skipC (exitC 0)⟩⟩ ⟨seqC ⟨blockC 1 ⟨seqC ⟨r50_4⟩ ⟨condC ⟨fun _ tm => tg tm 21⟩ ⟨seqC ⟨r50_5⟩ retC⟩ skipC⟩⟩⟩ ⟨r50_3⟩⟩⟩
noncomputable def r50_6 : CodeT := fun call _ tm ds h K => (⟨opStep ⟨fun call env tm ds h K => kO (some (tg tm 0)) ds h K⟩ ⟨fun v tm => tm⟩ ⟨fun env tm => true⟩
  ⟨opStep ⟨fun call env tm ds h K => kO (binV Tryd.prog .neq 9 true (nthD 0 env) (.string (strB []))) ds h K⟩ ⟨fun v tm => tm⟩ ⟨fun env tm => true⟩
  ⟨opStep ⟨fun call env tm ds h K => kO (some (nthD 0 env)) ds h K⟩ ⟨fun v tm => tm⟩ ⟨fun env tm => true⟩
  ⟨opStep ⟨fun call env tm ds h K => kO (some (tg tm 0)) ds h K⟩ ⟨fun v tm => tm⟩ ⟨fun env tm => isB true (nthD 0 env)⟩
  ⟨opStep ⟨fun call env tm ds h K => kO (lenStr (nthD 0 env)) ds h K⟩ ⟨fun v tm => tm⟩ ⟨fun env tm => isB true (nthD 1 env)⟩
  ⟨opStep ⟨fun call env tm ds h K => kO (some (tg tm 1)) ds h K⟩ ⟨fun v tm => tm⟩ ⟨fun env tm => isB true (nthD 2 env)⟩
  ⟨opStep ⟨fun call env tm ds h K => kO (binV Tryd.prog .leq 3 false (nthD 1 env) (nthD 0 env)) ds h K⟩ ⟨fun v tm => tm⟩ ⟨fun env tm => isB true (nthD 3 env)⟩
  ⟨opStep ⟨fun call env tm ds h K => kO (pickV (nthD 4 env) (nthD 0 env) (.bool false)) ds h K⟩ ⟨fun v tm => tm⟩ ⟨fun env tm => true⟩
  ⟨opStep ⟨fun call env tm ds h K => kO (some (nthD 0 env)) ds h K⟩ ⟨fun v tm => (T.set tm 4 v)⟩ ⟨fun env tm => true⟩
  ⟨fun _ _ tm ds h K => K .norm tm ds h⟩⟩⟩⟩⟩⟩⟩⟩⟩⟩ : Box OpsT).f call [] tm ds h K
noncomputable def c50 : Box CodeT := ⟨seqC ⟨r50_0⟩ ⟨seqC ⟨seqC ⟨r50_1⟩ ⟨blockC 0 (loopB l50_6)⟩⟩ ⟨seqC ⟨r50_6⟩ retC⟩⟩⟩
noncomputable def q50 : Box (T Value → H → Option (List Value)) := ⟨fun tm h => some [tg tm 4]⟩

/-! 51 cloakroom/cloakroomref15.word -/
noncomputable def r51_0 : CodeT := fun call _ tm ds h K =>
  K .norm (T.set tm 2 (.string (strB []))) ds h
noncomputable def r51_1 : CodeT := fun call _ tm ds h K =>
  kO (aggO (fill [(.string (strB [])), (.string (strB [])), (.string (strB [])), (.string (strB [])), (.string (strB [])), (.string (strB [])), (.string (strB [])), (.string (strB []))] (pl 1) [(0, (.string (strB []))), (1, (.string (strB []))), (2, (.string (strB [78, 79, 84, 95, 70, 79, 85, 78, 68]))), (3, (.string (strB [69, 88, 73, 83, 84, 83]))), (4, (.string (strB [84, 79, 79, 95, 76, 65, 82, 71, 69]))), (5, (.string (strB [78, 79, 95, 77, 69, 77, 79, 82, 89]))), (6, (.string (strB [78, 79, 84, 95, 78, 85, 77, 66, 69, 82]))), (7, (.string (strB [68, 69, 78, 73, 69, 68])))])) ds h (fun v0 ds h =>
  kA (some (.rw [(.string (strB [])), (.string (strB [])), (.string (strB [])), (.string (strB [])), (.string (strB [])), (.string (strB [])), (.string (strB [])), (.string (strB []))] (some 52), ptrTo h.next)) ds h (fun v1 ds h =>
  kH (withV undef (storeV 8 h v1 v0)) ds (fun v2 ds h =>
  K .norm (T.set tm 3 v1) ds h)))
noncomputable def r51_2 : CodeT := fun call _ tm ds h K =>
  kO (indexArr 1 8 (tg tm 3) (tg tm 0)) ds h (fun v1 ds h =>
  kO (loadOne h v1) ds h (fun v2 ds h =>
  K .norm (T.set tm 2 v2) ds h))
noncomputable def c51 : Box CodeT := ⟨seqC ⟨r51_0⟩ ⟨seqC ⟨r51_1⟩ ⟨seqC ⟨r51_2⟩ retC⟩⟩⟩
noncomputable def q51 : Box (T Value → H → Option (List Value)) := ⟨fun tm h => some [tg tm 2]⟩

/-! 52 cloakroom/cloakroomref09.Text -/
noncomputable def r52_0 : CodeT := fun call _ tm ds h K =>
  K .norm (T.set tm 2 (.string (strB []))) ds h
noncomputable def r52_1 : CodeT := fun call _ tm ds h K =>
  kO (binV Tryd.prog .lss 23 true (tg tm 0) (.int .u64 (10))) ds h (fun v1 ds h =>
  K .norm (T.set tm 4 v1) ds h)
noncomputable def r52_2 : CodeT := fun call _ tm ds h K =>
  kO (binV Tryd.prog .add 23 true (tg tm 0) (.int .u64 (1))) ds h (fun v2 ds h =>
  kO (sliceStr (.string (strB [48, 49, 50, 51, 52, 53, 54, 55, 56, 57])) (some (tg tm 0)) (some v2) none) ds h (fun v3 ds h =>
  K .norm (T.set tm 2 v3) ds h))
noncomputable def r52_3 : CodeT := fun call _ tm ds h K =>
  kO (binV Tryd.prog .quo 23 true (tg tm 0) (.int .u64 (10))) ds h (fun v1 ds h =>
  call 52 [v1] h (fun v h => (fun v2 ds h =>
  kO (binV Tryd.prog .rem 23 true (tg tm 0) (.int .u64 (10))) ds h (fun v4 ds h =>
  call 52 [v4] h (fun v h => (fun v5 ds h =>
  kO (binV Tryd.prog .add 9 false v2 v5) ds h (fun v6 ds h =>
  K .norm (T.set tm 2 v6) ds h)) v ds h))) v ds h))
noncomputable def c52 : Box CodeT := ⟨seqC ⟨r52_0⟩ ⟨seqC ⟨seqC ⟨r52_1⟩ ⟨condC ⟨fun _ tm => tg tm 4⟩ ⟨seqC ⟨r52_2⟩ retC⟩ skipC⟩⟩ ⟨seqC ⟨r52_3⟩ retC⟩⟩⟩
noncomputable def q52 : Box (T Value → H → Option (List Value)) := ⟨fun tm h => some [tg tm 2]⟩

/-! 53 cloakroom/cloakroomref15.row -/
noncomputable def r53_0 : CodeT := fun call _ tm ds h K =>
  K .norm (T.set tm 2 (.string (strB []))) ds h
noncomputable def r53_1 : CodeT := fun call _ tm ds h K =>
  kO (aggO (fill [(.string (strB [])), (.string (strB [])), (.string (strB [])), (.string (strB [])), (.string (strB [])), (.string (strB [])), (.string (strB [])), (.string (strB [])), (.string (strB [])), (.string (strB [])), (.string (strB [])), (.string (strB []))] (pl 1) [(0, (.string (strB []))), (1, (.string (strB [69, 78, 68]))), (2, (.string (strB [83, 84, 79, 82, 69, 68]))), (3, (.string (strB [83, 84, 79, 82, 69, 68]))), (4, (.string (strB [83, 84, 79, 82, 69, 68]))), (5, (.string (strB [83, 84, 79, 82, 69, 68]))), (6, (.string (strB [78, 85, 77, 66, 69, 82]))), (7, (.string (strB [78, 85, 77, 66, 69, 82]))), (8, (.string (strB [83, 84, 79, 82, 69, 68]))), (9, (.string (strB [84, 79, 85, 67, 72, 69, 68]))), (10, (.string (strB [68, 69, 76, 69, 84, 69, 68]))), (11, (.string (strB [70, 76, 85, 83, 72, 69, 68])))])) ds h (fun v0 ds h =>
  kA (some (.rw [(.string (strB [])), (.string (strB [])), (.string (strB [])), (.string (strB [])), (.string (strB [])), (.string (strB [])), (.string (strB [])), (.string (strB [])), (.string (strB [])), (.string (strB [])), (.string (strB [])), (.string (strB []))] (some 104), ptrTo h.next)) ds h (fun v1 ds h =>
  kH (withV undef (storeV 12 h v1 v0)) ds (fun v2 ds h =>
  K .norm (T.set tm 3 v1) ds h)))
noncomputable def r53_2 : CodeT := fun call _ tm ds h K =>
  kO (indexArr 1 12 (tg tm 3) (tg tm 0)) ds h (fun v1 ds h =>
  kO (loadOne h v1) ds h (fun v2 ds h =>
  K .norm (T.set tm 2 v2) ds h))
noncomputable def c53 : Box CodeT := ⟨seqC ⟨r53_0⟩ ⟨seqC ⟨r53_1⟩ ⟨seqC ⟨r53_2⟩ retC⟩⟩⟩
noncomputable def q53 : Box (T Value → H → Option (List Value)) := ⟨fun tm h => some [tg tm 2]⟩

/-! 54 cloakroom/words.result$1 -/
noncomputable def r54_0 : CodeT := fun call _ tm ds h K =>
  kA (some (.rw (Value.cells (tg tm 0)).toList (some 48), ptrTo h.next)) ds h (fun v0 ds h =>
  K .norm (T.set (T.set tm 1 v0) 2 (.bool false)) ds h)
noncomputable def r54_1 : CodeT := fun call _ tm ds h K =>
  kO (loadAgg 5 h (tg tm 1)) ds h (fun v0 ds h =>
  call 55 [v0] h (fun v h => (fun v1 ds h =>
  kO (binV Tryd.prog .neq 30 true v1 (.int .i64 (0))) ds h (fun v2 ds h =>
  K .norm (T.set tm 2 v2) ds h)) v ds h))
noncomputable def c54 : Box CodeT := ⟨seqC ⟨r54_0⟩ ⟨seqC ⟨r54_1⟩ retC⟩⟩
noncomputable def q54 : Box (T Value → H → Option (List Value)) := ⟨fun tm h => some [tg tm 2]⟩

/-! 55 cloakroom/item.Check -/
noncomputable def r55_0 : CodeT := fun call _ tm ds h K =>
  kA (some (.rw (Value.cells (tg tm 0)).toList (some 48), ptrTo h.next)) ds h (fun v0 ds h =>
  K .norm (T.set (T.set tm 1 v0) 2 (.int .i64 (0))) ds h)
noncomputable def r55_1 : CodeT := fun call _ tm ds h K =>
  kO (fieldPtr 0 (tg tm 1)) ds h (fun v0 ds h =>
  kO (loadOne h v0) ds h (fun v1 ds h =>
  kO (lenStr v1) ds h (fun v2 ds h =>
  kO (binV Tryd.prog .lss 3 true v2 (.int .i64 (1))) ds h (fun v3 ds h =>
  K .norm (T.set tm 3 v3) ds h))))
noncomputable def r55_2 : CodeT := fun call _ tm ds h K =>
  kO (fieldPtr 0 (tg tm 1)) ds h (fun v0 ds h =>
  kO (loadOne h v0) ds h (fun v1 ds h =>
  kO (lenStr v1) ds h (fun v2 ds h =>
  kO (binV Tryd.prog .gtr 3 true v2 (.int .i64 (32))) ds h (fun v3 ds h =>
  K .norm (T.set tm 3 v3) ds h))))
noncomputable def r55_3 : CodeT := fun call _ tm ds h K =>
  kO (fieldPtr 1 (tg tm 1)) ds h (fun v0 ds h =>
  kO (loadOne h v0) ds h (fun v1 ds h =>
  kO (lenStr v1) ds h (fun v2 ds h =>
  kO (binV Tryd.prog .gtr 3 true v2 (.int .i64 (512))) ds h (fun v3 ds h =>
  K .norm (T.set tm 3 v3) ds h))))
noncomputable def r55_4 : CodeT := fun call _ tm ds h K =>
  K .norm (T.set tm 2 (.int .i64 (3))) ds h
noncomputable def r55_5 : CodeT := fun call _ tm ds h K =>
  kO (fieldPtr 3 (tg tm 1)) ds h (fun v0 ds h =>
  kO (loadOne h v0) ds h (fun v1 ds h =>
  call 70 [v1] h (fun v h => (fun v2 ds h =>
  kO (unV .not v2) ds h (fun v3 ds h =>
  K .norm (T.set tm 16 v3) ds h)) v ds h)))
noncomputable def r55_6 : CodeT := fun call _ tm ds h K =>
  K .norm (T.set tm 2 (.int .i64 (2))) ds h
noncomputable def r55_7 : CodeT := fun call _ tm ds h K =>
  K .norm (T.set tm 2 (.int .i64 (0))) ds h
noncomputable def c55 : Box CodeT := ⟨seqC ⟨r55_0⟩ ⟨seqC ⟨blockC 0 ⟨seqC ⟨seqC ⟨r55_1⟩ ⟨condC ⟨fun _ tm => tg tm 3⟩ skipC ⟨seqC ⟨r55_2⟩ ⟨condC ⟨fun _ tm => tg tm 3⟩ skipC ⟨r55_3⟩⟩⟩⟩⟩ ⟨condC ⟨fun _ tm => tg tm 3⟩ ⟨seqC ⟨r55_4⟩ retC⟩ ⟨seqC ⟨r55_5⟩ ⟨condC ⟨fun _ tm => tg tm 16⟩ ⟨seqC ⟨r55_6⟩ retC⟩ skipC⟩⟩⟩⟩⟩ ⟨seqC ⟨r55_7⟩ retC⟩⟩⟩
noncomputable def q55 : Box (T Value → H → Option (List Value)) := ⟨fun tm h => some [tg tm 2]⟩

/-! 65 strings.indexFunc -/
noncomputable def r65_0 : CodeT := fun call _ tm ds h K =>
  K .norm (T.set tm 6 (.int .i64 (0))) ds h
noncomputable def r65_1 : CodeT := fun call _ tm ds h K =>
  kH (rangeStr h (tg tm 0)) ds (fun v1 ds h =>
  K .norm (T.set tm 10 v1) ds h)
noncomputable def r65_2 : CodeT := fun call _ tm ds h K =>
  nextV true h (tg tm 10) (fun v h => (fun v0 ds h =>
  kO (tupNth 0 v0) ds h (fun v1 ds h =>
  K .norm (T.set (T.set tm 11 v0) 12 v1) ds h)) v ds h)
noncomputable def r65_3 : CodeT := fun call _ tm ds h K =>
  kO (tupNth 1 (tg tm 11)) ds h (fun v0 ds h =>
  kO (tupNth 2 (tg tm 11)) ds h (fun v1 ds h =>
  K .norm (T.set (T.set tm 7 v0) 8 v1) ds h))
noncomputable def r65_4 : CodeT := fun call _ tm ds h K =>
  goCall call (funcArgs (tg tm 1) [(tg tm 8)]) ds h (fun v2 ds h =>
  kO (binV Tryd.prog .eql 4 false v2 (tg tm 2)) ds h (fun v4 ds h =>
  K .norm (T.set tm 19 v4) ds h))
noncomputable def r65_5 : CodeT := fun call _ tm ds h K =>
  K .norm (T.set tm 6 (tg tm 7)) ds h
noncomputable def l65_6 : Box CodeT := ⟨seqC ⟨r65_2⟩ ⟨seqC ⟨condC ⟨fun _ tm => tg tm 12⟩ skipC (exitC 0)⟩ ⟨blockC 1 ⟨seqC ⟨r65_3⟩ ⟨seqC ⟨r65_4⟩ ⟨condC ⟨fun _ tm => tg tm 19⟩ ⟨seqC ⟨r65_5⟩ retC⟩ skipC⟩⟩⟩⟩⟩⟩
noncomputable def r65_6 : CodeT := fun call _ tm ds h K =>
  K .norm (T.set tm 6 (.int .i64 (-1))) ds h
noncomputable def c65 : Box CodeT := ⟨seqC ⟨r65_0⟩ ⟨seqC ⟨seqC ⟨r65_1⟩ ⟨blockC 0 (loopB l65_6)⟩⟩ ⟨seqC ⟨r65_6⟩ retC⟩⟩⟩
noncomputable def q65 : Box (T Value → H → Option (List Value)) := ⟨fun tm h => some [tg tm 6]⟩

/-! 66 (*strings.Builder).copyCheck -/
noncomputable def r66_0 : CodeT := fun call _ tm ds h K =>
  kO (nilChk (tg tm 0)) ds h (fun v1 ds h =>
  kO (fieldPtr 0 v1) ds h (fun v2 ds h =>
  kO (loadOne h v2) ds h (fun v3 ds h =>
  kO (binV Tryd.prog .eql 72 true v3 (.pointer none)) ds h (fun v4 ds h =>
  K .norm (T.set tm 6 v4) ds h))))
noncomputable def r66_1 : CodeT := fun call _ tm ds h K =>
  kO (ptrUns h (tg tm 0)) ds h (fun v2 ds h =>
  call 78 [v2] h (fun v h => (fun v3 ds h =>
  kO (unsPtr 74 2 h v3) ds h (fun v4 ds h =>
  kO (nilChk (tg tm 0)) ds h (fun v5 ds h =>
  kO (fieldPtr 0 v5) ds h (fun v6 ds h =>
  kH (withV undef (storeV 1 h v6 v4)) ds (fun v7 ds h =>
  K .norm tm ds h))))) v ds h))
noncomputable def r66_2 : CodeT := fun call _ tm ds h K =>
  kO (nilChk (tg tm 0)) ds h (fun v1 ds h =>
  kO (fieldPtr 0 v1) ds h (fun v2 ds h =>
  kO (loadOne h v2) ds h (fun v3 ds h =>
  kO (binV Tryd.prog .neq 72 false v3 (tg tm 0)) ds h (fun v5 ds h =>
  K .norm (T.set tm 19 v5) ds h))))
noncomputable def c66 : Box CodeT := ⟨seqC ⟨r66_0⟩ ⟨condC ⟨fun _ tm => tg tm 6⟩ ⟨r66_1⟩ ⟨seqC ⟨r66_2⟩ ⟨condC ⟨fun _ tm => tg tm 19⟩ stop skipC⟩⟩⟩⟩
noncomputable def q66 : Box (T Value → H → Option (List Value)) := ⟨fun tm h => some []⟩

/-! 67 (*strings.Builder).Grow -/
noncomputable def r67_0 : CodeT := fun call _ tm ds h K =>
  call 66 [(tg tm 0)] h (fun v h => (fun v1 ds h =>
  K .norm tm ds h) v ds h)
noncomputable def r67_1 : CodeT := fun call _ tm ds h K =>
  kO (binV Tryd.prog .lss 3 true (tg tm 1) (.int .i64 (0))) ds h (fun v1 ds h =>
  K .norm (T.set tm 7 v1) ds h)
noncomputable def r67_2 : CodeT := fun call _ tm ds h K =>
  kO (some (.iface 9 (.string (strB [115, 116, 114, 105, 110, 103, 115, 46, 66, 117, 105, 108, 100, 101, 114, 46, 71, 114, 111, 119, 58, 32, 110, 101, 103, 97, 116, 105, 118, 101, 32, 99, 111, 117, 110, 116])))) ds h (fun v0 ds h =>
  kO none ds h (fun v1 ds h =>
  K .norm tm ds h))
noncomputable def r67_3 : CodeT := fun call _ tm ds h0 K =>
  (fun (b0 : Nat) (h : H) =>
  kO (nilChk (tg tm 0)) ds h (fun v1 ds h =>
  kO (fieldPtr 1 v1) ds h (fun v2 ds h =>
  kO (loadOne h v2) ds h (fun v3 ds h =>
  kO (capV v3) ds h (fun v4 ds h =>
  kO (nilChk (tg tm 0)) ds h (fun v6 ds h =>
  kO (fieldPtr 1 v6) ds h (fun v7 ds h =>
  kO (loadOne h v7) ds h (fun v8 ds h =>
  kO (lenSl v8) ds h (fun v9 ds h =>
  kO (binV Tryd.prog .sub 3 false v4 v9) ds h (fun v10 ds h =>
  kO (binV Tryd.prog .lss 3 false v10 (tg tm 1)) ds h (fun v12 ds h =>
  K .norm (T.set tm 21 v12) ds h))))))))))) h0.next ⟨h0.objs, h0.next + 13⟩
noncomputable def r67_4 : CodeT := fun call _ tm ds h K =>
  call 79 [(tg tm 0), (tg tm 1)] h (fun v h => (fun v2 ds h =>
  K .norm tm ds h) v ds h)
noncomputable def c67 : Box CodeT := ⟨seqC ⟨r67_0⟩ ⟨seqC ⟨seqC ⟨r67_1⟩ ⟨condC ⟨fun _ tm => tg tm 7⟩ ⟨r67_2⟩ skipC⟩⟩ ⟨seqC ⟨r67_3⟩ ⟨condC ⟨fun _ tm => tg tm 21⟩ ⟨r67_4⟩ skipC⟩⟩⟩⟩
noncomputable def q67 : Box (T Value → H → Option (List Value)) := ⟨fun tm h => some []⟩

/-! 68 strconv.FormatUint -/
noncomputable def r68_0 : CodeT := fun call _ tm ds h K =>
  K .norm (T.set tm 4 (.string (strB []))) ds h
noncomputable def r68_1 : CodeT := fun call _ tm ds h K =>
  call 80 [(tg tm 0), (tg tm 1)] h (fun v h => (fun v2 ds h =>
  K .norm (T.set tm 4 v2) ds h) v ds h)
noncomputable def c68 : Box CodeT := ⟨seqC ⟨r68_0⟩ ⟨seqC ⟨r68_1⟩ retC⟩⟩
noncomputable def q68 : Box (T Value → H → Option (List Value)) := ⟨fun tm h => some [tg tm 4]⟩

/-! 69 cloakroom/cloakroomref09.Moment -/
noncomputable def r69_0 : CodeT := fun call _ tm ds h K =>
  K .norm (T.set tm 2 (.bool false)) ds h
noncomputable def r69_1 : CodeT := fun call _ tm ds h K =>
  kO (binV Tryd.prog .geq 3 true (tg tm 0) (.int .i64 (0))) ds h (fun v1 ds h =>
  gd (isB true v1) (fun k => kO (some (tg tm 0)) ds h (k)) ds h (fun v3 ds h =>
  gd (isB true v1) (fun k => kO (binV Tryd.prog .leq 3 true v3 (.int .i64 (1099511627776))) ds h (k)) ds h (fun v4 ds h =>
  kO (pickV v1 v4 (.bool false)) ds h (fun v5 ds h =>
  K .norm (T.set tm 2 v5) ds h))))
noncomputable def c69 : Box CodeT := ⟨seqC ⟨r69_0⟩ ⟨seqC ⟨r69_1⟩ retC⟩⟩
noncomputable def q69 : Box (T Value → H → Option (List Value)) := ⟨fun tm h => some [tg tm 2]⟩

/-! 70 cloakroom/item.moment -/
noncomputable def r70_0 : CodeT := fun call _ tm ds h K =>
  K .norm (T.set tm 2 (.bool false)) ds h
noncomputable def r70_1 : CodeT := fun call _ tm ds h K =>
  kO (binV Tryd.prog .geq 3 true (tg tm 0) (.int .i64 (0))) ds h (fun v1 ds h =>
  gd (isB true v1) (fun k => kO (some (tg tm 0)) ds h (k)) ds h (fun v3 ds h =>
  gd (isB true v1) (fun k => kO (binV Tryd.prog .leq 3 true v3 (.int .i64 (1099511627776))) ds h (k)) ds h (fun v4 ds h =>
  kO (pickV v1 v4 (.bool false)) ds h (fun v5 ds h =>
  K .norm (T.set tm 2 v5) ds h))))
noncomputable def c70 : Box CodeT := ⟨seqC ⟨r70_0⟩ ⟨seqC ⟨r70_1⟩ retC⟩⟩
noncomputable def q70 : Box (T Value → H → Option (List Value)) := ⟨fun tm h => some [tg tm 2]⟩

/-! 79 (*strings.Builder).grow -/
noncomputable def r79_0 : CodeT := fun call _ tm ds h0 K =>
  (fun (b0 : Nat) (h : H) =>
  kO (nilChk (tg tm 0)) ds h (fun v1 ds h =>
  kO (fieldPtr 1 v1) ds h (fun v2 ds h =>
  kO (loadOne h v2) ds h (fun v3 ds h =>
  kO (capV v3) ds h (fun v4 ds h =>
  kO (binV Tryd.prog .mul 3 true (.int .i64 (2)) v4) ds h (fun v5 ds h =>
  kO (binV Tryd.prog .add 3 false v5 (tg tm 1)) ds h (fun v7 ds h =>
  kO (nilChk (tg tm 0)) ds h (fun v10 ds h =>
  kO (fieldPtr 1 v10) ds h (fun v11 ds h =>
  kO (loadOne h v11) ds h (fun v12 ds h =>
  kO (lenSl v12) ds h (fun v13 ds h =>
  call 86 [v7] h (fun v h => (fun v8 ds h =>
  andB ((hO (loadOne h v11) v12 true) && true) (kO (sliceSl 1 v8 none (some v13) none) ds h (fun v14 ds h =>
  K .norm (T.set tm 4 v14) ds h))) v ds h)))))))))))) h0.next ⟨h0.objs, h0.next + 16⟩
noncomputable def r79_1 : CodeT := fun call _ tm ds h K =>
  kO (nilChk (tg tm 0)) ds h (fun v2 ds h =>
  kO (fieldPtr 1 v2) ds h (fun v3 ds h =>
  kO (loadOne h v3) ds h (fun v4 ds h =>
  kH (copyV 1 h (tg tm 4) v4) ds (fun v5 ds h =>
  K .norm tm ds h))))
noncomputable def r79_2 : CodeT := fun call _ tm ds h K =>
  kO (nilChk (tg tm 0)) ds h (fun v2 ds h =>
  kO (fieldPtr 1 v2) ds h (fun v3 ds h =>
  kH (withV undef (storeV 1 h v3 (tg tm 4))) ds (fun v4 ds h =>
  K .norm tm ds h)))
noncomputable def c79 : Box CodeT := ⟨seqC ⟨r79_0⟩ ⟨seqC ⟨r79_1⟩ ⟨r79_2⟩⟩⟩
noncomputable def q79 : Box (T Value → H → Option (List Value)) := ⟨fun tm h => some []⟩

/-! 80 internal/strconv.FormatUint -/
noncomputable def r80_0 : CodeT := fun call _ tm ds h K =>
  K .norm (T.set tm 4 (.string (strB []))) ds h
noncomputable def r80_1 : CodeT := fun call _ tm ds h K =>
  kO (binV Tryd.prog .eql 3 true (tg tm 1) (.int .i64 (10))) ds h (fun v1 ds h =>
  K .norm (T.set tm 10 v1) ds h)
noncomputable def r80_2 : CodeT := fun call _ tm ds h K =>
  kO (binV Tryd.prog .lss 23 true (tg tm 0) (.int .u64 (100))) ds h (fun v1 ds h =>
  K .norm (T.set tm 12 v1) ds h)
noncomputable def r80_3 : CodeT := fun call _ tm ds h K =>
  kO (toInt .i64 (tg tm 0)) ds h (fun v1 ds h =>
  call 87 [v1] h (fun v h => (fun v2 ds h =>
  K .norm (T.set tm 4 v2) ds h) v ds h))
noncomputable def r80_4 : CodeT := fun call _ tm ds h K =>
  kA (some (.rw [(.int .u8 (0)), (.int .u8 (0)), (.int .u8 (0)), (.int .u8 (0)), (.int .u8 (0)), (.int .u8 (0)), (.int .u8 (0)), (.int .u8 (0)), (.int .u8 (0)), (.int .u8 (0)), (.int .u8 (0)), (.int .u8 (0)), (.int .u8 (0)), (.int .u8 (0)), (.int .u8 (0)), (.int .u8 (0)), (.int .u8 (0)), (.int .u8 (0)), (.int .u8 (0)), (.int .u8 (0)), (.int .u8 (0)), (.int .u8 (0)), (.int .u8 (0)), (.int .u8 (0))] (some 120), ptrTo h.next)) ds h (fun v0 ds h =>
  K .norm (T.set tm 5 v0) ds h)
noncomputable def r80_5 : CodeT := fun call _ tm ds h K =>
  call 88 [(tg tm 0)] h (fun v h => (fun v1 ds h =>
  K .norm (T.set tm 6 v1) ds h) v ds h)
noncomputable def r80_6 : CodeT := fun call _ tm ds h K =>
  kO (sliceArr 1 24 (tg tm 5) none (some (tg tm 6)) none) ds h (fun v1 ds h =>
  call 89 [v1, (tg tm 0)] h (fun v h => (fun v3 ds h =>
  K .norm tm ds h) v ds h))
noncomputable def r80_7 : CodeT := fun call _ tm ds h K =>
  kO (sliceArr 1 24 (tg tm 5) none (some (tg tm 6)) none) ds h (fun v1 ds h =>
  kO (bytesStr h v1) ds h (fun v2 ds h =>
  K .norm (T.set tm 4 v2) ds h))
noncomputable def r80_8 : CodeT := fun call _ tm ds h K =>
  call 90 [(.slice none 0 0), (tg tm 0), (tg tm 1), (.bool false), (.bool false)] h (fun v h => (fun v2 ds h =>
  kO (tupNth 0 v2) ds h (fun v4 ds h =>
  kO (tupNth 1 v2) ds h (fun v5 ds h =>
  K .norm (T.set tm 8 v5) ds h))) v ds h)
noncomputable def r80_9 : CodeT := fun call _ tm ds h K =>
  K .norm (T.set tm 4 (tg tm 8)) ds h
noncomputable def c80 : Box CodeT := ⟨seqC ⟨r80_0⟩ ⟨seqC ⟨seqC ⟨r80_1⟩ ⟨condC ⟨fun _ tm => tg tm 10⟩ ⟨seqC ⟨seqC ⟨r80_2⟩ ⟨condC ⟨fun _ tm => tg tm 12⟩ ⟨seqC ⟨r80_3⟩ retC⟩ skipC⟩⟩ ⟨seqC ⟨r80_4⟩ ⟨seqC ⟨r80_5⟩ ⟨seqC ⟨r80_6⟩ ⟨seqC ⟨r80_7⟩ retC⟩⟩⟩⟩⟩ skipC⟩⟩ ⟨seqC ⟨r80_8⟩ ⟨seqC ⟨r80_9⟩ retC⟩⟩⟩⟩
noncomputable def q80 : Box (T Value → H → Option (List Value)) := ⟨fun tm h => some [tg tm 4]⟩

/-! 87 internal/strconv.small -/
noncomputable def r87_0 : CodeT := fun call _ tm ds h K =>
  K .norm (T.set tm 2 (.string (strB []))) ds h
noncomputable def r87_1 : CodeT := fun call _ tm ds h K =>
  kO (binV Tryd.prog .lss 3 true (tg tm 0) (.int .i64 (10))) ds h (fun v1 ds h =>
  K .norm (T.set tm 4 v1) ds h)
noncomputable def r87_2 : CodeT := fun call _ tm ds h K =>
  kO (binV Tryd.prog .add 3 true (tg tm 0) (.int .i64 (1))) ds h (fun v2 ds h =>
  kO (sliceStr (.string (strB [48, 49, 50, 51, 52, 53, 54, 55, 56, 57, 97, 98, 99, 100, 101, 102, 103, 104, 105, 106, 107, 108, 109, 110, 111, 112, 113, 114, 115, 116, 117, 118, 119, 120, 121, 122])) (some (tg tm 0)) (some v2) none) ds h (fun v3 ds h =>
  K .norm (T.set tm 2 v3) ds h))
noncomputable def r87_3 : CodeT := fun call _ tm ds h K =>
  kO (binV Tryd.prog .mul 3 true (tg tm 0) (.int .i64 (2))) ds h (fun v1 ds h =>
  kO (binV Tryd.prog .mul 3 true (tg tm 0) (.int .i64 (2))) ds h (fun v3 ds h =>
  kO (binV Tryd.prog .add 3 true v3 (.int .i64 (2))) ds h (fun v4 ds h =>
  kO (sliceStr SM (some v1) (some v4) none) ds h (fun v5 ds h =>
  K .norm (T.set tm 2 v5) ds h))))
noncomputable def c87 : Box CodeT := ⟨seqC ⟨r87_0⟩ ⟨seqC ⟨seqC ⟨r87_1⟩ ⟨condC ⟨fun _ tm => tg tm 4⟩ ⟨seqC ⟨r87_2⟩ retC⟩ skipC⟩⟩ ⟨seqC ⟨r87_3⟩ retC⟩⟩⟩
noncomputable def q87 : Box (T Value → H → Option (List Value)) := ⟨fun tm h => some [tg tm 2]⟩

/-! 88 internal/strconv.numDigits -/
noncomputable def r88_0 : CodeT := fun call _ tm ds h K =>
  K .norm (T.set tm 2 (.int .i64 (0))) ds h
noncomputable def r88_1 : CodeT := fun call _ tm ds h K =>
  call 98 [(tg tm 0)] h (fun v h => (fun v1 ds h =>
  call 97 [v1] h (fun v h => (fun v2 ds h =>
  K .norm (T.set tm 3 v2) ds h) v ds h)) v ds h)
noncomputable def r88_2 : CodeT := fun call _ tm ds h K =>
  kO (indexArr 1 20 (.pointer (some ⟨1, 0, none⟩)) (tg tm 3)) ds h (fun v3 ds h =>
  kO (loadOne h v3) ds h (fun v4 ds h =>
  kO (binV Tryd.prog .geq 23 false (tg tm 0) v4) ds h (fun v5 ds h =>
  call 99 [v5] h (fun v h => (fun v6 ds h =>
  kO (binV Tryd.prog .add 3 false (tg tm 3) v6) ds h (fun v7 ds h =>
  K .norm (T.set tm 2 v7) ds h)) v ds h))))
noncomputable def c88 : Box CodeT := ⟨seqC ⟨r88_0⟩ ⟨seqC ⟨r88_1⟩ ⟨seqC ⟨r88_2⟩ retC⟩⟩⟩
noncomputable def q88 : Box (T Value → H → Option (List Value)) := ⟨fun tm h => some [tg tm 2]⟩

/-! 89 internal/strconv.formatBase10 -/
noncomputable def r89_0 : CodeT := fun call _ tm ds h K =>
  kO (lenSl (tg tm 0)) ds h (fun v1 ds h =>
  K .norm (T.set tm 4 v1) ds h)
noncomputable def r89_1 : CodeT := fun call _ tm ds h K =>
  kO (binV Tryd.prog .geq 3 true (tg tm 4) (.int .i64 (8))) ds h (fun v1 ds h =>
  K .norm (T.set tm 20 v1) ds h)
noncomputable def r89_2 : CodeT := fun call _ tm ds h K =>
  kO (binV Tryd.prog .rem 23 true (tg tm 1) (.int .u64 (100000000))) ds h (fun v1 ds h =>
  kO (toInt .u32 v1) ds h (fun v2 ds h =>
  K .norm (T.set tm 5 v2) ds h))
noncomputable def r89_3 : CodeT := fun call _ tm ds h K =>
  kO (binV Tryd.prog .quo 23 true (tg tm 1) (.int .u64 (100000000))) ds h (fun v1 ds h =>
  K .norm (T.set tm 1 v1) ds h)
noncomputable def r89_4 : CodeT := fun call _ tm ds h K =>
  kO (binV Tryd.prog .quo 46 true (tg tm 5) (.int .u32 (10000))) ds h (fun v1 ds h =>
  kO (binV Tryd.prog .rem 46 true (tg tm 5) (.int .u32 (10000))) ds h (fun v3 ds h =>
  K .norm (T.set (T.set tm 6 v1) 7 v3) ds h))
noncomputable def r89_5 : CodeT := fun call _ tm ds h K =>
  kO (binV Tryd.prog .quo 46 true (tg tm 7) (.int .u32 (100))) ds h (fun v1 ds h =>
  kO (binV Tryd.prog .mul 46 true v1 (.int .u32 (2))) ds h (fun v2 ds h =>
  kO (binV Tryd.prog .rem 46 true (tg tm 7) (.int .u32 (100))) ds h (fun v4 ds h =>
  kO (binV Tryd.prog .mul 46 true v4 (.int .u32 (2))) ds h (fun v5 ds h =>
  K .norm (T.set (T.set tm 8 v2) 9 v5) ds h))))
noncomputable def r89_6 : CodeT := fun call _ tm ds h K =>
  kO (binV Tryd.prog .quo 46 true (tg tm 6) (.int .u32 (100))) ds h (fun v1 ds h =>
  kO (binV Tryd.prog .mul 46 true v1 (.int .u32 (2))) ds h (fun v2 ds h =>
  kO (binV Tryd.prog .rem 46 true (tg tm 6) (.int .u32 (100))) ds h (fun v4 ds h =>
  kO (binV Tryd.prog .mul 46 true v4 (.int .u32 (2))) ds h (fun v5 ds h =>
  K .norm (T.set (T.set tm 10 v2) 11 v5) ds h))))
noncomputable def r89_7 : CodeT := fun call _ tm ds h0 K =>
  (fun (b0 : Nat) (h : H) =>
  kO (binV Tryd.prog .sub 3 true (tg tm 4) (.int .i64 (1))) ds h (fun v2 ds h =>
  kO (binV Tryd.prog .sub 3 true (tg tm 4) (.int .i64 (2))) ds h (fun v5 ds h =>
  kO (binV Tryd.prog .add 46 true (tg tm 9) (.int .u32 (1))) ds h (fun v7 ds h =>
  kO (indexStr SM v7) ds h (fun v8 ds h =>
  kO (indexStr SM (tg tm 9)) ds h (fun v10 ds h =>
  kO (indexSl 1 (tg tm 0) v2) ds h (fun v11 ds h =>
  kH (withV undef (storeV 1 h v11 v8)) ds (fun v12 ds h =>
  kO (indexSl 1 (tg tm 0) v5) ds h (fun v13 ds h =>
  kH (withV undef (storeV 1 h v13 v10)) ds (fun v14 ds h =>
  K .norm tm ds h)))))))))) h0.next ⟨h0.objs, h0.next + 15⟩
noncomputable def r89_8 : CodeT := fun call _ tm ds h0 K =>
  (fun (b0 : Nat) (h : H) =>
  kO (binV Tryd.prog .sub 3 true (tg tm 4) (.int .i64 (3))) ds h (fun v2 ds h =>
  kO (binV Tryd.prog .sub 3 true (tg tm 4) (.int .i64 (4))) ds h (fun v5 ds h =>
  kO (binV Tryd.prog .add 46 true (tg tm 8) (.int .u32 (1))) ds h (fun v7 ds h =>
  kO (indexStr SM v7) ds h (fun v8 ds h =>
  kO (indexStr SM (tg tm 8)) ds h (fun v10 ds h =>
  kO (indexSl 1 (tg tm 0) v2) ds h (fun v11 ds h =>
  kH (withV undef (storeV 1 h v11 v8)) ds (fun v12 ds h =>
  kO (indexSl 1 (tg tm 0) v5) ds h (fun v13 ds h =>
  kH (withV undef (storeV 1 h v13 v10)) ds (fun v14 ds h =>
  K .norm tm ds h)))))))))) h0.next ⟨h0.objs, h0.next + 15⟩
noncomputable def r89_9 : CodeT := fun call _ tm ds h0 K =>
  (fun (b0 : Nat) (h : H) =>
  kO (binV Tryd.prog .sub 3 true (tg tm 4) (.int .i64 (5))) ds h (fun v2 ds h =>
  kO (binV Tryd.prog .sub 3 true (tg tm 4) (.int .i64 (6))) ds h (fun v5 ds h =>
  kO (binV Tryd.prog .add 46 true (tg tm 11) (.int .u32 (1))) ds h (fun v7 ds h =>
  kO (indexStr SM v7) ds h (fun v8 ds h =>
  kO (indexStr SM (tg tm 11)) ds h (fun v10 ds h =>
  kO (indexSl 1 (tg tm 0) v2) ds h (fun v11 ds h =>
  kH (withV undef (storeV 1 h v11 v8)) ds (fun v12 ds h =>
  kO (indexSl 1 (tg tm 0) v5) ds h (fun v13 ds h =>
  kH (withV undef (storeV 1 h v13 v10)) ds (fun v14 ds h =>
  K .norm tm ds h)))))))))) h0.next ⟨h0.objs, h0.next + 15⟩
noncomputable def r89_10 : CodeT := fun call _ tm ds h0 K =>
  (fun (b0 : Nat) (h : H) =>
  kO (binV Tryd.prog .sub 3 true (tg tm 4) (.int .i64 (7))) ds h (fun v2 ds h =>
  kO (binV Tryd.prog .sub 3 true (tg tm 4) (.int .i64 (8))) ds h (fun v5 ds h =>
  kO (binV Tryd.prog .add 46 true (tg tm 10) (.int .u32 (1))) ds h (fun v7 ds h =>
  kO (indexStr SM v7) ds h (fun v8 ds h =>
  kO (indexStr SM (tg tm 10)) ds h (fun v10 ds h =>
  kO (indexSl 1 (tg tm 0) v2) ds h (fun v11 ds h =>
  kH (withV undef (storeV 1 h v11 v8)) ds (fun v12 ds h =>
  kO (indexSl 1 (tg tm 0) v5) ds h (fun v13 ds h =>
  kH (withV undef (storeV 1 h v13 v10)) ds (fun v14 ds h =>
  K .norm tm ds h)))))))))) h0.next ⟨h0.objs, h0.next + 15⟩
noncomputable def r89_11 : CodeT := fun call _ tm ds h K =>
  kO (binV Tryd.prog .sub 3 true (tg tm 4) (.int .i64 (8))) ds h (fun v1 ds h =>
  K .norm (T.set tm 4 v1) ds h)
noncomputable def l89_12 : Box CodeT := ⟨seqC ⟨seqC ⟨r89_1⟩ ⟨condC ⟨fun _ tm => tg tm 20⟩ skipC (exitC 0)⟩⟩ ⟨blockC 1 ⟨seqC ⟨r89_2⟩ ⟨seqC ⟨r89_3⟩ ⟨seqC ⟨r89_4⟩ ⟨seqC ⟨r89_5⟩ ⟨seqC ⟨r89_6⟩ ⟨seqC ⟨r89_7⟩ ⟨seqC ⟨r89_8⟩ ⟨seqC ⟨r89_9⟩ ⟨seqC ⟨r89_10⟩ ⟨r89_11⟩⟩⟩⟩⟩⟩⟩⟩⟩⟩⟩⟩
noncomputable def r89_12 : CodeT := fun call _ tm ds h K =>
  kO (toInt .u32 (tg tm 1)) ds h (fun v1 ds h =>
  K .norm (T.set tm 12 v1) ds h)
noncomputable def r89_13 : CodeT := fun call _ tm ds h K =>
  kO (binV Tryd.prog .geq 3 true (tg tm 4) (.int .i64 (4))) ds h (fun v1 ds h =>
  K .norm (T.set tm 99 v1) ds h)
noncomputable def r89_14 : CodeT := fun call _ tm ds h K =>
  kO (binV Tryd.prog .rem 46 true (tg tm 12) (.int .u32 (10000))) ds h (fun v1 ds h =>
  K .norm (T.set tm 13 v1) ds h)
noncomputable def r89_15 : CodeT := fun call _ tm ds h K =>
  kO (binV Tryd.prog .quo 46 true (tg tm 12) (.int .u32 (10000))) ds h (fun v1 ds h =>
  K .norm (T.set tm 12 v1) ds h)
noncomputable def r89_16 : CodeT := fun call _ tm ds h K =>
  kO (binV Tryd.prog .quo 46 true (tg tm 13) (.int .u32 (100))) ds h (fun v1 ds h =>
  kO (binV Tryd.prog .mul 46 true v1 (.int .u32 (2))) ds h (fun v2 ds h =>
  kO (binV Tryd.prog .rem 46 true (tg tm 13) (.int .u32 (100))) ds h (fun v4 ds h =>
  kO (binV Tryd.prog .mul 46 true v4 (.int .u32 (2))) ds h (fun v5 ds h =>
  K .norm (T.set (T.set tm 14 v2) 15 v5) ds h))))
noncomputable def r89_17 : CodeT := fun call _ tm ds h0 K =>
  (fun (b0 : Nat) (h : H) =>
  kO (binV Tryd.prog .sub 3 true (tg tm 4) (.int .i64 (1))) ds h (fun v2 ds h =>
  kO (binV Tryd.prog .sub 3 true (tg tm 4) (.int .i64 (2))) ds h (fun v5 ds h =>
  kO (binV Tryd.prog .add 46 true (tg tm 15) (.int .u32 (1))) ds h (fun v7 ds h =>
  kO (indexStr SM v7) ds h (fun v8 ds h =>
  kO (indexStr SM (tg tm 15)) ds h (fun v10 ds h =>
  kO (indexSl 1 (tg tm 0) v2) ds h (fun v11 ds h =>
  kH (withV undef (storeV 1 h v11 v8)) ds (fun v12 ds h =>
  kO (indexSl 1 (tg tm 0) v5) ds h (fun v13 ds h =>
  kH (withV undef (storeV 1 h v13 v10)) ds (fun v14 ds h =>
  K .norm tm ds h)))))))))) h0.next ⟨h0.objs, h0.next + 15⟩
noncomputable def r89_18 : CodeT := fun call _ tm ds h0 K =>
  (fun (b0 : Nat) (h : H) =>
  kO (binV Tryd.prog .sub 3 true (tg tm 4) (.int .i64 (3))) ds h (fun v2 ds h =>
  kO (binV Tryd.prog .sub 3 true (tg tm 4) (.int .i64 (4))) ds h (fun v5 ds h =>
  kO (binV Tryd.prog .add 46 true (tg tm 14) (.int .u32 (1))) ds h (fun v7 ds h =>
  kO (indexStr SM v7) ds h (fun v8 ds h =>
  kO (indexStr SM (tg tm 14)) ds h (fun v10 ds h =>
  kO (indexSl 1 (tg tm 0) v2) ds h (fun v11 ds h =>
  kH (withV undef (storeV 1 h v11 v8)) ds (fun v12 ds h =>
  kO (indexSl 1 (tg tm 0) v5) ds h (fun v13 ds h =>
  kH (withV undef (storeV 1 h v13 v10)) ds (fun v14 ds h =>
  K .norm tm ds h)))))))))) h0.next ⟨h0.objs, h0.next + 15⟩
noncomputable def r89_19 : CodeT := fun call _ tm ds h K =>
  kO (binV Tryd.prog .sub 3 true (tg tm 4) (.int .i64 (4))) ds h (fun v1 ds h =>
  K .norm (T.set tm 4 v1) ds h)
noncomputable def r89_20 : CodeT := fun call _ tm ds h K =>
  kO (binV Tryd.prog .geq 3 true (tg tm 4) (.int .i64 (2))) ds h (fun v1 ds h =>
  K .norm (T.set tm 139 v1) ds h)
noncomputable def r89_21 : CodeT := fun call _ tm ds h K =>
  kO (binV Tryd.prog .rem 46 true (tg tm 12) (.int .u32 (100))) ds h (fun v1 ds h =>
  kO (binV Tryd.prog .mul 46 true v1 (.int .u32 (2))) ds h (fun v2 ds h =>
  K .norm (T.set tm 16 v2) ds h))
noncomputable def r89_22 : CodeT := fun call _ tm ds h K =>
  kO (binV Tryd.prog .quo 46 true (tg tm 12) (.int .u32 (100))) ds h (fun v1 ds h =>
  K .norm (T.set tm 12 v1) ds h)
noncomputable def r89_23 : CodeT := fun call _ tm ds h0 K =>
  (fun (b0 : Nat) (h : H) =>
  kO (binV Tryd.prog .sub 3 true (tg tm 4) (.int .i64 (1))) ds h (fun v2 ds h =>
  kO (binV Tryd.prog .sub 3 true (tg tm 4) (.int .i64 (2))) ds h (fun v5 ds h =>
  kO (binV Tryd.prog .add 46 true (tg tm 16) (.int .u32 (1))) ds h (fun v7 ds h =>
  kO (indexStr SM v7) ds h (fun v8 ds h =>
  kO (indexStr SM (tg tm 16)) ds h (fun v10 ds h =>
  kO (indexSl 1 (tg tm 0) v2) ds h (fun v11 ds h =>
  kH (withV undef (storeV 1 h v11 v8)) ds (fun v12 ds h =>
  kO (indexSl 1 (tg tm 0) v5) ds h (fun v13 ds h =>
  kH (withV undef (storeV 1 h v13 v10)) ds (fun v14 ds h =>
  K .norm tm ds h)))))))))) h0.next ⟨h0.objs, h0.next + 15⟩
noncomputable def r89_24 : CodeT := fun call _ tm ds h K =>
  kO (binV Tryd.prog .sub 3 true (tg tm 4) (.int .i64 (2))) ds h (fun v1 ds h =>
  K .norm (T.set tm 4 v1) ds h)
noncomputable def r89_25 : CodeT := fun call _ tm ds h K =>
  kO (binV Tryd.prog .gtr 3 true (tg tm 4) (.int .i64 (0))) ds h (fun v1 ds h =>
  K .norm (T.set tm 161 v1) ds h)
noncomputable def r89_26 : CodeT := fun call _ tm ds h K =>
  kO (binV Tryd.prog .add 46 true (.int .u32 (48)) (tg tm 12)) ds h (fun v2 ds h =>
  kO (toInt .u8 v2) ds h (fun v3 ds h =>
  kO (indexSl 1 (tg tm 0) (.int .i64 (0))) ds h (fun v4 ds h =>
  kH (withV undef (storeV 1 h v4 v3)) ds (fun v5 ds h =>
  K .norm tm ds h))))
noncomputable def c89 : Box CodeT := ⟨seqC ⟨r89_0⟩ ⟨seqC ⟨blockC 0 (loopB l89_12)⟩ ⟨seqC ⟨r89_12⟩ ⟨seqC ⟨seqC ⟨r89_13⟩ ⟨condC ⟨fun _ tm => tg tm 99⟩ ⟨seqC ⟨r89_14⟩ ⟨seqC ⟨r89_15⟩ ⟨seqC ⟨r89_16⟩ ⟨seqC ⟨r89_17⟩ ⟨seqC ⟨r89_18⟩ ⟨r89_19⟩⟩⟩⟩⟩⟩ skipC⟩⟩ ⟨seqC ⟨seqC ⟨r89_20⟩ ⟨condC ⟨fun _ tm => tg tm 139⟩ ⟨seqC ⟨r89_21⟩ ⟨seqC ⟨r89_22⟩ ⟨seqC ⟨r89_23⟩ ⟨r89_24⟩⟩⟩⟩ skipC⟩⟩ ⟨seqC ⟨r89_25⟩ ⟨condC ⟨fun _ tm => tg tm 161⟩ ⟨r89_26⟩ skipC⟩⟩⟩⟩⟩⟩⟩
noncomputable def q89 : Box (T Value → H → Option (List Value)) := ⟨fun tm h => some []⟩

/-! 90 internal/strconv.formatBits -/
/-! 97 internal/strconv.log10Pow2 -/
noncomputable def r97_0 : CodeT := fun call _ tm ds h K =>
  K .norm (T.set tm 2 (.int .i64 (0))) ds h
noncomputable def r97_1 : CodeT := fun call _ tm ds h K =>
  kO (binV Tryd.prog .mul 3 true (tg tm 0) (.int .i64 (78913))) ds h (fun v1 ds h =>
  kO (binV Tryd.prog .shr 3 true v1 (.int .u64 (18))) ds h (fun v2 ds h =>
  K .norm (T.set tm 2 v2) ds h))
noncomputable def c97 : Box CodeT := ⟨seqC ⟨r97_0⟩ ⟨seqC ⟨r97_1⟩ retC⟩⟩
noncomputable def q97 : Box (T Value → H → Option (List Value)) := ⟨fun tm h => some [tg tm 2]⟩

/-! 98 math/bits.Len64 -/
noncomputable def r98_0 : CodeT := fun call _ tm ds h K =>
  K .norm (T.set tm 2 (.int .i64 (0))) ds h
noncomputable def r98_1 : CodeT := fun call _ tm ds h K =>
  kO (binV Tryd.prog .geq 23 true (tg tm 0) (.int .u64 (4294967296))) ds h (fun v1 ds h =>
  K .norm (T.set tm 4 v1) ds h)
noncomputable def r98_2 : CodeT := fun call _ tm ds h K =>
  kO (binV Tryd.prog .shr 23 true (tg tm 0) (.int .u64 (32))) ds h (fun v1 ds h =>
  K .norm (T.set tm 0 v1) ds h)
noncomputable def r98_3 : CodeT := fun call _ tm ds h K =>
  K .norm (T.set tm 2 (.int .i64 (32))) ds h
noncomputable def r98_4 : CodeT := fun call _ tm ds h K =>
  kO (binV Tryd.prog .geq 23 true (tg tm 0) (.int .u64 (65536))) ds h (fun v1 ds h =>
  K .norm (T.set tm 8 v1) ds h)
noncomputable def r98_5 : CodeT := fun call _ tm ds h K =>
  kO (binV Tryd.prog .shr 23 true (tg tm 0) (.int .u64 (16))) ds h (fun v1 ds h =>
  K .norm (T.set tm 0 v1) ds h)
noncomputable def r98_6 : CodeT := fun call _ tm ds h K =>
  kO (binV Tryd.prog .add 3 true (tg tm 2) (.int .i64 (16))) ds h (fun v1 ds h =>
  K .norm (T.set tm 2 v1) ds h)
noncomputable def r98_7 : CodeT := fun call _ tm ds h K =>
  kO (binV Tryd.prog .geq 23 true (tg tm 0) (.int .u64 (256))) ds h (fun v1 ds h =>
  K .norm (T.set tm 14 v1) ds h)
noncomputable def r98_8 : CodeT := fun call _ tm ds h K =>
  kO (binV Tryd.prog .shr 23 true (tg tm 0) (.int .u64 (8))) ds h (fun v1 ds h =>
  K .norm (T.set tm 0 v1) ds h)
noncomputable def r98_9 : CodeT := fun call _ tm ds h K =>
  kO (binV Tryd.prog .add 3 true (tg tm 2) (.int .i64 (8))) ds h (fun v1 ds h =>
  K .norm (T.set tm 2 v1) ds h)
noncomputable def r98_10 : CodeT := fun call _ tm ds h K =>
  kO (toInt .u8 (tg tm 0)) ds h (fun v2 ds h =>
  kO (indexStr (.string (strB [0, 1, 2, 2, 3, 3, 3, 3, 4, 4, 4, 4, 4, 4, 4, 4, 5, 5, 5, 5, 5, 5, 5, 5, 5, 5, 5, 5, 5, 5, 5, 5, 6, 6, 6, 6, 6, 6, 6, 6, 6, 6, 6, 6, 6, 6, 6, 6, 6, 6, 6, 6, 6, 6, 6, 6, 6, 6, 6, 6, 6, 6, 6, 6, 7, 7, 7, 7, 7, 7, 7, 7, 7, 7, 7, 7, 7, 7, 7, 7, 7, 7, 7, 7, 7, 7, 7, 7, 7, 7, 7, 7, 7, 7, 7, 7, 7, 7, 7, 7, 7, 7, 7, 7, 7, 7, 7, 7, 7, 7, 7, 7, 7, 7, 7, 7, 7, 7, 7, 7, 7, 7, 7, 7, 7, 7, 7, 7, 8, 8, 8, 8, 8, 8, 8, 8, 8, 8, 8, 8, 8, 8, 8, 8, 8, 8, 8, 8, 8, 8, 8, 8, 8, 8, 8, 8, 8, 8, 8, 8, 8, 8, 8, 8, 8, 8, 8, 8, 8, 8, 8, 8, 8, 8, 8, 8, 8, 8, 8, 8, 8, 8, 8, 8, 8, 8, 8, 8, 8, 8, 8, 8, 8, 8, 8, 8, 8, 8, 8, 8, 8, 8, 8, 8, 8, 8, 8, 8, 8, 8, 8, 8, 8, 8, 8, 8, 8, 8, 8, 8, 8, 8, 8, 8, 8, 8, 8, 8, 8, 8, 8, 8, 8, 8, 8, 8, 8, 8, 8, 8, 8, 8, 8, 8, 8, 8, 8, 8, 8, 8, 8, 8, 8, 8, 8, 8])) v2) ds h (fun v3 ds h =>
  kO (toInt .i64 v3) ds h (fun v4 ds h =>
  kO (binV Tryd.prog .add 3 false (tg tm 2) v4) ds h (fun v5 ds h =>
  K .norm (T.set tm 2 v5) ds h))))
noncomputable def c98 : Box CodeT := ⟨seqC ⟨r98_0⟩ ⟨seqC ⟨seqC ⟨r98_1⟩ ⟨condC ⟨fun _ tm => tg tm 4⟩ ⟨seqC ⟨r98_2⟩ ⟨r98_3⟩⟩ skipC⟩⟩ ⟨seqC ⟨seqC ⟨r98_4⟩ ⟨condC ⟨fun _ tm => tg tm 8⟩ ⟨seqC ⟨r98_5⟩ ⟨r98_6⟩⟩ skipC⟩⟩ ⟨seqC ⟨seqC ⟨r98_7⟩ ⟨condC ⟨fun _ tm => tg tm 14⟩ ⟨seqC ⟨r98_8⟩ ⟨r98_9⟩⟩ skipC⟩⟩ ⟨seqC ⟨r98_10⟩ retC⟩⟩⟩⟩⟩
noncomputable def q98 : Box (T Value → H → Option (List Value)) := ⟨fun tm h => some [tg tm 2]⟩

/-! 99 internal/strconv.bool2[int] -/
noncomputable def r99_0 : CodeT := fun call _ tm ds h K =>
  K .norm (T.set tm 2 (.int .i64 (0))) ds h
noncomputable def r99_1 : CodeT := fun call _ tm ds h K =>
  K .norm (T.set tm 3 (tg tm 0)) ds h
noncomputable def r99_2 : CodeT := fun call _ tm ds h K =>
  K .norm (T.set tm 2 (.int .i64 (1))) ds h
noncomputable def r99_3 : CodeT := fun call _ tm ds h K =>
  K .norm (T.set tm 2 (.int .i64 (0))) ds h
noncomputable def c99 : Box CodeT := ⟨seqC ⟨r99_0⟩ ⟨seqC ⟨seqC ⟨r99_1⟩ ⟨condC ⟨fun _ tm => tg tm 3⟩ ⟨seqC ⟨r99_2⟩ retC⟩ skipC⟩⟩ ⟨seqC ⟨r99_3⟩ retC⟩⟩⟩
noncomputable def q99 : Box (T Value → H → Option (List Value)) := ⟨fun tm h => some [tg tm 2]⟩

/-! 100 internal/strconv.isPowerOfTwo -/
end Go.Proofs.YthofbmfcpfibdaaDoor
