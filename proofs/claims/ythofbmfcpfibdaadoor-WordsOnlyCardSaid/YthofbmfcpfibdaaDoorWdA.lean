import Derived.Test.YthofbmfcpfibdaaDoorEvZ
import Derived.KernelRfl
import Derived.Test.YthofbmfcpfibdaaDoorRows
import Derived.WalkKit
import Derived.ProofKit
import Derived.OpenShut
import Derived.LaidMore
import Derived.SevenTiedAt
import Derived.Stop.LaidErr
import Derived.Shelf.Vars
set_option linter.unusedSimpArgs false
set_option linter.unusedVariables false
namespace Go.Proofs.YthofbmfcpfibdaaDoor
open Go.Ev
def masks : List Nat := [0, 0, 0, 383, 16781299, 1215, 4311752695, 4295231475, 4398047576079, 11840159755534911, 1074274335, 2417851639299627093598239, 39, 89204341923590176321209194183517581051822067, 1329230532324065960954913605489917939, 31, 15391, 7, 5, 19, 7, 1, 73245066595941551, 199, 11440979185133664387406296579253639856135340063, 5, 1237940039285381375490103743, 137440002619, 101218289428364493977104185500852357152742950873023135088627, 19, 4398046519293, 4951760161790361815218143219, 134221837, 268443645, 2097725, 2658628471356996554050030416712204275, 17594400636991, 3, 19, 5, 66483, 51, 138351151749653378483, 5, 1, 2290630771, 5, 5, 5, 4456455, 2097715, 13, 21, 13, 7, 65551, 19, 19, 0, 5, 19342813113979202331215859, 2267743825679, 243, 66483, 243, 531911, 524353, 2097283, 19, 5, 5, 0, 2214597117, 8796126839539, 16810611, 19, 8865785577709, 281749925920893, 0, 19, 5491, 85, 1037, 0, 702342826256273603086707106465568295829491, 263111, 0, 21, 13, 2923003971560093291123168138537876760321514930163, 20426010943356750102455122975, 316912838952437276284744179709, 19, 0, 151115727469970589747187, 749019592093908130998168547243562859198691857383367, 17247509535, 5, 16661, 13, 5, 5, 0, 1107300861, 5, 3259264009699125022261772349, 19, 19, 71, 71, 21, 21, 77, 5, 5, 5, 17188391667, 0, 0, 0, 0, 0, 0, 0, 0, 0, 0, 0, 0, 0, 0, 0, 0, 0, 0, 0, 0, 0, 0, 0, 0, 0, 0, 0, 0, 0, 0, 0]
def outside : List (Nat × XK) := [(58, .index 0), (71, .idxByte), (78, .same), (83, .count), (86, .noZero 5), (93, .index 0), (102, .idxByte)]
abbrev NG : Nat := 6
def SM : Value := (.string (strB [48, 48, 48, 49, 48, 50, 48, 51, 48, 52, 48, 53, 48, 54, 48, 55, 48, 56, 48, 57, 49, 48, 49, 49, 49, 50, 49, 51, 49, 52, 49, 53, 49, 54, 49, 55, 49, 56, 49, 57, 50, 48, 50, 49, 50, 50, 50, 51, 50, 52, 50, 53, 50, 54, 50, 55, 50, 56, 50, 57, 51, 48, 51, 49, 51, 50, 51, 51, 51, 52, 51, 53, 51, 54, 51, 55, 51, 56, 51, 57, 52, 48, 52, 49, 52, 50, 52, 51, 52, 52, 52, 53, 52, 54, 52, 55, 52, 56, 52, 57, 53, 48, 53, 49, 53, 50, 53, 51, 53, 52, 53, 53, 53, 54, 53, 55, 53, 56, 53, 57, 54, 48, 54, 49, 54, 50, 54, 51, 54, 52, 54, 53, 54, 54, 54, 55, 54, 56, 54, 57, 55, 48, 55, 49, 55, 50, 55, 51, 55, 52, 55, 53, 55, 54, 55, 55, 55, 56, 55, 57, 56, 48, 56, 49, 56, 50, 56, 51, 56, 52, 56, 53, 56, 54, 56, 55, 56, 56, 56, 57, 57, 48, 57, 49, 57, 50, 57, 51, 57, 52, 57, 53, 57, 54, 57, 55, 57, 56, 57, 57]))
/-! 3 cloakroom/cloakroomlaw15.WordsWrites -/
/-! 4 cloakroom/cloakroomlaw15.WordsReads -/
/-! 8 cloakroom/cloakroomref15.Long -/
/-! 9 cloakroom/words.Write -/
noncomputable def r9_0 : CodeT := fun call _ tm ds h K =>
  kA (some (.rw (Value.cells (tg tm 0)).toList (some 27), ptrTo h.next)) ds h (fun v0 ds h =>
  K .norm (T.set (T.set (T.set tm 1 v0) 2 (.slice none 0 0)) 3 (.int .i64 (0))) ds h)
noncomputable def r9_1 : CodeT := fun call _ tm ds h K =>
  kO (loadAgg 7 h (tg tm 1)) ds h (fun v0 ds h =>
  call 11 [v0] h (fun v h => (fun v1 ds h =>
  K .norm (T.set tm 4 v1) ds h) v ds h))
noncomputable def r9_2 : CodeT := fun call _ tm ds h K =>
  kO (binV Tryd.prog .neq 30 true (tg tm 4) (.int .i64 (0))) ds h (fun v1 ds h =>
  K .norm (T.set tm 9 v1) ds h)
noncomputable def r9_3 : CodeT := fun call _ tm ds h K =>
  K .norm (T.set (T.set tm 2 (.slice none 0 0)) 3 (tg tm 4)) ds h
noncomputable def r9_4 : CodeT := fun call _ tm ds h K => (⟨opStep ⟨fun call env tm ds h K => kO (fieldPtr 6 (tg tm 1)) ds h K⟩ ⟨fun v tm => tm⟩ ⟨fun env tm => true⟩
  ⟨opStep ⟨fun call env tm ds h K => kO (loadOne h (nthD 0 env)) ds h K⟩ ⟨fun v tm => tm⟩ ⟨fun env tm => true⟩
  ⟨opStep ⟨fun call env tm ds h K => call 18 [(nthD 0 env)] h (fun v h => (K) v ds h)⟩ ⟨fun v tm => tm⟩ ⟨fun env tm => true⟩
  ⟨opStep ⟨fun call env tm ds h K => kO (unV .not (nthD 0 env)) ds h K⟩ ⟨fun v tm => tm⟩ ⟨fun env tm => true⟩
  ⟨opStep ⟨fun call env tm ds h K => kO (some (nthD 0 env)) ds h K⟩ ⟨fun v tm => tm⟩ ⟨fun env tm => true⟩
  ⟨opStep ⟨fun call env tm ds h K => kO (fieldPtr 2 (tg tm 1)) ds h K⟩ ⟨fun v tm => tm⟩ ⟨fun env tm => isB false (nthD 0 env)⟩
  ⟨opStep ⟨fun call env tm ds h K => kO (fieldPtr 1 (nthD 0 env)) ds h K⟩ ⟨fun v tm => tm⟩ ⟨fun env tm => isB false (nthD 1 env)⟩
  ⟨opStep ⟨fun call env tm ds h K => kO (loadOne h (nthD 0 env)) ds h K⟩ ⟨fun v tm => tm⟩ ⟨fun env tm => isB false (nthD 2 env)⟩
  ⟨opStep ⟨fun call env tm ds h K => call 19 [(nthD 0 env), (.func (.func 20) #[] #[])] h (fun v h => (K) v ds h)⟩ ⟨fun v tm => tm⟩ ⟨fun env tm => isB false (nthD 3 env)⟩
  ⟨opStep ⟨fun call env tm ds h K => kO (pickV (nthD 4 env) (.bool true) (nthD 0 env)) ds h K⟩ ⟨fun v tm => (T.set tm 20 v)⟩ ⟨fun env tm => true⟩
  ⟨fun _ _ tm ds h K => K .norm tm ds h⟩⟩⟩⟩⟩⟩⟩⟩⟩⟩⟩ : Box OpsT).f call [] tm ds h K
noncomputable def r9_5 : CodeT := fun call _ tm ds h K =>
  K .norm (T.set (T.set tm 2 (.slice none 0 0)) 3 (.int .i64 (8))) ds h
noncomputable def r9_6 : CodeT := fun call _ tm ds h K =>
  K .norm (T.set tm 5 (.string (strB []))) ds h
noncomputable def r9_7 : CodeT := fun call _ tm ds h K =>
  kO (fieldPtr 0 (tg tm 1)) ds h (fun v0 ds h =>
  kO (loadOne h v0) ds h (fun v1 ds h =>
  K .norm (T.set tm 22 v1) ds h))
noncomputable def r9_9 : CodeT := fun call _ tm ds h K =>
  kO (binV Tryd.prog .eql 5 true (tg tm 22) (.int .u8 (1))) ds h (fun v0 ds h =>
  K .norm (T.set tm 26 v0) ds h)
noncomputable def r9_10 : CodeT := fun call _ tm ds h0 K =>
  (fun (b0 : Nat) (h : H) =>
  kO (fieldPtr 2 (tg tm 1)) ds h (fun v1 ds h =>
  kO (fieldPtr 0 v1) ds h (fun v2 ds h =>
  kO (loadOne h v2) ds h (fun v3 ds h =>
  call 21 [] h (fun v h => (fun v0 ds h =>
  andB ((hO (loadOne h v2) v3 true) && true) (kO (indexAgg false 1 8 v0 v3) ds h (fun v4 ds h =>
  K .norm (T.set tm 5 v4) ds h))) v ds h))))) h0.next ⟨h0.objs, h0.next + 6⟩
noncomputable def r9_11 : CodeT := fun call _ tm ds h K =>
  kO (fieldPtr 2 (tg tm 1)) ds h (fun v0 ds h =>
  kO (fieldPtr 0 v0) ds h (fun v1 ds h =>
  kO (loadOne h v1) ds h (fun v2 ds h =>
  kO (binV Tryd.prog .eql 5 true v2 (.int .u8 (1))) ds h (fun v3 ds h =>
  K .norm (T.set tm 36 v3) ds h))))
noncomputable def r9_12 : CodeT := fun call _ tm ds h K =>
  kO (loadAgg 7 h (tg tm 1)) ds h (fun v0 ds h =>
  call 22 [v0] h (fun v h => (fun v1 ds h =>
  K .norm (T.set tm 5 v1) ds h) v ds h))
noncomputable def r9_13 : CodeT := fun call _ tm ds h K =>
  kO (binV Tryd.prog .eql 5 true (tg tm 22) (.int .u8 (2))) ds h (fun v0 ds h =>
  K .norm (T.set tm 39 v0) ds h)
noncomputable def r9_14 : CodeT := fun call _ tm ds h K =>
  kO (fieldPtr 5 (tg tm 1)) ds h (fun v0 ds h =>
  kO (loadOne h v0) ds h (fun v1 ds h =>
  call 23 [v1, (.string (strB [87, 69, 76, 67, 79, 77, 69])), (.string (strB [85, 78, 75, 78, 79, 87, 78]))] h (fun v h => (fun v2 ds h =>
  K .norm (T.set tm 5 v2) ds h) v ds h)))
noncomputable def r9_15 : CodeT := fun call _ tm ds h K =>
  kO (binV Tryd.prog .eql 5 true (tg tm 22) (.int .u8 (3))) ds h (fun v0 ds h =>
  K .norm (T.set tm 44 v0) ds h)
noncomputable def r9_16 : CodeT := fun call _ tm ds h K =>
  kO (fieldPtr 5 (tg tm 1)) ds h (fun v0 ds h =>
  kO (loadOne h v0) ds h (fun v1 ds h =>
  call 23 [v1, (.string (strB [84, 82, 65, 67, 75, 69, 68])), (.string (strB [85, 78, 84, 82, 65, 67, 75, 69, 68]))] h (fun v h => (fun v2 ds h =>
  K .norm (T.set tm 5 v2) ds h) v ds h)))
noncomputable def r9_17 : CodeT := fun call _ tm ds h K =>
  kO (binV Tryd.prog .eql 5 true (tg tm 22) (.int .u8 (4))) ds h (fun v0 ds h =>
  K .norm (T.set tm 49 v0) ds h)
noncomputable def r9_18 : CodeT := fun call _ tm ds h K =>
  K .norm (T.set tm 5 (.string (strB [80, 79, 78, 71]))) ds h
noncomputable def r9_19 : CodeT := fun call _ tm ds h K =>
  kO (binV Tryd.prog .eql 5 true (tg tm 22) (.int .u8 (5))) ds h (fun v0 ds h =>
  K .norm (T.set tm 51 v0) ds h)
noncomputable def r9_20 : CodeT := fun call _ tm ds h K =>
  K .norm (T.set tm 5 (.string (strB [66, 89, 69]))) ds h
noncomputable def r9_21 : CodeT := fun call _ tm ds h K =>
  kO (binV Tryd.prog .eql 5 true (tg tm 22) (.int .u8 (6))) ds h (fun v0 ds h =>
  K .norm (T.set tm 53 v0) ds h)
noncomputable def r9_22 : CodeT := fun call _ tm ds h K =>
  K .norm (T.set tm 5 (.string (strB [69, 82, 82, 79, 82]))) ds h
noncomputable def r9_8 : CodeT := fun call _ tm ds h K =>
  kO (fieldPtr 6 (tg tm 1)) ds h (fun v0 ds h =>
  kO (loadOne h v0) ds h (fun v1 ds h =>
  kO (binV Tryd.prog .add 9 true (.string (strB [80, 85, 83, 72, 32])) v1) ds h (fun v2 ds h =>
  K .norm (T.set tm 5 v2) ds h)))
noncomputable def r9_23 : CodeT := fun call _ tm ds h K =>
  kO (binV Tryd.prog .add 9 true (tg tm 5) (.string (strB [13, 10]))) ds h (fun v1 ds h =>
  kA (mkBytes 5 h.next v1) ds h (fun v2 ds h =>
  K .norm (T.set (T.set tm 2 v2) 3 (.int .i64 (0))) ds h))
noncomputable def c9 : Box CodeT := ⟨seqC ⟨r9_0⟩ ⟨seqC ⟨seqC ⟨r9_1⟩ ⟨seqC ⟨r9_2⟩ ⟨condC ⟨fun _ tm => tg tm 9⟩ ⟨seqC ⟨r9_3⟩ retC⟩ skipC⟩⟩⟩ ⟨seqC ⟨seqC ⟨r9_4⟩ ⟨condC ⟨fun _ tm => tg tm 20⟩ ⟨seqC ⟨r9_5⟩ retC⟩ skipC⟩⟩ ⟨seqC ⟨r9_6⟩ ⟨seqC ⟨seqC ⟨r9_7⟩ ⟨blockC 0 ⟨seqC ⟨r9_9⟩ ⟨condC ⟨fun _ tm => tg tm 26⟩ ⟨seqC ⟨r9_10⟩ ⟨seqC ⟨r9_11⟩ ⟨condC ⟨fun _ tm => tg tm 36⟩ ⟨r9_12⟩ skipC⟩⟩⟩ ⟨seqC ⟨r9_13⟩ ⟨condC ⟨fun _ tm => tg tm 39⟩ ⟨r9_14⟩ ⟨seqC ⟨r9_15⟩ ⟨condC ⟨fun _ tm => tg tm 44⟩ ⟨r9_16⟩ ⟨seqC ⟨r9_17⟩ ⟨condC ⟨fun _ tm => tg tm 49⟩ ⟨r9_18⟩ ⟨seqC ⟨r9_19⟩ ⟨condC ⟨fun _ tm => tg tm 51⟩ ⟨r9_20⟩ ⟨seqC ⟨r9_21⟩ ⟨condC ⟨fun _ tm => tg tm 53⟩ ⟨r9_22⟩ ⟨r9_8⟩⟩⟩⟩⟩⟩⟩⟩⟩⟩⟩⟩⟩⟩⟩ ⟨seqC ⟨r9_23⟩ retC⟩⟩⟩⟩⟩⟩
noncomputable def q9 : Box (T Value → H → Option (List Value)) := ⟨fun tm h => some [tg tm 2, tg tm 3]⟩

/-! 10 cloakroom/cloakroomref15.Write -/
/-! 11 cloakroom/words.Check -/
noncomputable def r11_0 : CodeT := fun call _ tm ds h K =>
  kA (some (.rw (Value.cells (tg tm 0)).toList (some 27), ptrTo h.next)) ds h (fun v0 ds h =>
  K .norm (T.set (T.set tm 1 v0) 2 (.int .i64 (0))) ds h)
noncomputable def r11_1 : CodeT := fun call _ tm ds h K =>
  K .norm (T.set tm 3 (.bool false)) ds h
noncomputable def r11_2 : CodeT := fun call _ tm ds h K =>
  kO (fieldPtr 0 (tg tm 1)) ds h (fun v0 ds h =>
  kO (loadOne h v0) ds h (fun v1 ds h =>
  kO (binV Tryd.prog .eql 5 true v1 (.int .u8 (1))) ds h (fun v2 ds h =>
  K .norm (T.set tm 4 v2) ds h)))
noncomputable def r11_3 : CodeT := fun call _ tm ds h K =>
  kO (fieldPtr 1 (tg tm 1)) ds h (fun v0 ds h =>
  kO (loadOne h v0) ds h (fun v1 ds h =>
  kO (fieldPtr 2 (tg tm 1)) ds h (fun v2 ds h =>
  kO (loadAgg 3 h v2) ds h (fun v3 ds h =>
  call 27 [v1, v3] h (fun v h => (fun v4 ds h =>
  K .norm (T.set tm 3 v4) ds h) v ds h)))))
noncomputable def r11_4 : CodeT := fun call _ tm ds h K => (⟨opStep ⟨fun call env tm ds h K => kO (fieldPtr 0 (tg tm 1)) ds h K⟩ ⟨fun v tm => tm⟩ ⟨fun env tm => true⟩
  ⟨opStep ⟨fun call env tm ds h K => kO (loadOne h (nthD 0 env)) ds h K⟩ ⟨fun v tm => tm⟩ ⟨fun env tm => true⟩
  ⟨opStep ⟨fun call env tm ds h K => kO (binV Tryd.prog .gtr 5 true (nthD 0 env) (.int .u8 (1))) ds h K⟩ ⟨fun v tm => tm⟩ ⟨fun env tm => true⟩
  ⟨opStep ⟨fun call env tm ds h K => kO (some (nthD 0 env)) ds h K⟩ ⟨fun v tm => tm⟩ ⟨fun env tm => true⟩
  ⟨opStep ⟨fun call env tm ds h K => kO (fieldPtr 0 (tg tm 1)) ds h K⟩ ⟨fun v tm => tm⟩ ⟨fun env tm => isB true (nthD 0 env)⟩
  ⟨opStep ⟨fun call env tm ds h K => kO (loadOne h (nthD 0 env)) ds h K⟩ ⟨fun v tm => tm⟩ ⟨fun env tm => isB true (nthD 1 env)⟩
  ⟨opStep ⟨fun call env tm ds h K => kO (binV Tryd.prog .leq 5 true (nthD 0 env) (.int .u8 (7))) ds h K⟩ ⟨fun v tm => tm⟩ ⟨fun env tm => isB true (nthD 2 env)⟩
  ⟨opStep ⟨fun call env tm ds h K => kO (pickV (nthD 3 env) (nthD 0 env) (.bool false)) ds h K⟩ ⟨fun v tm => tm⟩ ⟨fun env tm => true⟩
  ⟨opStep ⟨fun call env tm ds h K => kO (some (nthD 0 env)) ds h K⟩ ⟨fun v tm => (T.set tm 13 v)⟩ ⟨fun env tm => true⟩
  ⟨fun _ _ tm ds h K => K .norm tm ds h⟩⟩⟩⟩⟩⟩⟩⟩⟩⟩ : Box OpsT).f call [] tm ds h K
noncomputable def r11_5 : CodeT := fun call _ tm ds h K => (⟨opStep ⟨fun call env tm ds h K => kO (fieldPtr 1 (tg tm 1)) ds h K⟩ ⟨fun v tm => tm⟩ ⟨fun env tm => true⟩
  ⟨opStep ⟨fun call env tm ds h K => kO (loadOne h (nthD 0 env)) ds h K⟩ ⟨fun v tm => tm⟩ ⟨fun env tm => true⟩
  ⟨opStep ⟨fun call env tm ds h K => kO (binV Tryd.prog .eql 5 true (nthD 0 env) (.int .u8 (0))) ds h K⟩ ⟨fun v tm => tm⟩ ⟨fun env tm => true⟩
  ⟨opStep ⟨fun call env tm ds h K => kO (some (nthD 0 env)) ds h K⟩ ⟨fun v tm => tm⟩ ⟨fun env tm => true⟩
  ⟨opStep ⟨fun call env tm ds h K => kO (fieldPtr 2 (tg tm 1)) ds h K⟩ ⟨fun v tm => tm⟩ ⟨fun env tm => isB true (nthD 0 env)⟩
  ⟨opStep ⟨fun call env tm ds h K => kO (fieldPtr 0 (nthD 0 env)) ds h K⟩ ⟨fun v tm => tm⟩ ⟨fun env tm => isB true (nthD 1 env)⟩
  ⟨opStep ⟨fun call env tm ds h K => kO (loadOne h (nthD 0 env)) ds h K⟩ ⟨fun v tm => tm⟩ ⟨fun env tm => isB true (nthD 2 env)⟩
  ⟨opStep ⟨fun call env tm ds h K => kO (binV Tryd.prog .eql 5 true (nthD 0 env) (.int .u8 (0))) ds h K⟩ ⟨fun v tm => tm⟩ ⟨fun env tm => isB true (nthD 3 env)⟩
  ⟨opStep ⟨fun call env tm ds h K => kO (pickV (nthD 4 env) (nthD 0 env) (.bool false)) ds h K⟩ ⟨fun v tm => tm⟩ ⟨fun env tm => true⟩
  ⟨opStep ⟨fun call env tm ds h K => kO (some (nthD 0 env)) ds h K⟩ ⟨fun v tm => tm⟩ ⟨fun env tm => true⟩
  ⟨opStep ⟨fun call env tm ds h K => kO (fieldPtr 2 (tg tm 1)) ds h K⟩ ⟨fun v tm => tm⟩ ⟨fun env tm => isB true (nthD 0 env)⟩
  ⟨opStep ⟨fun call env tm ds h K => kO (fieldPtr 2 (nthD 0 env)) ds h K⟩ ⟨fun v tm => tm⟩ ⟨fun env tm => isB true (nthD 1 env)⟩
  ⟨opStep ⟨fun call env tm ds h K => kO (loadOne h (nthD 0 env)) ds h K⟩ ⟨fun v tm => tm⟩ ⟨fun env tm => isB true (nthD 2 env)⟩
  ⟨opStep ⟨fun call env tm ds h K => kO (binV Tryd.prog .eql 23 true (nthD 0 env) (.int .u64 (0))) ds h K⟩ ⟨fun v tm => tm⟩ ⟨fun env tm => isB true (nthD 3 env)⟩
  ⟨opStep ⟨fun call env tm ds h K => kO (pickV (nthD 4 env) (nthD 0 env) (.bool false)) ds h K⟩ ⟨fun v tm => tm⟩ ⟨fun env tm => true⟩
  ⟨opStep ⟨fun call env tm ds h K => kO (some (nthD 0 env)) ds h K⟩ ⟨fun v tm => tm⟩ ⟨fun env tm => true⟩
  ⟨opStep ⟨fun call env tm ds h K => kO (fieldPtr 2 (tg tm 1)) ds h K⟩ ⟨fun v tm => tm⟩ ⟨fun env tm => isB true (nthD 0 env)⟩
  ⟨opStep ⟨fun call env tm ds h K => kO (fieldPtr 1 (nthD 0 env)) ds h K⟩ ⟨fun v tm => tm⟩ ⟨fun env tm => isB true (nthD 1 env)⟩
  ⟨opStep ⟨fun call env tm ds h K => kO (loadOne h (nthD 0 env)) ds h K⟩ ⟨fun v tm => tm⟩ ⟨fun env tm => isB true (nthD 2 env)⟩
  ⟨opStep ⟨fun call env tm ds h K => kO (lenSl (nthD 0 env)) ds h K⟩ ⟨fun v tm => tm⟩ ⟨fun env tm => isB true (nthD 3 env)⟩
  ⟨opStep ⟨fun call env tm ds h K => kO (binV Tryd.prog .eql 3 true (nthD 0 env) (.int .i64 (0))) ds h K⟩ ⟨fun v tm => tm⟩ ⟨fun env tm => isB true (nthD 4 env)⟩
  ⟨opStep ⟨fun call env tm ds h K => kO (pickV (nthD 5 env) (nthD 0 env) (.bool false)) ds h K⟩ ⟨fun v tm => tm⟩ ⟨fun env tm => true⟩
  ⟨opStep ⟨fun call env tm ds h K => kO (some (nthD 0 env)) ds h K⟩ ⟨fun v tm => (T.set tm 3 v)⟩ ⟨fun env tm => true⟩
  ⟨fun _ _ tm ds h K => K .norm tm ds h⟩⟩⟩⟩⟩⟩⟩⟩⟩⟩⟩⟩⟩⟩⟩⟩⟩⟩⟩⟩⟩⟩⟩⟩ : Box OpsT).f call [] tm ds h K
noncomputable def r11_6 : CodeT := fun call _ tm ds h K =>
  kO (fieldPtr 0 (tg tm 1)) ds h (fun v0 ds h =>
  kO (loadOne h v0) ds h (fun v1 ds h =>
  kO (binV Tryd.prog .eql 5 true v1 (.int .u8 (7))) ds h (fun v2 ds h =>
  K .norm (T.set tm 46 v2) ds h)))
noncomputable def r11_7 : CodeT := fun call _ tm ds h K => (⟨opStep ⟨fun call env tm ds h K => kO (some (tg tm 3)) ds h K⟩ ⟨fun v tm => tm⟩ ⟨fun env tm => true⟩
  ⟨opStep ⟨fun call env tm ds h K => kO (some (nthD 0 env)) ds h K⟩ ⟨fun v tm => tm⟩ ⟨fun env tm => true⟩
  ⟨opStep ⟨fun call env tm ds h K => kO (fieldPtr 6 (tg tm 1)) ds h K⟩ ⟨fun v tm => tm⟩ ⟨fun env tm => isB true (nthD 0 env)⟩
  ⟨opStep ⟨fun call env tm ds h K => kO (loadOne h (nthD 0 env)) ds h K⟩ ⟨fun v tm => tm⟩ ⟨fun env tm => isB true (nthD 1 env)⟩
  ⟨opStep ⟨fun call env tm ds h K => kO (lenStr (nthD 0 env)) ds h K⟩ ⟨fun v tm => tm⟩ ⟨fun env tm => isB true (nthD 2 env)⟩
  ⟨opStep ⟨fun call env tm ds h K => kO (binV Tryd.prog .geq 3 true (nthD 0 env) (.int .i64 (1))) ds h K⟩ ⟨fun v tm => tm⟩ ⟨fun env tm => isB true (nthD 3 env)⟩
  ⟨opStep ⟨fun call env tm ds h K => kO (pickV (nthD 4 env) (nthD 0 env) (.bool false)) ds h K⟩ ⟨fun v tm => tm⟩ ⟨fun env tm => true⟩
  ⟨opStep ⟨fun call env tm ds h K => kO (some (nthD 0 env)) ds h K⟩ ⟨fun v tm => tm⟩ ⟨fun env tm => true⟩
  ⟨opStep ⟨fun call env tm ds h K => kO (fieldPtr 6 (tg tm 1)) ds h K⟩ ⟨fun v tm => tm⟩ ⟨fun env tm => isB true (nthD 0 env)⟩
  ⟨opStep ⟨fun call env tm ds h K => kO (loadOne h (nthD 0 env)) ds h K⟩ ⟨fun v tm => tm⟩ ⟨fun env tm => isB true (nthD 1 env)⟩
  ⟨opStep ⟨fun call env tm ds h K => kO (lenStr (nthD 0 env)) ds h K⟩ ⟨fun v tm => tm⟩ ⟨fun env tm => isB true (nthD 2 env)⟩
  ⟨opStep ⟨fun call env tm ds h K => kO (binV Tryd.prog .leq 3 true (nthD 0 env) (.int .i64 (32))) ds h K⟩ ⟨fun v tm => tm⟩ ⟨fun env tm => isB true (nthD 3 env)⟩
  ⟨opStep ⟨fun call env tm ds h K => kO (pickV (nthD 4 env) (nthD 0 env) (.bool false)) ds h K⟩ ⟨fun v tm => tm⟩ ⟨fun env tm => true⟩
  ⟨opStep ⟨fun call env tm ds h K => kO (some (nthD 0 env)) ds h K⟩ ⟨fun v tm => (T.set tm 3 v)⟩ ⟨fun env tm => true⟩
  ⟨fun _ _ tm ds h K => K .norm tm ds h⟩⟩⟩⟩⟩⟩⟩⟩⟩⟩⟩⟩⟩⟩⟩ : Box OpsT).f call [] tm ds h K
noncomputable def r11_8 : CodeT := fun call _ tm ds h K => (⟨opStep ⟨fun call env tm ds h K => kO (some (tg tm 3)) ds h K⟩ ⟨fun v tm => tm⟩ ⟨fun env tm => true⟩
  ⟨opStep ⟨fun call env tm ds h K => kO (some (nthD 0 env)) ds h K⟩ ⟨fun v tm => tm⟩ ⟨fun env tm => true⟩
  ⟨opStep ⟨fun call env tm ds h K => kO (fieldPtr 6 (tg tm 1)) ds h K⟩ ⟨fun v tm => tm⟩ ⟨fun env tm => isB true (nthD 0 env)⟩
  ⟨opStep ⟨fun call env tm ds h K => kO (loadOne h (nthD 0 env)) ds h K⟩ ⟨fun v tm => tm⟩ ⟨fun env tm => isB true (nthD 1 env)⟩
  ⟨opStep ⟨fun call env tm ds h K => kO (binV Tryd.prog .eql 9 true (nthD 0 env) (.string (strB []))) ds h K⟩ ⟨fun v tm => tm⟩ ⟨fun env tm => isB true (nthD 2 env)⟩
  ⟨opStep ⟨fun call env tm ds h K => kO (pickV (nthD 3 env) (nthD 0 env) (.bool false)) ds h K⟩ ⟨fun v tm => tm⟩ ⟨fun env tm => true⟩
  ⟨opStep ⟨fun call env tm ds h K => kO (some (nthD 0 env)) ds h K⟩ ⟨fun v tm => (T.set tm 3 v)⟩ ⟨fun env tm => true⟩
  ⟨fun _ _ tm ds h K => K .norm tm ds h⟩⟩⟩⟩⟩⟩⟩⟩ : Box OpsT).f call [] tm ds h K
noncomputable def r11_9 : CodeT := fun call _ tm ds h K => (⟨opStep ⟨fun call env tm ds h K => kO (some (tg tm 3)) ds h K⟩ ⟨fun v tm => tm⟩ ⟨fun env tm => true⟩
  ⟨opStep ⟨fun call env tm ds h K => kO (unV .not (nthD 0 env)) ds h K⟩ ⟨fun v tm => tm⟩ ⟨fun env tm => true⟩
  ⟨opStep ⟨fun call env tm ds h K => kO (some (nthD 0 env)) ds h K⟩ ⟨fun v tm => tm⟩ ⟨fun env tm => true⟩
  ⟨opStep ⟨fun call env tm ds h K => kO (fieldPtr 5 (tg tm 1)) ds h K⟩ ⟨fun v tm => tm⟩ ⟨fun env tm => isB false (nthD 0 env)⟩
  ⟨opStep ⟨fun call env tm ds h K => kO (loadOne h (nthD 0 env)) ds h K⟩ ⟨fun v tm => tm⟩ ⟨fun env tm => isB false (nthD 1 env)⟩
  ⟨opStep ⟨fun call env tm ds h K => kO (some (nthD 0 env)) ds h K⟩ ⟨fun v tm => tm⟩ ⟨fun env tm => isB false (nthD 2 env)⟩
  ⟨opStep ⟨fun call env tm ds h K => kO (fieldPtr 0 (tg tm 1)) ds h K⟩ ⟨fun v tm => tm⟩ ⟨fun env tm => isB true (nthD 0 env)⟩
  ⟨opStep ⟨fun call env tm ds h K => kO (loadOne h (nthD 0 env)) ds h K⟩ ⟨fun v tm => tm⟩ ⟨fun env tm => isB true (nthD 1 env)⟩
  ⟨opStep ⟨fun call env tm ds h K => kO (binV Tryd.prog .neq 5 true (nthD 0 env) (.int .u8 (2))) ds h K⟩ ⟨fun v tm => tm⟩ ⟨fun env tm => isB true (nthD 2 env)⟩
  ⟨opStep ⟨fun call env tm ds h K => kO (pickV (nthD 3 env) (nthD 0 env) (.bool false)) ds h K⟩ ⟨fun v tm => tm⟩ ⟨fun env tm => isB false (nthD 6 env)⟩
  ⟨opStep ⟨fun call env tm ds h K => kO (some (nthD 0 env)) ds h K⟩ ⟨fun v tm => tm⟩ ⟨fun env tm => isB false (nthD 7 env)⟩
  ⟨opStep ⟨fun call env tm ds h K => kO (fieldPtr 0 (tg tm 1)) ds h K⟩ ⟨fun v tm => tm⟩ ⟨fun env tm => isB true (nthD 0 env)⟩
  ⟨opStep ⟨fun call env tm ds h K => kO (loadOne h (nthD 0 env)) ds h K⟩ ⟨fun v tm => tm⟩ ⟨fun env tm => isB true (nthD 1 env)⟩
  ⟨opStep ⟨fun call env tm ds h K => kO (binV Tryd.prog .neq 5 true (nthD 0 env) (.int .u8 (3))) ds h K⟩ ⟨fun v tm => tm⟩ ⟨fun env tm => isB true (nthD 2 env)⟩
  ⟨opStep ⟨fun call env tm ds h K => kO (pickV (nthD 3 env) (nthD 0 env) (.bool false)) ds h K⟩ ⟨fun v tm => tm⟩ ⟨fun env tm => isB false (nthD 11 env)⟩
  ⟨opStep ⟨fun call env tm ds h K => kO (pickV (nthD 12 env) (.bool true) (nthD 0 env)) ds h K⟩ ⟨fun v tm => (T.set tm 81 v)⟩ ⟨fun env tm => true⟩
  ⟨fun _ _ tm ds h K => K .norm tm ds h⟩⟩⟩⟩⟩⟩⟩⟩⟩⟩⟩⟩⟩⟩⟩⟩⟩ : Box OpsT).f call [] tm ds h K
noncomputable def r11_10 : CodeT := fun call _ tm ds h K =>
  K .norm (T.set tm 2 (.int .i64 (8))) ds h
noncomputable def r11_11 : CodeT := fun call _ tm ds h K =>
  K .norm (T.set tm 2 (.int .i64 (0))) ds h
noncomputable def c11 : Box CodeT := ⟨seqC ⟨r11_0⟩ ⟨seqC ⟨r11_1⟩ ⟨seqC ⟨blockC 0 ⟨seqC ⟨r11_2⟩ ⟨condC ⟨fun _ tm => tg tm 4⟩ ⟨r11_3⟩ ⟨seqC ⟨r11_4⟩ ⟨condC ⟨fun _ tm => tg tm 13⟩ ⟨r11_5⟩ skipC⟩⟩⟩⟩⟩ ⟨seqC ⟨seqC ⟨r11_6⟩ ⟨condC ⟨fun _ tm => tg tm 46⟩ ⟨r11_7⟩ ⟨r11_8⟩⟩⟩ ⟨seqC ⟨seqC ⟨r11_9⟩ ⟨condC ⟨fun _ tm => tg tm 81⟩ ⟨seqC ⟨r11_10⟩ retC⟩ skipC⟩⟩ ⟨seqC ⟨r11_11⟩ retC⟩⟩⟩⟩⟩⟩
noncomputable def q11 : Box (T Value → H → Option (List Value)) := ⟨fun tm h => some [tg tm 2]⟩

/-! 12 cloakroom/cloakroomref15.Check -/
/-! 13 cloakroom/words.Read -/
noncomputable def r13_0 : CodeT := fun call _ tm ds h K =>
  kA (some (.rw [(.int .u8 (0)), (.int .u8 (0)), (.int .u8 (0)), (.slice none 0 0), (.int .u64 (0)), (.bool false), (.string (strB []))] (some 27), ptrTo h.next)) ds h (fun v0 ds h =>
  K .norm (T.set (T.set (T.set tm 4 v0) 5 (.int .i64 (0))) 6 (.int .i64 (0))) ds h)
noncomputable def r13_1 : CodeT := fun call _ tm ds h K =>
  kO (lenSl (tg tm 0)) ds h (fun v1 ds h =>
  kO (binV Tryd.prog .gtr 3 true v1 (.int .i64 (16384))) ds h (fun v2 ds h =>
  K .norm (T.set tm 19 v2) ds h))
noncomputable def r13_2 : CodeT := fun call _ tm ds h K =>
  kO (aggO (fill [(.int .u8 (0)), (.int .u8 (0)), (.int .u8 (0)), (.slice none 0 0), (.int .u64 (0)), (.bool false), (.string (strB []))] (plc [(0, 1), (1, 1), (2, 3), (5, 1), (6, 1)]) [])) ds h (fun v0 ds h =>
  kH (withV undef (storeV 7 h (tg tm 4) v0)) ds (fun v1 ds h =>
  K .norm (T.set (T.set tm 5 (.int .i64 (0))) 6 (.int .i64 (3))) ds h))
noncomputable def r13_3 : CodeT := fun call _ tm ds h K =>
  kO (aggO (fill [(.int .u8 (0)), (.slice none 0 0), (.int .u64 (0))] (plc [(0, 1), (1, 1), (2, 1)]) [(0, (.int .u8 (1)))])) ds h (fun v1 ds h =>
  kO (aggO (fill [(.int .u8 (0)), (.int .u8 (0)), (.int .u8 (0)), (.slice none 0 0), (.int .u64 (0)), (.bool false), (.string (strB []))] (plc [(0, 1), (1, 1), (2, 3), (5, 1), (6, 1)]) [(0, (.int .u8 (1))), (1, (tg tm 1)), (2, v1)])) ds h (fun v2 ds h =>
  kA (some (.rw [(.int .u8 (0)), (.int .u8 (0)), (.int .u8 (0)), (.slice none 0 0), (.int .u64 (0)), (.bool false), (.string (strB []))] (some 27), ptrTo h.next)) ds h (fun v3 ds h =>
  kH (withV undef (storeV 7 h v3 v2)) ds (fun v4 ds h =>
  K .norm (T.set tm 7 v3) ds h))))
noncomputable def r13_4 : CodeT := fun call _ tm ds h K =>
  K .norm (T.set tm 8 (.int .i64 (0))) ds h
noncomputable def r13_5 : CodeT := fun call _ tm ds h K =>
  kO (sliceSl 1 (tg tm 0) (some (tg tm 8)) none none) ds h (fun v2 ds h =>
  K .norm (T.set tm 9 v2) ds h)
noncomputable def r13_6 : CodeT := fun call _ tm ds h K =>
  kO (lenSl (tg tm 9)) ds h (fun v2 ds h =>
  kO (foldMM false [v2, (.int .i64 (514))]) ds h (fun v3 ds h =>
  kO (sliceSl 1 (tg tm 9) none (some v3) none) ds h (fun v4 ds h =>
  kA (mkLit 5 2 h.next (fill (repl [(.int .u8 (0))] 2) (pl 1) [(0, (.int .u8 (13))), (1, (.int .u8 (10)))])) ds h (fun v5 ds h =>
  kH (markV h v5) ds (fun v6 ds h =>
  call 28 [v4, v6] h (fun v h => (fun v7 ds h =>
  K .norm (T.set tm 10 v7) ds h) v ds h))))))
noncomputable def r13_7 : CodeT := fun call _ tm ds h K => (⟨opStep ⟨fun call env tm ds h K => kO (some (tg tm 10)) ds h K⟩ ⟨fun v tm => tm⟩ ⟨fun env tm => true⟩
  ⟨opStep ⟨fun call env tm ds h K => kO (binV Tryd.prog .lss 3 true (nthD 0 env) (.int .i64 (0))) ds h K⟩ ⟨fun v tm => tm⟩ ⟨fun env tm => true⟩
  ⟨opStep ⟨fun call env tm ds h K => kO (some (nthD 0 env)) ds h K⟩ ⟨fun v tm => tm⟩ ⟨fun env tm => true⟩
  ⟨opStep ⟨fun call env tm ds h K => kO (some (tg tm 9)) ds h K⟩ ⟨fun v tm => tm⟩ ⟨fun env tm => isB true (nthD 0 env)⟩
  ⟨opStep ⟨fun call env tm ds h K => kO (lenSl (nthD 0 env)) ds h K⟩ ⟨fun v tm => tm⟩ ⟨fun env tm => isB true (nthD 1 env)⟩
  ⟨opStep ⟨fun call env tm ds h K => kO (binV Tryd.prog .lss 3 true (nthD 0 env) (.int .i64 (514))) ds h K⟩ ⟨fun v tm => tm⟩ ⟨fun env tm => isB true (nthD 2 env)⟩
  ⟨opStep ⟨fun call env tm ds h K => kO (pickV (nthD 3 env) (nthD 0 env) (.bool false)) ds h K⟩ ⟨fun v tm => tm⟩ ⟨fun env tm => true⟩
  ⟨opStep ⟨fun call env tm ds h K => kO (some (nthD 0 env)) ds h K⟩ ⟨fun v tm => (T.set tm 35 v)⟩ ⟨fun env tm => true⟩
  ⟨fun _ _ tm ds h K => K .norm tm ds h⟩⟩⟩⟩⟩⟩⟩⟩⟩ : Box OpsT).f call [] tm ds h K
noncomputable def r13_8 : CodeT := fun call _ tm ds h K =>
  kO (aggO (fill [(.int .u8 (0)), (.int .u8 (0)), (.int .u8 (0)), (.slice none 0 0), (.int .u64 (0)), (.bool false), (.string (strB []))] (plc [(0, 1), (1, 1), (2, 3), (5, 1), (6, 1)]) [])) ds h (fun v0 ds h =>
  kH (withV undef (storeV 7 h (tg tm 4) v0)) ds (fun v1 ds h =>
  K .norm (T.set (T.set tm 5 (.int .i64 (0))) 6 (.int .i64 (0))) ds h))
noncomputable def r13_9 : CodeT := fun call _ tm ds h K =>
  kO (binV Tryd.prog .lss 3 true (tg tm 10) (.int .i64 (0))) ds h (fun v1 ds h =>
  K .norm (T.set tm 44 v1) ds h)
noncomputable def r13_10 : CodeT := fun call _ tm ds h K =>
  kO (aggO (fill [(.int .u8 (0)), (.int .u8 (0)), (.int .u8 (0)), (.slice none 0 0), (.int .u64 (0)), (.bool false), (.string (strB []))] (plc [(0, 1), (1, 1), (2, 3), (5, 1), (6, 1)]) [])) ds h (fun v0 ds h =>
  kH (withV undef (storeV 7 h (tg tm 4) v0)) ds (fun v1 ds h =>
  K .norm (T.set (T.set tm 5 (.int .i64 (0))) 6 (.int .i64 (8))) ds h))
noncomputable def r13_11 : CodeT := fun call _ tm ds h K =>
  kO (sliceSl 1 (tg tm 9) none (some (tg tm 10)) none) ds h (fun v2 ds h =>
  kO (bytesStr h v2) ds h (fun v3 ds h =>
  call 29 [v3, (.string (strB [32]))] h (fun v h => (fun v4 ds h =>
  K .norm (T.set tm 11 v4) ds h) v ds h)))
noncomputable def r13_12 : CodeT := fun call _ tm ds h K =>
  call 30 [(tg tm 11)] h (fun v h => (fun v1 ds h =>
  kO (tupNth 0 v1) ds h (fun v3 ds h =>
  kO (tupNth 1 v1) ds h (fun v4 ds h =>
  kO (tupNth 2 v1) ds h (fun v5 ds h =>
  kA (some (.rw [(.string (strB [])), (.string (strB [])), (.int .u32 (0)), (.int .i64 (0)), (.int .u64 (0))] (some 48), ptrTo h.next)) ds h (fun v6 ds h =>
  kH (withV undef (storeV 5 h v6 v3)) ds (fun v7 ds h =>
  K .norm (T.set (T.set (T.set tm 12 v6) 13 v4) 14 v5) ds h)))))) v ds h)
noncomputable def r13_13 : CodeT := fun call _ tm ds h K => (⟨opStep ⟨fun call env tm ds h K => kO (some (tg tm 14)) ds h K⟩ ⟨fun v tm => tm⟩ ⟨fun env tm => true⟩
  ⟨opStep ⟨fun call env tm ds h K => kO (some (nthD 0 env)) ds h K⟩ ⟨fun v tm => tm⟩ ⟨fun env tm => true⟩
  ⟨opStep ⟨fun call env tm ds h K => kO (some (tg tm 1)) ds h K⟩ ⟨fun v tm => tm⟩ ⟨fun env tm => isB true (nthD 0 env)⟩
  ⟨opStep ⟨fun call env tm ds h K => kO (binV Tryd.prog .eql 5 true (nthD 0 env) (.int .u8 (1))) ds h K⟩ ⟨fun v tm => tm⟩ ⟨fun env tm => isB true (nthD 1 env)⟩
  ⟨opStep ⟨fun call env tm ds h K => kO (pickV (nthD 2 env) (nthD 0 env) (.bool false)) ds h K⟩ ⟨fun v tm => tm⟩ ⟨fun env tm => true⟩
  ⟨opStep ⟨fun call env tm ds h K => kO (some (nthD 0 env)) ds h K⟩ ⟨fun v tm => tm⟩ ⟨fun env tm => true⟩
  ⟨opStep ⟨fun call env tm ds h K => kO (fieldPtr 2 (tg tm 7)) ds h K⟩ ⟨fun v tm => tm⟩ ⟨fun env tm => isB true (nthD 0 env)⟩
  ⟨opStep ⟨fun call env tm ds h K => kO (fieldPtr 1 (nthD 0 env)) ds h K⟩ ⟨fun v tm => tm⟩ ⟨fun env tm => isB true (nthD 1 env)⟩
  ⟨opStep ⟨fun call env tm ds h K => kO (loadOne h (nthD 0 env)) ds h K⟩ ⟨fun v tm => tm⟩ ⟨fun env tm => isB true (nthD 2 env)⟩
  ⟨opStep ⟨fun call env tm ds h K => kO (lenSl (nthD 0 env)) ds h K⟩ ⟨fun v tm => tm⟩ ⟨fun env tm => isB true (nthD 3 env)⟩
  ⟨opStep ⟨fun call env tm ds h K => kO (binV Tryd.prog .lss 3 true (nthD 0 env) (.int .i64 (8))) ds h K⟩ ⟨fun v tm => tm⟩ ⟨fun env tm => isB true (nthD 4 env)⟩
  ⟨opStep ⟨fun call env tm ds h K => kO (pickV (nthD 5 env) (nthD 0 env) (.bool false)) ds h K⟩ ⟨fun v tm => (T.set tm 70 v)⟩ ⟨fun env tm => true⟩
  ⟨fun _ _ tm ds h K => K .norm tm ds h⟩⟩⟩⟩⟩⟩⟩⟩⟩⟩⟩⟩⟩ : Box OpsT).f call [] tm ds h K
noncomputable def r13_14 : CodeT := fun call _ tm ds h K =>
  kO (lenSl (tg tm 9)) ds h (fun v1 ds h =>
  kO (binV Tryd.prog .add 3 false (tg tm 10) (tg tm 13)) ds h (fun v4 ds h =>
  kO (binV Tryd.prog .add 3 true v4 (.int .i64 (4))) ds h (fun v5 ds h =>
  kO (binV Tryd.prog .lss 3 false v1 v5) ds h (fun v6 ds h =>
  K .norm (T.set tm 71 v6) ds h))))
noncomputable def r13_15 : CodeT := fun call _ tm ds h K =>
  kO (aggO (fill [(.int .u8 (0)), (.int .u8 (0)), (.int .u8 (0)), (.slice none 0 0), (.int .u64 (0)), (.bool false), (.string (strB []))] (plc [(0, 1), (1, 1), (2, 3), (5, 1), (6, 1)]) [])) ds h (fun v0 ds h =>
  kH (withV undef (storeV 7 h (tg tm 4) v0)) ds (fun v1 ds h =>
  K .norm (T.set (T.set tm 5 (.int .i64 (0))) 6 (.int .i64 (0))) ds h))
noncomputable def r13_16 : CodeT := fun call _ tm ds h K =>
  kO (binV Tryd.prog .add 3 true (tg tm 10) (.int .i64 (2))) ds h (fun v2 ds h =>
  kO (binV Tryd.prog .add 3 false v2 (tg tm 13)) ds h (fun v4 ds h =>
  kO (binV Tryd.prog .add 3 true (tg tm 10) (.int .i64 (4))) ds h (fun v6 ds h =>
  kO (binV Tryd.prog .add 3 false v6 (tg tm 13)) ds h (fun v8 ds h =>
  kO (sliceSl 1 (tg tm 9) (some v4) (some v8) none) ds h (fun v9 ds h =>
  kO (bytesStr h v9) ds h (fun v10 ds h =>
  kO (binV Tryd.prog .neq 9 true v10 (.string (strB [13, 10]))) ds h (fun v11 ds h =>
  K .norm (T.set tm 80 v11) ds h)))))))
noncomputable def r13_17 : CodeT := fun call _ tm ds h K =>
  kO (aggO (fill [(.int .u8 (0)), (.int .u8 (0)), (.int .u8 (0)), (.slice none 0 0), (.int .u64 (0)), (.bool false), (.string (strB []))] (plc [(0, 1), (1, 1), (2, 3), (5, 1), (6, 1)]) [])) ds h (fun v0 ds h =>
  kH (withV undef (storeV 7 h (tg tm 4) v0)) ds (fun v1 ds h =>
  K .norm (T.set (T.set tm 5 (.int .i64 (0))) 6 (.int .i64 (8))) ds h))
noncomputable def r13_18 : CodeT := fun call _ tm ds h K =>
  kO (binV Tryd.prog .add 3 true (tg tm 10) (.int .i64 (2))) ds h (fun v2 ds h =>
  kO (binV Tryd.prog .add 3 true (tg tm 10) (.int .i64 (2))) ds h (fun v4 ds h =>
  kO (binV Tryd.prog .add 3 false v4 (tg tm 13)) ds h (fun v6 ds h =>
  kO (sliceSl 1 (tg tm 9) (some v2) (some v6) none) ds h (fun v7 ds h =>
  kO (bytesStr h v7) ds h (fun v8 ds h =>
  kO (fieldPtr 1 (tg tm 12)) ds h (fun v9 ds h =>
  kH (withV undef (storeV 1 h v9 v8)) ds (fun v10 ds h =>
  K .norm tm ds h)))))))
noncomputable def r13_19 : CodeT := fun call _ tm ds h K =>
  kO (fieldPtr 2 (tg tm 7)) ds h (fun v0 ds h =>
  kO (fieldPtr 1 v0) ds h (fun v1 ds h =>
  kO (loadOne h v1) ds h (fun v2 ds h =>
  kO (loadAgg 5 h (tg tm 12)) ds h (fun v3 ds h =>
  kA (mkLit 48 1 h.next (fill (repl [(.string (strB [])), (.string (strB [])), (.int .u32 (0)), (.int .i64 (0)), (.int .u64 (0))] 1) (pl 5) [(0, v3)])) ds h (fun v4 ds h =>
  kH (appendV 48 5 56 h v2 v4) ds (fun v5 ds h =>
  kO (fieldPtr 2 (tg tm 7)) ds h (fun v6 ds h =>
  kO (fieldPtr 1 v6) ds h (fun v7 ds h =>
  kH (withV undef (storeV 1 h v7 v5)) ds (fun v8 ds h =>
  K .norm tm ds h)))))))))
noncomputable def r13_20 : CodeT := fun call _ tm ds h K =>
  kO (binV Tryd.prog .add 3 false (tg tm 10) (tg tm 13)) ds h (fun v3 ds h =>
  kO (binV Tryd.prog .add 3 true v3 (.int .i64 (4))) ds h (fun v4 ds h =>
  kO (binV Tryd.prog .add 3 false (tg tm 8) v4) ds h (fun v5 ds h =>
  K .norm (T.set tm 8 v5) ds h)))
noncomputable def r13_21 : CodeT := fun call _ tm ds h K => (⟨opStep ⟨fun call env tm ds h K => kO (some (tg tm 11)) ds h K⟩ ⟨fun v tm => tm⟩ ⟨fun env tm => true⟩
  ⟨opStep ⟨fun call env tm ds h K => kO (lenSl (nthD 0 env)) ds h K⟩ ⟨fun v tm => tm⟩ ⟨fun env tm => true⟩
  ⟨opStep ⟨fun call env tm ds h K => kO (binV Tryd.prog .eql 3 true (nthD 0 env) (.int .i64 (1))) ds h K⟩ ⟨fun v tm => tm⟩ ⟨fun env tm => true⟩
  ⟨opStep ⟨fun call env tm ds h K => kO (some (nthD 0 env)) ds h K⟩ ⟨fun v tm => tm⟩ ⟨fun env tm => true⟩
  ⟨opStep ⟨fun call env tm ds h K => kO (some (tg tm 11)) ds h K⟩ ⟨fun v tm => tm⟩ ⟨fun env tm => isB true (nthD 0 env)⟩
  ⟨opStep ⟨fun call env tm ds h K => kO (indexSl 1 (nthD 0 env) (.int .i64 (0))) ds h K⟩ ⟨fun v tm => tm⟩ ⟨fun env tm => isB true (nthD 1 env)⟩
  ⟨opStep ⟨fun call env tm ds h K => kO (loadOne h (nthD 0 env)) ds h K⟩ ⟨fun v tm => tm⟩ ⟨fun env tm => isB true (nthD 2 env)⟩
  ⟨opStep ⟨fun call env tm ds h K => kO (binV Tryd.prog .eql 9 true (nthD 0 env) (.string (strB [69, 78, 68]))) ds h K⟩ ⟨fun v tm => tm⟩ ⟨fun env tm => isB true (nthD 3 env)⟩
  ⟨opStep ⟨fun call env tm ds h K => kO (pickV (nthD 4 env) (nthD 0 env) (.bool false)) ds h K⟩ ⟨fun v tm => tm⟩ ⟨fun env tm => true⟩
  ⟨opStep ⟨fun call env tm ds h K => kO (some (nthD 0 env)) ds h K⟩ ⟨fun v tm => tm⟩ ⟨fun env tm => true⟩
  ⟨opStep ⟨fun call env tm ds h K => kO (some (tg tm 1)) ds h K⟩ ⟨fun v tm => tm⟩ ⟨fun env tm => isB true (nthD 0 env)⟩
  ⟨opStep ⟨fun call env tm ds h K => kO (binV Tryd.prog .eql 5 true (nthD 0 env) (.int .u8 (1))) ds h K⟩ ⟨fun v tm => tm⟩ ⟨fun env tm => isB true (nthD 1 env)⟩
  ⟨opStep ⟨fun call env tm ds h K => kO (pickV (nthD 2 env) (nthD 0 env) (.bool false)) ds h K⟩ ⟨fun v tm => (T.set tm 130 v)⟩ ⟨fun env tm => true⟩
  ⟨fun _ _ tm ds h K => K .norm tm ds h⟩⟩⟩⟩⟩⟩⟩⟩⟩⟩⟩⟩⟩⟩ : Box OpsT).f call [] tm ds h K
noncomputable def r13_22 : CodeT := fun call _ tm ds h K =>
  kO (loadAgg 7 h (tg tm 7)) ds h (fun v0 ds h =>
  kO (binV Tryd.prog .add 3 false (tg tm 8) (tg tm 10)) ds h (fun v3 ds h =>
  kO (binV Tryd.prog .add 3 true v3 (.int .i64 (2))) ds h (fun v4 ds h =>
  kH (withV undef (storeV 7 h (tg tm 4) v0)) ds (fun v5 ds h =>
  K .norm (T.set (T.set tm 5 v4) 6 (.int .i64 (0))) ds h))))
noncomputable def r13_23 : CodeT := fun call _ tm ds h K =>
  call 31 [(tg tm 11), (tg tm 1)] h (fun v h => (fun v2 ds h =>
  kO (tupNth 0 v2) ds h (fun v4 ds h =>
  kO (tupNth 1 v2) ds h (fun v5 ds h =>
  kA (some (.rw [(.int .u8 (0)), (.int .u8 (0)), (.int .u8 (0)), (.slice none 0 0), (.int .u64 (0)), (.bool false), (.string (strB []))] (some 27), ptrTo h.next)) ds h (fun v6 ds h =>
  kH (withV undef (storeV 7 h v6 v4)) ds (fun v7 ds h =>
  K .norm (T.set (T.set tm 15 v6) 16 v5) ds h))))) v ds h)
noncomputable def r13_24 : CodeT := fun call _ tm ds h K =>
  gd (isB true (tg tm 16)) (fun k => kO (some (tg tm 8)) ds h (k)) ds h (fun v2 ds h =>
  gd (isB true (tg tm 16)) (fun k => kO (binV Tryd.prog .eql 3 true v2 (.int .i64 (0))) ds h (k)) ds h (fun v3 ds h =>
  kO (pickV (tg tm 16) v3 (.bool false)) ds h (fun v4 ds h =>
  K .norm (T.set tm 146 v4) ds h)))
noncomputable def r13_25 : CodeT := fun call _ tm ds h K =>
  kO (loadAgg 7 h (tg tm 15)) ds h (fun v0 ds h =>
  kO (binV Tryd.prog .add 3 true (tg tm 10) (.int .i64 (2))) ds h (fun v2 ds h =>
  kH (withV undef (storeV 7 h (tg tm 4) v0)) ds (fun v3 ds h =>
  K .norm (T.set (T.set tm 5 v2) 6 (.int .i64 (0))) ds h)))
noncomputable def r13_26 : CodeT := fun call _ tm ds h K =>
  kO (aggO (fill [(.int .u8 (0)), (.int .u8 (0)), (.int .u8 (0)), (.slice none 0 0), (.int .u64 (0)), (.bool false), (.string (strB []))] (plc [(0, 1), (1, 1), (2, 3), (5, 1), (6, 1)]) [])) ds h (fun v0 ds h =>
  kH (withV undef (storeV 7 h (tg tm 4) v0)) ds (fun v1 ds h =>
  K .norm (T.set (T.set tm 5 (.int .i64 (0))) 6 (.int .i64 (8))) ds h))
noncomputable def l13_27 : Box CodeT := ⟨blockC 1 ⟨seqC ⟨r13_5⟩ ⟨seqC ⟨r13_6⟩ ⟨seqC ⟨blockC 2 ⟨seqC ⟨r13_7⟩ ⟨condC ⟨fun _ tm => tg tm 35⟩ ⟨seqC ⟨r13_8⟩ retC⟩ ⟨seqC ⟨r13_9⟩ ⟨condC ⟨fun _ tm => tg tm 44⟩ ⟨seqC ⟨r13_10⟩ retC⟩ skipC⟩⟩⟩⟩⟩ ⟨seqC ⟨r13_11⟩ ⟨seqC ⟨seqC ⟨r13_12⟩ ⟨seqC ⟨r13_13⟩ ⟨condC ⟨fun _ tm => tg tm 70⟩ ⟨seqC ⟨blockC 3 ⟨seqC ⟨r13_14⟩ ⟨condC ⟨fun _ tm => tg tm 71⟩ ⟨seqC ⟨r13_15⟩ retC⟩ ⟨seqC ⟨r13_16⟩ ⟨condC ⟨fun _ tm => tg tm 80⟩ ⟨seqC ⟨r13_17⟩ retC⟩ skipC⟩⟩⟩⟩⟩ ⟨seqC ⟨r13_18⟩ ⟨seqC ⟨r13_19⟩ ⟨seqC ⟨r13_20⟩ (exitC 1)⟩⟩⟩⟩ skipC⟩⟩⟩ ⟨seqC ⟨seqC ⟨r13_21⟩ ⟨condC ⟨fun _ tm => tg tm 130⟩ ⟨seqC ⟨r13_22⟩ retC⟩ skipC⟩⟩ ⟨seqC ⟨seqC ⟨r13_23⟩ ⟨seqC ⟨r13_24⟩ ⟨condC ⟨fun _ tm => tg tm 146⟩ ⟨seqC ⟨r13_25⟩ retC⟩ skipC⟩⟩⟩ ⟨seqC ⟨r13_26⟩ retC⟩⟩⟩⟩⟩⟩⟩⟩⟩
noncomputable def c13 : Box CodeT := ⟨seqC ⟨r13_0⟩ ⟨seqC ⟨seqC ⟨r13_1⟩ ⟨condC ⟨fun _ tm => tg tm 19⟩ ⟨seqC ⟨r13_2⟩ retC⟩ skipC⟩⟩ ⟨seqC ⟨r13_3⟩ ⟨seqC ⟨r13_4⟩ ⟨blockC 0 (loopB l13_27)⟩⟩⟩⟩⟩
noncomputable def q13 : Box (T Value → H → Option (List Value)) := ⟨fun tm h => (match loadAgg 7 h (tg tm 4) with | some v => (match (some [tg tm 5, tg tm 6] : Option (List Value)) with | some l => some (v :: l) | none => none) | none => none)⟩

/-! 14 cloakroom/cloakroomref15.Read -/
/-! 15 cloakroom/cloakroomref15.Same -/
noncomputable def r15_0 : CodeT := fun call _ tm ds h K =>
  kA (some (.rw (Value.cells (tg tm 0)).toList (some 27), ptrTo h.next)) ds h (fun v0 ds h =>
  kA (some (.rw (Value.cells (tg (T.set tm 2 v0) 1)).toList (some 27), ptrTo h.next)) ds h (fun v1 ds h =>
  K .norm (T.set (T.set (T.set tm 2 v0) 3 v1) 4 (.bool false)) ds h))
noncomputable def r15_1 : CodeT := fun call _ tm ds h K => (⟨opStep ⟨fun call env tm ds h K => kO (fieldPtr 0 (tg tm 2)) ds h K⟩ ⟨fun v tm => tm⟩ ⟨fun env tm => true⟩
  ⟨opStep ⟨fun call env tm ds h K => kO (loadOne h (nthD 0 env)) ds h K⟩ ⟨fun v tm => tm⟩ ⟨fun env tm => true⟩
  ⟨opStep ⟨fun call env tm ds h K => kO (fieldPtr 0 (tg tm 3)) ds h K⟩ ⟨fun v tm => tm⟩ ⟨fun env tm => true⟩
  ⟨opStep ⟨fun call env tm ds h K => kO (loadOne h (nthD 0 env)) ds h K⟩ ⟨fun v tm => tm⟩ ⟨fun env tm => true⟩
  ⟨opStep ⟨fun call env tm ds h K => kO (binV Tryd.prog .eql 5 false (nthD 2 env) (nthD 0 env)) ds h K⟩ ⟨fun v tm => tm⟩ ⟨fun env tm => true⟩
  ⟨opStep ⟨fun call env tm ds h K => kO (some (nthD 0 env)) ds h K⟩ ⟨fun v tm => tm⟩ ⟨fun env tm => true⟩
  ⟨opStep ⟨fun call env tm ds h K => kO (fieldPtr 1 (tg tm 2)) ds h K⟩ ⟨fun v tm => tm⟩ ⟨fun env tm => isB true (nthD 0 env)⟩
  ⟨opStep ⟨fun call env tm ds h K => kO (loadOne h (nthD 0 env)) ds h K⟩ ⟨fun v tm => tm⟩ ⟨fun env tm => isB true (nthD 1 env)⟩
  ⟨opStep ⟨fun call env tm ds h K => kO (fieldPtr 1 (tg tm 3)) ds h K⟩ ⟨fun v tm => tm⟩ ⟨fun env tm => isB true (nthD 2 env)⟩
  ⟨opStep ⟨fun call env tm ds h K => kO (loadOne h (nthD 0 env)) ds h K⟩ ⟨fun v tm => tm⟩ ⟨fun env tm => isB true (nthD 3 env)⟩
  ⟨opStep ⟨fun call env tm ds h K => kO (binV Tryd.prog .eql 5 false (nthD 2 env) (nthD 0 env)) ds h K⟩ ⟨fun v tm => tm⟩ ⟨fun env tm => isB true (nthD 4 env)⟩
  ⟨opStep ⟨fun call env tm ds h K => kO (pickV (nthD 5 env) (nthD 0 env) (.bool false)) ds h K⟩ ⟨fun v tm => tm⟩ ⟨fun env tm => true⟩
  ⟨opStep ⟨fun call env tm ds h K => kO (some (nthD 0 env)) ds h K⟩ ⟨fun v tm => tm⟩ ⟨fun env tm => true⟩
  ⟨opStep ⟨fun call env tm ds h K => kO (fieldPtr 2 (tg tm 2)) ds h K⟩ ⟨fun v tm => tm⟩ ⟨fun env tm => isB true (nthD 0 env)⟩
  ⟨opStep ⟨fun call env tm ds h K => kO (loadAgg 3 h (nthD 0 env)) ds h K⟩ ⟨fun v tm => tm⟩ ⟨fun env tm => isB true (nthD 1 env)⟩
  ⟨opStep ⟨fun call env tm ds h K => kO (fieldPtr 2 (tg tm 3)) ds h K⟩ ⟨fun v tm => tm⟩ ⟨fun env tm => isB true (nthD 2 env)⟩
  ⟨opStep ⟨fun call env tm ds h K => kO (loadAgg 3 h (nthD 0 env)) ds h K⟩ ⟨fun v tm => tm⟩ ⟨fun env tm => isB true (nthD 3 env)⟩
  ⟨opStep ⟨fun call env tm ds h K => call 36 [(nthD 2 env), (nthD 0 env)] h (fun v h => (K) v ds h)⟩ ⟨fun v tm => tm⟩ ⟨fun env tm => isB true (nthD 4 env)⟩
  ⟨opStep ⟨fun call env tm ds h K => kO (pickV (nthD 5 env) (nthD 0 env) (.bool false)) ds h K⟩ ⟨fun v tm => tm⟩ ⟨fun env tm => true⟩
  ⟨opStep ⟨fun call env tm ds h K => kO (some (nthD 0 env)) ds h K⟩ ⟨fun v tm => tm⟩ ⟨fun env tm => true⟩
  ⟨opStep ⟨fun call env tm ds h K => kO (fieldPtr 5 (tg tm 2)) ds h K⟩ ⟨fun v tm => tm⟩ ⟨fun env tm => isB true (nthD 0 env)⟩
  ⟨opStep ⟨fun call env tm ds h K => kO (loadOne h (nthD 0 env)) ds h K⟩ ⟨fun v tm => tm⟩ ⟨fun env tm => isB true (nthD 1 env)⟩
  ⟨opStep ⟨fun call env tm ds h K => kO (fieldPtr 5 (tg tm 3)) ds h K⟩ ⟨fun v tm => tm⟩ ⟨fun env tm => isB true (nthD 2 env)⟩
  ⟨opStep ⟨fun call env tm ds h K => kO (loadOne h (nthD 0 env)) ds h K⟩ ⟨fun v tm => tm⟩ ⟨fun env tm => isB true (nthD 3 env)⟩
  ⟨opStep ⟨fun call env tm ds h K => kO (binV Tryd.prog .eql 4 false (nthD 2 env) (nthD 0 env)) ds h K⟩ ⟨fun v tm => tm⟩ ⟨fun env tm => isB true (nthD 4 env)⟩
  ⟨opStep ⟨fun call env tm ds h K => kO (pickV (nthD 5 env) (nthD 0 env) (.bool false)) ds h K⟩ ⟨fun v tm => tm⟩ ⟨fun env tm => true⟩
  ⟨opStep ⟨fun call env tm ds h K => kO (some (nthD 0 env)) ds h K⟩ ⟨fun v tm => tm⟩ ⟨fun env tm => true⟩
  ⟨opStep ⟨fun call env tm ds h K => kO (fieldPtr 6 (tg tm 2)) ds h K⟩ ⟨fun v tm => tm⟩ ⟨fun env tm => isB true (nthD 0 env)⟩
  ⟨opStep ⟨fun call env tm ds h K => kO (loadOne h (nthD 0 env)) ds h K⟩ ⟨fun v tm => tm⟩ ⟨fun env tm => isB true (nthD 1 env)⟩
  ⟨opStep ⟨fun call env tm ds h K => kO (fieldPtr 6 (tg tm 3)) ds h K⟩ ⟨fun v tm => tm⟩ ⟨fun env tm => isB true (nthD 2 env)⟩
  ⟨opStep ⟨fun call env tm ds h K => kO (loadOne h (nthD 0 env)) ds h K⟩ ⟨fun v tm => tm⟩ ⟨fun env tm => isB true (nthD 3 env)⟩
  ⟨opStep ⟨fun call env tm ds h K => kO (binV Tryd.prog .eql 9 false (nthD 2 env) (nthD 0 env)) ds h K⟩ ⟨fun v tm => tm⟩ ⟨fun env tm => isB true (nthD 4 env)⟩
  ⟨opStep ⟨fun call env tm ds h K => kO (pickV (nthD 5 env) (nthD 0 env) (.bool false)) ds h K⟩ ⟨fun v tm => tm⟩ ⟨fun env tm => true⟩
  ⟨opStep ⟨fun call env tm ds h K => kO (some (nthD 0 env)) ds h K⟩ ⟨fun v tm => (T.set tm 4 v)⟩ ⟨fun env tm => true⟩
  ⟨fun _ _ tm ds h K => K .norm tm ds h⟩⟩⟩⟩⟩⟩⟩⟩⟩⟩⟩⟩⟩⟩⟩⟩⟩⟩⟩⟩⟩⟩⟩⟩⟩⟩⟩⟩⟩⟩⟩⟩⟩⟩⟩ : Box OpsT).f call [] tm ds h K
noncomputable def c15 : Box CodeT := ⟨seqC ⟨r15_0⟩ ⟨seqC ⟨r15_1⟩ retC⟩⟩
noncomputable def q15 : Box (T Value → H → Option (List Value)) := ⟨fun tm h => some [tg tm 4]⟩

/-! 18 cloakroom/words.plain -/
noncomputable def r18_0 : CodeT := fun call _ tm ds h K =>
  K .norm (T.set tm 2 (.bool false)) ds h
noncomputable def r18_1 : CodeT := fun call _ tm ds h K =>
  call 38 [(tg tm 0), (.func (.func 39) #[] #[])] h (fun v h => (fun v1 ds h =>
  kO (binV Tryd.prog .lss 3 true v1 (.int .i64 (0))) ds h (fun v2 ds h =>
  K .norm (T.set tm 2 v2) ds h)) v ds h)
noncomputable def c18 : Box CodeT := ⟨seqC ⟨r18_0⟩ ⟨seqC ⟨r18_1⟩ retC⟩⟩
noncomputable def q18 : Box (T Value → H → Option (List Value)) := ⟨fun tm h => some [tg tm 2]⟩

/-! 19 slices.ContainsFunc[[]cloakroom/api.Item,cloakroom/api.Item] -/
noncomputable def r19_0 : CodeT := fun call _ tm ds h K =>
  K .norm (T.set tm 4 (.bool false)) ds h
noncomputable def r19_1 : CodeT := fun call _ tm ds h K =>
  call 40 [(tg tm 0), (tg tm 1)] h (fun v h => (fun v2 ds h =>
  kO (binV Tryd.prog .geq 3 true v2 (.int .i64 (0))) ds h (fun v3 ds h =>
  K .norm (T.set tm 4 v3) ds h)) v ds h)
noncomputable def c19 : Box CodeT := ⟨seqC ⟨r19_0⟩ ⟨seqC ⟨r19_1⟩ retC⟩⟩
noncomputable def q19 : Box (T Value → H → Option (List Value)) := ⟨fun tm h => some [tg tm 4]⟩

/-! 20 cloakroom/words.Write$1 -/
noncomputable def r20_0 : CodeT := fun call _ tm ds h K =>
  kA (some (.rw (Value.cells (tg tm 0)).toList (some 48), ptrTo h.next)) ds h (fun v0 ds h =>
  K .norm (T.set (T.set tm 1 v0) 2 (.bool false)) ds h)
noncomputable def r20_1 : CodeT := fun call _ tm ds h K =>
  kO (fieldPtr 0 (tg tm 1)) ds h (fun v0 ds h =>
  kO (loadOne h v0) ds h (fun v1 ds h =>
  call 18 [v1] h (fun v h => (fun v2 ds h =>
  kO (unV .not v2) ds h (fun v3 ds h =>
  K .norm (T.set tm 2 v3) ds h)) v ds h)))
noncomputable def c20 : Box CodeT := ⟨seqC ⟨r20_0⟩ ⟨seqC ⟨r20_1⟩ retC⟩⟩
noncomputable def q20 : Box (T Value → H → Option (List Value)) := ⟨fun tm h => some [tg tm 2]⟩

/-! 21 cloakroom/words.results -/
noncomputable def r21_0 : CodeT := fun call _ tm ds h K =>
  kA (some (.rw [(.string (strB [])), (.string (strB [])), (.string (strB [])), (.string (strB [])), (.string (strB [])), (.string (strB [])), (.string (strB [])), (.string (strB []))] (some 52), ptrTo h.next)) ds h (fun v0 ds h =>
  K .norm (T.set tm 0 v0) ds h)
noncomputable def r21_1 : CodeT := fun call _ tm ds h K =>
  kO (aggO (fill [(.string (strB [])), (.string (strB [])), (.string (strB [])), (.string (strB [])), (.string (strB [])), (.string (strB [])), (.string (strB [])), (.string (strB []))] (pl 1) [(2, (.string (strB [78, 79, 84, 95, 70, 79, 85, 78, 68]))), (3, (.string (strB [69, 88, 73, 83, 84, 83]))), (4, (.string (strB [84, 79, 79, 95, 76, 65, 82, 71, 69]))), (5, (.string (strB [78, 79, 95, 77, 69, 77, 79, 82, 89]))), (6, (.string (strB [78, 79, 84, 95, 78, 85, 77, 66, 69, 82]))), (7, (.string (strB [68, 69, 78, 73, 69, 68])))])) ds h (fun v0 ds h =>
  kH (withV undef (storeV 8 h (tg tm 0) v0)) ds (fun v1 ds h =>
  K .norm tm ds h))
noncomputable def c21 : Box CodeT := ⟨seqC ⟨r21_0⟩ ⟨seqC ⟨r21_1⟩ retC⟩⟩
noncomputable def q21 : Box (T Value → H → Option (List Value)) := ⟨fun tm h => (match loadAgg 8 h (tg tm 0) with | some v => (match (some [] : Option (List Value)) with | some l => some (v :: l) | none => none) | none => none)⟩

/-! 22 cloakroom/words.done -/
noncomputable def r22_0 : CodeT := fun call _ tm ds h K =>
  kA (some (.rw (Value.cells (tg tm 0)).toList (some 27), ptrTo h.next)) ds h (fun v0 ds h =>
  K .norm (T.set (T.set tm 1 v0) 2 (.string (strB []))) ds h)
noncomputable def r22_1 : CodeT := fun call _ tm ds h K =>
  kA (some (.rw [(.pointer none), (.slice none 0 0)] (some 74), ptrTo h.next)) ds h (fun v0 ds h =>
  K .norm (T.set tm 3 v0) ds h)
noncomputable def r22_2 : CodeT := fun call _ tm ds h K =>
  kO (fieldPtr 2 (tg tm 1)) ds h (fun v0 ds h =>
  kO (fieldPtr 1 v0) ds h (fun v1 ds h =>
  kO (loadOne h v1) ds h (fun v2 ds h =>
  kO (lenSl v2) ds h (fun v3 ds h =>
  K .norm (T.set (T.set (T.set tm 10 v2) 11 v3) 12 (.int .i64 (0))) ds h))))
noncomputable def r22_3 : CodeT := fun call _ tm ds h K =>
  kO (binV Tryd.prog .lss 3 false (tg tm 12) (tg tm 11)) ds h (fun v0 ds h =>
  K .norm (T.set tm 13 v0) ds h)
noncomputable def r22_4 : CodeT := fun call _ tm ds h K =>
  kO (indexSl 5 (tg tm 10) (tg tm 12)) ds h (fun v0 ds h =>
  kO (loadAgg 5 h v0) ds h (fun v1 ds h =>
  kA (some (.rw [(.string (strB [])), (.string (strB [])), (.int .u32 (0)), (.int .i64 (0)), (.int .u64 (0))] (some 48), ptrTo h.next)) ds h (fun v2 ds h =>
  kH (withV undef (storeV 5 h v2 v1)) ds (fun v3 ds h =>
  K .norm (T.set tm 5 v2) ds h))))
noncomputable def r22_5 : CodeT := fun call _ tm ds h0 K =>
  (fun (b0 : Nat) (h : H) =>
  kO (fieldPtr 0 (tg tm 5)) ds h (fun v0 ds h =>
  kO (loadOne h v0) ds h (fun v1 ds h =>
  kO (fieldPtr 2 (tg tm 5)) ds h (fun v2 ds h =>
  kO (loadOne h v2) ds h (fun v3 ds h =>
  kO (toInt .u64 v3) ds h (fun v4 ds h =>
  kO (fieldPtr 3 (tg tm 5)) ds h (fun v6 ds h =>
  kO (loadOne h v6) ds h (fun v7 ds h =>
  kO (toInt .u64 v7) ds h (fun v8 ds h =>
  kO (fieldPtr 4 (tg tm 5)) ds h (fun v10 ds h =>
  kO (loadOne h v10) ds h (fun v11 ds h =>
  kO (fieldPtr 1 (tg tm 5)) ds h (fun v13 ds h =>
  kO (loadOne h v13) ds h (fun v14 ds h =>
  kO (lenStr v14) ds h (fun v15 ds h =>
  kO (toInt .u64 v15) ds h (fun v16 ds h =>
  kO (fieldPtr 1 (tg tm 5)) ds h (fun v21 ds h =>
  kO (loadOne h v21) ds h (fun v22 ds h =>
  call 43 [v4] h (fun v h => (fun v5 ds h =>
  andB ((hO (loadOne h v21) v22 (hO (loadOne h v13) v14 (hO (loadOne h v10) v11 (hO (loadOne h v6) v7 (hO (loadOne h v0) v1 true))))) && true) (call 43 [v8] h (fun v h => (fun v9 ds h =>
  andB ((hO (loadOne h v21) v22 (hO (loadOne h v13) v14 (hO (loadOne h v10) v11 (hO (loadOne h v0) v1 true)))) && true) (call 43 [v11] h (fun v h => (fun v12 ds h =>
  andB ((hO (loadOne h v21) v22 (hO (loadOne h v13) v14 (hO (loadOne h v0) v1 true))) && true) (call 43 [v16] h (fun v h => (fun v17 ds h =>
  andB ((hO (loadOne h v21) v22 (hO (loadOne h v0) v1 true)) && true) (aO (mkLit 9 6 (b0 + 18) (fill (repl [(.string (strB []))] 6) (pl 1) [(0, (.string (strB [86, 65, 76, 85, 69]))), (1, v1), (2, v5), (3, v9), (4, v12), (5, v17)])) (fun x18 v18 =>
  call 42 [v18, (.string (strB [32]))] (H.put h (b0 + 18) x18) (fun v h => (fun v19 ds h =>
  andB ((hO (loadOne h v21) v22 true) && true) (kO (binV Tryd.prog .add 9 true v19 (.string (strB [13, 10]))) ds h (fun v20 ds h =>
  kO (binV Tryd.prog .add 9 false v20 v22) ds h (fun v23 ds h =>
  kO (binV Tryd.prog .add 9 true v23 (.string (strB [13, 10]))) ds h (fun v24 ds h =>
  call 41 [(tg tm 3), v24] h (fun v h => (fun v25 ds h =>
  K .norm tm ds h) v ds h)))))) v ds h)))) v ds h))) v ds h))) v ds h))) v ds h)))))))))))))))))) h0.next ⟨h0.objs, h0.next + 26⟩
noncomputable def r22_6 : CodeT := fun call _ tm ds h K =>
  kO (binV Tryd.prog .add 3 true (tg tm 12) (.int .i64 (1))) ds h (fun v0 ds h =>
  K .norm (T.set tm 12 v0) ds h)
noncomputable def l22_7 : Box CodeT := ⟨seqC ⟨r22_3⟩ ⟨seqC ⟨condC ⟨fun _ tm => tg tm 13⟩ skipC (exitC 0)⟩ ⟨seqC ⟨blockC 1 ⟨seqC ⟨r22_4⟩ ⟨r22_5⟩⟩⟩ ⟨r22_6⟩⟩⟩⟩
noncomputable def r22_7 : CodeT := fun call _ tm ds h K =>
  call 44 [] h (fun v h => (fun v0 ds h =>
  K .norm (T.set (T.set tm 43 v0) 44 (.int .i64 (0))) ds h) v ds h)
noncomputable def r22_8 : CodeT := fun call _ tm ds h K =>
  kO (binV Tryd.prog .lss 3 true (tg tm 44) (.int .i64 (6))) ds h (fun v0 ds h =>
  K .norm (T.set tm 45 v0) ds h)
noncomputable def r22_9 : CodeT := fun call _ tm ds h K =>
  kO (indexAgg false 1 6 (tg tm 43) (tg tm 44)) ds h (fun v0 ds h =>
  K .norm (T.set tm 7 v0) ds h)
noncomputable def r22_10 : CodeT := fun call _ tm ds h K =>
  kO (fieldPtr 1 (tg tm 1)) ds h (fun v1 ds h =>
  kO (loadOne h v1) ds h (fun v2 ds h =>
  call 45 [(tg tm 7), v2] h (fun v h => (fun v3 ds h =>
  K .norm (T.set tm 50 v3) ds h) v ds h)))
noncomputable def r22_11 : CodeT := fun call _ tm ds h K =>
  call 41 [(tg tm 3), (tg tm 7)] h (fun v h => (fun v1 ds h =>
  K .norm tm ds h) v ds h)
noncomputable def r22_12 : CodeT := fun call _ tm ds h K =>
  kO (binV Tryd.prog .add 3 true (tg tm 44) (.int .i64 (1))) ds h (fun v0 ds h =>
  K .norm (T.set tm 44 v0) ds h)
noncomputable def l22_14 : Box CodeT := ⟨seqC ⟨r22_8⟩ ⟨seqC ⟨condC ⟨fun _ tm => tg tm 45⟩ skipC (exitC 2)⟩ ⟨seqC ⟨blockC 3 ⟨seqC ⟨r22_9⟩ ⟨seqC ⟨r22_10⟩ ⟨condC ⟨fun _ tm => tg tm 50⟩ ⟨r22_11⟩ skipC⟩⟩⟩⟩ ⟨r22_12⟩⟩⟩⟩
noncomputable def r22_13 : CodeT := fun call _ tm ds h K =>
  kO (fieldPtr 1 (tg tm 1)) ds h (fun v0 ds h =>
  kO (loadOne h v0) ds h (fun v1 ds h =>
  call 46 [v1] h (fun v h => (fun v2 ds h =>
  K .norm (T.set tm 56 v2) ds h) v ds h)))
noncomputable def r22_14 : CodeT := fun call _ tm ds h K =>
  kO (fieldPtr 2 (tg tm 1)) ds h (fun v0 ds h =>
  kO (fieldPtr 2 v0) ds h (fun v1 ds h =>
  kO (loadOne h v1) ds h (fun v2 ds h =>
  call 43 [v2] h (fun v h => (fun v3 ds h =>
  kO (binV Tryd.prog .add 9 true (.string (strB [32])) v3) ds h (fun v4 ds h =>
  call 41 [(tg tm 3), v4] h (fun v h => (fun v5 ds h =>
  K .norm tm ds h) v ds h))) v ds h))))
noncomputable def r22_15 : CodeT := fun call _ tm ds h K =>
  call 47 [(tg tm 3)] h (fun v h => (fun v0 ds h =>
  K .norm (T.set tm 2 v0) ds h) v ds h)
noncomputable def c22 : Box CodeT := ⟨seqC ⟨r22_0⟩ ⟨seqC ⟨r22_1⟩ ⟨seqC ⟨seqC ⟨r22_2⟩ ⟨blockC 0 (loopB l22_7)⟩⟩ ⟨seqC ⟨seqC ⟨r22_7⟩ ⟨blockC 2 (loopB l22_14)⟩⟩ ⟨seqC ⟨seqC ⟨r22_13⟩ ⟨condC ⟨fun _ tm => tg tm 56⟩ ⟨r22_14⟩ skipC⟩⟩ ⟨seqC ⟨r22_15⟩ retC⟩⟩⟩⟩⟩⟩
noncomputable def q22 : Box (T Value → H → Option (List Value)) := ⟨fun tm h => some [tg tm 2]⟩

/-! 23 cloakroom/words.either -/
noncomputable def r23_0 : CodeT := fun call _ tm ds h K =>
  K .norm (T.set tm 6 (.string (strB []))) ds h
noncomputable def r23_1 : CodeT := fun call _ tm ds h K =>
  K .norm (T.set tm 7 (tg tm 0)) ds h
noncomputable def r23_2 : CodeT := fun call _ tm ds h K =>
  K .norm (T.set tm 6 (tg tm 1)) ds h
noncomputable def r23_3 : CodeT := fun call _ tm ds h K =>
  K .norm (T.set tm 6 (tg tm 2)) ds h
noncomputable def c23 : Box CodeT := ⟨seqC ⟨r23_0⟩ ⟨seqC ⟨seqC ⟨r23_1⟩ ⟨condC ⟨fun _ tm => tg tm 7⟩ ⟨seqC ⟨r23_2⟩ retC⟩ skipC⟩⟩ ⟨seqC ⟨r23_3⟩ retC⟩⟩⟩
noncomputable def q23 : Box (T Value → H → Option (List Value)) := ⟨fun tm h => some [tg tm 6]⟩

/-! 24 cloakroom/cloakroomref15.May -/
/-! 25 cloakroom/cloakroomref15.plain -/
/-! 26 cloakroom/cloakroomref15.Lines -/
/-! 27 cloakroom/words.result -/
noncomputable def r27_0 : CodeT := fun call _ tm ds h K =>
  kA (some (.rw (Value.cells (tg tm 1)).toList (some 25), ptrTo h.next)) ds h (fun v0 ds h =>
  K .norm (T.set (T.set tm 3 v0) 4 (.bool false)) ds h)
noncomputable def r27_1 : CodeT := fun call _ tm ds h K =>
  kO (fieldPtr 0 (tg tm 3)) ds h (fun v0 ds h =>
  kO (loadOne h v0) ds h (fun v1 ds h =>
  kO (binV Tryd.prog .eql 5 true v1 (.int .u8 (1))) ds h (fun v2 ds h =>
  K .norm (T.set tm 5 v2) ds h)))
noncomputable def r27_2 : CodeT := fun call _ tm ds h K =>
  kO (binV Tryd.prog .lss 5 true (tg tm 0) (.int .u8 (1))) ds h (fun v1 ds h =>
  K .norm (T.set tm 9 v1) ds h)
noncomputable def r27_3 : CodeT := fun call _ tm ds h K =>
  kO (binV Tryd.prog .gtr 5 true (tg tm 0) (.int .u8 (11))) ds h (fun v1 ds h =>
  K .norm (T.set tm 9 v1) ds h)
noncomputable def r27_4 : CodeT := fun call _ tm ds h K =>
  kO (fieldPtr 0 (tg tm 3)) ds h (fun v0 ds h =>
  kO (loadOne h v0) ds h (fun v1 ds h =>
  kO (binV Tryd.prog .lss 5 true v1 (.int .u8 (1))) ds h (fun v2 ds h =>
  K .norm (T.set tm 9 v2) ds h)))
noncomputable def r27_5 : CodeT := fun call _ tm ds h K =>
  kO (fieldPtr 0 (tg tm 3)) ds h (fun v0 ds h =>
  kO (loadOne h v0) ds h (fun v1 ds h =>
  kO (binV Tryd.prog .gtr 5 true v1 (.int .u8 (7))) ds h (fun v2 ds h =>
  K .norm (T.set tm 9 v2) ds h)))
noncomputable def r27_6 : CodeT := fun call _ tm ds h K =>
  K .norm (T.set tm 4 (.bool false)) ds h
noncomputable def r27_7 : CodeT := fun call _ tm ds h K => (⟨opStep ⟨fun call env tm ds h K => kO (fieldPtr 1 (tg tm 3)) ds h K⟩ ⟨fun v tm => tm⟩ ⟨fun env tm => true⟩
  ⟨opStep ⟨fun call env tm ds h K => kO (loadOne h (nthD 0 env)) ds h K⟩ ⟨fun v tm => tm⟩ ⟨fun env tm => true⟩
  ⟨opStep ⟨fun call env tm ds h K => kO (lenSl (nthD 0 env)) ds h K⟩ ⟨fun v tm => tm⟩ ⟨fun env tm => true⟩
  ⟨opStep ⟨fun call env tm ds h K => kO (binV Tryd.prog .gtr 3 true (nthD 0 env) (.int .i64 (0))) ds h K⟩ ⟨fun v tm => tm⟩ ⟨fun env tm => true⟩
  ⟨opStep ⟨fun call env tm ds h K => kO (some (nthD 0 env)) ds h K⟩ ⟨fun v tm => tm⟩ ⟨fun env tm => true⟩
  ⟨opStep ⟨fun call env tm ds h K => kO (some (tg tm 5)) ds h K⟩ ⟨fun v tm => tm⟩ ⟨fun env tm => isB true (nthD 0 env)⟩
  ⟨opStep ⟨fun call env tm ds h K => kO (some (nthD 0 env)) ds h K⟩ ⟨fun v tm => tm⟩ ⟨fun env tm => isB true (nthD 1 env)⟩
  ⟨opStep ⟨fun call env tm ds h K => kO (some (tg tm 0)) ds h K⟩ ⟨fun v tm => tm⟩ ⟨fun env tm => isB true (nthD 0 env)⟩
  ⟨opStep ⟨fun call env tm ds h K => kO (binV Tryd.prog .eql 5 true (nthD 0 env) (.int .u8 (1))) ds h K⟩ ⟨fun v tm => tm⟩ ⟨fun env tm => isB true (nthD 1 env)⟩
  ⟨opStep ⟨fun call env tm ds h K => kO (pickV (nthD 2 env) (nthD 0 env) (.bool false)) ds h K⟩ ⟨fun v tm => tm⟩ ⟨fun env tm => isB true (nthD 4 env)⟩
  ⟨opStep ⟨fun call env tm ds h K => kO (unV .not (nthD 0 env)) ds h K⟩ ⟨fun v tm => tm⟩ ⟨fun env tm => isB true (nthD 5 env)⟩
  ⟨opStep ⟨fun call env tm ds h K => kO (pickV (nthD 6 env) (nthD 0 env) (.bool false)) ds h K⟩ ⟨fun v tm => tm⟩ ⟨fun env tm => true⟩
  ⟨opStep ⟨fun call env tm ds h K => kO (some (nthD 0 env)) ds h K⟩ ⟨fun v tm => (T.set tm 20 v)⟩ ⟨fun env tm => true⟩
  ⟨fun _ _ tm ds h K => K .norm tm ds h⟩⟩⟩⟩⟩⟩⟩⟩⟩⟩⟩⟩⟩⟩ : Box OpsT).f call [] tm ds h K
noncomputable def r27_8 : CodeT := fun call _ tm ds h K =>
  kO (fieldPtr 1 (tg tm 3)) ds h (fun v0 ds h =>
  kO (loadOne h v0) ds h (fun v1 ds h =>
  kO (lenSl v1) ds h (fun v2 ds h =>
  kO (binV Tryd.prog .gtr 3 true v2 (.int .i64 (8))) ds h (fun v3 ds h =>
  K .norm (T.set tm 20 v3) ds h))))
noncomputable def r27_9 : CodeT := fun call _ tm ds h K =>
  K .norm (T.set tm 4 (.bool false)) ds h
noncomputable def r27_10 : CodeT := fun call _ tm ds h K => (⟨opStep ⟨fun call env tm ds h K => kO (fieldPtr 2 (tg tm 3)) ds h K⟩ ⟨fun v tm => tm⟩ ⟨fun env tm => true⟩
  ⟨opStep ⟨fun call env tm ds h K => kO (loadOne h (nthD 0 env)) ds h K⟩ ⟨fun v tm => tm⟩ ⟨fun env tm => true⟩
  ⟨opStep ⟨fun call env tm ds h K => kO (binV Tryd.prog .neq 23 true (nthD 0 env) (.int .u64 (0))) ds h K⟩ ⟨fun v tm => tm⟩ ⟨fun env tm => true⟩
  ⟨opStep ⟨fun call env tm ds h K => kO (some (nthD 0 env)) ds h K⟩ ⟨fun v tm => tm⟩ ⟨fun env tm => true⟩
  ⟨opStep ⟨fun call env tm ds h K => kO (some (tg tm 5)) ds h K⟩ ⟨fun v tm => tm⟩ ⟨fun env tm => isB true (nthD 0 env)⟩
  ⟨opStep ⟨fun call env tm ds h K => kO (some (nthD 0 env)) ds h K⟩ ⟨fun v tm => tm⟩ ⟨fun env tm => isB true (nthD 1 env)⟩
  ⟨opStep ⟨fun call env tm ds h K => kO (some (tg tm 0)) ds h K⟩ ⟨fun v tm => tm⟩ ⟨fun env tm => isB true (nthD 0 env)⟩
  ⟨opStep ⟨fun call env tm ds h K => call 46 [(nthD 0 env)] h (fun v h => (K) v ds h)⟩ ⟨fun v tm => tm⟩ ⟨fun env tm => isB true (nthD 1 env)⟩
  ⟨opStep ⟨fun call env tm ds h K => kO (pickV (nthD 2 env) (nthD 0 env) (.bool false)) ds h K⟩ ⟨fun v tm => tm⟩ ⟨fun env tm => isB true (nthD 4 env)⟩
  ⟨opStep ⟨fun call env tm ds h K => kO (unV .not (nthD 0 env)) ds h K⟩ ⟨fun v tm => tm⟩ ⟨fun env tm => isB true (nthD 5 env)⟩
  ⟨opStep ⟨fun call env tm ds h K => kO (pickV (nthD 6 env) (nthD 0 env) (.bool false)) ds h K⟩ ⟨fun v tm => tm⟩ ⟨fun env tm => true⟩
  ⟨opStep ⟨fun call env tm ds h K => kO (some (nthD 0 env)) ds h K⟩ ⟨fun v tm => (T.set tm 37 v)⟩ ⟨fun env tm => true⟩
  ⟨fun _ _ tm ds h K => K .norm tm ds h⟩⟩⟩⟩⟩⟩⟩⟩⟩⟩⟩⟩⟩ : Box OpsT).f call [] tm ds h K
noncomputable def r27_11 : CodeT := fun call _ tm ds h K => (⟨opStep ⟨fun call env tm ds h K => kO (some (tg tm 0)) ds h K⟩ ⟨fun v tm => tm⟩ ⟨fun env tm => true⟩
  ⟨opStep ⟨fun call env tm ds h K => kO (binV Tryd.prog .eql 5 true (nthD 0 env) (.int .u8 (10))) ds h K⟩ ⟨fun v tm => tm⟩ ⟨fun env tm => true⟩
  ⟨opStep ⟨fun call env tm ds h K => kO (some (nthD 0 env)) ds h K⟩ ⟨fun v tm => tm⟩ ⟨fun env tm => true⟩
  ⟨opStep ⟨fun call env tm ds h K => kO (fieldPtr 2 (tg tm 3)) ds h K⟩ ⟨fun v tm => tm⟩ ⟨fun env tm => isB true (nthD 0 env)⟩
  ⟨opStep ⟨fun call env tm ds h K => kO (loadOne h (nthD 0 env)) ds h K⟩ ⟨fun v tm => tm⟩ ⟨fun env tm => isB true (nthD 1 env)⟩
  ⟨opStep ⟨fun call env tm ds h K => kO (binV Tryd.prog .gtr 23 true (nthD 0 env) (.int .u64 (8))) ds h K⟩ ⟨fun v tm => tm⟩ ⟨fun env tm => isB true (nthD 2 env)⟩
  ⟨opStep ⟨fun call env tm ds h K => kO (pickV (nthD 3 env) (nthD 0 env) (.bool false)) ds h K⟩ ⟨fun v tm => tm⟩ ⟨fun env tm => true⟩
  ⟨opStep ⟨fun call env tm ds h K => kO (some (nthD 0 env)) ds h K⟩ ⟨fun v tm => (T.set tm 37 v)⟩ ⟨fun env tm => true⟩
  ⟨fun _ _ tm ds h K => K .norm tm ds h⟩⟩⟩⟩⟩⟩⟩⟩⟩ : Box OpsT).f call [] tm ds h K
noncomputable def r27_12 : CodeT := fun call _ tm ds h K =>
  K .norm (T.set tm 4 (.bool false)) ds h
noncomputable def r27_13 : CodeT := fun call _ tm ds h K =>
  kO (fieldPtr 1 (tg tm 3)) ds h (fun v0 ds h =>
  kO (loadOne h v0) ds h (fun v1 ds h =>
  call 19 [v1, (.func (.func 54) #[] #[])] h (fun v h => (fun v2 ds h =>
  kO (unV .not v2) ds h (fun v3 ds h =>
  K .norm (T.set tm 4 v3) ds h)) v ds h)))
noncomputable def c27 : Box CodeT := ⟨seqC ⟨r27_0⟩ ⟨seqC ⟨r27_1⟩ ⟨seqC ⟨blockC 0 ⟨seqC ⟨seqC ⟨r27_2⟩ ⟨condC ⟨fun _ tm => tg tm 9⟩ skipC ⟨seqC ⟨r27_3⟩ ⟨condC ⟨fun _ tm => tg tm 9⟩ skipC ⟨seqC ⟨r27_4⟩ ⟨condC ⟨fun _ tm => tg tm 9⟩ skipC ⟨r27_5⟩⟩⟩⟩⟩⟩⟩ ⟨condC ⟨fun _ tm => tg tm 9⟩ ⟨seqC ⟨r27_6⟩ retC⟩ ⟨seqC ⟨seqC ⟨r27_7⟩ ⟨condC ⟨fun _ tm => tg tm 20⟩ skipC ⟨r27_8⟩⟩⟩ ⟨condC ⟨fun _ tm => tg tm 20⟩ ⟨seqC ⟨r27_9⟩ retC⟩ ⟨seqC ⟨seqC ⟨r27_10⟩ ⟨condC ⟨fun _ tm => tg tm 37⟩ skipC ⟨r27_11⟩⟩⟩ ⟨condC ⟨fun _ tm => tg tm 37⟩ ⟨seqC ⟨r27_12⟩ retC⟩ skipC⟩⟩⟩⟩⟩⟩⟩ ⟨seqC ⟨r27_13⟩ retC⟩⟩⟩⟩
noncomputable def q27 : Box (T Value → H → Option (List Value)) := ⟨fun tm h => some [tg tm 4]⟩

/-! 28 bytes.Index -/
noncomputable def r28_0 : CodeT := fun call _ tm ds h K =>
  K .norm (T.set tm 4 (.int .i64 (0))) ds h
noncomputable def r28_1 : CodeT := fun call _ tm ds h K =>
  kO (lenSl (tg tm 1)) ds h (fun v1 ds h =>
  K .norm (T.set tm 5 v1) ds h)
noncomputable def r28_2 : CodeT := fun call _ tm ds h K =>
  kO (binV Tryd.prog .eql 3 true (tg tm 5) (.int .i64 (0))) ds h (fun v1 ds h =>
  K .norm (T.set tm 22 v1) ds h)
noncomputable def r28_3 : CodeT := fun call _ tm ds h K =>
  K .norm (T.set tm 4 (.int .i64 (0))) ds h
noncomputable def r28_4 : CodeT := fun call _ tm ds h K =>
  kO (binV Tryd.prog .eql 3 true (tg tm 5) (.int .i64 (1))) ds h (fun v1 ds h =>
  K .norm (T.set tm 25 v1) ds h)
noncomputable def r28_5 : CodeT := fun call _ tm ds h K =>
  kO (indexSl 1 (tg tm 1) (.int .i64 (0))) ds h (fun v2 ds h =>
  kO (loadOne h v2) ds h (fun v3 ds h =>
  call 56 [(tg tm 0), v3] h (fun v h => (fun v4 ds h =>
  K .norm (T.set tm 4 v4) ds h) v ds h)))
noncomputable def r28_6 : CodeT := fun call _ tm ds h K =>
  kO (lenSl (tg tm 0)) ds h (fun v2 ds h =>
  kO (binV Tryd.prog .eql 3 false (tg tm 5) v2) ds h (fun v3 ds h =>
  K .norm (T.set tm 33 v3) ds h))
noncomputable def r28_7 : CodeT := fun call _ tm ds h K =>
  call 57 [(tg tm 1), (tg tm 0)] h (fun v h => (fun v2 ds h =>
  K .norm (T.set tm 40 v2) ds h) v ds h)
noncomputable def r28_8 : CodeT := fun call _ tm ds h K =>
  K .norm (T.set tm 4 (.int .i64 (0))) ds h
noncomputable def r28_9 : CodeT := fun call _ tm ds h K =>
  K .norm (T.set tm 4 (.int .i64 (-1))) ds h
noncomputable def r28_10 : CodeT := fun call _ tm ds h K =>
  kO (lenSl (tg tm 0)) ds h (fun v2 ds h =>
  kO (binV Tryd.prog .gtr 3 false (tg tm 5) v2) ds h (fun v3 ds h =>
  K .norm (T.set tm 41 v3) ds h))
noncomputable def r28_11 : CodeT := fun call _ tm ds h K =>
  K .norm (T.set tm 4 (.int .i64 (-1))) ds h
noncomputable def r28_12 : CodeT := fun call _ tm ds h K =>
  kO (loadOne h (.pointer (some ⟨0, 0, none⟩))) ds h (fun v1 ds h =>
  kO (binV Tryd.prog .leq 3 false (tg tm 5) v1) ds h (fun v2 ds h =>
  K .norm (T.set tm 46 v2) ds h))
noncomputable def r28_13 : CodeT := fun call _ tm ds h K =>
  kO (lenSl (tg tm 0)) ds h (fun v1 ds h =>
  kO (binV Tryd.prog .leq 3 true v1 (.int .i64 (64))) ds h (fun v2 ds h =>
  K .norm (T.set tm 52 v2) ds h))
noncomputable def r28_14 : CodeT := fun call _ tm ds h K =>
  call 58 [(tg tm 0), (tg tm 1)] h (fun v h => (fun v2 ds h =>
  K .norm (T.set tm 4 v2) ds h) v ds h)
noncomputable def r28_15 : CodeT := fun call _ tm ds h K =>
  kO (indexSl 1 (tg tm 1) (.int .i64 (0))) ds h (fun v1 ds h =>
  kO (loadOne h v1) ds h (fun v2 ds h =>
  K .norm (T.set tm 6 v2) ds h))
noncomputable def r28_16 : CodeT := fun call _ tm ds h K =>
  kO (indexSl 1 (tg tm 1) (.int .i64 (1))) ds h (fun v1 ds h =>
  kO (loadOne h v1) ds h (fun v2 ds h =>
  K .norm (T.set tm 7 v2) ds h))
noncomputable def r28_17 : CodeT := fun call _ tm ds h K =>
  K .norm (T.set tm 8 (.int .i64 (0))) ds h
noncomputable def r28_18 : CodeT := fun call _ tm ds h K =>
  kO (lenSl (tg tm 0)) ds h (fun v1 ds h =>
  kO (binV Tryd.prog .sub 3 false v1 (tg tm 5)) ds h (fun v3 ds h =>
  kO (binV Tryd.prog .add 3 true v3 (.int .i64 (1))) ds h (fun v4 ds h =>
  K .norm (T.set tm 9 v4) ds h)))
noncomputable def r28_19 : CodeT := fun call _ tm ds h K =>
  K .norm (T.set tm 10 (.int .i64 (0))) ds h
noncomputable def r28_20 : CodeT := fun call _ tm ds h K =>
  kO (binV Tryd.prog .lss 3 false (tg tm 8) (tg tm 9)) ds h (fun v2 ds h =>
  K .norm (T.set tm 69 v2) ds h)
noncomputable def r28_21 : CodeT := fun call _ tm ds h K =>
  kO (indexSl 1 (tg tm 0) (tg tm 8)) ds h (fun v2 ds h =>
  kO (loadOne h v2) ds h (fun v3 ds h =>
  kO (binV Tryd.prog .neq 5 false v3 (tg tm 6)) ds h (fun v5 ds h =>
  K .norm (T.set tm 75 v5) ds h)))
noncomputable def r28_22 : CodeT := fun call _ tm ds h K =>
  kO (binV Tryd.prog .add 3 true (tg tm 8) (.int .i64 (1))) ds h (fun v2 ds h =>
  kO (sliceSl 1 (tg tm 0) (some v2) (some (tg tm 9)) none) ds h (fun v4 ds h =>
  call 56 [v4, (tg tm 6)] h (fun v h => (fun v6 ds h =>
  K .norm (T.set tm 11 v6) ds h) v ds h)))
noncomputable def r28_23 : CodeT := fun call _ tm ds h K =>
  kO (binV Tryd.prog .lss 3 true (tg tm 11) (.int .i64 (0))) ds h (fun v1 ds h =>
  K .norm (T.set tm 84 v1) ds h)
noncomputable def r28_24 : CodeT := fun call _ tm ds h K =>
  K .norm (T.set tm 4 (.int .i64 (-1))) ds h
noncomputable def r28_25 : CodeT := fun call _ tm ds h K =>
  kO (binV Tryd.prog .add 3 true (tg tm 11) (.int .i64 (1))) ds h (fun v2 ds h =>
  kO (binV Tryd.prog .add 3 false (tg tm 8) v2) ds h (fun v3 ds h =>
  K .norm (T.set tm 8 v3) ds h))
noncomputable def r28_26 : CodeT := fun call _ tm ds h K => (⟨opStep ⟨fun call env tm ds h K => kO (some (tg tm 0)) ds h K⟩ ⟨fun v tm => tm⟩ ⟨fun env tm => true⟩
  ⟨opStep ⟨fun call env tm ds h K => kO (some (tg tm 8)) ds h K⟩ ⟨fun v tm => tm⟩ ⟨fun env tm => true⟩
  ⟨opStep ⟨fun call env tm ds h K => kO (binV Tryd.prog .add 3 true (nthD 0 env) (.int .i64 (1))) ds h K⟩ ⟨fun v tm => tm⟩ ⟨fun env tm => true⟩
  ⟨opStep ⟨fun call env tm ds h K => kO (indexSl 1 (nthD 2 env) (nthD 0 env)) ds h K⟩ ⟨fun v tm => tm⟩ ⟨fun env tm => true⟩
  ⟨opStep ⟨fun call env tm ds h K => kO (loadOne h (nthD 0 env)) ds h K⟩ ⟨fun v tm => tm⟩ ⟨fun env tm => true⟩
  ⟨opStep ⟨fun call env tm ds h K => kO (some (tg tm 7)) ds h K⟩ ⟨fun v tm => tm⟩ ⟨fun env tm => true⟩
  ⟨opStep ⟨fun call env tm ds h K => kO (binV Tryd.prog .eql 5 false (nthD 1 env) (nthD 0 env)) ds h K⟩ ⟨fun v tm => tm⟩ ⟨fun env tm => true⟩
  ⟨opStep ⟨fun call env tm ds h K => kO (some (nthD 0 env)) ds h K⟩ ⟨fun v tm => tm⟩ ⟨fun env tm => true⟩
  ⟨opStep ⟨fun call env tm ds h K => kO (some (tg tm 0)) ds h K⟩ ⟨fun v tm => tm⟩ ⟨fun env tm => isB true (nthD 0 env)⟩
  ⟨opStep ⟨fun call env tm ds h K => kO (some (tg tm 8)) ds h K⟩ ⟨fun v tm => tm⟩ ⟨fun env tm => isB true (nthD 1 env)⟩
  ⟨opStep ⟨fun call env tm ds h K => kO (some (tg tm 8)) ds h K⟩ ⟨fun v tm => tm⟩ ⟨fun env tm => isB true (nthD 2 env)⟩
  ⟨opStep ⟨fun call env tm ds h K => kO (some (tg tm 5)) ds h K⟩ ⟨fun v tm => tm⟩ ⟨fun env tm => isB true (nthD 3 env)⟩
  ⟨opStep ⟨fun call env tm ds h K => kO (binV Tryd.prog .add 3 false (nthD 1 env) (nthD 0 env)) ds h K⟩ ⟨fun v tm => tm⟩ ⟨fun env tm => isB true (nthD 4 env)⟩
  ⟨opStep ⟨fun call env tm ds h K => kO (sliceSl 1 (nthD 4 env) (some (nthD 3 env)) (some (nthD 0 env)) none) ds h K⟩ ⟨fun v tm => tm⟩ ⟨fun env tm => isB true (nthD 5 env)⟩
  ⟨opStep ⟨fun call env tm ds h K => kO (some (tg tm 1)) ds h K⟩ ⟨fun v tm => tm⟩ ⟨fun env tm => isB true (nthD 6 env)⟩
  ⟨opStep ⟨fun call env tm ds h K => call 57 [(nthD 1 env), (nthD 0 env)] h (fun v h => (K) v ds h)⟩ ⟨fun v tm => tm⟩ ⟨fun env tm => isB true (nthD 7 env)⟩
  ⟨opStep ⟨fun call env tm ds h K => kO (pickV (nthD 8 env) (nthD 0 env) (.bool false)) ds h K⟩ ⟨fun v tm => (T.set tm 105 v)⟩ ⟨fun env tm => true⟩
  ⟨fun _ _ tm ds h K => K .norm tm ds h⟩⟩⟩⟩⟩⟩⟩⟩⟩⟩⟩⟩⟩⟩⟩⟩⟩⟩ : Box OpsT).f call [] tm ds h K
noncomputable def r28_27 : CodeT := fun call _ tm ds h K =>
  K .norm (T.set tm 4 (tg tm 8)) ds h
noncomputable def r28_28 : CodeT := fun call _ tm ds h K =>
  kO (binV Tryd.prog .add 3 true (tg tm 10) (.int .i64 (1))) ds h (fun v1 ds h =>
  K .norm (T.set tm 10 v1) ds h)
noncomputable def r28_29 : CodeT := fun call _ tm ds h K =>
  kO (binV Tryd.prog .add 3 true (tg tm 8) (.int .i64 (1))) ds h (fun v1 ds h =>
  K .norm (T.set tm 8 v1) ds h)
noncomputable def r28_30 : CodeT := fun call _ tm ds h K =>
  call 59 [(tg tm 8)] h (fun v h => (fun v2 ds h =>
  kO (binV Tryd.prog .gtr 3 false (tg tm 10) v2) ds h (fun v3 ds h =>
  K .norm (T.set tm 114 v3) ds h)) v ds h)
noncomputable def r28_31 : CodeT := fun call _ tm ds h K =>
  kO (sliceSl 1 (tg tm 0) (some (tg tm 8)) none none) ds h (fun v2 ds h =>
  call 58 [v2, (tg tm 1)] h (fun v h => (fun v4 ds h =>
  K .norm (T.set tm 12 v4) ds h) v ds h))
noncomputable def r28_32 : CodeT := fun call _ tm ds h K =>
  kO (binV Tryd.prog .geq 3 true (tg tm 12) (.int .i64 (0))) ds h (fun v1 ds h =>
  K .norm (T.set tm 121 v1) ds h)
noncomputable def r28_33 : CodeT := fun call _ tm ds h K =>
  kO (binV Tryd.prog .add 3 false (tg tm 12) (tg tm 8)) ds h (fun v2 ds h =>
  K .norm (T.set tm 4 v2) ds h)
noncomputable def r28_34 : CodeT := fun call _ tm ds h K =>
  K .norm (T.set tm 4 (.int .i64 (-1))) ds h
noncomputable def l28_35 : Box CodeT := ⟨seqC ⟨seqC ⟨r28_20⟩ ⟨condC ⟨fun _ tm => tg tm 69⟩ skipC (exitC 1)⟩⟩ ⟨blockC 2 ⟨seqC ⟨seqC ⟨r28_21⟩ ⟨condC ⟨fun _ tm => tg tm 75⟩ ⟨seqC ⟨r28_22⟩ ⟨seqC ⟨seqC ⟨r28_23⟩ ⟨condC ⟨fun _ tm => tg tm 84⟩ ⟨seqC ⟨r28_24⟩ retC⟩ skipC⟩⟩ ⟨r28_25⟩⟩⟩ skipC⟩⟩ ⟨seqC ⟨seqC ⟨r28_26⟩ ⟨condC ⟨fun _ tm => tg tm 105⟩ ⟨seqC ⟨r28_27⟩ retC⟩ skipC⟩⟩ ⟨seqC ⟨r28_28⟩ ⟨seqC ⟨r28_29⟩ ⟨seqC ⟨r28_30⟩ ⟨condC ⟨fun _ tm => tg tm 114⟩ ⟨seqC ⟨r28_31⟩ ⟨seqC ⟨seqC ⟨r28_32⟩ ⟨condC ⟨fun _ tm => tg tm 121⟩ ⟨seqC ⟨r28_33⟩ retC⟩ skipC⟩⟩ ⟨seqC ⟨r28_34⟩ retC⟩⟩⟩ skipC⟩⟩⟩⟩⟩⟩⟩⟩
noncomputable def r28_35 : CodeT := fun call _ tm ds h K =>
  K .norm (T.set tm 4 (.int .i64 (-1))) ds h
noncomputable def r28_36 : CodeT := fun call _ tm ds h K =>
  kO (indexSl 1 (tg tm 1) (.int .i64 (0))) ds h (fun v1 ds h =>
  kO (loadOne h v1) ds h (fun v2 ds h =>
  K .norm (T.set tm 13 v2) ds h))
noncomputable def r28_37 : CodeT := fun call _ tm ds h K =>
  kO (indexSl 1 (tg tm 1) (.int .i64 (1))) ds h (fun v1 ds h =>
  kO (loadOne h v1) ds h (fun v2 ds h =>
  K .norm (T.set tm 14 v2) ds h))
noncomputable def r28_38 : CodeT := fun call _ tm ds h K =>
  K .norm (T.set tm 15 (.int .i64 (0))) ds h
noncomputable def r28_39 : CodeT := fun call _ tm ds h K =>
  K .norm (T.set tm 16 (.int .i64 (0))) ds h
noncomputable def r28_40 : CodeT := fun call _ tm ds h K =>
  kO (lenSl (tg tm 0)) ds h (fun v1 ds h =>
  kO (binV Tryd.prog .sub 3 false v1 (tg tm 5)) ds h (fun v3 ds h =>
  kO (binV Tryd.prog .add 3 true v3 (.int .i64 (1))) ds h (fun v4 ds h =>
  K .norm (T.set tm 17 v4) ds h)))
noncomputable def r28_41 : CodeT := fun call _ tm ds h K =>
  kO (binV Tryd.prog .lss 3 false (tg tm 15) (tg tm 17)) ds h (fun v2 ds h =>
  K .norm (T.set tm 138 v2) ds h)
noncomputable def r28_42 : CodeT := fun call _ tm ds h K =>
  kO (indexSl 1 (tg tm 0) (tg tm 15)) ds h (fun v2 ds h =>
  kO (loadOne h v2) ds h (fun v3 ds h =>
  kO (binV Tryd.prog .neq 5 false v3 (tg tm 13)) ds h (fun v5 ds h =>
  K .norm (T.set tm 144 v5) ds h)))
noncomputable def r28_43 : CodeT := fun call _ tm ds h K =>
  kO (binV Tryd.prog .add 3 true (tg tm 15) (.int .i64 (1))) ds h (fun v2 ds h =>
  kO (sliceSl 1 (tg tm 0) (some v2) (some (tg tm 17)) none) ds h (fun v4 ds h =>
  call 56 [v4, (tg tm 13)] h (fun v h => (fun v6 ds h =>
  K .norm (T.set tm 18 v6) ds h) v ds h)))
noncomputable def r28_44 : CodeT := fun call _ tm ds h K =>
  kO (binV Tryd.prog .lss 3 true (tg tm 18) (.int .i64 (0))) ds h (fun v1 ds h =>
  K .norm (T.set tm 153 v1) ds h)
noncomputable def r28_45 : CodeT := fun call _ tm ds h K =>
  kO (binV Tryd.prog .add 3 true (tg tm 18) (.int .i64 (1))) ds h (fun v2 ds h =>
  kO (binV Tryd.prog .add 3 false (tg tm 15) v2) ds h (fun v3 ds h =>
  K .norm (T.set tm 15 v3) ds h))
noncomputable def r28_46 : CodeT := fun call _ tm ds h K => (⟨opStep ⟨fun call env tm ds h K => kO (some (tg tm 0)) ds h K⟩ ⟨fun v tm => tm⟩ ⟨fun env tm => true⟩
  ⟨opStep ⟨fun call env tm ds h K => kO (some (tg tm 15)) ds h K⟩ ⟨fun v tm => tm⟩ ⟨fun env tm => true⟩
  ⟨opStep ⟨fun call env tm ds h K => kO (binV Tryd.prog .add 3 true (nthD 0 env) (.int .i64 (1))) ds h K⟩ ⟨fun v tm => tm⟩ ⟨fun env tm => true⟩
  ⟨opStep ⟨fun call env tm ds h K => kO (indexSl 1 (nthD 2 env) (nthD 0 env)) ds h K⟩ ⟨fun v tm => tm⟩ ⟨fun env tm => true⟩
  ⟨opStep ⟨fun call env tm ds h K => kO (loadOne h (nthD 0 env)) ds h K⟩ ⟨fun v tm => tm⟩ ⟨fun env tm => true⟩
  ⟨opStep ⟨fun call env tm ds h K => kO (some (tg tm 14)) ds h K⟩ ⟨fun v tm => tm⟩ ⟨fun env tm => true⟩
  ⟨opStep ⟨fun call env tm ds h K => kO (binV Tryd.prog .eql 5 false (nthD 1 env) (nthD 0 env)) ds h K⟩ ⟨fun v tm => tm⟩ ⟨fun env tm => true⟩
  ⟨opStep ⟨fun call env tm ds h K => kO (some (nthD 0 env)) ds h K⟩ ⟨fun v tm => tm⟩ ⟨fun env tm => true⟩
  ⟨opStep ⟨fun call env tm ds h K => kO (some (tg tm 0)) ds h K⟩ ⟨fun v tm => tm⟩ ⟨fun env tm => isB true (nthD 0 env)⟩
  ⟨opStep ⟨fun call env tm ds h K => kO (some (tg tm 15)) ds h K⟩ ⟨fun v tm => tm⟩ ⟨fun env tm => isB true (nthD 1 env)⟩
  ⟨opStep ⟨fun call env tm ds h K => kO (some (tg tm 15)) ds h K⟩ ⟨fun v tm => tm⟩ ⟨fun env tm => isB true (nthD 2 env)⟩
  ⟨opStep ⟨fun call env tm ds h K => kO (some (tg tm 5)) ds h K⟩ ⟨fun v tm => tm⟩ ⟨fun env tm => isB true (nthD 3 env)⟩
  ⟨opStep ⟨fun call env tm ds h K => kO (binV Tryd.prog .add 3 false (nthD 1 env) (nthD 0 env)) ds h K⟩ ⟨fun v tm => tm⟩ ⟨fun env tm => isB true (nthD 4 env)⟩
  ⟨opStep ⟨fun call env tm ds h K => kO (sliceSl 1 (nthD 4 env) (some (nthD 3 env)) (some (nthD 0 env)) none) ds h K⟩ ⟨fun v tm => tm⟩ ⟨fun env tm => isB true (nthD 5 env)⟩
  ⟨opStep ⟨fun call env tm ds h K => kO (some (tg tm 1)) ds h K⟩ ⟨fun v tm => tm⟩ ⟨fun env tm => isB true (nthD 6 env)⟩
  ⟨opStep ⟨fun call env tm ds h K => call 57 [(nthD 1 env), (nthD 0 env)] h (fun v h => (K) v ds h)⟩ ⟨fun v tm => tm⟩ ⟨fun env tm => isB true (nthD 7 env)⟩
  ⟨opStep ⟨fun call env tm ds h K => kO (pickV (nthD 8 env) (nthD 0 env) (.bool false)) ds h K⟩ ⟨fun v tm => (T.set tm 174 v)⟩ ⟨fun env tm => true⟩
  ⟨fun _ _ tm ds h K => K .norm tm ds h⟩⟩⟩⟩⟩⟩⟩⟩⟩⟩⟩⟩⟩⟩⟩⟩⟩⟩ : Box OpsT).f call [] tm ds h K
noncomputable def r28_47 : CodeT := fun call _ tm ds h K =>
  K .norm (T.set tm 4 (tg tm 15)) ds h
noncomputable def r28_48 : CodeT := fun call _ tm ds h K =>
  kO (binV Tryd.prog .add 3 true (tg tm 15) (.int .i64 (1))) ds h (fun v1 ds h =>
  K .norm (T.set tm 15 v1) ds h)
noncomputable def r28_49 : CodeT := fun call _ tm ds h K =>
  kO (binV Tryd.prog .add 3 true (tg tm 16) (.int .i64 (1))) ds h (fun v1 ds h =>
  K .norm (T.set tm 16 v1) ds h)
noncomputable def r28_50 : CodeT := fun call _ tm ds h K => (⟨opStep ⟨fun call env tm ds h K => kO (some (tg tm 16)) ds h K⟩ ⟨fun v tm => tm⟩ ⟨fun env tm => true⟩
  ⟨opStep ⟨fun call env tm ds h K => kO (some (tg tm 15)) ds h K⟩ ⟨fun v tm => tm⟩ ⟨fun env tm => true⟩
  ⟨opStep ⟨fun call env tm ds h K => kO (binV Tryd.prog .shr 3 true (nthD 0 env) (.int .u64 (4))) ds h K⟩ ⟨fun v tm => tm⟩ ⟨fun env tm => true⟩
  ⟨opStep ⟨fun call env tm ds h K => kO (binV Tryd.prog .add 3 true (.int .i64 (4)) (nthD 0 env)) ds h K⟩ ⟨fun v tm => tm⟩ ⟨fun env tm => true⟩
  ⟨opStep ⟨fun call env tm ds h K => kO (binV Tryd.prog .geq 3 false (nthD 3 env) (nthD 0 env)) ds h K⟩ ⟨fun v tm => tm⟩ ⟨fun env tm => true⟩
  ⟨opStep ⟨fun call env tm ds h K => kO (some (nthD 0 env)) ds h K⟩ ⟨fun v tm => tm⟩ ⟨fun env tm => true⟩
  ⟨opStep ⟨fun call env tm ds h K => kO (some (tg tm 15)) ds h K⟩ ⟨fun v tm => tm⟩ ⟨fun env tm => isB true (nthD 0 env)⟩
  ⟨opStep ⟨fun call env tm ds h K => kO (some (tg tm 17)) ds h K⟩ ⟨fun v tm => tm⟩ ⟨fun env tm => isB true (nthD 1 env)⟩
  ⟨opStep ⟨fun call env tm ds h K => kO (binV Tryd.prog .lss 3 false (nthD 1 env) (nthD 0 env)) ds h K⟩ ⟨fun v tm => tm⟩ ⟨fun env tm => isB true (nthD 2 env)⟩
  ⟨opStep ⟨fun call env tm ds h K => kO (pickV (nthD 3 env) (nthD 0 env) (.bool false)) ds h K⟩ ⟨fun v tm => (T.set tm 189 v)⟩ ⟨fun env tm => true⟩
  ⟨fun _ _ tm ds h K => K .norm tm ds h⟩⟩⟩⟩⟩⟩⟩⟩⟩⟩⟩ : Box OpsT).f call [] tm ds h K
noncomputable def r28_51 : CodeT := fun call _ tm ds h K =>
  kO (sliceSl 1 (tg tm 0) (some (tg tm 15)) none none) ds h (fun v2 ds h =>
  call 60 [v2, (tg tm 1)] h (fun v h => (fun v4 ds h =>
  K .norm (T.set tm 19 v4) ds h) v ds h))
noncomputable def r28_52 : CodeT := fun call _ tm ds h K =>
  kO (binV Tryd.prog .lss 3 true (tg tm 19) (.int .i64 (0))) ds h (fun v1 ds h =>
  K .norm (T.set tm 196 v1) ds h)
noncomputable def r28_53 : CodeT := fun call _ tm ds h K =>
  K .norm (T.set tm 4 (.int .i64 (-1))) ds h
noncomputable def r28_54 : CodeT := fun call _ tm ds h K =>
  kO (binV Tryd.prog .add 3 false (tg tm 15) (tg tm 19)) ds h (fun v2 ds h =>
  K .norm (T.set tm 4 v2) ds h)
noncomputable def l28_56 : Box CodeT := ⟨seqC ⟨seqC ⟨r28_41⟩ ⟨condC ⟨fun _ tm => tg tm 138⟩ skipC (exitC 3)⟩⟩ ⟨blockC 4 ⟨seqC ⟨seqC ⟨r28_42⟩ ⟨condC ⟨fun _ tm => tg tm 144⟩ ⟨seqC ⟨r28_43⟩ ⟨seqC ⟨seqC ⟨r28_44⟩ ⟨condC ⟨fun _ tm => tg tm 153⟩ (exitC 3) skipC⟩⟩ ⟨r28_45⟩⟩⟩ skipC⟩⟩ ⟨seqC ⟨seqC ⟨r28_46⟩ ⟨condC ⟨fun _ tm => tg tm 174⟩ ⟨seqC ⟨r28_47⟩ retC⟩ skipC⟩⟩ ⟨seqC ⟨r28_48⟩ ⟨seqC ⟨r28_49⟩ ⟨seqC ⟨r28_50⟩ ⟨condC ⟨fun _ tm => tg tm 189⟩ ⟨seqC ⟨r28_51⟩ ⟨seqC ⟨seqC ⟨r28_52⟩ ⟨condC ⟨fun _ tm => tg tm 196⟩ ⟨seqC ⟨r28_53⟩ retC⟩ skipC⟩⟩ ⟨seqC ⟨r28_54⟩ retC⟩⟩⟩ skipC⟩⟩⟩⟩⟩⟩⟩⟩
noncomputable def r28_55 : CodeT := fun call _ tm ds h K =>
  K .norm (T.set tm 4 (.int .i64 (-1))) ds h
noncomputable def c28 : Box CodeT := ⟨seqC ⟨r28_0⟩ ⟨seqC ⟨r28_1⟩ ⟨seqC ⟨blockC 0 ⟨seqC ⟨r28_2⟩ ⟨condC ⟨fun _ tm => tg tm 22⟩ ⟨seqC ⟨r28_3⟩ retC⟩ ⟨seqC ⟨r28_4⟩ ⟨condC ⟨fun _ tm => tg tm 25⟩ ⟨seqC ⟨r28_5⟩ retC⟩ ⟨seqC ⟨r28_6⟩ ⟨condC ⟨fun _ tm => tg tm 33⟩ ⟨seqC ⟨seqC ⟨r28_7⟩ ⟨condC ⟨fun _ tm => tg tm 40⟩ ⟨seqC ⟨r28_8⟩ retC⟩ skipC⟩⟩ ⟨seqC ⟨r28_9⟩ retC⟩⟩ ⟨seqC ⟨r28_10⟩ ⟨condC ⟨fun _ tm => tg tm 41⟩ ⟨seqC ⟨r28_11⟩ retC⟩ ⟨seqC ⟨r28_12⟩ ⟨condC ⟨fun _ tm => tg tm 46⟩ ⟨seqC ⟨seqC ⟨r28_13⟩ ⟨condC ⟨fun _ tm => tg tm 52⟩ ⟨seqC ⟨r28_14⟩ retC⟩ skipC⟩⟩ ⟨seqC ⟨r28_15⟩ ⟨seqC ⟨r28_16⟩ ⟨seqC ⟨r28_17⟩ ⟨seqC ⟨r28_18⟩ ⟨seqC ⟨r28_19⟩ ⟨seqC ⟨blockC 1 (loopB l28_35)⟩ ⟨seqC ⟨r28_35⟩ retC⟩⟩⟩⟩⟩⟩⟩⟩ skipC⟩⟩⟩⟩⟩⟩⟩⟩⟩⟩⟩ ⟨seqC ⟨r28_36⟩ ⟨seqC ⟨r28_37⟩ ⟨seqC ⟨r28_38⟩ ⟨seqC ⟨r28_39⟩ ⟨seqC ⟨r28_40⟩ ⟨seqC ⟨blockC 3 (loopB l28_56)⟩ ⟨seqC ⟨r28_55⟩ retC⟩⟩⟩⟩⟩⟩⟩⟩⟩⟩
noncomputable def q28 : Box (T Value → H → Option (List Value)) := ⟨fun tm h => some [tg tm 4]⟩

/-! 29 strings.Split -/
noncomputable def r29_0 : CodeT := fun call _ tm ds h K =>
  K .norm (T.set tm 4 (.slice none 0 0)) ds h
noncomputable def r29_1 : CodeT := fun call _ tm ds h K =>
  call 61 [(tg tm 0), (tg tm 1), (.int .i64 (0)), (.int .i64 (-1))] h (fun v h => (fun v2 ds h =>
  K .norm (T.set tm 4 v2) ds h) v ds h)
noncomputable def c29 : Box CodeT := ⟨seqC ⟨r29_0⟩ ⟨seqC ⟨r29_1⟩ retC⟩⟩
noncomputable def q29 : Box (T Value → H → Option (List Value)) := ⟨fun tm h => some [tg tm 4]⟩

/-! 30 cloakroom/words.value -/
noncomputable def r30_0 : CodeT := fun call _ tm ds h K =>
  kA (some (.rw [(.string (strB [])), (.string (strB [])), (.int .u32 (0)), (.int .i64 (0)), (.int .u64 (0))] (some 48), ptrTo h.next)) ds h (fun v0 ds h =>
  K .norm (T.set (T.set (T.set tm 2 v0) 3 (.int .i64 (0))) 4 (.bool false)) ds h)
noncomputable def r30_1 : CodeT := fun call _ tm ds h K => (⟨opStep ⟨fun call env tm ds h K => kO (some (tg tm 0)) ds h K⟩ ⟨fun v tm => tm⟩ ⟨fun env tm => true⟩
  ⟨opStep ⟨fun call env tm ds h K => kO (lenSl (nthD 0 env)) ds h K⟩ ⟨fun v tm => tm⟩ ⟨fun env tm => true⟩
  ⟨opStep ⟨fun call env tm ds h K => kO (binV Tryd.prog .neq 3 true (nthD 0 env) (.int .i64 (6))) ds h K⟩ ⟨fun v tm => tm⟩ ⟨fun env tm => true⟩
  ⟨opStep ⟨fun call env tm ds h K => kO (some (nthD 0 env)) ds h K⟩ ⟨fun v tm => tm⟩ ⟨fun env tm => true⟩
  ⟨opStep ⟨fun call env tm ds h K => kO (some (tg tm 0)) ds h K⟩ ⟨fun v tm => tm⟩ ⟨fun env tm => isB false (nthD 0 env)⟩
  ⟨opStep ⟨fun call env tm ds h K => kO (indexSl 1 (nthD 0 env) (.int .i64 (0))) ds h K⟩ ⟨fun v tm => tm⟩ ⟨fun env tm => isB false (nthD 1 env)⟩
  ⟨opStep ⟨fun call env tm ds h K => kO (loadOne h (nthD 0 env)) ds h K⟩ ⟨fun v tm => tm⟩ ⟨fun env tm => isB false (nthD 2 env)⟩
  ⟨opStep ⟨fun call env tm ds h K => kO (binV Tryd.prog .neq 9 true (nthD 0 env) (.string (strB [86, 65, 76, 85, 69]))) ds h K⟩ ⟨fun v tm => tm⟩ ⟨fun env tm => isB false (nthD 3 env)⟩
  ⟨opStep ⟨fun call env tm ds h K => kO (pickV (nthD 4 env) (.bool true) (nthD 0 env)) ds h K⟩ ⟨fun v tm => tm⟩ ⟨fun env tm => true⟩
  ⟨opStep ⟨fun call env tm ds h K => kO (some (nthD 0 env)) ds h K⟩ ⟨fun v tm => tm⟩ ⟨fun env tm => true⟩
  ⟨opStep ⟨fun call env tm ds h K => kO (some (tg tm 0)) ds h K⟩ ⟨fun v tm => tm⟩ ⟨fun env tm => isB false (nthD 0 env)⟩
  ⟨opStep ⟨fun call env tm ds h K => kO (indexSl 1 (nthD 0 env) (.int .i64 (1))) ds h K⟩ ⟨fun v tm => tm⟩ ⟨fun env tm => isB false (nthD 1 env)⟩
  ⟨opStep ⟨fun call env tm ds h K => kO (loadOne h (nthD 0 env)) ds h K⟩ ⟨fun v tm => tm⟩ ⟨fun env tm => isB false (nthD 2 env)⟩
  ⟨opStep ⟨fun call env tm ds h K => kO (lenStr (nthD 0 env)) ds h K⟩ ⟨fun v tm => tm⟩ ⟨fun env tm => isB false (nthD 3 env)⟩
  ⟨opStep ⟨fun call env tm ds h K => kO (binV Tryd.prog .lss 3 true (nthD 0 env) (.int .i64 (1))) ds h K⟩ ⟨fun v tm => tm⟩ ⟨fun env tm => isB false (nthD 4 env)⟩
  ⟨opStep ⟨fun call env tm ds h K => kO (pickV (nthD 5 env) (.bool true) (nthD 0 env)) ds h K⟩ ⟨fun v tm => tm⟩ ⟨fun env tm => true⟩
  ⟨opStep ⟨fun call env tm ds h K => kO (some (nthD 0 env)) ds h K⟩ ⟨fun v tm => tm⟩ ⟨fun env tm => true⟩
  ⟨opStep ⟨fun call env tm ds h K => kO (some (tg tm 0)) ds h K⟩ ⟨fun v tm => tm⟩ ⟨fun env tm => isB false (nthD 0 env)⟩
  ⟨opStep ⟨fun call env tm ds h K => kO (indexSl 1 (nthD 0 env) (.int .i64 (1))) ds h K⟩ ⟨fun v tm => tm⟩ ⟨fun env tm => isB false (nthD 1 env)⟩
  ⟨opStep ⟨fun call env tm ds h K => kO (loadOne h (nthD 0 env)) ds h K⟩ ⟨fun v tm => tm⟩ ⟨fun env tm => isB false (nthD 2 env)⟩
  ⟨opStep ⟨fun call env tm ds h K => kO (lenStr (nthD 0 env)) ds h K⟩ ⟨fun v tm => tm⟩ ⟨fun env tm => isB false (nthD 3 env)⟩
  ⟨opStep ⟨fun call env tm ds h K => kO (binV Tryd.prog .gtr 3 true (nthD 0 env) (.int .i64 (32))) ds h K⟩ ⟨fun v tm => tm⟩ ⟨fun env tm => isB false (nthD 4 env)⟩
  ⟨opStep ⟨fun call env tm ds h K => kO (pickV (nthD 5 env) (.bool true) (nthD 0 env)) ds h K⟩ ⟨fun v tm => tm⟩ ⟨fun env tm => true⟩
  ⟨opStep ⟨fun call env tm ds h K => kO (some (nthD 0 env)) ds h K⟩ ⟨fun v tm => tm⟩ ⟨fun env tm => true⟩
  ⟨opStep ⟨fun call env tm ds h K => kO (some (tg tm 0)) ds h K⟩ ⟨fun v tm => tm⟩ ⟨fun env tm => isB false (nthD 0 env)⟩
  ⟨opStep ⟨fun call env tm ds h K => kO (indexSl 1 (nthD 0 env) (.int .i64 (1))) ds h K⟩ ⟨fun v tm => tm⟩ ⟨fun env tm => isB false (nthD 1 env)⟩
  ⟨opStep ⟨fun call env tm ds h K => kO (loadOne h (nthD 0 env)) ds h K⟩ ⟨fun v tm => tm⟩ ⟨fun env tm => isB false (nthD 2 env)⟩
  ⟨opStep ⟨fun call env tm ds h K => call 18 [(nthD 0 env)] h (fun v h => (K) v ds h)⟩ ⟨fun v tm => tm⟩ ⟨fun env tm => isB false (nthD 3 env)⟩
  ⟨opStep ⟨fun call env tm ds h K => kO (unV .not (nthD 0 env)) ds h K⟩ ⟨fun v tm => tm⟩ ⟨fun env tm => isB false (nthD 4 env)⟩
  ⟨opStep ⟨fun call env tm ds h K => kO (pickV (nthD 5 env) (.bool true) (nthD 0 env)) ds h K⟩ ⟨fun v tm => (T.set tm 42 v)⟩ ⟨fun env tm => true⟩
  ⟨fun _ _ tm ds h K => K .norm tm ds h⟩⟩⟩⟩⟩⟩⟩⟩⟩⟩⟩⟩⟩⟩⟩⟩⟩⟩⟩⟩⟩⟩⟩⟩⟩⟩⟩⟩⟩⟩⟩ : Box OpsT).f call [] tm ds h K
noncomputable def r30_2 : CodeT := fun call _ tm ds h K =>
  kO (aggO (fill [(.string (strB [])), (.string (strB [])), (.int .u32 (0)), (.int .i64 (0)), (.int .u64 (0))] (plc [(0, 1), (1, 1), (2, 1), (3, 1), (4, 1)]) [])) ds h (fun v0 ds h =>
  kH (withV undef (storeV 5 h (tg tm 2) v0)) ds (fun v1 ds h =>
  K .norm (T.set (T.set tm 3 (.int .i64 (0))) 4 (.bool false)) ds h))
noncomputable def r30_3 : CodeT := fun call _ tm ds h K =>
  kO (indexSl 1 (tg tm 0) (.int .i64 (2))) ds h (fun v1 ds h =>
  kO (loadOne h v1) ds h (fun v2 ds h =>
  call 62 [v2, (.int .u64 (4294967295))] h (fun v h => (fun v3 ds h =>
  kO (tupNth 0 v3) ds h (fun v5 ds h =>
  kO (tupNth 1 v3) ds h (fun v6 ds h =>
  K .norm (T.set (T.set tm 5 v5) 6 v6) ds h))) v ds h)))
noncomputable def r30_4 : CodeT := fun call _ tm ds h K =>
  kO (indexSl 1 (tg tm 0) (.int .i64 (3))) ds h (fun v1 ds h =>
  kO (loadOne h v1) ds h (fun v2 ds h =>
  call 62 [v2, (.int .u64 (1099511627776))] h (fun v h => (fun v3 ds h =>
  kO (tupNth 0 v3) ds h (fun v5 ds h =>
  kO (tupNth 1 v3) ds h (fun v6 ds h =>
  K .norm (T.set (T.set tm 7 v5) 8 v6) ds h))) v ds h)))
noncomputable def r30_5 : CodeT := fun call _ tm ds h K =>
  kO (indexSl 1 (tg tm 0) (.int .i64 (4))) ds h (fun v1 ds h =>
  kO (loadOne h v1) ds h (fun v2 ds h =>
  call 62 [v2, (.int .u64 (18446744073709551615))] h (fun v h => (fun v3 ds h =>
  kO (tupNth 0 v3) ds h (fun v5 ds h =>
  kO (tupNth 1 v3) ds h (fun v6 ds h =>
  K .norm (T.set (T.set tm 9 v5) 10 v6) ds h))) v ds h)))
noncomputable def r30_6 : CodeT := fun call _ tm ds h K =>
  kO (indexSl 1 (tg tm 0) (.int .i64 (5))) ds h (fun v1 ds h =>
  kO (loadOne h v1) ds h (fun v2 ds h =>
  call 62 [v2, (.int .u64 (512))] h (fun v h => (fun v3 ds h =>
  kO (tupNth 0 v3) ds h (fun v5 ds h =>
  kO (tupNth 1 v3) ds h (fun v6 ds h =>
  K .norm (T.set (T.set tm 11 v5) 12 v6) ds h))) v ds h)))
noncomputable def r30_7 : CodeT := fun call _ tm ds h K => (⟨opStep ⟨fun call env tm ds h K => kO (some (tg tm 0)) ds h K⟩ ⟨fun v tm => tm⟩ ⟨fun env tm => true⟩
  ⟨opStep ⟨fun call env tm ds h K => kO (indexSl 1 (nthD 0 env) (.int .i64 (1))) ds h K⟩ ⟨fun v tm => tm⟩ ⟨fun env tm => true⟩
  ⟨opStep ⟨fun call env tm ds h K => kO (loadOne h (nthD 0 env)) ds h K⟩ ⟨fun v tm => tm⟩ ⟨fun env tm => true⟩
  ⟨opStep ⟨fun call env tm ds h K => kO (some (tg tm 5)) ds h K⟩ ⟨fun v tm => tm⟩ ⟨fun env tm => true⟩
  ⟨opStep ⟨fun call env tm ds h K => kO (toInt .u32 (nthD 0 env)) ds h K⟩ ⟨fun v tm => tm⟩ ⟨fun env tm => true⟩
  ⟨opStep ⟨fun call env tm ds h K => kO (some (tg tm 7)) ds h K⟩ ⟨fun v tm => tm⟩ ⟨fun env tm => true⟩
  ⟨opStep ⟨fun call env tm ds h K => kO (toInt .i64 (nthD 0 env)) ds h K⟩ ⟨fun v tm => tm⟩ ⟨fun env tm => true⟩
  ⟨opStep ⟨fun call env tm ds h K => kO (some (tg tm 9)) ds h K⟩ ⟨fun v tm => tm⟩ ⟨fun env tm => true⟩
  ⟨opStep ⟨fun call env tm ds h K => kO (aggO (fill [(.string (strB [])), (.string (strB [])), (.int .u32 (0)), (.int .i64 (0)), (.int .u64 (0))] (plc [(0, 1), (1, 1), (2, 1), (3, 1), (4, 1)]) [(0, (nthD 5 env)), (2, (nthD 3 env)), (3, (nthD 1 env)), (4, (nthD 0 env))])) ds h K⟩ ⟨fun v tm => tm⟩ ⟨fun env tm => true⟩
  ⟨opStep ⟨fun call env tm ds h K => kO (some (tg tm 11)) ds h K⟩ ⟨fun v tm => tm⟩ ⟨fun env tm => true⟩
  ⟨opStep ⟨fun call env tm ds h K => kO (toInt .i64 (nthD 0 env)) ds h K⟩ ⟨fun v tm => tm⟩ ⟨fun env tm => true⟩
  ⟨opStep ⟨fun call env tm ds h K => kO (some (tg tm 6)) ds h K⟩ ⟨fun v tm => tm⟩ ⟨fun env tm => true⟩
  ⟨opStep ⟨fun call env tm ds h K => kO (some (nthD 0 env)) ds h K⟩ ⟨fun v tm => tm⟩ ⟨fun env tm => true⟩
  ⟨opStep ⟨fun call env tm ds h K => kO (some (tg tm 8)) ds h K⟩ ⟨fun v tm => tm⟩ ⟨fun env tm => isB true (nthD 0 env)⟩
  ⟨opStep ⟨fun call env tm ds h K => kO (pickV (nthD 1 env) (nthD 0 env) (.bool false)) ds h K⟩ ⟨fun v tm => tm⟩ ⟨fun env tm => true⟩
  ⟨opStep ⟨fun call env tm ds h K => kO (some (nthD 0 env)) ds h K⟩ ⟨fun v tm => tm⟩ ⟨fun env tm => true⟩
  ⟨opStep ⟨fun call env tm ds h K => kO (some (tg tm 10)) ds h K⟩ ⟨fun v tm => tm⟩ ⟨fun env tm => isB true (nthD 0 env)⟩
  ⟨opStep ⟨fun call env tm ds h K => kO (pickV (nthD 1 env) (nthD 0 env) (.bool false)) ds h K⟩ ⟨fun v tm => tm⟩ ⟨fun env tm => true⟩
  ⟨opStep ⟨fun call env tm ds h K => kO (some (nthD 0 env)) ds h K⟩ ⟨fun v tm => tm⟩ ⟨fun env tm => true⟩
  ⟨opStep ⟨fun call env tm ds h K => kO (some (tg tm 12)) ds h K⟩ ⟨fun v tm => tm⟩ ⟨fun env tm => isB true (nthD 0 env)⟩
  ⟨opStep ⟨fun call env tm ds h K => kO (pickV (nthD 1 env) (nthD 0 env) (.bool false)) ds h K⟩ ⟨fun v tm => tm⟩ ⟨fun env tm => true⟩
  ⟨opStep ⟨fun call env tm ds h K => kH (withV undef (storeV 5 h (tg tm 2) (nthD 12 env))) ds (K)⟩ ⟨fun v tm => tm⟩ ⟨fun env tm => true⟩
  ⟨opStep ⟨fun call env tm ds h K => kO (some (nthD 11 env)) ds h K⟩ ⟨fun v tm => (T.set tm 3 v)⟩ ⟨fun env tm => true⟩
  ⟨opStep ⟨fun call env tm ds h K => kO (some (nthD 2 env)) ds h K⟩ ⟨fun v tm => (T.set tm 4 v)⟩ ⟨fun env tm => true⟩
  ⟨fun _ _ tm ds h K => K .norm tm ds h⟩⟩⟩⟩⟩⟩⟩⟩⟩⟩⟩⟩⟩⟩⟩⟩⟩⟩⟩⟩⟩⟩⟩⟩⟩ : Box OpsT).f call [] tm ds h K
noncomputable def c30 : Box CodeT := ⟨seqC ⟨r30_0⟩ ⟨seqC ⟨seqC ⟨r30_1⟩ ⟨condC ⟨fun _ tm => tg tm 42⟩ ⟨seqC ⟨r30_2⟩ retC⟩ skipC⟩⟩ ⟨seqC ⟨r30_3⟩ ⟨seqC ⟨r30_4⟩ ⟨seqC ⟨r30_5⟩ ⟨seqC ⟨r30_6⟩ ⟨seqC ⟨r30_7⟩ retC⟩⟩⟩⟩⟩⟩⟩
noncomputable def q30 : Box (T Value → H → Option (List Value)) := ⟨fun tm h => (match loadAgg 5 h (tg tm 2) with | some v => (match (some [tg tm 3, tg tm 4] : Option (List Value)) with | some l => some (v :: l) | none => none) | none => none)⟩

/-! 31 cloakroom/words.single -/
noncomputable def r31_0 : CodeT := fun call _ tm ds h K =>
  kA (some (.rw [(.int .u8 (0)), (.int .u8 (0)), (.int .u8 (0)), (.slice none 0 0), (.int .u64 (0)), (.bool false), (.string (strB []))] (some 27), ptrTo h.next)) ds h (fun v0 ds h =>
  K .norm (T.set (T.set tm 4 v0) 5 (.bool false)) ds h)
noncomputable def r31_1 : CodeT := fun call _ tm ds h K =>
  kO (aggO (fill [(.int .u8 (0)), (.int .u8 (0)), (.int .u8 (0)), (.slice none 0 0), (.int .u64 (0)), (.bool false), (.string (strB []))] (plc [(0, 1), (1, 1), (2, 3), (5, 1), (6, 1)]) [(0, (.int .u8 (1))), (1, (tg tm 1))])) ds h (fun v1 ds h =>
  kA (some (.rw [(.int .u8 (0)), (.int .u8 (0)), (.int .u8 (0)), (.slice none 0 0), (.int .u64 (0)), (.bool false), (.string (strB []))] (some 27), ptrTo h.next)) ds h (fun v2 ds h =>
  kH (withV undef (storeV 7 h v2 v1)) ds (fun v3 ds h =>
  K .norm (T.set tm 6 v2) ds h)))
noncomputable def r31_2 : CodeT := fun call _ tm ds h K =>
  call 21 [] h (fun v h => (fun v0 ds h =>
  kA (some (.rw [(.string (strB [])), (.string (strB [])), (.string (strB [])), (.string (strB [])), (.string (strB [])), (.string (strB [])), (.string (strB [])), (.string (strB []))] (some 52), ptrTo h.next)) ds h (fun v1 ds h =>
  kH (withV undef (storeV 8 h v1 v0)) ds (fun v2 ds h =>
  K .norm (T.set tm 7 v1) ds h))) v ds h)
noncomputable def r31_3 : CodeT := fun call _ tm ds h0 K =>
  (fun (b0 : Nat) (h : H) =>
  kO (sliceArr 1 8 (tg tm 7) none none none) ds h (fun v0 ds h =>
  kO (indexSl 1 (tg tm 0) (.int .i64 (0))) ds h (fun v2 ds h =>
  kO (loadOne h v2) ds h (fun v3 ds h =>
  call 63 [v0, v3] h (fun v h => (fun v4 ds h =>
  K .norm (T.set tm 8 v4) ds h) v ds h))))) h0.next ⟨h0.objs, h0.next + 6⟩
noncomputable def r31_4 : CodeT := fun call _ tm ds h K =>
  kO (lenSl (tg tm 0)) ds h (fun v1 ds h =>
  kO (binV Tryd.prog .eql 3 true v1 (.int .i64 (1))) ds h (fun v2 ds h =>
  gd (isB true v2) (fun k => kO (some (tg tm 8)) ds h (k)) ds h (fun v4 ds h =>
  gd (isB true v2) (fun k => kO (binV Tryd.prog .gtr 3 true v4 (.int .i64 (0))) ds h (k)) ds h (fun v5 ds h =>
  kO (pickV v2 v5 (.bool false)) ds h (fun v6 ds h =>
  K .norm (T.set tm 28 v6) ds h)))))
noncomputable def r31_5 : CodeT := fun call _ tm ds h K =>
  kO (toInt .u8 (tg tm 8)) ds h (fun v1 ds h =>
  kO (fieldPtr 2 (tg tm 6)) ds h (fun v2 ds h =>
  kO (fieldPtr 0 v2) ds h (fun v3 ds h =>
  kH (withV undef (storeV 1 h v3 v1)) ds (fun v4 ds h =>
  K .norm tm ds h))))
noncomputable def r31_6 : CodeT := fun call _ tm ds h K =>
  kO (loadAgg 7 h (tg tm 6)) ds h (fun v0 ds h =>
  kO (binV Tryd.prog .geq 5 true (tg tm 1) (.int .u8 (1))) ds h (fun v2 ds h =>
  gd (isB true v2) (fun k => kO (some (tg tm 1)) ds h (k)) ds h (fun v4 ds h =>
  gd (isB true v2) (fun k => kO (binV Tryd.prog .leq 5 true v4 (.int .u8 (11))) ds h (k)) ds h (fun v5 ds h =>
  kO (pickV v2 v5 (.bool false)) ds h (fun v6 ds h =>
  kH (withV undef (storeV 7 h (tg tm 4) v0)) ds (fun v7 ds h =>
  K .norm (T.set tm 5 v6) ds h))))))
noncomputable def r31_7 : CodeT := fun call _ tm ds h K => (⟨opStep ⟨fun call env tm ds h K => kO (some (tg tm 0)) ds h K⟩ ⟨fun v tm => tm⟩ ⟨fun env tm => true⟩
  ⟨opStep ⟨fun call env tm ds h K => kO (indexSl 1 (nthD 0 env) (.int .i64 (0))) ds h K⟩ ⟨fun v tm => tm⟩ ⟨fun env tm => true⟩
  ⟨opStep ⟨fun call env tm ds h K => kO (loadOne h (nthD 0 env)) ds h K⟩ ⟨fun v tm => tm⟩ ⟨fun env tm => true⟩
  ⟨opStep ⟨fun call env tm ds h K => kO (some (tg tm 1)) ds h K⟩ ⟨fun v tm => tm⟩ ⟨fun env tm => true⟩
  ⟨opStep ⟨fun call env tm ds h K => call 45 [(nthD 1 env), (nthD 0 env)] h (fun v h => (K) v ds h)⟩ ⟨fun v tm => tm⟩ ⟨fun env tm => true⟩
  ⟨opStep ⟨fun call env tm ds h K => kO (some (nthD 0 env)) ds h K⟩ ⟨fun v tm => tm⟩ ⟨fun env tm => true⟩
  ⟨opStep ⟨fun call env tm ds h K => kO (some (tg tm 0)) ds h K⟩ ⟨fun v tm => tm⟩ ⟨fun env tm => isB true (nthD 0 env)⟩
  ⟨opStep ⟨fun call env tm ds h K => kO (indexSl 1 (nthD 0 env) (.int .i64 (0))) ds h K⟩ ⟨fun v tm => tm⟩ ⟨fun env tm => isB true (nthD 1 env)⟩
  ⟨opStep ⟨fun call env tm ds h K => kO (loadOne h (nthD 0 env)) ds h K⟩ ⟨fun v tm => tm⟩ ⟨fun env tm => isB true (nthD 2 env)⟩
  ⟨opStep ⟨fun call env tm ds h K => kO (binV Tryd.prog .neq 9 true (nthD 0 env) (.string (strB [69, 78, 68]))) ds h K⟩ ⟨fun v tm => tm⟩ ⟨fun env tm => isB true (nthD 3 env)⟩
  ⟨opStep ⟨fun call env tm ds h K => kO (pickV (nthD 4 env) (nthD 0 env) (.bool false)) ds h K⟩ ⟨fun v tm => (T.set tm 50 v)⟩ ⟨fun env tm => true⟩
  ⟨fun _ _ tm ds h K => K .norm tm ds h⟩⟩⟩⟩⟩⟩⟩⟩⟩⟩⟩⟩ : Box OpsT).f call [] tm ds h K
noncomputable def r31_8 : CodeT := fun call _ tm ds h K =>
  kO (fieldPtr 2 (tg tm 6)) ds h (fun v0 ds h =>
  kO (fieldPtr 0 v0) ds h (fun v1 ds h =>
  kH (withV undef (storeV 1 h v1 (.int .u8 (1)))) ds (fun v2 ds h =>
  K .norm tm ds h)))
noncomputable def r31_9 : CodeT := fun call _ tm ds h K =>
  call 46 [(tg tm 1)] h (fun v h => (fun v1 ds h =>
  kO (unV .not v1) ds h (fun v2 ds h =>
  K .norm (T.set tm 55 v2) ds h)) v ds h)
noncomputable def r31_10 : CodeT := fun call _ tm ds h K =>
  kO (loadAgg 7 h (tg tm 6)) ds h (fun v0 ds h =>
  kO (lenSl (tg tm 0)) ds h (fun v2 ds h =>
  kO (binV Tryd.prog .eql 3 true v2 (.int .i64 (1))) ds h (fun v3 ds h =>
  kH (withV undef (storeV 7 h (tg tm 4) v0)) ds (fun v4 ds h =>
  K .norm (T.set tm 5 v3) ds h))))
noncomputable def r31_11 : CodeT := fun call _ tm ds h K =>
  kO (lenSl (tg tm 0)) ds h (fun v1 ds h =>
  kO (binV Tryd.prog .neq 3 true v1 (.int .i64 (2))) ds h (fun v2 ds h =>
  K .norm (T.set tm 62 v2) ds h))
noncomputable def r31_12 : CodeT := fun call _ tm ds h K =>
  kO (loadAgg 7 h (tg tm 6)) ds h (fun v0 ds h =>
  kH (withV undef (storeV 7 h (tg tm 4) v0)) ds (fun v1 ds h =>
  K .norm (T.set tm 5 (.bool false)) ds h))
noncomputable def r31_13 : CodeT := fun call _ tm ds h K =>
  kO (indexSl 1 (tg tm 0) (.int .i64 (1))) ds h (fun v1 ds h =>
  kO (loadOne h v1) ds h (fun v2 ds h =>
  call 62 [v2, (.int .u64 (18446744073709551615))] h (fun v h => (fun v3 ds h =>
  kO (tupNth 0 v3) ds h (fun v5 ds h =>
  kO (tupNth 1 v3) ds h (fun v6 ds h =>
  K .norm (T.set (T.set tm 9 v5) 10 v6) ds h))) v ds h)))
noncomputable def r31_14 : CodeT := fun call _ tm ds h K =>
  kO (fieldPtr 2 (tg tm 6)) ds h (fun v1 ds h =>
  kO (fieldPtr 2 v1) ds h (fun v2 ds h =>
  kH (withV undef (storeV 1 h v2 (tg tm 9))) ds (fun v3 ds h =>
  K .norm tm ds h)))
noncomputable def r31_15 : CodeT := fun call _ tm ds h K => (⟨opStep ⟨fun call env tm ds h K => kO (loadAgg 7 h (tg tm 6)) ds h K⟩ ⟨fun v tm => tm⟩ ⟨fun env tm => true⟩
  ⟨opStep ⟨fun call env tm ds h K => kO (some (tg tm 10)) ds h K⟩ ⟨fun v tm => tm⟩ ⟨fun env tm => true⟩
  ⟨opStep ⟨fun call env tm ds h K => kO (some (nthD 0 env)) ds h K⟩ ⟨fun v tm => tm⟩ ⟨fun env tm => true⟩
  ⟨opStep ⟨fun call env tm ds h K => kO (some (tg tm 1)) ds h K⟩ ⟨fun v tm => tm⟩ ⟨fun env tm => isB true (nthD 0 env)⟩
  ⟨opStep ⟨fun call env tm ds h K => kO (binV Tryd.prog .neq 5 true (nthD 0 env) (.int .u8 (10))) ds h K⟩ ⟨fun v tm => tm⟩ ⟨fun env tm => isB true (nthD 1 env)⟩
  ⟨opStep ⟨fun call env tm ds h K => kO (some (nthD 0 env)) ds h K⟩ ⟨fun v tm => tm⟩ ⟨fun env tm => isB true (nthD 2 env)⟩
  ⟨opStep ⟨fun call env tm ds h K => kO (some (tg tm 9)) ds h K⟩ ⟨fun v tm => tm⟩ ⟨fun env tm => isB false (nthD 0 env)⟩
  ⟨opStep ⟨fun call env tm ds h K => kO (binV Tryd.prog .leq 23 true (nthD 0 env) (.int .u64 (8))) ds h K⟩ ⟨fun v tm => tm⟩ ⟨fun env tm => isB false (nthD 1 env)⟩
  ⟨opStep ⟨fun call env tm ds h K => kO (pickV (nthD 2 env) (.bool true) (nthD 0 env)) ds h K⟩ ⟨fun v tm => tm⟩ ⟨fun env tm => isB true (nthD 5 env)⟩
  ⟨opStep ⟨fun call env tm ds h K => kO (pickV (nthD 6 env) (nthD 0 env) (.bool false)) ds h K⟩ ⟨fun v tm => tm⟩ ⟨fun env tm => true⟩
  ⟨opStep ⟨fun call env tm ds h K => kH (withV undef (storeV 7 h (tg tm 4) (nthD 9 env))) ds (K)⟩ ⟨fun v tm => tm⟩ ⟨fun env tm => true⟩
  ⟨opStep ⟨fun call env tm ds h K => kO (some (nthD 1 env)) ds h K⟩ ⟨fun v tm => (T.set tm 5 v)⟩ ⟨fun env tm => true⟩
  ⟨fun _ _ tm ds h K => K .norm tm ds h⟩⟩⟩⟩⟩⟩⟩⟩⟩⟩⟩⟩⟩ : Box OpsT).f call [] tm ds h K
noncomputable def r31_16 : CodeT := fun call _ tm ds h K => (⟨opStep ⟨fun call env tm ds h K => kO (some (tg tm 0)) ds h K⟩ ⟨fun v tm => tm⟩ ⟨fun env tm => true⟩
  ⟨opStep ⟨fun call env tm ds h K => kO (lenSl (nthD 0 env)) ds h K⟩ ⟨fun v tm => tm⟩ ⟨fun env tm => true⟩
  ⟨opStep ⟨fun call env tm ds h K => kO (binV Tryd.prog .eql 3 true (nthD 0 env) (.int .i64 (2))) ds h K⟩ ⟨fun v tm => tm⟩ ⟨fun env tm => true⟩
  ⟨opStep ⟨fun call env tm ds h K => kO (some (nthD 0 env)) ds h K⟩ ⟨fun v tm => tm⟩ ⟨fun env tm => true⟩
  ⟨opStep ⟨fun call env tm ds h K => kO (some (tg tm 0)) ds h K⟩ ⟨fun v tm => tm⟩ ⟨fun env tm => isB true (nthD 0 env)⟩
  ⟨opStep ⟨fun call env tm ds h K => kO (indexSl 1 (nthD 0 env) (.int .i64 (0))) ds h K⟩ ⟨fun v tm => tm⟩ ⟨fun env tm => isB true (nthD 1 env)⟩
  ⟨opStep ⟨fun call env tm ds h K => kO (loadOne h (nthD 0 env)) ds h K⟩ ⟨fun v tm => tm⟩ ⟨fun env tm => isB true (nthD 2 env)⟩
  ⟨opStep ⟨fun call env tm ds h K => kO (binV Tryd.prog .eql 9 true (nthD 0 env) (.string (strB [80, 85, 83, 72]))) ds h K⟩ ⟨fun v tm => tm⟩ ⟨fun env tm => isB true (nthD 3 env)⟩
  ⟨opStep ⟨fun call env tm ds h K => kO (pickV (nthD 4 env) (nthD 0 env) (.bool false)) ds h K⟩ ⟨fun v tm => (T.set tm 92 v)⟩ ⟨fun env tm => true⟩
  ⟨fun _ _ tm ds h K => K .norm tm ds h⟩⟩⟩⟩⟩⟩⟩⟩⟩⟩ : Box OpsT).f call [] tm ds h K
noncomputable def r31_17 : CodeT := fun call _ tm ds h0 K =>
  (fun (b0 : Nat) (h : H) =>
  kO (indexSl 1 (tg tm 0) (.int .i64 (1))) ds h (fun v1 ds h =>
  kO (loadOne h v1) ds h (fun v2 ds h =>
  kO (aggO (fill [(.int .u8 (0)), (.int .u8 (0)), (.int .u8 (0)), (.slice none 0 0), (.int .u64 (0)), (.bool false), (.string (strB []))] (plc [(0, 1), (1, 1), (2, 3), (5, 1), (6, 1)]) [(0, (.int .u8 (7))), (4, v2)])) ds h (fun v3 ds h =>
  kO (indexSl 1 (tg tm 0) (.int .i64 (1))) ds h (fun v5 ds h =>
  kO (loadOne h v5) ds h (fun v6 ds h =>
  kO (lenStr v6) ds h (fun v7 ds h =>
  kO (binV Tryd.prog .geq 3 true v7 (.int .i64 (1))) ds h (fun v8 ds h =>
  gd (isB true v8) (fun k => kO (some (tg tm 0)) ds h k) ds h (fun v10 ds h =>
  gd (isB true v8) (fun k => kO (indexSl 1 v10 (.int .i64 (1))) ds h k) ds h (fun v11 ds h =>
  ite2 (isB true v8) (kO (loadOne h v11) ds h (fun v12 ds h =>
  gd (isB true v8) (fun k => kO (lenStr v12) ds h k) ds h (fun v13 ds h =>
  gd (isB true v8) (fun k => kO (binV Tryd.prog .leq 3 true v13 (.int .i64 (32))) ds h k) ds h (fun v14 ds h =>
  kO (pickV v8 v14 (.bool false)) ds h (fun v15 ds h =>
  gd (isB true v15) (fun k => kO (some (tg tm 0)) ds h k) ds h (fun v17 ds h =>
  gd (isB true v15) (fun k => kO (indexSl 1 v17 (.int .i64 (1))) ds h k) ds h (fun v18 ds h =>
  ite2 (isB true v15) (kO (loadOne h v18) ds h (fun v19 ds h =>
  ite2 (isB true v15) (call 18 [v19] h (fun v h => (fun v20 ds h =>
  andB ((hO (loadOne h v1) v2 true) && true) (kO (pickV v15 v20 (.bool false)) ds h (fun v21 ds h =>
  kH (withV undef (storeV 7 h (tg tm 4) v3)) ds (fun v22 ds h =>
  K .norm (T.set tm 5 v21) ds h)))) v ds h))
  (kO (pickV v15 undef (.bool false)) ds h (fun v21 ds h =>
  kH (withV undef (storeV 7 h (tg tm 4) v3)) ds (fun v22 ds h =>
  K .norm (T.set tm 5 v21) ds h)))))
  (ite2 (isB true v15) (call 18 [undef] h (fun v h => (fun v20 ds h =>
  andB ((hO (loadOne h v1) v2 true) && true) (kO (pickV v15 v20 (.bool false)) ds h (fun v21 ds h =>
  kH (withV undef (storeV 7 h (tg tm 4) v3)) ds (fun v22 ds h =>
  K .norm (T.set tm 5 v21) ds h)))) v ds h))
  (kO (pickV v15 undef (.bool false)) ds h (fun v21 ds h =>
  kH (withV undef (storeV 7 h (tg tm 4) v3)) ds (fun v22 ds h =>
  K .norm (T.set tm 5 v21) ds h)))))))))))
  (gd (isB true v8) (fun k => kO (lenStr undef) ds h k) ds h (fun v13 ds h =>
  gd (isB true v8) (fun k => kO (binV Tryd.prog .leq 3 true v13 (.int .i64 (32))) ds h k) ds h (fun v14 ds h =>
  kO (pickV v8 v14 (.bool false)) ds h (fun v15 ds h =>
  gd (isB true v15) (fun k => kO (some (tg tm 0)) ds h k) ds h (fun v17 ds h =>
  gd (isB true v15) (fun k => kO (indexSl 1 v17 (.int .i64 (1))) ds h k) ds h (fun v18 ds h =>
  ite2 (isB true v15) (kO (loadOne h v18) ds h (fun v19 ds h =>
  ite2 (isB true v15) (call 18 [v19] h (fun v h => (fun v20 ds h =>
  andB ((hO (loadOne h v1) v2 true) && true) (kO (pickV v15 v20 (.bool false)) ds h (fun v21 ds h =>
  kH (withV undef (storeV 7 h (tg tm 4) v3)) ds (fun v22 ds h =>
  K .norm (T.set tm 5 v21) ds h)))) v ds h))
  (kO (pickV v15 undef (.bool false)) ds h (fun v21 ds h =>
  kH (withV undef (storeV 7 h (tg tm 4) v3)) ds (fun v22 ds h =>
  K .norm (T.set tm 5 v21) ds h)))))
  (ite2 (isB true v15) (call 18 [undef] h (fun v h => (fun v20 ds h =>
  andB ((hO (loadOne h v1) v2 true) && true) (kO (pickV v15 v20 (.bool false)) ds h (fun v21 ds h =>
  kH (withV undef (storeV 7 h (tg tm 4) v3)) ds (fun v22 ds h =>
  K .norm (T.set tm 5 v21) ds h)))) v ds h))
  (kO (pickV v15 undef (.bool false)) ds h (fun v21 ds h =>
  kH (withV undef (storeV 7 h (tg tm 4) v3)) ds (fun v22 ds h =>
  K .norm (T.set tm 5 v21) ds h)))))))))))))))))))) h0.next ⟨h0.objs, h0.next + 24⟩
noncomputable def r31_18 : CodeT := fun call _ tm ds h K =>
  kA (some (.map [] 0, .map (some h.next))) ds h (fun v0 ds h =>
  kO (aggO (fill [(.int .u8 (0)), (.int .u8 (0)), (.int .u8 (0)), (.slice none 0 0), (.int .u64 (0)), (.bool false), (.string (strB []))] (plc [(0, 1), (1, 1), (2, 3), (5, 1), (6, 1)]) [(0, (.int .u8 (2))), (3, (.bool true))])) ds h (fun v1 ds h =>
  kH (withV undef (updM Tryd.prog 9 h v0 (.string (strB [87, 69, 76, 67, 79, 77, 69])) v1)) ds (fun v2 ds h =>
  kO (aggO (fill [(.int .u8 (0)), (.int .u8 (0)), (.int .u8 (0)), (.slice none 0 0), (.int .u64 (0)), (.bool false), (.string (strB []))] (plc [(0, 1), (1, 1), (2, 3), (5, 1), (6, 1)]) [(0, (.int .u8 (2)))])) ds h (fun v3 ds h =>
  kH (withV undef (updM Tryd.prog 9 h v0 (.string (strB [85, 78, 75, 78, 79, 87, 78])) v3)) ds (fun v4 ds h =>
  kO (aggO (fill [(.int .u8 (0)), (.int .u8 (0)), (.int .u8 (0)), (.slice none 0 0), (.int .u64 (0)), (.bool false), (.string (strB []))] (plc [(0, 1), (1, 1), (2, 3), (5, 1), (6, 1)]) [(0, (.int .u8 (3))), (3, (.bool true))])) ds h (fun v5 ds h =>
  kH (withV undef (updM Tryd.prog 9 h v0 (.string (strB [84, 82, 65, 67, 75, 69, 68])) v5)) ds (fun v6 ds h =>
  kO (aggO (fill [(.int .u8 (0)), (.int .u8 (0)), (.int .u8 (0)), (.slice none 0 0), (.int .u64 (0)), (.bool false), (.string (strB []))] (plc [(0, 1), (1, 1), (2, 3), (5, 1), (6, 1)]) [(0, (.int .u8 (3)))])) ds h (fun v7 ds h =>
  kH (withV undef (updM Tryd.prog 9 h v0 (.string (strB [85, 78, 84, 82, 65, 67, 75, 69, 68])) v7)) ds (fun v8 ds h =>
  kO (aggO (fill [(.int .u8 (0)), (.int .u8 (0)), (.int .u8 (0)), (.slice none 0 0), (.int .u64 (0)), (.bool false), (.string (strB []))] (plc [(0, 1), (1, 1), (2, 3), (5, 1), (6, 1)]) [(0, (.int .u8 (4)))])) ds h (fun v9 ds h =>
  kH (withV undef (updM Tryd.prog 9 h v0 (.string (strB [80, 79, 78, 71])) v9)) ds (fun v10 ds h =>
  kO (aggO (fill [(.int .u8 (0)), (.int .u8 (0)), (.int .u8 (0)), (.slice none 0 0), (.int .u64 (0)), (.bool false), (.string (strB []))] (plc [(0, 1), (1, 1), (2, 3), (5, 1), (6, 1)]) [(0, (.int .u8 (5)))])) ds h (fun v11 ds h =>
  kH (withV undef (updM Tryd.prog 9 h v0 (.string (strB [66, 89, 69])) v11)) ds (fun v12 ds h =>
  kO (aggO (fill [(.int .u8 (0)), (.int .u8 (0)), (.int .u8 (0)), (.slice none 0 0), (.int .u64 (0)), (.bool false), (.string (strB []))] (plc [(0, 1), (1, 1), (2, 3), (5, 1), (6, 1)]) [(0, (.int .u8 (6)))])) ds h (fun v13 ds h =>
  kH (withV undef (updM Tryd.prog 9 h v0 (.string (strB [69, 82, 82, 79, 82])) v13)) ds (fun v14 ds h =>
  K .norm (T.set tm 11 v0) ds h)))))))))))))))
noncomputable def r31_19 : CodeT := fun call _ tm ds h K =>
  kO (indexSl 1 (tg tm 0) (.int .i64 (0))) ds h (fun v2 ds h =>
  kO (loadOne h v2) ds h (fun v3 ds h =>
  kO (lookV Tryd.prog 9 (.agg #[.int .u8 (0), .int .u8 (0), .int .u8 (0), .slice none 0 0, .int .u64 (0), .bool false, .string (strB [])]) true h (tg tm 11) v3) ds h (fun v4 ds h =>
  kO (tupNth 0 v4) ds h (fun v6 ds h =>
  kO (tupNth 1 v4) ds h (fun v7 ds h =>
  kA (some (.rw [(.int .u8 (0)), (.int .u8 (0)), (.int .u8 (0)), (.slice none 0 0), (.int .u64 (0)), (.bool false), (.string (strB []))] (some 27), ptrTo h.next)) ds h (fun v8 ds h =>
  kH (withV undef (storeV 7 h v8 v6)) ds (fun v9 ds h =>
  K .norm (T.set (T.set tm 12 v8) 13 v7) ds h)))))))
noncomputable def r31_20 : CodeT := fun call _ tm ds h K => (⟨opStep ⟨fun call env tm ds h K => kO (loadAgg 7 h (tg tm 12)) ds h K⟩ ⟨fun v tm => tm⟩ ⟨fun env tm => true⟩
  ⟨opStep ⟨fun call env tm ds h K => kO (some (tg tm 13)) ds h K⟩ ⟨fun v tm => tm⟩ ⟨fun env tm => true⟩
  ⟨opStep ⟨fun call env tm ds h K => kO (some (nthD 0 env)) ds h K⟩ ⟨fun v tm => tm⟩ ⟨fun env tm => true⟩
  ⟨opStep ⟨fun call env tm ds h K => kO (some (tg tm 0)) ds h K⟩ ⟨fun v tm => tm⟩ ⟨fun env tm => isB true (nthD 0 env)⟩
  ⟨opStep ⟨fun call env tm ds h K => kO (lenSl (nthD 0 env)) ds h K⟩ ⟨fun v tm => tm⟩ ⟨fun env tm => isB true (nthD 1 env)⟩
  ⟨opStep ⟨fun call env tm ds h K => kO (binV Tryd.prog .eql 3 true (nthD 0 env) (.int .i64 (1))) ds h K⟩ ⟨fun v tm => tm⟩ ⟨fun env tm => isB true (nthD 2 env)⟩
  ⟨opStep ⟨fun call env tm ds h K => kO (pickV (nthD 3 env) (nthD 0 env) (.bool false)) ds h K⟩ ⟨fun v tm => tm⟩ ⟨fun env tm => true⟩
  ⟨opStep ⟨fun call env tm ds h K => kH (withV undef (storeV 7 h (tg tm 4) (nthD 6 env))) ds (K)⟩ ⟨fun v tm => tm⟩ ⟨fun env tm => true⟩
  ⟨opStep ⟨fun call env tm ds h K => kO (some (nthD 1 env)) ds h K⟩ ⟨fun v tm => (T.set tm 5 v)⟩ ⟨fun env tm => true⟩
  ⟨fun _ _ tm ds h K => K .norm tm ds h⟩⟩⟩⟩⟩⟩⟩⟩⟩⟩ : Box OpsT).f call [] tm ds h K
noncomputable def c31 : Box CodeT := ⟨seqC ⟨r31_0⟩ ⟨seqC ⟨r31_1⟩ ⟨seqC ⟨r31_2⟩ ⟨seqC ⟨seqC ⟨r31_3⟩ ⟨seqC ⟨r31_4⟩ ⟨condC ⟨fun _ tm => tg tm 28⟩ ⟨seqC ⟨r31_5⟩ ⟨seqC ⟨r31_6⟩ retC⟩⟩ skipC⟩⟩⟩ ⟨seqC ⟨seqC ⟨r31_7⟩ ⟨condC ⟨fun _ tm => tg tm 50⟩ ⟨seqC ⟨r31_8⟩ ⟨seqC ⟨seqC ⟨r31_9⟩ ⟨condC ⟨fun _ tm => tg tm 55⟩ ⟨seqC ⟨r31_10⟩ retC⟩ skipC⟩⟩ ⟨seqC ⟨seqC ⟨r31_11⟩ ⟨condC ⟨fun _ tm => tg tm 62⟩ ⟨seqC ⟨r31_12⟩ retC⟩ skipC⟩⟩ ⟨seqC ⟨r31_13⟩ ⟨seqC ⟨r31_14⟩ ⟨seqC ⟨r31_15⟩ retC⟩⟩⟩⟩⟩⟩ skipC⟩⟩ ⟨seqC ⟨seqC ⟨r31_16⟩ ⟨condC ⟨fun _ tm => tg tm 92⟩ ⟨seqC ⟨r31_17⟩ retC⟩ skipC⟩⟩ ⟨seqC ⟨r31_18⟩ ⟨seqC ⟨r31_19⟩ ⟨seqC ⟨r31_20⟩ retC⟩⟩⟩⟩⟩⟩⟩⟩⟩
noncomputable def q31 : Box (T Value → H → Option (List Value)) := ⟨fun tm h => (match loadAgg 7 h (tg tm 4) with | some v => (match (some [tg tm 5] : Option (List Value)) with | some l => some (v :: l) | none => none) | none => none)⟩

/-! 32 cloakroom/cloakroomref15.lineEnd -/
/-! 33 cloakroom/cloakroomref15.item -/
/-! 34 cloakroom/cloakroomref14.Cut -/
/-! 35 cloakroom/cloakroomref15.one -/
end Go.Proofs.YthofbmfcpfibdaaDoor
