import Derived.Test.YtilpiiafjehbnaaDoorEvZ
import Derived.KernelRfl
import Derived.Test.YtilpiiafjehbnaaDoorRows
import Derived.WalkKit
import Derived.ProofKit
import Derived.OpenShut
import Derived.LaidMore
import Derived.SevenTiedAt
set_option linter.unusedSimpArgs false
set_option linter.unusedVariables false
namespace Go.Proofs.YtilpiiafjehbnaaDoor
open Go.Ev
def masks : List Nat := [0, 0, 0, 32895, 537952287, 37927084532505679758335, 88451593233441225392734290669731903, 2199023255567, 39, 19, 5, 19, 19495146362428025668124799, 138351151749653378483, 5, 7, 39, 2097715, 41538384791142929593201714926747711, 21, 15, 8590983311, 66483, 19, 5, 5, 5, 2097283, 51, 5, 19, 604539002626618639253567, 2475898968041195628073582607, 1386653, 4503616001942519, 531911, 524353, 19, 5491, 9007237909447711, 19, 0, 0, 21, 13, 2923003971560093291123168138537876760321514930163, 20426010943356750102455122975, 16785693, 66483, 5, 16661, 13, 5, 5, 21, 21, 0, 0, 0, 0, 0, 0, 0, 0, 0, 0, 0, 0, 0, 0, 0, 0, 0, 0, 0, 0, 0, 0, 0, 0]
def outside : List (Nat × XK) := [(41, .same), (42, .noZero 5)]
abbrev NG : Nat := 2
def SM : Value := (.string (strB [48, 48, 48, 49, 48, 50, 48, 51, 48, 52, 48, 53, 48, 54, 48, 55, 48, 56, 48, 57, 49, 48, 49, 49, 49, 50, 49, 51, 49, 52, 49, 53, 49, 54, 49, 55, 49, 56, 49, 57, 50, 48, 50, 49, 50, 50, 50, 51, 50, 52, 50, 53, 50, 54, 50, 55, 50, 56, 50, 57, 51, 48, 51, 49, 51, 50, 51, 51, 51, 52, 51, 53, 51, 54, 51, 55, 51, 56, 51, 57, 52, 48, 52, 49, 52, 50, 52, 51, 52, 52, 52, 53, 52, 54, 52, 55, 52, 56, 52, 57, 53, 48, 53, 49, 53, 50, 53, 51, 53, 52, 53, 53, 53, 54, 53, 55, 53, 56, 53, 57, 54, 48, 54, 49, 54, 50, 54, 51, 54, 52, 54, 53, 54, 54, 54, 55, 54, 56, 54, 57, 55, 48, 55, 49, 55, 50, 55, 51, 55, 52, 55, 53, 55, 54, 55, 55, 55, 56, 55, 57, 56, 48, 56, 49, 56, 50, 56, 51, 56, 52, 56, 53, 56, 54, 56, 55, 56, 56, 56, 57, 57, 48, 57, 49, 57, 50, 57, 51, 57, 52, 57, 53, 57, 54, 57, 55, 57, 56, 57, 57]))
/-! 3 cloakroom/cloakroomlaw14.TextWrites -/
noncomputable def r3_0 : CodeT := fun call _ tm ds h K =>
  kA (some (.rw (Value.cells (tg tm 0)).toList (some 28), ptrTo h.next)) ds h (fun v0 ds h =>
  K .norm (T.set (T.set tm 1 v0) 2 (.bool false)) ds h)
noncomputable def r3_1 : CodeT := fun call _ tm ds h K => (⟨opStep ⟨fun call env tm ds h K => kO (fieldPtr 1 (tg tm 1)) ds h K⟩ ⟨fun v tm => tm⟩ ⟨fun env tm => true⟩
  ⟨opStep ⟨fun call env tm ds h K => kO (loadAgg 8 h (nthD 0 env)) ds h K⟩ ⟨fun v tm => tm⟩ ⟨fun env tm => true⟩
  ⟨opStep ⟨fun call env tm ds h K => call 4 [(nthD 0 env)] h (fun v h => (K) v ds h)⟩ ⟨fun v tm => tm⟩ ⟨fun env tm => true⟩
  ⟨opStep ⟨fun call env tm ds h K => kO (some (nthD 0 env)) ds h K⟩ ⟨fun v tm => tm⟩ ⟨fun env tm => true⟩
  ⟨opStep ⟨fun call env tm ds h K => kO (fieldPtr 10 (tg tm 1)) ds h K⟩ ⟨fun v tm => tm⟩ ⟨fun env tm => isB false (nthD 0 env)⟩
  ⟨opStep ⟨fun call env tm ds h K => kO (loadOne h (nthD 0 env)) ds h K⟩ ⟨fun v tm => tm⟩ ⟨fun env tm => isB false (nthD 1 env)⟩
  ⟨opStep ⟨fun call env tm ds h K => kO (lenStr (nthD 0 env)) ds h K⟩ ⟨fun v tm => tm⟩ ⟨fun env tm => isB false (nthD 2 env)⟩
  ⟨opStep ⟨fun call env tm ds h K => kO (binV Tryd.prog .gtr 3 true (nthD 0 env) (.int .i64 (1000))) ds h K⟩ ⟨fun v tm => tm⟩ ⟨fun env tm => isB false (nthD 3 env)⟩
  ⟨opStep ⟨fun call env tm ds h K => kO (pickV (nthD 4 env) (.bool true) (nthD 0 env)) ds h K⟩ ⟨fun v tm => (T.set tm 15 v)⟩ ⟨fun env tm => true⟩
  ⟨fun _ _ tm ds h K => K .norm tm ds h⟩⟩⟩⟩⟩⟩⟩⟩⟩⟩ : Box OpsT).f call [] tm ds h K
noncomputable def r3_2 : CodeT := fun call _ tm ds h K =>
  K .norm (T.set tm 2 (.bool true)) ds h
noncomputable def r3_3 : CodeT := fun call _ tm ds h K =>
  kO (loadAgg 13 h (tg tm 1)) ds h (fun v0 ds h =>
  call 5 [v0] h (fun v h => (fun v1 ds h =>
  kO (tupNth 0 v1) ds h (fun v3 ds h =>
  kO (tupNth 1 v1) ds h (fun v4 ds h =>
  K .norm (T.set (T.set tm 3 v3) 4 v4) ds h))) v ds h))
noncomputable def r3_4 : CodeT := fun call _ tm ds h K =>
  kO (loadAgg 13 h (tg tm 1)) ds h (fun v0 ds h =>
  call 6 [v0] h (fun v h => (fun v1 ds h =>
  kO (tupNth 0 v1) ds h (fun v3 ds h =>
  kO (tupNth 1 v1) ds h (fun v4 ds h =>
  K .norm (T.set (T.set tm 5 v3) 6 v4) ds h))) v ds h))
noncomputable def r3_5 : CodeT := fun call _ tm ds h K => (⟨opStep ⟨fun call env tm ds h K => kO (some (tg tm 3)) ds h K⟩ ⟨fun v tm => tm⟩ ⟨fun env tm => true⟩
  ⟨opStep ⟨fun call env tm ds h K => kO (bytesStr h (nthD 0 env)) ds h K⟩ ⟨fun v tm => tm⟩ ⟨fun env tm => true⟩
  ⟨opStep ⟨fun call env tm ds h K => kO (some (tg tm 5)) ds h K⟩ ⟨fun v tm => tm⟩ ⟨fun env tm => true⟩
  ⟨opStep ⟨fun call env tm ds h K => kO (bytesStr h (nthD 0 env)) ds h K⟩ ⟨fun v tm => tm⟩ ⟨fun env tm => true⟩
  ⟨opStep ⟨fun call env tm ds h K => kO (binV Tryd.prog .eql 9 false (nthD 2 env) (nthD 0 env)) ds h K⟩ ⟨fun v tm => tm⟩ ⟨fun env tm => true⟩
  ⟨opStep ⟨fun call env tm ds h K => kO (some (nthD 0 env)) ds h K⟩ ⟨fun v tm => tm⟩ ⟨fun env tm => true⟩
  ⟨opStep ⟨fun call env tm ds h K => kO (some (tg tm 4)) ds h K⟩ ⟨fun v tm => tm⟩ ⟨fun env tm => isB true (nthD 0 env)⟩
  ⟨opStep ⟨fun call env tm ds h K => kO (some (tg tm 6)) ds h K⟩ ⟨fun v tm => tm⟩ ⟨fun env tm => isB true (nthD 1 env)⟩
  ⟨opStep ⟨fun call env tm ds h K => kO (binV Tryd.prog .eql 3 false (nthD 1 env) (nthD 0 env)) ds h K⟩ ⟨fun v tm => tm⟩ ⟨fun env tm => isB true (nthD 2 env)⟩
  ⟨opStep ⟨fun call env tm ds h K => kO (pickV (nthD 3 env) (nthD 0 env) (.bool false)) ds h K⟩ ⟨fun v tm => tm⟩ ⟨fun env tm => true⟩
  ⟨opStep ⟨fun call env tm ds h K => kO (some (nthD 0 env)) ds h K⟩ ⟨fun v tm => (T.set tm 2 v)⟩ ⟨fun env tm => true⟩
  ⟨fun _ _ tm ds h K => K .norm tm ds h⟩⟩⟩⟩⟩⟩⟩⟩⟩⟩⟩⟩ : Box OpsT).f call [] tm ds h K
noncomputable def c3 : Box CodeT := ⟨seqC ⟨r3_0⟩ ⟨seqC ⟨seqC ⟨r3_1⟩ ⟨condC ⟨fun _ tm => tg tm 15⟩ ⟨seqC ⟨r3_2⟩ retC⟩ skipC⟩⟩ ⟨seqC ⟨r3_3⟩ ⟨seqC ⟨r3_4⟩ ⟨seqC ⟨r3_5⟩ retC⟩⟩⟩⟩⟩
noncomputable def q3 : Box (T Value → H → Option (List Value)) := ⟨fun tm h => some [tg tm 2]⟩

/-! 4 cloakroom/cloakroomref10.Long -/
noncomputable def r4_0 : CodeT := fun call _ tm ds h K =>
  kA (some (.rw (Value.cells (tg tm 0)).toList (some 26), ptrTo h.next)) ds h (fun v0 ds h =>
  K .norm (T.set (T.set tm 1 v0) 2 (.bool false)) ds h)
noncomputable def r4_1 : CodeT := fun call _ tm ds h K =>
  kO (fieldPtr 3 (tg tm 1)) ds h (fun v0 ds h =>
  kO (loadOne h v0) ds h (fun v1 ds h =>
  kO (lenStr v1) ds h (fun v2 ds h =>
  K .norm (T.set tm 3 v2) ds h)))
noncomputable def r4_2 : CodeT := fun call _ tm ds h K => (⟨opStep ⟨fun call env tm ds h K => kO (some (tg tm 3)) ds h K⟩ ⟨fun v tm => tm⟩ ⟨fun env tm => true⟩
  ⟨opStep ⟨fun call env tm ds h K => kO (binV Tryd.prog .gtr 3 true (nthD 0 env) (.int .i64 (2000))) ds h K⟩ ⟨fun v tm => tm⟩ ⟨fun env tm => true⟩
  ⟨opStep ⟨fun call env tm ds h K => kO (some (nthD 0 env)) ds h K⟩ ⟨fun v tm => tm⟩ ⟨fun env tm => true⟩
  ⟨opStep ⟨fun call env tm ds h K => kO (fieldPtr 2 (tg tm 1)) ds h K⟩ ⟨fun v tm => tm⟩ ⟨fun env tm => isB false (nthD 0 env)⟩
  ⟨opStep ⟨fun call env tm ds h K => kO (loadOne h (nthD 0 env)) ds h K⟩ ⟨fun v tm => tm⟩ ⟨fun env tm => isB false (nthD 1 env)⟩
  ⟨opStep ⟨fun call env tm ds h K => kO (lenSl (nthD 0 env)) ds h K⟩ ⟨fun v tm => tm⟩ ⟨fun env tm => isB false (nthD 2 env)⟩
  ⟨opStep ⟨fun call env tm ds h K => kO (binV Tryd.prog .gtr 3 true (nthD 0 env) (.int .i64 (40))) ds h K⟩ ⟨fun v tm => tm⟩ ⟨fun env tm => isB false (nthD 3 env)⟩
  ⟨opStep ⟨fun call env tm ds h K => kO (pickV (nthD 4 env) (.bool true) (nthD 0 env)) ds h K⟩ ⟨fun v tm => (T.set tm 15 v)⟩ ⟨fun env tm => true⟩
  ⟨fun _ _ tm ds h K => K .norm tm ds h⟩⟩⟩⟩⟩⟩⟩⟩⟩ : Box OpsT).f call [] tm ds h K
noncomputable def r4_3 : CodeT := fun call _ tm ds h K =>
  K .norm (T.set tm 2 (.bool true)) ds h
noncomputable def r4_4 : CodeT := fun call _ tm ds h K =>
  K .norm (T.set tm 4 (.int .i64 (0))) ds h
noncomputable def r4_5 : CodeT := fun call _ tm ds h K =>
  kO (fieldPtr 2 (tg tm 1)) ds h (fun v1 ds h =>
  kO (loadOne h v1) ds h (fun v2 ds h =>
  kO (lenSl v2) ds h (fun v3 ds h =>
  kO (binV Tryd.prog .lss 3 false (tg tm 4) v3) ds h (fun v4 ds h =>
  K .norm (T.set tm 20 v4) ds h))))
noncomputable def r4_7 : CodeT := fun call _ tm ds h K =>
  kO (fieldPtr 2 (tg tm 1)) ds h (fun v0 ds h =>
  kO (loadOne h v0) ds h (fun v1 ds h =>
  kO (indexSl 1 v1 (tg tm 4)) ds h (fun v3 ds h =>
  kO (loadOne h v3) ds h (fun v4 ds h =>
  kO (lenStr v4) ds h (fun v5 ds h =>
  kO (binV Tryd.prog .gtr 3 true v5 (.int .i64 (200))) ds h (fun v6 ds h =>
  K .norm (T.set tm 29 v6) ds h))))))
noncomputable def r4_8 : CodeT := fun call _ tm ds h K =>
  K .norm (T.set tm 2 (.bool true)) ds h
noncomputable def r4_6 : CodeT := fun call _ tm ds h K =>
  kO (binV Tryd.prog .add 3 true (tg tm 4) (.int .i64 (1))) ds h (fun v1 ds h =>
  K .norm (T.set tm 4 v1) ds h)
noncomputable def l4_9 : Box CodeT := ⟨seqC ⟨seqC ⟨r4_5⟩ ⟨condC ⟨fun _ tm => tg tm 20⟩ skipC (exitC 0)⟩⟩ ⟨seqC ⟨blockC 1 ⟨seqC ⟨r4_7⟩ ⟨condC ⟨fun _ tm => tg tm 29⟩ ⟨seqC ⟨r4_8⟩ retC⟩ skipC⟩⟩⟩ ⟨r4_6⟩⟩⟩
noncomputable def r4_9 : CodeT := fun call _ tm ds h K =>
  K .norm (T.set tm 2 (.bool false)) ds h
noncomputable def c4 : Box CodeT := ⟨seqC ⟨r4_0⟩ ⟨seqC ⟨r4_1⟩ ⟨seqC ⟨seqC ⟨r4_2⟩ ⟨condC ⟨fun _ tm => tg tm 15⟩ ⟨seqC ⟨r4_3⟩ retC⟩ skipC⟩⟩ ⟨seqC ⟨seqC ⟨r4_4⟩ ⟨blockC 0 (loopB l4_9)⟩⟩ ⟨seqC ⟨r4_9⟩ retC⟩⟩⟩⟩⟩
noncomputable def q4 : Box (T Value → H → Option (List Value)) := ⟨fun tm h => some [tg tm 2]⟩

/-! 5 cloakroom/text.Write -/
noncomputable def r5_0 : CodeT := fun call _ tm ds h K =>
  kA (some (.rw (Value.cells (tg tm 0)).toList (some 28), ptrTo h.next)) ds h (fun v0 ds h =>
  K .norm (T.set (T.set (T.set tm 1 v0) 2 (.slice none 0 0)) 3 (.int .i64 (0))) ds h)
noncomputable def r5_1 : CodeT := fun call _ tm ds h K => (⟨opStep ⟨fun call env tm ds h K => kO (fieldPtr 0 (tg tm 1)) ds h K⟩ ⟨fun v tm => tm⟩ ⟨fun env tm => true⟩
  ⟨opStep ⟨fun call env tm ds h K => kO (loadOne h (nthD 0 env)) ds h K⟩ ⟨fun v tm => tm⟩ ⟨fun env tm => true⟩
  ⟨opStep ⟨fun call env tm ds h K => kO (binV Tryd.prog .lss 5 true (nthD 0 env) (.int .u8 (1))) ds h K⟩ ⟨fun v tm => tm⟩ ⟨fun env tm => true⟩
  ⟨opStep ⟨fun call env tm ds h K => kO (some (nthD 0 env)) ds h K⟩ ⟨fun v tm => tm⟩ ⟨fun env tm => true⟩
  ⟨opStep ⟨fun call env tm ds h K => kO (fieldPtr 0 (tg tm 1)) ds h K⟩ ⟨fun v tm => tm⟩ ⟨fun env tm => isB false (nthD 0 env)⟩
  ⟨opStep ⟨fun call env tm ds h K => kO (loadOne h (nthD 0 env)) ds h K⟩ ⟨fun v tm => tm⟩ ⟨fun env tm => isB false (nthD 1 env)⟩
  ⟨opStep ⟨fun call env tm ds h K => kO (binV Tryd.prog .gtr 5 true (nthD 0 env) (.int .u8 (5))) ds h K⟩ ⟨fun v tm => tm⟩ ⟨fun env tm => isB false (nthD 2 env)⟩
  ⟨opStep ⟨fun call env tm ds h K => kO (pickV (nthD 3 env) (.bool true) (nthD 0 env)) ds h K⟩ ⟨fun v tm => tm⟩ ⟨fun env tm => true⟩
  ⟨opStep ⟨fun call env tm ds h K => kO (some (nthD 0 env)) ds h K⟩ ⟨fun v tm => tm⟩ ⟨fun env tm => true⟩
  ⟨opStep ⟨fun call env tm ds h K => kO (loadAgg 13 h (tg tm 1)) ds h K⟩ ⟨fun v tm => tm⟩ ⟨fun env tm => isB false (nthD 0 env)⟩
  ⟨opStep ⟨fun call env tm ds h K => call 7 [(nthD 0 env)] h (fun v h => (K) v ds h)⟩ ⟨fun v tm => tm⟩ ⟨fun env tm => isB false (nthD 1 env)⟩
  ⟨opStep ⟨fun call env tm ds h K => kO (unV .not (nthD 0 env)) ds h K⟩ ⟨fun v tm => tm⟩ ⟨fun env tm => isB false (nthD 2 env)⟩
  ⟨opStep ⟨fun call env tm ds h K => kO (pickV (nthD 3 env) (.bool true) (nthD 0 env)) ds h K⟩ ⟨fun v tm => (T.set tm 22 v)⟩ ⟨fun env tm => true⟩
  ⟨fun _ _ tm ds h K => K .norm tm ds h⟩⟩⟩⟩⟩⟩⟩⟩⟩⟩⟩⟩⟩⟩ : Box OpsT).f call [] tm ds h K
noncomputable def r5_2 : CodeT := fun call _ tm ds h K =>
  K .norm (T.set (T.set tm 2 (.slice none 0 0)) 3 (.int .i64 (8))) ds h
noncomputable def r5_3 : CodeT := fun call _ tm ds h K =>
  K .norm (T.set tm 4 (.slice none 0 0)) ds h
noncomputable def r5_4 : CodeT := fun call _ tm ds h K =>
  kO (fieldPtr 0 (tg tm 1)) ds h (fun v0 ds h =>
  kO (loadOne h v0) ds h (fun v1 ds h =>
  K .norm (T.set tm 24 v1) ds h))
noncomputable def r5_6 : CodeT := fun call _ tm ds h K =>
  kO (binV Tryd.prog .eql 5 true (tg tm 24) (.int .u8 (1))) ds h (fun v0 ds h =>
  K .norm (T.set tm 26 v0) ds h)
noncomputable def r5_7 : CodeT := fun call _ tm ds h K =>
  kO (fieldPtr 1 (tg tm 1)) ds h (fun v0 ds h =>
  kO (loadAgg 8 h v0) ds h (fun v1 ds h =>
  kA (some (.rw [(.int .u8 (0)), (.int .i64 (0)), (.slice none 0 0), (.string (strB [])), (.int .u32 (0)), (.int .i64 (0)), (.int .u64 (0)), (.int .u64 (0))] (some 26), ptrTo h.next)) ds h (fun v2 ds h =>
  kH (withV undef (storeV 8 h v2 v1)) ds (fun v3 ds h =>
  K .norm (T.set tm 5 v2) ds h))))
noncomputable def r5_8 : CodeT := fun call _ tm ds h K =>
  kO (loadAgg 8 h (tg tm 5)) ds h (fun v0 ds h =>
  call 8 [v0] h (fun v h => (fun v1 ds h =>
  K .norm (T.set tm 6 v1) ds h) v ds h))
noncomputable def r5_9 : CodeT := fun call _ tm ds h K =>
  kO (binV Tryd.prog .neq 31 true (tg tm 6) (.int .i64 (0))) ds h (fun v1 ds h =>
  K .norm (T.set tm 33 v1) ds h)
noncomputable def r5_10 : CodeT := fun call _ tm ds h K =>
  K .norm (T.set (T.set tm 2 (.slice none 0 0)) 3 (tg tm 6)) ds h
noncomputable def r5_11 : CodeT := fun call _ tm ds h K => (⟨opStep ⟨fun call env tm ds h K => kO (fieldPtr 1 (tg tm 5)) ds h K⟩ ⟨fun v tm => tm⟩ ⟨fun env tm => true⟩
  ⟨opStep ⟨fun call env tm ds h K => kO (loadOne h (nthD 0 env)) ds h K⟩ ⟨fun v tm => tm⟩ ⟨fun env tm => true⟩
  ⟨opStep ⟨fun call env tm ds h K => kO (binV Tryd.prog .neq 3 true (nthD 0 env) (.int .i64 (0))) ds h K⟩ ⟨fun v tm => tm⟩ ⟨fun env tm => true⟩
  ⟨opStep ⟨fun call env tm ds h K => kO (some (nthD 0 env)) ds h K⟩ ⟨fun v tm => tm⟩ ⟨fun env tm => true⟩
  ⟨opStep ⟨fun call env tm ds h K => kO (fieldPtr 2 (tg tm 5)) ds h K⟩ ⟨fun v tm => tm⟩ ⟨fun env tm => isB false (nthD 0 env)⟩
  ⟨opStep ⟨fun call env tm ds h K => kO (loadOne h (nthD 0 env)) ds h K⟩ ⟨fun v tm => tm⟩ ⟨fun env tm => isB false (nthD 1 env)⟩
  ⟨opStep ⟨fun call env tm ds h K => call 9 [(nthD 0 env), (.func (.func 10) #[] #[])] h (fun v h => (K) v ds h)⟩ ⟨fun v tm => tm⟩ ⟨fun env tm => isB false (nthD 2 env)⟩
  ⟨opStep ⟨fun call env tm ds h K => kO (pickV (nthD 3 env) (.bool true) (nthD 0 env)) ds h K⟩ ⟨fun v tm => (T.set tm 42 v)⟩ ⟨fun env tm => true⟩
  ⟨fun _ _ tm ds h K => K .norm tm ds h⟩⟩⟩⟩⟩⟩⟩⟩⟩ : Box OpsT).f call [] tm ds h K
noncomputable def r5_12 : CodeT := fun call _ tm ds h K =>
  K .norm (T.set (T.set tm 2 (.slice none 0 0)) 3 (.int .i64 (8))) ds h
noncomputable def r5_13 : CodeT := fun call _ tm ds h K =>
  kO (loadAgg 8 h (tg tm 5)) ds h (fun v0 ds h =>
  call 12 [v0] h (fun v h => (fun v1 ds h =>
  kO (tupNth 0 v1) ds h (fun v3 ds h =>
  kO (tupNth 1 v1) ds h (fun v4 ds h =>
  K .norm (T.set (T.set tm 7 v3) 8 v4) ds h))) v ds h))
noncomputable def r5_14 : CodeT := fun call _ tm ds h K =>
  call 13 [(tg tm 7), (.string (strB [32]))] h (fun v h => (fun v1 ds h =>
  kO (binV Tryd.prog .add 9 true v1 (.string (strB [13, 10]))) ds h (fun v2 ds h =>
  K .norm (T.set tm 9 v2) ds h)) v ds h)
noncomputable def r5_15 : CodeT := fun call _ tm ds h K =>
  K .norm (T.set tm 51 (tg tm 8)) ds h
noncomputable def r5_16 : CodeT := fun call _ tm ds h K =>
  kO (fieldPtr 3 (tg tm 5)) ds h (fun v1 ds h =>
  kO (loadOne h v1) ds h (fun v2 ds h =>
  kO (binV Tryd.prog .add 9 true v2 (.string (strB [13, 10]))) ds h (fun v3 ds h =>
  kO (binV Tryd.prog .add 9 false (tg tm 9) v3) ds h (fun v4 ds h =>
  K .norm (T.set tm 9 v4) ds h))))
noncomputable def r5_17 : CodeT := fun call _ tm ds h K =>
  kA (mkBytes 5 h.next (tg tm 9)) ds h (fun v1 ds h =>
  K .norm (T.set (T.set tm 2 v1) 3 (.int .i64 (0))) ds h)
noncomputable def r5_18 : CodeT := fun call _ tm ds h K =>
  kO (binV Tryd.prog .eql 5 true (tg tm 24) (.int .u8 (2))) ds h (fun v0 ds h =>
  K .norm (T.set tm 59 v0) ds h)
noncomputable def r5_19 : CodeT := fun call _ tm ds h0 K =>
  (fun (b0 : Nat) (h : H) =>
  kO (fieldPtr 9 (tg tm 1)) ds h (fun v0 ds h =>
  kO (loadOne h v0) ds h (fun v1 ds h =>
  kO (fieldPtr 10 (tg tm 1)) ds h (fun v3 ds h =>
  kO (loadOne h v3) ds h (fun v4 ds h =>
  call 14 [v1] h (fun v h => (fun v2 ds h =>
  andB ((hO (loadOne h v3) v4 true) && true) (aO (mkLit 9 3 (b0 + 5) (fill (repl [(.string (strB []))] 3) (pl 1) [(0, (.string (strB [117, 115, 101, 114]))), (1, v2), (2, v4)])) (fun x5 v5 =>
  K .norm (T.set tm 4 v5) ds (H.put h (b0 + 5) x5)))) v ds h)))))) h0.next ⟨h0.objs, h0.next + 7⟩
noncomputable def r5_20 : CodeT := fun call _ tm ds h K =>
  kO (binV Tryd.prog .eql 5 true (tg tm 24) (.int .u8 (3))) ds h (fun v0 ds h =>
  K .norm (T.set tm 67 v0) ds h)
noncomputable def r5_21 : CodeT := fun call _ tm ds h K =>
  kA (some (.map [] 0, .map (some h.next))) ds h (fun v0 ds h =>
  kH (withV undef (updM Tryd.prog 4 h v0 (.bool true) (.string (strB [111, 110])))) ds (fun v1 ds h =>
  kH (withV undef (updM Tryd.prog 4 h v0 (.bool false) (.string (strB [111, 102, 102])))) ds (fun v2 ds h =>
  kO (fieldPtr 11 (tg tm 1)) ds h (fun v4 ds h =>
  kO (loadOne h v4) ds h (fun v5 ds h =>
  kO (lookV Tryd.prog 4 (.string (strB [])) false h v0 v5) ds h (fun v6 ds h =>
  kA (mkLit 9 2 h.next (fill (repl [(.string (strB []))] 2) (pl 1) [(0, (.string (strB [116, 114, 97, 99, 107]))), (1, v6)])) ds h (fun v7 ds h =>
  K .norm (T.set tm 4 v7) ds h)))))))
noncomputable def r5_22 : CodeT := fun call _ tm ds h K =>
  kO (binV Tryd.prog .eql 5 true (tg tm 24) (.int .u8 (4))) ds h (fun v0 ds h =>
  K .norm (T.set tm 75 v0) ds h)
noncomputable def r5_23 : CodeT := fun call _ tm ds h K =>
  kA (mkLit 9 1 h.next (fill (repl [(.string (strB []))] 1) (pl 1) [(0, (.string (strB [112, 105, 110, 103])))])) ds h (fun v0 ds h =>
  K .norm (T.set tm 4 v0) ds h)
noncomputable def r5_5 : CodeT := fun call _ tm ds h K =>
  kA (mkLit 9 1 h.next (fill (repl [(.string (strB []))] 1) (pl 1) [(0, (.string (strB [113, 117, 105, 116])))])) ds h (fun v0 ds h =>
  K .norm (T.set tm 4 v0) ds h)
noncomputable def r5_24 : CodeT := fun call _ tm ds h K =>
  call 13 [(tg tm 4), (.string (strB [32]))] h (fun v h => (fun v1 ds h =>
  kO (binV Tryd.prog .add 9 true v1 (.string (strB [13, 10]))) ds h (fun v2 ds h =>
  kA (mkBytes 5 h.next v2) ds h (fun v3 ds h =>
  K .norm (T.set (T.set tm 2 v3) 3 (.int .i64 (0))) ds h))) v ds h)
noncomputable def c5 : Box CodeT := ⟨seqC ⟨r5_0⟩ ⟨seqC ⟨seqC ⟨r5_1⟩ ⟨condC ⟨fun _ tm => tg tm 22⟩ ⟨seqC ⟨r5_2⟩ retC⟩ skipC⟩⟩ ⟨seqC ⟨r5_3⟩ ⟨seqC ⟨seqC ⟨r5_4⟩ ⟨blockC 0 ⟨seqC ⟨r5_6⟩ ⟨condC ⟨fun _ tm => tg tm 26⟩ ⟨seqC ⟨r5_7⟩ ⟨seqC ⟨seqC ⟨r5_8⟩ ⟨seqC ⟨r5_9⟩ ⟨condC ⟨fun _ tm => tg tm 33⟩ ⟨seqC ⟨r5_10⟩ retC⟩ skipC⟩⟩⟩ ⟨seqC ⟨seqC ⟨r5_11⟩ ⟨condC ⟨fun _ tm => tg tm 42⟩ ⟨seqC ⟨r5_12⟩ retC⟩ skipC⟩⟩ ⟨seqC ⟨r5_13⟩ ⟨seqC ⟨r5_14⟩ ⟨seqC ⟨seqC ⟨r5_15⟩ ⟨condC ⟨fun _ tm => tg tm 51⟩ ⟨r5_16⟩ skipC⟩⟩ ⟨seqC ⟨r5_17⟩ retC⟩⟩⟩⟩⟩⟩⟩ ⟨seqC ⟨r5_18⟩ ⟨condC ⟨fun _ tm => tg tm 59⟩ ⟨r5_19⟩ ⟨seqC ⟨r5_20⟩ ⟨condC ⟨fun _ tm => tg tm 67⟩ ⟨r5_21⟩ ⟨seqC ⟨r5_22⟩ ⟨condC ⟨fun _ tm => tg tm 75⟩ ⟨r5_23⟩ ⟨r5_5⟩⟩⟩⟩⟩⟩⟩⟩⟩⟩⟩ ⟨seqC ⟨r5_24⟩ retC⟩⟩⟩⟩⟩
noncomputable def q5 : Box (T Value → H → Option (List Value)) := ⟨fun tm h => some [tg tm 2, tg tm 3]⟩

/-! 6 cloakroom/cloakroomref14.Write -/
noncomputable def r6_0 : CodeT := fun call _ tm ds h K =>
  kA (some (.rw (Value.cells (tg tm 0)).toList (some 28), ptrTo h.next)) ds h (fun v0 ds h =>
  K .norm (T.set (T.set (T.set tm 1 v0) 2 (.slice none 0 0)) 3 (.int .i64 (0))) ds h)
noncomputable def r6_1 : CodeT := fun call _ tm ds h K => (⟨opStep ⟨fun call env tm ds h K => kO (fieldPtr 12 (tg tm 1)) ds h K⟩ ⟨fun v tm => tm⟩ ⟨fun env tm => true⟩
  ⟨opStep ⟨fun call env tm ds h K => kO (loadOne h (nthD 0 env)) ds h K⟩ ⟨fun v tm => tm⟩ ⟨fun env tm => true⟩
  ⟨opStep ⟨fun call env tm ds h K => kO (some (nthD 0 env)) ds h K⟩ ⟨fun v tm => tm⟩ ⟨fun env tm => true⟩
  ⟨opStep ⟨fun call env tm ds h K => kO (fieldPtr 11 (tg tm 1)) ds h K⟩ ⟨fun v tm => tm⟩ ⟨fun env tm => isB false (nthD 0 env)⟩
  ⟨opStep ⟨fun call env tm ds h K => kO (loadOne h (nthD 0 env)) ds h K⟩ ⟨fun v tm => tm⟩ ⟨fun env tm => isB false (nthD 1 env)⟩
  ⟨opStep ⟨fun call env tm ds h K => kO (some (nthD 0 env)) ds h K⟩ ⟨fun v tm => tm⟩ ⟨fun env tm => isB false (nthD 2 env)⟩
  ⟨opStep ⟨fun call env tm ds h K => kO (fieldPtr 0 (tg tm 1)) ds h K⟩ ⟨fun v tm => tm⟩ ⟨fun env tm => isB true (nthD 0 env)⟩
  ⟨opStep ⟨fun call env tm ds h K => kO (loadOne h (nthD 0 env)) ds h K⟩ ⟨fun v tm => tm⟩ ⟨fun env tm => isB true (nthD 1 env)⟩
  ⟨opStep ⟨fun call env tm ds h K => kO (binV Tryd.prog .neq 5 true (nthD 0 env) (.int .u8 (3))) ds h K⟩ ⟨fun v tm => tm⟩ ⟨fun env tm => isB true (nthD 2 env)⟩
  ⟨opStep ⟨fun call env tm ds h K => kO (pickV (nthD 3 env) (nthD 0 env) (.bool false)) ds h K⟩ ⟨fun v tm => tm⟩ ⟨fun env tm => isB false (nthD 6 env)⟩
  ⟨opStep ⟨fun call env tm ds h K => kO (pickV (nthD 7 env) (.bool true) (nthD 0 env)) ds h K⟩ ⟨fun v tm => tm⟩ ⟨fun env tm => true⟩
  ⟨opStep ⟨fun call env tm ds h K => kO (some (nthD 0 env)) ds h K⟩ ⟨fun v tm => tm⟩ ⟨fun env tm => true⟩
  ⟨opStep ⟨fun call env tm ds h K => kO (fieldPtr 0 (tg tm 1)) ds h K⟩ ⟨fun v tm => tm⟩ ⟨fun env tm => isB false (nthD 0 env)⟩
  ⟨opStep ⟨fun call env tm ds h K => kO (loadOne h (nthD 0 env)) ds h K⟩ ⟨fun v tm => tm⟩ ⟨fun env tm => isB false (nthD 1 env)⟩
  ⟨opStep ⟨fun call env tm ds h K => kO (binV Tryd.prog .neq 5 true (nthD 0 env) (.int .u8 (2))) ds h K⟩ ⟨fun v tm => tm⟩ ⟨fun env tm => isB false (nthD 2 env)⟩
  ⟨opStep ⟨fun call env tm ds h K => kO (some (nthD 0 env)) ds h K⟩ ⟨fun v tm => tm⟩ ⟨fun env tm => isB false (nthD 3 env)⟩
  ⟨opStep ⟨fun call env tm ds h K => kO (fieldPtr 9 (tg tm 1)) ds h K⟩ ⟨fun v tm => tm⟩ ⟨fun env tm => isB true (nthD 0 env)⟩
  ⟨opStep ⟨fun call env tm ds h K => kO (loadOne h (nthD 0 env)) ds h K⟩ ⟨fun v tm => tm⟩ ⟨fun env tm => isB true (nthD 1 env)⟩
  ⟨opStep ⟨fun call env tm ds h K => kO (binV Tryd.prog .neq 3 true (nthD 0 env) (.int .i64 (0))) ds h K⟩ ⟨fun v tm => tm⟩ ⟨fun env tm => isB true (nthD 2 env)⟩
  ⟨opStep ⟨fun call env tm ds h K => kO (some (nthD 0 env)) ds h K⟩ ⟨fun v tm => tm⟩ ⟨fun env tm => isB true (nthD 3 env)⟩
  ⟨opStep ⟨fun call env tm ds h K => kO (fieldPtr 10 (tg tm 1)) ds h K⟩ ⟨fun v tm => tm⟩ ⟨fun env tm => isB false (nthD 0 env)⟩
  ⟨opStep ⟨fun call env tm ds h K => kO (loadOne h (nthD 0 env)) ds h K⟩ ⟨fun v tm => tm⟩ ⟨fun env tm => isB false (nthD 1 env)⟩
  ⟨opStep ⟨fun call env tm ds h K => kO (binV Tryd.prog .neq 9 true (nthD 0 env) (.string (strB []))) ds h K⟩ ⟨fun v tm => tm⟩ ⟨fun env tm => isB false (nthD 2 env)⟩
  ⟨opStep ⟨fun call env tm ds h K => kO (pickV (nthD 3 env) (.bool true) (nthD 0 env)) ds h K⟩ ⟨fun v tm => tm⟩ ⟨fun env tm => isB true (nthD 7 env)⟩
  ⟨opStep ⟨fun call env tm ds h K => kO (pickV (nthD 8 env) (nthD 0 env) (.bool false)) ds h K⟩ ⟨fun v tm => tm⟩ ⟨fun env tm => isB false (nthD 12 env)⟩
  ⟨opStep ⟨fun call env tm ds h K => kO (pickV (nthD 13 env) (.bool true) (nthD 0 env)) ds h K⟩ ⟨fun v tm => tm⟩ ⟨fun env tm => true⟩
  ⟨opStep ⟨fun call env tm ds h K => kO (some (nthD 0 env)) ds h K⟩ ⟨fun v tm => tm⟩ ⟨fun env tm => true⟩
  ⟨opStep ⟨fun call env tm ds h K => kO (fieldPtr 0 (tg tm 1)) ds h K⟩ ⟨fun v tm => tm⟩ ⟨fun env tm => isB false (nthD 0 env)⟩
  ⟨opStep ⟨fun call env tm ds h K => kO (loadOne h (nthD 0 env)) ds h K⟩ ⟨fun v tm => tm⟩ ⟨fun env tm => isB false (nthD 1 env)⟩
  ⟨opStep ⟨fun call env tm ds h K => kO (binV Tryd.prog .neq 5 true (nthD 0 env) (.int .u8 (1))) ds h K⟩ ⟨fun v tm => tm⟩ ⟨fun env tm => isB false (nthD 2 env)⟩
  ⟨opStep ⟨fun call env tm ds h K => kO (some (nthD 0 env)) ds h K⟩ ⟨fun v tm => tm⟩ ⟨fun env tm => isB false (nthD 3 env)⟩
  ⟨opStep ⟨fun call env tm ds h K => kO (fieldPtr 1 (tg tm 1)) ds h K⟩ ⟨fun v tm => tm⟩ ⟨fun env tm => isB true (nthD 0 env)⟩
  ⟨opStep ⟨fun call env tm ds h K => kO (loadAgg 8 h (nthD 0 env)) ds h K⟩ ⟨fun v tm => tm⟩ ⟨fun env tm => isB true (nthD 1 env)⟩
  ⟨opStep ⟨fun call env tm ds h K => call 15 [(nthD 0 env)] h (fun v h => (K) v ds h)⟩ ⟨fun v tm => tm⟩ ⟨fun env tm => isB true (nthD 2 env)⟩
  ⟨opStep ⟨fun call env tm ds h K => kO (unV .not (nthD 0 env)) ds h K⟩ ⟨fun v tm => tm⟩ ⟨fun env tm => isB true (nthD 3 env)⟩
  ⟨opStep ⟨fun call env tm ds h K => kO (pickV (nthD 4 env) (nthD 0 env) (.bool false)) ds h K⟩ ⟨fun v tm => tm⟩ ⟨fun env tm => isB false (nthD 8 env)⟩
  ⟨opStep ⟨fun call env tm ds h K => kO (pickV (nthD 9 env) (.bool true) (nthD 0 env)) ds h K⟩ ⟨fun v tm => (T.set tm 42 v)⟩ ⟨fun env tm => true⟩
  ⟨fun _ _ tm ds h K => K .norm tm ds h⟩⟩⟩⟩⟩⟩⟩⟩⟩⟩⟩⟩⟩⟩⟩⟩⟩⟩⟩⟩⟩⟩⟩⟩⟩⟩⟩⟩⟩⟩⟩⟩⟩⟩⟩⟩⟩⟩ : Box OpsT).f call [] tm ds h K
noncomputable def r6_2 : CodeT := fun call _ tm ds h K =>
  K .norm (T.set (T.set tm 2 (.slice none 0 0)) 3 (.int .i64 (8))) ds h
noncomputable def r6_3 : CodeT := fun call _ tm ds h K =>
  kO (fieldPtr 0 (tg tm 1)) ds h (fun v0 ds h =>
  kO (loadOne h v0) ds h (fun v1 ds h =>
  K .norm (T.set tm 44 v1) ds h))
noncomputable def r6_4 : CodeT := fun call _ tm ds h K =>
  kO (binV Tryd.prog .eql 5 true (tg tm 44) (.int .u8 (1))) ds h (fun v0 ds h =>
  K .norm (T.set tm 45 v0) ds h)
noncomputable def r6_5 : CodeT := fun call _ tm ds h K =>
  kO (fieldPtr 1 (tg tm 1)) ds h (fun v0 ds h =>
  kO (loadAgg 8 h v0) ds h (fun v1 ds h =>
  call 16 [v1] h (fun v h => (fun v2 ds h =>
  K .norm (T.set tm 4 v2) ds h) v ds h)))
noncomputable def r6_6 : CodeT := fun call _ tm ds h K =>
  kO (binV Tryd.prog .neq 3 true (tg tm 4) (.int .i64 (0))) ds h (fun v1 ds h =>
  K .norm (T.set tm 51 v1) ds h)
noncomputable def r6_7 : CodeT := fun call _ tm ds h K =>
  K .norm (T.set (T.set tm 2 (.slice none 0 0)) 3 (tg tm 4)) ds h
noncomputable def r6_8 : CodeT := fun call _ tm ds h K =>
  K .norm (T.set tm 5 (.int .i64 (0))) ds h
noncomputable def r6_9 : CodeT := fun call _ tm ds h K =>
  kO (fieldPtr 1 (tg tm 1)) ds h (fun v1 ds h =>
  kO (fieldPtr 2 v1) ds h (fun v2 ds h =>
  kO (loadOne h v2) ds h (fun v3 ds h =>
  kO (lenSl v3) ds h (fun v4 ds h =>
  kO (binV Tryd.prog .lss 3 false (tg tm 5) v4) ds h (fun v5 ds h =>
  K .norm (T.set tm 58 v5) ds h)))))
noncomputable def r6_11 : CodeT := fun call _ tm ds h K =>
  kO (fieldPtr 1 (tg tm 1)) ds h (fun v0 ds h =>
  kO (fieldPtr 2 v0) ds h (fun v1 ds h =>
  kO (loadOne h v1) ds h (fun v2 ds h =>
  kO (indexSl 1 v2 (tg tm 5)) ds h (fun v4 ds h =>
  kO (loadOne h v4) ds h (fun v5 ds h =>
  call 17 [v5, (.int .i64 (32))] h (fun v h => (fun v6 ds h =>
  kO (unV .not v6) ds h (fun v7 ds h =>
  K .norm (T.set tm 68 v7) ds h)) v ds h))))))
noncomputable def r6_12 : CodeT := fun call _ tm ds h K =>
  K .norm (T.set (T.set tm 2 (.slice none 0 0)) 3 (.int .i64 (8))) ds h
noncomputable def r6_10 : CodeT := fun call _ tm ds h K =>
  kO (binV Tryd.prog .add 3 true (tg tm 5) (.int .i64 (1))) ds h (fun v1 ds h =>
  K .norm (T.set tm 5 v1) ds h)
noncomputable def l6_13 : Box CodeT := ⟨seqC ⟨seqC ⟨r6_9⟩ ⟨condC ⟨fun _ tm => tg tm 58⟩ skipC (exitC 1)⟩⟩ ⟨seqC ⟨blockC 2 ⟨seqC ⟨r6_11⟩ ⟨condC ⟨fun _ tm => tg tm 68⟩ ⟨seqC ⟨r6_12⟩ retC⟩ skipC⟩⟩⟩ ⟨r6_10⟩⟩⟩
noncomputable def r6_13 : CodeT := fun call _ tm ds h K =>
  kO (fieldPtr 1 (tg tm 1)) ds h (fun v0 ds h =>
  kO (fieldPtr 1 v0) ds h (fun v1 ds h =>
  kO (loadOne h v1) ds h (fun v2 ds h =>
  kO (binV Tryd.prog .neq 3 true v2 (.int .i64 (0))) ds h (fun v3 ds h =>
  K .norm (T.set tm 72 v3) ds h))))
noncomputable def r6_14 : CodeT := fun call _ tm ds h K =>
  K .norm (T.set (T.set tm 2 (.slice none 0 0)) 3 (.int .i64 (8))) ds h
noncomputable def r6_15 : CodeT := fun call _ tm ds h K =>
  kO (fieldPtr 1 (tg tm 1)) ds h (fun v0 ds h =>
  kO (loadAgg 8 h v0) ds h (fun v1 ds h =>
  call 18 [v1] h (fun v h => (fun v2 ds h =>
  kA (mkBytes 5 h.next v2) ds h (fun v3 ds h =>
  K .norm (T.set (T.set tm 2 v3) 3 (.int .i64 (0))) ds h)) v ds h)))
noncomputable def r6_16 : CodeT := fun call _ tm ds h K =>
  kO (binV Tryd.prog .eql 5 true (tg tm 44) (.int .u8 (2))) ds h (fun v0 ds h =>
  K .norm (T.set tm 77 v0) ds h)
noncomputable def r6_17 : CodeT := fun call _ tm ds h K => (⟨opStep ⟨fun call env tm ds h K => kO (fieldPtr 9 (tg tm 1)) ds h K⟩ ⟨fun v tm => tm⟩ ⟨fun env tm => true⟩
  ⟨opStep ⟨fun call env tm ds h K => kO (loadOne h (nthD 0 env)) ds h K⟩ ⟨fun v tm => tm⟩ ⟨fun env tm => true⟩
  ⟨opStep ⟨fun call env tm ds h K => kO (binV Tryd.prog .lss 3 true (nthD 0 env) (.int .i64 (0))) ds h K⟩ ⟨fun v tm => tm⟩ ⟨fun env tm => true⟩
  ⟨opStep ⟨fun call env tm ds h K => kO (some (nthD 0 env)) ds h K⟩ ⟨fun v tm => tm⟩ ⟨fun env tm => true⟩
  ⟨opStep ⟨fun call env tm ds h K => kO (fieldPtr 9 (tg tm 1)) ds h K⟩ ⟨fun v tm => tm⟩ ⟨fun env tm => isB false (nthD 0 env)⟩
  ⟨opStep ⟨fun call env tm ds h K => kO (loadOne h (nthD 0 env)) ds h K⟩ ⟨fun v tm => tm⟩ ⟨fun env tm => isB false (nthD 1 env)⟩
  ⟨opStep ⟨fun call env tm ds h K => kO (binV Tryd.prog .geq 3 true (nthD 0 env) (.int .i64 (4))) ds h K⟩ ⟨fun v tm => tm⟩ ⟨fun env tm => isB false (nthD 2 env)⟩
  ⟨opStep ⟨fun call env tm ds h K => kO (pickV (nthD 3 env) (.bool true) (nthD 0 env)) ds h K⟩ ⟨fun v tm => tm⟩ ⟨fun env tm => true⟩
  ⟨opStep ⟨fun call env tm ds h K => kO (some (nthD 0 env)) ds h K⟩ ⟨fun v tm => tm⟩ ⟨fun env tm => true⟩
  ⟨opStep ⟨fun call env tm ds h K => kO (fieldPtr 10 (tg tm 1)) ds h K⟩ ⟨fun v tm => tm⟩ ⟨fun env tm => isB false (nthD 0 env)⟩
  ⟨opStep ⟨fun call env tm ds h K => kO (loadOne h (nthD 0 env)) ds h K⟩ ⟨fun v tm => tm⟩ ⟨fun env tm => isB false (nthD 1 env)⟩
  ⟨opStep ⟨fun call env tm ds h K => call 17 [(nthD 0 env), (.int .i64 (16))] h (fun v h => (K) v ds h)⟩ ⟨fun v tm => tm⟩ ⟨fun env tm => isB false (nthD 2 env)⟩
  ⟨opStep ⟨fun call env tm ds h K => kO (unV .not (nthD 0 env)) ds h K⟩ ⟨fun v tm => tm⟩ ⟨fun env tm => isB false (nthD 3 env)⟩
  ⟨opStep ⟨fun call env tm ds h K => kO (pickV (nthD 4 env) (.bool true) (nthD 0 env)) ds h K⟩ ⟨fun v tm => (T.set tm 92 v)⟩ ⟨fun env tm => true⟩
  ⟨fun _ _ tm ds h K => K .norm tm ds h⟩⟩⟩⟩⟩⟩⟩⟩⟩⟩⟩⟩⟩⟩⟩ : Box OpsT).f call [] tm ds h K
noncomputable def r6_18 : CodeT := fun call _ tm ds h K =>
  K .norm (T.set (T.set tm 2 (.slice none 0 0)) 3 (.int .i64 (8))) ds h
noncomputable def r6_19 : CodeT := fun call _ tm ds h0 K =>
  (fun (b0 : Nat) (h : H) =>
  kO (fieldPtr 9 (tg tm 1)) ds h (fun v0 ds h =>
  kO (loadOne h v0) ds h (fun v1 ds h =>
  kO (toInt .u64 v1) ds h (fun v2 ds h =>
  kO (fieldPtr 10 (tg tm 1)) ds h (fun v6 ds h =>
  kO (loadOne h v6) ds h (fun v7 ds h =>
  call 19 [v2] h (fun v h => (fun v3 ds h =>
  andB ((hO (loadOne h v6) v7 true) && true) (kO (binV Tryd.prog .add 9 true (.string (strB [117, 115, 101, 114, 32])) v3) ds h (fun v4 ds h =>
  kO (binV Tryd.prog .add 9 true v4 (.string (strB [32]))) ds h (fun v5 ds h =>
  kO (binV Tryd.prog .add 9 false v5 v7) ds h (fun v8 ds h =>
  kO (binV Tryd.prog .add 9 true v8 (.string (strB [13, 10]))) ds h (fun v9 ds h =>
  aO (mkBytes 5 (b0 + 10) v9) (fun x10 v10 =>
  K .norm (T.set (T.set tm 2 v10) 3 (.int .i64 (0))) ds (H.put h (b0 + 10) x10)))))))) v ds h))))))) h0.next ⟨h0.objs, h0.next + 13⟩
noncomputable def r6_20 : CodeT := fun call _ tm ds h K =>
  kO (binV Tryd.prog .eql 5 true (tg tm 44) (.int .u8 (3))) ds h (fun v0 ds h =>
  K .norm (T.set tm 104 v0) ds h)
noncomputable def r6_21 : CodeT := fun call _ tm ds h K =>
  kO (fieldPtr 11 (tg tm 1)) ds h (fun v0 ds h =>
  kO (loadOne h v0) ds h (fun v1 ds h =>
  K .norm (T.set tm 107 v1) ds h))
noncomputable def r6_22 : CodeT := fun call _ tm ds h K =>
  kA (mkLit 5 10 h.next (fill (repl [(.int .u8 (0))] 10) (pl 1) [(0, (.int .u8 (116))), (1, (.int .u8 (114))), (2, (.int .u8 (97))), (3, (.int .u8 (99))), (4, (.int .u8 (107))), (5, (.int .u8 (32))), (6, (.int .u8 (111))), (7, (.int .u8 (110))), (8, (.int .u8 (13))), (9, (.int .u8 (10)))])) ds h (fun v0 ds h =>
  kH (markV h v0) ds (fun v1 ds h =>
  K .norm (T.set (T.set tm 2 v1) 3 (.int .i64 (0))) ds h))
noncomputable def r6_23 : CodeT := fun call _ tm ds h K =>
  kA (mkLit 5 11 h.next (fill (repl [(.int .u8 (0))] 11) (pl 1) [(0, (.int .u8 (116))), (1, (.int .u8 (114))), (2, (.int .u8 (97))), (3, (.int .u8 (99))), (4, (.int .u8 (107))), (5, (.int .u8 (32))), (6, (.int .u8 (111))), (7, (.int .u8 (102))), (8, (.int .u8 (102))), (9, (.int .u8 (13))), (10, (.int .u8 (10)))])) ds h (fun v0 ds h =>
  kH (markV h v0) ds (fun v1 ds h =>
  K .norm (T.set (T.set tm 2 v1) 3 (.int .i64 (0))) ds h))
noncomputable def r6_24 : CodeT := fun call _ tm ds h K =>
  kO (binV Tryd.prog .eql 5 true (tg tm 44) (.int .u8 (4))) ds h (fun v0 ds h =>
  K .norm (T.set tm 112 v0) ds h)
noncomputable def r6_25 : CodeT := fun call _ tm ds h K =>
  kA (mkLit 5 6 h.next (fill (repl [(.int .u8 (0))] 6) (pl 1) [(0, (.int .u8 (112))), (1, (.int .u8 (105))), (2, (.int .u8 (110))), (3, (.int .u8 (103))), (4, (.int .u8 (13))), (5, (.int .u8 (10)))])) ds h (fun v0 ds h =>
  kH (markV h v0) ds (fun v1 ds h =>
  K .norm (T.set (T.set tm 2 v1) 3 (.int .i64 (0))) ds h))
noncomputable def r6_26 : CodeT := fun call _ tm ds h K =>
  kO (binV Tryd.prog .eql 5 true (tg tm 44) (.int .u8 (5))) ds h (fun v0 ds h =>
  K .norm (T.set tm 116 v0) ds h)
noncomputable def r6_27 : CodeT := fun call _ tm ds h K =>
  kA (mkLit 5 6 h.next (fill (repl [(.int .u8 (0))] 6) (pl 1) [(0, (.int .u8 (113))), (1, (.int .u8 (117))), (2, (.int .u8 (105))), (3, (.int .u8 (116))), (4, (.int .u8 (13))), (5, (.int .u8 (10)))])) ds h (fun v0 ds h =>
  kH (markV h v0) ds (fun v1 ds h =>
  K .norm (T.set (T.set tm 2 v1) 3 (.int .i64 (0))) ds h))
noncomputable def r6_28 : CodeT := fun call _ tm ds h K =>
  K .norm (T.set (T.set tm 2 (.slice none 0 0)) 3 (.int .i64 (8))) ds h
noncomputable def c6 : Box CodeT := ⟨seqC ⟨r6_0⟩ ⟨seqC ⟨seqC ⟨r6_1⟩ ⟨condC ⟨fun _ tm => tg tm 42⟩ ⟨seqC ⟨r6_2⟩ retC⟩ skipC⟩⟩ ⟨seqC ⟨seqC ⟨r6_3⟩ ⟨blockC 0 ⟨seqC ⟨r6_4⟩ ⟨condC ⟨fun _ tm => tg tm 45⟩ ⟨seqC ⟨r6_5⟩ ⟨seqC ⟨seqC ⟨r6_6⟩ ⟨condC ⟨fun _ tm => tg tm 51⟩ ⟨seqC ⟨r6_7⟩ retC⟩ skipC⟩⟩ ⟨seqC ⟨seqC ⟨r6_8⟩ ⟨blockC 1 (loopB l6_13)⟩⟩ ⟨seqC ⟨seqC ⟨r6_13⟩ ⟨condC ⟨fun _ tm => tg tm 72⟩ ⟨seqC ⟨r6_14⟩ retC⟩ skipC⟩⟩ ⟨seqC ⟨r6_15⟩ retC⟩⟩⟩⟩⟩ ⟨seqC ⟨r6_16⟩ ⟨condC ⟨fun _ tm => tg tm 77⟩ ⟨seqC ⟨seqC ⟨r6_17⟩ ⟨condC ⟨fun _ tm => tg tm 92⟩ ⟨seqC ⟨r6_18⟩ retC⟩ skipC⟩⟩ ⟨seqC ⟨r6_19⟩ retC⟩⟩ ⟨seqC ⟨r6_20⟩ ⟨condC ⟨fun _ tm => tg tm 104⟩ ⟨seqC ⟨seqC ⟨r6_21⟩ ⟨condC ⟨fun _ tm => tg tm 107⟩ ⟨seqC ⟨r6_22⟩ retC⟩ skipC⟩⟩ ⟨seqC ⟨r6_23⟩ retC⟩⟩ ⟨seqC ⟨r6_24⟩ ⟨condC ⟨fun _ tm => tg tm 112⟩ ⟨seqC ⟨r6_25⟩ retC⟩ ⟨seqC ⟨r6_26⟩ ⟨condC ⟨fun _ tm => tg tm 116⟩ ⟨seqC ⟨r6_27⟩ retC⟩ skipC⟩⟩⟩⟩⟩⟩⟩⟩⟩⟩⟩⟩ ⟨seqC ⟨r6_28⟩ retC⟩⟩⟩⟩
noncomputable def q6 : Box (T Value → H → Option (List Value)) := ⟨fun tm h => some [tg tm 2, tg tm 3]⟩

/-! 7 cloakroom/text.fits -/
noncomputable def r7_0 : CodeT := fun call _ tm ds h K =>
  kA (some (.rw (Value.cells (tg tm 0)).toList (some 28), ptrTo h.next)) ds h (fun v0 ds h =>
  K .norm (T.set (T.set tm 1 v0) 2 (.bool false)) ds h)
noncomputable def r7_1 : CodeT := fun call _ tm ds h K =>
  kO (fieldPtr 0 (tg tm 1)) ds h (fun v0 ds h =>
  kO (loadOne h v0) ds h (fun v1 ds h =>
  kO (binV Tryd.prog .eql 5 true v1 (.int .u8 (2))) ds h (fun v2 ds h =>
  K .norm (T.set tm 3 v2) ds h)))
noncomputable def r7_2 : CodeT := fun call _ tm ds h K => (⟨opStep ⟨fun call env tm ds h K => kO (fieldPtr 12 (tg tm 1)) ds h K⟩ ⟨fun v tm => tm⟩ ⟨fun env tm => true⟩
  ⟨opStep ⟨fun call env tm ds h K => kO (loadOne h (nthD 0 env)) ds h K⟩ ⟨fun v tm => tm⟩ ⟨fun env tm => true⟩
  ⟨opStep ⟨fun call env tm ds h K => kO (some (nthD 0 env)) ds h K⟩ ⟨fun v tm => tm⟩ ⟨fun env tm => true⟩
  ⟨opStep ⟨fun call env tm ds h K => kO (fieldPtr 11 (tg tm 1)) ds h K⟩ ⟨fun v tm => tm⟩ ⟨fun env tm => isB false (nthD 0 env)⟩
  ⟨opStep ⟨fun call env tm ds h K => kO (loadOne h (nthD 0 env)) ds h K⟩ ⟨fun v tm => tm⟩ ⟨fun env tm => isB false (nthD 1 env)⟩
  ⟨opStep ⟨fun call env tm ds h K => kO (some (nthD 0 env)) ds h K⟩ ⟨fun v tm => tm⟩ ⟨fun env tm => isB false (nthD 2 env)⟩
  ⟨opStep ⟨fun call env tm ds h K => kO (fieldPtr 0 (tg tm 1)) ds h K⟩ ⟨fun v tm => tm⟩ ⟨fun env tm => isB true (nthD 0 env)⟩
  ⟨opStep ⟨fun call env tm ds h K => kO (loadOne h (nthD 0 env)) ds h K⟩ ⟨fun v tm => tm⟩ ⟨fun env tm => isB true (nthD 1 env)⟩
  ⟨opStep ⟨fun call env tm ds h K => kO (binV Tryd.prog .neq 5 true (nthD 0 env) (.int .u8 (3))) ds h K⟩ ⟨fun v tm => tm⟩ ⟨fun env tm => isB true (nthD 2 env)⟩
  ⟨opStep ⟨fun call env tm ds h K => kO (pickV (nthD 3 env) (nthD 0 env) (.bool false)) ds h K⟩ ⟨fun v tm => tm⟩ ⟨fun env tm => isB false (nthD 6 env)⟩
  ⟨opStep ⟨fun call env tm ds h K => kO (pickV (nthD 7 env) (.bool true) (nthD 0 env)) ds h K⟩ ⟨fun v tm => tm⟩ ⟨fun env tm => true⟩
  ⟨opStep ⟨fun call env tm ds h K => kO (some (nthD 0 env)) ds h K⟩ ⟨fun v tm => tm⟩ ⟨fun env tm => true⟩
  ⟨opStep ⟨fun call env tm ds h K => kO (some (tg tm 3)) ds h K⟩ ⟨fun v tm => tm⟩ ⟨fun env tm => isB false (nthD 0 env)⟩
  ⟨opStep ⟨fun call env tm ds h K => kO (unV .not (nthD 0 env)) ds h K⟩ ⟨fun v tm => tm⟩ ⟨fun env tm => isB false (nthD 1 env)⟩
  ⟨opStep ⟨fun call env tm ds h K => kO (some (nthD 0 env)) ds h K⟩ ⟨fun v tm => tm⟩ ⟨fun env tm => isB false (nthD 2 env)⟩
  ⟨opStep ⟨fun call env tm ds h K => kO (fieldPtr 9 (tg tm 1)) ds h K⟩ ⟨fun v tm => tm⟩ ⟨fun env tm => isB true (nthD 0 env)⟩
  ⟨opStep ⟨fun call env tm ds h K => kO (loadOne h (nthD 0 env)) ds h K⟩ ⟨fun v tm => tm⟩ ⟨fun env tm => isB true (nthD 1 env)⟩
  ⟨opStep ⟨fun call env tm ds h K => kO (binV Tryd.prog .neq 3 true (nthD 0 env) (.int .i64 (0))) ds h K⟩ ⟨fun v tm => tm⟩ ⟨fun env tm => isB true (nthD 2 env)⟩
  ⟨opStep ⟨fun call env tm ds h K => kO (some (nthD 0 env)) ds h K⟩ ⟨fun v tm => tm⟩ ⟨fun env tm => isB true (nthD 3 env)⟩
  ⟨opStep ⟨fun call env tm ds h K => kO (fieldPtr 10 (tg tm 1)) ds h K⟩ ⟨fun v tm => tm⟩ ⟨fun env tm => isB false (nthD 0 env)⟩
  ⟨opStep ⟨fun call env tm ds h K => kO (loadOne h (nthD 0 env)) ds h K⟩ ⟨fun v tm => tm⟩ ⟨fun env tm => isB false (nthD 1 env)⟩
  ⟨opStep ⟨fun call env tm ds h K => kO (binV Tryd.prog .neq 9 true (nthD 0 env) (.string (strB []))) ds h K⟩ ⟨fun v tm => tm⟩ ⟨fun env tm => isB false (nthD 2 env)⟩
  ⟨opStep ⟨fun call env tm ds h K => kO (pickV (nthD 3 env) (.bool true) (nthD 0 env)) ds h K⟩ ⟨fun v tm => tm⟩ ⟨fun env tm => isB true (nthD 7 env)⟩
  ⟨opStep ⟨fun call env tm ds h K => kO (pickV (nthD 8 env) (nthD 0 env) (.bool false)) ds h K⟩ ⟨fun v tm => tm⟩ ⟨fun env tm => isB false (nthD 11 env)⟩
  ⟨opStep ⟨fun call env tm ds h K => kO (pickV (nthD 12 env) (.bool true) (nthD 0 env)) ds h K⟩ ⟨fun v tm => tm⟩ ⟨fun env tm => true⟩
  ⟨opStep ⟨fun call env tm ds h K => kO (some (nthD 0 env)) ds h K⟩ ⟨fun v tm => tm⟩ ⟨fun env tm => true⟩
  ⟨opStep ⟨fun call env tm ds h K => kO (fieldPtr 0 (tg tm 1)) ds h K⟩ ⟨fun v tm => tm⟩ ⟨fun env tm => isB false (nthD 0 env)⟩
  ⟨opStep ⟨fun call env tm ds h K => kO (loadOne h (nthD 0 env)) ds h K⟩ ⟨fun v tm => tm⟩ ⟨fun env tm => isB false (nthD 1 env)⟩
  ⟨opStep ⟨fun call env tm ds h K => kO (binV Tryd.prog .neq 5 true (nthD 0 env) (.int .u8 (1))) ds h K⟩ ⟨fun v tm => tm⟩ ⟨fun env tm => isB false (nthD 2 env)⟩
  ⟨opStep ⟨fun call env tm ds h K => kO (some (nthD 0 env)) ds h K⟩ ⟨fun v tm => tm⟩ ⟨fun env tm => isB false (nthD 3 env)⟩
  ⟨opStep ⟨fun call env tm ds h K => kO (loadAgg 13 h (tg tm 1)) ds h K⟩ ⟨fun v tm => tm⟩ ⟨fun env tm => isB true (nthD 0 env)⟩
  ⟨opStep ⟨fun call env tm ds h K => call 20 [(nthD 0 env)] h (fun v h => (K) v ds h)⟩ ⟨fun v tm => tm⟩ ⟨fun env tm => isB true (nthD 1 env)⟩
  ⟨opStep ⟨fun call env tm ds h K => kO (unV .not (nthD 0 env)) ds h K⟩ ⟨fun v tm => tm⟩ ⟨fun env tm => isB true (nthD 2 env)⟩
  ⟨opStep ⟨fun call env tm ds h K => kO (pickV (nthD 3 env) (nthD 0 env) (.bool false)) ds h K⟩ ⟨fun v tm => tm⟩ ⟨fun env tm => isB false (nthD 7 env)⟩
  ⟨opStep ⟨fun call env tm ds h K => kO (pickV (nthD 8 env) (.bool true) (nthD 0 env)) ds h K⟩ ⟨fun v tm => (T.set tm 41 v)⟩ ⟨fun env tm => true⟩
  ⟨fun _ _ tm ds h K => K .norm tm ds h⟩⟩⟩⟩⟩⟩⟩⟩⟩⟩⟩⟩⟩⟩⟩⟩⟩⟩⟩⟩⟩⟩⟩⟩⟩⟩⟩⟩⟩⟩⟩⟩⟩⟩⟩⟩ : Box OpsT).f call [] tm ds h K
noncomputable def r7_3 : CodeT := fun call _ tm ds h K =>
  K .norm (T.set tm 2 (.bool false)) ds h
noncomputable def r7_4 : CodeT := fun call _ tm ds h K => (⟨opStep ⟨fun call env tm ds h K => kO (some (tg tm 3)) ds h K⟩ ⟨fun v tm => tm⟩ ⟨fun env tm => true⟩
  ⟨opStep ⟨fun call env tm ds h K => kO (unV .not (nthD 0 env)) ds h K⟩ ⟨fun v tm => tm⟩ ⟨fun env tm => true⟩
  ⟨opStep ⟨fun call env tm ds h K => kO (some (nthD 0 env)) ds h K⟩ ⟨fun v tm => tm⟩ ⟨fun env tm => true⟩
  ⟨opStep ⟨fun call env tm ds h K => kO (fieldPtr 9 (tg tm 1)) ds h K⟩ ⟨fun v tm => tm⟩ ⟨fun env tm => isB false (nthD 0 env)⟩
  ⟨opStep ⟨fun call env tm ds h K => kO (loadOne h (nthD 0 env)) ds h K⟩ ⟨fun v tm => tm⟩ ⟨fun env tm => isB false (nthD 1 env)⟩
  ⟨opStep ⟨fun call env tm ds h K => kO (binV Tryd.prog .geq 3 true (nthD 0 env) (.int .i64 (0))) ds h K⟩ ⟨fun v tm => tm⟩ ⟨fun env tm => isB false (nthD 2 env)⟩
  ⟨opStep ⟨fun call env tm ds h K => kO (some (nthD 0 env)) ds h K⟩ ⟨fun v tm => tm⟩ ⟨fun env tm => isB false (nthD 3 env)⟩
  ⟨opStep ⟨fun call env tm ds h K => kO (fieldPtr 9 (tg tm 1)) ds h K⟩ ⟨fun v tm => tm⟩ ⟨fun env tm => isB true (nthD 0 env)⟩
  ⟨opStep ⟨fun call env tm ds h K => kO (loadOne h (nthD 0 env)) ds h K⟩ ⟨fun v tm => tm⟩ ⟨fun env tm => isB true (nthD 1 env)⟩
  ⟨opStep ⟨fun call env tm ds h K => kO (binV Tryd.prog .lss 3 true (nthD 0 env) (.int .i64 (4))) ds h K⟩ ⟨fun v tm => tm⟩ ⟨fun env tm => isB true (nthD 2 env)⟩
  ⟨opStep ⟨fun call env tm ds h K => kO (pickV (nthD 3 env) (nthD 0 env) (.bool false)) ds h K⟩ ⟨fun v tm => tm⟩ ⟨fun env tm => isB false (nthD 7 env)⟩
  ⟨opStep ⟨fun call env tm ds h K => kO (some (nthD 0 env)) ds h K⟩ ⟨fun v tm => tm⟩ ⟨fun env tm => isB false (nthD 8 env)⟩
  ⟨opStep ⟨fun call env tm ds h K => kO (fieldPtr 10 (tg tm 1)) ds h K⟩ ⟨fun v tm => tm⟩ ⟨fun env tm => isB true (nthD 0 env)⟩
  ⟨opStep ⟨fun call env tm ds h K => kO (loadOne h (nthD 0 env)) ds h K⟩ ⟨fun v tm => tm⟩ ⟨fun env tm => isB true (nthD 1 env)⟩
  ⟨opStep ⟨fun call env tm ds h K => call 11 [(nthD 0 env), (.int .i64 (16))] h (fun v h => (K) v ds h)⟩ ⟨fun v tm => tm⟩ ⟨fun env tm => isB true (nthD 2 env)⟩
  ⟨opStep ⟨fun call env tm ds h K => kO (pickV (nthD 3 env) (nthD 0 env) (.bool false)) ds h K⟩ ⟨fun v tm => tm⟩ ⟨fun env tm => isB false (nthD 12 env)⟩
  ⟨opStep ⟨fun call env tm ds h K => kO (pickV (nthD 13 env) (.bool true) (nthD 0 env)) ds h K⟩ ⟨fun v tm => tm⟩ ⟨fun env tm => true⟩
  ⟨opStep ⟨fun call env tm ds h K => kO (some (nthD 0 env)) ds h K⟩ ⟨fun v tm => (T.set tm 2 v)⟩ ⟨fun env tm => true⟩
  ⟨fun _ _ tm ds h K => K .norm tm ds h⟩⟩⟩⟩⟩⟩⟩⟩⟩⟩⟩⟩⟩⟩⟩⟩⟩⟩⟩ : Box OpsT).f call [] tm ds h K
noncomputable def c7 : Box CodeT := ⟨seqC ⟨r7_0⟩ ⟨seqC ⟨r7_1⟩ ⟨seqC ⟨seqC ⟨r7_2⟩ ⟨condC ⟨fun _ tm => tg tm 41⟩ ⟨seqC ⟨r7_3⟩ retC⟩ skipC⟩⟩ ⟨seqC ⟨r7_4⟩ retC⟩⟩⟩⟩
noncomputable def q7 : Box (T Value → H → Option (List Value)) := ⟨fun tm h => some [tg tm 2]⟩

/-! 8 cloakroom/order.Check -/
noncomputable def r8_0 : CodeT := fun call _ tm ds h K =>
  kA (some (.rw (Value.cells (tg tm 0)).toList (some 26), ptrTo h.next)) ds h (fun v0 ds h =>
  K .norm (T.set (T.set tm 1 v0) 2 (.int .i64 (0))) ds h)
noncomputable def r8_1 : CodeT := fun call _ tm ds h K =>
  kO (loadAgg 8 h (tg tm 1)) ds h (fun v0 ds h =>
  call 21 [v0] h (fun v h => (fun v1 ds h =>
  kO (unV .not v1) ds h (fun v2 ds h =>
  K .norm (T.set tm 5 v2) ds h)) v ds h))
noncomputable def r8_2 : CodeT := fun call _ tm ds h K =>
  K .norm (T.set tm 2 (.int .i64 (100))) ds h
noncomputable def r8_3 : CodeT := fun call _ tm ds h K =>
  K .norm (T.set tm 2 (.int .i64 (0))) ds h
noncomputable def c8 : Box CodeT := ⟨seqC ⟨r8_0⟩ ⟨seqC ⟨seqC ⟨r8_1⟩ ⟨condC ⟨fun _ tm => tg tm 5⟩ ⟨seqC ⟨r8_2⟩ retC⟩ skipC⟩⟩ ⟨seqC ⟨r8_3⟩ retC⟩⟩⟩
noncomputable def q8 : Box (T Value → H → Option (List Value)) := ⟨fun tm h => some [tg tm 2]⟩

/-! 9 slices.ContainsFunc[[]string,string] -/
noncomputable def r9_0 : CodeT := fun call _ tm ds h K =>
  K .norm (T.set tm 4 (.bool false)) ds h
noncomputable def r9_1 : CodeT := fun call _ tm ds h K =>
  call 22 [(tg tm 0), (tg tm 1)] h (fun v h => (fun v2 ds h =>
  kO (binV Tryd.prog .geq 3 true v2 (.int .i64 (0))) ds h (fun v3 ds h =>
  K .norm (T.set tm 4 v3) ds h)) v ds h)
noncomputable def c9 : Box CodeT := ⟨seqC ⟨r9_0⟩ ⟨seqC ⟨r9_1⟩ retC⟩⟩
noncomputable def q9 : Box (T Value → H → Option (List Value)) := ⟨fun tm h => some [tg tm 4]⟩

/-! 10 cloakroom/text.Write$1 -/
noncomputable def r10_0 : CodeT := fun call _ tm ds h K =>
  K .norm (T.set tm 2 (.bool false)) ds h
noncomputable def r10_1 : CodeT := fun call _ tm ds h K =>
  call 11 [(tg tm 0), (.int .i64 (32))] h (fun v h => (fun v1 ds h =>
  kO (unV .not v1) ds h (fun v2 ds h =>
  K .norm (T.set tm 2 v2) ds h)) v ds h)
noncomputable def c10 : Box CodeT := ⟨seqC ⟨r10_0⟩ ⟨seqC ⟨r10_1⟩ retC⟩⟩
noncomputable def q10 : Box (T Value → H → Option (List Value)) := ⟨fun tm h => some [tg tm 2]⟩

/-! 11 cloakroom/text.plain -/
noncomputable def r11_0 : CodeT := fun call _ tm ds h K =>
  K .norm (T.set tm 4 (.bool false)) ds h
noncomputable def r11_1 : CodeT := fun call _ tm ds h K => (⟨opStep ⟨fun call env tm ds h K => kO (some (tg tm 0)) ds h K⟩ ⟨fun v tm => tm⟩ ⟨fun env tm => true⟩
  ⟨opStep ⟨fun call env tm ds h K => kO (lenStr (nthD 0 env)) ds h K⟩ ⟨fun v tm => tm⟩ ⟨fun env tm => true⟩
  ⟨opStep ⟨fun call env tm ds h K => kO (binV Tryd.prog .geq 3 true (nthD 0 env) (.int .i64 (1))) ds h K⟩ ⟨fun v tm => tm⟩ ⟨fun env tm => true⟩
  ⟨opStep ⟨fun call env tm ds h K => kO (some (nthD 0 env)) ds h K⟩ ⟨fun v tm => tm⟩ ⟨fun env tm => true⟩
  ⟨opStep ⟨fun call env tm ds h K => kO (some (tg tm 0)) ds h K⟩ ⟨fun v tm => tm⟩ ⟨fun env tm => isB true (nthD 0 env)⟩
  ⟨opStep ⟨fun call env tm ds h K => kO (lenStr (nthD 0 env)) ds h K⟩ ⟨fun v tm => tm⟩ ⟨fun env tm => isB true (nthD 1 env)⟩
  ⟨opStep ⟨fun call env tm ds h K => kO (some (tg tm 1)) ds h K⟩ ⟨fun v tm => tm⟩ ⟨fun env tm => isB true (nthD 2 env)⟩
  ⟨opStep ⟨fun call env tm ds h K => kO (binV Tryd.prog .leq 3 false (nthD 1 env) (nthD 0 env)) ds h K⟩ ⟨fun v tm => tm⟩ ⟨fun env tm => isB true (nthD 3 env)⟩
  ⟨opStep ⟨fun call env tm ds h K => kO (pickV (nthD 4 env) (nthD 0 env) (.bool false)) ds h K⟩ ⟨fun v tm => tm⟩ ⟨fun env tm => true⟩
  ⟨opStep ⟨fun call env tm ds h K => kO (some (nthD 0 env)) ds h K⟩ ⟨fun v tm => tm⟩ ⟨fun env tm => true⟩
  ⟨opStep ⟨fun call env tm ds h K => kO (some (tg tm 0)) ds h K⟩ ⟨fun v tm => tm⟩ ⟨fun env tm => isB true (nthD 0 env)⟩
  ⟨opStep ⟨fun call env tm ds h K => call 23 [(nthD 0 env), (.func (.func 24) #[] #[])] h (fun v h => (K) v ds h)⟩ ⟨fun v tm => tm⟩ ⟨fun env tm => isB true (nthD 1 env)⟩
  ⟨opStep ⟨fun call env tm ds h K => kO (binV Tryd.prog .lss 3 true (nthD 0 env) (.int .i64 (0))) ds h K⟩ ⟨fun v tm => tm⟩ ⟨fun env tm => isB true (nthD 2 env)⟩
  ⟨opStep ⟨fun call env tm ds h K => kO (pickV (nthD 3 env) (nthD 0 env) (.bool false)) ds h K⟩ ⟨fun v tm => tm⟩ ⟨fun env tm => true⟩
  ⟨opStep ⟨fun call env tm ds h K => kO (some (nthD 0 env)) ds h K⟩ ⟨fun v tm => (T.set tm 4 v)⟩ ⟨fun env tm => true⟩
  ⟨fun _ _ tm ds h K => K .norm tm ds h⟩⟩⟩⟩⟩⟩⟩⟩⟩⟩⟩⟩⟩⟩⟩⟩ : Box OpsT).f call [] tm ds h K
noncomputable def c11 : Box CodeT := ⟨seqC ⟨r11_0⟩ ⟨seqC ⟨r11_1⟩ retC⟩⟩
noncomputable def q11 : Box (T Value → H → Option (List Value)) := ⟨fun tm h => some [tg tm 4]⟩

/-! 12 cloakroom/text.words -/
noncomputable def r12_0 : CodeT := fun call _ tm ds h K =>
  kA (some (.rw (Value.cells (tg tm 0)).toList (some 26), ptrTo h.next)) ds h (fun v0 ds h =>
  K .norm (T.set (T.set (T.set tm 1 v0) 2 (.slice none 0 0)) 3 (.bool false)) ds h)
noncomputable def r12_1 : CodeT := fun call _ tm ds h K =>
  kO (fieldPtr 3 (tg tm 1)) ds h (fun v0 ds h =>
  kO (loadOne h v0) ds h (fun v1 ds h =>
  kO (lenStr v1) ds h (fun v2 ds h =>
  call 14 [v2] h (fun v h => (fun v3 ds h =>
  K .norm (T.set (T.set tm 4 (.string (strB []))) 5 v3) ds h) v ds h))))
noncomputable def r12_2 : CodeT := fun call _ tm ds h K =>
  kO (fieldPtr 2 (tg tm 1)) ds h (fun v0 ds h =>
  kO (loadOne h v0) ds h (fun v1 ds h =>
  kO (lenSl v1) ds h (fun v2 ds h =>
  kO (binV Tryd.prog .gtr 3 true v2 (.int .i64 (0))) ds h (fun v3 ds h =>
  K .norm (T.set tm 14 v3) ds h))))
noncomputable def r12_3 : CodeT := fun call _ tm ds h K =>
  kO (fieldPtr 2 (tg tm 1)) ds h (fun v0 ds h =>
  kO (loadOne h v0) ds h (fun v1 ds h =>
  kO (indexSl 1 v1 (.int .i64 (0))) ds h (fun v2 ds h =>
  kO (loadOne h v2) ds h (fun v3 ds h =>
  K .norm (T.set tm 4 v3) ds h))))
noncomputable def r12_4 : CodeT := fun call _ tm ds h0 K =>
  (fun (b0 : Nat) (h : H) =>
  kO (fieldPtr 4 (tg tm 1)) ds h (fun v1 ds h =>
  kO (loadOne h v1) ds h (fun v2 ds h =>
  kO (fieldPtr 5 (tg tm 1)) ds h (fun v4 ds h =>
  kO (loadOne h v4) ds h (fun v5 ds h =>
  call 25 [v2] h (fun v h => (fun v3 ds h =>
  andB ((hO (loadOne h v4) v5 true) && true) (call 14 [v5] h (fun v h => (fun v6 ds h =>
  aO (mkLit 9 4 (b0 + 8) (fill (repl [(.string (strB []))] 4) (pl 1) [(0, (tg tm 4)), (1, v3), (2, v6), (3, (tg tm 5))])) (fun x8 v8 =>
  K .norm (T.set tm 6 v8) ds (H.put h (b0 + 8) x8))) v ds h))) v ds h)))))) h0.next ⟨h0.objs, h0.next + 10⟩
noncomputable def r12_5 : CodeT := fun call _ tm ds h K =>
  kO (fieldPtr 0 (tg tm 1)) ds h (fun v0 ds h =>
  kO (loadOne h v0) ds h (fun v1 ds h =>
  K .norm (T.set tm 29 v1) ds h))
noncomputable def r12_6 : CodeT := fun call _ tm ds h K =>
  kO (binV Tryd.prog .eql 5 true (tg tm 29) (.int .u8 (1))) ds h (fun v0 ds h =>
  K .norm (T.set tm 30 v0) ds h)
noncomputable def r12_7 : CodeT := fun call _ tm ds h K =>
  kA (mkLit 9 1 h.next (fill (repl [(.string (strB []))] 1) (pl 1) [(0, (.string (strB [103, 101, 116])))])) ds h (fun v0 ds h =>
  kO (fieldPtr 2 (tg tm 1)) ds h (fun v1 ds h =>
  kO (loadOne h v1) ds h (fun v2 ds h =>
  kH (appendV 9 1 16 h v0 v2) ds (fun v3 ds h =>
  K .norm (T.set (T.set tm 2 v3) 3 (.bool false)) ds h))))
noncomputable def r12_8 : CodeT := fun call _ tm ds h K =>
  kO (binV Tryd.prog .eql 5 true (tg tm 29) (.int .u8 (10))) ds h (fun v0 ds h =>
  K .norm (T.set tm 36 v0) ds h)
noncomputable def r12_9 : CodeT := fun call _ tm ds h K =>
  kA (mkLit 9 1 h.next (fill (repl [(.string (strB []))] 1) (pl 1) [(0, (.string (strB [100, 101, 108, 101, 116, 101])))])) ds h (fun v0 ds h =>
  kO (fieldPtr 2 (tg tm 1)) ds h (fun v1 ds h =>
  kO (loadOne h v1) ds h (fun v2 ds h =>
  kH (appendV 9 1 16 h v0 v2) ds (fun v3 ds h =>
  K .norm (T.set (T.set tm 2 v3) 3 (.bool false)) ds h))))
noncomputable def r12_10 : CodeT := fun call _ tm ds h K =>
  kO (binV Tryd.prog .eql 5 true (tg tm 29) (.int .u8 (2))) ds h (fun v0 ds h =>
  K .norm (T.set tm 42 v0) ds h)
noncomputable def r12_11 : CodeT := fun call _ tm ds h K =>
  kO (binV Tryd.prog .eql 5 true (tg tm 29) (.int .u8 (3))) ds h (fun v0 ds h =>
  K .norm (T.set tm 42 v0) ds h)
noncomputable def r12_12 : CodeT := fun call _ tm ds h K =>
  kO (binV Tryd.prog .eql 5 true (tg tm 29) (.int .u8 (4))) ds h (fun v0 ds h =>
  K .norm (T.set tm 42 v0) ds h)
noncomputable def r12_13 : CodeT := fun call _ tm ds h K =>
  kA (mkLit 9 3 h.next (fill (repl [(.string (strB []))] 3) (pl 1) [(0, (.string (strB [115, 101, 116]))), (1, (.string (strB [97, 100, 100]))), (2, (.string (strB [114, 101, 112, 108, 97, 99, 101])))])) ds h (fun v0 ds h =>
  kO (fieldPtr 0 (tg tm 1)) ds h (fun v1 ds h =>
  kO (loadOne h v1) ds h (fun v2 ds h =>
  kO (binV Tryd.prog .sub 5 true v2 (.int .u8 (2))) ds h (fun v3 ds h =>
  kO (indexSl 1 v0 v3) ds h (fun v4 ds h =>
  kO (loadOne h v4) ds h (fun v5 ds h =>
  kA (mkLit 9 1 h.next (fill (repl [(.string (strB []))] 1) (pl 1) [(0, v5)])) ds h (fun v6 ds h =>
  kH (appendV 9 1 16 h v6 (tg tm 6)) ds (fun v8 ds h =>
  K .norm (T.set (T.set tm 2 v8) 3 (.bool true)) ds h))))))))
noncomputable def r12_14 : CodeT := fun call _ tm ds h K =>
  kO (binV Tryd.prog .eql 5 true (tg tm 29) (.int .u8 (5))) ds h (fun v0 ds h =>
  K .norm (T.set tm 55 v0) ds h)
noncomputable def r12_15 : CodeT := fun call _ tm ds h0 K =>
  (fun (b0 : Nat) (h : H) =>
  aO (mkLit 9 1 (b0 + 0) (fill (repl [(.string (strB []))] 1) (pl 1) [(0, (.string (strB [99, 97, 115])))])) (fun x0 v0 =>
  kO (fieldPtr 6 (tg tm 1)) ds h (fun v3 ds h =>
  kO (loadOne (H.put h (b0 + 0) x0) v3) ds h (fun v4 ds h =>
  kH (appendV 9 1 16 (H.put h (b0 + 0) x0) v0 (tg tm 6)) ds (fun v2 ds h =>
  andB ((hO (loadOne h v3) v4 true) && true) (call 26 [v4] h (fun v h => (fun v5 ds h =>
  aO (mkLit 9 1 (b0 + 6) (fill (repl [(.string (strB []))] 1) (pl 1) [(0, v5)])) (fun x6 v6 =>
  kH (appendV 9 1 16 (H.put h (b0 + 6) x6) v2 v6) ds (fun v7 ds h =>
  K .norm (T.set (T.set tm 2 v7) 3 (.bool true)) ds h))) v ds h))))))) h0.next ⟨h0.objs, h0.next + 10⟩
noncomputable def r12_16 : CodeT := fun call _ tm ds h K =>
  kO (binV Tryd.prog .eql 5 true (tg tm 29) (.int .u8 (8))) ds h (fun v0 ds h =>
  K .norm (T.set tm 65 v0) ds h)
noncomputable def r12_17 : CodeT := fun call _ tm ds h K =>
  kA (mkLit 9 3 h.next (fill (repl [(.string (strB []))] 3) (pl 1) [(0, (.string (strB [97, 112, 112, 101, 110, 100]))), (1, (tg tm 4)), (2, (tg tm 5))])) ds h (fun v2 ds h =>
  K .norm (T.set (T.set tm 2 v2) 3 (.bool true)) ds h)
noncomputable def r12_18 : CodeT := fun call _ tm ds h K =>
  kO (binV Tryd.prog .eql 5 true (tg tm 29) (.int .u8 (6))) ds h (fun v0 ds h =>
  K .norm (T.set tm 70 v0) ds h)
noncomputable def r12_19 : CodeT := fun call _ tm ds h K =>
  kO (fieldPtr 7 (tg tm 1)) ds h (fun v1 ds h =>
  kO (loadOne h v1) ds h (fun v2 ds h =>
  call 26 [v2] h (fun v h => (fun v3 ds h =>
  kA (mkLit 9 3 h.next (fill (repl [(.string (strB []))] 3) (pl 1) [(0, (.string (strB [105, 110, 99, 114]))), (1, (tg tm 4)), (2, v3)])) ds h (fun v4 ds h =>
  K .norm (T.set (T.set tm 2 v4) 3 (.bool false)) ds h)) v ds h)))
noncomputable def r12_20 : CodeT := fun call _ tm ds h K =>
  kO (binV Tryd.prog .eql 5 true (tg tm 29) (.int .u8 (7))) ds h (fun v0 ds h =>
  K .norm (T.set tm 77 v0) ds h)
noncomputable def r12_21 : CodeT := fun call _ tm ds h K =>
  kO (fieldPtr 7 (tg tm 1)) ds h (fun v1 ds h =>
  kO (loadOne h v1) ds h (fun v2 ds h =>
  call 26 [v2] h (fun v h => (fun v3 ds h =>
  kA (mkLit 9 3 h.next (fill (repl [(.string (strB []))] 3) (pl 1) [(0, (.string (strB [100, 101, 99, 114]))), (1, (tg tm 4)), (2, v3)])) ds h (fun v4 ds h =>
  K .norm (T.set (T.set tm 2 v4) 3 (.bool false)) ds h)) v ds h)))
noncomputable def r12_22 : CodeT := fun call _ tm ds h K =>
  kO (binV Tryd.prog .eql 5 true (tg tm 29) (.int .u8 (9))) ds h (fun v0 ds h =>
  K .norm (T.set tm 84 v0) ds h)
noncomputable def r12_23 : CodeT := fun call _ tm ds h K =>
  kO (fieldPtr 5 (tg tm 1)) ds h (fun v1 ds h =>
  kO (loadOne h v1) ds h (fun v2 ds h =>
  call 14 [v2] h (fun v h => (fun v3 ds h =>
  kA (mkLit 9 3 h.next (fill (repl [(.string (strB []))] 3) (pl 1) [(0, (.string (strB [116, 111, 117, 99, 104]))), (1, (tg tm 4)), (2, v3)])) ds h (fun v4 ds h =>
  K .norm (T.set (T.set tm 2 v4) 3 (.bool false)) ds h)) v ds h)))
noncomputable def r12_24 : CodeT := fun call _ tm ds h K =>
  kA (mkLit 9 1 h.next (fill (repl [(.string (strB []))] 1) (pl 1) [(0, (.string (strB [102, 108, 117, 115, 104])))])) ds h (fun v0 ds h =>
  K .norm (T.set (T.set tm 2 v0) 3 (.bool false)) ds h)
noncomputable def c12 : Box CodeT := ⟨seqC ⟨r12_0⟩ ⟨seqC ⟨r12_1⟩ ⟨seqC ⟨seqC ⟨r12_2⟩ ⟨condC ⟨fun _ tm => tg tm 14⟩ ⟨r12_3⟩ skipC⟩⟩ ⟨seqC ⟨r12_4⟩ ⟨seqC ⟨seqC ⟨r12_5⟩ ⟨blockC 0 ⟨seqC ⟨r12_6⟩ ⟨condC ⟨fun _ tm => tg tm 30⟩ ⟨seqC ⟨r12_7⟩ retC⟩ ⟨seqC ⟨r12_8⟩ ⟨condC ⟨fun _ tm => tg tm 36⟩ ⟨seqC ⟨r12_9⟩ retC⟩ ⟨seqC ⟨seqC ⟨r12_10⟩ ⟨condC ⟨fun _ tm => tg tm 42⟩ skipC ⟨seqC ⟨r12_11⟩ ⟨condC ⟨fun _ tm => tg tm 42⟩ skipC ⟨r12_12⟩⟩⟩⟩⟩ ⟨condC ⟨fun _ tm => tg tm 42⟩ ⟨seqC ⟨r12_13⟩ retC⟩ ⟨seqC ⟨r12_14⟩ ⟨condC ⟨fun _ tm => tg tm 55⟩ ⟨seqC ⟨r12_15⟩ retC⟩ ⟨seqC ⟨r12_16⟩ ⟨condC ⟨fun _ tm => tg tm 65⟩ ⟨seqC ⟨r12_17⟩ retC⟩ ⟨seqC ⟨r12_18⟩ ⟨condC ⟨fun _ tm => tg tm 70⟩ ⟨seqC ⟨r12_19⟩ retC⟩ ⟨seqC ⟨r12_20⟩ ⟨condC ⟨fun _ tm => tg tm 77⟩ ⟨seqC ⟨r12_21⟩ retC⟩ ⟨seqC ⟨r12_22⟩ ⟨condC ⟨fun _ tm => tg tm 84⟩ ⟨seqC ⟨r12_23⟩ retC⟩ skipC⟩⟩⟩⟩⟩⟩⟩⟩⟩⟩⟩⟩⟩⟩⟩⟩⟩⟩ ⟨seqC ⟨r12_24⟩ retC⟩⟩⟩⟩⟩⟩
noncomputable def q12 : Box (T Value → H → Option (List Value)) := ⟨fun tm h => some [tg tm 2, tg tm 3]⟩

/-! 13 strings.Join -/
noncomputable def r13_0 : CodeT := fun call _ tm ds h K =>
  K .norm (T.set tm 4 (.string (strB []))) ds h
noncomputable def r13_1 : CodeT := fun call _ tm ds h K =>
  kO (lenSl (tg tm 0)) ds h (fun v1 ds h =>
  K .norm (T.set tm 12 v1) ds h)
noncomputable def r13_2 : CodeT := fun call _ tm ds h K =>
  kO (binV Tryd.prog .eql 3 true (tg tm 12) (.int .i64 (0))) ds h (fun v0 ds h =>
  K .norm (T.set tm 13 v0) ds h)
noncomputable def r13_3 : CodeT := fun call _ tm ds h K =>
  K .norm (T.set tm 4 (.string (strB []))) ds h
noncomputable def r13_4 : CodeT := fun call _ tm ds h K =>
  kO (binV Tryd.prog .eql 3 true (tg tm 12) (.int .i64 (1))) ds h (fun v0 ds h =>
  K .norm (T.set tm 15 v0) ds h)
noncomputable def r13_5 : CodeT := fun call _ tm ds h K =>
  kO (indexSl 1 (tg tm 0) (.int .i64 (0))) ds h (fun v1 ds h =>
  kO (loadOne h v1) ds h (fun v2 ds h =>
  K .norm (T.set tm 4 v2) ds h))
noncomputable def r13_6 : CodeT := fun call _ tm ds h K =>
  K .norm (T.set tm 5 (.int .i64 (0))) ds h
noncomputable def r13_7 : CodeT := fun call _ tm ds h K =>
  kO (lenStr (tg tm 1)) ds h (fun v1 ds h =>
  kO (binV Tryd.prog .gtr 3 true v1 (.int .i64 (0))) ds h (fun v2 ds h =>
  K .norm (T.set tm 22 v2) ds h))
noncomputable def r13_8 : CodeT := fun call _ tm ds h K =>
  kO (lenStr (tg tm 1)) ds h (fun v1 ds h =>
  kO (lenSl (tg tm 0)) ds h (fun v3 ds h =>
  kO (binV Tryd.prog .sub 3 true v3 (.int .i64 (1))) ds h (fun v4 ds h =>
  kO (binV Tryd.prog .quo 3 true (.int .i64 (9223372036854775807)) v4) ds h (fun v5 ds h =>
  kO (binV Tryd.prog .geq 3 false v1 v5) ds h (fun v6 ds h =>
  K .norm (T.set tm 29 v6) ds h)))))
noncomputable def r13_9 : CodeT := fun call _ tm ds h K =>
  kO (some (.iface 9 (.string (strB [115, 116, 114, 105, 110, 103, 115, 58, 32, 74, 111, 105, 110, 32, 111, 117, 116, 112, 117, 116, 32, 108, 101, 110, 103, 116, 104, 32, 111, 118, 101, 114, 102, 108, 111, 119])))) ds h (fun v0 ds h =>
  kO none ds h (fun v1 ds h =>
  K .norm tm ds h))
noncomputable def r13_10 : CodeT := fun call _ tm ds h K =>
  kO (lenStr (tg tm 1)) ds h (fun v2 ds h =>
  kO (lenSl (tg tm 0)) ds h (fun v4 ds h =>
  kO (binV Tryd.prog .sub 3 true v4 (.int .i64 (1))) ds h (fun v5 ds h =>
  kO (binV Tryd.prog .mul 3 false v2 v5) ds h (fun v6 ds h =>
  kO (binV Tryd.prog .add 3 false (tg tm 5) v6) ds h (fun v7 ds h =>
  K .norm (T.set tm 5 v7) ds h)))))
noncomputable def r13_11 : CodeT := fun call _ tm ds h K =>
  kO (lenSl (tg tm 0)) ds h (fun v1 ds h =>
  K .norm (T.set (T.set (T.set tm 39 (tg tm 0)) 40 v1) 41 (.int .i64 (0))) ds h)
noncomputable def r13_12 : CodeT := fun call _ tm ds h K =>
  kO (binV Tryd.prog .lss 3 false (tg tm 41) (tg tm 40)) ds h (fun v0 ds h =>
  K .norm (T.set tm 42 v0) ds h)
noncomputable def r13_13 : CodeT := fun call _ tm ds h K =>
  kO (indexSl 1 (tg tm 39) (tg tm 41)) ds h (fun v0 ds h =>
  kO (loadOne h v0) ds h (fun v1 ds h =>
  K .norm (T.set tm 7 v1) ds h))
noncomputable def r13_14 : CodeT := fun call _ tm ds h K =>
  kO (lenStr (tg tm 7)) ds h (fun v1 ds h =>
  kO (binV Tryd.prog .sub 3 true (.int .i64 (9223372036854775807)) (tg tm 5)) ds h (fun v3 ds h =>
  kO (binV Tryd.prog .gtr 3 false v1 v3) ds h (fun v4 ds h =>
  K .norm (T.set tm 49 v4) ds h)))
noncomputable def r13_15 : CodeT := fun call _ tm ds h K =>
  kO (some (.iface 9 (.string (strB [115, 116, 114, 105, 110, 103, 115, 58, 32, 74, 111, 105, 110, 32, 111, 117, 116, 112, 117, 116, 32, 108, 101, 110, 103, 116, 104, 32, 111, 118, 101, 114, 102, 108, 111, 119])))) ds h (fun v0 ds h =>
  kO none ds h (fun v1 ds h =>
  K .norm tm ds h))
noncomputable def r13_16 : CodeT := fun call _ tm ds h K =>
  kO (lenStr (tg tm 7)) ds h (fun v2 ds h =>
  kO (binV Tryd.prog .add 3 false (tg tm 5) v2) ds h (fun v3 ds h =>
  K .norm (T.set tm 5 v3) ds h))
noncomputable def r13_17 : CodeT := fun call _ tm ds h K =>
  kO (binV Tryd.prog .add 3 true (tg tm 41) (.int .i64 (1))) ds h (fun v0 ds h =>
  K .norm (T.set tm 41 v0) ds h)
noncomputable def l13_18 : Box CodeT := ⟨seqC ⟨r13_12⟩ ⟨seqC ⟨condC ⟨fun _ tm => tg tm 42⟩ skipC (exitC 1)⟩ ⟨seqC ⟨blockC 2 ⟨seqC ⟨r13_13⟩ ⟨seqC ⟨seqC ⟨r13_14⟩ ⟨condC ⟨fun _ tm => tg tm 49⟩ ⟨r13_15⟩ skipC⟩⟩ ⟨r13_16⟩⟩⟩⟩ ⟨r13_17⟩⟩⟩⟩
noncomputable def r13_18 : CodeT := fun call _ tm ds h K =>
  kA (some (.rw [(.pointer none), (.slice none 0 0)] (some 55), ptrTo h.next)) ds h (fun v0 ds h =>
  K .norm (T.set tm 8 v0) ds h)
noncomputable def r13_19 : CodeT := fun call _ tm ds h K =>
  call 27 [(tg tm 8), (tg tm 5)] h (fun v h => (fun v1 ds h =>
  K .norm tm ds h) v ds h)
noncomputable def r13_20 : CodeT := fun call _ tm ds h K =>
  kO (indexSl 1 (tg tm 0) (.int .i64 (0))) ds h (fun v1 ds h =>
  kO (loadOne h v1) ds h (fun v2 ds h =>
  call 28 [(tg tm 8), v2] h (fun v h => (fun v3 ds h =>
  K .norm tm ds h) v ds h)))
noncomputable def r13_21 : CodeT := fun call _ tm ds h K =>
  kO (sliceSl 1 (tg tm 0) (some (.int .i64 (1))) none none) ds h (fun v1 ds h =>
  kO (lenSl v1) ds h (fun v2 ds h =>
  K .norm (T.set (T.set (T.set tm 63 v1) 64 v2) 65 (.int .i64 (0))) ds h))
noncomputable def r13_22 : CodeT := fun call _ tm ds h K =>
  kO (binV Tryd.prog .lss 3 false (tg tm 65) (tg tm 64)) ds h (fun v0 ds h =>
  K .norm (T.set tm 66 v0) ds h)
noncomputable def r13_23 : CodeT := fun call _ tm ds h K =>
  kO (indexSl 1 (tg tm 63) (tg tm 65)) ds h (fun v0 ds h =>
  kO (loadOne h v0) ds h (fun v1 ds h =>
  K .norm (T.set tm 10 v1) ds h))
noncomputable def r13_24 : CodeT := fun call _ tm ds h K =>
  call 28 [(tg tm 8), (tg tm 1)] h (fun v h => (fun v1 ds h =>
  K .norm tm ds h) v ds h)
noncomputable def r13_25 : CodeT := fun call _ tm ds h K =>
  call 28 [(tg tm 8), (tg tm 10)] h (fun v h => (fun v1 ds h =>
  K .norm tm ds h) v ds h)
noncomputable def r13_26 : CodeT := fun call _ tm ds h K =>
  kO (binV Tryd.prog .add 3 true (tg tm 65) (.int .i64 (1))) ds h (fun v0 ds h =>
  K .norm (T.set tm 65 v0) ds h)
noncomputable def l13_28 : Box CodeT := ⟨seqC ⟨r13_22⟩ ⟨seqC ⟨condC ⟨fun _ tm => tg tm 66⟩ skipC (exitC 3)⟩ ⟨seqC ⟨blockC 4 ⟨seqC ⟨r13_23⟩ ⟨seqC ⟨r13_24⟩ ⟨r13_25⟩⟩⟩⟩ ⟨r13_26⟩⟩⟩⟩
noncomputable def r13_27 : CodeT := fun call _ tm ds h K =>
  call 29 [(tg tm 8)] h (fun v h => (fun v0 ds h =>
  K .norm (T.set tm 4 v0) ds h) v ds h)
noncomputable def c13 : Box CodeT := ⟨seqC ⟨r13_0⟩ ⟨seqC ⟨seqC ⟨r13_1⟩ ⟨blockC 0 ⟨seqC ⟨r13_2⟩ ⟨condC ⟨fun _ tm => tg tm 13⟩ ⟨seqC ⟨r13_3⟩ retC⟩ ⟨seqC ⟨r13_4⟩ ⟨condC ⟨fun _ tm => tg tm 15⟩ ⟨seqC ⟨r13_5⟩ retC⟩ skipC⟩⟩⟩⟩⟩⟩ ⟨seqC ⟨r13_6⟩ ⟨seqC ⟨seqC ⟨r13_7⟩ ⟨condC ⟨fun _ tm => tg tm 22⟩ ⟨seqC ⟨seqC ⟨r13_8⟩ ⟨condC ⟨fun _ tm => tg tm 29⟩ ⟨r13_9⟩ skipC⟩⟩ ⟨r13_10⟩⟩ skipC⟩⟩ ⟨seqC ⟨seqC ⟨r13_11⟩ ⟨blockC 1 (loopB l13_18)⟩⟩ ⟨seqC ⟨r13_18⟩ ⟨seqC ⟨r13_19⟩ ⟨seqC ⟨r13_20⟩ ⟨seqC ⟨seqC ⟨r13_21⟩ ⟨blockC 3 (loopB l13_28)⟩⟩ ⟨seqC ⟨r13_27⟩ retC⟩⟩⟩⟩⟩⟩⟩⟩⟩⟩
noncomputable def q13 : Box (T Value → H → Option (List Value)) := ⟨fun tm h => some [tg tm 4]⟩

/-! 14 cloakroom/text.tens[int] -/
noncomputable def r14_0 : CodeT := fun call _ tm ds h K =>
  K .norm (T.set tm 2 (.string (strB []))) ds h
noncomputable def r14_1 : CodeT := fun call _ tm ds h K =>
  kO (toInt .u64 (tg tm 0)) ds h (fun v1 ds h =>
  call 30 [v1, (.int .i64 (10))] h (fun v h => (fun v2 ds h =>
  K .norm (T.set tm 2 v2) ds h) v ds h))
noncomputable def c14 : Box CodeT := ⟨seqC ⟨r14_0⟩ ⟨seqC ⟨r14_1⟩ retC⟩⟩
noncomputable def q14 : Box (T Value → H → Option (List Value)) := ⟨fun tm h => some [tg tm 2]⟩

/-! 15 cloakroom/cloakroomref14.none -/
noncomputable def r15_0 : CodeT := fun call _ tm ds h K =>
  kA (some (.rw (Value.cells (tg tm 0)).toList (some 26), ptrTo h.next)) ds h (fun v0 ds h =>
  K .norm (T.set (T.set tm 1 v0) 2 (.bool false)) ds h)
noncomputable def r15_1 : CodeT := fun call _ tm ds h K =>
  kO (loadAgg 8 h (tg tm 1)) ds h (fun v0 ds h =>
  kO (aggO (fill [(.int .u8 (0)), (.int .i64 (0)), (.slice none 0 0), (.string (strB [])), (.int .u32 (0)), (.int .i64 (0)), (.int .u64 (0)), (.int .u64 (0))] (plc [(0, 1), (1, 1), (2, 1), (3, 1), (4, 1), (5, 1), (6, 1), (7, 1)]) [])) ds h (fun v1 ds h =>
  call 31 [v0, v1] h (fun v h => (fun v2 ds h =>
  K .norm (T.set tm 2 v2) ds h) v ds h)))
noncomputable def c15 : Box CodeT := ⟨seqC ⟨r15_0⟩ ⟨seqC ⟨r15_1⟩ retC⟩⟩
noncomputable def q15 : Box (T Value → H → Option (List Value)) := ⟨fun tm h => some [tg tm 2]⟩

/-! 16 cloakroom/cloakroomref10.Check -/
noncomputable def r16_0 : CodeT := fun call _ tm ds h K =>
  kA (some (.rw (Value.cells (tg tm 0)).toList (some 26), ptrTo h.next)) ds h (fun v0 ds h =>
  K .norm (T.set (T.set tm 1 v0) 2 (.int .i64 (0))) ds h)
noncomputable def r16_1 : CodeT := fun call _ tm ds h K =>
  kO (loadAgg 8 h (tg tm 1)) ds h (fun v0 ds h =>
  call 32 [v0] h (fun v h => (fun v1 ds h =>
  kO (unV .not v1) ds h (fun v2 ds h =>
  K .norm (T.set tm 5 v2) ds h)) v ds h))
noncomputable def r16_2 : CodeT := fun call _ tm ds h K =>
  K .norm (T.set tm 2 (.int .i64 (100))) ds h
noncomputable def r16_3 : CodeT := fun call _ tm ds h K =>
  K .norm (T.set tm 2 (.int .i64 (0))) ds h
noncomputable def c16 : Box CodeT := ⟨seqC ⟨r16_0⟩ ⟨seqC ⟨seqC ⟨r16_1⟩ ⟨condC ⟨fun _ tm => tg tm 5⟩ ⟨seqC ⟨r16_2⟩ retC⟩ skipC⟩⟩ ⟨seqC ⟨r16_3⟩ retC⟩⟩⟩
noncomputable def q16 : Box (T Value → H → Option (List Value)) := ⟨fun tm h => some [tg tm 2]⟩

/-! 17 cloakroom/cloakroomref14.Plain -/
noncomputable def r17_0 : CodeT := fun call _ tm ds h K =>
  K .norm (T.set tm 4 (.bool false)) ds h
noncomputable def r17_1 : CodeT := fun call _ tm ds h K =>
  K .norm (T.set tm 5 (.int .i64 (0))) ds h
noncomputable def r17_2 : CodeT := fun call _ tm ds h K =>
  kO (lenStr (tg tm 0)) ds h (fun v2 ds h =>
  kO (binV Tryd.prog .lss 3 false (tg tm 5) v2) ds h (fun v3 ds h =>
  K .norm (T.set tm 9 v3) ds h))
noncomputable def r17_4 : CodeT := fun call _ tm ds h K => (⟨opStep ⟨fun call env tm ds h K => kO (some (tg tm 0)) ds h K⟩ ⟨fun v tm => tm⟩ ⟨fun env tm => true⟩
  ⟨opStep ⟨fun call env tm ds h K => kO (some (tg tm 5)) ds h K⟩ ⟨fun v tm => tm⟩ ⟨fun env tm => true⟩
  ⟨opStep ⟨fun call env tm ds h K => kO (indexStr (nthD 1 env) (nthD 0 env)) ds h K⟩ ⟨fun v tm => tm⟩ ⟨fun env tm => true⟩
  ⟨opStep ⟨fun call env tm ds h K => kO (binV Tryd.prog .lss 5 true (nthD 0 env) (.int .u8 (33))) ds h K⟩ ⟨fun v tm => tm⟩ ⟨fun env tm => true⟩
  ⟨opStep ⟨fun call env tm ds h K => kO (some (nthD 0 env)) ds h K⟩ ⟨fun v tm => tm⟩ ⟨fun env tm => true⟩
  ⟨opStep ⟨fun call env tm ds h K => kO (some (tg tm 0)) ds h K⟩ ⟨fun v tm => tm⟩ ⟨fun env tm => isB false (nthD 0 env)⟩
  ⟨opStep ⟨fun call env tm ds h K => kO (some (tg tm 5)) ds h K⟩ ⟨fun v tm => tm⟩ ⟨fun env tm => isB false (nthD 1 env)⟩
  ⟨opStep ⟨fun call env tm ds h K => kO (indexStr (nthD 1 env) (nthD 0 env)) ds h K⟩ ⟨fun v tm => tm⟩ ⟨fun env tm => isB false (nthD 2 env)⟩
  ⟨opStep ⟨fun call env tm ds h K => kO (binV Tryd.prog .gtr 5 true (nthD 0 env) (.int .u8 (126))) ds h K⟩ ⟨fun v tm => tm⟩ ⟨fun env tm => isB false (nthD 3 env)⟩
  ⟨opStep ⟨fun call env tm ds h K => kO (pickV (nthD 4 env) (.bool true) (nthD 0 env)) ds h K⟩ ⟨fun v tm => (T.set tm 21 v)⟩ ⟨fun env tm => true⟩
  ⟨fun _ _ tm ds h K => K .norm tm ds h⟩⟩⟩⟩⟩⟩⟩⟩⟩⟩⟩ : Box OpsT).f call [] tm ds h K
noncomputable def r17_5 : CodeT := fun call _ tm ds h K =>
  K .norm (T.set tm 4 (.bool false)) ds h
noncomputable def r17_3 : CodeT := fun call _ tm ds h K =>
  kO (binV Tryd.prog .add 3 true (tg tm 5) (.int .i64 (1))) ds h (fun v1 ds h =>
  K .norm (T.set tm 5 v1) ds h)
noncomputable def l17_6 : Box CodeT := ⟨seqC ⟨seqC ⟨r17_2⟩ ⟨condC ⟨fun _ tm => tg tm 9⟩ skipC (exitC 0)⟩⟩ ⟨seqC ⟨blockC 1 ⟨seqC ⟨r17_4⟩ ⟨condC ⟨fun _ tm => tg tm 21⟩ ⟨seqC ⟨r17_5⟩ retC⟩ skipC⟩⟩⟩ ⟨r17_3⟩⟩⟩
noncomputable def r17_6 : CodeT := fun call _ tm ds h K => (⟨opStep ⟨fun call env tm ds h K => kO (some (tg tm 0)) ds h K⟩ ⟨fun v tm => tm⟩ ⟨fun env tm => true⟩
  ⟨opStep ⟨fun call env tm ds h K => kO (binV Tryd.prog .neq 9 true (nthD 0 env) (.string (strB []))) ds h K⟩ ⟨fun v tm => tm⟩ ⟨fun env tm => true⟩
  ⟨opStep ⟨fun call env tm ds h K => kO (some (nthD 0 env)) ds h K⟩ ⟨fun v tm => tm⟩ ⟨fun env tm => true⟩
  ⟨opStep ⟨fun call env tm ds h K => kO (some (tg tm 0)) ds h K⟩ ⟨fun v tm => tm⟩ ⟨fun env tm => isB true (nthD 0 env)⟩
  ⟨opStep ⟨fun call env tm ds h K => kO (lenStr (nthD 0 env)) ds h K⟩ ⟨fun v tm => tm⟩ ⟨fun env tm => isB true (nthD 1 env)⟩
  ⟨opStep ⟨fun call env tm ds h K => kO (some (tg tm 1)) ds h K⟩ ⟨fun v tm => tm⟩ ⟨fun env tm => isB true (nthD 2 env)⟩
  ⟨opStep ⟨fun call env tm ds h K => kO (binV Tryd.prog .leq 3 false (nthD 1 env) (nthD 0 env)) ds h K⟩ ⟨fun v tm => tm⟩ ⟨fun env tm => isB true (nthD 3 env)⟩
  ⟨opStep ⟨fun call env tm ds h K => kO (pickV (nthD 4 env) (nthD 0 env) (.bool false)) ds h K⟩ ⟨fun v tm => tm⟩ ⟨fun env tm => true⟩
  ⟨opStep ⟨fun call env tm ds h K => kO (some (nthD 0 env)) ds h K⟩ ⟨fun v tm => (T.set tm 4 v)⟩ ⟨fun env tm => true⟩
  ⟨fun _ _ tm ds h K => K .norm tm ds h⟩⟩⟩⟩⟩⟩⟩⟩⟩⟩ : Box OpsT).f call [] tm ds h K
noncomputable def c17 : Box CodeT := ⟨seqC ⟨r17_0⟩ ⟨seqC ⟨seqC ⟨r17_1⟩ ⟨blockC 0 (loopB l17_6)⟩⟩ ⟨seqC ⟨r17_6⟩ retC⟩⟩⟩
noncomputable def q17 : Box (T Value → H → Option (List Value)) := ⟨fun tm h => some [tg tm 4]⟩

/-! 18 cloakroom/cloakroomref14.line -/
noncomputable def r18_0 : CodeT := fun call _ tm ds h K =>
  kA (some (.rw (Value.cells (tg tm 0)).toList (some 26), ptrTo h.next)) ds h (fun v0 ds h =>
  K .norm (T.set (T.set tm 1 v0) 2 (.string (strB []))) ds h)
noncomputable def r18_1 : CodeT := fun call _ tm ds h K =>
  kO (aggO (fill [(.string (strB [])), (.string (strB [])), (.string (strB [])), (.string (strB [])), (.string (strB [])), (.string (strB [])), (.string (strB [])), (.string (strB [])), (.string (strB [])), (.string (strB [])), (.string (strB [])), (.string (strB []))] (pl 1) [(0, (.string (strB []))), (1, (.string (strB [103, 101, 116]))), (2, (.string (strB [115, 101, 116]))), (3, (.string (strB [97, 100, 100]))), (4, (.string (strB [114, 101, 112, 108, 97, 99, 101]))), (5, (.string (strB [99, 97, 115]))), (6, (.string (strB [105, 110, 99, 114]))), (7, (.string (strB [100, 101, 99, 114]))), (8, (.string (strB [97, 112, 112, 101, 110, 100]))), (9, (.string (strB [116, 111, 117, 99, 104]))), (10, (.string (strB [100, 101, 108, 101, 116, 101]))), (11, (.string (strB [102, 108, 117, 115, 104])))])) ds h (fun v0 ds h =>
  kA (some (.rw [(.string (strB [])), (.string (strB [])), (.string (strB [])), (.string (strB [])), (.string (strB [])), (.string (strB [])), (.string (strB [])), (.string (strB [])), (.string (strB [])), (.string (strB [])), (.string (strB [])), (.string (strB []))] (some 64), ptrTo h.next)) ds h (fun v1 ds h =>
  kH (withV undef (storeV 12 h v1 v0)) ds (fun v2 ds h =>
  K .norm (T.set tm 3 v1) ds h)))
noncomputable def r18_2 : CodeT := fun call _ tm ds h K =>
  kO (fieldPtr 0 (tg tm 1)) ds h (fun v0 ds h =>
  kO (loadOne h v0) ds h (fun v1 ds h =>
  kO (indexArr 1 12 (tg tm 3) v1) ds h (fun v2 ds h =>
  kO (loadOne h v2) ds h (fun v3 ds h =>
  K .norm (T.set tm 4 v3) ds h))))
noncomputable def r18_3 : CodeT := fun call _ tm ds h K =>
  K .norm (T.set tm 5 (.int .i64 (0))) ds h
noncomputable def r18_4 : CodeT := fun call _ tm ds h K =>
  kO (fieldPtr 2 (tg tm 1)) ds h (fun v1 ds h =>
  kO (loadOne h v1) ds h (fun v2 ds h =>
  kO (lenSl v2) ds h (fun v3 ds h =>
  kO (binV Tryd.prog .lss 3 false (tg tm 5) v3) ds h (fun v4 ds h =>
  K .norm (T.set tm 15 v4) ds h))))
noncomputable def r18_6 : CodeT := fun call _ tm ds h K =>
  kO (binV Tryd.prog .add 9 true (tg tm 4) (.string (strB [32]))) ds h (fun v1 ds h =>
  kO (fieldPtr 2 (tg tm 1)) ds h (fun v2 ds h =>
  kO (loadOne h v2) ds h (fun v3 ds h =>
  kO (indexSl 1 v3 (tg tm 5)) ds h (fun v5 ds h =>
  kO (loadOne h v5) ds h (fun v6 ds h =>
  kO (binV Tryd.prog .add 9 false v1 v6) ds h (fun v7 ds h =>
  K .norm (T.set tm 4 v7) ds h))))))
noncomputable def r18_5 : CodeT := fun call _ tm ds h K =>
  kO (binV Tryd.prog .add 3 true (tg tm 5) (.int .i64 (1))) ds h (fun v1 ds h =>
  K .norm (T.set tm 5 v1) ds h)
noncomputable def l18_7 : Box CodeT := ⟨seqC ⟨seqC ⟨r18_4⟩ ⟨condC ⟨fun _ tm => tg tm 15⟩ skipC (exitC 0)⟩⟩ ⟨seqC ⟨blockC 1 ⟨r18_6⟩⟩ ⟨r18_5⟩⟩⟩
noncomputable def r18_7 : CodeT := fun call _ tm ds h K => (⟨opStep ⟨fun call env tm ds h K => kO (fieldPtr 0 (tg tm 1)) ds h K⟩ ⟨fun v tm => tm⟩ ⟨fun env tm => true⟩
  ⟨opStep ⟨fun call env tm ds h K => kO (loadOne h (nthD 0 env)) ds h K⟩ ⟨fun v tm => tm⟩ ⟨fun env tm => true⟩
  ⟨opStep ⟨fun call env tm ds h K => kO (binV Tryd.prog .geq 5 true (nthD 0 env) (.int .u8 (2))) ds h K⟩ ⟨fun v tm => tm⟩ ⟨fun env tm => true⟩
  ⟨opStep ⟨fun call env tm ds h K => kO (some (nthD 0 env)) ds h K⟩ ⟨fun v tm => tm⟩ ⟨fun env tm => true⟩
  ⟨opStep ⟨fun call env tm ds h K => kO (fieldPtr 0 (tg tm 1)) ds h K⟩ ⟨fun v tm => tm⟩ ⟨fun env tm => isB true (nthD 0 env)⟩
  ⟨opStep ⟨fun call env tm ds h K => kO (loadOne h (nthD 0 env)) ds h K⟩ ⟨fun v tm => tm⟩ ⟨fun env tm => isB true (nthD 1 env)⟩
  ⟨opStep ⟨fun call env tm ds h K => kO (binV Tryd.prog .leq 5 true (nthD 0 env) (.int .u8 (5))) ds h K⟩ ⟨fun v tm => tm⟩ ⟨fun env tm => isB true (nthD 2 env)⟩
  ⟨opStep ⟨fun call env tm ds h K => kO (pickV (nthD 3 env) (nthD 0 env) (.bool false)) ds h K⟩ ⟨fun v tm => (T.set tm 33 v)⟩ ⟨fun env tm => true⟩
  ⟨fun _ _ tm ds h K => K .norm tm ds h⟩⟩⟩⟩⟩⟩⟩⟩⟩ : Box OpsT).f call [] tm ds h K
noncomputable def r18_8 : CodeT := fun call _ tm ds h0 K =>
  (fun (b0 : Nat) (h : H) =>
  kO (binV Tryd.prog .add 9 true (tg tm 4) (.string (strB [32]))) ds h (fun v1 ds h =>
  kO (fieldPtr 4 (tg tm 1)) ds h (fun v2 ds h =>
  kO (loadOne h v2) ds h (fun v3 ds h =>
  kO (toInt .u64 v3) ds h (fun v4 ds h =>
  kO (fieldPtr 5 (tg tm 1)) ds h (fun v8 ds h =>
  kO (loadOne h v8) ds h (fun v9 ds h =>
  kO (toInt .u64 v9) ds h (fun v10 ds h =>
  call 19 [v4] h (fun v h => (fun v5 ds h =>
  andB ((hO (loadOne h v8) v9 true) && true) (kO (binV Tryd.prog .add 9 false v1 v5) ds h (fun v6 ds h =>
  kO (binV Tryd.prog .add 9 true v6 (.string (strB [32]))) ds h (fun v7 ds h =>
  call 19 [v10] h (fun v h => (fun v11 ds h =>
  kO (binV Tryd.prog .add 9 false v7 v11) ds h (fun v12 ds h =>
  K .norm (T.set tm 4 v12) ds h)) v ds h))))) v ds h))))))))) h0.next ⟨h0.objs, h0.next + 14⟩
noncomputable def r18_9 : CodeT := fun call _ tm ds h K => (⟨opStep ⟨fun call env tm ds h K => kO (fieldPtr 0 (tg tm 1)) ds h K⟩ ⟨fun v tm => tm⟩ ⟨fun env tm => true⟩
  ⟨opStep ⟨fun call env tm ds h K => kO (loadOne h (nthD 0 env)) ds h K⟩ ⟨fun v tm => tm⟩ ⟨fun env tm => true⟩
  ⟨opStep ⟨fun call env tm ds h K => kO (binV Tryd.prog .geq 5 true (nthD 0 env) (.int .u8 (2))) ds h K⟩ ⟨fun v tm => tm⟩ ⟨fun env tm => true⟩
  ⟨opStep ⟨fun call env tm ds h K => kO (some (nthD 0 env)) ds h K⟩ ⟨fun v tm => tm⟩ ⟨fun env tm => true⟩
  ⟨opStep ⟨fun call env tm ds h K => kO (fieldPtr 0 (tg tm 1)) ds h K⟩ ⟨fun v tm => tm⟩ ⟨fun env tm => isB true (nthD 0 env)⟩
  ⟨opStep ⟨fun call env tm ds h K => kO (loadOne h (nthD 0 env)) ds h K⟩ ⟨fun v tm => tm⟩ ⟨fun env tm => isB true (nthD 1 env)⟩
  ⟨opStep ⟨fun call env tm ds h K => kO (binV Tryd.prog .leq 5 true (nthD 0 env) (.int .u8 (5))) ds h K⟩ ⟨fun v tm => tm⟩ ⟨fun env tm => isB true (nthD 2 env)⟩
  ⟨opStep ⟨fun call env tm ds h K => kO (pickV (nthD 3 env) (nthD 0 env) (.bool false)) ds h K⟩ ⟨fun v tm => tm⟩ ⟨fun env tm => true⟩
  ⟨opStep ⟨fun call env tm ds h K => kO (some (nthD 0 env)) ds h K⟩ ⟨fun v tm => tm⟩ ⟨fun env tm => true⟩
  ⟨opStep ⟨fun call env tm ds h K => kO (fieldPtr 0 (tg tm 1)) ds h K⟩ ⟨fun v tm => tm⟩ ⟨fun env tm => isB false (nthD 0 env)⟩
  ⟨opStep ⟨fun call env tm ds h K => kO (loadOne h (nthD 0 env)) ds h K⟩ ⟨fun v tm => tm⟩ ⟨fun env tm => isB false (nthD 1 env)⟩
  ⟨opStep ⟨fun call env tm ds h K => kO (binV Tryd.prog .eql 5 true (nthD 0 env) (.int .u8 (8))) ds h K⟩ ⟨fun v tm => tm⟩ ⟨fun env tm => isB false (nthD 2 env)⟩
  ⟨opStep ⟨fun call env tm ds h K => kO (pickV (nthD 3 env) (.bool true) (nthD 0 env)) ds h K⟩ ⟨fun v tm => (T.set tm 59 v)⟩ ⟨fun env tm => true⟩
  ⟨fun _ _ tm ds h K => K .norm tm ds h⟩⟩⟩⟩⟩⟩⟩⟩⟩⟩⟩⟩⟩⟩ : Box OpsT).f call [] tm ds h K
noncomputable def r18_10 : CodeT := fun call _ tm ds h K =>
  kO (binV Tryd.prog .add 9 true (tg tm 4) (.string (strB [32]))) ds h (fun v1 ds h =>
  kO (fieldPtr 3 (tg tm 1)) ds h (fun v2 ds h =>
  kO (loadOne h v2) ds h (fun v3 ds h =>
  kO (lenStr v3) ds h (fun v4 ds h =>
  kO (toInt .u64 v4) ds h (fun v5 ds h =>
  call 19 [v5] h (fun v h => (fun v6 ds h =>
  kO (binV Tryd.prog .add 9 false v1 v6) ds h (fun v7 ds h =>
  K .norm (T.set tm 4 v7) ds h)) v ds h))))))
noncomputable def r18_11 : CodeT := fun call _ tm ds h K =>
  kO (fieldPtr 0 (tg tm 1)) ds h (fun v0 ds h =>
  kO (loadOne h v0) ds h (fun v1 ds h =>
  kO (binV Tryd.prog .eql 5 true v1 (.int .u8 (5))) ds h (fun v2 ds h =>
  K .norm (T.set tm 70 v2) ds h)))
noncomputable def r18_12 : CodeT := fun call _ tm ds h K =>
  kO (binV Tryd.prog .add 9 true (tg tm 4) (.string (strB [32]))) ds h (fun v1 ds h =>
  kO (fieldPtr 6 (tg tm 1)) ds h (fun v2 ds h =>
  kO (loadOne h v2) ds h (fun v3 ds h =>
  call 19 [v3] h (fun v h => (fun v4 ds h =>
  kO (binV Tryd.prog .add 9 false v1 v4) ds h (fun v5 ds h =>
  K .norm (T.set tm 4 v5) ds h)) v ds h))))
noncomputable def r18_13 : CodeT := fun call _ tm ds h K => (⟨opStep ⟨fun call env tm ds h K => kO (fieldPtr 0 (tg tm 1)) ds h K⟩ ⟨fun v tm => tm⟩ ⟨fun env tm => true⟩
  ⟨opStep ⟨fun call env tm ds h K => kO (loadOne h (nthD 0 env)) ds h K⟩ ⟨fun v tm => tm⟩ ⟨fun env tm => true⟩
  ⟨opStep ⟨fun call env tm ds h K => kO (binV Tryd.prog .eql 5 true (nthD 0 env) (.int .u8 (6))) ds h K⟩ ⟨fun v tm => tm⟩ ⟨fun env tm => true⟩
  ⟨opStep ⟨fun call env tm ds h K => kO (some (nthD 0 env)) ds h K⟩ ⟨fun v tm => tm⟩ ⟨fun env tm => true⟩
  ⟨opStep ⟨fun call env tm ds h K => kO (fieldPtr 0 (tg tm 1)) ds h K⟩ ⟨fun v tm => tm⟩ ⟨fun env tm => isB false (nthD 0 env)⟩
  ⟨opStep ⟨fun call env tm ds h K => kO (loadOne h (nthD 0 env)) ds h K⟩ ⟨fun v tm => tm⟩ ⟨fun env tm => isB false (nthD 1 env)⟩
  ⟨opStep ⟨fun call env tm ds h K => kO (binV Tryd.prog .eql 5 true (nthD 0 env) (.int .u8 (7))) ds h K⟩ ⟨fun v tm => tm⟩ ⟨fun env tm => isB false (nthD 2 env)⟩
  ⟨opStep ⟨fun call env tm ds h K => kO (pickV (nthD 3 env) (.bool true) (nthD 0 env)) ds h K⟩ ⟨fun v tm => (T.set tm 84 v)⟩ ⟨fun env tm => true⟩
  ⟨fun _ _ tm ds h K => K .norm tm ds h⟩⟩⟩⟩⟩⟩⟩⟩⟩ : Box OpsT).f call [] tm ds h K
noncomputable def r18_14 : CodeT := fun call _ tm ds h K =>
  kO (binV Tryd.prog .add 9 true (tg tm 4) (.string (strB [32]))) ds h (fun v1 ds h =>
  kO (fieldPtr 7 (tg tm 1)) ds h (fun v2 ds h =>
  kO (loadOne h v2) ds h (fun v3 ds h =>
  call 19 [v3] h (fun v h => (fun v4 ds h =>
  kO (binV Tryd.prog .add 9 false v1 v4) ds h (fun v5 ds h =>
  K .norm (T.set tm 4 v5) ds h)) v ds h))))
noncomputable def r18_15 : CodeT := fun call _ tm ds h K =>
  kO (fieldPtr 0 (tg tm 1)) ds h (fun v0 ds h =>
  kO (loadOne h v0) ds h (fun v1 ds h =>
  kO (binV Tryd.prog .eql 5 true v1 (.int .u8 (9))) ds h (fun v2 ds h =>
  K .norm (T.set tm 93 v2) ds h)))
noncomputable def r18_16 : CodeT := fun call _ tm ds h K =>
  kO (binV Tryd.prog .add 9 true (tg tm 4) (.string (strB [32]))) ds h (fun v1 ds h =>
  kO (fieldPtr 5 (tg tm 1)) ds h (fun v2 ds h =>
  kO (loadOne h v2) ds h (fun v3 ds h =>
  kO (toInt .u64 v3) ds h (fun v4 ds h =>
  call 19 [v4] h (fun v h => (fun v5 ds h =>
  kO (binV Tryd.prog .add 9 false v1 v5) ds h (fun v6 ds h =>
  K .norm (T.set tm 4 v6) ds h)) v ds h)))))
noncomputable def r18_17 : CodeT := fun call _ tm ds h K =>
  kO (binV Tryd.prog .add 9 true (tg tm 4) (.string (strB [13, 10]))) ds h (fun v1 ds h =>
  K .norm (T.set tm 4 v1) ds h)
noncomputable def r18_18 : CodeT := fun call _ tm ds h K => (⟨opStep ⟨fun call env tm ds h K => kO (fieldPtr 0 (tg tm 1)) ds h K⟩ ⟨fun v tm => tm⟩ ⟨fun env tm => true⟩
  ⟨opStep ⟨fun call env tm ds h K => kO (loadOne h (nthD 0 env)) ds h K⟩ ⟨fun v tm => tm⟩ ⟨fun env tm => true⟩
  ⟨opStep ⟨fun call env tm ds h K => kO (binV Tryd.prog .geq 5 true (nthD 0 env) (.int .u8 (2))) ds h K⟩ ⟨fun v tm => tm⟩ ⟨fun env tm => true⟩
  ⟨opStep ⟨fun call env tm ds h K => kO (some (nthD 0 env)) ds h K⟩ ⟨fun v tm => tm⟩ ⟨fun env tm => true⟩
  ⟨opStep ⟨fun call env tm ds h K => kO (fieldPtr 0 (tg tm 1)) ds h K⟩ ⟨fun v tm => tm⟩ ⟨fun env tm => isB true (nthD 0 env)⟩
  ⟨opStep ⟨fun call env tm ds h K => kO (loadOne h (nthD 0 env)) ds h K⟩ ⟨fun v tm => tm⟩ ⟨fun env tm => isB true (nthD 1 env)⟩
  ⟨opStep ⟨fun call env tm ds h K => kO (binV Tryd.prog .leq 5 true (nthD 0 env) (.int .u8 (5))) ds h K⟩ ⟨fun v tm => tm⟩ ⟨fun env tm => isB true (nthD 2 env)⟩
  ⟨opStep ⟨fun call env tm ds h K => kO (pickV (nthD 3 env) (nthD 0 env) (.bool false)) ds h K⟩ ⟨fun v tm => tm⟩ ⟨fun env tm => true⟩
  ⟨opStep ⟨fun call env tm ds h K => kO (some (nthD 0 env)) ds h K⟩ ⟨fun v tm => tm⟩ ⟨fun env tm => true⟩
  ⟨opStep ⟨fun call env tm ds h K => kO (fieldPtr 0 (tg tm 1)) ds h K⟩ ⟨fun v tm => tm⟩ ⟨fun env tm => isB false (nthD 0 env)⟩
  ⟨opStep ⟨fun call env tm ds h K => kO (loadOne h (nthD 0 env)) ds h K⟩ ⟨fun v tm => tm⟩ ⟨fun env tm => isB false (nthD 1 env)⟩
  ⟨opStep ⟨fun call env tm ds h K => kO (binV Tryd.prog .eql 5 true (nthD 0 env) (.int .u8 (8))) ds h K⟩ ⟨fun v tm => tm⟩ ⟨fun env tm => isB false (nthD 2 env)⟩
  ⟨opStep ⟨fun call env tm ds h K => kO (pickV (nthD 3 env) (.bool true) (nthD 0 env)) ds h K⟩ ⟨fun v tm => (T.set tm 115 v)⟩ ⟨fun env tm => true⟩
  ⟨fun _ _ tm ds h K => K .norm tm ds h⟩⟩⟩⟩⟩⟩⟩⟩⟩⟩⟩⟩⟩⟩ : Box OpsT).f call [] tm ds h K
noncomputable def r18_19 : CodeT := fun call _ tm ds h K =>
  kO (fieldPtr 3 (tg tm 1)) ds h (fun v1 ds h =>
  kO (loadOne h v1) ds h (fun v2 ds h =>
  kO (binV Tryd.prog .add 9 false (tg tm 4) v2) ds h (fun v3 ds h =>
  kO (binV Tryd.prog .add 9 true v3 (.string (strB [13, 10]))) ds h (fun v4 ds h =>
  K .norm (T.set tm 4 v4) ds h))))
noncomputable def r18_20 : CodeT := fun call _ tm ds h K =>
  K .norm (T.set tm 2 (tg tm 4)) ds h
noncomputable def c18 : Box CodeT := ⟨seqC ⟨r18_0⟩ ⟨seqC ⟨r18_1⟩ ⟨seqC ⟨r18_2⟩ ⟨seqC ⟨seqC ⟨r18_3⟩ ⟨blockC 0 (loopB l18_7)⟩⟩ ⟨seqC ⟨seqC ⟨r18_7⟩ ⟨condC ⟨fun _ tm => tg tm 33⟩ ⟨r18_8⟩ skipC⟩⟩ ⟨seqC ⟨seqC ⟨r18_9⟩ ⟨condC ⟨fun _ tm => tg tm 59⟩ ⟨r18_10⟩ skipC⟩⟩ ⟨seqC ⟨seqC ⟨r18_11⟩ ⟨condC ⟨fun _ tm => tg tm 70⟩ ⟨r18_12⟩ skipC⟩⟩ ⟨seqC ⟨seqC ⟨r18_13⟩ ⟨condC ⟨fun _ tm => tg tm 84⟩ ⟨r18_14⟩ skipC⟩⟩ ⟨seqC ⟨seqC ⟨r18_15⟩ ⟨condC ⟨fun _ tm => tg tm 93⟩ ⟨r18_16⟩ skipC⟩⟩ ⟨seqC ⟨r18_17⟩ ⟨seqC ⟨seqC ⟨r18_18⟩ ⟨condC ⟨fun _ tm => tg tm 115⟩ ⟨r18_19⟩ skipC⟩⟩ ⟨seqC ⟨r18_20⟩ retC⟩⟩⟩⟩⟩⟩⟩⟩⟩⟩⟩⟩
noncomputable def q18 : Box (T Value → H → Option (List Value)) := ⟨fun tm h => some [tg tm 2]⟩

/-! 19 cloakroom/cloakroomref09.Text -/
noncomputable def r19_0 : CodeT := fun call _ tm ds h K =>
  K .norm (T.set tm 2 (.string (strB []))) ds h
noncomputable def r19_1 : CodeT := fun call _ tm ds h K =>
  kO (binV Tryd.prog .lss 24 true (tg tm 0) (.int .u64 (10))) ds h (fun v1 ds h =>
  K .norm (T.set tm 4 v1) ds h)
noncomputable def r19_2 : CodeT := fun call _ tm ds h K =>
  kO (binV Tryd.prog .add 24 true (tg tm 0) (.int .u64 (1))) ds h (fun v2 ds h =>
  kO (sliceStr (.string (strB [48, 49, 50, 51, 52, 53, 54, 55, 56, 57])) (some (tg tm 0)) (some v2) none) ds h (fun v3 ds h =>
  K .norm (T.set tm 2 v3) ds h))
noncomputable def r19_3 : CodeT := fun call _ tm ds h K =>
  kO (binV Tryd.prog .quo 24 true (tg tm 0) (.int .u64 (10))) ds h (fun v1 ds h =>
  call 19 [v1] h (fun v h => (fun v2 ds h =>
  kO (binV Tryd.prog .rem 24 true (tg tm 0) (.int .u64 (10))) ds h (fun v4 ds h =>
  call 19 [v4] h (fun v h => (fun v5 ds h =>
  kO (binV Tryd.prog .add 9 false v2 v5) ds h (fun v6 ds h =>
  K .norm (T.set tm 2 v6) ds h)) v ds h))) v ds h))
noncomputable def c19 : Box CodeT := ⟨seqC ⟨r19_0⟩ ⟨seqC ⟨seqC ⟨r19_1⟩ ⟨condC ⟨fun _ tm => tg tm 4⟩ ⟨seqC ⟨r19_2⟩ retC⟩ skipC⟩⟩ ⟨seqC ⟨r19_3⟩ retC⟩⟩⟩
noncomputable def q19 : Box (T Value → H → Option (List Value)) := ⟨fun tm h => some [tg tm 2]⟩

/-! 20 cloakroom/text.bare -/
noncomputable def r20_0 : CodeT := fun call _ tm ds h K =>
  kA (some (.rw (Value.cells (tg tm 0)).toList (some 28), ptrTo h.next)) ds h (fun v0 ds h =>
  K .norm (T.set (T.set tm 1 v0) 2 (.bool false)) ds h)
noncomputable def r20_1 : CodeT := fun call _ tm ds h K =>
  kO (fieldPtr 1 (tg tm 1)) ds h (fun v0 ds h =>
  kO (loadAgg 8 h v0) ds h (fun v1 ds h =>
  kA (some (.rw [(.int .u8 (0)), (.int .i64 (0)), (.slice none 0 0), (.string (strB [])), (.int .u32 (0)), (.int .i64 (0)), (.int .u64 (0)), (.int .u64 (0))] (some 26), ptrTo h.next)) ds h (fun v2 ds h =>
  kH (withV undef (storeV 8 h v2 v1)) ds (fun v3 ds h =>
  K .norm (T.set tm 3 v2) ds h))))
noncomputable def r20_2 : CodeT := fun call _ tm ds h K => (⟨opStep ⟨fun call env tm ds h K => kO (fieldPtr 0 (tg tm 3)) ds h K⟩ ⟨fun v tm => tm⟩ ⟨fun env tm => true⟩
  ⟨opStep ⟨fun call env tm ds h K => kO (loadOne h (nthD 0 env)) ds h K⟩ ⟨fun v tm => tm⟩ ⟨fun env tm => true⟩
  ⟨opStep ⟨fun call env tm ds h K => kO (binV Tryd.prog .eql 5 true (nthD 0 env) (.int .u8 (0))) ds h K⟩ ⟨fun v tm => tm⟩ ⟨fun env tm => true⟩
  ⟨opStep ⟨fun call env tm ds h K => kO (some (nthD 0 env)) ds h K⟩ ⟨fun v tm => tm⟩ ⟨fun env tm => true⟩
  ⟨opStep ⟨fun call env tm ds h K => kO (fieldPtr 1 (tg tm 3)) ds h K⟩ ⟨fun v tm => tm⟩ ⟨fun env tm => isB true (nthD 0 env)⟩
  ⟨opStep ⟨fun call env tm ds h K => kO (loadOne h (nthD 0 env)) ds h K⟩ ⟨fun v tm => tm⟩ ⟨fun env tm => isB true (nthD 1 env)⟩
  ⟨opStep ⟨fun call env tm ds h K => kO (binV Tryd.prog .eql 3 true (nthD 0 env) (.int .i64 (0))) ds h K⟩ ⟨fun v tm => tm⟩ ⟨fun env tm => isB true (nthD 2 env)⟩
  ⟨opStep ⟨fun call env tm ds h K => kO (pickV (nthD 3 env) (nthD 0 env) (.bool false)) ds h K⟩ ⟨fun v tm => tm⟩ ⟨fun env tm => true⟩
  ⟨opStep ⟨fun call env tm ds h K => kO (some (nthD 0 env)) ds h K⟩ ⟨fun v tm => tm⟩ ⟨fun env tm => true⟩
  ⟨opStep ⟨fun call env tm ds h K => kO (fieldPtr 2 (tg tm 3)) ds h K⟩ ⟨fun v tm => tm⟩ ⟨fun env tm => isB true (nthD 0 env)⟩
  ⟨opStep ⟨fun call env tm ds h K => kO (loadOne h (nthD 0 env)) ds h K⟩ ⟨fun v tm => tm⟩ ⟨fun env tm => isB true (nthD 1 env)⟩
  ⟨opStep ⟨fun call env tm ds h K => kO (lenSl (nthD 0 env)) ds h K⟩ ⟨fun v tm => tm⟩ ⟨fun env tm => isB true (nthD 2 env)⟩
  ⟨opStep ⟨fun call env tm ds h K => kO (binV Tryd.prog .eql 3 true (nthD 0 env) (.int .i64 (0))) ds h K⟩ ⟨fun v tm => tm⟩ ⟨fun env tm => isB true (nthD 3 env)⟩
  ⟨opStep ⟨fun call env tm ds h K => kO (pickV (nthD 4 env) (nthD 0 env) (.bool false)) ds h K⟩ ⟨fun v tm => tm⟩ ⟨fun env tm => true⟩
  ⟨opStep ⟨fun call env tm ds h K => kO (some (nthD 0 env)) ds h K⟩ ⟨fun v tm => tm⟩ ⟨fun env tm => true⟩
  ⟨opStep ⟨fun call env tm ds h K => kO (fieldPtr 3 (tg tm 3)) ds h K⟩ ⟨fun v tm => tm⟩ ⟨fun env tm => isB true (nthD 0 env)⟩
  ⟨opStep ⟨fun call env tm ds h K => kO (loadOne h (nthD 0 env)) ds h K⟩ ⟨fun v tm => tm⟩ ⟨fun env tm => isB true (nthD 1 env)⟩
  ⟨opStep ⟨fun call env tm ds h K => kO (binV Tryd.prog .eql 9 true (nthD 0 env) (.string (strB []))) ds h K⟩ ⟨fun v tm => tm⟩ ⟨fun env tm => isB true (nthD 2 env)⟩
  ⟨opStep ⟨fun call env tm ds h K => kO (pickV (nthD 3 env) (nthD 0 env) (.bool false)) ds h K⟩ ⟨fun v tm => tm⟩ ⟨fun env tm => true⟩
  ⟨opStep ⟨fun call env tm ds h K => kO (some (nthD 0 env)) ds h K⟩ ⟨fun v tm => tm⟩ ⟨fun env tm => true⟩
  ⟨opStep ⟨fun call env tm ds h K => kO (fieldPtr 4 (tg tm 3)) ds h K⟩ ⟨fun v tm => tm⟩ ⟨fun env tm => isB true (nthD 0 env)⟩
  ⟨opStep ⟨fun call env tm ds h K => kO (loadOne h (nthD 0 env)) ds h K⟩ ⟨fun v tm => tm⟩ ⟨fun env tm => isB true (nthD 1 env)⟩
  ⟨opStep ⟨fun call env tm ds h K => kO (binV Tryd.prog .eql 23 true (nthD 0 env) (.int .u32 (0))) ds h K⟩ ⟨fun v tm => tm⟩ ⟨fun env tm => isB true (nthD 2 env)⟩
  ⟨opStep ⟨fun call env tm ds h K => kO (pickV (nthD 3 env) (nthD 0 env) (.bool false)) ds h K⟩ ⟨fun v tm => tm⟩ ⟨fun env tm => true⟩
  ⟨opStep ⟨fun call env tm ds h K => kO (some (nthD 0 env)) ds h K⟩ ⟨fun v tm => tm⟩ ⟨fun env tm => true⟩
  ⟨opStep ⟨fun call env tm ds h K => kO (fieldPtr 5 (tg tm 3)) ds h K⟩ ⟨fun v tm => tm⟩ ⟨fun env tm => isB true (nthD 0 env)⟩
  ⟨opStep ⟨fun call env tm ds h K => kO (loadOne h (nthD 0 env)) ds h K⟩ ⟨fun v tm => tm⟩ ⟨fun env tm => isB true (nthD 1 env)⟩
  ⟨opStep ⟨fun call env tm ds h K => kO (binV Tryd.prog .eql 3 true (nthD 0 env) (.int .i64 (0))) ds h K⟩ ⟨fun v tm => tm⟩ ⟨fun env tm => isB true (nthD 2 env)⟩
  ⟨opStep ⟨fun call env tm ds h K => kO (pickV (nthD 3 env) (nthD 0 env) (.bool false)) ds h K⟩ ⟨fun v tm => tm⟩ ⟨fun env tm => true⟩
  ⟨opStep ⟨fun call env tm ds h K => kO (some (nthD 0 env)) ds h K⟩ ⟨fun v tm => tm⟩ ⟨fun env tm => true⟩
  ⟨opStep ⟨fun call env tm ds h K => kO (fieldPtr 6 (tg tm 3)) ds h K⟩ ⟨fun v tm => tm⟩ ⟨fun env tm => isB true (nthD 0 env)⟩
  ⟨opStep ⟨fun call env tm ds h K => kO (loadOne h (nthD 0 env)) ds h K⟩ ⟨fun v tm => tm⟩ ⟨fun env tm => isB true (nthD 1 env)⟩
  ⟨opStep ⟨fun call env tm ds h K => kO (binV Tryd.prog .eql 24 true (nthD 0 env) (.int .u64 (0))) ds h K⟩ ⟨fun v tm => tm⟩ ⟨fun env tm => isB true (nthD 2 env)⟩
  ⟨opStep ⟨fun call env tm ds h K => kO (pickV (nthD 3 env) (nthD 0 env) (.bool false)) ds h K⟩ ⟨fun v tm => tm⟩ ⟨fun env tm => true⟩
  ⟨opStep ⟨fun call env tm ds h K => kO (some (nthD 0 env)) ds h K⟩ ⟨fun v tm => tm⟩ ⟨fun env tm => true⟩
  ⟨opStep ⟨fun call env tm ds h K => kO (fieldPtr 7 (tg tm 3)) ds h K⟩ ⟨fun v tm => tm⟩ ⟨fun env tm => isB true (nthD 0 env)⟩
  ⟨opStep ⟨fun call env tm ds h K => kO (loadOne h (nthD 0 env)) ds h K⟩ ⟨fun v tm => tm⟩ ⟨fun env tm => isB true (nthD 1 env)⟩
  ⟨opStep ⟨fun call env tm ds h K => kO (binV Tryd.prog .eql 24 true (nthD 0 env) (.int .u64 (0))) ds h K⟩ ⟨fun v tm => tm⟩ ⟨fun env tm => isB true (nthD 2 env)⟩
  ⟨opStep ⟨fun call env tm ds h K => kO (pickV (nthD 3 env) (nthD 0 env) (.bool false)) ds h K⟩ ⟨fun v tm => tm⟩ ⟨fun env tm => true⟩
  ⟨opStep ⟨fun call env tm ds h K => kO (some (nthD 0 env)) ds h K⟩ ⟨fun v tm => (T.set tm 2 v)⟩ ⟨fun env tm => true⟩
  ⟨fun _ _ tm ds h K => K .norm tm ds h⟩⟩⟩⟩⟩⟩⟩⟩⟩⟩⟩⟩⟩⟩⟩⟩⟩⟩⟩⟩⟩⟩⟩⟩⟩⟩⟩⟩⟩⟩⟩⟩⟩⟩⟩⟩⟩⟩⟩⟩⟩ : Box OpsT).f call [] tm ds h K
noncomputable def c20 : Box CodeT := ⟨seqC ⟨r20_0⟩ ⟨seqC ⟨r20_1⟩ ⟨seqC ⟨r20_2⟩ retC⟩⟩⟩
noncomputable def q20 : Box (T Value → H → Option (List Value)) := ⟨fun tm h => some [tg tm 2]⟩

/-! 21 cloakroom/order.may -/
noncomputable def r21_0 : CodeT := fun call _ tm ds h K =>
  kA (some (.rw (Value.cells (tg tm 0)).toList (some 26), ptrTo h.next)) ds h (fun v0 ds h =>
  K .norm (T.set (T.set tm 1 v0) 2 (.bool false)) ds h)
noncomputable def r21_1 : CodeT := fun call _ tm ds h K =>
  kO (fieldPtr 0 (tg tm 1)) ds h (fun v0 ds h =>
  kO (loadOne h v0) ds h (fun v1 ds h =>
  call 33 [v1] h (fun v h => (fun v2 ds h =>
  K .norm (T.set tm 3 v2) ds h) v ds h)))
noncomputable def r21_2 : CodeT := fun call _ tm ds h K =>
  kO (binV Tryd.prog .eql 3 true (tg tm 3) (.int .i64 (0))) ds h (fun v1 ds h =>
  K .norm (T.set tm 7 v1) ds h)
noncomputable def r21_3 : CodeT := fun call _ tm ds h K =>
  kO (fieldPtr 1 (tg tm 1)) ds h (fun v0 ds h =>
  kO (loadOne h v0) ds h (fun v1 ds h =>
  kO (binV Tryd.prog .lss 3 true v1 (.int .i64 (0))) ds h (fun v2 ds h =>
  K .norm (T.set tm 7 v2) ds h)))
noncomputable def r21_4 : CodeT := fun call _ tm ds h K =>
  kO (fieldPtr 1 (tg tm 1)) ds h (fun v0 ds h =>
  kO (loadOne h v0) ds h (fun v1 ds h =>
  kO (binV Tryd.prog .geq 3 true v1 (.int .i64 (4))) ds h (fun v2 ds h =>
  K .norm (T.set tm 7 v2) ds h)))
noncomputable def r21_5 : CodeT := fun call _ tm ds h K =>
  kO (loadAgg 8 h (tg tm 1)) ds h (fun v0 ds h =>
  call 34 [v0, (tg tm 3)] h (fun v h => (fun v2 ds h =>
  kO (unV .not v2) ds h (fun v3 ds h =>
  K .norm (T.set tm 7 v3) ds h)) v ds h))
noncomputable def r21_6 : CodeT := fun call _ tm ds h K =>
  K .norm (T.set tm 2 (.bool false)) ds h
noncomputable def r21_7 : CodeT := fun call _ tm ds h K =>
  kO (fieldPtr 3 (tg tm 1)) ds h (fun v0 ds h =>
  kO (loadOne h v0) ds h (fun v1 ds h =>
  kO (lenStr v1) ds h (fun v2 ds h =>
  kO (binV Tryd.prog .gtr 3 true v2 (.int .i64 (512))) ds h (fun v3 ds h =>
  K .norm (T.set tm 20 v3) ds h))))
noncomputable def r21_8 : CodeT := fun call _ tm ds h K => (⟨opStep ⟨fun call env tm ds h K => kO (some (tg tm 3)) ds h K⟩ ⟨fun v tm => tm⟩ ⟨fun env tm => true⟩
  ⟨opStep ⟨fun call env tm ds h K => kO (binV Tryd.prog .and 3 true (nthD 0 env) (.int .i64 (2))) ds h K⟩ ⟨fun v tm => tm⟩ ⟨fun env tm => true⟩
  ⟨opStep ⟨fun call env tm ds h K => kO (binV Tryd.prog .eql 3 true (nthD 0 env) (.int .i64 (0))) ds h K⟩ ⟨fun v tm => tm⟩ ⟨fun env tm => true⟩
  ⟨opStep ⟨fun call env tm ds h K => kO (some (nthD 0 env)) ds h K⟩ ⟨fun v tm => tm⟩ ⟨fun env tm => true⟩
  ⟨opStep ⟨fun call env tm ds h K => kO (fieldPtr 3 (tg tm 1)) ds h K⟩ ⟨fun v tm => tm⟩ ⟨fun env tm => isB true (nthD 0 env)⟩
  ⟨opStep ⟨fun call env tm ds h K => kO (loadOne h (nthD 0 env)) ds h K⟩ ⟨fun v tm => tm⟩ ⟨fun env tm => isB true (nthD 1 env)⟩
  ⟨opStep ⟨fun call env tm ds h K => kO (binV Tryd.prog .neq 9 true (nthD 0 env) (.string (strB []))) ds h K⟩ ⟨fun v tm => tm⟩ ⟨fun env tm => isB true (nthD 2 env)⟩
  ⟨opStep ⟨fun call env tm ds h K => kO (pickV (nthD 3 env) (nthD 0 env) (.bool false)) ds h K⟩ ⟨fun v tm => tm⟩ ⟨fun env tm => true⟩
  ⟨opStep ⟨fun call env tm ds h K => kO (some (nthD 0 env)) ds h K⟩ ⟨fun v tm => (T.set tm 20 v)⟩ ⟨fun env tm => true⟩
  ⟨fun _ _ tm ds h K => K .norm tm ds h⟩⟩⟩⟩⟩⟩⟩⟩⟩⟩ : Box OpsT).f call [] tm ds h K
noncomputable def r21_9 : CodeT := fun call _ tm ds h K =>
  K .norm (T.set tm 2 (.bool false)) ds h
noncomputable def r21_10 : CodeT := fun call _ tm ds h K =>
  kO (fieldPtr 5 (tg tm 1)) ds h (fun v0 ds h =>
  kO (loadOne h v0) ds h (fun v1 ds h =>
  kO (binV Tryd.prog .lss 3 true v1 (.int .i64 (0))) ds h (fun v2 ds h =>
  K .norm (T.set tm 33 v2) ds h)))
noncomputable def r21_11 : CodeT := fun call _ tm ds h K =>
  kO (fieldPtr 5 (tg tm 1)) ds h (fun v0 ds h =>
  kO (loadOne h v0) ds h (fun v1 ds h =>
  kO (binV Tryd.prog .gtr 3 true v1 (.int .i64 (1099511627776))) ds h (fun v2 ds h =>
  K .norm (T.set tm 33 v2) ds h)))
noncomputable def r21_12 : CodeT := fun call _ tm ds h K => (⟨opStep ⟨fun call env tm ds h K => kO (some (tg tm 3)) ds h K⟩ ⟨fun v tm => tm⟩ ⟨fun env tm => true⟩
  ⟨opStep ⟨fun call env tm ds h K => kO (binV Tryd.prog .and 3 true (nthD 0 env) (.int .i64 (4))) ds h K⟩ ⟨fun v tm => tm⟩ ⟨fun env tm => true⟩
  ⟨opStep ⟨fun call env tm ds h K => kO (binV Tryd.prog .eql 3 true (nthD 0 env) (.int .i64 (0))) ds h K⟩ ⟨fun v tm => tm⟩ ⟨fun env tm => true⟩
  ⟨opStep ⟨fun call env tm ds h K => kO (some (nthD 0 env)) ds h K⟩ ⟨fun v tm => tm⟩ ⟨fun env tm => true⟩
  ⟨opStep ⟨fun call env tm ds h K => kO (fieldPtr 5 (tg tm 1)) ds h K⟩ ⟨fun v tm => tm⟩ ⟨fun env tm => isB true (nthD 0 env)⟩
  ⟨opStep ⟨fun call env tm ds h K => kO (loadOne h (nthD 0 env)) ds h K⟩ ⟨fun v tm => tm⟩ ⟨fun env tm => isB true (nthD 1 env)⟩
  ⟨opStep ⟨fun call env tm ds h K => kO (binV Tryd.prog .neq 3 true (nthD 0 env) (.int .i64 (0))) ds h K⟩ ⟨fun v tm => tm⟩ ⟨fun env tm => isB true (nthD 2 env)⟩
  ⟨opStep ⟨fun call env tm ds h K => kO (pickV (nthD 3 env) (nthD 0 env) (.bool false)) ds h K⟩ ⟨fun v tm => tm⟩ ⟨fun env tm => true⟩
  ⟨opStep ⟨fun call env tm ds h K => kO (some (nthD 0 env)) ds h K⟩ ⟨fun v tm => (T.set tm 33 v)⟩ ⟨fun env tm => true⟩
  ⟨fun _ _ tm ds h K => K .norm tm ds h⟩⟩⟩⟩⟩⟩⟩⟩⟩⟩ : Box OpsT).f call [] tm ds h K
noncomputable def r21_13 : CodeT := fun call _ tm ds h K =>
  K .norm (T.set tm 2 (.bool false)) ds h
noncomputable def r21_14 : CodeT := fun call _ tm ds h K => (⟨opStep ⟨fun call env tm ds h K => kO (some (tg tm 3)) ds h K⟩ ⟨fun v tm => tm⟩ ⟨fun env tm => true⟩
  ⟨opStep ⟨fun call env tm ds h K => kO (binV Tryd.prog .and 3 true (nthD 0 env) (.int .i64 (8))) ds h K⟩ ⟨fun v tm => tm⟩ ⟨fun env tm => true⟩
  ⟨opStep ⟨fun call env tm ds h K => kO (binV Tryd.prog .neq 3 true (nthD 0 env) (.int .i64 (0))) ds h K⟩ ⟨fun v tm => tm⟩ ⟨fun env tm => true⟩
  ⟨opStep ⟨fun call env tm ds h K => kO (some (nthD 0 env)) ds h K⟩ ⟨fun v tm => tm⟩ ⟨fun env tm => true⟩
  ⟨opStep ⟨fun call env tm ds h K => kO (fieldPtr 4 (tg tm 1)) ds h K⟩ ⟨fun v tm => tm⟩ ⟨fun env tm => isB false (nthD 0 env)⟩
  ⟨opStep ⟨fun call env tm ds h K => kO (loadOne h (nthD 0 env)) ds h K⟩ ⟨fun v tm => tm⟩ ⟨fun env tm => isB false (nthD 1 env)⟩
  ⟨opStep ⟨fun call env tm ds h K => kO (binV Tryd.prog .eql 23 true (nthD 0 env) (.int .u32 (0))) ds h K⟩ ⟨fun v tm => tm⟩ ⟨fun env tm => isB false (nthD 2 env)⟩
  ⟨opStep ⟨fun call env tm ds h K => kO (pickV (nthD 3 env) (.bool true) (nthD 0 env)) ds h K⟩ ⟨fun v tm => tm⟩ ⟨fun env tm => true⟩
  ⟨opStep ⟨fun call env tm ds h K => kO (some (nthD 0 env)) ds h K⟩ ⟨fun v tm => tm⟩ ⟨fun env tm => true⟩
  ⟨opStep ⟨fun call env tm ds h K => kO (some (tg tm 3)) ds h K⟩ ⟨fun v tm => tm⟩ ⟨fun env tm => isB true (nthD 0 env)⟩
  ⟨opStep ⟨fun call env tm ds h K => kO (binV Tryd.prog .and 3 true (nthD 0 env) (.int .i64 (16))) ds h K⟩ ⟨fun v tm => tm⟩ ⟨fun env tm => isB true (nthD 1 env)⟩
  ⟨opStep ⟨fun call env tm ds h K => kO (binV Tryd.prog .neq 3 true (nthD 0 env) (.int .i64 (0))) ds h K⟩ ⟨fun v tm => tm⟩ ⟨fun env tm => isB true (nthD 2 env)⟩
  ⟨opStep ⟨fun call env tm ds h K => kO (some (nthD 0 env)) ds h K⟩ ⟨fun v tm => tm⟩ ⟨fun env tm => isB true (nthD 3 env)⟩
  ⟨opStep ⟨fun call env tm ds h K => kO (fieldPtr 6 (tg tm 1)) ds h K⟩ ⟨fun v tm => tm⟩ ⟨fun env tm => isB false (nthD 0 env)⟩
  ⟨opStep ⟨fun call env tm ds h K => kO (loadOne h (nthD 0 env)) ds h K⟩ ⟨fun v tm => tm⟩ ⟨fun env tm => isB false (nthD 1 env)⟩
  ⟨opStep ⟨fun call env tm ds h K => kO (binV Tryd.prog .eql 24 true (nthD 0 env) (.int .u64 (0))) ds h K⟩ ⟨fun v tm => tm⟩ ⟨fun env tm => isB false (nthD 2 env)⟩
  ⟨opStep ⟨fun call env tm ds h K => kO (pickV (nthD 3 env) (.bool true) (nthD 0 env)) ds h K⟩ ⟨fun v tm => tm⟩ ⟨fun env tm => isB true (nthD 7 env)⟩
  ⟨opStep ⟨fun call env tm ds h K => kO (pickV (nthD 8 env) (nthD 0 env) (.bool false)) ds h K⟩ ⟨fun v tm => tm⟩ ⟨fun env tm => true⟩
  ⟨opStep ⟨fun call env tm ds h K => kO (some (nthD 0 env)) ds h K⟩ ⟨fun v tm => tm⟩ ⟨fun env tm => true⟩
  ⟨opStep ⟨fun call env tm ds h K => kO (some (tg tm 3)) ds h K⟩ ⟨fun v tm => tm⟩ ⟨fun env tm => isB true (nthD 0 env)⟩
  ⟨opStep ⟨fun call env tm ds h K => kO (binV Tryd.prog .and 3 true (nthD 0 env) (.int .i64 (32))) ds h K⟩ ⟨fun v tm => tm⟩ ⟨fun env tm => isB true (nthD 1 env)⟩
  ⟨opStep ⟨fun call env tm ds h K => kO (binV Tryd.prog .neq 3 true (nthD 0 env) (.int .i64 (0))) ds h K⟩ ⟨fun v tm => tm⟩ ⟨fun env tm => isB true (nthD 2 env)⟩
  ⟨opStep ⟨fun call env tm ds h K => kO (some (nthD 0 env)) ds h K⟩ ⟨fun v tm => tm⟩ ⟨fun env tm => isB true (nthD 3 env)⟩
  ⟨opStep ⟨fun call env tm ds h K => kO (fieldPtr 7 (tg tm 1)) ds h K⟩ ⟨fun v tm => tm⟩ ⟨fun env tm => isB false (nthD 0 env)⟩
  ⟨opStep ⟨fun call env tm ds h K => kO (loadOne h (nthD 0 env)) ds h K⟩ ⟨fun v tm => tm⟩ ⟨fun env tm => isB false (nthD 1 env)⟩
  ⟨opStep ⟨fun call env tm ds h K => kO (binV Tryd.prog .eql 24 true (nthD 0 env) (.int .u64 (0))) ds h K⟩ ⟨fun v tm => tm⟩ ⟨fun env tm => isB false (nthD 2 env)⟩
  ⟨opStep ⟨fun call env tm ds h K => kO (pickV (nthD 3 env) (.bool true) (nthD 0 env)) ds h K⟩ ⟨fun v tm => tm⟩ ⟨fun env tm => isB true (nthD 7 env)⟩
  ⟨opStep ⟨fun call env tm ds h K => kO (pickV (nthD 8 env) (nthD 0 env) (.bool false)) ds h K⟩ ⟨fun v tm => tm⟩ ⟨fun env tm => true⟩
  ⟨opStep ⟨fun call env tm ds h K => kO (some (nthD 0 env)) ds h K⟩ ⟨fun v tm => (T.set tm 2 v)⟩ ⟨fun env tm => true⟩
  ⟨fun _ _ tm ds h K => K .norm tm ds h⟩⟩⟩⟩⟩⟩⟩⟩⟩⟩⟩⟩⟩⟩⟩⟩⟩⟩⟩⟩⟩⟩⟩⟩⟩⟩⟩⟩⟩⟩ : Box OpsT).f call [] tm ds h K
noncomputable def c21 : Box CodeT := ⟨seqC ⟨r21_0⟩ ⟨seqC ⟨r21_1⟩ ⟨seqC ⟨blockC 0 ⟨seqC ⟨seqC ⟨r21_2⟩ ⟨condC ⟨fun _ tm => tg tm 7⟩ skipC ⟨seqC ⟨r21_3⟩ ⟨condC ⟨fun _ tm => tg tm 7⟩ skipC ⟨seqC ⟨r21_4⟩ ⟨condC ⟨fun _ tm => tg tm 7⟩ skipC ⟨r21_5⟩⟩⟩⟩⟩⟩⟩ ⟨condC ⟨fun _ tm => tg tm 7⟩ ⟨seqC ⟨r21_6⟩ retC⟩ ⟨seqC ⟨seqC ⟨r21_7⟩ ⟨condC ⟨fun _ tm => tg tm 20⟩ skipC ⟨r21_8⟩⟩⟩ ⟨condC ⟨fun _ tm => tg tm 20⟩ ⟨seqC ⟨r21_9⟩ retC⟩ ⟨seqC ⟨seqC ⟨r21_10⟩ ⟨condC ⟨fun _ tm => tg tm 33⟩ skipC ⟨seqC ⟨r21_11⟩ ⟨condC ⟨fun _ tm => tg tm 33⟩ skipC ⟨r21_12⟩⟩⟩⟩⟩ ⟨condC ⟨fun _ tm => tg tm 33⟩ ⟨seqC ⟨r21_13⟩ retC⟩ skipC⟩⟩⟩⟩⟩⟩⟩ ⟨seqC ⟨r21_14⟩ retC⟩⟩⟩⟩
noncomputable def q21 : Box (T Value → H → Option (List Value)) := ⟨fun tm h => some [tg tm 2]⟩

/-! 22 slices.IndexFunc[[]string,string] -/
noncomputable def r22_0 : CodeT := fun call _ tm ds h K =>
  K .norm (T.set tm 4 (.int .i64 (0))) ds h
noncomputable def r22_1 : CodeT := fun call _ tm ds h K =>
  kO (lenSl (tg tm 0)) ds h (fun v1 ds h =>
  K .norm (T.set (T.set tm 7 v1) 8 (.int .i64 (0))) ds h)
noncomputable def r22_2 : CodeT := fun call _ tm ds h K =>
  kO (binV Tryd.prog .lss 3 false (tg tm 8) (tg tm 7)) ds h (fun v0 ds h =>
  K .norm (T.set tm 9 v0) ds h)
noncomputable def r22_3 : CodeT := fun call _ tm ds h K =>
  K .norm (T.set tm 5 (tg tm 8)) ds h
noncomputable def r22_4 : CodeT := fun call _ tm ds h K =>
  kO (indexSl 1 (tg tm 0) (tg tm 5)) ds h (fun v3 ds h =>
  kO (loadOne h v3) ds h (fun v4 ds h =>
  goCall call (funcArgs (tg tm 1) [v4]) ds h (fun v5 ds h =>
  K .norm (T.set tm 16 v5) ds h)))
noncomputable def r22_5 : CodeT := fun call _ tm ds h K =>
  K .norm (T.set tm 4 (tg tm 5)) ds h
noncomputable def r22_6 : CodeT := fun call _ tm ds h K =>
  kO (binV Tryd.prog .add 3 true (tg tm 8) (.int .i64 (1))) ds h (fun v0 ds h =>
  K .norm (T.set tm 8 v0) ds h)
noncomputable def l22_7 : Box CodeT := ⟨seqC ⟨r22_2⟩ ⟨seqC ⟨condC ⟨fun _ tm => tg tm 9⟩ skipC (exitC 0)⟩ ⟨seqC ⟨blockC 1 ⟨seqC ⟨r22_3⟩ ⟨seqC ⟨r22_4⟩ ⟨condC ⟨fun _ tm => tg tm 16⟩ ⟨seqC ⟨r22_5⟩ retC⟩ skipC⟩⟩⟩⟩ ⟨r22_6⟩⟩⟩⟩
noncomputable def r22_7 : CodeT := fun call _ tm ds h K =>
  K .norm (T.set tm 4 (.int .i64 (-1))) ds h
noncomputable def c22 : Box CodeT := ⟨seqC ⟨r22_0⟩ ⟨seqC ⟨seqC ⟨r22_1⟩ ⟨blockC 0 (loopB l22_7)⟩⟩ ⟨seqC ⟨r22_7⟩ retC⟩⟩⟩
noncomputable def q22 : Box (T Value → H → Option (List Value)) := ⟨fun tm h => some [tg tm 4]⟩

/-! 23 strings.IndexFunc -/
noncomputable def r23_0 : CodeT := fun call _ tm ds h K =>
  K .norm (T.set tm 4 (.int .i64 (0))) ds h
noncomputable def r23_1 : CodeT := fun call _ tm ds h K =>
  call 35 [(tg tm 0), (tg tm 1), (.bool true)] h (fun v h => (fun v2 ds h =>
  K .norm (T.set tm 4 v2) ds h) v ds h)
noncomputable def c23 : Box CodeT := ⟨seqC ⟨r23_0⟩ ⟨seqC ⟨r23_1⟩ retC⟩⟩
noncomputable def q23 : Box (T Value → H → Option (List Value)) := ⟨fun tm h => some [tg tm 4]⟩

/-! 24 cloakroom/text.plain$1 -/
noncomputable def r24_0 : CodeT := fun call _ tm ds h K =>
  K .norm (T.set tm 2 (.bool false)) ds h
noncomputable def r24_1 : CodeT := fun call _ tm ds h K =>
  kO (binV Tryd.prog .lss 21 true (tg tm 0) (.int .i32 (33))) ds h (fun v1 ds h =>
  gd (isB false v1) (fun k => kO (some (tg tm 0)) ds h (k)) ds h (fun v3 ds h =>
  gd (isB false v1) (fun k => kO (binV Tryd.prog .gtr 21 true v3 (.int .i32 (126))) ds h (k)) ds h (fun v4 ds h =>
  kO (pickV v1 (.bool true) v4) ds h (fun v5 ds h =>
  K .norm (T.set tm 2 v5) ds h))))
noncomputable def c24 : Box CodeT := ⟨seqC ⟨r24_0⟩ ⟨seqC ⟨r24_1⟩ retC⟩⟩
noncomputable def q24 : Box (T Value → H → Option (List Value)) := ⟨fun tm h => some [tg tm 2]⟩

/-! 25 cloakroom/text.tens[uint32] -/
noncomputable def r25_0 : CodeT := fun call _ tm ds h K =>
  K .norm (T.set tm 2 (.string (strB []))) ds h
noncomputable def r25_1 : CodeT := fun call _ tm ds h K =>
  kO (toInt .u64 (tg tm 0)) ds h (fun v1 ds h =>
  call 30 [v1, (.int .i64 (10))] h (fun v h => (fun v2 ds h =>
  K .norm (T.set tm 2 v2) ds h) v ds h))
noncomputable def c25 : Box CodeT := ⟨seqC ⟨r25_0⟩ ⟨seqC ⟨r25_1⟩ retC⟩⟩
noncomputable def q25 : Box (T Value → H → Option (List Value)) := ⟨fun tm h => some [tg tm 2]⟩

/-! 26 cloakroom/text.tens[uint64] -/
noncomputable def r26_0 : CodeT := fun call _ tm ds h K =>
  K .norm (T.set tm 2 (.string (strB []))) ds h
noncomputable def r26_1 : CodeT := fun call _ tm ds h K =>
  call 30 [(tg tm 0), (.int .i64 (10))] h (fun v h => (fun v1 ds h =>
  K .norm (T.set tm 2 v1) ds h) v ds h)
noncomputable def c26 : Box CodeT := ⟨seqC ⟨r26_0⟩ ⟨seqC ⟨r26_1⟩ retC⟩⟩
noncomputable def q26 : Box (T Value → H → Option (List Value)) := ⟨fun tm h => some [tg tm 2]⟩

/-! 27 (*strings.Builder).Grow -/
noncomputable def r27_0 : CodeT := fun call _ tm ds h K =>
  call 36 [(tg tm 0)] h (fun v h => (fun v1 ds h =>
  K .norm tm ds h) v ds h)
noncomputable def r27_1 : CodeT := fun call _ tm ds h K =>
  kO (binV Tryd.prog .lss 3 true (tg tm 1) (.int .i64 (0))) ds h (fun v1 ds h =>
  K .norm (T.set tm 7 v1) ds h)
noncomputable def r27_2 : CodeT := fun call _ tm ds h K =>
  kO (some (.iface 9 (.string (strB [115, 116, 114, 105, 110, 103, 115, 46, 66, 117, 105, 108, 100, 101, 114, 46, 71, 114, 111, 119, 58, 32, 110, 101, 103, 97, 116, 105, 118, 101, 32, 99, 111, 117, 110, 116])))) ds h (fun v0 ds h =>
  kO none ds h (fun v1 ds h =>
  K .norm tm ds h))
noncomputable def r27_3 : CodeT := fun call _ tm ds h0 K =>
  (fun (b0 : Nat) (h : H) =>
  kO (nilChk (tg tm 0)) ds h (fun v1 ds h =>
  kO (fieldPtr 1 v1) ds h (fun v2 ds h =>
  kO (loadOne h v2) ds h (fun v3 ds h =>
  kO (capV v3) ds h (fun v4 ds h =>
  kO (nilChk (tg tm 0)) ds h (fun v6 ds h =>
  kO (fieldPtr 1 v6) ds h (fun v7 ds h =>
  kO (loadOne h v7) ds h (fun v8 ds h =>
  kO (lenSl v8) ds h (fun v9 ds h =>
  kO (binV Tryd.prog .sub 3 false v4 v9) ds h (fun v10 ds h =>
  kO (binV Tryd.prog .lss 3 false v10 (tg tm 1)) ds h (fun v12 ds h =>
  K .norm (T.set tm 21 v12) ds h))))))))))) h0.next ⟨h0.objs, h0.next + 13⟩
noncomputable def r27_4 : CodeT := fun call _ tm ds h K =>
  call 37 [(tg tm 0), (tg tm 1)] h (fun v h => (fun v2 ds h =>
  K .norm tm ds h) v ds h)
noncomputable def c27 : Box CodeT := ⟨seqC ⟨r27_0⟩ ⟨seqC ⟨seqC ⟨r27_1⟩ ⟨condC ⟨fun _ tm => tg tm 7⟩ ⟨r27_2⟩ skipC⟩⟩ ⟨seqC ⟨r27_3⟩ ⟨condC ⟨fun _ tm => tg tm 21⟩ ⟨r27_4⟩ skipC⟩⟩⟩⟩
noncomputable def q27 : Box (T Value → H → Option (List Value)) := ⟨fun tm h => some []⟩

/-! 28 (*strings.Builder).WriteString -/
noncomputable def r28_0 : CodeT := fun call _ tm ds h K =>
  K .norm (T.set (T.set tm 4 (.int .i64 (0))) 5 .nilIface) ds h
noncomputable def r28_1 : CodeT := fun call _ tm ds h K =>
  call 36 [(tg tm 0)] h (fun v h => (fun v1 ds h =>
  K .norm tm ds h) v ds h)
noncomputable def r28_2 : CodeT := fun call _ tm ds h K =>
  kO (nilChk (tg tm 0)) ds h (fun v2 ds h =>
  kO (fieldPtr 1 v2) ds h (fun v3 ds h =>
  kO (loadOne h v3) ds h (fun v4 ds h =>
  kH (appendV 5 1 1 h v4 (tg tm 1)) ds (fun v6 ds h =>
  kO (nilChk (tg tm 0)) ds h (fun v7 ds h =>
  kO (fieldPtr 1 v7) ds h (fun v8 ds h =>
  kH (withV undef (storeV 1 h v8 v6)) ds (fun v9 ds h =>
  K .norm tm ds h)))))))
noncomputable def r28_3 : CodeT := fun call _ tm ds h K =>
  kO (lenStr (tg tm 1)) ds h (fun v1 ds h =>
  K .norm (T.set (T.set tm 4 v1) 5 .nilIface) ds h)
noncomputable def c28 : Box CodeT := ⟨seqC ⟨r28_0⟩ ⟨seqC ⟨r28_1⟩ ⟨seqC ⟨r28_2⟩ ⟨seqC ⟨r28_3⟩ retC⟩⟩⟩⟩
noncomputable def q28 : Box (T Value → H → Option (List Value)) := ⟨fun tm h => some [tg tm 4, tg tm 5]⟩

/-! 29 (*strings.Builder).String -/
noncomputable def r29_0 : CodeT := fun call _ tm ds h K =>
  K .norm (T.set tm 2 (.string (strB []))) ds h
noncomputable def r29_1 : CodeT := fun call _ tm ds h0 K =>
  (fun (b0 : Nat) (h : H) =>
  kO (nilChk (tg tm 0)) ds h (fun v1 ds h =>
  kO (fieldPtr 1 v1) ds h (fun v2 ds h =>
  kO (loadOne h v2) ds h (fun v3 ds h =>
  kO (dataV v3) ds h (fun v4 ds h =>
  kO (nilChk (tg tm 0)) ds h (fun v6 ds h =>
  kO (fieldPtr 1 v6) ds h (fun v7 ds h =>
  kO (loadOne h v7) ds h (fun v8 ds h =>
  kO (lenSl v8) ds h (fun v9 ds h =>
  kH (strOf 5 h v4 v9) ds (fun v10 ds h =>
  K .norm (T.set tm 2 v10) ds h)))))))))) h0.next ⟨h0.objs, h0.next + 12⟩
noncomputable def c29 : Box CodeT := ⟨seqC ⟨r29_0⟩ ⟨seqC ⟨r29_1⟩ retC⟩⟩
noncomputable def q29 : Box (T Value → H → Option (List Value)) := ⟨fun tm h => some [tg tm 2]⟩

/-! 30 strconv.FormatUint -/
noncomputable def r30_0 : CodeT := fun call _ tm ds h K =>
  K .norm (T.set tm 4 (.string (strB []))) ds h
noncomputable def r30_1 : CodeT := fun call _ tm ds h K =>
  call 38 [(tg tm 0), (tg tm 1)] h (fun v h => (fun v2 ds h =>
  K .norm (T.set tm 4 v2) ds h) v ds h)
noncomputable def c30 : Box CodeT := ⟨seqC ⟨r30_0⟩ ⟨seqC ⟨r30_1⟩ retC⟩⟩
noncomputable def q30 : Box (T Value → H → Option (List Value)) := ⟨fun tm h => some [tg tm 4]⟩

/-! 31 cloakroom/cloakroomref10.SameCommand -/
noncomputable def r31_0 : CodeT := fun call _ tm ds h K =>
  kA (some (.rw (Value.cells (tg tm 0)).toList (some 26), ptrTo h.next)) ds h (fun v0 ds h =>
  kA (some (.rw (Value.cells (tg (T.set tm 2 v0) 1)).toList (some 26), ptrTo h.next)) ds h (fun v1 ds h =>
  K .norm (T.set (T.set (T.set tm 2 v0) 3 v1) 4 (.bool false)) ds h))
noncomputable def r31_1 : CodeT := fun call _ tm ds h K => (⟨opStep ⟨fun call env tm ds h K => kO (fieldPtr 0 (tg tm 2)) ds h K⟩ ⟨fun v tm => tm⟩ ⟨fun env tm => true⟩
  ⟨opStep ⟨fun call env tm ds h K => kO (loadOne h (nthD 0 env)) ds h K⟩ ⟨fun v tm => tm⟩ ⟨fun env tm => true⟩
  ⟨opStep ⟨fun call env tm ds h K => kO (fieldPtr 0 (tg tm 3)) ds h K⟩ ⟨fun v tm => tm⟩ ⟨fun env tm => true⟩
  ⟨opStep ⟨fun call env tm ds h K => kO (loadOne h (nthD 0 env)) ds h K⟩ ⟨fun v tm => tm⟩ ⟨fun env tm => true⟩
  ⟨opStep ⟨fun call env tm ds h K => kO (binV Tryd.prog .neq 5 false (nthD 2 env) (nthD 0 env)) ds h K⟩ ⟨fun v tm => tm⟩ ⟨fun env tm => true⟩
  ⟨opStep ⟨fun call env tm ds h K => kO (some (nthD 0 env)) ds h K⟩ ⟨fun v tm => tm⟩ ⟨fun env tm => true⟩
  ⟨opStep ⟨fun call env tm ds h K => kO (fieldPtr 1 (tg tm 2)) ds h K⟩ ⟨fun v tm => tm⟩ ⟨fun env tm => isB false (nthD 0 env)⟩
  ⟨opStep ⟨fun call env tm ds h K => kO (loadOne h (nthD 0 env)) ds h K⟩ ⟨fun v tm => tm⟩ ⟨fun env tm => isB false (nthD 1 env)⟩
  ⟨opStep ⟨fun call env tm ds h K => kO (fieldPtr 1 (tg tm 3)) ds h K⟩ ⟨fun v tm => tm⟩ ⟨fun env tm => isB false (nthD 2 env)⟩
  ⟨opStep ⟨fun call env tm ds h K => kO (loadOne h (nthD 0 env)) ds h K⟩ ⟨fun v tm => tm⟩ ⟨fun env tm => isB false (nthD 3 env)⟩
  ⟨opStep ⟨fun call env tm ds h K => kO (binV Tryd.prog .neq 3 false (nthD 2 env) (nthD 0 env)) ds h K⟩ ⟨fun v tm => tm⟩ ⟨fun env tm => isB false (nthD 4 env)⟩
  ⟨opStep ⟨fun call env tm ds h K => kO (pickV (nthD 5 env) (.bool true) (nthD 0 env)) ds h K⟩ ⟨fun v tm => tm⟩ ⟨fun env tm => true⟩
  ⟨opStep ⟨fun call env tm ds h K => kO (some (nthD 0 env)) ds h K⟩ ⟨fun v tm => tm⟩ ⟨fun env tm => true⟩
  ⟨opStep ⟨fun call env tm ds h K => kO (fieldPtr 3 (tg tm 2)) ds h K⟩ ⟨fun v tm => tm⟩ ⟨fun env tm => isB false (nthD 0 env)⟩
  ⟨opStep ⟨fun call env tm ds h K => kO (loadOne h (nthD 0 env)) ds h K⟩ ⟨fun v tm => tm⟩ ⟨fun env tm => isB false (nthD 1 env)⟩
  ⟨opStep ⟨fun call env tm ds h K => kO (fieldPtr 3 (tg tm 3)) ds h K⟩ ⟨fun v tm => tm⟩ ⟨fun env tm => isB false (nthD 2 env)⟩
  ⟨opStep ⟨fun call env tm ds h K => kO (loadOne h (nthD 0 env)) ds h K⟩ ⟨fun v tm => tm⟩ ⟨fun env tm => isB false (nthD 3 env)⟩
  ⟨opStep ⟨fun call env tm ds h K => kO (binV Tryd.prog .neq 9 false (nthD 2 env) (nthD 0 env)) ds h K⟩ ⟨fun v tm => tm⟩ ⟨fun env tm => isB false (nthD 4 env)⟩
  ⟨opStep ⟨fun call env tm ds h K => kO (pickV (nthD 5 env) (.bool true) (nthD 0 env)) ds h K⟩ ⟨fun v tm => tm⟩ ⟨fun env tm => true⟩
  ⟨opStep ⟨fun call env tm ds h K => kO (some (nthD 0 env)) ds h K⟩ ⟨fun v tm => tm⟩ ⟨fun env tm => true⟩
  ⟨opStep ⟨fun call env tm ds h K => kO (fieldPtr 4 (tg tm 2)) ds h K⟩ ⟨fun v tm => tm⟩ ⟨fun env tm => isB false (nthD 0 env)⟩
  ⟨opStep ⟨fun call env tm ds h K => kO (loadOne h (nthD 0 env)) ds h K⟩ ⟨fun v tm => tm⟩ ⟨fun env tm => isB false (nthD 1 env)⟩
  ⟨opStep ⟨fun call env tm ds h K => kO (fieldPtr 4 (tg tm 3)) ds h K⟩ ⟨fun v tm => tm⟩ ⟨fun env tm => isB false (nthD 2 env)⟩
  ⟨opStep ⟨fun call env tm ds h K => kO (loadOne h (nthD 0 env)) ds h K⟩ ⟨fun v tm => tm⟩ ⟨fun env tm => isB false (nthD 3 env)⟩
  ⟨opStep ⟨fun call env tm ds h K => kO (binV Tryd.prog .neq 23 false (nthD 2 env) (nthD 0 env)) ds h K⟩ ⟨fun v tm => tm⟩ ⟨fun env tm => isB false (nthD 4 env)⟩
  ⟨opStep ⟨fun call env tm ds h K => kO (pickV (nthD 5 env) (.bool true) (nthD 0 env)) ds h K⟩ ⟨fun v tm => tm⟩ ⟨fun env tm => true⟩
  ⟨opStep ⟨fun call env tm ds h K => kO (some (nthD 0 env)) ds h K⟩ ⟨fun v tm => tm⟩ ⟨fun env tm => true⟩
  ⟨opStep ⟨fun call env tm ds h K => kO (fieldPtr 5 (tg tm 2)) ds h K⟩ ⟨fun v tm => tm⟩ ⟨fun env tm => isB false (nthD 0 env)⟩
  ⟨opStep ⟨fun call env tm ds h K => kO (loadOne h (nthD 0 env)) ds h K⟩ ⟨fun v tm => tm⟩ ⟨fun env tm => isB false (nthD 1 env)⟩
  ⟨opStep ⟨fun call env tm ds h K => kO (fieldPtr 5 (tg tm 3)) ds h K⟩ ⟨fun v tm => tm⟩ ⟨fun env tm => isB false (nthD 2 env)⟩
  ⟨opStep ⟨fun call env tm ds h K => kO (loadOne h (nthD 0 env)) ds h K⟩ ⟨fun v tm => tm⟩ ⟨fun env tm => isB false (nthD 3 env)⟩
  ⟨opStep ⟨fun call env tm ds h K => kO (binV Tryd.prog .neq 3 false (nthD 2 env) (nthD 0 env)) ds h K⟩ ⟨fun v tm => tm⟩ ⟨fun env tm => isB false (nthD 4 env)⟩
  ⟨opStep ⟨fun call env tm ds h K => kO (pickV (nthD 5 env) (.bool true) (nthD 0 env)) ds h K⟩ ⟨fun v tm => tm⟩ ⟨fun env tm => true⟩
  ⟨opStep ⟨fun call env tm ds h K => kO (some (nthD 0 env)) ds h K⟩ ⟨fun v tm => tm⟩ ⟨fun env tm => true⟩
  ⟨opStep ⟨fun call env tm ds h K => kO (fieldPtr 6 (tg tm 2)) ds h K⟩ ⟨fun v tm => tm⟩ ⟨fun env tm => isB false (nthD 0 env)⟩
  ⟨opStep ⟨fun call env tm ds h K => kO (loadOne h (nthD 0 env)) ds h K⟩ ⟨fun v tm => tm⟩ ⟨fun env tm => isB false (nthD 1 env)⟩
  ⟨opStep ⟨fun call env tm ds h K => kO (fieldPtr 6 (tg tm 3)) ds h K⟩ ⟨fun v tm => tm⟩ ⟨fun env tm => isB false (nthD 2 env)⟩
  ⟨opStep ⟨fun call env tm ds h K => kO (loadOne h (nthD 0 env)) ds h K⟩ ⟨fun v tm => tm⟩ ⟨fun env tm => isB false (nthD 3 env)⟩
  ⟨opStep ⟨fun call env tm ds h K => kO (binV Tryd.prog .neq 24 false (nthD 2 env) (nthD 0 env)) ds h K⟩ ⟨fun v tm => tm⟩ ⟨fun env tm => isB false (nthD 4 env)⟩
  ⟨opStep ⟨fun call env tm ds h K => kO (pickV (nthD 5 env) (.bool true) (nthD 0 env)) ds h K⟩ ⟨fun v tm => tm⟩ ⟨fun env tm => true⟩
  ⟨opStep ⟨fun call env tm ds h K => kO (some (nthD 0 env)) ds h K⟩ ⟨fun v tm => tm⟩ ⟨fun env tm => true⟩
  ⟨opStep ⟨fun call env tm ds h K => kO (fieldPtr 7 (tg tm 2)) ds h K⟩ ⟨fun v tm => tm⟩ ⟨fun env tm => isB false (nthD 0 env)⟩
  ⟨opStep ⟨fun call env tm ds h K => kO (loadOne h (nthD 0 env)) ds h K⟩ ⟨fun v tm => tm⟩ ⟨fun env tm => isB false (nthD 1 env)⟩
  ⟨opStep ⟨fun call env tm ds h K => kO (fieldPtr 7 (tg tm 3)) ds h K⟩ ⟨fun v tm => tm⟩ ⟨fun env tm => isB false (nthD 2 env)⟩
  ⟨opStep ⟨fun call env tm ds h K => kO (loadOne h (nthD 0 env)) ds h K⟩ ⟨fun v tm => tm⟩ ⟨fun env tm => isB false (nthD 3 env)⟩
  ⟨opStep ⟨fun call env tm ds h K => kO (binV Tryd.prog .neq 24 false (nthD 2 env) (nthD 0 env)) ds h K⟩ ⟨fun v tm => tm⟩ ⟨fun env tm => isB false (nthD 4 env)⟩
  ⟨opStep ⟨fun call env tm ds h K => kO (pickV (nthD 5 env) (.bool true) (nthD 0 env)) ds h K⟩ ⟨fun v tm => tm⟩ ⟨fun env tm => true⟩
  ⟨opStep ⟨fun call env tm ds h K => kO (some (nthD 0 env)) ds h K⟩ ⟨fun v tm => tm⟩ ⟨fun env tm => true⟩
  ⟨opStep ⟨fun call env tm ds h K => kO (fieldPtr 2 (tg tm 2)) ds h K⟩ ⟨fun v tm => tm⟩ ⟨fun env tm => isB false (nthD 0 env)⟩
  ⟨opStep ⟨fun call env tm ds h K => kO (loadOne h (nthD 0 env)) ds h K⟩ ⟨fun v tm => tm⟩ ⟨fun env tm => isB false (nthD 1 env)⟩
  ⟨opStep ⟨fun call env tm ds h K => kO (lenSl (nthD 0 env)) ds h K⟩ ⟨fun v tm => tm⟩ ⟨fun env tm => isB false (nthD 2 env)⟩
  ⟨opStep ⟨fun call env tm ds h K => kO (fieldPtr 2 (tg tm 3)) ds h K⟩ ⟨fun v tm => tm⟩ ⟨fun env tm => isB false (nthD 3 env)⟩
  ⟨opStep ⟨fun call env tm ds h K => kO (loadOne h (nthD 0 env)) ds h K⟩ ⟨fun v tm => tm⟩ ⟨fun env tm => isB false (nthD 4 env)⟩
  ⟨opStep ⟨fun call env tm ds h K => kO (lenSl (nthD 0 env)) ds h K⟩ ⟨fun v tm => tm⟩ ⟨fun env tm => isB false (nthD 5 env)⟩
  ⟨opStep ⟨fun call env tm ds h K => kO (binV Tryd.prog .neq 3 false (nthD 3 env) (nthD 0 env)) ds h K⟩ ⟨fun v tm => tm⟩ ⟨fun env tm => isB false (nthD 6 env)⟩
  ⟨opStep ⟨fun call env tm ds h K => kO (pickV (nthD 7 env) (.bool true) (nthD 0 env)) ds h K⟩ ⟨fun v tm => (T.set tm 61 v)⟩ ⟨fun env tm => true⟩
  ⟨fun _ _ tm ds h K => K .norm tm ds h⟩⟩⟩⟩⟩⟩⟩⟩⟩⟩⟩⟩⟩⟩⟩⟩⟩⟩⟩⟩⟩⟩⟩⟩⟩⟩⟩⟩⟩⟩⟩⟩⟩⟩⟩⟩⟩⟩⟩⟩⟩⟩⟩⟩⟩⟩⟩⟩⟩⟩⟩⟩⟩⟩⟩⟩⟩ : Box OpsT).f call [] tm ds h K
noncomputable def r31_2 : CodeT := fun call _ tm ds h K =>
  K .norm (T.set tm 4 (.bool false)) ds h
noncomputable def r31_3 : CodeT := fun call _ tm ds h K =>
  K .norm (T.set tm 5 (.int .i64 (0))) ds h
noncomputable def r31_4 : CodeT := fun call _ tm ds h K =>
  kO (fieldPtr 2 (tg tm 2)) ds h (fun v1 ds h =>
  kO (loadOne h v1) ds h (fun v2 ds h =>
  kO (lenSl v2) ds h (fun v3 ds h =>
  kO (binV Tryd.prog .lss 3 false (tg tm 5) v3) ds h (fun v4 ds h =>
  K .norm (T.set tm 66 v4) ds h))))
noncomputable def r31_6 : CodeT := fun call _ tm ds h0 K =>
  (fun (b0 : Nat) (h : H) =>
  kO (fieldPtr 2 (tg tm 2)) ds h (fun v0 ds h =>
  kO (loadOne h v0) ds h (fun v1 ds h =>
  kO (indexSl 1 v1 (tg tm 5)) ds h (fun v3 ds h =>
  kO (loadOne h v3) ds h (fun v4 ds h =>
  kO (fieldPtr 2 (tg tm 3)) ds h (fun v5 ds h =>
  kO (loadOne h v5) ds h (fun v6 ds h =>
  kO (indexSl 1 v6 (tg tm 5)) ds h (fun v8 ds h =>
  kO (loadOne h v8) ds h (fun v9 ds h =>
  kO (binV Tryd.prog .neq 9 false v4 v9) ds h (fun v10 ds h =>
  K .norm (T.set tm 79 v10) ds h)))))))))) h0.next ⟨h0.objs, h0.next + 11⟩
noncomputable def r31_7 : CodeT := fun call _ tm ds h K =>
  K .norm (T.set tm 4 (.bool false)) ds h
noncomputable def r31_5 : CodeT := fun call _ tm ds h K =>
  kO (binV Tryd.prog .add 3 true (tg tm 5) (.int .i64 (1))) ds h (fun v1 ds h =>
  K .norm (T.set tm 5 v1) ds h)
noncomputable def l31_8 : Box CodeT := ⟨seqC ⟨seqC ⟨r31_4⟩ ⟨condC ⟨fun _ tm => tg tm 66⟩ skipC (exitC 0)⟩⟩ ⟨seqC ⟨blockC 1 ⟨seqC ⟨r31_6⟩ ⟨condC ⟨fun _ tm => tg tm 79⟩ ⟨seqC ⟨r31_7⟩ retC⟩ skipC⟩⟩⟩ ⟨r31_5⟩⟩⟩
noncomputable def r31_8 : CodeT := fun call _ tm ds h K =>
  K .norm (T.set tm 4 (.bool true)) ds h
noncomputable def c31 : Box CodeT := ⟨seqC ⟨r31_0⟩ ⟨seqC ⟨seqC ⟨r31_1⟩ ⟨condC ⟨fun _ tm => tg tm 61⟩ ⟨seqC ⟨r31_2⟩ retC⟩ skipC⟩⟩ ⟨seqC ⟨seqC ⟨r31_3⟩ ⟨blockC 0 (loopB l31_8)⟩⟩ ⟨seqC ⟨r31_8⟩ retC⟩⟩⟩⟩
noncomputable def q31 : Box (T Value → H → Option (List Value)) := ⟨fun tm h => some [tg tm 4]⟩

/-! 32 cloakroom/cloakroomref10.May -/
noncomputable def r32_0 : CodeT := fun call _ tm ds h K =>
  kA (some (.rw (Value.cells (tg tm 0)).toList (some 26), ptrTo h.next)) ds h (fun v0 ds h =>
  K .norm (T.set (T.set tm 1 v0) 2 (.bool false)) ds h)
noncomputable def r32_1 : CodeT := fun call _ tm ds h K => (⟨opStep ⟨fun call env tm ds h K => kO (fieldPtr 0 (tg tm 1)) ds h K⟩ ⟨fun v tm => tm⟩ ⟨fun env tm => true⟩
  ⟨opStep ⟨fun call env tm ds h K => kO (loadOne h (nthD 0 env)) ds h K⟩ ⟨fun v tm => tm⟩ ⟨fun env tm => true⟩
  ⟨opStep ⟨fun call env tm ds h K => kO (binV Tryd.prog .lss 5 true (nthD 0 env) (.int .u8 (1))) ds h K⟩ ⟨fun v tm => tm⟩ ⟨fun env tm => true⟩
  ⟨opStep ⟨fun call env tm ds h K => kO (some (nthD 0 env)) ds h K⟩ ⟨fun v tm => tm⟩ ⟨fun env tm => true⟩
  ⟨opStep ⟨fun call env tm ds h K => kO (fieldPtr 0 (tg tm 1)) ds h K⟩ ⟨fun v tm => tm⟩ ⟨fun env tm => isB false (nthD 0 env)⟩
  ⟨opStep ⟨fun call env tm ds h K => kO (loadOne h (nthD 0 env)) ds h K⟩ ⟨fun v tm => tm⟩ ⟨fun env tm => isB false (nthD 1 env)⟩
  ⟨opStep ⟨fun call env tm ds h K => kO (binV Tryd.prog .gtr 5 true (nthD 0 env) (.int .u8 (11))) ds h K⟩ ⟨fun v tm => tm⟩ ⟨fun env tm => isB false (nthD 2 env)⟩
  ⟨opStep ⟨fun call env tm ds h K => kO (pickV (nthD 3 env) (.bool true) (nthD 0 env)) ds h K⟩ ⟨fun v tm => tm⟩ ⟨fun env tm => true⟩
  ⟨opStep ⟨fun call env tm ds h K => kO (some (nthD 0 env)) ds h K⟩ ⟨fun v tm => tm⟩ ⟨fun env tm => true⟩
  ⟨opStep ⟨fun call env tm ds h K => kO (fieldPtr 1 (tg tm 1)) ds h K⟩ ⟨fun v tm => tm⟩ ⟨fun env tm => isB false (nthD 0 env)⟩
  ⟨opStep ⟨fun call env tm ds h K => kO (loadOne h (nthD 0 env)) ds h K⟩ ⟨fun v tm => tm⟩ ⟨fun env tm => isB false (nthD 1 env)⟩
  ⟨opStep ⟨fun call env tm ds h K => kO (binV Tryd.prog .lss 3 true (nthD 0 env) (.int .i64 (0))) ds h K⟩ ⟨fun v tm => tm⟩ ⟨fun env tm => isB false (nthD 2 env)⟩
  ⟨opStep ⟨fun call env tm ds h K => kO (pickV (nthD 3 env) (.bool true) (nthD 0 env)) ds h K⟩ ⟨fun v tm => tm⟩ ⟨fun env tm => true⟩
  ⟨opStep ⟨fun call env tm ds h K => kO (some (nthD 0 env)) ds h K⟩ ⟨fun v tm => tm⟩ ⟨fun env tm => true⟩
  ⟨opStep ⟨fun call env tm ds h K => kO (fieldPtr 1 (tg tm 1)) ds h K⟩ ⟨fun v tm => tm⟩ ⟨fun env tm => isB false (nthD 0 env)⟩
  ⟨opStep ⟨fun call env tm ds h K => kO (loadOne h (nthD 0 env)) ds h K⟩ ⟨fun v tm => tm⟩ ⟨fun env tm => isB false (nthD 1 env)⟩
  ⟨opStep ⟨fun call env tm ds h K => kO (binV Tryd.prog .geq 3 true (nthD 0 env) (.int .i64 (4))) ds h K⟩ ⟨fun v tm => tm⟩ ⟨fun env tm => isB false (nthD 2 env)⟩
  ⟨opStep ⟨fun call env tm ds h K => kO (pickV (nthD 3 env) (.bool true) (nthD 0 env)) ds h K⟩ ⟨fun v tm => tm⟩ ⟨fun env tm => true⟩
  ⟨opStep ⟨fun call env tm ds h K => kO (some (nthD 0 env)) ds h K⟩ ⟨fun v tm => tm⟩ ⟨fun env tm => true⟩
  ⟨opStep ⟨fun call env tm ds h K => kO (loadAgg 8 h (tg tm 1)) ds h K⟩ ⟨fun v tm => tm⟩ ⟨fun env tm => isB false (nthD 0 env)⟩
  ⟨opStep ⟨fun call env tm ds h K => call 39 [(nthD 0 env)] h (fun v h => (K) v ds h)⟩ ⟨fun v tm => tm⟩ ⟨fun env tm => isB false (nthD 1 env)⟩
  ⟨opStep ⟨fun call env tm ds h K => kO (unV .not (nthD 0 env)) ds h K⟩ ⟨fun v tm => tm⟩ ⟨fun env tm => isB false (nthD 2 env)⟩
  ⟨opStep ⟨fun call env tm ds h K => kO (pickV (nthD 3 env) (.bool true) (nthD 0 env)) ds h K⟩ ⟨fun v tm => (T.set tm 26 v)⟩ ⟨fun env tm => true⟩
  ⟨fun _ _ tm ds h K => K .norm tm ds h⟩⟩⟩⟩⟩⟩⟩⟩⟩⟩⟩⟩⟩⟩⟩⟩⟩⟩⟩⟩⟩⟩⟩⟩ : Box OpsT).f call [] tm ds h K
noncomputable def r32_2 : CodeT := fun call _ tm ds h K =>
  K .norm (T.set tm 2 (.bool false)) ds h
noncomputable def r32_3 : CodeT := fun call _ tm ds h K => (⟨opStep ⟨fun call env tm ds h K => kO (fieldPtr 0 (tg tm 1)) ds h K⟩ ⟨fun v tm => tm⟩ ⟨fun env tm => true⟩
  ⟨opStep ⟨fun call env tm ds h K => kO (loadOne h (nthD 0 env)) ds h K⟩ ⟨fun v tm => tm⟩ ⟨fun env tm => true⟩
  ⟨opStep ⟨fun call env tm ds h K => kO (binV Tryd.prog .geq 5 true (nthD 0 env) (.int .u8 (2))) ds h K⟩ ⟨fun v tm => tm⟩ ⟨fun env tm => true⟩
  ⟨opStep ⟨fun call env tm ds h K => kO (some (nthD 0 env)) ds h K⟩ ⟨fun v tm => tm⟩ ⟨fun env tm => true⟩
  ⟨opStep ⟨fun call env tm ds h K => kO (fieldPtr 0 (tg tm 1)) ds h K⟩ ⟨fun v tm => tm⟩ ⟨fun env tm => isB true (nthD 0 env)⟩
  ⟨opStep ⟨fun call env tm ds h K => kO (loadOne h (nthD 0 env)) ds h K⟩ ⟨fun v tm => tm⟩ ⟨fun env tm => isB true (nthD 1 env)⟩
  ⟨opStep ⟨fun call env tm ds h K => kO (binV Tryd.prog .leq 5 true (nthD 0 env) (.int .u8 (5))) ds h K⟩ ⟨fun v tm => tm⟩ ⟨fun env tm => isB true (nthD 2 env)⟩
  ⟨opStep ⟨fun call env tm ds h K => kO (pickV (nthD 3 env) (nthD 0 env) (.bool false)) ds h K⟩ ⟨fun v tm => tm⟩ ⟨fun env tm => true⟩
  ⟨opStep ⟨fun call env tm ds h K => kO (some (nthD 0 env)) ds h K⟩ ⟨fun v tm => (T.set tm 3 v)⟩ ⟨fun env tm => true⟩
  ⟨fun _ _ tm ds h K => K .norm tm ds h⟩⟩⟩⟩⟩⟩⟩⟩⟩⟩ : Box OpsT).f call [] tm ds h K
noncomputable def r32_4 : CodeT := fun call _ tm ds h K => (⟨opStep ⟨fun call env tm ds h K => kO (fieldPtr 3 (tg tm 1)) ds h K⟩ ⟨fun v tm => tm⟩ ⟨fun env tm => true⟩
  ⟨opStep ⟨fun call env tm ds h K => kO (loadOne h (nthD 0 env)) ds h K⟩ ⟨fun v tm => tm⟩ ⟨fun env tm => true⟩
  ⟨opStep ⟨fun call env tm ds h K => kO (lenStr (nthD 0 env)) ds h K⟩ ⟨fun v tm => tm⟩ ⟨fun env tm => true⟩
  ⟨opStep ⟨fun call env tm ds h K => kO (binV Tryd.prog .gtr 3 true (nthD 0 env) (.int .i64 (512))) ds h K⟩ ⟨fun v tm => tm⟩ ⟨fun env tm => true⟩
  ⟨opStep ⟨fun call env tm ds h K => kO (some (nthD 0 env)) ds h K⟩ ⟨fun v tm => tm⟩ ⟨fun env tm => true⟩
  ⟨opStep ⟨fun call env tm ds h K => kO (fieldPtr 3 (tg tm 1)) ds h K⟩ ⟨fun v tm => tm⟩ ⟨fun env tm => isB false (nthD 0 env)⟩
  ⟨opStep ⟨fun call env tm ds h K => kO (loadOne h (nthD 0 env)) ds h K⟩ ⟨fun v tm => tm⟩ ⟨fun env tm => isB false (nthD 1 env)⟩
  ⟨opStep ⟨fun call env tm ds h K => kO (binV Tryd.prog .neq 9 true (nthD 0 env) (.string (strB []))) ds h K⟩ ⟨fun v tm => tm⟩ ⟨fun env tm => isB false (nthD 2 env)⟩
  ⟨opStep ⟨fun call env tm ds h K => kO (some (nthD 0 env)) ds h K⟩ ⟨fun v tm => tm⟩ ⟨fun env tm => isB false (nthD 3 env)⟩
  ⟨opStep ⟨fun call env tm ds h K => kO (some (tg tm 3)) ds h K⟩ ⟨fun v tm => tm⟩ ⟨fun env tm => isB true (nthD 0 env)⟩
  ⟨opStep ⟨fun call env tm ds h K => kO (unV .not (nthD 0 env)) ds h K⟩ ⟨fun v tm => tm⟩ ⟨fun env tm => isB true (nthD 1 env)⟩
  ⟨opStep ⟨fun call env tm ds h K => kO (pickV (nthD 2 env) (nthD 0 env) (.bool false)) ds h K⟩ ⟨fun v tm => tm⟩ ⟨fun env tm => isB false (nthD 6 env)⟩
  ⟨opStep ⟨fun call env tm ds h K => kO (some (nthD 0 env)) ds h K⟩ ⟨fun v tm => tm⟩ ⟨fun env tm => isB false (nthD 7 env)⟩
  ⟨opStep ⟨fun call env tm ds h K => kO (fieldPtr 0 (tg tm 1)) ds h K⟩ ⟨fun v tm => tm⟩ ⟨fun env tm => isB true (nthD 0 env)⟩
  ⟨opStep ⟨fun call env tm ds h K => kO (loadOne h (nthD 0 env)) ds h K⟩ ⟨fun v tm => tm⟩ ⟨fun env tm => isB true (nthD 1 env)⟩
  ⟨opStep ⟨fun call env tm ds h K => kO (binV Tryd.prog .neq 5 true (nthD 0 env) (.int .u8 (8))) ds h K⟩ ⟨fun v tm => tm⟩ ⟨fun env tm => isB true (nthD 2 env)⟩
  ⟨opStep ⟨fun call env tm ds h K => kO (pickV (nthD 3 env) (nthD 0 env) (.bool false)) ds h K⟩ ⟨fun v tm => tm⟩ ⟨fun env tm => isB false (nthD 11 env)⟩
  ⟨opStep ⟨fun call env tm ds h K => kO (pickV (nthD 12 env) (.bool true) (nthD 0 env)) ds h K⟩ ⟨fun v tm => (T.set tm 52 v)⟩ ⟨fun env tm => true⟩
  ⟨fun _ _ tm ds h K => K .norm tm ds h⟩⟩⟩⟩⟩⟩⟩⟩⟩⟩⟩⟩⟩⟩⟩⟩⟩⟩⟩ : Box OpsT).f call [] tm ds h K
noncomputable def r32_5 : CodeT := fun call _ tm ds h K =>
  K .norm (T.set tm 2 (.bool false)) ds h
noncomputable def r32_6 : CodeT := fun call _ tm ds h K => (⟨opStep ⟨fun call env tm ds h K => kO (fieldPtr 5 (tg tm 1)) ds h K⟩ ⟨fun v tm => tm⟩ ⟨fun env tm => true⟩
  ⟨opStep ⟨fun call env tm ds h K => kO (loadOne h (nthD 0 env)) ds h K⟩ ⟨fun v tm => tm⟩ ⟨fun env tm => true⟩
  ⟨opStep ⟨fun call env tm ds h K => kO (binV Tryd.prog .lss 3 true (nthD 0 env) (.int .i64 (0))) ds h K⟩ ⟨fun v tm => tm⟩ ⟨fun env tm => true⟩
  ⟨opStep ⟨fun call env tm ds h K => kO (some (nthD 0 env)) ds h K⟩ ⟨fun v tm => tm⟩ ⟨fun env tm => true⟩
  ⟨opStep ⟨fun call env tm ds h K => kO (fieldPtr 5 (tg tm 1)) ds h K⟩ ⟨fun v tm => tm⟩ ⟨fun env tm => isB false (nthD 0 env)⟩
  ⟨opStep ⟨fun call env tm ds h K => kO (loadOne h (nthD 0 env)) ds h K⟩ ⟨fun v tm => tm⟩ ⟨fun env tm => isB false (nthD 1 env)⟩
  ⟨opStep ⟨fun call env tm ds h K => kO (binV Tryd.prog .gtr 3 true (nthD 0 env) (.int .i64 (1099511627776))) ds h K⟩ ⟨fun v tm => tm⟩ ⟨fun env tm => isB false (nthD 2 env)⟩
  ⟨opStep ⟨fun call env tm ds h K => kO (pickV (nthD 3 env) (.bool true) (nthD 0 env)) ds h K⟩ ⟨fun v tm => tm⟩ ⟨fun env tm => true⟩
  ⟨opStep ⟨fun call env tm ds h K => kO (some (nthD 0 env)) ds h K⟩ ⟨fun v tm => tm⟩ ⟨fun env tm => true⟩
  ⟨opStep ⟨fun call env tm ds h K => kO (fieldPtr 5 (tg tm 1)) ds h K⟩ ⟨fun v tm => tm⟩ ⟨fun env tm => isB false (nthD 0 env)⟩
  ⟨opStep ⟨fun call env tm ds h K => kO (loadOne h (nthD 0 env)) ds h K⟩ ⟨fun v tm => tm⟩ ⟨fun env tm => isB false (nthD 1 env)⟩
  ⟨opStep ⟨fun call env tm ds h K => kO (binV Tryd.prog .neq 3 true (nthD 0 env) (.int .i64 (0))) ds h K⟩ ⟨fun v tm => tm⟩ ⟨fun env tm => isB false (nthD 2 env)⟩
  ⟨opStep ⟨fun call env tm ds h K => kO (some (nthD 0 env)) ds h K⟩ ⟨fun v tm => tm⟩ ⟨fun env tm => isB false (nthD 3 env)⟩
  ⟨opStep ⟨fun call env tm ds h K => kO (some (tg tm 3)) ds h K⟩ ⟨fun v tm => tm⟩ ⟨fun env tm => isB true (nthD 0 env)⟩
  ⟨opStep ⟨fun call env tm ds h K => kO (unV .not (nthD 0 env)) ds h K⟩ ⟨fun v tm => tm⟩ ⟨fun env tm => isB true (nthD 1 env)⟩
  ⟨opStep ⟨fun call env tm ds h K => kO (pickV (nthD 2 env) (nthD 0 env) (.bool false)) ds h K⟩ ⟨fun v tm => tm⟩ ⟨fun env tm => isB false (nthD 6 env)⟩
  ⟨opStep ⟨fun call env tm ds h K => kO (some (nthD 0 env)) ds h K⟩ ⟨fun v tm => tm⟩ ⟨fun env tm => isB false (nthD 7 env)⟩
  ⟨opStep ⟨fun call env tm ds h K => kO (fieldPtr 0 (tg tm 1)) ds h K⟩ ⟨fun v tm => tm⟩ ⟨fun env tm => isB true (nthD 0 env)⟩
  ⟨opStep ⟨fun call env tm ds h K => kO (loadOne h (nthD 0 env)) ds h K⟩ ⟨fun v tm => tm⟩ ⟨fun env tm => isB true (nthD 1 env)⟩
  ⟨opStep ⟨fun call env tm ds h K => kO (binV Tryd.prog .neq 5 true (nthD 0 env) (.int .u8 (9))) ds h K⟩ ⟨fun v tm => tm⟩ ⟨fun env tm => isB true (nthD 2 env)⟩
  ⟨opStep ⟨fun call env tm ds h K => kO (pickV (nthD 3 env) (nthD 0 env) (.bool false)) ds h K⟩ ⟨fun v tm => tm⟩ ⟨fun env tm => isB false (nthD 11 env)⟩
  ⟨opStep ⟨fun call env tm ds h K => kO (pickV (nthD 12 env) (.bool true) (nthD 0 env)) ds h K⟩ ⟨fun v tm => (T.set tm 74 v)⟩ ⟨fun env tm => true⟩
  ⟨fun _ _ tm ds h K => K .norm tm ds h⟩⟩⟩⟩⟩⟩⟩⟩⟩⟩⟩⟩⟩⟩⟩⟩⟩⟩⟩⟩⟩⟩⟩ : Box OpsT).f call [] tm ds h K
noncomputable def r32_7 : CodeT := fun call _ tm ds h K =>
  K .norm (T.set tm 2 (.bool false)) ds h
noncomputable def r32_8 : CodeT := fun call _ tm ds h K => (⟨opStep ⟨fun call env tm ds h K => kO (fieldPtr 4 (tg tm 1)) ds h K⟩ ⟨fun v tm => tm⟩ ⟨fun env tm => true⟩
  ⟨opStep ⟨fun call env tm ds h K => kO (loadOne h (nthD 0 env)) ds h K⟩ ⟨fun v tm => tm⟩ ⟨fun env tm => true⟩
  ⟨opStep ⟨fun call env tm ds h K => kO (binV Tryd.prog .neq 23 true (nthD 0 env) (.int .u32 (0))) ds h K⟩ ⟨fun v tm => tm⟩ ⟨fun env tm => true⟩
  ⟨opStep ⟨fun call env tm ds h K => kO (some (nthD 0 env)) ds h K⟩ ⟨fun v tm => tm⟩ ⟨fun env tm => true⟩
  ⟨opStep ⟨fun call env tm ds h K => kO (some (tg tm 3)) ds h K⟩ ⟨fun v tm => tm⟩ ⟨fun env tm => isB true (nthD 0 env)⟩
  ⟨opStep ⟨fun call env tm ds h K => kO (unV .not (nthD 0 env)) ds h K⟩ ⟨fun v tm => tm⟩ ⟨fun env tm => isB true (nthD 1 env)⟩
  ⟨opStep ⟨fun call env tm ds h K => kO (pickV (nthD 2 env) (nthD 0 env) (.bool false)) ds h K⟩ ⟨fun v tm => tm⟩ ⟨fun env tm => true⟩
  ⟨opStep ⟨fun call env tm ds h K => kO (some (nthD 0 env)) ds h K⟩ ⟨fun v tm => tm⟩ ⟨fun env tm => true⟩
  ⟨opStep ⟨fun call env tm ds h K => kO (fieldPtr 6 (tg tm 1)) ds h K⟩ ⟨fun v tm => tm⟩ ⟨fun env tm => isB false (nthD 0 env)⟩
  ⟨opStep ⟨fun call env tm ds h K => kO (loadOne h (nthD 0 env)) ds h K⟩ ⟨fun v tm => tm⟩ ⟨fun env tm => isB false (nthD 1 env)⟩
  ⟨opStep ⟨fun call env tm ds h K => kO (binV Tryd.prog .neq 24 true (nthD 0 env) (.int .u64 (0))) ds h K⟩ ⟨fun v tm => tm⟩ ⟨fun env tm => isB false (nthD 2 env)⟩
  ⟨opStep ⟨fun call env tm ds h K => kO (some (nthD 0 env)) ds h K⟩ ⟨fun v tm => tm⟩ ⟨fun env tm => isB false (nthD 3 env)⟩
  ⟨opStep ⟨fun call env tm ds h K => kO (fieldPtr 0 (tg tm 1)) ds h K⟩ ⟨fun v tm => tm⟩ ⟨fun env tm => isB true (nthD 0 env)⟩
  ⟨opStep ⟨fun call env tm ds h K => kO (loadOne h (nthD 0 env)) ds h K⟩ ⟨fun v tm => tm⟩ ⟨fun env tm => isB true (nthD 1 env)⟩
  ⟨opStep ⟨fun call env tm ds h K => kO (binV Tryd.prog .neq 5 true (nthD 0 env) (.int .u8 (5))) ds h K⟩ ⟨fun v tm => tm⟩ ⟨fun env tm => isB true (nthD 2 env)⟩
  ⟨opStep ⟨fun call env tm ds h K => kO (pickV (nthD 3 env) (nthD 0 env) (.bool false)) ds h K⟩ ⟨fun v tm => tm⟩ ⟨fun env tm => isB false (nthD 7 env)⟩
  ⟨opStep ⟨fun call env tm ds h K => kO (pickV (nthD 8 env) (.bool true) (nthD 0 env)) ds h K⟩ ⟨fun v tm => (T.set tm 91 v)⟩ ⟨fun env tm => true⟩
  ⟨fun _ _ tm ds h K => K .norm tm ds h⟩⟩⟩⟩⟩⟩⟩⟩⟩⟩⟩⟩⟩⟩⟩⟩⟩⟩ : Box OpsT).f call [] tm ds h K
noncomputable def r32_9 : CodeT := fun call _ tm ds h K =>
  K .norm (T.set tm 2 (.bool false)) ds h
noncomputable def r32_10 : CodeT := fun call _ tm ds h K => (⟨opStep ⟨fun call env tm ds h K => kO (fieldPtr 7 (tg tm 1)) ds h K⟩ ⟨fun v tm => tm⟩ ⟨fun env tm => true⟩
  ⟨opStep ⟨fun call env tm ds h K => kO (loadOne h (nthD 0 env)) ds h K⟩ ⟨fun v tm => tm⟩ ⟨fun env tm => true⟩
  ⟨opStep ⟨fun call env tm ds h K => kO (binV Tryd.prog .eql 24 true (nthD 0 env) (.int .u64 (0))) ds h K⟩ ⟨fun v tm => tm⟩ ⟨fun env tm => true⟩
  ⟨opStep ⟨fun call env tm ds h K => kO (some (nthD 0 env)) ds h K⟩ ⟨fun v tm => tm⟩ ⟨fun env tm => true⟩
  ⟨opStep ⟨fun call env tm ds h K => kO (fieldPtr 0 (tg tm 1)) ds h K⟩ ⟨fun v tm => tm⟩ ⟨fun env tm => isB false (nthD 0 env)⟩
  ⟨opStep ⟨fun call env tm ds h K => kO (loadOne h (nthD 0 env)) ds h K⟩ ⟨fun v tm => tm⟩ ⟨fun env tm => isB false (nthD 1 env)⟩
  ⟨opStep ⟨fun call env tm ds h K => kO (binV Tryd.prog .eql 5 true (nthD 0 env) (.int .u8 (6))) ds h K⟩ ⟨fun v tm => tm⟩ ⟨fun env tm => isB false (nthD 2 env)⟩
  ⟨opStep ⟨fun call env tm ds h K => kO (pickV (nthD 3 env) (.bool true) (nthD 0 env)) ds h K⟩ ⟨fun v tm => tm⟩ ⟨fun env tm => true⟩
  ⟨opStep ⟨fun call env tm ds h K => kO (some (nthD 0 env)) ds h K⟩ ⟨fun v tm => tm⟩ ⟨fun env tm => true⟩
  ⟨opStep ⟨fun call env tm ds h K => kO (fieldPtr 0 (tg tm 1)) ds h K⟩ ⟨fun v tm => tm⟩ ⟨fun env tm => isB false (nthD 0 env)⟩
  ⟨opStep ⟨fun call env tm ds h K => kO (loadOne h (nthD 0 env)) ds h K⟩ ⟨fun v tm => tm⟩ ⟨fun env tm => isB false (nthD 1 env)⟩
  ⟨opStep ⟨fun call env tm ds h K => kO (binV Tryd.prog .eql 5 true (nthD 0 env) (.int .u8 (7))) ds h K⟩ ⟨fun v tm => tm⟩ ⟨fun env tm => isB false (nthD 2 env)⟩
  ⟨opStep ⟨fun call env tm ds h K => kO (pickV (nthD 3 env) (.bool true) (nthD 0 env)) ds h K⟩ ⟨fun v tm => tm⟩ ⟨fun env tm => true⟩
  ⟨opStep ⟨fun call env tm ds h K => kO (some (nthD 0 env)) ds h K⟩ ⟨fun v tm => (T.set tm 2 v)⟩ ⟨fun env tm => true⟩
  ⟨fun _ _ tm ds h K => K .norm tm ds h⟩⟩⟩⟩⟩⟩⟩⟩⟩⟩⟩⟩⟩⟩⟩ : Box OpsT).f call [] tm ds h K
noncomputable def c32 : Box CodeT := ⟨seqC ⟨r32_0⟩ ⟨seqC ⟨seqC ⟨r32_1⟩ ⟨condC ⟨fun _ tm => tg tm 26⟩ ⟨seqC ⟨r32_2⟩ retC⟩ skipC⟩⟩ ⟨seqC ⟨r32_3⟩ ⟨seqC ⟨seqC ⟨r32_4⟩ ⟨condC ⟨fun _ tm => tg tm 52⟩ ⟨seqC ⟨r32_5⟩ retC⟩ skipC⟩⟩ ⟨seqC ⟨seqC ⟨r32_6⟩ ⟨condC ⟨fun _ tm => tg tm 74⟩ ⟨seqC ⟨r32_7⟩ retC⟩ skipC⟩⟩ ⟨seqC ⟨seqC ⟨r32_8⟩ ⟨condC ⟨fun _ tm => tg tm 91⟩ ⟨seqC ⟨r32_9⟩ retC⟩ skipC⟩⟩ ⟨seqC ⟨r32_10⟩ retC⟩⟩⟩⟩⟩⟩⟩
noncomputable def q32 : Box (T Value → H → Option (List Value)) := ⟨fun tm h => some [tg tm 2]⟩

/-! 33 cloakroom/order.has -/
noncomputable def r33_0 : CodeT := fun call _ tm ds h K =>
  K .norm (T.set tm 2 (.int .i64 (0))) ds h
noncomputable def r33_1 : CodeT := fun call _ tm ds h K =>
  K .norm (T.set tm 3 (tg tm 0)) ds h
noncomputable def r33_2 : CodeT := fun call _ tm ds h K =>
  kO (binV Tryd.prog .eql 5 true (tg tm 3) (.int .u8 (1))) ds h (fun v0 ds h =>
  K .norm (T.set tm 4 v0) ds h)
noncomputable def r33_3 : CodeT := fun call _ tm ds h K =>
  kO (binV Tryd.prog .eql 5 true (tg tm 3) (.int .u8 (10))) ds h (fun v0 ds h =>
  K .norm (T.set tm 4 v0) ds h)
noncomputable def r33_4 : CodeT := fun call _ tm ds h K =>
  K .norm (T.set tm 2 (.int .i64 (129))) ds h
noncomputable def r33_5 : CodeT := fun call _ tm ds h K =>
  kO (binV Tryd.prog .eql 5 true (tg tm 3) (.int .u8 (2))) ds h (fun v0 ds h =>
  K .norm (T.set tm 7 v0) ds h)
noncomputable def r33_6 : CodeT := fun call _ tm ds h K =>
  kO (binV Tryd.prog .eql 5 true (tg tm 3) (.int .u8 (3))) ds h (fun v0 ds h =>
  K .norm (T.set tm 7 v0) ds h)
noncomputable def r33_7 : CodeT := fun call _ tm ds h K =>
  kO (binV Tryd.prog .eql 5 true (tg tm 3) (.int .u8 (4))) ds h (fun v0 ds h =>
  K .norm (T.set tm 7 v0) ds h)
noncomputable def r33_8 : CodeT := fun call _ tm ds h K =>
  K .norm (T.set tm 2 (.int .i64 (142))) ds h
noncomputable def r33_9 : CodeT := fun call _ tm ds h K =>
  kO (binV Tryd.prog .eql 5 true (tg tm 3) (.int .u8 (5))) ds h (fun v0 ds h =>
  K .norm (T.set tm 11 v0) ds h)
noncomputable def r33_10 : CodeT := fun call _ tm ds h K =>
  K .norm (T.set tm 2 (.int .i64 (158))) ds h
noncomputable def r33_11 : CodeT := fun call _ tm ds h K =>
  kO (binV Tryd.prog .eql 5 true (tg tm 3) (.int .u8 (6))) ds h (fun v0 ds h =>
  K .norm (T.set tm 13 v0) ds h)
noncomputable def r33_12 : CodeT := fun call _ tm ds h K =>
  kO (binV Tryd.prog .eql 5 true (tg tm 3) (.int .u8 (7))) ds h (fun v0 ds h =>
  K .norm (T.set tm 13 v0) ds h)
noncomputable def r33_13 : CodeT := fun call _ tm ds h K =>
  K .norm (T.set tm 2 (.int .i64 (160))) ds h
noncomputable def r33_14 : CodeT := fun call _ tm ds h K =>
  kO (binV Tryd.prog .eql 5 true (tg tm 3) (.int .u8 (8))) ds h (fun v0 ds h =>
  K .norm (T.set tm 16 v0) ds h)
noncomputable def r33_15 : CodeT := fun call _ tm ds h K =>
  K .norm (T.set tm 2 (.int .i64 (130))) ds h
noncomputable def r33_16 : CodeT := fun call _ tm ds h K =>
  kO (binV Tryd.prog .eql 5 true (tg tm 3) (.int .u8 (9))) ds h (fun v0 ds h =>
  K .norm (T.set tm 18 v0) ds h)
noncomputable def r33_17 : CodeT := fun call _ tm ds h K =>
  K .norm (T.set tm 2 (.int .i64 (132))) ds h
noncomputable def r33_18 : CodeT := fun call _ tm ds h K =>
  kO (binV Tryd.prog .eql 5 true (tg tm 3) (.int .u8 (11))) ds h (fun v0 ds h =>
  K .norm (T.set tm 20 v0) ds h)
noncomputable def r33_19 : CodeT := fun call _ tm ds h K =>
  K .norm (T.set tm 2 (.int .i64 (192))) ds h
noncomputable def r33_20 : CodeT := fun call _ tm ds h K =>
  K .norm (T.set tm 2 (.int .i64 (0))) ds h
noncomputable def c33 : Box CodeT := ⟨seqC ⟨r33_0⟩ ⟨seqC ⟨seqC ⟨r33_1⟩ ⟨blockC 0 ⟨seqC ⟨seqC ⟨r33_2⟩ ⟨condC ⟨fun _ tm => tg tm 4⟩ skipC ⟨r33_3⟩⟩⟩ ⟨condC ⟨fun _ tm => tg tm 4⟩ ⟨seqC ⟨r33_4⟩ retC⟩ ⟨seqC ⟨seqC ⟨r33_5⟩ ⟨condC ⟨fun _ tm => tg tm 7⟩ skipC ⟨seqC ⟨r33_6⟩ ⟨condC ⟨fun _ tm => tg tm 7⟩ skipC ⟨r33_7⟩⟩⟩⟩⟩ ⟨condC ⟨fun _ tm => tg tm 7⟩ ⟨seqC ⟨r33_8⟩ retC⟩ ⟨seqC ⟨r33_9⟩ ⟨condC ⟨fun _ tm => tg tm 11⟩ ⟨seqC ⟨r33_10⟩ retC⟩ ⟨seqC ⟨seqC ⟨r33_11⟩ ⟨condC ⟨fun _ tm => tg tm 13⟩ skipC ⟨r33_12⟩⟩⟩ ⟨condC ⟨fun _ tm => tg tm 13⟩ ⟨seqC ⟨r33_13⟩ retC⟩ ⟨seqC ⟨r33_14⟩ ⟨condC ⟨fun _ tm => tg tm 16⟩ ⟨seqC ⟨r33_15⟩ retC⟩ ⟨seqC ⟨r33_16⟩ ⟨condC ⟨fun _ tm => tg tm 18⟩ ⟨seqC ⟨r33_17⟩ retC⟩ ⟨seqC ⟨r33_18⟩ ⟨condC ⟨fun _ tm => tg tm 20⟩ ⟨seqC ⟨r33_19⟩ retC⟩ skipC⟩⟩⟩⟩⟩⟩⟩⟩⟩⟩⟩⟩⟩⟩⟩⟩ ⟨seqC ⟨r33_20⟩ retC⟩⟩⟩
noncomputable def q33 : Box (T Value → H → Option (List Value)) := ⟨fun tm h => some [tg tm 2]⟩

/-! 34 cloakroom/order.keyed -/
noncomputable def r34_0 : CodeT := fun call _ tm ds h K =>
  kA (some (.rw (Value.cells (tg tm 0)).toList (some 26), ptrTo h.next)) ds h (fun v0 ds h =>
  K .norm (T.set (T.set tm 2 v0) 4 (.bool false)) ds h)
noncomputable def r34_1 : CodeT := fun call _ tm ds h K =>
  K .norm (T.set (T.set tm 5 (.int .i64 (1))) 6 (.int .i64 (1))) ds h
noncomputable def r34_2 : CodeT := fun call _ tm ds h K =>
  kO (binV Tryd.prog .and 3 true (tg tm 1) (.int .i64 (1))) ds h (fun v1 ds h =>
  kO (binV Tryd.prog .neq 3 true v1 (.int .i64 (0))) ds h (fun v2 ds h =>
  K .norm (T.set tm 9 v2) ds h))
noncomputable def r34_3 : CodeT := fun call _ tm ds h K =>
  K .norm (T.set tm 6 (.int .i64 (8))) ds h
noncomputable def r34_4 : CodeT := fun call _ tm ds h K =>
  kO (binV Tryd.prog .and 3 true (tg tm 1) (.int .i64 (64))) ds h (fun v1 ds h =>
  kO (binV Tryd.prog .neq 3 true v1 (.int .i64 (0))) ds h (fun v2 ds h =>
  K .norm (T.set tm 13 v2) ds h))
noncomputable def r34_5 : CodeT := fun call _ tm ds h K =>
  K .norm (T.set (T.set tm 5 (.int .i64 (0))) 6 (.int .i64 (0))) ds h
noncomputable def r34_6 : CodeT := fun call _ tm ds h K => (⟨opStep ⟨fun call env tm ds h K => kO (fieldPtr 2 (tg tm 2)) ds h K⟩ ⟨fun v tm => tm⟩ ⟨fun env tm => true⟩
  ⟨opStep ⟨fun call env tm ds h K => kO (loadOne h (nthD 0 env)) ds h K⟩ ⟨fun v tm => tm⟩ ⟨fun env tm => true⟩
  ⟨opStep ⟨fun call env tm ds h K => kO (lenSl (nthD 0 env)) ds h K⟩ ⟨fun v tm => tm⟩ ⟨fun env tm => true⟩
  ⟨opStep ⟨fun call env tm ds h K => kO (some (tg tm 5)) ds h K⟩ ⟨fun v tm => tm⟩ ⟨fun env tm => true⟩
  ⟨opStep ⟨fun call env tm ds h K => kO (binV Tryd.prog .lss 3 false (nthD 1 env) (nthD 0 env)) ds h K⟩ ⟨fun v tm => tm⟩ ⟨fun env tm => true⟩
  ⟨opStep ⟨fun call env tm ds h K => kO (some (nthD 0 env)) ds h K⟩ ⟨fun v tm => tm⟩ ⟨fun env tm => true⟩
  ⟨opStep ⟨fun call env tm ds h K => kO (fieldPtr 2 (tg tm 2)) ds h K⟩ ⟨fun v tm => tm⟩ ⟨fun env tm => isB false (nthD 0 env)⟩
  ⟨opStep ⟨fun call env tm ds h K => kO (loadOne h (nthD 0 env)) ds h K⟩ ⟨fun v tm => tm⟩ ⟨fun env tm => isB false (nthD 1 env)⟩
  ⟨opStep ⟨fun call env tm ds h K => kO (lenSl (nthD 0 env)) ds h K⟩ ⟨fun v tm => tm⟩ ⟨fun env tm => isB false (nthD 2 env)⟩
  ⟨opStep ⟨fun call env tm ds h K => kO (some (tg tm 6)) ds h K⟩ ⟨fun v tm => tm⟩ ⟨fun env tm => isB false (nthD 3 env)⟩
  ⟨opStep ⟨fun call env tm ds h K => kO (binV Tryd.prog .gtr 3 false (nthD 1 env) (nthD 0 env)) ds h K⟩ ⟨fun v tm => tm⟩ ⟨fun env tm => isB false (nthD 4 env)⟩
  ⟨opStep ⟨fun call env tm ds h K => kO (pickV (nthD 5 env) (.bool true) (nthD 0 env)) ds h K⟩ ⟨fun v tm => (T.set tm 28 v)⟩ ⟨fun env tm => true⟩
  ⟨fun _ _ tm ds h K => K .norm tm ds h⟩⟩⟩⟩⟩⟩⟩⟩⟩⟩⟩⟩⟩ : Box OpsT).f call [] tm ds h K
noncomputable def r34_7 : CodeT := fun call _ tm ds h K =>
  K .norm (T.set tm 4 (.bool false)) ds h
noncomputable def r34_8 : CodeT := fun call _ tm ds h K =>
  kO (fieldPtr 2 (tg tm 2)) ds h (fun v0 ds h =>
  kO (loadOne h v0) ds h (fun v1 ds h =>
  kO (lenSl v1) ds h (fun v2 ds h =>
  K .norm (T.set (T.set (T.set tm 30 v1) 31 v2) 32 (.int .i64 (0))) ds h)))
noncomputable def r34_9 : CodeT := fun call _ tm ds h K =>
  kO (binV Tryd.prog .lss 3 false (tg tm 32) (tg tm 31)) ds h (fun v0 ds h =>
  K .norm (T.set tm 33 v0) ds h)
noncomputable def r34_10 : CodeT := fun call _ tm ds h K =>
  kO (indexSl 1 (tg tm 30) (tg tm 32)) ds h (fun v1 ds h =>
  kO (loadOne h v1) ds h (fun v2 ds h =>
  K .norm (T.set (T.set tm 7 (tg tm 32)) 8 v2) ds h))
noncomputable def r34_11 : CodeT := fun call _ tm ds h K => (⟨opStep ⟨fun call env tm ds h K => kO (some (tg tm 8)) ds h K⟩ ⟨fun v tm => tm⟩ ⟨fun env tm => true⟩
  ⟨opStep ⟨fun call env tm ds h K => kO (lenStr (nthD 0 env)) ds h K⟩ ⟨fun v tm => tm⟩ ⟨fun env tm => true⟩
  ⟨opStep ⟨fun call env tm ds h K => kO (binV Tryd.prog .lss 3 true (nthD 0 env) (.int .i64 (1))) ds h K⟩ ⟨fun v tm => tm⟩ ⟨fun env tm => true⟩
  ⟨opStep ⟨fun call env tm ds h K => kO (some (nthD 0 env)) ds h K⟩ ⟨fun v tm => tm⟩ ⟨fun env tm => true⟩
  ⟨opStep ⟨fun call env tm ds h K => kO (some (tg tm 8)) ds h K⟩ ⟨fun v tm => tm⟩ ⟨fun env tm => isB false (nthD 0 env)⟩
  ⟨opStep ⟨fun call env tm ds h K => kO (lenStr (nthD 0 env)) ds h K⟩ ⟨fun v tm => tm⟩ ⟨fun env tm => isB false (nthD 1 env)⟩
  ⟨opStep ⟨fun call env tm ds h K => kO (binV Tryd.prog .gtr 3 true (nthD 0 env) (.int .i64 (32))) ds h K⟩ ⟨fun v tm => tm⟩ ⟨fun env tm => isB false (nthD 2 env)⟩
  ⟨opStep ⟨fun call env tm ds h K => kO (pickV (nthD 3 env) (.bool true) (nthD 0 env)) ds h K⟩ ⟨fun v tm => tm⟩ ⟨fun env tm => true⟩
  ⟨opStep ⟨fun call env tm ds h K => kO (some (nthD 0 env)) ds h K⟩ ⟨fun v tm => tm⟩ ⟨fun env tm => true⟩
  ⟨opStep ⟨fun call env tm ds h K => kO (fieldPtr 2 (tg tm 2)) ds h K⟩ ⟨fun v tm => tm⟩ ⟨fun env tm => isB false (nthD 0 env)⟩
  ⟨opStep ⟨fun call env tm ds h K => kO (loadOne h (nthD 0 env)) ds h K⟩ ⟨fun v tm => tm⟩ ⟨fun env tm => isB false (nthD 1 env)⟩
  ⟨opStep ⟨fun call env tm ds h K => kO (some (tg tm 7)) ds h K⟩ ⟨fun v tm => tm⟩ ⟨fun env tm => isB false (nthD 2 env)⟩
  ⟨opStep ⟨fun call env tm ds h K => kO (sliceSl 1 (nthD 1 env) none (some (nthD 0 env)) none) ds h K⟩ ⟨fun v tm => tm⟩ ⟨fun env tm => isB false (nthD 3 env)⟩
  ⟨opStep ⟨fun call env tm ds h K => kO (some (tg tm 8)) ds h K⟩ ⟨fun v tm => tm⟩ ⟨fun env tm => isB false (nthD 4 env)⟩
  ⟨opStep ⟨fun call env tm ds h K => call 40 [(nthD 1 env), (nthD 0 env)] h (fun v h => (K) v ds h)⟩ ⟨fun v tm => tm⟩ ⟨fun env tm => isB false (nthD 5 env)⟩
  ⟨opStep ⟨fun call env tm ds h K => kO (pickV (nthD 6 env) (.bool true) (nthD 0 env)) ds h K⟩ ⟨fun v tm => (T.set tm 52 v)⟩ ⟨fun env tm => true⟩
  ⟨fun _ _ tm ds h K => K .norm tm ds h⟩⟩⟩⟩⟩⟩⟩⟩⟩⟩⟩⟩⟩⟩⟩⟩⟩ : Box OpsT).f call [] tm ds h K
noncomputable def r34_12 : CodeT := fun call _ tm ds h K =>
  K .norm (T.set tm 4 (.bool false)) ds h
noncomputable def r34_13 : CodeT := fun call _ tm ds h K =>
  kO (binV Tryd.prog .add 3 true (tg tm 32) (.int .i64 (1))) ds h (fun v0 ds h =>
  K .norm (T.set tm 32 v0) ds h)
noncomputable def l34_14 : Box CodeT := ⟨seqC ⟨r34_9⟩ ⟨seqC ⟨condC ⟨fun _ tm => tg tm 33⟩ skipC (exitC 1)⟩ ⟨seqC ⟨blockC 2 ⟨seqC ⟨r34_10⟩ ⟨seqC ⟨r34_11⟩ ⟨condC ⟨fun _ tm => tg tm 52⟩ ⟨seqC ⟨r34_12⟩ retC⟩ skipC⟩⟩⟩⟩ ⟨r34_13⟩⟩⟩⟩
noncomputable def r34_14 : CodeT := fun call _ tm ds h K =>
  K .norm (T.set tm 4 (.bool true)) ds h
noncomputable def c34 : Box CodeT := ⟨seqC ⟨r34_0⟩ ⟨seqC ⟨r34_1⟩ ⟨seqC ⟨blockC 0 ⟨seqC ⟨r34_2⟩ ⟨condC ⟨fun _ tm => tg tm 9⟩ ⟨r34_3⟩ ⟨seqC ⟨r34_4⟩ ⟨condC ⟨fun _ tm => tg tm 13⟩ ⟨r34_5⟩ skipC⟩⟩⟩⟩⟩ ⟨seqC ⟨seqC ⟨r34_6⟩ ⟨condC ⟨fun _ tm => tg tm 28⟩ ⟨seqC ⟨r34_7⟩ retC⟩ skipC⟩⟩ ⟨seqC ⟨seqC ⟨r34_8⟩ ⟨blockC 1 (loopB l34_14)⟩⟩ ⟨seqC ⟨r34_14⟩ retC⟩⟩⟩⟩⟩⟩
noncomputable def q34 : Box (T Value → H → Option (List Value)) := ⟨fun tm h => some [tg tm 4]⟩

/-! 35 strings.indexFunc -/
noncomputable def r35_0 : CodeT := fun call _ tm ds h K =>
  K .norm (T.set tm 6 (.int .i64 (0))) ds h
noncomputable def r35_1 : CodeT := fun call _ tm ds h K =>
  kH (rangeStr h (tg tm 0)) ds (fun v1 ds h =>
  K .norm (T.set tm 10 v1) ds h)
noncomputable def r35_2 : CodeT := fun call _ tm ds h K =>
  nextV true h (tg tm 10) (fun v h => (fun v0 ds h =>
  kO (tupNth 0 v0) ds h (fun v1 ds h =>
  K .norm (T.set (T.set tm 11 v0) 12 v1) ds h)) v ds h)
noncomputable def r35_3 : CodeT := fun call _ tm ds h K =>
  kO (tupNth 1 (tg tm 11)) ds h (fun v0 ds h =>
  kO (tupNth 2 (tg tm 11)) ds h (fun v1 ds h =>
  K .norm (T.set (T.set tm 7 v0) 8 v1) ds h))
noncomputable def r35_4 : CodeT := fun call _ tm ds h K =>
  goCall call (funcArgs (tg tm 1) [(tg tm 8)]) ds h (fun v2 ds h =>
  kO (binV Tryd.prog .eql 4 false v2 (tg tm 2)) ds h (fun v4 ds h =>
  K .norm (T.set tm 19 v4) ds h))
noncomputable def r35_5 : CodeT := fun call _ tm ds h K =>
  K .norm (T.set tm 6 (tg tm 7)) ds h
noncomputable def l35_6 : Box CodeT := ⟨seqC ⟨r35_2⟩ ⟨seqC ⟨condC ⟨fun _ tm => tg tm 12⟩ skipC (exitC 0)⟩ ⟨blockC 1 ⟨seqC ⟨r35_3⟩ ⟨seqC ⟨r35_4⟩ ⟨condC ⟨fun _ tm => tg tm 19⟩ ⟨seqC ⟨r35_5⟩ retC⟩ skipC⟩⟩⟩⟩⟩⟩
noncomputable def r35_6 : CodeT := fun call _ tm ds h K =>
  K .norm (T.set tm 6 (.int .i64 (-1))) ds h
noncomputable def c35 : Box CodeT := ⟨seqC ⟨r35_0⟩ ⟨seqC ⟨seqC ⟨r35_1⟩ ⟨blockC 0 (loopB l35_6)⟩⟩ ⟨seqC ⟨r35_6⟩ retC⟩⟩⟩
noncomputable def q35 : Box (T Value → H → Option (List Value)) := ⟨fun tm h => some [tg tm 6]⟩

/-! 36 (*strings.Builder).copyCheck -/
noncomputable def r36_0 : CodeT := fun call _ tm ds h K =>
  kO (nilChk (tg tm 0)) ds h (fun v1 ds h =>
  kO (fieldPtr 0 v1) ds h (fun v2 ds h =>
  kO (loadOne h v2) ds h (fun v3 ds h =>
  kO (binV Tryd.prog .eql 53 true v3 (.pointer none)) ds h (fun v4 ds h =>
  K .norm (T.set tm 6 v4) ds h))))
noncomputable def r36_1 : CodeT := fun call _ tm ds h K =>
  kO (ptrUns h (tg tm 0)) ds h (fun v2 ds h =>
  call 41 [v2] h (fun v h => (fun v3 ds h =>
  kO (unsPtr 55 2 h v3) ds h (fun v4 ds h =>
  kO (nilChk (tg tm 0)) ds h (fun v5 ds h =>
  kO (fieldPtr 0 v5) ds h (fun v6 ds h =>
  kH (withV undef (storeV 1 h v6 v4)) ds (fun v7 ds h =>
  K .norm tm ds h))))) v ds h))
noncomputable def r36_2 : CodeT := fun call _ tm ds h K =>
  kO (nilChk (tg tm 0)) ds h (fun v1 ds h =>
  kO (fieldPtr 0 v1) ds h (fun v2 ds h =>
  kO (loadOne h v2) ds h (fun v3 ds h =>
  kO (binV Tryd.prog .neq 53 false v3 (tg tm 0)) ds h (fun v5 ds h =>
  K .norm (T.set tm 19 v5) ds h))))
noncomputable def c36 : Box CodeT := ⟨seqC ⟨r36_0⟩ ⟨condC ⟨fun _ tm => tg tm 6⟩ ⟨r36_1⟩ ⟨seqC ⟨r36_2⟩ ⟨condC ⟨fun _ tm => tg tm 19⟩ stop skipC⟩⟩⟩⟩
noncomputable def q36 : Box (T Value → H → Option (List Value)) := ⟨fun tm h => some []⟩

/-! 37 (*strings.Builder).grow -/
noncomputable def r37_0 : CodeT := fun call _ tm ds h0 K =>
  (fun (b0 : Nat) (h : H) =>
  kO (nilChk (tg tm 0)) ds h (fun v1 ds h =>
  kO (fieldPtr 1 v1) ds h (fun v2 ds h =>
  kO (loadOne h v2) ds h (fun v3 ds h =>
  kO (capV v3) ds h (fun v4 ds h =>
  kO (binV Tryd.prog .mul 3 true (.int .i64 (2)) v4) ds h (fun v5 ds h =>
  kO (binV Tryd.prog .add 3 false v5 (tg tm 1)) ds h (fun v7 ds h =>
  kO (nilChk (tg tm 0)) ds h (fun v10 ds h =>
  kO (fieldPtr 1 v10) ds h (fun v11 ds h =>
  kO (loadOne h v11) ds h (fun v12 ds h =>
  kO (lenSl v12) ds h (fun v13 ds h =>
  call 42 [v7] h (fun v h => (fun v8 ds h =>
  andB ((hO (loadOne h v11) v12 true) && true) (kO (sliceSl 1 v8 none (some v13) none) ds h (fun v14 ds h =>
  K .norm (T.set tm 4 v14) ds h))) v ds h)))))))))))) h0.next ⟨h0.objs, h0.next + 16⟩
noncomputable def r37_1 : CodeT := fun call _ tm ds h K =>
  kO (nilChk (tg tm 0)) ds h (fun v2 ds h =>
  kO (fieldPtr 1 v2) ds h (fun v3 ds h =>
  kO (loadOne h v3) ds h (fun v4 ds h =>
  kH (copyV 1 h (tg tm 4) v4) ds (fun v5 ds h =>
  K .norm tm ds h))))
noncomputable def r37_2 : CodeT := fun call _ tm ds h K =>
  kO (nilChk (tg tm 0)) ds h (fun v2 ds h =>
  kO (fieldPtr 1 v2) ds h (fun v3 ds h =>
  kH (withV undef (storeV 1 h v3 (tg tm 4))) ds (fun v4 ds h =>
  K .norm tm ds h)))
noncomputable def c37 : Box CodeT := ⟨seqC ⟨r37_0⟩ ⟨seqC ⟨r37_1⟩ ⟨r37_2⟩⟩⟩
noncomputable def q37 : Box (T Value → H → Option (List Value)) := ⟨fun tm h => some []⟩

/-! 38 internal/strconv.FormatUint -/
noncomputable def r38_0 : CodeT := fun call _ tm ds h K =>
  K .norm (T.set tm 4 (.string (strB []))) ds h
noncomputable def r38_1 : CodeT := fun call _ tm ds h K =>
  kO (binV Tryd.prog .eql 3 true (tg tm 1) (.int .i64 (10))) ds h (fun v1 ds h =>
  K .norm (T.set tm 10 v1) ds h)
noncomputable def r38_2 : CodeT := fun call _ tm ds h K =>
  kO (binV Tryd.prog .lss 24 true (tg tm 0) (.int .u64 (100))) ds h (fun v1 ds h =>
  K .norm (T.set tm 12 v1) ds h)
noncomputable def r38_3 : CodeT := fun call _ tm ds h K =>
  kO (toInt .i64 (tg tm 0)) ds h (fun v1 ds h =>
  call 43 [v1] h (fun v h => (fun v2 ds h =>
  K .norm (T.set tm 4 v2) ds h) v ds h))
noncomputable def r38_4 : CodeT := fun call _ tm ds h K =>
  kA (some (.rw [(.int .u8 (0)), (.int .u8 (0)), (.int .u8 (0)), (.int .u8 (0)), (.int .u8 (0)), (.int .u8 (0)), (.int .u8 (0)), (.int .u8 (0)), (.int .u8 (0)), (.int .u8 (0)), (.int .u8 (0)), (.int .u8 (0)), (.int .u8 (0)), (.int .u8 (0)), (.int .u8 (0)), (.int .u8 (0)), (.int .u8 (0)), (.int .u8 (0)), (.int .u8 (0)), (.int .u8 (0)), (.int .u8 (0)), (.int .u8 (0)), (.int .u8 (0)), (.int .u8 (0))] (some 73), ptrTo h.next)) ds h (fun v0 ds h =>
  K .norm (T.set tm 5 v0) ds h)
noncomputable def r38_5 : CodeT := fun call _ tm ds h K =>
  call 44 [(tg tm 0)] h (fun v h => (fun v1 ds h =>
  K .norm (T.set tm 6 v1) ds h) v ds h)
noncomputable def r38_6 : CodeT := fun call _ tm ds h K =>
  kO (sliceArr 1 24 (tg tm 5) none (some (tg tm 6)) none) ds h (fun v1 ds h =>
  call 45 [v1, (tg tm 0)] h (fun v h => (fun v3 ds h =>
  K .norm tm ds h) v ds h))
noncomputable def r38_7 : CodeT := fun call _ tm ds h K =>
  kO (sliceArr 1 24 (tg tm 5) none (some (tg tm 6)) none) ds h (fun v1 ds h =>
  kO (bytesStr h v1) ds h (fun v2 ds h =>
  K .norm (T.set tm 4 v2) ds h))
noncomputable def r38_8 : CodeT := fun call _ tm ds h K =>
  call 46 [(.slice none 0 0), (tg tm 0), (tg tm 1), (.bool false), (.bool false)] h (fun v h => (fun v2 ds h =>
  kO (tupNth 0 v2) ds h (fun v4 ds h =>
  kO (tupNth 1 v2) ds h (fun v5 ds h =>
  K .norm (T.set tm 8 v5) ds h))) v ds h)
noncomputable def r38_9 : CodeT := fun call _ tm ds h K =>
  K .norm (T.set tm 4 (tg tm 8)) ds h
noncomputable def c38 : Box CodeT := ⟨seqC ⟨r38_0⟩ ⟨seqC ⟨seqC ⟨r38_1⟩ ⟨condC ⟨fun _ tm => tg tm 10⟩ ⟨seqC ⟨seqC ⟨r38_2⟩ ⟨condC ⟨fun _ tm => tg tm 12⟩ ⟨seqC ⟨r38_3⟩ retC⟩ skipC⟩⟩ ⟨seqC ⟨r38_4⟩ ⟨seqC ⟨r38_5⟩ ⟨seqC ⟨r38_6⟩ ⟨seqC ⟨r38_7⟩ retC⟩⟩⟩⟩⟩ skipC⟩⟩ ⟨seqC ⟨r38_8⟩ ⟨seqC ⟨r38_9⟩ retC⟩⟩⟩⟩
noncomputable def q38 : Box (T Value → H → Option (List Value)) := ⟨fun tm h => some [tg tm 4]⟩

/-! 39 cloakroom/cloakroomref10.keys -/
noncomputable def r39_0 : CodeT := fun call _ tm ds h K =>
  kA (some (.rw (Value.cells (tg tm 0)).toList (some 26), ptrTo h.next)) ds h (fun v0 ds h =>
  K .norm (T.set (T.set tm 1 v0) 2 (.bool false)) ds h)
noncomputable def r39_1 : CodeT := fun call _ tm ds h K =>
  kO (fieldPtr 2 (tg tm 1)) ds h (fun v0 ds h =>
  kO (loadOne h v0) ds h (fun v1 ds h =>
  kO (lenSl v1) ds h (fun v2 ds h =>
  K .norm (T.set tm 3 v2) ds h)))
noncomputable def r39_2 : CodeT := fun call _ tm ds h K =>
  kO (fieldPtr 0 (tg tm 1)) ds h (fun v0 ds h =>
  kO (loadOne h v0) ds h (fun v1 ds h =>
  kO (binV Tryd.prog .eql 5 true v1 (.int .u8 (11))) ds h (fun v2 ds h =>
  K .norm (T.set tm 10 v2) ds h)))
noncomputable def r39_3 : CodeT := fun call _ tm ds h K =>
  kO (binV Tryd.prog .eql 3 true (tg tm 3) (.int .i64 (0))) ds h (fun v1 ds h =>
  K .norm (T.set tm 2 v1) ds h)
noncomputable def r39_4 : CodeT := fun call _ tm ds h K => (⟨opStep ⟨fun call env tm ds h K => kO (some (tg tm 3)) ds h K⟩ ⟨fun v tm => tm⟩ ⟨fun env tm => true⟩
  ⟨opStep ⟨fun call env tm ds h K => kO (binV Tryd.prog .lss 3 true (nthD 0 env) (.int .i64 (1))) ds h K⟩ ⟨fun v tm => tm⟩ ⟨fun env tm => true⟩
  ⟨opStep ⟨fun call env tm ds h K => kO (some (nthD 0 env)) ds h K⟩ ⟨fun v tm => tm⟩ ⟨fun env tm => true⟩
  ⟨opStep ⟨fun call env tm ds h K => kO (some (tg tm 3)) ds h K⟩ ⟨fun v tm => tm⟩ ⟨fun env tm => isB false (nthD 0 env)⟩
  ⟨opStep ⟨fun call env tm ds h K => kO (binV Tryd.prog .gtr 3 true (nthD 0 env) (.int .i64 (8))) ds h K⟩ ⟨fun v tm => tm⟩ ⟨fun env tm => isB false (nthD 1 env)⟩
  ⟨opStep ⟨fun call env tm ds h K => kO (pickV (nthD 2 env) (.bool true) (nthD 0 env)) ds h K⟩ ⟨fun v tm => tm⟩ ⟨fun env tm => true⟩
  ⟨opStep ⟨fun call env tm ds h K => kO (some (nthD 0 env)) ds h K⟩ ⟨fun v tm => tm⟩ ⟨fun env tm => true⟩
  ⟨opStep ⟨fun call env tm ds h K => kO (some (tg tm 3)) ds h K⟩ ⟨fun v tm => tm⟩ ⟨fun env tm => isB false (nthD 0 env)⟩
  ⟨opStep ⟨fun call env tm ds h K => kO (binV Tryd.prog .gtr 3 true (nthD 0 env) (.int .i64 (1))) ds h K⟩ ⟨fun v tm => tm⟩ ⟨fun env tm => isB false (nthD 1 env)⟩
  ⟨opStep ⟨fun call env tm ds h K => kO (some (nthD 0 env)) ds h K⟩ ⟨fun v tm => tm⟩ ⟨fun env tm => isB false (nthD 2 env)⟩
  ⟨opStep ⟨fun call env tm ds h K => kO (fieldPtr 0 (tg tm 1)) ds h K⟩ ⟨fun v tm => tm⟩ ⟨fun env tm => isB true (nthD 0 env)⟩
  ⟨opStep ⟨fun call env tm ds h K => kO (loadOne h (nthD 0 env)) ds h K⟩ ⟨fun v tm => tm⟩ ⟨fun env tm => isB true (nthD 1 env)⟩
  ⟨opStep ⟨fun call env tm ds h K => kO (binV Tryd.prog .neq 5 true (nthD 0 env) (.int .u8 (1))) ds h K⟩ ⟨fun v tm => tm⟩ ⟨fun env tm => isB true (nthD 2 env)⟩
  ⟨opStep ⟨fun call env tm ds h K => kO (pickV (nthD 3 env) (nthD 0 env) (.bool false)) ds h K⟩ ⟨fun v tm => tm⟩ ⟨fun env tm => isB false (nthD 6 env)⟩
  ⟨opStep ⟨fun call env tm ds h K => kO (some (nthD 0 env)) ds h K⟩ ⟨fun v tm => tm⟩ ⟨fun env tm => isB false (nthD 7 env)⟩
  ⟨opStep ⟨fun call env tm ds h K => kO (fieldPtr 0 (tg tm 1)) ds h K⟩ ⟨fun v tm => tm⟩ ⟨fun env tm => isB true (nthD 0 env)⟩
  ⟨opStep ⟨fun call env tm ds h K => kO (loadOne h (nthD 0 env)) ds h K⟩ ⟨fun v tm => tm⟩ ⟨fun env tm => isB true (nthD 1 env)⟩
  ⟨opStep ⟨fun call env tm ds h K => kO (binV Tryd.prog .neq 5 true (nthD 0 env) (.int .u8 (10))) ds h K⟩ ⟨fun v tm => tm⟩ ⟨fun env tm => isB true (nthD 2 env)⟩
  ⟨opStep ⟨fun call env tm ds h K => kO (pickV (nthD 3 env) (nthD 0 env) (.bool false)) ds h K⟩ ⟨fun v tm => tm⟩ ⟨fun env tm => isB false (nthD 11 env)⟩
  ⟨opStep ⟨fun call env tm ds h K => kO (pickV (nthD 12 env) (.bool true) (nthD 0 env)) ds h K⟩ ⟨fun v tm => (T.set tm 32 v)⟩ ⟨fun env tm => true⟩
  ⟨fun _ _ tm ds h K => K .norm tm ds h⟩⟩⟩⟩⟩⟩⟩⟩⟩⟩⟩⟩⟩⟩⟩⟩⟩⟩⟩⟩⟩ : Box OpsT).f call [] tm ds h K
noncomputable def r39_5 : CodeT := fun call _ tm ds h K =>
  K .norm (T.set tm 2 (.bool false)) ds h
noncomputable def r39_6 : CodeT := fun call _ tm ds h K =>
  K .norm (T.set tm 4 (.int .i64 (0))) ds h
noncomputable def r39_7 : CodeT := fun call _ tm ds h K =>
  kO (binV Tryd.prog .lss 3 false (tg tm 4) (tg tm 3)) ds h (fun v2 ds h =>
  K .norm (T.set tm 35 v2) ds h)
noncomputable def r39_9 : CodeT := fun call _ tm ds h K => (⟨opStep ⟨fun call env tm ds h K => kO (fieldPtr 2 (tg tm 1)) ds h K⟩ ⟨fun v tm => tm⟩ ⟨fun env tm => true⟩
  ⟨opStep ⟨fun call env tm ds h K => kO (loadOne h (nthD 0 env)) ds h K⟩ ⟨fun v tm => tm⟩ ⟨fun env tm => true⟩
  ⟨opStep ⟨fun call env tm ds h K => kO (some (tg tm 4)) ds h K⟩ ⟨fun v tm => tm⟩ ⟨fun env tm => true⟩
  ⟨opStep ⟨fun call env tm ds h K => kO (indexSl 1 (nthD 1 env) (nthD 0 env)) ds h K⟩ ⟨fun v tm => tm⟩ ⟨fun env tm => true⟩
  ⟨opStep ⟨fun call env tm ds h K => kO (loadOne h (nthD 0 env)) ds h K⟩ ⟨fun v tm => tm⟩ ⟨fun env tm => true⟩
  ⟨opStep ⟨fun call env tm ds h K => kO (lenStr (nthD 0 env)) ds h K⟩ ⟨fun v tm => tm⟩ ⟨fun env tm => true⟩
  ⟨opStep ⟨fun call env tm ds h K => kO (binV Tryd.prog .lss 3 true (nthD 0 env) (.int .i64 (1))) ds h K⟩ ⟨fun v tm => tm⟩ ⟨fun env tm => true⟩
  ⟨opStep ⟨fun call env tm ds h K => kO (some (nthD 0 env)) ds h K⟩ ⟨fun v tm => tm⟩ ⟨fun env tm => true⟩
  ⟨opStep ⟨fun call env tm ds h K => kO (fieldPtr 2 (tg tm 1)) ds h K⟩ ⟨fun v tm => tm⟩ ⟨fun env tm => isB false (nthD 0 env)⟩
  ⟨opStep ⟨fun call env tm ds h K => kO (loadOne h (nthD 0 env)) ds h K⟩ ⟨fun v tm => tm⟩ ⟨fun env tm => isB false (nthD 1 env)⟩
  ⟨opStep ⟨fun call env tm ds h K => kO (some (tg tm 4)) ds h K⟩ ⟨fun v tm => tm⟩ ⟨fun env tm => isB false (nthD 2 env)⟩
  ⟨opStep ⟨fun call env tm ds h K => kO (indexSl 1 (nthD 1 env) (nthD 0 env)) ds h K⟩ ⟨fun v tm => tm⟩ ⟨fun env tm => isB false (nthD 3 env)⟩
  ⟨opStep ⟨fun call env tm ds h K => kO (loadOne h (nthD 0 env)) ds h K⟩ ⟨fun v tm => tm⟩ ⟨fun env tm => isB false (nthD 4 env)⟩
  ⟨opStep ⟨fun call env tm ds h K => kO (lenStr (nthD 0 env)) ds h K⟩ ⟨fun v tm => tm⟩ ⟨fun env tm => isB false (nthD 5 env)⟩
  ⟨opStep ⟨fun call env tm ds h K => kO (binV Tryd.prog .gtr 3 true (nthD 0 env) (.int .i64 (32))) ds h K⟩ ⟨fun v tm => tm⟩ ⟨fun env tm => isB false (nthD 6 env)⟩
  ⟨opStep ⟨fun call env tm ds h K => kO (pickV (nthD 7 env) (.bool true) (nthD 0 env)) ds h K⟩ ⟨fun v tm => (T.set tm 53 v)⟩ ⟨fun env tm => true⟩
  ⟨fun _ _ tm ds h K => K .norm tm ds h⟩⟩⟩⟩⟩⟩⟩⟩⟩⟩⟩⟩⟩⟩⟩⟩⟩ : Box OpsT).f call [] tm ds h K
noncomputable def r39_10 : CodeT := fun call _ tm ds h K =>
  K .norm (T.set tm 2 (.bool false)) ds h
noncomputable def r39_8 : CodeT := fun call _ tm ds h K =>
  kO (binV Tryd.prog .add 3 true (tg tm 4) (.int .i64 (1))) ds h (fun v1 ds h =>
  K .norm (T.set tm 4 v1) ds h)
noncomputable def l39_11 : Box CodeT := ⟨seqC ⟨seqC ⟨r39_7⟩ ⟨condC ⟨fun _ tm => tg tm 35⟩ skipC (exitC 0)⟩⟩ ⟨seqC ⟨blockC 1 ⟨seqC ⟨r39_9⟩ ⟨condC ⟨fun _ tm => tg tm 53⟩ ⟨seqC ⟨r39_10⟩ retC⟩ skipC⟩⟩⟩ ⟨r39_8⟩⟩⟩
noncomputable def r39_11 : CodeT := fun call _ tm ds h K =>
  kO (fieldPtr 2 (tg tm 1)) ds h (fun v0 ds h =>
  kO (loadOne h v0) ds h (fun v1 ds h =>
  call 47 [v1] h (fun v h => (fun v2 ds h =>
  kO (unV .not v2) ds h (fun v3 ds h =>
  K .norm (T.set tm 2 v3) ds h)) v ds h)))
noncomputable def c39 : Box CodeT := ⟨seqC ⟨r39_0⟩ ⟨seqC ⟨r39_1⟩ ⟨seqC ⟨seqC ⟨r39_2⟩ ⟨condC ⟨fun _ tm => tg tm 10⟩ ⟨seqC ⟨r39_3⟩ retC⟩ skipC⟩⟩ ⟨seqC ⟨seqC ⟨r39_4⟩ ⟨condC ⟨fun _ tm => tg tm 32⟩ ⟨seqC ⟨r39_5⟩ retC⟩ skipC⟩⟩ ⟨seqC ⟨seqC ⟨r39_6⟩ ⟨blockC 0 (loopB l39_11)⟩⟩ ⟨seqC ⟨r39_11⟩ retC⟩⟩⟩⟩⟩⟩
noncomputable def q39 : Box (T Value → H → Option (List Value)) := ⟨fun tm h => some [tg tm 2]⟩

/-! 40 slices.Contains[[]string,string] -/
noncomputable def r40_0 : CodeT := fun call _ tm ds h K =>
  K .norm (T.set tm 4 (.bool false)) ds h
noncomputable def r40_1 : CodeT := fun call _ tm ds h K =>
  call 48 [(tg tm 0), (tg tm 1)] h (fun v h => (fun v2 ds h =>
  kO (binV Tryd.prog .geq 3 true v2 (.int .i64 (0))) ds h (fun v3 ds h =>
  K .norm (T.set tm 4 v3) ds h)) v ds h)
noncomputable def c40 : Box CodeT := ⟨seqC ⟨r40_0⟩ ⟨seqC ⟨r40_1⟩ retC⟩⟩
noncomputable def q40 : Box (T Value → H → Option (List Value)) := ⟨fun tm h => some [tg tm 4]⟩

/-! 43 internal/strconv.small -/
noncomputable def r43_0 : CodeT := fun call _ tm ds h K =>
  K .norm (T.set tm 2 (.string (strB []))) ds h
noncomputable def r43_1 : CodeT := fun call _ tm ds h K =>
  kO (binV Tryd.prog .lss 3 true (tg tm 0) (.int .i64 (10))) ds h (fun v1 ds h =>
  K .norm (T.set tm 4 v1) ds h)
noncomputable def r43_2 : CodeT := fun call _ tm ds h K =>
  kO (binV Tryd.prog .add 3 true (tg tm 0) (.int .i64 (1))) ds h (fun v2 ds h =>
  kO (sliceStr (.string (strB [48, 49, 50, 51, 52, 53, 54, 55, 56, 57, 97, 98, 99, 100, 101, 102, 103, 104, 105, 106, 107, 108, 109, 110, 111, 112, 113, 114, 115, 116, 117, 118, 119, 120, 121, 122])) (some (tg tm 0)) (some v2) none) ds h (fun v3 ds h =>
  K .norm (T.set tm 2 v3) ds h))
noncomputable def r43_3 : CodeT := fun call _ tm ds h K =>
  kO (binV Tryd.prog .mul 3 true (tg tm 0) (.int .i64 (2))) ds h (fun v1 ds h =>
  kO (binV Tryd.prog .mul 3 true (tg tm 0) (.int .i64 (2))) ds h (fun v3 ds h =>
  kO (binV Tryd.prog .add 3 true v3 (.int .i64 (2))) ds h (fun v4 ds h =>
  kO (sliceStr SM (some v1) (some v4) none) ds h (fun v5 ds h =>
  K .norm (T.set tm 2 v5) ds h))))
noncomputable def c43 : Box CodeT := ⟨seqC ⟨r43_0⟩ ⟨seqC ⟨seqC ⟨r43_1⟩ ⟨condC ⟨fun _ tm => tg tm 4⟩ ⟨seqC ⟨r43_2⟩ retC⟩ skipC⟩⟩ ⟨seqC ⟨r43_3⟩ retC⟩⟩⟩
noncomputable def q43 : Box (T Value → H → Option (List Value)) := ⟨fun tm h => some [tg tm 2]⟩

/-! 44 internal/strconv.numDigits -/
noncomputable def r44_0 : CodeT := fun call _ tm ds h K =>
  K .norm (T.set tm 2 (.int .i64 (0))) ds h
noncomputable def r44_1 : CodeT := fun call _ tm ds h K =>
  call 50 [(tg tm 0)] h (fun v h => (fun v1 ds h =>
  call 49 [v1] h (fun v h => (fun v2 ds h =>
  K .norm (T.set tm 3 v2) ds h) v ds h)) v ds h)
noncomputable def r44_2 : CodeT := fun call _ tm ds h K =>
  kO (indexArr 1 20 (.pointer (some ⟨1, 0, none⟩)) (tg tm 3)) ds h (fun v3 ds h =>
  kO (loadOne h v3) ds h (fun v4 ds h =>
  kO (binV Tryd.prog .geq 24 false (tg tm 0) v4) ds h (fun v5 ds h =>
  call 51 [v5] h (fun v h => (fun v6 ds h =>
  kO (binV Tryd.prog .add 3 false (tg tm 3) v6) ds h (fun v7 ds h =>
  K .norm (T.set tm 2 v7) ds h)) v ds h))))
noncomputable def c44 : Box CodeT := ⟨seqC ⟨r44_0⟩ ⟨seqC ⟨r44_1⟩ ⟨seqC ⟨r44_2⟩ retC⟩⟩⟩
noncomputable def q44 : Box (T Value → H → Option (List Value)) := ⟨fun tm h => some [tg tm 2]⟩

/-! 45 internal/strconv.formatBase10 -/
noncomputable def r45_0 : CodeT := fun call _ tm ds h K =>
  kO (lenSl (tg tm 0)) ds h (fun v1 ds h =>
  K .norm (T.set tm 4 v1) ds h)
noncomputable def r45_1 : CodeT := fun call _ tm ds h K =>
  kO (binV Tryd.prog .geq 3 true (tg tm 4) (.int .i64 (8))) ds h (fun v1 ds h =>
  K .norm (T.set tm 20 v1) ds h)
noncomputable def r45_2 : CodeT := fun call _ tm ds h K =>
  kO (binV Tryd.prog .rem 24 true (tg tm 1) (.int .u64 (100000000))) ds h (fun v1 ds h =>
  kO (toInt .u32 v1) ds h (fun v2 ds h =>
  K .norm (T.set tm 5 v2) ds h))
noncomputable def r45_3 : CodeT := fun call _ tm ds h K =>
  kO (binV Tryd.prog .quo 24 true (tg tm 1) (.int .u64 (100000000))) ds h (fun v1 ds h =>
  K .norm (T.set tm 1 v1) ds h)
noncomputable def r45_4 : CodeT := fun call _ tm ds h K =>
  kO (binV Tryd.prog .quo 23 true (tg tm 5) (.int .u32 (10000))) ds h (fun v1 ds h =>
  kO (binV Tryd.prog .rem 23 true (tg tm 5) (.int .u32 (10000))) ds h (fun v3 ds h =>
  K .norm (T.set (T.set tm 6 v1) 7 v3) ds h))
noncomputable def r45_5 : CodeT := fun call _ tm ds h K =>
  kO (binV Tryd.prog .quo 23 true (tg tm 7) (.int .u32 (100))) ds h (fun v1 ds h =>
  kO (binV Tryd.prog .mul 23 true v1 (.int .u32 (2))) ds h (fun v2 ds h =>
  kO (binV Tryd.prog .rem 23 true (tg tm 7) (.int .u32 (100))) ds h (fun v4 ds h =>
  kO (binV Tryd.prog .mul 23 true v4 (.int .u32 (2))) ds h (fun v5 ds h =>
  K .norm (T.set (T.set tm 8 v2) 9 v5) ds h))))
noncomputable def r45_6 : CodeT := fun call _ tm ds h K =>
  kO (binV Tryd.prog .quo 23 true (tg tm 6) (.int .u32 (100))) ds h (fun v1 ds h =>
  kO (binV Tryd.prog .mul 23 true v1 (.int .u32 (2))) ds h (fun v2 ds h =>
  kO (binV Tryd.prog .rem 23 true (tg tm 6) (.int .u32 (100))) ds h (fun v4 ds h =>
  kO (binV Tryd.prog .mul 23 true v4 (.int .u32 (2))) ds h (fun v5 ds h =>
  K .norm (T.set (T.set tm 10 v2) 11 v5) ds h))))
noncomputable def r45_7 : CodeT := fun call _ tm ds h0 K =>
  (fun (b0 : Nat) (h : H) =>
  kO (binV Tryd.prog .sub 3 true (tg tm 4) (.int .i64 (1))) ds h (fun v2 ds h =>
  kO (binV Tryd.prog .sub 3 true (tg tm 4) (.int .i64 (2))) ds h (fun v5 ds h =>
  kO (binV Tryd.prog .add 23 true (tg tm 9) (.int .u32 (1))) ds h (fun v7 ds h =>
  kO (indexStr SM v7) ds h (fun v8 ds h =>
  kO (indexStr SM (tg tm 9)) ds h (fun v10 ds h =>
  kO (indexSl 1 (tg tm 0) v2) ds h (fun v11 ds h =>
  kH (withV undef (storeV 1 h v11 v8)) ds (fun v12 ds h =>
  kO (indexSl 1 (tg tm 0) v5) ds h (fun v13 ds h =>
  kH (withV undef (storeV 1 h v13 v10)) ds (fun v14 ds h =>
  K .norm tm ds h)))))))))) h0.next ⟨h0.objs, h0.next + 15⟩
noncomputable def r45_8 : CodeT := fun call _ tm ds h0 K =>
  (fun (b0 : Nat) (h : H) =>
  kO (binV Tryd.prog .sub 3 true (tg tm 4) (.int .i64 (3))) ds h (fun v2 ds h =>
  kO (binV Tryd.prog .sub 3 true (tg tm 4) (.int .i64 (4))) ds h (fun v5 ds h =>
  kO (binV Tryd.prog .add 23 true (tg tm 8) (.int .u32 (1))) ds h (fun v7 ds h =>
  kO (indexStr SM v7) ds h (fun v8 ds h =>
  kO (indexStr SM (tg tm 8)) ds h (fun v10 ds h =>
  kO (indexSl 1 (tg tm 0) v2) ds h (fun v11 ds h =>
  kH (withV undef (storeV 1 h v11 v8)) ds (fun v12 ds h =>
  kO (indexSl 1 (tg tm 0) v5) ds h (fun v13 ds h =>
  kH (withV undef (storeV 1 h v13 v10)) ds (fun v14 ds h =>
  K .norm tm ds h)))))))))) h0.next ⟨h0.objs, h0.next + 15⟩
noncomputable def r45_9 : CodeT := fun call _ tm ds h0 K =>
  (fun (b0 : Nat) (h : H) =>
  kO (binV Tryd.prog .sub 3 true (tg tm 4) (.int .i64 (5))) ds h (fun v2 ds h =>
  kO (binV Tryd.prog .sub 3 true (tg tm 4) (.int .i64 (6))) ds h (fun v5 ds h =>
  kO (binV Tryd.prog .add 23 true (tg tm 11) (.int .u32 (1))) ds h (fun v7 ds h =>
  kO (indexStr SM v7) ds h (fun v8 ds h =>
  kO (indexStr SM (tg tm 11)) ds h (fun v10 ds h =>
  kO (indexSl 1 (tg tm 0) v2) ds h (fun v11 ds h =>
  kH (withV undef (storeV 1 h v11 v8)) ds (fun v12 ds h =>
  kO (indexSl 1 (tg tm 0) v5) ds h (fun v13 ds h =>
  kH (withV undef (storeV 1 h v13 v10)) ds (fun v14 ds h =>
  K .norm tm ds h)))))))))) h0.next ⟨h0.objs, h0.next + 15⟩
noncomputable def r45_10 : CodeT := fun call _ tm ds h0 K =>
  (fun (b0 : Nat) (h : H) =>
  kO (binV Tryd.prog .sub 3 true (tg tm 4) (.int .i64 (7))) ds h (fun v2 ds h =>
  kO (binV Tryd.prog .sub 3 true (tg tm 4) (.int .i64 (8))) ds h (fun v5 ds h =>
  kO (binV Tryd.prog .add 23 true (tg tm 10) (.int .u32 (1))) ds h (fun v7 ds h =>
  kO (indexStr SM v7) ds h (fun v8 ds h =>
  kO (indexStr SM (tg tm 10)) ds h (fun v10 ds h =>
  kO (indexSl 1 (tg tm 0) v2) ds h (fun v11 ds h =>
  kH (withV undef (storeV 1 h v11 v8)) ds (fun v12 ds h =>
  kO (indexSl 1 (tg tm 0) v5) ds h (fun v13 ds h =>
  kH (withV undef (storeV 1 h v13 v10)) ds (fun v14 ds h =>
  K .norm tm ds h)))))))))) h0.next ⟨h0.objs, h0.next + 15⟩
noncomputable def r45_11 : CodeT := fun call _ tm ds h K =>
  kO (binV Tryd.prog .sub 3 true (tg tm 4) (.int .i64 (8))) ds h (fun v1 ds h =>
  K .norm (T.set tm 4 v1) ds h)
noncomputable def l45_12 : Box CodeT := ⟨seqC ⟨seqC ⟨r45_1⟩ ⟨condC ⟨fun _ tm => tg tm 20⟩ skipC (exitC 0)⟩⟩ ⟨blockC 1 ⟨seqC ⟨r45_2⟩ ⟨seqC ⟨r45_3⟩ ⟨seqC ⟨r45_4⟩ ⟨seqC ⟨r45_5⟩ ⟨seqC ⟨r45_6⟩ ⟨seqC ⟨r45_7⟩ ⟨seqC ⟨r45_8⟩ ⟨seqC ⟨r45_9⟩ ⟨seqC ⟨r45_10⟩ ⟨r45_11⟩⟩⟩⟩⟩⟩⟩⟩⟩⟩⟩⟩
noncomputable def r45_12 : CodeT := fun call _ tm ds h K =>
  kO (toInt .u32 (tg tm 1)) ds h (fun v1 ds h =>
  K .norm (T.set tm 12 v1) ds h)
noncomputable def r45_13 : CodeT := fun call _ tm ds h K =>
  kO (binV Tryd.prog .geq 3 true (tg tm 4) (.int .i64 (4))) ds h (fun v1 ds h =>
  K .norm (T.set tm 99 v1) ds h)
noncomputable def r45_14 : CodeT := fun call _ tm ds h K =>
  kO (binV Tryd.prog .rem 23 true (tg tm 12) (.int .u32 (10000))) ds h (fun v1 ds h =>
  K .norm (T.set tm 13 v1) ds h)
noncomputable def r45_15 : CodeT := fun call _ tm ds h K =>
  kO (binV Tryd.prog .quo 23 true (tg tm 12) (.int .u32 (10000))) ds h (fun v1 ds h =>
  K .norm (T.set tm 12 v1) ds h)
noncomputable def r45_16 : CodeT := fun call _ tm ds h K =>
  kO (binV Tryd.prog .quo 23 true (tg tm 13) (.int .u32 (100))) ds h (fun v1 ds h =>
  kO (binV Tryd.prog .mul 23 true v1 (.int .u32 (2))) ds h (fun v2 ds h =>
  kO (binV Tryd.prog .rem 23 true (tg tm 13) (.int .u32 (100))) ds h (fun v4 ds h =>
  kO (binV Tryd.prog .mul 23 true v4 (.int .u32 (2))) ds h (fun v5 ds h =>
  K .norm (T.set (T.set tm 14 v2) 15 v5) ds h))))
noncomputable def r45_17 : CodeT := fun call _ tm ds h0 K =>
  (fun (b0 : Nat) (h : H) =>
  kO (binV Tryd.prog .sub 3 true (tg tm 4) (.int .i64 (1))) ds h (fun v2 ds h =>
  kO (binV Tryd.prog .sub 3 true (tg tm 4) (.int .i64 (2))) ds h (fun v5 ds h =>
  kO (binV Tryd.prog .add 23 true (tg tm 15) (.int .u32 (1))) ds h (fun v7 ds h =>
  kO (indexStr SM v7) ds h (fun v8 ds h =>
  kO (indexStr SM (tg tm 15)) ds h (fun v10 ds h =>
  kO (indexSl 1 (tg tm 0) v2) ds h (fun v11 ds h =>
  kH (withV undef (storeV 1 h v11 v8)) ds (fun v12 ds h =>
  kO (indexSl 1 (tg tm 0) v5) ds h (fun v13 ds h =>
  kH (withV undef (storeV 1 h v13 v10)) ds (fun v14 ds h =>
  K .norm tm ds h)))))))))) h0.next ⟨h0.objs, h0.next + 15⟩
noncomputable def r45_18 : CodeT := fun call _ tm ds h0 K =>
  (fun (b0 : Nat) (h : H) =>
  kO (binV Tryd.prog .sub 3 true (tg tm 4) (.int .i64 (3))) ds h (fun v2 ds h =>
  kO (binV Tryd.prog .sub 3 true (tg tm 4) (.int .i64 (4))) ds h (fun v5 ds h =>
  kO (binV Tryd.prog .add 23 true (tg tm 14) (.int .u32 (1))) ds h (fun v7 ds h =>
  kO (indexStr SM v7) ds h (fun v8 ds h =>
  kO (indexStr SM (tg tm 14)) ds h (fun v10 ds h =>
  kO (indexSl 1 (tg tm 0) v2) ds h (fun v11 ds h =>
  kH (withV undef (storeV 1 h v11 v8)) ds (fun v12 ds h =>
  kO (indexSl 1 (tg tm 0) v5) ds h (fun v13 ds h =>
  kH (withV undef (storeV 1 h v13 v10)) ds (fun v14 ds h =>
  K .norm tm ds h)))))))))) h0.next ⟨h0.objs, h0.next + 15⟩
noncomputable def r45_19 : CodeT := fun call _ tm ds h K =>
  kO (binV Tryd.prog .sub 3 true (tg tm 4) (.int .i64 (4))) ds h (fun v1 ds h =>
  K .norm (T.set tm 4 v1) ds h)
noncomputable def r45_20 : CodeT := fun call _ tm ds h K =>
  kO (binV Tryd.prog .geq 3 true (tg tm 4) (.int .i64 (2))) ds h (fun v1 ds h =>
  K .norm (T.set tm 139 v1) ds h)
noncomputable def r45_21 : CodeT := fun call _ tm ds h K =>
  kO (binV Tryd.prog .rem 23 true (tg tm 12) (.int .u32 (100))) ds h (fun v1 ds h =>
  kO (binV Tryd.prog .mul 23 true v1 (.int .u32 (2))) ds h (fun v2 ds h =>
  K .norm (T.set tm 16 v2) ds h))
noncomputable def r45_22 : CodeT := fun call _ tm ds h K =>
  kO (binV Tryd.prog .quo 23 true (tg tm 12) (.int .u32 (100))) ds h (fun v1 ds h =>
  K .norm (T.set tm 12 v1) ds h)
noncomputable def r45_23 : CodeT := fun call _ tm ds h0 K =>
  (fun (b0 : Nat) (h : H) =>
  kO (binV Tryd.prog .sub 3 true (tg tm 4) (.int .i64 (1))) ds h (fun v2 ds h =>
  kO (binV Tryd.prog .sub 3 true (tg tm 4) (.int .i64 (2))) ds h (fun v5 ds h =>
  kO (binV Tryd.prog .add 23 true (tg tm 16) (.int .u32 (1))) ds h (fun v7 ds h =>
  kO (indexStr SM v7) ds h (fun v8 ds h =>
  kO (indexStr SM (tg tm 16)) ds h (fun v10 ds h =>
  kO (indexSl 1 (tg tm 0) v2) ds h (fun v11 ds h =>
  kH (withV undef (storeV 1 h v11 v8)) ds (fun v12 ds h =>
  kO (indexSl 1 (tg tm 0) v5) ds h (fun v13 ds h =>
  kH (withV undef (storeV 1 h v13 v10)) ds (fun v14 ds h =>
  K .norm tm ds h)))))))))) h0.next ⟨h0.objs, h0.next + 15⟩
noncomputable def r45_24 : CodeT := fun call _ tm ds h K =>
  kO (binV Tryd.prog .sub 3 true (tg tm 4) (.int .i64 (2))) ds h (fun v1 ds h =>
  K .norm (T.set tm 4 v1) ds h)
noncomputable def r45_25 : CodeT := fun call _ tm ds h K =>
  kO (binV Tryd.prog .gtr 3 true (tg tm 4) (.int .i64 (0))) ds h (fun v1 ds h =>
  K .norm (T.set tm 161 v1) ds h)
noncomputable def r45_26 : CodeT := fun call _ tm ds h K =>
  kO (binV Tryd.prog .add 23 true (.int .u32 (48)) (tg tm 12)) ds h (fun v2 ds h =>
  kO (toInt .u8 v2) ds h (fun v3 ds h =>
  kO (indexSl 1 (tg tm 0) (.int .i64 (0))) ds h (fun v4 ds h =>
  kH (withV undef (storeV 1 h v4 v3)) ds (fun v5 ds h =>
  K .norm tm ds h))))
noncomputable def c45 : Box CodeT := ⟨seqC ⟨r45_0⟩ ⟨seqC ⟨blockC 0 (loopB l45_12)⟩ ⟨seqC ⟨r45_12⟩ ⟨seqC ⟨seqC ⟨r45_13⟩ ⟨condC ⟨fun _ tm => tg tm 99⟩ ⟨seqC ⟨r45_14⟩ ⟨seqC ⟨r45_15⟩ ⟨seqC ⟨r45_16⟩ ⟨seqC ⟨r45_17⟩ ⟨seqC ⟨r45_18⟩ ⟨r45_19⟩⟩⟩⟩⟩⟩ skipC⟩⟩ ⟨seqC ⟨seqC ⟨r45_20⟩ ⟨condC ⟨fun _ tm => tg tm 139⟩ ⟨seqC ⟨r45_21⟩ ⟨seqC ⟨r45_22⟩ ⟨seqC ⟨r45_23⟩ ⟨r45_24⟩⟩⟩⟩ skipC⟩⟩ ⟨seqC ⟨r45_25⟩ ⟨condC ⟨fun _ tm => tg tm 161⟩ ⟨r45_26⟩ skipC⟩⟩⟩⟩⟩⟩⟩
noncomputable def q45 : Box (T Value → H → Option (List Value)) := ⟨fun tm h => some []⟩

/-! 46 internal/strconv.formatBits -/
/-! 47 cloakroom/cloakroomref10.twice -/
noncomputable def r47_0 : CodeT := fun call _ tm ds h K =>
  K .norm (T.set tm 2 (.bool false)) ds h
noncomputable def r47_1 : CodeT := fun call _ tm ds h K =>
  K .norm (T.set tm 3 (.int .i64 (0))) ds h
noncomputable def r47_2 : CodeT := fun call _ tm ds h K =>
  kO (lenSl (tg tm 0)) ds h (fun v2 ds h =>
  kO (binV Tryd.prog .lss 3 false (tg tm 3) v2) ds h (fun v3 ds h =>
  K .norm (T.set tm 8 v3) ds h))
noncomputable def r47_4 : CodeT := fun call _ tm ds h K =>
  K .norm (T.set tm 4 (.int .i64 (0))) ds h
noncomputable def r47_5 : CodeT := fun call _ tm ds h K =>
  kO (binV Tryd.prog .lss 3 false (tg tm 4) (tg tm 3)) ds h (fun v2 ds h =>
  K .norm (T.set tm 13 v2) ds h)
noncomputable def r47_7 : CodeT := fun call _ tm ds h0 K =>
  (fun (b0 : Nat) (h : H) =>
  kO (indexSl 1 (tg tm 0) (tg tm 3)) ds h (fun v2 ds h =>
  kO (loadOne h v2) ds h (fun v3 ds h =>
  kO (indexSl 1 (tg tm 0) (tg tm 4)) ds h (fun v6 ds h =>
  kO (loadOne h v6) ds h (fun v7 ds h =>
  kO (binV Tryd.prog .eql 9 false v3 v7) ds h (fun v8 ds h =>
  K .norm (T.set tm 24 v8) ds h)))))) h0.next ⟨h0.objs, h0.next + 9⟩
noncomputable def r47_8 : CodeT := fun call _ tm ds h K =>
  K .norm (T.set tm 2 (.bool true)) ds h
noncomputable def r47_6 : CodeT := fun call _ tm ds h K =>
  kO (binV Tryd.prog .add 3 true (tg tm 4) (.int .i64 (1))) ds h (fun v1 ds h =>
  K .norm (T.set tm 4 v1) ds h)
noncomputable def l47_8 : Box CodeT := ⟨seqC ⟨seqC ⟨r47_5⟩ ⟨condC ⟨fun _ tm => tg tm 13⟩ skipC (exitC 2)⟩⟩ ⟨seqC ⟨blockC 3 ⟨seqC ⟨r47_7⟩ ⟨condC ⟨fun _ tm => tg tm 24⟩ ⟨seqC ⟨r47_8⟩ retC⟩ skipC⟩⟩⟩ ⟨r47_6⟩⟩⟩
noncomputable def r47_3 : CodeT := fun call _ tm ds h K =>
  kO (binV Tryd.prog .add 3 true (tg tm 3) (.int .i64 (1))) ds h (fun v1 ds h =>
  K .norm (T.set tm 3 v1) ds h)
noncomputable def l47_10 : Box CodeT := ⟨seqC ⟨seqC ⟨r47_2⟩ ⟨condC ⟨fun _ tm => tg tm 8⟩ skipC (exitC 0)⟩⟩ ⟨seqC ⟨blockC 1 ⟨seqC ⟨r47_4⟩ ⟨blockC 2 (loopB l47_8)⟩⟩⟩ ⟨r47_3⟩⟩⟩
noncomputable def r47_9 : CodeT := fun call _ tm ds h K =>
  K .norm (T.set tm 2 (.bool false)) ds h
noncomputable def c47 : Box CodeT := ⟨seqC ⟨r47_0⟩ ⟨seqC ⟨seqC ⟨r47_1⟩ ⟨blockC 0 (loopB l47_10)⟩⟩ ⟨seqC ⟨r47_9⟩ retC⟩⟩⟩
noncomputable def q47 : Box (T Value → H → Option (List Value)) := ⟨fun tm h => some [tg tm 2]⟩

/-! 48 slices.Index[[]string,string] -/
noncomputable def r48_0 : CodeT := fun call _ tm ds h K =>
  K .norm (T.set tm 4 (.int .i64 (0))) ds h
noncomputable def r48_1 : CodeT := fun call _ tm ds h K =>
  kO (lenSl (tg tm 0)) ds h (fun v1 ds h =>
  K .norm (T.set (T.set tm 7 v1) 8 (.int .i64 (0))) ds h)
noncomputable def r48_2 : CodeT := fun call _ tm ds h K =>
  kO (binV Tryd.prog .lss 3 false (tg tm 8) (tg tm 7)) ds h (fun v0 ds h =>
  K .norm (T.set tm 9 v0) ds h)
noncomputable def r48_3 : CodeT := fun call _ tm ds h K =>
  K .norm (T.set tm 5 (tg tm 8)) ds h
noncomputable def r48_4 : CodeT := fun call _ tm ds h K =>
  kO (indexSl 1 (tg tm 0) (tg tm 5)) ds h (fun v3 ds h =>
  kO (loadOne h v3) ds h (fun v4 ds h =>
  kO (binV Tryd.prog .eql 9 false (tg tm 1) v4) ds h (fun v5 ds h =>
  K .norm (T.set tm 16 v5) ds h)))
noncomputable def r48_5 : CodeT := fun call _ tm ds h K =>
  K .norm (T.set tm 4 (tg tm 5)) ds h
noncomputable def r48_6 : CodeT := fun call _ tm ds h K =>
  kO (binV Tryd.prog .add 3 true (tg tm 8) (.int .i64 (1))) ds h (fun v0 ds h =>
  K .norm (T.set tm 8 v0) ds h)
noncomputable def l48_7 : Box CodeT := ⟨seqC ⟨r48_2⟩ ⟨seqC ⟨condC ⟨fun _ tm => tg tm 9⟩ skipC (exitC 0)⟩ ⟨seqC ⟨blockC 1 ⟨seqC ⟨r48_3⟩ ⟨seqC ⟨r48_4⟩ ⟨condC ⟨fun _ tm => tg tm 16⟩ ⟨seqC ⟨r48_5⟩ retC⟩ skipC⟩⟩⟩⟩ ⟨r48_6⟩⟩⟩⟩
noncomputable def r48_7 : CodeT := fun call _ tm ds h K =>
  K .norm (T.set tm 4 (.int .i64 (-1))) ds h
noncomputable def c48 : Box CodeT := ⟨seqC ⟨r48_0⟩ ⟨seqC ⟨seqC ⟨r48_1⟩ ⟨blockC 0 (loopB l48_7)⟩⟩ ⟨seqC ⟨r48_7⟩ retC⟩⟩⟩
noncomputable def q48 : Box (T Value → H → Option (List Value)) := ⟨fun tm h => some [tg tm 4]⟩

/-! 49 internal/strconv.log10Pow2 -/
noncomputable def r49_0 : CodeT := fun call _ tm ds h K =>
  K .norm (T.set tm 2 (.int .i64 (0))) ds h
noncomputable def r49_1 : CodeT := fun call _ tm ds h K =>
  kO (binV Tryd.prog .mul 3 true (tg tm 0) (.int .i64 (78913))) ds h (fun v1 ds h =>
  kO (binV Tryd.prog .shr 3 true v1 (.int .u64 (18))) ds h (fun v2 ds h =>
  K .norm (T.set tm 2 v2) ds h))
noncomputable def c49 : Box CodeT := ⟨seqC ⟨r49_0⟩ ⟨seqC ⟨r49_1⟩ retC⟩⟩
noncomputable def q49 : Box (T Value → H → Option (List Value)) := ⟨fun tm h => some [tg tm 2]⟩

/-! 50 math/bits.Len64 -/
noncomputable def r50_0 : CodeT := fun call _ tm ds h K =>
  K .norm (T.set tm 2 (.int .i64 (0))) ds h
noncomputable def r50_1 : CodeT := fun call _ tm ds h K =>
  kO (binV Tryd.prog .geq 24 true (tg tm 0) (.int .u64 (4294967296))) ds h (fun v1 ds h =>
  K .norm (T.set tm 4 v1) ds h)
noncomputable def r50_2 : CodeT := fun call _ tm ds h K =>
  kO (binV Tryd.prog .shr 24 true (tg tm 0) (.int .u64 (32))) ds h (fun v1 ds h =>
  K .norm (T.set tm 0 v1) ds h)
noncomputable def r50_3 : CodeT := fun call _ tm ds h K =>
  K .norm (T.set tm 2 (.int .i64 (32))) ds h
noncomputable def r50_4 : CodeT := fun call _ tm ds h K =>
  kO (binV Tryd.prog .geq 24 true (tg tm 0) (.int .u64 (65536))) ds h (fun v1 ds h =>
  K .norm (T.set tm 8 v1) ds h)
noncomputable def r50_5 : CodeT := fun call _ tm ds h K =>
  kO (binV Tryd.prog .shr 24 true (tg tm 0) (.int .u64 (16))) ds h (fun v1 ds h =>
  K .norm (T.set tm 0 v1) ds h)
noncomputable def r50_6 : CodeT := fun call _ tm ds h K =>
  kO (binV Tryd.prog .add 3 true (tg tm 2) (.int .i64 (16))) ds h (fun v1 ds h =>
  K .norm (T.set tm 2 v1) ds h)
noncomputable def r50_7 : CodeT := fun call _ tm ds h K =>
  kO (binV Tryd.prog .geq 24 true (tg tm 0) (.int .u64 (256))) ds h (fun v1 ds h =>
  K .norm (T.set tm 14 v1) ds h)
noncomputable def r50_8 : CodeT := fun call _ tm ds h K =>
  kO (binV Tryd.prog .shr 24 true (tg tm 0) (.int .u64 (8))) ds h (fun v1 ds h =>
  K .norm (T.set tm 0 v1) ds h)
noncomputable def r50_9 : CodeT := fun call _ tm ds h K =>
  kO (binV Tryd.prog .add 3 true (tg tm 2) (.int .i64 (8))) ds h (fun v1 ds h =>
  K .norm (T.set tm 2 v1) ds h)
noncomputable def r50_10 : CodeT := fun call _ tm ds h K =>
  kO (toInt .u8 (tg tm 0)) ds h (fun v2 ds h =>
  kO (indexStr (.string (strB [0, 1, 2, 2, 3, 3, 3, 3, 4, 4, 4, 4, 4, 4, 4, 4, 5, 5, 5, 5, 5, 5, 5, 5, 5, 5, 5, 5, 5, 5, 5, 5, 6, 6, 6, 6, 6, 6, 6, 6, 6, 6, 6, 6, 6, 6, 6, 6, 6, 6, 6, 6, 6, 6, 6, 6, 6, 6, 6, 6, 6, 6, 6, 6, 7, 7, 7, 7, 7, 7, 7, 7, 7, 7, 7, 7, 7, 7, 7, 7, 7, 7, 7, 7, 7, 7, 7, 7, 7, 7, 7, 7, 7, 7, 7, 7, 7, 7, 7, 7, 7, 7, 7, 7, 7, 7, 7, 7, 7, 7, 7, 7, 7, 7, 7, 7, 7, 7, 7, 7, 7, 7, 7, 7, 7, 7, 7, 7, 8, 8, 8, 8, 8, 8, 8, 8, 8, 8, 8, 8, 8, 8, 8, 8, 8, 8, 8, 8, 8, 8, 8, 8, 8, 8, 8, 8, 8, 8, 8, 8, 8, 8, 8, 8, 8, 8, 8, 8, 8, 8, 8, 8, 8, 8, 8, 8, 8, 8, 8, 8, 8, 8, 8, 8, 8, 8, 8, 8, 8, 8, 8, 8, 8, 8, 8, 8, 8, 8, 8, 8, 8, 8, 8, 8, 8, 8, 8, 8, 8, 8, 8, 8, 8, 8, 8, 8, 8, 8, 8, 8, 8, 8, 8, 8, 8, 8, 8, 8, 8, 8, 8, 8, 8, 8, 8, 8, 8, 8, 8, 8, 8, 8, 8, 8, 8, 8, 8, 8, 8, 8, 8, 8, 8, 8, 8, 8])) v2) ds h (fun v3 ds h =>
  kO (toInt .i64 v3) ds h (fun v4 ds h =>
  kO (binV Tryd.prog .add 3 false (tg tm 2) v4) ds h (fun v5 ds h =>
  K .norm (T.set tm 2 v5) ds h))))
noncomputable def c50 : Box CodeT := ⟨seqC ⟨r50_0⟩ ⟨seqC ⟨seqC ⟨r50_1⟩ ⟨condC ⟨fun _ tm => tg tm 4⟩ ⟨seqC ⟨r50_2⟩ ⟨r50_3⟩⟩ skipC⟩⟩ ⟨seqC ⟨seqC ⟨r50_4⟩ ⟨condC ⟨fun _ tm => tg tm 8⟩ ⟨seqC ⟨r50_5⟩ ⟨r50_6⟩⟩ skipC⟩⟩ ⟨seqC ⟨seqC ⟨r50_7⟩ ⟨condC ⟨fun _ tm => tg tm 14⟩ ⟨seqC ⟨r50_8⟩ ⟨r50_9⟩⟩ skipC⟩⟩ ⟨seqC ⟨r50_10⟩ retC⟩⟩⟩⟩⟩
noncomputable def q50 : Box (T Value → H → Option (List Value)) := ⟨fun tm h => some [tg tm 2]⟩

/-! 51 internal/strconv.bool2[int] -/
noncomputable def r51_0 : CodeT := fun call _ tm ds h K =>
  K .norm (T.set tm 2 (.int .i64 (0))) ds h
noncomputable def r51_1 : CodeT := fun call _ tm ds h K =>
  K .norm (T.set tm 3 (tg tm 0)) ds h
noncomputable def r51_2 : CodeT := fun call _ tm ds h K =>
  K .norm (T.set tm 2 (.int .i64 (1))) ds h
noncomputable def r51_3 : CodeT := fun call _ tm ds h K =>
  K .norm (T.set tm 2 (.int .i64 (0))) ds h
noncomputable def c51 : Box CodeT := ⟨seqC ⟨r51_0⟩ ⟨seqC ⟨seqC ⟨r51_1⟩ ⟨condC ⟨fun _ tm => tg tm 3⟩ ⟨seqC ⟨r51_2⟩ retC⟩ skipC⟩⟩ ⟨seqC ⟨r51_3⟩ retC⟩⟩⟩
noncomputable def q51 : Box (T Value → H → Option (List Value)) := ⟨fun tm h => some [tg tm 2]⟩

/-! 52 internal/strconv.isPowerOfTwo -/
end Go.Proofs.YtilpiiafjehbnaaDoor
