/-
  What the evaluator makes of the code of the functions that the law reaches: printed by a program (Res.lean), checked by the kernel in the next text.
-/
import Derived.Test.YtpaolklbogakgaaEvV
import Derived.KernelRfl
import Derived.Test.YtpaolklbogakgaaRows
set_option linter.unusedVariables false
namespace Go.Proofs.Ytpaolklbogakgaa
open Go.Ev
def masks : List Nat := [0, 0, 0, 383, 4195325, 1648319, 4311752695, 536936957, 4398047576079, 8532543, 4255, 274886297597, 8598325245, 31, 7, 2417851639299627093598239, 2013265967, 13, 1223, 11440979185133664387406296579253639856135340063, 19503373574251772171518399, 455, 2147623923, 41700713373270422443459610422648819, 4438660083, 17592219615475, 17594400636991, 137440002619, 2003, 45, 5, 199, 5, 4456455, 45, 5, 5, 21, 65597, 65597, 5, 2251834173505533, 5, 19, 7, 65551, 5, 69794271229, 253, 81064793296863485, 590331878738148458483, 66483, 5, 16777469, 21, 67109885, 0, 0, 0, 0, 0, 0, 0, 0, 0, 0, 0, 0, 0, 0, 0, 0, 0]
def outside : List (Nat × XK) := []
abbrev NG : Nat := 0
/-! 3 cloakroom/cloakroomlaw17.PackedWrites -/
noncomputable def r3_0 : CodeT := fun call _ tm ds h K =>
  kA (some (.rw (Value.cells (tg tm 0)).toList, ptrTo h.next)) ds h (fun v0 ds h =>
  K .norm (T.set (T.set tm 1 v0) 2 (.bool false)) ds h)
noncomputable def r3_1 : CodeT := fun call _ tm ds h K =>
  kO (loadAgg 7 h (tg tm 1)) ds h (fun v0 ds h =>
  call 8 [v0] h (fun v h => (fun v1 ds h =>
  K .norm (T.set tm 8 v1) ds h) v ds h))
noncomputable def r3_2 : CodeT := fun call _ tm ds h K =>
  K .norm (T.set tm 2 (.bool true)) ds h
noncomputable def r3_3 : CodeT := fun call _ tm ds h K =>
  kO (loadAgg 7 h (tg tm 1)) ds h (fun v0 ds h =>
  call 9 [v0] h (fun v h => (fun v1 ds h =>
  kO (tupNth 0 v1) ds h (fun v3 ds h =>
  kO (tupNth 1 v1) ds h (fun v4 ds h =>
  K .norm (T.set (T.set tm 3 v3) 4 v4) ds h))) v ds h))
noncomputable def r3_4 : CodeT := fun call _ tm ds h K =>
  kO (loadAgg 7 h (tg tm 1)) ds h (fun v0 ds h =>
  call 10 [v0] h (fun v h => (fun v1 ds h =>
  kO (tupNth 0 v1) ds h (fun v3 ds h =>
  kO (tupNth 1 v1) ds h (fun v4 ds h =>
  K .norm (T.set (T.set tm 5 v3) 6 v4) ds h))) v ds h))
noncomputable def r3_5 : CodeT := fun call _ tm ds h K => (⟨opStep ⟨fun call env tm ds h K => kO (some (tg tm 3)) ds h K⟩ ⟨fun v tm => tm⟩ ⟨fun env tm => true⟩
  ⟨opStep ⟨fun call env tm ds h K => kO (bytesStr h (nthD 0 env)) ds h K⟩ ⟨fun v tm => tm⟩ ⟨fun env tm => true⟩
  ⟨opStep ⟨fun call env tm ds h K => kO (some (tg tm 5)) ds h K⟩ ⟨fun v tm => tm⟩ ⟨fun env tm => true⟩
  ⟨opStep ⟨fun call env tm ds h K => kO (bytesStr h (nthD 0 env)) ds h K⟩ ⟨fun v tm => tm⟩ ⟨fun env tm => true⟩
  ⟨opStep ⟨fun call env tm ds h K => kO (binV Try.prog .eql 9 false (nthD 2 env) (nthD 0 env)) ds h K⟩ ⟨fun v tm => tm⟩ ⟨fun env tm => true⟩
  ⟨opStep ⟨fun call env tm ds h K => kO (some (nthD 0 env)) ds h K⟩ ⟨fun v tm => tm⟩ ⟨fun env tm => true⟩
  ⟨opStep ⟨fun call env tm ds h K => kO (some (tg tm 4)) ds h K⟩ ⟨fun v tm => tm⟩ ⟨fun env tm => isB true (nthD 0 env)⟩
  ⟨opStep ⟨fun call env tm ds h K => kO (some (tg tm 6)) ds h K⟩ ⟨fun v tm => tm⟩ ⟨fun env tm => isB true (nthD 1 env)⟩
  ⟨opStep ⟨fun call env tm ds h K => kO (binV Try.prog .eql 3 false (nthD 1 env) (nthD 0 env)) ds h K⟩ ⟨fun v tm => tm⟩ ⟨fun env tm => isB true (nthD 2 env)⟩
  ⟨opStep ⟨fun call env tm ds h K => kO (pickV (nthD 3 env) (nthD 0 env) (.bool false)) ds h K⟩ ⟨fun v tm => tm⟩ ⟨fun env tm => true⟩
  ⟨opStep ⟨fun call env tm ds h K => kO (some (nthD 0 env)) ds h K⟩ ⟨fun v tm => (T.set tm 2 v)⟩ ⟨fun env tm => true⟩
  ⟨fun _ _ tm ds h K => K .norm tm ds h⟩⟩⟩⟩⟩⟩⟩⟩⟩⟩⟩⟩ : Box OpsT).f call [] tm ds h K
noncomputable def c3 : Box CodeT := ⟨seqC ⟨r3_0⟩ ⟨seqC ⟨seqC ⟨r3_1⟩ ⟨condC ⟨fun _ tm => tg tm 8⟩ ⟨seqC ⟨r3_2⟩ retC⟩ skipC⟩⟩ ⟨seqC ⟨r3_3⟩ ⟨seqC ⟨r3_4⟩ ⟨seqC ⟨r3_5⟩ retC⟩⟩⟩⟩⟩
noncomputable def q3 : Box (T Value → H → Option (List Value)) := ⟨fun tm h => some [tg tm 2]⟩

/-! 8 cloakroom/cloakroomref15.Long -/
noncomputable def r8_0 : CodeT := fun call _ tm ds h K =>
  kA (some (.rw (Value.cells (tg tm 0)).toList, ptrTo h.next)) ds h (fun v0 ds h =>
  K .norm (T.set (T.set tm 1 v0) 2 (.bool false)) ds h)
noncomputable def r8_1 : CodeT := fun call _ tm ds h K => (⟨opStep ⟨fun call env tm ds h K => kO (fieldPtr 6 (tg tm 1)) ds h K⟩ ⟨fun v tm => tm⟩ ⟨fun env tm => true⟩
  ⟨opStep ⟨fun call env tm ds h K => kO (loadOne h (nthD 0 env)) ds h K⟩ ⟨fun v tm => tm⟩ ⟨fun env tm => true⟩
  ⟨opStep ⟨fun call env tm ds h K => kO (lenStr (nthD 0 env)) ds h K⟩ ⟨fun v tm => tm⟩ ⟨fun env tm => true⟩
  ⟨opStep ⟨fun call env tm ds h K => kO (binV Try.prog .gtr 3 true (nthD 0 env) (.int .i64 (1000))) ds h K⟩ ⟨fun v tm => tm⟩ ⟨fun env tm => true⟩
  ⟨opStep ⟨fun call env tm ds h K => kO (some (nthD 0 env)) ds h K⟩ ⟨fun v tm => tm⟩ ⟨fun env tm => true⟩
  ⟨opStep ⟨fun call env tm ds h K => kO (fieldPtr 2 (tg tm 1)) ds h K⟩ ⟨fun v tm => tm⟩ ⟨fun env tm => isB false (nthD 0 env)⟩
  ⟨opStep ⟨fun call env tm ds h K => kO (fieldPtr 1 (nthD 0 env)) ds h K⟩ ⟨fun v tm => tm⟩ ⟨fun env tm => isB false (nthD 1 env)⟩
  ⟨opStep ⟨fun call env tm ds h K => kO (loadOne h (nthD 0 env)) ds h K⟩ ⟨fun v tm => tm⟩ ⟨fun env tm => isB false (nthD 2 env)⟩
  ⟨opStep ⟨fun call env tm ds h K => kO (lenSl (nthD 0 env)) ds h K⟩ ⟨fun v tm => tm⟩ ⟨fun env tm => isB false (nthD 3 env)⟩
  ⟨opStep ⟨fun call env tm ds h K => kO (binV Try.prog .gtr 3 true (nthD 0 env) (.int .i64 (40))) ds h K⟩ ⟨fun v tm => tm⟩ ⟨fun env tm => isB false (nthD 4 env)⟩
  ⟨opStep ⟨fun call env tm ds h K => kO (pickV (nthD 5 env) (.bool true) (nthD 0 env)) ds h K⟩ ⟨fun v tm => (T.set tm 14 v)⟩ ⟨fun env tm => true⟩
  ⟨fun _ _ tm ds h K => K .norm tm ds h⟩⟩⟩⟩⟩⟩⟩⟩⟩⟩⟩⟩ : Box OpsT).f call [] tm ds h K
noncomputable def r8_2 : CodeT := fun call _ tm ds h K =>
  K .norm (T.set tm 2 (.bool true)) ds h
noncomputable def r8_3 : CodeT := fun call _ tm ds h K =>
  K .norm (T.set tm 3 (.int .i64 (0))) ds h
noncomputable def r8_4 : CodeT := fun call _ tm ds h K =>
  kO (fieldPtr 2 (tg tm 1)) ds h (fun v1 ds h =>
  kO (fieldPtr 1 v1) ds h (fun v2 ds h =>
  kO (loadOne h v2) ds h (fun v3 ds h =>
  kO (lenSl v3) ds h (fun v4 ds h =>
  kO (binV Try.prog .lss 3 false (tg tm 3) v4) ds h (fun v5 ds h =>
  K .norm (T.set tm 20 v5) ds h)))))
noncomputable def r8_6 : CodeT := fun call _ tm ds h K => (⟨opStep ⟨fun call env tm ds h K => kO (fieldPtr 2 (tg tm 1)) ds h K⟩ ⟨fun v tm => tm⟩ ⟨fun env tm => true⟩
  ⟨opStep ⟨fun call env tm ds h K => kO (fieldPtr 1 (nthD 0 env)) ds h K⟩ ⟨fun v tm => tm⟩ ⟨fun env tm => true⟩
  ⟨opStep ⟨fun call env tm ds h K => kO (loadOne h (nthD 0 env)) ds h K⟩ ⟨fun v tm => tm⟩ ⟨fun env tm => true⟩
  ⟨opStep ⟨fun call env tm ds h K => kO (some (tg tm 3)) ds h K⟩ ⟨fun v tm => tm⟩ ⟨fun env tm => true⟩
  ⟨opStep ⟨fun call env tm ds h K => kO (indexSl 5 (nthD 1 env) (nthD 0 env)) ds h K⟩ ⟨fun v tm => tm⟩ ⟨fun env tm => true⟩
  ⟨opStep ⟨fun call env tm ds h K => kO (fieldPtr 0 (nthD 0 env)) ds h K⟩ ⟨fun v tm => tm⟩ ⟨fun env tm => true⟩
  ⟨opStep ⟨fun call env tm ds h K => kO (loadOne h (nthD 0 env)) ds h K⟩ ⟨fun v tm => tm⟩ ⟨fun env tm => true⟩
  ⟨opStep ⟨fun call env tm ds h K => kO (lenStr (nthD 0 env)) ds h K⟩ ⟨fun v tm => tm⟩ ⟨fun env tm => true⟩
  ⟨opStep ⟨fun call env tm ds h K => kO (binV Try.prog .gtr 3 true (nthD 0 env) (.int .i64 (1000))) ds h K⟩ ⟨fun v tm => tm⟩ ⟨fun env tm => true⟩
  ⟨opStep ⟨fun call env tm ds h K => kO (some (nthD 0 env)) ds h K⟩ ⟨fun v tm => tm⟩ ⟨fun env tm => true⟩
  ⟨opStep ⟨fun call env tm ds h K => kO (fieldPtr 2 (tg tm 1)) ds h K⟩ ⟨fun v tm => tm⟩ ⟨fun env tm => isB false (nthD 0 env)⟩
  ⟨opStep ⟨fun call env tm ds h K => kO (fieldPtr 1 (nthD 0 env)) ds h K⟩ ⟨fun v tm => tm⟩ ⟨fun env tm => isB false (nthD 1 env)⟩
  ⟨opStep ⟨fun call env tm ds h K => kO (loadOne h (nthD 0 env)) ds h K⟩ ⟨fun v tm => tm⟩ ⟨fun env tm => isB false (nthD 2 env)⟩
  ⟨opStep ⟨fun call env tm ds h K => kO (some (tg tm 3)) ds h K⟩ ⟨fun v tm => tm⟩ ⟨fun env tm => isB false (nthD 3 env)⟩
  ⟨opStep ⟨fun call env tm ds h K => kO (indexSl 5 (nthD 1 env) (nthD 0 env)) ds h K⟩ ⟨fun v tm => tm⟩ ⟨fun env tm => isB false (nthD 4 env)⟩
  ⟨opStep ⟨fun call env tm ds h K => kO (fieldPtr 1 (nthD 0 env)) ds h K⟩ ⟨fun v tm => tm⟩ ⟨fun env tm => isB false (nthD 5 env)⟩
  ⟨opStep ⟨fun call env tm ds h K => kO (loadOne h (nthD 0 env)) ds h K⟩ ⟨fun v tm => tm⟩ ⟨fun env tm => isB false (nthD 6 env)⟩
  ⟨opStep ⟨fun call env tm ds h K => kO (lenStr (nthD 0 env)) ds h K⟩ ⟨fun v tm => tm⟩ ⟨fun env tm => isB false (nthD 7 env)⟩
  ⟨opStep ⟨fun call env tm ds h K => kO (binV Try.prog .gtr 3 true (nthD 0 env) (.int .i64 (1000))) ds h K⟩ ⟨fun v tm => tm⟩ ⟨fun env tm => isB false (nthD 8 env)⟩
  ⟨opStep ⟨fun call env tm ds h K => kO (pickV (nthD 9 env) (.bool true) (nthD 0 env)) ds h K⟩ ⟨fun v tm => (T.set tm 42 v)⟩ ⟨fun env tm => true⟩
  ⟨fun _ _ tm ds h K => K .norm tm ds h⟩⟩⟩⟩⟩⟩⟩⟩⟩⟩⟩⟩⟩⟩⟩⟩⟩⟩⟩⟩⟩ : Box OpsT).f call [] tm ds h K
noncomputable def r8_7 : CodeT := fun call _ tm ds h K =>
  K .norm (T.set tm 2 (.bool true)) ds h
noncomputable def r8_5 : CodeT := fun call _ tm ds h K =>
  kO (binV Try.prog .add 3 true (tg tm 3) (.int .i64 (1))) ds h (fun v1 ds h =>
  K .norm (T.set tm 3 v1) ds h)
noncomputable def l8_8 : Box CodeT := ⟨seqC ⟨seqC ⟨r8_4⟩ ⟨condC ⟨fun _ tm => tg tm 20⟩ skipC (exitC 0)⟩⟩ ⟨seqC ⟨blockC 1 ⟨seqC ⟨r8_6⟩ ⟨condC ⟨fun _ tm => tg tm 42⟩ ⟨seqC ⟨r8_7⟩ retC⟩ skipC⟩⟩⟩ ⟨r8_5⟩⟩⟩
noncomputable def r8_8 : CodeT := fun call _ tm ds h K =>
  K .norm (T.set tm 2 (.bool false)) ds h
noncomputable def c8 : Box CodeT := ⟨seqC ⟨r8_0⟩ ⟨seqC ⟨seqC ⟨r8_1⟩ ⟨condC ⟨fun _ tm => tg tm 14⟩ ⟨seqC ⟨r8_2⟩ retC⟩ skipC⟩⟩ ⟨seqC ⟨seqC ⟨r8_3⟩ ⟨blockC 0 (loopB l8_8)⟩⟩ ⟨seqC ⟨r8_8⟩ retC⟩⟩⟩⟩
noncomputable def q8 : Box (T Value → H → Option (List Value)) := ⟨fun tm h => some [tg tm 2]⟩

/-! 9 cloakroom/packed.Write -/
noncomputable def r9_0 : CodeT := fun call _ tm ds h K =>
  kA (some (.rw (Value.cells (tg tm 0)).toList, ptrTo h.next)) ds h (fun v0 ds h =>
  K .norm (T.set (T.set (T.set tm 1 v0) 2 (.slice none 0 0)) 3 (.int .i64 (0))) ds h)
noncomputable def r9_1 : CodeT := fun call _ tm ds h K =>
  kO (loadAgg 7 h (tg tm 1)) ds h (fun v0 ds h =>
  call 15 [v0] h (fun v h => (fun v1 ds h =>
  K .norm (T.set tm 4 v1) ds h) v ds h))
noncomputable def r9_2 : CodeT := fun call _ tm ds h K =>
  kO (binV Try.prog .neq 30 true (tg tm 4) (.int .i64 (0))) ds h (fun v1 ds h =>
  K .norm (T.set tm 9 v1) ds h)
noncomputable def r9_3 : CodeT := fun call _ tm ds h K =>
  K .norm (T.set (T.set tm 2 (.slice none 0 0)) 3 (tg tm 4)) ds h
noncomputable def r9_4 : CodeT := fun call _ tm ds h K =>
  K .norm (T.set tm 5 (.slice none 0 0)) ds h
noncomputable def r9_5 : CodeT := fun call _ tm ds h K =>
  kO (fieldPtr 0 (tg tm 1)) ds h (fun v0 ds h =>
  kO (loadOne h v0) ds h (fun v1 ds h =>
  K .norm (T.set tm 12 v1) ds h))
noncomputable def r9_6 : CodeT := fun call _ tm ds h K =>
  kO (binV Try.prog .eql 5 true (tg tm 12) (.int .u8 (1))) ds h (fun v0 ds h =>
  K .norm (T.set tm 13 v0) ds h)
noncomputable def r9_7 : CodeT := fun call _ tm ds h K =>
  kO (loadAgg 7 h (tg tm 1)) ds h (fun v0 ds h =>
  call 16 [v0] h (fun v h => (fun v1 ds h =>
  K .norm (T.set tm 5 v1) ds h) v ds h))
noncomputable def r9_8 : CodeT := fun call _ tm ds h K =>
  kO (binV Try.prog .eql 5 true (tg tm 12) (.int .u8 (2))) ds h (fun v0 ds h =>
  K .norm (T.set tm 17 v0) ds h)
noncomputable def r9_9 : CodeT := fun call _ tm ds h K =>
  kO (binV Try.prog .eql 5 true (tg tm 12) (.int .u8 (3))) ds h (fun v0 ds h =>
  K .norm (T.set tm 17 v0) ds h)
noncomputable def r9_10 : CodeT := fun call _ tm ds h K =>
  kO (fieldPtr 5 (tg tm 1)) ds h (fun v0 ds h =>
  kO (loadOne h v0) ds h (fun v1 ds h =>
  call 17 [v1] h (fun v h => (fun v2 ds h =>
  K .norm (T.set tm 5 v2) ds h) v ds h)))
noncomputable def r9_11 : CodeT := fun call _ tm ds h K =>
  kO (binV Try.prog .eql 5 true (tg tm 12) (.int .u8 (7))) ds h (fun v0 ds h =>
  K .norm (T.set tm 23 v0) ds h)
noncomputable def r9_12 : CodeT := fun call _ tm ds h K =>
  kO (fieldPtr 6 (tg tm 1)) ds h (fun v0 ds h =>
  kO (loadOne h v0) ds h (fun v1 ds h =>
  kA (mkBytes h.next v1) ds h (fun v2 ds h =>
  K .norm (T.set tm 5 v2) ds h)))
noncomputable def r9_13 : CodeT := fun call _ tm ds h K =>
  kO (fieldPtr 0 (tg tm 1)) ds h (fun v0 ds h =>
  kO (loadOne h v0) ds h (fun v1 ds h =>
  call 18 [(.int .u8 (178)), v1, (tg tm 5)] h (fun v h => (fun v3 ds h =>
  kO (tupNth 0 v3) ds h (fun v4 ds h =>
  kO (tupNth 1 v3) ds h (fun v5 ds h =>
  K .norm (T.set (T.set tm 2 v4) 3 v5) ds h))) v ds h)))
noncomputable def c9 : Box CodeT := ⟨seqC ⟨r9_0⟩ ⟨seqC ⟨seqC ⟨r9_1⟩ ⟨seqC ⟨r9_2⟩ ⟨condC ⟨fun _ tm => tg tm 9⟩ ⟨seqC ⟨r9_3⟩ retC⟩ skipC⟩⟩⟩ ⟨seqC ⟨r9_4⟩ ⟨seqC ⟨seqC ⟨r9_5⟩ ⟨blockC 0 ⟨seqC ⟨r9_6⟩ ⟨condC ⟨fun _ tm => tg tm 13⟩ ⟨r9_7⟩ ⟨seqC ⟨seqC ⟨r9_8⟩ ⟨condC ⟨fun _ tm => tg tm 17⟩ skipC ⟨r9_9⟩⟩⟩ ⟨condC ⟨fun _ tm => tg tm 17⟩ ⟨r9_10⟩ ⟨seqC ⟨r9_11⟩ ⟨condC ⟨fun _ tm => tg tm 23⟩ ⟨r9_12⟩ skipC⟩⟩⟩⟩⟩⟩⟩⟩ ⟨seqC ⟨r9_13⟩ retC⟩⟩⟩⟩⟩
noncomputable def q9 : Box (T Value → H → Option (List Value)) := ⟨fun tm h => some [tg tm 2, tg tm 3]⟩

/-! 10 cloakroom/cloakroomref17.Write -/
noncomputable def r10_0 : CodeT := fun call _ tm ds h K =>
  kA (some (.rw (Value.cells (tg tm 0)).toList, ptrTo h.next)) ds h (fun v0 ds h =>
  K .norm (T.set (T.set (T.set tm 1 v0) 2 (.slice none 0 0)) 3 (.int .i64 (0))) ds h)
noncomputable def r10_1 : CodeT := fun call _ tm ds h K =>
  kO (loadAgg 7 h (tg tm 1)) ds h (fun v0 ds h =>
  call 19 [v0] h (fun v h => (fun v1 ds h =>
  kO (unV .not v1) ds h (fun v2 ds h =>
  K .norm (T.set tm 7 v2) ds h)) v ds h))
noncomputable def r10_2 : CodeT := fun call _ tm ds h K =>
  K .norm (T.set (T.set tm 2 (.slice none 0 0)) 3 (.int .i64 (8))) ds h
noncomputable def r10_3 : CodeT := fun call _ tm ds h K =>
  kO (loadAgg 7 h (tg tm 1)) ds h (fun v0 ds h =>
  call 20 [v0] h (fun v h => (fun v1 ds h =>
  K .norm (T.set tm 4 v1) ds h) v ds h))
noncomputable def r10_4 : CodeT := fun call _ tm ds h K =>
  kO (lenSl (tg tm 4)) ds h (fun v1 ds h =>
  kO (binV Try.prog .gtr 3 true v1 (.int .i64 (4096))) ds h (fun v2 ds h =>
  K .norm (T.set tm 12 v2) ds h))
noncomputable def r10_5 : CodeT := fun call _ tm ds h K =>
  K .norm (T.set (T.set tm 2 (.slice none 0 0)) 3 (.int .i64 (3))) ds h
noncomputable def r10_6 : CodeT := fun call _ tm ds h K =>
  kO (fieldPtr 0 (tg tm 1)) ds h (fun v0 ds h =>
  kO (loadOne h v0) ds h (fun v1 ds h =>
  call 21 [(.int .u8 (178)), v1, (tg tm 4)] h (fun v h => (fun v3 ds h =>
  K .norm (T.set (T.set tm 2 v3) 3 (.int .i64 (0))) ds h) v ds h)))
noncomputable def c10 : Box CodeT := ⟨seqC ⟨r10_0⟩ ⟨seqC ⟨seqC ⟨r10_1⟩ ⟨condC ⟨fun _ tm => tg tm 7⟩ ⟨seqC ⟨r10_2⟩ retC⟩ skipC⟩⟩ ⟨seqC ⟨r10_3⟩ ⟨seqC ⟨seqC ⟨r10_4⟩ ⟨condC ⟨fun _ tm => tg tm 12⟩ ⟨seqC ⟨r10_5⟩ retC⟩ skipC⟩⟩ ⟨seqC ⟨r10_6⟩ retC⟩⟩⟩⟩⟩
noncomputable def q10 : Box (T Value → H → Option (List Value)) := ⟨fun tm h => some [tg tm 2, tg tm 3]⟩

/-! 15 cloakroom/words.Check -/
noncomputable def r15_0 : CodeT := fun call _ tm ds h K =>
  kA (some (.rw (Value.cells (tg tm 0)).toList, ptrTo h.next)) ds h (fun v0 ds h =>
  K .norm (T.set (T.set tm 1 v0) 2 (.int .i64 (0))) ds h)
noncomputable def r15_1 : CodeT := fun call _ tm ds h K =>
  K .norm (T.set tm 3 (.bool false)) ds h
noncomputable def r15_2 : CodeT := fun call _ tm ds h K =>
  kO (fieldPtr 0 (tg tm 1)) ds h (fun v0 ds h =>
  kO (loadOne h v0) ds h (fun v1 ds h =>
  kO (binV Try.prog .eql 5 true v1 (.int .u8 (1))) ds h (fun v2 ds h =>
  K .norm (T.set tm 4 v2) ds h)))
noncomputable def r15_3 : CodeT := fun call _ tm ds h K =>
  kO (fieldPtr 1 (tg tm 1)) ds h (fun v0 ds h =>
  kO (loadOne h v0) ds h (fun v1 ds h =>
  kO (fieldPtr 2 (tg tm 1)) ds h (fun v2 ds h =>
  kO (loadAgg 3 h v2) ds h (fun v3 ds h =>
  call 27 [v1, v3] h (fun v h => (fun v4 ds h =>
  K .norm (T.set tm 3 v4) ds h) v ds h)))))
noncomputable def r15_4 : CodeT := fun call _ tm ds h K => (⟨opStep ⟨fun call env tm ds h K => kO (fieldPtr 0 (tg tm 1)) ds h K⟩ ⟨fun v tm => tm⟩ ⟨fun env tm => true⟩
  ⟨opStep ⟨fun call env tm ds h K => kO (loadOne h (nthD 0 env)) ds h K⟩ ⟨fun v tm => tm⟩ ⟨fun env tm => true⟩
  ⟨opStep ⟨fun call env tm ds h K => kO (binV Try.prog .gtr 5 true (nthD 0 env) (.int .u8 (1))) ds h K⟩ ⟨fun v tm => tm⟩ ⟨fun env tm => true⟩
  ⟨opStep ⟨fun call env tm ds h K => kO (some (nthD 0 env)) ds h K⟩ ⟨fun v tm => tm⟩ ⟨fun env tm => true⟩
  ⟨opStep ⟨fun call env tm ds h K => kO (fieldPtr 0 (tg tm 1)) ds h K⟩ ⟨fun v tm => tm⟩ ⟨fun env tm => isB true (nthD 0 env)⟩
  ⟨opStep ⟨fun call env tm ds h K => kO (loadOne h (nthD 0 env)) ds h K⟩ ⟨fun v tm => tm⟩ ⟨fun env tm => isB true (nthD 1 env)⟩
  ⟨opStep ⟨fun call env tm ds h K => kO (binV Try.prog .leq 5 true (nthD 0 env) (.int .u8 (7))) ds h K⟩ ⟨fun v tm => tm⟩ ⟨fun env tm => isB true (nthD 2 env)⟩
  ⟨opStep ⟨fun call env tm ds h K => kO (pickV (nthD 3 env) (nthD 0 env) (.bool false)) ds h K⟩ ⟨fun v tm => tm⟩ ⟨fun env tm => true⟩
  ⟨opStep ⟨fun call env tm ds h K => kO (some (nthD 0 env)) ds h K⟩ ⟨fun v tm => (T.set tm 13 v)⟩ ⟨fun env tm => true⟩
  ⟨fun _ _ tm ds h K => K .norm tm ds h⟩⟩⟩⟩⟩⟩⟩⟩⟩⟩ : Box OpsT).f call [] tm ds h K
noncomputable def r15_5 : CodeT := fun call _ tm ds h K => (⟨opStep ⟨fun call env tm ds h K => kO (fieldPtr 1 (tg tm 1)) ds h K⟩ ⟨fun v tm => tm⟩ ⟨fun env tm => true⟩
  ⟨opStep ⟨fun call env tm ds h K => kO (loadOne h (nthD 0 env)) ds h K⟩ ⟨fun v tm => tm⟩ ⟨fun env tm => true⟩
  ⟨opStep ⟨fun call env tm ds h K => kO (binV Try.prog .eql 5 true (nthD 0 env) (.int .u8 (0))) ds h K⟩ ⟨fun v tm => tm⟩ ⟨fun env tm => true⟩
  ⟨opStep ⟨fun call env tm ds h K => kO (some (nthD 0 env)) ds h K⟩ ⟨fun v tm => tm⟩ ⟨fun env tm => true⟩
  ⟨opStep ⟨fun call env tm ds h K => kO (fieldPtr 2 (tg tm 1)) ds h K⟩ ⟨fun v tm => tm⟩ ⟨fun env tm => isB true (nthD 0 env)⟩
  ⟨opStep ⟨fun call env tm ds h K => kO (fieldPtr 0 (nthD 0 env)) ds h K⟩ ⟨fun v tm => tm⟩ ⟨fun env tm => isB true (nthD 1 env)⟩
  ⟨opStep ⟨fun call env tm ds h K => kO (loadOne h (nthD 0 env)) ds h K⟩ ⟨fun v tm => tm⟩ ⟨fun env tm => isB true (nthD 2 env)⟩
  ⟨opStep ⟨fun call env tm ds h K => kO (binV Try.prog .eql 5 true (nthD 0 env) (.int .u8 (0))) ds h K⟩ ⟨fun v tm => tm⟩ ⟨fun env tm => isB true (nthD 3 env)⟩
  ⟨opStep ⟨fun call env tm ds h K => kO (pickV (nthD 4 env) (nthD 0 env) (.bool false)) ds h K⟩ ⟨fun v tm => tm⟩ ⟨fun env tm => true⟩
  ⟨opStep ⟨fun call env tm ds h K => kO (some (nthD 0 env)) ds h K⟩ ⟨fun v tm => tm⟩ ⟨fun env tm => true⟩
  ⟨opStep ⟨fun call env tm ds h K => kO (fieldPtr 2 (tg tm 1)) ds h K⟩ ⟨fun v tm => tm⟩ ⟨fun env tm => isB true (nthD 0 env)⟩
  ⟨opStep ⟨fun call env tm ds h K => kO (fieldPtr 2 (nthD 0 env)) ds h K⟩ ⟨fun v tm => tm⟩ ⟨fun env tm => isB true (nthD 1 env)⟩
  ⟨opStep ⟨fun call env tm ds h K => kO (loadOne h (nthD 0 env)) ds h K⟩ ⟨fun v tm => tm⟩ ⟨fun env tm => isB true (nthD 2 env)⟩
  ⟨opStep ⟨fun call env tm ds h K => kO (binV Try.prog .eql 23 true (nthD 0 env) (.int .u64 (0))) ds h K⟩ ⟨fun v tm => tm⟩ ⟨fun env tm => isB true (nthD 3 env)⟩
  ⟨opStep ⟨fun call env tm ds h K => kO (pickV (nthD 4 env) (nthD 0 env) (.bool false)) ds h K⟩ ⟨fun v tm => tm⟩ ⟨fun env tm => true⟩
  ⟨opStep ⟨fun call env tm ds h K => kO (some (nthD 0 env)) ds h K⟩ ⟨fun v tm => tm⟩ ⟨fun env tm => true⟩
  ⟨opStep ⟨fun call env tm ds h K => kO (fieldPtr 2 (tg tm 1)) ds h K⟩ ⟨fun v tm => tm⟩ ⟨fun env tm => isB true (nthD 0 env)⟩
  ⟨opStep ⟨fun call env tm ds h K => kO (fieldPtr 1 (nthD 0 env)) ds h K⟩ ⟨fun v tm => tm⟩ ⟨fun env tm => isB true (nthD 1 env)⟩
  ⟨opStep ⟨fun call env tm ds h K => kO (loadOne h (nthD 0 env)) ds h K⟩ ⟨fun v tm => tm⟩ ⟨fun env tm => isB true (nthD 2 env)⟩
  ⟨opStep ⟨fun call env tm ds h K => kO (lenSl (nthD 0 env)) ds h K⟩ ⟨fun v tm => tm⟩ ⟨fun env tm => isB true (nthD 3 env)⟩
  ⟨opStep ⟨fun call env tm ds h K => kO (binV Try.prog .eql 3 true (nthD 0 env) (.int .i64 (0))) ds h K⟩ ⟨fun v tm => tm⟩ ⟨fun env tm => isB true (nthD 4 env)⟩
  ⟨opStep ⟨fun call env tm ds h K => kO (pickV (nthD 5 env) (nthD 0 env) (.bool false)) ds h K⟩ ⟨fun v tm => tm⟩ ⟨fun env tm => true⟩
  ⟨opStep ⟨fun call env tm ds h K => kO (some (nthD 0 env)) ds h K⟩ ⟨fun v tm => (T.set tm 3 v)⟩ ⟨fun env tm => true⟩
  ⟨fun _ _ tm ds h K => K .norm tm ds h⟩⟩⟩⟩⟩⟩⟩⟩⟩⟩⟩⟩⟩⟩⟩⟩⟩⟩⟩⟩⟩⟩⟩⟩ : Box OpsT).f call [] tm ds h K
noncomputable def r15_6 : CodeT := fun call _ tm ds h K =>
  kO (fieldPtr 0 (tg tm 1)) ds h (fun v0 ds h =>
  kO (loadOne h v0) ds h (fun v1 ds h =>
  kO (binV Try.prog .eql 5 true v1 (.int .u8 (7))) ds h (fun v2 ds h =>
  K .norm (T.set tm 46 v2) ds h)))
noncomputable def r15_7 : CodeT := fun call _ tm ds h K => (⟨opStep ⟨fun call env tm ds h K => kO (some (tg tm 3)) ds h K⟩ ⟨fun v tm => tm⟩ ⟨fun env tm => true⟩
  ⟨opStep ⟨fun call env tm ds h K => kO (some (nthD 0 env)) ds h K⟩ ⟨fun v tm => tm⟩ ⟨fun env tm => true⟩
  ⟨opStep ⟨fun call env tm ds h K => kO (fieldPtr 6 (tg tm 1)) ds h K⟩ ⟨fun v tm => tm⟩ ⟨fun env tm => isB true (nthD 0 env)⟩
  ⟨opStep ⟨fun call env tm ds h K => kO (loadOne h (nthD 0 env)) ds h K⟩ ⟨fun v tm => tm⟩ ⟨fun env tm => isB true (nthD 1 env)⟩
  ⟨opStep ⟨fun call env tm ds h K => kO (lenStr (nthD 0 env)) ds h K⟩ ⟨fun v tm => tm⟩ ⟨fun env tm => isB true (nthD 2 env)⟩
  ⟨opStep ⟨fun call env tm ds h K => kO (binV Try.prog .geq 3 true (nthD 0 env) (.int .i64 (1))) ds h K⟩ ⟨fun v tm => tm⟩ ⟨fun env tm => isB true (nthD 3 env)⟩
  ⟨opStep ⟨fun call env tm ds h K => kO (pickV (nthD 4 env) (nthD 0 env) (.bool false)) ds h K⟩ ⟨fun v tm => tm⟩ ⟨fun env tm => true⟩
  ⟨opStep ⟨fun call env tm ds h K => kO (some (nthD 0 env)) ds h K⟩ ⟨fun v tm => tm⟩ ⟨fun env tm => true⟩
  ⟨opStep ⟨fun call env tm ds h K => kO (fieldPtr 6 (tg tm 1)) ds h K⟩ ⟨fun v tm => tm⟩ ⟨fun env tm => isB true (nthD 0 env)⟩
  ⟨opStep ⟨fun call env tm ds h K => kO (loadOne h (nthD 0 env)) ds h K⟩ ⟨fun v tm => tm⟩ ⟨fun env tm => isB true (nthD 1 env)⟩
  ⟨opStep ⟨fun call env tm ds h K => kO (lenStr (nthD 0 env)) ds h K⟩ ⟨fun v tm => tm⟩ ⟨fun env tm => isB true (nthD 2 env)⟩
  ⟨opStep ⟨fun call env tm ds h K => kO (binV Try.prog .leq 3 true (nthD 0 env) (.int .i64 (32))) ds h K⟩ ⟨fun v tm => tm⟩ ⟨fun env tm => isB true (nthD 3 env)⟩
  ⟨opStep ⟨fun call env tm ds h K => kO (pickV (nthD 4 env) (nthD 0 env) (.bool false)) ds h K⟩ ⟨fun v tm => tm⟩ ⟨fun env tm => true⟩
  ⟨opStep ⟨fun call env tm ds h K => kO (some (nthD 0 env)) ds h K⟩ ⟨fun v tm => (T.set tm 3 v)⟩ ⟨fun env tm => true⟩
  ⟨fun _ _ tm ds h K => K .norm tm ds h⟩⟩⟩⟩⟩⟩⟩⟩⟩⟩⟩⟩⟩⟩⟩ : Box OpsT).f call [] tm ds h K
noncomputable def r15_8 : CodeT := fun call _ tm ds h K => (⟨opStep ⟨fun call env tm ds h K => kO (some (tg tm 3)) ds h K⟩ ⟨fun v tm => tm⟩ ⟨fun env tm => true⟩
  ⟨opStep ⟨fun call env tm ds h K => kO (some (nthD 0 env)) ds h K⟩ ⟨fun v tm => tm⟩ ⟨fun env tm => true⟩
  ⟨opStep ⟨fun call env tm ds h K => kO (fieldPtr 6 (tg tm 1)) ds h K⟩ ⟨fun v tm => tm⟩ ⟨fun env tm => isB true (nthD 0 env)⟩
  ⟨opStep ⟨fun call env tm ds h K => kO (loadOne h (nthD 0 env)) ds h K⟩ ⟨fun v tm => tm⟩ ⟨fun env tm => isB true (nthD 1 env)⟩
  ⟨opStep ⟨fun call env tm ds h K => kO (binV Try.prog .eql 9 true (nthD 0 env) (.string (strB []))) ds h K⟩ ⟨fun v tm => tm⟩ ⟨fun env tm => isB true (nthD 2 env)⟩
  ⟨opStep ⟨fun call env tm ds h K => kO (pickV (nthD 3 env) (nthD 0 env) (.bool false)) ds h K⟩ ⟨fun v tm => tm⟩ ⟨fun env tm => true⟩
  ⟨opStep ⟨fun call env tm ds h K => kO (some (nthD 0 env)) ds h K⟩ ⟨fun v tm => (T.set tm 3 v)⟩ ⟨fun env tm => true⟩
  ⟨fun _ _ tm ds h K => K .norm tm ds h⟩⟩⟩⟩⟩⟩⟩⟩ : Box OpsT).f call [] tm ds h K
noncomputable def r15_9 : CodeT := fun call _ tm ds h K => (⟨opStep ⟨fun call env tm ds h K => kO (some (tg tm 3)) ds h K⟩ ⟨fun v tm => tm⟩ ⟨fun env tm => true⟩
  ⟨opStep ⟨fun call env tm ds h K => kO (unV .not (nthD 0 env)) ds h K⟩ ⟨fun v tm => tm⟩ ⟨fun env tm => true⟩
  ⟨opStep ⟨fun call env tm ds h K => kO (some (nthD 0 env)) ds h K⟩ ⟨fun v tm => tm⟩ ⟨fun env tm => true⟩
  ⟨opStep ⟨fun call env tm ds h K => kO (fieldPtr 5 (tg tm 1)) ds h K⟩ ⟨fun v tm => tm⟩ ⟨fun env tm => isB false (nthD 0 env)⟩
  ⟨opStep ⟨fun call env tm ds h K => kO (loadOne h (nthD 0 env)) ds h K⟩ ⟨fun v tm => tm⟩ ⟨fun env tm => isB false (nthD 1 env)⟩
  ⟨opStep ⟨fun call env tm ds h K => kO (some (nthD 0 env)) ds h K⟩ ⟨fun v tm => tm⟩ ⟨fun env tm => isB false (nthD 2 env)⟩
  ⟨opStep ⟨fun call env tm ds h K => kO (fieldPtr 0 (tg tm 1)) ds h K⟩ ⟨fun v tm => tm⟩ ⟨fun env tm => isB true (nthD 0 env)⟩
  ⟨opStep ⟨fun call env tm ds h K => kO (loadOne h (nthD 0 env)) ds h K⟩ ⟨fun v tm => tm⟩ ⟨fun env tm => isB true (nthD 1 env)⟩
  ⟨opStep ⟨fun call env tm ds h K => kO (binV Try.prog .neq 5 true (nthD 0 env) (.int .u8 (2))) ds h K⟩ ⟨fun v tm => tm⟩ ⟨fun env tm => isB true (nthD 2 env)⟩
  ⟨opStep ⟨fun call env tm ds h K => kO (pickV (nthD 3 env) (nthD 0 env) (.bool false)) ds h K⟩ ⟨fun v tm => tm⟩ ⟨fun env tm => isB false (nthD 6 env)⟩
  ⟨opStep ⟨fun call env tm ds h K => kO (some (nthD 0 env)) ds h K⟩ ⟨fun v tm => tm⟩ ⟨fun env tm => isB false (nthD 7 env)⟩
  ⟨opStep ⟨fun call env tm ds h K => kO (fieldPtr 0 (tg tm 1)) ds h K⟩ ⟨fun v tm => tm⟩ ⟨fun env tm => isB true (nthD 0 env)⟩
  ⟨opStep ⟨fun call env tm ds h K => kO (loadOne h (nthD 0 env)) ds h K⟩ ⟨fun v tm => tm⟩ ⟨fun env tm => isB true (nthD 1 env)⟩
  ⟨opStep ⟨fun call env tm ds h K => kO (binV Try.prog .neq 5 true (nthD 0 env) (.int .u8 (3))) ds h K⟩ ⟨fun v tm => tm⟩ ⟨fun env tm => isB true (nthD 2 env)⟩
  ⟨opStep ⟨fun call env tm ds h K => kO (pickV (nthD 3 env) (nthD 0 env) (.bool false)) ds h K⟩ ⟨fun v tm => tm⟩ ⟨fun env tm => isB false (nthD 11 env)⟩
  ⟨opStep ⟨fun call env tm ds h K => kO (pickV (nthD 12 env) (.bool true) (nthD 0 env)) ds h K⟩ ⟨fun v tm => (T.set tm 81 v)⟩ ⟨fun env tm => true⟩
  ⟨fun _ _ tm ds h K => K .norm tm ds h⟩⟩⟩⟩⟩⟩⟩⟩⟩⟩⟩⟩⟩⟩⟩⟩⟩ : Box OpsT).f call [] tm ds h K
noncomputable def r15_10 : CodeT := fun call _ tm ds h K =>
  K .norm (T.set tm 2 (.int .i64 (8))) ds h
noncomputable def r15_11 : CodeT := fun call _ tm ds h K =>
  K .norm (T.set tm 2 (.int .i64 (0))) ds h
noncomputable def c15 : Box CodeT := ⟨seqC ⟨r15_0⟩ ⟨seqC ⟨r15_1⟩ ⟨seqC ⟨blockC 0 ⟨seqC ⟨r15_2⟩ ⟨condC ⟨fun _ tm => tg tm 4⟩ ⟨r15_3⟩ ⟨seqC ⟨r15_4⟩ ⟨condC ⟨fun _ tm => tg tm 13⟩ ⟨r15_5⟩ skipC⟩⟩⟩⟩⟩ ⟨seqC ⟨seqC ⟨r15_6⟩ ⟨condC ⟨fun _ tm => tg tm 46⟩ ⟨r15_7⟩ ⟨r15_8⟩⟩⟩ ⟨seqC ⟨seqC ⟨r15_9⟩ ⟨condC ⟨fun _ tm => tg tm 81⟩ ⟨seqC ⟨r15_10⟩ retC⟩ skipC⟩⟩ ⟨seqC ⟨r15_11⟩ retC⟩⟩⟩⟩⟩⟩
noncomputable def q15 : Box (T Value → H → Option (List Value)) := ⟨fun tm h => some [tg tm 2]⟩

/-! 16 cloakroom/packed.result -/
noncomputable def r16_0 : CodeT := fun call _ tm ds h K =>
  kA (some (.rw (Value.cells (tg tm 0)).toList, ptrTo h.next)) ds h (fun v0 ds h =>
  K .norm (T.set (T.set tm 1 v0) 2 (.slice none 0 0)) ds h)
noncomputable def r16_1 : CodeT := fun call _ tm ds h K =>
  kO (fieldPtr 1 (tg tm 1)) ds h (fun v0 ds h =>
  kO (loadOne h v0) ds h (fun v1 ds h =>
  kO (fieldPtr 2 (tg tm 1)) ds h (fun v2 ds h =>
  kO (fieldPtr 0 v2) ds h (fun v3 ds h =>
  kO (loadOne h v3) ds h (fun v4 ds h =>
  kA (mkLit 2 h.next (fill (repl [(.int .u8 (0))] 2) (pl 1) [(0, v1), (1, v4)])) ds h (fun v5 ds h =>
  K .norm (T.set tm 3 v5) ds h))))))
noncomputable def r16_2 : CodeT := fun call _ tm ds h0 K =>
  (fun (b0 : Nat) (h : H) =>
  kO (fieldPtr 2 (tg tm 1)) ds h (fun v1 ds h =>
  kO (fieldPtr 2 v1) ds h (fun v2 ds h =>
  kO (loadOne h v2) ds h (fun v3 ds h =>
  kO (fieldPtr 2 (tg tm 1)) ds h (fun v5 ds h =>
  kO (fieldPtr 1 v5) ds h (fun v6 ds h =>
  kO (loadOne h v6) ds h (fun v7 ds h =>
  kO (lenSl v7) ds h (fun v8 ds h =>
  kO (toInt .u64 v8) ds h (fun v9 ds h =>
  call 29 [v3] h (fun v h => (fun v4 ds h =>
  andB (hO (loadOne h v6) v7 true) (call 29 [v9] h (fun v h => (fun v10 ds h =>
  aO (mkLit 2 (b0 + 11) (fill (repl [(.slice none 0 0)] 2) (pl 1) [(0, v4), (1, v10)])) (fun x11 v11 =>
  call 28 [(tg tm 3), v11] (H.put h (b0 + 11) x11) (fun v h => (fun v12 ds h =>
  K .norm (T.set tm 3 v12) ds h) v ds h))) v ds h))) v ds h)))))))))) h0.next ⟨h0.objs, h0.next + 14⟩
noncomputable def r16_3 : CodeT := fun call _ tm ds h K =>
  kO (fieldPtr 2 (tg tm 1)) ds h (fun v0 ds h =>
  kO (fieldPtr 1 v0) ds h (fun v1 ds h =>
  kO (loadOne h v1) ds h (fun v2 ds h =>
  kO (lenSl v2) ds h (fun v3 ds h =>
  K .norm (T.set (T.set (T.set tm 27 v2) 28 v3) 29 (.int .i64 (0))) ds h))))
noncomputable def r16_4 : CodeT := fun call _ tm ds h K =>
  kO (binV Try.prog .lss 3 false (tg tm 29) (tg tm 28)) ds h (fun v0 ds h =>
  K .norm (T.set tm 30 v0) ds h)
noncomputable def r16_5 : CodeT := fun call _ tm ds h K =>
  kO (indexSl 5 (tg tm 27) (tg tm 29)) ds h (fun v0 ds h =>
  kO (loadAgg 5 h v0) ds h (fun v1 ds h =>
  kA (some (.rw [(.string (strB [])), (.string (strB [])), (.int .u32 (0)), (.int .i64 (0)), (.int .u64 (0))], ptrTo h.next)) ds h (fun v2 ds h =>
  kH (withV undef (storeV 5 h v2 v1)) ds (fun v3 ds h =>
  K .norm (T.set tm 5 v2) ds h))))
noncomputable def r16_6 : CodeT := fun call _ tm ds h0 K =>
  (fun (b0 : Nat) (h : H) =>
  kO (fieldPtr 0 (tg tm 5)) ds h (fun v1 ds h =>
  kO (loadOne h v1) ds h (fun v2 ds h =>
  kO (fieldPtr 1 (tg tm 5)) ds h (fun v4 ds h =>
  kO (loadOne h v4) ds h (fun v5 ds h =>
  kO (fieldPtr 2 (tg tm 5)) ds h (fun v7 ds h =>
  kO (loadOne h v7) ds h (fun v8 ds h =>
  kO (toInt .u64 v8) ds h (fun v9 ds h =>
  kO (fieldPtr 3 (tg tm 5)) ds h (fun v11 ds h =>
  kO (loadOne h v11) ds h (fun v12 ds h =>
  kO (toInt .u64 v12) ds h (fun v13 ds h =>
  kO (fieldPtr 4 (tg tm 5)) ds h (fun v15 ds h =>
  kO (loadOne h v15) ds h (fun v16 ds h =>
  call 30 [v2] h (fun v h => (fun v3 ds h =>
  andB (hO (loadOne h v15) v16 (hO (loadOne h v11) v12 (hO (loadOne h v7) v8 (hO (loadOne h v4) v5 true)))) (call 30 [v5] h (fun v h => (fun v6 ds h =>
  andB (hO (loadOne h v15) v16 (hO (loadOne h v11) v12 (hO (loadOne h v7) v8 true))) (call 29 [v9] h (fun v h => (fun v10 ds h =>
  andB (hO (loadOne h v15) v16 (hO (loadOne h v11) v12 true)) (call 29 [v13] h (fun v h => (fun v14 ds h =>
  andB (hO (loadOne h v15) v16 true) (call 29 [v16] h (fun v h => (fun v17 ds h =>
  aO (mkLit 5 (b0 + 18) (fill (repl [(.slice none 0 0)] 5) (pl 1) [(0, v3), (1, v6), (2, v10), (3, v14), (4, v17)])) (fun x18 v18 =>
  call 28 [(tg tm 3), v18] (H.put h (b0 + 18) x18) (fun v h => (fun v19 ds h =>
  K .norm (T.set tm 3 v19) ds h) v ds h))) v ds h))) v ds h))) v ds h))) v ds h))) v ds h)))))))))))))) h0.next ⟨h0.objs, h0.next + 21⟩
noncomputable def r16_7 : CodeT := fun call _ tm ds h K =>
  kO (binV Try.prog .add 3 true (tg tm 29) (.int .i64 (1))) ds h (fun v0 ds h =>
  K .norm (T.set tm 29 v0) ds h)
noncomputable def l16_8 : Box CodeT := ⟨seqC ⟨r16_4⟩ ⟨seqC ⟨condC ⟨fun _ tm => tg tm 30⟩ skipC (exitC 0)⟩ ⟨seqC ⟨blockC 1 ⟨seqC ⟨r16_5⟩ ⟨r16_6⟩⟩⟩ ⟨r16_7⟩⟩⟩⟩
noncomputable def r16_8 : CodeT := fun call _ tm ds h K =>
  K .norm (T.set tm 2 (tg tm 3)) ds h
noncomputable def c16 : Box CodeT := ⟨seqC ⟨r16_0⟩ ⟨seqC ⟨r16_1⟩ ⟨seqC ⟨r16_2⟩ ⟨seqC ⟨seqC ⟨r16_3⟩ ⟨blockC 0 (loopB l16_8)⟩⟩ ⟨seqC ⟨r16_8⟩ retC⟩⟩⟩⟩⟩
noncomputable def q16 : Box (T Value → H → Option (List Value)) := ⟨fun tm h => some [tg tm 2]⟩

/-! 17 cloakroom/packed.flag -/
noncomputable def r17_0 : CodeT := fun call _ tm ds h K =>
  K .norm (T.set tm 2 (.slice none 0 0)) ds h
noncomputable def r17_1 : CodeT := fun call _ tm ds h K =>
  K .norm (T.set tm 3 (tg tm 0)) ds h
noncomputable def r17_2 : CodeT := fun call _ tm ds h K =>
  kA (mkLit 1 h.next (fill (repl [(.int .u8 (0))] 1) (pl 1) [(0, (.int .u8 (1)))])) ds h (fun v0 ds h =>
  K .norm (T.set tm 2 v0) ds h)
noncomputable def r17_3 : CodeT := fun call _ tm ds h K =>
  kA (mkLit 1 h.next (fill (repl [(.int .u8 (0))] 1) (pl 1) [(0, (.int .u8 (0)))])) ds h (fun v0 ds h =>
  K .norm (T.set tm 2 v0) ds h)
noncomputable def c17 : Box CodeT := ⟨seqC ⟨r17_0⟩ ⟨seqC ⟨seqC ⟨r17_1⟩ ⟨condC ⟨fun _ tm => tg tm 3⟩ ⟨seqC ⟨r17_2⟩ retC⟩ skipC⟩⟩ ⟨seqC ⟨r17_3⟩ retC⟩⟩⟩
noncomputable def q17 : Box (T Value → H → Option (List Value)) := ⟨fun tm h => some [tg tm 2]⟩

/-! 18 cloakroom/binary.Packet -/
noncomputable def r18_0 : CodeT := fun call _ tm ds h K =>
  K .norm (T.set (T.set tm 6 (.slice none 0 0)) 7 (.int .i64 (0))) ds h
noncomputable def r18_1 : CodeT := fun call _ tm ds h K =>
  kO (lenSl (tg tm 2)) ds h (fun v1 ds h =>
  kO (binV Try.prog .gtr 3 true v1 (.int .i64 (4096))) ds h (fun v2 ds h =>
  K .norm (T.set tm 10 v2) ds h))
noncomputable def r18_2 : CodeT := fun call _ tm ds h K =>
  K .norm (T.set (T.set tm 6 (.slice none 0 0)) 7 (.int .i64 (3))) ds h
noncomputable def r18_3 : CodeT := fun call _ tm ds h K =>
  call 31 [(tg tm 0), (tg tm 1), (tg tm 2)] h (fun v h => (fun v3 ds h =>
  K .norm (T.set (T.set tm 6 v3) 7 (.int .i64 (0))) ds h) v ds h)
noncomputable def c18 : Box CodeT := ⟨seqC ⟨r18_0⟩ ⟨seqC ⟨seqC ⟨r18_1⟩ ⟨condC ⟨fun _ tm => tg tm 10⟩ ⟨seqC ⟨r18_2⟩ retC⟩ skipC⟩⟩ ⟨seqC ⟨r18_3⟩ retC⟩⟩⟩
noncomputable def q18 : Box (T Value → H → Option (List Value)) := ⟨fun tm h => some [tg tm 6, tg tm 7]⟩

/-! 19 cloakroom/cloakroomref15.May -/
noncomputable def r19_0 : CodeT := fun call _ tm ds h K =>
  kA (some (.rw (Value.cells (tg tm 0)).toList, ptrTo h.next)) ds h (fun v0 ds h =>
  K .norm (T.set (T.set tm 1 v0) 2 (.bool false)) ds h)
noncomputable def r19_1 : CodeT := fun call _ tm ds h K => (⟨opStep ⟨fun call env tm ds h K => kO (fieldPtr 0 (tg tm 1)) ds h K⟩ ⟨fun v tm => tm⟩ ⟨fun env tm => true⟩
  ⟨opStep ⟨fun call env tm ds h K => kO (loadOne h (nthD 0 env)) ds h K⟩ ⟨fun v tm => tm⟩ ⟨fun env tm => true⟩
  ⟨opStep ⟨fun call env tm ds h K => kO (binV Try.prog .lss 5 true (nthD 0 env) (.int .u8 (1))) ds h K⟩ ⟨fun v tm => tm⟩ ⟨fun env tm => true⟩
  ⟨opStep ⟨fun call env tm ds h K => kO (some (nthD 0 env)) ds h K⟩ ⟨fun v tm => tm⟩ ⟨fun env tm => true⟩
  ⟨opStep ⟨fun call env tm ds h K => kO (fieldPtr 0 (tg tm 1)) ds h K⟩ ⟨fun v tm => tm⟩ ⟨fun env tm => isB false (nthD 0 env)⟩
  ⟨opStep ⟨fun call env tm ds h K => kO (loadOne h (nthD 0 env)) ds h K⟩ ⟨fun v tm => tm⟩ ⟨fun env tm => isB false (nthD 1 env)⟩
  ⟨opStep ⟨fun call env tm ds h K => kO (binV Try.prog .gtr 5 true (nthD 0 env) (.int .u8 (7))) ds h K⟩ ⟨fun v tm => tm⟩ ⟨fun env tm => isB false (nthD 2 env)⟩
  ⟨opStep ⟨fun call env tm ds h K => kO (pickV (nthD 3 env) (.bool true) (nthD 0 env)) ds h K⟩ ⟨fun v tm => tm⟩ ⟨fun env tm => true⟩
  ⟨opStep ⟨fun call env tm ds h K => kO (some (nthD 0 env)) ds h K⟩ ⟨fun v tm => tm⟩ ⟨fun env tm => true⟩
  ⟨opStep ⟨fun call env tm ds h K => kO (fieldPtr 5 (tg tm 1)) ds h K⟩ ⟨fun v tm => tm⟩ ⟨fun env tm => isB false (nthD 0 env)⟩
  ⟨opStep ⟨fun call env tm ds h K => kO (loadOne h (nthD 0 env)) ds h K⟩ ⟨fun v tm => tm⟩ ⟨fun env tm => isB false (nthD 1 env)⟩
  ⟨opStep ⟨fun call env tm ds h K => kO (some (nthD 0 env)) ds h K⟩ ⟨fun v tm => tm⟩ ⟨fun env tm => isB false (nthD 2 env)⟩
  ⟨opStep ⟨fun call env tm ds h K => kO (fieldPtr 0 (tg tm 1)) ds h K⟩ ⟨fun v tm => tm⟩ ⟨fun env tm => isB true (nthD 0 env)⟩
  ⟨opStep ⟨fun call env tm ds h K => kO (loadOne h (nthD 0 env)) ds h K⟩ ⟨fun v tm => tm⟩ ⟨fun env tm => isB true (nthD 1 env)⟩
  ⟨opStep ⟨fun call env tm ds h K => kO (binV Try.prog .neq 5 true (nthD 0 env) (.int .u8 (2))) ds h K⟩ ⟨fun v tm => tm⟩ ⟨fun env tm => isB true (nthD 2 env)⟩
  ⟨opStep ⟨fun call env tm ds h K => kO (pickV (nthD 3 env) (nthD 0 env) (.bool false)) ds h K⟩ ⟨fun v tm => tm⟩ ⟨fun env tm => isB false (nthD 6 env)⟩
  ⟨opStep ⟨fun call env tm ds h K => kO (some (nthD 0 env)) ds h K⟩ ⟨fun v tm => tm⟩ ⟨fun env tm => isB false (nthD 7 env)⟩
  ⟨opStep ⟨fun call env tm ds h K => kO (fieldPtr 0 (tg tm 1)) ds h K⟩ ⟨fun v tm => tm⟩ ⟨fun env tm => isB true (nthD 0 env)⟩
  ⟨opStep ⟨fun call env tm ds h K => kO (loadOne h (nthD 0 env)) ds h K⟩ ⟨fun v tm => tm⟩ ⟨fun env tm => isB true (nthD 1 env)⟩
  ⟨opStep ⟨fun call env tm ds h K => kO (binV Try.prog .neq 5 true (nthD 0 env) (.int .u8 (3))) ds h K⟩ ⟨fun v tm => tm⟩ ⟨fun env tm => isB true (nthD 2 env)⟩
  ⟨opStep ⟨fun call env tm ds h K => kO (pickV (nthD 3 env) (nthD 0 env) (.bool false)) ds h K⟩ ⟨fun v tm => tm⟩ ⟨fun env tm => isB false (nthD 11 env)⟩
  ⟨opStep ⟨fun call env tm ds h K => kO (pickV (nthD 12 env) (.bool true) (nthD 0 env)) ds h K⟩ ⟨fun v tm => (T.set tm 26 v)⟩ ⟨fun env tm => true⟩
  ⟨fun _ _ tm ds h K => K .norm tm ds h⟩⟩⟩⟩⟩⟩⟩⟩⟩⟩⟩⟩⟩⟩⟩⟩⟩⟩⟩⟩⟩⟩⟩ : Box OpsT).f call [] tm ds h K
noncomputable def r19_2 : CodeT := fun call _ tm ds h K =>
  K .norm (T.set tm 2 (.bool false)) ds h
noncomputable def r19_3 : CodeT := fun call _ tm ds h K => (⟨opStep ⟨fun call env tm ds h K => kO (fieldPtr 0 (tg tm 1)) ds h K⟩ ⟨fun v tm => tm⟩ ⟨fun env tm => true⟩
  ⟨opStep ⟨fun call env tm ds h K => kO (loadOne h (nthD 0 env)) ds h K⟩ ⟨fun v tm => tm⟩ ⟨fun env tm => true⟩
  ⟨opStep ⟨fun call env tm ds h K => kO (binV Try.prog .eql 5 true (nthD 0 env) (.int .u8 (7))) ds h K⟩ ⟨fun v tm => tm⟩ ⟨fun env tm => true⟩
  ⟨opStep ⟨fun call env tm ds h K => kO (some (nthD 0 env)) ds h K⟩ ⟨fun v tm => tm⟩ ⟨fun env tm => true⟩
  ⟨opStep ⟨fun call env tm ds h K => kO (fieldPtr 6 (tg tm 1)) ds h K⟩ ⟨fun v tm => tm⟩ ⟨fun env tm => isB true (nthD 0 env)⟩
  ⟨opStep ⟨fun call env tm ds h K => kO (loadOne h (nthD 0 env)) ds h K⟩ ⟨fun v tm => tm⟩ ⟨fun env tm => isB true (nthD 1 env)⟩
  ⟨opStep ⟨fun call env tm ds h K => kO (lenStr (nthD 0 env)) ds h K⟩ ⟨fun v tm => tm⟩ ⟨fun env tm => isB true (nthD 2 env)⟩
  ⟨opStep ⟨fun call env tm ds h K => kO (binV Try.prog .lss 3 true (nthD 0 env) (.int .i64 (1))) ds h K⟩ ⟨fun v tm => tm⟩ ⟨fun env tm => isB true (nthD 3 env)⟩
  ⟨opStep ⟨fun call env tm ds h K => kO (some (nthD 0 env)) ds h K⟩ ⟨fun v tm => tm⟩ ⟨fun env tm => isB true (nthD 4 env)⟩
  ⟨opStep ⟨fun call env tm ds h K => kO (fieldPtr 6 (tg tm 1)) ds h K⟩ ⟨fun v tm => tm⟩ ⟨fun env tm => isB false (nthD 0 env)⟩
  ⟨opStep ⟨fun call env tm ds h K => kO (loadOne h (nthD 0 env)) ds h K⟩ ⟨fun v tm => tm⟩ ⟨fun env tm => isB false (nthD 1 env)⟩
  ⟨opStep ⟨fun call env tm ds h K => kO (lenStr (nthD 0 env)) ds h K⟩ ⟨fun v tm => tm⟩ ⟨fun env tm => isB false (nthD 2 env)⟩
  ⟨opStep ⟨fun call env tm ds h K => kO (binV Try.prog .gtr 3 true (nthD 0 env) (.int .i64 (32))) ds h K⟩ ⟨fun v tm => tm⟩ ⟨fun env tm => isB false (nthD 3 env)⟩
  ⟨opStep ⟨fun call env tm ds h K => kO (pickV (nthD 4 env) (.bool true) (nthD 0 env)) ds h K⟩ ⟨fun v tm => tm⟩ ⟨fun env tm => isB true (nthD 9 env)⟩
  ⟨opStep ⟨fun call env tm ds h K => kO (pickV (nthD 10 env) (nthD 0 env) (.bool false)) ds h K⟩ ⟨fun v tm => tm⟩ ⟨fun env tm => true⟩
  ⟨opStep ⟨fun call env tm ds h K => kO (some (nthD 0 env)) ds h K⟩ ⟨fun v tm => tm⟩ ⟨fun env tm => true⟩
  ⟨opStep ⟨fun call env tm ds h K => kO (fieldPtr 0 (tg tm 1)) ds h K⟩ ⟨fun v tm => tm⟩ ⟨fun env tm => isB false (nthD 0 env)⟩
  ⟨opStep ⟨fun call env tm ds h K => kO (loadOne h (nthD 0 env)) ds h K⟩ ⟨fun v tm => tm⟩ ⟨fun env tm => isB false (nthD 1 env)⟩
  ⟨opStep ⟨fun call env tm ds h K => kO (binV Try.prog .neq 5 true (nthD 0 env) (.int .u8 (7))) ds h K⟩ ⟨fun v tm => tm⟩ ⟨fun env tm => isB false (nthD 2 env)⟩
  ⟨opStep ⟨fun call env tm ds h K => kO (some (nthD 0 env)) ds h K⟩ ⟨fun v tm => tm⟩ ⟨fun env tm => isB false (nthD 3 env)⟩
  ⟨opStep ⟨fun call env tm ds h K => kO (fieldPtr 6 (tg tm 1)) ds h K⟩ ⟨fun v tm => tm⟩ ⟨fun env tm => isB true (nthD 0 env)⟩
  ⟨opStep ⟨fun call env tm ds h K => kO (loadOne h (nthD 0 env)) ds h K⟩ ⟨fun v tm => tm⟩ ⟨fun env tm => isB true (nthD 1 env)⟩
  ⟨opStep ⟨fun call env tm ds h K => kO (binV Try.prog .neq 9 true (nthD 0 env) (.string (strB []))) ds h K⟩ ⟨fun v tm => tm⟩ ⟨fun env tm => isB true (nthD 2 env)⟩
  ⟨opStep ⟨fun call env tm ds h K => kO (pickV (nthD 3 env) (nthD 0 env) (.bool false)) ds h K⟩ ⟨fun v tm => tm⟩ ⟨fun env tm => isB false (nthD 7 env)⟩
  ⟨opStep ⟨fun call env tm ds h K => kO (pickV (nthD 8 env) (.bool true) (nthD 0 env)) ds h K⟩ ⟨fun v tm => (T.set tm 51 v)⟩ ⟨fun env tm => true⟩
  ⟨fun _ _ tm ds h K => K .norm tm ds h⟩⟩⟩⟩⟩⟩⟩⟩⟩⟩⟩⟩⟩⟩⟩⟩⟩⟩⟩⟩⟩⟩⟩⟩⟩⟩ : Box OpsT).f call [] tm ds h K
noncomputable def r19_4 : CodeT := fun call _ tm ds h K =>
  K .norm (T.set tm 2 (.bool false)) ds h
noncomputable def r19_5 : CodeT := fun call _ tm ds h K =>
  kO (fieldPtr 2 (tg tm 1)) ds h (fun v0 ds h =>
  kO (loadAgg 3 h v0) ds h (fun v1 ds h =>
  kA (some (.rw [(.int .u8 (0)), (.slice none 0 0), (.int .u64 (0))], ptrTo h.next)) ds h (fun v2 ds h =>
  kH (withV undef (storeV 3 h v2 v1)) ds (fun v3 ds h =>
  K .norm (T.set tm 3 v2) ds h))))
noncomputable def r19_6 : CodeT := fun call _ tm ds h K =>
  kO (fieldPtr 0 (tg tm 1)) ds h (fun v0 ds h =>
  kO (loadOne h v0) ds h (fun v1 ds h =>
  kO (binV Try.prog .neq 5 true v1 (.int .u8 (1))) ds h (fun v2 ds h =>
  K .norm (T.set tm 56 v2) ds h)))
noncomputable def r19_7 : CodeT := fun call _ tm ds h K => (⟨opStep ⟨fun call env tm ds h K => kO (fieldPtr 1 (tg tm 1)) ds h K⟩ ⟨fun v tm => tm⟩ ⟨fun env tm => true⟩
  ⟨opStep ⟨fun call env tm ds h K => kO (loadOne h (nthD 0 env)) ds h K⟩ ⟨fun v tm => tm⟩ ⟨fun env tm => true⟩
  ⟨opStep ⟨fun call env tm ds h K => kO (binV Try.prog .eql 5 true (nthD 0 env) (.int .u8 (0))) ds h K⟩ ⟨fun v tm => tm⟩ ⟨fun env tm => true⟩
  ⟨opStep ⟨fun call env tm ds h K => kO (some (nthD 0 env)) ds h K⟩ ⟨fun v tm => tm⟩ ⟨fun env tm => true⟩
  ⟨opStep ⟨fun call env tm ds h K => kO (fieldPtr 0 (tg tm 3)) ds h K⟩ ⟨fun v tm => tm⟩ ⟨fun env tm => isB true (nthD 0 env)⟩
  ⟨opStep ⟨fun call env tm ds h K => kO (loadOne h (nthD 0 env)) ds h K⟩ ⟨fun v tm => tm⟩ ⟨fun env tm => isB true (nthD 1 env)⟩
  ⟨opStep ⟨fun call env tm ds h K => kO (binV Try.prog .eql 5 true (nthD 0 env) (.int .u8 (0))) ds h K⟩ ⟨fun v tm => tm⟩ ⟨fun env tm => isB true (nthD 2 env)⟩
  ⟨opStep ⟨fun call env tm ds h K => kO (pickV (nthD 3 env) (nthD 0 env) (.bool false)) ds h K⟩ ⟨fun v tm => tm⟩ ⟨fun env tm => true⟩
  ⟨opStep ⟨fun call env tm ds h K => kO (some (nthD 0 env)) ds h K⟩ ⟨fun v tm => tm⟩ ⟨fun env tm => true⟩
  ⟨opStep ⟨fun call env tm ds h K => kO (fieldPtr 2 (tg tm 3)) ds h K⟩ ⟨fun v tm => tm⟩ ⟨fun env tm => isB true (nthD 0 env)⟩
  ⟨opStep ⟨fun call env tm ds h K => kO (loadOne h (nthD 0 env)) ds h K⟩ ⟨fun v tm => tm⟩ ⟨fun env tm => isB true (nthD 1 env)⟩
  ⟨opStep ⟨fun call env tm ds h K => kO (binV Try.prog .eql 23 true (nthD 0 env) (.int .u64 (0))) ds h K⟩ ⟨fun v tm => tm⟩ ⟨fun env tm => isB true (nthD 2 env)⟩
  ⟨opStep ⟨fun call env tm ds h K => kO (pickV (nthD 3 env) (nthD 0 env) (.bool false)) ds h K⟩ ⟨fun v tm => tm⟩ ⟨fun env tm => true⟩
  ⟨opStep ⟨fun call env tm ds h K => kO (some (nthD 0 env)) ds h K⟩ ⟨fun v tm => tm⟩ ⟨fun env tm => true⟩
  ⟨opStep ⟨fun call env tm ds h K => kO (fieldPtr 1 (tg tm 3)) ds h K⟩ ⟨fun v tm => tm⟩ ⟨fun env tm => isB true (nthD 0 env)⟩
  ⟨opStep ⟨fun call env tm ds h K => kO (loadOne h (nthD 0 env)) ds h K⟩ ⟨fun v tm => tm⟩ ⟨fun env tm => isB true (nthD 1 env)⟩
  ⟨opStep ⟨fun call env tm ds h K => kO (lenSl (nthD 0 env)) ds h K⟩ ⟨fun v tm => tm⟩ ⟨fun env tm => isB true (nthD 2 env)⟩
  ⟨opStep ⟨fun call env tm ds h K => kO (binV Try.prog .eql 3 true (nthD 0 env) (.int .i64 (0))) ds h K⟩ ⟨fun v tm => tm⟩ ⟨fun env tm => isB true (nthD 3 env)⟩
  ⟨opStep ⟨fun call env tm ds h K => kO (pickV (nthD 4 env) (nthD 0 env) (.bool false)) ds h K⟩ ⟨fun v tm => tm⟩ ⟨fun env tm => true⟩
  ⟨opStep ⟨fun call env tm ds h K => kO (some (nthD 0 env)) ds h K⟩ ⟨fun v tm => (T.set tm 2 v)⟩ ⟨fun env tm => true⟩
  ⟨fun _ _ tm ds h K => K .norm tm ds h⟩⟩⟩⟩⟩⟩⟩⟩⟩⟩⟩⟩⟩⟩⟩⟩⟩⟩⟩⟩⟩ : Box OpsT).f call [] tm ds h K
noncomputable def r19_8 : CodeT := fun call _ tm ds h K => (⟨opStep ⟨fun call env tm ds h K => kO (fieldPtr 1 (tg tm 1)) ds h K⟩ ⟨fun v tm => tm⟩ ⟨fun env tm => true⟩
  ⟨opStep ⟨fun call env tm ds h K => kO (loadOne h (nthD 0 env)) ds h K⟩ ⟨fun v tm => tm⟩ ⟨fun env tm => true⟩
  ⟨opStep ⟨fun call env tm ds h K => kO (binV Try.prog .lss 5 true (nthD 0 env) (.int .u8 (1))) ds h K⟩ ⟨fun v tm => tm⟩ ⟨fun env tm => true⟩
  ⟨opStep ⟨fun call env tm ds h K => kO (some (nthD 0 env)) ds h K⟩ ⟨fun v tm => tm⟩ ⟨fun env tm => true⟩
  ⟨opStep ⟨fun call env tm ds h K => kO (fieldPtr 1 (tg tm 1)) ds h K⟩ ⟨fun v tm => tm⟩ ⟨fun env tm => isB false (nthD 0 env)⟩
  ⟨opStep ⟨fun call env tm ds h K => kO (loadOne h (nthD 0 env)) ds h K⟩ ⟨fun v tm => tm⟩ ⟨fun env tm => isB false (nthD 1 env)⟩
  ⟨opStep ⟨fun call env tm ds h K => kO (binV Try.prog .gtr 5 true (nthD 0 env) (.int .u8 (11))) ds h K⟩ ⟨fun v tm => tm⟩ ⟨fun env tm => isB false (nthD 2 env)⟩
  ⟨opStep ⟨fun call env tm ds h K => kO (pickV (nthD 3 env) (.bool true) (nthD 0 env)) ds h K⟩ ⟨fun v tm => tm⟩ ⟨fun env tm => true⟩
  ⟨opStep ⟨fun call env tm ds h K => kO (some (nthD 0 env)) ds h K⟩ ⟨fun v tm => tm⟩ ⟨fun env tm => true⟩
  ⟨opStep ⟨fun call env tm ds h K => kO (fieldPtr 0 (tg tm 3)) ds h K⟩ ⟨fun v tm => tm⟩ ⟨fun env tm => isB false (nthD 0 env)⟩
  ⟨opStep ⟨fun call env tm ds h K => kO (loadOne h (nthD 0 env)) ds h K⟩ ⟨fun v tm => tm⟩ ⟨fun env tm => isB false (nthD 1 env)⟩
  ⟨opStep ⟨fun call env tm ds h K => kO (binV Try.prog .lss 5 true (nthD 0 env) (.int .u8 (1))) ds h K⟩ ⟨fun v tm => tm⟩ ⟨fun env tm => isB false (nthD 2 env)⟩
  ⟨opStep ⟨fun call env tm ds h K => kO (pickV (nthD 3 env) (.bool true) (nthD 0 env)) ds h K⟩ ⟨fun v tm => tm⟩ ⟨fun env tm => true⟩
  ⟨opStep ⟨fun call env tm ds h K => kO (some (nthD 0 env)) ds h K⟩ ⟨fun v tm => tm⟩ ⟨fun env tm => true⟩
  ⟨opStep ⟨fun call env tm ds h K => kO (fieldPtr 0 (tg tm 3)) ds h K⟩ ⟨fun v tm => tm⟩ ⟨fun env tm => isB false (nthD 0 env)⟩
  ⟨opStep ⟨fun call env tm ds h K => kO (loadOne h (nthD 0 env)) ds h K⟩ ⟨fun v tm => tm⟩ ⟨fun env tm => isB false (nthD 1 env)⟩
  ⟨opStep ⟨fun call env tm ds h K => kO (binV Try.prog .gtr 5 true (nthD 0 env) (.int .u8 (7))) ds h K⟩ ⟨fun v tm => tm⟩ ⟨fun env tm => isB false (nthD 2 env)⟩
  ⟨opStep ⟨fun call env tm ds h K => kO (pickV (nthD 3 env) (.bool true) (nthD 0 env)) ds h K⟩ ⟨fun v tm => tm⟩ ⟨fun env tm => true⟩
  ⟨opStep ⟨fun call env tm ds h K => kO (some (nthD 0 env)) ds h K⟩ ⟨fun v tm => tm⟩ ⟨fun env tm => true⟩
  ⟨opStep ⟨fun call env tm ds h K => kO (fieldPtr 1 (tg tm 3)) ds h K⟩ ⟨fun v tm => tm⟩ ⟨fun env tm => isB false (nthD 0 env)⟩
  ⟨opStep ⟨fun call env tm ds h K => kO (loadOne h (nthD 0 env)) ds h K⟩ ⟨fun v tm => tm⟩ ⟨fun env tm => isB false (nthD 1 env)⟩
  ⟨opStep ⟨fun call env tm ds h K => kO (lenSl (nthD 0 env)) ds h K⟩ ⟨fun v tm => tm⟩ ⟨fun env tm => isB false (nthD 2 env)⟩
  ⟨opStep ⟨fun call env tm ds h K => kO (binV Try.prog .gtr 3 true (nthD 0 env) (.int .i64 (8))) ds h K⟩ ⟨fun v tm => tm⟩ ⟨fun env tm => isB false (nthD 3 env)⟩
  ⟨opStep ⟨fun call env tm ds h K => kO (pickV (nthD 4 env) (.bool true) (nthD 0 env)) ds h K⟩ ⟨fun v tm => (T.set tm 99 v)⟩ ⟨fun env tm => true⟩
  ⟨fun _ _ tm ds h K => K .norm tm ds h⟩⟩⟩⟩⟩⟩⟩⟩⟩⟩⟩⟩⟩⟩⟩⟩⟩⟩⟩⟩⟩⟩⟩⟩⟩ : Box OpsT).f call [] tm ds h K
noncomputable def r19_9 : CodeT := fun call _ tm ds h K =>
  K .norm (T.set tm 2 (.bool false)) ds h
noncomputable def r19_10 : CodeT := fun call _ tm ds h K => (⟨opStep ⟨fun call env tm ds h K => kO (fieldPtr 1 (tg tm 3)) ds h K⟩ ⟨fun v tm => tm⟩ ⟨fun env tm => true⟩
  ⟨opStep ⟨fun call env tm ds h K => kO (loadOne h (nthD 0 env)) ds h K⟩ ⟨fun v tm => tm⟩ ⟨fun env tm => true⟩
  ⟨opStep ⟨fun call env tm ds h K => kO (lenSl (nthD 0 env)) ds h K⟩ ⟨fun v tm => tm⟩ ⟨fun env tm => true⟩
  ⟨opStep ⟨fun call env tm ds h K => kO (binV Try.prog .gtr 3 true (nthD 0 env) (.int .i64 (0))) ds h K⟩ ⟨fun v tm => tm⟩ ⟨fun env tm => true⟩
  ⟨opStep ⟨fun call env tm ds h K => kO (some (nthD 0 env)) ds h K⟩ ⟨fun v tm => tm⟩ ⟨fun env tm => true⟩
  ⟨opStep ⟨fun call env tm ds h K => kO (fieldPtr 1 (tg tm 1)) ds h K⟩ ⟨fun v tm => tm⟩ ⟨fun env tm => isB true (nthD 0 env)⟩
  ⟨opStep ⟨fun call env tm ds h K => kO (loadOne h (nthD 0 env)) ds h K⟩ ⟨fun v tm => tm⟩ ⟨fun env tm => isB true (nthD 1 env)⟩
  ⟨opStep ⟨fun call env tm ds h K => kO (binV Try.prog .neq 5 true (nthD 0 env) (.int .u8 (1))) ds h K⟩ ⟨fun v tm => tm⟩ ⟨fun env tm => isB true (nthD 2 env)⟩
  ⟨opStep ⟨fun call env tm ds h K => kO (some (nthD 0 env)) ds h K⟩ ⟨fun v tm => tm⟩ ⟨fun env tm => isB true (nthD 3 env)⟩
  ⟨opStep ⟨fun call env tm ds h K => kO (fieldPtr 0 (tg tm 3)) ds h K⟩ ⟨fun v tm => tm⟩ ⟨fun env tm => isB false (nthD 0 env)⟩
  ⟨opStep ⟨fun call env tm ds h K => kO (loadOne h (nthD 0 env)) ds h K⟩ ⟨fun v tm => tm⟩ ⟨fun env tm => isB false (nthD 1 env)⟩
  ⟨opStep ⟨fun call env tm ds h K => kO (binV Try.prog .neq 5 true (nthD 0 env) (.int .u8 (1))) ds h K⟩ ⟨fun v tm => tm⟩ ⟨fun env tm => isB false (nthD 2 env)⟩
  ⟨opStep ⟨fun call env tm ds h K => kO (pickV (nthD 3 env) (.bool true) (nthD 0 env)) ds h K⟩ ⟨fun v tm => tm⟩ ⟨fun env tm => isB true (nthD 7 env)⟩
  ⟨opStep ⟨fun call env tm ds h K => kO (pickV (nthD 8 env) (nthD 0 env) (.bool false)) ds h K⟩ ⟨fun v tm => tm⟩ ⟨fun env tm => true⟩
  ⟨opStep ⟨fun call env tm ds h K => kO (some (nthD 0 env)) ds h K⟩ ⟨fun v tm => tm⟩ ⟨fun env tm => true⟩
  ⟨opStep ⟨fun call env tm ds h K => kO (fieldPtr 2 (tg tm 3)) ds h K⟩ ⟨fun v tm => tm⟩ ⟨fun env tm => isB false (nthD 0 env)⟩
  ⟨opStep ⟨fun call env tm ds h K => kO (loadOne h (nthD 0 env)) ds h K⟩ ⟨fun v tm => tm⟩ ⟨fun env tm => isB false (nthD 1 env)⟩
  ⟨opStep ⟨fun call env tm ds h K => kO (binV Try.prog .neq 23 true (nthD 0 env) (.int .u64 (0))) ds h K⟩ ⟨fun v tm => tm⟩ ⟨fun env tm => isB false (nthD 2 env)⟩
  ⟨opStep ⟨fun call env tm ds h K => kO (some (nthD 0 env)) ds h K⟩ ⟨fun v tm => tm⟩ ⟨fun env tm => isB false (nthD 3 env)⟩
  ⟨opStep ⟨fun call env tm ds h K => kO (fieldPtr 1 (tg tm 1)) ds h K⟩ ⟨fun v tm => tm⟩ ⟨fun env tm => isB true (nthD 0 env)⟩
  ⟨opStep ⟨fun call env tm ds h K => kO (loadOne h (nthD 0 env)) ds h K⟩ ⟨fun v tm => tm⟩ ⟨fun env tm => isB true (nthD 1 env)⟩
  ⟨opStep ⟨fun call env tm ds h K => call 32 [(nthD 0 env)] h (fun v h => (K) v ds h)⟩ ⟨fun v tm => tm⟩ ⟨fun env tm => isB true (nthD 2 env)⟩
  ⟨opStep ⟨fun call env tm ds h K => kO (unV .not (nthD 0 env)) ds h K⟩ ⟨fun v tm => tm⟩ ⟨fun env tm => isB true (nthD 3 env)⟩
  ⟨opStep ⟨fun call env tm ds h K => kO (some (nthD 0 env)) ds h K⟩ ⟨fun v tm => tm⟩ ⟨fun env tm => isB true (nthD 4 env)⟩
  ⟨opStep ⟨fun call env tm ds h K => kO (fieldPtr 0 (tg tm 3)) ds h K⟩ ⟨fun v tm => tm⟩ ⟨fun env tm => isB false (nthD 0 env)⟩
  ⟨opStep ⟨fun call env tm ds h K => kO (loadOne h (nthD 0 env)) ds h K⟩ ⟨fun v tm => tm⟩ ⟨fun env tm => isB false (nthD 1 env)⟩
  ⟨opStep ⟨fun call env tm ds h K => kO (binV Try.prog .neq 5 true (nthD 0 env) (.int .u8 (1))) ds h K⟩ ⟨fun v tm => tm⟩ ⟨fun env tm => isB false (nthD 2 env)⟩
  ⟨opStep ⟨fun call env tm ds h K => kO (pickV (nthD 3 env) (.bool true) (nthD 0 env)) ds h K⟩ ⟨fun v tm => tm⟩ ⟨fun env tm => isB true (nthD 8 env)⟩
  ⟨opStep ⟨fun call env tm ds h K => kO (pickV (nthD 9 env) (nthD 0 env) (.bool false)) ds h K⟩ ⟨fun v tm => tm⟩ ⟨fun env tm => isB false (nthD 13 env)⟩
  ⟨opStep ⟨fun call env tm ds h K => kO (pickV (nthD 14 env) (.bool true) (nthD 0 env)) ds h K⟩ ⟨fun v tm => tm⟩ ⟨fun env tm => true⟩
  ⟨opStep ⟨fun call env tm ds h K => kO (some (nthD 0 env)) ds h K⟩ ⟨fun v tm => tm⟩ ⟨fun env tm => true⟩
  ⟨opStep ⟨fun call env tm ds h K => kO (fieldPtr 1 (tg tm 1)) ds h K⟩ ⟨fun v tm => tm⟩ ⟨fun env tm => isB false (nthD 0 env)⟩
  ⟨opStep ⟨fun call env tm ds h K => kO (loadOne h (nthD 0 env)) ds h K⟩ ⟨fun v tm => tm⟩ ⟨fun env tm => isB false (nthD 1 env)⟩
  ⟨opStep ⟨fun call env tm ds h K => kO (binV Try.prog .eql 5 true (nthD 0 env) (.int .u8 (10))) ds h K⟩ ⟨fun v tm => tm⟩ ⟨fun env tm => isB false (nthD 2 env)⟩
  ⟨opStep ⟨fun call env tm ds h K => kO (some (nthD 0 env)) ds h K⟩ ⟨fun v tm => tm⟩ ⟨fun env tm => isB false (nthD 3 env)⟩
  ⟨opStep ⟨fun call env tm ds h K => kO (fieldPtr 2 (tg tm 3)) ds h K⟩ ⟨fun v tm => tm⟩ ⟨fun env tm => isB true (nthD 0 env)⟩
  ⟨opStep ⟨fun call env tm ds h K => kO (loadOne h (nthD 0 env)) ds h K⟩ ⟨fun v tm => tm⟩ ⟨fun env tm => isB true (nthD 1 env)⟩
  ⟨opStep ⟨fun call env tm ds h K => kO (binV Try.prog .gtr 23 true (nthD 0 env) (.int .u64 (8))) ds h K⟩ ⟨fun v tm => tm⟩ ⟨fun env tm => isB true (nthD 2 env)⟩
  ⟨opStep ⟨fun call env tm ds h K => kO (pickV (nthD 3 env) (nthD 0 env) (.bool false)) ds h K⟩ ⟨fun v tm => tm⟩ ⟨fun env tm => isB false (nthD 7 env)⟩
  ⟨opStep ⟨fun call env tm ds h K => kO (pickV (nthD 8 env) (.bool true) (nthD 0 env)) ds h K⟩ ⟨fun v tm => (T.set tm 139 v)⟩ ⟨fun env tm => true⟩
  ⟨fun _ _ tm ds h K => K .norm tm ds h⟩⟩⟩⟩⟩⟩⟩⟩⟩⟩⟩⟩⟩⟩⟩⟩⟩⟩⟩⟩⟩⟩⟩⟩⟩⟩⟩⟩⟩⟩⟩⟩⟩⟩⟩⟩⟩⟩⟩⟩⟩ : Box OpsT).f call [] tm ds h K
noncomputable def r19_11 : CodeT := fun call _ tm ds h K =>
  K .norm (T.set tm 2 (.bool false)) ds h
noncomputable def r19_12 : CodeT := fun call _ tm ds h K =>
  K .norm (T.set tm 4 (.int .i64 (0))) ds h
noncomputable def r19_13 : CodeT := fun call _ tm ds h K =>
  kO (fieldPtr 1 (tg tm 3)) ds h (fun v1 ds h =>
  kO (loadOne h v1) ds h (fun v2 ds h =>
  kO (lenSl v2) ds h (fun v3 ds h =>
  kO (binV Try.prog .lss 3 false (tg tm 4) v3) ds h (fun v4 ds h =>
  K .norm (T.set tm 144 v4) ds h))))
noncomputable def r19_15 : CodeT := fun call _ tm ds h K =>
  kO (fieldPtr 1 (tg tm 3)) ds h (fun v0 ds h =>
  kO (loadOne h v0) ds h (fun v1 ds h =>
  kO (indexSl 5 v1 (tg tm 4)) ds h (fun v3 ds h =>
  kO (loadAgg 5 h v3) ds h (fun v4 ds h =>
  call 33 [v4] h (fun v h => (fun v5 ds h =>
  kO (binV Try.prog .neq 3 true v5 (.int .i64 (0))) ds h (fun v6 ds h =>
  K .norm (T.set tm 153 v6) ds h)) v ds h)))))
noncomputable def r19_16 : CodeT := fun call _ tm ds h K =>
  K .norm (T.set tm 2 (.bool false)) ds h
noncomputable def r19_14 : CodeT := fun call _ tm ds h K =>
  kO (binV Try.prog .add 3 true (tg tm 4) (.int .i64 (1))) ds h (fun v1 ds h =>
  K .norm (T.set tm 4 v1) ds h)
noncomputable def l19_17 : Box CodeT := ⟨seqC ⟨seqC ⟨r19_13⟩ ⟨condC ⟨fun _ tm => tg tm 144⟩ skipC (exitC 0)⟩⟩ ⟨seqC ⟨blockC 1 ⟨seqC ⟨r19_15⟩ ⟨condC ⟨fun _ tm => tg tm 153⟩ ⟨seqC ⟨r19_16⟩ retC⟩ skipC⟩⟩⟩ ⟨r19_14⟩⟩⟩
noncomputable def r19_17 : CodeT := fun call _ tm ds h K =>
  K .norm (T.set tm 2 (.bool true)) ds h
noncomputable def c19 : Box CodeT := ⟨seqC ⟨r19_0⟩ ⟨seqC ⟨seqC ⟨r19_1⟩ ⟨condC ⟨fun _ tm => tg tm 26⟩ ⟨seqC ⟨r19_2⟩ retC⟩ skipC⟩⟩ ⟨seqC ⟨seqC ⟨r19_3⟩ ⟨condC ⟨fun _ tm => tg tm 51⟩ ⟨seqC ⟨r19_4⟩ retC⟩ skipC⟩⟩ ⟨seqC ⟨r19_5⟩ ⟨seqC ⟨seqC ⟨r19_6⟩ ⟨condC ⟨fun _ tm => tg tm 56⟩ ⟨seqC ⟨r19_7⟩ retC⟩ skipC⟩⟩ ⟨seqC ⟨seqC ⟨r19_8⟩ ⟨condC ⟨fun _ tm => tg tm 99⟩ ⟨seqC ⟨r19_9⟩ retC⟩ skipC⟩⟩ ⟨seqC ⟨seqC ⟨r19_10⟩ ⟨condC ⟨fun _ tm => tg tm 139⟩ ⟨seqC ⟨r19_11⟩ retC⟩ skipC⟩⟩ ⟨seqC ⟨seqC ⟨r19_12⟩ ⟨blockC 0 (loopB l19_17)⟩⟩ ⟨seqC ⟨r19_17⟩ retC⟩⟩⟩⟩⟩⟩⟩⟩⟩
noncomputable def q19 : Box (T Value → H → Option (List Value)) := ⟨fun tm h => some [tg tm 2]⟩

/-! 20 cloakroom/cloakroomref17.Body -/
noncomputable def r20_0 : CodeT := fun call _ tm ds h K =>
  kA (some (.rw (Value.cells (tg tm 0)).toList, ptrTo h.next)) ds h (fun v0 ds h =>
  K .norm (T.set (T.set tm 1 v0) 2 (.slice none 0 0)) ds h)
noncomputable def r20_1 : CodeT := fun call _ tm ds h K =>
  K .norm (T.set tm 3 (.slice none 0 0)) ds h
noncomputable def r20_2 : CodeT := fun call _ tm ds h K =>
  kO (fieldPtr 0 (tg tm 1)) ds h (fun v0 ds h =>
  kO (loadOne h v0) ds h (fun v1 ds h =>
  K .norm (T.set tm 7 v1) ds h))
noncomputable def r20_3 : CodeT := fun call _ tm ds h K =>
  kO (binV Try.prog .eql 5 true (tg tm 7) (.int .u8 (1))) ds h (fun v0 ds h =>
  K .norm (T.set tm 8 v0) ds h)
noncomputable def r20_4 : CodeT := fun call _ tm ds h K =>
  kO (fieldPtr 1 (tg tm 1)) ds h (fun v1 ds h =>
  kO (loadOne h v1) ds h (fun v2 ds h =>
  kO (fieldPtr 2 (tg tm 1)) ds h (fun v3 ds h =>
  kO (fieldPtr 0 v3) ds h (fun v4 ds h =>
  kO (loadOne h v4) ds h (fun v5 ds h =>
  kA (mkLit 2 h.next (fill (repl [(.int .u8 (0))] 2) (pl 1) [(0, v2), (1, v5)])) ds h (fun v6 ds h =>
  kH (appendV 1 1 h (tg tm 3) v6) ds (fun v7 ds h =>
  K .norm (T.set tm 3 v7) ds h)))))))
noncomputable def r20_5 : CodeT := fun call _ tm ds h K =>
  kO (fieldPtr 2 (tg tm 1)) ds h (fun v1 ds h =>
  kO (fieldPtr 2 v1) ds h (fun v2 ds h =>
  kO (loadOne h v2) ds h (fun v3 ds h =>
  call 34 [v3] h (fun v h => (fun v4 ds h =>
  kH (appendV 1 1 h (tg tm 3) v4) ds (fun v5 ds h =>
  K .norm (T.set tm 3 v5) ds h)) v ds h))))
noncomputable def r20_6 : CodeT := fun call _ tm ds h K =>
  kO (fieldPtr 2 (tg tm 1)) ds h (fun v1 ds h =>
  kO (fieldPtr 1 v1) ds h (fun v2 ds h =>
  kO (loadOne h v2) ds h (fun v3 ds h =>
  kO (lenSl v3) ds h (fun v4 ds h =>
  kO (toInt .u64 v4) ds h (fun v5 ds h =>
  call 34 [v5] h (fun v h => (fun v6 ds h =>
  kH (appendV 1 1 h (tg tm 3) v6) ds (fun v7 ds h =>
  K .norm (T.set tm 3 v7) ds h)) v ds h))))))
noncomputable def r20_7 : CodeT := fun call _ tm ds h K =>
  K .norm (T.set tm 4 (.int .i64 (0))) ds h
noncomputable def r20_8 : CodeT := fun call _ tm ds h K =>
  kO (fieldPtr 2 (tg tm 1)) ds h (fun v1 ds h =>
  kO (fieldPtr 1 v1) ds h (fun v2 ds h =>
  kO (loadOne h v2) ds h (fun v3 ds h =>
  kO (lenSl v3) ds h (fun v4 ds h =>
  kO (binV Try.prog .lss 3 false (tg tm 4) v4) ds h (fun v5 ds h =>
  K .norm (T.set tm 37 v5) ds h)))))
noncomputable def r20_10 : CodeT := fun call _ tm ds h K =>
  kO (fieldPtr 2 (tg tm 1)) ds h (fun v0 ds h =>
  kO (fieldPtr 1 v0) ds h (fun v1 ds h =>
  kO (loadOne h v1) ds h (fun v2 ds h =>
  kO (indexSl 5 v2 (tg tm 4)) ds h (fun v4 ds h =>
  kO (loadAgg 5 h v4) ds h (fun v5 ds h =>
  kA (some (.rw [(.string (strB [])), (.string (strB [])), (.int .u32 (0)), (.int .i64 (0)), (.int .u64 (0))], ptrTo h.next)) ds h (fun v6 ds h =>
  kH (withV undef (storeV 5 h v6 v5)) ds (fun v7 ds h =>
  K .norm (T.set tm 5 v6) ds h)))))))
noncomputable def r20_11 : CodeT := fun call _ tm ds h K =>
  kO (fieldPtr 0 (tg tm 5)) ds h (fun v1 ds h =>
  kO (loadOne h v1) ds h (fun v2 ds h =>
  call 35 [v2] h (fun v h => (fun v3 ds h =>
  kH (appendV 1 1 h (tg tm 3) v3) ds (fun v4 ds h =>
  K .norm (T.set tm 3 v4) ds h)) v ds h)))
noncomputable def r20_12 : CodeT := fun call _ tm ds h K =>
  kO (fieldPtr 1 (tg tm 5)) ds h (fun v1 ds h =>
  kO (loadOne h v1) ds h (fun v2 ds h =>
  call 35 [v2] h (fun v h => (fun v3 ds h =>
  kH (appendV 1 1 h (tg tm 3) v3) ds (fun v4 ds h =>
  K .norm (T.set tm 3 v4) ds h)) v ds h)))
noncomputable def r20_13 : CodeT := fun call _ tm ds h K =>
  kO (fieldPtr 2 (tg tm 5)) ds h (fun v1 ds h =>
  kO (loadOne h v1) ds h (fun v2 ds h =>
  kO (toInt .u64 v2) ds h (fun v3 ds h =>
  call 34 [v3] h (fun v h => (fun v4 ds h =>
  kH (appendV 1 1 h (tg tm 3) v4) ds (fun v5 ds h =>
  K .norm (T.set tm 3 v5) ds h)) v ds h))))
noncomputable def r20_14 : CodeT := fun call _ tm ds h K =>
  kO (fieldPtr 3 (tg tm 5)) ds h (fun v1 ds h =>
  kO (loadOne h v1) ds h (fun v2 ds h =>
  kO (toInt .u64 v2) ds h (fun v3 ds h =>
  call 34 [v3] h (fun v h => (fun v4 ds h =>
  kH (appendV 1 1 h (tg tm 3) v4) ds (fun v5 ds h =>
  K .norm (T.set tm 3 v5) ds h)) v ds h))))
noncomputable def r20_15 : CodeT := fun call _ tm ds h K =>
  kO (fieldPtr 4 (tg tm 5)) ds h (fun v1 ds h =>
  kO (loadOne h v1) ds h (fun v2 ds h =>
  call 34 [v2] h (fun v h => (fun v3 ds h =>
  kH (appendV 1 1 h (tg tm 3) v3) ds (fun v4 ds h =>
  K .norm (T.set tm 3 v4) ds h)) v ds h)))
noncomputable def r20_9 : CodeT := fun call _ tm ds h K =>
  kO (binV Try.prog .add 3 true (tg tm 4) (.int .i64 (1))) ds h (fun v1 ds h =>
  K .norm (T.set tm 4 v1) ds h)
noncomputable def l20_16 : Box CodeT := ⟨seqC ⟨seqC ⟨r20_8⟩ ⟨condC ⟨fun _ tm => tg tm 37⟩ skipC (exitC 1)⟩⟩ ⟨seqC ⟨blockC 2 ⟨seqC ⟨r20_10⟩ ⟨seqC ⟨r20_11⟩ ⟨seqC ⟨r20_12⟩ ⟨seqC ⟨r20_13⟩ ⟨seqC ⟨r20_14⟩ ⟨r20_15⟩⟩⟩⟩⟩⟩⟩ ⟨r20_9⟩⟩⟩
noncomputable def r20_16 : CodeT := fun call _ tm ds h K =>
  kO (binV Try.prog .eql 5 true (tg tm 7) (.int .u8 (2))) ds h (fun v0 ds h =>
  K .norm (T.set tm 73 v0) ds h)
noncomputable def r20_17 : CodeT := fun call _ tm ds h K =>
  kO (binV Try.prog .eql 5 true (tg tm 7) (.int .u8 (3))) ds h (fun v0 ds h =>
  K .norm (T.set tm 73 v0) ds h)
noncomputable def r20_18 : CodeT := fun call _ tm ds h K =>
  kO (fieldPtr 5 (tg tm 1)) ds h (fun v0 ds h =>
  kO (loadOne h v0) ds h (fun v1 ds h =>
  K .norm (T.set tm 77 v1) ds h))
noncomputable def r20_19 : CodeT := fun call _ tm ds h K =>
  kA (mkLit 1 h.next (fill (repl [(.int .u8 (0))] 1) (pl 1) [(0, (.int .u8 (1)))])) ds h (fun v1 ds h =>
  kH (appendV 1 1 h (tg tm 3) v1) ds (fun v2 ds h =>
  K .norm (T.set tm 3 v2) ds h))
noncomputable def r20_20 : CodeT := fun call _ tm ds h K =>
  kA (mkLit 1 h.next (fill (repl [(.int .u8 (0))] 1) (pl 1) [(0, (.int .u8 (0)))])) ds h (fun v1 ds h =>
  kH (appendV 1 1 h (tg tm 3) v1) ds (fun v2 ds h =>
  K .norm (T.set tm 3 v2) ds h))
noncomputable def r20_21 : CodeT := fun call _ tm ds h K =>
  kO (binV Try.prog .eql 5 true (tg tm 7) (.int .u8 (7))) ds h (fun v0 ds h =>
  K .norm (T.set tm 84 v0) ds h)
noncomputable def r20_22 : CodeT := fun call _ tm ds h K =>
  kO (fieldPtr 6 (tg tm 1)) ds h (fun v1 ds h =>
  kO (loadOne h v1) ds h (fun v2 ds h =>
  kH (appendV 1 1 h (tg tm 3) v2) ds (fun v3 ds h =>
  K .norm (T.set tm 3 v3) ds h)))
noncomputable def r20_23 : CodeT := fun call _ tm ds h K =>
  K .norm (T.set tm 2 (tg tm 3)) ds h
noncomputable def c20 : Box CodeT := ⟨seqC ⟨r20_0⟩ ⟨seqC ⟨r20_1⟩ ⟨seqC ⟨seqC ⟨r20_2⟩ ⟨blockC 0 ⟨seqC ⟨r20_3⟩ ⟨condC ⟨fun _ tm => tg tm 8⟩ ⟨seqC ⟨r20_4⟩ ⟨seqC ⟨r20_5⟩ ⟨seqC ⟨r20_6⟩ ⟨seqC ⟨r20_7⟩ ⟨blockC 1 (loopB l20_16)⟩⟩⟩⟩⟩ ⟨seqC ⟨seqC ⟨r20_16⟩ ⟨condC ⟨fun _ tm => tg tm 73⟩ skipC ⟨r20_17⟩⟩⟩ ⟨condC ⟨fun _ tm => tg tm 73⟩ ⟨seqC ⟨r20_18⟩ ⟨condC ⟨fun _ tm => tg tm 77⟩ ⟨r20_19⟩ ⟨r20_20⟩⟩⟩ ⟨seqC ⟨r20_21⟩ ⟨condC ⟨fun _ tm => tg tm 84⟩ ⟨r20_22⟩ skipC⟩⟩⟩⟩⟩⟩⟩⟩ ⟨seqC ⟨r20_23⟩ retC⟩⟩⟩⟩
noncomputable def q20 : Box (T Value → H → Option (List Value)) := ⟨fun tm h => some [tg tm 2]⟩

/-! 21 cloakroom/cloakroomref16.Made -/
noncomputable def r21_0 : CodeT := fun call _ tm ds h K =>
  K .norm (T.set tm 6 (.slice none 0 0)) ds h
noncomputable def r21_1 : CodeT := fun call _ tm ds h K =>
  kO (lenSl (tg tm 2)) ds h (fun v1 ds h =>
  K .norm (T.set tm 7 v1) ds h)
noncomputable def r21_2 : CodeT := fun call _ tm ds h K =>
  kO (binV Try.prog .quo 3 true (tg tm 7) (.int .i64 (16777216))) ds h (fun v3 ds h =>
  kO (toInt .u8 v3) ds h (fun v4 ds h =>
  kO (binV Try.prog .quo 3 true (tg tm 7) (.int .i64 (65536))) ds h (fun v6 ds h =>
  kO (toInt .u8 v6) ds h (fun v7 ds h =>
  kO (binV Try.prog .quo 3 true (tg tm 7) (.int .i64 (256))) ds h (fun v9 ds h =>
  kO (toInt .u8 v9) ds h (fun v10 ds h =>
  kO (toInt .u8 (tg tm 7)) ds h (fun v12 ds h =>
  kA (mkLit 6 h.next (fill (repl [(.int .u8 (0))] 6) (pl 1) [(0, (tg tm 0)), (1, (tg tm 1)), (2, v4), (3, v7), (4, v10), (5, v12)])) ds h (fun v13 ds h =>
  K .norm (T.set tm 8 v13) ds h))))))))
noncomputable def r21_3 : CodeT := fun call _ tm ds h K =>
  kH (appendV 1 1 h (tg tm 8) (tg tm 2)) ds (fun v2 ds h =>
  K .norm (T.set tm 6 v2) ds h)
noncomputable def c21 : Box CodeT := ⟨seqC ⟨r21_0⟩ ⟨seqC ⟨r21_1⟩ ⟨seqC ⟨r21_2⟩ ⟨seqC ⟨r21_3⟩ retC⟩⟩⟩⟩
noncomputable def q21 : Box (T Value → H → Option (List Value)) := ⟨fun tm h => some [tg tm 6]⟩

/-! 27 cloakroom/words.result -/
noncomputable def r27_0 : CodeT := fun call _ tm ds h K =>
  kA (some (.rw (Value.cells (tg tm 1)).toList, ptrTo h.next)) ds h (fun v0 ds h =>
  K .norm (T.set (T.set tm 3 v0) 4 (.bool false)) ds h)
noncomputable def r27_1 : CodeT := fun call _ tm ds h K =>
  kO (fieldPtr 0 (tg tm 3)) ds h (fun v0 ds h =>
  kO (loadOne h v0) ds h (fun v1 ds h =>
  kO (binV Try.prog .eql 5 true v1 (.int .u8 (1))) ds h (fun v2 ds h =>
  K .norm (T.set tm 5 v2) ds h)))
noncomputable def r27_2 : CodeT := fun call _ tm ds h K =>
  kO (binV Try.prog .lss 5 true (tg tm 0) (.int .u8 (1))) ds h (fun v1 ds h =>
  K .norm (T.set tm 9 v1) ds h)
noncomputable def r27_3 : CodeT := fun call _ tm ds h K =>
  kO (binV Try.prog .gtr 5 true (tg tm 0) (.int .u8 (11))) ds h (fun v1 ds h =>
  K .norm (T.set tm 9 v1) ds h)
noncomputable def r27_4 : CodeT := fun call _ tm ds h K =>
  kO (fieldPtr 0 (tg tm 3)) ds h (fun v0 ds h =>
  kO (loadOne h v0) ds h (fun v1 ds h =>
  kO (binV Try.prog .lss 5 true v1 (.int .u8 (1))) ds h (fun v2 ds h =>
  K .norm (T.set tm 9 v2) ds h)))
noncomputable def r27_5 : CodeT := fun call _ tm ds h K =>
  kO (fieldPtr 0 (tg tm 3)) ds h (fun v0 ds h =>
  kO (loadOne h v0) ds h (fun v1 ds h =>
  kO (binV Try.prog .gtr 5 true v1 (.int .u8 (7))) ds h (fun v2 ds h =>
  K .norm (T.set tm 9 v2) ds h)))
noncomputable def r27_6 : CodeT := fun call _ tm ds h K =>
  K .norm (T.set tm 4 (.bool false)) ds h
noncomputable def r27_7 : CodeT := fun call _ tm ds h K => (⟨opStep ⟨fun call env tm ds h K => kO (fieldPtr 1 (tg tm 3)) ds h K⟩ ⟨fun v tm => tm⟩ ⟨fun env tm => true⟩
  ⟨opStep ⟨fun call env tm ds h K => kO (loadOne h (nthD 0 env)) ds h K⟩ ⟨fun v tm => tm⟩ ⟨fun env tm => true⟩
  ⟨opStep ⟨fun call env tm ds h K => kO (lenSl (nthD 0 env)) ds h K⟩ ⟨fun v tm => tm⟩ ⟨fun env tm => true⟩
  ⟨opStep ⟨fun call env tm ds h K => kO (binV Try.prog .gtr 3 true (nthD 0 env) (.int .i64 (0))) ds h K⟩ ⟨fun v tm => tm⟩ ⟨fun env tm => true⟩
  ⟨opStep ⟨fun call env tm ds h K => kO (some (nthD 0 env)) ds h K⟩ ⟨fun v tm => tm⟩ ⟨fun env tm => true⟩
  ⟨opStep ⟨fun call env tm ds h K => kO (some (tg tm 5)) ds h K⟩ ⟨fun v tm => tm⟩ ⟨fun env tm => isB true (nthD 0 env)⟩
  ⟨opStep ⟨fun call env tm ds h K => kO (some (nthD 0 env)) ds h K⟩ ⟨fun v tm => tm⟩ ⟨fun env tm => isB true (nthD 1 env)⟩
  ⟨opStep ⟨fun call env tm ds h K => kO (some (tg tm 0)) ds h K⟩ ⟨fun v tm => tm⟩ ⟨fun env tm => isB true (nthD 0 env)⟩
  ⟨opStep ⟨fun call env tm ds h K => kO (binV Try.prog .eql 5 true (nthD 0 env) (.int .u8 (1))) ds h K⟩ ⟨fun v tm => tm⟩ ⟨fun env tm => isB true (nthD 1 env)⟩
  ⟨opStep ⟨fun call env tm ds h K => kO (pickV (nthD 2 env) (nthD 0 env) (.bool false)) ds h K⟩ ⟨fun v tm => tm⟩ ⟨fun env tm => isB true (nthD 4 env)⟩
  ⟨opStep ⟨fun call env tm ds h K => kO (unV .not (nthD 0 env)) ds h K⟩ ⟨fun v tm => tm⟩ ⟨fun env tm => isB true (nthD 5 env)⟩
  ⟨opStep ⟨fun call env tm ds h K => kO (pickV (nthD 6 env) (nthD 0 env) (.bool false)) ds h K⟩ ⟨fun v tm => tm⟩ ⟨fun env tm => true⟩
  ⟨opStep ⟨fun call env tm ds h K => kO (some (nthD 0 env)) ds h K⟩ ⟨fun v tm => (T.set tm 20 v)⟩ ⟨fun env tm => true⟩
  ⟨fun _ _ tm ds h K => K .norm tm ds h⟩⟩⟩⟩⟩⟩⟩⟩⟩⟩⟩⟩⟩⟩ : Box OpsT).f call [] tm ds h K
noncomputable def r27_8 : CodeT := fun call _ tm ds h K =>
  kO (fieldPtr 1 (tg tm 3)) ds h (fun v0 ds h =>
  kO (loadOne h v0) ds h (fun v1 ds h =>
  kO (lenSl v1) ds h (fun v2 ds h =>
  kO (binV Try.prog .gtr 3 true v2 (.int .i64 (8))) ds h (fun v3 ds h =>
  K .norm (T.set tm 20 v3) ds h))))
noncomputable def r27_9 : CodeT := fun call _ tm ds h K =>
  K .norm (T.set tm 4 (.bool false)) ds h
noncomputable def r27_10 : CodeT := fun call _ tm ds h K => (⟨opStep ⟨fun call env tm ds h K => kO (fieldPtr 2 (tg tm 3)) ds h K⟩ ⟨fun v tm => tm⟩ ⟨fun env tm => true⟩
  ⟨opStep ⟨fun call env tm ds h K => kO (loadOne h (nthD 0 env)) ds h K⟩ ⟨fun v tm => tm⟩ ⟨fun env tm => true⟩
  ⟨opStep ⟨fun call env tm ds h K => kO (binV Try.prog .neq 23 true (nthD 0 env) (.int .u64 (0))) ds h K⟩ ⟨fun v tm => tm⟩ ⟨fun env tm => true⟩
  ⟨opStep ⟨fun call env tm ds h K => kO (some (nthD 0 env)) ds h K⟩ ⟨fun v tm => tm⟩ ⟨fun env tm => true⟩
  ⟨opStep ⟨fun call env tm ds h K => kO (some (tg tm 5)) ds h K⟩ ⟨fun v tm => tm⟩ ⟨fun env tm => isB true (nthD 0 env)⟩
  ⟨opStep ⟨fun call env tm ds h K => kO (some (nthD 0 env)) ds h K⟩ ⟨fun v tm => tm⟩ ⟨fun env tm => isB true (nthD 1 env)⟩
  ⟨opStep ⟨fun call env tm ds h K => kO (some (tg tm 0)) ds h K⟩ ⟨fun v tm => tm⟩ ⟨fun env tm => isB true (nthD 0 env)⟩
  ⟨opStep ⟨fun call env tm ds h K => call 42 [(nthD 0 env)] h (fun v h => (K) v ds h)⟩ ⟨fun v tm => tm⟩ ⟨fun env tm => isB true (nthD 1 env)⟩
  ⟨opStep ⟨fun call env tm ds h K => kO (pickV (nthD 2 env) (nthD 0 env) (.bool false)) ds h K⟩ ⟨fun v tm => tm⟩ ⟨fun env tm => isB true (nthD 4 env)⟩
  ⟨opStep ⟨fun call env tm ds h K => kO (unV .not (nthD 0 env)) ds h K⟩ ⟨fun v tm => tm⟩ ⟨fun env tm => isB true (nthD 5 env)⟩
  ⟨opStep ⟨fun call env tm ds h K => kO (pickV (nthD 6 env) (nthD 0 env) (.bool false)) ds h K⟩ ⟨fun v tm => tm⟩ ⟨fun env tm => true⟩
  ⟨opStep ⟨fun call env tm ds h K => kO (some (nthD 0 env)) ds h K⟩ ⟨fun v tm => (T.set tm 37 v)⟩ ⟨fun env tm => true⟩
  ⟨fun _ _ tm ds h K => K .norm tm ds h⟩⟩⟩⟩⟩⟩⟩⟩⟩⟩⟩⟩⟩ : Box OpsT).f call [] tm ds h K
noncomputable def r27_11 : CodeT := fun call _ tm ds h K => (⟨opStep ⟨fun call env tm ds h K => kO (some (tg tm 0)) ds h K⟩ ⟨fun v tm => tm⟩ ⟨fun env tm => true⟩
  ⟨opStep ⟨fun call env tm ds h K => kO (binV Try.prog .eql 5 true (nthD 0 env) (.int .u8 (10))) ds h K⟩ ⟨fun v tm => tm⟩ ⟨fun env tm => true⟩
  ⟨opStep ⟨fun call env tm ds h K => kO (some (nthD 0 env)) ds h K⟩ ⟨fun v tm => tm⟩ ⟨fun env tm => true⟩
  ⟨opStep ⟨fun call env tm ds h K => kO (fieldPtr 2 (tg tm 3)) ds h K⟩ ⟨fun v tm => tm⟩ ⟨fun env tm => isB true (nthD 0 env)⟩
  ⟨opStep ⟨fun call env tm ds h K => kO (loadOne h (nthD 0 env)) ds h K⟩ ⟨fun v tm => tm⟩ ⟨fun env tm => isB true (nthD 1 env)⟩
  ⟨opStep ⟨fun call env tm ds h K => kO (binV Try.prog .gtr 23 true (nthD 0 env) (.int .u64 (8))) ds h K⟩ ⟨fun v tm => tm⟩ ⟨fun env tm => isB true (nthD 2 env)⟩
  ⟨opStep ⟨fun call env tm ds h K => kO (pickV (nthD 3 env) (nthD 0 env) (.bool false)) ds h K⟩ ⟨fun v tm => tm⟩ ⟨fun env tm => true⟩
  ⟨opStep ⟨fun call env tm ds h K => kO (some (nthD 0 env)) ds h K⟩ ⟨fun v tm => (T.set tm 37 v)⟩ ⟨fun env tm => true⟩
  ⟨fun _ _ tm ds h K => K .norm tm ds h⟩⟩⟩⟩⟩⟩⟩⟩⟩ : Box OpsT).f call [] tm ds h K
noncomputable def r27_12 : CodeT := fun call _ tm ds h K =>
  K .norm (T.set tm 4 (.bool false)) ds h
noncomputable def r27_13 : CodeT := fun call _ tm ds h K =>
  kO (fieldPtr 1 (tg tm 3)) ds h (fun v0 ds h =>
  kO (loadOne h v0) ds h (fun v1 ds h =>
  call 43 [v1, (.func (.func 44) #[] #[])] h (fun v h => (fun v2 ds h =>
  kO (unV .not v2) ds h (fun v3 ds h =>
  K .norm (T.set tm 4 v3) ds h)) v ds h)))
noncomputable def c27 : Box CodeT := ⟨seqC ⟨r27_0⟩ ⟨seqC ⟨r27_1⟩ ⟨seqC ⟨blockC 0 ⟨seqC ⟨seqC ⟨r27_2⟩ ⟨condC ⟨fun _ tm => tg tm 9⟩ skipC ⟨seqC ⟨r27_3⟩ ⟨condC ⟨fun _ tm => tg tm 9⟩ skipC ⟨seqC ⟨r27_4⟩ ⟨condC ⟨fun _ tm => tg tm 9⟩ skipC ⟨r27_5⟩⟩⟩⟩⟩⟩⟩ ⟨condC ⟨fun _ tm => tg tm 9⟩ ⟨seqC ⟨r27_6⟩ retC⟩ ⟨seqC ⟨seqC ⟨r27_7⟩ ⟨condC ⟨fun _ tm => tg tm 20⟩ skipC ⟨r27_8⟩⟩⟩ ⟨condC ⟨fun _ tm => tg tm 20⟩ ⟨seqC ⟨r27_9⟩ retC⟩ ⟨seqC ⟨seqC ⟨r27_10⟩ ⟨condC ⟨fun _ tm => tg tm 37⟩ skipC ⟨r27_11⟩⟩⟩ ⟨condC ⟨fun _ tm => tg tm 37⟩ ⟨seqC ⟨r27_12⟩ retC⟩ skipC⟩⟩⟩⟩⟩⟩⟩ ⟨seqC ⟨r27_13⟩ retC⟩⟩⟩⟩
noncomputable def q27 : Box (T Value → H → Option (List Value)) := ⟨fun tm h => some [tg tm 4]⟩

/-! 28 cloakroom/packed.behind -/
noncomputable def r28_0 : CodeT := fun call _ tm ds h K =>
  K .norm (T.set tm 4 (.slice none 0 0)) ds h
noncomputable def r28_1 : CodeT := fun call _ tm ds h K =>
  kO (lenSl (tg tm 1)) ds h (fun v1 ds h =>
  K .norm (T.set (T.set (T.set tm 7 (tg tm 1)) 8 v1) 9 (.int .i64 (0))) ds h)
noncomputable def r28_2 : CodeT := fun call _ tm ds h K =>
  kO (binV Try.prog .lss 3 false (tg tm 9) (tg tm 8)) ds h (fun v0 ds h =>
  K .norm (T.set tm 10 v0) ds h)
noncomputable def r28_3 : CodeT := fun call _ tm ds h K =>
  kO (indexSl 1 (tg tm 7) (tg tm 9)) ds h (fun v0 ds h =>
  kO (loadOne h v0) ds h (fun v1 ds h =>
  K .norm (T.set tm 6 v1) ds h))
noncomputable def r28_4 : CodeT := fun call _ tm ds h K =>
  kH (appendV 1 1 h (tg tm 0) (tg tm 6)) ds (fun v2 ds h =>
  K .norm (T.set tm 0 v2) ds h)
noncomputable def r28_5 : CodeT := fun call _ tm ds h K =>
  kO (binV Try.prog .add 3 true (tg tm 9) (.int .i64 (1))) ds h (fun v0 ds h =>
  K .norm (T.set tm 9 v0) ds h)
noncomputable def l28_6 : Box CodeT := ⟨seqC ⟨r28_2⟩ ⟨seqC ⟨condC ⟨fun _ tm => tg tm 10⟩ skipC (exitC 0)⟩ ⟨seqC ⟨blockC 1 ⟨seqC ⟨r28_3⟩ ⟨r28_4⟩⟩⟩ ⟨r28_5⟩⟩⟩⟩
noncomputable def r28_6 : CodeT := fun call _ tm ds h K =>
  K .norm (T.set tm 4 (tg tm 0)) ds h
noncomputable def c28 : Box CodeT := ⟨seqC ⟨r28_0⟩ ⟨seqC ⟨seqC ⟨r28_1⟩ ⟨blockC 0 (loopB l28_6)⟩⟩ ⟨seqC ⟨r28_6⟩ retC⟩⟩⟩
noncomputable def q28 : Box (T Value → H → Option (List Value)) := ⟨fun tm h => some [tg tm 4]⟩

/-! 29 cloakroom/code.Small -/
noncomputable def r29_0 : CodeT := fun call _ tm ds h K =>
  K .norm (T.set tm 2 (.slice none 0 0)) ds h
noncomputable def r29_1 : CodeT := fun call _ tm ds h K =>
  K .norm (T.set tm 3 (.slice none 0 0)) ds h
noncomputable def r29_2 : CodeT := fun call _ tm ds h K =>
  kO (binV Try.prog .gtr 23 true (tg tm 0) (.int .u64 (127))) ds h (fun v1 ds h =>
  K .norm (T.set tm 5 v1) ds h)
noncomputable def r29_4 : CodeT := fun call _ tm ds h K =>
  kO (toInt .u8 (tg tm 0)) ds h (fun v2 ds h =>
  kO (binV Try.prog .or 5 true v2 (.int .u8 (128))) ds h (fun v3 ds h =>
  kA (mkLit 1 h.next (fill (repl [(.int .u8 (0))] 1) (pl 1) [(0, v3)])) ds h (fun v4 ds h =>
  kH (appendV 1 1 h (tg tm 3) v4) ds (fun v5 ds h =>
  K .norm (T.set tm 3 v5) ds h))))
noncomputable def r29_3 : CodeT := fun call _ tm ds h K =>
  kO (binV Try.prog .shr 23 true (tg tm 0) (.int .u64 (7))) ds h (fun v1 ds h =>
  K .norm (T.set tm 0 v1) ds h)
noncomputable def l29_5 : Box CodeT := ⟨seqC ⟨seqC ⟨r29_2⟩ ⟨condC ⟨fun _ tm => tg tm 5⟩ skipC (exitC 0)⟩⟩ ⟨seqC ⟨blockC 1 ⟨r29_4⟩⟩ ⟨r29_3⟩⟩⟩
noncomputable def r29_5 : CodeT := fun call _ tm ds h K =>
  kO (toInt .u8 (tg tm 0)) ds h (fun v2 ds h =>
  kA (mkLit 1 h.next (fill (repl [(.int .u8 (0))] 1) (pl 1) [(0, v2)])) ds h (fun v3 ds h =>
  kH (appendV 1 1 h (tg tm 3) v3) ds (fun v4 ds h =>
  K .norm (T.set tm 2 v4) ds h)))
noncomputable def c29 : Box CodeT := ⟨seqC ⟨r29_0⟩ ⟨seqC ⟨r29_1⟩ ⟨seqC ⟨blockC 0 (loopB l29_5)⟩ ⟨seqC ⟨r29_5⟩ retC⟩⟩⟩⟩
noncomputable def q29 : Box (T Value → H → Option (List Value)) := ⟨fun tm h => some [tg tm 2]⟩

/-! 30 cloakroom/code.Text -/
noncomputable def r30_0 : CodeT := fun call _ tm ds h K =>
  K .norm (T.set tm 2 (.slice none 0 0)) ds h
noncomputable def r30_1 : CodeT := fun call _ tm ds h K =>
  kO (lenStr (tg tm 0)) ds h (fun v1 ds h =>
  kO (toInt .u64 v1) ds h (fun v2 ds h =>
  call 29 [v2] h (fun v h => (fun v3 ds h =>
  kH (appendV 1 1 h v3 (tg tm 0)) ds (fun v5 ds h =>
  K .norm (T.set tm 2 v5) ds h)) v ds h)))
noncomputable def c30 : Box CodeT := ⟨seqC ⟨r30_0⟩ ⟨seqC ⟨r30_1⟩ retC⟩⟩
noncomputable def q30 : Box (T Value → H → Option (List Value)) := ⟨fun tm h => some [tg tm 2]⟩

/-! 31 cloakroom/binary.packet -/
noncomputable def r31_0 : CodeT := fun call _ tm ds h K =>
  K .norm (T.set tm 6 (.slice none 0 0)) ds h
noncomputable def r31_1 : CodeT := fun call _ tm ds h K =>
  kO (lenSl (tg tm 2)) ds h (fun v1 ds h =>
  kO (toInt .u32 v1) ds h (fun v2 ds h =>
  K .norm (T.set tm 7 v2) ds h))
noncomputable def r31_2 : CodeT := fun call _ tm ds h K =>
  kO (binV Try.prog .shr 41 true (tg tm 7) (.int .u64 (24))) ds h (fun v3 ds h =>
  kO (toInt .u8 v3) ds h (fun v4 ds h =>
  kO (binV Try.prog .shr 41 true (tg tm 7) (.int .u64 (16))) ds h (fun v6 ds h =>
  kO (toInt .u8 v6) ds h (fun v7 ds h =>
  kO (binV Try.prog .shr 41 true (tg tm 7) (.int .u64 (8))) ds h (fun v9 ds h =>
  kO (toInt .u8 v9) ds h (fun v10 ds h =>
  kO (toInt .u8 (tg tm 7)) ds h (fun v12 ds h =>
  kA (mkLit 6 h.next (fill (repl [(.int .u8 (0))] 6) (pl 1) [(0, (tg tm 0)), (1, (tg tm 1)), (2, v4), (3, v7), (4, v10), (5, v12)])) ds h (fun v13 ds h =>
  kH (appendV 1 1 h v13 (tg tm 2)) ds (fun v15 ds h =>
  K .norm (T.set tm 6 v15) ds h)))))))))
noncomputable def c31 : Box CodeT := ⟨seqC ⟨r31_0⟩ ⟨seqC ⟨r31_1⟩ ⟨seqC ⟨r31_2⟩ retC⟩⟩⟩
noncomputable def q31 : Box (T Value → H → Option (List Value)) := ⟨fun tm h => some [tg tm 6]⟩

/-! 32 cloakroom/cloakroomref15.counts -/
noncomputable def r32_0 : CodeT := fun call _ tm ds h K =>
  K .norm (T.set tm 2 (.bool false)) ds h
noncomputable def r32_1 : CodeT := fun call _ tm ds h K => (⟨opStep ⟨fun call env tm ds h K => kO (some (tg tm 0)) ds h K⟩ ⟨fun v tm => tm⟩ ⟨fun env tm => true⟩
  ⟨opStep ⟨fun call env tm ds h K => kO (binV Try.prog .eql 5 true (nthD 0 env) (.int .u8 (6))) ds h K⟩ ⟨fun v tm => tm⟩ ⟨fun env tm => true⟩
  ⟨opStep ⟨fun call env tm ds h K => kO (some (nthD 0 env)) ds h K⟩ ⟨fun v tm => tm⟩ ⟨fun env tm => true⟩
  ⟨opStep ⟨fun call env tm ds h K => kO (some (tg tm 0)) ds h K⟩ ⟨fun v tm => tm⟩ ⟨fun env tm => isB false (nthD 0 env)⟩
  ⟨opStep ⟨fun call env tm ds h K => kO (binV Try.prog .eql 5 true (nthD 0 env) (.int .u8 (7))) ds h K⟩ ⟨fun v tm => tm⟩ ⟨fun env tm => isB false (nthD 1 env)⟩
  ⟨opStep ⟨fun call env tm ds h K => kO (pickV (nthD 2 env) (.bool true) (nthD 0 env)) ds h K⟩ ⟨fun v tm => tm⟩ ⟨fun env tm => true⟩
  ⟨opStep ⟨fun call env tm ds h K => kO (some (nthD 0 env)) ds h K⟩ ⟨fun v tm => tm⟩ ⟨fun env tm => true⟩
  ⟨opStep ⟨fun call env tm ds h K => kO (some (tg tm 0)) ds h K⟩ ⟨fun v tm => tm⟩ ⟨fun env tm => isB false (nthD 0 env)⟩
  ⟨opStep ⟨fun call env tm ds h K => kO (binV Try.prog .eql 5 true (nthD 0 env) (.int .u8 (10))) ds h K⟩ ⟨fun v tm => tm⟩ ⟨fun env tm => isB false (nthD 1 env)⟩
  ⟨opStep ⟨fun call env tm ds h K => kO (pickV (nthD 2 env) (.bool true) (nthD 0 env)) ds h K⟩ ⟨fun v tm => tm⟩ ⟨fun env tm => true⟩
  ⟨opStep ⟨fun call env tm ds h K => kO (some (nthD 0 env)) ds h K⟩ ⟨fun v tm => (T.set tm 2 v)⟩ ⟨fun env tm => true⟩
  ⟨fun _ _ tm ds h K => K .norm tm ds h⟩⟩⟩⟩⟩⟩⟩⟩⟩⟩⟩⟩ : Box OpsT).f call [] tm ds h K
noncomputable def c32 : Box CodeT := ⟨seqC ⟨r32_0⟩ ⟨seqC ⟨r32_1⟩ retC⟩⟩
noncomputable def q32 : Box (T Value → H → Option (List Value)) := ⟨fun tm h => some [tg tm 2]⟩

/-! 33 cloakroom/cloakroomref09.Check -/
noncomputable def r33_0 : CodeT := fun call _ tm ds h K =>
  kA (some (.rw (Value.cells (tg tm 0)).toList, ptrTo h.next)) ds h (fun v0 ds h =>
  K .norm (T.set (T.set tm 1 v0) 2 (.int .i64 (0))) ds h)
noncomputable def r33_1 : CodeT := fun call _ tm ds h K => (⟨opStep ⟨fun call env tm ds h K => kO (fieldPtr 0 (tg tm 1)) ds h K⟩ ⟨fun v tm => tm⟩ ⟨fun env tm => true⟩
  ⟨opStep ⟨fun call env tm ds h K => kO (loadOne h (nthD 0 env)) ds h K⟩ ⟨fun v tm => tm⟩ ⟨fun env tm => true⟩
  ⟨opStep ⟨fun call env tm ds h K => kO (lenStr (nthD 0 env)) ds h K⟩ ⟨fun v tm => tm⟩ ⟨fun env tm => true⟩
  ⟨opStep ⟨fun call env tm ds h K => kO (binV Try.prog .lss 3 true (nthD 0 env) (.int .i64 (1))) ds h K⟩ ⟨fun v tm => tm⟩ ⟨fun env tm => true⟩
  ⟨opStep ⟨fun call env tm ds h K => kO (some (nthD 0 env)) ds h K⟩ ⟨fun v tm => tm⟩ ⟨fun env tm => true⟩
  ⟨opStep ⟨fun call env tm ds h K => kO (fieldPtr 0 (tg tm 1)) ds h K⟩ ⟨fun v tm => tm⟩ ⟨fun env tm => isB false (nthD 0 env)⟩
  ⟨opStep ⟨fun call env tm ds h K => kO (loadOne h (nthD 0 env)) ds h K⟩ ⟨fun v tm => tm⟩ ⟨fun env tm => isB false (nthD 1 env)⟩
  ⟨opStep ⟨fun call env tm ds h K => kO (lenStr (nthD 0 env)) ds h K⟩ ⟨fun v tm => tm⟩ ⟨fun env tm => isB false (nthD 2 env)⟩
  ⟨opStep ⟨fun call env tm ds h K => kO (binV Try.prog .gtr 3 true (nthD 0 env) (.int .i64 (32))) ds h K⟩ ⟨fun v tm => tm⟩ ⟨fun env tm => isB false (nthD 3 env)⟩
  ⟨opStep ⟨fun call env tm ds h K => kO (pickV (nthD 4 env) (.bool true) (nthD 0 env)) ds h K⟩ ⟨fun v tm => tm⟩ ⟨fun env tm => true⟩
  ⟨opStep ⟨fun call env tm ds h K => kO (some (nthD 0 env)) ds h K⟩ ⟨fun v tm => tm⟩ ⟨fun env tm => true⟩
  ⟨opStep ⟨fun call env tm ds h K => kO (fieldPtr 1 (tg tm 1)) ds h K⟩ ⟨fun v tm => tm⟩ ⟨fun env tm => isB false (nthD 0 env)⟩
  ⟨opStep ⟨fun call env tm ds h K => kO (loadOne h (nthD 0 env)) ds h K⟩ ⟨fun v tm => tm⟩ ⟨fun env tm => isB false (nthD 1 env)⟩
  ⟨opStep ⟨fun call env tm ds h K => kO (lenStr (nthD 0 env)) ds h K⟩ ⟨fun v tm => tm⟩ ⟨fun env tm => isB false (nthD 2 env)⟩
  ⟨opStep ⟨fun call env tm ds h K => kO (binV Try.prog .gtr 3 true (nthD 0 env) (.int .i64 (512))) ds h K⟩ ⟨fun v tm => tm⟩ ⟨fun env tm => isB false (nthD 3 env)⟩
  ⟨opStep ⟨fun call env tm ds h K => kO (pickV (nthD 4 env) (.bool true) (nthD 0 env)) ds h K⟩ ⟨fun v tm => (T.set tm 18 v)⟩ ⟨fun env tm => true⟩
  ⟨fun _ _ tm ds h K => K .norm tm ds h⟩⟩⟩⟩⟩⟩⟩⟩⟩⟩⟩⟩⟩⟩⟩⟩⟩ : Box OpsT).f call [] tm ds h K
noncomputable def r33_2 : CodeT := fun call _ tm ds h K =>
  K .norm (T.set tm 2 (.int .i64 (3))) ds h
noncomputable def r33_3 : CodeT := fun call _ tm ds h K =>
  kO (fieldPtr 3 (tg tm 1)) ds h (fun v0 ds h =>
  kO (loadOne h v0) ds h (fun v1 ds h =>
  call 46 [v1] h (fun v h => (fun v2 ds h =>
  kO (unV .not v2) ds h (fun v3 ds h =>
  K .norm (T.set tm 22 v3) ds h)) v ds h)))
noncomputable def r33_4 : CodeT := fun call _ tm ds h K =>
  K .norm (T.set tm 2 (.int .i64 (2))) ds h
noncomputable def r33_5 : CodeT := fun call _ tm ds h K =>
  K .norm (T.set tm 2 (.int .i64 (0))) ds h
noncomputable def c33 : Box CodeT := ⟨seqC ⟨r33_0⟩ ⟨seqC ⟨seqC ⟨r33_1⟩ ⟨condC ⟨fun _ tm => tg tm 18⟩ ⟨seqC ⟨r33_2⟩ retC⟩ skipC⟩⟩ ⟨seqC ⟨seqC ⟨r33_3⟩ ⟨condC ⟨fun _ tm => tg tm 22⟩ ⟨seqC ⟨r33_4⟩ retC⟩ skipC⟩⟩ ⟨seqC ⟨r33_5⟩ retC⟩⟩⟩⟩
noncomputable def q33 : Box (T Value → H → Option (List Value)) := ⟨fun tm h => some [tg tm 2]⟩

/-! 34 cloakroom/cloakroomref01.Small -/
noncomputable def r34_0 : CodeT := fun call _ tm ds h K =>
  K .norm (T.set tm 2 (.slice none 0 0)) ds h
noncomputable def r34_1 : CodeT := fun call _ tm ds h K =>
  K .norm (T.set tm 3 (.slice none 0 0)) ds h
noncomputable def r34_2 : CodeT := fun call _ tm ds h K =>
  kO (binV Try.prog .geq 23 true (tg tm 0) (.int .u64 (128))) ds h (fun v1 ds h =>
  K .norm (T.set tm 5 v1) ds h)
noncomputable def r34_3 : CodeT := fun call _ tm ds h K =>
  kO (binV Try.prog .rem 23 true (tg tm 0) (.int .u64 (128))) ds h (fun v2 ds h =>
  kO (toInt .u8 v2) ds h (fun v3 ds h =>
  kO (binV Try.prog .add 5 true v3 (.int .u8 (128))) ds h (fun v4 ds h =>
  kA (mkLit 1 h.next (fill (repl [(.int .u8 (0))] 1) (pl 1) [(0, v4)])) ds h (fun v5 ds h =>
  kH (appendV 1 1 h (tg tm 3) v5) ds (fun v6 ds h =>
  K .norm (T.set tm 3 v6) ds h)))))
noncomputable def r34_4 : CodeT := fun call _ tm ds h K =>
  kO (binV Try.prog .quo 23 true (tg tm 0) (.int .u64 (128))) ds h (fun v1 ds h =>
  K .norm (T.set tm 0 v1) ds h)
noncomputable def l34_5 : Box CodeT := ⟨seqC ⟨seqC ⟨r34_2⟩ ⟨condC ⟨fun _ tm => tg tm 5⟩ skipC (exitC 0)⟩⟩ ⟨blockC 1 ⟨seqC ⟨r34_3⟩ ⟨r34_4⟩⟩⟩⟩
noncomputable def r34_5 : CodeT := fun call _ tm ds h K =>
  kO (toInt .u8 (tg tm 0)) ds h (fun v2 ds h =>
  kA (mkLit 1 h.next (fill (repl [(.int .u8 (0))] 1) (pl 1) [(0, v2)])) ds h (fun v3 ds h =>
  kH (appendV 1 1 h (tg tm 3) v3) ds (fun v4 ds h =>
  K .norm (T.set tm 2 v4) ds h)))
noncomputable def c34 : Box CodeT := ⟨seqC ⟨r34_0⟩ ⟨seqC ⟨r34_1⟩ ⟨seqC ⟨blockC 0 (loopB l34_5)⟩ ⟨seqC ⟨r34_5⟩ retC⟩⟩⟩⟩
noncomputable def q34 : Box (T Value → H → Option (List Value)) := ⟨fun tm h => some [tg tm 2]⟩

/-! 35 cloakroom/cloakroomref01.Text -/
noncomputable def r35_0 : CodeT := fun call _ tm ds h K =>
  K .norm (T.set tm 2 (.slice none 0 0)) ds h
noncomputable def r35_1 : CodeT := fun call _ tm ds h K =>
  kO (lenStr (tg tm 0)) ds h (fun v1 ds h =>
  kO (toInt .u64 v1) ds h (fun v2 ds h =>
  call 34 [v2] h (fun v h => (fun v3 ds h =>
  kH (appendV 1 1 h v3 (tg tm 0)) ds (fun v5 ds h =>
  K .norm (T.set tm 2 v5) ds h)) v ds h)))
noncomputable def c35 : Box CodeT := ⟨seqC ⟨r35_0⟩ ⟨seqC ⟨r35_1⟩ retC⟩⟩
noncomputable def q35 : Box (T Value → H → Option (List Value)) := ⟨fun tm h => some [tg tm 2]⟩

/-! 42 cloakroom/words.counts -/
noncomputable def r42_0 : CodeT := fun call _ tm ds h K =>
  K .norm (T.set tm 2 (.bool false)) ds h
noncomputable def r42_1 : CodeT := fun call _ tm ds h K => (⟨opStep ⟨fun call env tm ds h K => kO (some (tg tm 0)) ds h K⟩ ⟨fun v tm => tm⟩ ⟨fun env tm => true⟩
  ⟨opStep ⟨fun call env tm ds h K => kO (binV Try.prog .eql 5 true (nthD 0 env) (.int .u8 (6))) ds h K⟩ ⟨fun v tm => tm⟩ ⟨fun env tm => true⟩
  ⟨opStep ⟨fun call env tm ds h K => kO (some (nthD 0 env)) ds h K⟩ ⟨fun v tm => tm⟩ ⟨fun env tm => true⟩
  ⟨opStep ⟨fun call env tm ds h K => kO (some (tg tm 0)) ds h K⟩ ⟨fun v tm => tm⟩ ⟨fun env tm => isB false (nthD 0 env)⟩
  ⟨opStep ⟨fun call env tm ds h K => kO (binV Try.prog .eql 5 true (nthD 0 env) (.int .u8 (7))) ds h K⟩ ⟨fun v tm => tm⟩ ⟨fun env tm => isB false (nthD 1 env)⟩
  ⟨opStep ⟨fun call env tm ds h K => kO (pickV (nthD 2 env) (.bool true) (nthD 0 env)) ds h K⟩ ⟨fun v tm => tm⟩ ⟨fun env tm => true⟩
  ⟨opStep ⟨fun call env tm ds h K => kO (some (nthD 0 env)) ds h K⟩ ⟨fun v tm => tm⟩ ⟨fun env tm => true⟩
  ⟨opStep ⟨fun call env tm ds h K => kO (some (tg tm 0)) ds h K⟩ ⟨fun v tm => tm⟩ ⟨fun env tm => isB false (nthD 0 env)⟩
  ⟨opStep ⟨fun call env tm ds h K => kO (binV Try.prog .eql 5 true (nthD 0 env) (.int .u8 (10))) ds h K⟩ ⟨fun v tm => tm⟩ ⟨fun env tm => isB false (nthD 1 env)⟩
  ⟨opStep ⟨fun call env tm ds h K => kO (pickV (nthD 2 env) (.bool true) (nthD 0 env)) ds h K⟩ ⟨fun v tm => tm⟩ ⟨fun env tm => true⟩
  ⟨opStep ⟨fun call env tm ds h K => kO (some (nthD 0 env)) ds h K⟩ ⟨fun v tm => (T.set tm 2 v)⟩ ⟨fun env tm => true⟩
  ⟨fun _ _ tm ds h K => K .norm tm ds h⟩⟩⟩⟩⟩⟩⟩⟩⟩⟩⟩⟩ : Box OpsT).f call [] tm ds h K
noncomputable def c42 : Box CodeT := ⟨seqC ⟨r42_0⟩ ⟨seqC ⟨r42_1⟩ retC⟩⟩
noncomputable def q42 : Box (T Value → H → Option (List Value)) := ⟨fun tm h => some [tg tm 2]⟩

/-! 43 slices.ContainsFunc[[]cloakroom/api.Item,cloakroom/api.Item] -/
noncomputable def r43_0 : CodeT := fun call _ tm ds h K =>
  K .norm (T.set tm 4 (.bool false)) ds h
noncomputable def r43_1 : CodeT := fun call _ tm ds h K =>
  call 51 [(tg tm 0), (tg tm 1)] h (fun v h => (fun v2 ds h =>
  kO (binV Try.prog .geq 3 true v2 (.int .i64 (0))) ds h (fun v3 ds h =>
  K .norm (T.set tm 4 v3) ds h)) v ds h)
noncomputable def c43 : Box CodeT := ⟨seqC ⟨r43_0⟩ ⟨seqC ⟨r43_1⟩ retC⟩⟩
noncomputable def q43 : Box (T Value → H → Option (List Value)) := ⟨fun tm h => some [tg tm 4]⟩

/-! 44 cloakroom/words.result$1 -/
noncomputable def r44_0 : CodeT := fun call _ tm ds h K =>
  kA (some (.rw (Value.cells (tg tm 0)).toList, ptrTo h.next)) ds h (fun v0 ds h =>
  K .norm (T.set (T.set tm 1 v0) 2 (.bool false)) ds h)
noncomputable def r44_1 : CodeT := fun call _ tm ds h K =>
  kO (loadAgg 5 h (tg tm 1)) ds h (fun v0 ds h =>
  call 45 [v0] h (fun v h => (fun v1 ds h =>
  kO (binV Try.prog .neq 30 true v1 (.int .i64 (0))) ds h (fun v2 ds h =>
  K .norm (T.set tm 2 v2) ds h)) v ds h))
noncomputable def c44 : Box CodeT := ⟨seqC ⟨r44_0⟩ ⟨seqC ⟨r44_1⟩ retC⟩⟩
noncomputable def q44 : Box (T Value → H → Option (List Value)) := ⟨fun tm h => some [tg tm 2]⟩

/-! 45 cloakroom/item.Check -/
noncomputable def r45_0 : CodeT := fun call _ tm ds h K =>
  kA (some (.rw (Value.cells (tg tm 0)).toList, ptrTo h.next)) ds h (fun v0 ds h =>
  K .norm (T.set (T.set tm 1 v0) 2 (.int .i64 (0))) ds h)
noncomputable def r45_1 : CodeT := fun call _ tm ds h K =>
  kO (fieldPtr 0 (tg tm 1)) ds h (fun v0 ds h =>
  kO (loadOne h v0) ds h (fun v1 ds h =>
  kO (lenStr v1) ds h (fun v2 ds h =>
  kO (binV Try.prog .lss 3 true v2 (.int .i64 (1))) ds h (fun v3 ds h =>
  K .norm (T.set tm 3 v3) ds h))))
noncomputable def r45_2 : CodeT := fun call _ tm ds h K =>
  kO (fieldPtr 0 (tg tm 1)) ds h (fun v0 ds h =>
  kO (loadOne h v0) ds h (fun v1 ds h =>
  kO (lenStr v1) ds h (fun v2 ds h =>
  kO (binV Try.prog .gtr 3 true v2 (.int .i64 (32))) ds h (fun v3 ds h =>
  K .norm (T.set tm 3 v3) ds h))))
noncomputable def r45_3 : CodeT := fun call _ tm ds h K =>
  kO (fieldPtr 1 (tg tm 1)) ds h (fun v0 ds h =>
  kO (loadOne h v0) ds h (fun v1 ds h =>
  kO (lenStr v1) ds h (fun v2 ds h =>
  kO (binV Try.prog .gtr 3 true v2 (.int .i64 (512))) ds h (fun v3 ds h =>
  K .norm (T.set tm 3 v3) ds h))))
noncomputable def r45_4 : CodeT := fun call _ tm ds h K =>
  K .norm (T.set tm 2 (.int .i64 (3))) ds h
noncomputable def r45_5 : CodeT := fun call _ tm ds h K =>
  kO (fieldPtr 3 (tg tm 1)) ds h (fun v0 ds h =>
  kO (loadOne h v0) ds h (fun v1 ds h =>
  call 52 [v1] h (fun v h => (fun v2 ds h =>
  kO (unV .not v2) ds h (fun v3 ds h =>
  K .norm (T.set tm 16 v3) ds h)) v ds h)))
noncomputable def r45_6 : CodeT := fun call _ tm ds h K =>
  K .norm (T.set tm 2 (.int .i64 (2))) ds h
noncomputable def r45_7 : CodeT := fun call _ tm ds h K =>
  K .norm (T.set tm 2 (.int .i64 (0))) ds h
noncomputable def c45 : Box CodeT := ⟨seqC ⟨r45_0⟩ ⟨seqC ⟨blockC 0 ⟨seqC ⟨seqC ⟨r45_1⟩ ⟨condC ⟨fun _ tm => tg tm 3⟩ skipC ⟨seqC ⟨r45_2⟩ ⟨condC ⟨fun _ tm => tg tm 3⟩ skipC ⟨r45_3⟩⟩⟩⟩⟩ ⟨condC ⟨fun _ tm => tg tm 3⟩ ⟨seqC ⟨r45_4⟩ retC⟩ ⟨seqC ⟨r45_5⟩ ⟨condC ⟨fun _ tm => tg tm 16⟩ ⟨seqC ⟨r45_6⟩ retC⟩ skipC⟩⟩⟩⟩⟩ ⟨seqC ⟨r45_7⟩ retC⟩⟩⟩
noncomputable def q45 : Box (T Value → H → Option (List Value)) := ⟨fun tm h => some [tg tm 2]⟩

/-! 46 cloakroom/cloakroomref09.Moment -/
noncomputable def r46_0 : CodeT := fun call _ tm ds h K =>
  K .norm (T.set tm 2 (.bool false)) ds h
noncomputable def r46_1 : CodeT := fun call _ tm ds h K =>
  kO (binV Try.prog .geq 3 true (tg tm 0) (.int .i64 (0))) ds h (fun v1 ds h =>
  gd (isB true v1) (fun k => kO (some (tg tm 0)) ds h (k)) ds h (fun v3 ds h =>
  gd (isB true v1) (fun k => kO (binV Try.prog .leq 3 true v3 (.int .i64 (1099511627776))) ds h (k)) ds h (fun v4 ds h =>
  kO (pickV v1 v4 (.bool false)) ds h (fun v5 ds h =>
  K .norm (T.set tm 2 v5) ds h))))
noncomputable def c46 : Box CodeT := ⟨seqC ⟨r46_0⟩ ⟨seqC ⟨r46_1⟩ retC⟩⟩
noncomputable def q46 : Box (T Value → H → Option (List Value)) := ⟨fun tm h => some [tg tm 2]⟩

/-! 51 slices.IndexFunc[[]cloakroom/api.Item,cloakroom/api.Item] -/
noncomputable def r51_0 : CodeT := fun call _ tm ds h K =>
  K .norm (T.set tm 4 (.int .i64 (0))) ds h
noncomputable def r51_1 : CodeT := fun call _ tm ds h K =>
  kO (lenSl (tg tm 0)) ds h (fun v1 ds h =>
  K .norm (T.set (T.set tm 7 v1) 8 (.int .i64 (0))) ds h)
noncomputable def r51_2 : CodeT := fun call _ tm ds h K =>
  kO (binV Try.prog .lss 3 false (tg tm 8) (tg tm 7)) ds h (fun v0 ds h =>
  K .norm (T.set tm 9 v0) ds h)
noncomputable def r51_3 : CodeT := fun call _ tm ds h K =>
  K .norm (T.set tm 5 (tg tm 8)) ds h
noncomputable def r51_4 : CodeT := fun call _ tm ds h K =>
  kO (indexSl 5 (tg tm 0) (tg tm 5)) ds h (fun v3 ds h =>
  kO (loadAgg 5 h v3) ds h (fun v4 ds h =>
  goCall call (funcArgs (tg tm 1) [v4]) ds h (fun v5 ds h =>
  K .norm (T.set tm 16 v5) ds h)))
noncomputable def r51_5 : CodeT := fun call _ tm ds h K =>
  K .norm (T.set tm 4 (tg tm 5)) ds h
noncomputable def r51_6 : CodeT := fun call _ tm ds h K =>
  kO (binV Try.prog .add 3 true (tg tm 8) (.int .i64 (1))) ds h (fun v0 ds h =>
  K .norm (T.set tm 8 v0) ds h)
noncomputable def l51_7 : Box CodeT := ⟨seqC ⟨r51_2⟩ ⟨seqC ⟨condC ⟨fun _ tm => tg tm 9⟩ skipC (exitC 0)⟩ ⟨seqC ⟨blockC 1 ⟨seqC ⟨r51_3⟩ ⟨seqC ⟨r51_4⟩ ⟨condC ⟨fun _ tm => tg tm 16⟩ ⟨seqC ⟨r51_5⟩ retC⟩ skipC⟩⟩⟩⟩ ⟨r51_6⟩⟩⟩⟩
noncomputable def r51_7 : CodeT := fun call _ tm ds h K =>
  K .norm (T.set tm 4 (.int .i64 (-1))) ds h
noncomputable def c51 : Box CodeT := ⟨seqC ⟨r51_0⟩ ⟨seqC ⟨seqC ⟨r51_1⟩ ⟨blockC 0 (loopB l51_7)⟩⟩ ⟨seqC ⟨r51_7⟩ retC⟩⟩⟩
noncomputable def q51 : Box (T Value → H → Option (List Value)) := ⟨fun tm h => some [tg tm 4]⟩

/-! 52 cloakroom/item.moment -/
noncomputable def r52_0 : CodeT := fun call _ tm ds h K =>
  K .norm (T.set tm 2 (.bool false)) ds h
noncomputable def r52_1 : CodeT := fun call _ tm ds h K =>
  kO (binV Try.prog .geq 3 true (tg tm 0) (.int .i64 (0))) ds h (fun v1 ds h =>
  gd (isB true v1) (fun k => kO (some (tg tm 0)) ds h (k)) ds h (fun v3 ds h =>
  gd (isB true v1) (fun k => kO (binV Try.prog .leq 3 true v3 (.int .i64 (1099511627776))) ds h (k)) ds h (fun v4 ds h =>
  kO (pickV v1 v4 (.bool false)) ds h (fun v5 ds h =>
  K .norm (T.set tm 2 v5) ds h))))
noncomputable def c52 : Box CodeT := ⟨seqC ⟨r52_0⟩ ⟨seqC ⟨r52_1⟩ retC⟩⟩
noncomputable def q52 : Box (T Value → H → Option (List Value)) := ⟨fun tm h => some [tg tm 2]⟩

end Go.Proofs.Ytpaolklbogakgaa
