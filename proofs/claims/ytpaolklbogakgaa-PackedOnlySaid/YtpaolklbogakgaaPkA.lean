import Derived.Test.YtpaolklbogakgaaEvY
import Derived.KernelRfl
import Derived.Test.YtpaolklbogakgaaRows
import Derived.WalkKit
import Derived.ProofKit
import Derived.OpenShut
set_option linter.unusedSimpArgs false
set_option linter.unusedVariables false
namespace Go.Proofs.Ytpaolklbogakgaa
open Go.Ev
def masks : List Nat := [0, 0, 0, 383, 4195325, 1648319, 4311752695, 536936957, 4398047576079, 8532543, 4255, 274886297597, 8598325245, 31, 7, 2417851639299627093598239, 2013265967, 13, 1223, 11440979185133664387406296579253639856135340063, 19503373574251772171518399, 455, 2147623923, 41700713373270422443459610422648819, 4438660083, 17592219615475, 17594400636991, 137440002619, 2003, 45, 5, 199, 5, 4456455, 45, 5, 5, 21, 65597, 65597, 5, 2251834173505533, 5, 19, 7, 65551, 5, 69794271229, 253, 81064793296863485, 590331878738148458483, 66483, 5, 16777469, 21, 67109885, 0, 0, 0, 0, 0, 0, 0, 0, 0, 0, 0, 0, 0, 0, 0, 0, 0]
def outside : List (Nat × XK) := []
abbrev NG : Nat := 0
/-! 3 cloakroom/cloakroomlaw17.PackedWrites -/
noncomputable def r3_0 : CodeT := fun call _ tm ds h K =>
  kA (some (.rw (Value.cells (tg tm 0)).toList, ptrTo h.next)) ds h (fun v0 ds h =>
  K .norm (T.set (T.set tm 1 v0) 2 (.bool false)) ds h)
noncomputable def r3_1 : CodeT := fun call _ tm ds h K =>
  kO (loadAgg 7 h (tg tm 1)) ds h (fun v0 ds h =>
  call 8 [v0] h (fun v h => (fun v1 ds h =>
  K .norm (T.set tm 8 v1) ds h) v ds h))
noncomputable def r3_2 : CodeT := fun call _ tm ds h K =>
  K .norm (T.set tm 2 (.bool true)) ds h
noncomputable def r3_3 : CodeT := fun call _ tm ds h K =>
  kO (loadAgg 7 h (tg tm 1)) ds h (fun v0 ds h =>
  call 9 [v0] h (fun v h => (fun v1 ds h =>
  kO (tupNth 0 v1) ds h (fun v3 ds h =>
  kO (tupNth 1 v1) ds h (fun v4 ds h =>
  K .norm (T.set (T.set tm 3 v3) 4 v4) ds h))) v ds h))
noncomputable def r3_4 : CodeT := fun call _ tm ds h K =>
  kO (loadAgg 7 h (tg tm 1)) ds h (fun v0 ds h =>
  call 10 [v0] h (fun v h => (fun v1 ds h =>
  kO (tupNth 0 v1) ds h (fun v3 ds h =>
  kO (tupNth 1 v1) ds h (fun v4 ds h =>
  K .norm (T.set (T.set tm 5 v3) 6 v4) ds h))) v ds h))
noncomputable def r3_5 : CodeT := fun call _ tm ds h K => (⟨opStep ⟨fun call env tm ds h K => kO (some (tg tm 3)) ds h K⟩ ⟨fun v tm => tm⟩ ⟨fun env tm => true⟩
  ⟨opStep ⟨fun call env tm ds h K => kO (bytesStr h (nthD 0 env)) ds h K⟩ ⟨fun v tm => tm⟩ ⟨fun env tm => true⟩
  ⟨opStep ⟨fun call env tm ds h K => kO (some (tg tm 5)) ds h K⟩ ⟨fun v tm => tm⟩ ⟨fun env tm => true⟩
  ⟨opStep ⟨fun call env tm ds h K => kO (bytesStr h (nthD 0 env)) ds h K⟩ ⟨fun v tm => tm⟩ ⟨fun env tm => true⟩
  ⟨opStep ⟨fun call env tm ds h K => kO (binV Try.prog .eql 9 false (nthD 2 env) (nthD 0 env)) ds h K⟩ ⟨fun v tm => tm⟩ ⟨fun env tm => true⟩
  ⟨opStep ⟨fun call env tm ds h K => kO (some (nthD 0 env)) ds h K⟩ ⟨fun v tm => tm⟩ ⟨fun env tm => true⟩
  ⟨opStep ⟨fun call env tm ds h K => kO (some (tg tm 4)) ds h K⟩ ⟨fun v tm => tm⟩ ⟨fun env tm => isB true (nthD 0 env)⟩
  ⟨opStep ⟨fun call env tm ds h K => kO (some (tg tm 6)) ds h K⟩ ⟨fun v tm => tm⟩ ⟨fun env tm => isB true (nthD 1 env)⟩
  ⟨opStep ⟨fun call env tm ds h K => kO (binV Try.prog .eql 3 false (nthD 1 env) (nthD 0 env)) ds h K⟩ ⟨fun v tm => tm⟩ ⟨fun env tm => isB true (nthD 2 env)⟩
  ⟨opStep ⟨fun call env tm ds h K => kO (pickV (nthD 3 env) (nthD 0 env) (.bool false)) ds h K⟩ ⟨fun v tm => tm⟩ ⟨fun env tm => true⟩
  ⟨opStep ⟨fun call env tm ds h K => kO (some (nthD 0 env)) ds h K⟩ ⟨fun v tm => (T.set tm 2 v)⟩ ⟨fun env tm => true⟩
  ⟨fun _ _ tm ds h K => K .norm tm ds h⟩⟩⟩⟩⟩⟩⟩⟩⟩⟩⟩⟩ : Box OpsT).f call [] tm ds h K
noncomputable def c3 : Box CodeT := ⟨seqC ⟨r3_0⟩ ⟨seqC ⟨seqC ⟨r3_1⟩ ⟨condC ⟨fun _ tm => tg tm 8⟩ ⟨seqC ⟨r3_2⟩ retC⟩ skipC⟩⟩ ⟨seqC ⟨r3_3⟩ ⟨seqC ⟨r3_4⟩ ⟨seqC ⟨r3_5⟩ retC⟩⟩⟩⟩⟩
noncomputable def q3 : Box (T Value → H → Option (List Value)) := ⟨fun tm h => some [tg tm 2]⟩
/-! 4 cloakroom/cloakroomlaw17.PackedReads -/
noncomputable def r4_0 : CodeT := fun call _ tm ds h K =>
  K .norm (T.set tm 2 (.bool false)) ds h
noncomputable def r4_1 : CodeT := fun call _ tm ds h K => (⟨opStep ⟨fun call env tm ds h K => kO (some (tg tm 0)) ds h K⟩ ⟨fun v tm => tm⟩ ⟨fun env tm => true⟩
  ⟨opStep ⟨fun call env tm ds h K => kO (lenSl (nthD 0 env)) ds h K⟩ ⟨fun v tm => tm⟩ ⟨fun env tm => true⟩
  ⟨opStep ⟨fun call env tm ds h K => kO (binV Try.prog .gtr 3 true (nthD 0 env) (.int .i64 (6000))) ds h K⟩ ⟨fun v tm => tm⟩ ⟨fun env tm => true⟩
  ⟨opStep ⟨fun call env tm ds h K => kO (some (nthD 0 env)) ds h K⟩ ⟨fun v tm => tm⟩ ⟨fun env tm => true⟩
  ⟨opStep ⟨fun call env tm ds h K => kO (some (tg tm 0)) ds h K⟩ ⟨fun v tm => tm⟩ ⟨fun env tm => isB true (nthD 0 env)⟩
  ⟨opStep ⟨fun call env tm ds h K => kO (lenSl (nthD 0 env)) ds h K⟩ ⟨fun v tm => tm⟩ ⟨fun env tm => isB true (nthD 1 env)⟩
  ⟨opStep ⟨fun call env tm ds h K => kO (binV Try.prog .leq 3 true (nthD 0 env) (.int .i64 (16384))) ds h K⟩ ⟨fun v tm => tm⟩ ⟨fun env tm => isB true (nthD 2 env)⟩
  ⟨opStep ⟨fun call env tm ds h K => kO (pickV (nthD 3 env) (nthD 0 env) (.bool false)) ds h K⟩ ⟨fun v tm => tm⟩ ⟨fun env tm => true⟩
  ⟨opStep ⟨fun call env tm ds h K => kO (some (nthD 0 env)) ds h K⟩ ⟨fun v tm => tm⟩ ⟨fun env tm => true⟩
  ⟨opStep ⟨fun call env tm ds h K => kO (some (tg tm 0)) ds h K⟩ ⟨fun v tm => tm⟩ ⟨fun env tm => isB false (nthD 0 env)⟩
  ⟨opStep ⟨fun call env tm ds h K => kO (lenSl (nthD 0 env)) ds h K⟩ ⟨fun v tm => tm⟩ ⟨fun env tm => isB false (nthD 1 env)⟩
  ⟨opStep ⟨fun call env tm ds h K => kO (binV Try.prog .gtr 3 true (nthD 0 env) (.int .i64 (17000))) ds h K⟩ ⟨fun v tm => tm⟩ ⟨fun env tm => isB false (nthD 2 env)⟩
  ⟨opStep ⟨fun call env tm ds h K => kO (pickV (nthD 3 env) (.bool true) (nthD 0 env)) ds h K⟩ ⟨fun v tm => (T.set tm 22 v)⟩ ⟨fun env tm => true⟩
  ⟨fun _ _ tm ds h K => K .norm tm ds h⟩⟩⟩⟩⟩⟩⟩⟩⟩⟩⟩⟩⟩⟩ : Box OpsT).f call [] tm ds h K
noncomputable def r4_2 : CodeT := fun call _ tm ds h K =>
  K .norm (T.set tm 2 (.bool true)) ds h
noncomputable def r4_3 : CodeT := fun call _ tm ds h K =>
  K .norm (T.set tm 3 (.slice none 0 0)) ds h
noncomputable def r4_4 : CodeT := fun call _ tm ds h K =>
  kH (appendV 1 1 h (tg tm 3) (tg tm 0)) ds (fun v2 ds h =>
  K .norm (T.set tm 3 v2) ds h)
noncomputable def r4_5 : CodeT := fun call _ tm ds h K =>
  call 11 [(tg tm 3)] h (fun v h => (fun v1 ds h =>
  kO (tupNth 0 v1) ds h (fun v3 ds h =>
  kO (tupNth 1 v1) ds h (fun v4 ds h =>
  kO (tupNth 2 v1) ds h (fun v5 ds h =>
  kA (some (.rw [(.int .u8 (0)), (.int .u8 (0)), (.int .u8 (0)), (.slice none 0 0), (.int .u64 (0)), (.bool false), (.string (strB []))], ptrTo h.next)) ds h (fun v6 ds h =>
  kH (withV undef (storeV 7 h v6 v3)) ds (fun v7 ds h =>
  K .norm (T.set (T.set (T.set tm 4 v6) 5 v4) 6 v5) ds h)))))) v ds h)
noncomputable def r4_6 : CodeT := fun call _ tm ds h K =>
  call 12 [(tg tm 0)] h (fun v h => (fun v1 ds h =>
  kO (tupNth 0 v1) ds h (fun v3 ds h =>
  kO (tupNth 1 v1) ds h (fun v4 ds h =>
  kO (tupNth 2 v1) ds h (fun v5 ds h =>
  kA (some (.rw [(.int .u8 (0)), (.int .u8 (0)), (.int .u8 (0)), (.slice none 0 0), (.int .u64 (0)), (.bool false), (.string (strB []))], ptrTo h.next)) ds h (fun v6 ds h =>
  kH (withV undef (storeV 7 h v6 v3)) ds (fun v7 ds h =>
  K .norm (T.set (T.set (T.set tm 7 v6) 8 v4) 9 v5) ds h)))))) v ds h)
noncomputable def r4_7 : CodeT := fun call _ tm ds h K => (⟨opStep ⟨fun call env tm ds h K => kO (loadAgg 7 h (tg tm 4)) ds h K⟩ ⟨fun v tm => tm⟩ ⟨fun env tm => true⟩
  ⟨opStep ⟨fun call env tm ds h K => kO (loadAgg 7 h (tg tm 7)) ds h K⟩ ⟨fun v tm => tm⟩ ⟨fun env tm => true⟩
  ⟨opStep ⟨fun call env tm ds h K => call 13 [(nthD 1 env), (nthD 0 env)] h (fun v h => (K) v ds h)⟩ ⟨fun v tm => tm⟩ ⟨fun env tm => true⟩
  ⟨opStep ⟨fun call env tm ds h K => kO (some (nthD 0 env)) ds h K⟩ ⟨fun v tm => tm⟩ ⟨fun env tm => true⟩
  ⟨opStep ⟨fun call env tm ds h K => kO (some (tg tm 5)) ds h K⟩ ⟨fun v tm => tm⟩ ⟨fun env tm => isB true (nthD 0 env)⟩
  ⟨opStep ⟨fun call env tm ds h K => kO (some (tg tm 8)) ds h K⟩ ⟨fun v tm => tm⟩ ⟨fun env tm => isB true (nthD 1 env)⟩
  ⟨opStep ⟨fun call env tm ds h K => kO (binV Try.prog .eql 3 false (nthD 1 env) (nthD 0 env)) ds h K⟩ ⟨fun v tm => tm⟩ ⟨fun env tm => isB true (nthD 2 env)⟩
  ⟨opStep ⟨fun call env tm ds h K => kO (pickV (nthD 3 env) (nthD 0 env) (.bool false)) ds h K⟩ ⟨fun v tm => tm⟩ ⟨fun env tm => true⟩
  ⟨opStep ⟨fun call env tm ds h K => kO (some (nthD 0 env)) ds h K⟩ ⟨fun v tm => tm⟩ ⟨fun env tm => true⟩
  ⟨opStep ⟨fun call env tm ds h K => kO (some (tg tm 6)) ds h K⟩ ⟨fun v tm => tm⟩ ⟨fun env tm => isB true (nthD 0 env)⟩
  ⟨opStep ⟨fun call env tm ds h K => kO (some (tg tm 9)) ds h K⟩ ⟨fun v tm => tm⟩ ⟨fun env tm => isB true (nthD 1 env)⟩
  ⟨opStep ⟨fun call env tm ds h K => kO (binV Try.prog .eql 3 false (nthD 1 env) (nthD 0 env)) ds h K⟩ ⟨fun v tm => tm⟩ ⟨fun env tm => isB true (nthD 2 env)⟩
  ⟨opStep ⟨fun call env tm ds h K => kO (pickV (nthD 3 env) (nthD 0 env) (.bool false)) ds h K⟩ ⟨fun v tm => tm⟩ ⟨fun env tm => true⟩
  ⟨opStep ⟨fun call env tm ds h K => kO (some (nthD 0 env)) ds h K⟩ ⟨fun v tm => tm⟩ ⟨fun env tm => true⟩
  ⟨opStep ⟨fun call env tm ds h K => kO (some (tg tm 3)) ds h K⟩ ⟨fun v tm => tm⟩ ⟨fun env tm => isB true (nthD 0 env)⟩
  ⟨opStep ⟨fun call env tm ds h K => kO (bytesStr h (nthD 0 env)) ds h K⟩ ⟨fun v tm => tm⟩ ⟨fun env tm => isB true (nthD 1 env)⟩
  ⟨opStep ⟨fun call env tm ds h K => kO (some (tg tm 0)) ds h K⟩ ⟨fun v tm => tm⟩ ⟨fun env tm => isB true (nthD 2 env)⟩
  ⟨opStep ⟨fun call env tm ds h K => kO (bytesStr h (nthD 0 env)) ds h K⟩ ⟨fun v tm => tm⟩ ⟨fun env tm => isB true (nthD 3 env)⟩
  ⟨opStep ⟨fun call env tm ds h K => kO (binV Try.prog .eql 9 false (nthD 2 env) (nthD 0 env)) ds h K⟩ ⟨fun v tm => tm⟩ ⟨fun env tm => isB true (nthD 4 env)⟩
  ⟨opStep ⟨fun call env tm ds h K => kO (pickV (nthD 5 env) (nthD 0 env) (.bool false)) ds h K⟩ ⟨fun v tm => tm⟩ ⟨fun env tm => true⟩
  ⟨opStep ⟨fun call env tm ds h K => kO (some (nthD 0 env)) ds h K⟩ ⟨fun v tm => (T.set tm 2 v)⟩ ⟨fun env tm => true⟩
  ⟨fun _ _ tm ds h K => K .norm tm ds h⟩⟩⟩⟩⟩⟩⟩⟩⟩⟩⟩⟩⟩⟩⟩⟩⟩⟩⟩⟩⟩⟩ : Box OpsT).f call [] tm ds h K
noncomputable def c4 : Box CodeT := ⟨seqC ⟨r4_0⟩ ⟨seqC ⟨seqC ⟨r4_1⟩ ⟨condC ⟨fun _ tm => tg tm 22⟩ ⟨seqC ⟨r4_2⟩ retC⟩ skipC⟩⟩ ⟨seqC ⟨r4_3⟩ ⟨seqC ⟨r4_4⟩ ⟨seqC ⟨r4_5⟩ ⟨seqC ⟨r4_6⟩ ⟨seqC ⟨r4_7⟩ retC⟩⟩⟩⟩⟩⟩⟩
noncomputable def q4 : Box (T Value → H → Option (List Value)) := ⟨fun tm h => some [tg tm 2]⟩
/-! 5 cloakroom/cloakroomlaw17.PackedNames -/
noncomputable def r5_0 : CodeT := fun call _ tm ds h K =>
  K .norm (T.set tm 0 (.bool false)) ds h
noncomputable def r5_1 : CodeT := fun call _ tm ds h K =>
  kO (aggO (fill [(.int .u8 (0)), (.int .u8 (0)), (.int .u8 (0)), (.slice none 0 0), (.int .u64 (0)), (.bool false), (.string (strB []))] (plc [(0, 1), (1, 1), (2, 3), (5, 1), (6, 1)]) [(0, (.int .u8 (4)))])) ds h (fun v0 ds h =>
  call 9 [v0] h (fun v h => (fun v1 ds h =>
  kO (tupNth 0 v1) ds h (fun v3 ds h =>
  kO (tupNth 1 v1) ds h (fun v4 ds h =>
  K .norm (T.set (T.set tm 1 v3) 2 v4) ds h))) v ds h))
noncomputable def r5_2 : CodeT := fun call _ tm ds h K =>
  kO (aggO (fill [(.string (strB [])), (.string (strB [])), (.int .u32 (0)), (.int .i64 (0)), (.int .u64 (0))] (plc [(0, 1), (1, 1), (2, 1), (3, 1), (4, 1)]) [(0, (.string (strB [107]))), (1, (.string (strB [97, 98]))), (2, (.int .u32 (7))), (4, (.int .u64 (3)))])) ds h (fun v0 ds h =>
  kA (some (.rw [(.string (strB [])), (.string (strB [])), (.int .u32 (0)), (.int .i64 (0)), (.int .u64 (0))], ptrTo h.next)) ds h (fun v1 ds h =>
  kH (withV undef (storeV 5 h v1 v0)) ds (fun v2 ds h =>
  K .norm (T.set tm 3 v1) ds h)))
noncomputable def r5_3 : CodeT := fun call _ tm ds h K =>
  kO (loadAgg 5 h (tg tm 3)) ds h (fun v0 ds h =>
  kA (mkLit 1 h.next (fill (repl [(.string (strB [])), (.string (strB [])), (.int .u32 (0)), (.int .i64 (0)), (.int .u64 (0))] 1) (pl 5) [(0, v0)])) ds h (fun v1 ds h =>
  kO (aggO (fill [(.int .u8 (0)), (.slice none 0 0), (.int .u64 (0))] (plc [(0, 1), (1, 1), (2, 1)]) [(0, (.int .u8 (1))), (1, v1)])) ds h (fun v2 ds h =>
  kO (aggO (fill [(.int .u8 (0)), (.int .u8 (0)), (.int .u8 (0)), (.slice none 0 0), (.int .u64 (0)), (.bool false), (.string (strB []))] (plc [(0, 1), (1, 1), (2, 3), (5, 1), (6, 1)]) [(0, (.int .u8 (1))), (1, (.int .u8 (1))), (2, v2)])) ds h (fun v3 ds h =>
  call 9 [v3] h (fun v h => (fun v4 ds h =>
  kO (tupNth 0 v4) ds h (fun v6 ds h =>
  kO (tupNth 1 v4) ds h (fun v7 ds h =>
  K .norm (T.set (T.set tm 4 v6) 5 v7) ds h))) v ds h)))))
noncomputable def r5_4 : CodeT := fun call _ tm ds h K =>
  kO (aggO (fill [(.int .u8 (0)), (.int .u8 (0)), (.int .u8 (0)), (.slice none 0 0), (.int .u64 (0)), (.bool false), (.string (strB []))] (plc [(0, 1), (1, 1), (2, 3), (5, 1), (6, 1)]) [])) ds h (fun v0 ds h =>
  call 9 [v0] h (fun v h => (fun v1 ds h =>
  kO (tupNth 0 v1) ds h (fun v3 ds h =>
  kO (tupNth 1 v1) ds h (fun v4 ds h =>
  K .norm (T.set tm 7 v4) ds h))) v ds h))
noncomputable def r5_5 : CodeT := fun call _ tm ds h K =>
  kA (mkLit 5 h.next (fill (repl [(.int .u8 (0))] 5) (pl 1) [(0, (.int .u8 (178))), (1, (.int .u8 (4))), (2, (.int .u8 (0))), (3, (.int .u8 (0))), (4, (.int .u8 (0)))])) ds h (fun v0 ds h =>
  call 11 [v0] h (fun v h => (fun v1 ds h =>
  kO (tupNth 0 v1) ds h (fun v3 ds h =>
  kO (tupNth 1 v1) ds h (fun v4 ds h =>
  kO (tupNth 2 v1) ds h (fun v5 ds h =>
  kA (some (.rw [(.int .u8 (0)), (.int .u8 (0)), (.int .u8 (0)), (.slice none 0 0), (.int .u64 (0)), (.bool false), (.string (strB []))], ptrTo h.next)) ds h (fun v6 ds h =>
  kH (withV undef (storeV 7 h v6 v3)) ds (fun v7 ds h =>
  K .norm (T.set (T.set tm 9 v4) 10 v5) ds h)))))) v ds h))
noncomputable def r5_6 : CodeT := fun call _ tm ds h K =>
  kA (mkLit 1 h.next (fill (repl [(.int .u8 (0))] 1) (pl 1) [(0, (.int .u8 (177)))])) ds h (fun v0 ds h =>
  call 11 [v0] h (fun v h => (fun v1 ds h =>
  kO (tupNth 0 v1) ds h (fun v3 ds h =>
  kO (tupNth 1 v1) ds h (fun v4 ds h =>
  kO (tupNth 2 v1) ds h (fun v5 ds h =>
  kA (some (.rw [(.int .u8 (0)), (.int .u8 (0)), (.int .u8 (0)), (.slice none 0 0), (.int .u64 (0)), (.bool false), (.string (strB []))], ptrTo h.next)) ds h (fun v6 ds h =>
  kH (withV undef (storeV 7 h v6 v3)) ds (fun v7 ds h =>
  K .norm (T.set tm 13 v5) ds h)))))) v ds h))
noncomputable def r5_7 : CodeT := fun call _ tm ds h K =>
  kA (mkLit 6 h.next (fill (repl [(.int .u8 (0))] 6) (pl 1) [(0, (.int .u8 (178))), (1, (.int .u8 (9))), (2, (.int .u8 (0))), (3, (.int .u8 (0))), (4, (.int .u8 (0))), (5, (.int .u8 (0)))])) ds h (fun v0 ds h =>
  call 11 [v0] h (fun v h => (fun v1 ds h =>
  kO (tupNth 0 v1) ds h (fun v3 ds h =>
  kO (tupNth 1 v1) ds h (fun v4 ds h =>
  kO (tupNth 2 v1) ds h (fun v5 ds h =>
  kA (some (.rw [(.int .u8 (0)), (.int .u8 (0)), (.int .u8 (0)), (.slice none 0 0), (.int .u64 (0)), (.bool false), (.string (strB []))], ptrTo h.next)) ds h (fun v6 ds h =>
  kH (withV undef (storeV 7 h v6 v3)) ds (fun v7 ds h =>
  K .norm (T.set tm 16 v5) ds h)))))) v ds h))
noncomputable def r5_8 : CodeT := fun call _ tm ds h K =>
  kA (mkSlice [(.int .u8 (0))] 1 h.next (.int .i64 (16385)) (.int .i64 (16385))) ds h (fun v0 ds h =>
  call 11 [v0] h (fun v h => (fun v1 ds h =>
  kO (tupNth 0 v1) ds h (fun v3 ds h =>
  kO (tupNth 1 v1) ds h (fun v4 ds h =>
  kO (tupNth 2 v1) ds h (fun v5 ds h =>
  kA (some (.rw [(.int .u8 (0)), (.int .u8 (0)), (.int .u8 (0)), (.slice none 0 0), (.int .u64 (0)), (.bool false), (.string (strB []))], ptrTo h.next)) ds h (fun v6 ds h =>
  kH (withV undef (storeV 7 h v6 v3)) ds (fun v7 ds h =>
  K .norm (T.set tm 19 v5) ds h)))))) v ds h))
noncomputable def r5_9 : CodeT := fun call _ tm ds h K => (⟨opStep ⟨fun call env tm ds h K => kO (some (tg tm 1)) ds h K⟩ ⟨fun v tm => tm⟩ ⟨fun env tm => true⟩
  ⟨opStep ⟨fun call env tm ds h K => kO (bytesStr h (nthD 0 env)) ds h K⟩ ⟨fun v tm => tm⟩ ⟨fun env tm => true⟩
  ⟨opStep ⟨fun call env tm ds h K => kA (mkLit 6 h.next (fill (repl [(.int .u8 (0))] 6) (pl 1) [(0, (.int .u8 (178))), (1, (.int .u8 (4))), (2, (.int .u8 (0))), (3, (.int .u8 (0))), (4, (.int .u8 (0))), (5, (.int .u8 (0)))])) ds h K⟩ ⟨fun v tm => tm⟩ ⟨fun env tm => true⟩
  ⟨opStep ⟨fun call env tm ds h K => kO (bytesStr h (nthD 0 env)) ds h K⟩ ⟨fun v tm => tm⟩ ⟨fun env tm => true⟩
  ⟨opStep ⟨fun call env tm ds h K => kO (binV Try.prog .eql 9 false (nthD 2 env) (nthD 0 env)) ds h K⟩ ⟨fun v tm => tm⟩ ⟨fun env tm => true⟩
  ⟨opStep ⟨fun call env tm ds h K => kO (some (nthD 0 env)) ds h K⟩ ⟨fun v tm => tm⟩ ⟨fun env tm => true⟩
  ⟨opStep ⟨fun call env tm ds h K => kO (some (tg tm 2)) ds h K⟩ ⟨fun v tm => tm⟩ ⟨fun env tm => isB true (nthD 0 env)⟩
  ⟨opStep ⟨fun call env tm ds h K => kO (binV Try.prog .eql 30 true (nthD 0 env) (.int .i64 (0))) ds h K⟩ ⟨fun v tm => tm⟩ ⟨fun env tm => isB true (nthD 1 env)⟩
  ⟨opStep ⟨fun call env tm ds h K => kO (pickV (nthD 2 env) (nthD 0 env) (.bool false)) ds h K⟩ ⟨fun v tm => tm⟩ ⟨fun env tm => true⟩
  ⟨opStep ⟨fun call env tm ds h K => kO (some (nthD 0 env)) ds h K⟩ ⟨fun v tm => tm⟩ ⟨fun env tm => true⟩
  ⟨opStep ⟨fun call env tm ds h K => kO (some (tg tm 4)) ds h K⟩ ⟨fun v tm => tm⟩ ⟨fun env tm => isB true (nthD 0 env)⟩
  ⟨opStep ⟨fun call env tm ds h K => kO (bytesStr h (nthD 0 env)) ds h K⟩ ⟨fun v tm => tm⟩ ⟨fun env tm => isB true (nthD 1 env)⟩
  ⟨opStep ⟨fun call env tm ds h K => kA (mkLit 18 h.next (fill (repl [(.int .u8 (0))] 18) (pl 1) [(0, (.int .u8 (178))), (1, (.int .u8 (1))), (2, (.int .u8 (0))), (3, (.int .u8 (0))), (4, (.int .u8 (0))), (5, (.int .u8 (12))), (6, (.int .u8 (1))), (7, (.int .u8 (1))), (8, (.int .u8 (0))), (9, (.int .u8 (1))), (10, (.int .u8 (1))), (11, (.int .u8 (107))), (12, (.int .u8 (2))), (13, (.int .u8 (97))), (14, (.int .u8 (98))), (15, (.int .u8 (7))), (16, (.int .u8 (0))), (17, (.int .u8 (3)))])) ds h K⟩ ⟨fun v tm => tm⟩ ⟨fun env tm => isB true (nthD 2 env)⟩
  ⟨opStep ⟨fun call env tm ds h K => kO (bytesStr h (nthD 0 env)) ds h K⟩ ⟨fun v tm => tm⟩ ⟨fun env tm => isB true (nthD 3 env)⟩
  ⟨opStep ⟨fun call env tm ds h K => kO (binV Try.prog .eql 9 false (nthD 2 env) (nthD 0 env)) ds h K⟩ ⟨fun v tm => tm⟩ ⟨fun env tm => isB true (nthD 4 env)⟩
  ⟨opStep ⟨fun call env tm ds h K => kO (pickV (nthD 5 env) (nthD 0 env) (.bool false)) ds h K⟩ ⟨fun v tm => tm⟩ ⟨fun env tm => true⟩
  ⟨opStep ⟨fun call env tm ds h K => kO (some (nthD 0 env)) ds h K⟩ ⟨fun v tm => tm⟩ ⟨fun env tm => true⟩
  ⟨opStep ⟨fun call env tm ds h K => kO (some (tg tm 5)) ds h K⟩ ⟨fun v tm => tm⟩ ⟨fun env tm => isB true (nthD 0 env)⟩
  ⟨opStep ⟨fun call env tm ds h K => kO (binV Try.prog .eql 30 true (nthD 0 env) (.int .i64 (0))) ds h K⟩ ⟨fun v tm => tm⟩ ⟨fun env tm => isB true (nthD 1 env)⟩
  ⟨opStep ⟨fun call env tm ds h K => kO (pickV (nthD 2 env) (nthD 0 env) (.bool false)) ds h K⟩ ⟨fun v tm => tm⟩ ⟨fun env tm => true⟩
  ⟨opStep ⟨fun call env tm ds h K => kO (some (nthD 0 env)) ds h K⟩ ⟨fun v tm => (T.set tm 20 v)⟩ ⟨fun env tm => true⟩
  ⟨fun _ _ tm ds h K => K .norm tm ds h⟩⟩⟩⟩⟩⟩⟩⟩⟩⟩⟩⟩⟩⟩⟩⟩⟩⟩⟩⟩⟩⟩ : Box OpsT).f call [] tm ds h K
noncomputable def r5_10 : CodeT := fun call _ tm ds h K => (⟨opStep ⟨fun call env tm ds h K => call 14 [] h (fun v h => (K) v ds h)⟩ ⟨fun v tm => tm⟩ ⟨fun env tm => true⟩
  ⟨opStep ⟨fun call env tm ds h K => kO (some (nthD 0 env)) ds h K⟩ ⟨fun v tm => tm⟩ ⟨fun env tm => true⟩
  ⟨opStep ⟨fun call env tm ds h K => kO (some (tg tm 20)) ds h K⟩ ⟨fun v tm => tm⟩ ⟨fun env tm => isB true (nthD 0 env)⟩
  ⟨opStep ⟨fun call env tm ds h K => kO (pickV (nthD 1 env) (nthD 0 env) (.bool false)) ds h K⟩ ⟨fun v tm => tm⟩ ⟨fun env tm => true⟩
  ⟨opStep ⟨fun call env tm ds h K => kO (some (nthD 0 env)) ds h K⟩ ⟨fun v tm => tm⟩ ⟨fun env tm => true⟩
  ⟨opStep ⟨fun call env tm ds h K => kO (some (tg tm 7)) ds h K⟩ ⟨fun v tm => tm⟩ ⟨fun env tm => isB true (nthD 0 env)⟩
  ⟨opStep ⟨fun call env tm ds h K => kO (binV Try.prog .eql 30 true (nthD 0 env) (.int .i64 (8))) ds h K⟩ ⟨fun v tm => tm⟩ ⟨fun env tm => isB true (nthD 1 env)⟩
  ⟨opStep ⟨fun call env tm ds h K => kO (pickV (nthD 2 env) (nthD 0 env) (.bool false)) ds h K⟩ ⟨fun v tm => tm⟩ ⟨fun env tm => true⟩
  ⟨opStep ⟨fun call env tm ds h K => kO (some (nthD 0 env)) ds h K⟩ ⟨fun v tm => tm⟩ ⟨fun env tm => true⟩
  ⟨opStep ⟨fun call env tm ds h K => kO (some (tg tm 9)) ds h K⟩ ⟨fun v tm => tm⟩ ⟨fun env tm => isB true (nthD 0 env)⟩
  ⟨opStep ⟨fun call env tm ds h K => kO (binV Try.prog .eql 3 true (nthD 0 env) (.int .i64 (0))) ds h K⟩ ⟨fun v tm => tm⟩ ⟨fun env tm => isB true (nthD 1 env)⟩
  ⟨opStep ⟨fun call env tm ds h K => kO (pickV (nthD 2 env) (nthD 0 env) (.bool false)) ds h K⟩ ⟨fun v tm => tm⟩ ⟨fun env tm => true⟩
  ⟨opStep ⟨fun call env tm ds h K => kO (some (nthD 0 env)) ds h K⟩ ⟨fun v tm => tm⟩ ⟨fun env tm => true⟩
  ⟨opStep ⟨fun call env tm ds h K => kO (some (tg tm 10)) ds h K⟩ ⟨fun v tm => tm⟩ ⟨fun env tm => isB true (nthD 0 env)⟩
  ⟨opStep ⟨fun call env tm ds h K => kO (binV Try.prog .eql 30 true (nthD 0 env) (.int .i64 (0))) ds h K⟩ ⟨fun v tm => tm⟩ ⟨fun env tm => isB true (nthD 1 env)⟩
  ⟨opStep ⟨fun call env tm ds h K => kO (pickV (nthD 2 env) (nthD 0 env) (.bool false)) ds h K⟩ ⟨fun v tm => tm⟩ ⟨fun env tm => true⟩
  ⟨opStep ⟨fun call env tm ds h K => kO (some (nthD 0 env)) ds h K⟩ ⟨fun v tm => tm⟩ ⟨fun env tm => true⟩
  ⟨opStep ⟨fun call env tm ds h K => kO (some (tg tm 13)) ds h K⟩ ⟨fun v tm => tm⟩ ⟨fun env tm => isB true (nthD 0 env)⟩
  ⟨opStep ⟨fun call env tm ds h K => kO (binV Try.prog .eql 30 true (nthD 0 env) (.int .i64 (8))) ds h K⟩ ⟨fun v tm => tm⟩ ⟨fun env tm => isB true (nthD 1 env)⟩
  ⟨opStep ⟨fun call env tm ds h K => kO (pickV (nthD 2 env) (nthD 0 env) (.bool false)) ds h K⟩ ⟨fun v tm => tm⟩ ⟨fun env tm => true⟩
  ⟨opStep ⟨fun call env tm ds h K => kO (some (nthD 0 env)) ds h K⟩ ⟨fun v tm => tm⟩ ⟨fun env tm => true⟩
  ⟨opStep ⟨fun call env tm ds h K => kO (some (tg tm 16)) ds h K⟩ ⟨fun v tm => tm⟩ ⟨fun env tm => isB true (nthD 0 env)⟩
  ⟨opStep ⟨fun call env tm ds h K => kO (binV Try.prog .eql 30 true (nthD 0 env) (.int .i64 (8))) ds h K⟩ ⟨fun v tm => tm⟩ ⟨fun env tm => isB true (nthD 1 env)⟩
  ⟨opStep ⟨fun call env tm ds h K => kO (pickV (nthD 2 env) (nthD 0 env) (.bool false)) ds h K⟩ ⟨fun v tm => tm⟩ ⟨fun env tm => true⟩
  ⟨opStep ⟨fun call env tm ds h K => kO (some (nthD 0 env)) ds h K⟩ ⟨fun v tm => tm⟩ ⟨fun env tm => true⟩
  ⟨opStep ⟨fun call env tm ds h K => kO (some (tg tm 19)) ds h K⟩ ⟨fun v tm => tm⟩ ⟨fun env tm => isB true (nthD 0 env)⟩
  ⟨opStep ⟨fun call env tm ds h K => kO (binV Try.prog .eql 30 true (nthD 0 env) (.int .i64 (3))) ds h K⟩ ⟨fun v tm => tm⟩ ⟨fun env tm => isB true (nthD 1 env)⟩
  ⟨opStep ⟨fun call env tm ds h K => kO (pickV (nthD 2 env) (nthD 0 env) (.bool false)) ds h K⟩ ⟨fun v tm => tm⟩ ⟨fun env tm => true⟩
  ⟨opStep ⟨fun call env tm ds h K => kO (some (nthD 0 env)) ds h K⟩ ⟨fun v tm => (T.set tm 0 v)⟩ ⟨fun env tm => true⟩
  ⟨fun _ _ tm ds h K => K .norm tm ds h⟩⟩⟩⟩⟩⟩⟩⟩⟩⟩⟩⟩⟩⟩⟩⟩⟩⟩⟩⟩⟩⟩⟩⟩⟩⟩⟩⟩⟩⟩ : Box OpsT).f call [] tm ds h K
noncomputable def c5 : Box CodeT := ⟨seqC ⟨r5_0⟩ ⟨seqC ⟨r5_1⟩ ⟨seqC ⟨r5_2⟩ ⟨seqC ⟨r5_3⟩ ⟨seqC ⟨r5_4⟩ ⟨seqC ⟨r5_5⟩ ⟨seqC ⟨r5_6⟩ ⟨seqC ⟨r5_7⟩ ⟨seqC ⟨r5_8⟩ ⟨seqC ⟨r5_9⟩ ⟨seqC ⟨r5_10⟩ retC⟩⟩⟩⟩⟩⟩⟩⟩⟩⟩⟩
noncomputable def q5 : Box (T Value → H → Option (List Value)) := ⟨fun tm h => some [tg tm 0]⟩
/-! 6 cloakroom/cloakroomlaw17.PackedBack -/
noncomputable def r6_0 : CodeT := fun call _ tm ds h K =>
  kA (some (.rw (Value.cells (tg tm 0)).toList, ptrTo h.next)) ds h (fun v0 ds h =>
  K .norm (T.set (T.set tm 2 v0) 4 (.bool false)) ds h)
noncomputable def r6_1 : CodeT := fun call _ tm ds h K =>
  call 14 [] h (fun v h => (fun v0 ds h =>
  K .norm (T.set tm 5 v0) ds h) v ds h)
noncomputable def r6_2 : CodeT := fun call _ tm ds h K => (⟨opStep ⟨fun call env tm ds h K => kO (loadAgg 7 h (tg tm 2)) ds h K⟩ ⟨fun v tm => tm⟩ ⟨fun env tm => true⟩
  ⟨opStep ⟨fun call env tm ds h K => call 8 [(nthD 0 env)] h (fun v h => (K) v ds h)⟩ ⟨fun v tm => tm⟩ ⟨fun env tm => true⟩
  ⟨opStep ⟨fun call env tm ds h K => kO (some (nthD 0 env)) ds h K⟩ ⟨fun v tm => tm⟩ ⟨fun env tm => true⟩
  ⟨opStep ⟨fun call env tm ds h K => kO (some (tg tm 1)) ds h K⟩ ⟨fun v tm => tm⟩ ⟨fun env tm => isB false (nthD 0 env)⟩
  ⟨opStep ⟨fun call env tm ds h K => kO (lenSl (nthD 0 env)) ds h K⟩ ⟨fun v tm => tm⟩ ⟨fun env tm => isB false (nthD 1 env)⟩
  ⟨opStep ⟨fun call env tm ds h K => kO (binV Try.prog .gtr 3 true (nthD 0 env) (.int .i64 (8000))) ds h K⟩ ⟨fun v tm => tm⟩ ⟨fun env tm => isB false (nthD 2 env)⟩
  ⟨opStep ⟨fun call env tm ds h K => kO (pickV (nthD 3 env) (.bool true) (nthD 0 env)) ds h K⟩ ⟨fun v tm => tm⟩ ⟨fun env tm => true⟩
  ⟨opStep ⟨fun call env tm ds h K => kO (some (nthD 0 env)) ds h K⟩ ⟨fun v tm => tm⟩ ⟨fun env tm => true⟩
  ⟨opStep ⟨fun call env tm ds h K => kO (some (tg tm 5)) ds h K⟩ ⟨fun v tm => tm⟩ ⟨fun env tm => isB false (nthD 0 env)⟩
  ⟨opStep ⟨fun call env tm ds h K => kO (unV .not (nthD 0 env)) ds h K⟩ ⟨fun v tm => tm⟩ ⟨fun env tm => isB false (nthD 1 env)⟩
  ⟨opStep ⟨fun call env tm ds h K => kO (pickV (nthD 2 env) (.bool true) (nthD 0 env)) ds h K⟩ ⟨fun v tm => (T.set tm 24 v)⟩ ⟨fun env tm => true⟩
  ⟨fun _ _ tm ds h K => K .norm tm ds h⟩⟩⟩⟩⟩⟩⟩⟩⟩⟩⟩⟩ : Box OpsT).f call [] tm ds h K
noncomputable def r6_3 : CodeT := fun call _ tm ds h K =>
  K .norm (T.set tm 4 (tg tm 5)) ds h
noncomputable def r6_4 : CodeT := fun call _ tm ds h K =>
  kO (loadAgg 7 h (tg tm 2)) ds h (fun v0 ds h =>
  call 9 [v0] h (fun v h => (fun v1 ds h =>
  kO (tupNth 0 v1) ds h (fun v3 ds h =>
  kO (tupNth 1 v1) ds h (fun v4 ds h =>
  K .norm (T.set (T.set tm 6 v3) 7 v4) ds h))) v ds h))
noncomputable def r6_5 : CodeT := fun call _ tm ds h K =>
  kO (binV Try.prog .neq 30 true (tg tm 7) (.int .i64 (0))) ds h (fun v1 ds h =>
  K .norm (T.set tm 32 v1) ds h)
noncomputable def r6_6 : CodeT := fun call _ tm ds h K =>
  kO (lenSl (tg tm 6)) ds h (fun v1 ds h =>
  kO (binV Try.prog .eql 3 true v1 (.int .i64 (0))) ds h (fun v2 ds h =>
  K .norm (T.set tm 4 v2) ds h))
noncomputable def r6_7 : CodeT := fun call _ tm ds h K =>
  kO (lenSl (tg tm 6)) ds h (fun v1 ds h =>
  K .norm (T.set tm 8 v1) ds h)
noncomputable def r6_8 : CodeT := fun call _ tm ds h K =>
  K .norm (T.set tm 9 (.slice none 0 0)) ds h
noncomputable def r6_9 : CodeT := fun call _ tm ds h K =>
  kH (appendV 1 1 h (tg tm 9) (tg tm 6)) ds (fun v2 ds h =>
  K .norm (T.set tm 9 v2) ds h)
noncomputable def r6_10 : CodeT := fun call _ tm ds h K =>
  kH (appendV 1 1 h (tg tm 9) (tg tm 1)) ds (fun v2 ds h =>
  K .norm (T.set tm 9 v2) ds h)
noncomputable def r6_11 : CodeT := fun call _ tm ds h K =>
  call 11 [(tg tm 9)] h (fun v h => (fun v1 ds h =>
  kO (tupNth 0 v1) ds h (fun v3 ds h =>
  kO (tupNth 1 v1) ds h (fun v4 ds h =>
  kO (tupNth 2 v1) ds h (fun v5 ds h =>
  kA (some (.rw [(.int .u8 (0)), (.int .u8 (0)), (.int .u8 (0)), (.slice none 0 0), (.int .u64 (0)), (.bool false), (.string (strB []))], ptrTo h.next)) ds h (fun v6 ds h =>
  kH (withV undef (storeV 7 h v6 v3)) ds (fun v7 ds h =>
  K .norm (T.set (T.set (T.set tm 10 v6) 11 v4) 12 v5) ds h)))))) v ds h)
noncomputable def r6_12 : CodeT := fun call _ tm ds h K => (⟨opStep ⟨fun call env tm ds h K => kO (some (tg tm 12)) ds h K⟩ ⟨fun v tm => tm⟩ ⟨fun env tm => true⟩
  ⟨opStep ⟨fun call env tm ds h K => kO (binV Try.prog .eql 30 true (nthD 0 env) (.int .i64 (0))) ds h K⟩ ⟨fun v tm => tm⟩ ⟨fun env tm => true⟩
  ⟨opStep ⟨fun call env tm ds h K => kO (some (nthD 0 env)) ds h K⟩ ⟨fun v tm => tm⟩ ⟨fun env tm => true⟩
  ⟨opStep ⟨fun call env tm ds h K => kO (some (tg tm 11)) ds h K⟩ ⟨fun v tm => tm⟩ ⟨fun env tm => isB true (nthD 0 env)⟩
  ⟨opStep ⟨fun call env tm ds h K => kO (some (tg tm 8)) ds h K⟩ ⟨fun v tm => tm⟩ ⟨fun env tm => isB true (nthD 1 env)⟩
  ⟨opStep ⟨fun call env tm ds h K => kO (binV Try.prog .eql 3 false (nthD 1 env) (nthD 0 env)) ds h K⟩ ⟨fun v tm => tm⟩ ⟨fun env tm => isB true (nthD 2 env)⟩
  ⟨opStep ⟨fun call env tm ds h K => kO (pickV (nthD 3 env) (nthD 0 env) (.bool false)) ds h K⟩ ⟨fun v tm => tm⟩ ⟨fun env tm => true⟩
  ⟨opStep ⟨fun call env tm ds h K => kO (some (nthD 0 env)) ds h K⟩ ⟨fun v tm => tm⟩ ⟨fun env tm => true⟩
  ⟨opStep ⟨fun call env tm ds h K => kO (loadAgg 7 h (tg tm 10)) ds h K⟩ ⟨fun v tm => tm⟩ ⟨fun env tm => isB true (nthD 0 env)⟩
  ⟨opStep ⟨fun call env tm ds h K => kO (loadAgg 7 h (tg tm 2)) ds h K⟩ ⟨fun v tm => tm⟩ ⟨fun env tm => isB true (nthD 1 env)⟩
  ⟨opStep ⟨fun call env tm ds h K => call 13 [(nthD 1 env), (nthD 0 env)] h (fun v h => (K) v ds h)⟩ ⟨fun v tm => tm⟩ ⟨fun env tm => isB true (nthD 2 env)⟩
  ⟨opStep ⟨fun call env tm ds h K => kO (pickV (nthD 3 env) (nthD 0 env) (.bool false)) ds h K⟩ ⟨fun v tm => tm⟩ ⟨fun env tm => true⟩
  ⟨opStep ⟨fun call env tm ds h K => kO (some (nthD 0 env)) ds h K⟩ ⟨fun v tm => (T.set tm 4 v)⟩ ⟨fun env tm => true⟩
  ⟨fun _ _ tm ds h K => K .norm tm ds h⟩⟩⟩⟩⟩⟩⟩⟩⟩⟩⟩⟩⟩⟩ : Box OpsT).f call [] tm ds h K
noncomputable def c6 : Box CodeT := ⟨seqC ⟨r6_0⟩ ⟨seqC ⟨r6_1⟩ ⟨seqC ⟨seqC ⟨r6_2⟩ ⟨condC ⟨fun _ tm => tg tm 24⟩ ⟨seqC ⟨r6_3⟩ retC⟩ skipC⟩⟩ ⟨seqC ⟨r6_4⟩ ⟨seqC ⟨seqC ⟨r6_5⟩ ⟨condC ⟨fun _ tm => tg tm 32⟩ ⟨seqC ⟨r6_6⟩ retC⟩ skipC⟩⟩ ⟨seqC ⟨r6_7⟩ ⟨seqC ⟨r6_8⟩ ⟨seqC ⟨r6_9⟩ ⟨seqC ⟨r6_10⟩ ⟨seqC ⟨r6_11⟩ ⟨seqC ⟨r6_12⟩ retC⟩⟩⟩⟩⟩⟩⟩⟩⟩⟩⟩
noncomputable def q6 : Box (T Value → H → Option (List Value)) := ⟨fun tm h => some [tg tm 4]⟩
/-! 7 cloakroom/cloakroomlaw17.PackedOnly -/
noncomputable def r7_0 : CodeT := fun call _ tm ds h K =>
  K .norm (T.set tm 2 (.bool false)) ds h
noncomputable def r7_1 : CodeT := fun call _ tm ds h K =>
  call 14 [] h (fun v h => (fun v0 ds h =>
  K .norm (T.set tm 3 v0) ds h) v ds h)
noncomputable def r7_2 : CodeT := fun call _ tm ds h K =>
  kO (lenSl (tg tm 0)) ds h (fun v1 ds h =>
  kO (binV Try.prog .gtr 3 true v1 (.int .i64 (6000))) ds h (fun v2 ds h =>
  gd (isB false v2) (fun k => kO (some (tg tm 3)) ds h (k)) ds h (fun v4 ds h =>
  gd (isB false v2) (fun k => kO (unV .not v4) ds h (k)) ds h (fun v5 ds h =>
  kO (pickV v2 (.bool true) v5) ds h (fun v6 ds h =>
  K .norm (T.set tm 16 v6) ds h)))))
noncomputable def r7_3 : CodeT := fun call _ tm ds h K =>
  K .norm (T.set tm 2 (tg tm 3)) ds h
noncomputable def r7_4 : CodeT := fun call _ tm ds h K =>
  call 11 [(tg tm 0)] h (fun v h => (fun v1 ds h =>
  kO (tupNth 0 v1) ds h (fun v3 ds h =>
  kO (tupNth 1 v1) ds h (fun v4 ds h =>
  kO (tupNth 2 v1) ds h (fun v5 ds h =>
  kA (some (.rw [(.int .u8 (0)), (.int .u8 (0)), (.int .u8 (0)), (.slice none 0 0), (.int .u64 (0)), (.bool false), (.string (strB []))], ptrTo h.next)) ds h (fun v6 ds h =>
  kH (withV undef (storeV 7 h v6 v3)) ds (fun v7 ds h =>
  K .norm (T.set (T.set (T.set tm 4 v6) 5 v4) 6 v5) ds h)))))) v ds h)
noncomputable def r7_5 : CodeT := fun call _ tm ds h K =>
  kO (binV Try.prog .neq 30 true (tg tm 6) (.int .i64 (0))) ds h (fun v1 ds h =>
  gd (isB false v1) (fun k => kO (some (tg tm 5)) ds h (k)) ds h (fun v3 ds h =>
  gd (isB false v1) (fun k => kO (binV Try.prog .eql 3 true v3 (.int .i64 (0))) ds h (k)) ds h (fun v4 ds h =>
  kO (pickV v1 (.bool true) v4) ds h (fun v5 ds h =>
  K .norm (T.set tm 29 v5) ds h))))
noncomputable def r7_6 : CodeT := fun call _ tm ds h K =>
  kO (loadAgg 7 h (tg tm 4)) ds h (fun v0 ds h =>
  kO (aggO (fill [(.int .u8 (0)), (.int .u8 (0)), (.int .u8 (0)), (.slice none 0 0), (.int .u64 (0)), (.bool false), (.string (strB []))] (plc [(0, 1), (1, 1), (2, 3), (5, 1), (6, 1)]) [])) ds h (fun v1 ds h =>
  call 13 [v0, v1] h (fun v h => (fun v2 ds h =>
  gd (isB true v2) (fun k => kO (some (tg tm 5)) ds h (k)) ds h (fun v4 ds h =>
  gd (isB true v2) (fun k => kO (binV Try.prog .eql 3 true v4 (.int .i64 (0))) ds h (k)) ds h (fun v5 ds h =>
  kO (pickV v2 v5 (.bool false)) ds h (fun v6 ds h =>
  K .norm (T.set tm 2 v6) ds h)))) v ds h)))
noncomputable def r7_7 : CodeT := fun call _ tm ds h K =>
  kO (loadAgg 7 h (tg tm 4)) ds h (fun v0 ds h =>
  call 9 [v0] h (fun v h => (fun v1 ds h =>
  kO (tupNth 0 v1) ds h (fun v3 ds h =>
  kO (tupNth 1 v1) ds h (fun v4 ds h =>
  K .norm (T.set (T.set tm 7 v3) 8 v4) ds h))) v ds h))
noncomputable def r7_8 : CodeT := fun call _ tm ds h0 K =>
  (fun (b0 : Nat) (h : H) =>
  kO (binV Try.prog .eql 30 true (tg tm 8) (.int .i64 (0))) ds h (fun v1 ds h =>
  gd (isB true v1) (fun k => kO (some (tg tm 5)) ds h k) ds h (fun v3 ds h =>
  gd (isB true v1) (fun k => kO (some (tg tm 0)) ds h k) ds h (fun v4 ds h =>
  gd (isB true v1) (fun k => kO (lenSl v4) ds h k) ds h (fun v5 ds h =>
  gd (isB true v1) (fun k => kO (binV Try.prog .leq 3 false v3 v5) ds h k) ds h (fun v6 ds h =>
  kO (pickV v1 v6 (.bool false)) ds h (fun v7 ds h =>
  gd (isB true v7) (fun k => kO (some (tg tm 7)) ds h k) ds h (fun v9 ds h =>
  ite2 (isB true v7) (kO (bytesStr h v9) ds h (fun v10 ds h =>
  gd (isB true v7) (fun k => kO (some (tg tm 0)) ds h k) ds h (fun v11 ds h =>
  gd (isB true v7) (fun k => kO (some (tg tm 5)) ds h k) ds h (fun v12 ds h =>
  gd (isB true v7) (fun k => kO (sliceSl 1 v11 none (some v12) none) ds h k) ds h (fun v13 ds h =>
  ite2 (isB true v7) (kO (bytesStr h v13) ds h (fun v14 ds h =>
  gd (isB true v7) (fun k => kO (binV Try.prog .eql 9 false v10 v14) ds h k) ds h (fun v15 ds h =>
  kO (pickV v7 v15 (.bool false)) ds h (fun v16 ds h =>
  ite2 (isB true v16) (kO (loadAgg 7 h (tg tm 4)) ds h (fun v18 ds h =>
  ite2 (isB true v16) (call 15 [v18] h (fun v h => (fun v19 ds h =>
  gd (isB true v16) (fun k => kO (binV Try.prog .eql 30 true v19 (.int .i64 (0))) ds h k) ds h (fun v20 ds h =>
  kO (pickV v16 v20 (.bool false)) ds h (fun v21 ds h =>
  K .norm (T.set tm 2 v21) ds h))) v ds h))
  (gd (isB true v16) (fun k => kO (binV Try.prog .eql 30 true undef (.int .i64 (0))) ds h k) ds h (fun v20 ds h =>
  kO (pickV v16 v20 (.bool false)) ds h (fun v21 ds h =>
  K .norm (T.set tm 2 v21) ds h)))))
  (ite2 (isB true v16) (call 15 [undef] h (fun v h => (fun v19 ds h =>
  gd (isB true v16) (fun k => kO (binV Try.prog .eql 30 true v19 (.int .i64 (0))) ds h k) ds h (fun v20 ds h =>
  kO (pickV v16 v20 (.bool false)) ds h (fun v21 ds h =>
  K .norm (T.set tm 2 v21) ds h))) v ds h))
  (gd (isB true v16) (fun k => kO (binV Try.prog .eql 30 true undef (.int .i64 (0))) ds h k) ds h (fun v20 ds h =>
  kO (pickV v16 v20 (.bool false)) ds h (fun v21 ds h =>
  K .norm (T.set tm 2 v21) ds h))))))))
  (gd (isB true v7) (fun k => kO (binV Try.prog .eql 9 false v10 undef) ds h k) ds h (fun v15 ds h =>
  kO (pickV v7 v15 (.bool false)) ds h (fun v16 ds h =>
  ite2 (isB true v16) (kO (loadAgg 7 h (tg tm 4)) ds h (fun v18 ds h =>
  ite2 (isB true v16) (call 15 [v18] h (fun v h => (fun v19 ds h =>
  gd (isB true v16) (fun k => kO (binV Try.prog .eql 30 true v19 (.int .i64 (0))) ds h k) ds h (fun v20 ds h =>
  kO (pickV v16 v20 (.bool false)) ds h (fun v21 ds h =>
  K .norm (T.set tm 2 v21) ds h))) v ds h))
  (gd (isB true v16) (fun k => kO (binV Try.prog .eql 30 true undef (.int .i64 (0))) ds h k) ds h (fun v20 ds h =>
  kO (pickV v16 v20 (.bool false)) ds h (fun v21 ds h =>
  K .norm (T.set tm 2 v21) ds h)))))
  (ite2 (isB true v16) (call 15 [undef] h (fun v h => (fun v19 ds h =>
  gd (isB true v16) (fun k => kO (binV Try.prog .eql 30 true v19 (.int .i64 (0))) ds h k) ds h (fun v20 ds h =>
  kO (pickV v16 v20 (.bool false)) ds h (fun v21 ds h =>
  K .norm (T.set tm 2 v21) ds h))) v ds h))
  (gd (isB true v16) (fun k => kO (binV Try.prog .eql 30 true undef (.int .i64 (0))) ds h k) ds h (fun v20 ds h =>
  kO (pickV v16 v20 (.bool false)) ds h (fun v21 ds h =>
  K .norm (T.set tm 2 v21) ds h))))))))))))
  (gd (isB true v7) (fun k => kO (some (tg tm 0)) ds h k) ds h (fun v11 ds h =>
  gd (isB true v7) (fun k => kO (some (tg tm 5)) ds h k) ds h (fun v12 ds h =>
  gd (isB true v7) (fun k => kO (sliceSl 1 v11 none (some v12) none) ds h k) ds h (fun v13 ds h =>
  ite2 (isB true v7) (kO (bytesStr h v13) ds h (fun v14 ds h =>
  gd (isB true v7) (fun k => kO (binV Try.prog .eql 9 false undef v14) ds h k) ds h (fun v15 ds h =>
  kO (pickV v7 v15 (.bool false)) ds h (fun v16 ds h =>
  ite2 (isB true v16) (kO (loadAgg 7 h (tg tm 4)) ds h (fun v18 ds h =>
  ite2 (isB true v16) (call 15 [v18] h (fun v h => (fun v19 ds h =>
  gd (isB true v16) (fun k => kO (binV Try.prog .eql 30 true v19 (.int .i64 (0))) ds h k) ds h (fun v20 ds h =>
  kO (pickV v16 v20 (.bool false)) ds h (fun v21 ds h =>
  K .norm (T.set tm 2 v21) ds h))) v ds h))
  (gd (isB true v16) (fun k => kO (binV Try.prog .eql 30 true undef (.int .i64 (0))) ds h k) ds h (fun v20 ds h =>
  kO (pickV v16 v20 (.bool false)) ds h (fun v21 ds h =>
  K .norm (T.set tm 2 v21) ds h)))))
  (ite2 (isB true v16) (call 15 [undef] h (fun v h => (fun v19 ds h =>
  gd (isB true v16) (fun k => kO (binV Try.prog .eql 30 true v19 (.int .i64 (0))) ds h k) ds h (fun v20 ds h =>
  kO (pickV v16 v20 (.bool false)) ds h (fun v21 ds h =>
  K .norm (T.set tm 2 v21) ds h))) v ds h))
  (gd (isB true v16) (fun k => kO (binV Try.prog .eql 30 true undef (.int .i64 (0))) ds h k) ds h (fun v20 ds h =>
  kO (pickV v16 v20 (.bool false)) ds h (fun v21 ds h =>
  K .norm (T.set tm 2 v21) ds h))))))))
  (gd (isB true v7) (fun k => kO (binV Try.prog .eql 9 false undef undef) ds h k) ds h (fun v15 ds h =>
  kO (pickV v7 v15 (.bool false)) ds h (fun v16 ds h =>
  ite2 (isB true v16) (kO (loadAgg 7 h (tg tm 4)) ds h (fun v18 ds h =>
  ite2 (isB true v16) (call 15 [v18] h (fun v h => (fun v19 ds h =>
  gd (isB true v16) (fun k => kO (binV Try.prog .eql 30 true v19 (.int .i64 (0))) ds h k) ds h (fun v20 ds h =>
  kO (pickV v16 v20 (.bool false)) ds h (fun v21 ds h =>
  K .norm (T.set tm 2 v21) ds h))) v ds h))
  (gd (isB true v16) (fun k => kO (binV Try.prog .eql 30 true undef (.int .i64 (0))) ds h k) ds h (fun v20 ds h =>
  kO (pickV v16 v20 (.bool false)) ds h (fun v21 ds h =>
  K .norm (T.set tm 2 v21) ds h)))))
  (ite2 (isB true v16) (call 15 [undef] h (fun v h => (fun v19 ds h =>
  gd (isB true v16) (fun k => kO (binV Try.prog .eql 30 true v19 (.int .i64 (0))) ds h k) ds h (fun v20 ds h =>
  kO (pickV v16 v20 (.bool false)) ds h (fun v21 ds h =>
  K .norm (T.set tm 2 v21) ds h))) v ds h))
  (gd (isB true v16) (fun k => kO (binV Try.prog .eql 30 true undef (.int .i64 (0))) ds h k) ds h (fun v20 ds h =>
  kO (pickV v16 v20 (.bool false)) ds h (fun v21 ds h =>
  K .norm (T.set tm 2 v21) ds h))))))))))))))))))) h0.next ⟨h0.objs, h0.next + 23⟩
noncomputable def c7 : Box CodeT := ⟨seqC ⟨r7_0⟩ ⟨seqC ⟨r7_1⟩ ⟨seqC ⟨seqC ⟨r7_2⟩ ⟨condC ⟨fun _ tm => tg tm 16⟩ ⟨seqC ⟨r7_3⟩ retC⟩ skipC⟩⟩ ⟨seqC ⟨r7_4⟩ ⟨seqC ⟨seqC ⟨r7_5⟩ ⟨condC ⟨fun _ tm => tg tm 29⟩ ⟨seqC ⟨r7_6⟩ retC⟩ skipC⟩⟩ ⟨seqC ⟨r7_7⟩ ⟨seqC ⟨r7_8⟩ retC⟩⟩⟩⟩⟩⟩⟩
noncomputable def q7 : Box (T Value → H → Option (List Value)) := ⟨fun tm h => some [tg tm 2]⟩
/-! 8 cloakroom/cloakroomref15.Long -/
noncomputable def r8_0 : CodeT := fun call _ tm ds h K =>
  kA (some (.rw (Value.cells (tg tm 0)).toList, ptrTo h.next)) ds h (fun v0 ds h =>
  K .norm (T.set (T.set tm 1 v0) 2 (.bool false)) ds h)
noncomputable def r8_1 : CodeT := fun call _ tm ds h K => (⟨opStep ⟨fun call env tm ds h K => kO (fieldPtr 6 (tg tm 1)) ds h K⟩ ⟨fun v tm => tm⟩ ⟨fun env tm => true⟩
  ⟨opStep ⟨fun call env tm ds h K => kO (loadOne h (nthD 0 env)) ds h K⟩ ⟨fun v tm => tm⟩ ⟨fun env tm => true⟩
  ⟨opStep ⟨fun call env tm ds h K => kO (lenStr (nthD 0 env)) ds h K⟩ ⟨fun v tm => tm⟩ ⟨fun env tm => true⟩
  ⟨opStep ⟨fun call env tm ds h K => kO (binV Try.prog .gtr 3 true (nthD 0 env) (.int .i64 (1000))) ds h K⟩ ⟨fun v tm => tm⟩ ⟨fun env tm => true⟩
  ⟨opStep ⟨fun call env tm ds h K => kO (some (nthD 0 env)) ds h K⟩ ⟨fun v tm => tm⟩ ⟨fun env tm => true⟩
  ⟨opStep ⟨fun call env tm ds h K => kO (fieldPtr 2 (tg tm 1)) ds h K⟩ ⟨fun v tm => tm⟩ ⟨fun env tm => isB false (nthD 0 env)⟩
  ⟨opStep ⟨fun call env tm ds h K => kO (fieldPtr 1 (nthD 0 env)) ds h K⟩ ⟨fun v tm => tm⟩ ⟨fun env tm => isB false (nthD 1 env)⟩
  ⟨opStep ⟨fun call env tm ds h K => kO (loadOne h (nthD 0 env)) ds h K⟩ ⟨fun v tm => tm⟩ ⟨fun env tm => isB false (nthD 2 env)⟩
  ⟨opStep ⟨fun call env tm ds h K => kO (lenSl (nthD 0 env)) ds h K⟩ ⟨fun v tm => tm⟩ ⟨fun env tm => isB false (nthD 3 env)⟩
  ⟨opStep ⟨fun call env tm ds h K => kO (binV Try.prog .gtr 3 true (nthD 0 env) (.int .i64 (40))) ds h K⟩ ⟨fun v tm => tm⟩ ⟨fun env tm => isB false (nthD 4 env)⟩
  ⟨opStep ⟨fun call env tm ds h K => kO (pickV (nthD 5 env) (.bool true) (nthD 0 env)) ds h K⟩ ⟨fun v tm => (T.set tm 14 v)⟩ ⟨fun env tm => true⟩
  ⟨fun _ _ tm ds h K => K .norm tm ds h⟩⟩⟩⟩⟩⟩⟩⟩⟩⟩⟩⟩ : Box OpsT).f call [] tm ds h K
noncomputable def r8_2 : CodeT := fun call _ tm ds h K =>
  K .norm (T.set tm 2 (.bool true)) ds h
noncomputable def r8_3 : CodeT := fun call _ tm ds h K =>
  K .norm (T.set tm 3 (.int .i64 (0))) ds h
noncomputable def r8_4 : CodeT := fun call _ tm ds h K =>
  kO (fieldPtr 2 (tg tm 1)) ds h (fun v1 ds h =>
  kO (fieldPtr 1 v1) ds h (fun v2 ds h =>
  kO (loadOne h v2) ds h (fun v3 ds h =>
  kO (lenSl v3) ds h (fun v4 ds h =>
  kO (binV Try.prog .lss 3 false (tg tm 3) v4) ds h (fun v5 ds h =>
  K .norm (T.set tm 20 v5) ds h)))))
noncomputable def r8_6 : CodeT := fun call _ tm ds h K => (⟨opStep ⟨fun call env tm ds h K => kO (fieldPtr 2 (tg tm 1)) ds h K⟩ ⟨fun v tm => tm⟩ ⟨fun env tm => true⟩
  ⟨opStep ⟨fun call env tm ds h K => kO (fieldPtr 1 (nthD 0 env)) ds h K⟩ ⟨fun v tm => tm⟩ ⟨fun env tm => true⟩
  ⟨opStep ⟨fun call env tm ds h K => kO (loadOne h (nthD 0 env)) ds h K⟩ ⟨fun v tm => tm⟩ ⟨fun env tm => true⟩
  ⟨opStep ⟨fun call env tm ds h K => kO (some (tg tm 3)) ds h K⟩ ⟨fun v tm => tm⟩ ⟨fun env tm => true⟩
  ⟨opStep ⟨fun call env tm ds h K => kO (indexSl 5 (nthD 1 env) (nthD 0 env)) ds h K⟩ ⟨fun v tm => tm⟩ ⟨fun env tm => true⟩
  ⟨opStep ⟨fun call env tm ds h K => kO (fieldPtr 0 (nthD 0 env)) ds h K⟩ ⟨fun v tm => tm⟩ ⟨fun env tm => true⟩
  ⟨opStep ⟨fun call env tm ds h K => kO (loadOne h (nthD 0 env)) ds h K⟩ ⟨fun v tm => tm⟩ ⟨fun env tm => true⟩
  ⟨opStep ⟨fun call env tm ds h K => kO (lenStr (nthD 0 env)) ds h K⟩ ⟨fun v tm => tm⟩ ⟨fun env tm => true⟩
  ⟨opStep ⟨fun call env tm ds h K => kO (binV Try.prog .gtr 3 true (nthD 0 env) (.int .i64 (1000))) ds h K⟩ ⟨fun v tm => tm⟩ ⟨fun env tm => true⟩
  ⟨opStep ⟨fun call env tm ds h K => kO (some (nthD 0 env)) ds h K⟩ ⟨fun v tm => tm⟩ ⟨fun env tm => true⟩
  ⟨opStep ⟨fun call env tm ds h K => kO (fieldPtr 2 (tg tm 1)) ds h K⟩ ⟨fun v tm => tm⟩ ⟨fun env tm => isB false (nthD 0 env)⟩
  ⟨opStep ⟨fun call env tm ds h K => kO (fieldPtr 1 (nthD 0 env)) ds h K⟩ ⟨fun v tm => tm⟩ ⟨fun env tm => isB false (nthD 1 env)⟩
  ⟨opStep ⟨fun call env tm ds h K => kO (loadOne h (nthD 0 env)) ds h K⟩ ⟨fun v tm => tm⟩ ⟨fun env tm => isB false (nthD 2 env)⟩
  ⟨opStep ⟨fun call env tm ds h K => kO (some (tg tm 3)) ds h K⟩ ⟨fun v tm => tm⟩ ⟨fun env tm => isB false (nthD 3 env)⟩
  ⟨opStep ⟨fun call env tm ds h K => kO (indexSl 5 (nthD 1 env) (nthD 0 env)) ds h K⟩ ⟨fun v tm => tm⟩ ⟨fun env tm => isB false (nthD 4 env)⟩
  ⟨opStep ⟨fun call env tm ds h K => kO (fieldPtr 1 (nthD 0 env)) ds h K⟩ ⟨fun v tm => tm⟩ ⟨fun env tm => isB false (nthD 5 env)⟩
  ⟨opStep ⟨fun call env tm ds h K => kO (loadOne h (nthD 0 env)) ds h K⟩ ⟨fun v tm => tm⟩ ⟨fun env tm => isB false (nthD 6 env)⟩
  ⟨opStep ⟨fun call env tm ds h K => kO (lenStr (nthD 0 env)) ds h K⟩ ⟨fun v tm => tm⟩ ⟨fun env tm => isB false (nthD 7 env)⟩
  ⟨opStep ⟨fun call env tm ds h K => kO (binV Try.prog .gtr 3 true (nthD 0 env) (.int .i64 (1000))) ds h K⟩ ⟨fun v tm => tm⟩ ⟨fun env tm => isB false (nthD 8 env)⟩
  ⟨opStep ⟨fun call env tm ds h K => kO (pickV (nthD 9 env) (.bool true) (nthD 0 env)) ds h K⟩ ⟨fun v tm => (T.set tm 42 v)⟩ ⟨fun env tm => true⟩
  ⟨fun _ _ tm ds h K => K .norm tm ds h⟩⟩⟩⟩⟩⟩⟩⟩⟩⟩⟩⟩⟩⟩⟩⟩⟩⟩⟩⟩⟩ : Box OpsT).f call [] tm ds h K
noncomputable def r8_7 : CodeT := fun call _ tm ds h K =>
  K .norm (T.set tm 2 (.bool true)) ds h
noncomputable def r8_5 : CodeT := fun call _ tm ds h K =>
  kO (binV Try.prog .add 3 true (tg tm 3) (.int .i64 (1))) ds h (fun v1 ds h =>
  K .norm (T.set tm 3 v1) ds h)
noncomputable def l8_8 : Box CodeT := ⟨seqC ⟨seqC ⟨r8_4⟩ ⟨condC ⟨fun _ tm => tg tm 20⟩ skipC (exitC 0)⟩⟩ ⟨seqC ⟨blockC 1 ⟨seqC ⟨r8_6⟩ ⟨condC ⟨fun _ tm => tg tm 42⟩ ⟨seqC ⟨r8_7⟩ retC⟩ skipC⟩⟩⟩ ⟨r8_5⟩⟩⟩
noncomputable def r8_8 : CodeT := fun call _ tm ds h K =>
  K .norm (T.set tm 2 (.bool false)) ds h
noncomputable def c8 : Box CodeT := ⟨seqC ⟨r8_0⟩ ⟨seqC ⟨seqC ⟨r8_1⟩ ⟨condC ⟨fun _ tm => tg tm 14⟩ ⟨seqC ⟨r8_2⟩ retC⟩ skipC⟩⟩ ⟨seqC ⟨seqC ⟨r8_3⟩ ⟨blockC 0 (loopB l8_8)⟩⟩ ⟨seqC ⟨r8_8⟩ retC⟩⟩⟩⟩
/-! 9 cloakroom/packed.Write -/
noncomputable def r9_0 : CodeT := fun call _ tm ds h K =>
  kA (some (.rw (Value.cells (tg tm 0)).toList, ptrTo h.next)) ds h (fun v0 ds h =>
  K .norm (T.set (T.set (T.set tm 1 v0) 2 (.slice none 0 0)) 3 (.int .i64 (0))) ds h)
noncomputable def r9_1 : CodeT := fun call _ tm ds h K =>
  kO (loadAgg 7 h (tg tm 1)) ds h (fun v0 ds h =>
  call 15 [v0] h (fun v h => (fun v1 ds h =>
  K .norm (T.set tm 4 v1) ds h) v ds h))
noncomputable def r9_2 : CodeT := fun call _ tm ds h K =>
  kO (binV Try.prog .neq 30 true (tg tm 4) (.int .i64 (0))) ds h (fun v1 ds h =>
  K .norm (T.set tm 9 v1) ds h)
noncomputable def r9_3 : CodeT := fun call _ tm ds h K =>
  K .norm (T.set (T.set tm 2 (.slice none 0 0)) 3 (tg tm 4)) ds h
noncomputable def r9_4 : CodeT := fun call _ tm ds h K =>
  K .norm (T.set tm 5 (.slice none 0 0)) ds h
noncomputable def r9_5 : CodeT := fun call _ tm ds h K =>
  kO (fieldPtr 0 (tg tm 1)) ds h (fun v0 ds h =>
  kO (loadOne h v0) ds h (fun v1 ds h =>
  K .norm (T.set tm 12 v1) ds h))
noncomputable def r9_6 : CodeT := fun call _ tm ds h K =>
  kO (binV Try.prog .eql 5 true (tg tm 12) (.int .u8 (1))) ds h (fun v0 ds h =>
  K .norm (T.set tm 13 v0) ds h)
noncomputable def r9_7 : CodeT := fun call _ tm ds h K =>
  kO (loadAgg 7 h (tg tm 1)) ds h (fun v0 ds h =>
  call 16 [v0] h (fun v h => (fun v1 ds h =>
  K .norm (T.set tm 5 v1) ds h) v ds h))
noncomputable def r9_8 : CodeT := fun call _ tm ds h K =>
  kO (binV Try.prog .eql 5 true (tg tm 12) (.int .u8 (2))) ds h (fun v0 ds h =>
  K .norm (T.set tm 17 v0) ds h)
noncomputable def r9_9 : CodeT := fun call _ tm ds h K =>
  kO (binV Try.prog .eql 5 true (tg tm 12) (.int .u8 (3))) ds h (fun v0 ds h =>
  K .norm (T.set tm 17 v0) ds h)
noncomputable def r9_10 : CodeT := fun call _ tm ds h K =>
  kO (fieldPtr 5 (tg tm 1)) ds h (fun v0 ds h =>
  kO (loadOne h v0) ds h (fun v1 ds h =>
  call 17 [v1] h (fun v h => (fun v2 ds h =>
  K .norm (T.set tm 5 v2) ds h) v ds h)))
noncomputable def r9_11 : CodeT := fun call _ tm ds h K =>
  kO (binV Try.prog .eql 5 true (tg tm 12) (.int .u8 (7))) ds h (fun v0 ds h =>
  K .norm (T.set tm 23 v0) ds h)
noncomputable def r9_12 : CodeT := fun call _ tm ds h K =>
  kO (fieldPtr 6 (tg tm 1)) ds h (fun v0 ds h =>
  kO (loadOne h v0) ds h (fun v1 ds h =>
  kA (mkBytes h.next v1) ds h (fun v2 ds h =>
  K .norm (T.set tm 5 v2) ds h)))
noncomputable def r9_13 : CodeT := fun call _ tm ds h K =>
  kO (fieldPtr 0 (tg tm 1)) ds h (fun v0 ds h =>
  kO (loadOne h v0) ds h (fun v1 ds h =>
  call 18 [(.int .u8 (178)), v1, (tg tm 5)] h (fun v h => (fun v3 ds h =>
  kO (tupNth 0 v3) ds h (fun v4 ds h =>
  kO (tupNth 1 v3) ds h (fun v5 ds h =>
  K .norm (T.set (T.set tm 2 v4) 3 v5) ds h))) v ds h)))
noncomputable def c9 : Box CodeT := ⟨seqC ⟨r9_0⟩ ⟨seqC ⟨seqC ⟨r9_1⟩ ⟨seqC ⟨r9_2⟩ ⟨condC ⟨fun _ tm => tg tm 9⟩ ⟨seqC ⟨r9_3⟩ retC⟩ skipC⟩⟩⟩ ⟨seqC ⟨r9_4⟩ ⟨seqC ⟨seqC ⟨r9_5⟩ ⟨blockC 0 ⟨seqC ⟨r9_6⟩ ⟨condC ⟨fun _ tm => tg tm 13⟩ ⟨r9_7⟩ ⟨seqC ⟨seqC ⟨r9_8⟩ ⟨condC ⟨fun _ tm => tg tm 17⟩ skipC ⟨r9_9⟩⟩⟩ ⟨condC ⟨fun _ tm => tg tm 17⟩ ⟨r9_10⟩ ⟨seqC ⟨r9_11⟩ ⟨condC ⟨fun _ tm => tg tm 23⟩ ⟨r9_12⟩ skipC⟩⟩⟩⟩⟩⟩⟩⟩ ⟨seqC ⟨r9_13⟩ retC⟩⟩⟩⟩⟩
noncomputable def q9 : Box (T Value → H → Option (List Value)) := ⟨fun tm h => some [tg tm 2, tg tm 3]⟩
/-! 10 cloakroom/cloakroomref17.Write -/
noncomputable def r10_0 : CodeT := fun call _ tm ds h K =>
  kA (some (.rw (Value.cells (tg tm 0)).toList, ptrTo h.next)) ds h (fun v0 ds h =>
  K .norm (T.set (T.set (T.set tm 1 v0) 2 (.slice none 0 0)) 3 (.int .i64 (0))) ds h)
noncomputable def r10_1 : CodeT := fun call _ tm ds h K =>
  kO (loadAgg 7 h (tg tm 1)) ds h (fun v0 ds h =>
  call 19 [v0] h (fun v h => (fun v1 ds h =>
  kO (unV .not v1) ds h (fun v2 ds h =>
  K .norm (T.set tm 7 v2) ds h)) v ds h))
noncomputable def r10_2 : CodeT := fun call _ tm ds h K =>
  K .norm (T.set (T.set tm 2 (.slice none 0 0)) 3 (.int .i64 (8))) ds h
noncomputable def r10_3 : CodeT := fun call _ tm ds h K =>
  kO (loadAgg 7 h (tg tm 1)) ds h (fun v0 ds h =>
  call 20 [v0] h (fun v h => (fun v1 ds h =>
  K .norm (T.set tm 4 v1) ds h) v ds h))
noncomputable def r10_4 : CodeT := fun call _ tm ds h K =>
  kO (lenSl (tg tm 4)) ds h (fun v1 ds h =>
  kO (binV Try.prog .gtr 3 true v1 (.int .i64 (4096))) ds h (fun v2 ds h =>
  K .norm (T.set tm 12 v2) ds h))
noncomputable def r10_5 : CodeT := fun call _ tm ds h K =>
  K .norm (T.set (T.set tm 2 (.slice none 0 0)) 3 (.int .i64 (3))) ds h
noncomputable def r10_6 : CodeT := fun call _ tm ds h K =>
  kO (fieldPtr 0 (tg tm 1)) ds h (fun v0 ds h =>
  kO (loadOne h v0) ds h (fun v1 ds h =>
  call 21 [(.int .u8 (178)), v1, (tg tm 4)] h (fun v h => (fun v3 ds h =>
  K .norm (T.set (T.set tm 2 v3) 3 (.int .i64 (0))) ds h) v ds h)))
noncomputable def c10 : Box CodeT := ⟨seqC ⟨r10_0⟩ ⟨seqC ⟨seqC ⟨r10_1⟩ ⟨condC ⟨fun _ tm => tg tm 7⟩ ⟨seqC ⟨r10_2⟩ retC⟩ skipC⟩⟩ ⟨seqC ⟨r10_3⟩ ⟨seqC ⟨seqC ⟨r10_4⟩ ⟨condC ⟨fun _ tm => tg tm 12⟩ ⟨seqC ⟨r10_5⟩ retC⟩ skipC⟩⟩ ⟨seqC ⟨r10_6⟩ retC⟩⟩⟩⟩⟩
noncomputable def q10 : Box (T Value → H → Option (List Value)) := ⟨fun tm h => some [tg tm 2, tg tm 3]⟩
/-! 11 cloakroom/packed.Read -/
noncomputable def r11_0 : CodeT := fun call _ tm ds h K =>
  kA (some (.rw [(.int .u8 (0)), (.int .u8 (0)), (.int .u8 (0)), (.slice none 0 0), (.int .u64 (0)), (.bool false), (.string (strB []))], ptrTo h.next)) ds h (fun v0 ds h =>
  K .norm (T.set (T.set (T.set tm 2 v0) 3 (.int .i64 (0))) 4 (.int .i64 (0))) ds h)
noncomputable def r11_1 : CodeT := fun call _ tm ds h K =>
  call 22 [(.int .u8 (178)), (tg tm 0)] h (fun v h => (fun v1 ds h =>
  kO (tupNth 0 v1) ds h (fun v3 ds h =>
  kO (tupNth 1 v1) ds h (fun v4 ds h =>
  kO (tupNth 2 v1) ds h (fun v5 ds h =>
  kO (tupNth 3 v1) ds h (fun v6 ds h =>
  K .norm (T.set (T.set (T.set (T.set tm 5 v3) 6 v4) 7 v5) 8 v6) ds h))))) v ds h)
noncomputable def r11_2 : CodeT := fun call _ tm ds h K =>
  kO (binV Try.prog .neq 30 true (tg tm 8) (.int .i64 (0))) ds h (fun v1 ds h =>
  gd (isB false v1) (fun k => kO (some (tg tm 7)) ds h (k)) ds h (fun v3 ds h =>
  gd (isB false v1) (fun k => kO (binV Try.prog .eql 3 true v3 (.int .i64 (0))) ds h (k)) ds h (fun v4 ds h =>
  kO (pickV v1 (.bool true) v4) ds h (fun v5 ds h =>
  K .norm (T.set tm 23 v5) ds h))))
noncomputable def r11_3 : CodeT := fun call _ tm ds h K =>
  kO (aggO (fill [(.int .u8 (0)), (.int .u8 (0)), (.int .u8 (0)), (.slice none 0 0), (.int .u64 (0)), (.bool false), (.string (strB []))] (plc [(0, 1), (1, 1), (2, 3), (5, 1), (6, 1)]) [])) ds h (fun v0 ds h =>
  kH (withV undef (storeV 7 h (tg tm 2) v0)) ds (fun v2 ds h =>
  K .norm (T.set (T.set tm 3 (.int .i64 (0))) 4 (tg tm 8)) ds h))
noncomputable def r11_4 : CodeT := fun call _ tm ds h K =>
  call 23 [(tg tm 5), (tg tm 6)] h (fun v h => (fun v2 ds h =>
  kO (tupNth 0 v2) ds h (fun v4 ds h =>
  kO (tupNth 1 v2) ds h (fun v5 ds h =>
  kA (some (.rw [(.int .u8 (0)), (.int .u8 (0)), (.int .u8 (0)), (.slice none 0 0), (.int .u64 (0)), (.bool false), (.string (strB []))], ptrTo h.next)) ds h (fun v6 ds h =>
  kH (withV undef (storeV 7 h v6 v4)) ds (fun v7 ds h =>
  K .norm (T.set (T.set tm 9 v6) 10 v5) ds h))))) v ds h)
noncomputable def r11_5 : CodeT := fun call _ tm ds h K => (⟨opStep ⟨fun call env tm ds h K => kO (some (tg tm 10)) ds h K⟩ ⟨fun v tm => tm⟩ ⟨fun env tm => true⟩
  ⟨opStep ⟨fun call env tm ds h K => kO (unV .not (nthD 0 env)) ds h K⟩ ⟨fun v tm => tm⟩ ⟨fun env tm => true⟩
  ⟨opStep ⟨fun call env tm ds h K => kO (some (nthD 0 env)) ds h K⟩ ⟨fun v tm => tm⟩ ⟨fun env tm => true⟩
  ⟨opStep ⟨fun call env tm ds h K => kO (loadAgg 7 h (tg tm 9)) ds h K⟩ ⟨fun v tm => tm⟩ ⟨fun env tm => isB false (nthD 0 env)⟩
  ⟨opStep ⟨fun call env tm ds h K => call 15 [(nthD 0 env)] h (fun v h => (K) v ds h)⟩ ⟨fun v tm => tm⟩ ⟨fun env tm => isB false (nthD 1 env)⟩
  ⟨opStep ⟨fun call env tm ds h K => kO (binV Try.prog .neq 30 true (nthD 0 env) (.int .i64 (0))) ds h K⟩ ⟨fun v tm => tm⟩ ⟨fun env tm => isB false (nthD 2 env)⟩
  ⟨opStep ⟨fun call env tm ds h K => kO (pickV (nthD 3 env) (.bool true) (nthD 0 env)) ds h K⟩ ⟨fun v tm => (T.set tm 38 v)⟩ ⟨fun env tm => true⟩
  ⟨fun _ _ tm ds h K => K .norm tm ds h⟩⟩⟩⟩⟩⟩⟩⟩ : Box OpsT).f call [] tm ds h K
noncomputable def r11_6 : CodeT := fun call _ tm ds h K =>
  kO (aggO (fill [(.int .u8 (0)), (.int .u8 (0)), (.int .u8 (0)), (.slice none 0 0), (.int .u64 (0)), (.bool false), (.string (strB []))] (plc [(0, 1), (1, 1), (2, 3), (5, 1), (6, 1)]) [])) ds h (fun v0 ds h =>
  kH (withV undef (storeV 7 h (tg tm 2) v0)) ds (fun v1 ds h =>
  K .norm (T.set (T.set tm 3 (.int .i64 (0))) 4 (.int .i64 (8))) ds h))
noncomputable def r11_7 : CodeT := fun call _ tm ds h K =>
  kO (loadAgg 7 h (tg tm 9)) ds h (fun v0 ds h =>
  kH (withV undef (storeV 7 h (tg tm 2) v0)) ds (fun v2 ds h =>
  K .norm (T.set (T.set tm 3 (tg tm 7)) 4 (.int .i64 (0))) ds h))
noncomputable def c11 : Box CodeT := ⟨seqC ⟨r11_0⟩ ⟨seqC ⟨r11_1⟩ ⟨seqC ⟨seqC ⟨r11_2⟩ ⟨condC ⟨fun _ tm => tg tm 23⟩ ⟨seqC ⟨r11_3⟩ retC⟩ skipC⟩⟩ ⟨seqC ⟨r11_4⟩ ⟨seqC ⟨seqC ⟨r11_5⟩ ⟨condC ⟨fun _ tm => tg tm 38⟩ ⟨seqC ⟨r11_6⟩ retC⟩ skipC⟩⟩ ⟨seqC ⟨r11_7⟩ retC⟩⟩⟩⟩⟩⟩
noncomputable def q11 : Box (T Value → H → Option (List Value)) := ⟨fun tm h => (match loadAgg 7 h (tg tm 2) with | some v => (match (some [tg tm 3, tg tm 4] : Option (List Value)) with | some l => some (v :: l) | none => none) | none => none)⟩
/-! 12 cloakroom/cloakroomref17.Read -/
/-! 13 cloakroom/cloakroomref15.Same -/
noncomputable def r13_0 : CodeT := fun call _ tm ds h K =>
  kA (some (.rw (Value.cells (tg tm 0)).toList, ptrTo h.next)) ds h (fun v0 ds h =>
  kA (some (.rw (Value.cells (tg (T.set tm 2 v0) 1)).toList, ptrTo h.next)) ds h (fun v1 ds h =>
  K .norm (T.set (T.set (T.set tm 2 v0) 3 v1) 4 (.bool false)) ds h))
noncomputable def r13_1 : CodeT := fun call _ tm ds h K => (⟨opStep ⟨fun call env tm ds h K => kO (fieldPtr 0 (tg tm 2)) ds h K⟩ ⟨fun v tm => tm⟩ ⟨fun env tm => true⟩
  ⟨opStep ⟨fun call env tm ds h K => kO (loadOne h (nthD 0 env)) ds h K⟩ ⟨fun v tm => tm⟩ ⟨fun env tm => true⟩
  ⟨opStep ⟨fun call env tm ds h K => kO (fieldPtr 0 (tg tm 3)) ds h K⟩ ⟨fun v tm => tm⟩ ⟨fun env tm => true⟩
  ⟨opStep ⟨fun call env tm ds h K => kO (loadOne h (nthD 0 env)) ds h K⟩ ⟨fun v tm => tm⟩ ⟨fun env tm => true⟩
  ⟨opStep ⟨fun call env tm ds h K => kO (binV Try.prog .eql 5 false (nthD 2 env) (nthD 0 env)) ds h K⟩ ⟨fun v tm => tm⟩ ⟨fun env tm => true⟩
  ⟨opStep ⟨fun call env tm ds h K => kO (some (nthD 0 env)) ds h K⟩ ⟨fun v tm => tm⟩ ⟨fun env tm => true⟩
  ⟨opStep ⟨fun call env tm ds h K => kO (fieldPtr 1 (tg tm 2)) ds h K⟩ ⟨fun v tm => tm⟩ ⟨fun env tm => isB true (nthD 0 env)⟩
  ⟨opStep ⟨fun call env tm ds h K => kO (loadOne h (nthD 0 env)) ds h K⟩ ⟨fun v tm => tm⟩ ⟨fun env tm => isB true (nthD 1 env)⟩
  ⟨opStep ⟨fun call env tm ds h K => kO (fieldPtr 1 (tg tm 3)) ds h K⟩ ⟨fun v tm => tm⟩ ⟨fun env tm => isB true (nthD 2 env)⟩
  ⟨opStep ⟨fun call env tm ds h K => kO (loadOne h (nthD 0 env)) ds h K⟩ ⟨fun v tm => tm⟩ ⟨fun env tm => isB true (nthD 3 env)⟩
  ⟨opStep ⟨fun call env tm ds h K => kO (binV Try.prog .eql 5 false (nthD 2 env) (nthD 0 env)) ds h K⟩ ⟨fun v tm => tm⟩ ⟨fun env tm => isB true (nthD 4 env)⟩
  ⟨opStep ⟨fun call env tm ds h K => kO (pickV (nthD 5 env) (nthD 0 env) (.bool false)) ds h K⟩ ⟨fun v tm => tm⟩ ⟨fun env tm => true⟩
  ⟨opStep ⟨fun call env tm ds h K => kO (some (nthD 0 env)) ds h K⟩ ⟨fun v tm => tm⟩ ⟨fun env tm => true⟩
  ⟨opStep ⟨fun call env tm ds h K => kO (fieldPtr 2 (tg tm 2)) ds h K⟩ ⟨fun v tm => tm⟩ ⟨fun env tm => isB true (nthD 0 env)⟩
  ⟨opStep ⟨fun call env tm ds h K => kO (loadAgg 3 h (nthD 0 env)) ds h K⟩ ⟨fun v tm => tm⟩ ⟨fun env tm => isB true (nthD 1 env)⟩
  ⟨opStep ⟨fun call env tm ds h K => kO (fieldPtr 2 (tg tm 3)) ds h K⟩ ⟨fun v tm => tm⟩ ⟨fun env tm => isB true (nthD 2 env)⟩
  ⟨opStep ⟨fun call env tm ds h K => kO (loadAgg 3 h (nthD 0 env)) ds h K⟩ ⟨fun v tm => tm⟩ ⟨fun env tm => isB true (nthD 3 env)⟩
  ⟨opStep ⟨fun call env tm ds h K => call 26 [(nthD 2 env), (nthD 0 env)] h (fun v h => (K) v ds h)⟩ ⟨fun v tm => tm⟩ ⟨fun env tm => isB true (nthD 4 env)⟩
  ⟨opStep ⟨fun call env tm ds h K => kO (pickV (nthD 5 env) (nthD 0 env) (.bool false)) ds h K⟩ ⟨fun v tm => tm⟩ ⟨fun env tm => true⟩
  ⟨opStep ⟨fun call env tm ds h K => kO (some (nthD 0 env)) ds h K⟩ ⟨fun v tm => tm⟩ ⟨fun env tm => true⟩
  ⟨opStep ⟨fun call env tm ds h K => kO (fieldPtr 5 (tg tm 2)) ds h K⟩ ⟨fun v tm => tm⟩ ⟨fun env tm => isB true (nthD 0 env)⟩
  ⟨opStep ⟨fun call env tm ds h K => kO (loadOne h (nthD 0 env)) ds h K⟩ ⟨fun v tm => tm⟩ ⟨fun env tm => isB true (nthD 1 env)⟩
  ⟨opStep ⟨fun call env tm ds h K => kO (fieldPtr 5 (tg tm 3)) ds h K⟩ ⟨fun v tm => tm⟩ ⟨fun env tm => isB true (nthD 2 env)⟩
  ⟨opStep ⟨fun call env tm ds h K => kO (loadOne h (nthD 0 env)) ds h K⟩ ⟨fun v tm => tm⟩ ⟨fun env tm => isB true (nthD 3 env)⟩
  ⟨opStep ⟨fun call env tm ds h K => kO (binV Try.prog .eql 4 false (nthD 2 env) (nthD 0 env)) ds h K⟩ ⟨fun v tm => tm⟩ ⟨fun env tm => isB true (nthD 4 env)⟩
  ⟨opStep ⟨fun call env tm ds h K => kO (pickV (nthD 5 env) (nthD 0 env) (.bool false)) ds h K⟩ ⟨fun v tm => tm⟩ ⟨fun env tm => true⟩
  ⟨opStep ⟨fun call env tm ds h K => kO (some (nthD 0 env)) ds h K⟩ ⟨fun v tm => tm⟩ ⟨fun env tm => true⟩
  ⟨opStep ⟨fun call env tm ds h K => kO (fieldPtr 6 (tg tm 2)) ds h K⟩ ⟨fun v tm => tm⟩ ⟨fun env tm => isB true (nthD 0 env)⟩
  ⟨opStep ⟨fun call env tm ds h K => kO (loadOne h (nthD 0 env)) ds h K⟩ ⟨fun v tm => tm⟩ ⟨fun env tm => isB true (nthD 1 env)⟩
  ⟨opStep ⟨fun call env tm ds h K => kO (fieldPtr 6 (tg tm 3)) ds h K⟩ ⟨fun v tm => tm⟩ ⟨fun env tm => isB true (nthD 2 env)⟩
  ⟨opStep ⟨fun call env tm ds h K => kO (loadOne h (nthD 0 env)) ds h K⟩ ⟨fun v tm => tm⟩ ⟨fun env tm => isB true (nthD 3 env)⟩
  ⟨opStep ⟨fun call env tm ds h K => kO (binV Try.prog .eql 9 false (nthD 2 env) (nthD 0 env)) ds h K⟩ ⟨fun v tm => tm⟩ ⟨fun env tm => isB true (nthD 4 env)⟩
  ⟨opStep ⟨fun call env tm ds h K => kO (pickV (nthD 5 env) (nthD 0 env) (.bool false)) ds h K⟩ ⟨fun v tm => tm⟩ ⟨fun env tm => true⟩
  ⟨opStep ⟨fun call env tm ds h K => kO (some (nthD 0 env)) ds h K⟩ ⟨fun v tm => (T.set tm 4 v)⟩ ⟨fun env tm => true⟩
  ⟨fun _ _ tm ds h K => K .norm tm ds h⟩⟩⟩⟩⟩⟩⟩⟩⟩⟩⟩⟩⟩⟩⟩⟩⟩⟩⟩⟩⟩⟩⟩⟩⟩⟩⟩⟩⟩⟩⟩⟩⟩⟩⟩ : Box OpsT).f call [] tm ds h K
noncomputable def c13 : Box CodeT := ⟨seqC ⟨r13_0⟩ ⟨seqC ⟨r13_1⟩ retC⟩⟩
noncomputable def q13 : Box (T Value → H → Option (List Value)) := ⟨fun tm h => some [tg tm 4]⟩
/-! 14 cloakroom/cloakroomlaw17.alive -/
noncomputable def r14_0 : CodeT := fun call _ tm ds h K =>
  K .norm (T.set tm 0 (.bool false)) ds h
noncomputable def r14_1 : CodeT := fun call _ tm ds h K =>
  kO (aggO (fill [(.int .u8 (0)), (.slice none 0 0), (.int .u64 (0))] (plc [(0, 1), (1, 1), (2, 1)]) [(0, (.int .u8 (1))), (2, (.int .u64 (300)))])) ds h (fun v0 ds h =>
  kO (aggO (fill [(.int .u8 (0)), (.int .u8 (0)), (.int .u8 (0)), (.slice none 0 0), (.int .u64 (0)), (.bool false), (.string (strB []))] (plc [(0, 1), (1, 1), (2, 3), (5, 1), (6, 1)]) [(0, (.int .u8 (1))), (1, (.int .u8 (6))), (2, v0)])) ds h (fun v1 ds h =>
  call 9 [v1] h (fun v h => (fun v2 ds h =>
  kO (tupNth 0 v2) ds h (fun v4 ds h =>
  kO (tupNth 1 v2) ds h (fun v5 ds h =>
  K .norm (T.set (T.set tm 1 v4) 2 v5) ds h))) v ds h)))
noncomputable def r14_2 : CodeT := fun call _ tm ds h K => (⟨opStep ⟨fun call env tm ds h K => kO (some (tg tm 2)) ds h K⟩ ⟨fun v tm => tm⟩ ⟨fun env tm => true⟩
  ⟨opStep ⟨fun call env tm ds h K => kO (binV Try.prog .eql 30 true (nthD 0 env) (.int .i64 (0))) ds h K⟩ ⟨fun v tm => tm⟩ ⟨fun env tm => true⟩
  ⟨opStep ⟨fun call env tm ds h K => kO (some (nthD 0 env)) ds h K⟩ ⟨fun v tm => tm⟩ ⟨fun env tm => true⟩
  ⟨opStep ⟨fun call env tm ds h K => kO (some (tg tm 1)) ds h K⟩ ⟨fun v tm => tm⟩ ⟨fun env tm => isB true (nthD 0 env)⟩
  ⟨opStep ⟨fun call env tm ds h K => kO (bytesStr h (nthD 0 env)) ds h K⟩ ⟨fun v tm => tm⟩ ⟨fun env tm => isB true (nthD 1 env)⟩
  ⟨opStep ⟨fun call env tm ds h K => kA (mkLit 11 h.next (fill (repl [(.int .u8 (0))] 11) (pl 1) [(0, (.int .u8 (178))), (1, (.int .u8 (1))), (2, (.int .u8 (0))), (3, (.int .u8 (0))), (4, (.int .u8 (0))), (5, (.int .u8 (5))), (6, (.int .u8 (6))), (7, (.int .u8 (1))), (8, (.int .u8 (172))), (9, (.int .u8 (2))), (10, (.int .u8 (0)))])) ds h K⟩ ⟨fun v tm => tm⟩ ⟨fun env tm => isB true (nthD 2 env)⟩
  ⟨opStep ⟨fun call env tm ds h K => kO (bytesStr h (nthD 0 env)) ds h K⟩ ⟨fun v tm => tm⟩ ⟨fun env tm => isB true (nthD 3 env)⟩
  ⟨opStep ⟨fun call env tm ds h K => kO (binV Try.prog .eql 9 false (nthD 2 env) (nthD 0 env)) ds h K⟩ ⟨fun v tm => tm⟩ ⟨fun env tm => isB true (nthD 4 env)⟩
  ⟨opStep ⟨fun call env tm ds h K => kO (pickV (nthD 5 env) (nthD 0 env) (.bool false)) ds h K⟩ ⟨fun v tm => tm⟩ ⟨fun env tm => true⟩
  ⟨opStep ⟨fun call env tm ds h K => kO (some (nthD 0 env)) ds h K⟩ ⟨fun v tm => (T.set tm 0 v)⟩ ⟨fun env tm => true⟩
  ⟨fun _ _ tm ds h K => K .norm tm ds h⟩⟩⟩⟩⟩⟩⟩⟩⟩⟩⟩ : Box OpsT).f call [] tm ds h K
noncomputable def c14 : Box CodeT := ⟨seqC ⟨r14_0⟩ ⟨seqC ⟨r14_1⟩ ⟨seqC ⟨r14_2⟩ retC⟩⟩⟩
noncomputable def q14 : Box (T Value → H → Option (List Value)) := ⟨fun tm h => some [tg tm 0]⟩
/-! 15 cloakroom/words.Check -/
noncomputable def r15_0 : CodeT := fun call _ tm ds h K =>
  kA (some (.rw (Value.cells (tg tm 0)).toList, ptrTo h.next)) ds h (fun v0 ds h =>
  K .norm (T.set (T.set tm 1 v0) 2 (.int .i64 (0))) ds h)
noncomputable def r15_1 : CodeT := fun call _ tm ds h K =>
  K .norm (T.set tm 3 (.bool false)) ds h
noncomputable def r15_2 : CodeT := fun call _ tm ds h K =>
  kO (fieldPtr 0 (tg tm 1)) ds h (fun v0 ds h =>
  kO (loadOne h v0) ds h (fun v1 ds h =>
  kO (binV Try.prog .eql 5 true v1 (.int .u8 (1))) ds h (fun v2 ds h =>
  K .norm (T.set tm 4 v2) ds h)))
noncomputable def r15_3 : CodeT := fun call _ tm ds h K =>
  kO (fieldPtr 1 (tg tm 1)) ds h (fun v0 ds h =>
  kO (loadOne h v0) ds h (fun v1 ds h =>
  kO (fieldPtr 2 (tg tm 1)) ds h (fun v2 ds h =>
  kO (loadAgg 3 h v2) ds h (fun v3 ds h =>
  call 27 [v1, v3] h (fun v h => (fun v4 ds h =>
  K .norm (T.set tm 3 v4) ds h) v ds h)))))
noncomputable def r15_4 : CodeT := fun call _ tm ds h K => (⟨opStep ⟨fun call env tm ds h K => kO (fieldPtr 0 (tg tm 1)) ds h K⟩ ⟨fun v tm => tm⟩ ⟨fun env tm => true⟩
  ⟨opStep ⟨fun call env tm ds h K => kO (loadOne h (nthD 0 env)) ds h K⟩ ⟨fun v tm => tm⟩ ⟨fun env tm => true⟩
  ⟨opStep ⟨fun call env tm ds h K => kO (binV Try.prog .gtr 5 true (nthD 0 env) (.int .u8 (1))) ds h K⟩ ⟨fun v tm => tm⟩ ⟨fun env tm => true⟩
  ⟨opStep ⟨fun call env tm ds h K => kO (some (nthD 0 env)) ds h K⟩ ⟨fun v tm => tm⟩ ⟨fun env tm => true⟩
  ⟨opStep ⟨fun call env tm ds h K => kO (fieldPtr 0 (tg tm 1)) ds h K⟩ ⟨fun v tm => tm⟩ ⟨fun env tm => isB true (nthD 0 env)⟩
  ⟨opStep ⟨fun call env tm ds h K => kO (loadOne h (nthD 0 env)) ds h K⟩ ⟨fun v tm => tm⟩ ⟨fun env tm => isB true (nthD 1 env)⟩
  ⟨opStep ⟨fun call env tm ds h K => kO (binV Try.prog .leq 5 true (nthD 0 env) (.int .u8 (7))) ds h K⟩ ⟨fun v tm => tm⟩ ⟨fun env tm => isB true (nthD 2 env)⟩
  ⟨opStep ⟨fun call env tm ds h K => kO (pickV (nthD 3 env) (nthD 0 env) (.bool false)) ds h K⟩ ⟨fun v tm => tm⟩ ⟨fun env tm => true⟩
  ⟨opStep ⟨fun call env tm ds h K => kO (some (nthD 0 env)) ds h K⟩ ⟨fun v tm => (T.set tm 13 v)⟩ ⟨fun env tm => true⟩
  ⟨fun _ _ tm ds h K => K .norm tm ds h⟩⟩⟩⟩⟩⟩⟩⟩⟩⟩ : Box OpsT).f call [] tm ds h K
noncomputable def r15_5 : CodeT := fun call _ tm ds h K => (⟨opStep ⟨fun call env tm ds h K => kO (fieldPtr 1 (tg tm 1)) ds h K⟩ ⟨fun v tm => tm⟩ ⟨fun env tm => true⟩
  ⟨opStep ⟨fun call env tm ds h K => kO (loadOne h (nthD 0 env)) ds h K⟩ ⟨fun v tm => tm⟩ ⟨fun env tm => true⟩
  ⟨opStep ⟨fun call env tm ds h K => kO (binV Try.prog .eql 5 true (nthD 0 env) (.int .u8 (0))) ds h K⟩ ⟨fun v tm => tm⟩ ⟨fun env tm => true⟩
  ⟨opStep ⟨fun call env tm ds h K => kO (some (nthD 0 env)) ds h K⟩ ⟨fun v tm => tm⟩ ⟨fun env tm => true⟩
  ⟨opStep ⟨fun call env tm ds h K => kO (fieldPtr 2 (tg tm 1)) ds h K⟩ ⟨fun v tm => tm⟩ ⟨fun env tm => isB true (nthD 0 env)⟩
  ⟨opStep ⟨fun call env tm ds h K => kO (fieldPtr 0 (nthD 0 env)) ds h K⟩ ⟨fun v tm => tm⟩ ⟨fun env tm => isB true (nthD 1 env)⟩
  ⟨opStep ⟨fun call env tm ds h K => kO (loadOne h (nthD 0 env)) ds h K⟩ ⟨fun v tm => tm⟩ ⟨fun env tm => isB true (nthD 2 env)⟩
  ⟨opStep ⟨fun call env tm ds h K => kO (binV Try.prog .eql 5 true (nthD 0 env) (.int .u8 (0))) ds h K⟩ ⟨fun v tm => tm⟩ ⟨fun env tm => isB true (nthD 3 env)⟩
  ⟨opStep ⟨fun call env tm ds h K => kO (pickV (nthD 4 env) (nthD 0 env) (.bool false)) ds h K⟩ ⟨fun v tm => tm⟩ ⟨fun env tm => true⟩
  ⟨opStep ⟨fun call env tm ds h K => kO (some (nthD 0 env)) ds h K⟩ ⟨fun v tm => tm⟩ ⟨fun env tm => true⟩
  ⟨opStep ⟨fun call env tm ds h K => kO (fieldPtr 2 (tg tm 1)) ds h K⟩ ⟨fun v tm => tm⟩ ⟨fun env tm => isB true (nthD 0 env)⟩
  ⟨opStep ⟨fun call env tm ds h K => kO (fieldPtr 2 (nthD 0 env)) ds h K⟩ ⟨fun v tm => tm⟩ ⟨fun env tm => isB true (nthD 1 env)⟩
  ⟨opStep ⟨fun call env tm ds h K => kO (loadOne h (nthD 0 env)) ds h K⟩ ⟨fun v tm => tm⟩ ⟨fun env tm => isB true (nthD 2 env)⟩
  ⟨opStep ⟨fun call env tm ds h K => kO (binV Try.prog .eql 23 true (nthD 0 env) (.int .u64 (0))) ds h K⟩ ⟨fun v tm => tm⟩ ⟨fun env tm => isB true (nthD 3 env)⟩
  ⟨opStep ⟨fun call env tm ds h K => kO (pickV (nthD 4 env) (nthD 0 env) (.bool false)) ds h K⟩ ⟨fun v tm => tm⟩ ⟨fun env tm => true⟩
  ⟨opStep ⟨fun call env tm ds h K => kO (some (nthD 0 env)) ds h K⟩ ⟨fun v tm => tm⟩ ⟨fun env tm => true⟩
  ⟨opStep ⟨fun call env tm ds h K => kO (fieldPtr 2 (tg tm 1)) ds h K⟩ ⟨fun v tm => tm⟩ ⟨fun env tm => isB true (nthD 0 env)⟩
  ⟨opStep ⟨fun call env tm ds h K => kO (fieldPtr 1 (nthD 0 env)) ds h K⟩ ⟨fun v tm => tm⟩ ⟨fun env tm => isB true (nthD 1 env)⟩
  ⟨opStep ⟨fun call env tm ds h K => kO (loadOne h (nthD 0 env)) ds h K⟩ ⟨fun v tm => tm⟩ ⟨fun env tm => isB true (nthD 2 env)⟩
  ⟨opStep ⟨fun call env tm ds h K => kO (lenSl (nthD 0 env)) ds h K⟩ ⟨fun v tm => tm⟩ ⟨fun env tm => isB true (nthD 3 env)⟩
  ⟨opStep ⟨fun call env tm ds h K => kO (binV Try.prog .eql 3 true (nthD 0 env) (.int .i64 (0))) ds h K⟩ ⟨fun v tm => tm⟩ ⟨fun env tm => isB true (nthD 4 env)⟩
  ⟨opStep ⟨fun call env tm ds h K => kO (pickV (nthD 5 env) (nthD 0 env) (.bool false)) ds h K⟩ ⟨fun v tm => tm⟩ ⟨fun env tm => true⟩
  ⟨opStep ⟨fun call env tm ds h K => kO (some (nthD 0 env)) ds h K⟩ ⟨fun v tm => (T.set tm 3 v)⟩ ⟨fun env tm => true⟩
  ⟨fun _ _ tm ds h K => K .norm tm ds h⟩⟩⟩⟩⟩⟩⟩⟩⟩⟩⟩⟩⟩⟩⟩⟩⟩⟩⟩⟩⟩⟩⟩⟩ : Box OpsT).f call [] tm ds h K
noncomputable def r15_6 : CodeT := fun call _ tm ds h K =>
  kO (fieldPtr 0 (tg tm 1)) ds h (fun v0 ds h =>
  kO (loadOne h v0) ds h (fun v1 ds h =>
  kO (binV Try.prog .eql 5 true v1 (.int .u8 (7))) ds h (fun v2 ds h =>
  K .norm (T.set tm 46 v2) ds h)))
noncomputable def r15_7 : CodeT := fun call _ tm ds h K => (⟨opStep ⟨fun call env tm ds h K => kO (some (tg tm 3)) ds h K⟩ ⟨fun v tm => tm⟩ ⟨fun env tm => true⟩
  ⟨opStep ⟨fun call env tm ds h K => kO (some (nthD 0 env)) ds h K⟩ ⟨fun v tm => tm⟩ ⟨fun env tm => true⟩
  ⟨opStep ⟨fun call env tm ds h K => kO (fieldPtr 6 (tg tm 1)) ds h K⟩ ⟨fun v tm => tm⟩ ⟨fun env tm => isB true (nthD 0 env)⟩
  ⟨opStep ⟨fun call env tm ds h K => kO (loadOne h (nthD 0 env)) ds h K⟩ ⟨fun v tm => tm⟩ ⟨fun env tm => isB true (nthD 1 env)⟩
  ⟨opStep ⟨fun call env tm ds h K => kO (lenStr (nthD 0 env)) ds h K⟩ ⟨fun v tm => tm⟩ ⟨fun env tm => isB true (nthD 2 env)⟩
  ⟨opStep ⟨fun call env tm ds h K => kO (binV Try.prog .geq 3 true (nthD 0 env) (.int .i64 (1))) ds h K⟩ ⟨fun v tm => tm⟩ ⟨fun env tm => isB true (nthD 3 env)⟩
  ⟨opStep ⟨fun call env tm ds h K => kO (pickV (nthD 4 env) (nthD 0 env) (.bool false)) ds h K⟩ ⟨fun v tm => tm⟩ ⟨fun env tm => true⟩
  ⟨opStep ⟨fun call env tm ds h K => kO (some (nthD 0 env)) ds h K⟩ ⟨fun v tm => tm⟩ ⟨fun env tm => true⟩
  ⟨opStep ⟨fun call env tm ds h K => kO (fieldPtr 6 (tg tm 1)) ds h K⟩ ⟨fun v tm => tm⟩ ⟨fun env tm => isB true (nthD 0 env)⟩
  ⟨opStep ⟨fun call env tm ds h K => kO (loadOne h (nthD 0 env)) ds h K⟩ ⟨fun v tm => tm⟩ ⟨fun env tm => isB true (nthD 1 env)⟩
  ⟨opStep ⟨fun call env tm ds h K => kO (lenStr (nthD 0 env)) ds h K⟩ ⟨fun v tm => tm⟩ ⟨fun env tm => isB true (nthD 2 env)⟩
  ⟨opStep ⟨fun call env tm ds h K => kO (binV Try.prog .leq 3 true (nthD 0 env) (.int .i64 (32))) ds h K⟩ ⟨fun v tm => tm⟩ ⟨fun env tm => isB true (nthD 3 env)⟩
  ⟨opStep ⟨fun call env tm ds h K => kO (pickV (nthD 4 env) (nthD 0 env) (.bool false)) ds h K⟩ ⟨fun v tm => tm⟩ ⟨fun env tm => true⟩
  ⟨opStep ⟨fun call env tm ds h K => kO (some (nthD 0 env)) ds h K⟩ ⟨fun v tm => (T.set tm 3 v)⟩ ⟨fun env tm => true⟩
  ⟨fun _ _ tm ds h K => K .norm tm ds h⟩⟩⟩⟩⟩⟩⟩⟩⟩⟩⟩⟩⟩⟩⟩ : Box OpsT).f call [] tm ds h K
noncomputable def r15_8 : CodeT := fun call _ tm ds h K => (⟨opStep ⟨fun call env tm ds h K => kO (some (tg tm 3)) ds h K⟩ ⟨fun v tm => tm⟩ ⟨fun env tm => true⟩
  ⟨opStep ⟨fun call env tm ds h K => kO (some (nthD 0 env)) ds h K⟩ ⟨fun v tm => tm⟩ ⟨fun env tm => true⟩
  ⟨opStep ⟨fun call env tm ds h K => kO (fieldPtr 6 (tg tm 1)) ds h K⟩ ⟨fun v tm => tm⟩ ⟨fun env tm => isB true (nthD 0 env)⟩
  ⟨opStep ⟨fun call env tm ds h K => kO (loadOne h (nthD 0 env)) ds h K⟩ ⟨fun v tm => tm⟩ ⟨fun env tm => isB true (nthD 1 env)⟩
  ⟨opStep ⟨fun call env tm ds h K => kO (binV Try.prog .eql 9 true (nthD 0 env) (.string (strB []))) ds h K⟩ ⟨fun v tm => tm⟩ ⟨fun env tm => isB true (nthD 2 env)⟩
  ⟨opStep ⟨fun call env tm ds h K => kO (pickV (nthD 3 env) (nthD 0 env) (.bool false)) ds h K⟩ ⟨fun v tm => tm⟩ ⟨fun env tm => true⟩
  ⟨opStep ⟨fun call env tm ds h K => kO (some (nthD 0 env)) ds h K⟩ ⟨fun v tm => (T.set tm 3 v)⟩ ⟨fun env tm => true⟩
  ⟨fun _ _ tm ds h K => K .norm tm ds h⟩⟩⟩⟩⟩⟩⟩⟩ : Box OpsT).f call [] tm ds h K
noncomputable def r15_9 : CodeT := fun call _ tm ds h K => (⟨opStep ⟨fun call env tm ds h K => kO (some (tg tm 3)) ds h K⟩ ⟨fun v tm => tm⟩ ⟨fun env tm => true⟩
  ⟨opStep ⟨fun call env tm ds h K => kO (unV .not (nthD 0 env)) ds h K⟩ ⟨fun v tm => tm⟩ ⟨fun env tm => true⟩
  ⟨opStep ⟨fun call env tm ds h K => kO (some (nthD 0 env)) ds h K⟩ ⟨fun v tm => tm⟩ ⟨fun env tm => true⟩
  ⟨opStep ⟨fun call env tm ds h K => kO (fieldPtr 5 (tg tm 1)) ds h K⟩ ⟨fun v tm => tm⟩ ⟨fun env tm => isB false (nthD 0 env)⟩
  ⟨opStep ⟨fun call env tm ds h K => kO (loadOne h (nthD 0 env)) ds h K⟩ ⟨fun v tm => tm⟩ ⟨fun env tm => isB false (nthD 1 env)⟩
  ⟨opStep ⟨fun call env tm ds h K => kO (some (nthD 0 env)) ds h K⟩ ⟨fun v tm => tm⟩ ⟨fun env tm => isB false (nthD 2 env)⟩
  ⟨opStep ⟨fun call env tm ds h K => kO (fieldPtr 0 (tg tm 1)) ds h K⟩ ⟨fun v tm => tm⟩ ⟨fun env tm => isB true (nthD 0 env)⟩
  ⟨opStep ⟨fun call env tm ds h K => kO (loadOne h (nthD 0 env)) ds h K⟩ ⟨fun v tm => tm⟩ ⟨fun env tm => isB true (nthD 1 env)⟩
  ⟨opStep ⟨fun call env tm ds h K => kO (binV Try.prog .neq 5 true (nthD 0 env) (.int .u8 (2))) ds h K⟩ ⟨fun v tm => tm⟩ ⟨fun env tm => isB true (nthD 2 env)⟩
  ⟨opStep ⟨fun call env tm ds h K => kO (pickV (nthD 3 env) (nthD 0 env) (.bool false)) ds h K⟩ ⟨fun v tm => tm⟩ ⟨fun env tm => isB false (nthD 6 env)⟩
  ⟨opStep ⟨fun call env tm ds h K => kO (some (nthD 0 env)) ds h K⟩ ⟨fun v tm => tm⟩ ⟨fun env tm => isB false (nthD 7 env)⟩
  ⟨opStep ⟨fun call env tm ds h K => kO (fieldPtr 0 (tg tm 1)) ds h K⟩ ⟨fun v tm => tm⟩ ⟨fun env tm => isB true (nthD 0 env)⟩
  ⟨opStep ⟨fun call env tm ds h K => kO (loadOne h (nthD 0 env)) ds h K⟩ ⟨fun v tm => tm⟩ ⟨fun env tm => isB true (nthD 1 env)⟩
  ⟨opStep ⟨fun call env tm ds h K => kO (binV Try.prog .neq 5 true (nthD 0 env) (.int .u8 (3))) ds h K⟩ ⟨fun v tm => tm⟩ ⟨fun env tm => isB true (nthD 2 env)⟩
  ⟨opStep ⟨fun call env tm ds h K => kO (pickV (nthD 3 env) (nthD 0 env) (.bool false)) ds h K⟩ ⟨fun v tm => tm⟩ ⟨fun env tm => isB false (nthD 11 env)⟩
  ⟨opStep ⟨fun call env tm ds h K => kO (pickV (nthD 12 env) (.bool true) (nthD 0 env)) ds h K⟩ ⟨fun v tm => (T.set tm 81 v)⟩ ⟨fun env tm => true⟩
  ⟨fun _ _ tm ds h K => K .norm tm ds h⟩⟩⟩⟩⟩⟩⟩⟩⟩⟩⟩⟩⟩⟩⟩⟩⟩ : Box OpsT).f call [] tm ds h K
noncomputable def r15_10 : CodeT := fun call _ tm ds h K =>
  K .norm (T.set tm 2 (.int .i64 (8))) ds h
noncomputable def r15_11 : CodeT := fun call _ tm ds h K =>
  K .norm (T.set tm 2 (.int .i64 (0))) ds h
noncomputable def c15 : Box CodeT := ⟨seqC ⟨r15_0⟩ ⟨seqC ⟨r15_1⟩ ⟨seqC ⟨blockC 0 ⟨seqC ⟨r15_2⟩ ⟨condC ⟨fun _ tm => tg tm 4⟩ ⟨r15_3⟩ ⟨seqC ⟨r15_4⟩ ⟨condC ⟨fun _ tm => tg tm 13⟩ ⟨r15_5⟩ skipC⟩⟩⟩⟩⟩ ⟨seqC ⟨seqC ⟨r15_6⟩ ⟨condC ⟨fun _ tm => tg tm 46⟩ ⟨r15_7⟩ ⟨r15_8⟩⟩⟩ ⟨seqC ⟨seqC ⟨r15_9⟩ ⟨condC ⟨fun _ tm => tg tm 81⟩ ⟨seqC ⟨r15_10⟩ retC⟩ skipC⟩⟩ ⟨seqC ⟨r15_11⟩ retC⟩⟩⟩⟩⟩⟩
noncomputable def q15 : Box (T Value → H → Option (List Value)) := ⟨fun tm h => some [tg tm 2]⟩
/-! 16 cloakroom/packed.result -/
noncomputable def r16_0 : CodeT := fun call _ tm ds h K =>
  kA (some (.rw (Value.cells (tg tm 0)).toList, ptrTo h.next)) ds h (fun v0 ds h =>
  K .norm (T.set (T.set tm 1 v0) 2 (.slice none 0 0)) ds h)
noncomputable def r16_1 : CodeT := fun call _ tm ds h K =>
  kO (fieldPtr 1 (tg tm 1)) ds h (fun v0 ds h =>
  kO (loadOne h v0) ds h (fun v1 ds h =>
  kO (fieldPtr 2 (tg tm 1)) ds h (fun v2 ds h =>
  kO (fieldPtr 0 v2) ds h (fun v3 ds h =>
  kO (loadOne h v3) ds h (fun v4 ds h =>
  kA (mkLit 2 h.next (fill (repl [(.int .u8 (0))] 2) (pl 1) [(0, v1), (1, v4)])) ds h (fun v5 ds h =>
  K .norm (T.set tm 3 v5) ds h))))))
noncomputable def r16_2 : CodeT := fun call _ tm ds h0 K =>
  (fun (b0 : Nat) (h : H) =>
  kO (fieldPtr 2 (tg tm 1)) ds h (fun v1 ds h =>
  kO (fieldPtr 2 v1) ds h (fun v2 ds h =>
  kO (loadOne h v2) ds h (fun v3 ds h =>
  kO (fieldPtr 2 (tg tm 1)) ds h (fun v5 ds h =>
  kO (fieldPtr 1 v5) ds h (fun v6 ds h =>
  kO (loadOne h v6) ds h (fun v7 ds h =>
  kO (lenSl v7) ds h (fun v8 ds h =>
  kO (toInt .u64 v8) ds h (fun v9 ds h =>
  call 29 [v3] h (fun v h => (fun v4 ds h =>
  andB (hO (loadOne h v6) v7 true) (call 29 [v9] h (fun v h => (fun v10 ds h =>
  aO (mkLit 2 (b0 + 11) (fill (repl [(.slice none 0 0)] 2) (pl 1) [(0, v4), (1, v10)])) (fun x11 v11 =>
  call 28 [(tg tm 3), v11] (H.put h (b0 + 11) x11) (fun v h => (fun v12 ds h =>
  K .norm (T.set tm 3 v12) ds h) v ds h))) v ds h))) v ds h)))))))))) h0.next ⟨h0.objs, h0.next + 14⟩
noncomputable def r16_3 : CodeT := fun call _ tm ds h K =>
  kO (fieldPtr 2 (tg tm 1)) ds h (fun v0 ds h =>
  kO (fieldPtr 1 v0) ds h (fun v1 ds h =>
  kO (loadOne h v1) ds h (fun v2 ds h =>
  kO (lenSl v2) ds h (fun v3 ds h =>
  K .norm (T.set (T.set (T.set tm 27 v2) 28 v3) 29 (.int .i64 (0))) ds h))))
noncomputable def r16_4 : CodeT := fun call _ tm ds h K =>
  kO (binV Try.prog .lss 3 false (tg tm 29) (tg tm 28)) ds h (fun v0 ds h =>
  K .norm (T.set tm 30 v0) ds h)
noncomputable def r16_5 : CodeT := fun call _ tm ds h K =>
  kO (indexSl 5 (tg tm 27) (tg tm 29)) ds h (fun v0 ds h =>
  kO (loadAgg 5 h v0) ds h (fun v1 ds h =>
  kA (some (.rw [(.string (strB [])), (.string (strB [])), (.int .u32 (0)), (.int .i64 (0)), (.int .u64 (0))], ptrTo h.next)) ds h (fun v2 ds h =>
  kH (withV undef (storeV 5 h v2 v1)) ds (fun v3 ds h =>
  K .norm (T.set tm 5 v2) ds h))))
noncomputable def r16_6 : CodeT := fun call _ tm ds h0 K =>
  (fun (b0 : Nat) (h : H) =>
  kO (fieldPtr 0 (tg tm 5)) ds h (fun v1 ds h =>
  kO (loadOne h v1) ds h (fun v2 ds h =>
  kO (fieldPtr 1 (tg tm 5)) ds h (fun v4 ds h =>
  kO (loadOne h v4) ds h (fun v5 ds h =>
  kO (fieldPtr 2 (tg tm 5)) ds h (fun v7 ds h =>
  kO (loadOne h v7) ds h (fun v8 ds h =>
  kO (toInt .u64 v8) ds h (fun v9 ds h =>
  kO (fieldPtr 3 (tg tm 5)) ds h (fun v11 ds h =>
  kO (loadOne h v11) ds h (fun v12 ds h =>
  kO (toInt .u64 v12) ds h (fun v13 ds h =>
  kO (fieldPtr 4 (tg tm 5)) ds h (fun v15 ds h =>
  kO (loadOne h v15) ds h (fun v16 ds h =>
  call 30 [v2] h (fun v h => (fun v3 ds h =>
  andB (hO (loadOne h v15) v16 (hO (loadOne h v11) v12 (hO (loadOne h v7) v8 (hO (loadOne h v4) v5 true)))) (call 30 [v5] h (fun v h => (fun v6 ds h =>
  andB (hO (loadOne h v15) v16 (hO (loadOne h v11) v12 (hO (loadOne h v7) v8 true))) (call 29 [v9] h (fun v h => (fun v10 ds h =>
  andB (hO (loadOne h v15) v16 (hO (loadOne h v11) v12 true)) (call 29 [v13] h (fun v h => (fun v14 ds h =>
  andB (hO (loadOne h v15) v16 true) (call 29 [v16] h (fun v h => (fun v17 ds h =>
  aO (mkLit 5 (b0 + 18) (fill (repl [(.slice none 0 0)] 5) (pl 1) [(0, v3), (1, v6), (2, v10), (3, v14), (4, v17)])) (fun x18 v18 =>
  call 28 [(tg tm 3), v18] (H.put h (b0 + 18) x18) (fun v h => (fun v19 ds h =>
  K .norm (T.set tm 3 v19) ds h) v ds h))) v ds h))) v ds h))) v ds h))) v ds h))) v ds h)))))))))))))) h0.next ⟨h0.objs, h0.next + 21⟩
noncomputable def r16_7 : CodeT := fun call _ tm ds h K =>
  kO (binV Try.prog .add 3 true (tg tm 29) (.int .i64 (1))) ds h (fun v0 ds h =>
  K .norm (T.set tm 29 v0) ds h)
noncomputable def l16_8 : Box CodeT := ⟨seqC ⟨r16_4⟩ ⟨seqC ⟨condC ⟨fun _ tm => tg tm 30⟩ skipC (exitC 0)⟩ ⟨seqC ⟨blockC 1 ⟨seqC ⟨r16_5⟩ ⟨r16_6⟩⟩⟩ ⟨r16_7⟩⟩⟩⟩
noncomputable def r16_8 : CodeT := fun call _ tm ds h K =>
  K .norm (T.set tm 2 (tg tm 3)) ds h
noncomputable def c16 : Box CodeT := ⟨seqC ⟨r16_0⟩ ⟨seqC ⟨r16_1⟩ ⟨seqC ⟨r16_2⟩ ⟨seqC ⟨seqC ⟨r16_3⟩ ⟨blockC 0 (loopB l16_8)⟩⟩ ⟨seqC ⟨r16_8⟩ retC⟩⟩⟩⟩⟩
noncomputable def q16 : Box (T Value → H → Option (List Value)) := ⟨fun tm h => some [tg tm 2]⟩
/-! 17 cloakroom/packed.flag -/
noncomputable def r17_0 : CodeT := fun call _ tm ds h K =>
  K .norm (T.set tm 2 (.slice none 0 0)) ds h
noncomputable def r17_1 : CodeT := fun call _ tm ds h K =>
  K .norm (T.set tm 3 (tg tm 0)) ds h
noncomputable def r17_2 : CodeT := fun call _ tm ds h K =>
  kA (mkLit 1 h.next (fill (repl [(.int .u8 (0))] 1) (pl 1) [(0, (.int .u8 (1)))])) ds h (fun v0 ds h =>
  K .norm (T.set tm 2 v0) ds h)
noncomputable def r17_3 : CodeT := fun call _ tm ds h K =>
  kA (mkLit 1 h.next (fill (repl [(.int .u8 (0))] 1) (pl 1) [(0, (.int .u8 (0)))])) ds h (fun v0 ds h =>
  K .norm (T.set tm 2 v0) ds h)
noncomputable def c17 : Box CodeT := ⟨seqC ⟨r17_0⟩ ⟨seqC ⟨seqC ⟨r17_1⟩ ⟨condC ⟨fun _ tm => tg tm 3⟩ ⟨seqC ⟨r17_2⟩ retC⟩ skipC⟩⟩ ⟨seqC ⟨r17_3⟩ retC⟩⟩⟩
noncomputable def q17 : Box (T Value → H → Option (List Value)) := ⟨fun tm h => some [tg tm 2]⟩
/-! 18 cloakroom/binary.Packet -/
noncomputable def r18_0 : CodeT := fun call _ tm ds h K =>
  K .norm (T.set (T.set tm 6 (.slice none 0 0)) 7 (.int .i64 (0))) ds h
noncomputable def r18_1 : CodeT := fun call _ tm ds h K =>
  kO (lenSl (tg tm 2)) ds h (fun v1 ds h =>
  kO (binV Try.prog .gtr 3 true v1 (.int .i64 (4096))) ds h (fun v2 ds h =>
  K .norm (T.set tm 10 v2) ds h))
noncomputable def r18_2 : CodeT := fun call _ tm ds h K =>
  K .norm (T.set (T.set tm 6 (.slice none 0 0)) 7 (.int .i64 (3))) ds h
noncomputable def r18_3 : CodeT := fun call _ tm ds h K =>
  call 31 [(tg tm 0), (tg tm 1), (tg tm 2)] h (fun v h => (fun v3 ds h =>
  K .norm (T.set (T.set tm 6 v3) 7 (.int .i64 (0))) ds h) v ds h)
noncomputable def c18 : Box CodeT := ⟨seqC ⟨r18_0⟩ ⟨seqC ⟨seqC ⟨r18_1⟩ ⟨condC ⟨fun _ tm => tg tm 10⟩ ⟨seqC ⟨r18_2⟩ retC⟩ skipC⟩⟩ ⟨seqC ⟨r18_3⟩ retC⟩⟩⟩
noncomputable def q18 : Box (T Value → H → Option (List Value)) := ⟨fun tm h => some [tg tm 6, tg tm 7]⟩
/-! 19 cloakroom/cloakroomref15.May -/
/-! 20 cloakroom/cloakroomref17.Body -/
/-! 21 cloakroom/cloakroomref16.Made -/
/-! 22 cloakroom/binary.Cut -/
noncomputable def r22_0 : CodeT := fun call _ tm ds h K =>
  K .norm (T.set (T.set (T.set (T.set tm 4 (.int .u8 (0))) 5 (.slice none 0 0)) 6 (.int .i64 (0))) 7 (.int .i64 (0))) ds h
noncomputable def r22_1 : CodeT := fun call _ tm ds h K =>
  kO (lenSl (tg tm 1)) ds h (fun v1 ds h =>
  kO (binV Try.prog .gtr 3 true v1 (.int .i64 (16384))) ds h (fun v2 ds h =>
  K .norm (T.set tm 9 v2) ds h))
noncomputable def r22_2 : CodeT := fun call _ tm ds h K =>
  K .norm (T.set (T.set (T.set (T.set tm 4 (.int .u8 (0))) 5 (.slice none 0 0)) 6 (.int .i64 (0))) 7 (.int .i64 (3))) ds h
noncomputable def r22_3 : CodeT := fun call _ tm ds h K =>
  kO (lenSl (tg tm 1)) ds h (fun v1 ds h =>
  kO (binV Try.prog .eql 3 true v1 (.int .i64 (0))) ds h (fun v2 ds h =>
  K .norm (T.set tm 13 v2) ds h))
noncomputable def r22_4 : CodeT := fun call _ tm ds h K =>
  K .norm (T.set (T.set (T.set (T.set tm 4 (.int .u8 (0))) 5 (.slice none 0 0)) 6 (.int .i64 (0))) 7 (.int .i64 (0))) ds h
noncomputable def r22_5 : CodeT := fun call _ tm ds h K =>
  kO (indexSl 1 (tg tm 1) (.int .i64 (0))) ds h (fun v1 ds h =>
  kO (loadOne h v1) ds h (fun v2 ds h =>
  kO (binV Try.prog .neq 5 false v2 (tg tm 0)) ds h (fun v4 ds h =>
  K .norm (T.set tm 17 v4) ds h)))
noncomputable def r22_6 : CodeT := fun call _ tm ds h K => (⟨opStep ⟨fun call env tm ds h K => kO (some (tg tm 1)) ds h K⟩ ⟨fun v tm => tm⟩ ⟨fun env tm => true⟩
  ⟨opStep ⟨fun call env tm ds h K => kO (lenSl (nthD 0 env)) ds h K⟩ ⟨fun v tm => tm⟩ ⟨fun env tm => true⟩
  ⟨opStep ⟨fun call env tm ds h K => kO (binV Try.prog .geq 3 true (nthD 0 env) (.int .i64 (6))) ds h K⟩ ⟨fun v tm => tm⟩ ⟨fun env tm => true⟩
  ⟨opStep ⟨fun call env tm ds h K => kO (some (nthD 0 env)) ds h K⟩ ⟨fun v tm => tm⟩ ⟨fun env tm => true⟩
  ⟨opStep ⟨fun call env tm ds h K => kO (some (tg tm 1)) ds h K⟩ ⟨fun v tm => tm⟩ ⟨fun env tm => isB true (nthD 0 env)⟩
  ⟨opStep ⟨fun call env tm ds h K => call 36 [(nthD 0 env)] h (fun v h => (K) v ds h)⟩ ⟨fun v tm => tm⟩ ⟨fun env tm => isB true (nthD 1 env)⟩
  ⟨opStep ⟨fun call env tm ds h K => kO (binV Try.prog .gtr 3 true (nthD 0 env) (.int .i64 (4096))) ds h K⟩ ⟨fun v tm => tm⟩ ⟨fun env tm => isB true (nthD 2 env)⟩
  ⟨opStep ⟨fun call env tm ds h K => kO (pickV (nthD 3 env) (nthD 0 env) (.bool false)) ds h K⟩ ⟨fun v tm => tm⟩ ⟨fun env tm => true⟩
  ⟨opStep ⟨fun call env tm ds h K => kO (some (nthD 0 env)) ds h K⟩ ⟨fun v tm => (T.set tm 17 v)⟩ ⟨fun env tm => true⟩
  ⟨fun _ _ tm ds h K => K .norm tm ds h⟩⟩⟩⟩⟩⟩⟩⟩⟩⟩ : Box OpsT).f call [] tm ds h K
noncomputable def r22_7 : CodeT := fun call _ tm ds h K =>
  K .norm (T.set (T.set (T.set (T.set tm 4 (.int .u8 (0))) 5 (.slice none 0 0)) 6 (.int .i64 (0))) 7 (.int .i64 (8))) ds h
noncomputable def r22_8 : CodeT := fun call _ tm ds h K =>
  kO (lenSl (tg tm 1)) ds h (fun v1 ds h =>
  kO (binV Try.prog .lss 3 true v1 (.int .i64 (6))) ds h (fun v2 ds h =>
  K .norm (T.set tm 31 v2) ds h))
noncomputable def r22_9 : CodeT := fun call _ tm ds h K =>
  kO (lenSl (tg tm 1)) ds h (fun v1 ds h =>
  call 36 [(tg tm 1)] h (fun v h => (fun v3 ds h =>
  kO (binV Try.prog .add 3 true (.int .i64 (6)) v3) ds h (fun v4 ds h =>
  kO (binV Try.prog .lss 3 false v1 v4) ds h (fun v5 ds h =>
  K .norm (T.set tm 31 v5) ds h))) v ds h))
noncomputable def r22_10 : CodeT := fun call _ tm ds h K =>
  K .norm (T.set (T.set (T.set (T.set tm 4 (.int .u8 (0))) 5 (.slice none 0 0)) 6 (.int .i64 (0))) 7 (.int .i64 (0))) ds h
noncomputable def r22_11 : CodeT := fun call _ tm ds h K =>
  call 36 [(tg tm 1)] h (fun v h => (fun v1 ds h =>
  kO (binV Try.prog .add 3 true (.int .i64 (6)) v1) ds h (fun v2 ds h =>
  K .norm (T.set tm 8 v2) ds h)) v ds h)
noncomputable def r22_12 : CodeT := fun call _ tm ds h0 K =>
  (fun (b0 : Nat) (h : H) =>
  kO (indexSl 1 (tg tm 1) (.int .i64 (1))) ds h (fun v1 ds h =>
  kO (loadOne h v1) ds h (fun v2 ds h =>
  kO (sliceSl 1 (tg tm 1) (some (.int .i64 (6))) (some (tg tm 8)) none) ds h (fun v5 ds h =>
  call 37 [v5] h (fun v h => (fun v6 ds h =>
  andB (hO (loadOne h v1) v2 true) (K .norm (T.set (T.set (T.set (T.set tm 4 v2) 5 v6) 6 (tg tm 8)) 7 (.int .i64 (0))) ds h)) v ds h))))) h0.next ⟨h0.objs, h0.next + 12⟩
noncomputable def c22 : Box CodeT := ⟨seqC ⟨r22_0⟩ ⟨seqC ⟨blockC 0 ⟨seqC ⟨r22_1⟩ ⟨condC ⟨fun _ tm => tg tm 9⟩ ⟨seqC ⟨r22_2⟩ retC⟩ ⟨seqC ⟨r22_3⟩ ⟨condC ⟨fun _ tm => tg tm 13⟩ ⟨seqC ⟨r22_4⟩ retC⟩ ⟨seqC ⟨seqC ⟨r22_5⟩ ⟨condC ⟨fun _ tm => tg tm 17⟩ skipC ⟨r22_6⟩⟩⟩ ⟨condC ⟨fun _ tm => tg tm 17⟩ ⟨seqC ⟨r22_7⟩ retC⟩ ⟨seqC ⟨seqC ⟨r22_8⟩ ⟨condC ⟨fun _ tm => tg tm 31⟩ skipC ⟨r22_9⟩⟩⟩ ⟨condC ⟨fun _ tm => tg tm 31⟩ ⟨seqC ⟨r22_10⟩ retC⟩ skipC⟩⟩⟩⟩⟩⟩⟩⟩⟩ ⟨seqC ⟨r22_11⟩ ⟨seqC ⟨r22_12⟩ retC⟩⟩⟩⟩
noncomputable def q22 : Box (T Value → H → Option (List Value)) := ⟨fun tm h => some [tg tm 4, tg tm 5, tg tm 6, tg tm 7]⟩
/-! 23 cloakroom/packed.read -/
noncomputable def r23_0 : CodeT := fun call _ tm ds h K =>
  kA (some (.rw [(.int .u8 (0)), (.int .u8 (0)), (.int .u8 (0)), (.slice none 0 0), (.int .u64 (0)), (.bool false), (.string (strB []))], ptrTo h.next)) ds h (fun v0 ds h =>
  K .norm (T.set (T.set tm 4 v0) 5 (.bool false)) ds h)
noncomputable def r23_1 : CodeT := fun call _ tm ds h K =>
  kO (aggO (fill [(.int .u8 (0)), (.int .u8 (0)), (.int .u8 (0)), (.slice none 0 0), (.int .u64 (0)), (.bool false), (.string (strB []))] (plc [(0, 1), (1, 1), (2, 3), (5, 1), (6, 1)]) [(0, (tg tm 0))])) ds h (fun v1 ds h =>
  kA (some (.rw [(.int .u8 (0)), (.int .u8 (0)), (.int .u8 (0)), (.slice none 0 0), (.int .u64 (0)), (.bool false), (.string (strB []))], ptrTo h.next)) ds h (fun v2 ds h =>
  kH (withV undef (storeV 7 h v2 v1)) ds (fun v3 ds h =>
  K .norm (T.set tm 6 v2) ds h)))
noncomputable def r23_2 : CodeT := fun call _ tm ds h K =>
  K .norm (T.set tm 15 (tg tm 0)) ds h
noncomputable def r23_3 : CodeT := fun call _ tm ds h K =>
  kO (binV Try.prog .eql 5 true (tg tm 15) (.int .u8 (1))) ds h (fun v0 ds h =>
  K .norm (T.set tm 16 v0) ds h)
noncomputable def r23_4 : CodeT := fun call _ tm ds h K =>
  kO (lenSl (tg tm 1)) ds h (fun v1 ds h =>
  kO (binV Try.prog .lss 3 true v1 (.int .i64 (2))) ds h (fun v2 ds h =>
  K .norm (T.set tm 20 v2) ds h))
noncomputable def r23_5 : CodeT := fun call _ tm ds h K =>
  kO (loadAgg 7 h (tg tm 6)) ds h (fun v0 ds h =>
  kH (withV undef (storeV 7 h (tg tm 4) v0)) ds (fun v1 ds h =>
  K .norm (T.set tm 5 (.bool false)) ds h))
noncomputable def r23_6 : CodeT := fun call _ tm ds h0 K =>
  (fun (b0 : Nat) (h : H) =>
  kO (indexSl 1 (tg tm 1) (.int .i64 (0))) ds h (fun v1 ds h =>
  kO (loadOne h v1) ds h (fun v2 ds h =>
  kO (indexSl 1 (tg tm 1) (.int .i64 (1))) ds h (fun v4 ds h =>
  kO (loadOne h v4) ds h (fun v5 ds h =>
  kO (fieldPtr 1 (tg tm 6)) ds h (fun v6 ds h =>
  kH (withV undef (storeV 1 h v6 v2)) ds (fun v7 ds h =>
  andB (hO (loadOne h v4) v5 true) (kO (fieldPtr 2 (tg tm 6)) ds h (fun v8 ds h =>
  kO (fieldPtr 0 v8) ds h (fun v9 ds h =>
  kH (withV undef (storeV 1 h v9 v5)) ds (fun v10 ds h =>
  K .norm tm ds h))))))))))) h0.next ⟨h0.objs, h0.next + 11⟩
noncomputable def r23_7 : CodeT := fun call _ tm ds h K =>
  kO (sliceSl 1 (tg tm 1) (some (.int .i64 (2))) none none) ds h (fun v1 ds h =>
  kO (aggO (fill [(.slice none 0 0), (.bool false)] (plc [(0, 1), (1, 1)]) [(0, v1), (1, (.bool true))])) ds h (fun v2 ds h =>
  kA (some (.rw (Value.cells v2).toList, ptrTo h.next)) ds h (fun v3 ds h =>
  K .norm (T.set tm 7 v3) ds h)))
noncomputable def r23_8 : CodeT := fun call _ tm ds h K =>
  kO (some (.func (.func 38) [(tg tm 7)].toArray [].toArray)) ds h (fun v1 ds h =>
  K .norm (T.set tm 8 v1) ds h)
noncomputable def r23_9 : CodeT := fun call _ tm ds h K =>
  goCall call (funcArgs (tg tm 8) []) ds h (fun v1 ds h =>
  kO (fieldPtr 2 (tg tm 6)) ds h (fun v2 ds h =>
  kO (fieldPtr 2 v2) ds h (fun v3 ds h =>
  kH (withV undef (storeV 1 h v3 v1)) ds (fun v4 ds h =>
  K .norm tm ds h))))
noncomputable def r23_10 : CodeT := fun call _ tm ds h K =>
  goCall call (funcArgs (tg tm 8) []) ds h (fun v1 ds h =>
  K .norm (T.set tm 9 v1) ds h)
noncomputable def r23_11 : CodeT := fun call _ tm ds h K =>
  kO (binV Try.prog .gtr 23 true (tg tm 9) (.int .u64 (8))) ds h (fun v1 ds h =>
  K .norm (T.set tm 44 v1) ds h)
noncomputable def r23_12 : CodeT := fun call _ tm ds h K =>
  kO (loadAgg 7 h (tg tm 6)) ds h (fun v0 ds h =>
  kH (withV undef (storeV 7 h (tg tm 4) v0)) ds (fun v1 ds h =>
  K .norm (T.set tm 5 (.bool false)) ds h))
noncomputable def r23_13 : CodeT := fun call _ tm ds h K =>
  K .norm (T.set (T.set tm 46 (tg tm 9)) 47 (.int .u64 (0))) ds h
noncomputable def r23_14 : CodeT := fun call _ tm ds h K =>
  kO (binV Try.prog .lss 23 false (tg tm 47) (tg tm 46)) ds h (fun v0 ds h =>
  K .norm (T.set tm 48 v0) ds h)
noncomputable def r23_15 : CodeT := fun call _ tm ds h K =>
  call 39 [(tg tm 7)] h (fun v h => (fun v1 ds h =>
  call 39 [(tg tm 7)] h (fun v h => (fun v3 ds h =>
  kO (aggO (fill [(.string (strB [])), (.string (strB [])), (.int .u32 (0)), (.int .i64 (0)), (.int .u64 (0))] (plc [(0, 1), (1, 1), (2, 1), (3, 1), (4, 1)]) [(0, v1), (1, v3)])) ds h (fun v4 ds h =>
  kA (some (.rw [(.string (strB [])), (.string (strB [])), (.int .u32 (0)), (.int .i64 (0)), (.int .u64 (0))], ptrTo h.next)) ds h (fun v5 ds h =>
  kH (withV undef (storeV 5 h v5 v4)) ds (fun v6 ds h =>
  K .norm (T.set tm 10 v5) ds h)))) v ds h)) v ds h)
noncomputable def r23_16 : CodeT := fun call _ tm ds h K =>
  goCall call (funcArgs (tg tm 8) []) ds h (fun v1 ds h =>
  goCall call (funcArgs (tg tm 8) []) ds h (fun v3 ds h =>
  K .norm (T.set (T.set tm 11 v1) 12 v3) ds h))
noncomputable def r23_17 : CodeT := fun call _ tm ds h K =>
  goCall call (funcArgs (tg tm 8) []) ds h (fun v1 ds h =>
  kO (fieldPtr 4 (tg tm 10)) ds h (fun v2 ds h =>
  kH (withV undef (storeV 1 h v2 v1)) ds (fun v3 ds h =>
  K .norm tm ds h)))
noncomputable def r23_18 : CodeT := fun call _ tm ds h K =>
  kO (binV Try.prog .gtr 23 true (tg tm 11) (.int .u64 (4294967295))) ds h (fun v1 ds h =>
  gd (isB false v1) (fun k => kO (some (tg tm 12)) ds h (k)) ds h (fun v3 ds h =>
  gd (isB false v1) (fun k => kO (binV Try.prog .gtr 23 true v3 (.int .u64 (1099511627776))) ds h (k)) ds h (fun v4 ds h =>
  kO (pickV v1 (.bool true) v4) ds h (fun v5 ds h =>
  K .norm (T.set tm 66 v5) ds h))))
noncomputable def r23_19 : CodeT := fun call _ tm ds h K =>
  kO (loadAgg 7 h (tg tm 6)) ds h (fun v0 ds h =>
  kH (withV undef (storeV 7 h (tg tm 4) v0)) ds (fun v1 ds h =>
  K .norm (T.set tm 5 (.bool false)) ds h))
noncomputable def r23_20 : CodeT := fun call _ tm ds h K =>
  kO (toInt .u32 (tg tm 11)) ds h (fun v1 ds h =>
  kO (toInt .i64 (tg tm 12)) ds h (fun v3 ds h =>
  kO (fieldPtr 2 (tg tm 10)) ds h (fun v4 ds h =>
  kH (withV undef (storeV 1 h v4 v1)) ds (fun v5 ds h =>
  kO (fieldPtr 3 (tg tm 10)) ds h (fun v6 ds h =>
  kH (withV undef (storeV 1 h v6 v3)) ds (fun v7 ds h =>
  K .norm tm ds h))))))
noncomputable def r23_21 : CodeT := fun call _ tm ds h K =>
  kO (fieldPtr 2 (tg tm 6)) ds h (fun v0 ds h =>
  kO (fieldPtr 1 v0) ds h (fun v1 ds h =>
  kO (loadOne h v1) ds h (fun v2 ds h =>
  kO (loadAgg 5 h (tg tm 10)) ds h (fun v3 ds h =>
  kA (mkLit 1 h.next (fill (repl [(.string (strB [])), (.string (strB [])), (.int .u32 (0)), (.int .i64 (0)), (.int .u64 (0))] 1) (pl 5) [(0, v3)])) ds h (fun v4 ds h =>
  kH (appendV 5 56 h v2 v4) ds (fun v5 ds h =>
  kO (fieldPtr 2 (tg tm 6)) ds h (fun v6 ds h =>
  kO (fieldPtr 1 v6) ds h (fun v7 ds h =>
  kH (withV undef (storeV 1 h v7 v5)) ds (fun v8 ds h =>
  K .norm tm ds h)))))))))
noncomputable def r23_22 : CodeT := fun call _ tm ds h K =>
  kO (binV Try.prog .add 23 true (tg tm 47) (.int .u64 (1))) ds h (fun v0 ds h =>
  K .norm (T.set tm 47 v0) ds h)
noncomputable def l23_23 : Box CodeT := ⟨seqC ⟨r23_14⟩ ⟨seqC ⟨condC ⟨fun _ tm => tg tm 48⟩ skipC (exitC 1)⟩ ⟨seqC ⟨blockC 2 ⟨seqC ⟨r23_15⟩ ⟨seqC ⟨r23_16⟩ ⟨seqC ⟨r23_17⟩ ⟨seqC ⟨seqC ⟨r23_18⟩ ⟨condC ⟨fun _ tm => tg tm 66⟩ ⟨seqC ⟨r23_19⟩ retC⟩ skipC⟩⟩ ⟨seqC ⟨r23_20⟩ ⟨r23_21⟩⟩⟩⟩⟩⟩⟩ ⟨r23_22⟩⟩⟩⟩
noncomputable def r23_23 : CodeT := fun call _ tm ds h0 K =>
  (fun (b0 : Nat) (h : H) =>
  kO (loadAgg 7 h (tg tm 6)) ds h (fun v0 ds h =>
  kO (nilChk (tg tm 7)) ds h (fun v2 ds h =>
  kO (fieldPtr 1 v2) ds h (fun v3 ds h =>
  kO (loadOne h v3) ds h (fun v4 ds h =>
  gd (isB true v4) (fun k => kO (some (tg tm 7)) ds h k) ds h (fun v6 ds h =>
  gd (isB true v4) (fun k => kO (nilChk v6) ds h k) ds h (fun v7 ds h =>
  gd (isB true v4) (fun k => kO (fieldPtr 0 v7) ds h k) ds h (fun v8 ds h =>
  ite2 (isB true v4) (kO (loadOne h v8) ds h (fun v9 ds h =>
  gd (isB true v4) (fun k => kO (lenSl v9) ds h k) ds h (fun v10 ds h =>
  gd (isB true v4) (fun k => kO (binV Try.prog .eql 3 true v10 (.int .i64 (0))) ds h k) ds h (fun v11 ds h =>
  kO (pickV v4 v11 (.bool false)) ds h (fun v12 ds h =>
  kH (withV undef (storeV 7 h (tg tm 4) v0)) ds (fun v13 ds h =>
  andB (hO (loadOne h v8) v9 true) (K .norm (T.set tm 5 v12) ds h)))))))
  (gd (isB true v4) (fun k => kO (lenSl undef) ds h k) ds h (fun v10 ds h =>
  gd (isB true v4) (fun k => kO (binV Try.prog .eql 3 true v10 (.int .i64 (0))) ds h k) ds h (fun v11 ds h =>
  kO (pickV v4 v11 (.bool false)) ds h (fun v12 ds h =>
  kH (withV undef (storeV 7 h (tg tm 4) v0)) ds (fun v13 ds h =>
  K .norm (T.set tm 5 v12) ds h))))))))))))) h0.next ⟨h0.objs, h0.next + 15⟩
noncomputable def r23_24 : CodeT := fun call _ tm ds h K =>
  kO (binV Try.prog .eql 5 true (tg tm 15) (.int .u8 (2))) ds h (fun v0 ds h =>
  K .norm (T.set tm 96 v0) ds h)
noncomputable def r23_25 : CodeT := fun call _ tm ds h K =>
  kO (binV Try.prog .eql 5 true (tg tm 15) (.int .u8 (3))) ds h (fun v0 ds h =>
  K .norm (T.set tm 96 v0) ds h)
noncomputable def r23_26 : CodeT := fun call _ tm ds h K => (⟨opStep ⟨fun call env tm ds h K => kO (some (tg tm 1)) ds h K⟩ ⟨fun v tm => tm⟩ ⟨fun env tm => true⟩
  ⟨opStep ⟨fun call env tm ds h K => kO (lenSl (nthD 0 env)) ds h K⟩ ⟨fun v tm => tm⟩ ⟨fun env tm => true⟩
  ⟨opStep ⟨fun call env tm ds h K => kO (binV Try.prog .neq 3 true (nthD 0 env) (.int .i64 (1))) ds h K⟩ ⟨fun v tm => tm⟩ ⟨fun env tm => true⟩
  ⟨opStep ⟨fun call env tm ds h K => kO (some (nthD 0 env)) ds h K⟩ ⟨fun v tm => tm⟩ ⟨fun env tm => true⟩
  ⟨opStep ⟨fun call env tm ds h K => kO (some (tg tm 1)) ds h K⟩ ⟨fun v tm => tm⟩ ⟨fun env tm => isB false (nthD 0 env)⟩
  ⟨opStep ⟨fun call env tm ds h K => kO (indexSl 1 (nthD 0 env) (.int .i64 (0))) ds h K⟩ ⟨fun v tm => tm⟩ ⟨fun env tm => isB false (nthD 1 env)⟩
  ⟨opStep ⟨fun call env tm ds h K => kO (loadOne h (nthD 0 env)) ds h K⟩ ⟨fun v tm => tm⟩ ⟨fun env tm => isB false (nthD 2 env)⟩
  ⟨opStep ⟨fun call env tm ds h K => kO (binV Try.prog .gtr 5 true (nthD 0 env) (.int .u8 (1))) ds h K⟩ ⟨fun v tm => tm⟩ ⟨fun env tm => isB false (nthD 3 env)⟩
  ⟨opStep ⟨fun call env tm ds h K => kO (pickV (nthD 4 env) (.bool true) (nthD 0 env)) ds h K⟩ ⟨fun v tm => (T.set tm 107 v)⟩ ⟨fun env tm => true⟩
  ⟨fun _ _ tm ds h K => K .norm tm ds h⟩⟩⟩⟩⟩⟩⟩⟩⟩⟩ : Box OpsT).f call [] tm ds h K
noncomputable def r23_27 : CodeT := fun call _ tm ds h K =>
  kO (loadAgg 7 h (tg tm 6)) ds h (fun v0 ds h =>
  kH (withV undef (storeV 7 h (tg tm 4) v0)) ds (fun v1 ds h =>
  K .norm (T.set tm 5 (.bool false)) ds h))
noncomputable def r23_28 : CodeT := fun call _ tm ds h K =>
  kO (indexSl 1 (tg tm 1) (.int .i64 (0))) ds h (fun v1 ds h =>
  kO (loadOne h v1) ds h (fun v2 ds h =>
  kO (binV Try.prog .eql 5 true v2 (.int .u8 (1))) ds h (fun v3 ds h =>
  kO (fieldPtr 5 (tg tm 6)) ds h (fun v4 ds h =>
  kH (withV undef (storeV 1 h v4 v3)) ds (fun v5 ds h =>
  K .norm tm ds h)))))
noncomputable def r23_29 : CodeT := fun call _ tm ds h K =>
  kO (loadAgg 7 h (tg tm 6)) ds h (fun v0 ds h =>
  kH (withV undef (storeV 7 h (tg tm 4) v0)) ds (fun v1 ds h =>
  K .norm (T.set tm 5 (.bool true)) ds h))
noncomputable def r23_30 : CodeT := fun call _ tm ds h K =>
  kO (binV Try.prog .eql 5 true (tg tm 15) (.int .u8 (7))) ds h (fun v0 ds h =>
  K .norm (T.set tm 115 v0) ds h)
noncomputable def r23_31 : CodeT := fun call _ tm ds h K =>
  kO (bytesStr h (tg tm 1)) ds h (fun v1 ds h =>
  kO (fieldPtr 6 (tg tm 6)) ds h (fun v2 ds h =>
  kH (withV undef (storeV 1 h v2 v1)) ds (fun v3 ds h =>
  K .norm tm ds h)))
noncomputable def r23_32 : CodeT := fun call _ tm ds h K =>
  kO (loadAgg 7 h (tg tm 6)) ds h (fun v0 ds h =>
  kH (withV undef (storeV 7 h (tg tm 4) v0)) ds (fun v1 ds h =>
  K .norm (T.set tm 5 (.bool true)) ds h))
noncomputable def r23_33 : CodeT := fun call _ tm ds h K =>
  kO (loadAgg 7 h (tg tm 6)) ds h (fun v0 ds h =>
  kO (lenSl (tg tm 1)) ds h (fun v2 ds h =>
  kO (binV Try.prog .eql 3 true v2 (.int .i64 (0))) ds h (fun v3 ds h =>
  kH (withV undef (storeV 7 h (tg tm 4) v0)) ds (fun v4 ds h =>
  K .norm (T.set tm 5 v3) ds h))))
noncomputable def c23 : Box CodeT := ⟨seqC ⟨r23_0⟩ ⟨seqC ⟨r23_1⟩ ⟨seqC ⟨seqC ⟨r23_2⟩ ⟨blockC 0 ⟨seqC ⟨r23_3⟩ ⟨condC ⟨fun _ tm => tg tm 16⟩ ⟨seqC ⟨seqC ⟨r23_4⟩ ⟨condC ⟨fun _ tm => tg tm 20⟩ ⟨seqC ⟨r23_5⟩ retC⟩ skipC⟩⟩ ⟨seqC ⟨r23_6⟩ ⟨seqC ⟨r23_7⟩ ⟨seqC ⟨r23_8⟩ ⟨seqC ⟨r23_9⟩ ⟨seqC ⟨r23_10⟩ ⟨seqC ⟨seqC ⟨r23_11⟩ ⟨condC ⟨fun _ tm => tg tm 44⟩ ⟨seqC ⟨r23_12⟩ retC⟩ skipC⟩⟩ ⟨seqC ⟨seqC ⟨r23_13⟩ ⟨blockC 1 (loopB l23_23)⟩⟩ ⟨seqC ⟨r23_23⟩ retC⟩⟩⟩⟩⟩⟩⟩⟩⟩ ⟨seqC ⟨seqC ⟨r23_24⟩ ⟨condC ⟨fun _ tm => tg tm 96⟩ skipC ⟨r23_25⟩⟩⟩ ⟨condC ⟨fun _ tm => tg tm 96⟩ ⟨seqC ⟨seqC ⟨r23_26⟩ ⟨condC ⟨fun _ tm => tg tm 107⟩ ⟨seqC ⟨r23_27⟩ retC⟩ skipC⟩⟩ ⟨seqC ⟨r23_28⟩ ⟨seqC ⟨r23_29⟩ retC⟩⟩⟩ ⟨seqC ⟨r23_30⟩ ⟨condC ⟨fun _ tm => tg tm 115⟩ ⟨seqC ⟨r23_31⟩ ⟨seqC ⟨r23_32⟩ retC⟩⟩ skipC⟩⟩⟩⟩⟩⟩⟩⟩ ⟨seqC ⟨r23_33⟩ retC⟩⟩⟩⟩
noncomputable def q23 : Box (T Value → H → Option (List Value)) := ⟨fun tm h => (match loadAgg 7 h (tg tm 4) with | some v => (match (some [tg tm 5] : Option (List Value)) with | some l => some (v :: l) | none => none) | none => none)⟩
/-! 24 cloakroom/cloakroomref16.Cut -/
/-! 25 cloakroom/cloakroomref17.Of -/
/-! 26 cloakroom/cloakroomref10.Same -/
noncomputable def r26_0 : CodeT := fun call _ tm ds h K =>
  kA (some (.rw (Value.cells (tg tm 0)).toList, ptrTo h.next)) ds h (fun v0 ds h =>
  kA (some (.rw (Value.cells (tg (T.set tm 2 v0) 1)).toList, ptrTo h.next)) ds h (fun v1 ds h =>
  K .norm (T.set (T.set (T.set tm 2 v0) 3 v1) 4 (.bool false)) ds h))
noncomputable def r26_1 : CodeT := fun call _ tm ds h K => (⟨opStep ⟨fun call env tm ds h K => kO (fieldPtr 0 (tg tm 2)) ds h K⟩ ⟨fun v tm => tm⟩ ⟨fun env tm => true⟩
  ⟨opStep ⟨fun call env tm ds h K => kO (loadOne h (nthD 0 env)) ds h K⟩ ⟨fun v tm => tm⟩ ⟨fun env tm => true⟩
  ⟨opStep ⟨fun call env tm ds h K => kO (fieldPtr 0 (tg tm 3)) ds h K⟩ ⟨fun v tm => tm⟩ ⟨fun env tm => true⟩
  ⟨opStep ⟨fun call env tm ds h K => kO (loadOne h (nthD 0 env)) ds h K⟩ ⟨fun v tm => tm⟩ ⟨fun env tm => true⟩
  ⟨opStep ⟨fun call env tm ds h K => kO (binV Try.prog .neq 5 false (nthD 2 env) (nthD 0 env)) ds h K⟩ ⟨fun v tm => tm⟩ ⟨fun env tm => true⟩
  ⟨opStep ⟨fun call env tm ds h K => kO (some (nthD 0 env)) ds h K⟩ ⟨fun v tm => tm⟩ ⟨fun env tm => true⟩
  ⟨opStep ⟨fun call env tm ds h K => kO (fieldPtr 2 (tg tm 2)) ds h K⟩ ⟨fun v tm => tm⟩ ⟨fun env tm => isB false (nthD 0 env)⟩
  ⟨opStep ⟨fun call env tm ds h K => kO (loadOne h (nthD 0 env)) ds h K⟩ ⟨fun v tm => tm⟩ ⟨fun env tm => isB false (nthD 1 env)⟩
  ⟨opStep ⟨fun call env tm ds h K => kO (fieldPtr 2 (tg tm 3)) ds h K⟩ ⟨fun v tm => tm⟩ ⟨fun env tm => isB false (nthD 2 env)⟩
  ⟨opStep ⟨fun call env tm ds h K => kO (loadOne h (nthD 0 env)) ds h K⟩ ⟨fun v tm => tm⟩ ⟨fun env tm => isB false (nthD 3 env)⟩
  ⟨opStep ⟨fun call env tm ds h K => kO (binV Try.prog .neq 23 false (nthD 2 env) (nthD 0 env)) ds h K⟩ ⟨fun v tm => tm⟩ ⟨fun env tm => isB false (nthD 4 env)⟩
  ⟨opStep ⟨fun call env tm ds h K => kO (pickV (nthD 5 env) (.bool true) (nthD 0 env)) ds h K⟩ ⟨fun v tm => tm⟩ ⟨fun env tm => true⟩
  ⟨opStep ⟨fun call env tm ds h K => kO (some (nthD 0 env)) ds h K⟩ ⟨fun v tm => tm⟩ ⟨fun env tm => true⟩
  ⟨opStep ⟨fun call env tm ds h K => kO (fieldPtr 1 (tg tm 2)) ds h K⟩ ⟨fun v tm => tm⟩ ⟨fun env tm => isB false (nthD 0 env)⟩
  ⟨opStep ⟨fun call env tm ds h K => kO (loadOne h (nthD 0 env)) ds h K⟩ ⟨fun v tm => tm⟩ ⟨fun env tm => isB false (nthD 1 env)⟩
  ⟨opStep ⟨fun call env tm ds h K => kO (lenSl (nthD 0 env)) ds h K⟩ ⟨fun v tm => tm⟩ ⟨fun env tm => isB false (nthD 2 env)⟩
  ⟨opStep ⟨fun call env tm ds h K => kO (fieldPtr 1 (tg tm 3)) ds h K⟩ ⟨fun v tm => tm⟩ ⟨fun env tm => isB false (nthD 3 env)⟩
  ⟨opStep ⟨fun call env tm ds h K => kO (loadOne h (nthD 0 env)) ds h K⟩ ⟨fun v tm => tm⟩ ⟨fun env tm => isB false (nthD 4 env)⟩
  ⟨opStep ⟨fun call env tm ds h K => kO (lenSl (nthD 0 env)) ds h K⟩ ⟨fun v tm => tm⟩ ⟨fun env tm => isB false (nthD 5 env)⟩
  ⟨opStep ⟨fun call env tm ds h K => kO (binV Try.prog .neq 3 false (nthD 3 env) (nthD 0 env)) ds h K⟩ ⟨fun v tm => tm⟩ ⟨fun env tm => isB false (nthD 6 env)⟩
  ⟨opStep ⟨fun call env tm ds h K => kO (pickV (nthD 7 env) (.bool true) (nthD 0 env)) ds h K⟩ ⟨fun v tm => (T.set tm 26 v)⟩ ⟨fun env tm => true⟩
  ⟨fun _ _ tm ds h K => K .norm tm ds h⟩⟩⟩⟩⟩⟩⟩⟩⟩⟩⟩⟩⟩⟩⟩⟩⟩⟩⟩⟩⟩⟩ : Box OpsT).f call [] tm ds h K
noncomputable def r26_2 : CodeT := fun call _ tm ds h K =>
  K .norm (T.set tm 4 (.bool false)) ds h
noncomputable def r26_3 : CodeT := fun call _ tm ds h K =>
  K .norm (T.set tm 5 (.int .i64 (0))) ds h
noncomputable def r26_4 : CodeT := fun call _ tm ds h K =>
  kO (fieldPtr 1 (tg tm 2)) ds h (fun v1 ds h =>
  kO (loadOne h v1) ds h (fun v2 ds h =>
  kO (lenSl v2) ds h (fun v3 ds h =>
  kO (binV Try.prog .lss 3 false (tg tm 5) v3) ds h (fun v4 ds h =>
  K .norm (T.set tm 31 v4) ds h))))
noncomputable def r26_6 : CodeT := fun call _ tm ds h0 K =>
  (fun (b0 : Nat) (h : H) =>
  kO (fieldPtr 1 (tg tm 2)) ds h (fun v0 ds h =>
  kO (loadOne h v0) ds h (fun v1 ds h =>
  kO (indexSl 5 v1 (tg tm 5)) ds h (fun v3 ds h =>
  kO (loadAgg 5 h v3) ds h (fun v4 ds h =>
  kO (fieldPtr 1 (tg tm 3)) ds h (fun v5 ds h =>
  kO (loadOne h v5) ds h (fun v6 ds h =>
  kO (indexSl 5 v6 (tg tm 5)) ds h (fun v8 ds h =>
  kO (loadAgg 5 h v8) ds h (fun v9 ds h =>
  kO (binV Try.prog .neq 43 false v4 v9) ds h (fun v10 ds h =>
  K .norm (T.set tm 44 v10) ds h)))))))))) h0.next ⟨h0.objs, h0.next + 11⟩
noncomputable def r26_7 : CodeT := fun call _ tm ds h K =>
  K .norm (T.set tm 4 (.bool false)) ds h
noncomputable def r26_5 : CodeT := fun call _ tm ds h K =>
  kO (binV Try.prog .add 3 true (tg tm 5) (.int .i64 (1))) ds h (fun v1 ds h =>
  K .norm (T.set tm 5 v1) ds h)
noncomputable def l26_8 : Box CodeT := ⟨seqC ⟨seqC ⟨r26_4⟩ ⟨condC ⟨fun _ tm => tg tm 31⟩ skipC (exitC 0)⟩⟩ ⟨seqC ⟨blockC 1 ⟨seqC ⟨r26_6⟩ ⟨condC ⟨fun _ tm => tg tm 44⟩ ⟨seqC ⟨r26_7⟩ retC⟩ skipC⟩⟩⟩ ⟨r26_5⟩⟩⟩
noncomputable def r26_8 : CodeT := fun call _ tm ds h K =>
  K .norm (T.set tm 4 (.bool true)) ds h
noncomputable def c26 : Box CodeT := ⟨seqC ⟨r26_0⟩ ⟨seqC ⟨seqC ⟨r26_1⟩ ⟨condC ⟨fun _ tm => tg tm 26⟩ ⟨seqC ⟨r26_2⟩ retC⟩ skipC⟩⟩ ⟨seqC ⟨seqC ⟨r26_3⟩ ⟨blockC 0 (loopB l26_8)⟩⟩ ⟨seqC ⟨r26_8⟩ retC⟩⟩⟩⟩
noncomputable def q26 : Box (T Value → H → Option (List Value)) := ⟨fun tm h => some [tg tm 4]⟩
/-! 27 cloakroom/words.result -/
noncomputable def r27_0 : CodeT := fun call _ tm ds h K =>
  kA (some (.rw (Value.cells (tg tm 1)).toList, ptrTo h.next)) ds h (fun v0 ds h =>
  K .norm (T.set (T.set tm 3 v0) 4 (.bool false)) ds h)
noncomputable def r27_1 : CodeT := fun call _ tm ds h K =>
  kO (fieldPtr 0 (tg tm 3)) ds h (fun v0 ds h =>
  kO (loadOne h v0) ds h (fun v1 ds h =>
  kO (binV Try.prog .eql 5 true v1 (.int .u8 (1))) ds h (fun v2 ds h =>
  K .norm (T.set tm 5 v2) ds h)))
noncomputable def r27_2 : CodeT := fun call _ tm ds h K =>
  kO (binV Try.prog .lss 5 true (tg tm 0) (.int .u8 (1))) ds h (fun v1 ds h =>
  K .norm (T.set tm 9 v1) ds h)
noncomputable def r27_3 : CodeT := fun call _ tm ds h K =>
  kO (binV Try.prog .gtr 5 true (tg tm 0) (.int .u8 (11))) ds h (fun v1 ds h =>
  K .norm (T.set tm 9 v1) ds h)
noncomputable def r27_4 : CodeT := fun call _ tm ds h K =>
  kO (fieldPtr 0 (tg tm 3)) ds h (fun v0 ds h =>
  kO (loadOne h v0) ds h (fun v1 ds h =>
  kO (binV Try.prog .lss 5 true v1 (.int .u8 (1))) ds h (fun v2 ds h =>
  K .norm (T.set tm 9 v2) ds h)))
noncomputable def r27_5 : CodeT := fun call _ tm ds h K =>
  kO (fieldPtr 0 (tg tm 3)) ds h (fun v0 ds h =>
  kO (loadOne h v0) ds h (fun v1 ds h =>
  kO (binV Try.prog .gtr 5 true v1 (.int .u8 (7))) ds h (fun v2 ds h =>
  K .norm (T.set tm 9 v2) ds h)))
noncomputable def r27_6 : CodeT := fun call _ tm ds h K =>
  K .norm (T.set tm 4 (.bool false)) ds h
noncomputable def r27_7 : CodeT := fun call _ tm ds h K => (⟨opStep ⟨fun call env tm ds h K => kO (fieldPtr 1 (tg tm 3)) ds h K⟩ ⟨fun v tm => tm⟩ ⟨fun env tm => true⟩
  ⟨opStep ⟨fun call env tm ds h K => kO (loadOne h (nthD 0 env)) ds h K⟩ ⟨fun v tm => tm⟩ ⟨fun env tm => true⟩
  ⟨opStep ⟨fun call env tm ds h K => kO (lenSl (nthD 0 env)) ds h K⟩ ⟨fun v tm => tm⟩ ⟨fun env tm => true⟩
  ⟨opStep ⟨fun call env tm ds h K => kO (binV Try.prog .gtr 3 true (nthD 0 env) (.int .i64 (0))) ds h K⟩ ⟨fun v tm => tm⟩ ⟨fun env tm => true⟩
  ⟨opStep ⟨fun call env tm ds h K => kO (some (nthD 0 env)) ds h K⟩ ⟨fun v tm => tm⟩ ⟨fun env tm => true⟩
  ⟨opStep ⟨fun call env tm ds h K => kO (some (tg tm 5)) ds h K⟩ ⟨fun v tm => tm⟩ ⟨fun env tm => isB true (nthD 0 env)⟩
  ⟨opStep ⟨fun call env tm ds h K => kO (some (nthD 0 env)) ds h K⟩ ⟨fun v tm => tm⟩ ⟨fun env tm => isB true (nthD 1 env)⟩
  ⟨opStep ⟨fun call env tm ds h K => kO (some (tg tm 0)) ds h K⟩ ⟨fun v tm => tm⟩ ⟨fun env tm => isB true (nthD 0 env)⟩
  ⟨opStep ⟨fun call env tm ds h K => kO (binV Try.prog .eql 5 true (nthD 0 env) (.int .u8 (1))) ds h K⟩ ⟨fun v tm => tm⟩ ⟨fun env tm => isB true (nthD 1 env)⟩
  ⟨opStep ⟨fun call env tm ds h K => kO (pickV (nthD 2 env) (nthD 0 env) (.bool false)) ds h K⟩ ⟨fun v tm => tm⟩ ⟨fun env tm => isB true (nthD 4 env)⟩
  ⟨opStep ⟨fun call env tm ds h K => kO (unV .not (nthD 0 env)) ds h K⟩ ⟨fun v tm => tm⟩ ⟨fun env tm => isB true (nthD 5 env)⟩
  ⟨opStep ⟨fun call env tm ds h K => kO (pickV (nthD 6 env) (nthD 0 env) (.bool false)) ds h K⟩ ⟨fun v tm => tm⟩ ⟨fun env tm => true⟩
  ⟨opStep ⟨fun call env tm ds h K => kO (some (nthD 0 env)) ds h K⟩ ⟨fun v tm => (T.set tm 20 v)⟩ ⟨fun env tm => true⟩
  ⟨fun _ _ tm ds h K => K .norm tm ds h⟩⟩⟩⟩⟩⟩⟩⟩⟩⟩⟩⟩⟩⟩ : Box OpsT).f call [] tm ds h K
noncomputable def r27_8 : CodeT := fun call _ tm ds h K =>
  kO (fieldPtr 1 (tg tm 3)) ds h (fun v0 ds h =>
  kO (loadOne h v0) ds h (fun v1 ds h =>
  kO (lenSl v1) ds h (fun v2 ds h =>
  kO (binV Try.prog .gtr 3 true v2 (.int .i64 (8))) ds h (fun v3 ds h =>
  K .norm (T.set tm 20 v3) ds h))))
noncomputable def r27_9 : CodeT := fun call _ tm ds h K =>
  K .norm (T.set tm 4 (.bool false)) ds h
noncomputable def r27_10 : CodeT := fun call _ tm ds h K => (⟨opStep ⟨fun call env tm ds h K => kO (fieldPtr 2 (tg tm 3)) ds h K⟩ ⟨fun v tm => tm⟩ ⟨fun env tm => true⟩
  ⟨opStep ⟨fun call env tm ds h K => kO (loadOne h (nthD 0 env)) ds h K⟩ ⟨fun v tm => tm⟩ ⟨fun env tm => true⟩
  ⟨opStep ⟨fun call env tm ds h K => kO (binV Try.prog .neq 23 true (nthD 0 env) (.int .u64 (0))) ds h K⟩ ⟨fun v tm => tm⟩ ⟨fun env tm => true⟩
  ⟨opStep ⟨fun call env tm ds h K => kO (some (nthD 0 env)) ds h K⟩ ⟨fun v tm => tm⟩ ⟨fun env tm => true⟩
  ⟨opStep ⟨fun call env tm ds h K => kO (some (tg tm 5)) ds h K⟩ ⟨fun v tm => tm⟩ ⟨fun env tm => isB true (nthD 0 env)⟩
  ⟨opStep ⟨fun call env tm ds h K => kO (some (nthD 0 env)) ds h K⟩ ⟨fun v tm => tm⟩ ⟨fun env tm => isB true (nthD 1 env)⟩
  ⟨opStep ⟨fun call env tm ds h K => kO (some (tg tm 0)) ds h K⟩ ⟨fun v tm => tm⟩ ⟨fun env tm => isB true (nthD 0 env)⟩
  ⟨opStep ⟨fun call env tm ds h K => call 42 [(nthD 0 env)] h (fun v h => (K) v ds h)⟩ ⟨fun v tm => tm⟩ ⟨fun env tm => isB true (nthD 1 env)⟩
  ⟨opStep ⟨fun call env tm ds h K => kO (pickV (nthD 2 env) (nthD 0 env) (.bool false)) ds h K⟩ ⟨fun v tm => tm⟩ ⟨fun env tm => isB true (nthD 4 env)⟩
  ⟨opStep ⟨fun call env tm ds h K => kO (unV .not (nthD 0 env)) ds h K⟩ ⟨fun v tm => tm⟩ ⟨fun env tm => isB true (nthD 5 env)⟩
  ⟨opStep ⟨fun call env tm ds h K => kO (pickV (nthD 6 env) (nthD 0 env) (.bool false)) ds h K⟩ ⟨fun v tm => tm⟩ ⟨fun env tm => true⟩
  ⟨opStep ⟨fun call env tm ds h K => kO (some (nthD 0 env)) ds h K⟩ ⟨fun v tm => (T.set tm 37 v)⟩ ⟨fun env tm => true⟩
  ⟨fun _ _ tm ds h K => K .norm tm ds h⟩⟩⟩⟩⟩⟩⟩⟩⟩⟩⟩⟩⟩ : Box OpsT).f call [] tm ds h K
noncomputable def r27_11 : CodeT := fun call _ tm ds h K => (⟨opStep ⟨fun call env tm ds h K => kO (some (tg tm 0)) ds h K⟩ ⟨fun v tm => tm⟩ ⟨fun env tm => true⟩
  ⟨opStep ⟨fun call env tm ds h K => kO (binV Try.prog .eql 5 true (nthD 0 env) (.int .u8 (10))) ds h K⟩ ⟨fun v tm => tm⟩ ⟨fun env tm => true⟩
  ⟨opStep ⟨fun call env tm ds h K => kO (some (nthD 0 env)) ds h K⟩ ⟨fun v tm => tm⟩ ⟨fun env tm => true⟩
  ⟨opStep ⟨fun call env tm ds h K => kO (fieldPtr 2 (tg tm 3)) ds h K⟩ ⟨fun v tm => tm⟩ ⟨fun env tm => isB true (nthD 0 env)⟩
  ⟨opStep ⟨fun call env tm ds h K => kO (loadOne h (nthD 0 env)) ds h K⟩ ⟨fun v tm => tm⟩ ⟨fun env tm => isB true (nthD 1 env)⟩
  ⟨opStep ⟨fun call env tm ds h K => kO (binV Try.prog .gtr 23 true (nthD 0 env) (.int .u64 (8))) ds h K⟩ ⟨fun v tm => tm⟩ ⟨fun env tm => isB true (nthD 2 env)⟩
  ⟨opStep ⟨fun call env tm ds h K => kO (pickV (nthD 3 env) (nthD 0 env) (.bool false)) ds h K⟩ ⟨fun v tm => tm⟩ ⟨fun env tm => true⟩
  ⟨opStep ⟨fun call env tm ds h K => kO (some (nthD 0 env)) ds h K⟩ ⟨fun v tm => (T.set tm 37 v)⟩ ⟨fun env tm => true⟩
  ⟨fun _ _ tm ds h K => K .norm tm ds h⟩⟩⟩⟩⟩⟩⟩⟩⟩ : Box OpsT).f call [] tm ds h K
noncomputable def r27_12 : CodeT := fun call _ tm ds h K =>
  K .norm (T.set tm 4 (.bool false)) ds h
noncomputable def r27_13 : CodeT := fun call _ tm ds h K =>
  kO (fieldPtr 1 (tg tm 3)) ds h (fun v0 ds h =>
  kO (loadOne h v0) ds h (fun v1 ds h =>
  call 43 [v1, (.func (.func 44) #[] #[])] h (fun v h => (fun v2 ds h =>
  kO (unV .not v2) ds h (fun v3 ds h =>
  K .norm (T.set tm 4 v3) ds h)) v ds h)))
noncomputable def c27 : Box CodeT := ⟨seqC ⟨r27_0⟩ ⟨seqC ⟨r27_1⟩ ⟨seqC ⟨blockC 0 ⟨seqC ⟨seqC ⟨r27_2⟩ ⟨condC ⟨fun _ tm => tg tm 9⟩ skipC ⟨seqC ⟨r27_3⟩ ⟨condC ⟨fun _ tm => tg tm 9⟩ skipC ⟨seqC ⟨r27_4⟩ ⟨condC ⟨fun _ tm => tg tm 9⟩ skipC ⟨r27_5⟩⟩⟩⟩⟩⟩⟩ ⟨condC ⟨fun _ tm => tg tm 9⟩ ⟨seqC ⟨r27_6⟩ retC⟩ ⟨seqC ⟨seqC ⟨r27_7⟩ ⟨condC ⟨fun _ tm => tg tm 20⟩ skipC ⟨r27_8⟩⟩⟩ ⟨condC ⟨fun _ tm => tg tm 20⟩ ⟨seqC ⟨r27_9⟩ retC⟩ ⟨seqC ⟨seqC ⟨r27_10⟩ ⟨condC ⟨fun _ tm => tg tm 37⟩ skipC ⟨r27_11⟩⟩⟩ ⟨condC ⟨fun _ tm => tg tm 37⟩ ⟨seqC ⟨r27_12⟩ retC⟩ skipC⟩⟩⟩⟩⟩⟩⟩ ⟨seqC ⟨r27_13⟩ retC⟩⟩⟩⟩
noncomputable def q27 : Box (T Value → H → Option (List Value)) := ⟨fun tm h => some [tg tm 4]⟩
/-! 28 cloakroom/packed.behind -/
noncomputable def r28_0 : CodeT := fun call _ tm ds h K =>
  K .norm (T.set tm 4 (.slice none 0 0)) ds h
noncomputable def r28_1 : CodeT := fun call _ tm ds h K =>
  kO (lenSl (tg tm 1)) ds h (fun v1 ds h =>
  K .norm (T.set (T.set (T.set tm 7 (tg tm 1)) 8 v1) 9 (.int .i64 (0))) ds h)
noncomputable def r28_2 : CodeT := fun call _ tm ds h K =>
  kO (binV Try.prog .lss 3 false (tg tm 9) (tg tm 8)) ds h (fun v0 ds h =>
  K .norm (T.set tm 10 v0) ds h)
noncomputable def r28_3 : CodeT := fun call _ tm ds h K =>
  kO (indexSl 1 (tg tm 7) (tg tm 9)) ds h (fun v0 ds h =>
  kO (loadOne h v0) ds h (fun v1 ds h =>
  K .norm (T.set tm 6 v1) ds h))
noncomputable def r28_4 : CodeT := fun call _ tm ds h K =>
  kH (appendV 1 1 h (tg tm 0) (tg tm 6)) ds (fun v2 ds h =>
  K .norm (T.set tm 0 v2) ds h)
noncomputable def r28_5 : CodeT := fun call _ tm ds h K =>
  kO (binV Try.prog .add 3 true (tg tm 9) (.int .i64 (1))) ds h (fun v0 ds h =>
  K .norm (T.set tm 9 v0) ds h)
noncomputable def l28_6 : Box CodeT := ⟨seqC ⟨r28_2⟩ ⟨seqC ⟨condC ⟨fun _ tm => tg tm 10⟩ skipC (exitC 0)⟩ ⟨seqC ⟨blockC 1 ⟨seqC ⟨r28_3⟩ ⟨r28_4⟩⟩⟩ ⟨r28_5⟩⟩⟩⟩
noncomputable def r28_6 : CodeT := fun call _ tm ds h K =>
  K .norm (T.set tm 4 (tg tm 0)) ds h
noncomputable def c28 : Box CodeT := ⟨seqC ⟨r28_0⟩ ⟨seqC ⟨seqC ⟨r28_1⟩ ⟨blockC 0 (loopB l28_6)⟩⟩ ⟨seqC ⟨r28_6⟩ retC⟩⟩⟩
noncomputable def q28 : Box (T Value → H → Option (List Value)) := ⟨fun tm h => some [tg tm 4]⟩
/-! 29 cloakroom/code.Small -/
noncomputable def r29_0 : CodeT := fun call _ tm ds h K =>
  K .norm (T.set tm 2 (.slice none 0 0)) ds h
noncomputable def r29_1 : CodeT := fun call _ tm ds h K =>
  K .norm (T.set tm 3 (.slice none 0 0)) ds h
noncomputable def r29_2 : CodeT := fun call _ tm ds h K =>
  kO (binV Try.prog .gtr 23 true (tg tm 0) (.int .u64 (127))) ds h (fun v1 ds h =>
  K .norm (T.set tm 5 v1) ds h)
noncomputable def r29_4 : CodeT := fun call _ tm ds h K =>
  kO (toInt .u8 (tg tm 0)) ds h (fun v2 ds h =>
  kO (binV Try.prog .or 5 true v2 (.int .u8 (128))) ds h (fun v3 ds h =>
  kA (mkLit 1 h.next (fill (repl [(.int .u8 (0))] 1) (pl 1) [(0, v3)])) ds h (fun v4 ds h =>
  kH (appendV 1 1 h (tg tm 3) v4) ds (fun v5 ds h =>
  K .norm (T.set tm 3 v5) ds h))))
noncomputable def r29_3 : CodeT := fun call _ tm ds h K =>
  kO (binV Try.prog .shr 23 true (tg tm 0) (.int .u64 (7))) ds h (fun v1 ds h =>
  K .norm (T.set tm 0 v1) ds h)
noncomputable def l29_5 : Box CodeT := ⟨seqC ⟨seqC ⟨r29_2⟩ ⟨condC ⟨fun _ tm => tg tm 5⟩ skipC (exitC 0)⟩⟩ ⟨seqC ⟨blockC 1 ⟨r29_4⟩⟩ ⟨r29_3⟩⟩⟩
noncomputable def r29_5 : CodeT := fun call _ tm ds h K =>
  kO (toInt .u8 (tg tm 0)) ds h (fun v2 ds h =>
  kA (mkLit 1 h.next (fill (repl [(.int .u8 (0))] 1) (pl 1) [(0, v2)])) ds h (fun v3 ds h =>
  kH (appendV 1 1 h (tg tm 3) v3) ds (fun v4 ds h =>
  K .norm (T.set tm 2 v4) ds h)))
noncomputable def c29 : Box CodeT := ⟨seqC ⟨r29_0⟩ ⟨seqC ⟨r29_1⟩ ⟨seqC ⟨blockC 0 (loopB l29_5)⟩ ⟨seqC ⟨r29_5⟩ retC⟩⟩⟩⟩
noncomputable def q29 : Box (T Value → H → Option (List Value)) := ⟨fun tm h => some [tg tm 2]⟩
/-! 30 cloakroom/code.Text -/
noncomputable def r30_0 : CodeT := fun call _ tm ds h K =>
  K .norm (T.set tm 2 (.slice none 0 0)) ds h
noncomputable def r30_1 : CodeT := fun call _ tm ds h K =>
  kO (lenStr (tg tm 0)) ds h (fun v1 ds h =>
  kO (toInt .u64 v1) ds h (fun v2 ds h =>
  call 29 [v2] h (fun v h => (fun v3 ds h =>
  kH (appendV 1 1 h v3 (tg tm 0)) ds (fun v5 ds h =>
  K .norm (T.set tm 2 v5) ds h)) v ds h)))
noncomputable def c30 : Box CodeT := ⟨seqC ⟨r30_0⟩ ⟨seqC ⟨r30_1⟩ retC⟩⟩
noncomputable def q30 : Box (T Value → H → Option (List Value)) := ⟨fun tm h => some [tg tm 2]⟩
/-! 31 cloakroom/binary.packet -/
noncomputable def r31_0 : CodeT := fun call _ tm ds h K =>
  K .norm (T.set tm 6 (.slice none 0 0)) ds h
noncomputable def r31_1 : CodeT := fun call _ tm ds h K =>
  kO (lenSl (tg tm 2)) ds h (fun v1 ds h =>
  kO (toInt .u32 v1) ds h (fun v2 ds h =>
  K .norm (T.set tm 7 v2) ds h))
noncomputable def r31_2 : CodeT := fun call _ tm ds h K =>
  kO (binV Try.prog .shr 41 true (tg tm 7) (.int .u64 (24))) ds h (fun v3 ds h =>
  kO (toInt .u8 v3) ds h (fun v4 ds h =>
  kO (binV Try.prog .shr 41 true (tg tm 7) (.int .u64 (16))) ds h (fun v6 ds h =>
  kO (toInt .u8 v6) ds h (fun v7 ds h =>
  kO (binV Try.prog .shr 41 true (tg tm 7) (.int .u64 (8))) ds h (fun v9 ds h =>
  kO (toInt .u8 v9) ds h (fun v10 ds h =>
  kO (toInt .u8 (tg tm 7)) ds h (fun v12 ds h =>
  kA (mkLit 6 h.next (fill (repl [(.int .u8 (0))] 6) (pl 1) [(0, (tg tm 0)), (1, (tg tm 1)), (2, v4), (3, v7), (4, v10), (5, v12)])) ds h (fun v13 ds h =>
  kH (appendV 1 1 h v13 (tg tm 2)) ds (fun v15 ds h =>
  K .norm (T.set tm 6 v15) ds h)))))))))
noncomputable def c31 : Box CodeT := ⟨seqC ⟨r31_0⟩ ⟨seqC ⟨r31_1⟩ ⟨seqC ⟨r31_2⟩ retC⟩⟩⟩
noncomputable def q31 : Box (T Value → H → Option (List Value)) := ⟨fun tm h => some [tg tm 6]⟩
/-! 32 cloakroom/cloakroomref15.counts -/
/-! 33 cloakroom/cloakroomref09.Check -/
/-! 34 cloakroom/cloakroomref01.Small -/
/-! 35 cloakroom/cloakroomref01.Text -/
/-! 36 cloakroom/binary.size -/
noncomputable def r36_0 : CodeT := fun call _ tm ds h K =>
  K .norm (T.set tm 2 (.int .i64 (0))) ds h
noncomputable def r36_1 : CodeT := fun call _ tm ds h0 K =>
  (fun (b0 : Nat) (h : H) =>
  kO (indexSl 1 (tg tm 0) (.int .i64 (2))) ds h (fun v1 ds h =>
  kO (loadOne h v1) ds h (fun v2 ds h =>
  kO (toInt .u32 v2) ds h (fun v3 ds h =>
  kO (binV Try.prog .shl 41 true v3 (.int .u64 (24))) ds h (fun v4 ds h =>
  kO (indexSl 1 (tg tm 0) (.int .i64 (3))) ds h (fun v6 ds h =>
  kO (loadOne h v6) ds h (fun v7 ds h =>
  kO (toInt .u32 v7) ds h (fun v8 ds h =>
  kO (binV Try.prog .shl 41 true v8 (.int .u64 (16))) ds h (fun v9 ds h =>
  kO (binV Try.prog .or 41 false v4 v9) ds h (fun v10 ds h =>
  kO (indexSl 1 (tg tm 0) (.int .i64 (4))) ds h (fun v12 ds h =>
  kO (loadOne h v12) ds h (fun v13 ds h =>
  kO (toInt .u32 v13) ds h (fun v14 ds h =>
  kO (binV Try.prog .shl 41 true v14 (.int .u64 (8))) ds h (fun v15 ds h =>
  kO (binV Try.prog .or 41 false v10 v15) ds h (fun v16 ds h =>
  kO (indexSl 1 (tg tm 0) (.int .i64 (5))) ds h (fun v18 ds h =>
  kO (loadOne h v18) ds h (fun v19 ds h =>
  kO (toInt .u32 v19) ds h (fun v20 ds h =>
  kO (binV Try.prog .or 41 false v16 v20) ds h (fun v21 ds h =>
  kO (toInt .i64 v21) ds h (fun v22 ds h =>
  K .norm (T.set tm 2 v22) ds h)))))))))))))))))))) h0.next ⟨h0.objs, h0.next + 24⟩
noncomputable def c36 : Box CodeT := ⟨seqC ⟨r36_0⟩ ⟨seqC ⟨r36_1⟩ retC⟩⟩
noncomputable def q36 : Box (T Value → H → Option (List Value)) := ⟨fun tm h => some [tg tm 2]⟩
/-! 37 slices.Clone[[]byte,byte] -/
noncomputable def r37_0 : CodeT := fun call _ tm ds h K =>
  K .norm (T.set tm 2 (.slice none 0 0)) ds h
noncomputable def r37_1 : CodeT := fun call _ tm ds h K =>
  kO (binV Try.prog .eql 29 true (tg tm 0) (.slice none 0 0)) ds h (fun v1 ds h =>
  K .norm (T.set tm 4 v1) ds h)
noncomputable def r37_2 : CodeT := fun call _ tm ds h K =>
  K .norm (T.set tm 2 (.slice none 0 0)) ds h
noncomputable def r37_3 : CodeT := fun call _ tm ds h K =>
  kA (mkLit 0 h.next (fill (repl [(.int .u8 (0))] 0) (pl 1) [])) ds h (fun v0 ds h =>
  kH (appendV 1 1 h v0 (tg tm 0)) ds (fun v2 ds h =>
  K .norm (T.set tm 2 v2) ds h))
noncomputable def c37 : Box CodeT := ⟨seqC ⟨r37_0⟩ ⟨seqC ⟨seqC ⟨r37_1⟩ ⟨condC ⟨fun _ tm => tg tm 4⟩ ⟨seqC ⟨r37_2⟩ retC⟩ skipC⟩⟩ ⟨seqC ⟨r37_3⟩ retC⟩⟩⟩
noncomputable def q37 : Box (T Value → H → Option (List Value)) := ⟨fun tm h => some [tg tm 2]⟩
/-! 38 (*cloakroom/packed.reader).number -/
noncomputable def r38_0 : CodeT := fun call _ tm ds h K =>
  K .norm (T.set tm 2 (.int .u64 (0))) ds h
noncomputable def r38_1 : CodeT := fun call _ tm ds h K =>
  kO (nilChk (tg tm 0)) ds h (fun v1 ds h =>
  kO (fieldPtr 0 v1) ds h (fun v2 ds h =>
  kO (loadOne h v2) ds h (fun v3 ds h =>
  call 47 [v3] h (fun v h => (fun v4 ds h =>
  kO (tupNth 0 v4) ds h (fun v6 ds h =>
  kO (tupNth 1 v4) ds h (fun v7 ds h =>
  kO (tupNth 2 v4) ds h (fun v8 ds h =>
  K .norm (T.set (T.set (T.set tm 3 v6) 4 v7) 5 v8) ds h)))) v ds h))))
noncomputable def r38_2 : CodeT := fun call _ tm ds h K =>
  kO (binV Try.prog .neq 30 true (tg tm 5) (.int .i64 (0))) ds h (fun v1 ds h =>
  K .norm (T.set tm 16 v1) ds h)
noncomputable def r38_3 : CodeT := fun call _ tm ds h K =>
  kO (nilChk (tg tm 0)) ds h (fun v2 ds h =>
  kO (fieldPtr 1 v2) ds h (fun v3 ds h =>
  kH (withV undef (storeV 1 h v3 (.bool false))) ds (fun v4 ds h =>
  kO (nilChk (tg tm 0)) ds h (fun v5 ds h =>
  kO (fieldPtr 0 v5) ds h (fun v6 ds h =>
  kH (withV undef (storeV 1 h v6 (.slice none 0 0))) ds (fun v7 ds h =>
  K .norm tm ds h))))))
noncomputable def r38_4 : CodeT := fun call _ tm ds h K =>
  K .norm (T.set tm 2 (.int .u64 (0))) ds h
noncomputable def r38_5 : CodeT := fun call _ tm ds h K =>
  kO (nilChk (tg tm 0)) ds h (fun v2 ds h =>
  kO (fieldPtr 0 v2) ds h (fun v3 ds h =>
  kO (loadOne h v3) ds h (fun v4 ds h =>
  kO (sliceSl 1 v4 (some (tg tm 4)) none none) ds h (fun v6 ds h =>
  kO (nilChk (tg tm 0)) ds h (fun v7 ds h =>
  kO (fieldPtr 0 v7) ds h (fun v8 ds h =>
  kH (withV undef (storeV 1 h v8 v6)) ds (fun v9 ds h =>
  K .norm tm ds h)))))))
noncomputable def r38_6 : CodeT := fun call _ tm ds h K =>
  K .norm (T.set tm 2 (tg tm 3)) ds h
noncomputable def c38 : Box CodeT := ⟨seqC ⟨r38_0⟩ ⟨seqC ⟨r38_1⟩ ⟨seqC ⟨seqC ⟨r38_2⟩ ⟨condC ⟨fun _ tm => tg tm 16⟩ ⟨seqC ⟨r38_3⟩ ⟨seqC ⟨r38_4⟩ retC⟩⟩ skipC⟩⟩ ⟨seqC ⟨r38_5⟩ ⟨seqC ⟨r38_6⟩ retC⟩⟩⟩⟩⟩
noncomputable def q38 : Box (T Value → H → Option (List Value)) := ⟨fun tm h => some [tg tm 2]⟩
/-! 39 (*cloakroom/packed.reader).text -/
noncomputable def r39_0 : CodeT := fun call _ tm ds h K =>
  K .norm (T.set tm 2 (.string (strB []))) ds h
noncomputable def r39_1 : CodeT := fun call _ tm ds h K =>
  kO (nilChk (tg tm 0)) ds h (fun v1 ds h =>
  kO (fieldPtr 0 v1) ds h (fun v2 ds h =>
  kO (loadOne h v2) ds h (fun v3 ds h =>
  call 48 [v3] h (fun v h => (fun v4 ds h =>
  kO (tupNth 0 v4) ds h (fun v6 ds h =>
  kO (tupNth 1 v4) ds h (fun v7 ds h =>
  kO (tupNth 2 v4) ds h (fun v8 ds h =>
  K .norm (T.set (T.set (T.set tm 3 v6) 4 v7) 5 v8) ds h)))) v ds h))))
noncomputable def r39_2 : CodeT := fun call _ tm ds h K =>
  kO (binV Try.prog .neq 30 true (tg tm 5) (.int .i64 (0))) ds h (fun v1 ds h =>
  K .norm (T.set tm 16 v1) ds h)
noncomputable def r39_3 : CodeT := fun call _ tm ds h K =>
  kO (nilChk (tg tm 0)) ds h (fun v2 ds h =>
  kO (fieldPtr 1 v2) ds h (fun v3 ds h =>
  kH (withV undef (storeV 1 h v3 (.bool false))) ds (fun v4 ds h =>
  kO (nilChk (tg tm 0)) ds h (fun v5 ds h =>
  kO (fieldPtr 0 v5) ds h (fun v6 ds h =>
  kH (withV undef (storeV 1 h v6 (.slice none 0 0))) ds (fun v7 ds h =>
  K .norm tm ds h))))))
noncomputable def r39_4 : CodeT := fun call _ tm ds h K =>
  K .norm (T.set tm 2 (.string (strB []))) ds h
noncomputable def r39_5 : CodeT := fun call _ tm ds h K =>
  kO (nilChk (tg tm 0)) ds h (fun v2 ds h =>
  kO (fieldPtr 0 v2) ds h (fun v3 ds h =>
  kH (withV undef (storeV 1 h v3 (tg tm 4))) ds (fun v4 ds h =>
  K .norm tm ds h)))
noncomputable def r39_6 : CodeT := fun call _ tm ds h K =>
  K .norm (T.set tm 2 (tg tm 3)) ds h
noncomputable def c39 : Box CodeT := ⟨seqC ⟨r39_0⟩ ⟨seqC ⟨r39_1⟩ ⟨seqC ⟨seqC ⟨r39_2⟩ ⟨condC ⟨fun _ tm => tg tm 16⟩ ⟨seqC ⟨r39_3⟩ ⟨seqC ⟨r39_4⟩ retC⟩⟩ skipC⟩⟩ ⟨seqC ⟨r39_5⟩ ⟨seqC ⟨r39_6⟩ retC⟩⟩⟩⟩⟩
noncomputable def q39 : Box (T Value → H → Option (List Value)) := ⟨fun tm h => some [tg tm 2]⟩
/-! 40 cloakroom/cloakroomref16.length -/
/-! 41 cloakroom/cloakroomref17.result -/
/-! 42 cloakroom/words.counts -/
noncomputable def r42_0 : CodeT := fun call _ tm ds h K =>
  K .norm (T.set tm 2 (.bool false)) ds h
noncomputable def r42_1 : CodeT := fun call _ tm ds h K => (⟨opStep ⟨fun call env tm ds h K => kO (some (tg tm 0)) ds h K⟩ ⟨fun v tm => tm⟩ ⟨fun env tm => true⟩
  ⟨opStep ⟨fun call env tm ds h K => kO (binV Try.prog .eql 5 true (nthD 0 env) (.int .u8 (6))) ds h K⟩ ⟨fun v tm => tm⟩ ⟨fun env tm => true⟩
  ⟨opStep ⟨fun call env tm ds h K => kO (some (nthD 0 env)) ds h K⟩ ⟨fun v tm => tm⟩ ⟨fun env tm => true⟩
  ⟨opStep ⟨fun call env tm ds h K => kO (some (tg tm 0)) ds h K⟩ ⟨fun v tm => tm⟩ ⟨fun env tm => isB false (nthD 0 env)⟩
  ⟨opStep ⟨fun call env tm ds h K => kO (binV Try.prog .eql 5 true (nthD 0 env) (.int .u8 (7))) ds h K⟩ ⟨fun v tm => tm⟩ ⟨fun env tm => isB false (nthD 1 env)⟩
  ⟨opStep ⟨fun call env tm ds h K => kO (pickV (nthD 2 env) (.bool true) (nthD 0 env)) ds h K⟩ ⟨fun v tm => tm⟩ ⟨fun env tm => true⟩
  ⟨opStep ⟨fun call env tm ds h K => kO (some (nthD 0 env)) ds h K⟩ ⟨fun v tm => tm⟩ ⟨fun env tm => true⟩
  ⟨opStep ⟨fun call env tm ds h K => kO (some (tg tm 0)) ds h K⟩ ⟨fun v tm => tm⟩ ⟨fun env tm => isB false (nthD 0 env)⟩
  ⟨opStep ⟨fun call env tm ds h K => kO (binV Try.prog .eql 5 true (nthD 0 env) (.int .u8 (10))) ds h K⟩ ⟨fun v tm => tm⟩ ⟨fun env tm => isB false (nthD 1 env)⟩
  ⟨opStep ⟨fun call env tm ds h K => kO (pickV (nthD 2 env) (.bool true) (nthD 0 env)) ds h K⟩ ⟨fun v tm => tm⟩ ⟨fun env tm => true⟩
  ⟨opStep ⟨fun call env tm ds h K => kO (some (nthD 0 env)) ds h K⟩ ⟨fun v tm => (T.set tm 2 v)⟩ ⟨fun env tm => true⟩
  ⟨fun _ _ tm ds h K => K .norm tm ds h⟩⟩⟩⟩⟩⟩⟩⟩⟩⟩⟩⟩ : Box OpsT).f call [] tm ds h K
noncomputable def c42 : Box CodeT := ⟨seqC ⟨r42_0⟩ ⟨seqC ⟨r42_1⟩ retC⟩⟩
noncomputable def q42 : Box (T Value → H → Option (List Value)) := ⟨fun tm h => some [tg tm 2]⟩
/-! 43 slices.ContainsFunc[[]cloakroom/api.Item,cloakroom/api.Item] -/
noncomputable def r43_0 : CodeT := fun call _ tm ds h K =>
  K .norm (T.set tm 4 (.bool false)) ds h
noncomputable def r43_1 : CodeT := fun call _ tm ds h K =>
  call 51 [(tg tm 0), (tg tm 1)] h (fun v h => (fun v2 ds h =>
  kO (binV Try.prog .geq 3 true v2 (.int .i64 (0))) ds h (fun v3 ds h =>
  K .norm (T.set tm 4 v3) ds h)) v ds h)
noncomputable def c43 : Box CodeT := ⟨seqC ⟨r43_0⟩ ⟨seqC ⟨r43_1⟩ retC⟩⟩
noncomputable def q43 : Box (T Value → H → Option (List Value)) := ⟨fun tm h => some [tg tm 4]⟩
/-! 44 cloakroom/words.result$1 -/
noncomputable def r44_0 : CodeT := fun call _ tm ds h K =>
  kA (some (.rw (Value.cells (tg tm 0)).toList, ptrTo h.next)) ds h (fun v0 ds h =>
  K .norm (T.set (T.set tm 1 v0) 2 (.bool false)) ds h)
noncomputable def r44_1 : CodeT := fun call _ tm ds h K =>
  kO (loadAgg 5 h (tg tm 1)) ds h (fun v0 ds h =>
  call 45 [v0] h (fun v h => (fun v1 ds h =>
  kO (binV Try.prog .neq 30 true v1 (.int .i64 (0))) ds h (fun v2 ds h =>
  K .norm (T.set tm 2 v2) ds h)) v ds h))
noncomputable def c44 : Box CodeT := ⟨seqC ⟨r44_0⟩ ⟨seqC ⟨r44_1⟩ retC⟩⟩
noncomputable def q44 : Box (T Value → H → Option (List Value)) := ⟨fun tm h => some [tg tm 2]⟩
/-! 45 cloakroom/item.Check -/
noncomputable def r45_0 : CodeT := fun call _ tm ds h K =>
  kA (some (.rw (Value.cells (tg tm 0)).toList, ptrTo h.next)) ds h (fun v0 ds h =>
  K .norm (T.set (T.set tm 1 v0) 2 (.int .i64 (0))) ds h)
noncomputable def r45_1 : CodeT := fun call _ tm ds h K =>
  kO (fieldPtr 0 (tg tm 1)) ds h (fun v0 ds h =>
  kO (loadOne h v0) ds h (fun v1 ds h =>
  kO (lenStr v1) ds h (fun v2 ds h =>
  kO (binV Try.prog .lss 3 true v2 (.int .i64 (1))) ds h (fun v3 ds h =>
  K .norm (T.set tm 3 v3) ds h))))
noncomputable def r45_2 : CodeT := fun call _ tm ds h K =>
  kO (fieldPtr 0 (tg tm 1)) ds h (fun v0 ds h =>
  kO (loadOne h v0) ds h (fun v1 ds h =>
  kO (lenStr v1) ds h (fun v2 ds h =>
  kO (binV Try.prog .gtr 3 true v2 (.int .i64 (32))) ds h (fun v3 ds h =>
  K .norm (T.set tm 3 v3) ds h))))
noncomputable def r45_3 : CodeT := fun call _ tm ds h K =>
  kO (fieldPtr 1 (tg tm 1)) ds h (fun v0 ds h =>
  kO (loadOne h v0) ds h (fun v1 ds h =>
  kO (lenStr v1) ds h (fun v2 ds h =>
  kO (binV Try.prog .gtr 3 true v2 (.int .i64 (512))) ds h (fun v3 ds h =>
  K .norm (T.set tm 3 v3) ds h))))
noncomputable def r45_4 : CodeT := fun call _ tm ds h K =>
  K .norm (T.set tm 2 (.int .i64 (3))) ds h
noncomputable def r45_5 : CodeT := fun call _ tm ds h K =>
  kO (fieldPtr 3 (tg tm 1)) ds h (fun v0 ds h =>
  kO (loadOne h v0) ds h (fun v1 ds h =>
  call 52 [v1] h (fun v h => (fun v2 ds h =>
  kO (unV .not v2) ds h (fun v3 ds h =>
  K .norm (T.set tm 16 v3) ds h)) v ds h)))
noncomputable def r45_6 : CodeT := fun call _ tm ds h K =>
  K .norm (T.set tm 2 (.int .i64 (2))) ds h
noncomputable def r45_7 : CodeT := fun call _ tm ds h K =>
  K .norm (T.set tm 2 (.int .i64 (0))) ds h
noncomputable def c45 : Box CodeT := ⟨seqC ⟨r45_0⟩ ⟨seqC ⟨blockC 0 ⟨seqC ⟨seqC ⟨r45_1⟩ ⟨condC ⟨fun _ tm => tg tm 3⟩ skipC ⟨seqC ⟨r45_2⟩ ⟨condC ⟨fun _ tm => tg tm 3⟩ skipC ⟨r45_3⟩⟩⟩⟩⟩ ⟨condC ⟨fun _ tm => tg tm 3⟩ ⟨seqC ⟨r45_4⟩ retC⟩ ⟨seqC ⟨r45_5⟩ ⟨condC ⟨fun _ tm => tg tm 16⟩ ⟨seqC ⟨r45_6⟩ retC⟩ skipC⟩⟩⟩⟩⟩ ⟨seqC ⟨r45_7⟩ retC⟩⟩⟩
noncomputable def q45 : Box (T Value → H → Option (List Value)) := ⟨fun tm h => some [tg tm 2]⟩
/-! 46 cloakroom/cloakroomref09.Moment -/
/-! 47 cloakroom/code.Read -/
noncomputable def r47_0 : CodeT := fun call _ tm ds h K =>
  K .norm (T.set (T.set (T.set tm 2 (.int .u64 (0))) 3 (.int .i64 (0))) 4 (.int .i64 (0))) ds h
noncomputable def r47_1 : CodeT := fun call _ tm ds h K =>
  K .norm (T.set tm 5 (.int .u64 (0))) ds h
noncomputable def r47_2 : CodeT := fun call _ tm ds h K =>
  kO (lenSl (tg tm 0)) ds h (fun v1 ds h =>
  K .norm (T.set (T.set (T.set tm 8 (tg tm 0)) 9 v1) 10 (.int .i64 (0))) ds h)
noncomputable def r47_3 : CodeT := fun call _ tm ds h K =>
  kO (binV Try.prog .lss 3 false (tg tm 10) (tg tm 9)) ds h (fun v0 ds h =>
  K .norm (T.set tm 11 v0) ds h)
noncomputable def r47_4 : CodeT := fun call _ tm ds h K =>
  kO (indexSl 1 (tg tm 8) (tg tm 10)) ds h (fun v1 ds h =>
  kO (loadOne h v1) ds h (fun v2 ds h =>
  K .norm (T.set (T.set tm 6 (tg tm 10)) 7 v2) ds h))
noncomputable def r47_5 : CodeT := fun call _ tm ds h K =>
  kO (binV Try.prog .eql 3 true (tg tm 6) (.int .i64 (9))) ds h (fun v1 ds h =>
  gd (isB true v1) (fun k => kO (some (tg tm 7)) ds h (k)) ds h (fun v3 ds h =>
  gd (isB true v1) (fun k => kO (binV Try.prog .gtr 5 true v3 (.int .u8 (1))) ds h (k)) ds h (fun v4 ds h =>
  kO (pickV v1 v4 (.bool false)) ds h (fun v5 ds h =>
  K .norm (T.set tm 20 v5) ds h))))
noncomputable def r47_6 : CodeT := fun call _ tm ds h K =>
  kO (binV Try.prog .and 5 true (tg tm 7) (.int .u8 (127))) ds h (fun v2 ds h =>
  kO (toInt .u64 v2) ds h (fun v3 ds h =>
  kO (binV Try.prog .mul 3 true (.int .i64 (7)) (tg tm 6)) ds h (fun v5 ds h =>
  kO (binV Try.prog .shl 23 false v3 v5) ds h (fun v6 ds h =>
  kO (binV Try.prog .or 23 false (tg tm 5) v6) ds h (fun v7 ds h =>
  K .norm (T.set tm 5 v7) ds h)))))
noncomputable def r47_7 : CodeT := fun call _ tm ds h K =>
  kO (binV Try.prog .lss 5 true (tg tm 7) (.int .u8 (128))) ds h (fun v1 ds h =>
  K .norm (T.set tm 30 v1) ds h)
noncomputable def r47_8 : CodeT := fun call _ tm ds h K =>
  kO (binV Try.prog .eql 5 true (tg tm 7) (.int .u8 (0))) ds h (fun v1 ds h =>
  gd (isB true v1) (fun k => kO (some (tg tm 6)) ds h (k)) ds h (fun v3 ds h =>
  gd (isB true v1) (fun k => kO (binV Try.prog .gtr 3 true v3 (.int .i64 (0))) ds h (k)) ds h (fun v4 ds h =>
  kO (pickV v1 v4 (.bool false)) ds h (fun v5 ds h =>
  K .norm (T.set tm 36 v5) ds h))))
noncomputable def r47_9 : CodeT := fun call _ tm ds h K =>
  kO (binV Try.prog .add 3 true (tg tm 6) (.int .i64 (1))) ds h (fun v2 ds h =>
  K .norm (T.set (T.set (T.set tm 2 (tg tm 5)) 3 v2) 4 (.int .i64 (0))) ds h)
noncomputable def r47_10 : CodeT := fun call _ tm ds h K =>
  kO (binV Try.prog .add 3 true (tg tm 10) (.int .i64 (1))) ds h (fun v0 ds h =>
  K .norm (T.set tm 10 v0) ds h)
noncomputable def l47_11 : Box CodeT := ⟨seqC ⟨r47_3⟩ ⟨seqC ⟨condC ⟨fun _ tm => tg tm 11⟩ skipC (exitC 0)⟩ ⟨seqC ⟨blockC 1 ⟨seqC ⟨r47_4⟩ ⟨seqC ⟨seqC ⟨r47_5⟩ ⟨condC ⟨fun _ tm => tg tm 20⟩ (exitC 0) skipC⟩⟩ ⟨seqC ⟨r47_6⟩ ⟨seqC ⟨r47_7⟩ ⟨condC ⟨fun _ tm => tg tm 30⟩ ⟨seqC ⟨seqC ⟨r47_8⟩ ⟨condC ⟨fun _ tm => tg tm 36⟩ (exitC 0) skipC⟩⟩ ⟨seqC ⟨r47_9⟩ retC⟩⟩ skipC⟩⟩⟩⟩⟩⟩ ⟨r47_10⟩⟩⟩⟩
noncomputable def r47_11 : CodeT := fun call _ tm ds h K =>
  K .norm (T.set (T.set (T.set tm 2 (.int .u64 (0))) 3 (.int .i64 (0))) 4 (.int .i64 (8))) ds h
noncomputable def c47 : Box CodeT := ⟨seqC ⟨r47_0⟩ ⟨seqC ⟨r47_1⟩ ⟨seqC ⟨seqC ⟨r47_2⟩ ⟨blockC 0 (loopB l47_11)⟩⟩ ⟨seqC ⟨r47_11⟩ retC⟩⟩⟩⟩
noncomputable def q47 : Box (T Value → H → Option (List Value)) := ⟨fun tm h => some [tg tm 2, tg tm 3, tg tm 4]⟩
/-! 48 cloakroom/code.Cut -/
noncomputable def r48_0 : CodeT := fun call _ tm ds h K =>
  K .norm (T.set (T.set (T.set tm 2 (.string (strB []))) 3 (.slice none 0 0)) 4 (.int .i64 (0))) ds h
noncomputable def r48_1 : CodeT := fun call _ tm ds h K =>
  call 53 [(tg tm 0)] h (fun v h => (fun v1 ds h =>
  kO (tupNth 0 v1) ds h (fun v3 ds h =>
  kO (tupNth 1 v1) ds h (fun v4 ds h =>
  kO (tupNth 2 v1) ds h (fun v5 ds h =>
  K .norm (T.set (T.set (T.set tm 5 v3) 6 v4) 7 v5) ds h)))) v ds h)
noncomputable def r48_2 : CodeT := fun call _ tm ds h0 K =>
  (fun (b0 : Nat) (h : H) =>
  kO (bytesStr h (tg tm 5)) ds h (fun v1 ds h =>
  call 54 [(tg tm 6)] h (fun v h => (fun v3 ds h =>
  andB (hO (bytesStr h (tg tm 5)) v1 true) (K .norm (T.set (T.set (T.set tm 2 v1) 3 v3) 4 (tg tm 7)) ds h)) v ds h))) h0.next ⟨h0.objs, h0.next + 8⟩
noncomputable def c48 : Box CodeT := ⟨seqC ⟨r48_0⟩ ⟨seqC ⟨r48_1⟩ ⟨seqC ⟨r48_2⟩ retC⟩⟩⟩
noncomputable def q48 : Box (T Value → H → Option (List Value)) := ⟨fun tm h => some [tg tm 2, tg tm 3, tg tm 4]⟩
/-! 49 cloakroom/cloakroomref01.Read -/
/-! 50 cloakroom/cloakroomref17.items -/
/-! 51 slices.IndexFunc[[]cloakroom/api.Item,cloakroom/api.Item] -/
noncomputable def r51_0 : CodeT := fun call _ tm ds h K =>
  K .norm (T.set tm 4 (.int .i64 (0))) ds h
noncomputable def r51_1 : CodeT := fun call _ tm ds h K =>
  kO (lenSl (tg tm 0)) ds h (fun v1 ds h =>
  K .norm (T.set (T.set tm 7 v1) 8 (.int .i64 (0))) ds h)
noncomputable def r51_2 : CodeT := fun call _ tm ds h K =>
  kO (binV Try.prog .lss 3 false (tg tm 8) (tg tm 7)) ds h (fun v0 ds h =>
  K .norm (T.set tm 9 v0) ds h)
noncomputable def r51_3 : CodeT := fun call _ tm ds h K =>
  K .norm (T.set tm 5 (tg tm 8)) ds h
noncomputable def r51_4 : CodeT := fun call _ tm ds h K =>
  kO (indexSl 5 (tg tm 0) (tg tm 5)) ds h (fun v3 ds h =>
  kO (loadAgg 5 h v3) ds h (fun v4 ds h =>
  goCall call (funcArgs (tg tm 1) [v4]) ds h (fun v5 ds h =>
  K .norm (T.set tm 16 v5) ds h)))
noncomputable def r51_5 : CodeT := fun call _ tm ds h K =>
  K .norm (T.set tm 4 (tg tm 5)) ds h
noncomputable def r51_6 : CodeT := fun call _ tm ds h K =>
  kO (binV Try.prog .add 3 true (tg tm 8) (.int .i64 (1))) ds h (fun v0 ds h =>
  K .norm (T.set tm 8 v0) ds h)
noncomputable def l51_7 : Box CodeT := ⟨seqC ⟨r51_2⟩ ⟨seqC ⟨condC ⟨fun _ tm => tg tm 9⟩ skipC (exitC 0)⟩ ⟨seqC ⟨blockC 1 ⟨seqC ⟨r51_3⟩ ⟨seqC ⟨r51_4⟩ ⟨condC ⟨fun _ tm => tg tm 16⟩ ⟨seqC ⟨r51_5⟩ retC⟩ skipC⟩⟩⟩⟩ ⟨r51_6⟩⟩⟩⟩
noncomputable def r51_7 : CodeT := fun call _ tm ds h K =>
  K .norm (T.set tm 4 (.int .i64 (-1))) ds h
noncomputable def c51 : Box CodeT := ⟨seqC ⟨r51_0⟩ ⟨seqC ⟨seqC ⟨r51_1⟩ ⟨blockC 0 (loopB l51_7)⟩⟩ ⟨seqC ⟨r51_7⟩ retC⟩⟩⟩
noncomputable def q51 : Box (T Value → H → Option (List Value)) := ⟨fun tm h => some [tg tm 4]⟩
/-! 52 cloakroom/item.moment -/
noncomputable def r52_0 : CodeT := fun call _ tm ds h K =>
  K .norm (T.set tm 2 (.bool false)) ds h
noncomputable def r52_1 : CodeT := fun call _ tm ds h K =>
  kO (binV Try.prog .geq 3 true (tg tm 0) (.int .i64 (0))) ds h (fun v1 ds h =>
  gd (isB true v1) (fun k => kO (some (tg tm 0)) ds h (k)) ds h (fun v3 ds h =>
  gd (isB true v1) (fun k => kO (binV Try.prog .leq 3 true v3 (.int .i64 (1099511627776))) ds h (k)) ds h (fun v4 ds h =>
  kO (pickV v1 v4 (.bool false)) ds h (fun v5 ds h =>
  K .norm (T.set tm 2 v5) ds h))))
noncomputable def c52 : Box CodeT := ⟨seqC ⟨r52_0⟩ ⟨seqC ⟨r52_1⟩ retC⟩⟩
noncomputable def q52 : Box (T Value → H → Option (List Value)) := ⟨fun tm h => some [tg tm 2]⟩
/-! 53 cloakroom/code.cut -/
noncomputable def r53_0 : CodeT := fun call _ tm ds h K =>
  K .norm (T.set (T.set (T.set tm 2 (.slice none 0 0)) 3 (.slice none 0 0)) 4 (.int .i64 (0))) ds h
noncomputable def r53_1 : CodeT := fun call _ tm ds h K =>
  call 47 [(tg tm 0)] h (fun v h => (fun v1 ds h =>
  kO (tupNth 0 v1) ds h (fun v3 ds h =>
  kO (tupNth 1 v1) ds h (fun v4 ds h =>
  kO (tupNth 2 v1) ds h (fun v5 ds h =>
  K .norm (T.set (T.set (T.set tm 5 v3) 6 v4) 7 v5) ds h)))) v ds h)
noncomputable def r53_2 : CodeT := fun call _ tm ds h K => (⟨opStep ⟨fun call env tm ds h K => kO (some (tg tm 7)) ds h K⟩ ⟨fun v tm => tm⟩ ⟨fun env tm => true⟩
  ⟨opStep ⟨fun call env tm ds h K => kO (binV Try.prog .neq 30 true (nthD 0 env) (.int .i64 (0))) ds h K⟩ ⟨fun v tm => tm⟩ ⟨fun env tm => true⟩
  ⟨opStep ⟨fun call env tm ds h K => kO (some (nthD 0 env)) ds h K⟩ ⟨fun v tm => tm⟩ ⟨fun env tm => true⟩
  ⟨opStep ⟨fun call env tm ds h K => kO (some (tg tm 5)) ds h K⟩ ⟨fun v tm => tm⟩ ⟨fun env tm => isB false (nthD 0 env)⟩
  ⟨opStep ⟨fun call env tm ds h K => kO (some (tg tm 0)) ds h K⟩ ⟨fun v tm => tm⟩ ⟨fun env tm => isB false (nthD 1 env)⟩
  ⟨opStep ⟨fun call env tm ds h K => kO (lenSl (nthD 0 env)) ds h K⟩ ⟨fun v tm => tm⟩ ⟨fun env tm => isB false (nthD 2 env)⟩
  ⟨opStep ⟨fun call env tm ds h K => kO (some (tg tm 6)) ds h K⟩ ⟨fun v tm => tm⟩ ⟨fun env tm => isB false (nthD 3 env)⟩
  ⟨opStep ⟨fun call env tm ds h K => kO (binV Try.prog .sub 3 false (nthD 1 env) (nthD 0 env)) ds h K⟩ ⟨fun v tm => tm⟩ ⟨fun env tm => isB false (nthD 4 env)⟩
  ⟨opStep ⟨fun call env tm ds h K => kO (toInt .u64 (nthD 0 env)) ds h K⟩ ⟨fun v tm => tm⟩ ⟨fun env tm => isB false (nthD 5 env)⟩
  ⟨opStep ⟨fun call env tm ds h K => kO (binV Try.prog .gtr 23 false (nthD 5 env) (nthD 0 env)) ds h K⟩ ⟨fun v tm => tm⟩ ⟨fun env tm => isB false (nthD 6 env)⟩
  ⟨opStep ⟨fun call env tm ds h K => kO (pickV (nthD 7 env) (.bool true) (nthD 0 env)) ds h K⟩ ⟨fun v tm => (T.set tm 24 v)⟩ ⟨fun env tm => true⟩
  ⟨fun _ _ tm ds h K => K .norm tm ds h⟩⟩⟩⟩⟩⟩⟩⟩⟩⟩⟩⟩ : Box OpsT).f call [] tm ds h K
noncomputable def r53_3 : CodeT := fun call _ tm ds h K =>
  K .norm (T.set (T.set (T.set tm 2 (.slice none 0 0)) 3 (.slice none 0 0)) 4 (.int .i64 (8))) ds h
noncomputable def r53_4 : CodeT := fun call _ tm ds h0 K =>
  (fun (b0 : Nat) (h : H) =>
  kO (sliceSl 1 (tg tm 0) (some (tg tm 6)) none none) ds h (fun v2 ds h =>
  kO (sliceSl 1 v2 none (some (tg tm 5)) none) ds h (fun v4 ds h =>
  kO (toInt .i64 (tg tm 5)) ds h (fun v8 ds h =>
  kO (binV Try.prog .add 3 false (tg tm 6) v8) ds h (fun v9 ds h =>
  kO (sliceSl 1 (tg tm 0) (some v9) none none) ds h (fun v10 ds h =>
  K .norm (T.set (T.set (T.set tm 2 v4) 3 v10) 4 (.int .i64 (0))) ds h)))))) h0.next ⟨h0.objs, h0.next + 14⟩
noncomputable def c53 : Box CodeT := ⟨seqC ⟨r53_0⟩ ⟨seqC ⟨r53_1⟩ ⟨seqC ⟨seqC ⟨r53_2⟩ ⟨condC ⟨fun _ tm => tg tm 24⟩ ⟨seqC ⟨r53_3⟩ retC⟩ skipC⟩⟩ ⟨seqC ⟨r53_4⟩ retC⟩⟩⟩⟩
noncomputable def q53 : Box (T Value → H → Option (List Value)) := ⟨fun tm h => some [tg tm 2, tg tm 3, tg tm 4]⟩
/-! 54 bytes.Clone -/
noncomputable def r54_0 : CodeT := fun call _ tm ds h K =>
  K .norm (T.set tm 2 (.slice none 0 0)) ds h
noncomputable def r54_1 : CodeT := fun call _ tm ds h K =>
  kO (binV Try.prog .eql 29 true (tg tm 0) (.slice none 0 0)) ds h (fun v1 ds h =>
  K .norm (T.set tm 4 v1) ds h)
noncomputable def r54_2 : CodeT := fun call _ tm ds h K =>
  K .norm (T.set tm 2 (.slice none 0 0)) ds h
noncomputable def r54_3 : CodeT := fun call _ tm ds h K =>
  kA (mkLit 0 h.next (fill (repl [(.int .u8 (0))] 0) (pl 1) [])) ds h (fun v0 ds h =>
  kH (appendV 1 1 h v0 (tg tm 0)) ds (fun v2 ds h =>
  K .norm (T.set tm 2 v2) ds h))
noncomputable def c54 : Box CodeT := ⟨seqC ⟨r54_0⟩ ⟨seqC ⟨seqC ⟨r54_1⟩ ⟨condC ⟨fun _ tm => tg tm 4⟩ ⟨seqC ⟨r54_2⟩ retC⟩ skipC⟩⟩ ⟨seqC ⟨r54_3⟩ retC⟩⟩⟩
noncomputable def q54 : Box (T Value → H → Option (List Value)) := ⟨fun tm h => some [tg tm 2]⟩
/-! 55 cloakroom/cloakroomref01.Cut -/
end Go.Proofs.Ytpaolklbogakgaa
