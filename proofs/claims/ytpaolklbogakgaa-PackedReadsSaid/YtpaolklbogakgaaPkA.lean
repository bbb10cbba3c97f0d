import Derived.Test.YtpaolklbogakgaaEvV
import Derived.KernelRfl
import Derived.Test.YtpaolklbogakgaaRows
set_option linter.unusedVariables false
namespace Go.Proofs.Ytpaolklbogakgaa
open Go.Ev
def masks : List Nat := [0, 0, 0, 383, 4195325, 1648319, 4311752695, 536936957, 4398047576079, 8532543, 4255, 274886297597, 8598325245, 31, 7, 2417851639299627093598239, 2013265967, 13, 1223, 11440979185133664387406296579253639856135340063, 19503373574251772171518399, 455, 2147623923, 41700713373270422443459610422648819, 4438660083, 17592219615475, 17594400636991, 137440002619, 2003, 45, 5, 199, 5, 4456455, 45, 5, 5, 21, 65597, 65597, 5, 2251834173505533, 5, 19, 7, 65551, 5, 69794271229, 253, 81064793296863485, 590331878738148458483, 66483, 5, 16777469, 21, 67109885, 0, 0, 0, 0, 0, 0, 0, 0, 0, 0, 0, 0, 0, 0, 0, 0, 0]
def outside : List (Nat × XK) := []
abbrev NG : Nat := 0
/-! 4 cloakroom/cloakroomlaw17.PackedReads -/
noncomputable def r4_0 : CodeT := fun call _ tm ds h K =>
  K .norm (T.set tm 2 (.bool false)) ds h
noncomputable def r4_1 : CodeT := fun call _ tm ds h K => (⟨opStep ⟨fun call env tm ds h K => kO (some (tg tm 0)) ds h K⟩ ⟨fun v tm => tm⟩ ⟨fun env tm => true⟩
  ⟨opStep ⟨fun call env tm ds h K => kO (lenSl (nthD 0 env)) ds h K⟩ ⟨fun v tm => tm⟩ ⟨fun env tm => true⟩
  ⟨opStep ⟨fun call env tm ds h K => kO (binV Try.prog .gtr 3 true (nthD 0 env) (.int .i64 (6000))) ds h K⟩ ⟨fun v tm => tm⟩ ⟨fun env tm => true⟩
  ⟨opStep ⟨fun call env tm ds h K => kO (some (nthD 0 env)) ds h K⟩ ⟨fun v tm => tm⟩ ⟨fun env tm => true⟩
  ⟨opStep ⟨fun call env tm ds h K => kO (some (tg tm 0)) ds h K⟩ ⟨fun v tm => tm⟩ ⟨fun env tm => isB true (nthD 0 env)⟩
  ⟨opStep ⟨fun call env tm ds h K => kO (lenSl (nthD 0 env)) ds h K⟩ ⟨fun v tm => tm⟩ ⟨fun env tm => isB true (nthD 1 env)⟩
  ⟨opStep ⟨fun call env tm ds h K => kO (binV Try.prog .leq 3 true (nthD 0 env) (.int .i64 (16384))) ds h K⟩ ⟨fun v tm => tm⟩ ⟨fun env tm => isB true (nthD 2 env)⟩
  ⟨opStep ⟨fun call env tm ds h K => kO (pickV (nthD 3 env) (nthD 0 env) (.bool false)) ds h K⟩ ⟨fun v tm => tm⟩ ⟨fun env tm => true⟩
  ⟨opStep ⟨fun call env tm ds h K => kO (some (nthD 0 env)) ds h K⟩ ⟨fun v tm => tm⟩ ⟨fun env tm => true⟩
  ⟨opStep ⟨fun call env tm ds h K => kO (some (tg tm 0)) ds h K⟩ ⟨fun v tm => tm⟩ ⟨fun env tm => isB false (nthD 0 env)⟩
  ⟨opStep ⟨fun call env tm ds h K => kO (lenSl (nthD 0 env)) ds h K⟩ ⟨fun v tm => tm⟩ ⟨fun env tm => isB false (nthD 1 env)⟩
  ⟨opStep ⟨fun call env tm ds h K => kO (binV Try.prog .gtr 3 true (nthD 0 env) (.int .i64 (17000))) ds h K⟩ ⟨fun v tm => tm⟩ ⟨fun env tm => isB false (nthD 2 env)⟩
  ⟨opStep ⟨fun call env tm ds h K => kO (pickV (nthD 3 env) (.bool true) (nthD 0 env)) ds h K⟩ ⟨fun v tm => (T.set tm 22 v)⟩ ⟨fun env tm => true⟩
  ⟨fun _ _ tm ds h K => K .norm tm ds h⟩⟩⟩⟩⟩⟩⟩⟩⟩⟩⟩⟩⟩⟩ : Box OpsT).f call [] tm ds h K
noncomputable def r4_2 : CodeT := fun call _ tm ds h K =>
  K .norm (T.set tm 2 (.bool true)) ds h
noncomputable def r4_3 : CodeT := fun call _ tm ds h K =>
  K .norm (T.set tm 3 (.slice none 0 0)) ds h
noncomputable def r4_4 : CodeT := fun call _ tm ds h K =>
  kH (appendV 1 1 h (tg tm 3) (tg tm 0)) ds (fun v2 ds h =>
  K .norm (T.set tm 3 v2) ds h)
noncomputable def r4_5 : CodeT := fun call _ tm ds h K =>
  call 11 [(tg tm 3)] h (fun v h => (fun v1 ds h =>
  kO (tupNth 0 v1) ds h (fun v3 ds h =>
  kO (tupNth 1 v1) ds h (fun v4 ds h =>
  kO (tupNth 2 v1) ds h (fun v5 ds h =>
  kA (some (.rw [(.int .u8 (0)), (.int .u8 (0)), (.int .u8 (0)), (.slice none 0 0), (.int .u64 (0)), (.bool false), (.string (strB []))], ptrTo h.next)) ds h (fun v6 ds h =>
  kH (withV undef (storeV 7 h v6 v3)) ds (fun v7 ds h =>
  K .norm (T.set (T.set (T.set tm 4 v6) 5 v4) 6 v5) ds h)))))) v ds h)
noncomputable def r4_6 : CodeT := fun call _ tm ds h K =>
  call 12 [(tg tm 0)] h (fun v h => (fun v1 ds h =>
  kO (tupNth 0 v1) ds h (fun v3 ds h =>
  kO (tupNth 1 v1) ds h (fun v4 ds h =>
  kO (tupNth 2 v1) ds h (fun v5 ds h =>
  kA (some (.rw [(.int .u8 (0)), (.int .u8 (0)), (.int .u8 (0)), (.slice none 0 0), (.int .u64 (0)), (.bool false), (.string (strB []))], ptrTo h.next)) ds h (fun v6 ds h =>
  kH (withV undef (storeV 7 h v6 v3)) ds (fun v7 ds h =>
  K .norm (T.set (T.set (T.set tm 7 v6) 8 v4) 9 v5) ds h)))))) v ds h)
noncomputable def r4_7 : CodeT := fun call _ tm ds h K => (⟨opStep ⟨fun call env tm ds h K => kO (loadAgg 7 h (tg tm 4)) ds h K⟩ ⟨fun v tm => tm⟩ ⟨fun env tm => true⟩
  ⟨opStep ⟨fun call env tm ds h K => kO (loadAgg 7 h (tg tm 7)) ds h K⟩ ⟨fun v tm => tm⟩ ⟨fun env tm => true⟩
  ⟨opStep ⟨fun call env tm ds h K => call 13 [(nthD 1 env), (nthD 0 env)] h (fun v h => (K) v ds h)⟩ ⟨fun v tm => tm⟩ ⟨fun env tm => true⟩
  ⟨opStep ⟨fun call env tm ds h K => kO (some (nthD 0 env)) ds h K⟩ ⟨fun v tm => tm⟩ ⟨fun env tm => true⟩
  ⟨opStep ⟨fun call env tm ds h K => kO (some (tg tm 5)) ds h K⟩ ⟨fun v tm => tm⟩ ⟨fun env tm => isB true (nthD 0 env)⟩
  ⟨opStep ⟨fun call env tm ds h K => kO (some (tg tm 8)) ds h K⟩ ⟨fun v tm => tm⟩ ⟨fun env tm => isB true (nthD 1 env)⟩
  ⟨opStep ⟨fun call env tm ds h K => kO (binV Try.prog .eql 3 false (nthD 1 env) (nthD 0 env)) ds h K⟩ ⟨fun v tm => tm⟩ ⟨fun env tm => isB true (nthD 2 env)⟩
  ⟨opStep ⟨fun call env tm ds h K => kO (pickV (nthD 3 env) (nthD 0 env) (.bool false)) ds h K⟩ ⟨fun v tm => tm⟩ ⟨fun env tm => true⟩
  ⟨opStep ⟨fun call env tm ds h K => kO (some (nthD 0 env)) ds h K⟩ ⟨fun v tm => tm⟩ ⟨fun env tm => true⟩
  ⟨opStep ⟨fun call env tm ds h K => kO (some (tg tm 6)) ds h K⟩ ⟨fun v tm => tm⟩ ⟨fun env tm => isB true (nthD 0 env)⟩
  ⟨opStep ⟨fun call env tm ds h K => kO (some (tg tm 9)) ds h K⟩ ⟨fun v tm => tm⟩ ⟨fun env tm => isB true (nthD 1 env)⟩
  ⟨opStep ⟨fun call env tm ds h K => kO (binV Try.prog .eql 3 false (nthD 1 env) (nthD 0 env)) ds h K⟩ ⟨fun v tm => tm⟩ ⟨fun env tm => isB true (nthD 2 env)⟩
  ⟨opStep ⟨fun call env tm ds h K => kO (pickV (nthD 3 env) (nthD 0 env) (.bool false)) ds h K⟩ ⟨fun v tm => tm⟩ ⟨fun env tm => true⟩
  ⟨opStep ⟨fun call env tm ds h K => kO (some (nthD 0 env)) ds h K⟩ ⟨fun v tm => tm⟩ ⟨fun env tm => true⟩
  ⟨opStep ⟨fun call env tm ds h K => kO (some (tg tm 3)) ds h K⟩ ⟨fun v tm => tm⟩ ⟨fun env tm => isB true (nthD 0 env)⟩
  ⟨opStep ⟨fun call env tm ds h K => kO (bytesStr h (nthD 0 env)) ds h K⟩ ⟨fun v tm => tm⟩ ⟨fun env tm => isB true (nthD 1 env)⟩
  ⟨opStep ⟨fun call env tm ds h K => kO (some (tg tm 0)) ds h K⟩ ⟨fun v tm => tm⟩ ⟨fun env tm => isB true (nthD 2 env)⟩
  ⟨opStep ⟨fun call env tm ds h K => kO (bytesStr h (nthD 0 env)) ds h K⟩ ⟨fun v tm => tm⟩ ⟨fun env tm => isB true (nthD 3 env)⟩
  ⟨opStep ⟨fun call env tm ds h K => kO (binV Try.prog .eql 9 false (nthD 2 env) (nthD 0 env)) ds h K⟩ ⟨fun v tm => tm⟩ ⟨fun env tm => isB true (nthD 4 env)⟩
  ⟨opStep ⟨fun call env tm ds h K => kO (pickV (nthD 5 env) (nthD 0 env) (.bool false)) ds h K⟩ ⟨fun v tm => tm⟩ ⟨fun env tm => true⟩
  ⟨opStep ⟨fun call env tm ds h K => kO (some (nthD 0 env)) ds h K⟩ ⟨fun v tm => (T.set tm 2 v)⟩ ⟨fun env tm => true⟩
  ⟨fun _ _ tm ds h K => K .norm tm ds h⟩⟩⟩⟩⟩⟩⟩⟩⟩⟩⟩⟩⟩⟩⟩⟩⟩⟩⟩⟩⟩⟩ : Box OpsT).f call [] tm ds h K
noncomputable def c4 : Box CodeT := ⟨seqC ⟨r4_0⟩ ⟨seqC ⟨seqC ⟨r4_1⟩ ⟨condC ⟨fun _ tm => tg tm 22⟩ ⟨seqC ⟨r4_2⟩ retC⟩ skipC⟩⟩ ⟨seqC ⟨r4_3⟩ ⟨seqC ⟨r4_4⟩ ⟨seqC ⟨r4_5⟩ ⟨seqC ⟨r4_6⟩ ⟨seqC ⟨r4_7⟩ retC⟩⟩⟩⟩⟩⟩⟩
noncomputable def q4 : Box (T Value → H → Option (List Value)) := ⟨fun tm h => some [tg tm 2]⟩
/-! 11 cloakroom/packed.Read -/
noncomputable def r11_0 : CodeT := fun call _ tm ds h K =>
  kA (some (.rw [(.int .u8 (0)), (.int .u8 (0)), (.int .u8 (0)), (.slice none 0 0), (.int .u64 (0)), (.bool false), (.string (strB []))], ptrTo h.next)) ds h (fun v0 ds h =>
  K .norm (T.set (T.set (T.set tm 2 v0) 3 (.int .i64 (0))) 4 (.int .i64 (0))) ds h)
noncomputable def r11_1 : CodeT := fun call _ tm ds h K =>
  call 22 [(.int .u8 (178)), (tg tm 0)] h (fun v h => (fun v1 ds h =>
  kO (tupNth 0 v1) ds h (fun v3 ds h =>
  kO (tupNth 1 v1) ds h (fun v4 ds h =>
  kO (tupNth 2 v1) ds h (fun v5 ds h =>
  kO (tupNth 3 v1) ds h (fun v6 ds h =>
  K .norm (T.set (T.set (T.set (T.set tm 5 v3) 6 v4) 7 v5) 8 v6) ds h))))) v ds h)
noncomputable def r11_2 : CodeT := fun call _ tm ds h K =>
  kO (binV Try.prog .neq 30 true (tg tm 8) (.int .i64 (0))) ds h (fun v1 ds h =>
  gd (isB false v1) (fun k => kO (some (tg tm 7)) ds h (k)) ds h (fun v3 ds h =>
  gd (isB false v1) (fun k => kO (binV Try.prog .eql 3 true v3 (.int .i64 (0))) ds h (k)) ds h (fun v4 ds h =>
  kO (pickV v1 (.bool true) v4) ds h (fun v5 ds h =>
  K .norm (T.set tm 23 v5) ds h))))
noncomputable def r11_3 : CodeT := fun call _ tm ds h K =>
  kO (aggO (fill [(.int .u8 (0)), (.int .u8 (0)), (.int .u8 (0)), (.slice none 0 0), (.int .u64 (0)), (.bool false), (.string (strB []))] (plc [(0, 1), (1, 1), (2, 3), (5, 1), (6, 1)]) [])) ds h (fun v0 ds h =>
  kH (withV undef (storeV 7 h (tg tm 2) v0)) ds (fun v2 ds h =>
  K .norm (T.set (T.set tm 3 (.int .i64 (0))) 4 (tg tm 8)) ds h))
noncomputable def r11_4 : CodeT := fun call _ tm ds h K =>
  call 23 [(tg tm 5), (tg tm 6)] h (fun v h => (fun v2 ds h =>
  kO (tupNth 0 v2) ds h (fun v4 ds h =>
  kO (tupNth 1 v2) ds h (fun v5 ds h =>
  kA (some (.rw [(.int .u8 (0)), (.int .u8 (0)), (.int .u8 (0)), (.slice none 0 0), (.int .u64 (0)), (.bool false), (.string (strB []))], ptrTo h.next)) ds h (fun v6 ds h =>
  kH (withV undef (storeV 7 h v6 v4)) ds (fun v7 ds h =>
  K .norm (T.set (T.set tm 9 v6) 10 v5) ds h))))) v ds h)
noncomputable def r11_5 : CodeT := fun call _ tm ds h K => (⟨opStep ⟨fun call env tm ds h K => kO (some (tg tm 10)) ds h K⟩ ⟨fun v tm => tm⟩ ⟨fun env tm => true⟩
  ⟨opStep ⟨fun call env tm ds h K => kO (unV .not (nthD 0 env)) ds h K⟩ ⟨fun v tm => tm⟩ ⟨fun env tm => true⟩
  ⟨opStep ⟨fun call env tm ds h K => kO (some (nthD 0 env)) ds h K⟩ ⟨fun v tm => tm⟩ ⟨fun env tm => true⟩
  ⟨opStep ⟨fun call env tm ds h K => kO (loadAgg 7 h (tg tm 9)) ds h K⟩ ⟨fun v tm => tm⟩ ⟨fun env tm => isB false (nthD 0 env)⟩
  ⟨opStep ⟨fun call env tm ds h K => call 15 [(nthD 0 env)] h (fun v h => (K) v ds h)⟩ ⟨fun v tm => tm⟩ ⟨fun env tm => isB false (nthD 1 env)⟩
  ⟨opStep ⟨fun call env tm ds h K => kO (binV Try.prog .neq 30 true (nthD 0 env) (.int .i64 (0))) ds h K⟩ ⟨fun v tm => tm⟩ ⟨fun env tm => isB false (nthD 2 env)⟩
  ⟨opStep ⟨fun call env tm ds h K => kO (pickV (nthD 3 env) (.bool true) (nthD 0 env)) ds h K⟩ ⟨fun v tm => (T.set tm 38 v)⟩ ⟨fun env tm => true⟩
  ⟨fun _ _ tm ds h K => K .norm tm ds h⟩⟩⟩⟩⟩⟩⟩⟩ : Box OpsT).f call [] tm ds h K
noncomputable def r11_6 : CodeT := fun call _ tm ds h K =>
  kO (aggO (fill [(.int .u8 (0)), (.int .u8 (0)), (.int .u8 (0)), (.slice none 0 0), (.int .u64 (0)), (.bool false), (.string (strB []))] (plc [(0, 1), (1, 1), (2, 3), (5, 1), (6, 1)]) [])) ds h (fun v0 ds h =>
  kH (withV undef (storeV 7 h (tg tm 2) v0)) ds (fun v1 ds h =>
  K .norm (T.set (T.set tm 3 (.int .i64 (0))) 4 (.int .i64 (8))) ds h))
noncomputable def r11_7 : CodeT := fun call _ tm ds h K =>
  kO (loadAgg 7 h (tg tm 9)) ds h (fun v0 ds h =>
  kH (withV undef (storeV 7 h (tg tm 2) v0)) ds (fun v2 ds h =>
  K .norm (T.set (T.set tm 3 (tg tm 7)) 4 (.int .i64 (0))) ds h))
noncomputable def c11 : Box CodeT := ⟨seqC ⟨r11_0⟩ ⟨seqC ⟨r11_1⟩ ⟨seqC ⟨seqC ⟨r11_2⟩ ⟨condC ⟨fun _ tm => tg tm 23⟩ ⟨seqC ⟨r11_3⟩ retC⟩ skipC⟩⟩ ⟨seqC ⟨r11_4⟩ ⟨seqC ⟨seqC ⟨r11_5⟩ ⟨condC ⟨fun _ tm => tg tm 38⟩ ⟨seqC ⟨r11_6⟩ retC⟩ skipC⟩⟩ ⟨seqC ⟨r11_7⟩ retC⟩⟩⟩⟩⟩⟩
noncomputable def q11 : Box (T Value → H → Option (List Value)) := ⟨fun tm h => (match loadAgg 7 h (tg tm 2) with | some v => (match (some [tg tm 3, tg tm 4] : Option (List Value)) with | some l => some (v :: l) | none => none) | none => none)⟩
/-! 12 cloakroom/cloakroomref17.Read -/
noncomputable def r12_0 : CodeT := fun call _ tm ds h K =>
  kA (some (.rw [(.int .u8 (0)), (.int .u8 (0)), (.int .u8 (0)), (.slice none 0 0), (.int .u64 (0)), (.bool false), (.string (strB []))], ptrTo h.next)) ds h (fun v0 ds h =>
  K .norm (T.set (T.set (T.set tm 2 v0) 3 (.int .i64 (0))) 4 (.int .i64 (0))) ds h)
noncomputable def r12_1 : CodeT := fun call _ tm ds h K =>
  call 24 [(.int .u8 (178)), (tg tm 0)] h (fun v h => (fun v1 ds h =>
  kO (tupNth 0 v1) ds h (fun v3 ds h =>
  kO (tupNth 1 v1) ds h (fun v4 ds h =>
  kO (tupNth 2 v1) ds h (fun v5 ds h =>
  kO (tupNth 3 v1) ds h (fun v6 ds h =>
  K .norm (T.set (T.set (T.set (T.set tm 5 v3) 6 v4) 7 v5) 8 v6) ds h))))) v ds h)
noncomputable def r12_2 : CodeT := fun call _ tm ds h K =>
  kO (binV Try.prog .neq 3 true (tg tm 8) (.int .i64 (0))) ds h (fun v1 ds h =>
  gd (isB false v1) (fun k => kO (some (tg tm 7)) ds h (k)) ds h (fun v3 ds h =>
  gd (isB false v1) (fun k => kO (binV Try.prog .eql 3 true v3 (.int .i64 (0))) ds h (k)) ds h (fun v4 ds h =>
  kO (pickV v1 (.bool true) v4) ds h (fun v5 ds h =>
  K .norm (T.set tm 23 v5) ds h))))
noncomputable def r12_3 : CodeT := fun call _ tm ds h K =>
  kO (aggO (fill [(.int .u8 (0)), (.int .u8 (0)), (.int .u8 (0)), (.slice none 0 0), (.int .u64 (0)), (.bool false), (.string (strB []))] (plc [(0, 1), (1, 1), (2, 3), (5, 1), (6, 1)]) [])) ds h (fun v0 ds h =>
  kH (withV undef (storeV 7 h (tg tm 2) v0)) ds (fun v2 ds h =>
  K .norm (T.set (T.set tm 3 (.int .i64 (0))) 4 (tg tm 8)) ds h))
noncomputable def r12_4 : CodeT := fun call _ tm ds h K =>
  call 25 [(tg tm 5), (tg tm 6)] h (fun v h => (fun v2 ds h =>
  kO (tupNth 0 v2) ds h (fun v4 ds h =>
  kO (tupNth 1 v2) ds h (fun v5 ds h =>
  kA (some (.rw [(.int .u8 (0)), (.int .u8 (0)), (.int .u8 (0)), (.slice none 0 0), (.int .u64 (0)), (.bool false), (.string (strB []))], ptrTo h.next)) ds h (fun v6 ds h =>
  kH (withV undef (storeV 7 h v6 v4)) ds (fun v7 ds h =>
  K .norm (T.set (T.set tm 9 v6) 10 v5) ds h))))) v ds h)
noncomputable def r12_5 : CodeT := fun call _ tm ds h K =>
  kO (unV .not (tg tm 10)) ds h (fun v1 ds h =>
  K .norm (T.set tm 33 v1) ds h)
noncomputable def r12_6 : CodeT := fun call _ tm ds h K =>
  kO (aggO (fill [(.int .u8 (0)), (.int .u8 (0)), (.int .u8 (0)), (.slice none 0 0), (.int .u64 (0)), (.bool false), (.string (strB []))] (plc [(0, 1), (1, 1), (2, 3), (5, 1), (6, 1)]) [])) ds h (fun v0 ds h =>
  kH (withV undef (storeV 7 h (tg tm 2) v0)) ds (fun v1 ds h =>
  K .norm (T.set (T.set tm 3 (.int .i64 (0))) 4 (.int .i64 (8))) ds h))
noncomputable def r12_7 : CodeT := fun call _ tm ds h K =>
  kO (loadAgg 7 h (tg tm 9)) ds h (fun v0 ds h =>
  kH (withV undef (storeV 7 h (tg tm 2) v0)) ds (fun v2 ds h =>
  K .norm (T.set (T.set tm 3 (tg tm 7)) 4 (.int .i64 (0))) ds h))
noncomputable def c12 : Box CodeT := ⟨seqC ⟨r12_0⟩ ⟨seqC ⟨r12_1⟩ ⟨seqC ⟨seqC ⟨r12_2⟩ ⟨condC ⟨fun _ tm => tg tm 23⟩ ⟨seqC ⟨r12_3⟩ retC⟩ skipC⟩⟩ ⟨seqC ⟨r12_4⟩ ⟨seqC ⟨seqC ⟨r12_5⟩ ⟨condC ⟨fun _ tm => tg tm 33⟩ ⟨seqC ⟨r12_6⟩ retC⟩ skipC⟩⟩ ⟨seqC ⟨r12_7⟩ retC⟩⟩⟩⟩⟩⟩
noncomputable def q12 : Box (T Value → H → Option (List Value)) := ⟨fun tm h => (match loadAgg 7 h (tg tm 2) with | some v => (match (some [tg tm 3, tg tm 4] : Option (List Value)) with | some l => some (v :: l) | none => none) | none => none)⟩
/-! 13 cloakroom/cloakroomref15.Same -/
noncomputable def r13_0 : CodeT := fun call _ tm ds h K =>
  kA (some (.rw (Value.cells (tg tm 0)).toList, ptrTo h.next)) ds h (fun v0 ds h =>
  kA (some (.rw (Value.cells (tg (T.set tm 2 v0) 1)).toList, ptrTo h.next)) ds h (fun v1 ds h =>
  K .norm (T.set (T.set (T.set tm 2 v0) 3 v1) 4 (.bool false)) ds h))
noncomputable def r13_1 : CodeT := fun call _ tm ds h K => (⟨opStep ⟨fun call env tm ds h K => kO (fieldPtr 0 (tg tm 2)) ds h K⟩ ⟨fun v tm => tm⟩ ⟨fun env tm => true⟩
  ⟨opStep ⟨fun call env tm ds h K => kO (loadOne h (nthD 0 env)) ds h K⟩ ⟨fun v tm => tm⟩ ⟨fun env tm => true⟩
  ⟨opStep ⟨fun call env tm ds h K => kO (fieldPtr 0 (tg tm 3)) ds h K⟩ ⟨fun v tm => tm⟩ ⟨fun env tm => true⟩
  ⟨opStep ⟨fun call env tm ds h K => kO (loadOne h (nthD 0 env)) ds h K⟩ ⟨fun v tm => tm⟩ ⟨fun env tm => true⟩
  ⟨opStep ⟨fun call env tm ds h K => kO (binV Try.prog .eql 5 false (nthD 2 env) (nthD 0 env)) ds h K⟩ ⟨fun v tm => tm⟩ ⟨fun env tm => true⟩
  ⟨opStep ⟨fun call env tm ds h K => kO (some (nthD 0 env)) ds h K⟩ ⟨fun v tm => tm⟩ ⟨fun env tm => true⟩
  ⟨opStep ⟨fun call env tm ds h K => kO (fieldPtr 1 (tg tm 2)) ds h K⟩ ⟨fun v tm => tm⟩ ⟨fun env tm => isB true (nthD 0 env)⟩
  ⟨opStep ⟨fun call env tm ds h K => kO (loadOne h (nthD 0 env)) ds h K⟩ ⟨fun v tm => tm⟩ ⟨fun env tm => isB true (nthD 1 env)⟩
  ⟨opStep ⟨fun call env tm ds h K => kO (fieldPtr 1 (tg tm 3)) ds h K⟩ ⟨fun v tm => tm⟩ ⟨fun env tm => isB true (nthD 2 env)⟩
  ⟨opStep ⟨fun call env tm ds h K => kO (loadOne h (nthD 0 env)) ds h K⟩ ⟨fun v tm => tm⟩ ⟨fun env tm => isB true (nthD 3 env)⟩
  ⟨opStep ⟨fun call env tm ds h K => kO (binV Try.prog .eql 5 false (nthD 2 env) (nthD 0 env)) ds h K⟩ ⟨fun v tm => tm⟩ ⟨fun env tm => isB true (nthD 4 env)⟩
  ⟨opStep ⟨fun call env tm ds h K => kO (pickV (nthD 5 env) (nthD 0 env) (.bool false)) ds h K⟩ ⟨fun v tm => tm⟩ ⟨fun env tm => true⟩
  ⟨opStep ⟨fun call env tm ds h K => kO (some (nthD 0 env)) ds h K⟩ ⟨fun v tm => tm⟩ ⟨fun env tm => true⟩
  ⟨opStep ⟨fun call env tm ds h K => kO (fieldPtr 2 (tg tm 2)) ds h K⟩ ⟨fun v tm => tm⟩ ⟨fun env tm => isB true (nthD 0 env)⟩
  ⟨opStep ⟨fun call env tm ds h K => kO (loadAgg 3 h (nthD 0 env)) ds h K⟩ ⟨fun v tm => tm⟩ ⟨fun env tm => isB true (nthD 1 env)⟩
  ⟨opStep ⟨fun call env tm ds h K => kO (fieldPtr 2 (tg tm 3)) ds h K⟩ ⟨fun v tm => tm⟩ ⟨fun env tm => isB true (nthD 2 env)⟩
  ⟨opStep ⟨fun call env tm ds h K => kO (loadAgg 3 h (nthD 0 env)) ds h K⟩ ⟨fun v tm => tm⟩ ⟨fun env tm => isB true (nthD 3 env)⟩
  ⟨opStep ⟨fun call env tm ds h K => call 26 [(nthD 2 env), (nthD 0 env)] h (fun v h => (K) v ds h)⟩ ⟨fun v tm => tm⟩ ⟨fun env tm => isB true (nthD 4 env)⟩
  ⟨opStep ⟨fun call env tm ds h K => kO (pickV (nthD 5 env) (nthD 0 env) (.bool false)) ds h K⟩ ⟨fun v tm => tm⟩ ⟨fun env tm => true⟩
  ⟨opStep ⟨fun call env tm ds h K => kO (some (nthD 0 env)) ds h K⟩ ⟨fun v tm => tm⟩ ⟨fun env tm => true⟩
  ⟨opStep ⟨fun call env tm ds h K => kO (fieldPtr 5 (tg tm 2)) ds h K⟩ ⟨fun v tm => tm⟩ ⟨fun env tm => isB true (nthD 0 env)⟩
  ⟨opStep ⟨fun call env tm ds h K => kO (loadOne h (nthD 0 env)) ds h K⟩ ⟨fun v tm => tm⟩ ⟨fun env tm => isB true (nthD 1 env)⟩
  ⟨opStep ⟨fun call env tm ds h K => kO (fieldPtr 5 (tg tm 3)) ds h K⟩ ⟨fun v tm => tm⟩ ⟨fun env tm => isB true (nthD 2 env)⟩
  ⟨opStep ⟨fun call env tm ds h K => kO (loadOne h (nthD 0 env)) ds h K⟩ ⟨fun v tm => tm⟩ ⟨fun env tm => isB true (nthD 3 env)⟩
  ⟨opStep ⟨fun call env tm ds h K => kO (binV Try.prog .eql 4 false (nthD 2 env) (nthD 0 env)) ds h K⟩ ⟨fun v tm => tm⟩ ⟨fun env tm => isB true (nthD 4 env)⟩
  ⟨opStep ⟨fun call env tm ds h K => kO (pickV (nthD 5 env) (nthD 0 env) (.bool false)) ds h K⟩ ⟨fun v tm => tm⟩ ⟨fun env tm => true⟩
  ⟨opStep ⟨fun call env tm ds h K => kO (some (nthD 0 env)) ds h K⟩ ⟨fun v tm => tm⟩ ⟨fun env tm => true⟩
  ⟨opStep ⟨fun call env tm ds h K => kO (fieldPtr 6 (tg tm 2)) ds h K⟩ ⟨fun v tm => tm⟩ ⟨fun env tm => isB true (nthD 0 env)⟩
  ⟨opStep ⟨fun call env tm ds h K => kO (loadOne h (nthD 0 env)) ds h K⟩ ⟨fun v tm => tm⟩ ⟨fun env tm => isB true (nthD 1 env)⟩
  ⟨opStep ⟨fun call env tm ds h K => kO (fieldPtr 6 (tg tm 3)) ds h K⟩ ⟨fun v tm => tm⟩ ⟨fun env tm => isB true (nthD 2 env)⟩
  ⟨opStep ⟨fun call env tm ds h K => kO (loadOne h (nthD 0 env)) ds h K⟩ ⟨fun v tm => tm⟩ ⟨fun env tm => isB true (nthD 3 env)⟩
  ⟨opStep ⟨fun call env tm ds h K => kO (binV Try.prog .eql 9 false (nthD 2 env) (nthD 0 env)) ds h K⟩ ⟨fun v tm => tm⟩ ⟨fun env tm => isB true (nthD 4 env)⟩
  ⟨opStep ⟨fun call env tm ds h K => kO (pickV (nthD 5 env) (nthD 0 env) (.bool false)) ds h K⟩ ⟨fun v tm => tm⟩ ⟨fun env tm => true⟩
  ⟨opStep ⟨fun call env tm ds h K => kO (some (nthD 0 env)) ds h K⟩ ⟨fun v tm => (T.set tm 4 v)⟩ ⟨fun env tm => true⟩
  ⟨fun _ _ tm ds h K => K .norm tm ds h⟩⟩⟩⟩⟩⟩⟩⟩⟩⟩⟩⟩⟩⟩⟩⟩⟩⟩⟩⟩⟩⟩⟩⟩⟩⟩⟩⟩⟩⟩⟩⟩⟩⟩⟩ : Box OpsT).f call [] tm ds h K
noncomputable def c13 : Box CodeT := ⟨seqC ⟨r13_0⟩ ⟨seqC ⟨r13_1⟩ retC⟩⟩
noncomputable def q13 : Box (T Value → H → Option (List Value)) := ⟨fun tm h => some [tg tm 4]⟩
/-! 15 cloakroom/words.Check -/
noncomputable def r15_0 : CodeT := fun call _ tm ds h K =>
  kA (some (.rw (Value.cells (tg tm 0)).toList, ptrTo h.next)) ds h (fun v0 ds h =>
  K .norm (T.set (T.set tm 1 v0) 2 (.int .i64 (0))) ds h)
noncomputable def r15_1 : CodeT := fun call _ tm ds h K =>
  K .norm (T.set tm 3 (.bool false)) ds h
noncomputable def r15_2 : CodeT := fun call _ tm ds h K =>
  kO (fieldPtr 0 (tg tm 1)) ds h (fun v0 ds h =>
  kO (loadOne h v0) ds h (fun v1 ds h =>
  kO (binV Try.prog .eql 5 true v1 (.int .u8 (1))) ds h (fun v2 ds h =>
  K .norm (T.set tm 4 v2) ds h)))
noncomputable def r15_3 : CodeT := fun call _ tm ds h K =>
  kO (fieldPtr 1 (tg tm 1)) ds h (fun v0 ds h =>
  kO (loadOne h v0) ds h (fun v1 ds h =>
  kO (fieldPtr 2 (tg tm 1)) ds h (fun v2 ds h =>
  kO (loadAgg 3 h v2) ds h (fun v3 ds h =>
  call 27 [v1, v3] h (fun v h => (fun v4 ds h =>
  K .norm (T.set tm 3 v4) ds h) v ds h)))))
noncomputable def r15_4 : CodeT := fun call _ tm ds h K => (⟨opStep ⟨fun call env tm ds h K => kO (fieldPtr 0 (tg tm 1)) ds h K⟩ ⟨fun v tm => tm⟩ ⟨fun env tm => true⟩
  ⟨opStep ⟨fun call env tm ds h K => kO (loadOne h (nthD 0 env)) ds h K⟩ ⟨fun v tm => tm⟩ ⟨fun env tm => true⟩
  ⟨opStep ⟨fun call env tm ds h K => kO (binV Try.prog .gtr 5 true (nthD 0 env) (.int .u8 (1))) ds h K⟩ ⟨fun v tm => tm⟩ ⟨fun env tm => true⟩
  ⟨opStep ⟨fun call env tm ds h K => kO (some (nthD 0 env)) ds h K⟩ ⟨fun v tm => tm⟩ ⟨fun env tm => true⟩
  ⟨opStep ⟨fun call env tm ds h K => kO (fieldPtr 0 (tg tm 1)) ds h K⟩ ⟨fun v tm => tm⟩ ⟨fun env tm => isB true (nthD 0 env)⟩
  ⟨opStep ⟨fun call env tm ds h K => kO (loadOne h (nthD 0 env)) ds h K⟩ ⟨fun v tm => tm⟩ ⟨fun env tm => isB true (nthD 1 env)⟩
  ⟨opStep ⟨fun call env tm ds h K => kO (binV Try.prog .leq 5 true (nthD 0 env) (.int .u8 (7))) ds h K⟩ ⟨fun v tm => tm⟩ ⟨fun env tm => isB true (nthD 2 env)⟩
  ⟨opStep ⟨fun call env tm ds h K => kO (pickV (nthD 3 env) (nthD 0 env) (.bool false)) ds h K⟩ ⟨fun v tm => tm⟩ ⟨fun env tm => true⟩
  ⟨opStep ⟨fun call env tm ds h K => kO (some (nthD 0 env)) ds h K⟩ ⟨fun v tm => (T.set tm 13 v)⟩ ⟨fun env tm => true⟩
  ⟨fun _ _ tm ds h K => K .norm tm ds h⟩⟩⟩⟩⟩⟩⟩⟩⟩⟩ : Box OpsT).f call [] tm ds h K
noncomputable def r15_5 : CodeT := fun call _ tm ds h K => (⟨opStep ⟨fun call env tm ds h K => kO (fieldPtr 1 (tg tm 1)) ds h K⟩ ⟨fun v tm => tm⟩ ⟨fun env tm => true⟩
  ⟨opStep ⟨fun call env tm ds h K => kO (loadOne h (nthD 0 env)) ds h K⟩ ⟨fun v tm => tm⟩ ⟨fun env tm => true⟩
  ⟨opStep ⟨fun call env tm ds h K => kO (binV Try.prog .eql 5 true (nthD 0 env) (.int .u8 (0))) ds h K⟩ ⟨fun v tm => tm⟩ ⟨fun env tm => true⟩
  ⟨opStep ⟨fun call env tm ds h K => kO (some (nthD 0 env)) ds h K⟩ ⟨fun v tm => tm⟩ ⟨fun env tm => true⟩
  ⟨opStep ⟨fun call env tm ds h K => kO (fieldPtr 2 (tg tm 1)) ds h K⟩ ⟨fun v tm => tm⟩ ⟨fun env tm => isB true (nthD 0 env)⟩
  ⟨opStep ⟨fun call env tm ds h K => kO (fieldPtr 0 (nthD 0 env)) ds h K⟩ ⟨fun v tm => tm⟩ ⟨fun env tm => isB true (nthD 1 env)⟩
  ⟨opStep ⟨fun call env tm ds h K => kO (loadOne h (nthD 0 env)) ds h K⟩ ⟨fun v tm => tm⟩ ⟨fun env tm => isB true (nthD 2 env)⟩
  ⟨opStep ⟨fun call env tm ds h K => kO (binV Try.prog .eql 5 true (nthD 0 env) (.int .u8 (0))) ds h K⟩ ⟨fun v tm => tm⟩ ⟨fun env tm => isB true (nthD 3 env)⟩
  ⟨opStep ⟨fun call env tm ds h K => kO (pickV (nthD 4 env) (nthD 0 env) (.bool false)) ds h K⟩ ⟨fun v tm => tm⟩ ⟨fun env tm => true⟩
  ⟨opStep ⟨fun call env tm ds h K => kO (some (nthD 0 env)) ds h K⟩ ⟨fun v tm => tm⟩ ⟨fun env tm => true⟩
  ⟨opStep ⟨fun call env tm ds h K => kO (fieldPtr 2 (tg tm 1)) ds h K⟩ ⟨fun v tm => tm⟩ ⟨fun env tm => isB true (nthD 0 env)⟩
  ⟨opStep ⟨fun call env tm ds h K => kO (fieldPtr 2 (nthD 0 env)) ds h K⟩ ⟨fun v tm => tm⟩ ⟨fun env tm => isB true (nthD 1 env)⟩
  ⟨opStep ⟨fun call env tm ds h K => kO (loadOne h (nthD 0 env)) ds h K⟩ ⟨fun v tm => tm⟩ ⟨fun env tm => isB true (nthD 2 env)⟩
  ⟨opStep ⟨fun call env tm ds h K => kO (binV Try.prog .eql 23 true (nthD 0 env) (.int .u64 (0))) ds h K⟩ ⟨fun v tm => tm⟩ ⟨fun env tm => isB true (nthD 3 env)⟩
  ⟨opStep ⟨fun call env tm ds h K => kO (pickV (nthD 4 env) (nthD 0 env) (.bool false)) ds h K⟩ ⟨fun v tm => tm⟩ ⟨fun env tm => true⟩
  ⟨opStep ⟨fun call env tm ds h K => kO (some (nthD 0 env)) ds h K⟩ ⟨fun v tm => tm⟩ ⟨fun env tm => true⟩
  ⟨opStep ⟨fun call env tm ds h K => kO (fieldPtr 2 (tg tm 1)) ds h K⟩ ⟨fun v tm => tm⟩ ⟨fun env tm => isB true (nthD 0 env)⟩
  ⟨opStep ⟨fun call env tm ds h K => kO (fieldPtr 1 (nthD 0 env)) ds h K⟩ ⟨fun v tm => tm⟩ ⟨fun env tm => isB true (nthD 1 env)⟩
  ⟨opStep ⟨fun call env tm ds h K => kO (loadOne h (nthD 0 env)) ds h K⟩ ⟨fun v tm => tm⟩ ⟨fun env tm => isB true (nthD 2 env)⟩
  ⟨opStep ⟨fun call env tm ds h K => kO (lenSl (nthD 0 env)) ds h K⟩ ⟨fun v tm => tm⟩ ⟨fun env tm => isB true (nthD 3 env)⟩
  ⟨opStep ⟨fun call env tm ds h K => kO (binV Try.prog .eql 3 true (nthD 0 env) (.int .i64 (0))) ds h K⟩ ⟨fun v tm => tm⟩ ⟨fun env tm => isB true (nthD 4 env)⟩
  ⟨opStep ⟨fun call env tm ds h K => kO (pickV (nthD 5 env) (nthD 0 env) (.bool false)) ds h K⟩ ⟨fun v tm => tm⟩ ⟨fun env tm => true⟩
  ⟨opStep ⟨fun call env tm ds h K => kO (some (nthD 0 env)) ds h K⟩ ⟨fun v tm => (T.set tm 3 v)⟩ ⟨fun env tm => true⟩
  ⟨fun _ _ tm ds h K => K .norm tm ds h⟩⟩⟩⟩⟩⟩⟩⟩⟩⟩⟩⟩⟩⟩⟩⟩⟩⟩⟩⟩⟩⟩⟩⟩ : Box OpsT).f call [] tm ds h K
noncomputable def r15_6 : CodeT := fun call _ tm ds h K =>
  kO (fieldPtr 0 (tg tm 1)) ds h (fun v0 ds h =>
  kO (loadOne h v0) ds h (fun v1 ds h =>
  kO (binV Try.prog .eql 5 true v1 (.int .u8 (7))) ds h (fun v2 ds h =>
  K .norm (T.set tm 46 v2) ds h)))
noncomputable def r15_7 : CodeT := fun call _ tm ds h K => (⟨opStep ⟨fun call env tm ds h K => kO (some (tg tm 3)) ds h K⟩ ⟨fun v tm => tm⟩ ⟨fun env tm => true⟩
  ⟨opStep ⟨fun call env tm ds h K => kO (some (nthD 0 env)) ds h K⟩ ⟨fun v tm => tm⟩ ⟨fun env tm => true⟩
  ⟨opStep ⟨fun call env tm ds h K => kO (fieldPtr 6 (tg tm 1)) ds h K⟩ ⟨fun v tm => tm⟩ ⟨fun env tm => isB true (nthD 0 env)⟩
  ⟨opStep ⟨fun call env tm ds h K => kO (loadOne h (nthD 0 env)) ds h K⟩ ⟨fun v tm => tm⟩ ⟨fun env tm => isB true (nthD 1 env)⟩
  ⟨opStep ⟨fun call env tm ds h K => kO (lenStr (nthD 0 env)) ds h K⟩ ⟨fun v tm => tm⟩ ⟨fun env tm => isB true (nthD 2 env)⟩
  ⟨opStep ⟨fun call env tm ds h K => kO (binV Try.prog .geq 3 true (nthD 0 env) (.int .i64 (1))) ds h K⟩ ⟨fun v tm => tm⟩ ⟨fun env tm => isB true (nthD 3 env)⟩
  ⟨opStep ⟨fun call env tm ds h K => kO (pickV (nthD 4 env) (nthD 0 env) (.bool false)) ds h K⟩ ⟨fun v tm => tm⟩ ⟨fun env tm => true⟩
  ⟨opStep ⟨fun call env tm ds h K => kO (some (nthD 0 env)) ds h K⟩ ⟨fun v tm => tm⟩ ⟨fun env tm => true⟩
  ⟨opStep ⟨fun call env tm ds h K => kO (fieldPtr 6 (tg tm 1)) ds h K⟩ ⟨fun v tm => tm⟩ ⟨fun env tm => isB true (nthD 0 env)⟩
  ⟨opStep ⟨fun call env tm ds h K => kO (loadOne h (nthD 0 env)) ds h K⟩ ⟨fun v tm => tm⟩ ⟨fun env tm => isB true (nthD 1 env)⟩
  ⟨opStep ⟨fun call env tm ds h K => kO (lenStr (nthD 0 env)) ds h K⟩ ⟨fun v tm => tm⟩ ⟨fun env tm => isB true (nthD 2 env)⟩
  ⟨opStep ⟨fun call env tm ds h K => kO (binV Try.prog .leq 3 true (nthD 0 env) (.int .i64 (32))) ds h K⟩ ⟨fun v tm => tm⟩ ⟨fun env tm => isB true (nthD 3 env)⟩
  ⟨opStep ⟨fun call env tm ds h K => kO (pickV (nthD 4 env) (nthD 0 env) (.bool false)) ds h K⟩ ⟨fun v tm => tm⟩ ⟨fun env tm => true⟩
  ⟨opStep ⟨fun call env tm ds h K => kO (some (nthD 0 env)) ds h K⟩ ⟨fun v tm => (T.set tm 3 v)⟩ ⟨fun env tm => true⟩
  ⟨fun _ _ tm ds h K => K .norm tm ds h⟩⟩⟩⟩⟩⟩⟩⟩⟩⟩⟩⟩⟩⟩⟩ : Box OpsT).f call [] tm ds h K
noncomputable def r15_8 : CodeT := fun call _ tm ds h K => (⟨opStep ⟨fun call env tm ds h K => kO (some (tg tm 3)) ds h K⟩ ⟨fun v tm => tm⟩ ⟨fun env tm => true⟩
  ⟨opStep ⟨fun call env tm ds h K => kO (some (nthD 0 env)) ds h K⟩ ⟨fun v tm => tm⟩ ⟨fun env tm => true⟩
  ⟨opStep ⟨fun call env tm ds h K => kO (fieldPtr 6 (tg tm 1)) ds h K⟩ ⟨fun v tm => tm⟩ ⟨fun env tm => isB true (nthD 0 env)⟩
  ⟨opStep ⟨fun call env tm ds h K => kO (loadOne h (nthD 0 env)) ds h K⟩ ⟨fun v tm => tm⟩ ⟨fun env tm => isB true (nthD 1 env)⟩
  ⟨opStep ⟨fun call env tm ds h K => kO (binV Try.prog .eql 9 true (nthD 0 env) (.string (strB []))) ds h K⟩ ⟨fun v tm => tm⟩ ⟨fun env tm => isB true (nthD 2 env)⟩
  ⟨opStep ⟨fun call env tm ds h K => kO (pickV (nthD 3 env) (nthD 0 env) (.bool false)) ds h K⟩ ⟨fun v tm => tm⟩ ⟨fun env tm => true⟩
  ⟨opStep ⟨fun call env tm ds h K => kO (some (nthD 0 env)) ds h K⟩ ⟨fun v tm => (T.set tm 3 v)⟩ ⟨fun env tm => true⟩
  ⟨fun _ _ tm ds h K => K .norm tm ds h⟩⟩⟩⟩⟩⟩⟩⟩ : Box OpsT).f call [] tm ds h K
noncomputable def r15_9 : CodeT := fun call _ tm ds h K => (⟨opStep ⟨fun call env tm ds h K => kO (some (tg tm 3)) ds h K⟩ ⟨fun v tm => tm⟩ ⟨fun env tm => true⟩
  ⟨opStep ⟨fun call env tm ds h K => kO (unV .not (nthD 0 env)) ds h K⟩ ⟨fun v tm => tm⟩ ⟨fun env tm => true⟩
  ⟨opStep ⟨fun call env tm ds h K => kO (some (nthD 0 env)) ds h K⟩ ⟨fun v tm => tm⟩ ⟨fun env tm => true⟩
  ⟨opStep ⟨fun call env tm ds h K => kO (fieldPtr 5 (tg tm 1)) ds h K⟩ ⟨fun v tm => tm⟩ ⟨fun env tm => isB false (nthD 0 env)⟩
  ⟨opStep ⟨fun call env tm ds h K => kO (loadOne h (nthD 0 env)) ds h K⟩ ⟨fun v tm => tm⟩ ⟨fun env tm => isB false (nthD 1 env)⟩
  ⟨opStep ⟨fun call env tm ds h K => kO (some (nthD 0 env)) ds h K⟩ ⟨fun v tm => tm⟩ ⟨fun env tm => isB false (nthD 2 env)⟩
  ⟨opStep ⟨fun call env tm ds h K => kO (fieldPtr 0 (tg tm 1)) ds h K⟩ ⟨fun v tm => tm⟩ ⟨fun env tm => isB true (nthD 0 env)⟩
  ⟨opStep ⟨fun call env tm ds h K => kO (loadOne h (nthD 0 env)) ds h K⟩ ⟨fun v tm => tm⟩ ⟨fun env tm => isB true (nthD 1 env)⟩
  ⟨opStep ⟨fun call env tm ds h K => kO (binV Try.prog .neq 5 true (nthD 0 env) (.int .u8 (2))) ds h K⟩ ⟨fun v tm => tm⟩ ⟨fun env tm => isB true (nthD 2 env)⟩
  ⟨opStep ⟨fun call env tm ds h K => kO (pickV (nthD 3 env) (nthD 0 env) (.bool false)) ds h K⟩ ⟨fun v tm => tm⟩ ⟨fun env tm => isB false (nthD 6 env)⟩
  ⟨opStep ⟨fun call env tm ds h K => kO (some (nthD 0 env)) ds h K⟩ ⟨fun v tm => tm⟩ ⟨fun env tm => isB false (nthD 7 env)⟩
  ⟨opStep ⟨fun call env tm ds h K => kO (fieldPtr 0 (tg tm 1)) ds h K⟩ ⟨fun v tm => tm⟩ ⟨fun env tm => isB true (nthD 0 env)⟩
  ⟨opStep ⟨fun call env tm ds h K => kO (loadOne h (nthD 0 env)) ds h K⟩ ⟨fun v tm => tm⟩ ⟨fun env tm => isB true (nthD 1 env)⟩
  ⟨opStep ⟨fun call env tm ds h K => kO (binV Try.prog .neq 5 true (nthD 0 env) (.int .u8 (3))) ds h K⟩ ⟨fun v tm => tm⟩ ⟨fun env tm => isB true (nthD 2 env)⟩
  ⟨opStep ⟨fun call env tm ds h K => kO (pickV (nthD 3 env) (nthD 0 env) (.bool false)) ds h K⟩ ⟨fun v tm => tm⟩ ⟨fun env tm => isB false (nthD 11 env)⟩
  ⟨opStep ⟨fun call env tm ds h K => kO (pickV (nthD 12 env) (.bool true) (nthD 0 env)) ds h K⟩ ⟨fun v tm => (T.set tm 81 v)⟩ ⟨fun env tm => true⟩
  ⟨fun _ _ tm ds h K => K .norm tm ds h⟩⟩⟩⟩⟩⟩⟩⟩⟩⟩⟩⟩⟩⟩⟩⟩⟩ : Box OpsT).f call [] tm ds h K
noncomputable def r15_10 : CodeT := fun call _ tm ds h K =>
  K .norm (T.set tm 2 (.int .i64 (8))) ds h
noncomputable def r15_11 : CodeT := fun call _ tm ds h K =>
  K .norm (T.set tm 2 (.int .i64 (0))) ds h
noncomputable def c15 : Box CodeT := ⟨seqC ⟨r15_0⟩ ⟨seqC ⟨r15_1⟩ ⟨seqC ⟨blockC 0 ⟨seqC ⟨r15_2⟩ ⟨condC ⟨fun _ tm => tg tm 4⟩ ⟨r15_3⟩ ⟨seqC ⟨r15_4⟩ ⟨condC ⟨fun _ tm => tg tm 13⟩ ⟨r15_5⟩ skipC⟩⟩⟩⟩⟩ ⟨seqC ⟨seqC ⟨r15_6⟩ ⟨condC ⟨fun _ tm => tg tm 46⟩ ⟨r15_7⟩ ⟨r15_8⟩⟩⟩ ⟨seqC ⟨seqC ⟨r15_9⟩ ⟨condC ⟨fun _ tm => tg tm 81⟩ ⟨seqC ⟨r15_10⟩ retC⟩ skipC⟩⟩ ⟨seqC ⟨r15_11⟩ retC⟩⟩⟩⟩⟩⟩
noncomputable def q15 : Box (T Value → H → Option (List Value)) := ⟨fun tm h => some [tg tm 2]⟩
/-! 19 cloakroom/cloakroomref15.May -/
noncomputable def r19_0 : CodeT := fun call _ tm ds h K =>
  kA (some (.rw (Value.cells (tg tm 0)).toList, ptrTo h.next)) ds h (fun v0 ds h =>
  K .norm (T.set (T.set tm 1 v0) 2 (.bool false)) ds h)
noncomputable def r19_1 : CodeT := fun call _ tm ds h K => (⟨opStep ⟨fun call env tm ds h K => kO (fieldPtr 0 (tg tm 1)) ds h K⟩ ⟨fun v tm => tm⟩ ⟨fun env tm => true⟩
  ⟨opStep ⟨fun call env tm ds h K => kO (loadOne h (nthD 0 env)) ds h K⟩ ⟨fun v tm => tm⟩ ⟨fun env tm => true⟩
  ⟨opStep ⟨fun call env tm ds h K => kO (binV Try.prog .lss 5 true (nthD 0 env) (.int .u8 (1))) ds h K⟩ ⟨fun v tm => tm⟩ ⟨fun env tm => true⟩
  ⟨opStep ⟨fun call env tm ds h K => kO (some (nthD 0 env)) ds h K⟩ ⟨fun v tm => tm⟩ ⟨fun env tm => true⟩
  ⟨opStep ⟨fun call env tm ds h K => kO (fieldPtr 0 (tg tm 1)) ds h K⟩ ⟨fun v tm => tm⟩ ⟨fun env tm => isB false (nthD 0 env)⟩
  ⟨opStep ⟨fun call env tm ds h K => kO (loadOne h (nthD 0 env)) ds h K⟩ ⟨fun v tm => tm⟩ ⟨fun env tm => isB false (nthD 1 env)⟩
  ⟨opStep ⟨fun call env tm ds h K => kO (binV Try.prog .gtr 5 true (nthD 0 env) (.int .u8 (7))) ds h K⟩ ⟨fun v tm => tm⟩ ⟨fun env tm => isB false (nthD 2 env)⟩
  ⟨opStep ⟨fun call env tm ds h K => kO (pickV (nthD 3 env) (.bool true) (nthD 0 env)) ds h K⟩ ⟨fun v tm => tm⟩ ⟨fun env tm => true⟩
  ⟨opStep ⟨fun call env tm ds h K => kO (some (nthD 0 env)) ds h K⟩ ⟨fun v tm => tm⟩ ⟨fun env tm => true⟩
  ⟨opStep ⟨fun call env tm ds h K => kO (fieldPtr 5 (tg tm 1)) ds h K⟩ ⟨fun v tm => tm⟩ ⟨fun env tm => isB false (nthD 0 env)⟩
  ⟨opStep ⟨fun call env tm ds h K => kO (loadOne h (nthD 0 env)) ds h K⟩ ⟨fun v tm => tm⟩ ⟨fun env tm => isB false (nthD 1 env)⟩
  ⟨opStep ⟨fun call env tm ds h K => kO (some (nthD 0 env)) ds h K⟩ ⟨fun v tm => tm⟩ ⟨fun env tm => isB false (nthD 2 env)⟩
  ⟨opStep ⟨fun call env tm ds h K => kO (fieldPtr 0 (tg tm 1)) ds h K⟩ ⟨fun v tm => tm⟩ ⟨fun env tm => isB true (nthD 0 env)⟩
  ⟨opStep ⟨fun call env tm ds h K => kO (loadOne h (nthD 0 env)) ds h K⟩ ⟨fun v tm => tm⟩ ⟨fun env tm => isB true (nthD 1 env)⟩
  ⟨opStep ⟨fun call env tm ds h K => kO (binV Try.prog .neq 5 true (nthD 0 env) (.int .u8 (2))) ds h K⟩ ⟨fun v tm => tm⟩ ⟨fun env tm => isB true (nthD 2 env)⟩
  ⟨opStep ⟨fun call env tm ds h K => kO (pickV (nthD 3 env) (nthD 0 env) (.bool false)) ds h K⟩ ⟨fun v tm => tm⟩ ⟨fun env tm => isB false (nthD 6 env)⟩
  ⟨opStep ⟨fun call env tm ds h K => kO (some (nthD 0 env)) ds h K⟩ ⟨fun v tm => tm⟩ ⟨fun env tm => isB false (nthD 7 env)⟩
  ⟨opStep ⟨fun call env tm ds h K => kO (fieldPtr 0 (tg tm 1)) ds h K⟩ ⟨fun v tm => tm⟩ ⟨fun env tm => isB true (nthD 0 env)⟩
  ⟨opStep ⟨fun call env tm ds h K => kO (loadOne h (nthD 0 env)) ds h K⟩ ⟨fun v tm => tm⟩ ⟨fun env tm => isB true (nthD 1 env)⟩
  ⟨opStep ⟨fun call env tm ds h K => kO (binV Try.prog .neq 5 true (nthD 0 env) (.int .u8 (3))) ds h K⟩ ⟨fun v tm => tm⟩ ⟨fun env tm => isB true (nthD 2 env)⟩
  ⟨opStep ⟨fun call env tm ds h K => kO (pickV (nthD 3 env) (nthD 0 env) (.bool false)) ds h K⟩ ⟨fun v tm => tm⟩ ⟨fun env tm => isB false (nthD 11 env)⟩
  ⟨opStep ⟨fun call env tm ds h K => kO (pickV (nthD 12 env) (.bool true) (nthD 0 env)) ds h K⟩ ⟨fun v tm => (T.set tm 26 v)⟩ ⟨fun env tm => true⟩
  ⟨fun _ _ tm ds h K => K .norm tm ds h⟩⟩⟩⟩⟩⟩⟩⟩⟩⟩⟩⟩⟩⟩⟩⟩⟩⟩⟩⟩⟩⟩⟩ : Box OpsT).f call [] tm ds h K
noncomputable def r19_2 : CodeT := fun call _ tm ds h K =>
  K .norm (T.set tm 2 (.bool false)) ds h
noncomputable def r19_3 : CodeT := fun call _ tm ds h K => (⟨opStep ⟨fun call env tm ds h K => kO (fieldPtr 0 (tg tm 1)) ds h K⟩ ⟨fun v tm => tm⟩ ⟨fun env tm => true⟩
  ⟨opStep ⟨fun call env tm ds h K => kO (loadOne h (nthD 0 env)) ds h K⟩ ⟨fun v tm => tm⟩ ⟨fun env tm => true⟩
  ⟨opStep ⟨fun call env tm ds h K => kO (binV Try.prog .eql 5 true (nthD 0 env) (.int .u8 (7))) ds h K⟩ ⟨fun v tm => tm⟩ ⟨fun env tm => true⟩
  ⟨opStep ⟨fun call env tm ds h K => kO (some (nthD 0 env)) ds h K⟩ ⟨fun v tm => tm⟩ ⟨fun env tm => true⟩
  ⟨opStep ⟨fun call env tm ds h K => kO (fieldPtr 6 (tg tm 1)) ds h K⟩ ⟨fun v tm => tm⟩ ⟨fun env tm => isB true (nthD 0 env)⟩
  ⟨opStep ⟨fun call env tm ds h K => kO (loadOne h (nthD 0 env)) ds h K⟩ ⟨fun v tm => tm⟩ ⟨fun env tm => isB true (nthD 1 env)⟩
  ⟨opStep ⟨fun call env tm ds h K => kO (lenStr (nthD 0 env)) ds h K⟩ ⟨fun v tm => tm⟩ ⟨fun env tm => isB true (nthD 2 env)⟩
  ⟨opStep ⟨fun call env tm ds h K => kO (binV Try.prog .lss 3 true (nthD 0 env) (.int .i64 (1))) ds h K⟩ ⟨fun v tm => tm⟩ ⟨fun env tm => isB true (nthD 3 env)⟩
  ⟨opStep ⟨fun call env tm ds h K => kO (some (nthD 0 env)) ds h K⟩ ⟨fun v tm => tm⟩ ⟨fun env tm => isB true (nthD 4 env)⟩
  ⟨opStep ⟨fun call env tm ds h K => kO (fieldPtr 6 (tg tm 1)) ds h K⟩ ⟨fun v tm => tm⟩ ⟨fun env tm => isB false (nthD 0 env)⟩
  ⟨opStep ⟨fun call env tm ds h K => kO (loadOne h (nthD 0 env)) ds h K⟩ ⟨fun v tm => tm⟩ ⟨fun env tm => isB false (nthD 1 env)⟩
  ⟨opStep ⟨fun call env tm ds h K => kO (lenStr (nthD 0 env)) ds h K⟩ ⟨fun v tm => tm⟩ ⟨fun env tm => isB false (nthD 2 env)⟩
  ⟨opStep ⟨fun call env tm ds h K => kO (binV Try.prog .gtr 3 true (nthD 0 env) (.int .i64 (32))) ds h K⟩ ⟨fun v tm => tm⟩ ⟨fun env tm => isB false (nthD 3 env)⟩
  ⟨opStep ⟨fun call env tm ds h K => kO (pickV (nthD 4 env) (.bool true) (nthD 0 env)) ds h K⟩ ⟨fun v tm => tm⟩ ⟨fun env tm => isB true (nthD 9 env)⟩
  ⟨opStep ⟨fun call env tm ds h K => kO (pickV (nthD 10 env) (nthD 0 env) (.bool false)) ds h K⟩ ⟨fun v tm => tm⟩ ⟨fun env tm => true⟩
  ⟨opStep ⟨fun call env tm ds h K => kO (some (nthD 0 env)) ds h K⟩ ⟨fun v tm => tm⟩ ⟨fun env tm => true⟩
  ⟨opStep ⟨fun call env tm ds h K => kO (fieldPtr 0 (tg tm 1)) ds h K⟩ ⟨fun v tm => tm⟩ ⟨fun env tm => isB false (nthD 0 env)⟩
  ⟨opStep ⟨fun call env tm ds h K => kO (loadOne h (nthD 0 env)) ds h K⟩ ⟨fun v tm => tm⟩ ⟨fun env tm => isB false (nthD 1 env)⟩
  ⟨opStep ⟨fun call env tm ds h K => kO (binV Try.prog .neq 5 true (nthD 0 env) (.int .u8 (7))) ds h K⟩ ⟨fun v tm => tm⟩ ⟨fun env tm => isB false (nthD 2 env)⟩
  ⟨opStep ⟨fun call env tm ds h K => kO (some (nthD 0 env)) ds h K⟩ ⟨fun v tm => tm⟩ ⟨fun env tm => isB false (nthD 3 env)⟩
  ⟨opStep ⟨fun call env tm ds h K => kO (fieldPtr 6 (tg tm 1)) ds h K⟩ ⟨fun v tm => tm⟩ ⟨fun env tm => isB true (nthD 0 env)⟩
  ⟨opStep ⟨fun call env tm ds h K => kO (loadOne h (nthD 0 env)) ds h K⟩ ⟨fun v tm => tm⟩ ⟨fun env tm => isB true (nthD 1 env)⟩
  ⟨opStep ⟨fun call env tm ds h K => kO (binV Try.prog .neq 9 true (nthD 0 env) (.string (strB []))) ds h K⟩ ⟨fun v tm => tm⟩ ⟨fun env tm => isB true (nthD 2 env)⟩
  ⟨opStep ⟨fun call env tm ds h K => kO (pickV (nthD 3 env) (nthD 0 env) (.bool false)) ds h K⟩ ⟨fun v tm => tm⟩ ⟨fun env tm => isB false (nthD 7 env)⟩
  ⟨opStep ⟨fun call env tm ds h K => kO (pickV (nthD 8 env) (.bool true) (nthD 0 env)) ds h K⟩ ⟨fun v tm => (T.set tm 51 v)⟩ ⟨fun env tm => true⟩
  ⟨fun _ _ tm ds h K => K .norm tm ds h⟩⟩⟩⟩⟩⟩⟩⟩⟩⟩⟩⟩⟩⟩⟩⟩⟩⟩⟩⟩⟩⟩⟩⟩⟩⟩ : Box OpsT).f call [] tm ds h K
noncomputable def r19_4 : CodeT := fun call _ tm ds h K =>
  K .norm (T.set tm 2 (.bool false)) ds h
noncomputable def r19_5 : CodeT := fun call _ tm ds h K =>
  kO (fieldPtr 2 (tg tm 1)) ds h (fun v0 ds h =>
  kO (loadAgg 3 h v0) ds h (fun v1 ds h =>
  kA (some (.rw [(.int .u8 (0)), (.slice none 0 0), (.int .u64 (0))], ptrTo h.next)) ds h (fun v2 ds h =>
  kH (withV undef (storeV 3 h v2 v1)) ds (fun v3 ds h =>
  K .norm (T.set tm 3 v2) ds h))))
noncomputable def r19_6 : CodeT := fun call _ tm ds h K =>
  kO (fieldPtr 0 (tg tm 1)) ds h (fun v0 ds h =>
  kO (loadOne h v0) ds h (fun v1 ds h =>
  kO (binV Try.prog .neq 5 true v1 (.int .u8 (1))) ds h (fun v2 ds h =>
  K .norm (T.set tm 56 v2) ds h)))
noncomputable def r19_7 : CodeT := fun call _ tm ds h K => (⟨opStep ⟨fun call env tm ds h K => kO (fieldPtr 1 (tg tm 1)) ds h K⟩ ⟨fun v tm => tm⟩ ⟨fun env tm => true⟩
  ⟨opStep ⟨fun call env tm ds h K => kO (loadOne h (nthD 0 env)) ds h K⟩ ⟨fun v tm => tm⟩ ⟨fun env tm => true⟩
  ⟨opStep ⟨fun call env tm ds h K => kO (binV Try.prog .eql 5 true (nthD 0 env) (.int .u8 (0))) ds h K⟩ ⟨fun v tm => tm⟩ ⟨fun env tm => true⟩
  ⟨opStep ⟨fun call env tm ds h K => kO (some (nthD 0 env)) ds h K⟩ ⟨fun v tm => tm⟩ ⟨fun env tm => true⟩
  ⟨opStep ⟨fun call env tm ds h K => kO (fieldPtr 0 (tg tm 3)) ds h K⟩ ⟨fun v tm => tm⟩ ⟨fun env tm => isB true (nthD 0 env)⟩
  ⟨opStep ⟨fun call env tm ds h K => kO (loadOne h (nthD 0 env)) ds h K⟩ ⟨fun v tm => tm⟩ ⟨fun env tm => isB true (nthD 1 env)⟩
  ⟨opStep ⟨fun call env tm ds h K => kO (binV Try.prog .eql 5 true (nthD 0 env) (.int .u8 (0))) ds h K⟩ ⟨fun v tm => tm⟩ ⟨fun env tm => isB true (nthD 2 env)⟩
  ⟨opStep ⟨fun call env tm ds h K => kO (pickV (nthD 3 env) (nthD 0 env) (.bool false)) ds h K⟩ ⟨fun v tm => tm⟩ ⟨fun env tm => true⟩
  ⟨opStep ⟨fun call env tm ds h K => kO (some (nthD 0 env)) ds h K⟩ ⟨fun v tm => tm⟩ ⟨fun env tm => true⟩
  ⟨opStep ⟨fun call env tm ds h K => kO (fieldPtr 2 (tg tm 3)) ds h K⟩ ⟨fun v tm => tm⟩ ⟨fun env tm => isB true (nthD 0 env)⟩
  ⟨opStep ⟨fun call env tm ds h K => kO (loadOne h (nthD 0 env)) ds h K⟩ ⟨fun v tm => tm⟩ ⟨fun env tm => isB true (nthD 1 env)⟩
  ⟨opStep ⟨fun call env tm ds h K => kO (binV Try.prog .eql 23 true (nthD 0 env) (.int .u64 (0))) ds h K⟩ ⟨fun v tm => tm⟩ ⟨fun env tm => isB true (nthD 2 env)⟩
  ⟨opStep ⟨fun call env tm ds h K => kO (pickV (nthD 3 env) (nthD 0 env) (.bool false)) ds h K⟩ ⟨fun v tm => tm⟩ ⟨fun env tm => true⟩
  ⟨opStep ⟨fun call env tm ds h K => kO (some (nthD 0 env)) ds h K⟩ ⟨fun v tm => tm⟩ ⟨fun env tm => true⟩
  ⟨opStep ⟨fun call env tm ds h K => kO (fieldPtr 1 (tg tm 3)) ds h K⟩ ⟨fun v tm => tm⟩ ⟨fun env tm => isB true (nthD 0 env)⟩
  ⟨opStep ⟨fun call env tm ds h K => kO (loadOne h (nthD 0 env)) ds h K⟩ ⟨fun v tm => tm⟩ ⟨fun env tm => isB true (nthD 1 env)⟩
  ⟨opStep ⟨fun call env tm ds h K => kO (lenSl (nthD 0 env)) ds h K⟩ ⟨fun v tm => tm⟩ ⟨fun env tm => isB true (nthD 2 env)⟩
  ⟨opStep ⟨fun call env tm ds h K => kO (binV Try.prog .eql 3 true (nthD 0 env) (.int .i64 (0))) ds h K⟩ ⟨fun v tm => tm⟩ ⟨fun env tm => isB true (nthD 3 env)⟩
  ⟨opStep ⟨fun call env tm ds h K => kO (pickV (nthD 4 env) (nthD 0 env) (.bool false)) ds h K⟩ ⟨fun v tm => tm⟩ ⟨fun env tm => true⟩
  ⟨opStep ⟨fun call env tm ds h K => kO (some (nthD 0 env)) ds h K⟩ ⟨fun v tm => (T.set tm 2 v)⟩ ⟨fun env tm => true⟩
  ⟨fun _ _ tm ds h K => K .norm tm ds h⟩⟩⟩⟩⟩⟩⟩⟩⟩⟩⟩⟩⟩⟩⟩⟩⟩⟩⟩⟩⟩ : Box OpsT).f call [] tm ds h K
noncomputable def r19_8 : CodeT := fun call _ tm ds h K => (⟨opStep ⟨fun call env tm ds h K => kO (fieldPtr 1 (tg tm 1)) ds h K⟩ ⟨fun v tm => tm⟩ ⟨fun env tm => true⟩
  ⟨opStep ⟨fun call env tm ds h K => kO (loadOne h (nthD 0 env)) ds h K⟩ ⟨fun v tm => tm⟩ ⟨fun env tm => true⟩
  ⟨opStep ⟨fun call env tm ds h K => kO (binV Try.prog .lss 5 true (nthD 0 env) (.int .u8 (1))) ds h K⟩ ⟨fun v tm => tm⟩ ⟨fun env tm => true⟩
  ⟨opStep ⟨fun call env tm ds h K => kO (some (nthD 0 env)) ds h K⟩ ⟨fun v tm => tm⟩ ⟨fun env tm => true⟩
  ⟨opStep ⟨fun call env tm ds h K => kO (fieldPtr 1 (tg tm 1)) ds h K⟩ ⟨fun v tm => tm⟩ ⟨fun env tm => isB false (nthD 0 env)⟩
  ⟨opStep ⟨fun call env tm ds h K => kO (loadOne h (nthD 0 env)) ds h K⟩ ⟨fun v tm => tm⟩ ⟨fun env tm => isB false (nthD 1 env)⟩
  ⟨opStep ⟨fun call env tm ds h K => kO (binV Try.prog .gtr 5 true (nthD 0 env) (.int .u8 (11))) ds h K⟩ ⟨fun v tm => tm⟩ ⟨fun env tm => isB false (nthD 2 env)⟩
  ⟨opStep ⟨fun call env tm ds h K => kO (pickV (nthD 3 env) (.bool true) (nthD 0 env)) ds h K⟩ ⟨fun v tm => tm⟩ ⟨fun env tm => true⟩
  ⟨opStep ⟨fun call env tm ds h K => kO (some (nthD 0 env)) ds h K⟩ ⟨fun v tm => tm⟩ ⟨fun env tm => true⟩
  ⟨opStep ⟨fun call env tm ds h K => kO (fieldPtr 0 (tg tm 3)) ds h K⟩ ⟨fun v tm => tm⟩ ⟨fun env tm => isB false (nthD 0 env)⟩
  ⟨opStep ⟨fun call env tm ds h K => kO (loadOne h (nthD 0 env)) ds h K⟩ ⟨fun v tm => tm⟩ ⟨fun env tm => isB false (nthD 1 env)⟩
  ⟨opStep ⟨fun call env tm ds h K => kO (binV Try.prog .lss 5 true (nthD 0 env) (.int .u8 (1))) ds h K⟩ ⟨fun v tm => tm⟩ ⟨fun env tm => isB false (nthD 2 env)⟩
  ⟨opStep ⟨fun call env tm ds h K => kO (pickV (nthD 3 env) (.bool true) (nthD 0 env)) ds h K⟩ ⟨fun v tm => tm⟩ ⟨fun env tm => true⟩
  ⟨opStep ⟨fun call env tm ds h K => kO (some (nthD 0 env)) ds h K⟩ ⟨fun v tm => tm⟩ ⟨fun env tm => true⟩
  ⟨opStep ⟨fun call env tm ds h K => kO (fieldPtr 0 (tg tm 3)) ds h K⟩ ⟨fun v tm => tm⟩ ⟨fun env tm => isB false (nthD 0 env)⟩
  ⟨opStep ⟨fun call env tm ds h K => kO (loadOne h (nthD 0 env)) ds h K⟩ ⟨fun v tm => tm⟩ ⟨fun env tm => isB false (nthD 1 env)⟩
  ⟨opStep ⟨fun call env tm ds h K => kO (binV Try.prog .gtr 5 true (nthD 0 env) (.int .u8 (7))) ds h K⟩ ⟨fun v tm => tm⟩ ⟨fun env tm => isB false (nthD 2 env)⟩
  ⟨opStep ⟨fun call env tm ds h K => kO (pickV (nthD 3 env) (.bool true) (nthD 0 env)) ds h K⟩ ⟨fun v tm => tm⟩ ⟨fun env tm => true⟩
  ⟨opStep ⟨fun call env tm ds h K => kO (some (nthD 0 env)) ds h K⟩ ⟨fun v tm => tm⟩ ⟨fun env tm => true⟩
  ⟨opStep ⟨fun call env tm ds h K => kO (fieldPtr 1 (tg tm 3)) ds h K⟩ ⟨fun v tm => tm⟩ ⟨fun env tm => isB false (nthD 0 env)⟩
  ⟨opStep ⟨fun call env tm ds h K => kO (loadOne h (nthD 0 env)) ds h K⟩ ⟨fun v tm => tm⟩ ⟨fun env tm => isB false (nthD 1 env)⟩
  ⟨opStep ⟨fun call env tm ds h K => kO (lenSl (nthD 0 env)) ds h K⟩ ⟨fun v tm => tm⟩ ⟨fun env tm => isB false (nthD 2 env)⟩
  ⟨opStep ⟨fun call env tm ds h K => kO (binV Try.prog .gtr 3 true (nthD 0 env) (.int .i64 (8))) ds h K⟩ ⟨fun v tm => tm⟩ ⟨fun env tm => isB false (nthD 3 env)⟩
  ⟨opStep ⟨fun call env tm ds h K => kO (pickV (nthD 4 env) (.bool true) (nthD 0 env)) ds h K⟩ ⟨fun v tm => (T.set tm 99 v)⟩ ⟨fun env tm => true⟩
  ⟨fun _ _ tm ds h K => K .norm tm ds h⟩⟩⟩⟩⟩⟩⟩⟩⟩⟩⟩⟩⟩⟩⟩⟩⟩⟩⟩⟩⟩⟩⟩⟩⟩ : Box OpsT).f call [] tm ds h K
noncomputable def r19_9 : CodeT := fun call _ tm ds h K =>
  K .norm (T.set tm 2 (.bool false)) ds h
noncomputable def r19_10 : CodeT := fun call _ tm ds h K => (⟨opStep ⟨fun call env tm ds h K => kO (fieldPtr 1 (tg tm 3)) ds h K⟩ ⟨fun v tm => tm⟩ ⟨fun env tm => true⟩
  ⟨opStep ⟨fun call env tm ds h K => kO (loadOne h (nthD 0 env)) ds h K⟩ ⟨fun v tm => tm⟩ ⟨fun env tm => true⟩
  ⟨opStep ⟨fun call env tm ds h K => kO (lenSl (nthD 0 env)) ds h K⟩ ⟨fun v tm => tm⟩ ⟨fun env tm => true⟩
  ⟨opStep ⟨fun call env tm ds h K => kO (binV Try.prog .gtr 3 true (nthD 0 env) (.int .i64 (0))) ds h K⟩ ⟨fun v tm => tm⟩ ⟨fun env tm => true⟩
  ⟨opStep ⟨fun call env tm ds h K => kO (some (nthD 0 env)) ds h K⟩ ⟨fun v tm => tm⟩ ⟨fun env tm => true⟩
  ⟨opStep ⟨fun call env tm ds h K => kO (fieldPtr 1 (tg tm 1)) ds h K⟩ ⟨fun v tm => tm⟩ ⟨fun env tm => isB true (nthD 0 env)⟩
  ⟨opStep ⟨fun call env tm ds h K => kO (loadOne h (nthD 0 env)) ds h K⟩ ⟨fun v tm => tm⟩ ⟨fun env tm => isB true (nthD 1 env)⟩
  ⟨opStep ⟨fun call env tm ds h K => kO (binV Try.prog .neq 5 true (nthD 0 env) (.int .u8 (1))) ds h K⟩ ⟨fun v tm => tm⟩ ⟨fun env tm => isB true (nthD 2 env)⟩
  ⟨opStep ⟨fun call env tm ds h K => kO (some (nthD 0 env)) ds h K⟩ ⟨fun v tm => tm⟩ ⟨fun env tm => isB true (nthD 3 env)⟩
  ⟨opStep ⟨fun call env tm ds h K => kO (fieldPtr 0 (tg tm 3)) ds h K⟩ ⟨fun v tm => tm⟩ ⟨fun env tm => isB false (nthD 0 env)⟩
  ⟨opStep ⟨fun call env tm ds h K => kO (loadOne h (nthD 0 env)) ds h K⟩ ⟨fun v tm => tm⟩ ⟨fun env tm => isB false (nthD 1 env)⟩
  ⟨opStep ⟨fun call env tm ds h K => kO (binV Try.prog .neq 5 true (nthD 0 env) (.int .u8 (1))) ds h K⟩ ⟨fun v tm => tm⟩ ⟨fun env tm => isB false (nthD 2 env)⟩
  ⟨opStep ⟨fun call env tm ds h K => kO (pickV (nthD 3 env) (.bool true) (nthD 0 env)) ds h K⟩ ⟨fun v tm => tm⟩ ⟨fun env tm => isB true (nthD 7 env)⟩
  ⟨opStep ⟨fun call env tm ds h K => kO (pickV (nthD 8 env) (nthD 0 env) (.bool false)) ds h K⟩ ⟨fun v tm => tm⟩ ⟨fun env tm => true⟩
  ⟨opStep ⟨fun call env tm ds h K => kO (some (nthD 0 env)) ds h K⟩ ⟨fun v tm => tm⟩ ⟨fun env tm => true⟩
  ⟨opStep ⟨fun call env tm ds h K => kO (fieldPtr 2 (tg tm 3)) ds h K⟩ ⟨fun v tm => tm⟩ ⟨fun env tm => isB false (nthD 0 env)⟩
  ⟨opStep ⟨fun call env tm ds h K => kO (loadOne h (nthD 0 env)) ds h K⟩ ⟨fun v tm => tm⟩ ⟨fun env tm => isB false (nthD 1 env)⟩
  ⟨opStep ⟨fun call env tm ds h K => kO (binV Try.prog .neq 23 true (nthD 0 env) (.int .u64 (0))) ds h K⟩ ⟨fun v tm => tm⟩ ⟨fun env tm => isB false (nthD 2 env)⟩
  ⟨opStep ⟨fun call env tm ds h K => kO (some (nthD 0 env)) ds h K⟩ ⟨fun v tm => tm⟩ ⟨fun env tm => isB false (nthD 3 env)⟩
  ⟨opStep ⟨fun call env tm ds h K => kO (fieldPtr 1 (tg tm 1)) ds h K⟩ ⟨fun v tm => tm⟩ ⟨fun env tm => isB true (nthD 0 env)⟩
  ⟨opStep ⟨fun call env tm ds h K => kO (loadOne h (nthD 0 env)) ds h K⟩ ⟨fun v tm => tm⟩ ⟨fun env tm => isB true (nthD 1 env)⟩
  ⟨opStep ⟨fun call env tm ds h K => call 32 [(nthD 0 env)] h (fun v h => (K) v ds h)⟩ ⟨fun v tm => tm⟩ ⟨fun env tm => isB true (nthD 2 env)⟩
  ⟨opStep ⟨fun call env tm ds h K => kO (unV .not (nthD 0 env)) ds h K⟩ ⟨fun v tm => tm⟩ ⟨fun env tm => isB true (nthD 3 env)⟩
  ⟨opStep ⟨fun call env tm ds h K => kO (some (nthD 0 env)) ds h K⟩ ⟨fun v tm => tm⟩ ⟨fun env tm => isB true (nthD 4 env)⟩
  ⟨opStep ⟨fun call env tm ds h K => kO (fieldPtr 0 (tg tm 3)) ds h K⟩ ⟨fun v tm => tm⟩ ⟨fun env tm => isB false (nthD 0 env)⟩
  ⟨opStep ⟨fun call env tm ds h K => kO (loadOne h (nthD 0 env)) ds h K⟩ ⟨fun v tm => tm⟩ ⟨fun env tm => isB false (nthD 1 env)⟩
  ⟨opStep ⟨fun call env tm ds h K => kO (binV Try.prog .neq 5 true (nthD 0 env) (.int .u8 (1))) ds h K⟩ ⟨fun v tm => tm⟩ ⟨fun env tm => isB false (nthD 2 env)⟩
  ⟨opStep ⟨fun call env tm ds h K => kO (pickV (nthD 3 env) (.bool true) (nthD 0 env)) ds h K⟩ ⟨fun v tm => tm⟩ ⟨fun env tm => isB true (nthD 8 env)⟩
  ⟨opStep ⟨fun call env tm ds h K => kO (pickV (nthD 9 env) (nthD 0 env) (.bool false)) ds h K⟩ ⟨fun v tm => tm⟩ ⟨fun env tm => isB false (nthD 13 env)⟩
  ⟨opStep ⟨fun call env tm ds h K => kO (pickV (nthD 14 env) (.bool true) (nthD 0 env)) ds h K⟩ ⟨fun v tm => tm⟩ ⟨fun env tm => true⟩
  ⟨opStep ⟨fun call env tm ds h K => kO (some (nthD 0 env)) ds h K⟩ ⟨fun v tm => tm⟩ ⟨fun env tm => true⟩
  ⟨opStep ⟨fun call env tm ds h K => kO (fieldPtr 1 (tg tm 1)) ds h K⟩ ⟨fun v tm => tm⟩ ⟨fun env tm => isB false (nthD 0 env)⟩
  ⟨opStep ⟨fun call env tm ds h K => kO (loadOne h (nthD 0 env)) ds h K⟩ ⟨fun v tm => tm⟩ ⟨fun env tm => isB false (nthD 1 env)⟩
  ⟨opStep ⟨fun call env tm ds h K => kO (binV Try.prog .eql 5 true (nthD 0 env) (.int .u8 (10))) ds h K⟩ ⟨fun v tm => tm⟩ ⟨fun env tm => isB false (nthD 2 env)⟩
  ⟨opStep ⟨fun call env tm ds h K => kO (some (nthD 0 env)) ds h K⟩ ⟨fun v tm => tm⟩ ⟨fun env tm => isB false (nthD 3 env)⟩
  ⟨opStep ⟨fun call env tm ds h K => kO (fieldPtr 2 (tg tm 3)) ds h K⟩ ⟨fun v tm => tm⟩ ⟨fun env tm => isB true (nthD 0 env)⟩
  ⟨opStep ⟨fun call env tm ds h K => kO (loadOne h (nthD 0 env)) ds h K⟩ ⟨fun v tm => tm⟩ ⟨fun env tm => isB true (nthD 1 env)⟩
  ⟨opStep ⟨fun call env tm ds h K => kO (binV Try.prog .gtr 23 true (nthD 0 env) (.int .u64 (8))) ds h K⟩ ⟨fun v tm => tm⟩ ⟨fun env tm => isB true (nthD 2 env)⟩
  ⟨opStep ⟨fun call env tm ds h K => kO (pickV (nthD 3 env) (nthD 0 env) (.bool false)) ds h K⟩ ⟨fun v tm => tm⟩ ⟨fun env tm => isB false (nthD 7 env)⟩
  ⟨opStep ⟨fun call env tm ds h K => kO (pickV (nthD 8 env) (.bool true) (nthD 0 env)) ds h K⟩ ⟨fun v tm => (T.set tm 139 v)⟩ ⟨fun env tm => true⟩
  ⟨fun _ _ tm ds h K => K .norm tm ds h⟩⟩⟩⟩⟩⟩⟩⟩⟩⟩⟩⟩⟩⟩⟩⟩⟩⟩⟩⟩⟩⟩⟩⟩⟩⟩⟩⟩⟩⟩⟩⟩⟩⟩⟩⟩⟩⟩⟩⟩⟩ : Box OpsT).f call [] tm ds h K
noncomputable def r19_11 : CodeT := fun call _ tm ds h K =>
  K .norm (T.set tm 2 (.bool false)) ds h
noncomputable def r19_12 : CodeT := fun call _ tm ds h K =>
  K .norm (T.set tm 4 (.int .i64 (0))) ds h
noncomputable def r19_13 : CodeT := fun call _ tm ds h K =>
  kO (fieldPtr 1 (tg tm 3)) ds h (fun v1 ds h =>
  kO (loadOne h v1) ds h (fun v2 ds h =>
  kO (lenSl v2) ds h (fun v3 ds h =>
  kO (binV Try.prog .lss 3 false (tg tm 4) v3) ds h (fun v4 ds h =>
  K .norm (T.set tm 144 v4) ds h))))
noncomputable def r19_15 : CodeT := fun call _ tm ds h K =>
  kO (fieldPtr 1 (tg tm 3)) ds h (fun v0 ds h =>
  kO (loadOne h v0) ds h (fun v1 ds h =>
  kO (indexSl 5 v1 (tg tm 4)) ds h (fun v3 ds h =>
  kO (loadAgg 5 h v3) ds h (fun v4 ds h =>
  call 33 [v4] h (fun v h => (fun v5 ds h =>
  kO (binV Try.prog .neq 3 true v5 (.int .i64 (0))) ds h (fun v6 ds h =>
  K .norm (T.set tm 153 v6) ds h)) v ds h)))))
noncomputable def r19_16 : CodeT := fun call _ tm ds h K =>
  K .norm (T.set tm 2 (.bool false)) ds h
noncomputable def r19_14 : CodeT := fun call _ tm ds h K =>
  kO (binV Try.prog .add 3 true (tg tm 4) (.int .i64 (1))) ds h (fun v1 ds h =>
  K .norm (T.set tm 4 v1) ds h)
noncomputable def l19_17 : Box CodeT := ⟨seqC ⟨seqC ⟨r19_13⟩ ⟨condC ⟨fun _ tm => tg tm 144⟩ skipC (exitC 0)⟩⟩ ⟨seqC ⟨blockC 1 ⟨seqC ⟨r19_15⟩ ⟨condC ⟨fun _ tm => tg tm 153⟩ ⟨seqC ⟨r19_16⟩ retC⟩ skipC⟩⟩⟩ ⟨r19_14⟩⟩⟩
noncomputable def r19_17 : CodeT := fun call _ tm ds h K =>
  K .norm (T.set tm 2 (.bool true)) ds h
noncomputable def c19 : Box CodeT := ⟨seqC ⟨r19_0⟩ ⟨seqC ⟨seqC ⟨r19_1⟩ ⟨condC ⟨fun _ tm => tg tm 26⟩ ⟨seqC ⟨r19_2⟩ retC⟩ skipC⟩⟩ ⟨seqC ⟨seqC ⟨r19_3⟩ ⟨condC ⟨fun _ tm => tg tm 51⟩ ⟨seqC ⟨r19_4⟩ retC⟩ skipC⟩⟩ ⟨seqC ⟨r19_5⟩ ⟨seqC ⟨seqC ⟨r19_6⟩ ⟨condC ⟨fun _ tm => tg tm 56⟩ ⟨seqC ⟨r19_7⟩ retC⟩ skipC⟩⟩ ⟨seqC ⟨seqC ⟨r19_8⟩ ⟨condC ⟨fun _ tm => tg tm 99⟩ ⟨seqC ⟨r19_9⟩ retC⟩ skipC⟩⟩ ⟨seqC ⟨seqC ⟨r19_10⟩ ⟨condC ⟨fun _ tm => tg tm 139⟩ ⟨seqC ⟨r19_11⟩ retC⟩ skipC⟩⟩ ⟨seqC ⟨seqC ⟨r19_12⟩ ⟨blockC 0 (loopB l19_17)⟩⟩ ⟨seqC ⟨r19_17⟩ retC⟩⟩⟩⟩⟩⟩⟩⟩⟩
noncomputable def q19 : Box (T Value → H → Option (List Value)) := ⟨fun tm h => some [tg tm 2]⟩
/-! 22 cloakroom/binary.Cut -/
noncomputable def r22_0 : CodeT := fun call _ tm ds h K =>
  K .norm (T.set (T.set (T.set (T.set tm 4 (.int .u8 (0))) 5 (.slice none 0 0)) 6 (.int .i64 (0))) 7 (.int .i64 (0))) ds h
noncomputable def r22_1 : CodeT := fun call _ tm ds h K =>
  kO (lenSl (tg tm 1)) ds h (fun v1 ds h =>
  kO (binV Try.prog .gtr 3 true v1 (.int .i64 (16384))) ds h (fun v2 ds h =>
  K .norm (T.set tm 9 v2) ds h))
noncomputable def r22_2 : CodeT := fun call _ tm ds h K =>
  K .norm (T.set (T.set (T.set (T.set tm 4 (.int .u8 (0))) 5 (.slice none 0 0)) 6 (.int .i64 (0))) 7 (.int .i64 (3))) ds h
noncomputable def r22_3 : CodeT := fun call _ tm ds h K =>
  kO (lenSl (tg tm 1)) ds h (fun v1 ds h =>
  kO (binV Try.prog .eql 3 true v1 (.int .i64 (0))) ds h (fun v2 ds h =>
  K .norm (T.set tm 13 v2) ds h))
noncomputable def r22_4 : CodeT := fun call _ tm ds h K =>
  K .norm (T.set (T.set (T.set (T.set tm 4 (.int .u8 (0))) 5 (.slice none 0 0)) 6 (.int .i64 (0))) 7 (.int .i64 (0))) ds h
noncomputable def r22_5 : CodeT := fun call _ tm ds h K =>
  kO (indexSl 1 (tg tm 1) (.int .i64 (0))) ds h (fun v1 ds h =>
  kO (loadOne h v1) ds h (fun v2 ds h =>
  kO (binV Try.prog .neq 5 false v2 (tg tm 0)) ds h (fun v4 ds h =>
  K .norm (T.set tm 17 v4) ds h)))
noncomputable def r22_6 : CodeT := fun call _ tm ds h K => (⟨opStep ⟨fun call env tm ds h K => kO (some (tg tm 1)) ds h K⟩ ⟨fun v tm => tm⟩ ⟨fun env tm => true⟩
  ⟨opStep ⟨fun call env tm ds h K => kO (lenSl (nthD 0 env)) ds h K⟩ ⟨fun v tm => tm⟩ ⟨fun env tm => true⟩
  ⟨opStep ⟨fun call env tm ds h K => kO (binV Try.prog .geq 3 true (nthD 0 env) (.int .i64 (6))) ds h K⟩ ⟨fun v tm => tm⟩ ⟨fun env tm => true⟩
  ⟨opStep ⟨fun call env tm ds h K => kO (some (nthD 0 env)) ds h K⟩ ⟨fun v tm => tm⟩ ⟨fun env tm => true⟩
  ⟨opStep ⟨fun call env tm ds h K => kO (some (tg tm 1)) ds h K⟩ ⟨fun v tm => tm⟩ ⟨fun env tm => isB true (nthD 0 env)⟩
  ⟨opStep ⟨fun call env tm ds h K => call 36 [(nthD 0 env)] h (fun v h => (K) v ds h)⟩ ⟨fun v tm => tm⟩ ⟨fun env tm => isB true (nthD 1 env)⟩
  ⟨opStep ⟨fun call env tm ds h K => kO (binV Try.prog .gtr 3 true (nthD 0 env) (.int .i64 (4096))) ds h K⟩ ⟨fun v tm => tm⟩ ⟨fun env tm => isB true (nthD 2 env)⟩
  ⟨opStep ⟨fun call env tm ds h K => kO (pickV (nthD 3 env) (nthD 0 env) (.bool false)) ds h K⟩ ⟨fun v tm => tm⟩ ⟨fun env tm => true⟩
  ⟨opStep ⟨fun call env tm ds h K => kO (some (nthD 0 env)) ds h K⟩ ⟨fun v tm => (T.set tm 17 v)⟩ ⟨fun env tm => true⟩
  ⟨fun _ _ tm ds h K => K .norm tm ds h⟩⟩⟩⟩⟩⟩⟩⟩⟩⟩ : Box OpsT).f call [] tm ds h K
noncomputable def r22_7 : CodeT := fun call _ tm ds h K =>
  K .norm (T.set (T.set (T.set (T.set tm 4 (.int .u8 (0))) 5 (.slice none 0 0)) 6 (.int .i64 (0))) 7 (.int .i64 (8))) ds h
noncomputable def r22_8 : CodeT := fun call _ tm ds h K =>
  kO (lenSl (tg tm 1)) ds h (fun v1 ds h =>
  kO (binV Try.prog .lss 3 true v1 (.int .i64 (6))) ds h (fun v2 ds h =>
  K .norm (T.set tm 31 v2) ds h))
noncomputable def r22_9 : CodeT := fun call _ tm ds h K =>
  kO (lenSl (tg tm 1)) ds h (fun v1 ds h =>
  call 36 [(tg tm 1)] h (fun v h => (fun v3 ds h =>
  kO (binV Try.prog .add 3 true (.int .i64 (6)) v3) ds h (fun v4 ds h =>
  kO (binV Try.prog .lss 3 false v1 v4) ds h (fun v5 ds h =>
  K .norm (T.set tm 31 v5) ds h))) v ds h))
noncomputable def r22_10 : CodeT := fun call _ tm ds h K =>
  K .norm (T.set (T.set (T.set (T.set tm 4 (.int .u8 (0))) 5 (.slice none 0 0)) 6 (.int .i64 (0))) 7 (.int .i64 (0))) ds h
noncomputable def r22_11 : CodeT := fun call _ tm ds h K =>
  call 36 [(tg tm 1)] h (fun v h => (fun v1 ds h =>
  kO (binV Try.prog .add 3 true (.int .i64 (6)) v1) ds h (fun v2 ds h =>
  K .norm (T.set tm 8 v2) ds h)) v ds h)
noncomputable def r22_12 : CodeT := fun call _ tm ds h0 K =>
  (fun (b0 : Nat) (h : H) =>
  kO (indexSl 1 (tg tm 1) (.int .i64 (1))) ds h (fun v1 ds h =>
  kO (loadOne h v1) ds h (fun v2 ds h =>
  kO (sliceSl 1 (tg tm 1) (some (.int .i64 (6))) (some (tg tm 8)) none) ds h (fun v5 ds h =>
  call 37 [v5] h (fun v h => (fun v6 ds h =>
  andB (hO (loadOne h v1) v2 true) (K .norm (T.set (T.set (T.set (T.set tm 4 v2) 5 v6) 6 (tg tm 8)) 7 (.int .i64 (0))) ds h)) v ds h))))) h0.next ⟨h0.objs, h0.next + 12⟩
noncomputable def c22 : Box CodeT := ⟨seqC ⟨r22_0⟩ ⟨seqC ⟨blockC 0 ⟨seqC ⟨r22_1⟩ ⟨condC ⟨fun _ tm => tg tm 9⟩ ⟨seqC ⟨r22_2⟩ retC⟩ ⟨seqC ⟨r22_3⟩ ⟨condC ⟨fun _ tm => tg tm 13⟩ ⟨seqC ⟨r22_4⟩ retC⟩ ⟨seqC ⟨seqC ⟨r22_5⟩ ⟨condC ⟨fun _ tm => tg tm 17⟩ skipC ⟨r22_6⟩⟩⟩ ⟨condC ⟨fun _ tm => tg tm 17⟩ ⟨seqC ⟨r22_7⟩ retC⟩ ⟨seqC ⟨seqC ⟨r22_8⟩ ⟨condC ⟨fun _ tm => tg tm 31⟩ skipC ⟨r22_9⟩⟩⟩ ⟨condC ⟨fun _ tm => tg tm 31⟩ ⟨seqC ⟨r22_10⟩ retC⟩ skipC⟩⟩⟩⟩⟩⟩⟩⟩⟩ ⟨seqC ⟨r22_11⟩ ⟨seqC ⟨r22_12⟩ retC⟩⟩⟩⟩
noncomputable def q22 : Box (T Value → H → Option (List Value)) := ⟨fun tm h => some [tg tm 4, tg tm 5, tg tm 6, tg tm 7]⟩
/-! 23 cloakroom/packed.read -/
noncomputable def r23_0 : CodeT := fun call _ tm ds h K =>
  kA (some (.rw [(.int .u8 (0)), (.int .u8 (0)), (.int .u8 (0)), (.slice none 0 0), (.int .u64 (0)), (.bool false), (.string (strB []))], ptrTo h.next)) ds h (fun v0 ds h =>
  K .norm (T.set (T.set tm 4 v0) 5 (.bool false)) ds h)
noncomputable def r23_1 : CodeT := fun call _ tm ds h K =>
  kO (aggO (fill [(.int .u8 (0)), (.int .u8 (0)), (.int .u8 (0)), (.slice none 0 0), (.int .u64 (0)), (.bool false), (.string (strB []))] (plc [(0, 1), (1, 1), (2, 3), (5, 1), (6, 1)]) [(0, (tg tm 0))])) ds h (fun v1 ds h =>
  kA (some (.rw [(.int .u8 (0)), (.int .u8 (0)), (.int .u8 (0)), (.slice none 0 0), (.int .u64 (0)), (.bool false), (.string (strB []))], ptrTo h.next)) ds h (fun v2 ds h =>
  kH (withV undef (storeV 7 h v2 v1)) ds (fun v3 ds h =>
  K .norm (T.set tm 6 v2) ds h)))
noncomputable def r23_2 : CodeT := fun call _ tm ds h K =>
  K .norm (T.set tm 15 (tg tm 0)) ds h
noncomputable def r23_3 : CodeT := fun call _ tm ds h K =>
  kO (binV Try.prog .eql 5 true (tg tm 15) (.int .u8 (1))) ds h (fun v0 ds h =>
  K .norm (T.set tm 16 v0) ds h)
noncomputable def r23_4 : CodeT := fun call _ tm ds h K =>
  kO (lenSl (tg tm 1)) ds h (fun v1 ds h =>
  kO (binV Try.prog .lss 3 true v1 (.int .i64 (2))) ds h (fun v2 ds h =>
  K .norm (T.set tm 20 v2) ds h))
noncomputable def r23_5 : CodeT := fun call _ tm ds h K =>
  kO (loadAgg 7 h (tg tm 6)) ds h (fun v0 ds h =>
  kH (withV undef (storeV 7 h (tg tm 4) v0)) ds (fun v1 ds h =>
  K .norm (T.set tm 5 (.bool false)) ds h))
noncomputable def r23_6 : CodeT := fun call _ tm ds h0 K =>
  (fun (b0 : Nat) (h : H) =>
  kO (indexSl 1 (tg tm 1) (.int .i64 (0))) ds h (fun v1 ds h =>
  kO (loadOne h v1) ds h (fun v2 ds h =>
  kO (indexSl 1 (tg tm 1) (.int .i64 (1))) ds h (fun v4 ds h =>
  kO (loadOne h v4) ds h (fun v5 ds h =>
  kO (fieldPtr 1 (tg tm 6)) ds h (fun v6 ds h =>
  kH (withV undef (storeV 1 h v6 v2)) ds (fun v7 ds h =>
  andB (hO (loadOne h v4) v5 true) (kO (fieldPtr 2 (tg tm 6)) ds h (fun v8 ds h =>
  kO (fieldPtr 0 v8) ds h (fun v9 ds h =>
  kH (withV undef (storeV 1 h v9 v5)) ds (fun v10 ds h =>
  K .norm tm ds h))))))))))) h0.next ⟨h0.objs, h0.next + 11⟩
noncomputable def r23_7 : CodeT := fun call _ tm ds h K =>
  kO (sliceSl 1 (tg tm 1) (some (.int .i64 (2))) none none) ds h (fun v1 ds h =>
  kO (aggO (fill [(.slice none 0 0), (.bool false)] (plc [(0, 1), (1, 1)]) [(0, v1), (1, (.bool true))])) ds h (fun v2 ds h =>
  kA (some (.rw (Value.cells v2).toList, ptrTo h.next)) ds h (fun v3 ds h =>
  K .norm (T.set tm 7 v3) ds h)))
noncomputable def r23_8 : CodeT := fun call _ tm ds h K =>
  kO (some (.func (.func 38) [(tg tm 7)].toArray [].toArray)) ds h (fun v1 ds h =>
  K .norm (T.set tm 8 v1) ds h)
noncomputable def r23_9 : CodeT := fun call _ tm ds h K =>
  goCall call (funcArgs (tg tm 8) []) ds h (fun v1 ds h =>
  kO (fieldPtr 2 (tg tm 6)) ds h (fun v2 ds h =>
  kO (fieldPtr 2 v2) ds h (fun v3 ds h =>
  kH (withV undef (storeV 1 h v3 v1)) ds (fun v4 ds h =>
  K .norm tm ds h))))
noncomputable def r23_10 : CodeT := fun call _ tm ds h K =>
  goCall call (funcArgs (tg tm 8) []) ds h (fun v1 ds h =>
  K .norm (T.set tm 9 v1) ds h)
noncomputable def r23_11 : CodeT := fun call _ tm ds h K =>
  kO (binV Try.prog .gtr 23 true (tg tm 9) (.int .u64 (8))) ds h (fun v1 ds h =>
  K .norm (T.set tm 44 v1) ds h)
noncomputable def r23_12 : CodeT := fun call _ tm ds h K =>
  kO (loadAgg 7 h (tg tm 6)) ds h (fun v0 ds h =>
  kH (withV undef (storeV 7 h (tg tm 4) v0)) ds (fun v1 ds h =>
  K .norm (T.set tm 5 (.bool false)) ds h))
noncomputable def r23_13 : CodeT := fun call _ tm ds h K =>
  K .norm (T.set (T.set tm 46 (tg tm 9)) 47 (.int .u64 (0))) ds h
noncomputable def r23_14 : CodeT := fun call _ tm ds h K =>
  kO (binV Try.prog .lss 23 false (tg tm 47) (tg tm 46)) ds h (fun v0 ds h =>
  K .norm (T.set tm 48 v0) ds h)
noncomputable def r23_15 : CodeT := fun call _ tm ds h K =>
  call 39 [(tg tm 7)] h (fun v h => (fun v1 ds h =>
  call 39 [(tg tm 7)] h (fun v h => (fun v3 ds h =>
  kO (aggO (fill [(.string (strB [])), (.string (strB [])), (.int .u32 (0)), (.int .i64 (0)), (.int .u64 (0))] (plc [(0, 1), (1, 1), (2, 1), (3, 1), (4, 1)]) [(0, v1), (1, v3)])) ds h (fun v4 ds h =>
  kA (some (.rw [(.string (strB [])), (.string (strB [])), (.int .u32 (0)), (.int .i64 (0)), (.int .u64 (0))], ptrTo h.next)) ds h (fun v5 ds h =>
  kH (withV undef (storeV 5 h v5 v4)) ds (fun v6 ds h =>
  K .norm (T.set tm 10 v5) ds h)))) v ds h)) v ds h)
noncomputable def r23_16 : CodeT := fun call _ tm ds h K =>
  goCall call (funcArgs (tg tm 8) []) ds h (fun v1 ds h =>
  goCall call (funcArgs (tg tm 8) []) ds h (fun v3 ds h =>
  K .norm (T.set (T.set tm 11 v1) 12 v3) ds h))
noncomputable def r23_17 : CodeT := fun call _ tm ds h K =>
  goCall call (funcArgs (tg tm 8) []) ds h (fun v1 ds h =>
  kO (fieldPtr 4 (tg tm 10)) ds h (fun v2 ds h =>
  kH (withV undef (storeV 1 h v2 v1)) ds (fun v3 ds h =>
  K .norm tm ds h)))
noncomputable def r23_18 : CodeT := fun call _ tm ds h K =>
  kO (binV Try.prog .gtr 23 true (tg tm 11) (.int .u64 (4294967295))) ds h (fun v1 ds h =>
  gd (isB false v1) (fun k => kO (some (tg tm 12)) ds h (k)) ds h (fun v3 ds h =>
  gd (isB false v1) (fun k => kO (binV Try.prog .gtr 23 true v3 (.int .u64 (1099511627776))) ds h (k)) ds h (fun v4 ds h =>
  kO (pickV v1 (.bool true) v4) ds h (fun v5 ds h =>
  K .norm (T.set tm 66 v5) ds h))))
noncomputable def r23_19 : CodeT := fun call _ tm ds h K =>
  kO (loadAgg 7 h (tg tm 6)) ds h (fun v0 ds h =>
  kH (withV undef (storeV 7 h (tg tm 4) v0)) ds (fun v1 ds h =>
  K .norm (T.set tm 5 (.bool false)) ds h))
noncomputable def r23_20 : CodeT := fun call _ tm ds h K =>
  kO (toInt .u32 (tg tm 11)) ds h (fun v1 ds h =>
  kO (toInt .i64 (tg tm 12)) ds h (fun v3 ds h =>
  kO (fieldPtr 2 (tg tm 10)) ds h (fun v4 ds h =>
  kH (withV undef (storeV 1 h v4 v1)) ds (fun v5 ds h =>
  kO (fieldPtr 3 (tg tm 10)) ds h (fun v6 ds h =>
  kH (withV undef (storeV 1 h v6 v3)) ds (fun v7 ds h =>
  K .norm tm ds h))))))
noncomputable def r23_21 : CodeT := fun call _ tm ds h K =>
  kO (fieldPtr 2 (tg tm 6)) ds h (fun v0 ds h =>
  kO (fieldPtr 1 v0) ds h (fun v1 ds h =>
  kO (loadOne h v1) ds h (fun v2 ds h =>
  kO (loadAgg 5 h (tg tm 10)) ds h (fun v3 ds h =>
  kA (mkLit 1 h.next (fill (repl [(.string (strB [])), (.string (strB [])), (.int .u32 (0)), (.int .i64 (0)), (.int .u64 (0))] 1) (pl 5) [(0, v3)])) ds h (fun v4 ds h =>
  kH (appendV 5 56 h v2 v4) ds (fun v5 ds h =>
  kO (fieldPtr 2 (tg tm 6)) ds h (fun v6 ds h =>
  kO (fieldPtr 1 v6) ds h (fun v7 ds h =>
  kH (withV undef (storeV 1 h v7 v5)) ds (fun v8 ds h =>
  K .norm tm ds h)))))))))
noncomputable def r23_22 : CodeT := fun call _ tm ds h K =>
  kO (binV Try.prog .add 23 true (tg tm 47) (.int .u64 (1))) ds h (fun v0 ds h =>
  K .norm (T.set tm 47 v0) ds h)
noncomputable def l23_23 : Box CodeT := ⟨seqC ⟨r23_14⟩ ⟨seqC ⟨condC ⟨fun _ tm => tg tm 48⟩ skipC (exitC 1)⟩ ⟨seqC ⟨blockC 2 ⟨seqC ⟨r23_15⟩ ⟨seqC ⟨r23_16⟩ ⟨seqC ⟨r23_17⟩ ⟨seqC ⟨seqC ⟨r23_18⟩ ⟨condC ⟨fun _ tm => tg tm 66⟩ ⟨seqC ⟨r23_19⟩ retC⟩ skipC⟩⟩ ⟨seqC ⟨r23_20⟩ ⟨r23_21⟩⟩⟩⟩⟩⟩⟩ ⟨r23_22⟩⟩⟩⟩
noncomputable def r23_23 : CodeT := fun call _ tm ds h0 K =>
  (fun (b0 : Nat) (h : H) =>
  kO (loadAgg 7 h (tg tm 6)) ds h (fun v0 ds h =>
  kO (nilChk (tg tm 7)) ds h (fun v2 ds h =>
  kO (fieldPtr 1 v2) ds h (fun v3 ds h =>
  kO (loadOne h v3) ds h (fun v4 ds h =>
  gd (isB true v4) (fun k => kO (some (tg tm 7)) ds h k) ds h (fun v6 ds h =>
  gd (isB true v4) (fun k => kO (nilChk v6) ds h k) ds h (fun v7 ds h =>
  gd (isB true v4) (fun k => kO (fieldPtr 0 v7) ds h k) ds h (fun v8 ds h =>
  ite2 (isB true v4) (kO (loadOne h v8) ds h (fun v9 ds h =>
  gd (isB true v4) (fun k => kO (lenSl v9) ds h k) ds h (fun v10 ds h =>
  gd (isB true v4) (fun k => kO (binV Try.prog .eql 3 true v10 (.int .i64 (0))) ds h k) ds h (fun v11 ds h =>
  kO (pickV v4 v11 (.bool false)) ds h (fun v12 ds h =>
  kH (withV undef (storeV 7 h (tg tm 4) v0)) ds (fun v13 ds h =>
  andB (hO (loadOne h v8) v9 true) (K .norm (T.set tm 5 v12) ds h)))))))
  (gd (isB true v4) (fun k => kO (lenSl undef) ds h k) ds h (fun v10 ds h =>
  gd (isB true v4) (fun k => kO (binV Try.prog .eql 3 true v10 (.int .i64 (0))) ds h k) ds h (fun v11 ds h =>
  kO (pickV v4 v11 (.bool false)) ds h (fun v12 ds h =>
  kH (withV undef (storeV 7 h (tg tm 4) v0)) ds (fun v13 ds h =>
  K .norm (T.set tm 5 v12) ds h))))))))))))) h0.next ⟨h0.objs, h0.next + 15⟩
noncomputable def r23_24 : CodeT := fun call _ tm ds h K =>
  kO (binV Try.prog .eql 5 true (tg tm 15) (.int .u8 (2))) ds h (fun v0 ds h =>
  K .norm (T.set tm 96 v0) ds h)
noncomputable def r23_25 : CodeT := fun call _ tm ds h K =>
  kO (binV Try.prog .eql 5 true (tg tm 15) (.int .u8 (3))) ds h (fun v0 ds h =>
  K .norm (T.set tm 96 v0) ds h)
noncomputable def r23_26 : CodeT := fun call _ tm ds h K => (⟨opStep ⟨fun call env tm ds h K => kO (some (tg tm 1)) ds h K⟩ ⟨fun v tm => tm⟩ ⟨fun env tm => true⟩
  ⟨opStep ⟨fun call env tm ds h K => kO (lenSl (nthD 0 env)) ds h K⟩ ⟨fun v tm => tm⟩ ⟨fun env tm => true⟩
  ⟨opStep ⟨fun call env tm ds h K => kO (binV Try.prog .neq 3 true (nthD 0 env) (.int .i64 (1))) ds h K⟩ ⟨fun v tm => tm⟩ ⟨fun env tm => true⟩
  ⟨opStep ⟨fun call env tm ds h K => kO (some (nthD 0 env)) ds h K⟩ ⟨fun v tm => tm⟩ ⟨fun env tm => true⟩
  ⟨opStep ⟨fun call env tm ds h K => kO (some (tg tm 1)) ds h K⟩ ⟨fun v tm => tm⟩ ⟨fun env tm => isB false (nthD 0 env)⟩
  ⟨opStep ⟨fun call env tm ds h K => kO (indexSl 1 (nthD 0 env) (.int .i64 (0))) ds h K⟩ ⟨fun v tm => tm⟩ ⟨fun env tm => isB false (nthD 1 env)⟩
  ⟨opStep ⟨fun call env tm ds h K => kO (loadOne h (nthD 0 env)) ds h K⟩ ⟨fun v tm => tm⟩ ⟨fun env tm => isB false (nthD 2 env)⟩
  ⟨opStep ⟨fun call env tm ds h K => kO (binV Try.prog .gtr 5 true (nthD 0 env) (.int .u8 (1))) ds h K⟩ ⟨fun v tm => tm⟩ ⟨fun env tm => isB false (nthD 3 env)⟩
  ⟨opStep ⟨fun call env tm ds h K => kO (pickV (nthD 4 env) (.bool true) (nthD 0 env)) ds h K⟩ ⟨fun v tm => (T.set tm 107 v)⟩ ⟨fun env tm => true⟩
  ⟨fun _ _ tm ds h K => K .norm tm ds h⟩⟩⟩⟩⟩⟩⟩⟩⟩⟩ : Box OpsT).f call [] tm ds h K
noncomputable def r23_27 : CodeT := fun call _ tm ds h K =>
  kO (loadAgg 7 h (tg tm 6)) ds h (fun v0 ds h =>
  kH (withV undef (storeV 7 h (tg tm 4) v0)) ds (fun v1 ds h =>
  K .norm (T.set tm 5 (.bool false)) ds h))
noncomputable def r23_28 : CodeT := fun call _ tm ds h K =>
  kO (indexSl 1 (tg tm 1) (.int .i64 (0))) ds h (fun v1 ds h =>
  kO (loadOne h v1) ds h (fun v2 ds h =>
  kO (binV Try.prog .eql 5 true v2 (.int .u8 (1))) ds h (fun v3 ds h =>
  kO (fieldPtr 5 (tg tm 6)) ds h (fun v4 ds h =>
  kH (withV undef (storeV 1 h v4 v3)) ds (fun v5 ds h =>
  K .norm tm ds h)))))
noncomputable def r23_29 : CodeT := fun call _ tm ds h K =>
  kO (loadAgg 7 h (tg tm 6)) ds h (fun v0 ds h =>
  kH (withV undef (storeV 7 h (tg tm 4) v0)) ds (fun v1 ds h =>
  K .norm (T.set tm 5 (.bool true)) ds h))
noncomputable def r23_30 : CodeT := fun call _ tm ds h K =>
  kO (binV Try.prog .eql 5 true (tg tm 15) (.int .u8 (7))) ds h (fun v0 ds h =>
  K .norm (T.set tm 115 v0) ds h)
noncomputable def r23_31 : CodeT := fun call _ tm ds h K =>
  kO (bytesStr h (tg tm 1)) ds h (fun v1 ds h =>
  kO (fieldPtr 6 (tg tm 6)) ds h (fun v2 ds h =>
  kH (withV undef (storeV 1 h v2 v1)) ds (fun v3 ds h =>
  K .norm tm ds h)))
noncomputable def r23_32 : CodeT := fun call _ tm ds h K =>
  kO (loadAgg 7 h (tg tm 6)) ds h (fun v0 ds h =>
  kH (withV undef (storeV 7 h (tg tm 4) v0)) ds (fun v1 ds h =>
  K .norm (T.set tm 5 (.bool true)) ds h))
noncomputable def r23_33 : CodeT := fun call _ tm ds h K =>
  kO (loadAgg 7 h (tg tm 6)) ds h (fun v0 ds h =>
  kO (lenSl (tg tm 1)) ds h (fun v2 ds h =>
  kO (binV Try.prog .eql 3 true v2 (.int .i64 (0))) ds h (fun v3 ds h =>
  kH (withV undef (storeV 7 h (tg tm 4) v0)) ds (fun v4 ds h =>
  K .norm (T.set tm 5 v3) ds h))))
noncomputable def c23 : Box CodeT := ⟨seqC ⟨r23_0⟩ ⟨seqC ⟨r23_1⟩ ⟨seqC ⟨seqC ⟨r23_2⟩ ⟨blockC 0 ⟨seqC ⟨r23_3⟩ ⟨condC ⟨fun _ tm => tg tm 16⟩ ⟨seqC ⟨seqC ⟨r23_4⟩ ⟨condC ⟨fun _ tm => tg tm 20⟩ ⟨seqC ⟨r23_5⟩ retC⟩ skipC⟩⟩ ⟨seqC ⟨r23_6⟩ ⟨seqC ⟨r23_7⟩ ⟨seqC ⟨r23_8⟩ ⟨seqC ⟨r23_9⟩ ⟨seqC ⟨r23_10⟩ ⟨seqC ⟨seqC ⟨r23_11⟩ ⟨condC ⟨fun _ tm => tg tm 44⟩ ⟨seqC ⟨r23_12⟩ retC⟩ skipC⟩⟩ ⟨seqC ⟨seqC ⟨r23_13⟩ ⟨blockC 1 (loopB l23_23)⟩⟩ ⟨seqC ⟨r23_23⟩ retC⟩⟩⟩⟩⟩⟩⟩⟩⟩ ⟨seqC ⟨seqC ⟨r23_24⟩ ⟨condC ⟨fun _ tm => tg tm 96⟩ skipC ⟨r23_25⟩⟩⟩ ⟨condC ⟨fun _ tm => tg tm 96⟩ ⟨seqC ⟨seqC ⟨r23_26⟩ ⟨condC ⟨fun _ tm => tg tm 107⟩ ⟨seqC ⟨r23_27⟩ retC⟩ skipC⟩⟩ ⟨seqC ⟨r23_28⟩ ⟨seqC ⟨r23_29⟩ retC⟩⟩⟩ ⟨seqC ⟨r23_30⟩ ⟨condC ⟨fun _ tm => tg tm 115⟩ ⟨seqC ⟨r23_31⟩ ⟨seqC ⟨r23_32⟩ retC⟩⟩ skipC⟩⟩⟩⟩⟩⟩⟩⟩ ⟨seqC ⟨r23_33⟩ retC⟩⟩⟩⟩
noncomputable def q23 : Box (T Value → H → Option (List Value)) := ⟨fun tm h => (match loadAgg 7 h (tg tm 4) with | some v => (match (some [tg tm 5] : Option (List Value)) with | some l => some (v :: l) | none => none) | none => none)⟩
/-! 24 cloakroom/cloakroomref16.Cut -/
noncomputable def r24_0 : CodeT := fun call _ tm ds h K =>
  K .norm (T.set (T.set (T.set (T.set tm 4 (.int .u8 (0))) 5 (.slice none 0 0)) 6 (.int .i64 (0))) 7 (.int .i64 (0))) ds h
noncomputable def r24_1 : CodeT := fun call _ tm ds h K =>
  kO (lenSl (tg tm 1)) ds h (fun v1 ds h =>
  kO (binV Try.prog .gtr 3 true v1 (.int .i64 (16384))) ds h (fun v2 ds h =>
  K .norm (T.set tm 12 v2) ds h))
noncomputable def r24_2 : CodeT := fun call _ tm ds h K =>
  K .norm (T.set (T.set (T.set (T.set tm 4 (.int .u8 (0))) 5 (.slice none 0 0)) 6 (.int .i64 (0))) 7 (.int .i64 (3))) ds h
noncomputable def r24_3 : CodeT := fun call _ tm ds h K =>
  kO (lenSl (tg tm 1)) ds h (fun v1 ds h =>
  kO (binV Try.prog .eql 3 true v1 (.int .i64 (0))) ds h (fun v2 ds h =>
  K .norm (T.set tm 15 v2) ds h))
noncomputable def r24_4 : CodeT := fun call _ tm ds h K =>
  K .norm (T.set (T.set (T.set (T.set tm 4 (.int .u8 (0))) 5 (.slice none 0 0)) 6 (.int .i64 (0))) 7 (.int .i64 (0))) ds h
noncomputable def r24_5 : CodeT := fun call _ tm ds h K =>
  kO (indexSl 1 (tg tm 1) (.int .i64 (0))) ds h (fun v1 ds h =>
  kO (loadOne h v1) ds h (fun v2 ds h =>
  kO (binV Try.prog .neq 5 false v2 (tg tm 0)) ds h (fun v4 ds h =>
  K .norm (T.set tm 20 v4) ds h)))
noncomputable def r24_6 : CodeT := fun call _ tm ds h K =>
  K .norm (T.set (T.set (T.set (T.set tm 4 (.int .u8 (0))) 5 (.slice none 0 0)) 6 (.int .i64 (0))) 7 (.int .i64 (8))) ds h
noncomputable def r24_7 : CodeT := fun call _ tm ds h K =>
  kO (lenSl (tg tm 1)) ds h (fun v1 ds h =>
  kO (binV Try.prog .lss 3 true v1 (.int .i64 (6))) ds h (fun v2 ds h =>
  K .norm (T.set tm 23 v2) ds h))
noncomputable def r24_8 : CodeT := fun call _ tm ds h K =>
  K .norm (T.set (T.set (T.set (T.set tm 4 (.int .u8 (0))) 5 (.slice none 0 0)) 6 (.int .i64 (0))) 7 (.int .i64 (0))) ds h
noncomputable def r24_9 : CodeT := fun call _ tm ds h K =>
  call 40 [(tg tm 1)] h (fun v h => (fun v1 ds h =>
  K .norm (T.set tm 8 v1) ds h) v ds h)
noncomputable def r24_10 : CodeT := fun call _ tm ds h K =>
  kO (binV Try.prog .gtr 3 true (tg tm 8) (.int .i64 (4096))) ds h (fun v1 ds h =>
  K .norm (T.set tm 27 v1) ds h)
noncomputable def r24_11 : CodeT := fun call _ tm ds h K =>
  K .norm (T.set (T.set (T.set (T.set tm 4 (.int .u8 (0))) 5 (.slice none 0 0)) 6 (.int .i64 (0))) 7 (.int .i64 (8))) ds h
noncomputable def r24_12 : CodeT := fun call _ tm ds h K =>
  kO (lenSl (tg tm 1)) ds h (fun v1 ds h =>
  kO (binV Try.prog .add 3 true (.int .i64 (6)) (tg tm 8)) ds h (fun v3 ds h =>
  kO (binV Try.prog .lss 3 false v1 v3) ds h (fun v4 ds h =>
  K .norm (T.set tm 32 v4) ds h)))
noncomputable def r24_13 : CodeT := fun call _ tm ds h K =>
  K .norm (T.set (T.set (T.set (T.set tm 4 (.int .u8 (0))) 5 (.slice none 0 0)) 6 (.int .i64 (0))) 7 (.int .i64 (0))) ds h
noncomputable def r24_14 : CodeT := fun call _ tm ds h K =>
  K .norm (T.set tm 9 (.slice none 0 0)) ds h
noncomputable def r24_15 : CodeT := fun call _ tm ds h K =>
  kO (binV Try.prog .add 3 true (.int .i64 (6)) (tg tm 8)) ds h (fun v3 ds h =>
  kO (sliceSl 1 (tg tm 1) (some (.int .i64 (6))) (some v3) none) ds h (fun v4 ds h =>
  kH (appendV 1 1 h (tg tm 9) v4) ds (fun v5 ds h =>
  K .norm (T.set tm 9 v5) ds h)))
noncomputable def r24_16 : CodeT := fun call _ tm ds h K =>
  kO (indexSl 1 (tg tm 1) (.int .i64 (1))) ds h (fun v1 ds h =>
  kO (loadOne h v1) ds h (fun v2 ds h =>
  kO (binV Try.prog .add 3 true (.int .i64 (6)) (tg tm 8)) ds h (fun v5 ds h =>
  K .norm (T.set (T.set (T.set (T.set tm 4 v2) 5 (tg tm 9)) 6 v5) 7 (.int .i64 (0))) ds h)))
noncomputable def c24 : Box CodeT := ⟨seqC ⟨r24_0⟩ ⟨seqC ⟨seqC ⟨r24_1⟩ ⟨condC ⟨fun _ tm => tg tm 12⟩ ⟨seqC ⟨r24_2⟩ retC⟩ skipC⟩⟩ ⟨seqC ⟨seqC ⟨r24_3⟩ ⟨condC ⟨fun _ tm => tg tm 15⟩ ⟨seqC ⟨r24_4⟩ retC⟩ skipC⟩⟩ ⟨seqC ⟨seqC ⟨r24_5⟩ ⟨condC ⟨fun _ tm => tg tm 20⟩ ⟨seqC ⟨r24_6⟩ retC⟩ skipC⟩⟩ ⟨seqC ⟨seqC ⟨r24_7⟩ ⟨condC ⟨fun _ tm => tg tm 23⟩ ⟨seqC ⟨r24_8⟩ retC⟩ skipC⟩⟩ ⟨seqC ⟨r24_9⟩ ⟨seqC ⟨seqC ⟨r24_10⟩ ⟨condC ⟨fun _ tm => tg tm 27⟩ ⟨seqC ⟨r24_11⟩ retC⟩ skipC⟩⟩ ⟨seqC ⟨seqC ⟨r24_12⟩ ⟨condC ⟨fun _ tm => tg tm 32⟩ ⟨seqC ⟨r24_13⟩ retC⟩ skipC⟩⟩ ⟨seqC ⟨r24_14⟩ ⟨seqC ⟨r24_15⟩ ⟨seqC ⟨r24_16⟩ retC⟩⟩⟩⟩⟩⟩⟩⟩⟩⟩⟩
noncomputable def q24 : Box (T Value → H → Option (List Value)) := ⟨fun tm h => some [tg tm 4, tg tm 5, tg tm 6, tg tm 7]⟩
/-! 25 cloakroom/cloakroomref17.Of -/
noncomputable def r25_0 : CodeT := fun call _ tm ds h K =>
  kA (some (.rw [(.int .u8 (0)), (.int .u8 (0)), (.int .u8 (0)), (.slice none 0 0), (.int .u64 (0)), (.bool false), (.string (strB []))], ptrTo h.next)) ds h (fun v0 ds h =>
  K .norm (T.set (T.set tm 4 v0) 5 (.bool false)) ds h)
noncomputable def r25_1 : CodeT := fun call _ tm ds h K =>
  kO (aggO (fill [(.int .u8 (0)), (.int .u8 (0)), (.int .u8 (0)), (.slice none 0 0), (.int .u64 (0)), (.bool false), (.string (strB []))] (plc [(0, 1), (1, 1), (2, 3), (5, 1), (6, 1)]) [(0, (tg tm 0))])) ds h (fun v1 ds h =>
  kA (some (.rw [(.int .u8 (0)), (.int .u8 (0)), (.int .u8 (0)), (.slice none 0 0), (.int .u64 (0)), (.bool false), (.string (strB []))], ptrTo h.next)) ds h (fun v2 ds h =>
  kH (withV undef (storeV 7 h v2 v1)) ds (fun v3 ds h =>
  K .norm (T.set tm 6 v2) ds h)))
noncomputable def r25_2 : CodeT := fun call _ tm ds h K =>
  kO (lenSl (tg tm 1)) ds h (fun v1 ds h =>
  kO (binV Try.prog .eql 3 true v1 (.int .i64 (0))) ds h (fun v2 ds h =>
  K .norm (T.set tm 7 v2) ds h))
noncomputable def r25_3 : CodeT := fun call _ tm ds h K =>
  kO (binV Try.prog .eql 5 true (tg tm 0) (.int .u8 (1))) ds h (fun v1 ds h =>
  K .norm (T.set tm 14 v1) ds h)
noncomputable def r25_4 : CodeT := fun call _ tm ds h K =>
  call 41 [(tg tm 1)] h (fun v h => (fun v1 ds h =>
  kO (tupNth 0 v1) ds h (fun v3 ds h =>
  kO (tupNth 1 v1) ds h (fun v4 ds h =>
  kH (withV undef (storeV 7 h (tg tm 6) v3)) ds (fun v5 ds h =>
  K .norm (T.set tm 7 v4) ds h)))) v ds h)
noncomputable def r25_5 : CodeT := fun call _ tm ds h K =>
  kO (binV Try.prog .eql 5 true (tg tm 0) (.int .u8 (2))) ds h (fun v1 ds h =>
  gd (isB false v1) (fun k => kO (some (tg tm 0)) ds h (k)) ds h (fun v3 ds h =>
  gd (isB false v1) (fun k => kO (binV Try.prog .eql 5 true v3 (.int .u8 (3))) ds h (k)) ds h (fun v4 ds h =>
  kO (pickV v1 (.bool true) v4) ds h (fun v5 ds h =>
  K .norm (T.set tm 25 v5) ds h))))
noncomputable def r25_6 : CodeT := fun call _ tm ds h K => (⟨opStep ⟨fun call env tm ds h K => kO (some (tg tm 1)) ds h K⟩ ⟨fun v tm => tm⟩ ⟨fun env tm => true⟩
  ⟨opStep ⟨fun call env tm ds h K => kO (lenSl (nthD 0 env)) ds h K⟩ ⟨fun v tm => tm⟩ ⟨fun env tm => true⟩
  ⟨opStep ⟨fun call env tm ds h K => kO (binV Try.prog .eql 3 true (nthD 0 env) (.int .i64 (1))) ds h K⟩ ⟨fun v tm => tm⟩ ⟨fun env tm => true⟩
  ⟨opStep ⟨fun call env tm ds h K => kO (some (nthD 0 env)) ds h K⟩ ⟨fun v tm => tm⟩ ⟨fun env tm => true⟩
  ⟨opStep ⟨fun call env tm ds h K => kO (some (tg tm 1)) ds h K⟩ ⟨fun v tm => tm⟩ ⟨fun env tm => isB true (nthD 0 env)⟩
  ⟨opStep ⟨fun call env tm ds h K => kO (indexSl 1 (nthD 0 env) (.int .i64 (0))) ds h K⟩ ⟨fun v tm => tm⟩ ⟨fun env tm => isB true (nthD 1 env)⟩
  ⟨opStep ⟨fun call env tm ds h K => kO (loadOne h (nthD 0 env)) ds h K⟩ ⟨fun v tm => tm⟩ ⟨fun env tm => isB true (nthD 2 env)⟩
  ⟨opStep ⟨fun call env tm ds h K => kO (binV Try.prog .lss 5 true (nthD 0 env) (.int .u8 (2))) ds h K⟩ ⟨fun v tm => tm⟩ ⟨fun env tm => isB true (nthD 3 env)⟩
  ⟨opStep ⟨fun call env tm ds h K => kO (pickV (nthD 4 env) (nthD 0 env) (.bool false)) ds h K⟩ ⟨fun v tm => tm⟩ ⟨fun env tm => true⟩
  ⟨opStep ⟨fun call env tm ds h K => kO (some (nthD 0 env)) ds h K⟩ ⟨fun v tm => (T.set tm 7 v)⟩ ⟨fun env tm => true⟩
  ⟨fun _ _ tm ds h K => K .norm tm ds h⟩⟩⟩⟩⟩⟩⟩⟩⟩⟩⟩ : Box OpsT).f call [] tm ds h K
noncomputable def r25_7 : CodeT := fun call _ tm ds h K => (⟨opStep ⟨fun call env tm ds h K => kO (some (tg tm 7)) ds h K⟩ ⟨fun v tm => tm⟩ ⟨fun env tm => true⟩
  ⟨opStep ⟨fun call env tm ds h K => kO (some (nthD 0 env)) ds h K⟩ ⟨fun v tm => tm⟩ ⟨fun env tm => true⟩
  ⟨opStep ⟨fun call env tm ds h K => kO (some (tg tm 1)) ds h K⟩ ⟨fun v tm => tm⟩ ⟨fun env tm => isB true (nthD 0 env)⟩
  ⟨opStep ⟨fun call env tm ds h K => kO (indexSl 1 (nthD 0 env) (.int .i64 (0))) ds h K⟩ ⟨fun v tm => tm⟩ ⟨fun env tm => isB true (nthD 1 env)⟩
  ⟨opStep ⟨fun call env tm ds h K => kO (loadOne h (nthD 0 env)) ds h K⟩ ⟨fun v tm => tm⟩ ⟨fun env tm => isB true (nthD 2 env)⟩
  ⟨opStep ⟨fun call env tm ds h K => kO (binV Try.prog .eql 5 true (nthD 0 env) (.int .u8 (1))) ds h K⟩ ⟨fun v tm => tm⟩ ⟨fun env tm => isB true (nthD 3 env)⟩
  ⟨opStep ⟨fun call env tm ds h K => kO (pickV (nthD 4 env) (nthD 0 env) (.bool false)) ds h K⟩ ⟨fun v tm => tm⟩ ⟨fun env tm => true⟩
  ⟨opStep ⟨fun call env tm ds h K => kO (fieldPtr 5 (tg tm 6)) ds h K⟩ ⟨fun v tm => tm⟩ ⟨fun env tm => true⟩
  ⟨opStep ⟨fun call env tm ds h K => kH (withV undef (storeV 1 h (nthD 0 env) (nthD 1 env))) ds (K)⟩ ⟨fun v tm => tm⟩ ⟨fun env tm => true⟩
  ⟨fun _ _ tm ds h K => K .norm tm ds h⟩⟩⟩⟩⟩⟩⟩⟩⟩⟩ : Box OpsT).f call [] tm ds h K
noncomputable def r25_8 : CodeT := fun call _ tm ds h K =>
  kO (binV Try.prog .eql 5 true (tg tm 0) (.int .u8 (7))) ds h (fun v1 ds h =>
  K .norm (T.set tm 44 v1) ds h)
noncomputable def r25_9 : CodeT := fun call _ tm ds h K =>
  K .norm (T.set tm 7 (.bool true)) ds h
noncomputable def r25_10 : CodeT := fun call _ tm ds h K =>
  kO (bytesStr h (tg tm 1)) ds h (fun v1 ds h =>
  kO (fieldPtr 6 (tg tm 6)) ds h (fun v2 ds h =>
  kH (withV undef (storeV 1 h v2 v1)) ds (fun v3 ds h =>
  K .norm tm ds h)))
noncomputable def r25_11 : CodeT := fun call _ tm ds h0 K =>
  (fun (b0 : Nat) (h : H) =>
  kO (loadAgg 7 h (tg tm 6)) ds h (fun v0 ds h =>
  ite2 (isB true (tg tm 7)) (kO (loadAgg 7 h (tg tm 6)) ds h (fun v3 ds h =>
  ite2 (isB true (tg tm 7)) (call 19 [v3] h (fun v h => (fun v4 ds h =>
  andB (hO (loadAgg 7 h (tg tm 6)) v0 true) (kO (pickV (tg tm 7) v4 (.bool false)) ds h (fun v5 ds h =>
  kH (withV undef (storeV 7 h (tg tm 4) v0)) ds (fun v6 ds h =>
  K .norm (T.set tm 5 v5) ds h)))) v ds h))
  (kO (pickV (tg tm 7) undef (.bool false)) ds h (fun v5 ds h =>
  kH (withV undef (storeV 7 h (tg tm 4) v0)) ds (fun v6 ds h =>
  K .norm (T.set tm 5 v5) ds h)))))
  (ite2 (isB true (tg tm 7)) (call 19 [undef] h (fun v h => (fun v4 ds h =>
  andB (hO (loadAgg 7 h (tg tm 6)) v0 true) (kO (pickV (tg tm 7) v4 (.bool false)) ds h (fun v5 ds h =>
  kH (withV undef (storeV 7 h (tg tm 4) v0)) ds (fun v6 ds h =>
  K .norm (T.set tm 5 v5) ds h)))) v ds h))
  (kO (pickV (tg tm 7) undef (.bool false)) ds h (fun v5 ds h =>
  kH (withV undef (storeV 7 h (tg tm 4) v0)) ds (fun v6 ds h =>
  K .norm (T.set tm 5 v5) ds h)))))) h0.next ⟨h0.objs, h0.next + 8⟩
noncomputable def c25 : Box CodeT := ⟨seqC ⟨r25_0⟩ ⟨seqC ⟨r25_1⟩ ⟨seqC ⟨r25_2⟩ ⟨seqC ⟨seqC ⟨r25_3⟩ ⟨condC ⟨fun _ tm => tg tm 14⟩ ⟨r25_4⟩ skipC⟩⟩ ⟨seqC ⟨seqC ⟨r25_5⟩ ⟨condC ⟨fun _ tm => tg tm 25⟩ ⟨seqC ⟨r25_6⟩ ⟨r25_7⟩⟩ skipC⟩⟩ ⟨seqC ⟨seqC ⟨r25_8⟩ ⟨condC ⟨fun _ tm => tg tm 44⟩ ⟨seqC ⟨r25_9⟩ ⟨r25_10⟩⟩ skipC⟩⟩ ⟨seqC ⟨r25_11⟩ retC⟩⟩⟩⟩⟩⟩⟩
noncomputable def q25 : Box (T Value → H → Option (List Value)) := ⟨fun tm h => (match loadAgg 7 h (tg tm 4) with | some v => (match (some [tg tm 5] : Option (List Value)) with | some l => some (v :: l) | none => none) | none => none)⟩
/-! 26 cloakroom/cloakroomref10.Same -/
noncomputable def r26_0 : CodeT := fun call _ tm ds h K =>
  kA (some (.rw (Value.cells (tg tm 0)).toList, ptrTo h.next)) ds h (fun v0 ds h =>
  kA (some (.rw (Value.cells (tg (T.set tm 2 v0) 1)).toList, ptrTo h.next)) ds h (fun v1 ds h =>
  K .norm (T.set (T.set (T.set tm 2 v0) 3 v1) 4 (.bool false)) ds h))
noncomputable def r26_1 : CodeT := fun call _ tm ds h K => (⟨opStep ⟨fun call env tm ds h K => kO (fieldPtr 0 (tg tm 2)) ds h K⟩ ⟨fun v tm => tm⟩ ⟨fun env tm => true⟩
  ⟨opStep ⟨fun call env tm ds h K => kO (loadOne h (nthD 0 env)) ds h K⟩ ⟨fun v tm => tm⟩ ⟨fun env tm => true⟩
  ⟨opStep ⟨fun call env tm ds h K => kO (fieldPtr 0 (tg tm 3)) ds h K⟩ ⟨fun v tm => tm⟩ ⟨fun env tm => true⟩
  ⟨opStep ⟨fun call env tm ds h K => kO (loadOne h (nthD 0 env)) ds h K⟩ ⟨fun v tm => tm⟩ ⟨fun env tm => true⟩
  ⟨opStep ⟨fun call env tm ds h K => kO (binV Try.prog .neq 5 false (nthD 2 env) (nthD 0 env)) ds h K⟩ ⟨fun v tm => tm⟩ ⟨fun env tm => true⟩
  ⟨opStep ⟨fun call env tm ds h K => kO (some (nthD 0 env)) ds h K⟩ ⟨fun v tm => tm⟩ ⟨fun env tm => true⟩
  ⟨opStep ⟨fun call env tm ds h K => kO (fieldPtr 2 (tg tm 2)) ds h K⟩ ⟨fun v tm => tm⟩ ⟨fun env tm => isB false (nthD 0 env)⟩
  ⟨opStep ⟨fun call env tm ds h K => kO (loadOne h (nthD 0 env)) ds h K⟩ ⟨fun v tm => tm⟩ ⟨fun env tm => isB false (nthD 1 env)⟩
  ⟨opStep ⟨fun call env tm ds h K => kO (fieldPtr 2 (tg tm 3)) ds h K⟩ ⟨fun v tm => tm⟩ ⟨fun env tm => isB false (nthD 2 env)⟩
  ⟨opStep ⟨fun call env tm ds h K => kO (loadOne h (nthD 0 env)) ds h K⟩ ⟨fun v tm => tm⟩ ⟨fun env tm => isB false (nthD 3 env)⟩
  ⟨opStep ⟨fun call env tm ds h K => kO (binV Try.prog .neq 23 false (nthD 2 env) (nthD 0 env)) ds h K⟩ ⟨fun v tm => tm⟩ ⟨fun env tm => isB false (nthD 4 env)⟩
  ⟨opStep ⟨fun call env tm ds h K => kO (pickV (nthD 5 env) (.bool true) (nthD 0 env)) ds h K⟩ ⟨fun v tm => tm⟩ ⟨fun env tm => true⟩
  ⟨opStep ⟨fun call env tm ds h K => kO (some (nthD 0 env)) ds h K⟩ ⟨fun v tm => tm⟩ ⟨fun env tm => true⟩
  ⟨opStep ⟨fun call env tm ds h K => kO (fieldPtr 1 (tg tm 2)) ds h K⟩ ⟨fun v tm => tm⟩ ⟨fun env tm => isB false (nthD 0 env)⟩
  ⟨opStep ⟨fun call env tm ds h K => kO (loadOne h (nthD 0 env)) ds h K⟩ ⟨fun v tm => tm⟩ ⟨fun env tm => isB false (nthD 1 env)⟩
  ⟨opStep ⟨fun call env tm ds h K => kO (lenSl (nthD 0 env)) ds h K⟩ ⟨fun v tm => tm⟩ ⟨fun env tm => isB false (nthD 2 env)⟩
  ⟨opStep ⟨fun call env tm ds h K => kO (fieldPtr 1 (tg tm 3)) ds h K⟩ ⟨fun v tm => tm⟩ ⟨fun env tm => isB false (nthD 3 env)⟩
  ⟨opStep ⟨fun call env tm ds h K => kO (loadOne h (nthD 0 env)) ds h K⟩ ⟨fun v tm => tm⟩ ⟨fun env tm => isB false (nthD 4 env)⟩
  ⟨opStep ⟨fun call env tm ds h K => kO (lenSl (nthD 0 env)) ds h K⟩ ⟨fun v tm => tm⟩ ⟨fun env tm => isB false (nthD 5 env)⟩
  ⟨opStep ⟨fun call env tm ds h K => kO (binV Try.prog .neq 3 false (nthD 3 env) (nthD 0 env)) ds h K⟩ ⟨fun v tm => tm⟩ ⟨fun env tm => isB false (nthD 6 env)⟩
  ⟨opStep ⟨fun call env tm ds h K => kO (pickV (nthD 7 env) (.bool true) (nthD 0 env)) ds h K⟩ ⟨fun v tm => (T.set tm 26 v)⟩ ⟨fun env tm => true⟩
  ⟨fun _ _ tm ds h K => K .norm tm ds h⟩⟩⟩⟩⟩⟩⟩⟩⟩⟩⟩⟩⟩⟩⟩⟩⟩⟩⟩⟩⟩⟩ : Box OpsT).f call [] tm ds h K
noncomputable def r26_2 : CodeT := fun call _ tm ds h K =>
  K .norm (T.set tm 4 (.bool false)) ds h
noncomputable def r26_3 : CodeT := fun call _ tm ds h K =>
  K .norm (T.set tm 5 (.int .i64 (0))) ds h
noncomputable def r26_4 : CodeT := fun call _ tm ds h K =>
  kO (fieldPtr 1 (tg tm 2)) ds h (fun v1 ds h =>
  kO (loadOne h v1) ds h (fun v2 ds h =>
  kO (lenSl v2) ds h (fun v3 ds h =>
  kO (binV Try.prog .lss 3 false (tg tm 5) v3) ds h (fun v4 ds h =>
  K .norm (T.set tm 31 v4) ds h))))
noncomputable def r26_6 : CodeT := fun call _ tm ds h0 K =>
  (fun (b0 : Nat) (h : H) =>
  kO (fieldPtr 1 (tg tm 2)) ds h (fun v0 ds h =>
  kO (loadOne h v0) ds h (fun v1 ds h =>
  kO (indexSl 5 v1 (tg tm 5)) ds h (fun v3 ds h =>
  kO (loadAgg 5 h v3) ds h (fun v4 ds h =>
  kO (fieldPtr 1 (tg tm 3)) ds h (fun v5 ds h =>
  kO (loadOne h v5) ds h (fun v6 ds h =>
  kO (indexSl 5 v6 (tg tm 5)) ds h (fun v8 ds h =>
  kO (loadAgg 5 h v8) ds h (fun v9 ds h =>
  kO (binV Try.prog .neq 43 false v4 v9) ds h (fun v10 ds h =>
  K .norm (T.set tm 44 v10) ds h)))))))))) h0.next ⟨h0.objs, h0.next + 11⟩
noncomputable def r26_7 : CodeT := fun call _ tm ds h K =>
  K .norm (T.set tm 4 (.bool false)) ds h
noncomputable def r26_5 : CodeT := fun call _ tm ds h K =>
  kO (binV Try.prog .add 3 true (tg tm 5) (.int .i64 (1))) ds h (fun v1 ds h =>
  K .norm (T.set tm 5 v1) ds h)
noncomputable def l26_8 : Box CodeT := ⟨seqC ⟨seqC ⟨r26_4⟩ ⟨condC ⟨fun _ tm => tg tm 31⟩ skipC (exitC 0)⟩⟩ ⟨seqC ⟨blockC 1 ⟨seqC ⟨r26_6⟩ ⟨condC ⟨fun _ tm => tg tm 44⟩ ⟨seqC ⟨r26_7⟩ retC⟩ skipC⟩⟩⟩ ⟨r26_5⟩⟩⟩
noncomputable def r26_8 : CodeT := fun call _ tm ds h K =>
  K .norm (T.set tm 4 (.bool true)) ds h
noncomputable def c26 : Box CodeT := ⟨seqC ⟨r26_0⟩ ⟨seqC ⟨seqC ⟨r26_1⟩ ⟨condC ⟨fun _ tm => tg tm 26⟩ ⟨seqC ⟨r26_2⟩ retC⟩ skipC⟩⟩ ⟨seqC ⟨seqC ⟨r26_3⟩ ⟨blockC 0 (loopB l26_8)⟩⟩ ⟨seqC ⟨r26_8⟩ retC⟩⟩⟩⟩
noncomputable def q26 : Box (T Value → H → Option (List Value)) := ⟨fun tm h => some [tg tm 4]⟩
/-! 27 cloakroom/words.result -/
noncomputable def r27_0 : CodeT := fun call _ tm ds h K =>
  kA (some (.rw (Value.cells (tg tm 1)).toList, ptrTo h.next)) ds h (fun v0 ds h =>
  K .norm (T.set (T.set tm 3 v0) 4 (.bool false)) ds h)
noncomputable def r27_1 : CodeT := fun call _ tm ds h K =>
  kO (fieldPtr 0 (tg tm 3)) ds h (fun v0 ds h =>
  kO (loadOne h v0) ds h (fun v1 ds h =>
  kO (binV Try.prog .eql 5 true v1 (.int .u8 (1))) ds h (fun v2 ds h =>
  K .norm (T.set tm 5 v2) ds h)))
noncomputable def r27_2 : CodeT := fun call _ tm ds h K =>
  kO (binV Try.prog .lss 5 true (tg tm 0) (.int .u8 (1))) ds h (fun v1 ds h =>
  K .norm (T.set tm 9 v1) ds h)
noncomputable def r27_3 : CodeT := fun call _ tm ds h K =>
  kO (binV Try.prog .gtr 5 true (tg tm 0) (.int .u8 (11))) ds h (fun v1 ds h =>
  K .norm (T.set tm 9 v1) ds h)
noncomputable def r27_4 : CodeT := fun call _ tm ds h K =>
  kO (fieldPtr 0 (tg tm 3)) ds h (fun v0 ds h =>
  kO (loadOne h v0) ds h (fun v1 ds h =>
  kO (binV Try.prog .lss 5 true v1 (.int .u8 (1))) ds h (fun v2 ds h =>
  K .norm (T.set tm 9 v2) ds h)))
noncomputable def r27_5 : CodeT := fun call _ tm ds h K =>
  kO (fieldPtr 0 (tg tm 3)) ds h (fun v0 ds h =>
  kO (loadOne h v0) ds h (fun v1 ds h =>
  kO (binV Try.prog .gtr 5 true v1 (.int .u8 (7))) ds h (fun v2 ds h =>
  K .norm (T.set tm 9 v2) ds h)))
noncomputable def r27_6 : CodeT := fun call _ tm ds h K =>
  K .norm (T.set tm 4 (.bool false)) ds h
noncomputable def r27_7 : CodeT := fun call _ tm ds h K => (⟨opStep ⟨fun call env tm ds h K => kO (fieldPtr 1 (tg tm 3)) ds h K⟩ ⟨fun v tm => tm⟩ ⟨fun env tm => true⟩
  ⟨opStep ⟨fun call env tm ds h K => kO (loadOne h (nthD 0 env)) ds h K⟩ ⟨fun v tm => tm⟩ ⟨fun env tm => true⟩
  ⟨opStep ⟨fun call env tm ds h K => kO (lenSl (nthD 0 env)) ds h K⟩ ⟨fun v tm => tm⟩ ⟨fun env tm => true⟩
  ⟨opStep ⟨fun call env tm ds h K => kO (binV Try.prog .gtr 3 true (nthD 0 env) (.int .i64 (0))) ds h K⟩ ⟨fun v tm => tm⟩ ⟨fun env tm => true⟩
  ⟨opStep ⟨fun call env tm ds h K => kO (some (nthD 0 env)) ds h K⟩ ⟨fun v tm => tm⟩ ⟨fun env tm => true⟩
  ⟨opStep ⟨fun call env tm ds h K => kO (some (tg tm 5)) ds h K⟩ ⟨fun v tm => tm⟩ ⟨fun env tm => isB true (nthD 0 env)⟩
  ⟨opStep ⟨fun call env tm ds h K => kO (some (nthD 0 env)) ds h K⟩ ⟨fun v tm => tm⟩ ⟨fun env tm => isB true (nthD 1 env)⟩
  ⟨opStep ⟨fun call env tm ds h K => kO (some (tg tm 0)) ds h K⟩ ⟨fun v tm => tm⟩ ⟨fun env tm => isB true (nthD 0 env)⟩
  ⟨opStep ⟨fun call env tm ds h K => kO (binV Try.prog .eql 5 true (nthD 0 env) (.int .u8 (1))) ds h K⟩ ⟨fun v tm => tm⟩ ⟨fun env tm => isB true (nthD 1 env)⟩
  ⟨opStep ⟨fun call env tm ds h K => kO (pickV (nthD 2 env) (nthD 0 env) (.bool false)) ds h K⟩ ⟨fun v tm => tm⟩ ⟨fun env tm => isB true (nthD 4 env)⟩
  ⟨opStep ⟨fun call env tm ds h K => kO (unV .not (nthD 0 env)) ds h K⟩ ⟨fun v tm => tm⟩ ⟨fun env tm => isB true (nthD 5 env)⟩
  ⟨opStep ⟨fun call env tm ds h K => kO (pickV (nthD 6 env) (nthD 0 env) (.bool false)) ds h K⟩ ⟨fun v tm => tm⟩ ⟨fun env tm => true⟩
  ⟨opStep ⟨fun call env tm ds h K => kO (some (nthD 0 env)) ds h K⟩ ⟨fun v tm => (T.set tm 20 v)⟩ ⟨fun env tm => true⟩
  ⟨fun _ _ tm ds h K => K .norm tm ds h⟩⟩⟩⟩⟩⟩⟩⟩⟩⟩⟩⟩⟩⟩ : Box OpsT).f call [] tm ds h K
noncomputable def r27_8 : CodeT := fun call _ tm ds h K =>
  kO (fieldPtr 1 (tg tm 3)) ds h (fun v0 ds h =>
  kO (loadOne h v0) ds h (fun v1 ds h =>
  kO (lenSl v1) ds h (fun v2 ds h =>
  kO (binV Try.prog .gtr 3 true v2 (.int .i64 (8))) ds h (fun v3 ds h =>
  K .norm (T.set tm 20 v3) ds h))))
noncomputable def r27_9 : CodeT := fun call _ tm ds h K =>
  K .norm (T.set tm 4 (.bool false)) ds h
noncomputable def r27_10 : CodeT := fun call _ tm ds h K => (⟨opStep ⟨fun call env tm ds h K => kO (fieldPtr 2 (tg tm 3)) ds h K⟩ ⟨fun v tm => tm⟩ ⟨fun env tm => true⟩
  ⟨opStep ⟨fun call env tm ds h K => kO (loadOne h (nthD 0 env)) ds h K⟩ ⟨fun v tm => tm⟩ ⟨fun env tm => true⟩
  ⟨opStep ⟨fun call env tm ds h K => kO (binV Try.prog .neq 23 true (nthD 0 env) (.int .u64 (0))) ds h K⟩ ⟨fun v tm => tm⟩ ⟨fun env tm => true⟩
  ⟨opStep ⟨fun call env tm ds h K => kO (some (nthD 0 env)) ds h K⟩ ⟨fun v tm => tm⟩ ⟨fun env tm => true⟩
  ⟨opStep ⟨fun call env tm ds h K => kO (some (tg tm 5)) ds h K⟩ ⟨fun v tm => tm⟩ ⟨fun env tm => isB true (nthD 0 env)⟩
  ⟨opStep ⟨fun call env tm ds h K => kO (some (nthD 0 env)) ds h K⟩ ⟨fun v tm => tm⟩ ⟨fun env tm => isB true (nthD 1 env)⟩
  ⟨opStep ⟨fun call env tm ds h K => kO (some (tg tm 0)) ds h K⟩ ⟨fun v tm => tm⟩ ⟨fun env tm => isB true (nthD 0 env)⟩
  ⟨opStep ⟨fun call env tm ds h K => call 42 [(nthD 0 env)] h (fun v h => (K) v ds h)⟩ ⟨fun v tm => tm⟩ ⟨fun env tm => isB true (nthD 1 env)⟩
  ⟨opStep ⟨fun call env tm ds h K => kO (pickV (nthD 2 env) (nthD 0 env) (.bool false)) ds h K⟩ ⟨fun v tm => tm⟩ ⟨fun env tm => isB true (nthD 4 env)⟩
  ⟨opStep ⟨fun call env tm ds h K => kO (unV .not (nthD 0 env)) ds h K⟩ ⟨fun v tm => tm⟩ ⟨fun env tm => isB true (nthD 5 env)⟩
  ⟨opStep ⟨fun call env tm ds h K => kO (pickV (nthD 6 env) (nthD 0 env) (.bool false)) ds h K⟩ ⟨fun v tm => tm⟩ ⟨fun env tm => true⟩
  ⟨opStep ⟨fun call env tm ds h K => kO (some (nthD 0 env)) ds h K⟩ ⟨fun v tm => (T.set tm 37 v)⟩ ⟨fun env tm => true⟩
  ⟨fun _ _ tm ds h K => K .norm tm ds h⟩⟩⟩⟩⟩⟩⟩⟩⟩⟩⟩⟩⟩ : Box OpsT).f call [] tm ds h K
noncomputable def r27_11 : CodeT := fun call _ tm ds h K => (⟨opStep ⟨fun call env tm ds h K => kO (some (tg tm 0)) ds h K⟩ ⟨fun v tm => tm⟩ ⟨fun env tm => true⟩
  ⟨opStep ⟨fun call env tm ds h K => kO (binV Try.prog .eql 5 true (nthD 0 env) (.int .u8 (10))) ds h K⟩ ⟨fun v tm => tm⟩ ⟨fun env tm => true⟩
  ⟨opStep ⟨fun call env tm ds h K => kO (some (nthD 0 env)) ds h K⟩ ⟨fun v tm => tm⟩ ⟨fun env tm => true⟩
  ⟨opStep ⟨fun call env tm ds h K => kO (fieldPtr 2 (tg tm 3)) ds h K⟩ ⟨fun v tm => tm⟩ ⟨fun env tm => isB true (nthD 0 env)⟩
  ⟨opStep ⟨fun call env tm ds h K => kO (loadOne h (nthD 0 env)) ds h K⟩ ⟨fun v tm => tm⟩ ⟨fun env tm => isB true (nthD 1 env)⟩
  ⟨opStep ⟨fun call env tm ds h K => kO (binV Try.prog .gtr 23 true (nthD 0 env) (.int .u64 (8))) ds h K⟩ ⟨fun v tm => tm⟩ ⟨fun env tm => isB true (nthD 2 env)⟩
  ⟨opStep ⟨fun call env tm ds h K => kO (pickV (nthD 3 env) (nthD 0 env) (.bool false)) ds h K⟩ ⟨fun v tm => tm⟩ ⟨fun env tm => true⟩
  ⟨opStep ⟨fun call env tm ds h K => kO (some (nthD 0 env)) ds h K⟩ ⟨fun v tm => (T.set tm 37 v)⟩ ⟨fun env tm => true⟩
  ⟨fun _ _ tm ds h K => K .norm tm ds h⟩⟩⟩⟩⟩⟩⟩⟩⟩ : Box OpsT).f call [] tm ds h K
noncomputable def r27_12 : CodeT := fun call _ tm ds h K =>
  K .norm (T.set tm 4 (.bool false)) ds h
noncomputable def r27_13 : CodeT := fun call _ tm ds h K =>
  kO (fieldPtr 1 (tg tm 3)) ds h (fun v0 ds h =>
  kO (loadOne h v0) ds h (fun v1 ds h =>
  call 43 [v1, (.func (.func 44) #[] #[])] h (fun v h => (fun v2 ds h =>
  kO (unV .not v2) ds h (fun v3 ds h =>
  K .norm (T.set tm 4 v3) ds h)) v ds h)))
noncomputable def c27 : Box CodeT := ⟨seqC ⟨r27_0⟩ ⟨seqC ⟨r27_1⟩ ⟨seqC ⟨blockC 0 ⟨seqC ⟨seqC ⟨r27_2⟩ ⟨condC ⟨fun _ tm => tg tm 9⟩ skipC ⟨seqC ⟨r27_3⟩ ⟨condC ⟨fun _ tm => tg tm 9⟩ skipC ⟨seqC ⟨r27_4⟩ ⟨condC ⟨fun _ tm => tg tm 9⟩ skipC ⟨r27_5⟩⟩⟩⟩⟩⟩⟩ ⟨condC ⟨fun _ tm => tg tm 9⟩ ⟨seqC ⟨r27_6⟩ retC⟩ ⟨seqC ⟨seqC ⟨r27_7⟩ ⟨condC ⟨fun _ tm => tg tm 20⟩ skipC ⟨r27_8⟩⟩⟩ ⟨condC ⟨fun _ tm => tg tm 20⟩ ⟨seqC ⟨r27_9⟩ retC⟩ ⟨seqC ⟨seqC ⟨r27_10⟩ ⟨condC ⟨fun _ tm => tg tm 37⟩ skipC ⟨r27_11⟩⟩⟩ ⟨condC ⟨fun _ tm => tg tm 37⟩ ⟨seqC ⟨r27_12⟩ retC⟩ skipC⟩⟩⟩⟩⟩⟩⟩ ⟨seqC ⟨r27_13⟩ retC⟩⟩⟩⟩
noncomputable def q27 : Box (T Value → H → Option (List Value)) := ⟨fun tm h => some [tg tm 4]⟩
/-! 29 cloakroom/code.Small -/
noncomputable def r29_0 : CodeT := fun call _ tm ds h K =>
  K .norm (T.set tm 2 (.slice none 0 0)) ds h
noncomputable def r29_1 : CodeT := fun call _ tm ds h K =>
  K .norm (T.set tm 3 (.slice none 0 0)) ds h
noncomputable def r29_2 : CodeT := fun call _ tm ds h K =>
  kO (binV Try.prog .gtr 23 true (tg tm 0) (.int .u64 (127))) ds h (fun v1 ds h =>
  K .norm (T.set tm 5 v1) ds h)
noncomputable def r29_4 : CodeT := fun call _ tm ds h K =>
  kO (toInt .u8 (tg tm 0)) ds h (fun v2 ds h =>
  kO (binV Try.prog .or 5 true v2 (.int .u8 (128))) ds h (fun v3 ds h =>
  kA (mkLit 1 h.next (fill (repl [(.int .u8 (0))] 1) (pl 1) [(0, v3)])) ds h (fun v4 ds h =>
  kH (appendV 1 1 h (tg tm 3) v4) ds (fun v5 ds h =>
  K .norm (T.set tm 3 v5) ds h))))
noncomputable def r29_3 : CodeT := fun call _ tm ds h K =>
  kO (binV Try.prog .shr 23 true (tg tm 0) (.int .u64 (7))) ds h (fun v1 ds h =>
  K .norm (T.set tm 0 v1) ds h)
noncomputable def l29_5 : Box CodeT := ⟨seqC ⟨seqC ⟨r29_2⟩ ⟨condC ⟨fun _ tm => tg tm 5⟩ skipC (exitC 0)⟩⟩ ⟨seqC ⟨blockC 1 ⟨r29_4⟩⟩ ⟨r29_3⟩⟩⟩
noncomputable def r29_5 : CodeT := fun call _ tm ds h K =>
  kO (toInt .u8 (tg tm 0)) ds h (fun v2 ds h =>
  kA (mkLit 1 h.next (fill (repl [(.int .u8 (0))] 1) (pl 1) [(0, v2)])) ds h (fun v3 ds h =>
  kH (appendV 1 1 h (tg tm 3) v3) ds (fun v4 ds h =>
  K .norm (T.set tm 2 v4) ds h)))
noncomputable def c29 : Box CodeT := ⟨seqC ⟨r29_0⟩ ⟨seqC ⟨r29_1⟩ ⟨seqC ⟨blockC 0 (loopB l29_5)⟩ ⟨seqC ⟨r29_5⟩ retC⟩⟩⟩⟩
noncomputable def q29 : Box (T Value → H → Option (List Value)) := ⟨fun tm h => some [tg tm 2]⟩
/-! 32 cloakroom/cloakroomref15.counts -/
noncomputable def r32_0 : CodeT := fun call _ tm ds h K =>
  K .norm (T.set tm 2 (.bool false)) ds h
noncomputable def r32_1 : CodeT := fun call _ tm ds h K => (⟨opStep ⟨fun call env tm ds h K => kO (some (tg tm 0)) ds h K⟩ ⟨fun v tm => tm⟩ ⟨fun env tm => true⟩
  ⟨opStep ⟨fun call env tm ds h K => kO (binV Try.prog .eql 5 true (nthD 0 env) (.int .u8 (6))) ds h K⟩ ⟨fun v tm => tm⟩ ⟨fun env tm => true⟩
  ⟨opStep ⟨fun call env tm ds h K => kO (some (nthD 0 env)) ds h K⟩ ⟨fun v tm => tm⟩ ⟨fun env tm => true⟩
  ⟨opStep ⟨fun call env tm ds h K => kO (some (tg tm 0)) ds h K⟩ ⟨fun v tm => tm⟩ ⟨fun env tm => isB false (nthD 0 env)⟩
  ⟨opStep ⟨fun call env tm ds h K => kO (binV Try.prog .eql 5 true (nthD 0 env) (.int .u8 (7))) ds h K⟩ ⟨fun v tm => tm⟩ ⟨fun env tm => isB false (nthD 1 env)⟩
  ⟨opStep ⟨fun call env tm ds h K => kO (pickV (nthD 2 env) (.bool true) (nthD 0 env)) ds h K⟩ ⟨fun v tm => tm⟩ ⟨fun env tm => true⟩
  ⟨opStep ⟨fun call env tm ds h K => kO (some (nthD 0 env)) ds h K⟩ ⟨fun v tm => tm⟩ ⟨fun env tm => true⟩
  ⟨opStep ⟨fun call env tm ds h K => kO (some (tg tm 0)) ds h K⟩ ⟨fun v tm => tm⟩ ⟨fun env tm => isB false (nthD 0 env)⟩
  ⟨opStep ⟨fun call env tm ds h K => kO (binV Try.prog .eql 5 true (nthD 0 env) (.int .u8 (10))) ds h K⟩ ⟨fun v tm => tm⟩ ⟨fun env tm => isB false (nthD 1 env)⟩
  ⟨opStep ⟨fun call env tm ds h K => kO (pickV (nthD 2 env) (.bool true) (nthD 0 env)) ds h K⟩ ⟨fun v tm => tm⟩ ⟨fun env tm => true⟩
  ⟨opStep ⟨fun call env tm ds h K => kO (some (nthD 0 env)) ds h K⟩ ⟨fun v tm => (T.set tm 2 v)⟩ ⟨fun env tm => true⟩
  ⟨fun _ _ tm ds h K => K .norm tm ds h⟩⟩⟩⟩⟩⟩⟩⟩⟩⟩⟩⟩ : Box OpsT).f call [] tm ds h K
noncomputable def c32 : Box CodeT := ⟨seqC ⟨r32_0⟩ ⟨seqC ⟨r32_1⟩ retC⟩⟩
noncomputable def q32 : Box (T Value → H → Option (List Value)) := ⟨fun tm h => some [tg tm 2]⟩
/-! 33 cloakroom/cloakroomref09.Check -/
noncomputable def r33_0 : CodeT := fun call _ tm ds h K =>
  kA (some (.rw (Value.cells (tg tm 0)).toList, ptrTo h.next)) ds h (fun v0 ds h =>
  K .norm (T.set (T.set tm 1 v0) 2 (.int .i64 (0))) ds h)
noncomputable def r33_1 : CodeT := fun call _ tm ds h K => (⟨opStep ⟨fun call env tm ds h K => kO (fieldPtr 0 (tg tm 1)) ds h K⟩ ⟨fun v tm => tm⟩ ⟨fun env tm => true⟩
  ⟨opStep ⟨fun call env tm ds h K => kO (loadOne h (nthD 0 env)) ds h K⟩ ⟨fun v tm => tm⟩ ⟨fun env tm => true⟩
  ⟨opStep ⟨fun call env tm ds h K => kO (lenStr (nthD 0 env)) ds h K⟩ ⟨fun v tm => tm⟩ ⟨fun env tm => true⟩
  ⟨opStep ⟨fun call env tm ds h K => kO (binV Try.prog .lss 3 true (nthD 0 env) (.int .i64 (1))) ds h K⟩ ⟨fun v tm => tm⟩ ⟨fun env tm => true⟩
  ⟨opStep ⟨fun call env tm ds h K => kO (some (nthD 0 env)) ds h K⟩ ⟨fun v tm => tm⟩ ⟨fun env tm => true⟩
  ⟨opStep ⟨fun call env tm ds h K => kO (fieldPtr 0 (tg tm 1)) ds h K⟩ ⟨fun v tm => tm⟩ ⟨fun env tm => isB false (nthD 0 env)⟩
  ⟨opStep ⟨fun call env tm ds h K => kO (loadOne h (nthD 0 env)) ds h K⟩ ⟨fun v tm => tm⟩ ⟨fun env tm => isB false (nthD 1 env)⟩
  ⟨opStep ⟨fun call env tm ds h K => kO (lenStr (nthD 0 env)) ds h K⟩ ⟨fun v tm => tm⟩ ⟨fun env tm => isB false (nthD 2 env)⟩
  ⟨opStep ⟨fun call env tm ds h K => kO (binV Try.prog .gtr 3 true (nthD 0 env) (.int .i64 (32))) ds h K⟩ ⟨fun v tm => tm⟩ ⟨fun env tm => isB false (nthD 3 env)⟩
  ⟨opStep ⟨fun call env tm ds h K => kO (pickV (nthD 4 env) (.bool true) (nthD 0 env)) ds h K⟩ ⟨fun v tm => tm⟩ ⟨fun env tm => true⟩
  ⟨opStep ⟨fun call env tm ds h K => kO (some (nthD 0 env)) ds h K⟩ ⟨fun v tm => tm⟩ ⟨fun env tm => true⟩
  ⟨opStep ⟨fun call env tm ds h K => kO (fieldPtr 1 (tg tm 1)) ds h K⟩ ⟨fun v tm => tm⟩ ⟨fun env tm => isB false (nthD 0 env)⟩
  ⟨opStep ⟨fun call env tm ds h K => kO (loadOne h (nthD 0 env)) ds h K⟩ ⟨fun v tm => tm⟩ ⟨fun env tm => isB false (nthD 1 env)⟩
  ⟨opStep ⟨fun call env tm ds h K => kO (lenStr (nthD 0 env)) ds h K⟩ ⟨fun v tm => tm⟩ ⟨fun env tm => isB false (nthD 2 env)⟩
  ⟨opStep ⟨fun call env tm ds h K => kO (binV Try.prog .gtr 3 true (nthD 0 env) (.int .i64 (512))) ds h K⟩ ⟨fun v tm => tm⟩ ⟨fun env tm => isB false (nthD 3 env)⟩
  ⟨opStep ⟨fun call env tm ds h K => kO (pickV (nthD 4 env) (.bool true) (nthD 0 env)) ds h K⟩ ⟨fun v tm => (T.set tm 18 v)⟩ ⟨fun env tm => true⟩
  ⟨fun _ _ tm ds h K => K .norm tm ds h⟩⟩⟩⟩⟩⟩⟩⟩⟩⟩⟩⟩⟩⟩⟩⟩⟩ : Box OpsT).f call [] tm ds h K
noncomputable def r33_2 : CodeT := fun call _ tm ds h K =>
  K .norm (T.set tm 2 (.int .i64 (3))) ds h
noncomputable def r33_3 : CodeT := fun call _ tm ds h K =>
  kO (fieldPtr 3 (tg tm 1)) ds h (fun v0 ds h =>
  kO (loadOne h v0) ds h (fun v1 ds h =>
  call 46 [v1] h (fun v h => (fun v2 ds h =>
  kO (unV .not v2) ds h (fun v3 ds h =>
  K .norm (T.set tm 22 v3) ds h)) v ds h)))
noncomputable def r33_4 : CodeT := fun call _ tm ds h K =>
  K .norm (T.set tm 2 (.int .i64 (2))) ds h
noncomputable def r33_5 : CodeT := fun call _ tm ds h K =>
  K .norm (T.set tm 2 (.int .i64 (0))) ds h
noncomputable def c33 : Box CodeT := ⟨seqC ⟨r33_0⟩ ⟨seqC ⟨seqC ⟨r33_1⟩ ⟨condC ⟨fun _ tm => tg tm 18⟩ ⟨seqC ⟨r33_2⟩ retC⟩ skipC⟩⟩ ⟨seqC ⟨seqC ⟨r33_3⟩ ⟨condC ⟨fun _ tm => tg tm 22⟩ ⟨seqC ⟨r33_4⟩ retC⟩ skipC⟩⟩ ⟨seqC ⟨r33_5⟩ retC⟩⟩⟩⟩
noncomputable def q33 : Box (T Value → H → Option (List Value)) := ⟨fun tm h => some [tg tm 2]⟩
/-! 36 cloakroom/binary.size -/
noncomputable def r36_0 : CodeT := fun call _ tm ds h K =>
  K .norm (T.set tm 2 (.int .i64 (0))) ds h
noncomputable def r36_1 : CodeT := fun call _ tm ds h0 K =>
  (fun (b0 : Nat) (h : H) =>
  kO (indexSl 1 (tg tm 0) (.int .i64 (2))) ds h (fun v1 ds h =>
  kO (loadOne h v1) ds h (fun v2 ds h =>
  kO (toInt .u32 v2) ds h (fun v3 ds h =>
  kO (binV Try.prog .shl 41 true v3 (.int .u64 (24))) ds h (fun v4 ds h =>
  kO (indexSl 1 (tg tm 0) (.int .i64 (3))) ds h (fun v6 ds h =>
  kO (loadOne h v6) ds h (fun v7 ds h =>
  kO (toInt .u32 v7) ds h (fun v8 ds h =>
  kO (binV Try.prog .shl 41 true v8 (.int .u64 (16))) ds h (fun v9 ds h =>
  kO (binV Try.prog .or 41 false v4 v9) ds h (fun v10 ds h =>
  kO (indexSl 1 (tg tm 0) (.int .i64 (4))) ds h (fun v12 ds h =>
  kO (loadOne h v12) ds h (fun v13 ds h =>
  kO (toInt .u32 v13) ds h (fun v14 ds h =>
  kO (binV Try.prog .shl 41 true v14 (.int .u64 (8))) ds h (fun v15 ds h =>
  kO (binV Try.prog .or 41 false v10 v15) ds h (fun v16 ds h =>
  kO (indexSl 1 (tg tm 0) (.int .i64 (5))) ds h (fun v18 ds h =>
  kO (loadOne h v18) ds h (fun v19 ds h =>
  kO (toInt .u32 v19) ds h (fun v20 ds h =>
  kO (binV Try.prog .or 41 false v16 v20) ds h (fun v21 ds h =>
  kO (toInt .i64 v21) ds h (fun v22 ds h =>
  K .norm (T.set tm 2 v22) ds h)))))))))))))))))))) h0.next ⟨h0.objs, h0.next + 24⟩
noncomputable def c36 : Box CodeT := ⟨seqC ⟨r36_0⟩ ⟨seqC ⟨r36_1⟩ retC⟩⟩
noncomputable def q36 : Box (T Value → H → Option (List Value)) := ⟨fun tm h => some [tg tm 2]⟩
/-! 37 slices.Clone[[]byte,byte] -/
noncomputable def r37_0 : CodeT := fun call _ tm ds h K =>
  K .norm (T.set tm 2 (.slice none 0 0)) ds h
noncomputable def r37_1 : CodeT := fun call _ tm ds h K =>
  kO (binV Try.prog .eql 29 true (tg tm 0) (.slice none 0 0)) ds h (fun v1 ds h =>
  K .norm (T.set tm 4 v1) ds h)
noncomputable def r37_2 : CodeT := fun call _ tm ds h K =>
  K .norm (T.set tm 2 (.slice none 0 0)) ds h
noncomputable def r37_3 : CodeT := fun call _ tm ds h K =>
  kA (mkLit 0 h.next (fill (repl [(.int .u8 (0))] 0) (pl 1) [])) ds h (fun v0 ds h =>
  kH (appendV 1 1 h v0 (tg tm 0)) ds (fun v2 ds h =>
  K .norm (T.set tm 2 v2) ds h))
noncomputable def c37 : Box CodeT := ⟨seqC ⟨r37_0⟩ ⟨seqC ⟨seqC ⟨r37_1⟩ ⟨condC ⟨fun _ tm => tg tm 4⟩ ⟨seqC ⟨r37_2⟩ retC⟩ skipC⟩⟩ ⟨seqC ⟨r37_3⟩ retC⟩⟩⟩
noncomputable def q37 : Box (T Value → H → Option (List Value)) := ⟨fun tm h => some [tg tm 2]⟩
/-! 38 (*cloakroom/packed.reader).number -/
noncomputable def r38_0 : CodeT := fun call _ tm ds h K =>
  K .norm (T.set tm 2 (.int .u64 (0))) ds h
noncomputable def r38_1 : CodeT := fun call _ tm ds h K =>
  kO (nilChk (tg tm 0)) ds h (fun v1 ds h =>
  kO (fieldPtr 0 v1) ds h (fun v2 ds h =>
  kO (loadOne h v2) ds h (fun v3 ds h =>
  call 47 [v3] h (fun v h => (fun v4 ds h =>
  kO (tupNth 0 v4) ds h (fun v6 ds h =>
  kO (tupNth 1 v4) ds h (fun v7 ds h =>
  kO (tupNth 2 v4) ds h (fun v8 ds h =>
  K .norm (T.set (T.set (T.set tm 3 v6) 4 v7) 5 v8) ds h)))) v ds h))))
noncomputable def r38_2 : CodeT := fun call _ tm ds h K =>
  kO (binV Try.prog .neq 30 true (tg tm 5) (.int .i64 (0))) ds h (fun v1 ds h =>
  K .norm (T.set tm 16 v1) ds h)
noncomputable def r38_3 : CodeT := fun call _ tm ds h K =>
  kO (nilChk (tg tm 0)) ds h (fun v2 ds h =>
  kO (fieldPtr 1 v2) ds h (fun v3 ds h =>
  kH (withV undef (storeV 1 h v3 (.bool false))) ds (fun v4 ds h =>
  kO (nilChk (tg tm 0)) ds h (fun v5 ds h =>
  kO (fieldPtr 0 v5) ds h (fun v6 ds h =>
  kH (withV undef (storeV 1 h v6 (.slice none 0 0))) ds (fun v7 ds h =>
  K .norm tm ds h))))))
noncomputable def r38_4 : CodeT := fun call _ tm ds h K =>
  K .norm (T.set tm 2 (.int .u64 (0))) ds h
noncomputable def r38_5 : CodeT := fun call _ tm ds h K =>
  kO (nilChk (tg tm 0)) ds h (fun v2 ds h =>
  kO (fieldPtr 0 v2) ds h (fun v3 ds h =>
  kO (loadOne h v3) ds h (fun v4 ds h =>
  kO (sliceSl 1 v4 (some (tg tm 4)) none none) ds h (fun v6 ds h =>
  kO (nilChk (tg tm 0)) ds h (fun v7 ds h =>
  kO (fieldPtr 0 v7) ds h (fun v8 ds h =>
  kH (withV undef (storeV 1 h v8 v6)) ds (fun v9 ds h =>
  K .norm tm ds h)))))))
noncomputable def r38_6 : CodeT := fun call _ tm ds h K =>
  K .norm (T.set tm 2 (tg tm 3)) ds h
noncomputable def c38 : Box CodeT := ⟨seqC ⟨r38_0⟩ ⟨seqC ⟨r38_1⟩ ⟨seqC ⟨seqC ⟨r38_2⟩ ⟨condC ⟨fun _ tm => tg tm 16⟩ ⟨seqC ⟨r38_3⟩ ⟨seqC ⟨r38_4⟩ retC⟩⟩ skipC⟩⟩ ⟨seqC ⟨r38_5⟩ ⟨seqC ⟨r38_6⟩ retC⟩⟩⟩⟩⟩
noncomputable def q38 : Box (T Value → H → Option (List Value)) := ⟨fun tm h => some [tg tm 2]⟩
/-! 39 (*cloakroom/packed.reader).text -/
noncomputable def r39_0 : CodeT := fun call _ tm ds h K =>
  K .norm (T.set tm 2 (.string (strB []))) ds h
noncomputable def r39_1 : CodeT := fun call _ tm ds h K =>
  kO (nilChk (tg tm 0)) ds h (fun v1 ds h =>
  kO (fieldPtr 0 v1) ds h (fun v2 ds h =>
  kO (loadOne h v2) ds h (fun v3 ds h =>
  call 48 [v3] h (fun v h => (fun v4 ds h =>
  kO (tupNth 0 v4) ds h (fun v6 ds h =>
  kO (tupNth 1 v4) ds h (fun v7 ds h =>
  kO (tupNth 2 v4) ds h (fun v8 ds h =>
  K .norm (T.set (T.set (T.set tm 3 v6) 4 v7) 5 v8) ds h)))) v ds h))))
noncomputable def r39_2 : CodeT := fun call _ tm ds h K =>
  kO (binV Try.prog .neq 30 true (tg tm 5) (.int .i64 (0))) ds h (fun v1 ds h =>
  K .norm (T.set tm 16 v1) ds h)
noncomputable def r39_3 : CodeT := fun call _ tm ds h K =>
  kO (nilChk (tg tm 0)) ds h (fun v2 ds h =>
  kO (fieldPtr 1 v2) ds h (fun v3 ds h =>
  kH (withV undef (storeV 1 h v3 (.bool false))) ds (fun v4 ds h =>
  kO (nilChk (tg tm 0)) ds h (fun v5 ds h =>
  kO (fieldPtr 0 v5) ds h (fun v6 ds h =>
  kH (withV undef (storeV 1 h v6 (.slice none 0 0))) ds (fun v7 ds h =>
  K .norm tm ds h))))))
noncomputable def r39_4 : CodeT := fun call _ tm ds h K =>
  K .norm (T.set tm 2 (.string (strB []))) ds h
noncomputable def r39_5 : CodeT := fun call _ tm ds h K =>
  kO (nilChk (tg tm 0)) ds h (fun v2 ds h =>
  kO (fieldPtr 0 v2) ds h (fun v3 ds h =>
  kH (withV undef (storeV 1 h v3 (tg tm 4))) ds (fun v4 ds h =>
  K .norm tm ds h)))
noncomputable def r39_6 : CodeT := fun call _ tm ds h K =>
  K .norm (T.set tm 2 (tg tm 3)) ds h
noncomputable def c39 : Box CodeT := ⟨seqC ⟨r39_0⟩ ⟨seqC ⟨r39_1⟩ ⟨seqC ⟨seqC ⟨r39_2⟩ ⟨condC ⟨fun _ tm => tg tm 16⟩ ⟨seqC ⟨r39_3⟩ ⟨seqC ⟨r39_4⟩ retC⟩⟩ skipC⟩⟩ ⟨seqC ⟨r39_5⟩ ⟨seqC ⟨r39_6⟩ retC⟩⟩⟩⟩⟩
noncomputable def q39 : Box (T Value → H → Option (List Value)) := ⟨fun tm h => some [tg tm 2]⟩
/-! 40 cloakroom/cloakroomref16.length -/
noncomputable def r40_0 : CodeT := fun call _ tm ds h K =>
  K .norm (T.set tm 2 (.int .i64 (0))) ds h
noncomputable def r40_1 : CodeT := fun call _ tm ds h0 K =>
  (fun (b0 : Nat) (h : H) =>
  kO (indexSl 1 (tg tm 0) (.int .i64 (2))) ds h (fun v1 ds h =>
  kO (loadOne h v1) ds h (fun v2 ds h =>
  kO (toInt .i64 v2) ds h (fun v3 ds h =>
  kO (binV Try.prog .mul 3 true v3 (.int .i64 (16777216))) ds h (fun v4 ds h =>
  kO (indexSl 1 (tg tm 0) (.int .i64 (3))) ds h (fun v6 ds h =>
  kO (loadOne h v6) ds h (fun v7 ds h =>
  kO (toInt .i64 v7) ds h (fun v8 ds h =>
  kO (binV Try.prog .mul 3 true v8 (.int .i64 (65536))) ds h (fun v9 ds h =>
  kO (binV Try.prog .add 3 false v4 v9) ds h (fun v10 ds h =>
  kO (indexSl 1 (tg tm 0) (.int .i64 (4))) ds h (fun v12 ds h =>
  kO (loadOne h v12) ds h (fun v13 ds h =>
  kO (toInt .i64 v13) ds h (fun v14 ds h =>
  kO (binV Try.prog .mul 3 true v14 (.int .i64 (256))) ds h (fun v15 ds h =>
  kO (binV Try.prog .add 3 false v10 v15) ds h (fun v16 ds h =>
  kO (indexSl 1 (tg tm 0) (.int .i64 (5))) ds h (fun v18 ds h =>
  kO (loadOne h v18) ds h (fun v19 ds h =>
  kO (toInt .i64 v19) ds h (fun v20 ds h =>
  kO (binV Try.prog .add 3 false v16 v20) ds h (fun v21 ds h =>
  K .norm (T.set tm 2 v21) ds h))))))))))))))))))) h0.next ⟨h0.objs, h0.next + 23⟩
noncomputable def c40 : Box CodeT := ⟨seqC ⟨r40_0⟩ ⟨seqC ⟨r40_1⟩ retC⟩⟩
noncomputable def q40 : Box (T Value → H → Option (List Value)) := ⟨fun tm h => some [tg tm 2]⟩
/-! 41 cloakroom/cloakroomref17.result -/
noncomputable def r41_0 : CodeT := fun call _ tm ds h K =>
  kA (some (.rw [(.int .u8 (0)), (.int .u8 (0)), (.int .u8 (0)), (.slice none 0 0), (.int .u64 (0)), (.bool false), (.string (strB []))], ptrTo h.next)) ds h (fun v0 ds h =>
  K .norm (T.set (T.set tm 2 v0) 3 (.bool false)) ds h)
noncomputable def r41_1 : CodeT := fun call _ tm ds h K =>
  kO (lenSl (tg tm 0)) ds h (fun v1 ds h =>
  kO (binV Try.prog .lss 3 true v1 (.int .i64 (2))) ds h (fun v2 ds h =>
  K .norm (T.set tm 16 v2) ds h))
noncomputable def r41_2 : CodeT := fun call _ tm ds h K =>
  kO (aggO (fill [(.int .u8 (0)), (.int .u8 (0)), (.int .u8 (0)), (.slice none 0 0), (.int .u64 (0)), (.bool false), (.string (strB []))] (plc [(0, 1), (1, 1), (2, 3), (5, 1), (6, 1)]) [])) ds h (fun v0 ds h =>
  kH (withV undef (storeV 7 h (tg tm 2) v0)) ds (fun v1 ds h =>
  K .norm (T.set tm 3 (.bool false)) ds h))
noncomputable def r41_3 : CodeT := fun call _ tm ds h0 K =>
  (fun (b0 : Nat) (h : H) =>
  kO (indexSl 1 (tg tm 0) (.int .i64 (0))) ds h (fun v1 ds h =>
  kO (loadOne h v1) ds h (fun v2 ds h =>
  kO (indexSl 1 (tg tm 0) (.int .i64 (1))) ds h (fun v4 ds h =>
  kO (loadOne h v4) ds h (fun v5 ds h =>
  kO (aggO (fill [(.int .u8 (0)), (.slice none 0 0), (.int .u64 (0))] (plc [(0, 1), (1, 1), (2, 1)]) [(0, v5)])) ds h (fun v6 ds h =>
  kO (aggO (fill [(.int .u8 (0)), (.int .u8 (0)), (.int .u8 (0)), (.slice none 0 0), (.int .u64 (0)), (.bool false), (.string (strB []))] (plc [(0, 1), (1, 1), (2, 3), (5, 1), (6, 1)]) [(0, (.int .u8 (1))), (1, v2), (2, v6)])) ds h (fun v7 ds h =>
  aO (some (.rw [(.int .u8 (0)), (.int .u8 (0)), (.int .u8 (0)), (.slice none 0 0), (.int .u64 (0)), (.bool false), (.string (strB []))], ptrTo (b0 + 8))) (fun x8 v8 =>
  kH (withV undef (storeV 7 (H.put h (b0 + 8) x8) v8 v7)) ds (fun v9 ds h =>
  K .norm (T.set tm 4 v8) ds h))))))))) h0.next ⟨h0.objs, h0.next + 10⟩
noncomputable def r41_4 : CodeT := fun call _ tm ds h K =>
  kO (sliceSl 1 (tg tm 0) (some (.int .i64 (2))) none none) ds h (fun v1 ds h =>
  K .norm (T.set tm 0 v1) ds h)
noncomputable def r41_5 : CodeT := fun call _ tm ds h K =>
  call 49 [(tg tm 0)] h (fun v h => (fun v1 ds h =>
  kO (tupNth 0 v1) ds h (fun v3 ds h =>
  kO (tupNth 1 v1) ds h (fun v4 ds h =>
  kO (tupNth 2 v1) ds h (fun v5 ds h =>
  K .norm (T.set (T.set (T.set tm 5 v3) 6 v4) 7 v5) ds h)))) v ds h)
noncomputable def r41_6 : CodeT := fun call _ tm ds h K =>
  kO (binV Try.prog .neq 3 true (tg tm 7) (.int .i64 (0))) ds h (fun v1 ds h =>
  K .norm (T.set tm 35 v1) ds h)
noncomputable def r41_7 : CodeT := fun call _ tm ds h K =>
  kO (aggO (fill [(.int .u8 (0)), (.int .u8 (0)), (.int .u8 (0)), (.slice none 0 0), (.int .u64 (0)), (.bool false), (.string (strB []))] (plc [(0, 1), (1, 1), (2, 3), (5, 1), (6, 1)]) [])) ds h (fun v0 ds h =>
  kH (withV undef (storeV 7 h (tg tm 2) v0)) ds (fun v1 ds h =>
  K .norm (T.set tm 3 (.bool false)) ds h))
noncomputable def r41_8 : CodeT := fun call _ tm ds h K =>
  kO (sliceSl 1 (tg tm 0) (some (tg tm 6)) none none) ds h (fun v2 ds h =>
  K .norm (T.set tm 0 v2) ds h)
noncomputable def r41_9 : CodeT := fun call _ tm ds h K =>
  call 49 [(tg tm 0)] h (fun v h => (fun v1 ds h =>
  kO (tupNth 0 v1) ds h (fun v3 ds h =>
  kO (tupNth 1 v1) ds h (fun v4 ds h =>
  kO (tupNth 2 v1) ds h (fun v5 ds h =>
  K .norm (T.set (T.set (T.set tm 8 v3) 9 v4) 10 v5) ds h)))) v ds h)
noncomputable def r41_10 : CodeT := fun call _ tm ds h K =>
  kO (binV Try.prog .neq 3 true (tg tm 10) (.int .i64 (0))) ds h (fun v1 ds h =>
  gd (isB false v1) (fun k => kO (some (tg tm 8)) ds h (k)) ds h (fun v3 ds h =>
  gd (isB false v1) (fun k => kO (binV Try.prog .gtr 23 true v3 (.int .u64 (8))) ds h (k)) ds h (fun v4 ds h =>
  kO (pickV v1 (.bool true) v4) ds h (fun v5 ds h =>
  K .norm (T.set tm 51 v5) ds h))))
noncomputable def r41_11 : CodeT := fun call _ tm ds h K =>
  kO (aggO (fill [(.int .u8 (0)), (.int .u8 (0)), (.int .u8 (0)), (.slice none 0 0), (.int .u64 (0)), (.bool false), (.string (strB []))] (plc [(0, 1), (1, 1), (2, 3), (5, 1), (6, 1)]) [])) ds h (fun v0 ds h =>
  kH (withV undef (storeV 7 h (tg tm 2) v0)) ds (fun v1 ds h =>
  K .norm (T.set tm 3 (.bool false)) ds h))
noncomputable def r41_12 : CodeT := fun call _ tm ds h K =>
  kO (sliceSl 1 (tg tm 0) (some (tg tm 9)) none none) ds h (fun v2 ds h =>
  kO (toInt .i64 (tg tm 8)) ds h (fun v4 ds h =>
  call 50 [v2, v4] h (fun v h => (fun v5 ds h =>
  kO (tupNth 0 v5) ds h (fun v7 ds h =>
  kO (tupNth 1 v5) ds h (fun v8 ds h =>
  kO (tupNth 2 v5) ds h (fun v9 ds h =>
  K .norm (T.set (T.set (T.set tm 11 v7) 12 v8) 13 v9) ds h)))) v ds h)))
noncomputable def r41_13 : CodeT := fun call _ tm ds h K =>
  kO (fieldPtr 2 (tg tm 4)) ds h (fun v1 ds h =>
  kO (fieldPtr 2 v1) ds h (fun v2 ds h =>
  kH (withV undef (storeV 1 h v2 (tg tm 5))) ds (fun v3 ds h =>
  K .norm tm ds h)))
noncomputable def r41_14 : CodeT := fun call _ tm ds h K =>
  kO (fieldPtr 2 (tg tm 4)) ds h (fun v1 ds h =>
  kO (fieldPtr 1 v1) ds h (fun v2 ds h =>
  kH (withV undef (storeV 1 h v2 (tg tm 11))) ds (fun v3 ds h =>
  K .norm tm ds h)))
noncomputable def r41_15 : CodeT := fun call _ tm ds h K => (⟨opStep ⟨fun call env tm ds h K => kO (loadAgg 7 h (tg tm 4)) ds h K⟩ ⟨fun v tm => tm⟩ ⟨fun env tm => true⟩
  ⟨opStep ⟨fun call env tm ds h K => kO (some (tg tm 13)) ds h K⟩ ⟨fun v tm => tm⟩ ⟨fun env tm => true⟩
  ⟨opStep ⟨fun call env tm ds h K => kO (some (nthD 0 env)) ds h K⟩ ⟨fun v tm => tm⟩ ⟨fun env tm => true⟩
  ⟨opStep ⟨fun call env tm ds h K => kO (some (tg tm 12)) ds h K⟩ ⟨fun v tm => tm⟩ ⟨fun env tm => isB true (nthD 0 env)⟩
  ⟨opStep ⟨fun call env tm ds h K => kO (lenSl (nthD 0 env)) ds h K⟩ ⟨fun v tm => tm⟩ ⟨fun env tm => isB true (nthD 1 env)⟩
  ⟨opStep ⟨fun call env tm ds h K => kO (binV Try.prog .eql 3 true (nthD 0 env) (.int .i64 (0))) ds h K⟩ ⟨fun v tm => tm⟩ ⟨fun env tm => isB true (nthD 2 env)⟩
  ⟨opStep ⟨fun call env tm ds h K => kO (pickV (nthD 3 env) (nthD 0 env) (.bool false)) ds h K⟩ ⟨fun v tm => tm⟩ ⟨fun env tm => true⟩
  ⟨opStep ⟨fun call env tm ds h K => kH (withV undef (storeV 7 h (tg tm 2) (nthD 6 env))) ds (K)⟩ ⟨fun v tm => tm⟩ ⟨fun env tm => true⟩
  ⟨opStep ⟨fun call env tm ds h K => kO (some (nthD 1 env)) ds h K⟩ ⟨fun v tm => (T.set tm 3 v)⟩ ⟨fun env tm => true⟩
  ⟨fun _ _ tm ds h K => K .norm tm ds h⟩⟩⟩⟩⟩⟩⟩⟩⟩⟩ : Box OpsT).f call [] tm ds h K
noncomputable def c41 : Box CodeT := ⟨seqC ⟨r41_0⟩ ⟨seqC ⟨seqC ⟨r41_1⟩ ⟨condC ⟨fun _ tm => tg tm 16⟩ ⟨seqC ⟨r41_2⟩ retC⟩ skipC⟩⟩ ⟨seqC ⟨r41_3⟩ ⟨seqC ⟨r41_4⟩ ⟨seqC ⟨r41_5⟩ ⟨seqC ⟨seqC ⟨r41_6⟩ ⟨condC ⟨fun _ tm => tg tm 35⟩ ⟨seqC ⟨r41_7⟩ retC⟩ skipC⟩⟩ ⟨seqC ⟨r41_8⟩ ⟨seqC ⟨r41_9⟩ ⟨seqC ⟨seqC ⟨r41_10⟩ ⟨condC ⟨fun _ tm => tg tm 51⟩ ⟨seqC ⟨r41_11⟩ retC⟩ skipC⟩⟩ ⟨seqC ⟨r41_12⟩ ⟨seqC ⟨r41_13⟩ ⟨seqC ⟨r41_14⟩ ⟨seqC ⟨r41_15⟩ retC⟩⟩⟩⟩⟩⟩⟩⟩⟩⟩⟩⟩⟩
noncomputable def q41 : Box (T Value → H → Option (List Value)) := ⟨fun tm h => (match loadAgg 7 h (tg tm 2) with | some v => (match (some [tg tm 3] : Option (List Value)) with | some l => some (v :: l) | none => none) | none => none)⟩
/-! 42 cloakroom/words.counts -/
noncomputable def r42_0 : CodeT := fun call _ tm ds h K =>
  K .norm (T.set tm 2 (.bool false)) ds h
noncomputable def r42_1 : CodeT := fun call _ tm ds h K => (⟨opStep ⟨fun call env tm ds h K => kO (some (tg tm 0)) ds h K⟩ ⟨fun v tm => tm⟩ ⟨fun env tm => true⟩
  ⟨opStep ⟨fun call env tm ds h K => kO (binV Try.prog .eql 5 true (nthD 0 env) (.int .u8 (6))) ds h K⟩ ⟨fun v tm => tm⟩ ⟨fun env tm => true⟩
  ⟨opStep ⟨fun call env tm ds h K => kO (some (nthD 0 env)) ds h K⟩ ⟨fun v tm => tm⟩ ⟨fun env tm => true⟩
  ⟨opStep ⟨fun call env tm ds h K => kO (some (tg tm 0)) ds h K⟩ ⟨fun v tm => tm⟩ ⟨fun env tm => isB false (nthD 0 env)⟩
  ⟨opStep ⟨fun call env tm ds h K => kO (binV Try.prog .eql 5 true (nthD 0 env) (.int .u8 (7))) ds h K⟩ ⟨fun v tm => tm⟩ ⟨fun env tm => isB false (nthD 1 env)⟩
  ⟨opStep ⟨fun call env tm ds h K => kO (pickV (nthD 2 env) (.bool true) (nthD 0 env)) ds h K⟩ ⟨fun v tm => tm⟩ ⟨fun env tm => true⟩
  ⟨opStep ⟨fun call env tm ds h K => kO (some (nthD 0 env)) ds h K⟩ ⟨fun v tm => tm⟩ ⟨fun env tm => true⟩
  ⟨opStep ⟨fun call env tm ds h K => kO (some (tg tm 0)) ds h K⟩ ⟨fun v tm => tm⟩ ⟨fun env tm => isB false (nthD 0 env)⟩
  ⟨opStep ⟨fun call env tm ds h K => kO (binV Try.prog .eql 5 true (nthD 0 env) (.int .u8 (10))) ds h K⟩ ⟨fun v tm => tm⟩ ⟨fun env tm => isB false (nthD 1 env)⟩
  ⟨opStep ⟨fun call env tm ds h K => kO (pickV (nthD 2 env) (.bool true) (nthD 0 env)) ds h K⟩ ⟨fun v tm => tm⟩ ⟨fun env tm => true⟩
  ⟨opStep ⟨fun call env tm ds h K => kO (some (nthD 0 env)) ds h K⟩ ⟨fun v tm => (T.set tm 2 v)⟩ ⟨fun env tm => true⟩
  ⟨fun _ _ tm ds h K => K .norm tm ds h⟩⟩⟩⟩⟩⟩⟩⟩⟩⟩⟩⟩ : Box OpsT).f call [] tm ds h K
noncomputable def c42 : Box CodeT := ⟨seqC ⟨r42_0⟩ ⟨seqC ⟨r42_1⟩ retC⟩⟩
noncomputable def q42 : Box (T Value → H → Option (List Value)) := ⟨fun tm h => some [tg tm 2]⟩
/-! 43 slices.ContainsFunc[[]cloakroom/api.Item,cloakroom/api.Item] -/
noncomputable def r43_0 : CodeT := fun call _ tm ds h K =>
  K .norm (T.set tm 4 (.bool false)) ds h
noncomputable def r43_1 : CodeT := fun call _ tm ds h K =>
  call 51 [(tg tm 0), (tg tm 1)] h (fun v h => (fun v2 ds h =>
  kO (binV Try.prog .geq 3 true v2 (.int .i64 (0))) ds h (fun v3 ds h =>
  K .norm (T.set tm 4 v3) ds h)) v ds h)
noncomputable def c43 : Box CodeT := ⟨seqC ⟨r43_0⟩ ⟨seqC ⟨r43_1⟩ retC⟩⟩
noncomputable def q43 : Box (T Value → H → Option (List Value)) := ⟨fun tm h => some [tg tm 4]⟩
/-! 44 cloakroom/words.result$1 -/
noncomputable def r44_0 : CodeT := fun call _ tm ds h K =>
  kA (some (.rw (Value.cells (tg tm 0)).toList, ptrTo h.next)) ds h (fun v0 ds h =>
  K .norm (T.set (T.set tm 1 v0) 2 (.bool false)) ds h)
noncomputable def r44_1 : CodeT := fun call _ tm ds h K =>
  kO (loadAgg 5 h (tg tm 1)) ds h (fun v0 ds h =>
  call 45 [v0] h (fun v h => (fun v1 ds h =>
  kO (binV Try.prog .neq 30 true v1 (.int .i64 (0))) ds h (fun v2 ds h =>
  K .norm (T.set tm 2 v2) ds h)) v ds h))
noncomputable def c44 : Box CodeT := ⟨seqC ⟨r44_0⟩ ⟨seqC ⟨r44_1⟩ retC⟩⟩
noncomputable def q44 : Box (T Value → H → Option (List Value)) := ⟨fun tm h => some [tg tm 2]⟩
/-! 45 cloakroom/item.Check -/
noncomputable def r45_0 : CodeT := fun call _ tm ds h K =>
  kA (some (.rw (Value.cells (tg tm 0)).toList, ptrTo h.next)) ds h (fun v0 ds h =>
  K .norm (T.set (T.set tm 1 v0) 2 (.int .i64 (0))) ds h)
noncomputable def r45_1 : CodeT := fun call _ tm ds h K =>
  kO (fieldPtr 0 (tg tm 1)) ds h (fun v0 ds h =>
  kO (loadOne h v0) ds h (fun v1 ds h =>
  kO (lenStr v1) ds h (fun v2 ds h =>
  kO (binV Try.prog .lss 3 true v2 (.int .i64 (1))) ds h (fun v3 ds h =>
  K .norm (T.set tm 3 v3) ds h))))
noncomputable def r45_2 : CodeT := fun call _ tm ds h K =>
  kO (fieldPtr 0 (tg tm 1)) ds h (fun v0 ds h =>
  kO (loadOne h v0) ds h (fun v1 ds h =>
  kO (lenStr v1) ds h (fun v2 ds h =>
  kO (binV Try.prog .gtr 3 true v2 (.int .i64 (32))) ds h (fun v3 ds h =>
  K .norm (T.set tm 3 v3) ds h))))
noncomputable def r45_3 : CodeT := fun call _ tm ds h K =>
  kO (fieldPtr 1 (tg tm 1)) ds h (fun v0 ds h =>
  kO (loadOne h v0) ds h (fun v1 ds h =>
  kO (lenStr v1) ds h (fun v2 ds h =>
  kO (binV Try.prog .gtr 3 true v2 (.int .i64 (512))) ds h (fun v3 ds h =>
  K .norm (T.set tm 3 v3) ds h))))
noncomputable def r45_4 : CodeT := fun call _ tm ds h K =>
  K .norm (T.set tm 2 (.int .i64 (3))) ds h
noncomputable def r45_5 : CodeT := fun call _ tm ds h K =>
  kO (fieldPtr 3 (tg tm 1)) ds h (fun v0 ds h =>
  kO (loadOne h v0) ds h (fun v1 ds h =>
  call 52 [v1] h (fun v h => (fun v2 ds h =>
  kO (unV .not v2) ds h (fun v3 ds h =>
  K .norm (T.set tm 16 v3) ds h)) v ds h)))
noncomputable def r45_6 : CodeT := fun call _ tm ds h K =>
  K .norm (T.set tm 2 (.int .i64 (2))) ds h
noncomputable def r45_7 : CodeT := fun call _ tm ds h K =>
  K .norm (T.set tm 2 (.int .i64 (0))) ds h
noncomputable def c45 : Box CodeT := ⟨seqC ⟨r45_0⟩ ⟨seqC ⟨blockC 0 ⟨seqC ⟨seqC ⟨r45_1⟩ ⟨condC ⟨fun _ tm => tg tm 3⟩ skipC ⟨seqC ⟨r45_2⟩ ⟨condC ⟨fun _ tm => tg tm 3⟩ skipC ⟨r45_3⟩⟩⟩⟩⟩ ⟨condC ⟨fun _ tm => tg tm 3⟩ ⟨seqC ⟨r45_4⟩ retC⟩ ⟨seqC ⟨r45_5⟩ ⟨condC ⟨fun _ tm => tg tm 16⟩ ⟨seqC ⟨r45_6⟩ retC⟩ skipC⟩⟩⟩⟩⟩ ⟨seqC ⟨r45_7⟩ retC⟩⟩⟩
noncomputable def q45 : Box (T Value → H → Option (List Value)) := ⟨fun tm h => some [tg tm 2]⟩
/-! 46 cloakroom/cloakroomref09.Moment -/
noncomputable def r46_0 : CodeT := fun call _ tm ds h K =>
  K .norm (T.set tm 2 (.bool false)) ds h
noncomputable def r46_1 : CodeT := fun call _ tm ds h K =>
  kO (binV Try.prog .geq 3 true (tg tm 0) (.int .i64 (0))) ds h (fun v1 ds h =>
  gd (isB true v1) (fun k => kO (some (tg tm 0)) ds h (k)) ds h (fun v3 ds h =>
  gd (isB true v1) (fun k => kO (binV Try.prog .leq 3 true v3 (.int .i64 (1099511627776))) ds h (k)) ds h (fun v4 ds h =>
  kO (pickV v1 v4 (.bool false)) ds h (fun v5 ds h =>
  K .norm (T.set tm 2 v5) ds h))))
noncomputable def c46 : Box CodeT := ⟨seqC ⟨r46_0⟩ ⟨seqC ⟨r46_1⟩ retC⟩⟩
noncomputable def q46 : Box (T Value → H → Option (List Value)) := ⟨fun tm h => some [tg tm 2]⟩
/-! 47 cloakroom/code.Read -/
noncomputable def r47_0 : CodeT := fun call _ tm ds h K =>
  K .norm (T.set (T.set (T.set tm 2 (.int .u64 (0))) 3 (.int .i64 (0))) 4 (.int .i64 (0))) ds h
noncomputable def r47_1 : CodeT := fun call _ tm ds h K =>
  K .norm (T.set tm 5 (.int .u64 (0))) ds h
noncomputable def r47_2 : CodeT := fun call _ tm ds h K =>
  kO (lenSl (tg tm 0)) ds h (fun v1 ds h =>
  K .norm (T.set (T.set (T.set tm 8 (tg tm 0)) 9 v1) 10 (.int .i64 (0))) ds h)
noncomputable def r47_3 : CodeT := fun call _ tm ds h K =>
  kO (binV Try.prog .lss 3 false (tg tm 10) (tg tm 9)) ds h (fun v0 ds h =>
  K .norm (T.set tm 11 v0) ds h)
noncomputable def r47_4 : CodeT := fun call _ tm ds h K =>
  kO (indexSl 1 (tg tm 8) (tg tm 10)) ds h (fun v1 ds h =>
  kO (loadOne h v1) ds h (fun v2 ds h =>
  K .norm (T.set (T.set tm 6 (tg tm 10)) 7 v2) ds h))
noncomputable def r47_5 : CodeT := fun call _ tm ds h K =>
  kO (binV Try.prog .eql 3 true (tg tm 6) (.int .i64 (9))) ds h (fun v1 ds h =>
  gd (isB true v1) (fun k => kO (some (tg tm 7)) ds h (k)) ds h (fun v3 ds h =>
  gd (isB true v1) (fun k => kO (binV Try.prog .gtr 5 true v3 (.int .u8 (1))) ds h (k)) ds h (fun v4 ds h =>
  kO (pickV v1 v4 (.bool false)) ds h (fun v5 ds h =>
  K .norm (T.set tm 20 v5) ds h))))
noncomputable def r47_6 : CodeT := fun call _ tm ds h K =>
  kO (binV Try.prog .and 5 true (tg tm 7) (.int .u8 (127))) ds h (fun v2 ds h =>
  kO (toInt .u64 v2) ds h (fun v3 ds h =>
  kO (binV Try.prog .mul 3 true (.int .i64 (7)) (tg tm 6)) ds h (fun v5 ds h =>
  kO (binV Try.prog .shl 23 false v3 v5) ds h (fun v6 ds h =>
  kO (binV Try.prog .or 23 false (tg tm 5) v6) ds h (fun v7 ds h =>
  K .norm (T.set tm 5 v7) ds h)))))
noncomputable def r47_7 : CodeT := fun call _ tm ds h K =>
  kO (binV Try.prog .lss 5 true (tg tm 7) (.int .u8 (128))) ds h (fun v1 ds h =>
  K .norm (T.set tm 30 v1) ds h)
noncomputable def r47_8 : CodeT := fun call _ tm ds h K =>
  kO (binV Try.prog .eql 5 true (tg tm 7) (.int .u8 (0))) ds h (fun v1 ds h =>
  gd (isB true v1) (fun k => kO (some (tg tm 6)) ds h (k)) ds h (fun v3 ds h =>
  gd (isB true v1) (fun k => kO (binV Try.prog .gtr 3 true v3 (.int .i64 (0))) ds h (k)) ds h (fun v4 ds h =>
  kO (pickV v1 v4 (.bool false)) ds h (fun v5 ds h =>
  K .norm (T.set tm 36 v5) ds h))))
noncomputable def r47_9 : CodeT := fun call _ tm ds h K =>
  kO (binV Try.prog .add 3 true (tg tm 6) (.int .i64 (1))) ds h (fun v2 ds h =>
  K .norm (T.set (T.set (T.set tm 2 (tg tm 5)) 3 v2) 4 (.int .i64 (0))) ds h)
noncomputable def r47_10 : CodeT := fun call _ tm ds h K =>
  kO (binV Try.prog .add 3 true (tg tm 10) (.int .i64 (1))) ds h (fun v0 ds h =>
  K .norm (T.set tm 10 v0) ds h)
noncomputable def l47_11 : Box CodeT := ⟨seqC ⟨r47_3⟩ ⟨seqC ⟨condC ⟨fun _ tm => tg tm 11⟩ skipC (exitC 0)⟩ ⟨seqC ⟨blockC 1 ⟨seqC ⟨r47_4⟩ ⟨seqC ⟨seqC ⟨r47_5⟩ ⟨condC ⟨fun _ tm => tg tm 20⟩ (exitC 0) skipC⟩⟩ ⟨seqC ⟨r47_6⟩ ⟨seqC ⟨r47_7⟩ ⟨condC ⟨fun _ tm => tg tm 30⟩ ⟨seqC ⟨seqC ⟨r47_8⟩ ⟨condC ⟨fun _ tm => tg tm 36⟩ (exitC 0) skipC⟩⟩ ⟨seqC ⟨r47_9⟩ retC⟩⟩ skipC⟩⟩⟩⟩⟩⟩ ⟨r47_10⟩⟩⟩⟩
noncomputable def r47_11 : CodeT := fun call _ tm ds h K =>
  K .norm (T.set (T.set (T.set tm 2 (.int .u64 (0))) 3 (.int .i64 (0))) 4 (.int .i64 (8))) ds h
noncomputable def c47 : Box CodeT := ⟨seqC ⟨r47_0⟩ ⟨seqC ⟨r47_1⟩ ⟨seqC ⟨seqC ⟨r47_2⟩ ⟨blockC 0 (loopB l47_11)⟩⟩ ⟨seqC ⟨r47_11⟩ retC⟩⟩⟩⟩
noncomputable def q47 : Box (T Value → H → Option (List Value)) := ⟨fun tm h => some [tg tm 2, tg tm 3, tg tm 4]⟩
/-! 48 cloakroom/code.Cut -/
noncomputable def r48_0 : CodeT := fun call _ tm ds h K =>
  K .norm (T.set (T.set (T.set tm 2 (.string (strB []))) 3 (.slice none 0 0)) 4 (.int .i64 (0))) ds h
noncomputable def r48_1 : CodeT := fun call _ tm ds h K =>
  call 53 [(tg tm 0)] h (fun v h => (fun v1 ds h =>
  kO (tupNth 0 v1) ds h (fun v3 ds h =>
  kO (tupNth 1 v1) ds h (fun v4 ds h =>
  kO (tupNth 2 v1) ds h (fun v5 ds h =>
  K .norm (T.set (T.set (T.set tm 5 v3) 6 v4) 7 v5) ds h)))) v ds h)
noncomputable def r48_2 : CodeT := fun call _ tm ds h0 K =>
  (fun (b0 : Nat) (h : H) =>
  kO (bytesStr h (tg tm 5)) ds h (fun v1 ds h =>
  call 54 [(tg tm 6)] h (fun v h => (fun v3 ds h =>
  andB (hO (bytesStr h (tg tm 5)) v1 true) (K .norm (T.set (T.set (T.set tm 2 v1) 3 v3) 4 (tg tm 7)) ds h)) v ds h))) h0.next ⟨h0.objs, h0.next + 8⟩
noncomputable def c48 : Box CodeT := ⟨seqC ⟨r48_0⟩ ⟨seqC ⟨r48_1⟩ ⟨seqC ⟨r48_2⟩ retC⟩⟩⟩
noncomputable def q48 : Box (T Value → H → Option (List Value)) := ⟨fun tm h => some [tg tm 2, tg tm 3, tg tm 4]⟩
/-! 49 cloakroom/cloakroomref01.Read -/
noncomputable def r49_0 : CodeT := fun call _ tm ds h K =>
  K .norm (T.set (T.set (T.set tm 2 (.int .u64 (0))) 3 (.int .i64 (0))) 4 (.int .i64 (0))) ds h
noncomputable def r49_1 : CodeT := fun call _ tm ds h K =>
  K .norm (T.set tm 5 (.int .i64 (0))) ds h
noncomputable def r49_2 : CodeT := fun call _ tm ds h K => (⟨opStep ⟨fun call env tm ds h K => kO (some (tg tm 5)) ds h K⟩ ⟨fun v tm => tm⟩ ⟨fun env tm => true⟩
  ⟨opStep ⟨fun call env tm ds h K => kO (some (tg tm 0)) ds h K⟩ ⟨fun v tm => tm⟩ ⟨fun env tm => true⟩
  ⟨opStep ⟨fun call env tm ds h K => kO (lenSl (nthD 0 env)) ds h K⟩ ⟨fun v tm => tm⟩ ⟨fun env tm => true⟩
  ⟨opStep ⟨fun call env tm ds h K => kO (binV Try.prog .lss 3 false (nthD 2 env) (nthD 0 env)) ds h K⟩ ⟨fun v tm => tm⟩ ⟨fun env tm => true⟩
  ⟨opStep ⟨fun call env tm ds h K => kO (some (nthD 0 env)) ds h K⟩ ⟨fun v tm => tm⟩ ⟨fun env tm => true⟩
  ⟨opStep ⟨fun call env tm ds h K => kO (some (tg tm 5)) ds h K⟩ ⟨fun v tm => tm⟩ ⟨fun env tm => isB true (nthD 0 env)⟩
  ⟨opStep ⟨fun call env tm ds h K => kO (binV Try.prog .lss 3 true (nthD 0 env) (.int .i64 (10))) ds h K⟩ ⟨fun v tm => tm⟩ ⟨fun env tm => isB true (nthD 1 env)⟩
  ⟨opStep ⟨fun call env tm ds h K => kO (pickV (nthD 2 env) (nthD 0 env) (.bool false)) ds h K⟩ ⟨fun v tm => tm⟩ ⟨fun env tm => true⟩
  ⟨opStep ⟨fun call env tm ds h K => kO (some (nthD 0 env)) ds h K⟩ ⟨fun v tm => tm⟩ ⟨fun env tm => true⟩
  ⟨opStep ⟨fun call env tm ds h K => kO (some (tg tm 0)) ds h K⟩ ⟨fun v tm => tm⟩ ⟨fun env tm => isB true (nthD 0 env)⟩
  ⟨opStep ⟨fun call env tm ds h K => kO (some (tg tm 5)) ds h K⟩ ⟨fun v tm => tm⟩ ⟨fun env tm => isB true (nthD 1 env)⟩
  ⟨opStep ⟨fun call env tm ds h K => kO (indexSl 1 (nthD 1 env) (nthD 0 env)) ds h K⟩ ⟨fun v tm => tm⟩ ⟨fun env tm => isB true (nthD 2 env)⟩
  ⟨opStep ⟨fun call env tm ds h K => kO (loadOne h (nthD 0 env)) ds h K⟩ ⟨fun v tm => tm⟩ ⟨fun env tm => isB true (nthD 3 env)⟩
  ⟨opStep ⟨fun call env tm ds h K => kO (binV Try.prog .geq 5 true (nthD 0 env) (.int .u8 (128))) ds h K⟩ ⟨fun v tm => tm⟩ ⟨fun env tm => isB true (nthD 4 env)⟩
  ⟨opStep ⟨fun call env tm ds h K => kO (pickV (nthD 5 env) (nthD 0 env) (.bool false)) ds h K⟩ ⟨fun v tm => (T.set tm 22 v)⟩ ⟨fun env tm => true⟩
  ⟨fun _ _ tm ds h K => K .norm tm ds h⟩⟩⟩⟩⟩⟩⟩⟩⟩⟩⟩⟩⟩⟩⟩⟩ : Box OpsT).f call [] tm ds h K
noncomputable def r49_3 : CodeT := fun call _ tm ds h K =>
  kO (binV Try.prog .add 3 true (tg tm 5) (.int .i64 (1))) ds h (fun v1 ds h =>
  K .norm (T.set tm 5 v1) ds h)
noncomputable def l49_4 : Box CodeT := ⟨seqC ⟨seqC ⟨r49_2⟩ ⟨condC ⟨fun _ tm => tg tm 22⟩ skipC (exitC 0)⟩⟩ ⟨blockC 1 ⟨r49_3⟩⟩⟩
noncomputable def r49_4 : CodeT := fun call _ tm ds h K => (⟨opStep ⟨fun call env tm ds h K => kO (some (tg tm 5)) ds h K⟩ ⟨fun v tm => tm⟩ ⟨fun env tm => true⟩
  ⟨opStep ⟨fun call env tm ds h K => kO (some (tg tm 0)) ds h K⟩ ⟨fun v tm => tm⟩ ⟨fun env tm => true⟩
  ⟨opStep ⟨fun call env tm ds h K => kO (lenSl (nthD 0 env)) ds h K⟩ ⟨fun v tm => tm⟩ ⟨fun env tm => true⟩
  ⟨opStep ⟨fun call env tm ds h K => kO (binV Try.prog .geq 3 false (nthD 2 env) (nthD 0 env)) ds h K⟩ ⟨fun v tm => tm⟩ ⟨fun env tm => true⟩
  ⟨opStep ⟨fun call env tm ds h K => kO (some (nthD 0 env)) ds h K⟩ ⟨fun v tm => tm⟩ ⟨fun env tm => true⟩
  ⟨opStep ⟨fun call env tm ds h K => kO (some (tg tm 5)) ds h K⟩ ⟨fun v tm => tm⟩ ⟨fun env tm => isB false (nthD 0 env)⟩
  ⟨opStep ⟨fun call env tm ds h K => kO (binV Try.prog .geq 3 true (nthD 0 env) (.int .i64 (10))) ds h K⟩ ⟨fun v tm => tm⟩ ⟨fun env tm => isB false (nthD 1 env)⟩
  ⟨opStep ⟨fun call env tm ds h K => kO (pickV (nthD 2 env) (.bool true) (nthD 0 env)) ds h K⟩ ⟨fun v tm => tm⟩ ⟨fun env tm => true⟩
  ⟨opStep ⟨fun call env tm ds h K => kO (some (nthD 0 env)) ds h K⟩ ⟨fun v tm => tm⟩ ⟨fun env tm => true⟩
  ⟨opStep ⟨fun call env tm ds h K => kO (some (tg tm 5)) ds h K⟩ ⟨fun v tm => tm⟩ ⟨fun env tm => isB false (nthD 0 env)⟩
  ⟨opStep ⟨fun call env tm ds h K => kO (binV Try.prog .eql 3 true (nthD 0 env) (.int .i64 (9))) ds h K⟩ ⟨fun v tm => tm⟩ ⟨fun env tm => isB false (nthD 1 env)⟩
  ⟨opStep ⟨fun call env tm ds h K => kO (some (nthD 0 env)) ds h K⟩ ⟨fun v tm => tm⟩ ⟨fun env tm => isB false (nthD 2 env)⟩
  ⟨opStep ⟨fun call env tm ds h K => kO (some (tg tm 0)) ds h K⟩ ⟨fun v tm => tm⟩ ⟨fun env tm => isB true (nthD 0 env)⟩
  ⟨opStep ⟨fun call env tm ds h K => kO (indexSl 1 (nthD 0 env) (.int .i64 (9))) ds h K⟩ ⟨fun v tm => tm⟩ ⟨fun env tm => isB true (nthD 1 env)⟩
  ⟨opStep ⟨fun call env tm ds h K => kO (loadOne h (nthD 0 env)) ds h K⟩ ⟨fun v tm => tm⟩ ⟨fun env tm => isB true (nthD 2 env)⟩
  ⟨opStep ⟨fun call env tm ds h K => kO (binV Try.prog .gtr 5 true (nthD 0 env) (.int .u8 (1))) ds h K⟩ ⟨fun v tm => tm⟩ ⟨fun env tm => isB true (nthD 3 env)⟩
  ⟨opStep ⟨fun call env tm ds h K => kO (pickV (nthD 4 env) (nthD 0 env) (.bool false)) ds h K⟩ ⟨fun v tm => tm⟩ ⟨fun env tm => isB false (nthD 7 env)⟩
  ⟨opStep ⟨fun call env tm ds h K => kO (pickV (nthD 8 env) (.bool true) (nthD 0 env)) ds h K⟩ ⟨fun v tm => tm⟩ ⟨fun env tm => true⟩
  ⟨opStep ⟨fun call env tm ds h K => kO (some (nthD 0 env)) ds h K⟩ ⟨fun v tm => tm⟩ ⟨fun env tm => true⟩
  ⟨opStep ⟨fun call env tm ds h K => kO (some (tg tm 5)) ds h K⟩ ⟨fun v tm => tm⟩ ⟨fun env tm => isB false (nthD 0 env)⟩
  ⟨opStep ⟨fun call env tm ds h K => kO (binV Try.prog .gtr 3 true (nthD 0 env) (.int .i64 (0))) ds h K⟩ ⟨fun v tm => tm⟩ ⟨fun env tm => isB false (nthD 1 env)⟩
  ⟨opStep ⟨fun call env tm ds h K => kO (some (nthD 0 env)) ds h K⟩ ⟨fun v tm => tm⟩ ⟨fun env tm => isB false (nthD 2 env)⟩
  ⟨opStep ⟨fun call env tm ds h K => kO (some (tg tm 0)) ds h K⟩ ⟨fun v tm => tm⟩ ⟨fun env tm => isB true (nthD 0 env)⟩
  ⟨opStep ⟨fun call env tm ds h K => kO (some (tg tm 5)) ds h K⟩ ⟨fun v tm => tm⟩ ⟨fun env tm => isB true (nthD 1 env)⟩
  ⟨opStep ⟨fun call env tm ds h K => kO (indexSl 1 (nthD 1 env) (nthD 0 env)) ds h K⟩ ⟨fun v tm => tm⟩ ⟨fun env tm => isB true (nthD 2 env)⟩
  ⟨opStep ⟨fun call env tm ds h K => kO (loadOne h (nthD 0 env)) ds h K⟩ ⟨fun v tm => tm⟩ ⟨fun env tm => isB true (nthD 3 env)⟩
  ⟨opStep ⟨fun call env tm ds h K => kO (binV Try.prog .eql 5 true (nthD 0 env) (.int .u8 (0))) ds h K⟩ ⟨fun v tm => tm⟩ ⟨fun env tm => isB true (nthD 4 env)⟩
  ⟨opStep ⟨fun call env tm ds h K => kO (pickV (nthD 5 env) (nthD 0 env) (.bool false)) ds h K⟩ ⟨fun v tm => tm⟩ ⟨fun env tm => isB false (nthD 8 env)⟩
  ⟨opStep ⟨fun call env tm ds h K => kO (pickV (nthD 9 env) (.bool true) (nthD 0 env)) ds h K⟩ ⟨fun v tm => (T.set tm 53 v)⟩ ⟨fun env tm => true⟩
  ⟨fun _ _ tm ds h K => K .norm tm ds h⟩⟩⟩⟩⟩⟩⟩⟩⟩⟩⟩⟩⟩⟩⟩⟩⟩⟩⟩⟩⟩⟩⟩⟩⟩⟩⟩⟩⟩⟩ : Box OpsT).f call [] tm ds h K
noncomputable def r49_5 : CodeT := fun call _ tm ds h K =>
  K .norm (T.set (T.set (T.set tm 2 (.int .u64 (0))) 3 (.int .i64 (0))) 4 (.int .i64 (8))) ds h
noncomputable def r49_6 : CodeT := fun call _ tm ds h K =>
  K .norm (T.set tm 6 (.int .u64 (0))) ds h
noncomputable def r49_7 : CodeT := fun call _ tm ds h K =>
  K .norm (T.set tm 7 (tg tm 5)) ds h
noncomputable def r49_8 : CodeT := fun call _ tm ds h K =>
  kO (binV Try.prog .geq 3 true (tg tm 7) (.int .i64 (0))) ds h (fun v1 ds h =>
  K .norm (T.set tm 56 v1) ds h)
noncomputable def r49_10 : CodeT := fun call _ tm ds h K =>
  kO (binV Try.prog .mul 23 true (tg tm 6) (.int .u64 (128))) ds h (fun v1 ds h =>
  kO (indexSl 1 (tg tm 0) (tg tm 7)) ds h (fun v4 ds h =>
  kO (loadOne h v4) ds h (fun v5 ds h =>
  kO (binV Try.prog .rem 5 true v5 (.int .u8 (128))) ds h (fun v6 ds h =>
  kO (toInt .u64 v6) ds h (fun v7 ds h =>
  kO (binV Try.prog .add 23 false v1 v7) ds h (fun v8 ds h =>
  K .norm (T.set tm 6 v8) ds h))))))
noncomputable def r49_9 : CodeT := fun call _ tm ds h K =>
  kO (binV Try.prog .sub 3 true (tg tm 7) (.int .i64 (1))) ds h (fun v1 ds h =>
  K .norm (T.set tm 7 v1) ds h)
noncomputable def l49_12 : Box CodeT := ⟨seqC ⟨seqC ⟨r49_8⟩ ⟨condC ⟨fun _ tm => tg tm 56⟩ skipC (exitC 2)⟩⟩ ⟨seqC ⟨blockC 3 ⟨r49_10⟩⟩ ⟨r49_9⟩⟩⟩
noncomputable def r49_11 : CodeT := fun call _ tm ds h K =>
  kO (binV Try.prog .add 3 true (tg tm 5) (.int .i64 (1))) ds h (fun v2 ds h =>
  K .norm (T.set (T.set (T.set tm 2 (tg tm 6)) 3 v2) 4 (.int .i64 (0))) ds h)
noncomputable def c49 : Box CodeT := ⟨seqC ⟨r49_0⟩ ⟨seqC ⟨r49_1⟩ ⟨seqC ⟨blockC 0 (loopB l49_4)⟩ ⟨seqC ⟨seqC ⟨r49_4⟩ ⟨condC ⟨fun _ tm => tg tm 53⟩ ⟨seqC ⟨r49_5⟩ retC⟩ skipC⟩⟩ ⟨seqC ⟨r49_6⟩ ⟨seqC ⟨seqC ⟨r49_7⟩ ⟨blockC 2 (loopB l49_12)⟩⟩ ⟨seqC ⟨r49_11⟩ retC⟩⟩⟩⟩⟩⟩⟩
noncomputable def q49 : Box (T Value → H → Option (List Value)) := ⟨fun tm h => some [tg tm 2, tg tm 3, tg tm 4]⟩
/-! 50 cloakroom/cloakroomref17.items -/
noncomputable def r50_0 : CodeT := fun call _ tm ds h K =>
  K .norm (T.set (T.set (T.set tm 4 (.slice none 0 0)) 5 (.slice none 0 0)) 6 (.bool false)) ds h
noncomputable def r50_1 : CodeT := fun call _ tm ds h K =>
  K .norm (T.set tm 7 (.slice none 0 0)) ds h
noncomputable def r50_2 : CodeT := fun call _ tm ds h K =>
  K .norm (T.set tm 8 (.int .i64 (0))) ds h
noncomputable def r50_3 : CodeT := fun call _ tm ds h K =>
  kO (binV Try.prog .lss 3 false (tg tm 8) (tg tm 1)) ds h (fun v2 ds h =>
  K .norm (T.set tm 22 v2) ds h)
noncomputable def r50_5 : CodeT := fun call _ tm ds h K =>
  call 55 [(tg tm 0)] h (fun v h => (fun v1 ds h =>
  kO (tupNth 0 v1) ds h (fun v3 ds h =>
  kO (tupNth 1 v1) ds h (fun v4 ds h =>
  kO (tupNth 2 v1) ds h (fun v5 ds h =>
  K .norm (T.set (T.set (T.set tm 9 v3) 10 v4) 11 v5) ds h)))) v ds h)
noncomputable def r50_6 : CodeT := fun call _ tm ds h K =>
  call 55 [(tg tm 10)] h (fun v h => (fun v1 ds h =>
  kO (tupNth 0 v1) ds h (fun v3 ds h =>
  kO (tupNth 1 v1) ds h (fun v4 ds h =>
  kO (tupNth 2 v1) ds h (fun v5 ds h =>
  K .norm (T.set (T.set (T.set tm 12 v3) 13 v4) 14 v5) ds h)))) v ds h)
noncomputable def r50_7 : CodeT := fun call _ tm ds h K =>
  kO (binV Try.prog .neq 3 true (tg tm 11) (.int .i64 (0))) ds h (fun v1 ds h =>
  gd (isB false v1) (fun k => kO (some (tg tm 14)) ds h (k)) ds h (fun v3 ds h =>
  gd (isB false v1) (fun k => kO (binV Try.prog .neq 3 true v3 (.int .i64 (0))) ds h (k)) ds h (fun v4 ds h =>
  kO (pickV v1 (.bool true) v4) ds h (fun v5 ds h =>
  K .norm (T.set tm 42 v5) ds h))))
noncomputable def r50_8 : CodeT := fun call _ tm ds h K =>
  K .norm (T.set (T.set (T.set tm 4 (.slice none 0 0)) 5 (.slice none 0 0)) 6 (.bool false)) ds h
noncomputable def r50_9 : CodeT := fun call _ tm ds h K =>
  K .norm (T.set tm 0 (tg tm 13)) ds h
noncomputable def r50_10 : CodeT := fun call _ tm ds h K =>
  kA (some (.rw [(.int .u64 (0)), (.int .u64 (0)), (.int .u64 (0))], ptrTo h.next)) ds h (fun v0 ds h =>
  K .norm (T.set tm 15 v0) ds h)
noncomputable def r50_11 : CodeT := fun call _ tm ds h K =>
  K .norm (T.set tm 16 (.int .i64 (0))) ds h
noncomputable def r50_12 : CodeT := fun call _ tm ds h K =>
  kO (binV Try.prog .lss 3 true (tg tm 16) (.int .i64 (3))) ds h (fun v1 ds h =>
  K .norm (T.set tm 45 v1) ds h)
noncomputable def r50_14 : CodeT := fun call _ tm ds h K =>
  call 49 [(tg tm 0)] h (fun v h => (fun v1 ds h =>
  kO (tupNth 0 v1) ds h (fun v3 ds h =>
  kO (tupNth 1 v1) ds h (fun v4 ds h =>
  kO (tupNth 2 v1) ds h (fun v5 ds h =>
  K .norm (T.set (T.set (T.set tm 17 v3) 18 v4) 19 v5) ds h)))) v ds h)
noncomputable def r50_15 : CodeT := fun call _ tm ds h K =>
  kO (binV Try.prog .neq 3 true (tg tm 19) (.int .i64 (0))) ds h (fun v1 ds h =>
  K .norm (T.set tm 55 v1) ds h)
noncomputable def r50_16 : CodeT := fun call _ tm ds h K =>
  K .norm (T.set (T.set (T.set tm 4 (.slice none 0 0)) 5 (.slice none 0 0)) 6 (.bool false)) ds h
noncomputable def r50_17 : CodeT := fun call _ tm ds h K =>
  kO (indexArr 1 3 (tg tm 15) (tg tm 16)) ds h (fun v2 ds h =>
  kH (withV undef (storeV 1 h v2 (tg tm 17))) ds (fun v3 ds h =>
  K .norm tm ds h))
noncomputable def r50_18 : CodeT := fun call _ tm ds h K =>
  kO (sliceSl 1 (tg tm 0) (some (tg tm 18)) none none) ds h (fun v2 ds h =>
  K .norm (T.set tm 0 v2) ds h)
noncomputable def r50_13 : CodeT := fun call _ tm ds h K =>
  kO (binV Try.prog .add 3 true (tg tm 16) (.int .i64 (1))) ds h (fun v1 ds h =>
  K .norm (T.set tm 16 v1) ds h)
noncomputable def l50_18 : Box CodeT := ⟨seqC ⟨seqC ⟨r50_12⟩ ⟨condC ⟨fun _ tm => tg tm 45⟩ skipC (exitC 2)⟩⟩ ⟨seqC ⟨blockC 3 ⟨seqC ⟨r50_14⟩ ⟨seqC ⟨seqC ⟨r50_15⟩ ⟨condC ⟨fun _ tm => tg tm 55⟩ ⟨seqC ⟨r50_16⟩ retC⟩ skipC⟩⟩ ⟨seqC ⟨r50_17⟩ ⟨r50_18⟩⟩⟩⟩⟩ ⟨r50_13⟩⟩⟩
noncomputable def r50_19 : CodeT := fun call _ tm ds h K => (⟨opStep ⟨fun call env tm ds h K => kO (indexArr 1 3 (tg tm 15) (.int .i64 (0))) ds h K⟩ ⟨fun v tm => tm⟩ ⟨fun env tm => true⟩
  ⟨opStep ⟨fun call env tm ds h K => kO (loadOne h (nthD 0 env)) ds h K⟩ ⟨fun v tm => tm⟩ ⟨fun env tm => true⟩
  ⟨opStep ⟨fun call env tm ds h K => kO (binV Try.prog .gtr 23 true (nthD 0 env) (.int .u64 (4294967295))) ds h K⟩ ⟨fun v tm => tm⟩ ⟨fun env tm => true⟩
  ⟨opStep ⟨fun call env tm ds h K => kO (some (nthD 0 env)) ds h K⟩ ⟨fun v tm => tm⟩ ⟨fun env tm => true⟩
  ⟨opStep ⟨fun call env tm ds h K => kO (indexArr 1 3 (tg tm 15) (.int .i64 (1))) ds h K⟩ ⟨fun v tm => tm⟩ ⟨fun env tm => isB false (nthD 0 env)⟩
  ⟨opStep ⟨fun call env tm ds h K => kO (loadOne h (nthD 0 env)) ds h K⟩ ⟨fun v tm => tm⟩ ⟨fun env tm => isB false (nthD 1 env)⟩
  ⟨opStep ⟨fun call env tm ds h K => kO (binV Try.prog .gtr 23 true (nthD 0 env) (.int .u64 (1099511627776))) ds h K⟩ ⟨fun v tm => tm⟩ ⟨fun env tm => isB false (nthD 2 env)⟩
  ⟨opStep ⟨fun call env tm ds h K => kO (pickV (nthD 3 env) (.bool true) (nthD 0 env)) ds h K⟩ ⟨fun v tm => (T.set tm 69 v)⟩ ⟨fun env tm => true⟩
  ⟨fun _ _ tm ds h K => K .norm tm ds h⟩⟩⟩⟩⟩⟩⟩⟩⟩ : Box OpsT).f call [] tm ds h K
noncomputable def r50_20 : CodeT := fun call _ tm ds h K =>
  K .norm (T.set (T.set (T.set tm 4 (.slice none 0 0)) 5 (.slice none 0 0)) 6 (.bool false)) ds h
noncomputable def r50_21 : CodeT := fun call _ tm ds h K =>
  kO (indexArr 1 3 (tg tm 15) (.int .i64 (0))) ds h (fun v3 ds h =>
  kO (loadOne h v3) ds h (fun v4 ds h =>
  kO (toInt .u32 v4) ds h (fun v5 ds h =>
  kO (indexArr 1 3 (tg tm 15) (.int .i64 (1))) ds h (fun v6 ds h =>
  kO (loadOne h v6) ds h (fun v7 ds h =>
  kO (toInt .i64 v7) ds h (fun v8 ds h =>
  kO (indexArr 1 3 (tg tm 15) (.int .i64 (2))) ds h (fun v9 ds h =>
  kO (loadOne h v9) ds h (fun v10 ds h =>
  kO (aggO (fill [(.string (strB [])), (.string (strB [])), (.int .u32 (0)), (.int .i64 (0)), (.int .u64 (0))] (plc [(0, 1), (1, 1), (2, 1), (3, 1), (4, 1)]) [(0, (tg tm 9)), (1, (tg tm 12)), (2, v5), (3, v8), (4, v10)])) ds h (fun v11 ds h =>
  kA (mkLit 1 h.next (fill (repl [(.string (strB [])), (.string (strB [])), (.int .u32 (0)), (.int .i64 (0)), (.int .u64 (0))] 1) (pl 5) [(0, v11)])) ds h (fun v12 ds h =>
  kH (appendV 5 56 h (tg tm 7) v12) ds (fun v13 ds h =>
  K .norm (T.set tm 7 v13) ds h)))))))))))
noncomputable def r50_4 : CodeT := fun call _ tm ds h K =>
  kO (binV Try.prog .add 3 true (tg tm 8) (.int .i64 (1))) ds h (fun v1 ds h =>
  K .norm (T.set tm 8 v1) ds h)
noncomputable def l50_23 : Box CodeT := ⟨seqC ⟨seqC ⟨r50_3⟩ ⟨condC ⟨fun _ tm => tg tm 22⟩ skipC (exitC 0)⟩⟩ ⟨seqC ⟨blockC 1 ⟨seqC ⟨r50_5⟩ ⟨seqC ⟨r50_6⟩ ⟨seqC ⟨seqC ⟨r50_7⟩ ⟨condC ⟨fun _ tm => tg tm 42⟩ ⟨seqC ⟨r50_8⟩ retC⟩ skipC⟩⟩ ⟨seqC ⟨r50_9⟩ ⟨seqC ⟨r50_10⟩ ⟨seqC ⟨seqC ⟨r50_11⟩ ⟨blockC 2 (loopB l50_18)⟩⟩ ⟨seqC ⟨seqC ⟨r50_19⟩ ⟨condC ⟨fun _ tm => tg tm 69⟩ ⟨seqC ⟨r50_20⟩ retC⟩ skipC⟩⟩ ⟨r50_21⟩⟩⟩⟩⟩⟩⟩⟩⟩ ⟨r50_4⟩⟩⟩
noncomputable def r50_22 : CodeT := fun call _ tm ds h K =>
  K .norm (T.set (T.set (T.set tm 4 (tg tm 7)) 5 (tg tm 0)) 6 (.bool true)) ds h
noncomputable def c50 : Box CodeT := ⟨seqC ⟨r50_0⟩ ⟨seqC ⟨r50_1⟩ ⟨seqC ⟨seqC ⟨r50_2⟩ ⟨blockC 0 (loopB l50_23)⟩⟩ ⟨seqC ⟨r50_22⟩ retC⟩⟩⟩⟩
noncomputable def q50 : Box (T Value → H → Option (List Value)) := ⟨fun tm h => some [tg tm 4, tg tm 5, tg tm 6]⟩
/-! 51 slices.IndexFunc[[]cloakroom/api.Item,cloakroom/api.Item] -/
noncomputable def r51_0 : CodeT := fun call _ tm ds h K =>
  K .norm (T.set tm 4 (.int .i64 (0))) ds h
noncomputable def r51_1 : CodeT := fun call _ tm ds h K =>
  kO (lenSl (tg tm 0)) ds h (fun v1 ds h =>
  K .norm (T.set (T.set tm 7 v1) 8 (.int .i64 (0))) ds h)
noncomputable def r51_2 : CodeT := fun call _ tm ds h K =>
  kO (binV Try.prog .lss 3 false (tg tm 8) (tg tm 7)) ds h (fun v0 ds h =>
  K .norm (T.set tm 9 v0) ds h)
noncomputable def r51_3 : CodeT := fun call _ tm ds h K =>
  K .norm (T.set tm 5 (tg tm 8)) ds h
noncomputable def r51_4 : CodeT := fun call _ tm ds h K =>
  kO (indexSl 5 (tg tm 0) (tg tm 5)) ds h (fun v3 ds h =>
  kO (loadAgg 5 h v3) ds h (fun v4 ds h =>
  goCall call (funcArgs (tg tm 1) [v4]) ds h (fun v5 ds h =>
  K .norm (T.set tm 16 v5) ds h)))
noncomputable def r51_5 : CodeT := fun call _ tm ds h K =>
  K .norm (T.set tm 4 (tg tm 5)) ds h
noncomputable def r51_6 : CodeT := fun call _ tm ds h K =>
  kO (binV Try.prog .add 3 true (tg tm 8) (.int .i64 (1))) ds h (fun v0 ds h =>
  K .norm (T.set tm 8 v0) ds h)
noncomputable def l51_7 : Box CodeT := ⟨seqC ⟨r51_2⟩ ⟨seqC ⟨condC ⟨fun _ tm => tg tm 9⟩ skipC (exitC 0)⟩ ⟨seqC ⟨blockC 1 ⟨seqC ⟨r51_3⟩ ⟨seqC ⟨r51_4⟩ ⟨condC ⟨fun _ tm => tg tm 16⟩ ⟨seqC ⟨r51_5⟩ retC⟩ skipC⟩⟩⟩⟩ ⟨r51_6⟩⟩⟩⟩
noncomputable def r51_7 : CodeT := fun call _ tm ds h K =>
  K .norm (T.set tm 4 (.int .i64 (-1))) ds h
noncomputable def c51 : Box CodeT := ⟨seqC ⟨r51_0⟩ ⟨seqC ⟨seqC ⟨r51_1⟩ ⟨blockC 0 (loopB l51_7)⟩⟩ ⟨seqC ⟨r51_7⟩ retC⟩⟩⟩
noncomputable def q51 : Box (T Value → H → Option (List Value)) := ⟨fun tm h => some [tg tm 4]⟩
/-! 52 cloakroom/item.moment -/
noncomputable def r52_0 : CodeT := fun call _ tm ds h K =>
  K .norm (T.set tm 2 (.bool false)) ds h
noncomputable def r52_1 : CodeT := fun call _ tm ds h K =>
  kO (binV Try.prog .geq 3 true (tg tm 0) (.int .i64 (0))) ds h (fun v1 ds h =>
  gd (isB true v1) (fun k => kO (some (tg tm 0)) ds h (k)) ds h (fun v3 ds h =>
  gd (isB true v1) (fun k => kO (binV Try.prog .leq 3 true v3 (.int .i64 (1099511627776))) ds h (k)) ds h (fun v4 ds h =>
  kO (pickV v1 v4 (.bool false)) ds h (fun v5 ds h =>
  K .norm (T.set tm 2 v5) ds h))))
noncomputable def c52 : Box CodeT := ⟨seqC ⟨r52_0⟩ ⟨seqC ⟨r52_1⟩ retC⟩⟩
noncomputable def q52 : Box (T Value → H → Option (List Value)) := ⟨fun tm h => some [tg tm 2]⟩
/-! 53 cloakroom/code.cut -/
noncomputable def r53_0 : CodeT := fun call _ tm ds h K =>
  K .norm (T.set (T.set (T.set tm 2 (.slice none 0 0)) 3 (.slice none 0 0)) 4 (.int .i64 (0))) ds h
noncomputable def r53_1 : CodeT := fun call _ tm ds h K =>
  call 47 [(tg tm 0)] h (fun v h => (fun v1 ds h =>
  kO (tupNth 0 v1) ds h (fun v3 ds h =>
  kO (tupNth 1 v1) ds h (fun v4 ds h =>
  kO (tupNth 2 v1) ds h (fun v5 ds h =>
  K .norm (T.set (T.set (T.set tm 5 v3) 6 v4) 7 v5) ds h)))) v ds h)
noncomputable def r53_2 : CodeT := fun call _ tm ds h K => (⟨opStep ⟨fun call env tm ds h K => kO (some (tg tm 7)) ds h K⟩ ⟨fun v tm => tm⟩ ⟨fun env tm => true⟩
  ⟨opStep ⟨fun call env tm ds h K => kO (binV Try.prog .neq 30 true (nthD 0 env) (.int .i64 (0))) ds h K⟩ ⟨fun v tm => tm⟩ ⟨fun env tm => true⟩
  ⟨opStep ⟨fun call env tm ds h K => kO (some (nthD 0 env)) ds h K⟩ ⟨fun v tm => tm⟩ ⟨fun env tm => true⟩
  ⟨opStep ⟨fun call env tm ds h K => kO (some (tg tm 5)) ds h K⟩ ⟨fun v tm => tm⟩ ⟨fun env tm => isB false (nthD 0 env)⟩
  ⟨opStep ⟨fun call env tm ds h K => kO (some (tg tm 0)) ds h K⟩ ⟨fun v tm => tm⟩ ⟨fun env tm => isB false (nthD 1 env)⟩
  ⟨opStep ⟨fun call env tm ds h K => kO (lenSl (nthD 0 env)) ds h K⟩ ⟨fun v tm => tm⟩ ⟨fun env tm => isB false (nthD 2 env)⟩
  ⟨opStep ⟨fun call env tm ds h K => kO (some (tg tm 6)) ds h K⟩ ⟨fun v tm => tm⟩ ⟨fun env tm => isB false (nthD 3 env)⟩
  ⟨opStep ⟨fun call env tm ds h K => kO (binV Try.prog .sub 3 false (nthD 1 env) (nthD 0 env)) ds h K⟩ ⟨fun v tm => tm⟩ ⟨fun env tm => isB false (nthD 4 env)⟩
  ⟨opStep ⟨fun call env tm ds h K => kO (toInt .u64 (nthD 0 env)) ds h K⟩ ⟨fun v tm => tm⟩ ⟨fun env tm => isB false (nthD 5 env)⟩
  ⟨opStep ⟨fun call env tm ds h K => kO (binV Try.prog .gtr 23 false (nthD 5 env) (nthD 0 env)) ds h K⟩ ⟨fun v tm => tm⟩ ⟨fun env tm => isB false (nthD 6 env)⟩
  ⟨opStep ⟨fun call env tm ds h K => kO (pickV (nthD 7 env) (.bool true) (nthD 0 env)) ds h K⟩ ⟨fun v tm => (T.set tm 24 v)⟩ ⟨fun env tm => true⟩
  ⟨fun _ _ tm ds h K => K .norm tm ds h⟩⟩⟩⟩⟩⟩⟩⟩⟩⟩⟩⟩ : Box OpsT).f call [] tm ds h K
noncomputable def r53_3 : CodeT := fun call _ tm ds h K =>
  K .norm (T.set (T.set (T.set tm 2 (.slice none 0 0)) 3 (.slice none 0 0)) 4 (.int .i64 (8))) ds h
noncomputable def r53_4 : CodeT := fun call _ tm ds h0 K =>
  (fun (b0 : Nat) (h : H) =>
  kO (sliceSl 1 (tg tm 0) (some (tg tm 6)) none none) ds h (fun v2 ds h =>
  kO (sliceSl 1 v2 none (some (tg tm 5)) none) ds h (fun v4 ds h =>
  kO (toInt .i64 (tg tm 5)) ds h (fun v8 ds h =>
  kO (binV Try.prog .add 3 false (tg tm 6) v8) ds h (fun v9 ds h =>
  kO (sliceSl 1 (tg tm 0) (some v9) none none) ds h (fun v10 ds h =>
  K .norm (T.set (T.set (T.set tm 2 v4) 3 v10) 4 (.int .i64 (0))) ds h)))))) h0.next ⟨h0.objs, h0.next + 14⟩
noncomputable def c53 : Box CodeT := ⟨seqC ⟨r53_0⟩ ⟨seqC ⟨r53_1⟩ ⟨seqC ⟨seqC ⟨r53_2⟩ ⟨condC ⟨fun _ tm => tg tm 24⟩ ⟨seqC ⟨r53_3⟩ retC⟩ skipC⟩⟩ ⟨seqC ⟨r53_4⟩ retC⟩⟩⟩⟩
noncomputable def q53 : Box (T Value → H → Option (List Value)) := ⟨fun tm h => some [tg tm 2, tg tm 3, tg tm 4]⟩
/-! 54 bytes.Clone -/
noncomputable def r54_0 : CodeT := fun call _ tm ds h K =>
  K .norm (T.set tm 2 (.slice none 0 0)) ds h
noncomputable def r54_1 : CodeT := fun call _ tm ds h K =>
  kO (binV Try.prog .eql 29 true (tg tm 0) (.slice none 0 0)) ds h (fun v1 ds h =>
  K .norm (T.set tm 4 v1) ds h)
noncomputable def r54_2 : CodeT := fun call _ tm ds h K =>
  K .norm (T.set tm 2 (.slice none 0 0)) ds h
noncomputable def r54_3 : CodeT := fun call _ tm ds h K =>
  kA (mkLit 0 h.next (fill (repl [(.int .u8 (0))] 0) (pl 1) [])) ds h (fun v0 ds h =>
  kH (appendV 1 1 h v0 (tg tm 0)) ds (fun v2 ds h =>
  K .norm (T.set tm 2 v2) ds h))
noncomputable def c54 : Box CodeT := ⟨seqC ⟨r54_0⟩ ⟨seqC ⟨seqC ⟨r54_1⟩ ⟨condC ⟨fun _ tm => tg tm 4⟩ ⟨seqC ⟨r54_2⟩ retC⟩ skipC⟩⟩ ⟨seqC ⟨r54_3⟩ retC⟩⟩⟩
noncomputable def q54 : Box (T Value → H → Option (List Value)) := ⟨fun tm h => some [tg tm 2]⟩
/-! 55 cloakroom/cloakroomref01.Cut -/
noncomputable def r55_0 : CodeT := fun call _ tm ds h K =>
  K .norm (T.set (T.set (T.set tm 2 (.string (strB []))) 3 (.slice none 0 0)) 4 (.int .i64 (0))) ds h
noncomputable def r55_1 : CodeT := fun call _ tm ds h K =>
  call 49 [(tg tm 0)] h (fun v h => (fun v1 ds h =>
  kO (tupNth 0 v1) ds h (fun v3 ds h =>
  kO (tupNth 1 v1) ds h (fun v4 ds h =>
  kO (tupNth 2 v1) ds h (fun v5 ds h =>
  K .norm (T.set (T.set (T.set tm 5 v3) 6 v4) 7 v5) ds h)))) v ds h)
noncomputable def r55_2 : CodeT := fun call _ tm ds h K => (⟨opStep ⟨fun call env tm ds h K => kO (some (tg tm 7)) ds h K⟩ ⟨fun v tm => tm⟩ ⟨fun env tm => true⟩
  ⟨opStep ⟨fun call env tm ds h K => kO (binV Try.prog .neq 3 true (nthD 0 env) (.int .i64 (0))) ds h K⟩ ⟨fun v tm => tm⟩ ⟨fun env tm => true⟩
  ⟨opStep ⟨fun call env tm ds h K => kO (some (nthD 0 env)) ds h K⟩ ⟨fun v tm => tm⟩ ⟨fun env tm => true⟩
  ⟨opStep ⟨fun call env tm ds h K => kO (some (tg tm 5)) ds h K⟩ ⟨fun v tm => tm⟩ ⟨fun env tm => isB false (nthD 0 env)⟩
  ⟨opStep ⟨fun call env tm ds h K => kO (some (tg tm 0)) ds h K⟩ ⟨fun v tm => tm⟩ ⟨fun env tm => isB false (nthD 1 env)⟩
  ⟨opStep ⟨fun call env tm ds h K => kO (lenSl (nthD 0 env)) ds h K⟩ ⟨fun v tm => tm⟩ ⟨fun env tm => isB false (nthD 2 env)⟩
  ⟨opStep ⟨fun call env tm ds h K => kO (some (tg tm 6)) ds h K⟩ ⟨fun v tm => tm⟩ ⟨fun env tm => isB false (nthD 3 env)⟩
  ⟨opStep ⟨fun call env tm ds h K => kO (binV Try.prog .sub 3 false (nthD 1 env) (nthD 0 env)) ds h K⟩ ⟨fun v tm => tm⟩ ⟨fun env tm => isB false (nthD 4 env)⟩
  ⟨opStep ⟨fun call env tm ds h K => kO (toInt .u64 (nthD 0 env)) ds h K⟩ ⟨fun v tm => tm⟩ ⟨fun env tm => isB false (nthD 5 env)⟩
  ⟨opStep ⟨fun call env tm ds h K => kO (binV Try.prog .gtr 23 false (nthD 5 env) (nthD 0 env)) ds h K⟩ ⟨fun v tm => tm⟩ ⟨fun env tm => isB false (nthD 6 env)⟩
  ⟨opStep ⟨fun call env tm ds h K => kO (pickV (nthD 7 env) (.bool true) (nthD 0 env)) ds h K⟩ ⟨fun v tm => (T.set tm 26 v)⟩ ⟨fun env tm => true⟩
  ⟨fun _ _ tm ds h K => K .norm tm ds h⟩⟩⟩⟩⟩⟩⟩⟩⟩⟩⟩⟩ : Box OpsT).f call [] tm ds h K
noncomputable def r55_3 : CodeT := fun call _ tm ds h K =>
  K .norm (T.set (T.set (T.set tm 2 (.string (strB []))) 3 (.slice none 0 0)) 4 (.int .i64 (8))) ds h
noncomputable def r55_4 : CodeT := fun call _ tm ds h K =>
  kO (toInt .i64 (tg tm 5)) ds h (fun v2 ds h =>
  kO (binV Try.prog .add 3 false (tg tm 6) v2) ds h (fun v3 ds h =>
  K .norm (T.set tm 8 v3) ds h))
noncomputable def r55_5 : CodeT := fun call _ tm ds h K =>
  K .norm (T.set tm 9 (.slice none 0 0)) ds h
noncomputable def r55_6 : CodeT := fun call _ tm ds h K =>
  kO (sliceSl 1 (tg tm 0) (some (tg tm 8)) none none) ds h (fun v3 ds h =>
  kH (appendV 1 1 h (tg tm 9) v3) ds (fun v4 ds h =>
  K .norm (T.set tm 9 v4) ds h))
noncomputable def r55_7 : CodeT := fun call _ tm ds h K =>
  kO (sliceSl 1 (tg tm 0) (some (tg tm 6)) (some (tg tm 8)) none) ds h (fun v3 ds h =>
  kO (bytesStr h v3) ds h (fun v4 ds h =>
  K .norm (T.set (T.set (T.set tm 2 v4) 3 (tg tm 9)) 4 (.int .i64 (0))) ds h))
noncomputable def c55 : Box CodeT := ⟨seqC ⟨r55_0⟩ ⟨seqC ⟨r55_1⟩ ⟨seqC ⟨seqC ⟨r55_2⟩ ⟨condC ⟨fun _ tm => tg tm 26⟩ ⟨seqC ⟨r55_3⟩ retC⟩ skipC⟩⟩ ⟨seqC ⟨r55_4⟩ ⟨seqC ⟨r55_5⟩ ⟨seqC ⟨r55_6⟩ ⟨seqC ⟨r55_7⟩ retC⟩⟩⟩⟩⟩⟩⟩
noncomputable def q55 : Box (T Value → H → Option (List Value)) := ⟨fun tm h => some [tg tm 2, tg tm 3, tg tm 4]⟩

end Go.Proofs.Ytpaolklbogakgaa
