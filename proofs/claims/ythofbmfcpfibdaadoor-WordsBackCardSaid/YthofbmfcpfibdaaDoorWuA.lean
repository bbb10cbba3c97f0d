import Derived.Test.YthofbmfcpfibdaaDoorWyA
set_option linter.unusedSimpArgs false
set_option linter.unusedVariables false
namespace Go.Proofs.YthofbmfcpfibdaaDoor
open Go.Ev
/-! 6 cloakroom/cloakroomlaw15.WordsBack -/
noncomputable def r6_0 : CodeT := fun call _ tm ds h K =>
  kA (some (.rw (Value.cells (tg tm 0)).toList (some 27), ptrTo h.next)) ds h (fun v0 ds h =>
  K .norm (T.set (T.set tm 2 v0) 4 (.bool false)) ds h)
noncomputable def r6_1 : CodeT := fun call _ tm ds h K =>
  call 17 [] h (fun v h => (fun v0 ds h =>
  K .norm (T.set tm 5 v0) ds h) v ds h)
noncomputable def r6_2 : CodeT := fun call _ tm ds h K => (⟨opStep ⟨fun call env tm ds h K => kO (loadAgg 7 h (tg tm 2)) ds h K⟩ ⟨fun v tm => tm⟩ ⟨fun env tm => true⟩
  ⟨opStep ⟨fun call env tm ds h K => call 8 [(nthD 0 env)] h (fun v h => (K) v ds h)⟩ ⟨fun v tm => tm⟩ ⟨fun env tm => true⟩
  ⟨opStep ⟨fun call env tm ds h K => kO (some (nthD 0 env)) ds h K⟩ ⟨fun v tm => tm⟩ ⟨fun env tm => true⟩
  ⟨opStep ⟨fun call env tm ds h K => kO (some (tg tm 1)) ds h K⟩ ⟨fun v tm => tm⟩ ⟨fun env tm => isB false (nthD 0 env)⟩
  ⟨opStep ⟨fun call env tm ds h K => kO (lenSl (nthD 0 env)) ds h K⟩ ⟨fun v tm => tm⟩ ⟨fun env tm => isB false (nthD 1 env)⟩
  ⟨opStep ⟨fun call env tm ds h K => kO (binV Tryd.prog .gtr 3 true (nthD 0 env) (.int .i64 (8000))) ds h K⟩ ⟨fun v tm => tm⟩ ⟨fun env tm => isB false (nthD 2 env)⟩
  ⟨opStep ⟨fun call env tm ds h K => kO (pickV (nthD 3 env) (.bool true) (nthD 0 env)) ds h K⟩ ⟨fun v tm => tm⟩ ⟨fun env tm => true⟩
  ⟨opStep ⟨fun call env tm ds h K => kO (some (nthD 0 env)) ds h K⟩ ⟨fun v tm => tm⟩ ⟨fun env tm => true⟩
  ⟨opStep ⟨fun call env tm ds h K => kO (some (tg tm 5)) ds h K⟩ ⟨fun v tm => tm⟩ ⟨fun env tm => isB false (nthD 0 env)⟩
  ⟨opStep ⟨fun call env tm ds h K => kO (unV .not (nthD 0 env)) ds h K⟩ ⟨fun v tm => tm⟩ ⟨fun env tm => isB false (nthD 1 env)⟩
  ⟨opStep ⟨fun call env tm ds h K => kO (pickV (nthD 2 env) (.bool true) (nthD 0 env)) ds h K⟩ ⟨fun v tm => (T.set tm 24 v)⟩ ⟨fun env tm => true⟩
  ⟨fun _ _ tm ds h K => K .norm tm ds h⟩⟩⟩⟩⟩⟩⟩⟩⟩⟩⟩⟩ : Box OpsT).f call [] tm ds h K
noncomputable def r6_3 : CodeT := fun call _ tm ds h K =>
  K .norm (T.set tm 4 (tg tm 5)) ds h
noncomputable def r6_4 : CodeT := fun call _ tm ds h K =>
  kO (loadAgg 7 h (tg tm 2)) ds h (fun v0 ds h =>
  call 9 [v0] h (fun v h => (fun v1 ds h =>
  kO (tupNth 0 v1) ds h (fun v3 ds h =>
  kO (tupNth 1 v1) ds h (fun v4 ds h =>
  K .norm (T.set (T.set tm 6 v3) 7 v4) ds h))) v ds h))
noncomputable def r6_5 : CodeT := fun call _ tm ds h K =>
  kO (binV Tryd.prog .neq 30 true (tg tm 7) (.int .i64 (0))) ds h (fun v1 ds h =>
  K .norm (T.set tm 32 v1) ds h)
noncomputable def r6_6 : CodeT := fun call _ tm ds h K =>
  kO (lenSl (tg tm 6)) ds h (fun v1 ds h =>
  kO (binV Tryd.prog .eql 3 true v1 (.int .i64 (0))) ds h (fun v2 ds h =>
  K .norm (T.set tm 4 v2) ds h))
noncomputable def r6_7 : CodeT := fun call _ tm ds h K =>
  kO (lenSl (tg tm 6)) ds h (fun v1 ds h =>
  K .norm (T.set tm 8 v1) ds h)
noncomputable def r6_8 : CodeT := fun call _ tm ds h K =>
  K .norm (T.set tm 9 (.slice none 0 0)) ds h
noncomputable def r6_9 : CodeT := fun call _ tm ds h K =>
  kH (appendV 5 1 1 h (tg tm 9) (tg tm 6)) ds (fun v2 ds h =>
  K .norm (T.set tm 9 v2) ds h)
noncomputable def r6_10 : CodeT := fun call _ tm ds h K =>
  kH (appendV 5 1 1 h (tg tm 9) (tg tm 1)) ds (fun v2 ds h =>
  K .norm (T.set tm 9 v2) ds h)
noncomputable def r6_11 : CodeT := fun call _ tm ds h K =>
  kO (fieldPtr 1 (tg tm 2)) ds h (fun v1 ds h =>
  kO (loadOne h v1) ds h (fun v2 ds h =>
  call 13 [(tg tm 9), v2] h (fun v h => (fun v3 ds h =>
  kO (tupNth 0 v3) ds h (fun v5 ds h =>
  kO (tupNth 1 v3) ds h (fun v6 ds h =>
  kO (tupNth 2 v3) ds h (fun v7 ds h =>
  kA (some (.rw [(.int .u8 (0)), (.int .u8 (0)), (.int .u8 (0)), (.slice none 0 0), (.int .u64 (0)), (.bool false), (.string (strB []))] (some 27), ptrTo h.next)) ds h (fun v8 ds h =>
  kH (withV undef (storeV 7 h v8 v5)) ds (fun v9 ds h =>
  K .norm (T.set (T.set (T.set tm 10 v8) 11 v6) 12 v7) ds h)))))) v ds h)))
noncomputable def r6_12 : CodeT := fun call _ tm ds h K => (⟨opStep ⟨fun call env tm ds h K => kO (some (tg tm 12)) ds h K⟩ ⟨fun v tm => tm⟩ ⟨fun env tm => true⟩
  ⟨opStep ⟨fun call env tm ds h K => kO (binV Tryd.prog .eql 30 true (nthD 0 env) (.int .i64 (0))) ds h K⟩ ⟨fun v tm => tm⟩ ⟨fun env tm => true⟩
  ⟨opStep ⟨fun call env tm ds h K => kO (some (nthD 0 env)) ds h K⟩ ⟨fun v tm => tm⟩ ⟨fun env tm => true⟩
  ⟨opStep ⟨fun call env tm ds h K => kO (some (tg tm 11)) ds h K⟩ ⟨fun v tm => tm⟩ ⟨fun env tm => isB true (nthD 0 env)⟩
  ⟨opStep ⟨fun call env tm ds h K => kO (some (tg tm 8)) ds h K⟩ ⟨fun v tm => tm⟩ ⟨fun env tm => isB true (nthD 1 env)⟩
  ⟨opStep ⟨fun call env tm ds h K => kO (binV Tryd.prog .eql 3 false (nthD 1 env) (nthD 0 env)) ds h K⟩ ⟨fun v tm => tm⟩ ⟨fun env tm => isB true (nthD 2 env)⟩
  ⟨opStep ⟨fun call env tm ds h K => kO (pickV (nthD 3 env) (nthD 0 env) (.bool false)) ds h K⟩ ⟨fun v tm => tm⟩ ⟨fun env tm => true⟩
  ⟨opStep ⟨fun call env tm ds h K => kO (some (nthD 0 env)) ds h K⟩ ⟨fun v tm => tm⟩ ⟨fun env tm => true⟩
  ⟨opStep ⟨fun call env tm ds h K => kO (loadAgg 7 h (tg tm 10)) ds h K⟩ ⟨fun v tm => tm⟩ ⟨fun env tm => isB true (nthD 0 env)⟩
  ⟨opStep ⟨fun call env tm ds h K => kO (loadAgg 7 h (tg tm 2)) ds h K⟩ ⟨fun v tm => tm⟩ ⟨fun env tm => isB true (nthD 1 env)⟩
  ⟨opStep ⟨fun call env tm ds h K => call 15 [(nthD 1 env), (nthD 0 env)] h (fun v h => (K) v ds h)⟩ ⟨fun v tm => tm⟩ ⟨fun env tm => isB true (nthD 2 env)⟩
  ⟨opStep ⟨fun call env tm ds h K => kO (pickV (nthD 3 env) (nthD 0 env) (.bool false)) ds h K⟩ ⟨fun v tm => tm⟩ ⟨fun env tm => true⟩
  ⟨opStep ⟨fun call env tm ds h K => kO (some (nthD 0 env)) ds h K⟩ ⟨fun v tm => (T.set tm 4 v)⟩ ⟨fun env tm => true⟩
  ⟨fun _ _ tm ds h K => K .norm tm ds h⟩⟩⟩⟩⟩⟩⟩⟩⟩⟩⟩⟩⟩⟩ : Box OpsT).f call [] tm ds h K
noncomputable def c6 : Box CodeT := ⟨seqC ⟨r6_0⟩ ⟨seqC ⟨r6_1⟩ ⟨seqC ⟨seqC ⟨r6_2⟩ ⟨condC ⟨fun _ tm => tg tm 24⟩ ⟨seqC ⟨r6_3⟩ retC⟩ skipC⟩⟩ ⟨seqC ⟨r6_4⟩ ⟨seqC ⟨seqC ⟨r6_5⟩ ⟨condC ⟨fun _ tm => tg tm 32⟩ ⟨seqC ⟨r6_6⟩ retC⟩ skipC⟩⟩ ⟨seqC ⟨r6_7⟩ ⟨seqC ⟨r6_8⟩ ⟨seqC ⟨r6_9⟩ ⟨seqC ⟨r6_10⟩ ⟨seqC ⟨r6_11⟩ ⟨seqC ⟨r6_12⟩ retC⟩⟩⟩⟩⟩⟩⟩⟩⟩⟩⟩
noncomputable def q6 : Box (T Value → H → Option (List Value)) := ⟨fun tm h => some [tg tm 4]⟩
theorem f6 : funcB Tryd.prog (maskOf masks) outside NG 6 = ⟨bodyC 64 c6 q6⟩ := by kernel_rfl

/-! 7 cloakroom/cloakroomlaw15.WordsOnly -/
/-! 17 cloakroom/cloakroomlaw15.alive -/
noncomputable def r17_0 : CodeT := fun call _ tm ds h K =>
  K .norm (T.set tm 0 (.bool false)) ds h
noncomputable def r17_1 : CodeT := fun call _ tm ds h K =>
  call 37 [] h (fun v h => (fun v0 ds h =>
  call 9 [v0] h (fun v h => (fun v1 ds h =>
  kO (tupNth 0 v1) ds h (fun v3 ds h =>
  kO (tupNth 1 v1) ds h (fun v4 ds h =>
  K .norm (T.set (T.set tm 1 v3) 2 v4) ds h))) v ds h)) v ds h)
noncomputable def r17_2 : CodeT := fun call _ tm ds h K => (⟨opStep ⟨fun call env tm ds h K => kO (some (tg tm 2)) ds h K⟩ ⟨fun v tm => tm⟩ ⟨fun env tm => true⟩
  ⟨opStep ⟨fun call env tm ds h K => kO (binV Tryd.prog .eql 30 true (nthD 0 env) (.int .i64 (0))) ds h K⟩ ⟨fun v tm => tm⟩ ⟨fun env tm => true⟩
  ⟨opStep ⟨fun call env tm ds h K => kO (some (nthD 0 env)) ds h K⟩ ⟨fun v tm => tm⟩ ⟨fun env tm => true⟩
  ⟨opStep ⟨fun call env tm ds h K => kO (some (tg tm 1)) ds h K⟩ ⟨fun v tm => tm⟩ ⟨fun env tm => isB true (nthD 0 env)⟩
  ⟨opStep ⟨fun call env tm ds h K => kO (bytesStr h (nthD 0 env)) ds h K⟩ ⟨fun v tm => tm⟩ ⟨fun env tm => isB true (nthD 1 env)⟩
  ⟨opStep ⟨fun call env tm ds h K => kO (binV Tryd.prog .eql 9 true (nthD 0 env) (.string (strB [86, 65, 76, 85, 69, 32, 107, 32, 55, 32, 48, 32, 51, 32, 50, 13, 10, 97, 98, 13, 10, 69, 78, 68, 13, 10]))) ds h K⟩ ⟨fun v tm => tm⟩ ⟨fun env tm => isB true (nthD 2 env)⟩
  ⟨opStep ⟨fun call env tm ds h K => kO (pickV (nthD 3 env) (nthD 0 env) (.bool false)) ds h K⟩ ⟨fun v tm => tm⟩ ⟨fun env tm => true⟩
  ⟨opStep ⟨fun call env tm ds h K => kO (some (nthD 0 env)) ds h K⟩ ⟨fun v tm => (T.set tm 0 v)⟩ ⟨fun env tm => true⟩
  ⟨fun _ _ tm ds h K => K .norm tm ds h⟩⟩⟩⟩⟩⟩⟩⟩⟩ : Box OpsT).f call [] tm ds h K
noncomputable def c17 : Box CodeT := ⟨seqC ⟨r17_0⟩ ⟨seqC ⟨r17_1⟩ ⟨seqC ⟨r17_2⟩ retC⟩⟩⟩
noncomputable def q17 : Box (T Value → H → Option (List Value)) := ⟨fun tm h => some [tg tm 0]⟩
theorem f17 : funcB Tryd.prog (maskOf masks) outside NG 17 = ⟨bodyC 15 c17 q17⟩ := by kernel_rfl

/-! 37 cloakroom/cloakroomlaw15.got -/
noncomputable def r37_0 : CodeT := fun call _ tm ds h K =>
  kA (some (.rw [(.int .u8 (0)), (.int .u8 (0)), (.int .u8 (0)), (.slice none 0 0), (.int .u64 (0)), (.bool false), (.string (strB []))] (some 27), ptrTo h.next)) ds h (fun v0 ds h =>
  K .norm (T.set tm 0 v0) ds h)
noncomputable def r37_1 : CodeT := fun call _ tm ds h K =>
  kO (aggO (fill [(.string (strB [])), (.string (strB [])), (.int .u32 (0)), (.int .i64 (0)), (.int .u64 (0))] (plc [(0, 1), (1, 1), (2, 1), (3, 1), (4, 1)]) [(0, (.string (strB [107]))), (1, (.string (strB [97, 98]))), (2, (.int .u32 (7))), (4, (.int .u64 (3)))])) ds h (fun v0 ds h =>
  kA (some (.rw [(.string (strB [])), (.string (strB [])), (.int .u32 (0)), (.int .i64 (0)), (.int .u64 (0))] (some 48), ptrTo h.next)) ds h (fun v1 ds h =>
  kH (withV undef (storeV 5 h v1 v0)) ds (fun v2 ds h =>
  K .norm (T.set tm 1 v1) ds h)))
noncomputable def r37_2 : CodeT := fun call _ tm ds h K =>
  kO (loadAgg 5 h (tg tm 1)) ds h (fun v0 ds h =>
  kA (mkLit 48 1 h.next (fill (repl [(.string (strB [])), (.string (strB [])), (.int .u32 (0)), (.int .i64 (0)), (.int .u64 (0))] 1) (pl 5) [(0, v0)])) ds h (fun v1 ds h =>
  kO (aggO (fill [(.int .u8 (0)), (.slice none 0 0), (.int .u64 (0))] (plc [(0, 1), (1, 1), (2, 1)]) [(0, (.int .u8 (1))), (1, v1)])) ds h (fun v2 ds h =>
  kO (aggO (fill [(.int .u8 (0)), (.int .u8 (0)), (.int .u8 (0)), (.slice none 0 0), (.int .u64 (0)), (.bool false), (.string (strB []))] (plc [(0, 1), (1, 1), (2, 3), (5, 1), (6, 1)]) [(0, (.int .u8 (1))), (1, (.int .u8 (1))), (2, v2)])) ds h (fun v3 ds h =>
  kH (withV undef (storeV 7 h (tg tm 0) v3)) ds (fun v4 ds h =>
  K .norm tm ds h)))))
noncomputable def c37 : Box CodeT := ⟨seqC ⟨r37_0⟩ ⟨seqC ⟨r37_1⟩ ⟨seqC ⟨r37_2⟩ retC⟩⟩⟩
noncomputable def q37 : Box (T Value → H → Option (List Value)) := ⟨fun tm h => (match loadAgg 7 h (tg tm 0) with | some v => (match (some [] : Option (List Value)) with | some l => some (v :: l) | none => none) | none => none)⟩
theorem f37 : funcB Tryd.prog (maskOf masks) outside NG 37 = ⟨bodyC 7 c37 q37⟩ := by kernel_rfl

end Go.Proofs.YthofbmfcpfibdaaDoor
