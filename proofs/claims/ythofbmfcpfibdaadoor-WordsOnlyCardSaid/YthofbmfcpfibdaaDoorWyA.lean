import Derived.Test.YthofbmfcpfibdaaDoorWdA
set_option linter.unusedSimpArgs false
set_option linter.unusedVariables false
namespace Go.Proofs.YthofbmfcpfibdaaDoor
open Go.Ev
/-! 36 cloakroom/cloakroomref10.Same -/
noncomputable def r36_0 : CodeT := fun call _ tm ds h K =>
  kA (some (.rw (Value.cells (tg tm 0)).toList (some 25), ptrTo h.next)) ds h (fun v0 ds h =>
  kA (some (.rw (Value.cells (tg (T.set tm 2 v0) 1)).toList (some 25), ptrTo h.next)) ds h (fun v1 ds h =>
  K .norm (T.set (T.set (T.set tm 2 v0) 3 v1) 4 (.bool false)) ds h))
noncomputable def r36_1 : CodeT := fun call _ tm ds h K => (⟨opStep ⟨fun call env tm ds h K => kO (fieldPtr 0 (tg tm 2)) ds h K⟩ ⟨fun v tm => tm⟩ ⟨fun env tm => true⟩
  ⟨opStep ⟨fun call env tm ds h K => kO (loadOne h (nthD 0 env)) ds h K⟩ ⟨fun v tm => tm⟩ ⟨fun env tm => true⟩
  ⟨opStep ⟨fun call env tm ds h K => kO (fieldPtr 0 (tg tm 3)) ds h K⟩ ⟨fun v tm => tm⟩ ⟨fun env tm => true⟩
  ⟨opStep ⟨fun call env tm ds h K => kO (loadOne h (nthD 0 env)) ds h K⟩ ⟨fun v tm => tm⟩ ⟨fun env tm => true⟩
  ⟨opStep ⟨fun call env tm ds h K => kO (binV Tryd.prog .neq 5 false (nthD 2 env) (nthD 0 env)) ds h K⟩ ⟨fun v tm => tm⟩ ⟨fun env tm => true⟩
  ⟨opStep ⟨fun call env tm ds h K => kO (some (nthD 0 env)) ds h K⟩ ⟨fun v tm => tm⟩ ⟨fun env tm => true⟩
  ⟨opStep ⟨fun call env tm ds h K => kO (fieldPtr 2 (tg tm 2)) ds h K⟩ ⟨fun v tm => tm⟩ ⟨fun env tm => isB false (nthD 0 env)⟩
  ⟨opStep ⟨fun call env tm ds h K => kO (loadOne h (nthD 0 env)) ds h K⟩ ⟨fun v tm => tm⟩ ⟨fun env tm => isB false (nthD 1 env)⟩
  ⟨opStep ⟨fun call env tm ds h K => kO (fieldPtr 2 (tg tm 3)) ds h K⟩ ⟨fun v tm => tm⟩ ⟨fun env tm => isB false (nthD 2 env)⟩
  ⟨opStep ⟨fun call env tm ds h K => kO (loadOne h (nthD 0 env)) ds h K⟩ ⟨fun v tm => tm⟩ ⟨fun env tm => isB false (nthD 3 env)⟩
  ⟨opStep ⟨fun call env tm ds h K => kO (binV Tryd.prog .neq 23 false (nthD 2 env) (nthD 0 env)) ds h K⟩ ⟨fun v tm => tm⟩ ⟨fun env tm => isB false (nthD 4 env)⟩
  ⟨opStep ⟨fun call env tm ds h K => kO (pickV (nthD 5 env) (.bool true) (nthD 0 env)) ds h K⟩ ⟨fun v tm => tm⟩ ⟨fun env tm => true⟩
  ⟨opStep ⟨fun call env tm ds h K => kO (some (nthD 0 env)) ds h K⟩ ⟨fun v tm => tm⟩ ⟨fun env tm => true⟩
  ⟨opStep ⟨fun call env tm ds h K => kO (fieldPtr 1 (tg tm 2)) ds h K⟩ ⟨fun v tm => tm⟩ ⟨fun env tm => isB false (nthD 0 env)⟩
  ⟨opStep ⟨fun call env tm ds h K => kO (loadOne h (nthD 0 env)) ds h K⟩ ⟨fun v tm => tm⟩ ⟨fun env tm => isB false (nthD 1 env)⟩
  ⟨opStep ⟨fun call env tm ds h K => kO (lenSl (nthD 0 env)) ds h K⟩ ⟨fun v tm => tm⟩ ⟨fun env tm => isB false (nthD 2 env)⟩
  ⟨opStep ⟨fun call env tm ds h K => kO (fieldPtr 1 (tg tm 3)) ds h K⟩ ⟨fun v tm => tm⟩ ⟨fun env tm => isB false (nthD 3 env)⟩
  ⟨opStep ⟨fun call env tm ds h K => kO (loadOne h (nthD 0 env)) ds h K⟩ ⟨fun v tm => tm⟩ ⟨fun env tm => isB false (nthD 4 env)⟩
  ⟨opStep ⟨fun call env tm ds h K => kO (lenSl (nthD 0 env)) ds h K⟩ ⟨fun v tm => tm⟩ ⟨fun env tm => isB false (nthD 5 env)⟩
  ⟨opStep ⟨fun call env tm ds h K => kO (binV Tryd.prog .neq 3 false (nthD 3 env) (nthD 0 env)) ds h K⟩ ⟨fun v tm => tm⟩ ⟨fun env tm => isB false (nthD 6 env)⟩
  ⟨opStep ⟨fun call env tm ds h K => kO (pickV (nthD 7 env) (.bool true) (nthD 0 env)) ds h K⟩ ⟨fun v tm => (T.set tm 26 v)⟩ ⟨fun env tm => true⟩
  ⟨fun _ _ tm ds h K => K .norm tm ds h⟩⟩⟩⟩⟩⟩⟩⟩⟩⟩⟩⟩⟩⟩⟩⟩⟩⟩⟩⟩⟩⟩ : Box OpsT).f call [] tm ds h K
noncomputable def r36_2 : CodeT := fun call _ tm ds h K =>
  K .norm (T.set tm 4 (.bool false)) ds h
noncomputable def r36_3 : CodeT := fun call _ tm ds h K =>
  K .norm (T.set tm 5 (.int .i64 (0))) ds h
noncomputable def r36_4 : CodeT := fun call _ tm ds h K =>
  kO (fieldPtr 1 (tg tm 2)) ds h (fun v1 ds h =>
  kO (loadOne h v1) ds h (fun v2 ds h =>
  kO (lenSl v2) ds h (fun v3 ds h =>
  kO (binV Tryd.prog .lss 3 false (tg tm 5) v3) ds h (fun v4 ds h =>
  K .norm (T.set tm 31 v4) ds h))))
noncomputable def r36_6 : CodeT := fun call _ tm ds h0 K =>
  (fun (b0 : Nat) (h : H) =>
  kO (fieldPtr 1 (tg tm 2)) ds h (fun v0 ds h =>
  kO (loadOne h v0) ds h (fun v1 ds h =>
  kO (indexSl 5 v1 (tg tm 5)) ds h (fun v3 ds h =>
  kO (loadAgg 5 h v3) ds h (fun v4 ds h =>
  kO (fieldPtr 1 (tg tm 3)) ds h (fun v5 ds h =>
  kO (loadOne h v5) ds h (fun v6 ds h =>
  kO (indexSl 5 v6 (tg tm 5)) ds h (fun v8 ds h =>
  kO (loadAgg 5 h v8) ds h (fun v9 ds h =>
  kO (binV Tryd.prog .neq 48 false v4 v9) ds h (fun v10 ds h =>
  K .norm (T.set tm 44 v10) ds h)))))))))) h0.next ⟨h0.objs, h0.next + 11⟩
noncomputable def r36_7 : CodeT := fun call _ tm ds h K =>
  K .norm (T.set tm 4 (.bool false)) ds h
noncomputable def r36_5 : CodeT := fun call _ tm ds h K =>
  kO (binV Tryd.prog .add 3 true (tg tm 5) (.int .i64 (1))) ds h (fun v1 ds h =>
  K .norm (T.set tm 5 v1) ds h)
noncomputable def l36_8 : Box CodeT := ⟨seqC ⟨seqC ⟨r36_4⟩ ⟨condC ⟨fun _ tm => tg tm 31⟩ skipC (exitC 0)⟩⟩ ⟨seqC ⟨blockC 1 ⟨seqC ⟨r36_6⟩ ⟨condC ⟨fun _ tm => tg tm 44⟩ ⟨seqC ⟨r36_7⟩ retC⟩ skipC⟩⟩⟩ ⟨r36_5⟩⟩⟩
noncomputable def r36_8 : CodeT := fun call _ tm ds h K =>
  K .norm (T.set tm 4 (.bool true)) ds h
noncomputable def c36 : Box CodeT := ⟨seqC ⟨r36_0⟩ ⟨seqC ⟨seqC ⟨r36_1⟩ ⟨condC ⟨fun _ tm => tg tm 26⟩ ⟨seqC ⟨r36_2⟩ retC⟩ skipC⟩⟩ ⟨seqC ⟨seqC ⟨r36_3⟩ ⟨blockC 0 (loopB l36_8)⟩⟩ ⟨seqC ⟨r36_8⟩ retC⟩⟩⟩⟩
noncomputable def q36 : Box (T Value → H → Option (List Value)) := ⟨fun tm h => some [tg tm 4]⟩

/-! 38 strings.IndexFunc -/
noncomputable def r38_0 : CodeT := fun call _ tm ds h K =>
  K .norm (T.set tm 4 (.int .i64 (0))) ds h
noncomputable def r38_1 : CodeT := fun call _ tm ds h K =>
  call 65 [(tg tm 0), (tg tm 1), (.bool true)] h (fun v h => (fun v2 ds h =>
  K .norm (T.set tm 4 v2) ds h) v ds h)
noncomputable def c38 : Box CodeT := ⟨seqC ⟨r38_0⟩ ⟨seqC ⟨r38_1⟩ retC⟩⟩
noncomputable def q38 : Box (T Value → H → Option (List Value)) := ⟨fun tm h => some [tg tm 4]⟩

/-! 39 cloakroom/words.plain$1 -/
noncomputable def r39_0 : CodeT := fun call _ tm ds h K =>
  K .norm (T.set tm 2 (.bool false)) ds h
noncomputable def r39_1 : CodeT := fun call _ tm ds h K =>
  kO (binV Tryd.prog .lss 21 true (tg tm 0) (.int .i32 (33))) ds h (fun v1 ds h =>
  gd (isB false v1) (fun k => kO (some (tg tm 0)) ds h (k)) ds h (fun v3 ds h =>
  gd (isB false v1) (fun k => kO (binV Tryd.prog .gtr 21 true v3 (.int .i32 (126))) ds h (k)) ds h (fun v4 ds h =>
  kO (pickV v1 (.bool true) v4) ds h (fun v5 ds h =>
  K .norm (T.set tm 2 v5) ds h))))
noncomputable def c39 : Box CodeT := ⟨seqC ⟨r39_0⟩ ⟨seqC ⟨r39_1⟩ retC⟩⟩
noncomputable def q39 : Box (T Value → H → Option (List Value)) := ⟨fun tm h => some [tg tm 2]⟩

/-! 40 slices.IndexFunc[[]cloakroom/api.Item,cloakroom/api.Item] -/
noncomputable def r40_0 : CodeT := fun call _ tm ds h K =>
  K .norm (T.set tm 4 (.int .i64 (0))) ds h
noncomputable def r40_1 : CodeT := fun call _ tm ds h K =>
  kO (lenSl (tg tm 0)) ds h (fun v1 ds h =>
  K .norm (T.set (T.set tm 7 v1) 8 (.int .i64 (0))) ds h)
noncomputable def r40_2 : CodeT := fun call _ tm ds h K =>
  kO (binV Tryd.prog .lss 3 false (tg tm 8) (tg tm 7)) ds h (fun v0 ds h =>
  K .norm (T.set tm 9 v0) ds h)
noncomputable def r40_3 : CodeT := fun call _ tm ds h K =>
  K .norm (T.set tm 5 (tg tm 8)) ds h
noncomputable def r40_4 : CodeT := fun call _ tm ds h K =>
  kO (indexSl 5 (tg tm 0) (tg tm 5)) ds h (fun v3 ds h =>
  kO (loadAgg 5 h v3) ds h (fun v4 ds h =>
  goCall call (funcArgs (tg tm 1) [v4]) ds h (fun v5 ds h =>
  K .norm (T.set tm 16 v5) ds h)))
noncomputable def r40_5 : CodeT := fun call _ tm ds h K =>
  K .norm (T.set tm 4 (tg tm 5)) ds h
noncomputable def r40_6 : CodeT := fun call _ tm ds h K =>
  kO (binV Tryd.prog .add 3 true (tg tm 8) (.int .i64 (1))) ds h (fun v0 ds h =>
  K .norm (T.set tm 8 v0) ds h)
noncomputable def l40_7 : Box CodeT := ⟨seqC ⟨r40_2⟩ ⟨seqC ⟨condC ⟨fun _ tm => tg tm 9⟩ skipC (exitC 0)⟩ ⟨seqC ⟨blockC 1 ⟨seqC ⟨r40_3⟩ ⟨seqC ⟨r40_4⟩ ⟨condC ⟨fun _ tm => tg tm 16⟩ ⟨seqC ⟨r40_5⟩ retC⟩ skipC⟩⟩⟩⟩ ⟨r40_6⟩⟩⟩⟩
noncomputable def r40_7 : CodeT := fun call _ tm ds h K =>
  K .norm (T.set tm 4 (.int .i64 (-1))) ds h
noncomputable def c40 : Box CodeT := ⟨seqC ⟨r40_0⟩ ⟨seqC ⟨seqC ⟨r40_1⟩ ⟨blockC 0 (loopB l40_7)⟩⟩ ⟨seqC ⟨r40_7⟩ retC⟩⟩⟩
noncomputable def q40 : Box (T Value → H → Option (List Value)) := ⟨fun tm h => some [tg tm 4]⟩

/-! 41 (*strings.Builder).WriteString -/
noncomputable def r41_0 : CodeT := fun call _ tm ds h K =>
  K .norm (T.set (T.set tm 4 (.int .i64 (0))) 5 .nilIface) ds h
noncomputable def r41_1 : CodeT := fun call _ tm ds h K =>
  call 66 [(tg tm 0)] h (fun v h => (fun v1 ds h =>
  K .norm tm ds h) v ds h)
noncomputable def r41_2 : CodeT := fun call _ tm ds h K =>
  kO (nilChk (tg tm 0)) ds h (fun v2 ds h =>
  kO (fieldPtr 1 v2) ds h (fun v3 ds h =>
  kO (loadOne h v3) ds h (fun v4 ds h =>
  kH (appendV 5 1 1 h v4 (tg tm 1)) ds (fun v6 ds h =>
  kO (nilChk (tg tm 0)) ds h (fun v7 ds h =>
  kO (fieldPtr 1 v7) ds h (fun v8 ds h =>
  kH (withV undef (storeV 1 h v8 v6)) ds (fun v9 ds h =>
  K .norm tm ds h)))))))
noncomputable def r41_3 : CodeT := fun call _ tm ds h K =>
  kO (lenStr (tg tm 1)) ds h (fun v1 ds h =>
  K .norm (T.set (T.set tm 4 v1) 5 .nilIface) ds h)
noncomputable def c41 : Box CodeT := ⟨seqC ⟨r41_0⟩ ⟨seqC ⟨r41_1⟩ ⟨seqC ⟨r41_2⟩ ⟨seqC ⟨r41_3⟩ retC⟩⟩⟩⟩
noncomputable def q41 : Box (T Value → H → Option (List Value)) := ⟨fun tm h => some [tg tm 4, tg tm 5]⟩

/-! 42 strings.Join -/
noncomputable def r42_0 : CodeT := fun call _ tm ds h K =>
  K .norm (T.set tm 4 (.string (strB []))) ds h
noncomputable def r42_1 : CodeT := fun call _ tm ds h K =>
  kO (lenSl (tg tm 0)) ds h (fun v1 ds h =>
  K .norm (T.set tm 12 v1) ds h)
noncomputable def r42_2 : CodeT := fun call _ tm ds h K =>
  kO (binV Tryd.prog .eql 3 true (tg tm 12) (.int .i64 (0))) ds h (fun v0 ds h =>
  K .norm (T.set tm 13 v0) ds h)
noncomputable def r42_3 : CodeT := fun call _ tm ds h K =>
  K .norm (T.set tm 4 (.string (strB []))) ds h
noncomputable def r42_4 : CodeT := fun call _ tm ds h K =>
  kO (binV Tryd.prog .eql 3 true (tg tm 12) (.int .i64 (1))) ds h (fun v0 ds h =>
  K .norm (T.set tm 15 v0) ds h)
noncomputable def r42_5 : CodeT := fun call _ tm ds h K =>
  kO (indexSl 1 (tg tm 0) (.int .i64 (0))) ds h (fun v1 ds h =>
  kO (loadOne h v1) ds h (fun v2 ds h =>
  K .norm (T.set tm 4 v2) ds h))
noncomputable def r42_6 : CodeT := fun call _ tm ds h K =>
  K .norm (T.set tm 5 (.int .i64 (0))) ds h
noncomputable def r42_7 : CodeT := fun call _ tm ds h K =>
  kO (lenStr (tg tm 1)) ds h (fun v1 ds h =>
  kO (binV Tryd.prog .gtr 3 true v1 (.int .i64 (0))) ds h (fun v2 ds h =>
  K .norm (T.set tm 22 v2) ds h))
noncomputable def r42_8 : CodeT := fun call _ tm ds h K =>
  kO (lenStr (tg tm 1)) ds h (fun v1 ds h =>
  kO (lenSl (tg tm 0)) ds h (fun v3 ds h =>
  kO (binV Tryd.prog .sub 3 true v3 (.int .i64 (1))) ds h (fun v4 ds h =>
  kO (binV Tryd.prog .quo 3 true (.int .i64 (9223372036854775807)) v4) ds h (fun v5 ds h =>
  kO (binV Tryd.prog .geq 3 false v1 v5) ds h (fun v6 ds h =>
  K .norm (T.set tm 29 v6) ds h)))))
noncomputable def r42_9 : CodeT := fun call _ tm ds h K =>
  kO (some (.iface 9 (.string (strB [115, 116, 114, 105, 110, 103, 115, 58, 32, 74, 111, 105, 110, 32, 111, 117, 116, 112, 117, 116, 32, 108, 101, 110, 103, 116, 104, 32, 111, 118, 101, 114, 102, 108, 111, 119])))) ds h (fun v0 ds h =>
  kO none ds h (fun v1 ds h =>
  K .norm tm ds h))
noncomputable def r42_10 : CodeT := fun call _ tm ds h K =>
  kO (lenStr (tg tm 1)) ds h (fun v2 ds h =>
  kO (lenSl (tg tm 0)) ds h (fun v4 ds h =>
  kO (binV Tryd.prog .sub 3 true v4 (.int .i64 (1))) ds h (fun v5 ds h =>
  kO (binV Tryd.prog .mul 3 false v2 v5) ds h (fun v6 ds h =>
  kO (binV Tryd.prog .add 3 false (tg tm 5) v6) ds h (fun v7 ds h =>
  K .norm (T.set tm 5 v7) ds h)))))
noncomputable def r42_11 : CodeT := fun call _ tm ds h K =>
  kO (lenSl (tg tm 0)) ds h (fun v1 ds h =>
  K .norm (T.set (T.set (T.set tm 39 (tg tm 0)) 40 v1) 41 (.int .i64 (0))) ds h)
noncomputable def r42_12 : CodeT := fun call _ tm ds h K =>
  kO (binV Tryd.prog .lss 3 false (tg tm 41) (tg tm 40)) ds h (fun v0 ds h =>
  K .norm (T.set tm 42 v0) ds h)
noncomputable def r42_13 : CodeT := fun call _ tm ds h K =>
  kO (indexSl 1 (tg tm 39) (tg tm 41)) ds h (fun v0 ds h =>
  kO (loadOne h v0) ds h (fun v1 ds h =>
  K .norm (T.set tm 7 v1) ds h))
noncomputable def r42_14 : CodeT := fun call _ tm ds h K =>
  kO (lenStr (tg tm 7)) ds h (fun v1 ds h =>
  kO (binV Tryd.prog .sub 3 true (.int .i64 (9223372036854775807)) (tg tm 5)) ds h (fun v3 ds h =>
  kO (binV Tryd.prog .gtr 3 false v1 v3) ds h (fun v4 ds h =>
  K .norm (T.set tm 49 v4) ds h)))
noncomputable def r42_15 : CodeT := fun call _ tm ds h K =>
  kO (some (.iface 9 (.string (strB [115, 116, 114, 105, 110, 103, 115, 58, 32, 74, 111, 105, 110, 32, 111, 117, 116, 112, 117, 116, 32, 108, 101, 110, 103, 116, 104, 32, 111, 118, 101, 114, 102, 108, 111, 119])))) ds h (fun v0 ds h =>
  kO none ds h (fun v1 ds h =>
  K .norm tm ds h))
noncomputable def r42_16 : CodeT := fun call _ tm ds h K =>
  kO (lenStr (tg tm 7)) ds h (fun v2 ds h =>
  kO (binV Tryd.prog .add 3 false (tg tm 5) v2) ds h (fun v3 ds h =>
  K .norm (T.set tm 5 v3) ds h))
noncomputable def r42_17 : CodeT := fun call _ tm ds h K =>
  kO (binV Tryd.prog .add 3 true (tg tm 41) (.int .i64 (1))) ds h (fun v0 ds h =>
  K .norm (T.set tm 41 v0) ds h)
noncomputable def l42_18 : Box CodeT := ⟨seqC ⟨r42_12⟩ ⟨seqC ⟨condC ⟨fun _ tm => tg tm 42⟩ skipC (exitC 1)⟩ ⟨seqC ⟨blockC 2 ⟨seqC ⟨r42_13⟩ ⟨seqC ⟨seqC ⟨r42_14⟩ ⟨condC ⟨fun _ tm => tg tm 49⟩ ⟨r42_15⟩ skipC⟩⟩ ⟨r42_16⟩⟩⟩⟩ ⟨r42_17⟩⟩⟩⟩
noncomputable def r42_18 : CodeT := fun call _ tm ds h K =>
  kA (some (.rw [(.pointer none), (.slice none 0 0)] (some 74), ptrTo h.next)) ds h (fun v0 ds h =>
  K .norm (T.set tm 8 v0) ds h)
noncomputable def r42_19 : CodeT := fun call _ tm ds h K =>
  call 67 [(tg tm 8), (tg tm 5)] h (fun v h => (fun v1 ds h =>
  K .norm tm ds h) v ds h)
noncomputable def r42_20 : CodeT := fun call _ tm ds h K =>
  kO (indexSl 1 (tg tm 0) (.int .i64 (0))) ds h (fun v1 ds h =>
  kO (loadOne h v1) ds h (fun v2 ds h =>
  call 41 [(tg tm 8), v2] h (fun v h => (fun v3 ds h =>
  K .norm tm ds h) v ds h)))
noncomputable def r42_21 : CodeT := fun call _ tm ds h K =>
  kO (sliceSl 1 (tg tm 0) (some (.int .i64 (1))) none none) ds h (fun v1 ds h =>
  kO (lenSl v1) ds h (fun v2 ds h =>
  K .norm (T.set (T.set (T.set tm 63 v1) 64 v2) 65 (.int .i64 (0))) ds h))
noncomputable def r42_22 : CodeT := fun call _ tm ds h K =>
  kO (binV Tryd.prog .lss 3 false (tg tm 65) (tg tm 64)) ds h (fun v0 ds h =>
  K .norm (T.set tm 66 v0) ds h)
noncomputable def r42_23 : CodeT := fun call _ tm ds h K =>
  kO (indexSl 1 (tg tm 63) (tg tm 65)) ds h (fun v0 ds h =>
  kO (loadOne h v0) ds h (fun v1 ds h =>
  K .norm (T.set tm 10 v1) ds h))
noncomputable def r42_24 : CodeT := fun call _ tm ds h K =>
  call 41 [(tg tm 8), (tg tm 1)] h (fun v h => (fun v1 ds h =>
  K .norm tm ds h) v ds h)
noncomputable def r42_25 : CodeT := fun call _ tm ds h K =>
  call 41 [(tg tm 8), (tg tm 10)] h (fun v h => (fun v1 ds h =>
  K .norm tm ds h) v ds h)
noncomputable def r42_26 : CodeT := fun call _ tm ds h K =>
  kO (binV Tryd.prog .add 3 true (tg tm 65) (.int .i64 (1))) ds h (fun v0 ds h =>
  K .norm (T.set tm 65 v0) ds h)
noncomputable def l42_28 : Box CodeT := ⟨seqC ⟨r42_22⟩ ⟨seqC ⟨condC ⟨fun _ tm => tg tm 66⟩ skipC (exitC 3)⟩ ⟨seqC ⟨blockC 4 ⟨seqC ⟨r42_23⟩ ⟨seqC ⟨r42_24⟩ ⟨r42_25⟩⟩⟩⟩ ⟨r42_26⟩⟩⟩⟩
noncomputable def r42_27 : CodeT := fun call _ tm ds h K =>
  call 47 [(tg tm 8)] h (fun v h => (fun v0 ds h =>
  K .norm (T.set tm 4 v0) ds h) v ds h)
noncomputable def c42 : Box CodeT := ⟨seqC ⟨r42_0⟩ ⟨seqC ⟨seqC ⟨r42_1⟩ ⟨blockC 0 ⟨seqC ⟨r42_2⟩ ⟨condC ⟨fun _ tm => tg tm 13⟩ ⟨seqC ⟨r42_3⟩ retC⟩ ⟨seqC ⟨r42_4⟩ ⟨condC ⟨fun _ tm => tg tm 15⟩ ⟨seqC ⟨r42_5⟩ retC⟩ skipC⟩⟩⟩⟩⟩⟩ ⟨seqC ⟨r42_6⟩ ⟨seqC ⟨seqC ⟨r42_7⟩ ⟨condC ⟨fun _ tm => tg tm 22⟩ ⟨seqC ⟨seqC ⟨r42_8⟩ ⟨condC ⟨fun _ tm => tg tm 29⟩ ⟨r42_9⟩ skipC⟩⟩ ⟨r42_10⟩⟩ skipC⟩⟩ ⟨seqC ⟨seqC ⟨r42_11⟩ ⟨blockC 1 (loopB l42_18)⟩⟩ ⟨seqC ⟨r42_18⟩ ⟨seqC ⟨r42_19⟩ ⟨seqC ⟨r42_20⟩ ⟨seqC ⟨seqC ⟨r42_21⟩ ⟨blockC 3 (loopB l42_28)⟩⟩ ⟨seqC ⟨r42_27⟩ retC⟩⟩⟩⟩⟩⟩⟩⟩⟩⟩
noncomputable def q42 : Box (T Value → H → Option (List Value)) := ⟨fun tm h => some [tg tm 4]⟩

/-! 43 cloakroom/item.Text -/
noncomputable def r43_0 : CodeT := fun call _ tm ds h K =>
  K .norm (T.set tm 2 (.string (strB []))) ds h
noncomputable def r43_1 : CodeT := fun call _ tm ds h K =>
  call 68 [(tg tm 0), (.int .i64 (10))] h (fun v h => (fun v1 ds h =>
  K .norm (T.set tm 2 v1) ds h) v ds h)
noncomputable def c43 : Box CodeT := ⟨seqC ⟨r43_0⟩ ⟨seqC ⟨r43_1⟩ retC⟩⟩
noncomputable def q43 : Box (T Value → H → Option (List Value)) := ⟨fun tm h => some [tg tm 2]⟩

/-! 44 cloakroom/words.rows -/
noncomputable def r44_0 : CodeT := fun call _ tm ds h K =>
  kA (some (.rw [(.string (strB [])), (.string (strB [])), (.string (strB [])), (.string (strB [])), (.string (strB [])), (.string (strB []))] (some 81), ptrTo h.next)) ds h (fun v0 ds h =>
  K .norm (T.set tm 0 v0) ds h)
noncomputable def r44_1 : CodeT := fun call _ tm ds h K =>
  kO (aggO (fill [(.string (strB [])), (.string (strB [])), (.string (strB [])), (.string (strB [])), (.string (strB [])), (.string (strB []))] (pl 1) [(0, (.string (strB [83, 84, 79, 82, 69, 68]))), (1, (.string (strB [78, 85, 77, 66, 69, 82]))), (2, (.string (strB [84, 79, 85, 67, 72, 69, 68]))), (3, (.string (strB [68, 69, 76, 69, 84, 69, 68]))), (4, (.string (strB [70, 76, 85, 83, 72, 69, 68]))), (5, (.string (strB [69, 78, 68])))])) ds h (fun v0 ds h =>
  kH (withV undef (storeV 6 h (tg tm 0) v0)) ds (fun v1 ds h =>
  K .norm tm ds h))
noncomputable def c44 : Box CodeT := ⟨seqC ⟨r44_0⟩ ⟨seqC ⟨r44_1⟩ retC⟩⟩
noncomputable def q44 : Box (T Value → H → Option (List Value)) := ⟨fun tm h => (match loadAgg 6 h (tg tm 0) with | some v => (match (some [] : Option (List Value)) with | some l => some (v :: l) | none => none) | none => none)⟩

/-! 45 cloakroom/words.of -/
noncomputable def r45_0 : CodeT := fun call _ tm ds h K =>
  K .norm (T.set tm 4 (.bool false)) ds h
noncomputable def r45_1 : CodeT := fun call _ tm ds h K =>
  K .norm (T.set tm 5 (tg tm 1)) ds h
noncomputable def r45_2 : CodeT := fun call _ tm ds h K =>
  kO (binV Tryd.prog .eql 5 true (tg tm 5) (.int .u8 (2))) ds h (fun v0 ds h =>
  K .norm (T.set tm 6 v0) ds h)
noncomputable def r45_3 : CodeT := fun call _ tm ds h K =>
  kO (binV Tryd.prog .eql 5 true (tg tm 5) (.int .u8 (3))) ds h (fun v0 ds h =>
  K .norm (T.set tm 6 v0) ds h)
noncomputable def r45_4 : CodeT := fun call _ tm ds h K =>
  kO (binV Tryd.prog .eql 5 true (tg tm 5) (.int .u8 (4))) ds h (fun v0 ds h =>
  K .norm (T.set tm 6 v0) ds h)
noncomputable def r45_5 : CodeT := fun call _ tm ds h K =>
  kO (binV Tryd.prog .eql 5 true (tg tm 5) (.int .u8 (5))) ds h (fun v0 ds h =>
  K .norm (T.set tm 6 v0) ds h)
noncomputable def r45_6 : CodeT := fun call _ tm ds h K =>
  kO (binV Tryd.prog .eql 5 true (tg tm 5) (.int .u8 (8))) ds h (fun v0 ds h =>
  K .norm (T.set tm 6 v0) ds h)
noncomputable def r45_7 : CodeT := fun call _ tm ds h K =>
  kO (binV Tryd.prog .eql 9 true (tg tm 0) (.string (strB [83, 84, 79, 82, 69, 68]))) ds h (fun v1 ds h =>
  K .norm (T.set tm 4 v1) ds h)
noncomputable def r45_8 : CodeT := fun call _ tm ds h K =>
  kO (binV Tryd.prog .eql 5 true (tg tm 5) (.int .u8 (6))) ds h (fun v0 ds h =>
  K .norm (T.set tm 14 v0) ds h)
noncomputable def r45_9 : CodeT := fun call _ tm ds h K =>
  kO (binV Tryd.prog .eql 5 true (tg tm 5) (.int .u8 (7))) ds h (fun v0 ds h =>
  K .norm (T.set tm 14 v0) ds h)
noncomputable def r45_10 : CodeT := fun call _ tm ds h K =>
  kO (binV Tryd.prog .eql 9 true (tg tm 0) (.string (strB [78, 85, 77, 66, 69, 82]))) ds h (fun v1 ds h =>
  K .norm (T.set tm 4 v1) ds h)
noncomputable def r45_11 : CodeT := fun call _ tm ds h K =>
  kO (binV Tryd.prog .eql 5 true (tg tm 5) (.int .u8 (9))) ds h (fun v0 ds h =>
  K .norm (T.set tm 19 v0) ds h)
noncomputable def r45_12 : CodeT := fun call _ tm ds h K =>
  kO (binV Tryd.prog .eql 9 true (tg tm 0) (.string (strB [84, 79, 85, 67, 72, 69, 68]))) ds h (fun v1 ds h =>
  K .norm (T.set tm 4 v1) ds h)
noncomputable def r45_13 : CodeT := fun call _ tm ds h K =>
  kO (binV Tryd.prog .eql 5 true (tg tm 5) (.int .u8 (10))) ds h (fun v0 ds h =>
  K .norm (T.set tm 23 v0) ds h)
noncomputable def r45_14 : CodeT := fun call _ tm ds h K =>
  kO (binV Tryd.prog .eql 9 true (tg tm 0) (.string (strB [68, 69, 76, 69, 84, 69, 68]))) ds h (fun v1 ds h =>
  K .norm (T.set tm 4 v1) ds h)
noncomputable def r45_15 : CodeT := fun call _ tm ds h K =>
  kO (binV Tryd.prog .eql 5 true (tg tm 5) (.int .u8 (11))) ds h (fun v0 ds h =>
  K .norm (T.set tm 27 v0) ds h)
noncomputable def r45_16 : CodeT := fun call _ tm ds h K =>
  kO (binV Tryd.prog .eql 9 true (tg tm 0) (.string (strB [70, 76, 85, 83, 72, 69, 68]))) ds h (fun v1 ds h =>
  K .norm (T.set tm 4 v1) ds h)
noncomputable def r45_17 : CodeT := fun call _ tm ds h K =>
  kO (binV Tryd.prog .eql 5 true (tg tm 5) (.int .u8 (1))) ds h (fun v0 ds h =>
  K .norm (T.set tm 31 v0) ds h)
noncomputable def r45_18 : CodeT := fun call _ tm ds h K =>
  kO (binV Tryd.prog .eql 9 true (tg tm 0) (.string (strB [69, 78, 68]))) ds h (fun v1 ds h =>
  K .norm (T.set tm 4 v1) ds h)
noncomputable def r45_19 : CodeT := fun call _ tm ds h K =>
  K .norm (T.set tm 4 (.bool false)) ds h
noncomputable def c45 : Box CodeT := ⟨seqC ⟨r45_0⟩ ⟨seqC ⟨seqC ⟨r45_1⟩ ⟨blockC 0 ⟨seqC ⟨seqC ⟨r45_2⟩ ⟨condC ⟨fun _ tm => tg tm 6⟩ skipC ⟨seqC ⟨r45_3⟩ ⟨condC ⟨fun _ tm => tg tm 6⟩ skipC ⟨seqC ⟨r45_4⟩ ⟨condC ⟨fun _ tm => tg tm 6⟩ skipC ⟨seqC ⟨r45_5⟩ ⟨condC ⟨fun _ tm => tg tm 6⟩ skipC ⟨r45_6⟩⟩⟩⟩⟩⟩⟩⟩⟩ ⟨condC ⟨fun _ tm => tg tm 6⟩ ⟨seqC ⟨r45_7⟩ retC⟩ ⟨seqC ⟨seqC ⟨r45_8⟩ ⟨condC ⟨fun _ tm => tg tm 14⟩ skipC ⟨r45_9⟩⟩⟩ ⟨condC ⟨fun _ tm => tg tm 14⟩ ⟨seqC ⟨r45_10⟩ retC⟩ ⟨seqC ⟨r45_11⟩ ⟨condC ⟨fun _ tm => tg tm 19⟩ ⟨seqC ⟨r45_12⟩ retC⟩ ⟨seqC ⟨r45_13⟩ ⟨condC ⟨fun _ tm => tg tm 23⟩ ⟨seqC ⟨r45_14⟩ retC⟩ ⟨seqC ⟨r45_15⟩ ⟨condC ⟨fun _ tm => tg tm 27⟩ ⟨seqC ⟨r45_16⟩ retC⟩ ⟨seqC ⟨r45_17⟩ ⟨condC ⟨fun _ tm => tg tm 31⟩ ⟨seqC ⟨r45_18⟩ retC⟩ skipC⟩⟩⟩⟩⟩⟩⟩⟩⟩⟩⟩⟩⟩⟩ ⟨seqC ⟨r45_19⟩ retC⟩⟩⟩
noncomputable def q45 : Box (T Value → H → Option (List Value)) := ⟨fun tm h => some [tg tm 4]⟩

/-! 46 cloakroom/words.counts -/
noncomputable def r46_0 : CodeT := fun call _ tm ds h K =>
  K .norm (T.set tm 2 (.bool false)) ds h
noncomputable def r46_1 : CodeT := fun call _ tm ds h K => (⟨opStep ⟨fun call env tm ds h K => kO (some (tg tm 0)) ds h K⟩ ⟨fun v tm => tm⟩ ⟨fun env tm => true⟩
  ⟨opStep ⟨fun call env tm ds h K => kO (binV Tryd.prog .eql 5 true (nthD 0 env) (.int .u8 (6))) ds h K⟩ ⟨fun v tm => tm⟩ ⟨fun env tm => true⟩
  ⟨opStep ⟨fun call env tm ds h K => kO (some (nthD 0 env)) ds h K⟩ ⟨fun v tm => tm⟩ ⟨fun env tm => true⟩
  ⟨opStep ⟨fun call env tm ds h K => kO (some (tg tm 0)) ds h K⟩ ⟨fun v tm => tm⟩ ⟨fun env tm => isB false (nthD 0 env)⟩
  ⟨opStep ⟨fun call env tm ds h K => kO (binV Tryd.prog .eql 5 true (nthD 0 env) (.int .u8 (7))) ds h K⟩ ⟨fun v tm => tm⟩ ⟨fun env tm => isB false (nthD 1 env)⟩
  ⟨opStep ⟨fun call env tm ds h K => kO (pickV (nthD 2 env) (.bool true) (nthD 0 env)) ds h K⟩ ⟨fun v tm => tm⟩ ⟨fun env tm => true⟩
  ⟨opStep ⟨fun call env tm ds h K => kO (some (nthD 0 env)) ds h K⟩ ⟨fun v tm => tm⟩ ⟨fun env tm => true⟩
  ⟨opStep ⟨fun call env tm ds h K => kO (some (tg tm 0)) ds h K⟩ ⟨fun v tm => tm⟩ ⟨fun env tm => isB false (nthD 0 env)⟩
  ⟨opStep ⟨fun call env tm ds h K => kO (binV Tryd.prog .eql 5 true (nthD 0 env) (.int .u8 (10))) ds h K⟩ ⟨fun v tm => tm⟩ ⟨fun env tm => isB false (nthD 1 env)⟩
  ⟨opStep ⟨fun call env tm ds h K => kO (pickV (nthD 2 env) (.bool true) (nthD 0 env)) ds h K⟩ ⟨fun v tm => tm⟩ ⟨fun env tm => true⟩
  ⟨opStep ⟨fun call env tm ds h K => kO (some (nthD 0 env)) ds h K⟩ ⟨fun v tm => (T.set tm 2 v)⟩ ⟨fun env tm => true⟩
  ⟨fun _ _ tm ds h K => K .norm tm ds h⟩⟩⟩⟩⟩⟩⟩⟩⟩⟩⟩⟩ : Box OpsT).f call [] tm ds h K
noncomputable def c46 : Box CodeT := ⟨seqC ⟨r46_0⟩ ⟨seqC ⟨r46_1⟩ retC⟩⟩
noncomputable def q46 : Box (T Value → H → Option (List Value)) := ⟨fun tm h => some [tg tm 2]⟩

/-! 47 (*strings.Builder).String -/
noncomputable def r47_0 : CodeT := fun call _ tm ds h K =>
  K .norm (T.set tm 2 (.string (strB []))) ds h
noncomputable def r47_1 : CodeT := fun call _ tm ds h0 K =>
  (fun (b0 : Nat) (h : H) =>
  kO (nilChk (tg tm 0)) ds h (fun v1 ds h =>
  kO (fieldPtr 1 v1) ds h (fun v2 ds h =>
  kO (loadOne h v2) ds h (fun v3 ds h =>
  kO (dataV v3) ds h (fun v4 ds h =>
  kO (nilChk (tg tm 0)) ds h (fun v6 ds h =>
  kO (fieldPtr 1 v6) ds h (fun v7 ds h =>
  kO (loadOne h v7) ds h (fun v8 ds h =>
  kO (lenSl v8) ds h (fun v9 ds h =>
  kH (strOf 5 h v4 v9) ds (fun v10 ds h =>
  K .norm (T.set tm 2 v10) ds h)))))))))) h0.next ⟨h0.objs, h0.next + 12⟩
noncomputable def c47 : Box CodeT := ⟨seqC ⟨r47_0⟩ ⟨seqC ⟨r47_1⟩ retC⟩⟩
noncomputable def q47 : Box (T Value → H → Option (List Value)) := ⟨fun tm h => some [tg tm 2]⟩

/-! 48 cloakroom/cloakroomref15.counts -/
/-! 49 cloakroom/cloakroomref09.Check -/
/-! 50 cloakroom/cloakroomref14.Plain -/
/-! 51 cloakroom/cloakroomref15.word -/
/-! 52 cloakroom/cloakroomref09.Text -/
/-! 53 cloakroom/cloakroomref15.row -/
/-! 54 cloakroom/words.result$1 -/
noncomputable def r54_0 : CodeT := fun call _ tm ds h K =>
  kA (some (.rw (Value.cells (tg tm 0)).toList (some 48), ptrTo h.next)) ds h (fun v0 ds h =>
  K .norm (T.set (T.set tm 1 v0) 2 (.bool false)) ds h)
noncomputable def r54_1 : CodeT := fun call _ tm ds h K =>
  kO (loadAgg 5 h (tg tm 1)) ds h (fun v0 ds h =>
  call 55 [v0] h (fun v h => (fun v1 ds h =>
  kO (binV Tryd.prog .neq 30 true v1 (.int .i64 (0))) ds h (fun v2 ds h =>
  K .norm (T.set tm 2 v2) ds h)) v ds h))
noncomputable def c54 : Box CodeT := ⟨seqC ⟨r54_0⟩ ⟨seqC ⟨r54_1⟩ retC⟩⟩
noncomputable def q54 : Box (T Value → H → Option (List Value)) := ⟨fun tm h => some [tg tm 2]⟩

/-! 55 cloakroom/item.Check -/
noncomputable def r55_0 : CodeT := fun call _ tm ds h K =>
  kA (some (.rw (Value.cells (tg tm 0)).toList (some 48), ptrTo h.next)) ds h (fun v0 ds h =>
  K .norm (T.set (T.set tm 1 v0) 2 (.int .i64 (0))) ds h)
noncomputable def r55_1 : CodeT := fun call _ tm ds h K =>
  kO (fieldPtr 0 (tg tm 1)) ds h (fun v0 ds h =>
  kO (loadOne h v0) ds h (fun v1 ds h =>
  kO (lenStr v1) ds h (fun v2 ds h =>
  kO (binV Tryd.prog .lss 3 true v2 (.int .i64 (1))) ds h (fun v3 ds h =>
  K .norm (T.set tm 3 v3) ds h))))
noncomputable def r55_2 : CodeT := fun call _ tm ds h K =>
  kO (fieldPtr 0 (tg tm 1)) ds h (fun v0 ds h =>
  kO (loadOne h v0) ds h (fun v1 ds h =>
  kO (lenStr v1) ds h (fun v2 ds h =>
  kO (binV Tryd.prog .gtr 3 true v2 (.int .i64 (32))) ds h (fun v3 ds h =>
  K .norm (T.set tm 3 v3) ds h))))
noncomputable def r55_3 : CodeT := fun call _ tm ds h K =>
  kO (fieldPtr 1 (tg tm 1)) ds h (fun v0 ds h =>
  kO (loadOne h v0) ds h (fun v1 ds h =>
  kO (lenStr v1) ds h (fun v2 ds h =>
  kO (binV Tryd.prog .gtr 3 true v2 (.int .i64 (512))) ds h (fun v3 ds h =>
  K .norm (T.set tm 3 v3) ds h))))
noncomputable def r55_4 : CodeT := fun call _ tm ds h K =>
  K .norm (T.set tm 2 (.int .i64 (3))) ds h
noncomputable def r55_5 : CodeT := fun call _ tm ds h K =>
  kO (fieldPtr 3 (tg tm 1)) ds h (fun v0 ds h =>
  kO (loadOne h v0) ds h (fun v1 ds h =>
  call 70 [v1] h (fun v h => (fun v2 ds h =>
  kO (unV .not v2) ds h (fun v3 ds h =>
  K .norm (T.set tm 16 v3) ds h)) v ds h)))
noncomputable def r55_6 : CodeT := fun call _ tm ds h K =>
  K .norm (T.set tm 2 (.int .i64 (2))) ds h
noncomputable def r55_7 : CodeT := fun call _ tm ds h K =>
  K .norm (T.set tm 2 (.int .i64 (0))) ds h
noncomputable def c55 : Box CodeT := ⟨seqC ⟨r55_0⟩ ⟨seqC ⟨blockC 0 ⟨seqC ⟨seqC ⟨r55_1⟩ ⟨condC ⟨fun _ tm => tg tm 3⟩ skipC ⟨seqC ⟨r55_2⟩ ⟨condC ⟨fun _ tm => tg tm 3⟩ skipC ⟨r55_3⟩⟩⟩⟩⟩ ⟨condC ⟨fun _ tm => tg tm 3⟩ ⟨seqC ⟨r55_4⟩ retC⟩ ⟨seqC ⟨r55_5⟩ ⟨condC ⟨fun _ tm => tg tm 16⟩ ⟨seqC ⟨r55_6⟩ retC⟩ skipC⟩⟩⟩⟩⟩ ⟨seqC ⟨r55_7⟩ retC⟩⟩⟩
noncomputable def q55 : Box (T Value → H → Option (List Value)) := ⟨fun tm h => some [tg tm 2]⟩

/-! 56 bytes.IndexByte -/
noncomputable def r56_0 : CodeT := fun call _ tm ds h K =>
  K .norm (T.set tm 4 (.int .i64 (0))) ds h
noncomputable def r56_1 : CodeT := fun call _ tm ds h K =>
  call 71 [(tg tm 0), (tg tm 1)] h (fun v h => (fun v2 ds h =>
  K .norm (T.set tm 4 v2) ds h) v ds h)
noncomputable def c56 : Box CodeT := ⟨seqC ⟨r56_0⟩ ⟨seqC ⟨r56_1⟩ retC⟩⟩
noncomputable def q56 : Box (T Value → H → Option (List Value)) := ⟨fun tm h => some [tg tm 4]⟩

/-! 57 bytes.Equal -/
noncomputable def r57_0 : CodeT := fun call _ tm ds h K =>
  K .norm (T.set tm 4 (.bool false)) ds h
noncomputable def r57_1 : CodeT := fun call _ tm ds h K =>
  kO (bytesStr h (tg tm 0)) ds h (fun v1 ds h =>
  kO (bytesStr h (tg tm 1)) ds h (fun v3 ds h =>
  kO (binV Tryd.prog .eql 9 false v1 v3) ds h (fun v4 ds h =>
  K .norm (T.set tm 4 v4) ds h)))
noncomputable def c57 : Box CodeT := ⟨seqC ⟨r57_0⟩ ⟨seqC ⟨r57_1⟩ retC⟩⟩
noncomputable def q57 : Box (T Value → H → Option (List Value)) := ⟨fun tm h => some [tg tm 4]⟩

/-! 59 internal/bytealg.Cutover -/
noncomputable def r59_0 : CodeT := fun call _ tm ds h K =>
  K .norm (T.set tm 2 (.int .i64 (0))) ds h
noncomputable def r59_1 : CodeT := fun call _ tm ds h K =>
  kO (binV Tryd.prog .add 3 true (tg tm 0) (.int .i64 (16))) ds h (fun v1 ds h =>
  kO (binV Tryd.prog .quo 3 true v1 (.int .i64 (8))) ds h (fun v2 ds h =>
  K .norm (T.set tm 2 v2) ds h))
noncomputable def c59 : Box CodeT := ⟨seqC ⟨r59_0⟩ ⟨seqC ⟨r59_1⟩ retC⟩⟩
noncomputable def q59 : Box (T Value → H → Option (List Value)) := ⟨fun tm h => some [tg tm 2]⟩

/-! 60 internal/bytealg.IndexRabinKarp[[]byte] -/
noncomputable def r60_0 : CodeT := fun call _ tm ds h K =>
  K .norm (T.set tm 4 (.int .i64 (0))) ds h
noncomputable def r60_1 : CodeT := fun call _ tm ds h K =>
  call 72 [(tg tm 1)] h (fun v h => (fun v1 ds h =>
  kO (tupNth 0 v1) ds h (fun v3 ds h =>
  kO (tupNth 1 v1) ds h (fun v4 ds h =>
  K .norm (T.set (T.set tm 5 v3) 6 v4) ds h))) v ds h)
noncomputable def r60_2 : CodeT := fun call _ tm ds h K =>
  kO (lenSl (tg tm 1)) ds h (fun v1 ds h =>
  K .norm (T.set tm 7 v1) ds h)
noncomputable def r60_3 : CodeT := fun call _ tm ds h K =>
  K .norm (T.set tm 8 (.int .u32 (0))) ds h
noncomputable def r60_4 : CodeT := fun call _ tm ds h K =>
  K .norm (T.set tm 9 (.int .i64 (0))) ds h
noncomputable def r60_5 : CodeT := fun call _ tm ds h K =>
  kO (binV Tryd.prog .lss 3 false (tg tm 9) (tg tm 7)) ds h (fun v2 ds h =>
  K .norm (T.set tm 20 v2) ds h)
noncomputable def r60_7 : CodeT := fun call _ tm ds h K =>
  kO (binV Tryd.prog .mul 46 true (tg tm 8) (.int .u32 (16777619))) ds h (fun v1 ds h =>
  kO (indexSl 1 (tg tm 0) (tg tm 9)) ds h (fun v4 ds h =>
  kO (loadOne h v4) ds h (fun v5 ds h =>
  kO (toInt .u32 v5) ds h (fun v6 ds h =>
  kO (binV Tryd.prog .add 46 false v1 v6) ds h (fun v7 ds h =>
  K .norm (T.set tm 8 v7) ds h)))))
noncomputable def r60_6 : CodeT := fun call _ tm ds h K =>
  kO (binV Tryd.prog .add 3 true (tg tm 9) (.int .i64 (1))) ds h (fun v1 ds h =>
  K .norm (T.set tm 9 v1) ds h)
noncomputable def l60_8 : Box CodeT := ⟨seqC ⟨seqC ⟨r60_5⟩ ⟨condC ⟨fun _ tm => tg tm 20⟩ skipC (exitC 0)⟩⟩ ⟨seqC ⟨blockC 1 ⟨r60_7⟩⟩ ⟨r60_6⟩⟩⟩
noncomputable def r60_8 : CodeT := fun call _ tm ds h0 K =>
  (fun (b0 : Nat) (h : H) =>
  kO (binV Tryd.prog .eql 46 false (tg tm 8) (tg tm 5)) ds h (fun v2 ds h =>
  gd (isB true v2) (fun k => kO (some (tg tm 0)) ds h k) ds h (fun v4 ds h =>
  gd (isB true v2) (fun k => kO (some (tg tm 7)) ds h k) ds h (fun v5 ds h =>
  gd (isB true v2) (fun k => kO (sliceSl 1 v4 none (some v5) none) ds h k) ds h (fun v6 ds h =>
  ite2 (isB true v2) (kO (bytesStr h v6) ds h (fun v7 ds h =>
  gd (isB true v2) (fun k => kO (some (tg tm 1)) ds h k) ds h (fun v8 ds h =>
  ite2 (isB true v2) (kO (bytesStr h v8) ds h (fun v9 ds h =>
  gd (isB true v2) (fun k => kO (binV Tryd.prog .eql 9 false v7 v9) ds h k) ds h (fun v10 ds h =>
  kO (pickV v2 v10 (.bool false)) ds h (fun v11 ds h =>
  K .norm (T.set tm 42 v11) ds h))))
  (gd (isB true v2) (fun k => kO (binV Tryd.prog .eql 9 false v7 undef) ds h k) ds h (fun v10 ds h =>
  kO (pickV v2 v10 (.bool false)) ds h (fun v11 ds h =>
  K .norm (T.set tm 42 v11) ds h))))))
  (gd (isB true v2) (fun k => kO (some (tg tm 1)) ds h k) ds h (fun v8 ds h =>
  ite2 (isB true v2) (kO (bytesStr h v8) ds h (fun v9 ds h =>
  gd (isB true v2) (fun k => kO (binV Tryd.prog .eql 9 false undef v9) ds h k) ds h (fun v10 ds h =>
  kO (pickV v2 v10 (.bool false)) ds h (fun v11 ds h =>
  K .norm (T.set tm 42 v11) ds h))))
  (gd (isB true v2) (fun k => kO (binV Tryd.prog .eql 9 false undef undef) ds h k) ds h (fun v10 ds h =>
  kO (pickV v2 v10 (.bool false)) ds h (fun v11 ds h =>
  K .norm (T.set tm 42 v11) ds h)))))))))) h0.next ⟨h0.objs, h0.next + 12⟩
noncomputable def r60_9 : CodeT := fun call _ tm ds h K =>
  K .norm (T.set tm 4 (.int .i64 (0))) ds h
noncomputable def r60_10 : CodeT := fun call _ tm ds h K =>
  K .norm (T.set tm 10 (tg tm 7)) ds h
noncomputable def r60_11 : CodeT := fun call _ tm ds h K =>
  kO (lenSl (tg tm 0)) ds h (fun v2 ds h =>
  kO (binV Tryd.prog .lss 3 false (tg tm 10) v2) ds h (fun v3 ds h =>
  K .norm (T.set tm 47 v3) ds h))
noncomputable def r60_12 : CodeT := fun call _ tm ds h K =>
  kO (binV Tryd.prog .mul 46 true (tg tm 8) (.int .u32 (16777619))) ds h (fun v1 ds h =>
  K .norm (T.set tm 8 v1) ds h)
noncomputable def r60_13 : CodeT := fun call _ tm ds h K =>
  kO (indexSl 1 (tg tm 0) (tg tm 10)) ds h (fun v3 ds h =>
  kO (loadOne h v3) ds h (fun v4 ds h =>
  kO (toInt .u32 v4) ds h (fun v5 ds h =>
  kO (binV Tryd.prog .add 46 false (tg tm 8) v5) ds h (fun v6 ds h =>
  K .norm (T.set tm 8 v6) ds h))))
noncomputable def r60_14 : CodeT := fun call _ tm ds h K =>
  kO (binV Tryd.prog .sub 3 false (tg tm 10) (tg tm 7)) ds h (fun v5 ds h =>
  kO (indexSl 1 (tg tm 0) v5) ds h (fun v6 ds h =>
  kO (loadOne h v6) ds h (fun v7 ds h =>
  kO (toInt .u32 v7) ds h (fun v8 ds h =>
  kO (binV Tryd.prog .mul 46 false (tg tm 6) v8) ds h (fun v9 ds h =>
  kO (binV Tryd.prog .sub 46 false (tg tm 8) v9) ds h (fun v10 ds h =>
  K .norm (T.set tm 8 v10) ds h))))))
noncomputable def r60_15 : CodeT := fun call _ tm ds h K =>
  kO (binV Tryd.prog .add 3 true (tg tm 10) (.int .i64 (1))) ds h (fun v1 ds h =>
  K .norm (T.set tm 10 v1) ds h)
noncomputable def r60_16 : CodeT := fun call _ tm ds h0 K =>
  (fun (b0 : Nat) (h : H) =>
  kO (binV Tryd.prog .eql 46 false (tg tm 8) (tg tm 5)) ds h (fun v2 ds h =>
  gd (isB true v2) (fun k => kO (some (tg tm 0)) ds h k) ds h (fun v4 ds h =>
  gd (isB true v2) (fun k => kO (some (tg tm 10)) ds h k) ds h (fun v5 ds h =>
  gd (isB true v2) (fun k => kO (some (tg tm 7)) ds h k) ds h (fun v6 ds h =>
  gd (isB true v2) (fun k => kO (binV Tryd.prog .sub 3 false v5 v6) ds h k) ds h (fun v7 ds h =>
  gd (isB true v2) (fun k => kO (some (tg tm 10)) ds h k) ds h (fun v8 ds h =>
  gd (isB true v2) (fun k => kO (sliceSl 1 v4 (some v7) (some v8) none) ds h k) ds h (fun v9 ds h =>
  ite2 (isB true v2) (kO (bytesStr h v9) ds h (fun v10 ds h =>
  gd (isB true v2) (fun k => kO (some (tg tm 1)) ds h k) ds h (fun v11 ds h =>
  ite2 (isB true v2) (kO (bytesStr h v11) ds h (fun v12 ds h =>
  gd (isB true v2) (fun k => kO (binV Tryd.prog .eql 9 false v10 v12) ds h k) ds h (fun v13 ds h =>
  kO (pickV v2 v13 (.bool false)) ds h (fun v14 ds h =>
  K .norm (T.set tm 84 v14) ds h))))
  (gd (isB true v2) (fun k => kO (binV Tryd.prog .eql 9 false v10 undef) ds h k) ds h (fun v13 ds h =>
  kO (pickV v2 v13 (.bool false)) ds h (fun v14 ds h =>
  K .norm (T.set tm 84 v14) ds h))))))
  (gd (isB true v2) (fun k => kO (some (tg tm 1)) ds h k) ds h (fun v11 ds h =>
  ite2 (isB true v2) (kO (bytesStr h v11) ds h (fun v12 ds h =>
  gd (isB true v2) (fun k => kO (binV Tryd.prog .eql 9 false undef v12) ds h k) ds h (fun v13 ds h =>
  kO (pickV v2 v13 (.bool false)) ds h (fun v14 ds h =>
  K .norm (T.set tm 84 v14) ds h))))
  (gd (isB true v2) (fun k => kO (binV Tryd.prog .eql 9 false undef undef) ds h k) ds h (fun v13 ds h =>
  kO (pickV v2 v13 (.bool false)) ds h (fun v14 ds h =>
  K .norm (T.set tm 84 v14) ds h))))))))))))) h0.next ⟨h0.objs, h0.next + 15⟩
noncomputable def r60_17 : CodeT := fun call _ tm ds h K =>
  kO (binV Tryd.prog .sub 3 false (tg tm 10) (tg tm 7)) ds h (fun v2 ds h =>
  K .norm (T.set tm 4 v2) ds h)
noncomputable def l60_19 : Box CodeT := ⟨seqC ⟨seqC ⟨r60_11⟩ ⟨condC ⟨fun _ tm => tg tm 47⟩ skipC (exitC 2)⟩⟩ ⟨blockC 3 ⟨seqC ⟨r60_12⟩ ⟨seqC ⟨r60_13⟩ ⟨seqC ⟨r60_14⟩ ⟨seqC ⟨r60_15⟩ ⟨seqC ⟨r60_16⟩ ⟨condC ⟨fun _ tm => tg tm 84⟩ ⟨seqC ⟨r60_17⟩ retC⟩ skipC⟩⟩⟩⟩⟩⟩⟩⟩
noncomputable def r60_18 : CodeT := fun call _ tm ds h K =>
  K .norm (T.set tm 4 (.int .i64 (-1))) ds h
noncomputable def c60 : Box CodeT := ⟨seqC ⟨r60_0⟩ ⟨seqC ⟨r60_1⟩ ⟨seqC ⟨r60_2⟩ ⟨seqC ⟨r60_3⟩ ⟨seqC ⟨seqC ⟨r60_4⟩ ⟨blockC 0 (loopB l60_8)⟩⟩ ⟨seqC ⟨seqC ⟨r60_8⟩ ⟨condC ⟨fun _ tm => tg tm 42⟩ ⟨seqC ⟨r60_9⟩ retC⟩ skipC⟩⟩ ⟨seqC ⟨seqC ⟨r60_10⟩ ⟨blockC 2 (loopB l60_19)⟩⟩ ⟨seqC ⟨r60_18⟩ retC⟩⟩⟩⟩⟩⟩⟩⟩
noncomputable def q60 : Box (T Value → H → Option (List Value)) := ⟨fun tm h => some [tg tm 4]⟩

/-! 61 strings.genSplit -/
noncomputable def r61_0 : CodeT := fun call _ tm ds h K =>
  K .norm (T.set tm 8 (.slice none 0 0)) ds h
noncomputable def r61_1 : CodeT := fun call _ tm ds h K =>
  kO (binV Tryd.prog .eql 3 true (tg tm 3) (.int .i64 (0))) ds h (fun v1 ds h =>
  K .norm (T.set tm 13 v1) ds h)
noncomputable def r61_2 : CodeT := fun call _ tm ds h K =>
  K .norm (T.set tm 8 (.slice none 0 0)) ds h
noncomputable def r61_3 : CodeT := fun call _ tm ds h K =>
  kO (binV Tryd.prog .eql 9 true (tg tm 1) (.string (strB []))) ds h (fun v1 ds h =>
  K .norm (T.set tm 15 v1) ds h)
noncomputable def r61_4 : CodeT := fun call _ tm ds h K =>
  call 73 [(tg tm 0), (tg tm 3)] h (fun v h => (fun v2 ds h =>
  K .norm (T.set tm 8 v2) ds h) v ds h)
noncomputable def r61_5 : CodeT := fun call _ tm ds h K =>
  kO (binV Tryd.prog .lss 3 true (tg tm 3) (.int .i64 (0))) ds h (fun v1 ds h =>
  K .norm (T.set tm 20 v1) ds h)
noncomputable def r61_6 : CodeT := fun call _ tm ds h K =>
  call 74 [(tg tm 0), (tg tm 1)] h (fun v h => (fun v2 ds h =>
  kO (binV Tryd.prog .add 3 true v2 (.int .i64 (1))) ds h (fun v3 ds h =>
  K .norm (T.set tm 3 v3) ds h)) v ds h)
noncomputable def r61_7 : CodeT := fun call _ tm ds h K =>
  kO (lenStr (tg tm 0)) ds h (fun v2 ds h =>
  kO (binV Tryd.prog .add 3 true v2 (.int .i64 (1))) ds h (fun v3 ds h =>
  kO (foldMM false [(tg tm 3), v3]) ds h (fun v4 ds h =>
  K .norm (T.set tm 3 v4) ds h)))
noncomputable def r61_8 : CodeT := fun call _ tm ds h K =>
  kA (mkSlice 9 [(.string (strB []))] 16 h.next (tg tm 3) (tg tm 3)) ds h (fun v1 ds h =>
  K .norm (T.set tm 9 v1) ds h)
noncomputable def r61_9 : CodeT := fun call _ tm ds h K =>
  kO (binV Tryd.prog .sub 3 true (tg tm 3) (.int .i64 (1))) ds h (fun v1 ds h =>
  K .norm (T.set tm 3 v1) ds h)
noncomputable def r61_10 : CodeT := fun call _ tm ds h K =>
  K .norm (T.set tm 10 (.int .i64 (0))) ds h
noncomputable def r61_11 : CodeT := fun call _ tm ds h K =>
  kO (binV Tryd.prog .lss 3 false (tg tm 10) (tg tm 3)) ds h (fun v2 ds h =>
  K .norm (T.set tm 36 v2) ds h)
noncomputable def r61_12 : CodeT := fun call _ tm ds h K =>
  call 75 [(tg tm 0), (tg tm 1)] h (fun v h => (fun v2 ds h =>
  K .norm (T.set tm 11 v2) ds h) v ds h)
noncomputable def r61_13 : CodeT := fun call _ tm ds h K =>
  kO (binV Tryd.prog .lss 3 true (tg tm 11) (.int .i64 (0))) ds h (fun v1 ds h =>
  K .norm (T.set tm 41 v1) ds h)
noncomputable def r61_14 : CodeT := fun call _ tm ds h K =>
  kO (binV Tryd.prog .add 3 false (tg tm 11) (tg tm 2)) ds h (fun v5 ds h =>
  kO (sliceStr (tg tm 0) none (some v5) none) ds h (fun v6 ds h =>
  kO (indexSl 1 (tg tm 9) (tg tm 10)) ds h (fun v7 ds h =>
  kH (withV undef (storeV 1 h v7 v6)) ds (fun v8 ds h =>
  K .norm tm ds h))))
noncomputable def r61_15 : CodeT := fun call _ tm ds h K =>
  kO (lenStr (tg tm 1)) ds h (fun v3 ds h =>
  kO (binV Tryd.prog .add 3 false (tg tm 11) v3) ds h (fun v4 ds h =>
  kO (sliceStr (tg tm 0) (some v4) none none) ds h (fun v5 ds h =>
  K .norm (T.set tm 0 v5) ds h)))
noncomputable def r61_16 : CodeT := fun call _ tm ds h K =>
  kO (binV Tryd.prog .add 3 true (tg tm 10) (.int .i64 (1))) ds h (fun v1 ds h =>
  K .norm (T.set tm 10 v1) ds h)
noncomputable def l61_17 : Box CodeT := ⟨seqC ⟨seqC ⟨r61_11⟩ ⟨condC ⟨fun _ tm => tg tm 36⟩ skipC (exitC 0)⟩⟩ ⟨blockC 1 ⟨seqC ⟨r61_12⟩ ⟨seqC ⟨seqC ⟨r61_13⟩ ⟨condC ⟨fun _ tm => tg tm 41⟩ (exitC 0) skipC⟩⟩ ⟨seqC ⟨r61_14⟩ ⟨seqC ⟨r61_15⟩ ⟨r61_16⟩⟩⟩⟩⟩⟩⟩
noncomputable def r61_17 : CodeT := fun call _ tm ds h K =>
  kO (indexSl 1 (tg tm 9) (tg tm 10)) ds h (fun v3 ds h =>
  kH (withV undef (storeV 1 h v3 (tg tm 0))) ds (fun v4 ds h =>
  K .norm tm ds h))
noncomputable def r61_18 : CodeT := fun call _ tm ds h K =>
  kO (binV Tryd.prog .add 3 true (tg tm 10) (.int .i64 (1))) ds h (fun v2 ds h =>
  kO (sliceSl 1 (tg tm 9) none (some v2) none) ds h (fun v3 ds h =>
  K .norm (T.set tm 8 v3) ds h))
noncomputable def c61 : Box CodeT := ⟨seqC ⟨r61_0⟩ ⟨seqC ⟨seqC ⟨r61_1⟩ ⟨condC ⟨fun _ tm => tg tm 13⟩ ⟨seqC ⟨r61_2⟩ retC⟩ skipC⟩⟩ ⟨seqC ⟨seqC ⟨r61_3⟩ ⟨condC ⟨fun _ tm => tg tm 15⟩ ⟨seqC ⟨r61_4⟩ retC⟩ skipC⟩⟩ ⟨seqC ⟨seqC ⟨r61_5⟩ ⟨condC ⟨fun _ tm => tg tm 20⟩ ⟨r61_6⟩ skipC⟩⟩ ⟨seqC ⟨r61_7⟩ ⟨seqC ⟨r61_8⟩ ⟨seqC ⟨r61_9⟩ ⟨seqC ⟨r61_10⟩ ⟨seqC ⟨blockC 0 (loopB l61_17)⟩ ⟨seqC ⟨r61_17⟩ ⟨seqC ⟨r61_18⟩ retC⟩⟩⟩⟩⟩⟩⟩⟩⟩⟩⟩
noncomputable def q61 : Box (T Value → H → Option (List Value)) := ⟨fun tm h => some [tg tm 8]⟩

/-! 62 cloakroom/words.number -/
noncomputable def r62_0 : CodeT := fun call _ tm ds h K =>
  K .norm (T.set (T.set tm 4 (.int .u64 (0))) 5 (.bool false)) ds h
noncomputable def r62_1 : CodeT := fun call _ tm ds h K =>
  call 76 [(tg tm 0)] h (fun v h => (fun v1 ds h =>
  kO (tupNth 0 v1) ds h (fun v3 ds h =>
  kO (tupNth 1 v1) ds h (fun v4 ds h =>
  K .norm (T.set (T.set tm 6 v3) 7 v4) ds h))) v ds h)
noncomputable def r62_2 : CodeT := fun call _ tm ds h K => (⟨opStep ⟨fun call env tm ds h K => kO (some (tg tm 6)) ds h K⟩ ⟨fun v tm => tm⟩ ⟨fun env tm => true⟩
  ⟨opStep ⟨fun call env tm ds h K => kO (some (tg tm 7)) ds h K⟩ ⟨fun v tm => tm⟩ ⟨fun env tm => true⟩
  ⟨opStep ⟨fun call env tm ds h K => kO (some (nthD 0 env)) ds h K⟩ ⟨fun v tm => tm⟩ ⟨fun env tm => true⟩
  ⟨opStep ⟨fun call env tm ds h K => kO (some (tg tm 6)) ds h K⟩ ⟨fun v tm => tm⟩ ⟨fun env tm => isB true (nthD 0 env)⟩
  ⟨opStep ⟨fun call env tm ds h K => kO (some (tg tm 1)) ds h K⟩ ⟨fun v tm => tm⟩ ⟨fun env tm => isB true (nthD 1 env)⟩
  ⟨opStep ⟨fun call env tm ds h K => kO (binV Tryd.prog .leq 23 false (nthD 1 env) (nthD 0 env)) ds h K⟩ ⟨fun v tm => tm⟩ ⟨fun env tm => isB true (nthD 2 env)⟩
  ⟨opStep ⟨fun call env tm ds h K => kO (pickV (nthD 3 env) (nthD 0 env) (.bool false)) ds h K⟩ ⟨fun v tm => tm⟩ ⟨fun env tm => true⟩
  ⟨opStep ⟨fun call env tm ds h K => kO (some (nthD 6 env)) ds h K⟩ ⟨fun v tm => (T.set tm 4 v)⟩ ⟨fun env tm => true⟩
  ⟨opStep ⟨fun call env tm ds h K => kO (some (nthD 1 env)) ds h K⟩ ⟨fun v tm => (T.set tm 5 v)⟩ ⟨fun env tm => true⟩
  ⟨fun _ _ tm ds h K => K .norm tm ds h⟩⟩⟩⟩⟩⟩⟩⟩⟩⟩ : Box OpsT).f call [] tm ds h K
noncomputable def c62 : Box CodeT := ⟨seqC ⟨r62_0⟩ ⟨seqC ⟨r62_1⟩ ⟨seqC ⟨r62_2⟩ retC⟩⟩⟩
noncomputable def q62 : Box (T Value → H → Option (List Value)) := ⟨fun tm h => some [tg tm 4, tg tm 5]⟩

/-! 63 slices.Index[[]string,string] -/
noncomputable def r63_0 : CodeT := fun call _ tm ds h K =>
  K .norm (T.set tm 4 (.int .i64 (0))) ds h
noncomputable def r63_1 : CodeT := fun call _ tm ds h K =>
  kO (lenSl (tg tm 0)) ds h (fun v1 ds h =>
  K .norm (T.set (T.set tm 7 v1) 8 (.int .i64 (0))) ds h)
noncomputable def r63_2 : CodeT := fun call _ tm ds h K =>
  kO (binV Tryd.prog .lss 3 false (tg tm 8) (tg tm 7)) ds h (fun v0 ds h =>
  K .norm (T.set tm 9 v0) ds h)
noncomputable def r63_3 : CodeT := fun call _ tm ds h K =>
  K .norm (T.set tm 5 (tg tm 8)) ds h
noncomputable def r63_4 : CodeT := fun call _ tm ds h K =>
  kO (indexSl 1 (tg tm 0) (tg tm 5)) ds h (fun v3 ds h =>
  kO (loadOne h v3) ds h (fun v4 ds h =>
  kO (binV Tryd.prog .eql 9 false (tg tm 1) v4) ds h (fun v5 ds h =>
  K .norm (T.set tm 16 v5) ds h)))
noncomputable def r63_5 : CodeT := fun call _ tm ds h K =>
  K .norm (T.set tm 4 (tg tm 5)) ds h
noncomputable def r63_6 : CodeT := fun call _ tm ds h K =>
  kO (binV Tryd.prog .add 3 true (tg tm 8) (.int .i64 (1))) ds h (fun v0 ds h =>
  K .norm (T.set tm 8 v0) ds h)
noncomputable def l63_7 : Box CodeT := ⟨seqC ⟨r63_2⟩ ⟨seqC ⟨condC ⟨fun _ tm => tg tm 9⟩ skipC (exitC 0)⟩ ⟨seqC ⟨blockC 1 ⟨seqC ⟨r63_3⟩ ⟨seqC ⟨r63_4⟩ ⟨condC ⟨fun _ tm => tg tm 16⟩ ⟨seqC ⟨r63_5⟩ retC⟩ skipC⟩⟩⟩⟩ ⟨r63_6⟩⟩⟩⟩
noncomputable def r63_7 : CodeT := fun call _ tm ds h K =>
  K .norm (T.set tm 4 (.int .i64 (-1))) ds h
noncomputable def c63 : Box CodeT := ⟨seqC ⟨r63_0⟩ ⟨seqC ⟨seqC ⟨r63_1⟩ ⟨blockC 0 (loopB l63_7)⟩⟩ ⟨seqC ⟨r63_7⟩ retC⟩⟩⟩
noncomputable def q63 : Box (T Value → H → Option (List Value)) := ⟨fun tm h => some [tg tm 4]⟩

/-! 64 cloakroom/cloakroomref15.num -/
/-! 65 strings.indexFunc -/
noncomputable def r65_0 : CodeT := fun call _ tm ds h K =>
  K .norm (T.set tm 6 (.int .i64 (0))) ds h
noncomputable def r65_1 : CodeT := fun call _ tm ds h K =>
  kH (rangeStr h (tg tm 0)) ds (fun v1 ds h =>
  K .norm (T.set tm 10 v1) ds h)
noncomputable def r65_2 : CodeT := fun call _ tm ds h K =>
  nextV true h (tg tm 10) (fun v h => (fun v0 ds h =>
  kO (tupNth 0 v0) ds h (fun v1 ds h =>
  K .norm (T.set (T.set tm 11 v0) 12 v1) ds h)) v ds h)
noncomputable def r65_3 : CodeT := fun call _ tm ds h K =>
  kO (tupNth 1 (tg tm 11)) ds h (fun v0 ds h =>
  kO (tupNth 2 (tg tm 11)) ds h (fun v1 ds h =>
  K .norm (T.set (T.set tm 7 v0) 8 v1) ds h))
noncomputable def r65_4 : CodeT := fun call _ tm ds h K =>
  goCall call (funcArgs (tg tm 1) [(tg tm 8)]) ds h (fun v2 ds h =>
  kO (binV Tryd.prog .eql 4 false v2 (tg tm 2)) ds h (fun v4 ds h =>
  K .norm (T.set tm 19 v4) ds h))
noncomputable def r65_5 : CodeT := fun call _ tm ds h K =>
  K .norm (T.set tm 6 (tg tm 7)) ds h
noncomputable def l65_6 : Box CodeT := ⟨seqC ⟨r65_2⟩ ⟨seqC ⟨condC ⟨fun _ tm => tg tm 12⟩ skipC (exitC 0)⟩ ⟨blockC 1 ⟨seqC ⟨r65_3⟩ ⟨seqC ⟨r65_4⟩ ⟨condC ⟨fun _ tm => tg tm 19⟩ ⟨seqC ⟨r65_5⟩ retC⟩ skipC⟩⟩⟩⟩⟩⟩
noncomputable def r65_6 : CodeT := fun call _ tm ds h K =>
  K .norm (T.set tm 6 (.int .i64 (-1))) ds h
noncomputable def c65 : Box CodeT := ⟨seqC ⟨r65_0⟩ ⟨seqC ⟨seqC ⟨r65_1⟩ ⟨blockC 0 (loopB l65_6)⟩⟩ ⟨seqC ⟨r65_6⟩ retC⟩⟩⟩
noncomputable def q65 : Box (T Value → H → Option (List Value)) := ⟨fun tm h => some [tg tm 6]⟩

/-! 66 (*strings.Builder).copyCheck -/
noncomputable def r66_0 : CodeT := fun call _ tm ds h K =>
  kO (nilChk (tg tm 0)) ds h (fun v1 ds h =>
  kO (fieldPtr 0 v1) ds h (fun v2 ds h =>
  kO (loadOne h v2) ds h (fun v3 ds h =>
  kO (binV Tryd.prog .eql 72 true v3 (.pointer none)) ds h (fun v4 ds h =>
  K .norm (T.set tm 6 v4) ds h))))
noncomputable def r66_1 : CodeT := fun call _ tm ds h K =>
  kO (ptrUns h (tg tm 0)) ds h (fun v2 ds h =>
  call 78 [v2] h (fun v h => (fun v3 ds h =>
  kO (unsPtr 74 2 h v3) ds h (fun v4 ds h =>
  kO (nilChk (tg tm 0)) ds h (fun v5 ds h =>
  kO (fieldPtr 0 v5) ds h (fun v6 ds h =>
  kH (withV undef (storeV 1 h v6 v4)) ds (fun v7 ds h =>
  K .norm tm ds h))))) v ds h))
noncomputable def r66_2 : CodeT := fun call _ tm ds h K =>
  kO (nilChk (tg tm 0)) ds h (fun v1 ds h =>
  kO (fieldPtr 0 v1) ds h (fun v2 ds h =>
  kO (loadOne h v2) ds h (fun v3 ds h =>
  kO (binV Tryd.prog .neq 72 false v3 (tg tm 0)) ds h (fun v5 ds h =>
  K .norm (T.set tm 19 v5) ds h))))
noncomputable def c66 : Box CodeT := ⟨seqC ⟨r66_0⟩ ⟨condC ⟨fun _ tm => tg tm 6⟩ ⟨r66_1⟩ ⟨seqC ⟨r66_2⟩ ⟨condC ⟨fun _ tm => tg tm 19⟩ stop skipC⟩⟩⟩⟩
noncomputable def q66 : Box (T Value → H → Option (List Value)) := ⟨fun tm h => some []⟩

/-! 67 (*strings.Builder).Grow -/
noncomputable def r67_0 : CodeT := fun call _ tm ds h K =>
  call 66 [(tg tm 0)] h (fun v h => (fun v1 ds h =>
  K .norm tm ds h) v ds h)
noncomputable def r67_1 : CodeT := fun call _ tm ds h K =>
  kO (binV Tryd.prog .lss 3 true (tg tm 1) (.int .i64 (0))) ds h (fun v1 ds h =>
  K .norm (T.set tm 7 v1) ds h)
noncomputable def r67_2 : CodeT := fun call _ tm ds h K =>
  kO (some (.iface 9 (.string (strB [115, 116, 114, 105, 110, 103, 115, 46, 66, 117, 105, 108, 100, 101, 114, 46, 71, 114, 111, 119, 58, 32, 110, 101, 103, 97, 116, 105, 118, 101, 32, 99, 111, 117, 110, 116])))) ds h (fun v0 ds h =>
  kO none ds h (fun v1 ds h =>
  K .norm tm ds h))
noncomputable def r67_3 : CodeT := fun call _ tm ds h0 K =>
  (fun (b0 : Nat) (h : H) =>
  kO (nilChk (tg tm 0)) ds h (fun v1 ds h =>
  kO (fieldPtr 1 v1) ds h (fun v2 ds h =>
  kO (loadOne h v2) ds h (fun v3 ds h =>
  kO (capV v3) ds h (fun v4 ds h =>
  kO (nilChk (tg tm 0)) ds h (fun v6 ds h =>
  kO (fieldPtr 1 v6) ds h (fun v7 ds h =>
  kO (loadOne h v7) ds h (fun v8 ds h =>
  kO (lenSl v8) ds h (fun v9 ds h =>
  kO (binV Tryd.prog .sub 3 false v4 v9) ds h (fun v10 ds h =>
  kO (binV Tryd.prog .lss 3 false v10 (tg tm 1)) ds h (fun v12 ds h =>
  K .norm (T.set tm 21 v12) ds h))))))))))) h0.next ⟨h0.objs, h0.next + 13⟩
noncomputable def r67_4 : CodeT := fun call _ tm ds h K =>
  call 79 [(tg tm 0), (tg tm 1)] h (fun v h => (fun v2 ds h =>
  K .norm tm ds h) v ds h)
noncomputable def c67 : Box CodeT := ⟨seqC ⟨r67_0⟩ ⟨seqC ⟨seqC ⟨r67_1⟩ ⟨condC ⟨fun _ tm => tg tm 7⟩ ⟨r67_2⟩ skipC⟩⟩ ⟨seqC ⟨r67_3⟩ ⟨condC ⟨fun _ tm => tg tm 21⟩ ⟨r67_4⟩ skipC⟩⟩⟩⟩
noncomputable def q67 : Box (T Value → H → Option (List Value)) := ⟨fun tm h => some []⟩

/-! 68 strconv.FormatUint -/
noncomputable def r68_0 : CodeT := fun call _ tm ds h K =>
  K .norm (T.set tm 4 (.string (strB []))) ds h
noncomputable def r68_1 : CodeT := fun call _ tm ds h K =>
  call 80 [(tg tm 0), (tg tm 1)] h (fun v h => (fun v2 ds h =>
  K .norm (T.set tm 4 v2) ds h) v ds h)
noncomputable def c68 : Box CodeT := ⟨seqC ⟨r68_0⟩ ⟨seqC ⟨r68_1⟩ retC⟩⟩
noncomputable def q68 : Box (T Value → H → Option (List Value)) := ⟨fun tm h => some [tg tm 4]⟩

/-! 69 cloakroom/cloakroomref09.Moment -/
/-! 70 cloakroom/item.moment -/
noncomputable def r70_0 : CodeT := fun call _ tm ds h K =>
  K .norm (T.set tm 2 (.bool false)) ds h
noncomputable def r70_1 : CodeT := fun call _ tm ds h K =>
  kO (binV Tryd.prog .geq 3 true (tg tm 0) (.int .i64 (0))) ds h (fun v1 ds h =>
  gd (isB true v1) (fun k => kO (some (tg tm 0)) ds h (k)) ds h (fun v3 ds h =>
  gd (isB true v1) (fun k => kO (binV Tryd.prog .leq 3 true v3 (.int .i64 (1099511627776))) ds h (k)) ds h (fun v4 ds h =>
  kO (pickV v1 v4 (.bool false)) ds h (fun v5 ds h =>
  K .norm (T.set tm 2 v5) ds h))))
noncomputable def c70 : Box CodeT := ⟨seqC ⟨r70_0⟩ ⟨seqC ⟨r70_1⟩ retC⟩⟩
noncomputable def q70 : Box (T Value → H → Option (List Value)) := ⟨fun tm h => some [tg tm 2]⟩

/-! 72 internal/bytealg.hashStr[[]byte] -/
noncomputable def r72_0 : CodeT := fun call _ tm ds h K =>
  K .norm (T.set (T.set tm 2 (.int .u32 (0))) 3 (.int .u32 (0))) ds h
noncomputable def r72_1 : CodeT := fun call _ tm ds h K =>
  K .norm (T.set tm 4 (.int .u32 (0))) ds h
noncomputable def r72_2 : CodeT := fun call _ tm ds h K =>
  K .norm (T.set tm 5 (.int .i64 (0))) ds h
noncomputable def r72_3 : CodeT := fun call _ tm ds h K =>
  kO (lenSl (tg tm 0)) ds h (fun v2 ds h =>
  kO (binV Tryd.prog .lss 3 false (tg tm 5) v2) ds h (fun v3 ds h =>
  K .norm (T.set tm 12 v3) ds h))
noncomputable def r72_5 : CodeT := fun call _ tm ds h K =>
  kO (binV Tryd.prog .mul 46 true (tg tm 4) (.int .u32 (16777619))) ds h (fun v1 ds h =>
  kO (indexSl 1 (tg tm 0) (tg tm 5)) ds h (fun v4 ds h =>
  kO (loadOne h v4) ds h (fun v5 ds h =>
  kO (toInt .u32 v5) ds h (fun v6 ds h =>
  kO (binV Tryd.prog .add 46 false v1 v6) ds h (fun v7 ds h =>
  K .norm (T.set tm 4 v7) ds h)))))
noncomputable def r72_4 : CodeT := fun call _ tm ds h K =>
  kO (binV Tryd.prog .add 3 true (tg tm 5) (.int .i64 (1))) ds h (fun v1 ds h =>
  K .norm (T.set tm 5 v1) ds h)
noncomputable def l72_6 : Box CodeT := ⟨seqC ⟨seqC ⟨r72_3⟩ ⟨condC ⟨fun _ tm => tg tm 12⟩ skipC (exitC 0)⟩⟩ ⟨seqC ⟨blockC 1 ⟨r72_5⟩⟩ ⟨r72_4⟩⟩⟩
noncomputable def r72_6 : CodeT := fun call _ tm ds h K =>
  K .norm (T.set (T.set tm 6 (.int .u32 (1))) 7 (.int .u32 (16777619))) ds h
noncomputable def r72_7 : CodeT := fun call _ tm ds h K =>
  kO (lenSl (tg tm 0)) ds h (fun v1 ds h =>
  K .norm (T.set tm 8 v1) ds h)
noncomputable def r72_8 : CodeT := fun call _ tm ds h K =>
  kO (binV Tryd.prog .gtr 3 true (tg tm 8) (.int .i64 (0))) ds h (fun v1 ds h =>
  K .norm (T.set tm 26 v1) ds h)
noncomputable def r72_10 : CodeT := fun call _ tm ds h K =>
  kO (binV Tryd.prog .and 3 true (tg tm 8) (.int .i64 (1))) ds h (fun v1 ds h =>
  kO (binV Tryd.prog .neq 3 true v1 (.int .i64 (0))) ds h (fun v2 ds h =>
  K .norm (T.set tm 31 v2) ds h))
noncomputable def r72_11 : CodeT := fun call _ tm ds h K =>
  kO (binV Tryd.prog .mul 46 false (tg tm 6) (tg tm 7)) ds h (fun v2 ds h =>
  K .norm (T.set tm 6 v2) ds h)
noncomputable def r72_12 : CodeT := fun call _ tm ds h K =>
  kO (binV Tryd.prog .mul 46 false (tg tm 7) (tg tm 7)) ds h (fun v2 ds h =>
  K .norm (T.set tm 7 v2) ds h)
noncomputable def r72_9 : CodeT := fun call _ tm ds h K =>
  kO (binV Tryd.prog .shr 3 true (tg tm 8) (.int .u64 (1))) ds h (fun v1 ds h =>
  K .norm (T.set tm 8 v1) ds h)
noncomputable def l72_14 : Box CodeT := ⟨seqC ⟨seqC ⟨r72_8⟩ ⟨condC ⟨fun _ tm => tg tm 26⟩ skipC (exitC 2)⟩⟩ ⟨seqC ⟨blockC 3 ⟨seqC ⟨seqC ⟨r72_10⟩ ⟨condC ⟨fun _ tm => tg tm 31⟩ ⟨r72_11⟩ skipC⟩⟩ ⟨r72_12⟩⟩⟩ ⟨r72_9⟩⟩⟩
noncomputable def r72_13 : CodeT := fun call _ tm ds h K =>
  K .norm (T.set (T.set tm 2 (tg tm 4)) 3 (tg tm 6)) ds h
noncomputable def c72 : Box CodeT := ⟨seqC ⟨r72_0⟩ ⟨seqC ⟨r72_1⟩ ⟨seqC ⟨seqC ⟨r72_2⟩ ⟨blockC 0 (loopB l72_6)⟩⟩ ⟨seqC ⟨r72_6⟩ ⟨seqC ⟨seqC ⟨r72_7⟩ ⟨blockC 2 (loopB l72_14)⟩⟩ ⟨seqC ⟨r72_13⟩ retC⟩⟩⟩⟩⟩⟩
noncomputable def q72 : Box (T Value → H → Option (List Value)) := ⟨fun tm h => some [tg tm 2, tg tm 3]⟩

/-! 74 strings.Count -/
noncomputable def r74_0 : CodeT := fun call _ tm ds h K =>
  K .norm (T.set tm 4 (.int .i64 (0))) ds h
noncomputable def r74_1 : CodeT := fun call _ tm ds h K =>
  kO (lenStr (tg tm 1)) ds h (fun v1 ds h =>
  kO (binV Tryd.prog .eql 3 true v1 (.int .i64 (0))) ds h (fun v2 ds h =>
  K .norm (T.set tm 9 v2) ds h))
noncomputable def r74_2 : CodeT := fun call _ tm ds h K =>
  call 81 [(tg tm 0)] h (fun v h => (fun v1 ds h =>
  kO (binV Tryd.prog .add 3 true v1 (.int .i64 (1))) ds h (fun v2 ds h =>
  K .norm (T.set tm 4 v2) ds h)) v ds h)
noncomputable def r74_3 : CodeT := fun call _ tm ds h K =>
  kO (lenStr (tg tm 1)) ds h (fun v1 ds h =>
  kO (binV Tryd.prog .eql 3 true v1 (.int .i64 (1))) ds h (fun v2 ds h =>
  K .norm (T.set tm 15 v2) ds h))
noncomputable def r74_4 : CodeT := fun call _ tm ds h K =>
  kO (indexStr (tg tm 1) (.int .i64 (0))) ds h (fun v2 ds h =>
  call 83 [(tg tm 0), v2] h (fun v h => (fun v3 ds h =>
  K .norm (T.set tm 4 v3) ds h) v ds h))
noncomputable def r74_5 : CodeT := fun call _ tm ds h K =>
  K .norm (T.set tm 5 (.int .i64 (0))) ds h
noncomputable def r74_6 : CodeT := fun call _ tm ds h K =>
  call 75 [(tg tm 0), (tg tm 1)] h (fun v h => (fun v2 ds h =>
  K .norm (T.set tm 6 v2) ds h) v ds h)
noncomputable def r74_7 : CodeT := fun call _ tm ds h K =>
  kO (binV Tryd.prog .eql 3 true (tg tm 6) (.int .i64 (-1))) ds h (fun v1 ds h =>
  K .norm (T.set tm 24 v1) ds h)
noncomputable def r74_8 : CodeT := fun call _ tm ds h K =>
  K .norm (T.set tm 4 (tg tm 5)) ds h
noncomputable def r74_9 : CodeT := fun call _ tm ds h K =>
  kO (binV Tryd.prog .add 3 true (tg tm 5) (.int .i64 (1))) ds h (fun v1 ds h =>
  K .norm (T.set tm 5 v1) ds h)
noncomputable def r74_10 : CodeT := fun call _ tm ds h K =>
  kO (lenStr (tg tm 1)) ds h (fun v3 ds h =>
  kO (binV Tryd.prog .add 3 false (tg tm 6) v3) ds h (fun v4 ds h =>
  kO (sliceStr (tg tm 0) (some v4) none none) ds h (fun v5 ds h =>
  K .norm (T.set tm 0 v5) ds h)))
noncomputable def l74_11 : Box CodeT := ⟨blockC 1 ⟨seqC ⟨r74_6⟩ ⟨seqC ⟨seqC ⟨r74_7⟩ ⟨condC ⟨fun _ tm => tg tm 24⟩ ⟨seqC ⟨r74_8⟩ retC⟩ skipC⟩⟩ ⟨seqC ⟨r74_9⟩ ⟨r74_10⟩⟩⟩⟩⟩
noncomputable def c74 : Box CodeT := ⟨seqC ⟨r74_0⟩ ⟨seqC ⟨seqC ⟨r74_1⟩ ⟨condC ⟨fun _ tm => tg tm 9⟩ ⟨seqC ⟨r74_2⟩ retC⟩ skipC⟩⟩ ⟨seqC ⟨seqC ⟨r74_3⟩ ⟨condC ⟨fun _ tm => tg tm 15⟩ ⟨seqC ⟨r74_4⟩ retC⟩ skipC⟩⟩ ⟨seqC ⟨r74_5⟩ ⟨blockC 0 (loopB l74_11)⟩⟩⟩⟩⟩
noncomputable def q74 : Box (T Value → H → Option (List Value)) := ⟨fun tm h => some [tg tm 4]⟩

/-! 75 strings.Index -/
noncomputable def r75_0 : CodeT := fun call _ tm ds h K =>
  K .norm (T.set tm 4 (.int .i64 (0))) ds h
noncomputable def r75_1 : CodeT := fun call _ tm ds h K =>
  call 84 [(tg tm 0), (tg tm 1)] h (fun v h => (fun v2 ds h =>
  K .norm (T.set tm 4 v2) ds h) v ds h)
noncomputable def c75 : Box CodeT := ⟨seqC ⟨r75_0⟩ ⟨seqC ⟨r75_1⟩ retC⟩⟩
noncomputable def q75 : Box (T Value → H → Option (List Value)) := ⟨fun tm h => some [tg tm 4]⟩

/-! 76 cloakroom/item.Number -/
noncomputable def r76_0 : CodeT := fun call _ tm ds h K =>
  K .norm (T.set (T.set tm 2 (.int .u64 (0))) 3 (.bool false)) ds h
noncomputable def r76_1 : CodeT := fun call _ tm ds h K => (⟨opStep ⟨fun call env tm ds h K => kO (some (tg tm 0)) ds h K⟩ ⟨fun v tm => tm⟩ ⟨fun env tm => true⟩
  ⟨opStep ⟨fun call env tm ds h K => kO (lenStr (nthD 0 env)) ds h K⟩ ⟨fun v tm => tm⟩ ⟨fun env tm => true⟩
  ⟨opStep ⟨fun call env tm ds h K => kO (binV Tryd.prog .lss 3 true (nthD 0 env) (.int .i64 (1))) ds h K⟩ ⟨fun v tm => tm⟩ ⟨fun env tm => true⟩
  ⟨opStep ⟨fun call env tm ds h K => kO (some (nthD 0 env)) ds h K⟩ ⟨fun v tm => tm⟩ ⟨fun env tm => true⟩
  ⟨opStep ⟨fun call env tm ds h K => kO (some (tg tm 0)) ds h K⟩ ⟨fun v tm => tm⟩ ⟨fun env tm => isB false (nthD 0 env)⟩
  ⟨opStep ⟨fun call env tm ds h K => kO (lenStr (nthD 0 env)) ds h K⟩ ⟨fun v tm => tm⟩ ⟨fun env tm => isB false (nthD 1 env)⟩
  ⟨opStep ⟨fun call env tm ds h K => kO (binV Tryd.prog .gtr 3 true (nthD 0 env) (.int .i64 (20))) ds h K⟩ ⟨fun v tm => tm⟩ ⟨fun env tm => isB false (nthD 2 env)⟩
  ⟨opStep ⟨fun call env tm ds h K => kO (pickV (nthD 3 env) (.bool true) (nthD 0 env)) ds h K⟩ ⟨fun v tm => tm⟩ ⟨fun env tm => true⟩
  ⟨opStep ⟨fun call env tm ds h K => kO (some (nthD 0 env)) ds h K⟩ ⟨fun v tm => tm⟩ ⟨fun env tm => true⟩
  ⟨opStep ⟨fun call env tm ds h K => kO (some (tg tm 0)) ds h K⟩ ⟨fun v tm => tm⟩ ⟨fun env tm => isB false (nthD 0 env)⟩
  ⟨opStep ⟨fun call env tm ds h K => kO (indexStr (nthD 0 env) (.int .i64 (0))) ds h K⟩ ⟨fun v tm => tm⟩ ⟨fun env tm => isB false (nthD 1 env)⟩
  ⟨opStep ⟨fun call env tm ds h K => kO (binV Tryd.prog .eql 5 true (nthD 0 env) (.int .u8 (48))) ds h K⟩ ⟨fun v tm => tm⟩ ⟨fun env tm => isB false (nthD 2 env)⟩
  ⟨opStep ⟨fun call env tm ds h K => kO (some (nthD 0 env)) ds h K⟩ ⟨fun v tm => tm⟩ ⟨fun env tm => isB false (nthD 3 env)⟩
  ⟨opStep ⟨fun call env tm ds h K => kO (some (tg tm 0)) ds h K⟩ ⟨fun v tm => tm⟩ ⟨fun env tm => isB true (nthD 0 env)⟩
  ⟨opStep ⟨fun call env tm ds h K => kO (lenStr (nthD 0 env)) ds h K⟩ ⟨fun v tm => tm⟩ ⟨fun env tm => isB true (nthD 1 env)⟩
  ⟨opStep ⟨fun call env tm ds h K => kO (binV Tryd.prog .gtr 3 true (nthD 0 env) (.int .i64 (1))) ds h K⟩ ⟨fun v tm => tm⟩ ⟨fun env tm => isB true (nthD 2 env)⟩
  ⟨opStep ⟨fun call env tm ds h K => kO (pickV (nthD 3 env) (nthD 0 env) (.bool false)) ds h K⟩ ⟨fun v tm => tm⟩ ⟨fun env tm => isB false (nthD 7 env)⟩
  ⟨opStep ⟨fun call env tm ds h K => kO (pickV (nthD 8 env) (.bool true) (nthD 0 env)) ds h K⟩ ⟨fun v tm => (T.set tm 25 v)⟩ ⟨fun env tm => true⟩
  ⟨fun _ _ tm ds h K => K .norm tm ds h⟩⟩⟩⟩⟩⟩⟩⟩⟩⟩⟩⟩⟩⟩⟩⟩⟩⟩⟩ : Box OpsT).f call [] tm ds h K
noncomputable def r76_2 : CodeT := fun call _ tm ds h K =>
  K .norm (T.set (T.set tm 2 (.int .u64 (0))) 3 (.bool false)) ds h
noncomputable def r76_3 : CodeT := fun call _ tm ds h K =>
  kH (rangeStr h (tg tm 0)) ds (fun v1 ds h =>
  K .norm (T.set tm 27 v1) ds h)
noncomputable def r76_4 : CodeT := fun call _ tm ds h K =>
  nextV true h (tg tm 27) (fun v h => (fun v0 ds h =>
  kO (tupNth 0 v0) ds h (fun v1 ds h =>
  K .norm (T.set (T.set tm 28 v0) 29 v1) ds h)) v ds h)
noncomputable def r76_5 : CodeT := fun call _ tm ds h K =>
  kO (tupNth 2 (tg tm 28)) ds h (fun v0 ds h =>
  K .norm (T.set tm 5 v0) ds h)
noncomputable def r76_6 : CodeT := fun call _ tm ds h K =>
  kO (binV Tryd.prog .lss 21 true (tg tm 5) (.int .i32 (48))) ds h (fun v1 ds h =>
  gd (isB false v1) (fun k => kO (some (tg tm 5)) ds h (k)) ds h (fun v3 ds h =>
  gd (isB false v1) (fun k => kO (binV Tryd.prog .gtr 21 true v3 (.int .i32 (57))) ds h (k)) ds h (fun v4 ds h =>
  kO (pickV v1 (.bool true) v4) ds h (fun v5 ds h =>
  K .norm (T.set tm 36 v5) ds h))))
noncomputable def r76_7 : CodeT := fun call _ tm ds h K =>
  K .norm (T.set (T.set tm 2 (.int .u64 (0))) 3 (.bool false)) ds h
noncomputable def l76_8 : Box CodeT := ⟨seqC ⟨r76_4⟩ ⟨seqC ⟨condC ⟨fun _ tm => tg tm 29⟩ skipC (exitC 0)⟩ ⟨blockC 1 ⟨seqC ⟨r76_5⟩ ⟨seqC ⟨r76_6⟩ ⟨condC ⟨fun _ tm => tg tm 36⟩ ⟨seqC ⟨r76_7⟩ retC⟩ skipC⟩⟩⟩⟩⟩⟩
noncomputable def r76_8 : CodeT := fun call _ tm ds h K =>
  call 85 [(tg tm 0), (.int .i64 (10)), (.int .i64 (64))] h (fun v h => (fun v1 ds h =>
  kO (tupNth 0 v1) ds h (fun v3 ds h =>
  kO (tupNth 1 v1) ds h (fun v4 ds h =>
  K .norm (T.set (T.set tm 6 v3) 7 v4) ds h))) v ds h)
noncomputable def r76_9 : CodeT := fun call _ tm ds h K =>
  kO (binV Tryd.prog .neq 76 true (tg tm 7) .nilIface) ds h (fun v1 ds h =>
  K .norm (T.set tm 43 v1) ds h)
noncomputable def r76_10 : CodeT := fun call _ tm ds h K =>
  K .norm (T.set (T.set tm 2 (.int .u64 (0))) 3 (.bool false)) ds h
noncomputable def r76_11 : CodeT := fun call _ tm ds h K =>
  K .norm (T.set (T.set tm 2 (tg tm 6)) 3 (.bool true)) ds h
noncomputable def c76 : Box CodeT := ⟨seqC ⟨r76_0⟩ ⟨seqC ⟨seqC ⟨r76_1⟩ ⟨condC ⟨fun _ tm => tg tm 25⟩ ⟨seqC ⟨r76_2⟩ retC⟩ skipC⟩⟩ ⟨seqC ⟨seqC ⟨r76_3⟩ ⟨blockC 0 (loopB l76_8)⟩⟩ ⟨seqC ⟨r76_8⟩ ⟨seqC ⟨seqC ⟨r76_9⟩ ⟨condC ⟨fun _ tm => tg tm 43⟩ ⟨seqC ⟨r76_10⟩ retC⟩ skipC⟩⟩ ⟨seqC ⟨r76_11⟩ retC⟩⟩⟩⟩⟩⟩
noncomputable def q76 : Box (T Value → H → Option (List Value)) := ⟨fun tm h => some [tg tm 2, tg tm 3]⟩

/-! 77 cloakroom/cloakroomref09.Number -/
/-! 79 (*strings.Builder).grow -/
noncomputable def r79_0 : CodeT := fun call _ tm ds h0 K =>
  (fun (b0 : Nat) (h : H) =>
  kO (nilChk (tg tm 0)) ds h (fun v1 ds h =>
  kO (fieldPtr 1 v1) ds h (fun v2 ds h =>
  kO (loadOne h v2) ds h (fun v3 ds h =>
  kO (capV v3) ds h (fun v4 ds h =>
  kO (binV Tryd.prog .mul 3 true (.int .i64 (2)) v4) ds h (fun v5 ds h =>
  kO (binV Tryd.prog .add 3 false v5 (tg tm 1)) ds h (fun v7 ds h =>
  kO (nilChk (tg tm 0)) ds h (fun v10 ds h =>
  kO (fieldPtr 1 v10) ds h (fun v11 ds h =>
  kO (loadOne h v11) ds h (fun v12 ds h =>
  kO (lenSl v12) ds h (fun v13 ds h =>
  call 86 [v7] h (fun v h => (fun v8 ds h =>
  andB ((hO (loadOne h v11) v12 true) && true) (kO (sliceSl 1 v8 none (some v13) none) ds h (fun v14 ds h =>
  K .norm (T.set tm 4 v14) ds h))) v ds h)))))))))))) h0.next ⟨h0.objs, h0.next + 16⟩
noncomputable def r79_1 : CodeT := fun call _ tm ds h K =>
  kO (nilChk (tg tm 0)) ds h (fun v2 ds h =>
  kO (fieldPtr 1 v2) ds h (fun v3 ds h =>
  kO (loadOne h v3) ds h (fun v4 ds h =>
  kH (copyV 1 h (tg tm 4) v4) ds (fun v5 ds h =>
  K .norm tm ds h))))
noncomputable def r79_2 : CodeT := fun call _ tm ds h K =>
  kO (nilChk (tg tm 0)) ds h (fun v2 ds h =>
  kO (fieldPtr 1 v2) ds h (fun v3 ds h =>
  kH (withV undef (storeV 1 h v3 (tg tm 4))) ds (fun v4 ds h =>
  K .norm tm ds h)))
noncomputable def c79 : Box CodeT := ⟨seqC ⟨r79_0⟩ ⟨seqC ⟨r79_1⟩ ⟨r79_2⟩⟩⟩
noncomputable def q79 : Box (T Value → H → Option (List Value)) := ⟨fun tm h => some []⟩

/-! 80 internal/strconv.FormatUint -/
noncomputable def r80_0 : CodeT := fun call _ tm ds h K =>
  K .norm (T.set tm 4 (.string (strB []))) ds h
noncomputable def r80_1 : CodeT := fun call _ tm ds h K =>
  kO (binV Tryd.prog .eql 3 true (tg tm 1) (.int .i64 (10))) ds h (fun v1 ds h =>
  K .norm (T.set tm 10 v1) ds h)
noncomputable def r80_2 : CodeT := fun call _ tm ds h K =>
  kO (binV Tryd.prog .lss 23 true (tg tm 0) (.int .u64 (100))) ds h (fun v1 ds h =>
  K .norm (T.set tm 12 v1) ds h)
noncomputable def r80_3 : CodeT := fun call _ tm ds h K =>
  kO (toInt .i64 (tg tm 0)) ds h (fun v1 ds h =>
  call 87 [v1] h (fun v h => (fun v2 ds h =>
  K .norm (T.set tm 4 v2) ds h) v ds h))
noncomputable def r80_4 : CodeT := fun call _ tm ds h K =>
  kA (some (.rw [(.int .u8 (0)), (.int .u8 (0)), (.int .u8 (0)), (.int .u8 (0)), (.int .u8 (0)), (.int .u8 (0)), (.int .u8 (0)), (.int .u8 (0)), (.int .u8 (0)), (.int .u8 (0)), (.int .u8 (0)), (.int .u8 (0)), (.int .u8 (0)), (.int .u8 (0)), (.int .u8 (0)), (.int .u8 (0)), (.int .u8 (0)), (.int .u8 (0)), (.int .u8 (0)), (.int .u8 (0)), (.int .u8 (0)), (.int .u8 (0)), (.int .u8 (0)), (.int .u8 (0))] (some 120), ptrTo h.next)) ds h (fun v0 ds h =>
  K .norm (T.set tm 5 v0) ds h)
noncomputable def r80_5 : CodeT := fun call _ tm ds h K =>
  call 88 [(tg tm 0)] h (fun v h => (fun v1 ds h =>
  K .norm (T.set tm 6 v1) ds h) v ds h)
noncomputable def r80_6 : CodeT := fun call _ tm ds h K =>
  kO (sliceArr 1 24 (tg tm 5) none (some (tg tm 6)) none) ds h (fun v1 ds h =>
  call 89 [v1, (tg tm 0)] h (fun v h => (fun v3 ds h =>
  K .norm tm ds h) v ds h))
noncomputable def r80_7 : CodeT := fun call _ tm ds h K =>
  kO (sliceArr 1 24 (tg tm 5) none (some (tg tm 6)) none) ds h (fun v1 ds h =>
  kO (bytesStr h v1) ds h (fun v2 ds h =>
  K .norm (T.set tm 4 v2) ds h))
noncomputable def r80_8 : CodeT := fun call _ tm ds h K =>
  call 90 [(.slice none 0 0), (tg tm 0), (tg tm 1), (.bool false), (.bool false)] h (fun v h => (fun v2 ds h =>
  kO (tupNth 0 v2) ds h (fun v4 ds h =>
  kO (tupNth 1 v2) ds h (fun v5 ds h =>
  K .norm (T.set tm 8 v5) ds h))) v ds h)
noncomputable def r80_9 : CodeT := fun call _ tm ds h K =>
  K .norm (T.set tm 4 (tg tm 8)) ds h
noncomputable def c80 : Box CodeT := ⟨seqC ⟨r80_0⟩ ⟨seqC ⟨seqC ⟨r80_1⟩ ⟨condC ⟨fun _ tm => tg tm 10⟩ ⟨seqC ⟨seqC ⟨r80_2⟩ ⟨condC ⟨fun _ tm => tg tm 12⟩ ⟨seqC ⟨r80_3⟩ retC⟩ skipC⟩⟩ ⟨seqC ⟨r80_4⟩ ⟨seqC ⟨r80_5⟩ ⟨seqC ⟨r80_6⟩ ⟨seqC ⟨r80_7⟩ retC⟩⟩⟩⟩⟩ skipC⟩⟩ ⟨seqC ⟨r80_8⟩ ⟨seqC ⟨r80_9⟩ retC⟩⟩⟩⟩
noncomputable def q80 : Box (T Value → H → Option (List Value)) := ⟨fun tm h => some [tg tm 4]⟩

/-! 84 internal/stringslite.Index -/
noncomputable def r84_0 : CodeT := fun call _ tm ds h K =>
  K .norm (T.set tm 4 (.int .i64 (0))) ds h
noncomputable def r84_1 : CodeT := fun call _ tm ds h K =>
  kO (lenStr (tg tm 1)) ds h (fun v1 ds h =>
  K .norm (T.set tm 5 v1) ds h)
noncomputable def r84_2 : CodeT := fun call _ tm ds h K => (⟨opStep ⟨fun call env tm ds h K => kO (some (tg tm 5)) ds h K⟩ ⟨fun v tm => tm⟩ ⟨fun env tm => true⟩
  ⟨opStep ⟨fun call env tm ds h K => kO (binV Tryd.prog .eql 3 true (nthD 0 env) (.int .i64 (0))) ds h K⟩ ⟨fun v tm => tm⟩ ⟨fun env tm => true⟩
  ⟨opStep ⟨fun call env tm ds h K => kO (some (nthD 0 env)) ds h K⟩ ⟨fun v tm => tm⟩ ⟨fun env tm => true⟩
  ⟨opStep ⟨fun call env tm ds h K => kO (some (tg tm 1)) ds h K⟩ ⟨fun v tm => tm⟩ ⟨fun env tm => isB false (nthD 0 env)⟩
  ⟨opStep ⟨fun call env tm ds h K => kO (some (tg tm 0)) ds h K⟩ ⟨fun v tm => tm⟩ ⟨fun env tm => isB false (nthD 1 env)⟩
  ⟨opStep ⟨fun call env tm ds h K => kO (binV Tryd.prog .eql 9 false (nthD 1 env) (nthD 0 env)) ds h K⟩ ⟨fun v tm => tm⟩ ⟨fun env tm => isB false (nthD 2 env)⟩
  ⟨opStep ⟨fun call env tm ds h K => kO (pickV (nthD 3 env) (.bool true) (nthD 0 env)) ds h K⟩ ⟨fun v tm => tm⟩ ⟨fun env tm => true⟩
  ⟨opStep ⟨fun call env tm ds h K => kO (some (nthD 0 env)) ds h K⟩ ⟨fun v tm => (T.set tm 16 v)⟩ ⟨fun env tm => true⟩
  ⟨fun _ _ tm ds h K => K .norm tm ds h⟩⟩⟩⟩⟩⟩⟩⟩⟩ : Box OpsT).f call [] tm ds h K
noncomputable def r84_3 : CodeT := fun call _ tm ds h K =>
  K .norm (T.set tm 4 (.int .i64 (0))) ds h
noncomputable def r84_4 : CodeT := fun call _ tm ds h K =>
  kO (binV Tryd.prog .eql 3 true (tg tm 5) (.int .i64 (1))) ds h (fun v1 ds h =>
  K .norm (T.set tm 24 v1) ds h)
noncomputable def r84_5 : CodeT := fun call _ tm ds h K =>
  kO (indexStr (tg tm 1) (.int .i64 (0))) ds h (fun v2 ds h =>
  call 92 [(tg tm 0), v2] h (fun v h => (fun v3 ds h =>
  K .norm (T.set tm 4 v3) ds h) v ds h))
noncomputable def r84_6 : CodeT := fun call _ tm ds h K =>
  kO (lenStr (tg tm 0)) ds h (fun v2 ds h =>
  kO (binV Tryd.prog .geq 3 false (tg tm 5) v2) ds h (fun v3 ds h =>
  K .norm (T.set tm 31 v3) ds h))
noncomputable def r84_7 : CodeT := fun call _ tm ds h K =>
  K .norm (T.set tm 4 (.int .i64 (-1))) ds h
noncomputable def r84_8 : CodeT := fun call _ tm ds h K => (⟨opStep ⟨fun call env tm ds h K => kO (some (tg tm 5)) ds h K⟩ ⟨fun v tm => tm⟩ ⟨fun env tm => true⟩
  ⟨opStep ⟨fun call env tm ds h K => kO (loadOne h (.pointer (some ⟨0, 0, none⟩))) ds h K⟩ ⟨fun v tm => tm⟩ ⟨fun env tm => true⟩
  ⟨opStep ⟨fun call env tm ds h K => kO (binV Tryd.prog .leq 3 false (nthD 1 env) (nthD 0 env)) ds h K⟩ ⟨fun v tm => tm⟩ ⟨fun env tm => true⟩
  ⟨opStep ⟨fun call env tm ds h K => kO (some (nthD 0 env)) ds h K⟩ ⟨fun v tm => tm⟩ ⟨fun env tm => true⟩
  ⟨opStep ⟨fun call env tm ds h K => kO (some (tg tm 0)) ds h K⟩ ⟨fun v tm => tm⟩ ⟨fun env tm => isB true (nthD 0 env)⟩
  ⟨opStep ⟨fun call env tm ds h K => kO (lenStr (nthD 0 env)) ds h K⟩ ⟨fun v tm => tm⟩ ⟨fun env tm => isB true (nthD 1 env)⟩
  ⟨opStep ⟨fun call env tm ds h K => kO (binV Tryd.prog .leq 3 true (nthD 0 env) (.int .i64 (64))) ds h K⟩ ⟨fun v tm => tm⟩ ⟨fun env tm => isB true (nthD 2 env)⟩
  ⟨opStep ⟨fun call env tm ds h K => kO (pickV (nthD 3 env) (nthD 0 env) (.bool false)) ds h K⟩ ⟨fun v tm => tm⟩ ⟨fun env tm => true⟩
  ⟨opStep ⟨fun call env tm ds h K => kO (some (nthD 0 env)) ds h K⟩ ⟨fun v tm => (T.set tm 36 v)⟩ ⟨fun env tm => true⟩
  ⟨fun _ _ tm ds h K => K .norm tm ds h⟩⟩⟩⟩⟩⟩⟩⟩⟩⟩ : Box OpsT).f call [] tm ds h K
noncomputable def r84_9 : CodeT := fun call _ tm ds h K =>
  call 93 [(tg tm 0), (tg tm 1)] h (fun v h => (fun v2 ds h =>
  K .norm (T.set tm 4 v2) ds h) v ds h)
noncomputable def r84_10 : CodeT := fun call _ tm ds h K =>
  kO (indexStr (tg tm 1) (.int .i64 (0))) ds h (fun v1 ds h =>
  K .norm (T.set tm 6 v1) ds h)
noncomputable def r84_11 : CodeT := fun call _ tm ds h K =>
  kO (indexStr (tg tm 1) (.int .i64 (1))) ds h (fun v1 ds h =>
  K .norm (T.set tm 7 v1) ds h)
noncomputable def r84_12 : CodeT := fun call _ tm ds h K =>
  K .norm (T.set tm 8 (.int .i64 (0))) ds h
noncomputable def r84_13 : CodeT := fun call _ tm ds h K =>
  kO (lenStr (tg tm 0)) ds h (fun v1 ds h =>
  kO (binV Tryd.prog .sub 3 false v1 (tg tm 5)) ds h (fun v3 ds h =>
  kO (binV Tryd.prog .add 3 true v3 (.int .i64 (1))) ds h (fun v4 ds h =>
  K .norm (T.set tm 9 v4) ds h)))
noncomputable def r84_14 : CodeT := fun call _ tm ds h K =>
  K .norm (T.set tm 10 (.int .i64 (0))) ds h
noncomputable def r84_15 : CodeT := fun call _ tm ds h K =>
  kO (binV Tryd.prog .lss 3 false (tg tm 8) (tg tm 9)) ds h (fun v2 ds h =>
  K .norm (T.set tm 59 v2) ds h)
noncomputable def r84_16 : CodeT := fun call _ tm ds h K =>
  kO (indexStr (tg tm 0) (tg tm 8)) ds h (fun v2 ds h =>
  kO (binV Tryd.prog .neq 5 false v2 (tg tm 6)) ds h (fun v4 ds h =>
  K .norm (T.set tm 64 v4) ds h))
noncomputable def r84_17 : CodeT := fun call _ tm ds h K =>
  kO (binV Tryd.prog .add 3 true (tg tm 8) (.int .i64 (1))) ds h (fun v2 ds h =>
  kO (sliceStr (tg tm 0) (some v2) (some (tg tm 9)) none) ds h (fun v4 ds h =>
  call 92 [v4, (tg tm 6)] h (fun v h => (fun v6 ds h =>
  K .norm (T.set tm 11 v6) ds h) v ds h)))
noncomputable def r84_18 : CodeT := fun call _ tm ds h K =>
  kO (binV Tryd.prog .lss 3 true (tg tm 11) (.int .i64 (0))) ds h (fun v1 ds h =>
  K .norm (T.set tm 73 v1) ds h)
noncomputable def r84_19 : CodeT := fun call _ tm ds h K =>
  K .norm (T.set tm 4 (.int .i64 (-1))) ds h
noncomputable def r84_20 : CodeT := fun call _ tm ds h K =>
  kO (binV Tryd.prog .add 3 true (tg tm 11) (.int .i64 (1))) ds h (fun v2 ds h =>
  kO (binV Tryd.prog .add 3 false (tg tm 8) v2) ds h (fun v3 ds h =>
  K .norm (T.set tm 8 v3) ds h))
noncomputable def r84_21 : CodeT := fun call _ tm ds h K => (⟨opStep ⟨fun call env tm ds h K => kO (some (tg tm 0)) ds h K⟩ ⟨fun v tm => tm⟩ ⟨fun env tm => true⟩
  ⟨opStep ⟨fun call env tm ds h K => kO (some (tg tm 8)) ds h K⟩ ⟨fun v tm => tm⟩ ⟨fun env tm => true⟩
  ⟨opStep ⟨fun call env tm ds h K => kO (binV Tryd.prog .add 3 true (nthD 0 env) (.int .i64 (1))) ds h K⟩ ⟨fun v tm => tm⟩ ⟨fun env tm => true⟩
  ⟨opStep ⟨fun call env tm ds h K => kO (indexStr (nthD 2 env) (nthD 0 env)) ds h K⟩ ⟨fun v tm => tm⟩ ⟨fun env tm => true⟩
  ⟨opStep ⟨fun call env tm ds h K => kO (some (tg tm 7)) ds h K⟩ ⟨fun v tm => tm⟩ ⟨fun env tm => true⟩
  ⟨opStep ⟨fun call env tm ds h K => kO (binV Tryd.prog .eql 5 false (nthD 1 env) (nthD 0 env)) ds h K⟩ ⟨fun v tm => tm⟩ ⟨fun env tm => true⟩
  ⟨opStep ⟨fun call env tm ds h K => kO (some (nthD 0 env)) ds h K⟩ ⟨fun v tm => tm⟩ ⟨fun env tm => true⟩
  ⟨opStep ⟨fun call env tm ds h K => kO (some (tg tm 0)) ds h K⟩ ⟨fun v tm => tm⟩ ⟨fun env tm => isB true (nthD 0 env)⟩
  ⟨opStep ⟨fun call env tm ds h K => kO (some (tg tm 8)) ds h K⟩ ⟨fun v tm => tm⟩ ⟨fun env tm => isB true (nthD 1 env)⟩
  ⟨opStep ⟨fun call env tm ds h K => kO (some (tg tm 8)) ds h K⟩ ⟨fun v tm => tm⟩ ⟨fun env tm => isB true (nthD 2 env)⟩
  ⟨opStep ⟨fun call env tm ds h K => kO (some (tg tm 5)) ds h K⟩ ⟨fun v tm => tm⟩ ⟨fun env tm => isB true (nthD 3 env)⟩
  ⟨opStep ⟨fun call env tm ds h K => kO (binV Tryd.prog .add 3 false (nthD 1 env) (nthD 0 env)) ds h K⟩ ⟨fun v tm => tm⟩ ⟨fun env tm => isB true (nthD 4 env)⟩
  ⟨opStep ⟨fun call env tm ds h K => kO (sliceStr (nthD 4 env) (some (nthD 3 env)) (some (nthD 0 env)) none) ds h K⟩ ⟨fun v tm => tm⟩ ⟨fun env tm => isB true (nthD 5 env)⟩
  ⟨opStep ⟨fun call env tm ds h K => kO (some (tg tm 1)) ds h K⟩ ⟨fun v tm => tm⟩ ⟨fun env tm => isB true (nthD 6 env)⟩
  ⟨opStep ⟨fun call env tm ds h K => kO (binV Tryd.prog .eql 9 false (nthD 1 env) (nthD 0 env)) ds h K⟩ ⟨fun v tm => tm⟩ ⟨fun env tm => isB true (nthD 7 env)⟩
  ⟨opStep ⟨fun call env tm ds h K => kO (pickV (nthD 8 env) (nthD 0 env) (.bool false)) ds h K⟩ ⟨fun v tm => (T.set tm 93 v)⟩ ⟨fun env tm => true⟩
  ⟨fun _ _ tm ds h K => K .norm tm ds h⟩⟩⟩⟩⟩⟩⟩⟩⟩⟩⟩⟩⟩⟩⟩⟩⟩ : Box OpsT).f call [] tm ds h K
noncomputable def r84_22 : CodeT := fun call _ tm ds h K =>
  K .norm (T.set tm 4 (tg tm 8)) ds h
noncomputable def r84_23 : CodeT := fun call _ tm ds h K =>
  kO (binV Tryd.prog .add 3 true (tg tm 8) (.int .i64 (1))) ds h (fun v1 ds h =>
  K .norm (T.set tm 8 v1) ds h)
noncomputable def r84_24 : CodeT := fun call _ tm ds h K =>
  kO (binV Tryd.prog .add 3 true (tg tm 10) (.int .i64 (1))) ds h (fun v1 ds h =>
  K .norm (T.set tm 10 v1) ds h)
noncomputable def r84_25 : CodeT := fun call _ tm ds h K => (⟨opStep ⟨fun call env tm ds h K => kO (some (tg tm 5)) ds h K⟩ ⟨fun v tm => tm⟩ ⟨fun env tm => true⟩
  ⟨opStep ⟨fun call env tm ds h K => kO (loadOne h (.pointer (some ⟨0, 0, none⟩))) ds h K⟩ ⟨fun v tm => tm⟩ ⟨fun env tm => true⟩
  ⟨opStep ⟨fun call env tm ds h K => kO (binV Tryd.prog .leq 3 false (nthD 1 env) (nthD 0 env)) ds h K⟩ ⟨fun v tm => tm⟩ ⟨fun env tm => true⟩
  ⟨opStep ⟨fun call env tm ds h K => kO (some (nthD 0 env)) ds h K⟩ ⟨fun v tm => tm⟩ ⟨fun env tm => true⟩
  ⟨opStep ⟨fun call env tm ds h K => kO (some (tg tm 10)) ds h K⟩ ⟨fun v tm => tm⟩ ⟨fun env tm => isB true (nthD 0 env)⟩
  ⟨opStep ⟨fun call env tm ds h K => kO (some (tg tm 8)) ds h K⟩ ⟨fun v tm => tm⟩ ⟨fun env tm => isB true (nthD 1 env)⟩
  ⟨opStep ⟨fun call env tm ds h K => call 59 [(nthD 0 env)] h (fun v h => (K) v ds h)⟩ ⟨fun v tm => tm⟩ ⟨fun env tm => isB true (nthD 2 env)⟩
  ⟨opStep ⟨fun call env tm ds h K => kO (binV Tryd.prog .gtr 3 false (nthD 2 env) (nthD 0 env)) ds h K⟩ ⟨fun v tm => tm⟩ ⟨fun env tm => isB true (nthD 3 env)⟩
  ⟨opStep ⟨fun call env tm ds h K => kO (pickV (nthD 4 env) (nthD 0 env) (.bool false)) ds h K⟩ ⟨fun v tm => (T.set tm 107 v)⟩ ⟨fun env tm => true⟩
  ⟨fun _ _ tm ds h K => K .norm tm ds h⟩⟩⟩⟩⟩⟩⟩⟩⟩⟩ : Box OpsT).f call [] tm ds h K
noncomputable def r84_26 : CodeT := fun call _ tm ds h K =>
  kO (sliceStr (tg tm 0) (some (tg tm 8)) none none) ds h (fun v2 ds h =>
  call 93 [v2, (tg tm 1)] h (fun v h => (fun v4 ds h =>
  K .norm (T.set tm 12 v4) ds h) v ds h))
noncomputable def r84_27 : CodeT := fun call _ tm ds h K =>
  kO (binV Tryd.prog .geq 3 true (tg tm 12) (.int .i64 (0))) ds h (fun v1 ds h =>
  K .norm (T.set tm 114 v1) ds h)
noncomputable def r84_28 : CodeT := fun call _ tm ds h K =>
  kO (binV Tryd.prog .add 3 false (tg tm 12) (tg tm 8)) ds h (fun v2 ds h =>
  K .norm (T.set tm 4 v2) ds h)
noncomputable def r84_29 : CodeT := fun call _ tm ds h K =>
  K .norm (T.set tm 4 (.int .i64 (-1))) ds h
noncomputable def r84_30 : CodeT := fun call _ tm ds h K => (⟨opStep ⟨fun call env tm ds h K => kO (some (tg tm 5)) ds h K⟩ ⟨fun v tm => tm⟩ ⟨fun env tm => true⟩
  ⟨opStep ⟨fun call env tm ds h K => kO (loadOne h (.pointer (some ⟨0, 0, none⟩))) ds h K⟩ ⟨fun v tm => tm⟩ ⟨fun env tm => true⟩
  ⟨opStep ⟨fun call env tm ds h K => kO (binV Tryd.prog .gtr 3 false (nthD 1 env) (nthD 0 env)) ds h K⟩ ⟨fun v tm => tm⟩ ⟨fun env tm => true⟩
  ⟨opStep ⟨fun call env tm ds h K => kO (some (nthD 0 env)) ds h K⟩ ⟨fun v tm => tm⟩ ⟨fun env tm => true⟩
  ⟨opStep ⟨fun call env tm ds h K => kO (some (tg tm 10)) ds h K⟩ ⟨fun v tm => tm⟩ ⟨fun env tm => isB true (nthD 0 env)⟩
  ⟨opStep ⟨fun call env tm ds h K => kO (some (tg tm 8)) ds h K⟩ ⟨fun v tm => tm⟩ ⟨fun env tm => isB true (nthD 1 env)⟩
  ⟨opStep ⟨fun call env tm ds h K => kO (binV Tryd.prog .shr 3 true (nthD 0 env) (.int .u64 (4))) ds h K⟩ ⟨fun v tm => tm⟩ ⟨fun env tm => isB true (nthD 2 env)⟩
  ⟨opStep ⟨fun call env tm ds h K => kO (binV Tryd.prog .add 3 true (.int .i64 (4)) (nthD 0 env)) ds h K⟩ ⟨fun v tm => tm⟩ ⟨fun env tm => isB true (nthD 3 env)⟩
  ⟨opStep ⟨fun call env tm ds h K => kO (binV Tryd.prog .geq 3 false (nthD 3 env) (nthD 0 env)) ds h K⟩ ⟨fun v tm => tm⟩ ⟨fun env tm => isB true (nthD 4 env)⟩
  ⟨opStep ⟨fun call env tm ds h K => kO (pickV (nthD 5 env) (nthD 0 env) (.bool false)) ds h K⟩ ⟨fun v tm => tm⟩ ⟨fun env tm => true⟩
  ⟨opStep ⟨fun call env tm ds h K => kO (some (nthD 0 env)) ds h K⟩ ⟨fun v tm => tm⟩ ⟨fun env tm => true⟩
  ⟨opStep ⟨fun call env tm ds h K => kO (some (tg tm 8)) ds h K⟩ ⟨fun v tm => tm⟩ ⟨fun env tm => isB true (nthD 0 env)⟩
  ⟨opStep ⟨fun call env tm ds h K => kO (some (tg tm 9)) ds h K⟩ ⟨fun v tm => tm⟩ ⟨fun env tm => isB true (nthD 1 env)⟩
  ⟨opStep ⟨fun call env tm ds h K => kO (binV Tryd.prog .lss 3 false (nthD 1 env) (nthD 0 env)) ds h K⟩ ⟨fun v tm => tm⟩ ⟨fun env tm => isB true (nthD 2 env)⟩
  ⟨opStep ⟨fun call env tm ds h K => kO (pickV (nthD 3 env) (nthD 0 env) (.bool false)) ds h K⟩ ⟨fun v tm => (T.set tm 132 v)⟩ ⟨fun env tm => true⟩
  ⟨fun _ _ tm ds h K => K .norm tm ds h⟩⟩⟩⟩⟩⟩⟩⟩⟩⟩⟩⟩⟩⟩⟩⟩ : Box OpsT).f call [] tm ds h K
noncomputable def r84_31 : CodeT := fun call _ tm ds h K =>
  kO (sliceStr (tg tm 0) (some (tg tm 8)) none none) ds h (fun v2 ds h =>
  call 94 [v2, (tg tm 1)] h (fun v h => (fun v4 ds h =>
  K .norm (T.set tm 13 v4) ds h) v ds h))
noncomputable def r84_32 : CodeT := fun call _ tm ds h K =>
  kO (binV Tryd.prog .lss 3 true (tg tm 13) (.int .i64 (0))) ds h (fun v1 ds h =>
  K .norm (T.set tm 139 v1) ds h)
noncomputable def r84_33 : CodeT := fun call _ tm ds h K =>
  K .norm (T.set tm 4 (.int .i64 (-1))) ds h
noncomputable def r84_34 : CodeT := fun call _ tm ds h K =>
  kO (binV Tryd.prog .add 3 false (tg tm 8) (tg tm 13)) ds h (fun v2 ds h =>
  K .norm (T.set tm 4 v2) ds h)
noncomputable def l84_35 : Box CodeT := ⟨seqC ⟨seqC ⟨r84_15⟩ ⟨condC ⟨fun _ tm => tg tm 59⟩ skipC (exitC 1)⟩⟩ ⟨blockC 2 ⟨seqC ⟨seqC ⟨r84_16⟩ ⟨condC ⟨fun _ tm => tg tm 64⟩ ⟨seqC ⟨r84_17⟩ ⟨seqC ⟨seqC ⟨r84_18⟩ ⟨condC ⟨fun _ tm => tg tm 73⟩ ⟨seqC ⟨r84_19⟩ retC⟩ skipC⟩⟩ ⟨r84_20⟩⟩⟩ skipC⟩⟩ ⟨seqC ⟨seqC ⟨r84_21⟩ ⟨condC ⟨fun _ tm => tg tm 93⟩ ⟨seqC ⟨r84_22⟩ retC⟩ skipC⟩⟩ ⟨seqC ⟨r84_23⟩ ⟨seqC ⟨r84_24⟩ ⟨seqC ⟨r84_25⟩ ⟨condC ⟨fun _ tm => tg tm 107⟩ ⟨seqC ⟨r84_26⟩ ⟨seqC ⟨seqC ⟨r84_27⟩ ⟨condC ⟨fun _ tm => tg tm 114⟩ ⟨seqC ⟨r84_28⟩ retC⟩ skipC⟩⟩ ⟨seqC ⟨r84_29⟩ retC⟩⟩⟩ ⟨seqC ⟨r84_30⟩ ⟨condC ⟨fun _ tm => tg tm 132⟩ ⟨seqC ⟨r84_31⟩ ⟨seqC ⟨seqC ⟨r84_32⟩ ⟨condC ⟨fun _ tm => tg tm 139⟩ ⟨seqC ⟨r84_33⟩ retC⟩ skipC⟩⟩ ⟨seqC ⟨r84_34⟩ retC⟩⟩⟩ skipC⟩⟩⟩⟩⟩⟩⟩⟩⟩⟩
noncomputable def r84_35 : CodeT := fun call _ tm ds h K =>
  K .norm (T.set tm 4 (.int .i64 (-1))) ds h
noncomputable def c84 : Box CodeT := ⟨seqC ⟨r84_0⟩ ⟨seqC ⟨r84_1⟩ ⟨seqC ⟨blockC 0 ⟨seqC ⟨r84_2⟩ ⟨condC ⟨fun _ tm => tg tm 16⟩ ⟨seqC ⟨r84_3⟩ retC⟩ ⟨seqC ⟨r84_4⟩ ⟨condC ⟨fun _ tm => tg tm 24⟩ ⟨seqC ⟨r84_5⟩ retC⟩ ⟨seqC ⟨r84_6⟩ ⟨condC ⟨fun _ tm => tg tm 31⟩ ⟨seqC ⟨r84_7⟩ retC⟩ ⟨seqC ⟨r84_8⟩ ⟨condC ⟨fun _ tm => tg tm 36⟩ ⟨seqC ⟨r84_9⟩ retC⟩ skipC⟩⟩⟩⟩⟩⟩⟩⟩⟩ ⟨seqC ⟨r84_10⟩ ⟨seqC ⟨r84_11⟩ ⟨seqC ⟨r84_12⟩ ⟨seqC ⟨r84_13⟩ ⟨seqC ⟨r84_14⟩ ⟨seqC ⟨blockC 1 (loopB l84_35)⟩ ⟨seqC ⟨r84_35⟩ retC⟩⟩⟩⟩⟩⟩⟩⟩⟩⟩
noncomputable def q84 : Box (T Value → H → Option (List Value)) := ⟨fun tm h => some [tg tm 4]⟩

/-! 85 strconv.ParseUint -/
noncomputable def r85_0 : CodeT := fun call _ tm ds h K =>
  K .norm (T.set (T.set tm 6 (.int .u64 (0))) 7 .nilIface) ds h
noncomputable def r85_1 : CodeT := fun call _ tm ds h K =>
  call 95 [(tg tm 0), (tg tm 1), (tg tm 2)] h (fun v h => (fun v3 ds h =>
  kO (tupNth 0 v3) ds h (fun v5 ds h =>
  kO (tupNth 1 v3) ds h (fun v6 ds h =>
  K .norm (T.set (T.set tm 8 v5) 9 v6) ds h))) v ds h)
noncomputable def r85_2 : CodeT := fun call _ tm ds h K =>
  kO (binV Tryd.prog .neq 76 true (tg tm 9) .nilIface) ds h (fun v1 ds h =>
  K .norm (T.set tm 18 v1) ds h)
noncomputable def r85_3 : CodeT := fun call _ tm ds h K =>
  call 96 [(.string (strB [80, 97, 114, 115, 101, 85, 105, 110, 116])), (tg tm 0), (tg tm 1), (tg tm 2), (tg tm 9)] h (fun v h => (fun v5 ds h =>
  K .norm (T.set (T.set tm 6 (tg tm 8)) 7 v5) ds h) v ds h)
noncomputable def r85_4 : CodeT := fun call _ tm ds h K =>
  K .norm (T.set (T.set tm 6 (tg tm 8)) 7 .nilIface) ds h
noncomputable def c85 : Box CodeT := ⟨seqC ⟨r85_0⟩ ⟨seqC ⟨r85_1⟩ ⟨seqC ⟨seqC ⟨r85_2⟩ ⟨condC ⟨fun _ tm => tg tm 18⟩ ⟨seqC ⟨r85_3⟩ retC⟩ skipC⟩⟩ ⟨seqC ⟨r85_4⟩ retC⟩⟩⟩⟩
noncomputable def q85 : Box (T Value → H → Option (List Value)) := ⟨fun tm h => some [tg tm 6, tg tm 7]⟩

/-! 87 internal/strconv.small -/
noncomputable def r87_0 : CodeT := fun call _ tm ds h K =>
  K .norm (T.set tm 2 (.string (strB []))) ds h
noncomputable def r87_1 : CodeT := fun call _ tm ds h K =>
  kO (binV Tryd.prog .lss 3 true (tg tm 0) (.int .i64 (10))) ds h (fun v1 ds h =>
  K .norm (T.set tm 4 v1) ds h)
noncomputable def r87_2 : CodeT := fun call _ tm ds h K =>
  kO (binV Tryd.prog .add 3 true (tg tm 0) (.int .i64 (1))) ds h (fun v2 ds h =>
  kO (sliceStr (.string (strB [48, 49, 50, 51, 52, 53, 54, 55, 56, 57, 97, 98, 99, 100, 101, 102, 103, 104, 105, 106, 107, 108, 109, 110, 111, 112, 113, 114, 115, 116, 117, 118, 119, 120, 121, 122])) (some (tg tm 0)) (some v2) none) ds h (fun v3 ds h =>
  K .norm (T.set tm 2 v3) ds h))
noncomputable def r87_3 : CodeT := fun call _ tm ds h K =>
  kO (binV Tryd.prog .mul 3 true (tg tm 0) (.int .i64 (2))) ds h (fun v1 ds h =>
  kO (binV Tryd.prog .mul 3 true (tg tm 0) (.int .i64 (2))) ds h (fun v3 ds h =>
  kO (binV Tryd.prog .add 3 true v3 (.int .i64 (2))) ds h (fun v4 ds h =>
  kO (sliceStr SM (some v1) (some v4) none) ds h (fun v5 ds h =>
  K .norm (T.set tm 2 v5) ds h))))
noncomputable def c87 : Box CodeT := ⟨seqC ⟨r87_0⟩ ⟨seqC ⟨seqC ⟨r87_1⟩ ⟨condC ⟨fun _ tm => tg tm 4⟩ ⟨seqC ⟨r87_2⟩ retC⟩ skipC⟩⟩ ⟨seqC ⟨r87_3⟩ retC⟩⟩⟩
noncomputable def q87 : Box (T Value → H → Option (List Value)) := ⟨fun tm h => some [tg tm 2]⟩

/-! 88 internal/strconv.numDigits -/
noncomputable def r88_0 : CodeT := fun call _ tm ds h K =>
  K .norm (T.set tm 2 (.int .i64 (0))) ds h
noncomputable def r88_1 : CodeT := fun call _ tm ds h K =>
  call 98 [(tg tm 0)] h (fun v h => (fun v1 ds h =>
  call 97 [v1] h (fun v h => (fun v2 ds h =>
  K .norm (T.set tm 3 v2) ds h) v ds h)) v ds h)
noncomputable def r88_2 : CodeT := fun call _ tm ds h K =>
  kO (indexArr 1 20 (.pointer (some ⟨1, 0, none⟩)) (tg tm 3)) ds h (fun v3 ds h =>
  kO (loadOne h v3) ds h (fun v4 ds h =>
  kO (binV Tryd.prog .geq 23 false (tg tm 0) v4) ds h (fun v5 ds h =>
  call 99 [v5] h (fun v h => (fun v6 ds h =>
  kO (binV Tryd.prog .add 3 false (tg tm 3) v6) ds h (fun v7 ds h =>
  K .norm (T.set tm 2 v7) ds h)) v ds h))))
noncomputable def c88 : Box CodeT := ⟨seqC ⟨r88_0⟩ ⟨seqC ⟨r88_1⟩ ⟨seqC ⟨r88_2⟩ retC⟩⟩⟩
noncomputable def q88 : Box (T Value → H → Option (List Value)) := ⟨fun tm h => some [tg tm 2]⟩

/-! 89 internal/strconv.formatBase10 -/
noncomputable def r89_0 : CodeT := fun call _ tm ds h K =>
  kO (lenSl (tg tm 0)) ds h (fun v1 ds h =>
  K .norm (T.set tm 4 v1) ds h)
noncomputable def r89_1 : CodeT := fun call _ tm ds h K =>
  kO (binV Tryd.prog .geq 3 true (tg tm 4) (.int .i64 (8))) ds h (fun v1 ds h =>
  K .norm (T.set tm 20 v1) ds h)
noncomputable def r89_2 : CodeT := fun call _ tm ds h K =>
  kO (binV Tryd.prog .rem 23 true (tg tm 1) (.int .u64 (100000000))) ds h (fun v1 ds h =>
  kO (toInt .u32 v1) ds h (fun v2 ds h =>
  K .norm (T.set tm 5 v2) ds h))
noncomputable def r89_3 : CodeT := fun call _ tm ds h K =>
  kO (binV Tryd.prog .quo 23 true (tg tm 1) (.int .u64 (100000000))) ds h (fun v1 ds h =>
  K .norm (T.set tm 1 v1) ds h)
noncomputable def r89_4 : CodeT := fun call _ tm ds h K =>
  kO (binV Tryd.prog .quo 46 true (tg tm 5) (.int .u32 (10000))) ds h (fun v1 ds h =>
  kO (binV Tryd.prog .rem 46 true (tg tm 5) (.int .u32 (10000))) ds h (fun v3 ds h =>
  K .norm (T.set (T.set tm 6 v1) 7 v3) ds h))
noncomputable def r89_5 : CodeT := fun call _ tm ds h K =>
  kO (binV Tryd.prog .quo 46 true (tg tm 7) (.int .u32 (100))) ds h (fun v1 ds h =>
  kO (binV Tryd.prog .mul 46 true v1 (.int .u32 (2))) ds h (fun v2 ds h =>
  kO (binV Tryd.prog .rem 46 true (tg tm 7) (.int .u32 (100))) ds h (fun v4 ds h =>
  kO (binV Tryd.prog .mul 46 true v4 (.int .u32 (2))) ds h (fun v5 ds h =>
  K .norm (T.set (T.set tm 8 v2) 9 v5) ds h))))
noncomputable def r89_6 : CodeT := fun call _ tm ds h K =>
  kO (binV Tryd.prog .quo 46 true (tg tm 6) (.int .u32 (100))) ds h (fun v1 ds h =>
  kO (binV Tryd.prog .mul 46 true v1 (.int .u32 (2))) ds h (fun v2 ds h =>
  kO (binV Tryd.prog .rem 46 true (tg tm 6) (.int .u32 (100))) ds h (fun v4 ds h =>
  kO (binV Tryd.prog .mul 46 true v4 (.int .u32 (2))) ds h (fun v5 ds h =>
  K .norm (T.set (T.set tm 10 v2) 11 v5) ds h))))
noncomputable def r89_7 : CodeT := fun call _ tm ds h0 K =>
  (fun (b0 : Nat) (h : H) =>
  kO (binV Tryd.prog .sub 3 true (tg tm 4) (.int .i64 (1))) ds h (fun v2 ds h =>
  kO (binV Tryd.prog .sub 3 true (tg tm 4) (.int .i64 (2))) ds h (fun v5 ds h =>
  kO (binV Tryd.prog .add 46 true (tg tm 9) (.int .u32 (1))) ds h (fun v7 ds h =>
  kO (indexStr SM v7) ds h (fun v8 ds h =>
  kO (indexStr SM (tg tm 9)) ds h (fun v10 ds h =>
  kO (indexSl 1 (tg tm 0) v2) ds h (fun v11 ds h =>
  kH (withV undef (storeV 1 h v11 v8)) ds (fun v12 ds h =>
  kO (indexSl 1 (tg tm 0) v5) ds h (fun v13 ds h =>
  kH (withV undef (storeV 1 h v13 v10)) ds (fun v14 ds h =>
  K .norm tm ds h)))))))))) h0.next ⟨h0.objs, h0.next + 15⟩
noncomputable def r89_8 : CodeT := fun call _ tm ds h0 K =>
  (fun (b0 : Nat) (h : H) =>
  kO (binV Tryd.prog .sub 3 true (tg tm 4) (.int .i64 (3))) ds h (fun v2 ds h =>
  kO (binV Tryd.prog .sub 3 true (tg tm 4) (.int .i64 (4))) ds h (fun v5 ds h =>
  kO (binV Tryd.prog .add 46 true (tg tm 8) (.int .u32 (1))) ds h (fun v7 ds h =>
  kO (indexStr SM v7) ds h (fun v8 ds h =>
  kO (indexStr SM (tg tm 8)) ds h (fun v10 ds h =>
  kO (indexSl 1 (tg tm 0) v2) ds h (fun v11 ds h =>
  kH (withV undef (storeV 1 h v11 v8)) ds (fun v12 ds h =>
  kO (indexSl 1 (tg tm 0) v5) ds h (fun v13 ds h =>
  kH (withV undef (storeV 1 h v13 v10)) ds (fun v14 ds h =>
  K .norm tm ds h)))))))))) h0.next ⟨h0.objs, h0.next + 15⟩
noncomputable def r89_9 : CodeT := fun call _ tm ds h0 K =>
  (fun (b0 : Nat) (h : H) =>
  kO (binV Tryd.prog .sub 3 true (tg tm 4) (.int .i64 (5))) ds h (fun v2 ds h =>
  kO (binV Tryd.prog .sub 3 true (tg tm 4) (.int .i64 (6))) ds h (fun v5 ds h =>
  kO (binV Tryd.prog .add 46 true (tg tm 11) (.int .u32 (1))) ds h (fun v7 ds h =>
  kO (indexStr SM v7) ds h (fun v8 ds h =>
  kO (indexStr SM (tg tm 11)) ds h (fun v10 ds h =>
  kO (indexSl 1 (tg tm 0) v2) ds h (fun v11 ds h =>
  kH (withV undef (storeV 1 h v11 v8)) ds (fun v12 ds h =>
  kO (indexSl 1 (tg tm 0) v5) ds h (fun v13 ds h =>
  kH (withV undef (storeV 1 h v13 v10)) ds (fun v14 ds h =>
  K .norm tm ds h)))))))))) h0.next ⟨h0.objs, h0.next + 15⟩
noncomputable def r89_10 : CodeT := fun call _ tm ds h0 K =>
  (fun (b0 : Nat) (h : H) =>
  kO (binV Tryd.prog .sub 3 true (tg tm 4) (.int .i64 (7))) ds h (fun v2 ds h =>
  kO (binV Tryd.prog .sub 3 true (tg tm 4) (.int .i64 (8))) ds h (fun v5 ds h =>
  kO (binV Tryd.prog .add 46 true (tg tm 10) (.int .u32 (1))) ds h (fun v7 ds h =>
  kO (indexStr SM v7) ds h (fun v8 ds h =>
  kO (indexStr SM (tg tm 10)) ds h (fun v10 ds h =>
  kO (indexSl 1 (tg tm 0) v2) ds h (fun v11 ds h =>
  kH (withV undef (storeV 1 h v11 v8)) ds (fun v12 ds h =>
  kO (indexSl 1 (tg tm 0) v5) ds h (fun v13 ds h =>
  kH (withV undef (storeV 1 h v13 v10)) ds (fun v14 ds h =>
  K .norm tm ds h)))))))))) h0.next ⟨h0.objs, h0.next + 15⟩
noncomputable def r89_11 : CodeT := fun call _ tm ds h K =>
  kO (binV Tryd.prog .sub 3 true (tg tm 4) (.int .i64 (8))) ds h (fun v1 ds h =>
  K .norm (T.set tm 4 v1) ds h)
noncomputable def l89_12 : Box CodeT := ⟨seqC ⟨seqC ⟨r89_1⟩ ⟨condC ⟨fun _ tm => tg tm 20⟩ skipC (exitC 0)⟩⟩ ⟨blockC 1 ⟨seqC ⟨r89_2⟩ ⟨seqC ⟨r89_3⟩ ⟨seqC ⟨r89_4⟩ ⟨seqC ⟨r89_5⟩ ⟨seqC ⟨r89_6⟩ ⟨seqC ⟨r89_7⟩ ⟨seqC ⟨r89_8⟩ ⟨seqC ⟨r89_9⟩ ⟨seqC ⟨r89_10⟩ ⟨r89_11⟩⟩⟩⟩⟩⟩⟩⟩⟩⟩⟩⟩
noncomputable def r89_12 : CodeT := fun call _ tm ds h K =>
  kO (toInt .u32 (tg tm 1)) ds h (fun v1 ds h =>
  K .norm (T.set tm 12 v1) ds h)
noncomputable def r89_13 : CodeT := fun call _ tm ds h K =>
  kO (binV Tryd.prog .geq 3 true (tg tm 4) (.int .i64 (4))) ds h (fun v1 ds h =>
  K .norm (T.set tm 99 v1) ds h)
noncomputable def r89_14 : CodeT := fun call _ tm ds h K =>
  kO (binV Tryd.prog .rem 46 true (tg tm 12) (.int .u32 (10000))) ds h (fun v1 ds h =>
  K .norm (T.set tm 13 v1) ds h)
noncomputable def r89_15 : CodeT := fun call _ tm ds h K =>
  kO (binV Tryd.prog .quo 46 true (tg tm 12) (.int .u32 (10000))) ds h (fun v1 ds h =>
  K .norm (T.set tm 12 v1) ds h)
noncomputable def r89_16 : CodeT := fun call _ tm ds h K =>
  kO (binV Tryd.prog .quo 46 true (tg tm 13) (.int .u32 (100))) ds h (fun v1 ds h =>
  kO (binV Tryd.prog .mul 46 true v1 (.int .u32 (2))) ds h (fun v2 ds h =>
  kO (binV Tryd.prog .rem 46 true (tg tm 13) (.int .u32 (100))) ds h (fun v4 ds h =>
  kO (binV Tryd.prog .mul 46 true v4 (.int .u32 (2))) ds h (fun v5 ds h =>
  K .norm (T.set (T.set tm 14 v2) 15 v5) ds h))))
noncomputable def r89_17 : CodeT := fun call _ tm ds h0 K =>
  (fun (b0 : Nat) (h : H) =>
  kO (binV Tryd.prog .sub 3 true (tg tm 4) (.int .i64 (1))) ds h (fun v2 ds h =>
  kO (binV Tryd.prog .sub 3 true (tg tm 4) (.int .i64 (2))) ds h (fun v5 ds h =>
  kO (binV Tryd.prog .add 46 true (tg tm 15) (.int .u32 (1))) ds h (fun v7 ds h =>
  kO (indexStr SM v7) ds h (fun v8 ds h =>
  kO (indexStr SM (tg tm 15)) ds h (fun v10 ds h =>
  kO (indexSl 1 (tg tm 0) v2) ds h (fun v11 ds h =>
  kH (withV undef (storeV 1 h v11 v8)) ds (fun v12 ds h =>
  kO (indexSl 1 (tg tm 0) v5) ds h (fun v13 ds h =>
  kH (withV undef (storeV 1 h v13 v10)) ds (fun v14 ds h =>
  K .norm tm ds h)))))))))) h0.next ⟨h0.objs, h0.next + 15⟩
noncomputable def r89_18 : CodeT := fun call _ tm ds h0 K =>
  (fun (b0 : Nat) (h : H) =>
  kO (binV Tryd.prog .sub 3 true (tg tm 4) (.int .i64 (3))) ds h (fun v2 ds h =>
  kO (binV Tryd.prog .sub 3 true (tg tm 4) (.int .i64 (4))) ds h (fun v5 ds h =>
  kO (binV Tryd.prog .add 46 true (tg tm 14) (.int .u32 (1))) ds h (fun v7 ds h =>
  kO (indexStr SM v7) ds h (fun v8 ds h =>
  kO (indexStr SM (tg tm 14)) ds h (fun v10 ds h =>
  kO (indexSl 1 (tg tm 0) v2) ds h (fun v11 ds h =>
  kH (withV undef (storeV 1 h v11 v8)) ds (fun v12 ds h =>
  kO (indexSl 1 (tg tm 0) v5) ds h (fun v13 ds h =>
  kH (withV undef (storeV 1 h v13 v10)) ds (fun v14 ds h =>
  K .norm tm ds h)))))))))) h0.next ⟨h0.objs, h0.next + 15⟩
noncomputable def r89_19 : CodeT := fun call _ tm ds h K =>
  kO (binV Tryd.prog .sub 3 true (tg tm 4) (.int .i64 (4))) ds h (fun v1 ds h =>
  K .norm (T.set tm 4 v1) ds h)
noncomputable def r89_20 : CodeT := fun call _ tm ds h K =>
  kO (binV Tryd.prog .geq 3 true (tg tm 4) (.int .i64 (2))) ds h (fun v1 ds h =>
  K .norm (T.set tm 139 v1) ds h)
noncomputable def r89_21 : CodeT := fun call _ tm ds h K =>
  kO (binV Tryd.prog .rem 46 true (tg tm 12) (.int .u32 (100))) ds h (fun v1 ds h =>
  kO (binV Tryd.prog .mul 46 true v1 (.int .u32 (2))) ds h (fun v2 ds h =>
  K .norm (T.set tm 16 v2) ds h))
noncomputable def r89_22 : CodeT := fun call _ tm ds h K =>
  kO (binV Tryd.prog .quo 46 true (tg tm 12) (.int .u32 (100))) ds h (fun v1 ds h =>
  K .norm (T.set tm 12 v1) ds h)
noncomputable def r89_23 : CodeT := fun call _ tm ds h0 K =>
  (fun (b0 : Nat) (h : H) =>
  kO (binV Tryd.prog .sub 3 true (tg tm 4) (.int .i64 (1))) ds h (fun v2 ds h =>
  kO (binV Tryd.prog .sub 3 true (tg tm 4) (.int .i64 (2))) ds h (fun v5 ds h =>
  kO (binV Tryd.prog .add 46 true (tg tm 16) (.int .u32 (1))) ds h (fun v7 ds h =>
  kO (indexStr SM v7) ds h (fun v8 ds h =>
  kO (indexStr SM (tg tm 16)) ds h (fun v10 ds h =>
  kO (indexSl 1 (tg tm 0) v2) ds h (fun v11 ds h =>
  kH (withV undef (storeV 1 h v11 v8)) ds (fun v12 ds h =>
  kO (indexSl 1 (tg tm 0) v5) ds h (fun v13 ds h =>
  kH (withV undef (storeV 1 h v13 v10)) ds (fun v14 ds h =>
  K .norm tm ds h)))))))))) h0.next ⟨h0.objs, h0.next + 15⟩
noncomputable def r89_24 : CodeT := fun call _ tm ds h K =>
  kO (binV Tryd.prog .sub 3 true (tg tm 4) (.int .i64 (2))) ds h (fun v1 ds h =>
  K .norm (T.set tm 4 v1) ds h)
noncomputable def r89_25 : CodeT := fun call _ tm ds h K =>
  kO (binV Tryd.prog .gtr 3 true (tg tm 4) (.int .i64 (0))) ds h (fun v1 ds h =>
  K .norm (T.set tm 161 v1) ds h)
noncomputable def r89_26 : CodeT := fun call _ tm ds h K =>
  kO (binV Tryd.prog .add 46 true (.int .u32 (48)) (tg tm 12)) ds h (fun v2 ds h =>
  kO (toInt .u8 v2) ds h (fun v3 ds h =>
  kO (indexSl 1 (tg tm 0) (.int .i64 (0))) ds h (fun v4 ds h =>
  kH (withV undef (storeV 1 h v4 v3)) ds (fun v5 ds h =>
  K .norm tm ds h))))
noncomputable def c89 : Box CodeT := ⟨seqC ⟨r89_0⟩ ⟨seqC ⟨blockC 0 (loopB l89_12)⟩ ⟨seqC ⟨r89_12⟩ ⟨seqC ⟨seqC ⟨r89_13⟩ ⟨condC ⟨fun _ tm => tg tm 99⟩ ⟨seqC ⟨r89_14⟩ ⟨seqC ⟨r89_15⟩ ⟨seqC ⟨r89_16⟩ ⟨seqC ⟨r89_17⟩ ⟨seqC ⟨r89_18⟩ ⟨r89_19⟩⟩⟩⟩⟩⟩ skipC⟩⟩ ⟨seqC ⟨seqC ⟨r89_20⟩ ⟨condC ⟨fun _ tm => tg tm 139⟩ ⟨seqC ⟨r89_21⟩ ⟨seqC ⟨r89_22⟩ ⟨seqC ⟨r89_23⟩ ⟨r89_24⟩⟩⟩⟩ skipC⟩⟩ ⟨seqC ⟨r89_25⟩ ⟨condC ⟨fun _ tm => tg tm 161⟩ ⟨r89_26⟩ skipC⟩⟩⟩⟩⟩⟩⟩
noncomputable def q89 : Box (T Value → H → Option (List Value)) := ⟨fun tm h => some []⟩

/-! 90 internal/strconv.formatBits -/
/-! 92 internal/stringslite.IndexByte -/
noncomputable def r92_0 : CodeT := fun call _ tm ds h K =>
  K .norm (T.set tm 4 (.int .i64 (0))) ds h
noncomputable def r92_1 : CodeT := fun call _ tm ds h K =>
  call 102 [(tg tm 0), (tg tm 1)] h (fun v h => (fun v2 ds h =>
  K .norm (T.set tm 4 v2) ds h) v ds h)
noncomputable def c92 : Box CodeT := ⟨seqC ⟨r92_0⟩ ⟨seqC ⟨r92_1⟩ retC⟩⟩
noncomputable def q92 : Box (T Value → H → Option (List Value)) := ⟨fun tm h => some [tg tm 4]⟩

/-! 94 internal/bytealg.IndexRabinKarp[string] -/
/-! 95 internal/strconv.ParseUint -/
noncomputable def r95_0 : CodeT := fun call _ tm ds h K =>
  K .norm (T.set (T.set tm 6 (.int .u64 (0))) 7 .nilIface) ds h
noncomputable def r95_1 : CodeT := fun call _ tm ds h K =>
  kO (binV Tryd.prog .eql 9 true (tg tm 0) (.string (strB []))) ds h (fun v1 ds h =>
  K .norm (T.set tm 19 v1) ds h)
noncomputable def r95_2 : CodeT := fun call _ tm ds h K =>
  kO (some (.iface 135 (.int .i64 (2)))) ds h (fun v0 ds h =>
  K .norm (T.set (T.set tm 6 (.int .u64 (0))) 7 v0) ds h)
noncomputable def r95_3 : CodeT := fun call _ tm ds h K =>
  kO (binV Tryd.prog .eql 3 true (tg tm 1) (.int .i64 (0))) ds h (fun v1 ds h =>
  K .norm (T.set tm 8 v1) ds h)
noncomputable def r95_4 : CodeT := fun call _ tm ds h K =>
  K .norm (T.set tm 9 (tg tm 0)) ds h
noncomputable def r95_6 : CodeT := fun call _ tm ds h K =>
  kO (binV Tryd.prog .leq 3 true (.int .i64 (2)) (tg tm 1)) ds h (fun v1 ds h =>
  gd (isB true v1) (fun k => kO (some (tg tm 1)) ds h (k)) ds h (fun v3 ds h =>
  gd (isB true v1) (fun k => kO (binV Tryd.prog .leq 3 true v3 (.int .i64 (36))) ds h (k)) ds h (fun v4 ds h =>
  kO (pickV v1 v4 (.bool false)) ds h (fun v5 ds h =>
  K .norm (T.set tm 25 v5) ds h))))
noncomputable def r95_7 : CodeT := fun call _ tm ds h K =>
  kO (binV Tryd.prog .eql 3 true (tg tm 1) (.int .i64 (0))) ds h (fun v1 ds h =>
  K .norm (T.set tm 32 v1) ds h)
noncomputable def r95_8 : CodeT := fun call _ tm ds h K =>
  K .norm (T.set tm 1 (.int .i64 (10))) ds h
noncomputable def r95_9 : CodeT := fun call _ tm ds h K =>
  kO (indexStr (tg tm 0) (.int .i64 (0))) ds h (fun v1 ds h =>
  kO (binV Tryd.prog .eql 5 true v1 (.int .u8 (48))) ds h (fun v2 ds h =>
  K .norm (T.set tm 37 v2) ds h))
noncomputable def r95_12 : CodeT := fun call _ tm ds h K => (⟨opStep ⟨fun call env tm ds h K => kO (some (tg tm 0)) ds h K⟩ ⟨fun v tm => tm⟩ ⟨fun env tm => true⟩
  ⟨opStep ⟨fun call env tm ds h K => kO (lenStr (nthD 0 env)) ds h K⟩ ⟨fun v tm => tm⟩ ⟨fun env tm => true⟩
  ⟨opStep ⟨fun call env tm ds h K => kO (binV Tryd.prog .geq 3 true (nthD 0 env) (.int .i64 (3))) ds h K⟩ ⟨fun v tm => tm⟩ ⟨fun env tm => true⟩
  ⟨opStep ⟨fun call env tm ds h K => kO (some (nthD 0 env)) ds h K⟩ ⟨fun v tm => tm⟩ ⟨fun env tm => true⟩
  ⟨opStep ⟨fun call env tm ds h K => kO (some (tg tm 0)) ds h K⟩ ⟨fun v tm => tm⟩ ⟨fun env tm => isB true (nthD 0 env)⟩
  ⟨opStep ⟨fun call env tm ds h K => kO (indexStr (nthD 0 env) (.int .i64 (1))) ds h K⟩ ⟨fun v tm => tm⟩ ⟨fun env tm => isB true (nthD 1 env)⟩
  ⟨opStep ⟨fun call env tm ds h K => call 104 [(nthD 0 env)] h (fun v h => (K) v ds h)⟩ ⟨fun v tm => tm⟩ ⟨fun env tm => isB true (nthD 2 env)⟩
  ⟨opStep ⟨fun call env tm ds h K => kO (binV Tryd.prog .eql 5 true (nthD 0 env) (.int .u8 (98))) ds h K⟩ ⟨fun v tm => tm⟩ ⟨fun env tm => isB true (nthD 3 env)⟩
  ⟨opStep ⟨fun call env tm ds h K => kO (pickV (nthD 4 env) (nthD 0 env) (.bool false)) ds h K⟩ ⟨fun v tm => tm⟩ ⟨fun env tm => true⟩
  ⟨opStep ⟨fun call env tm ds h K => kO (some (nthD 0 env)) ds h K⟩ ⟨fun v tm => (T.set tm 40 v)⟩ ⟨fun env tm => true⟩
  ⟨fun _ _ tm ds h K => K .norm tm ds h⟩⟩⟩⟩⟩⟩⟩⟩⟩⟩⟩ : Box OpsT).f call [] tm ds h K
noncomputable def r95_13 : CodeT := fun call _ tm ds h K =>
  K .norm (T.set tm 1 (.int .i64 (2))) ds h
noncomputable def r95_14 : CodeT := fun call _ tm ds h K =>
  kO (sliceStr (tg tm 0) (some (.int .i64 (2))) none none) ds h (fun v1 ds h =>
  K .norm (T.set tm 0 v1) ds h)
noncomputable def r95_15 : CodeT := fun call _ tm ds h K => (⟨opStep ⟨fun call env tm ds h K => kO (some (tg tm 0)) ds h K⟩ ⟨fun v tm => tm⟩ ⟨fun env tm => true⟩
  ⟨opStep ⟨fun call env tm ds h K => kO (lenStr (nthD 0 env)) ds h K⟩ ⟨fun v tm => tm⟩ ⟨fun env tm => true⟩
  ⟨opStep ⟨fun call env tm ds h K => kO (binV Tryd.prog .geq 3 true (nthD 0 env) (.int .i64 (3))) ds h K⟩ ⟨fun v tm => tm⟩ ⟨fun env tm => true⟩
  ⟨opStep ⟨fun call env tm ds h K => kO (some (nthD 0 env)) ds h K⟩ ⟨fun v tm => tm⟩ ⟨fun env tm => true⟩
  ⟨opStep ⟨fun call env tm ds h K => kO (some (tg tm 0)) ds h K⟩ ⟨fun v tm => tm⟩ ⟨fun env tm => isB true (nthD 0 env)⟩
  ⟨opStep ⟨fun call env tm ds h K => kO (indexStr (nthD 0 env) (.int .i64 (1))) ds h K⟩ ⟨fun v tm => tm⟩ ⟨fun env tm => isB true (nthD 1 env)⟩
  ⟨opStep ⟨fun call env tm ds h K => call 104 [(nthD 0 env)] h (fun v h => (K) v ds h)⟩ ⟨fun v tm => tm⟩ ⟨fun env tm => isB true (nthD 2 env)⟩
  ⟨opStep ⟨fun call env tm ds h K => kO (binV Tryd.prog .eql 5 true (nthD 0 env) (.int .u8 (111))) ds h K⟩ ⟨fun v tm => tm⟩ ⟨fun env tm => isB true (nthD 3 env)⟩
  ⟨opStep ⟨fun call env tm ds h K => kO (pickV (nthD 4 env) (nthD 0 env) (.bool false)) ds h K⟩ ⟨fun v tm => tm⟩ ⟨fun env tm => true⟩
  ⟨opStep ⟨fun call env tm ds h K => kO (some (nthD 0 env)) ds h K⟩ ⟨fun v tm => (T.set tm 52 v)⟩ ⟨fun env tm => true⟩
  ⟨fun _ _ tm ds h K => K .norm tm ds h⟩⟩⟩⟩⟩⟩⟩⟩⟩⟩⟩ : Box OpsT).f call [] tm ds h K
noncomputable def r95_16 : CodeT := fun call _ tm ds h K =>
  K .norm (T.set tm 1 (.int .i64 (8))) ds h
noncomputable def r95_17 : CodeT := fun call _ tm ds h K =>
  kO (sliceStr (tg tm 0) (some (.int .i64 (2))) none none) ds h (fun v1 ds h =>
  K .norm (T.set tm 0 v1) ds h)
noncomputable def r95_18 : CodeT := fun call _ tm ds h K => (⟨opStep ⟨fun call env tm ds h K => kO (some (tg tm 0)) ds h K⟩ ⟨fun v tm => tm⟩ ⟨fun env tm => true⟩
  ⟨opStep ⟨fun call env tm ds h K => kO (lenStr (nthD 0 env)) ds h K⟩ ⟨fun v tm => tm⟩ ⟨fun env tm => true⟩
  ⟨opStep ⟨fun call env tm ds h K => kO (binV Tryd.prog .geq 3 true (nthD 0 env) (.int .i64 (3))) ds h K⟩ ⟨fun v tm => tm⟩ ⟨fun env tm => true⟩
  ⟨opStep ⟨fun call env tm ds h K => kO (some (nthD 0 env)) ds h K⟩ ⟨fun v tm => tm⟩ ⟨fun env tm => true⟩
  ⟨opStep ⟨fun call env tm ds h K => kO (some (tg tm 0)) ds h K⟩ ⟨fun v tm => tm⟩ ⟨fun env tm => isB true (nthD 0 env)⟩
  ⟨opStep ⟨fun call env tm ds h K => kO (indexStr (nthD 0 env) (.int .i64 (1))) ds h K⟩ ⟨fun v tm => tm⟩ ⟨fun env tm => isB true (nthD 1 env)⟩
  ⟨opStep ⟨fun call env tm ds h K => call 104 [(nthD 0 env)] h (fun v h => (K) v ds h)⟩ ⟨fun v tm => tm⟩ ⟨fun env tm => isB true (nthD 2 env)⟩
  ⟨opStep ⟨fun call env tm ds h K => kO (binV Tryd.prog .eql 5 true (nthD 0 env) (.int .u8 (120))) ds h K⟩ ⟨fun v tm => tm⟩ ⟨fun env tm => isB true (nthD 3 env)⟩
  ⟨opStep ⟨fun call env tm ds h K => kO (pickV (nthD 4 env) (nthD 0 env) (.bool false)) ds h K⟩ ⟨fun v tm => tm⟩ ⟨fun env tm => true⟩
  ⟨opStep ⟨fun call env tm ds h K => kO (some (nthD 0 env)) ds h K⟩ ⟨fun v tm => (T.set tm 64 v)⟩ ⟨fun env tm => true⟩
  ⟨fun _ _ tm ds h K => K .norm tm ds h⟩⟩⟩⟩⟩⟩⟩⟩⟩⟩⟩ : Box OpsT).f call [] tm ds h K
noncomputable def r95_19 : CodeT := fun call _ tm ds h K =>
  K .norm (T.set tm 1 (.int .i64 (16))) ds h
noncomputable def r95_20 : CodeT := fun call _ tm ds h K =>
  kO (sliceStr (tg tm 0) (some (.int .i64 (2))) none none) ds h (fun v1 ds h =>
  K .norm (T.set tm 0 v1) ds h)
noncomputable def r95_10 : CodeT := fun call _ tm ds h K =>
  K .norm (T.set tm 1 (.int .i64 (8))) ds h
noncomputable def r95_11 : CodeT := fun call _ tm ds h K =>
  kO (sliceStr (tg tm 0) (some (.int .i64 (1))) none none) ds h (fun v1 ds h =>
  K .norm (T.set tm 0 v1) ds h)
noncomputable def r95_5 : CodeT := fun call _ tm ds h K =>
  kO (some (.iface 135 (.int .i64 (3)))) ds h (fun v0 ds h =>
  K .norm (T.set (T.set tm 6 (.int .u64 (0))) 7 v0) ds h)
noncomputable def r95_21 : CodeT := fun call _ tm ds h K =>
  kO (binV Tryd.prog .eql 3 true (tg tm 2) (.int .i64 (0))) ds h (fun v1 ds h =>
  K .norm (T.set tm 77 v1) ds h)
noncomputable def r95_22 : CodeT := fun call _ tm ds h K =>
  K .norm (T.set tm 2 (.int .i64 (64))) ds h
noncomputable def r95_23 : CodeT := fun call _ tm ds h K =>
  kO (binV Tryd.prog .lss 3 true (tg tm 2) (.int .i64 (0))) ds h (fun v1 ds h =>
  gd (isB false v1) (fun k => kO (some (tg tm 2)) ds h (k)) ds h (fun v3 ds h =>
  gd (isB false v1) (fun k => kO (binV Tryd.prog .gtr 3 true v3 (.int .i64 (64))) ds h (k)) ds h (fun v4 ds h =>
  kO (pickV v1 (.bool true) v4) ds h (fun v5 ds h =>
  K .norm (T.set tm 83 v5) ds h))))
noncomputable def r95_24 : CodeT := fun call _ tm ds h K =>
  kO (some (.iface 135 (.int .i64 (4)))) ds h (fun v0 ds h =>
  K .norm (T.set (T.set tm 6 (.int .u64 (0))) 7 v0) ds h)
noncomputable def r95_25 : CodeT := fun call _ tm ds h K =>
  K .norm (T.set tm 10 (.int .u64 (0))) ds h
noncomputable def r95_26 : CodeT := fun call _ tm ds h K =>
  K .norm (T.set tm 85 (tg tm 1)) ds h
noncomputable def r95_28 : CodeT := fun call _ tm ds h K =>
  kO (binV Tryd.prog .eql 3 true (tg tm 85) (.int .i64 (10))) ds h (fun v0 ds h =>
  K .norm (T.set tm 90 v0) ds h)
noncomputable def r95_29 : CodeT := fun call _ tm ds h K =>
  K .norm (T.set tm 10 (.int .u64 (1844674407370955162))) ds h
noncomputable def r95_30 : CodeT := fun call _ tm ds h K =>
  kO (binV Tryd.prog .eql 3 true (tg tm 85) (.int .i64 (16))) ds h (fun v0 ds h =>
  K .norm (T.set tm 92 v0) ds h)
noncomputable def r95_31 : CodeT := fun call _ tm ds h K =>
  K .norm (T.set tm 10 (.int .u64 (1152921504606846976))) ds h
noncomputable def r95_27 : CodeT := fun call _ tm ds h K =>
  kO (toInt .u64 (tg tm 1)) ds h (fun v1 ds h =>
  kO (binV Tryd.prog .quo 23 true (.int .u64 (18446744073709551615)) v1) ds h (fun v2 ds h =>
  kO (binV Tryd.prog .add 23 true v2 (.int .u64 (1))) ds h (fun v3 ds h =>
  K .norm (T.set tm 10 v3) ds h)))
noncomputable def r95_32 : CodeT := fun call _ tm ds h K =>
  kO (toInt .u64 (tg tm 2)) ds h (fun v1 ds h =>
  kO (binV Tryd.prog .shl 23 true (.int .u64 (1)) v1) ds h (fun v2 ds h =>
  kO (binV Tryd.prog .sub 23 true v2 (.int .u64 (1))) ds h (fun v3 ds h =>
  K .norm (T.set tm 11 v3) ds h)))
noncomputable def r95_33 : CodeT := fun call _ tm ds h K =>
  K .norm (T.set tm 12 (.bool false)) ds h
noncomputable def r95_34 : CodeT := fun call _ tm ds h K =>
  K .norm (T.set tm 13 (.int .u64 (0))) ds h
noncomputable def r95_35 : CodeT := fun call _ tm ds h K =>
  kA (mkBytes 5 h.next (tg tm 0)) ds h (fun v1 ds h =>
  kO (lenSl v1) ds h (fun v2 ds h =>
  K .norm (T.set (T.set (T.set tm 99 v1) 100 v2) 101 (.int .i64 (0))) ds h))
noncomputable def r95_36 : CodeT := fun call _ tm ds h K =>
  kO (binV Tryd.prog .lss 3 false (tg tm 101) (tg tm 100)) ds h (fun v0 ds h =>
  K .norm (T.set tm 102 v0) ds h)
noncomputable def r95_37 : CodeT := fun call _ tm ds h K =>
  kO (indexSl 1 (tg tm 99) (tg tm 101)) ds h (fun v0 ds h =>
  kO (loadOne h v0) ds h (fun v1 ds h =>
  K .norm (T.set tm 15 v1) ds h))
noncomputable def r95_38 : CodeT := fun call _ tm ds h K =>
  K .norm (T.set tm 16 (.int .u8 (0))) ds h
noncomputable def r95_40 : CodeT := fun call _ tm ds h K =>
  kO (binV Tryd.prog .eql 5 true (tg tm 15) (.int .u8 (95))) ds h (fun v1 ds h =>
  gd (isB true v1) (fun k => kO (some (tg tm 8)) ds h (k)) ds h (fun v3 ds h =>
  kO (pickV v1 v3 (.bool false)) ds h (fun v4 ds h =>
  K .norm (T.set tm 106 v4) ds h)))
noncomputable def r95_41 : CodeT := fun call _ tm ds h K =>
  K .norm (T.set tm 12 (.bool true)) ds h
noncomputable def r95_42 : CodeT := fun call _ tm ds h K =>
  kO (binV Tryd.prog .leq 5 true (.int .u8 (48)) (tg tm 15)) ds h (fun v1 ds h =>
  gd (isB true v1) (fun k => kO (some (tg tm 15)) ds h (k)) ds h (fun v3 ds h =>
  gd (isB true v1) (fun k => kO (binV Tryd.prog .leq 5 true v3 (.int .u8 (57))) ds h (k)) ds h (fun v4 ds h =>
  kO (pickV v1 v4 (.bool false)) ds h (fun v5 ds h =>
  K .norm (T.set tm 112 v5) ds h))))
noncomputable def r95_43 : CodeT := fun call _ tm ds h K =>
  kO (binV Tryd.prog .sub 5 true (tg tm 15) (.int .u8 (48))) ds h (fun v1 ds h =>
  K .norm (T.set tm 16 v1) ds h)
noncomputable def r95_44 : CodeT := fun call _ tm ds h K => (⟨opStep ⟨fun call env tm ds h K => kO (some (tg tm 15)) ds h K⟩ ⟨fun v tm => tm⟩ ⟨fun env tm => true⟩
  ⟨opStep ⟨fun call env tm ds h K => call 104 [(nthD 0 env)] h (fun v h => (K) v ds h)⟩ ⟨fun v tm => tm⟩ ⟨fun env tm => true⟩
  ⟨opStep ⟨fun call env tm ds h K => kO (binV Tryd.prog .leq 5 true (.int .u8 (97)) (nthD 0 env)) ds h K⟩ ⟨fun v tm => tm⟩ ⟨fun env tm => true⟩
  ⟨opStep ⟨fun call env tm ds h K => kO (some (nthD 0 env)) ds h K⟩ ⟨fun v tm => tm⟩ ⟨fun env tm => true⟩
  ⟨opStep ⟨fun call env tm ds h K => kO (some (tg tm 15)) ds h K⟩ ⟨fun v tm => tm⟩ ⟨fun env tm => isB true (nthD 0 env)⟩
  ⟨opStep ⟨fun call env tm ds h K => call 104 [(nthD 0 env)] h (fun v h => (K) v ds h)⟩ ⟨fun v tm => tm⟩ ⟨fun env tm => isB true (nthD 1 env)⟩
  ⟨opStep ⟨fun call env tm ds h K => kO (binV Tryd.prog .leq 5 true (nthD 0 env) (.int .u8 (122))) ds h K⟩ ⟨fun v tm => tm⟩ ⟨fun env tm => isB true (nthD 2 env)⟩
  ⟨opStep ⟨fun call env tm ds h K => kO (pickV (nthD 3 env) (nthD 0 env) (.bool false)) ds h K⟩ ⟨fun v tm => tm⟩ ⟨fun env tm => true⟩
  ⟨opStep ⟨fun call env tm ds h K => kO (some (nthD 0 env)) ds h K⟩ ⟨fun v tm => (T.set tm 121 v)⟩ ⟨fun env tm => true⟩
  ⟨fun _ _ tm ds h K => K .norm tm ds h⟩⟩⟩⟩⟩⟩⟩⟩⟩⟩ : Box OpsT).f call [] tm ds h K
noncomputable def r95_45 : CodeT := fun call _ tm ds h K =>
  call 104 [(tg tm 15)] h (fun v h => (fun v1 ds h =>
  kO (binV Tryd.prog .sub 5 true v1 (.int .u8 (97))) ds h (fun v2 ds h =>
  kO (binV Tryd.prog .add 5 true v2 (.int .u8 (10))) ds h (fun v3 ds h =>
  K .norm (T.set tm 16 v3) ds h))) v ds h)
noncomputable def r95_39 : CodeT := fun call _ tm ds h K =>
  kO (some (.iface 135 (.int .i64 (2)))) ds h (fun v0 ds h =>
  K .norm (T.set (T.set tm 6 (.int .u64 (0))) 7 v0) ds h)
noncomputable def r95_46 : CodeT := fun call _ tm ds h K =>
  kO (toInt .u8 (tg tm 1)) ds h (fun v2 ds h =>
  kO (binV Tryd.prog .geq 5 false (tg tm 16) v2) ds h (fun v3 ds h =>
  K .norm (T.set tm 137 v3) ds h))
noncomputable def r95_47 : CodeT := fun call _ tm ds h K =>
  kO (some (.iface 135 (.int .i64 (2)))) ds h (fun v0 ds h =>
  K .norm (T.set (T.set tm 6 (.int .u64 (0))) 7 v0) ds h)
noncomputable def r95_48 : CodeT := fun call _ tm ds h K =>
  kO (binV Tryd.prog .geq 23 false (tg tm 13) (tg tm 10)) ds h (fun v2 ds h =>
  K .norm (T.set tm 141 v2) ds h)
noncomputable def r95_49 : CodeT := fun call _ tm ds h K =>
  kO (some (.iface 135 (.int .i64 (1)))) ds h (fun v1 ds h =>
  K .norm (T.set (T.set tm 6 (tg tm 11)) 7 v1) ds h)
noncomputable def r95_50 : CodeT := fun call _ tm ds h K =>
  kO (toInt .u64 (tg tm 1)) ds h (fun v2 ds h =>
  kO (binV Tryd.prog .mul 23 false (tg tm 13) v2) ds h (fun v3 ds h =>
  K .norm (T.set tm 13 v3) ds h))
noncomputable def r95_51 : CodeT := fun call _ tm ds h K =>
  kO (toInt .u64 (tg tm 16)) ds h (fun v2 ds h =>
  kO (binV Tryd.prog .add 23 false (tg tm 13) v2) ds h (fun v3 ds h =>
  K .norm (T.set tm 17 v3) ds h))
noncomputable def r95_52 : CodeT := fun call _ tm ds h K => (⟨opStep ⟨fun call env tm ds h K => kO (some (tg tm 17)) ds h K⟩ ⟨fun v tm => tm⟩ ⟨fun env tm => true⟩
  ⟨opStep ⟨fun call env tm ds h K => kO (some (tg tm 13)) ds h K⟩ ⟨fun v tm => tm⟩ ⟨fun env tm => true⟩
  ⟨opStep ⟨fun call env tm ds h K => kO (binV Tryd.prog .lss 23 false (nthD 1 env) (nthD 0 env)) ds h K⟩ ⟨fun v tm => tm⟩ ⟨fun env tm => true⟩
  ⟨opStep ⟨fun call env tm ds h K => kO (some (nthD 0 env)) ds h K⟩ ⟨fun v tm => tm⟩ ⟨fun env tm => true⟩
  ⟨opStep ⟨fun call env tm ds h K => kO (some (tg tm 17)) ds h K⟩ ⟨fun v tm => tm⟩ ⟨fun env tm => isB false (nthD 0 env)⟩
  ⟨opStep ⟨fun call env tm ds h K => kO (some (tg tm 11)) ds h K⟩ ⟨fun v tm => tm⟩ ⟨fun env tm => isB false (nthD 1 env)⟩
  ⟨opStep ⟨fun call env tm ds h K => kO (binV Tryd.prog .gtr 23 false (nthD 1 env) (nthD 0 env)) ds h K⟩ ⟨fun v tm => tm⟩ ⟨fun env tm => isB false (nthD 2 env)⟩
  ⟨opStep ⟨fun call env tm ds h K => kO (pickV (nthD 3 env) (.bool true) (nthD 0 env)) ds h K⟩ ⟨fun v tm => (T.set tm 159 v)⟩ ⟨fun env tm => true⟩
  ⟨fun _ _ tm ds h K => K .norm tm ds h⟩⟩⟩⟩⟩⟩⟩⟩⟩ : Box OpsT).f call [] tm ds h K
noncomputable def r95_53 : CodeT := fun call _ tm ds h K =>
  kO (some (.iface 135 (.int .i64 (1)))) ds h (fun v1 ds h =>
  K .norm (T.set (T.set tm 6 (tg tm 11)) 7 v1) ds h)
noncomputable def r95_54 : CodeT := fun call _ tm ds h K =>
  K .norm (T.set tm 13 (tg tm 17)) ds h
noncomputable def r95_55 : CodeT := fun call _ tm ds h K =>
  kO (binV Tryd.prog .add 3 true (tg tm 101) (.int .i64 (1))) ds h (fun v0 ds h =>
  K .norm (T.set tm 101 v0) ds h)
noncomputable def l95_56 : Box CodeT := ⟨seqC ⟨r95_36⟩ ⟨seqC ⟨condC ⟨fun _ tm => tg tm 102⟩ skipC (exitC 3)⟩ ⟨seqC ⟨blockC 4 ⟨seqC ⟨r95_37⟩ ⟨seqC ⟨r95_38⟩ ⟨seqC ⟨blockC 5 ⟨seqC ⟨r95_40⟩ ⟨condC ⟨fun _ tm => tg tm 106⟩ ⟨seqC ⟨r95_41⟩ (exitC 4)⟩ ⟨seqC ⟨r95_42⟩ ⟨condC ⟨fun _ tm => tg tm 112⟩ ⟨r95_43⟩ ⟨seqC ⟨r95_44⟩ ⟨condC ⟨fun _ tm => tg tm 121⟩ ⟨r95_45⟩ ⟨seqC ⟨r95_39⟩ retC⟩⟩⟩⟩⟩⟩⟩⟩ ⟨seqC ⟨seqC ⟨r95_46⟩ ⟨condC ⟨fun _ tm => tg tm 137⟩ ⟨seqC ⟨r95_47⟩ retC⟩ skipC⟩⟩ ⟨seqC ⟨seqC ⟨r95_48⟩ ⟨condC ⟨fun _ tm => tg tm 141⟩ ⟨seqC ⟨r95_49⟩ retC⟩ skipC⟩⟩ ⟨seqC ⟨r95_50⟩ ⟨seqC ⟨r95_51⟩ ⟨seqC ⟨seqC ⟨r95_52⟩ ⟨condC ⟨fun _ tm => tg tm 159⟩ ⟨seqC ⟨r95_53⟩ retC⟩ skipC⟩⟩ ⟨r95_54⟩⟩⟩⟩⟩⟩⟩⟩⟩⟩ ⟨r95_55⟩⟩⟩⟩
noncomputable def r95_56 : CodeT := fun call _ tm ds h K => (⟨opStep ⟨fun call env tm ds h K => kO (some (tg tm 12)) ds h K⟩ ⟨fun v tm => tm⟩ ⟨fun env tm => true⟩
  ⟨opStep ⟨fun call env tm ds h K => kO (some (nthD 0 env)) ds h K⟩ ⟨fun v tm => tm⟩ ⟨fun env tm => true⟩
  ⟨opStep ⟨fun call env tm ds h K => kO (some (tg tm 9)) ds h K⟩ ⟨fun v tm => tm⟩ ⟨fun env tm => isB true (nthD 0 env)⟩
  ⟨opStep ⟨fun call env tm ds h K => call 105 [(nthD 0 env)] h (fun v h => (K) v ds h)⟩ ⟨fun v tm => tm⟩ ⟨fun env tm => isB true (nthD 1 env)⟩
  ⟨opStep ⟨fun call env tm ds h K => kO (unV .not (nthD 0 env)) ds h K⟩ ⟨fun v tm => tm⟩ ⟨fun env tm => isB true (nthD 2 env)⟩
  ⟨opStep ⟨fun call env tm ds h K => kO (pickV (nthD 3 env) (nthD 0 env) (.bool false)) ds h K⟩ ⟨fun v tm => (T.set tm 169 v)⟩ ⟨fun env tm => true⟩
  ⟨fun _ _ tm ds h K => K .norm tm ds h⟩⟩⟩⟩⟩⟩⟩ : Box OpsT).f call [] tm ds h K
noncomputable def r95_57 : CodeT := fun call _ tm ds h K =>
  kO (some (.iface 135 (.int .i64 (2)))) ds h (fun v0 ds h =>
  K .norm (T.set (T.set tm 6 (.int .u64 (0))) 7 v0) ds h)
noncomputable def r95_58 : CodeT := fun call _ tm ds h K =>
  K .norm (T.set (T.set tm 6 (tg tm 13)) 7 .nilIface) ds h
noncomputable def c95 : Box CodeT := ⟨seqC ⟨r95_0⟩ ⟨seqC ⟨seqC ⟨r95_1⟩ ⟨condC ⟨fun _ tm => tg tm 19⟩ ⟨seqC ⟨r95_2⟩ retC⟩ skipC⟩⟩ ⟨seqC ⟨r95_3⟩ ⟨seqC ⟨r95_4⟩ ⟨seqC ⟨blockC 0 ⟨seqC ⟨r95_6⟩ ⟨condC ⟨fun _ tm => tg tm 25⟩ skipC ⟨seqC ⟨r95_7⟩ ⟨condC ⟨fun _ tm => tg tm 32⟩ ⟨seqC ⟨r95_8⟩ ⟨seqC ⟨r95_9⟩ ⟨condC ⟨fun _ tm => tg tm 37⟩ ⟨blockC 1 ⟨seqC ⟨r95_12⟩ ⟨condC ⟨fun _ tm => tg tm 40⟩ ⟨seqC ⟨r95_13⟩ ⟨r95_14⟩⟩ ⟨seqC ⟨r95_15⟩ ⟨condC ⟨fun _ tm => tg tm 52⟩ ⟨seqC ⟨r95_16⟩ ⟨r95_17⟩⟩ ⟨seqC ⟨r95_18⟩ ⟨condC ⟨fun _ tm => tg tm 64⟩ ⟨seqC ⟨r95_19⟩ ⟨r95_20⟩⟩ ⟨seqC ⟨r95_10⟩ ⟨r95_11⟩⟩⟩⟩⟩⟩⟩⟩⟩ skipC⟩⟩⟩ ⟨seqC ⟨r95_5⟩ retC⟩⟩⟩⟩⟩⟩ ⟨seqC ⟨seqC ⟨r95_21⟩ ⟨condC ⟨fun _ tm => tg tm 77⟩ ⟨r95_22⟩ ⟨seqC ⟨r95_23⟩ ⟨condC ⟨fun _ tm => tg tm 83⟩ ⟨seqC ⟨r95_24⟩ retC⟩ skipC⟩⟩⟩⟩ ⟨seqC ⟨r95_25⟩ ⟨seqC ⟨seqC ⟨r95_26⟩ ⟨blockC 2 ⟨seqC ⟨r95_28⟩ ⟨condC ⟨fun _ tm => tg tm 90⟩ ⟨r95_29⟩ ⟨seqC ⟨r95_30⟩ ⟨condC ⟨fun _ tm => tg tm 92⟩ ⟨r95_31⟩ ⟨r95_27⟩⟩⟩⟩⟩⟩⟩ ⟨seqC ⟨r95_32⟩ ⟨seqC ⟨r95_33⟩ ⟨seqC ⟨r95_34⟩ ⟨seqC ⟨seqC ⟨r95_35⟩ ⟨blockC 3 (loopB l95_56)⟩⟩ ⟨seqC ⟨seqC ⟨r95_56⟩ ⟨condC ⟨fun _ tm => tg tm 169⟩ ⟨seqC ⟨r95_57⟩ retC⟩ skipC⟩⟩ ⟨seqC ⟨r95_58⟩ retC⟩⟩⟩⟩⟩⟩⟩⟩⟩⟩⟩⟩⟩⟩
noncomputable def q95 : Box (T Value → H → Option (List Value)) := ⟨fun tm h => some [tg tm 6, tg tm 7]⟩

/-! 96 strconv.toError -/
noncomputable def r96_0 : CodeT := fun call _ tm ds h K =>
  K .norm (T.set tm 10 .nilIface) ds h
noncomputable def r96_1 : CodeT := fun call _ tm ds h K =>
  K .norm (T.set tm 11 (tg tm 4)) ds h
noncomputable def r96_2 : CodeT := fun call _ tm ds h K =>
  kO (some (.iface 135 (.int .i64 (2)))) ds h (fun v0 ds h =>
  kO (binV Tryd.prog .eql 76 false (tg tm 11) v0) ds h (fun v1 ds h =>
  K .norm (T.set tm 12 v1) ds h))
noncomputable def r96_3 : CodeT := fun call _ tm ds h K =>
  call 106 [(tg tm 0), (tg tm 1)] h (fun v h => (fun v2 ds h =>
  kO (some (.iface 137 v2)) ds h (fun v3 ds h =>
  K .norm (T.set tm 10 v3) ds h)) v ds h)
noncomputable def r96_4 : CodeT := fun call _ tm ds h K =>
  kO (some (.iface 135 (.int .i64 (1)))) ds h (fun v0 ds h =>
  kO (binV Tryd.prog .eql 76 false (tg tm 11) v0) ds h (fun v1 ds h =>
  K .norm (T.set tm 19 v1) ds h))
noncomputable def r96_5 : CodeT := fun call _ tm ds h K =>
  call 107 [(tg tm 0), (tg tm 1)] h (fun v h => (fun v2 ds h =>
  kO (some (.iface 137 v2)) ds h (fun v3 ds h =>
  K .norm (T.set tm 10 v3) ds h)) v ds h)
noncomputable def r96_6 : CodeT := fun call _ tm ds h K =>
  kO (some (.iface 135 (.int .i64 (3)))) ds h (fun v0 ds h =>
  kO (binV Tryd.prog .eql 76 false (tg tm 11) v0) ds h (fun v1 ds h =>
  K .norm (T.set tm 26 v1) ds h))
noncomputable def r96_7 : CodeT := fun call _ tm ds h K =>
  call 108 [(tg tm 0), (tg tm 1), (tg tm 2)] h (fun v h => (fun v3 ds h =>
  kO (some (.iface 137 v3)) ds h (fun v4 ds h =>
  K .norm (T.set tm 10 v4) ds h)) v ds h)
noncomputable def r96_8 : CodeT := fun call _ tm ds h K =>
  kO (some (.iface 135 (.int .i64 (4)))) ds h (fun v0 ds h =>
  kO (binV Tryd.prog .eql 76 false (tg tm 11) v0) ds h (fun v1 ds h =>
  K .norm (T.set tm 34 v1) ds h))
noncomputable def r96_9 : CodeT := fun call _ tm ds h K =>
  call 109 [(tg tm 0), (tg tm 1), (tg tm 3)] h (fun v h => (fun v3 ds h =>
  kO (some (.iface 137 v3)) ds h (fun v4 ds h =>
  K .norm (T.set tm 10 v4) ds h)) v ds h)
noncomputable def r96_10 : CodeT := fun call _ tm ds h K =>
  K .norm (T.set tm 10 (tg tm 4)) ds h
noncomputable def c96 : Box CodeT := ⟨seqC ⟨r96_0⟩ ⟨seqC ⟨seqC ⟨r96_1⟩ ⟨blockC 0 ⟨seqC ⟨r96_2⟩ ⟨condC ⟨fun _ tm => tg tm 12⟩ ⟨seqC ⟨r96_3⟩ retC⟩ ⟨seqC ⟨r96_4⟩ ⟨condC ⟨fun _ tm => tg tm 19⟩ ⟨seqC ⟨r96_5⟩ retC⟩ ⟨seqC ⟨r96_6⟩ ⟨condC ⟨fun _ tm => tg tm 26⟩ ⟨seqC ⟨r96_7⟩ retC⟩ ⟨seqC ⟨r96_8⟩ ⟨condC ⟨fun _ tm => tg tm 34⟩ ⟨seqC ⟨r96_9⟩ retC⟩ skipC⟩⟩⟩⟩⟩⟩⟩⟩⟩⟩ ⟨seqC ⟨r96_10⟩ retC⟩⟩⟩
noncomputable def q96 : Box (T Value → H → Option (List Value)) := ⟨fun tm h => some [tg tm 10]⟩

/-! 97 internal/strconv.log10Pow2 -/
noncomputable def r97_0 : CodeT := fun call _ tm ds h K =>
  K .norm (T.set tm 2 (.int .i64 (0))) ds h
noncomputable def r97_1 : CodeT := fun call _ tm ds h K =>
  kO (binV Tryd.prog .mul 3 true (tg tm 0) (.int .i64 (78913))) ds h (fun v1 ds h =>
  kO (binV Tryd.prog .shr 3 true v1 (.int .u64 (18))) ds h (fun v2 ds h =>
  K .norm (T.set tm 2 v2) ds h))
noncomputable def c97 : Box CodeT := ⟨seqC ⟨r97_0⟩ ⟨seqC ⟨r97_1⟩ retC⟩⟩
noncomputable def q97 : Box (T Value → H → Option (List Value)) := ⟨fun tm h => some [tg tm 2]⟩

/-! 98 math/bits.Len64 -/
noncomputable def r98_0 : CodeT := fun call _ tm ds h K =>
  K .norm (T.set tm 2 (.int .i64 (0))) ds h
noncomputable def r98_1 : CodeT := fun call _ tm ds h K =>
  kO (binV Tryd.prog .geq 23 true (tg tm 0) (.int .u64 (4294967296))) ds h (fun v1 ds h =>
  K .norm (T.set tm 4 v1) ds h)
noncomputable def r98_2 : CodeT := fun call _ tm ds h K =>
  kO (binV Tryd.prog .shr 23 true (tg tm 0) (.int .u64 (32))) ds h (fun v1 ds h =>
  K .norm (T.set tm 0 v1) ds h)
noncomputable def r98_3 : CodeT := fun call _ tm ds h K =>
  K .norm (T.set tm 2 (.int .i64 (32))) ds h
noncomputable def r98_4 : CodeT := fun call _ tm ds h K =>
  kO (binV Tryd.prog .geq 23 true (tg tm 0) (.int .u64 (65536))) ds h (fun v1 ds h =>
  K .norm (T.set tm 8 v1) ds h)
noncomputable def r98_5 : CodeT := fun call _ tm ds h K =>
  kO (binV Tryd.prog .shr 23 true (tg tm 0) (.int .u64 (16))) ds h (fun v1 ds h =>
  K .norm (T.set tm 0 v1) ds h)
noncomputable def r98_6 : CodeT := fun call _ tm ds h K =>
  kO (binV Tryd.prog .add 3 true (tg tm 2) (.int .i64 (16))) ds h (fun v1 ds h =>
  K .norm (T.set tm 2 v1) ds h)
noncomputable def r98_7 : CodeT := fun call _ tm ds h K =>
  kO (binV Tryd.prog .geq 23 true (tg tm 0) (.int .u64 (256))) ds h (fun v1 ds h =>
  K .norm (T.set tm 14 v1) ds h)
noncomputable def r98_8 : CodeT := fun call _ tm ds h K =>
  kO (binV Tryd.prog .shr 23 true (tg tm 0) (.int .u64 (8))) ds h (fun v1 ds h =>
  K .norm (T.set tm 0 v1) ds h)
noncomputable def r98_9 : CodeT := fun call _ tm ds h K =>
  kO (binV Tryd.prog .add 3 true (tg tm 2) (.int .i64 (8))) ds h (fun v1 ds h =>
  K .norm (T.set tm 2 v1) ds h)
noncomputable def r98_10 : CodeT := fun call _ tm ds h K =>
  kO (toInt .u8 (tg tm 0)) ds h (fun v2 ds h =>
  kO (indexStr (.string (strB [0, 1, 2, 2, 3, 3, 3, 3, 4, 4, 4, 4, 4, 4, 4, 4, 5, 5, 5, 5, 5, 5, 5, 5, 5, 5, 5, 5, 5, 5, 5, 5, 6, 6, 6, 6, 6, 6, 6, 6, 6, 6, 6, 6, 6, 6, 6, 6, 6, 6, 6, 6, 6, 6, 6, 6, 6, 6, 6, 6, 6, 6, 6, 6, 7, 7, 7, 7, 7, 7, 7, 7, 7, 7, 7, 7, 7, 7, 7, 7, 7, 7, 7, 7, 7, 7, 7, 7, 7, 7, 7, 7, 7, 7, 7, 7, 7, 7, 7, 7, 7, 7, 7, 7, 7, 7, 7, 7, 7, 7, 7, 7, 7, 7, 7, 7, 7, 7, 7, 7, 7, 7, 7, 7, 7, 7, 7, 7, 8, 8, 8, 8, 8, 8, 8, 8, 8, 8, 8, 8, 8, 8, 8, 8, 8, 8, 8, 8, 8, 8, 8, 8, 8, 8, 8, 8, 8, 8, 8, 8, 8, 8, 8, 8, 8, 8, 8, 8, 8, 8, 8, 8, 8, 8, 8, 8, 8, 8, 8, 8, 8, 8, 8, 8, 8, 8, 8, 8, 8, 8, 8, 8, 8, 8, 8, 8, 8, 8, 8, 8, 8, 8, 8, 8, 8, 8, 8, 8, 8, 8, 8, 8, 8, 8, 8, 8, 8, 8, 8, 8, 8, 8, 8, 8, 8, 8, 8, 8, 8, 8, 8, 8, 8, 8, 8, 8, 8, 8, 8, 8, 8, 8, 8, 8, 8, 8, 8, 8, 8, 8, 8, 8, 8, 8, 8, 8])) v2) ds h (fun v3 ds h =>
  kO (toInt .i64 v3) ds h (fun v4 ds h =>
  kO (binV Tryd.prog .add 3 false (tg tm 2) v4) ds h (fun v5 ds h =>
  K .norm (T.set tm 2 v5) ds h))))
noncomputable def c98 : Box CodeT := ⟨seqC ⟨r98_0⟩ ⟨seqC ⟨seqC ⟨r98_1⟩ ⟨condC ⟨fun _ tm => tg tm 4⟩ ⟨seqC ⟨r98_2⟩ ⟨r98_3⟩⟩ skipC⟩⟩ ⟨seqC ⟨seqC ⟨r98_4⟩ ⟨condC ⟨fun _ tm => tg tm 8⟩ ⟨seqC ⟨r98_5⟩ ⟨r98_6⟩⟩ skipC⟩⟩ ⟨seqC ⟨seqC ⟨r98_7⟩ ⟨condC ⟨fun _ tm => tg tm 14⟩ ⟨seqC ⟨r98_8⟩ ⟨r98_9⟩⟩ skipC⟩⟩ ⟨seqC ⟨r98_10⟩ retC⟩⟩⟩⟩⟩
noncomputable def q98 : Box (T Value → H → Option (List Value)) := ⟨fun tm h => some [tg tm 2]⟩

/-! 99 internal/strconv.bool2[int] -/
noncomputable def r99_0 : CodeT := fun call _ tm ds h K =>
  K .norm (T.set tm 2 (.int .i64 (0))) ds h
noncomputable def r99_1 : CodeT := fun call _ tm ds h K =>
  K .norm (T.set tm 3 (tg tm 0)) ds h
noncomputable def r99_2 : CodeT := fun call _ tm ds h K =>
  K .norm (T.set tm 2 (.int .i64 (1))) ds h
noncomputable def r99_3 : CodeT := fun call _ tm ds h K =>
  K .norm (T.set tm 2 (.int .i64 (0))) ds h
noncomputable def c99 : Box CodeT := ⟨seqC ⟨r99_0⟩ ⟨seqC ⟨seqC ⟨r99_1⟩ ⟨condC ⟨fun _ tm => tg tm 3⟩ ⟨seqC ⟨r99_2⟩ retC⟩ skipC⟩⟩ ⟨seqC ⟨r99_3⟩ retC⟩⟩⟩
noncomputable def q99 : Box (T Value → H → Option (List Value)) := ⟨fun tm h => some [tg tm 2]⟩

/-! 100 internal/strconv.isPowerOfTwo -/
/-! 103 internal/bytealg.hashStr[string] -/
/-! 106 strconv.syntaxError -/
/-! 107 strconv.rangeError -/
noncomputable def r107_0 : CodeT := fun call _ tm ds h K =>
  K .norm (T.set tm 4 (.pointer none)) ds h
noncomputable def r107_1 : CodeT := fun call _ tm ds h0 K =>
  (fun (b0 : Nat) (h : H) =>
  kO (loadOne h (.pointer (some ⟨5, 0, none⟩))) ds h (fun v3 ds h =>
  call 112 [(tg tm 1)] h (fun v h => (fun v2 ds h =>
  andB ((hO (loadOne h (.pointer (some ⟨5, 0, none⟩))) v3 true) && true) (kO (aggO (fill [(.string (strB [])), (.string (strB [])), .nilIface] (plc [(0, 1), (1, 1), (2, 1)]) [(0, (tg tm 0)), (1, v2), (2, v3)])) ds h (fun v4 ds h =>
  aO (some (.rw (Value.cells v4).toList (some 143), ptrTo (b0 + 5))) (fun x5 v5 =>
  K .norm (T.set tm 4 v5) ds (H.put h (b0 + 5) x5))))) v ds h))) h0.next ⟨h0.objs, h0.next + 7⟩
noncomputable def c107 : Box CodeT := ⟨seqC ⟨r107_0⟩ ⟨seqC ⟨r107_1⟩ retC⟩⟩
noncomputable def q107 : Box (T Value → H → Option (List Value)) := ⟨fun tm h => some [tg tm 4]⟩

/-! 108 strconv.baseError -/
/-! 109 strconv.bitSizeError -/
/-! 112 internal/stringslite.Clone -/
noncomputable def r112_0 : CodeT := fun call _ tm ds h K =>
  K .norm (T.set tm 2 (.string (strB []))) ds h
noncomputable def r112_1 : CodeT := fun call _ tm ds h K =>
  kO (lenStr (tg tm 0)) ds h (fun v1 ds h =>
  kO (binV Tryd.prog .eql 3 true v1 (.int .i64 (0))) ds h (fun v2 ds h =>
  K .norm (T.set tm 6 v2) ds h))
noncomputable def r112_2 : CodeT := fun call _ tm ds h K =>
  K .norm (T.set tm 2 (.string (strB []))) ds h
noncomputable def r112_3 : CodeT := fun call _ tm ds h K =>
  kO (lenStr (tg tm 0)) ds h (fun v1 ds h =>
  kA (mkSlice 5 [(.int .u8 (0))] 1 h.next v1 v1) ds h (fun v2 ds h =>
  K .norm (T.set tm 3 v2) ds h))
noncomputable def r112_4 : CodeT := fun call _ tm ds h K =>
  kH (copyV 1 h (tg tm 3) (tg tm 0)) ds (fun v2 ds h =>
  K .norm tm ds h)
noncomputable def r112_5 : CodeT := fun call _ tm ds h K =>
  kO (indexSl 1 (tg tm 3) (.int .i64 (0))) ds h (fun v1 ds h =>
  kO (lenSl (tg tm 3)) ds h (fun v3 ds h =>
  kH (strOf 5 h v1 v3) ds (fun v4 ds h =>
  K .norm (T.set tm 2 v4) ds h)))
noncomputable def c112 : Box CodeT := ⟨seqC ⟨r112_0⟩ ⟨seqC ⟨seqC ⟨r112_1⟩ ⟨condC ⟨fun _ tm => tg tm 6⟩ ⟨seqC ⟨r112_2⟩ retC⟩ skipC⟩⟩ ⟨seqC ⟨r112_3⟩ ⟨seqC ⟨r112_4⟩ ⟨seqC ⟨r112_5⟩ retC⟩⟩⟩⟩⟩
noncomputable def q112 : Box (T Value → H → Option (List Value)) := ⟨fun tm h => some [tg tm 2]⟩

end Go.Proofs.YthofbmfcpfibdaaDoor
