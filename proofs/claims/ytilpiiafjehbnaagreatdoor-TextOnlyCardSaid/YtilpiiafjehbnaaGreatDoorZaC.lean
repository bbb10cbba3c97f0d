import Derived.Test.YtilpiiafjehbnaaGreatDoorZaA
set_option linter.unusedSimpArgs false
set_option linter.unusedVariables false
namespace Go.Proofs.YtilpiiafjehbnaaGreatDoor
open Go.Ev
noncomputable section
def r34_0 : CodeT := fun c _ t d h K =>
 K .norm (T.set t 4 (.int .i64 0)) d h
def r34_1 : CodeT := fun c _ t d h K =>
 kO (lenSl (tg t 0)) d h (fun v1 d h =>
 K .norm (T.set (T.set t 7 v1) 8 (.int .i64 0)) d h)
def r34_2 : CodeT := fun c _ t d h K =>
 kO (binV Tryz.prog .lss 3 false (tg t 8) (tg t 7)) d h (fun v0 d h =>
 K .norm (T.set t 9 v0) d h)
def r34_3 : CodeT := fun c _ t d h K =>
 K .norm (T.set t 5 (tg t 8)) d h
def r34_4 : CodeT := fun c _ t d h K =>
 kO (indexSl 1 (tg t 0) (tg t 5)) d h (fun v3 d h =>
 kO (loadOne h v3) d h (fun v4 d h =>
 goCall c (funcArgs (tg t 1) [v4]) d h (fun v5 d h =>
 K .norm (T.set t 16 v5) d h)))
def r34_5 : CodeT := fun c _ t d h K =>
 K .norm (T.set t 4 (tg t 5)) d h
def r34_6 : CodeT := fun c _ t d h K =>
 kO (binV Tryz.prog .add 3 true (tg t 8) (.int .i64 1)) d h (fun v0 d h =>
 K .norm (T.set t 8 v0) d h)
def l34_7 : Box CodeT := ⟨seqC ⟨r34_2⟩ ⟨seqC ⟨condC (tC 9) skipC (exitC 0)⟩ ⟨seqC ⟨blockC 1 ⟨seqC ⟨r34_3⟩ ⟨seqC ⟨r34_4⟩ ⟨condC (tC 16) ⟨seqC ⟨r34_5⟩ retC⟩ skipC⟩⟩⟩⟩ ⟨r34_6⟩⟩⟩⟩
def r34_7 : CodeT := fun c _ t d h K =>
 K .norm (T.set t 4 (.int .i64 (-1))) d h
def c34 : Box CodeT := ⟨seqC ⟨r34_0⟩ ⟨seqC ⟨seqC ⟨r34_1⟩ ⟨blockC 0 (loopB l34_7)⟩⟩ ⟨seqC ⟨r34_7⟩ retC⟩⟩⟩
def q34 : Box (T Value → H → Option (List Value)) := ⟨fun t h => some [tg t 4]⟩
def r35_0 : CodeT := fun c _ t d h K =>
 K .norm (T.set t 4 (.int .i64 0)) d h
def r35_1 : CodeT := fun c _ t d h K =>
 c 58 [(tg t 0), (tg t 1), (.bool true)] h (fun v h => (fun v2 d h =>
 K .norm (T.set t 4 v2) d h) v d h)
def c35 : Box CodeT := ⟨seqC ⟨r35_0⟩ ⟨seqC ⟨r35_1⟩ retC⟩⟩
def q35 : Box (T Value → H → Option (List Value)) := ⟨fun t h => some [tg t 4]⟩
def r36_0 : CodeT := fun c _ t d h K =>
 K .norm (T.set t 2 (.bool false)) d h
def r36_1 : CodeT := fun c _ t d h K =>
 kO (binV Tryz.prog .lss 21 true (tg t 0) (.int .i32 33)) d h (fun v1 d h =>
 gd (isB false v1) (fun k => kO (some (tg t 0)) d h (k)) d h (fun v3 d h =>
 gd (isB false v1) (fun k => kO (binV Tryz.prog .gtr 21 true v3 (.int .i32 126)) d h (k)) d h (fun v4 d h =>
 kO (pickV v1 (.bool true) v4) d h (fun v5 d h =>
 K .norm (T.set t 2 v5) d h))))
def c36 : Box CodeT := ⟨seqC ⟨r36_0⟩ ⟨seqC ⟨r36_1⟩ retC⟩⟩
def q36 : Box (T Value → H → Option (List Value)) := ⟨fun t h => some [tg t 2]⟩
def r37_0 : CodeT := fun c _ t d h K =>
 K .norm (T.set t 2 (.string (strB []))) d h
def r37_1 : CodeT := fun c _ t d h K =>
 kO (toInt .u64 (tg t 0)) d h (fun v1 d h =>
 c 42 [v1, (.int .i64 10)] h (fun v h => (fun v2 d h =>
 K .norm (T.set t 2 v2) d h) v d h))
def c37 : Box CodeT := ⟨seqC ⟨r37_0⟩ ⟨seqC ⟨r37_1⟩ retC⟩⟩
def q37 : Box (T Value → H → Option (List Value)) := ⟨fun t h => some [tg t 2]⟩
def r38_0 : CodeT := fun c _ t d h K =>
 K .norm (T.set t 2 (.string (strB []))) d h
def r38_1 : CodeT := fun c _ t d h K =>
 c 42 [(tg t 0), (.int .i64 10)] h (fun v h => (fun v1 d h =>
 K .norm (T.set t 2 v1) d h) v d h)
def c38 : Box CodeT := ⟨seqC ⟨r38_0⟩ ⟨seqC ⟨r38_1⟩ retC⟩⟩
def q38 : Box (T Value → H → Option (List Value)) := ⟨fun t h => some [tg t 2]⟩
def r39_0 : CodeT := fun c _ t d h K =>
 c 59 [(tg t 0)] h (fun v h => (fun v1 d h =>
 K .norm t d h) v d h)
def r39_1 : CodeT := fun c _ t d h K =>
 kO (binV Tryz.prog .lss 3 true (tg t 1) (.int .i64 0)) d h (fun v1 d h =>
 K .norm (T.set t 7 v1) d h)
def r39_2 : CodeT := fun c _ t d h K =>
 kO (some (.iface 9 (.string (strB [115, 116, 114, 105, 110, 103, 115, 46, 66, 117, 105, 108, 100, 101, 114, 46, 71, 114, 111, 119, 58, 32, 110, 101, 103, 97, 116, 105, 118, 101, 32, 99, 111, 117, 110, 116])))) d h (fun v0 d h =>
 kO none d h (fun v1 d h =>
 K .norm t d h))
def r39_3 : CodeT := fun c _ t d h0 K =>
 (fun (b0 : Nat) (h : H) =>
 kO (nilChk (tg t 0)) d h (fun v1 d h =>
 kO (fieldPtr 1 v1) d h (fun v2 d h =>
 kO (loadOne h v2) d h (fun v3 d h =>
 kO (capV v3) d h (fun v4 d h =>
 kO (nilChk (tg t 0)) d h (fun v6 d h =>
 kO (fieldPtr 1 v6) d h (fun v7 d h =>
 kO (loadOne h v7) d h (fun v8 d h =>
 kO (lenSl v8) d h (fun v9 d h =>
 kO (binV Tryz.prog .sub 3 false v4 v9) d h (fun v10 d h =>
 kO (binV Tryz.prog .lss 3 false v10 (tg t 1)) d h (fun v12 d h =>
 K .norm (T.set t 21 v12) d h))))))))))) h0.next ⟨h0.objs, h0.next + 13⟩
def r39_4 : CodeT := fun c _ t d h K =>
 c 60 [(tg t 0), (tg t 1)] h (fun v h => (fun v2 d h =>
 K .norm t d h) v d h)
def c39 : Box CodeT := ⟨seqC ⟨r39_0⟩ ⟨seqC ⟨seqC ⟨r39_1⟩ ⟨condC (tC 7) ⟨r39_2⟩ skipC⟩⟩ ⟨seqC ⟨r39_3⟩ ⟨condC (tC 21) ⟨r39_4⟩ skipC⟩⟩⟩⟩
def q39 : Box (T Value → H → Option (List Value)) := ⟨fun t h => some []⟩
def r40_0 : CodeT := fun c _ t d h K =>
 K .norm (T.set (T.set t 4 (.int .i64 0)) 5 .nilIface) d h
def r40_1 : CodeT := fun c _ t d h K =>
 c 59 [(tg t 0)] h (fun v h => (fun v1 d h =>
 K .norm t d h) v d h)
def r40_2 : CodeT := fun c _ t d h K =>
 kO (nilChk (tg t 0)) d h (fun v2 d h =>
 kO (fieldPtr 1 v2) d h (fun v3 d h =>
 kO (loadOne h v3) d h (fun v4 d h =>
 kH (appendV 5 1 1 h v4 (tg t 1)) d (fun v6 d h =>
 kO (nilChk (tg t 0)) d h (fun v7 d h =>
 kO (fieldPtr 1 v7) d h (fun v8 d h =>
 kH (withV undef (storeV 1 h v8 v6)) d (fun v9 d h =>
 K .norm t d h)))))))
def r40_3 : CodeT := fun c _ t d h K =>
 kO (lenStr (tg t 1)) d h (fun v1 d h =>
 K .norm (T.set (T.set t 4 v1) 5 .nilIface) d h)
def c40 : Box CodeT := ⟨seqC ⟨r40_0⟩ ⟨seqC ⟨r40_1⟩ ⟨seqC ⟨r40_2⟩ ⟨seqC ⟨r40_3⟩ retC⟩⟩⟩⟩
def q40 : Box (T Value → H → Option (List Value)) := ⟨fun t h => some [tg t 4, tg t 5]⟩
def r41_0 : CodeT := fun c _ t d h K =>
 K .norm (T.set t 2 (.string (strB []))) d h
def r41_1 : CodeT := fun c _ t d h0 K =>
 (fun (b0 : Nat) (h : H) =>
 kO (nilChk (tg t 0)) d h (fun v1 d h =>
 kO (fieldPtr 1 v1) d h (fun v2 d h =>
 kO (loadOne h v2) d h (fun v3 d h =>
 kO (dataV v3) d h (fun v4 d h =>
 kO (nilChk (tg t 0)) d h (fun v6 d h =>
 kO (fieldPtr 1 v6) d h (fun v7 d h =>
 kO (loadOne h v7) d h (fun v8 d h =>
 kO (lenSl v8) d h (fun v9 d h =>
 kH (strOf 5 h v4 v9) d (fun v10 d h =>
 K .norm (T.set t 2 v10) d h)))))))))) h0.next ⟨h0.objs, h0.next + 12⟩
def c41 : Box CodeT := ⟨seqC ⟨r41_0⟩ ⟨seqC ⟨r41_1⟩ retC⟩⟩
def q41 : Box (T Value → H → Option (List Value)) := ⟨fun t h => some [tg t 2]⟩
def r42_0 : CodeT := fun c _ t d h K =>
 K .norm (T.set t 4 (.string (strB []))) d h
def r42_1 : CodeT := fun c _ t d h K =>
 c 61 [(tg t 0), (tg t 1)] h (fun v h => (fun v2 d h =>
 K .norm (T.set t 4 v2) d h) v d h)
def c42 : Box CodeT := ⟨seqC ⟨r42_0⟩ ⟨seqC ⟨r42_1⟩ retC⟩⟩
def q42 : Box (T Value → H → Option (List Value)) := ⟨fun t h => some [tg t 4]⟩
def r43_0 : CodeT := fun c _ t d h K =>
 K .norm (T.set t 4 (.int .i64 0)) d h
def r43_1 : CodeT := fun c _ t d h K =>
 c 62 [(tg t 0), (tg t 1)] h (fun v h => (fun v2 d h =>
 K .norm (T.set t 4 v2) d h) v d h)
def c43 : Box CodeT := ⟨seqC ⟨r43_0⟩ ⟨seqC ⟨r43_1⟩ retC⟩⟩
def q43 : Box (T Value → H → Option (List Value)) := ⟨fun t h => some [tg t 4]⟩
def r44_0 : CodeT := fun c _ t d h K =>
 K .norm (T.set t 4 (.bool false)) d h
def r44_1 : CodeT := fun c _ t d h K =>
 kO (bytesStr h (tg t 0)) d h (fun v1 d h =>
 kO (bytesStr h (tg t 1)) d h (fun v3 d h =>
 kO (binV Tryz.prog .eql 9 false v1 v3) d h (fun v4 d h =>
 K .norm (T.set t 4 v4) d h)))
def c44 : Box CodeT := ⟨seqC ⟨r44_0⟩ ⟨seqC ⟨r44_1⟩ retC⟩⟩
def q44 : Box (T Value → H → Option (List Value)) := ⟨fun t h => some [tg t 4]⟩
def r46_0 : CodeT := fun c _ t d h K =>
 K .norm (T.set t 2 (.int .i64 0)) d h
def r46_1 : CodeT := fun c _ t d h K =>
 kO (binV Tryz.prog .add 3 true (tg t 0) (.int .i64 16)) d h (fun v1 d h =>
 kO (binV Tryz.prog .quo 3 true v1 (.int .i64 8)) d h (fun v2 d h =>
 K .norm (T.set t 2 v2) d h))
def c46 : Box CodeT := ⟨seqC ⟨r46_0⟩ ⟨seqC ⟨r46_1⟩ retC⟩⟩
def q46 : Box (T Value → H → Option (List Value)) := ⟨fun t h => some [tg t 2]⟩
def r47_0 : CodeT := fun c _ t d h K =>
 K .norm (T.set t 4 (.int .i64 0)) d h
def r47_1 : CodeT := fun c _ t d h K =>
 c 63 [(tg t 1)] h (fun v h => (fun v1 d h =>
 kO (tupNth 0 v1) d h (fun v3 d h =>
 kO (tupNth 1 v1) d h (fun v4 d h =>
 K .norm (T.set (T.set t 5 v3) 6 v4) d h))) v d h)
def r47_2 : CodeT := fun c _ t d h K =>
 kO (lenSl (tg t 1)) d h (fun v1 d h =>
 K .norm (T.set t 7 v1) d h)
def r47_3 : CodeT := fun c _ t d h K =>
 K .norm (T.set t 8 (.int .u32 0)) d h
def r47_4 : CodeT := fun c _ t d h K =>
 K .norm (T.set t 9 (.int .i64 0)) d h
def r47_5 : CodeT := fun c _ t d h K =>
 kO (binV Tryz.prog .lss 3 false (tg t 9) (tg t 7)) d h (fun v2 d h =>
 K .norm (T.set t 20 v2) d h)
def r47_7 : CodeT := fun c _ t d h K =>
 kO (binV Tryz.prog .mul 23 true (tg t 8) (.int .u32 16777619)) d h (fun v1 d h =>
 kO (indexSl 1 (tg t 0) (tg t 9)) d h (fun v4 d h =>
 kO (loadOne h v4) d h (fun v5 d h =>
 kO (toInt .u32 v5) d h (fun v6 d h =>
 kO (binV Tryz.prog .add 23 false v1 v6) d h (fun v7 d h =>
 K .norm (T.set t 8 v7) d h)))))
def r47_6 : CodeT := fun c _ t d h K =>
 kO (binV Tryz.prog .add 3 true (tg t 9) (.int .i64 1)) d h (fun v1 d h =>
 K .norm (T.set t 9 v1) d h)
def l47_8 : Box CodeT := ⟨seqC ⟨seqC ⟨r47_5⟩ ⟨condC (tC 20) skipC (exitC 0)⟩⟩ ⟨seqC ⟨blockC 1 ⟨r47_7⟩⟩ ⟨r47_6⟩⟩⟩
def r47_8 : CodeT := fun c _ t d h0 K =>
 (fun (b0 : Nat) (h : H) =>
 kO (binV Tryz.prog .eql 23 false (tg t 8) (tg t 5)) d h (fun v2 d h =>
 gd (isB true v2) (fun k => kO (some (tg t 0)) d h k) d h (fun v4 d h =>
 gd (isB true v2) (fun k => kO (some (tg t 7)) d h k) d h (fun v5 d h =>
 gd (isB true v2) (fun k => kO (sliceSl 1 v4 none (some v5) none) d h k) d h (fun v6 d h =>
 ite2 (isB true v2) (kO (bytesStr h v6) d h (fun v7 d h =>
 gd (isB true v2) (fun k => kO (some (tg t 1)) d h k) d h (fun v8 d h =>
 ite2 (isB true v2) (kO (bytesStr h v8) d h (fun v9 d h =>
 gd (isB true v2) (fun k => kO (binV Tryz.prog .eql 9 false v7 v9) d h k) d h (fun v10 d h =>
 kO (pickV v2 v10 (.bool false)) d h (fun v11 d h =>
 K .norm (T.set t 42 v11) d h))))
 (gd (isB true v2) (fun k => kO (binV Tryz.prog .eql 9 false v7 undef) d h k) d h (fun v10 d h =>
 kO (pickV v2 v10 (.bool false)) d h (fun v11 d h =>
 K .norm (T.set t 42 v11) d h))))))
 (gd (isB true v2) (fun k => kO (some (tg t 1)) d h k) d h (fun v8 d h =>
 ite2 (isB true v2) (kO (bytesStr h v8) d h (fun v9 d h =>
 gd (isB true v2) (fun k => kO (binV Tryz.prog .eql 9 false undef v9) d h k) d h (fun v10 d h =>
 kO (pickV v2 v10 (.bool false)) d h (fun v11 d h =>
 K .norm (T.set t 42 v11) d h))))
 (gd (isB true v2) (fun k => kO (binV Tryz.prog .eql 9 false undef undef) d h k) d h (fun v10 d h =>
 kO (pickV v2 v10 (.bool false)) d h (fun v11 d h =>
 K .norm (T.set t 42 v11) d h)))))))))) h0.next ⟨h0.objs, h0.next + 12⟩
def r47_9 : CodeT := fun c _ t d h K =>
 K .norm (T.set t 4 (.int .i64 0)) d h
def r47_10 : CodeT := fun c _ t d h K =>
 K .norm (T.set t 10 (tg t 7)) d h
def r47_11 : CodeT := fun c _ t d h K =>
 kO (lenSl (tg t 0)) d h (fun v2 d h =>
 kO (binV Tryz.prog .lss 3 false (tg t 10) v2) d h (fun v3 d h =>
 K .norm (T.set t 47 v3) d h))
def r47_12 : CodeT := fun c _ t d h K =>
 kO (binV Tryz.prog .mul 23 true (tg t 8) (.int .u32 16777619)) d h (fun v1 d h =>
 K .norm (T.set t 8 v1) d h)
def r47_13 : CodeT := fun c _ t d h K =>
 kO (indexSl 1 (tg t 0) (tg t 10)) d h (fun v3 d h =>
 kO (loadOne h v3) d h (fun v4 d h =>
 kO (toInt .u32 v4) d h (fun v5 d h =>
 kO (binV Tryz.prog .add 23 false (tg t 8) v5) d h (fun v6 d h =>
 K .norm (T.set t 8 v6) d h))))
def r47_14 : CodeT := fun c _ t d h K =>
 kO (binV Tryz.prog .sub 3 false (tg t 10) (tg t 7)) d h (fun v5 d h =>
 kO (indexSl 1 (tg t 0) v5) d h (fun v6 d h =>
 kO (loadOne h v6) d h (fun v7 d h =>
 kO (toInt .u32 v7) d h (fun v8 d h =>
 kO (binV Tryz.prog .mul 23 false (tg t 6) v8) d h (fun v9 d h =>
 kO (binV Tryz.prog .sub 23 false (tg t 8) v9) d h (fun v10 d h =>
 K .norm (T.set t 8 v10) d h))))))
def r47_15 : CodeT := fun c _ t d h K =>
 kO (binV Tryz.prog .add 3 true (tg t 10) (.int .i64 1)) d h (fun v1 d h =>
 K .norm (T.set t 10 v1) d h)
def r47_16 : CodeT := fun c _ t d h0 K =>
 (fun (b0 : Nat) (h : H) =>
 kO (binV Tryz.prog .eql 23 false (tg t 8) (tg t 5)) d h (fun v2 d h =>
 gd (isB true v2) (fun k => kO (some (tg t 0)) d h k) d h (fun v4 d h =>
 gd (isB true v2) (fun k => kO (some (tg t 10)) d h k) d h (fun v5 d h =>
 gd (isB true v2) (fun k => kO (some (tg t 7)) d h k) d h (fun v6 d h =>
 gd (isB true v2) (fun k => kO (binV Tryz.prog .sub 3 false v5 v6) d h k) d h (fun v7 d h =>
 gd (isB true v2) (fun k => kO (some (tg t 10)) d h k) d h (fun v8 d h =>
 gd (isB true v2) (fun k => kO (sliceSl 1 v4 (some v7) (some v8) none) d h k) d h (fun v9 d h =>
 ite2 (isB true v2) (kO (bytesStr h v9) d h (fun v10 d h =>
 gd (isB true v2) (fun k => kO (some (tg t 1)) d h k) d h (fun v11 d h =>
 ite2 (isB true v2) (kO (bytesStr h v11) d h (fun v12 d h =>
 gd (isB true v2) (fun k => kO (binV Tryz.prog .eql 9 false v10 v12) d h k) d h (fun v13 d h =>
 kO (pickV v2 v13 (.bool false)) d h (fun v14 d h =>
 K .norm (T.set t 84 v14) d h))))
 (gd (isB true v2) (fun k => kO (binV Tryz.prog .eql 9 false v10 undef) d h k) d h (fun v13 d h =>
 kO (pickV v2 v13 (.bool false)) d h (fun v14 d h =>
 K .norm (T.set t 84 v14) d h))))))
 (gd (isB true v2) (fun k => kO (some (tg t 1)) d h k) d h (fun v11 d h =>
 ite2 (isB true v2) (kO (bytesStr h v11) d h (fun v12 d h =>
 gd (isB true v2) (fun k => kO (binV Tryz.prog .eql 9 false undef v12) d h k) d h (fun v13 d h =>
 kO (pickV v2 v13 (.bool false)) d h (fun v14 d h =>
 K .norm (T.set t 84 v14) d h))))
 (gd (isB true v2) (fun k => kO (binV Tryz.prog .eql 9 false undef undef) d h k) d h (fun v13 d h =>
 kO (pickV v2 v13 (.bool false)) d h (fun v14 d h =>
 K .norm (T.set t 84 v14) d h))))))))))))) h0.next ⟨h0.objs, h0.next + 15⟩
def r47_17 : CodeT := fun c _ t d h K =>
 kO (binV Tryz.prog .sub 3 false (tg t 10) (tg t 7)) d h (fun v2 d h =>
 K .norm (T.set t 4 v2) d h)
def l47_19 : Box CodeT := ⟨seqC ⟨seqC ⟨r47_11⟩ ⟨condC (tC 47) skipC (exitC 2)⟩⟩ ⟨blockC 3 ⟨seqC ⟨r47_12⟩ ⟨seqC ⟨r47_13⟩ ⟨seqC ⟨r47_14⟩ ⟨seqC ⟨r47_15⟩ ⟨seqC ⟨r47_16⟩ ⟨condC (tC 84) ⟨seqC ⟨r47_17⟩ retC⟩ skipC⟩⟩⟩⟩⟩⟩⟩⟩
def r47_18 : CodeT := fun c _ t d h K =>
 K .norm (T.set t 4 (.int .i64 (-1))) d h
def c47 : Box CodeT := ⟨seqC ⟨r47_0⟩ ⟨seqC ⟨r47_1⟩ ⟨seqC ⟨r47_2⟩ ⟨seqC ⟨r47_3⟩ ⟨seqC ⟨seqC ⟨r47_4⟩ ⟨blockC 0 (loopB l47_8)⟩⟩ ⟨seqC ⟨seqC ⟨r47_8⟩ ⟨condC (tC 42) ⟨seqC ⟨r47_9⟩ retC⟩ skipC⟩⟩ ⟨seqC ⟨seqC ⟨r47_10⟩ ⟨blockC 2 (loopB l47_19)⟩⟩ ⟨seqC ⟨r47_18⟩ retC⟩⟩⟩⟩⟩⟩⟩⟩
def q47 : Box (T Value → H → Option (List Value)) := ⟨fun t h => some [tg t 4]⟩
def r48_0 : CodeT := fun c _ t d h K =>
 K .norm (T.set t 4 (.slice none 0 0)) d h
def r48_1 : CodeT := fun c _ t d h K =>
 c 64 [(tg t 0), (tg t 1), (.int .i64 0), (.int .i64 (-1))] h (fun v h => (fun v2 d h =>
 K .norm (T.set t 4 v2) d h) v d h)
def c48 : Box CodeT := ⟨seqC ⟨r48_0⟩ ⟨seqC ⟨r48_1⟩ retC⟩⟩
def q48 : Box (T Value → H → Option (List Value)) := ⟨fun t h => some [tg t 4]⟩
def r49_0 : CodeT := fun c _ t d h K =>
 kA (some (.rw (Value.cells (tg t 0)).toList (some 85), ptrTo h.next)) d h (fun v0 d h =>
 K .norm (T.set (T.set t 1 v0) 2 (.map none)) d h)
def r49_1 : CodeT := fun c _ t d h K =>
 kO (some (.func (.func 65) [].toArray [(tg t 1)].toArray)) d h (fun v0 d h =>
 K .norm (T.set t 3 v0) d h)
def r49_2 : CodeT := fun c _ t d h K =>
 kO (some (.func (.func 67) [].toArray [(tg t 1)].toArray)) d h (fun v0 d h =>
 K .norm (T.set t 4 v0) d h)
def r49_3 : CodeT := fun c _ t d h0 K =>
 (fun (b0 : Nat) (h : H) =>
 kO (loadOne h (tg t 1)) d h (fun v2 d h =>
 kO (some (.func (.func 70) [v2].toArray [].toArray)) d h (fun v3 d h =>
 kO (loadOne h (tg t 1)) d h (fun v7 d h =>
 kO (some (.func (.func 70) [v7].toArray [].toArray)) d h (fun v8 d h =>
 kO (loadOne h (tg t 1)) d h (fun v12 d h =>
 kO (some (.func (.func 71) [v12].toArray [].toArray)) d h (fun v13 d h =>
 kO (loadOne h (tg t 1)) d h (fun v17 d h =>
 kO (some (.func (.func 71) [v17].toArray [].toArray)) d h (fun v18 d h =>
 kO (loadOne h (tg t 1)) d h (fun v22 d h =>
 kO (some (.func (.func 71) [v22].toArray [].toArray)) d h (fun v23 d h =>
 kO (some (.func (.func 72) [].toArray [(tg t 1)].toArray)) d h (fun v27 d h =>
 kO (some (.func (.func 73) [].toArray [(tg t 1)].toArray)) d h (fun v31 d h =>
 kO (some (.func (.func 74) [].toArray [(tg t 1)].toArray)) d h (fun v43 d h =>
 kO (some (.func (.func 76) [].toArray [(tg t 1)].toArray)) d h (fun v49 d h =>
 kL (insV Tryz.prog 9 562949953421313 50 (⟨0, b0 + 0, []⟩ :: []) (.map (some (b0 + 0))) (.string (strB [117, 115, 101, 114])) v49) (fun lt50 =>
 kO (some (.func (.func 77) [].toArray [(tg t 1)].toArray)) d h (fun v51 d h =>
 kL (insV Tryz.prog 9 2251799813685249 52 lt50 (.map (some (b0 + 0))) (.string (strB [116, 114, 97, 99, 107])) v51) (fun lt52 =>
 kO (some (.func (.func 78) [].toArray [(tg t 1)].toArray)) d h (fun v53 d h =>
 kL (insV Tryz.prog 9 9007199254740993 54 lt52 (.map (some (b0 + 0))) (.string (strB [112, 105, 110, 103])) v53) (fun lt54 =>
 kO (some (.func (.func 79) [].toArray [(tg t 1)].toArray)) d h (fun v55 d h =>
 kL (insV Tryz.prog 9 36028797018963969 56 lt54 (.map (some (b0 + 0))) (.string (strB [113, 117, 105, 116])) v55) (fun lt56 =>
 goCall c (funcArgs (tg t 3) [(.int .u8 1), v3]) d h (fun v4 d h =>
 andB ((hO (loadOne h (tg t 1)) v22 (hO (loadOne h (tg t 1)) v17 (hO (loadOne h (tg t 1)) v12 (hO (loadOne h (tg t 1)) v7 true)))) && ltFree 14 lt56) (kL (insV Tryz.prog 9 31 5 lt56 (.map (some (b0 + 0))) (.string (strB [103, 101, 116])) v4) (fun lt5 =>
 goCall c (funcArgs (tg t 3) [(.int .u8 10), v8]) d h (fun v9 d h =>
 andB ((hO (loadOne h (tg t 1)) v22 (hO (loadOne h (tg t 1)) v17 (hO (loadOne h (tg t 1)) v12 true))) && ltFree 478 lt5) (kL (insV Tryz.prog 9 991 10 lt5 (.map (some (b0 + 0))) (.string (strB [100, 101, 108, 101, 116, 101])) v9) (fun lt10 =>
 goCall c (funcArgs (tg t 3) [(.int .u8 2), v13]) d h (fun v14 d h =>
 andB ((hO (loadOne h (tg t 1)) v22 (hO (loadOne h (tg t 1)) v17 true)) && ltFree 15326 lt10) (kL (insV Tryz.prog 9 31711 15 lt10 (.map (some (b0 + 0))) (.string (strB [115, 101, 116])) v14) (fun lt15 =>
 goCall c (funcArgs (tg t 3) [(.int .u8 3), v18]) d h (fun v19 d h =>
 andB ((hO (loadOne h (tg t 1)) v22 true) && ltFree 490462 lt15) (kL (insV Tryz.prog 9 1014751 20 lt15 (.map (some (b0 + 0))) (.string (strB [97, 100, 100])) v19) (fun lt20 =>
 goCall c (funcArgs (tg t 3) [(.int .u8 4), v23]) d h (fun v24 d h =>
 andB (true && ltFree 15694814 lt20) (kL (insV Tryz.prog 9 32472031 25 lt20 (.map (some (b0 + 0))) (.string (strB [114, 101, 112, 108, 97, 99, 101])) v24) (fun lt25 =>
 goCall c (funcArgs (tg t 3) [(.int .u8 5), v27]) d h (fun v28 d h =>
 andB (true && ltFree 233798622 lt25) (kL (insV Tryz.prog 9 502234079 29 lt25 (.map (some (b0 + 0))) (.string (strB [99, 97, 115])) v28) (fun lt29 =>
 goCall c (funcArgs (tg t 3) [(.int .u8 8), v31]) d h (fun v32 d h =>
 andB (true && ltFree 3723459550 lt29) (kL (insV Tryz.prog 9 8018426847 33 lt29 (.map (some (b0 + 0))) (.string (strB [97, 112, 112, 101, 110, 100])) v32) (fun lt33 =>
 goCall c (funcArgs (tg t 3) [(.int .u8 6), (tg t 4)]) d h (fun v36 d h =>
 andB (true && ltFree 59558034398 lt33) (kL (insV Tryz.prog 9 128277511135 37 lt33 (.map (some (b0 + 0))) (.string (strB [105, 110, 99, 114])) v36) (fun lt37 =>
 goCall c (funcArgs (tg t 3) [(.int .u8 7), (tg t 4)]) d h (fun v40 d h =>
 andB (true && ltFree 952911231966 lt37) (kL (insV Tryz.prog 9 2052422859743 41 lt37 (.map (some (b0 + 0))) (.string (strB [100, 101, 99, 114])) v40) (fun lt41 =>
 goCall c (funcArgs (tg t 3) [(.int .u8 9), v43]) d h (fun v44 d h =>
 andB (true && ltFree 15246562393054 lt41) (kL (insV Tryz.prog 9 32838748437471 45 lt41 (.map (some (b0 + 0))) (.string (strB [116, 111, 117, 99, 104])) v44) (fun lt45 =>
 goCall c (funcArgs (tg t 3) [(.int .u8 11), (.func (.func 75) #[] #[])]) d h (fun v47 d h =>
 andB (true && ltFree 103207492615134 lt45) (kL (insV Tryz.prog 9 243944980970463 48 lt45 (.map (some (b0 + 0))) (.string (strB [102, 108, 117, 115, 104])) v47) (fun lt48 =>
 K .norm (T.set t 2 (.map (some (b0 + 0)))) d (absorb (litsAll lt48) h)))))))))))))))))))))))))))))))))))))))))))))))))))))))) h0.next ⟨h0.objs, h0.next + 59⟩
def c49 : Box CodeT := ⟨seqC ⟨r49_0⟩ ⟨seqC ⟨r49_1⟩ ⟨seqC ⟨r49_2⟩ ⟨seqC ⟨r49_3⟩ retC⟩⟩⟩⟩
def q49 : Box (T Value → H → Option (List Value)) := ⟨fun t h => some [tg t 2]⟩
def r50_0 : CodeT := fun c _ t d h K =>
 K .norm (T.set t 2 (.string (strB []))) d h
def r50_1 : CodeT := fun c _ t d h K =>
 kO (nilChk (tg t 0)) d h (fun v1 d h =>
 kO (fieldPtr 0 v1) d h (fun v2 d h =>
 kO (loadOne h v2) d h (fun v3 d h =>
 kO (lenSl v3) d h (fun v4 d h =>
 kO (binV Tryz.prog .eql 3 true v4 (.int .i64 0)) d h (fun v5 d h =>
 K .norm (T.set t 9 v5) d h)))))
def r50_2 : CodeT := fun c _ t d h K =>
 kO (nilChk (tg t 0)) d h (fun v1 d h =>
 kO (fieldPtr 1 v1) d h (fun v2 d h =>
 kH (withV undef (storeV 1 h v2 (.bool false))) d (fun v3 d h =>
 K .norm t d h)))
def r50_3 : CodeT := fun c _ t d h K =>
 K .norm (T.set t 2 (.string (strB []))) d h
def r50_4 : CodeT := fun c _ t d h K =>
 kO (nilChk (tg t 0)) d h (fun v1 d h =>
 kO (fieldPtr 0 v1) d h (fun v2 d h =>
 kO (loadOne h v2) d h (fun v3 d h =>
 kO (indexSl 1 v3 (.int .i64 0)) d h (fun v4 d h =>
 kO (loadOne h v4) d h (fun v5 d h =>
 K .norm (T.set t 3 v5) d h)))))
def r50_5 : CodeT := fun c _ t d h K =>
 kO (nilChk (tg t 0)) d h (fun v2 d h =>
 kO (fieldPtr 0 v2) d h (fun v3 d h =>
 kO (loadOne h v3) d h (fun v4 d h =>
 kO (sliceSl 1 v4 (some (.int .i64 1)) none none) d h (fun v5 d h =>
 kO (nilChk (tg t 0)) d h (fun v6 d h =>
 kO (fieldPtr 0 v6) d h (fun v7 d h =>
 kH (withV undef (storeV 1 h v7 v5)) d (fun v8 d h =>
 K .norm t d h)))))))
def r50_6 : CodeT := fun c _ t d h K =>
 K .norm (T.set t 2 (tg t 3)) d h
def c50 : Box CodeT := ⟨seqC ⟨r50_0⟩ ⟨seqC ⟨seqC ⟨r50_1⟩ ⟨condC (tC 9) ⟨seqC ⟨r50_2⟩ ⟨seqC ⟨r50_3⟩ retC⟩⟩ skipC⟩⟩ ⟨seqC ⟨r50_4⟩ ⟨seqC ⟨r50_5⟩ ⟨seqC ⟨r50_6⟩ retC⟩⟩⟩⟩⟩
def q50 : Box (T Value → H → Option (List Value)) := ⟨fun t h => some [tg t 2]⟩
def r56_0 : CodeT := fun c _ t d h K =>
 K .norm (T.set t 2 (.int .i64 0)) d h
def r56_1 : CodeT := fun c _ t d h K =>
 K .norm (T.set t 3 (tg t 0)) d h
def r56_2 : CodeT := fun c _ t d h K =>
 kO (binV Tryz.prog .eql 5 true (tg t 3) (.int .u8 1)) d h (fun v0 d h =>
 K .norm (T.set t 4 v0) d h)
def r56_3 : CodeT := fun c _ t d h K =>
 kO (binV Tryz.prog .eql 5 true (tg t 3) (.int .u8 10)) d h (fun v0 d h =>
 K .norm (T.set t 4 v0) d h)
def r56_4 : CodeT := fun c _ t d h K =>
 K .norm (T.set t 2 (.int .i64 129)) d h
def r56_5 : CodeT := fun c _ t d h K =>
 kO (binV Tryz.prog .eql 5 true (tg t 3) (.int .u8 2)) d h (fun v0 d h =>
 K .norm (T.set t 7 v0) d h)
def r56_6 : CodeT := fun c _ t d h K =>
 kO (binV Tryz.prog .eql 5 true (tg t 3) (.int .u8 3)) d h (fun v0 d h =>
 K .norm (T.set t 7 v0) d h)
def r56_7 : CodeT := fun c _ t d h K =>
 kO (binV Tryz.prog .eql 5 true (tg t 3) (.int .u8 4)) d h (fun v0 d h =>
 K .norm (T.set t 7 v0) d h)
def r56_8 : CodeT := fun c _ t d h K =>
 K .norm (T.set t 2 (.int .i64 142)) d h
def r56_9 : CodeT := fun c _ t d h K =>
 kO (binV Tryz.prog .eql 5 true (tg t 3) (.int .u8 5)) d h (fun v0 d h =>
 K .norm (T.set t 11 v0) d h)
def r56_10 : CodeT := fun c _ t d h K =>
 K .norm (T.set t 2 (.int .i64 158)) d h
def r56_11 : CodeT := fun c _ t d h K =>
 kO (binV Tryz.prog .eql 5 true (tg t 3) (.int .u8 6)) d h (fun v0 d h =>
 K .norm (T.set t 13 v0) d h)
def r56_12 : CodeT := fun c _ t d h K =>
 kO (binV Tryz.prog .eql 5 true (tg t 3) (.int .u8 7)) d h (fun v0 d h =>
 K .norm (T.set t 13 v0) d h)
def r56_13 : CodeT := fun c _ t d h K =>
 K .norm (T.set t 2 (.int .i64 160)) d h
def r56_14 : CodeT := fun c _ t d h K =>
 kO (binV Tryz.prog .eql 5 true (tg t 3) (.int .u8 8)) d h (fun v0 d h =>
 K .norm (T.set t 16 v0) d h)
def r56_15 : CodeT := fun c _ t d h K =>
 K .norm (T.set t 2 (.int .i64 130)) d h
def r56_16 : CodeT := fun c _ t d h K =>
 kO (binV Tryz.prog .eql 5 true (tg t 3) (.int .u8 9)) d h (fun v0 d h =>
 K .norm (T.set t 18 v0) d h)
def r56_17 : CodeT := fun c _ t d h K =>
 K .norm (T.set t 2 (.int .i64 132)) d h
def r56_18 : CodeT := fun c _ t d h K =>
 kO (binV Tryz.prog .eql 5 true (tg t 3) (.int .u8 11)) d h (fun v0 d h =>
 K .norm (T.set t 20 v0) d h)
def r56_19 : CodeT := fun c _ t d h K =>
 K .norm (T.set t 2 (.int .i64 192)) d h
def r56_20 : CodeT := fun c _ t d h K =>
 K .norm (T.set t 2 (.int .i64 0)) d h
def c56 : Box CodeT := ⟨seqC ⟨r56_0⟩ ⟨seqC ⟨seqC ⟨r56_1⟩ ⟨blockC 0 ⟨seqC ⟨seqC ⟨r56_2⟩ ⟨condC (tC 4) skipC ⟨r56_3⟩⟩⟩ ⟨condC (tC 4) ⟨seqC ⟨r56_4⟩ retC⟩ ⟨seqC ⟨seqC ⟨r56_5⟩ ⟨condC (tC 7) skipC ⟨seqC ⟨r56_6⟩ ⟨condC (tC 7) skipC ⟨r56_7⟩⟩⟩⟩⟩ ⟨condC (tC 7) ⟨seqC ⟨r56_8⟩ retC⟩ ⟨seqC ⟨r56_9⟩ ⟨condC (tC 11) ⟨seqC ⟨r56_10⟩ retC⟩ ⟨seqC ⟨seqC ⟨r56_11⟩ ⟨condC (tC 13) skipC ⟨r56_12⟩⟩⟩ ⟨condC (tC 13) ⟨seqC ⟨r56_13⟩ retC⟩ ⟨seqC ⟨r56_14⟩ ⟨condC (tC 16) ⟨seqC ⟨r56_15⟩ retC⟩ ⟨seqC ⟨r56_16⟩ ⟨condC (tC 18) ⟨seqC ⟨r56_17⟩ retC⟩ ⟨seqC ⟨r56_18⟩ ⟨condC (tC 20) ⟨seqC ⟨r56_19⟩ retC⟩ skipC⟩⟩⟩⟩⟩⟩⟩⟩⟩⟩⟩⟩⟩⟩⟩⟩ ⟨seqC ⟨r56_20⟩ retC⟩⟩⟩
def q56 : Box (T Value → H → Option (List Value)) := ⟨fun t h => some [tg t 2]⟩
def r57_0 : CodeT := fun c _ t d h K =>
 kA (some (.rw (Value.cells (tg t 0)).toList (some 26), ptrTo h.next)) d h (fun v0 d h =>
 K .norm (T.set (T.set t 2 v0) 4 (.bool false)) d h)
def r57_1 : CodeT := fun c _ t d h K =>
 K .norm (T.set (T.set t 5 (.int .i64 1)) 6 (.int .i64 1)) d h
def r57_2 : CodeT := fun c _ t d h K =>
 kO (binV Tryz.prog .and 3 true (tg t 1) (.int .i64 1)) d h (fun v1 d h =>
 kO (binV Tryz.prog .neq 3 true v1 (.int .i64 0)) d h (fun v2 d h =>
 K .norm (T.set t 9 v2) d h))
def r57_3 : CodeT := fun c _ t d h K =>
 K .norm (T.set t 6 (.int .i64 8)) d h
def r57_4 : CodeT := fun c _ t d h K =>
 kO (binV Tryz.prog .and 3 true (tg t 1) (.int .i64 64)) d h (fun v1 d h =>
 kO (binV Tryz.prog .neq 3 true v1 (.int .i64 0)) d h (fun v2 d h =>
 K .norm (T.set t 13 v2) d h))
def r57_5 : CodeT := fun c _ t d h K =>
 K .norm (T.set (T.set t 5 (.int .i64 0)) 6 (.int .i64 0)) d h
def r57_6 : CodeT := fun c _ t d h K => (⟨opStep (oK fun _ t _ => fieldPtr 2 (tg t 2)) pI wT
 ⟨opStep (oK fun e _ h => loadOne h (nthD 0 e)) pI wT
 ⟨opStep (oK fun e _ _ => lenSl (nthD 0 e)) pI wT
 ⟨opStep (oT 5) pI wT
 ⟨opStep (oK fun e _ _ => binV Tryz.prog .lss 3 false (nthD 1 e) (nthD 0 e)) pI wT
 ⟨opStep (oN 0) pI wT
 ⟨opStep (oK fun _ t _ => fieldPtr 2 (tg t 2)) pI (wB false 0)
 ⟨opStep (oK fun e _ h => loadOne h (nthD 0 e)) pI (wB false 1)
 ⟨opStep (oK fun e _ _ => lenSl (nthD 0 e)) pI (wB false 2)
 ⟨opStep (oT 6) pI (wB false 3)
 ⟨opStep (oK fun e _ _ => binV Tryz.prog .gtr 3 false (nthD 1 e) (nthD 0 e)) pI (wB false 4)
 ⟨opStep (oK fun e _ _ => pickV (nthD 5 e) (.bool true) (nthD 0 e)) (pS 28) wT
 ⟨fun _ _ t d h K => K .norm t d h⟩⟩⟩⟩⟩⟩⟩⟩⟩⟩⟩⟩⟩ : Box OpsT).f c [] t d h K
def r57_7 : CodeT := fun c _ t d h K =>
 K .norm (T.set t 4 (.bool false)) d h
def r57_8 : CodeT := fun c _ t d h K =>
 kO (fieldPtr 2 (tg t 2)) d h (fun v0 d h =>
 kO (loadOne h v0) d h (fun v1 d h =>
 kO (lenSl v1) d h (fun v2 d h =>
 K .norm (T.set (T.set (T.set t 30 v1) 31 v2) 32 (.int .i64 0)) d h)))
def r57_9 : CodeT := fun c _ t d h K =>
 kO (binV Tryz.prog .lss 3 false (tg t 32) (tg t 31)) d h (fun v0 d h =>
 K .norm (T.set t 33 v0) d h)
def r57_10 : CodeT := fun c _ t d h K =>
 kO (indexSl 1 (tg t 30) (tg t 32)) d h (fun v1 d h =>
 kO (loadOne h v1) d h (fun v2 d h =>
 K .norm (T.set (T.set t 7 (tg t 32)) 8 v2) d h))
def r57_11 : CodeT := fun c _ t d h K => (⟨opStep (oT 8) pI wT
 ⟨opStep (oK fun e _ _ => lenStr (nthD 0 e)) pI wT
 ⟨opStep (oK fun e _ _ => binV Tryz.prog .lss 3 true (nthD 0 e) (.int .i64 1)) pI wT
 ⟨opStep (oN 0) pI wT
 ⟨opStep (oT 8) pI (wB false 0)
 ⟨opStep (oK fun e _ _ => lenStr (nthD 0 e)) pI (wB false 1)
 ⟨opStep (oK fun e _ _ => binV Tryz.prog .gtr 3 true (nthD 0 e) (.int .i64 32)) pI (wB false 2)
 ⟨opStep (oK fun e _ _ => pickV (nthD 3 e) (.bool true) (nthD 0 e)) pI wT
 ⟨opStep (oN 0) pI wT
 ⟨opStep (oK fun _ t _ => fieldPtr 2 (tg t 2)) pI (wB false 0)
 ⟨opStep (oK fun e _ h => loadOne h (nthD 0 e)) pI (wB false 1)
 ⟨opStep (oT 7) pI (wB false 2)
 ⟨opStep (oK fun e _ _ => sliceSl 1 (nthD 1 e) none (some (nthD 0 e)) none) pI (wB false 3)
 ⟨opStep (oT 8) pI (wB false 4)
 ⟨opStep ⟨fun c e t d h K => c 82 [(nthD 1 e), (nthD 0 e)] h (fun v h => (K) v d h)⟩ pI (wB false 5)
 ⟨opStep (oK fun e _ _ => pickV (nthD 6 e) (.bool true) (nthD 0 e)) (pS 52) wT
 ⟨fun _ _ t d h K => K .norm t d h⟩⟩⟩⟩⟩⟩⟩⟩⟩⟩⟩⟩⟩⟩⟩⟩⟩ : Box OpsT).f c [] t d h K
def r57_12 : CodeT := fun c _ t d h K =>
 K .norm (T.set t 4 (.bool false)) d h
def r57_13 : CodeT := fun c _ t d h K =>
 kO (binV Tryz.prog .add 3 true (tg t 32) (.int .i64 1)) d h (fun v0 d h =>
 K .norm (T.set t 32 v0) d h)
def l57_14 : Box CodeT := ⟨seqC ⟨r57_9⟩ ⟨seqC ⟨condC (tC 33) skipC (exitC 1)⟩ ⟨seqC ⟨blockC 2 ⟨seqC ⟨r57_10⟩ ⟨seqC ⟨r57_11⟩ ⟨condC (tC 52) ⟨seqC ⟨r57_12⟩ retC⟩ skipC⟩⟩⟩⟩ ⟨r57_13⟩⟩⟩⟩
def r57_14 : CodeT := fun c _ t d h K =>
 K .norm (T.set t 4 (.bool true)) d h
def c57 : Box CodeT := ⟨seqC ⟨r57_0⟩ ⟨seqC ⟨r57_1⟩ ⟨seqC ⟨blockC 0 ⟨seqC ⟨r57_2⟩ ⟨condC (tC 9) ⟨r57_3⟩ ⟨seqC ⟨r57_4⟩ ⟨condC (tC 13) ⟨r57_5⟩ skipC⟩⟩⟩⟩⟩ ⟨seqC ⟨seqC ⟨r57_6⟩ ⟨condC (tC 28) ⟨seqC ⟨r57_7⟩ retC⟩ skipC⟩⟩ ⟨seqC ⟨seqC ⟨r57_8⟩ ⟨blockC 1 (loopB l57_14)⟩⟩ ⟨seqC ⟨r57_14⟩ retC⟩⟩⟩⟩⟩⟩
def q57 : Box (T Value → H → Option (List Value)) := ⟨fun t h => some [tg t 4]⟩
def r58_0 : CodeT := fun c _ t d h K =>
 K .norm (T.set t 6 (.int .i64 0)) d h
def r58_1 : CodeT := fun c _ t d h K =>
 kH (rangeStr h (tg t 0)) d (fun v1 d h =>
 K .norm (T.set t 10 v1) d h)
def r58_2 : CodeT := fun c _ t d h K =>
 nextV true h (tg t 10) (fun v h => (fun v0 d h =>
 kO (tupNth 0 v0) d h (fun v1 d h =>
 K .norm (T.set (T.set t 11 v0) 12 v1) d h)) v d h)
def r58_3 : CodeT := fun c _ t d h K =>
 kO (tupNth 1 (tg t 11)) d h (fun v0 d h =>
 kO (tupNth 2 (tg t 11)) d h (fun v1 d h =>
 K .norm (T.set (T.set t 7 v0) 8 v1) d h))
def r58_4 : CodeT := fun c _ t d h K =>
 goCall c (funcArgs (tg t 1) [(tg t 8)]) d h (fun v2 d h =>
 kO (binV Tryz.prog .eql 4 false v2 (tg t 2)) d h (fun v4 d h =>
 K .norm (T.set t 19 v4) d h))
def r58_5 : CodeT := fun c _ t d h K =>
 K .norm (T.set t 6 (tg t 7)) d h
def l58_6 : Box CodeT := ⟨seqC ⟨r58_2⟩ ⟨seqC ⟨condC (tC 12) skipC (exitC 0)⟩ ⟨blockC 1 ⟨seqC ⟨r58_3⟩ ⟨seqC ⟨r58_4⟩ ⟨condC (tC 19) ⟨seqC ⟨r58_5⟩ retC⟩ skipC⟩⟩⟩⟩⟩⟩
def r58_6 : CodeT := fun c _ t d h K =>
 K .norm (T.set t 6 (.int .i64 (-1))) d h
def c58 : Box CodeT := ⟨seqC ⟨r58_0⟩ ⟨seqC ⟨seqC ⟨r58_1⟩ ⟨blockC 0 (loopB l58_6)⟩⟩ ⟨seqC ⟨r58_6⟩ retC⟩⟩⟩
def q58 : Box (T Value → H → Option (List Value)) := ⟨fun t h => some [tg t 6]⟩
def r59_0 : CodeT := fun c _ t d h K =>
 kO (nilChk (tg t 0)) d h (fun v1 d h =>
 kO (fieldPtr 0 v1) d h (fun v2 d h =>
 kO (loadOne h v2) d h (fun v3 d h =>
 kO (binV Tryz.prog .eql 72 true v3 (.pointer none)) d h (fun v4 d h =>
 K .norm (T.set t 6 v4) d h))))
def r59_1 : CodeT := fun c _ t d h K =>
 kO (ptrUns h (tg t 0)) d h (fun v2 d h =>
 c 83 [v2] h (fun v h => (fun v3 d h =>
 kO (unsPtr 74 2 h v3) d h (fun v4 d h =>
 kO (nilChk (tg t 0)) d h (fun v5 d h =>
 kO (fieldPtr 0 v5) d h (fun v6 d h =>
 kH (withV undef (storeV 1 h v6 v4)) d (fun v7 d h =>
 K .norm t d h))))) v d h))
def r59_2 : CodeT := fun c _ t d h K =>
 kO (nilChk (tg t 0)) d h (fun v1 d h =>
 kO (fieldPtr 0 v1) d h (fun v2 d h =>
 kO (loadOne h v2) d h (fun v3 d h =>
 kO (binV Tryz.prog .neq 72 false v3 (tg t 0)) d h (fun v5 d h =>
 K .norm (T.set t 19 v5) d h))))
def c59 : Box CodeT := ⟨seqC ⟨r59_0⟩ ⟨condC (tC 6) ⟨r59_1⟩ ⟨seqC ⟨r59_2⟩ ⟨condC (tC 19) stop skipC⟩⟩⟩⟩
def q59 : Box (T Value → H → Option (List Value)) := ⟨fun t h => some []⟩
def r60_0 : CodeT := fun c _ t d h0 K =>
 (fun (b0 : Nat) (h : H) =>
 kO (nilChk (tg t 0)) d h (fun v1 d h =>
 kO (fieldPtr 1 v1) d h (fun v2 d h =>
 kO (loadOne h v2) d h (fun v3 d h =>
 kO (capV v3) d h (fun v4 d h =>
 kO (binV Tryz.prog .mul 3 true (.int .i64 2) v4) d h (fun v5 d h =>
 kO (binV Tryz.prog .add 3 false v5 (tg t 1)) d h (fun v7 d h =>
 kO (nilChk (tg t 0)) d h (fun v10 d h =>
 kO (fieldPtr 1 v10) d h (fun v11 d h =>
 kO (loadOne h v11) d h (fun v12 d h =>
 kO (lenSl v12) d h (fun v13 d h =>
 c 84 [v7] h (fun v h => (fun v8 d h =>
 andB ((hO (loadOne h v11) v12 true) && true) (kO (sliceSl 1 v8 none (some v13) none) d h (fun v14 d h =>
 K .norm (T.set t 4 v14) d h))) v d h)))))))))))) h0.next ⟨h0.objs, h0.next + 16⟩
def r60_1 : CodeT := fun c _ t d h K =>
 kO (nilChk (tg t 0)) d h (fun v2 d h =>
 kO (fieldPtr 1 v2) d h (fun v3 d h =>
 kO (loadOne h v3) d h (fun v4 d h =>
 kH (copyV 1 h (tg t 4) v4) d (fun v5 d h =>
 K .norm t d h))))
def r60_2 : CodeT := fun c _ t d h K =>
 kO (nilChk (tg t 0)) d h (fun v2 d h =>
 kO (fieldPtr 1 v2) d h (fun v3 d h =>
 kH (withV undef (storeV 1 h v3 (tg t 4))) d (fun v4 d h =>
 K .norm t d h)))
def c60 : Box CodeT := ⟨seqC ⟨r60_0⟩ ⟨seqC ⟨r60_1⟩ ⟨r60_2⟩⟩⟩
def q60 : Box (T Value → H → Option (List Value)) := ⟨fun t h => some []⟩
def r61_0 : CodeT := fun c _ t d h K =>
 K .norm (T.set t 4 (.string (strB []))) d h
def r61_1 : CodeT := fun c _ t d h K =>
 kO (binV Tryz.prog .eql 3 true (tg t 1) (.int .i64 10)) d h (fun v1 d h =>
 K .norm (T.set t 10 v1) d h)
def r61_2 : CodeT := fun c _ t d h K =>
 kO (binV Tryz.prog .lss 24 true (tg t 0) (.int .u64 100)) d h (fun v1 d h =>
 K .norm (T.set t 12 v1) d h)
def r61_3 : CodeT := fun c _ t d h K =>
 kO (toInt .i64 (tg t 0)) d h (fun v1 d h =>
 c 85 [v1] h (fun v h => (fun v2 d h =>
 K .norm (T.set t 4 v2) d h) v d h))
def r61_4 : CodeT := fun c _ t d h K =>
 kA (some (.rw [(.int .u8 0), (.int .u8 0), (.int .u8 0), (.int .u8 0), (.int .u8 0), (.int .u8 0), (.int .u8 0), (.int .u8 0), (.int .u8 0), (.int .u8 0), (.int .u8 0), (.int .u8 0), (.int .u8 0), (.int .u8 0), (.int .u8 0), (.int .u8 0), (.int .u8 0), (.int .u8 0), (.int .u8 0), (.int .u8 0), (.int .u8 0), (.int .u8 0), (.int .u8 0), (.int .u8 0)] (some 113), ptrTo h.next)) d h (fun v0 d h =>
 K .norm (T.set t 5 v0) d h)
def r61_5 : CodeT := fun c _ t d h K =>
 c 86 [(tg t 0)] h (fun v h => (fun v1 d h =>
 K .norm (T.set t 6 v1) d h) v d h)
def r61_6 : CodeT := fun c _ t d h K =>
 kO (sliceArr 1 24 (tg t 5) none (some (tg t 6)) none) d h (fun v1 d h =>
 c 87 [v1, (tg t 0)] h (fun v h => (fun v3 d h =>
 K .norm t d h) v d h))
def r61_7 : CodeT := fun c _ t d h K =>
 kO (sliceArr 1 24 (tg t 5) none (some (tg t 6)) none) d h (fun v1 d h =>
 kO (bytesStr h v1) d h (fun v2 d h =>
 K .norm (T.set t 4 v2) d h))
def r61_8 : CodeT := fun c _ t d h K =>
 c 88 [(.slice none 0 0), (tg t 0), (tg t 1), (.bool false), (.bool false)] h (fun v h => (fun v2 d h =>
 kO (tupNth 0 v2) d h (fun v4 d h =>
 kO (tupNth 1 v2) d h (fun v5 d h =>
 K .norm (T.set t 8 v5) d h))) v d h)
def r61_9 : CodeT := fun c _ t d h K =>
 K .norm (T.set t 4 (tg t 8)) d h
def c61 : Box CodeT := ⟨seqC ⟨r61_0⟩ ⟨seqC ⟨seqC ⟨r61_1⟩ ⟨condC (tC 10) ⟨seqC ⟨seqC ⟨r61_2⟩ ⟨condC (tC 12) ⟨seqC ⟨r61_3⟩ retC⟩ skipC⟩⟩ ⟨seqC ⟨r61_4⟩ ⟨seqC ⟨r61_5⟩ ⟨seqC ⟨r61_6⟩ ⟨seqC ⟨r61_7⟩ retC⟩⟩⟩⟩⟩ skipC⟩⟩ ⟨seqC ⟨r61_8⟩ ⟨seqC ⟨r61_9⟩ retC⟩⟩⟩⟩
def q61 : Box (T Value → H → Option (List Value)) := ⟨fun t h => some [tg t 4]⟩
def r63_0 : CodeT := fun c _ t d h K =>
 K .norm (T.set (T.set t 2 (.int .u32 0)) 3 (.int .u32 0)) d h
def r63_1 : CodeT := fun c _ t d h K =>
 K .norm (T.set t 4 (.int .u32 0)) d h
def r63_2 : CodeT := fun c _ t d h K =>
 K .norm (T.set t 5 (.int .i64 0)) d h
def r63_3 : CodeT := fun c _ t d h K =>
 kO (lenSl (tg t 0)) d h (fun v2 d h =>
 kO (binV Tryz.prog .lss 3 false (tg t 5) v2) d h (fun v3 d h =>
 K .norm (T.set t 12 v3) d h))
def r63_5 : CodeT := fun c _ t d h K =>
 kO (binV Tryz.prog .mul 23 true (tg t 4) (.int .u32 16777619)) d h (fun v1 d h =>
 kO (indexSl 1 (tg t 0) (tg t 5)) d h (fun v4 d h =>
 kO (loadOne h v4) d h (fun v5 d h =>
 kO (toInt .u32 v5) d h (fun v6 d h =>
 kO (binV Tryz.prog .add 23 false v1 v6) d h (fun v7 d h =>
 K .norm (T.set t 4 v7) d h)))))
def r63_4 : CodeT := fun c _ t d h K =>
 kO (binV Tryz.prog .add 3 true (tg t 5) (.int .i64 1)) d h (fun v1 d h =>
 K .norm (T.set t 5 v1) d h)
def l63_6 : Box CodeT := ⟨seqC ⟨seqC ⟨r63_3⟩ ⟨condC (tC 12) skipC (exitC 0)⟩⟩ ⟨seqC ⟨blockC 1 ⟨r63_5⟩⟩ ⟨r63_4⟩⟩⟩
def r63_6 : CodeT := fun c _ t d h K =>
 K .norm (T.set (T.set t 6 (.int .u32 1)) 7 (.int .u32 16777619)) d h
def r63_7 : CodeT := fun c _ t d h K =>
 kO (lenSl (tg t 0)) d h (fun v1 d h =>
 K .norm (T.set t 8 v1) d h)
def r63_8 : CodeT := fun c _ t d h K =>
 kO (binV Tryz.prog .gtr 3 true (tg t 8) (.int .i64 0)) d h (fun v1 d h =>
 K .norm (T.set t 26 v1) d h)
def r63_10 : CodeT := fun c _ t d h K =>
 kO (binV Tryz.prog .and 3 true (tg t 8) (.int .i64 1)) d h (fun v1 d h =>
 kO (binV Tryz.prog .neq 3 true v1 (.int .i64 0)) d h (fun v2 d h =>
 K .norm (T.set t 31 v2) d h))
def r63_11 : CodeT := fun c _ t d h K =>
 kO (binV Tryz.prog .mul 23 false (tg t 6) (tg t 7)) d h (fun v2 d h =>
 K .norm (T.set t 6 v2) d h)
def r63_12 : CodeT := fun c _ t d h K =>
 kO (binV Tryz.prog .mul 23 false (tg t 7) (tg t 7)) d h (fun v2 d h =>
 K .norm (T.set t 7 v2) d h)
def r63_9 : CodeT := fun c _ t d h K =>
 kO (binV Tryz.prog .shr 3 true (tg t 8) (.int .u64 1)) d h (fun v1 d h =>
 K .norm (T.set t 8 v1) d h)
def l63_14 : Box CodeT := ⟨seqC ⟨seqC ⟨r63_8⟩ ⟨condC (tC 26) skipC (exitC 2)⟩⟩ ⟨seqC ⟨blockC 3 ⟨seqC ⟨seqC ⟨r63_10⟩ ⟨condC (tC 31) ⟨r63_11⟩ skipC⟩⟩ ⟨r63_12⟩⟩⟩ ⟨r63_9⟩⟩⟩
def r63_13 : CodeT := fun c _ t d h K =>
 K .norm (T.set (T.set t 2 (tg t 4)) 3 (tg t 6)) d h
def c63 : Box CodeT := ⟨seqC ⟨r63_0⟩ ⟨seqC ⟨r63_1⟩ ⟨seqC ⟨seqC ⟨r63_2⟩ ⟨blockC 0 (loopB l63_6)⟩⟩ ⟨seqC ⟨r63_6⟩ ⟨seqC ⟨seqC ⟨r63_7⟩ ⟨blockC 2 (loopB l63_14)⟩⟩ ⟨seqC ⟨r63_13⟩ retC⟩⟩⟩⟩⟩⟩
def q63 : Box (T Value → H → Option (List Value)) := ⟨fun t h => some [tg t 2, tg t 3]⟩
def r64_0 : CodeT := fun c _ t d h K =>
 K .norm (T.set t 8 (.slice none 0 0)) d h
def r64_1 : CodeT := fun c _ t d h K =>
 kO (binV Tryz.prog .eql 3 true (tg t 3) (.int .i64 0)) d h (fun v1 d h =>
 K .norm (T.set t 13 v1) d h)
def r64_2 : CodeT := fun c _ t d h K =>
 K .norm (T.set t 8 (.slice none 0 0)) d h
def r64_3 : CodeT := fun c _ t d h K =>
 kO (binV Tryz.prog .eql 9 true (tg t 1) (.string (strB []))) d h (fun v1 d h =>
 K .norm (T.set t 15 v1) d h)
def r64_4 : CodeT := fun c _ t d h K =>
 c 89 [(tg t 0), (tg t 3)] h (fun v h => (fun v2 d h =>
 K .norm (T.set t 8 v2) d h) v d h)
def r64_5 : CodeT := fun c _ t d h K =>
 kO (binV Tryz.prog .lss 3 true (tg t 3) (.int .i64 0)) d h (fun v1 d h =>
 K .norm (T.set t 20 v1) d h)
def r64_6 : CodeT := fun c _ t d h K =>
 c 90 [(tg t 0), (tg t 1)] h (fun v h => (fun v2 d h =>
 kO (binV Tryz.prog .add 3 true v2 (.int .i64 1)) d h (fun v3 d h =>
 K .norm (T.set t 3 v3) d h)) v d h)
def r64_7 : CodeT := fun c _ t d h K =>
 kO (lenStr (tg t 0)) d h (fun v2 d h =>
 kO (binV Tryz.prog .add 3 true v2 (.int .i64 1)) d h (fun v3 d h =>
 kO (foldMM false [(tg t 3), v3]) d h (fun v4 d h =>
 K .norm (T.set t 3 v4) d h)))
def r64_8 : CodeT := fun c _ t d h K =>
 kA (mkSlice 9 [(.string (strB []))] 16 h.next (tg t 3) (tg t 3)) d h (fun v1 d h =>
 K .norm (T.set t 9 v1) d h)
def r64_9 : CodeT := fun c _ t d h K =>
 kO (binV Tryz.prog .sub 3 true (tg t 3) (.int .i64 1)) d h (fun v1 d h =>
 K .norm (T.set t 3 v1) d h)
def r64_10 : CodeT := fun c _ t d h K =>
 K .norm (T.set t 10 (.int .i64 0)) d h
def r64_11 : CodeT := fun c _ t d h K =>
 kO (binV Tryz.prog .lss 3 false (tg t 10) (tg t 3)) d h (fun v2 d h =>
 K .norm (T.set t 36 v2) d h)
def r64_12 : CodeT := fun c _ t d h K =>
 c 91 [(tg t 0), (tg t 1)] h (fun v h => (fun v2 d h =>
 K .norm (T.set t 11 v2) d h) v d h)
def r64_13 : CodeT := fun c _ t d h K =>
 kO (binV Tryz.prog .lss 3 true (tg t 11) (.int .i64 0)) d h (fun v1 d h =>
 K .norm (T.set t 41 v1) d h)
def r64_14 : CodeT := fun c _ t d h K =>
 kO (binV Tryz.prog .add 3 false (tg t 11) (tg t 2)) d h (fun v5 d h =>
 kO (sliceStr (tg t 0) none (some v5) none) d h (fun v6 d h =>
 kO (indexSl 1 (tg t 9) (tg t 10)) d h (fun v7 d h =>
 kH (withV undef (storeV 1 h v7 v6)) d (fun v8 d h =>
 K .norm t d h))))
def r64_15 : CodeT := fun c _ t d h K =>
 kO (lenStr (tg t 1)) d h (fun v3 d h =>
 kO (binV Tryz.prog .add 3 false (tg t 11) v3) d h (fun v4 d h =>
 kO (sliceStr (tg t 0) (some v4) none none) d h (fun v5 d h =>
 K .norm (T.set t 0 v5) d h)))
def r64_16 : CodeT := fun c _ t d h K =>
 kO (binV Tryz.prog .add 3 true (tg t 10) (.int .i64 1)) d h (fun v1 d h =>
 K .norm (T.set t 10 v1) d h)
def l64_17 : Box CodeT := ⟨seqC ⟨seqC ⟨r64_11⟩ ⟨condC (tC 36) skipC (exitC 0)⟩⟩ ⟨blockC 1 ⟨seqC ⟨r64_12⟩ ⟨seqC ⟨seqC ⟨r64_13⟩ ⟨condC (tC 41) (exitC 0) skipC⟩⟩ ⟨seqC ⟨r64_14⟩ ⟨seqC ⟨r64_15⟩ ⟨r64_16⟩⟩⟩⟩⟩⟩⟩
def r64_17 : CodeT := fun c _ t d h K =>
 kO (indexSl 1 (tg t 9) (tg t 10)) d h (fun v3 d h =>
 kH (withV undef (storeV 1 h v3 (tg t 0))) d (fun v4 d h =>
 K .norm t d h))
def r64_18 : CodeT := fun c _ t d h K =>
 kO (binV Tryz.prog .add 3 true (tg t 10) (.int .i64 1)) d h (fun v2 d h =>
 kO (sliceSl 1 (tg t 9) none (some v2) none) d h (fun v3 d h =>
 K .norm (T.set t 8 v3) d h))
def c64 : Box CodeT := ⟨seqC ⟨r64_0⟩ ⟨seqC ⟨seqC ⟨r64_1⟩ ⟨condC (tC 13) ⟨seqC ⟨r64_2⟩ retC⟩ skipC⟩⟩ ⟨seqC ⟨seqC ⟨r64_3⟩ ⟨condC (tC 15) ⟨seqC ⟨r64_4⟩ retC⟩ skipC⟩⟩ ⟨seqC ⟨seqC ⟨r64_5⟩ ⟨condC (tC 20) ⟨r64_6⟩ skipC⟩⟩ ⟨seqC ⟨r64_7⟩ ⟨seqC ⟨r64_8⟩ ⟨seqC ⟨r64_9⟩ ⟨seqC ⟨r64_10⟩ ⟨seqC ⟨blockC 0 (loopB l64_17)⟩ ⟨seqC ⟨r64_17⟩ ⟨seqC ⟨r64_18⟩ retC⟩⟩⟩⟩⟩⟩⟩⟩⟩⟩⟩
def q64 : Box (T Value → H → Option (List Value)) := ⟨fun t h => some [tg t 8]⟩
def r65_0 : CodeT := fun c _ t d h K =>
 kA (some (.rw (Value.cells (tg t 0)).toList (some 5), ptrTo h.next)) d h (fun v0 d h =>
 kA (some (.rw (Value.cells (tg (T.set t 3 v0) 1)).toList (some 1), ptrTo h.next)) d h (fun v1 d h =>
 K .norm (T.set (T.set (T.set t 3 v0) 4 v1) 5 .nilFunc) d h))
def r65_1 : CodeT := fun c _ t d h K =>
 kO (some (.func (.func 66) [].toArray [(tg t 3), (tg t 2), (tg t 4)].toArray)) d h (fun v0 d h =>
 K .norm (T.set t 5 v0) d h)
def c65 : Box CodeT := ⟨seqC ⟨r65_0⟩ ⟨seqC ⟨r65_1⟩ retC⟩⟩
def q65 : Box (T Value → H → Option (List Value)) := ⟨fun t h => some [tg t 5]⟩
def r66_0 : CodeT := fun c _ t d h0 K =>
 (fun (b0 : Nat) (h : H) =>
 kO (loadOne h (tg t 1)) d h (fun v0 d h =>
 kO (loadOne h (tg t 1)) d h (fun v1 d h =>
 kO (loadOne h (tg t 0)) d h (fun v2 d h =>
 kO (nilChk v0) d h (fun v3 d h =>
 kO (fieldPtr 2 v3) d h (fun v4 d h =>
 kO (fieldPtr 0 v4) d h (fun v5 d h =>
 kH (withV undef (storeV 1 h v5 (.int .u8 1))) d (fun v6 d h =>
 andB ((hO (loadOne h (tg t 0)) v2 (hO (loadOne h (tg t 1)) v1 true)) && true) (kO (nilChk v1) d h (fun v7 d h =>
 kO (fieldPtr 2 v7) d h (fun v8 d h =>
 kO (fieldPtr 1 v8) d h (fun v9 d h =>
 kO (fieldPtr 0 v9) d h (fun v10 d h =>
 kH (withV undef (storeV 1 h v10 v2)) d (fun v11 d h =>
 K .norm t d h)))))))))))))) h0.next ⟨h0.objs, h0.next + 12⟩
def r66_1 : CodeT := fun c _ t d h K =>
 kO (loadOne h (tg t 2)) d h (fun v0 d h =>
 goCall c (funcArgs v0 []) d h (fun v1 d h =>
 K .norm t d h))
def c66 : Box CodeT := ⟨seqC ⟨r66_0⟩ ⟨r66_1⟩⟩
def q66 : Box (T Value → H → Option (List Value)) := ⟨fun t h => some []⟩
def r67_0 : CodeT := fun c _ t d h K =>
 kO (loadOne h (tg t 0)) d h (fun v0 d h =>
 c 68 [v0] h (fun v h => (fun v1 d h =>
 K .norm t d h) v d h))
def r67_1 : CodeT := fun c _ t d h0 K =>
 (fun (b0 : Nat) (h : H) =>
 kO (loadOne h (tg t 0)) d h (fun v0 d h =>
 kO (loadOne h (tg t 0)) d h (fun v1 d h =>
 c 69 [v1, (.int .u64 18446744073709551615)] h (fun v h => (fun v2 d h =>
 andB ((hO (loadOne h (tg t 0)) v0 true) && true) (kO (nilChk v0) d h (fun v3 d h =>
 kO (fieldPtr 2 v3) d h (fun v4 d h =>
 kO (fieldPtr 1 v4) d h (fun v5 d h =>
 kO (fieldPtr 7 v5) d h (fun v6 d h =>
 kH (withV undef (storeV 1 h v6 v2)) d (fun v7 d h =>
 K .norm t d h))))))) v d h)))) h0.next ⟨h0.objs, h0.next + 8⟩
def c67 : Box CodeT := ⟨seqC ⟨r67_0⟩ ⟨r67_1⟩⟩
def q67 : Box (T Value → H → Option (List Value)) := ⟨fun t h => some []⟩
def r68_0 : CodeT := fun c _ t d h K =>
 c 50 [(tg t 0)] h (fun v h => (fun v1 d h =>
 K .norm (T.set t 2 v1) d h) v d h)
def r68_1 : CodeT := fun c _ t d h K =>
 kO (nilChk (tg t 0)) d h (fun v2 d h =>
 kO (fieldPtr 1 v2) d h (fun v3 d h =>
 kO (loadOne h v3) d h (fun v4 d h =>
 gd (isB true v4) (fun k => kO (some (tg t 2)) d h (k)) d h (fun v6 d h =>
 gd (isB true v4) (fun k => c 25 [v6, (.int .i64 32)] h (fun v h => (k) v d h)) d h (fun v7 d h =>
 kO (pickV v4 v7 (.bool false)) d h (fun v8 d h =>
 kO (nilChk (tg t 0)) d h (fun v9 d h =>
 kO (fieldPtr 1 v9) d h (fun v10 d h =>
 kH (withV undef (storeV 1 h v10 v8)) d (fun v11 d h =>
 K .norm t d h)))))))))
def r68_2 : CodeT := fun c _ t d h K =>
 kO (nilChk (tg t 0)) d h (fun v2 d h =>
 kO (fieldPtr 2 v2) d h (fun v3 d h =>
 kO (fieldPtr 1 v3) d h (fun v4 d h =>
 kO (fieldPtr 2 v4) d h (fun v5 d h =>
 kO (loadOne h v5) d h (fun v6 d h =>
 kA (mkLit 9 1 h.next (fill (repl [(.string (strB []))] 1) (pl 1) [(0, (tg t 2))])) d h (fun v8 d h =>
 kH (appendV 9 1 16 h v6 v8) d (fun v9 d h =>
 kO (nilChk (tg t 0)) d h (fun v10 d h =>
 kO (fieldPtr 2 v10) d h (fun v11 d h =>
 kO (fieldPtr 1 v11) d h (fun v12 d h =>
 kO (fieldPtr 2 v12) d h (fun v13 d h =>
 kH (withV undef (storeV 1 h v13 v9)) d (fun v14 d h =>
 K .norm t d h))))))))))))
def c68 : Box CodeT := ⟨seqC ⟨r68_0⟩ ⟨seqC ⟨r68_1⟩ ⟨r68_2⟩⟩⟩
def q68 : Box (T Value → H → Option (List Value)) := ⟨fun t h => some []⟩
def r69_0 : CodeT := fun c _ t d h K =>
 K .norm (T.set t 4 (.int .u64 0)) d h
def r69_1 : CodeT := fun c _ t d h K =>
 c 50 [(tg t 0)] h (fun v h => (fun v1 d h =>
 c 92 [v1, (tg t 1)] h (fun v h => (fun v3 d h =>
 kO (tupNth 0 v3) d h (fun v5 d h =>
 kO (tupNth 1 v3) d h (fun v6 d h =>
 K .norm (T.set (T.set t 5 v5) 6 v6) d h))) v d h)) v d h)
def r69_2 : CodeT := fun c _ t d h K =>
 kO (nilChk (tg t 0)) d h (fun v2 d h =>
 kO (fieldPtr 1 v2) d h (fun v3 d h =>
 kO (loadOne h v3) d h (fun v4 d h =>
 gd (isB true v4) (fun k => kO (some (tg t 6)) d h (k)) d h (fun v6 d h =>
 kO (pickV v4 v6 (.bool false)) d h (fun v7 d h =>
 kO (nilChk (tg t 0)) d h (fun v8 d h =>
 kO (fieldPtr 1 v8) d h (fun v9 d h =>
 kH (withV undef (storeV 1 h v9 v7)) d (fun v10 d h =>
 K .norm t d h))))))))
def r69_3 : CodeT := fun c _ t d h K =>
 K .norm (T.set t 4 (tg t 5)) d h
def c69 : Box CodeT := ⟨seqC ⟨r69_0⟩ ⟨seqC ⟨r69_1⟩ ⟨seqC ⟨r69_2⟩ ⟨seqC ⟨r69_3⟩ retC⟩⟩⟩⟩
def q69 : Box (T Value → H → Option (List Value)) := ⟨fun t h => some [tg t 4]⟩
def r70_0 : CodeT := fun c _ t d h K =>
 c 68 [(tg t 0)] h (fun v h => (fun v1 d h =>
 K .norm t d h) v d h)
def r70_1 : CodeT := fun c _ t d h K =>
 kO (nilChk (tg t 0)) d h (fun v1 d h =>
 kO (fieldPtr 0 v1) d h (fun v2 d h =>
 kO (loadOne h v2) d h (fun v3 d h =>
 kO (lenSl v3) d h (fun v4 d h =>
 kO (binV Tryz.prog .gtr 3 true v4 (.int .i64 0)) d h (fun v5 d h =>
 K .norm (T.set t 9 v5) d h)))))
def r70_2 : CodeT := fun c _ t d h K =>
 c 68 [(tg t 0)] h (fun v h => (fun v1 d h =>
 K .norm t d h) v d h)
def l70_3 : Box CodeT := ⟨seqC ⟨seqC ⟨r70_1⟩ ⟨condC (tC 9) skipC (exitC 0)⟩⟩ ⟨blockC 1 ⟨r70_2⟩⟩⟩
def c70 : Box CodeT := ⟨seqC ⟨r70_0⟩ ⟨blockC 0 (loopB l70_3)⟩⟩
def q70 : Box (T Value → H → Option (List Value)) := ⟨fun t h => some []⟩
def r71_0 : CodeT := fun c _ t d h K =>
 c 68 [(tg t 0)] h (fun v h => (fun v1 d h =>
 K .norm t d h) v d h)
def r71_1 : CodeT := fun c _ t d h K =>
 c 69 [(tg t 0), (.int .u64 4294967295)] h (fun v h => (fun v2 d h =>
 kO (toInt .u32 v2) d h (fun v3 d h =>
 kO (nilChk (tg t 0)) d h (fun v4 d h =>
 kO (fieldPtr 2 v4) d h (fun v5 d h =>
 kO (fieldPtr 1 v5) d h (fun v6 d h =>
 kO (fieldPtr 4 v6) d h (fun v7 d h =>
 kH (withV undef (storeV 1 h v7 v3)) d (fun v8 d h =>
 K .norm t d h))))))) v d h)
def r71_2 : CodeT := fun c _ t d h K =>
 c 69 [(tg t 0), (.int .u64 1099511627776)] h (fun v h => (fun v2 d h =>
 kO (toInt .i64 v2) d h (fun v3 d h =>
 kO (nilChk (tg t 0)) d h (fun v4 d h =>
 kO (fieldPtr 2 v4) d h (fun v5 d h =>
 kO (fieldPtr 1 v5) d h (fun v6 d h =>
 kO (fieldPtr 5 v6) d h (fun v7 d h =>
 kH (withV undef (storeV 1 h v7 v3)) d (fun v8 d h =>
 K .norm t d h))))))) v d h)
def r71_3 : CodeT := fun c _ t d h K =>
 c 69 [(tg t 0), (.int .u64 512)] h (fun v h => (fun v2 d h =>
 kO (toInt .i64 v2) d h (fun v3 d h =>
 kO (nilChk (tg t 0)) d h (fun v4 d h =>
 kO (fieldPtr 15 v4) d h (fun v5 d h =>
 kH (withV undef (storeV 1 h v5 v3)) d (fun v6 d h =>
 K .norm t d h))))) v d h)
def c71 : Box CodeT := ⟨seqC ⟨r71_0⟩ ⟨seqC ⟨r71_1⟩ ⟨seqC ⟨r71_2⟩ ⟨r71_3⟩⟩⟩⟩
def q71 : Box (T Value → H → Option (List Value)) := ⟨fun t h => some []⟩
def r72_0 : CodeT := fun c _ t d h K =>
 kO (loadOne h (tg t 0)) d h (fun v0 d h =>
 c 71 [v0] h (fun v h => (fun v1 d h =>
 K .norm t d h) v d h))
def r72_1 : CodeT := fun c _ t d h0 K =>
 (fun (b0 : Nat) (h : H) =>
 kO (loadOne h (tg t 0)) d h (fun v0 d h =>
 kO (loadOne h (tg t 0)) d h (fun v1 d h =>
 c 69 [v1, (.int .u64 18446744073709551615)] h (fun v h => (fun v2 d h =>
 andB ((hO (loadOne h (tg t 0)) v0 true) && true) (kO (nilChk v0) d h (fun v3 d h =>
 kO (fieldPtr 2 v3) d h (fun v4 d h =>
 kO (fieldPtr 1 v4) d h (fun v5 d h =>
 kO (fieldPtr 6 v5) d h (fun v6 d h =>
 kH (withV undef (storeV 1 h v6 v2)) d (fun v7 d h =>
 K .norm t d h))))))) v d h)))) h0.next ⟨h0.objs, h0.next + 8⟩
def c72 : Box CodeT := ⟨seqC ⟨r72_0⟩ ⟨r72_1⟩⟩
def q72 : Box (T Value → H → Option (List Value)) := ⟨fun t h => some []⟩
def r73_0 : CodeT := fun c _ t d h K =>
 kO (loadOne h (tg t 0)) d h (fun v0 d h =>
 c 68 [v0] h (fun v h => (fun v1 d h =>
 K .norm t d h) v d h))
def r73_1 : CodeT := fun c _ t d h0 K =>
 (fun (b0 : Nat) (h : H) =>
 kO (loadOne h (tg t 0)) d h (fun v0 d h =>
 kO (loadOne h (tg t 0)) d h (fun v1 d h =>
 c 69 [v1, (.int .u64 512)] h (fun v h => (fun v2 d h =>
 andB ((hO (loadOne h (tg t 0)) v0 true) && true) (kO (toInt .i64 v2) d h (fun v3 d h =>
 kO (nilChk v0) d h (fun v4 d h =>
 kO (fieldPtr 15 v4) d h (fun v5 d h =>
 kH (withV undef (storeV 1 h v5 v3)) d (fun v6 d h =>
 K .norm t d h)))))) v d h)))) h0.next ⟨h0.objs, h0.next + 7⟩
def c73 : Box CodeT := ⟨seqC ⟨r73_0⟩ ⟨r73_1⟩⟩
def q73 : Box (T Value → H → Option (List Value)) := ⟨fun t h => some []⟩
def r74_0 : CodeT := fun c _ t d h K =>
 kO (loadOne h (tg t 0)) d h (fun v0 d h =>
 c 68 [v0] h (fun v h => (fun v1 d h =>
 K .norm t d h) v d h))
def r74_1 : CodeT := fun c _ t d h0 K =>
 (fun (b0 : Nat) (h : H) =>
 kO (loadOne h (tg t 0)) d h (fun v0 d h =>
 kO (loadOne h (tg t 0)) d h (fun v1 d h =>
 c 69 [v1, (.int .u64 1099511627776)] h (fun v h => (fun v2 d h =>
 andB ((hO (loadOne h (tg t 0)) v0 true) && true) (kO (toInt .i64 v2) d h (fun v3 d h =>
 kO (nilChk v0) d h (fun v4 d h =>
 kO (fieldPtr 2 v4) d h (fun v5 d h =>
 kO (fieldPtr 1 v5) d h (fun v6 d h =>
 kO (fieldPtr 5 v6) d h (fun v7 d h =>
 kH (withV undef (storeV 1 h v7 v3)) d (fun v8 d h =>
 K .norm t d h)))))))) v d h)))) h0.next ⟨h0.objs, h0.next + 9⟩
def c74 : Box CodeT := ⟨seqC ⟨r74_0⟩ ⟨r74_1⟩⟩
def q74 : Box (T Value → H → Option (List Value)) := ⟨fun t h => some []⟩
def c75 : Box CodeT := skipC
def q75 : Box (T Value → H → Option (List Value)) := ⟨fun t h => some []⟩
def r76_0 : CodeT := fun c _ t d h0 K =>
 (fun (b0 : Nat) (h : H) =>
 kO (loadOne h (tg t 0)) d h (fun v0 d h =>
 kO (loadOne h (tg t 0)) d h (fun v1 d h =>
 kO (loadOne h (tg t 0)) d h (fun v2 d h =>
 kO (loadOne h (tg t 0)) d h (fun v3 d h =>
 kO (loadOne h (tg t 0)) d h (fun v6 d h =>
 c 69 [v3, (.int .u64 3)] h (fun v h => (fun v4 d h =>
 andB ((hO (loadOne h (tg t 0)) v6 (hO (loadOne h (tg t 0)) v2 (hO (loadOne h (tg t 0)) v1 (hO (loadOne h (tg t 0)) v0 true)))) && true) (kO (toInt .i64 v4) d h (fun v5 d h =>
 c 50 [v6] h (fun v h => (fun v7 d h =>
 andB ((hO (loadOne h (tg t 0)) v2 (hO (loadOne h (tg t 0)) v1 (hO (loadOne h (tg t 0)) v0 true))) && true) (kO (nilChk v0) d h (fun v8 d h =>
 kO (fieldPtr 2 v8) d h (fun v9 d h =>
 kO (fieldPtr 0 v9) d h (fun v10 d h =>
 kH (withV undef (storeV 1 h v10 (.int .u8 2))) d (fun v11 d h =>
 andB ((hO (loadOne h (tg t 0)) v2 (hO (loadOne h (tg t 0)) v1 true)) && true) (kO (nilChk v1) d h (fun v12 d h =>
 kO (fieldPtr 2 v12) d h (fun v13 d h =>
 kO (fieldPtr 9 v13) d h (fun v14 d h =>
 kH (withV undef (storeV 1 h v14 v5)) d (fun v15 d h =>
 andB ((hO (loadOne h (tg t 0)) v2 true) && true) (kO (nilChk v2) d h (fun v16 d h =>
 kO (fieldPtr 2 v16) d h (fun v17 d h =>
 kO (fieldPtr 10 v17) d h (fun v18 d h =>
 kH (withV undef (storeV 1 h v18 v7)) d (fun v19 d h =>
 K .norm t d h)))))))))))))))) v d h)))) v d h))))))) h0.next ⟨h0.objs, h0.next + 20⟩
def r76_1 : CodeT := fun c _ t d h0 K =>
 (fun (b0 : Nat) (h : H) =>
 kO (loadOne h (tg t 0)) d h (fun v0 d h =>
 kO (loadOne h (tg t 0)) d h (fun v1 d h =>
 kO (nilChk v1) d h (fun v2 d h =>
 kO (fieldPtr 1 v2) d h (fun v3 d h =>
 kO (loadOne h v3) d h (fun v4 d h =>
 ite2 (isB true v4) (kO (loadOne h (tg t 0)) d h (fun v6 d h =>
 gd (isB true v4) (fun k => kO (nilChk v6) d h k) d h (fun v7 d h =>
 gd (isB true v4) (fun k => kO (fieldPtr 2 v7) d h k) d h (fun v8 d h =>
 gd (isB true v4) (fun k => kO (fieldPtr 10 v8) d h k) d h (fun v9 d h =>
 ite2 (isB true v4) (kO (loadOne h v9) d h (fun v10 d h =>
 ite2 (isB true v4) (c 25 [v10, (.int .i64 16)] h (fun v h => (fun v11 d h =>
 andB ((hO (loadOne h (tg t 0)) v0 true) && true) (kO (pickV v4 v11 (.bool false)) d h (fun v12 d h =>
 kO (nilChk v0) d h (fun v13 d h =>
 kO (fieldPtr 1 v13) d h (fun v14 d h =>
 kH (withV undef (storeV 1 h v14 v12)) d (fun v15 d h =>
 K .norm t d h)))))) v d h))
 (kO (pickV v4 undef (.bool false)) d h (fun v12 d h =>
 kO (nilChk v0) d h (fun v13 d h =>
 kO (fieldPtr 1 v13) d h (fun v14 d h =>
 kH (withV undef (storeV 1 h v14 v12)) d (fun v15 d h =>
 K .norm t d h)))))))
 (ite2 (isB true v4) (c 25 [undef, (.int .i64 16)] h (fun v h => (fun v11 d h =>
 andB ((hO (loadOne h (tg t 0)) v0 true) && true) (kO (pickV v4 v11 (.bool false)) d h (fun v12 d h =>
 kO (nilChk v0) d h (fun v13 d h =>
 kO (fieldPtr 1 v13) d h (fun v14 d h =>
 kH (withV undef (storeV 1 h v14 v12)) d (fun v15 d h =>
 K .norm t d h)))))) v d h))
 (kO (pickV v4 undef (.bool false)) d h (fun v12 d h =>
 kO (nilChk v0) d h (fun v13 d h =>
 kO (fieldPtr 1 v13) d h (fun v14 d h =>
 kH (withV undef (storeV 1 h v14 v12)) d (fun v15 d h =>
 K .norm t d h)))))))))))
 (gd (isB true v4) (fun k => kO (nilChk undef) d h k) d h (fun v7 d h =>
 gd (isB true v4) (fun k => kO (fieldPtr 2 v7) d h k) d h (fun v8 d h =>
 gd (isB true v4) (fun k => kO (fieldPtr 10 v8) d h k) d h (fun v9 d h =>
 ite2 (isB true v4) (kO (loadOne h v9) d h (fun v10 d h =>
 ite2 (isB true v4) (c 25 [v10, (.int .i64 16)] h (fun v h => (fun v11 d h =>
 andB ((hO (loadOne h (tg t 0)) v0 true) && true) (kO (pickV v4 v11 (.bool false)) d h (fun v12 d h =>
 kO (nilChk v0) d h (fun v13 d h =>
 kO (fieldPtr 1 v13) d h (fun v14 d h =>
 kH (withV undef (storeV 1 h v14 v12)) d (fun v15 d h =>
 K .norm t d h)))))) v d h))
 (kO (pickV v4 undef (.bool false)) d h (fun v12 d h =>
 kO (nilChk v0) d h (fun v13 d h =>
 kO (fieldPtr 1 v13) d h (fun v14 d h =>
 kH (withV undef (storeV 1 h v14 v12)) d (fun v15 d h =>
 K .norm t d h)))))))
 (ite2 (isB true v4) (c 25 [undef, (.int .i64 16)] h (fun v h => (fun v11 d h =>
 andB ((hO (loadOne h (tg t 0)) v0 true) && true) (kO (pickV v4 v11 (.bool false)) d h (fun v12 d h =>
 kO (nilChk v0) d h (fun v13 d h =>
 kO (fieldPtr 1 v13) d h (fun v14 d h =>
 kH (withV undef (storeV 1 h v14 v12)) d (fun v15 d h =>
 K .norm t d h)))))) v d h))
 (kO (pickV v4 undef (.bool false)) d h (fun v12 d h =>
 kO (nilChk v0) d h (fun v13 d h =>
 kO (fieldPtr 1 v13) d h (fun v14 d h =>
 kH (withV undef (storeV 1 h v14 v12)) d (fun v15 d h =>
 K .norm t d h)))))))))))))))) h0.next ⟨h0.objs, h0.next + 16⟩
def c76 : Box CodeT := ⟨seqC ⟨r76_0⟩ ⟨r76_1⟩⟩
def q76 : Box (T Value → H → Option (List Value)) := ⟨fun t h => some []⟩
def r77_0 : CodeT := fun c _ t d h K =>
 kO (loadOne h (tg t 0)) d h (fun v0 d h =>
 c 50 [v0] h (fun v h => (fun v1 d h =>
 K .norm (T.set t 1 v1) d h) v d h))
def r77_1 : CodeT := fun c _ t d h0 K =>
 (fun (b0 : Nat) (h : H) =>
 kO (loadOne h (tg t 0)) d h (fun v0 d h =>
 kO (loadOne h (tg t 0)) d h (fun v1 d h =>
 kO (loadOne h (tg t 0)) d h (fun v2 d h =>
 kO (binV Tryz.prog .eql 9 true (tg t 1) (.string (strB [111, 110]))) d h (fun v4 d h =>
 kO (loadOne h (tg t 0)) d h (fun v5 d h =>
 kO (nilChk v5) d h (fun v6 d h =>
 kO (fieldPtr 1 v6) d h (fun v7 d h =>
 kO (loadOne h v7) d h (fun v8 d h =>
 gd (isB true v8) (fun k => kO (some (tg t 1)) d h k) d h (fun v10 d h =>
 gd (isB true v8) (fun k => kO (binV Tryz.prog .eql 9 true v10 (.string (strB [111, 110]))) d h k) d h (fun v11 d h =>
 gd (isB true v8) (fun k => kO (some v11) d h k) d h (fun v12 d h =>
 gd (isB false v12) (fun k => kO (some (tg t 1)) d h k) d h (fun v13 d h =>
 gd (isB false v12) (fun k => kO (binV Tryz.prog .eql 9 true v13 (.string (strB [111, 102, 102]))) d h k) d h (fun v14 d h =>
 gd (isB true v8) (fun k => kO (pickV v12 (.bool true) v14) d h k) d h (fun v15 d h =>
 kO (pickV v8 v15 (.bool false)) d h (fun v16 d h =>
 kO (nilChk v0) d h (fun v17 d h =>
 kO (fieldPtr 2 v17) d h (fun v18 d h =>
 kO (fieldPtr 0 v18) d h (fun v19 d h =>
 kH (withV undef (storeV 1 h v19 (.int .u8 3))) d (fun v20 d h =>
 andB ((hO (loadOne h (tg t 0)) v2 (hO (loadOne h (tg t 0)) v1 true)) && true) (kO (nilChk v1) d h (fun v21 d h =>
 kO (fieldPtr 2 v21) d h (fun v22 d h =>
 kO (fieldPtr 11 v22) d h (fun v23 d h =>
 kH (withV undef (storeV 1 h v23 v4)) d (fun v24 d h =>
 andB ((hO (loadOne h (tg t 0)) v2 true) && true) (kO (nilChk v2) d h (fun v25 d h =>
 kO (fieldPtr 1 v25) d h (fun v26 d h =>
 kH (withV undef (storeV 1 h v26 v16)) d (fun v27 d h =>
 K .norm t d h))))))))))))))))))))))))))))) h0.next ⟨h0.objs, h0.next + 28⟩
def c77 : Box CodeT := ⟨seqC ⟨r77_0⟩ ⟨r77_1⟩⟩
def q77 : Box (T Value → H → Option (List Value)) := ⟨fun t h => some []⟩
def r78_0 : CodeT := fun c _ t d h K =>
 kO (loadOne h (tg t 0)) d h (fun v0 d h =>
 kO (nilChk v0) d h (fun v1 d h =>
 kO (fieldPtr 2 v1) d h (fun v2 d h =>
 kO (fieldPtr 0 v2) d h (fun v3 d h =>
 kH (withV undef (storeV 1 h v3 (.int .u8 4))) d (fun v4 d h =>
 K .norm t d h)))))
def c78 : Box CodeT := ⟨r78_0⟩
def q78 : Box (T Value → H → Option (List Value)) := ⟨fun t h => some []⟩
def r79_0 : CodeT := fun c _ t d h K =>
 kO (loadOne h (tg t 0)) d h (fun v0 d h =>
 kO (nilChk v0) d h (fun v1 d h =>
 kO (fieldPtr 2 v1) d h (fun v2 d h =>
 kO (fieldPtr 0 v2) d h (fun v3 d h =>
 kH (withV undef (storeV 1 h v3 (.int .u8 5))) d (fun v4 d h =>
 K .norm t d h)))))
def c79 : Box CodeT := ⟨r79_0⟩
def q79 : Box (T Value → H → Option (List Value)) := ⟨fun t h => some []⟩
def r82_0 : CodeT := fun c _ t d h K =>
 K .norm (T.set t 4 (.bool false)) d h
def r82_1 : CodeT := fun c _ t d h K =>
 c 94 [(tg t 0), (tg t 1)] h (fun v h => (fun v2 d h =>
 kO (binV Tryz.prog .geq 3 true v2 (.int .i64 0)) d h (fun v3 d h =>
 K .norm (T.set t 4 v3) d h)) v d h)
def c82 : Box CodeT := ⟨seqC ⟨r82_0⟩ ⟨seqC ⟨r82_1⟩ retC⟩⟩
def q82 : Box (T Value → H → Option (List Value)) := ⟨fun t h => some [tg t 4]⟩
def r85_0 : CodeT := fun c _ t d h K =>
 K .norm (T.set t 2 (.string (strB []))) d h
def r85_1 : CodeT := fun c _ t d h K =>
 kO (binV Tryz.prog .lss 3 true (tg t 0) (.int .i64 10)) d h (fun v1 d h =>
 K .norm (T.set t 4 v1) d h)
def r85_2 : CodeT := fun c _ t d h K =>
 kO (binV Tryz.prog .add 3 true (tg t 0) (.int .i64 1)) d h (fun v2 d h =>
 kO (sliceStr (.string (strB [48, 49, 50, 51, 52, 53, 54, 55, 56, 57, 97, 98, 99, 100, 101, 102, 103, 104, 105, 106, 107, 108, 109, 110, 111, 112, 113, 114, 115, 116, 117, 118, 119, 120, 121, 122])) (some (tg t 0)) (some v2) none) d h (fun v3 d h =>
 K .norm (T.set t 2 v3) d h))
def r85_3 : CodeT := fun c _ t d h K =>
 kO (binV Tryz.prog .mul 3 true (tg t 0) (.int .i64 2)) d h (fun v1 d h =>
 kO (binV Tryz.prog .mul 3 true (tg t 0) (.int .i64 2)) d h (fun v3 d h =>
 kO (binV Tryz.prog .add 3 true v3 (.int .i64 2)) d h (fun v4 d h =>
 kO (sliceStr SM (some v1) (some v4) none) d h (fun v5 d h =>
 K .norm (T.set t 2 v5) d h))))
def c85 : Box CodeT := ⟨seqC ⟨r85_0⟩ ⟨seqC ⟨seqC ⟨r85_1⟩ ⟨condC (tC 4) ⟨seqC ⟨r85_2⟩ retC⟩ skipC⟩⟩ ⟨seqC ⟨r85_3⟩ retC⟩⟩⟩
def q85 : Box (T Value → H → Option (List Value)) := ⟨fun t h => some [tg t 2]⟩
def r86_0 : CodeT := fun c _ t d h K =>
 K .norm (T.set t 2 (.int .i64 0)) d h
def r86_1 : CodeT := fun c _ t d h K =>
 c 96 [(tg t 0)] h (fun v h => (fun v1 d h =>
 c 95 [v1] h (fun v h => (fun v2 d h =>
 K .norm (T.set t 3 v2) d h) v d h)) v d h)
def r86_2 : CodeT := fun c _ t d h K =>
 kO (indexArr 1 20 (.pointer (some ⟨1, 0, none⟩)) (tg t 3)) d h (fun v3 d h =>
 kO (loadOne h v3) d h (fun v4 d h =>
 kO (binV Tryz.prog .geq 24 false (tg t 0) v4) d h (fun v5 d h =>
 c 97 [v5] h (fun v h => (fun v6 d h =>
 kO (binV Tryz.prog .add 3 false (tg t 3) v6) d h (fun v7 d h =>
 K .norm (T.set t 2 v7) d h)) v d h))))
def c86 : Box CodeT := ⟨seqC ⟨r86_0⟩ ⟨seqC ⟨r86_1⟩ ⟨seqC ⟨r86_2⟩ retC⟩⟩⟩
def q86 : Box (T Value → H → Option (List Value)) := ⟨fun t h => some [tg t 2]⟩
def r87_0 : CodeT := fun c _ t d h K =>
 kO (lenSl (tg t 0)) d h (fun v1 d h =>
 K .norm (T.set t 4 v1) d h)
def r87_1 : CodeT := fun c _ t d h K =>
 kO (binV Tryz.prog .geq 3 true (tg t 4) (.int .i64 8)) d h (fun v1 d h =>
 K .norm (T.set t 20 v1) d h)
def r87_2 : CodeT := fun c _ t d h K =>
 kO (binV Tryz.prog .rem 24 true (tg t 1) (.int .u64 100000000)) d h (fun v1 d h =>
 kO (toInt .u32 v1) d h (fun v2 d h =>
 K .norm (T.set t 5 v2) d h))
def r87_3 : CodeT := fun c _ t d h K =>
 kO (binV Tryz.prog .quo 24 true (tg t 1) (.int .u64 100000000)) d h (fun v1 d h =>
 K .norm (T.set t 1 v1) d h)
def r87_4 : CodeT := fun c _ t d h K =>
 kO (binV Tryz.prog .quo 23 true (tg t 5) (.int .u32 10000)) d h (fun v1 d h =>
 kO (binV Tryz.prog .rem 23 true (tg t 5) (.int .u32 10000)) d h (fun v3 d h =>
 K .norm (T.set (T.set t 6 v1) 7 v3) d h))
def r87_5 : CodeT := fun c _ t d h K =>
 kO (binV Tryz.prog .quo 23 true (tg t 7) (.int .u32 100)) d h (fun v1 d h =>
 kO (binV Tryz.prog .mul 23 true v1 (.int .u32 2)) d h (fun v2 d h =>
 kO (binV Tryz.prog .rem 23 true (tg t 7) (.int .u32 100)) d h (fun v4 d h =>
 kO (binV Tryz.prog .mul 23 true v4 (.int .u32 2)) d h (fun v5 d h =>
 K .norm (T.set (T.set t 8 v2) 9 v5) d h))))
def r87_6 : CodeT := fun c _ t d h K =>
 kO (binV Tryz.prog .quo 23 true (tg t 6) (.int .u32 100)) d h (fun v1 d h =>
 kO (binV Tryz.prog .mul 23 true v1 (.int .u32 2)) d h (fun v2 d h =>
 kO (binV Tryz.prog .rem 23 true (tg t 6) (.int .u32 100)) d h (fun v4 d h =>
 kO (binV Tryz.prog .mul 23 true v4 (.int .u32 2)) d h (fun v5 d h =>
 K .norm (T.set (T.set t 10 v2) 11 v5) d h))))
def r87_7 : CodeT := fun c _ t d h0 K =>
 (fun (b0 : Nat) (h : H) =>
 kO (binV Tryz.prog .sub 3 true (tg t 4) (.int .i64 1)) d h (fun v2 d h =>
 kO (binV Tryz.prog .sub 3 true (tg t 4) (.int .i64 2)) d h (fun v5 d h =>
 kO (binV Tryz.prog .add 23 true (tg t 9) (.int .u32 1)) d h (fun v7 d h =>
 kO (indexStr SM v7) d h (fun v8 d h =>
 kO (indexStr SM (tg t 9)) d h (fun v10 d h =>
 kO (indexSl 1 (tg t 0) v2) d h (fun v11 d h =>
 kH (withV undef (storeV 1 h v11 v8)) d (fun v12 d h =>
 kO (indexSl 1 (tg t 0) v5) d h (fun v13 d h =>
 kH (withV undef (storeV 1 h v13 v10)) d (fun v14 d h =>
 K .norm t d h)))))))))) h0.next ⟨h0.objs, h0.next + 15⟩
def r87_8 : CodeT := fun c _ t d h0 K =>
 (fun (b0 : Nat) (h : H) =>
 kO (binV Tryz.prog .sub 3 true (tg t 4) (.int .i64 3)) d h (fun v2 d h =>
 kO (binV Tryz.prog .sub 3 true (tg t 4) (.int .i64 4)) d h (fun v5 d h =>
 kO (binV Tryz.prog .add 23 true (tg t 8) (.int .u32 1)) d h (fun v7 d h =>
 kO (indexStr SM v7) d h (fun v8 d h =>
 kO (indexStr SM (tg t 8)) d h (fun v10 d h =>
 kO (indexSl 1 (tg t 0) v2) d h (fun v11 d h =>
 kH (withV undef (storeV 1 h v11 v8)) d (fun v12 d h =>
 kO (indexSl 1 (tg t 0) v5) d h (fun v13 d h =>
 kH (withV undef (storeV 1 h v13 v10)) d (fun v14 d h =>
 K .norm t d h)))))))))) h0.next ⟨h0.objs, h0.next + 15⟩
def r87_9 : CodeT := fun c _ t d h0 K =>
 (fun (b0 : Nat) (h : H) =>
 kO (binV Tryz.prog .sub 3 true (tg t 4) (.int .i64 5)) d h (fun v2 d h =>
 kO (binV Tryz.prog .sub 3 true (tg t 4) (.int .i64 6)) d h (fun v5 d h =>
 kO (binV Tryz.prog .add 23 true (tg t 11) (.int .u32 1)) d h (fun v7 d h =>
 kO (indexStr SM v7) d h (fun v8 d h =>
 kO (indexStr SM (tg t 11)) d h (fun v10 d h =>
 kO (indexSl 1 (tg t 0) v2) d h (fun v11 d h =>
 kH (withV undef (storeV 1 h v11 v8)) d (fun v12 d h =>
 kO (indexSl 1 (tg t 0) v5) d h (fun v13 d h =>
 kH (withV undef (storeV 1 h v13 v10)) d (fun v14 d h =>
 K .norm t d h)))))))))) h0.next ⟨h0.objs, h0.next + 15⟩
def r87_10 : CodeT := fun c _ t d h0 K =>
 (fun (b0 : Nat) (h : H) =>
 kO (binV Tryz.prog .sub 3 true (tg t 4) (.int .i64 7)) d h (fun v2 d h =>
 kO (binV Tryz.prog .sub 3 true (tg t 4) (.int .i64 8)) d h (fun v5 d h =>
 kO (binV Tryz.prog .add 23 true (tg t 10) (.int .u32 1)) d h (fun v7 d h =>
 kO (indexStr SM v7) d h (fun v8 d h =>
 kO (indexStr SM (tg t 10)) d h (fun v10 d h =>
 kO (indexSl 1 (tg t 0) v2) d h (fun v11 d h =>
 kH (withV undef (storeV 1 h v11 v8)) d (fun v12 d h =>
 kO (indexSl 1 (tg t 0) v5) d h (fun v13 d h =>
 kH (withV undef (storeV 1 h v13 v10)) d (fun v14 d h =>
 K .norm t d h)))))))))) h0.next ⟨h0.objs, h0.next + 15⟩
def r87_11 : CodeT := fun c _ t d h K =>
 kO (binV Tryz.prog .sub 3 true (tg t 4) (.int .i64 8)) d h (fun v1 d h =>
 K .norm (T.set t 4 v1) d h)
def l87_12 : Box CodeT := ⟨seqC ⟨seqC ⟨r87_1⟩ ⟨condC (tC 20) skipC (exitC 0)⟩⟩ ⟨blockC 1 ⟨seqC ⟨r87_2⟩ ⟨seqC ⟨r87_3⟩ ⟨seqC ⟨r87_4⟩ ⟨seqC ⟨r87_5⟩ ⟨seqC ⟨r87_6⟩ ⟨seqC ⟨r87_7⟩ ⟨seqC ⟨r87_8⟩ ⟨seqC ⟨r87_9⟩ ⟨seqC ⟨r87_10⟩ ⟨r87_11⟩⟩⟩⟩⟩⟩⟩⟩⟩⟩⟩⟩
def r87_12 : CodeT := fun c _ t d h K =>
 kO (toInt .u32 (tg t 1)) d h (fun v1 d h =>
 K .norm (T.set t 12 v1) d h)
def r87_13 : CodeT := fun c _ t d h K =>
 kO (binV Tryz.prog .geq 3 true (tg t 4) (.int .i64 4)) d h (fun v1 d h =>
 K .norm (T.set t 99 v1) d h)
def r87_14 : CodeT := fun c _ t d h K =>
 kO (binV Tryz.prog .rem 23 true (tg t 12) (.int .u32 10000)) d h (fun v1 d h =>
 K .norm (T.set t 13 v1) d h)
def r87_15 : CodeT := fun c _ t d h K =>
 kO (binV Tryz.prog .quo 23 true (tg t 12) (.int .u32 10000)) d h (fun v1 d h =>
 K .norm (T.set t 12 v1) d h)
def r87_16 : CodeT := fun c _ t d h K =>
 kO (binV Tryz.prog .quo 23 true (tg t 13) (.int .u32 100)) d h (fun v1 d h =>
 kO (binV Tryz.prog .mul 23 true v1 (.int .u32 2)) d h (fun v2 d h =>
 kO (binV Tryz.prog .rem 23 true (tg t 13) (.int .u32 100)) d h (fun v4 d h =>
 kO (binV Tryz.prog .mul 23 true v4 (.int .u32 2)) d h (fun v5 d h =>
 K .norm (T.set (T.set t 14 v2) 15 v5) d h))))
def r87_17 : CodeT := fun c _ t d h0 K =>
 (fun (b0 : Nat) (h : H) =>
 kO (binV Tryz.prog .sub 3 true (tg t 4) (.int .i64 1)) d h (fun v2 d h =>
 kO (binV Tryz.prog .sub 3 true (tg t 4) (.int .i64 2)) d h (fun v5 d h =>
 kO (binV Tryz.prog .add 23 true (tg t 15) (.int .u32 1)) d h (fun v7 d h =>
 kO (indexStr SM v7) d h (fun v8 d h =>
 kO (indexStr SM (tg t 15)) d h (fun v10 d h =>
 kO (indexSl 1 (tg t 0) v2) d h (fun v11 d h =>
 kH (withV undef (storeV 1 h v11 v8)) d (fun v12 d h =>
 kO (indexSl 1 (tg t 0) v5) d h (fun v13 d h =>
 kH (withV undef (storeV 1 h v13 v10)) d (fun v14 d h =>
 K .norm t d h)))))))))) h0.next ⟨h0.objs, h0.next + 15⟩
def r87_18 : CodeT := fun c _ t d h0 K =>
 (fun (b0 : Nat) (h : H) =>
 kO (binV Tryz.prog .sub 3 true (tg t 4) (.int .i64 3)) d h (fun v2 d h =>
 kO (binV Tryz.prog .sub 3 true (tg t 4) (.int .i64 4)) d h (fun v5 d h =>
 kO (binV Tryz.prog .add 23 true (tg t 14) (.int .u32 1)) d h (fun v7 d h =>
 kO (indexStr SM v7) d h (fun v8 d h =>
 kO (indexStr SM (tg t 14)) d h (fun v10 d h =>
 kO (indexSl 1 (tg t 0) v2) d h (fun v11 d h =>
 kH (withV undef (storeV 1 h v11 v8)) d (fun v12 d h =>
 kO (indexSl 1 (tg t 0) v5) d h (fun v13 d h =>
 kH (withV undef (storeV 1 h v13 v10)) d (fun v14 d h =>
 K .norm t d h)))))))))) h0.next ⟨h0.objs, h0.next + 15⟩
def r87_19 : CodeT := fun c _ t d h K =>
 kO (binV Tryz.prog .sub 3 true (tg t 4) (.int .i64 4)) d h (fun v1 d h =>
 K .norm (T.set t 4 v1) d h)
def r87_20 : CodeT := fun c _ t d h K =>
 kO (binV Tryz.prog .geq 3 true (tg t 4) (.int .i64 2)) d h (fun v1 d h =>
 K .norm (T.set t 139 v1) d h)
def r87_21 : CodeT := fun c _ t d h K =>
 kO (binV Tryz.prog .rem 23 true (tg t 12) (.int .u32 100)) d h (fun v1 d h =>
 kO (binV Tryz.prog .mul 23 true v1 (.int .u32 2)) d h (fun v2 d h =>
 K .norm (T.set t 16 v2) d h))
def r87_22 : CodeT := fun c _ t d h K =>
 kO (binV Tryz.prog .quo 23 true (tg t 12) (.int .u32 100)) d h (fun v1 d h =>
 K .norm (T.set t 12 v1) d h)
def r87_23 : CodeT := fun c _ t d h0 K =>
 (fun (b0 : Nat) (h : H) =>
 kO (binV Tryz.prog .sub 3 true (tg t 4) (.int .i64 1)) d h (fun v2 d h =>
 kO (binV Tryz.prog .sub 3 true (tg t 4) (.int .i64 2)) d h (fun v5 d h =>
 kO (binV Tryz.prog .add 23 true (tg t 16) (.int .u32 1)) d h (fun v7 d h =>
 kO (indexStr SM v7) d h (fun v8 d h =>
 kO (indexStr SM (tg t 16)) d h (fun v10 d h =>
 kO (indexSl 1 (tg t 0) v2) d h (fun v11 d h =>
 kH (withV undef (storeV 1 h v11 v8)) d (fun v12 d h =>
 kO (indexSl 1 (tg t 0) v5) d h (fun v13 d h =>
 kH (withV undef (storeV 1 h v13 v10)) d (fun v14 d h =>
 K .norm t d h)))))))))) h0.next ⟨h0.objs, h0.next + 15⟩
def r87_24 : CodeT := fun c _ t d h K =>
 kO (binV Tryz.prog .sub 3 true (tg t 4) (.int .i64 2)) d h (fun v1 d h =>
 K .norm (T.set t 4 v1) d h)
def r87_25 : CodeT := fun c _ t d h K =>
 kO (binV Tryz.prog .gtr 3 true (tg t 4) (.int .i64 0)) d h (fun v1 d h =>
 K .norm (T.set t 161 v1) d h)
def r87_26 : CodeT := fun c _ t d h K =>
 kO (binV Tryz.prog .add 23 true (.int .u32 48) (tg t 12)) d h (fun v2 d h =>
 kO (toInt .u8 v2) d h (fun v3 d h =>
 kO (indexSl 1 (tg t 0) (.int .i64 0)) d h (fun v4 d h =>
 kH (withV undef (storeV 1 h v4 v3)) d (fun v5 d h =>
 K .norm t d h))))
def c87 : Box CodeT := ⟨seqC ⟨r87_0⟩ ⟨seqC ⟨blockC 0 (loopB l87_12)⟩ ⟨seqC ⟨r87_12⟩ ⟨seqC ⟨seqC ⟨r87_13⟩ ⟨condC (tC 99) ⟨seqC ⟨r87_14⟩ ⟨seqC ⟨r87_15⟩ ⟨seqC ⟨r87_16⟩ ⟨seqC ⟨r87_17⟩ ⟨seqC ⟨r87_18⟩ ⟨r87_19⟩⟩⟩⟩⟩⟩ skipC⟩⟩ ⟨seqC ⟨seqC ⟨r87_20⟩ ⟨condC (tC 139) ⟨seqC ⟨r87_21⟩ ⟨seqC ⟨r87_22⟩ ⟨seqC ⟨r87_23⟩ ⟨r87_24⟩⟩⟩⟩ skipC⟩⟩ ⟨seqC ⟨r87_25⟩ ⟨condC (tC 161) ⟨r87_26⟩ skipC⟩⟩⟩⟩⟩⟩⟩
def q87 : Box (T Value → H → Option (List Value)) := ⟨fun t h => some []⟩
def r90_0 : CodeT := fun c _ t d h K =>
 K .norm (T.set t 4 (.int .i64 0)) d h
def r90_1 : CodeT := fun c _ t d h K =>
 kO (lenStr (tg t 1)) d h (fun v1 d h =>
 kO (binV Tryz.prog .eql 3 true v1 (.int .i64 0)) d h (fun v2 d h =>
 K .norm (T.set t 9 v2) d h))
def r90_2 : CodeT := fun c _ t d h K =>
 c 100 [(tg t 0)] h (fun v h => (fun v1 d h =>
 kO (binV Tryz.prog .add 3 true v1 (.int .i64 1)) d h (fun v2 d h =>
 K .norm (T.set t 4 v2) d h)) v d h)
def r90_3 : CodeT := fun c _ t d h K =>
 kO (lenStr (tg t 1)) d h (fun v1 d h =>
 kO (binV Tryz.prog .eql 3 true v1 (.int .i64 1)) d h (fun v2 d h =>
 K .norm (T.set t 15 v2) d h))
def r90_4 : CodeT := fun c _ t d h K =>
 kO (indexStr (tg t 1) (.int .i64 0)) d h (fun v2 d h =>
 c 102 [(tg t 0), v2] h (fun v h => (fun v3 d h =>
 K .norm (T.set t 4 v3) d h) v d h))
def r90_5 : CodeT := fun c _ t d h K =>
 K .norm (T.set t 5 (.int .i64 0)) d h
def r90_6 : CodeT := fun c _ t d h K =>
 c 91 [(tg t 0), (tg t 1)] h (fun v h => (fun v2 d h =>
 K .norm (T.set t 6 v2) d h) v d h)
def r90_7 : CodeT := fun c _ t d h K =>
 kO (binV Tryz.prog .eql 3 true (tg t 6) (.int .i64 (-1))) d h (fun v1 d h =>
 K .norm (T.set t 24 v1) d h)
def r90_8 : CodeT := fun c _ t d h K =>
 K .norm (T.set t 4 (tg t 5)) d h
def r90_9 : CodeT := fun c _ t d h K =>
 kO (binV Tryz.prog .add 3 true (tg t 5) (.int .i64 1)) d h (fun v1 d h =>
 K .norm (T.set t 5 v1) d h)
def r90_10 : CodeT := fun c _ t d h K =>
 kO (lenStr (tg t 1)) d h (fun v3 d h =>
 kO (binV Tryz.prog .add 3 false (tg t 6) v3) d h (fun v4 d h =>
 kO (sliceStr (tg t 0) (some v4) none none) d h (fun v5 d h =>
 K .norm (T.set t 0 v5) d h)))
def l90_11 : Box CodeT := ⟨blockC 1 ⟨seqC ⟨r90_6⟩ ⟨seqC ⟨seqC ⟨r90_7⟩ ⟨condC (tC 24) ⟨seqC ⟨r90_8⟩ retC⟩ skipC⟩⟩ ⟨seqC ⟨r90_9⟩ ⟨r90_10⟩⟩⟩⟩⟩
def c90 : Box CodeT := ⟨seqC ⟨r90_0⟩ ⟨seqC ⟨seqC ⟨r90_1⟩ ⟨condC (tC 9) ⟨seqC ⟨r90_2⟩ retC⟩ skipC⟩⟩ ⟨seqC ⟨seqC ⟨r90_3⟩ ⟨condC (tC 15) ⟨seqC ⟨r90_4⟩ retC⟩ skipC⟩⟩ ⟨seqC ⟨r90_5⟩ ⟨blockC 0 (loopB l90_11)⟩⟩⟩⟩⟩
def q90 : Box (T Value → H → Option (List Value)) := ⟨fun t h => some [tg t 4]⟩
def r91_0 : CodeT := fun c _ t d h K =>
 K .norm (T.set t 4 (.int .i64 0)) d h
def r91_1 : CodeT := fun c _ t d h K =>
 c 103 [(tg t 0), (tg t 1)] h (fun v h => (fun v2 d h =>
 K .norm (T.set t 4 v2) d h) v d h)
def c91 : Box CodeT := ⟨seqC ⟨r91_0⟩ ⟨seqC ⟨r91_1⟩ retC⟩⟩
def q91 : Box (T Value → H → Option (List Value)) := ⟨fun t h => some [tg t 4]⟩
def r92_0 : CodeT := fun c _ t d h K =>
 K .norm (T.set (T.set t 4 (.int .u64 0)) 5 (.bool false)) d h
def r92_1 : CodeT := fun c _ t d h K => (⟨opStep (oT 0) pI wT
 ⟨opStep (oK fun e _ _ => lenStr (nthD 0 e)) pI wT
 ⟨opStep (oK fun e _ _ => binV Tryz.prog .lss 3 true (nthD 0 e) (.int .i64 1)) pI wT
 ⟨opStep (oN 0) pI wT
 ⟨opStep (oT 0) pI (wB false 0)
 ⟨opStep (oK fun e _ _ => lenStr (nthD 0 e)) pI (wB false 1)
 ⟨opStep (oT 1) pI (wB false 2)
 ⟨opStep ⟨fun c e t d h K => c 42 [(nthD 0 e), (.int .i64 10)] h (fun v h => (K) v d h)⟩ pI (wB false 3)
 ⟨opStep (oK fun e _ _ => lenStr (nthD 0 e)) pI (wB false 4)
 ⟨opStep (oK fun e _ _ => binV Tryz.prog .gtr 3 false (nthD 3 e) (nthD 0 e)) pI (wB false 5)
 ⟨opStep (oK fun e _ _ => pickV (nthD 6 e) (.bool true) (nthD 0 e)) pI wT
 ⟨opStep (oN 0) pI wT
 ⟨opStep (oT 0) pI (wB false 0)
 ⟨opStep (oK fun e _ _ => indexStr (nthD 0 e) (.int .i64 0)) pI (wB false 1)
 ⟨opStep (oK fun e _ _ => binV Tryz.prog .eql 5 true (nthD 0 e) (.int .u8 48)) pI (wB false 2)
 ⟨opStep (oN 0) pI (wB false 3)
 ⟨opStep (oT 0) pI (wB true 0)
 ⟨opStep (oK fun e _ _ => lenStr (nthD 0 e)) pI (wB true 1)
 ⟨opStep (oK fun e _ _ => binV Tryz.prog .gtr 3 true (nthD 0 e) (.int .i64 1)) pI (wB true 2)
 ⟨opStep (oK fun e _ _ => pickV (nthD 3 e) (nthD 0 e) (.bool false)) pI (wB false 7)
 ⟨opStep (oK fun e _ _ => pickV (nthD 8 e) (.bool true) (nthD 0 e)) pI wT
 ⟨opStep (oN 0) pI wT
 ⟨opStep (oT 0) pI (wB false 0)
 ⟨opStep ⟨fun c e t d h K => c 104 [(nthD 0 e), (.string (strB [48, 49, 50, 51, 52, 53, 54, 55, 56, 57]))] h (fun v h => (K) v d h)⟩ pI (wB false 1)
 ⟨opStep (oK fun e _ _ => binV Tryz.prog .neq 9 true (nthD 0 e) (.string (strB []))) pI (wB false 2)
 ⟨opStep (oK fun e _ _ => pickV (nthD 3 e) (.bool true) (nthD 0 e)) (pS 33) wT
 ⟨fun _ _ t d h K => K .norm t d h⟩⟩⟩⟩⟩⟩⟩⟩⟩⟩⟩⟩⟩⟩⟩⟩⟩⟩⟩⟩⟩⟩⟩⟩⟩⟩⟩ : Box OpsT).f c [] t d h K
def r92_2 : CodeT := fun c _ t d h K =>
 K .norm (T.set (T.set t 4 (.int .u64 0)) 5 (.bool false)) d h
def r92_3 : CodeT := fun c _ t d h K =>
 c 105 [(tg t 0), (.int .i64 10), (.int .i64 64)] h (fun v h => (fun v1 d h =>
 kO (tupNth 0 v1) d h (fun v3 d h =>
 kO (tupNth 1 v1) d h (fun v4 d h =>
 K .norm (T.set (T.set t 6 v3) 7 v4) d h))) v d h)
def r92_4 : CodeT := fun c _ t d h K => (⟨opStep (oT 6) pI wT
 ⟨opStep (oT 7) pI wT
 ⟨opStep (oK fun e _ _ => binV Tryz.prog .eql 77 true (nthD 0 e) .nilIface) pI wT
 ⟨opStep (oN 0) pI wT
 ⟨opStep (oT 6) pI (wB true 0)
 ⟨opStep (oT 1) pI (wB true 1)
 ⟨opStep (oK fun e _ _ => binV Tryz.prog .leq 24 false (nthD 1 e) (nthD 0 e)) pI (wB true 2)
 ⟨opStep (oK fun e _ _ => pickV (nthD 3 e) (nthD 0 e) (.bool false)) pI wT
 ⟨opStep (oN 7) (pS 4) wT
 ⟨opStep (oN 1) (pS 5) wT
 ⟨fun _ _ t d h K => K .norm t d h⟩⟩⟩⟩⟩⟩⟩⟩⟩⟩⟩ : Box OpsT).f c [] t d h K
def c92 : Box CodeT := ⟨seqC ⟨r92_0⟩ ⟨seqC ⟨seqC ⟨r92_1⟩ ⟨condC (tC 33) ⟨seqC ⟨r92_2⟩ retC⟩ skipC⟩⟩ ⟨seqC ⟨r92_3⟩ ⟨seqC ⟨r92_4⟩ retC⟩⟩⟩⟩
def q92 : Box (T Value → H → Option (List Value)) := ⟨fun t h => some [tg t 4, tg t 5]⟩
def r94_0 : CodeT := fun c _ t d h K =>
 K .norm (T.set t 4 (.int .i64 0)) d h
def r94_1 : CodeT := fun c _ t d h K =>
 kO (lenSl (tg t 0)) d h (fun v1 d h =>
 K .norm (T.set (T.set t 7 v1) 8 (.int .i64 0)) d h)
def r94_2 : CodeT := fun c _ t d h K =>
 kO (binV Tryz.prog .lss 3 false (tg t 8) (tg t 7)) d h (fun v0 d h =>
 K .norm (T.set t 9 v0) d h)
def r94_3 : CodeT := fun c _ t d h K =>
 K .norm (T.set t 5 (tg t 8)) d h
def r94_4 : CodeT := fun c _ t d h K =>
 kO (indexSl 1 (tg t 0) (tg t 5)) d h (fun v3 d h =>
 kO (loadOne h v3) d h (fun v4 d h =>
 kO (binV Tryz.prog .eql 9 false (tg t 1) v4) d h (fun v5 d h =>
 K .norm (T.set t 16 v5) d h)))
def r94_5 : CodeT := fun c _ t d h K =>
 K .norm (T.set t 4 (tg t 5)) d h
def r94_6 : CodeT := fun c _ t d h K =>
 kO (binV Tryz.prog .add 3 true (tg t 8) (.int .i64 1)) d h (fun v0 d h =>
 K .norm (T.set t 8 v0) d h)
def l94_7 : Box CodeT := ⟨seqC ⟨r94_2⟩ ⟨seqC ⟨condC (tC 9) skipC (exitC 0)⟩ ⟨seqC ⟨blockC 1 ⟨seqC ⟨r94_3⟩ ⟨seqC ⟨r94_4⟩ ⟨condC (tC 16) ⟨seqC ⟨r94_5⟩ retC⟩ skipC⟩⟩⟩⟩ ⟨r94_6⟩⟩⟩⟩
def r94_7 : CodeT := fun c _ t d h K =>
 K .norm (T.set t 4 (.int .i64 (-1))) d h
def c94 : Box CodeT := ⟨seqC ⟨r94_0⟩ ⟨seqC ⟨seqC ⟨r94_1⟩ ⟨blockC 0 (loopB l94_7)⟩⟩ ⟨seqC ⟨r94_7⟩ retC⟩⟩⟩
def q94 : Box (T Value → H → Option (List Value)) := ⟨fun t h => some [tg t 4]⟩
def r95_0 : CodeT := fun c _ t d h K =>
 K .norm (T.set t 2 (.int .i64 0)) d h
def r95_1 : CodeT := fun c _ t d h K =>
 kO (binV Tryz.prog .mul 3 true (tg t 0) (.int .i64 78913)) d h (fun v1 d h =>
 kO (binV Tryz.prog .shr 3 true v1 (.int .u64 18)) d h (fun v2 d h =>
 K .norm (T.set t 2 v2) d h))
def c95 : Box CodeT := ⟨seqC ⟨r95_0⟩ ⟨seqC ⟨r95_1⟩ retC⟩⟩
def q95 : Box (T Value → H → Option (List Value)) := ⟨fun t h => some [tg t 2]⟩
def r96_0 : CodeT := fun c _ t d h K =>
 K .norm (T.set t 2 (.int .i64 0)) d h
def r96_1 : CodeT := fun c _ t d h K =>
 kO (binV Tryz.prog .geq 24 true (tg t 0) (.int .u64 4294967296)) d h (fun v1 d h =>
 K .norm (T.set t 4 v1) d h)
def r96_2 : CodeT := fun c _ t d h K =>
 kO (binV Tryz.prog .shr 24 true (tg t 0) (.int .u64 32)) d h (fun v1 d h =>
 K .norm (T.set t 0 v1) d h)
def r96_3 : CodeT := fun c _ t d h K =>
 K .norm (T.set t 2 (.int .i64 32)) d h
def r96_4 : CodeT := fun c _ t d h K =>
 kO (binV Tryz.prog .geq 24 true (tg t 0) (.int .u64 65536)) d h (fun v1 d h =>
 K .norm (T.set t 8 v1) d h)
def r96_5 : CodeT := fun c _ t d h K =>
 kO (binV Tryz.prog .shr 24 true (tg t 0) (.int .u64 16)) d h (fun v1 d h =>
 K .norm (T.set t 0 v1) d h)
def r96_6 : CodeT := fun c _ t d h K =>
 kO (binV Tryz.prog .add 3 true (tg t 2) (.int .i64 16)) d h (fun v1 d h =>
 K .norm (T.set t 2 v1) d h)
def r96_7 : CodeT := fun c _ t d h K =>
 kO (binV Tryz.prog .geq 24 true (tg t 0) (.int .u64 256)) d h (fun v1 d h =>
 K .norm (T.set t 14 v1) d h)
def r96_8 : CodeT := fun c _ t d h K =>
 kO (binV Tryz.prog .shr 24 true (tg t 0) (.int .u64 8)) d h (fun v1 d h =>
 K .norm (T.set t 0 v1) d h)
def r96_9 : CodeT := fun c _ t d h K =>
 kO (binV Tryz.prog .add 3 true (tg t 2) (.int .i64 8)) d h (fun v1 d h =>
 K .norm (T.set t 2 v1) d h)
def r96_10 : CodeT := fun c _ t d h K =>
 kO (toInt .u8 (tg t 0)) d h (fun v2 d h =>
 kO (indexStr (.string (strB [0, 1, 2, 2, 3, 3, 3, 3, 4, 4, 4, 4, 4, 4, 4, 4, 5, 5, 5, 5, 5, 5, 5, 5, 5, 5, 5, 5, 5, 5, 5, 5, 6, 6, 6, 6, 6, 6, 6, 6, 6, 6, 6, 6, 6, 6, 6, 6, 6, 6, 6, 6, 6, 6, 6, 6, 6, 6, 6, 6, 6, 6, 6, 6, 7, 7, 7, 7, 7, 7, 7, 7, 7, 7, 7, 7, 7, 7, 7, 7, 7, 7, 7, 7, 7, 7, 7, 7, 7, 7, 7, 7, 7, 7, 7, 7, 7, 7, 7, 7, 7, 7, 7, 7, 7, 7, 7, 7, 7, 7, 7, 7, 7, 7, 7, 7, 7, 7, 7, 7, 7, 7, 7, 7, 7, 7, 7, 7, 8, 8, 8, 8, 8, 8, 8, 8, 8, 8, 8, 8, 8, 8, 8, 8, 8, 8, 8, 8, 8, 8, 8, 8, 8, 8, 8, 8, 8, 8, 8, 8, 8, 8, 8, 8, 8, 8, 8, 8, 8, 8, 8, 8, 8, 8, 8, 8, 8, 8, 8, 8, 8, 8, 8, 8, 8, 8, 8, 8, 8, 8, 8, 8, 8, 8, 8, 8, 8, 8, 8, 8, 8, 8, 8, 8, 8, 8, 8, 8, 8, 8, 8, 8, 8, 8, 8, 8, 8, 8, 8, 8, 8, 8, 8, 8, 8, 8, 8, 8, 8, 8, 8, 8, 8, 8, 8, 8, 8, 8, 8, 8, 8, 8, 8, 8, 8, 8, 8, 8, 8, 8, 8, 8, 8, 8, 8, 8])) v2) d h (fun v3 d h =>
 kO (toInt .i64 v3) d h (fun v4 d h =>
 kO (binV Tryz.prog .add 3 false (tg t 2) v4) d h (fun v5 d h =>
 K .norm (T.set t 2 v5) d h))))
def c96 : Box CodeT := ⟨seqC ⟨r96_0⟩ ⟨seqC ⟨seqC ⟨r96_1⟩ ⟨condC (tC 4) ⟨seqC ⟨r96_2⟩ ⟨r96_3⟩⟩ skipC⟩⟩ ⟨seqC ⟨seqC ⟨r96_4⟩ ⟨condC (tC 8) ⟨seqC ⟨r96_5⟩ ⟨r96_6⟩⟩ skipC⟩⟩ ⟨seqC ⟨seqC ⟨r96_7⟩ ⟨condC (tC 14) ⟨seqC ⟨r96_8⟩ ⟨r96_9⟩⟩ skipC⟩⟩ ⟨seqC ⟨r96_10⟩ retC⟩⟩⟩⟩⟩
def q96 : Box (T Value → H → Option (List Value)) := ⟨fun t h => some [tg t 2]⟩
def r97_0 : CodeT := fun c _ t d h K =>
 K .norm (T.set t 2 (.int .i64 0)) d h
def r97_1 : CodeT := fun c _ t d h K =>
 K .norm (T.set t 3 (tg t 0)) d h
def r97_2 : CodeT := fun c _ t d h K =>
 K .norm (T.set t 2 (.int .i64 1)) d h
def r97_3 : CodeT := fun c _ t d h K =>
 K .norm (T.set t 2 (.int .i64 0)) d h
def c97 : Box CodeT := ⟨seqC ⟨r97_0⟩ ⟨seqC ⟨seqC ⟨r97_1⟩ ⟨condC (tC 3) ⟨seqC ⟨r97_2⟩ retC⟩ skipC⟩⟩ ⟨seqC ⟨r97_3⟩ retC⟩⟩⟩
def q97 : Box (T Value → H → Option (List Value)) := ⟨fun t h => some [tg t 2]⟩
def r103_0 : CodeT := fun c _ t d h K =>
 K .norm (T.set t 4 (.int .i64 0)) d h
def r103_1 : CodeT := fun c _ t d h K =>
 kO (lenStr (tg t 1)) d h (fun v1 d h =>
 K .norm (T.set t 5 v1) d h)
def r103_2 : CodeT := fun c _ t d h K => (⟨opStep (oT 5) pI wT
 ⟨opStep (oK fun e _ _ => binV Tryz.prog .eql 3 true (nthD 0 e) (.int .i64 0)) pI wT
 ⟨opStep (oN 0) pI wT
 ⟨opStep (oT 1) pI (wB false 0)
 ⟨opStep (oT 0) pI (wB false 1)
 ⟨opStep (oK fun e _ _ => binV Tryz.prog .eql 9 false (nthD 1 e) (nthD 0 e)) pI (wB false 2)
 ⟨opStep (oK fun e _ _ => pickV (nthD 3 e) (.bool true) (nthD 0 e)) pI wT
 ⟨opStep (oN 0) (pS 16) wT
 ⟨fun _ _ t d h K => K .norm t d h⟩⟩⟩⟩⟩⟩⟩⟩⟩ : Box OpsT).f c [] t d h K
def r103_3 : CodeT := fun c _ t d h K =>
 K .norm (T.set t 4 (.int .i64 0)) d h
def r103_4 : CodeT := fun c _ t d h K =>
 kO (binV Tryz.prog .eql 3 true (tg t 5) (.int .i64 1)) d h (fun v1 d h =>
 K .norm (T.set t 24 v1) d h)
def r103_5 : CodeT := fun c _ t d h K =>
 kO (indexStr (tg t 1) (.int .i64 0)) d h (fun v2 d h =>
 c 110 [(tg t 0), v2] h (fun v h => (fun v3 d h =>
 K .norm (T.set t 4 v3) d h) v d h))
def r103_6 : CodeT := fun c _ t d h K =>
 kO (lenStr (tg t 0)) d h (fun v2 d h =>
 kO (binV Tryz.prog .geq 3 false (tg t 5) v2) d h (fun v3 d h =>
 K .norm (T.set t 31 v3) d h))
def r103_7 : CodeT := fun c _ t d h K =>
 K .norm (T.set t 4 (.int .i64 (-1))) d h
def r103_8 : CodeT := fun c _ t d h K => (⟨opStep (oT 5) pI wT
 ⟨opStep (oK fun _ _ h => loadOne h (.pointer (some ⟨0, 0, none⟩))) pI wT
 ⟨opStep (oK fun e _ _ => binV Tryz.prog .leq 3 false (nthD 1 e) (nthD 0 e)) pI wT
 ⟨opStep (oN 0) pI wT
 ⟨opStep (oT 0) pI (wB true 0)
 ⟨opStep (oK fun e _ _ => lenStr (nthD 0 e)) pI (wB true 1)
 ⟨opStep (oK fun e _ _ => binV Tryz.prog .leq 3 true (nthD 0 e) (.int .i64 64)) pI (wB true 2)
 ⟨opStep (oK fun e _ _ => pickV (nthD 3 e) (nthD 0 e) (.bool false)) pI wT
 ⟨opStep (oN 0) (pS 36) wT
 ⟨fun _ _ t d h K => K .norm t d h⟩⟩⟩⟩⟩⟩⟩⟩⟩⟩ : Box OpsT).f c [] t d h K
def r103_9 : CodeT := fun c _ t d h K =>
 c 111 [(tg t 0), (tg t 1)] h (fun v h => (fun v2 d h =>
 K .norm (T.set t 4 v2) d h) v d h)
def r103_10 : CodeT := fun c _ t d h K =>
 kO (indexStr (tg t 1) (.int .i64 0)) d h (fun v1 d h =>
 K .norm (T.set t 6 v1) d h)
def r103_11 : CodeT := fun c _ t d h K =>
 kO (indexStr (tg t 1) (.int .i64 1)) d h (fun v1 d h =>
 K .norm (T.set t 7 v1) d h)
def r103_12 : CodeT := fun c _ t d h K =>
 K .norm (T.set t 8 (.int .i64 0)) d h
def r103_13 : CodeT := fun c _ t d h K =>
 kO (lenStr (tg t 0)) d h (fun v1 d h =>
 kO (binV Tryz.prog .sub 3 false v1 (tg t 5)) d h (fun v3 d h =>
 kO (binV Tryz.prog .add 3 true v3 (.int .i64 1)) d h (fun v4 d h =>
 K .norm (T.set t 9 v4) d h)))
def r103_14 : CodeT := fun c _ t d h K =>
 K .norm (T.set t 10 (.int .i64 0)) d h
def r103_15 : CodeT := fun c _ t d h K =>
 kO (binV Tryz.prog .lss 3 false (tg t 8) (tg t 9)) d h (fun v2 d h =>
 K .norm (T.set t 59 v2) d h)
def r103_16 : CodeT := fun c _ t d h K =>
 kO (indexStr (tg t 0) (tg t 8)) d h (fun v2 d h =>
 kO (binV Tryz.prog .neq 5 false v2 (tg t 6)) d h (fun v4 d h =>
 K .norm (T.set t 64 v4) d h))
def r103_17 : CodeT := fun c _ t d h K =>
 kO (binV Tryz.prog .add 3 true (tg t 8) (.int .i64 1)) d h (fun v2 d h =>
 kO (sliceStr (tg t 0) (some v2) (some (tg t 9)) none) d h (fun v4 d h =>
 c 110 [v4, (tg t 6)] h (fun v h => (fun v6 d h =>
 K .norm (T.set t 11 v6) d h) v d h)))
def r103_18 : CodeT := fun c _ t d h K =>
 kO (binV Tryz.prog .lss 3 true (tg t 11) (.int .i64 0)) d h (fun v1 d h =>
 K .norm (T.set t 73 v1) d h)
def r103_19 : CodeT := fun c _ t d h K =>
 K .norm (T.set t 4 (.int .i64 (-1))) d h
def r103_20 : CodeT := fun c _ t d h K =>
 kO (binV Tryz.prog .add 3 true (tg t 11) (.int .i64 1)) d h (fun v2 d h =>
 kO (binV Tryz.prog .add 3 false (tg t 8) v2) d h (fun v3 d h =>
 K .norm (T.set t 8 v3) d h))
def r103_21 : CodeT := fun c _ t d h K => (⟨opStep (oT 0) pI wT
 ⟨opStep (oT 8) pI wT
 ⟨opStep (oK fun e _ _ => binV Tryz.prog .add 3 true (nthD 0 e) (.int .i64 1)) pI wT
 ⟨opStep (oK fun e _ _ => indexStr (nthD 2 e) (nthD 0 e)) pI wT
 ⟨opStep (oT 7) pI wT
 ⟨opStep (oK fun e _ _ => binV Tryz.prog .eql 5 false (nthD 1 e) (nthD 0 e)) pI wT
 ⟨opStep (oN 0) pI wT
 ⟨opStep (oT 0) pI (wB true 0)
 ⟨opStep (oT 8) pI (wB true 1)
 ⟨opStep (oT 8) pI (wB true 2)
 ⟨opStep (oT 5) pI (wB true 3)
 ⟨opStep (oK fun e _ _ => binV Tryz.prog .add 3 false (nthD 1 e) (nthD 0 e)) pI (wB true 4)
 ⟨opStep (oK fun e _ _ => sliceStr (nthD 4 e) (some (nthD 3 e)) (some (nthD 0 e)) none) pI (wB true 5)
 ⟨opStep (oT 1) pI (wB true 6)
 ⟨opStep (oK fun e _ _ => binV Tryz.prog .eql 9 false (nthD 1 e) (nthD 0 e)) pI (wB true 7)
 ⟨opStep (oK fun e _ _ => pickV (nthD 8 e) (nthD 0 e) (.bool false)) (pS 93) wT
 ⟨fun _ _ t d h K => K .norm t d h⟩⟩⟩⟩⟩⟩⟩⟩⟩⟩⟩⟩⟩⟩⟩⟩⟩ : Box OpsT).f c [] t d h K
def r103_22 : CodeT := fun c _ t d h K =>
 K .norm (T.set t 4 (tg t 8)) d h
def r103_23 : CodeT := fun c _ t d h K =>
 kO (binV Tryz.prog .add 3 true (tg t 8) (.int .i64 1)) d h (fun v1 d h =>
 K .norm (T.set t 8 v1) d h)
def r103_24 : CodeT := fun c _ t d h K =>
 kO (binV Tryz.prog .add 3 true (tg t 10) (.int .i64 1)) d h (fun v1 d h =>
 K .norm (T.set t 10 v1) d h)
def r103_25 : CodeT := fun c _ t d h K => (⟨opStep (oT 5) pI wT
 ⟨opStep (oK fun _ _ h => loadOne h (.pointer (some ⟨0, 0, none⟩))) pI wT
 ⟨opStep (oK fun e _ _ => binV Tryz.prog .leq 3 false (nthD 1 e) (nthD 0 e)) pI wT
 ⟨opStep (oN 0) pI wT
 ⟨opStep (oT 10) pI (wB true 0)
 ⟨opStep (oT 8) pI (wB true 1)
 ⟨opStep ⟨fun c e t d h K => c 46 [(nthD 0 e)] h (fun v h => (K) v d h)⟩ pI (wB true 2)
 ⟨opStep (oK fun e _ _ => binV Tryz.prog .gtr 3 false (nthD 2 e) (nthD 0 e)) pI (wB true 3)
 ⟨opStep (oK fun e _ _ => pickV (nthD 4 e) (nthD 0 e) (.bool false)) (pS 107) wT
 ⟨fun _ _ t d h K => K .norm t d h⟩⟩⟩⟩⟩⟩⟩⟩⟩⟩ : Box OpsT).f c [] t d h K
def r103_26 : CodeT := fun c _ t d h K =>
 kO (sliceStr (tg t 0) (some (tg t 8)) none none) d h (fun v2 d h =>
 c 111 [v2, (tg t 1)] h (fun v h => (fun v4 d h =>
 K .norm (T.set t 12 v4) d h) v d h))
def r103_27 : CodeT := fun c _ t d h K =>
 kO (binV Tryz.prog .geq 3 true (tg t 12) (.int .i64 0)) d h (fun v1 d h =>
 K .norm (T.set t 114 v1) d h)
def r103_28 : CodeT := fun c _ t d h K =>
 kO (binV Tryz.prog .add 3 false (tg t 12) (tg t 8)) d h (fun v2 d h =>
 K .norm (T.set t 4 v2) d h)
def r103_29 : CodeT := fun c _ t d h K =>
 K .norm (T.set t 4 (.int .i64 (-1))) d h
def r103_30 : CodeT := fun c _ t d h K => (⟨opStep (oT 5) pI wT
 ⟨opStep (oK fun _ _ h => loadOne h (.pointer (some ⟨0, 0, none⟩))) pI wT
 ⟨opStep (oK fun e _ _ => binV Tryz.prog .gtr 3 false (nthD 1 e) (nthD 0 e)) pI wT
 ⟨opStep (oN 0) pI wT
 ⟨opStep (oT 10) pI (wB true 0)
 ⟨opStep (oT 8) pI (wB true 1)
 ⟨opStep (oK fun e _ _ => binV Tryz.prog .shr 3 true (nthD 0 e) (.int .u64 4)) pI (wB true 2)
 ⟨opStep (oK fun e _ _ => binV Tryz.prog .add 3 true (.int .i64 4) (nthD 0 e)) pI (wB true 3)
 ⟨opStep (oK fun e _ _ => binV Tryz.prog .geq 3 false (nthD 3 e) (nthD 0 e)) pI (wB true 4)
 ⟨opStep (oK fun e _ _ => pickV (nthD 5 e) (nthD 0 e) (.bool false)) pI wT
 ⟨opStep (oN 0) pI wT
 ⟨opStep (oT 8) pI (wB true 0)
 ⟨opStep (oT 9) pI (wB true 1)
 ⟨opStep (oK fun e _ _ => binV Tryz.prog .lss 3 false (nthD 1 e) (nthD 0 e)) pI (wB true 2)
 ⟨opStep (oK fun e _ _ => pickV (nthD 3 e) (nthD 0 e) (.bool false)) (pS 132) wT
 ⟨fun _ _ t d h K => K .norm t d h⟩⟩⟩⟩⟩⟩⟩⟩⟩⟩⟩⟩⟩⟩⟩⟩ : Box OpsT).f c [] t d h K
def r103_31 : CodeT := fun c _ t d h K =>
 kO (sliceStr (tg t 0) (some (tg t 8)) none none) d h (fun v2 d h =>
 c 112 [v2, (tg t 1)] h (fun v h => (fun v4 d h =>
 K .norm (T.set t 13 v4) d h) v d h))
def r103_32 : CodeT := fun c _ t d h K =>
 kO (binV Tryz.prog .lss 3 true (tg t 13) (.int .i64 0)) d h (fun v1 d h =>
 K .norm (T.set t 139 v1) d h)
def r103_33 : CodeT := fun c _ t d h K =>
 K .norm (T.set t 4 (.int .i64 (-1))) d h
def r103_34 : CodeT := fun c _ t d h K =>
 kO (binV Tryz.prog .add 3 false (tg t 8) (tg t 13)) d h (fun v2 d h =>
 K .norm (T.set t 4 v2) d h)
def l103_35 : Box CodeT := ⟨seqC ⟨seqC ⟨r103_15⟩ ⟨condC (tC 59) skipC (exitC 1)⟩⟩ ⟨blockC 2 ⟨seqC ⟨seqC ⟨r103_16⟩ ⟨condC (tC 64) ⟨seqC ⟨r103_17⟩ ⟨seqC ⟨seqC ⟨r103_18⟩ ⟨condC (tC 73) ⟨seqC ⟨r103_19⟩ retC⟩ skipC⟩⟩ ⟨r103_20⟩⟩⟩ skipC⟩⟩ ⟨seqC ⟨seqC ⟨r103_21⟩ ⟨condC (tC 93) ⟨seqC ⟨r103_22⟩ retC⟩ skipC⟩⟩ ⟨seqC ⟨r103_23⟩ ⟨seqC ⟨r103_24⟩ ⟨seqC ⟨r103_25⟩ ⟨condC (tC 107) ⟨seqC ⟨r103_26⟩ ⟨seqC ⟨seqC ⟨r103_27⟩ ⟨condC (tC 114) ⟨seqC ⟨r103_28⟩ retC⟩ skipC⟩⟩ ⟨seqC ⟨r103_29⟩ retC⟩⟩⟩ ⟨seqC ⟨r103_30⟩ ⟨condC (tC 132) ⟨seqC ⟨r103_31⟩ ⟨seqC ⟨seqC ⟨r103_32⟩ ⟨condC (tC 139) ⟨seqC ⟨r103_33⟩ retC⟩ skipC⟩⟩ ⟨seqC ⟨r103_34⟩ retC⟩⟩⟩ skipC⟩⟩⟩⟩⟩⟩⟩⟩⟩⟩
def r103_35 : CodeT := fun c _ t d h K =>
 K .norm (T.set t 4 (.int .i64 (-1))) d h
def c103 : Box CodeT := ⟨seqC ⟨r103_0⟩ ⟨seqC ⟨r103_1⟩ ⟨seqC ⟨blockC 0 ⟨seqC ⟨r103_2⟩ ⟨condC (tC 16) ⟨seqC ⟨r103_3⟩ retC⟩ ⟨seqC ⟨r103_4⟩ ⟨condC (tC 24) ⟨seqC ⟨r103_5⟩ retC⟩ ⟨seqC ⟨r103_6⟩ ⟨condC (tC 31) ⟨seqC ⟨r103_7⟩ retC⟩ ⟨seqC ⟨r103_8⟩ ⟨condC (tC 36) ⟨seqC ⟨r103_9⟩ retC⟩ skipC⟩⟩⟩⟩⟩⟩⟩⟩⟩ ⟨seqC ⟨r103_10⟩ ⟨seqC ⟨r103_11⟩ ⟨seqC ⟨r103_12⟩ ⟨seqC ⟨r103_13⟩ ⟨seqC ⟨r103_14⟩ ⟨seqC ⟨blockC 1 (loopB l103_35)⟩ ⟨seqC ⟨r103_35⟩ retC⟩⟩⟩⟩⟩⟩⟩⟩⟩⟩
def q103 : Box (T Value → H → Option (List Value)) := ⟨fun t h => some [tg t 4]⟩
def r104_0 : CodeT := fun c _ t d h K =>
 K .norm (T.set t 4 (.string (strB []))) d h
def r104_1 : CodeT := fun c _ t d h K =>
 kO (binV Tryz.prog .eql 9 true (tg t 0) (.string (strB []))) d h (fun v1 d h =>
 gd (isB false v1) (fun k => kO (some (tg t 1)) d h (k)) d h (fun v3 d h =>
 gd (isB false v1) (fun k => kO (binV Tryz.prog .eql 9 true v3 (.string (strB []))) d h (k)) d h (fun v4 d h =>
 kO (pickV v1 (.bool true) v4) d h (fun v5 d h =>
 K .norm (T.set t 12 v5) d h))))
def r104_2 : CodeT := fun c _ t d h K =>
 K .norm (T.set t 4 (tg t 0)) d h
def r104_3 : CodeT := fun c _ t d h K => (⟨opStep (oT 1) pI wT
 ⟨opStep (oK fun e _ _ => lenStr (nthD 0 e)) pI wT
 ⟨opStep (oK fun e _ _ => binV Tryz.prog .eql 3 true (nthD 0 e) (.int .i64 1)) pI wT
 ⟨opStep (oN 0) pI wT
 ⟨opStep (oT 1) pI (wB true 0)
 ⟨opStep (oK fun e _ _ => indexStr (nthD 0 e) (.int .i64 0)) pI (wB true 1)
 ⟨opStep (oK fun e _ _ => binV Tryz.prog .lss 5 true (nthD 0 e) (.int .u8 128)) pI (wB true 2)
 ⟨opStep (oK fun e _ _ => pickV (nthD 3 e) (nthD 0 e) (.bool false)) (pS 21) wT
 ⟨fun _ _ t d h K => K .norm t d h⟩⟩⟩⟩⟩⟩⟩⟩⟩ : Box OpsT).f c [] t d h K
def r104_4 : CodeT := fun c _ t d h0 K =>
 (fun (b0 : Nat) (h : H) =>
 kO (indexStr (tg t 1) (.int .i64 0)) d h (fun v2 d h =>
 kO (indexStr (tg t 1) (.int .i64 0)) d h (fun v5 d h =>
 c 114 [(tg t 0), v2] h (fun v h => (fun v3 d h =>
 c 113 [v3, v5] h (fun v h => (fun v6 d h =>
 K .norm (T.set t 4 v6) d h) v d h)) v d h)))) h0.next ⟨h0.objs, h0.next + 8⟩
def r104_5 : CodeT := fun c _ t d h K =>
 c 115 [(tg t 1)] h (fun v h => (fun v1 d h =>
 kO (tupNth 0 v1) d h (fun v3 d h =>
 kO (tupNth 1 v1) d h (fun v4 d h =>
 kA (some (.rw (List.replicate 256 (.bool false)) (some 137), ptrTo h.next)) d h (fun v5 d h =>
 kH (withV undef (storeV 256 h v5 v3)) d (fun v6 d h =>
 K .norm (T.set (T.set t 5 v5) 6 v4) d h))))) v d h)
def r104_6 : CodeT := fun c _ t d h K =>
 K .norm (T.set t 34 (tg t 6)) d h
def r104_7 : CodeT := fun c _ t d h K =>
 c 117 [(tg t 0), (tg t 5)] h (fun v h => (fun v1 d h =>
 c 116 [v1, (tg t 5)] h (fun v h => (fun v2 d h =>
 K .norm (T.set t 4 v2) d h) v d h)) v d h)
def r104_8 : CodeT := fun c _ t d h K =>
 c 119 [(tg t 0), (tg t 1)] h (fun v h => (fun v2 d h =>
 c 118 [v2, (tg t 1)] h (fun v h => (fun v4 d h =>
 K .norm (T.set t 4 v4) d h) v d h)) v d h)
def c104 : Box CodeT := ⟨seqC ⟨r104_0⟩ ⟨seqC ⟨seqC ⟨r104_1⟩ ⟨condC (tC 12) ⟨seqC ⟨r104_2⟩ retC⟩ skipC⟩⟩ ⟨seqC ⟨seqC ⟨r104_3⟩ ⟨condC (tC 21) ⟨seqC ⟨r104_4⟩ retC⟩ skipC⟩⟩ ⟨seqC ⟨seqC ⟨r104_5⟩ ⟨seqC ⟨r104_6⟩ ⟨condC (tC 34) ⟨seqC ⟨r104_7⟩ retC⟩ skipC⟩⟩⟩ ⟨seqC ⟨r104_8⟩ retC⟩⟩⟩⟩⟩
def q104 : Box (T Value → H → Option (List Value)) := ⟨fun t h => some [tg t 4]⟩
def r105_0 : CodeT := fun c _ t d h K =>
 K .norm (T.set (T.set t 6 (.int .u64 0)) 7 .nilIface) d h
def r105_1 : CodeT := fun c _ t d h K =>
 c 120 [(tg t 0), (tg t 1), (tg t 2)] h (fun v h => (fun v3 d h =>
 kO (tupNth 0 v3) d h (fun v5 d h =>
 kO (tupNth 1 v3) d h (fun v6 d h =>
 K .norm (T.set (T.set t 8 v5) 9 v6) d h))) v d h)
def r105_2 : CodeT := fun c _ t d h K =>
 kO (binV Tryz.prog .neq 77 true (tg t 9) .nilIface) d h (fun v1 d h =>
 K .norm (T.set t 18 v1) d h)
def r105_3 : CodeT := fun c _ t d h K =>
 c 121 [(.string (strB [80, 97, 114, 115, 101, 85, 105, 110, 116])), (tg t 0), (tg t 1), (tg t 2), (tg t 9)] h (fun v h => (fun v5 d h =>
 K .norm (T.set (T.set t 6 (tg t 8)) 7 v5) d h) v d h)
def r105_4 : CodeT := fun c _ t d h K =>
 K .norm (T.set (T.set t 6 (tg t 8)) 7 .nilIface) d h
def c105 : Box CodeT := ⟨seqC ⟨r105_0⟩ ⟨seqC ⟨r105_1⟩ ⟨seqC ⟨seqC ⟨r105_2⟩ ⟨condC (tC 18) ⟨seqC ⟨r105_3⟩ retC⟩ skipC⟩⟩ ⟨seqC ⟨r105_4⟩ retC⟩⟩⟩⟩
def q105 : Box (T Value → H → Option (List Value)) := ⟨fun t h => some [tg t 6, tg t 7]⟩
def r110_0 : CodeT := fun c _ t d h K =>
 K .norm (T.set t 4 (.int .i64 0)) d h
def r110_1 : CodeT := fun c _ t d h K =>
 c 122 [(tg t 0), (tg t 1)] h (fun v h => (fun v2 d h =>
 K .norm (T.set t 4 v2) d h) v d h)
def c110 : Box CodeT := ⟨seqC ⟨r110_0⟩ ⟨seqC ⟨r110_1⟩ retC⟩⟩
def q110 : Box (T Value → H → Option (List Value)) := ⟨fun t h => some [tg t 4]⟩
def r115_0 : CodeT := fun c _ t d h K =>
 kA (some (.rw (List.replicate 256 (.bool false)) (some 137), ptrTo h.next)) d h (fun v0 d h =>
 K .norm (T.set (T.set t 2 v0) 3 (.bool false)) d h)
def r115_1 : CodeT := fun c _ t d h K =>
 K .norm (T.set t 4 (.int .i64 0)) d h
def r115_2 : CodeT := fun c _ t d h K =>
 kO (lenStr (tg t 0)) d h (fun v2 d h =>
 kO (binV Tryz.prog .lss 3 false (tg t 4) v2) d h (fun v3 d h =>
 K .norm (T.set t 9 v3) d h))
def r115_4 : CodeT := fun c _ t d h K =>
 kO (indexStr (tg t 0) (tg t 4)) d h (fun v2 d h =>
 K .norm (T.set t 5 v2) d h)
def r115_5 : CodeT := fun c _ t d h K =>
 kO (binV Tryz.prog .geq 5 true (tg t 5) (.int .u8 128)) d h (fun v1 d h =>
 K .norm (T.set t 16 v1) d h)
def r115_6 : CodeT := fun c _ t d h K =>
 kO (loadAgg 256 h (tg t 2)) d h (fun v0 d h =>
 kH (withV undef (storeV 256 h (tg t 2) v0)) d (fun v1 d h =>
 K .norm (T.set t 3 (.bool false)) d h))
def r115_7 : CodeT := fun c _ t d h K =>
 kO (indexArr 1 256 (tg t 2) (tg t 5)) d h (fun v1 d h =>
 kH (withV undef (storeV 1 h v1 (.bool true))) d (fun v2 d h =>
 K .norm t d h))
def r115_3 : CodeT := fun c _ t d h K =>
 kO (binV Tryz.prog .add 3 true (tg t 4) (.int .i64 1)) d h (fun v1 d h =>
 K .norm (T.set t 4 v1) d h)
def l115_8 : Box CodeT := ⟨seqC ⟨seqC ⟨r115_2⟩ ⟨condC (tC 9) skipC (exitC 0)⟩⟩ ⟨seqC ⟨blockC 1 ⟨seqC ⟨r115_4⟩ ⟨seqC ⟨seqC ⟨r115_5⟩ ⟨condC (tC 16) ⟨seqC ⟨r115_6⟩ retC⟩ skipC⟩⟩ ⟨r115_7⟩⟩⟩⟩ ⟨r115_3⟩⟩⟩
def r115_8 : CodeT := fun c _ t d h K =>
 kO (loadAgg 256 h (tg t 2)) d h (fun v0 d h =>
 kH (withV undef (storeV 256 h (tg t 2) v0)) d (fun v1 d h =>
 K .norm (T.set t 3 (.bool true)) d h))
def c115 : Box CodeT := ⟨seqC ⟨r115_0⟩ ⟨seqC ⟨seqC ⟨r115_1⟩ ⟨blockC 0 (loopB l115_8)⟩⟩ ⟨seqC ⟨r115_8⟩ retC⟩⟩⟩
def q115 : Box (T Value → H → Option (List Value)) := ⟨fun t h => (match loadAgg 256 h (tg t 2) with | some v => (match (some [tg t 3] : Option (List Value)) with | some l => some (v :: l) | none => none) | none => none)⟩
def r116_0 : CodeT := fun c _ t d h K =>
 K .norm (T.set t 4 (.string (strB []))) d h
def r116_1 : CodeT := fun c _ t d h K =>
 kO (lenStr (tg t 0)) d h (fun v1 d h =>
 kO (binV Tryz.prog .gtr 3 true v1 (.int .i64 0)) d h (fun v2 d h =>
 K .norm (T.set t 7 v2) d h))
def r116_2 : CodeT := fun c _ t d h K =>
 kO (indexStr (tg t 0) (.int .i64 0)) d h (fun v2 d h =>
 c 124 [(tg t 1), v2] h (fun v h => (fun v3 d h =>
 kO (unV .not v3) d h (fun v4 d h =>
 K .norm (T.set t 12 v4) d h)) v d h))
def r116_3 : CodeT := fun c _ t d h K =>
 kO (sliceStr (tg t 0) (some (.int .i64 1)) none none) d h (fun v1 d h =>
 K .norm (T.set t 0 v1) d h)
def l116_4 : Box CodeT := ⟨seqC ⟨seqC ⟨r116_1⟩ ⟨condC (tC 7) skipC (exitC 0)⟩⟩ ⟨blockC 1 ⟨seqC ⟨seqC ⟨r116_2⟩ ⟨condC (tC 12) (exitC 0) skipC⟩⟩ ⟨r116_3⟩⟩⟩⟩
def r116_4 : CodeT := fun c _ t d h K =>
 K .norm (T.set t 4 (tg t 0)) d h
def c116 : Box CodeT := ⟨seqC ⟨r116_0⟩ ⟨seqC ⟨blockC 0 (loopB l116_4)⟩ ⟨seqC ⟨r116_4⟩ retC⟩⟩⟩
def q116 : Box (T Value → H → Option (List Value)) := ⟨fun t h => some [tg t 4]⟩
def r117_0 : CodeT := fun c _ t d h K =>
 K .norm (T.set t 4 (.string (strB []))) d h
def r117_1 : CodeT := fun c _ t d h K =>
 kO (lenStr (tg t 0)) d h (fun v1 d h =>
 kO (binV Tryz.prog .gtr 3 true v1 (.int .i64 0)) d h (fun v2 d h =>
 K .norm (T.set t 7 v2) d h))
def r117_2 : CodeT := fun c _ t d h K =>
 kO (lenStr (tg t 0)) d h (fun v3 d h =>
 kO (binV Tryz.prog .sub 3 true v3 (.int .i64 1)) d h (fun v4 d h =>
 kO (indexStr (tg t 0) v4) d h (fun v5 d h =>
 c 124 [(tg t 1), v5] h (fun v h => (fun v6 d h =>
 kO (unV .not v6) d h (fun v7 d h =>
 K .norm (T.set t 15 v7) d h)) v d h))))
def r117_3 : CodeT := fun c _ t d h K =>
 kO (lenStr (tg t 0)) d h (fun v2 d h =>
 kO (binV Tryz.prog .sub 3 true v2 (.int .i64 1)) d h (fun v3 d h =>
 kO (sliceStr (tg t 0) none (some v3) none) d h (fun v4 d h =>
 K .norm (T.set t 0 v4) d h)))
def l117_4 : Box CodeT := ⟨seqC ⟨seqC ⟨r117_1⟩ ⟨condC (tC 7) skipC (exitC 0)⟩⟩ ⟨blockC 1 ⟨seqC ⟨seqC ⟨r117_2⟩ ⟨condC (tC 15) (exitC 0) skipC⟩⟩ ⟨r117_3⟩⟩⟩⟩
def r117_4 : CodeT := fun c _ t d h K =>
 K .norm (T.set t 4 (tg t 0)) d h
def c117 : Box CodeT := ⟨seqC ⟨r117_0⟩ ⟨seqC ⟨blockC 0 (loopB l117_4)⟩ ⟨seqC ⟨r117_4⟩ retC⟩⟩⟩
def q117 : Box (T Value → H → Option (List Value)) := ⟨fun t h => some [tg t 4]⟩
def r120_0 : CodeT := fun c _ t d h K =>
 K .norm (T.set (T.set t 6 (.int .u64 0)) 7 .nilIface) d h
def r120_1 : CodeT := fun c _ t d h K =>
 kO (binV Tryz.prog .eql 9 true (tg t 0) (.string (strB []))) d h (fun v1 d h =>
 K .norm (T.set t 19 v1) d h)
def r120_2 : CodeT := fun c _ t d h K =>
 kO (some (.iface 152 (.int .i64 2))) d h (fun v0 d h =>
 K .norm (T.set (T.set t 6 (.int .u64 0)) 7 v0) d h)
def r120_3 : CodeT := fun c _ t d h K =>
 kO (binV Tryz.prog .eql 3 true (tg t 1) (.int .i64 0)) d h (fun v1 d h =>
 K .norm (T.set t 8 v1) d h)
def r120_4 : CodeT := fun c _ t d h K =>
 K .norm (T.set t 9 (tg t 0)) d h
def r120_6 : CodeT := fun c _ t d h K =>
 kO (binV Tryz.prog .leq 3 true (.int .i64 2) (tg t 1)) d h (fun v1 d h =>
 gd (isB true v1) (fun k => kO (some (tg t 1)) d h (k)) d h (fun v3 d h =>
 gd (isB true v1) (fun k => kO (binV Tryz.prog .leq 3 true v3 (.int .i64 36)) d h (k)) d h (fun v4 d h =>
 kO (pickV v1 v4 (.bool false)) d h (fun v5 d h =>
 K .norm (T.set t 25 v5) d h))))
def r120_7 : CodeT := fun c _ t d h K =>
 kO (binV Tryz.prog .eql 3 true (tg t 1) (.int .i64 0)) d h (fun v1 d h =>
 K .norm (T.set t 32 v1) d h)
def r120_8 : CodeT := fun c _ t d h K =>
 K .norm (T.set t 1 (.int .i64 10)) d h
def r120_9 : CodeT := fun c _ t d h K =>
 kO (indexStr (tg t 0) (.int .i64 0)) d h (fun v1 d h =>
 kO (binV Tryz.prog .eql 5 true v1 (.int .u8 48)) d h (fun v2 d h =>
 K .norm (T.set t 37 v2) d h))
def r120_12 : CodeT := fun c _ t d h K => (⟨opStep (oT 0) pI wT
 ⟨opStep (oK fun e _ _ => lenStr (nthD 0 e)) pI wT
 ⟨opStep (oK fun e _ _ => binV Tryz.prog .geq 3 true (nthD 0 e) (.int .i64 3)) pI wT
 ⟨opStep (oN 0) pI wT
 ⟨opStep (oT 0) pI (wB true 0)
 ⟨opStep (oK fun e _ _ => indexStr (nthD 0 e) (.int .i64 1)) pI (wB true 1)
 ⟨opStep ⟨fun c e t d h K => c 127 [(nthD 0 e)] h (fun v h => (K) v d h)⟩ pI (wB true 2)
 ⟨opStep (oK fun e _ _ => binV Tryz.prog .eql 5 true (nthD 0 e) (.int .u8 98)) pI (wB true 3)
 ⟨opStep (oK fun e _ _ => pickV (nthD 4 e) (nthD 0 e) (.bool false)) pI wT
 ⟨opStep (oN 0) (pS 40) wT
 ⟨fun _ _ t d h K => K .norm t d h⟩⟩⟩⟩⟩⟩⟩⟩⟩⟩⟩ : Box OpsT).f c [] t d h K
def r120_13 : CodeT := fun c _ t d h K =>
 K .norm (T.set t 1 (.int .i64 2)) d h
def r120_14 : CodeT := fun c _ t d h K =>
 kO (sliceStr (tg t 0) (some (.int .i64 2)) none none) d h (fun v1 d h =>
 K .norm (T.set t 0 v1) d h)
def r120_15 : CodeT := fun c _ t d h K => (⟨opStep (oT 0) pI wT
 ⟨opStep (oK fun e _ _ => lenStr (nthD 0 e)) pI wT
 ⟨opStep (oK fun e _ _ => binV Tryz.prog .geq 3 true (nthD 0 e) (.int .i64 3)) pI wT
 ⟨opStep (oN 0) pI wT
 ⟨opStep (oT 0) pI (wB true 0)
 ⟨opStep (oK fun e _ _ => indexStr (nthD 0 e) (.int .i64 1)) pI (wB true 1)
 ⟨opStep ⟨fun c e t d h K => c 127 [(nthD 0 e)] h (fun v h => (K) v d h)⟩ pI (wB true 2)
 ⟨opStep (oK fun e _ _ => binV Tryz.prog .eql 5 true (nthD 0 e) (.int .u8 111)) pI (wB true 3)
 ⟨opStep (oK fun e _ _ => pickV (nthD 4 e) (nthD 0 e) (.bool false)) pI wT
 ⟨opStep (oN 0) (pS 52) wT
 ⟨fun _ _ t d h K => K .norm t d h⟩⟩⟩⟩⟩⟩⟩⟩⟩⟩⟩ : Box OpsT).f c [] t d h K
def r120_16 : CodeT := fun c _ t d h K =>
 K .norm (T.set t 1 (.int .i64 8)) d h
def r120_17 : CodeT := fun c _ t d h K =>
 kO (sliceStr (tg t 0) (some (.int .i64 2)) none none) d h (fun v1 d h =>
 K .norm (T.set t 0 v1) d h)
def r120_18 : CodeT := fun c _ t d h K => (⟨opStep (oT 0) pI wT
 ⟨opStep (oK fun e _ _ => lenStr (nthD 0 e)) pI wT
 ⟨opStep (oK fun e _ _ => binV Tryz.prog .geq 3 true (nthD 0 e) (.int .i64 3)) pI wT
 ⟨opStep (oN 0) pI wT
 ⟨opStep (oT 0) pI (wB true 0)
 ⟨opStep (oK fun e _ _ => indexStr (nthD 0 e) (.int .i64 1)) pI (wB true 1)
 ⟨opStep ⟨fun c e t d h K => c 127 [(nthD 0 e)] h (fun v h => (K) v d h)⟩ pI (wB true 2)
 ⟨opStep (oK fun e _ _ => binV Tryz.prog .eql 5 true (nthD 0 e) (.int .u8 120)) pI (wB true 3)
 ⟨opStep (oK fun e _ _ => pickV (nthD 4 e) (nthD 0 e) (.bool false)) pI wT
 ⟨opStep (oN 0) (pS 64) wT
 ⟨fun _ _ t d h K => K .norm t d h⟩⟩⟩⟩⟩⟩⟩⟩⟩⟩⟩ : Box OpsT).f c [] t d h K
def r120_19 : CodeT := fun c _ t d h K =>
 K .norm (T.set t 1 (.int .i64 16)) d h
def r120_20 : CodeT := fun c _ t d h K =>
 kO (sliceStr (tg t 0) (some (.int .i64 2)) none none) d h (fun v1 d h =>
 K .norm (T.set t 0 v1) d h)
def r120_10 : CodeT := fun c _ t d h K =>
 K .norm (T.set t 1 (.int .i64 8)) d h
def r120_11 : CodeT := fun c _ t d h K =>
 kO (sliceStr (tg t 0) (some (.int .i64 1)) none none) d h (fun v1 d h =>
 K .norm (T.set t 0 v1) d h)
def r120_5 : CodeT := fun c _ t d h K =>
 kO (some (.iface 152 (.int .i64 3))) d h (fun v0 d h =>
 K .norm (T.set (T.set t 6 (.int .u64 0)) 7 v0) d h)
def r120_21 : CodeT := fun c _ t d h K =>
 kO (binV Tryz.prog .eql 3 true (tg t 2) (.int .i64 0)) d h (fun v1 d h =>
 K .norm (T.set t 77 v1) d h)
def r120_22 : CodeT := fun c _ t d h K =>
 K .norm (T.set t 2 (.int .i64 64)) d h
def r120_23 : CodeT := fun c _ t d h K =>
 kO (binV Tryz.prog .lss 3 true (tg t 2) (.int .i64 0)) d h (fun v1 d h =>
 gd (isB false v1) (fun k => kO (some (tg t 2)) d h (k)) d h (fun v3 d h =>
 gd (isB false v1) (fun k => kO (binV Tryz.prog .gtr 3 true v3 (.int .i64 64)) d h (k)) d h (fun v4 d h =>
 kO (pickV v1 (.bool true) v4) d h (fun v5 d h =>
 K .norm (T.set t 83 v5) d h))))
def r120_24 : CodeT := fun c _ t d h K =>
 kO (some (.iface 152 (.int .i64 4))) d h (fun v0 d h =>
 K .norm (T.set (T.set t 6 (.int .u64 0)) 7 v0) d h)
def r120_25 : CodeT := fun c _ t d h K =>
 K .norm (T.set t 10 (.int .u64 0)) d h
def r120_26 : CodeT := fun c _ t d h K =>
 K .norm (T.set t 85 (tg t 1)) d h
def r120_28 : CodeT := fun c _ t d h K =>
 kO (binV Tryz.prog .eql 3 true (tg t 85) (.int .i64 10)) d h (fun v0 d h =>
 K .norm (T.set t 90 v0) d h)
def r120_29 : CodeT := fun c _ t d h K =>
 K .norm (T.set t 10 (.int .u64 1844674407370955162)) d h
def r120_30 : CodeT := fun c _ t d h K =>
 kO (binV Tryz.prog .eql 3 true (tg t 85) (.int .i64 16)) d h (fun v0 d h =>
 K .norm (T.set t 92 v0) d h)
def r120_31 : CodeT := fun c _ t d h K =>
 K .norm (T.set t 10 (.int .u64 1152921504606846976)) d h
def r120_27 : CodeT := fun c _ t d h K =>
 kO (toInt .u64 (tg t 1)) d h (fun v1 d h =>
 kO (binV Tryz.prog .quo 24 true (.int .u64 18446744073709551615) v1) d h (fun v2 d h =>
 kO (binV Tryz.prog .add 24 true v2 (.int .u64 1)) d h (fun v3 d h =>
 K .norm (T.set t 10 v3) d h)))
def r120_32 : CodeT := fun c _ t d h K =>
 kO (toInt .u64 (tg t 2)) d h (fun v1 d h =>
 kO (binV Tryz.prog .shl 24 true (.int .u64 1) v1) d h (fun v2 d h =>
 kO (binV Tryz.prog .sub 24 true v2 (.int .u64 1)) d h (fun v3 d h =>
 K .norm (T.set t 11 v3) d h)))
def r120_33 : CodeT := fun c _ t d h K =>
 K .norm (T.set t 12 (.bool false)) d h
def r120_34 : CodeT := fun c _ t d h K =>
 K .norm (T.set t 13 (.int .u64 0)) d h
def r120_35 : CodeT := fun c _ t d h K =>
 kA (mkBytes 5 h.next (tg t 0)) d h (fun v1 d h =>
 kO (lenSl v1) d h (fun v2 d h =>
 K .norm (T.set (T.set (T.set t 99 v1) 100 v2) 101 (.int .i64 0)) d h))
def r120_36 : CodeT := fun c _ t d h K =>
 kO (binV Tryz.prog .lss 3 false (tg t 101) (tg t 100)) d h (fun v0 d h =>
 K .norm (T.set t 102 v0) d h)
def r120_37 : CodeT := fun c _ t d h K =>
 kO (indexSl 1 (tg t 99) (tg t 101)) d h (fun v0 d h =>
 kO (loadOne h v0) d h (fun v1 d h =>
 K .norm (T.set t 15 v1) d h))
def r120_38 : CodeT := fun c _ t d h K =>
 K .norm (T.set t 16 (.int .u8 0)) d h
def r120_40 : CodeT := fun c _ t d h K =>
 kO (binV Tryz.prog .eql 5 true (tg t 15) (.int .u8 95)) d h (fun v1 d h =>
 gd (isB true v1) (fun k => kO (some (tg t 8)) d h (k)) d h (fun v3 d h =>
 kO (pickV v1 v3 (.bool false)) d h (fun v4 d h =>
 K .norm (T.set t 106 v4) d h)))
def r120_41 : CodeT := fun c _ t d h K =>
 K .norm (T.set t 12 (.bool true)) d h
def r120_42 : CodeT := fun c _ t d h K =>
 kO (binV Tryz.prog .leq 5 true (.int .u8 48) (tg t 15)) d h (fun v1 d h =>
 gd (isB true v1) (fun k => kO (some (tg t 15)) d h (k)) d h (fun v3 d h =>
 gd (isB true v1) (fun k => kO (binV Tryz.prog .leq 5 true v3 (.int .u8 57)) d h (k)) d h (fun v4 d h =>
 kO (pickV v1 v4 (.bool false)) d h (fun v5 d h =>
 K .norm (T.set t 112 v5) d h))))
def r120_43 : CodeT := fun c _ t d h K =>
 kO (binV Tryz.prog .sub 5 true (tg t 15) (.int .u8 48)) d h (fun v1 d h =>
 K .norm (T.set t 16 v1) d h)
def r120_44 : CodeT := fun c _ t d h K => (⟨opStep (oT 15) pI wT
 ⟨opStep ⟨fun c e t d h K => c 127 [(nthD 0 e)] h (fun v h => (K) v d h)⟩ pI wT
 ⟨opStep (oK fun e _ _ => binV Tryz.prog .leq 5 true (.int .u8 97) (nthD 0 e)) pI wT
 ⟨opStep (oN 0) pI wT
 ⟨opStep (oT 15) pI (wB true 0)
 ⟨opStep ⟨fun c e t d h K => c 127 [(nthD 0 e)] h (fun v h => (K) v d h)⟩ pI (wB true 1)
 ⟨opStep (oK fun e _ _ => binV Tryz.prog .leq 5 true (nthD 0 e) (.int .u8 122)) pI (wB true 2)
 ⟨opStep (oK fun e _ _ => pickV (nthD 3 e) (nthD 0 e) (.bool false)) pI wT
 ⟨opStep (oN 0) (pS 121) wT
 ⟨fun _ _ t d h K => K .norm t d h⟩⟩⟩⟩⟩⟩⟩⟩⟩⟩ : Box OpsT).f c [] t d h K
def r120_45 : CodeT := fun c _ t d h K =>
 c 127 [(tg t 15)] h (fun v h => (fun v1 d h =>
 kO (binV Tryz.prog .sub 5 true v1 (.int .u8 97)) d h (fun v2 d h =>
 kO (binV Tryz.prog .add 5 true v2 (.int .u8 10)) d h (fun v3 d h =>
 K .norm (T.set t 16 v3) d h))) v d h)
def r120_39 : CodeT := fun c _ t d h K =>
 kO (some (.iface 152 (.int .i64 2))) d h (fun v0 d h =>
 K .norm (T.set (T.set t 6 (.int .u64 0)) 7 v0) d h)
def r120_46 : CodeT := fun c _ t d h K =>
 kO (toInt .u8 (tg t 1)) d h (fun v2 d h =>
 kO (binV Tryz.prog .geq 5 false (tg t 16) v2) d h (fun v3 d h =>
 K .norm (T.set t 137 v3) d h))
def r120_47 : CodeT := fun c _ t d h K =>
 kO (some (.iface 152 (.int .i64 2))) d h (fun v0 d h =>
 K .norm (T.set (T.set t 6 (.int .u64 0)) 7 v0) d h)
def r120_48 : CodeT := fun c _ t d h K =>
 kO (binV Tryz.prog .geq 24 false (tg t 13) (tg t 10)) d h (fun v2 d h =>
 K .norm (T.set t 141 v2) d h)
def r120_49 : CodeT := fun c _ t d h K =>
 kO (some (.iface 152 (.int .i64 1))) d h (fun v1 d h =>
 K .norm (T.set (T.set t 6 (tg t 11)) 7 v1) d h)
def r120_50 : CodeT := fun c _ t d h K =>
 kO (toInt .u64 (tg t 1)) d h (fun v2 d h =>
 kO (binV Tryz.prog .mul 24 false (tg t 13) v2) d h (fun v3 d h =>
 K .norm (T.set t 13 v3) d h))
def r120_51 : CodeT := fun c _ t d h K =>
 kO (toInt .u64 (tg t 16)) d h (fun v2 d h =>
 kO (binV Tryz.prog .add 24 false (tg t 13) v2) d h (fun v3 d h =>
 K .norm (T.set t 17 v3) d h))
def r120_52 : CodeT := fun c _ t d h K => (⟨opStep (oT 17) pI wT
 ⟨opStep (oT 13) pI wT
 ⟨opStep (oK fun e _ _ => binV Tryz.prog .lss 24 false (nthD 1 e) (nthD 0 e)) pI wT
 ⟨opStep (oN 0) pI wT
 ⟨opStep (oT 17) pI (wB false 0)
 ⟨opStep (oT 11) pI (wB false 1)
 ⟨opStep (oK fun e _ _ => binV Tryz.prog .gtr 24 false (nthD 1 e) (nthD 0 e)) pI (wB false 2)
 ⟨opStep (oK fun e _ _ => pickV (nthD 3 e) (.bool true) (nthD 0 e)) (pS 159) wT
 ⟨fun _ _ t d h K => K .norm t d h⟩⟩⟩⟩⟩⟩⟩⟩⟩ : Box OpsT).f c [] t d h K
def r120_53 : CodeT := fun c _ t d h K =>
 kO (some (.iface 152 (.int .i64 1))) d h (fun v1 d h =>
 K .norm (T.set (T.set t 6 (tg t 11)) 7 v1) d h)
def r120_54 : CodeT := fun c _ t d h K =>
 K .norm (T.set t 13 (tg t 17)) d h
def r120_55 : CodeT := fun c _ t d h K =>
 kO (binV Tryz.prog .add 3 true (tg t 101) (.int .i64 1)) d h (fun v0 d h =>
 K .norm (T.set t 101 v0) d h)
def l120_56 : Box CodeT := ⟨seqC ⟨r120_36⟩ ⟨seqC ⟨condC (tC 102) skipC (exitC 3)⟩ ⟨seqC ⟨blockC 4 ⟨seqC ⟨r120_37⟩ ⟨seqC ⟨r120_38⟩ ⟨seqC ⟨blockC 5 ⟨seqC ⟨r120_40⟩ ⟨condC (tC 106) ⟨seqC ⟨r120_41⟩ (exitC 4)⟩ ⟨seqC ⟨r120_42⟩ ⟨condC (tC 112) ⟨r120_43⟩ ⟨seqC ⟨r120_44⟩ ⟨condC (tC 121) ⟨r120_45⟩ ⟨seqC ⟨r120_39⟩ retC⟩⟩⟩⟩⟩⟩⟩⟩ ⟨seqC ⟨seqC ⟨r120_46⟩ ⟨condC (tC 137) ⟨seqC ⟨r120_47⟩ retC⟩ skipC⟩⟩ ⟨seqC ⟨seqC ⟨r120_48⟩ ⟨condC (tC 141) ⟨seqC ⟨r120_49⟩ retC⟩ skipC⟩⟩ ⟨seqC ⟨r120_50⟩ ⟨seqC ⟨r120_51⟩ ⟨seqC ⟨seqC ⟨r120_52⟩ ⟨condC (tC 159) ⟨seqC ⟨r120_53⟩ retC⟩ skipC⟩⟩ ⟨r120_54⟩⟩⟩⟩⟩⟩⟩⟩⟩⟩ ⟨r120_55⟩⟩⟩⟩
def r120_56 : CodeT := fun c _ t d h K => (⟨opStep (oT 12) pI wT
 ⟨opStep (oN 0) pI wT
 ⟨opStep (oT 9) pI (wB true 0)
 ⟨opStep ⟨fun c e t d h K => c 128 [(nthD 0 e)] h (fun v h => (K) v d h)⟩ pI (wB true 1)
 ⟨opStep (oK fun e _ _ => unV .not (nthD 0 e)) pI (wB true 2)
 ⟨opStep (oK fun e _ _ => pickV (nthD 3 e) (nthD 0 e) (.bool false)) (pS 169) wT
 ⟨fun _ _ t d h K => K .norm t d h⟩⟩⟩⟩⟩⟩⟩ : Box OpsT).f c [] t d h K
def r120_57 : CodeT := fun c _ t d h K =>
 kO (some (.iface 152 (.int .i64 2))) d h (fun v0 d h =>
 K .norm (T.set (T.set t 6 (.int .u64 0)) 7 v0) d h)
def r120_58 : CodeT := fun c _ t d h K =>
 K .norm (T.set (T.set t 6 (tg t 13)) 7 .nilIface) d h
def c120 : Box CodeT := ⟨seqC ⟨r120_0⟩ ⟨seqC ⟨seqC ⟨r120_1⟩ ⟨condC (tC 19) ⟨seqC ⟨r120_2⟩ retC⟩ skipC⟩⟩ ⟨seqC ⟨r120_3⟩ ⟨seqC ⟨r120_4⟩ ⟨seqC ⟨blockC 0 ⟨seqC ⟨r120_6⟩ ⟨condC (tC 25) skipC ⟨seqC ⟨r120_7⟩ ⟨condC (tC 32) ⟨seqC ⟨r120_8⟩ ⟨seqC ⟨r120_9⟩ ⟨condC (tC 37) ⟨blockC 1 ⟨seqC ⟨r120_12⟩ ⟨condC (tC 40) ⟨seqC ⟨r120_13⟩ ⟨r120_14⟩⟩ ⟨seqC ⟨r120_15⟩ ⟨condC (tC 52) ⟨seqC ⟨r120_16⟩ ⟨r120_17⟩⟩ ⟨seqC ⟨r120_18⟩ ⟨condC (tC 64) ⟨seqC ⟨r120_19⟩ ⟨r120_20⟩⟩ ⟨seqC ⟨r120_10⟩ ⟨r120_11⟩⟩⟩⟩⟩⟩⟩⟩⟩ skipC⟩⟩⟩ ⟨seqC ⟨r120_5⟩ retC⟩⟩⟩⟩⟩⟩ ⟨seqC ⟨seqC ⟨r120_21⟩ ⟨condC (tC 77) ⟨r120_22⟩ ⟨seqC ⟨r120_23⟩ ⟨condC (tC 83) ⟨seqC ⟨r120_24⟩ retC⟩ skipC⟩⟩⟩⟩ ⟨seqC ⟨r120_25⟩ ⟨seqC ⟨seqC ⟨r120_26⟩ ⟨blockC 2 ⟨seqC ⟨r120_28⟩ ⟨condC (tC 90) ⟨r120_29⟩ ⟨seqC ⟨r120_30⟩ ⟨condC (tC 92) ⟨r120_31⟩ ⟨r120_27⟩⟩⟩⟩⟩⟩⟩ ⟨seqC ⟨r120_32⟩ ⟨seqC ⟨r120_33⟩ ⟨seqC ⟨r120_34⟩ ⟨seqC ⟨seqC ⟨r120_35⟩ ⟨blockC 3 (loopB l120_56)⟩⟩ ⟨seqC ⟨seqC ⟨r120_56⟩ ⟨condC (tC 169) ⟨seqC ⟨r120_57⟩ retC⟩ skipC⟩⟩ ⟨seqC ⟨r120_58⟩ retC⟩⟩⟩⟩⟩⟩⟩⟩⟩⟩⟩⟩⟩⟩
def q120 : Box (T Value → H → Option (List Value)) := ⟨fun t h => some [tg t 6, tg t 7]⟩
def r121_0 : CodeT := fun c _ t d h K =>
 K .norm (T.set t 10 .nilIface) d h
def r121_1 : CodeT := fun c _ t d h K =>
 K .norm (T.set t 11 (tg t 4)) d h
def r121_2 : CodeT := fun c _ t d h K =>
 kO (some (.iface 152 (.int .i64 2))) d h (fun v0 d h =>
 kO (binV Tryz.prog .eql 77 false (tg t 11) v0) d h (fun v1 d h =>
 K .norm (T.set t 12 v1) d h))
def r121_3 : CodeT := fun c _ t d h K =>
 c 129 [(tg t 0), (tg t 1)] h (fun v h => (fun v2 d h =>
 kO (some (.iface 154 v2)) d h (fun v3 d h =>
 K .norm (T.set t 10 v3) d h)) v d h)
def r121_4 : CodeT := fun c _ t d h K =>
 kO (some (.iface 152 (.int .i64 1))) d h (fun v0 d h =>
 kO (binV Tryz.prog .eql 77 false (tg t 11) v0) d h (fun v1 d h =>
 K .norm (T.set t 19 v1) d h))
def r121_5 : CodeT := fun c _ t d h K =>
 c 130 [(tg t 0), (tg t 1)] h (fun v h => (fun v2 d h =>
 kO (some (.iface 154 v2)) d h (fun v3 d h =>
 K .norm (T.set t 10 v3) d h)) v d h)
def r121_6 : CodeT := fun c _ t d h K =>
 kO (some (.iface 152 (.int .i64 3))) d h (fun v0 d h =>
 kO (binV Tryz.prog .eql 77 false (tg t 11) v0) d h (fun v1 d h =>
 K .norm (T.set t 26 v1) d h))
def r121_7 : CodeT := fun c _ t d h K =>
 c 131 [(tg t 0), (tg t 1), (tg t 2)] h (fun v h => (fun v3 d h =>
 kO (some (.iface 154 v3)) d h (fun v4 d h =>
 K .norm (T.set t 10 v4) d h)) v d h)
def r121_8 : CodeT := fun c _ t d h K =>
 kO (some (.iface 152 (.int .i64 4))) d h (fun v0 d h =>
 kO (binV Tryz.prog .eql 77 false (tg t 11) v0) d h (fun v1 d h =>
 K .norm (T.set t 34 v1) d h))
def r121_9 : CodeT := fun c _ t d h K =>
 c 132 [(tg t 0), (tg t 1), (tg t 3)] h (fun v h => (fun v3 d h =>
 kO (some (.iface 154 v3)) d h (fun v4 d h =>
 K .norm (T.set t 10 v4) d h)) v d h)
def r121_10 : CodeT := fun c _ t d h K =>
 K .norm (T.set t 10 (tg t 4)) d h
def c121 : Box CodeT := ⟨seqC ⟨r121_0⟩ ⟨seqC ⟨seqC ⟨r121_1⟩ ⟨blockC 0 ⟨seqC ⟨r121_2⟩ ⟨condC (tC 12) ⟨seqC ⟨r121_3⟩ retC⟩ ⟨seqC ⟨r121_4⟩ ⟨condC (tC 19) ⟨seqC ⟨r121_5⟩ retC⟩ ⟨seqC ⟨r121_6⟩ ⟨condC (tC 26) ⟨seqC ⟨r121_7⟩ retC⟩ ⟨seqC ⟨r121_8⟩ ⟨condC (tC 34) ⟨seqC ⟨r121_9⟩ retC⟩ skipC⟩⟩⟩⟩⟩⟩⟩⟩⟩⟩ ⟨seqC ⟨r121_10⟩ retC⟩⟩⟩
def q121 : Box (T Value → H → Option (List Value)) := ⟨fun t h => some [tg t 10]⟩
def r124_0 : CodeT := fun c _ t d h K =>
 K .norm (T.set t 4 (.bool false)) d h
def r124_1 : CodeT := fun c _ t d h K =>
 kO (nilChk (tg t 0)) d h (fun v2 d h =>
 kO (indexArr 1 256 v2 (tg t 1)) d h (fun v3 d h =>
 kO (loadOne h v3) d h (fun v4 d h =>
 K .norm (T.set t 4 v4) d h)))
def c124 : Box CodeT := ⟨seqC ⟨r124_0⟩ ⟨seqC ⟨r124_1⟩ retC⟩⟩
def q124 : Box (T Value → H → Option (List Value)) := ⟨fun t h => some [tg t 4]⟩
def r130_0 : CodeT := fun c _ t d h K =>
 K .norm (T.set t 4 (.pointer none)) d h
def r130_1 : CodeT := fun c _ t d h0 K =>
 (fun (b0 : Nat) (h : H) =>
 kO (loadOne h (.pointer (some ⟨7, 0, none⟩))) d h (fun v3 d h =>
 c 135 [(tg t 1)] h (fun v h => (fun v2 d h =>
 andB ((hO (loadOne h (.pointer (some ⟨7, 0, none⟩))) v3 true) && true) (kO (aggO (fill [(.string (strB [])), (.string (strB [])), .nilIface] (plc [(0, 1), (1, 1), (2, 1)]) [(0, (tg t 0)), (1, v2), (2, v3)])) d h (fun v4 d h =>
 aO (some (.rw (Value.cells v4).toList (some 160), ptrTo (b0 + 5))) (fun x5 v5 =>
 K .norm (T.set t 4 v5) d (H.put h (b0 + 5) x5))))) v d h))) h0.next ⟨h0.objs, h0.next + 7⟩
def c130 : Box CodeT := ⟨seqC ⟨r130_0⟩ ⟨seqC ⟨r130_1⟩ retC⟩⟩
def q130 : Box (T Value → H → Option (List Value)) := ⟨fun t h => some [tg t 4]⟩
def r135_0 : CodeT := fun c _ t d h K =>
 K .norm (T.set t 2 (.string (strB []))) d h
def r135_1 : CodeT := fun c _ t d h K =>
 kO (lenStr (tg t 0)) d h (fun v1 d h =>
 kO (binV Tryz.prog .eql 3 true v1 (.int .i64 0)) d h (fun v2 d h =>
 K .norm (T.set t 6 v2) d h))
def r135_2 : CodeT := fun c _ t d h K =>
 K .norm (T.set t 2 (.string (strB []))) d h
def r135_3 : CodeT := fun c _ t d h K =>
 kO (lenStr (tg t 0)) d h (fun v1 d h =>
 kA (mkSlice 5 [(.int .u8 0)] 1 h.next v1 v1) d h (fun v2 d h =>
 K .norm (T.set t 3 v2) d h))
def r135_4 : CodeT := fun c _ t d h K =>
 kH (copyV 1 h (tg t 3) (tg t 0)) d (fun v2 d h =>
 K .norm t d h)
def r135_5 : CodeT := fun c _ t d h K =>
 kO (indexSl 1 (tg t 3) (.int .i64 0)) d h (fun v1 d h =>
 kO (lenSl (tg t 3)) d h (fun v3 d h =>
 kH (strOf 5 h v1 v3) d (fun v4 d h =>
 K .norm (T.set t 2 v4) d h)))
def c135 : Box CodeT := ⟨seqC ⟨r135_0⟩ ⟨seqC ⟨seqC ⟨r135_1⟩ ⟨condC (tC 6) ⟨seqC ⟨r135_2⟩ retC⟩ skipC⟩⟩ ⟨seqC ⟨r135_3⟩ ⟨seqC ⟨r135_4⟩ ⟨seqC ⟨r135_5⟩ retC⟩⟩⟩⟩⟩
def q135 : Box (T Value → H → Option (List Value)) := ⟨fun t h => some [tg t 2]⟩
end
end Go.Proofs.YtilpiiafjehbnaaGreatDoor
