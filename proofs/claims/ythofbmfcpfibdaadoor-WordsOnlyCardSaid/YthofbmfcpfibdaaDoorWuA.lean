import Derived.Test.YthofbmfcpfibdaaDoorWyA
set_option linter.unusedSimpArgs false
set_option linter.unusedVariables false
namespace Go.Proofs.YthofbmfcpfibdaaDoor
open Go.Ev
/-! 6 cloakroom/cloakroomlaw15.WordsBack -/
/-! 7 cloakroom/cloakroomlaw15.WordsOnly -/
noncomputable def r7_0 : CodeT := fun call _ tm ds h K =>
  K .norm (T.set tm 4 (.bool false)) ds h
noncomputable def r7_1 : CodeT := fun call _ tm ds h K =>
  call 17 [] h (fun v h => (fun v0 ds h =>
  K .norm (T.set tm 5 v0) ds h) v ds h)
noncomputable def r7_2 : CodeT := fun call _ tm ds h K =>
  kO (lenSl (tg tm 0)) ds h (fun v1 ds h =>
  kO (binV Tryd.prog .gtr 3 true v1 (.int .i64 (6000))) ds h (fun v2 ds h =>
  gd (isB false v2) (fun k => kO (some (tg tm 5)) ds h (k)) ds h (fun v4 ds h =>
  gd (isB false v2) (fun k => kO (unV .not v4) ds h (k)) ds h (fun v5 ds h =>
  kO (pickV v2 (.bool true) v5) ds h (fun v6 ds h =>
  K .norm (T.set tm 18 v6) ds h)))))
noncomputable def r7_3 : CodeT := fun call _ tm ds h K =>
  K .norm (T.set tm 4 (tg tm 5)) ds h
noncomputable def r7_4 : CodeT := fun call _ tm ds h K =>
  call 13 [(tg tm 0), (tg tm 1)] h (fun v h => (fun v2 ds h =>
  kO (tupNth 0 v2) ds h (fun v4 ds h =>
  kO (tupNth 1 v2) ds h (fun v5 ds h =>
  kO (tupNth 2 v2) ds h (fun v6 ds h =>
  kA (some (.rw [(.int .u8 (0)), (.int .u8 (0)), (.int .u8 (0)), (.slice none 0 0), (.int .u64 (0)), (.bool false), (.string (strB []))] (some 27), ptrTo h.next)) ds h (fun v7 ds h =>
  kH (withV undef (storeV 7 h v7 v4)) ds (fun v8 ds h =>
  K .norm (T.set (T.set (T.set tm 6 v7) 7 v5) 8 v6) ds h)))))) v ds h)
noncomputable def r7_5 : CodeT := fun call _ tm ds h K =>
  kO (binV Tryd.prog .neq 30 true (tg tm 8) (.int .i64 (0))) ds h (fun v1 ds h =>
  gd (isB false v1) (fun k => kO (some (tg tm 7)) ds h (k)) ds h (fun v3 ds h =>
  gd (isB false v1) (fun k => kO (binV Tryd.prog .eql 3 true v3 (.int .i64 (0))) ds h (k)) ds h (fun v4 ds h =>
  kO (pickV v1 (.bool true) v4) ds h (fun v5 ds h =>
  K .norm (T.set tm 32 v5) ds h))))
noncomputable def r7_6 : CodeT := fun call _ tm ds h K =>
  kO (loadAgg 7 h (tg tm 6)) ds h (fun v0 ds h =>
  kO (aggO (fill [(.int .u8 (0)), (.int .u8 (0)), (.int .u8 (0)), (.slice none 0 0), (.int .u64 (0)), (.bool false), (.string (strB []))] (plc [(0, 1), (1, 1), (2, 3), (5, 1), (6, 1)]) [])) ds h (fun v1 ds h =>
  call 15 [v0, v1] h (fun v h => (fun v2 ds h =>
  gd (isB true v2) (fun k => kO (some (tg tm 7)) ds h (k)) ds h (fun v4 ds h =>
  gd (isB true v2) (fun k => kO (binV Tryd.prog .eql 3 true v4 (.int .i64 (0))) ds h (k)) ds h (fun v5 ds h =>
  kO (pickV v2 v5 (.bool false)) ds h (fun v6 ds h =>
  K .norm (T.set tm 4 v6) ds h)))) v ds h)))
noncomputable def r7_7 : CodeT := fun call _ tm ds h K =>
  kO (loadAgg 7 h (tg tm 6)) ds h (fun v0 ds h =>
  call 9 [v0] h (fun v h => (fun v1 ds h =>
  kO (tupNth 0 v1) ds h (fun v3 ds h =>
  kO (tupNth 1 v1) ds h (fun v4 ds h =>
  K .norm (T.set (T.set tm 9 v3) 10 v4) ds h))) v ds h))
noncomputable def r7_8 : CodeT := fun call _ tm ds h0 K =>
  (fun (b0 : Nat) (h : H) =>
  kO (binV Tryd.prog .eql 30 true (tg tm 10) (.int .i64 (0))) ds h (fun v1 ds h =>
  gd (isB true v1) (fun k => kO (some (tg tm 7)) ds h k) ds h (fun v3 ds h =>
  gd (isB true v1) (fun k => kO (some (tg tm 0)) ds h k) ds h (fun v4 ds h =>
  gd (isB true v1) (fun k => kO (lenSl v4) ds h k) ds h (fun v5 ds h =>
  gd (isB true v1) (fun k => kO (binV Tryd.prog .leq 3 false v3 v5) ds h k) ds h (fun v6 ds h =>
  kO (pickV v1 v6 (.bool false)) ds h (fun v7 ds h =>
  gd (isB true v7) (fun k => kO (some (tg tm 9)) ds h k) ds h (fun v9 ds h =>
  ite2 (isB true v7) (kO (bytesStr h v9) ds h (fun v10 ds h =>
  gd (isB true v7) (fun k => kO (some (tg tm 0)) ds h k) ds h (fun v11 ds h =>
  gd (isB true v7) (fun k => kO (some (tg tm 7)) ds h k) ds h (fun v12 ds h =>
  gd (isB true v7) (fun k => kO (sliceSl 1 v11 none (some v12) none) ds h k) ds h (fun v13 ds h =>
  ite2 (isB true v7) (kO (bytesStr h v13) ds h (fun v14 ds h =>
  gd (isB true v7) (fun k => kO (binV Tryd.prog .eql 9 false v10 v14) ds h k) ds h (fun v15 ds h =>
  kO (pickV v7 v15 (.bool false)) ds h (fun v16 ds h =>
  ite2 (isB true v16) (kO (loadAgg 7 h (tg tm 6)) ds h (fun v18 ds h =>
  ite2 (isB true v16) (call 11 [v18] h (fun v h => (fun v19 ds h =>
  gd (isB true v16) (fun k => kO (binV Tryd.prog .eql 30 true v19 (.int .i64 (0))) ds h k) ds h (fun v20 ds h =>
  kO (pickV v16 v20 (.bool false)) ds h (fun v21 ds h =>
  gd (isB true v21) (fun k => kO (fieldPtr 0 (tg tm 6)) ds h k) ds h (fun v23 ds h =>
  ite2 (isB true v21) (kO (loadOne h v23) ds h (fun v24 ds h =>
  gd (isB true v21) (fun k => kO (binV Tryd.prog .neq 5 true v24 (.int .u8 (1))) ds h k) ds h (fun v25 ds h =>
  gd (isB true v21) (fun k => kO (some v25) ds h k) ds h (fun v26 ds h =>
  gd (isB false v26) (fun k => kO (fieldPtr 1 (tg tm 6)) ds h k) ds h (fun v27 ds h =>
  ite2 (isB false v26) (kO (loadOne h v27) ds h (fun v28 ds h =>
  gd (isB false v26) (fun k => kO (some (tg tm 1)) ds h k) ds h (fun v29 ds h =>
  gd (isB false v26) (fun k => kO (binV Tryd.prog .eql 5 false v28 v29) ds h k) ds h (fun v30 ds h =>
  gd (isB true v21) (fun k => kO (pickV v26 (.bool true) v30) ds h k) ds h (fun v31 ds h =>
  kO (pickV v21 v31 (.bool false)) ds h (fun v32 ds h =>
  K .norm (T.set tm 4 v32) ds h))))))
  (gd (isB false v26) (fun k => kO (some (tg tm 1)) ds h k) ds h (fun v29 ds h =>
  gd (isB false v26) (fun k => kO (binV Tryd.prog .eql 5 false undef v29) ds h k) ds h (fun v30 ds h =>
  gd (isB true v21) (fun k => kO (pickV v26 (.bool true) v30) ds h k) ds h (fun v31 ds h =>
  kO (pickV v21 v31 (.bool false)) ds h (fun v32 ds h =>
  K .norm (T.set tm 4 v32) ds h))))))))))
  (gd (isB true v21) (fun k => kO (binV Tryd.prog .neq 5 true undef (.int .u8 (1))) ds h k) ds h (fun v25 ds h =>
  gd (isB true v21) (fun k => kO (some v25) ds h k) ds h (fun v26 ds h =>
  gd (isB false v26) (fun k => kO (fieldPtr 1 (tg tm 6)) ds h k) ds h (fun v27 ds h =>
  ite2 (isB false v26) (kO (loadOne h v27) ds h (fun v28 ds h =>
  gd (isB false v26) (fun k => kO (some (tg tm 1)) ds h k) ds h (fun v29 ds h =>
  gd (isB false v26) (fun k => kO (binV Tryd.prog .eql 5 false v28 v29) ds h k) ds h (fun v30 ds h =>
  gd (isB true v21) (fun k => kO (pickV v26 (.bool true) v30) ds h k) ds h (fun v31 ds h =>
  kO (pickV v21 v31 (.bool false)) ds h (fun v32 ds h =>
  K .norm (T.set tm 4 v32) ds h))))))
  (gd (isB false v26) (fun k => kO (some (tg tm 1)) ds h k) ds h (fun v29 ds h =>
  gd (isB false v26) (fun k => kO (binV Tryd.prog .eql 5 false undef v29) ds h k) ds h (fun v30 ds h =>
  gd (isB true v21) (fun k => kO (pickV v26 (.bool true) v30) ds h k) ds h (fun v31 ds h =>
  kO (pickV v21 v31 (.bool false)) ds h (fun v32 ds h =>
  K .norm (T.set tm 4 v32) ds h))))))))))))) v ds h))
  (gd (isB true v16) (fun k => kO (binV Tryd.prog .eql 30 true undef (.int .i64 (0))) ds h k) ds h (fun v20 ds h =>
  kO (pickV v16 v20 (.bool false)) ds h (fun v21 ds h =>
  gd (isB true v21) (fun k => kO (fieldPtr 0 (tg tm 6)) ds h k) ds h (fun v23 ds h =>
  ite2 (isB true v21) (kO (loadOne h v23) ds h (fun v24 ds h =>
  gd (isB true v21) (fun k => kO (binV Tryd.prog .neq 5 true v24 (.int .u8 (1))) ds h k) ds h (fun v25 ds h =>
  gd (isB true v21) (fun k => kO (some v25) ds h k) ds h (fun v26 ds h =>
  gd (isB false v26) (fun k => kO (fieldPtr 1 (tg tm 6)) ds h k) ds h (fun v27 ds h =>
  ite2 (isB false v26) (kO (loadOne h v27) ds h (fun v28 ds h =>
  gd (isB false v26) (fun k => kO (some (tg tm 1)) ds h k) ds h (fun v29 ds h =>
  gd (isB false v26) (fun k => kO (binV Tryd.prog .eql 5 false v28 v29) ds h k) ds h (fun v30 ds h =>
  gd (isB true v21) (fun k => kO (pickV v26 (.bool true) v30) ds h k) ds h (fun v31 ds h =>
  kO (pickV v21 v31 (.bool false)) ds h (fun v32 ds h =>
  K .norm (T.set tm 4 v32) ds h))))))
  (gd (isB false v26) (fun k => kO (some (tg tm 1)) ds h k) ds h (fun v29 ds h =>
  gd (isB false v26) (fun k => kO (binV Tryd.prog .eql 5 false undef v29) ds h k) ds h (fun v30 ds h =>
  gd (isB true v21) (fun k => kO (pickV v26 (.bool true) v30) ds h k) ds h (fun v31 ds h =>
  kO (pickV v21 v31 (.bool false)) ds h (fun v32 ds h =>
  K .norm (T.set tm 4 v32) ds h))))))))))
  (gd (isB true v21) (fun k => kO (binV Tryd.prog .neq 5 true undef (.int .u8 (1))) ds h k) ds h (fun v25 ds h =>
  gd (isB true v21) (fun k => kO (some v25) ds h k) ds h (fun v26 ds h =>
  gd (isB false v26) (fun k => kO (fieldPtr 1 (tg tm 6)) ds h k) ds h (fun v27 ds h =>
  ite2 (isB false v26) (kO (loadOne h v27) ds h (fun v28 ds h =>
  gd (isB false v26) (fun k => kO (some (tg tm 1)) ds h k) ds h (fun v29 ds h =>
  gd (isB false v26) (fun k => kO (binV Tryd.prog .eql 5 false v28 v29) ds h k) ds h (fun v30 ds h =>
  gd (isB true v21) (fun k => kO (pickV v26 (.bool true) v30) ds h k) ds h (fun v31 ds h =>
  kO (pickV v21 v31 (.bool false)) ds h (fun v32 ds h =>
  K .norm (T.set tm 4 v32) ds h))))))
  (gd (isB false v26) (fun k => kO (some (tg tm 1)) ds h k) ds h (fun v29 ds h =>
  gd (isB false v26) (fun k => kO (binV Tryd.prog .eql 5 false undef v29) ds h k) ds h (fun v30 ds h =>
  gd (isB true v21) (fun k => kO (pickV v26 (.bool true) v30) ds h k) ds h (fun v31 ds h =>
  kO (pickV v21 v31 (.bool false)) ds h (fun v32 ds h =>
  K .norm (T.set tm 4 v32) ds h)))))))))))))))
  (ite2 (isB true v16) (call 11 [undef] h (fun v h => (fun v19 ds h =>
  gd (isB true v16) (fun k => kO (binV Tryd.prog .eql 30 true v19 (.int .i64 (0))) ds h k) ds h (fun v20 ds h =>
  kO (pickV v16 v20 (.bool false)) ds h (fun v21 ds h =>
  gd (isB true v21) (fun k => kO (fieldPtr 0 (tg tm 6)) ds h k) ds h (fun v23 ds h =>
  ite2 (isB true v21) (kO (loadOne h v23) ds h (fun v24 ds h =>
  gd (isB true v21) (fun k => kO (binV Tryd.prog .neq 5 true v24 (.int .u8 (1))) ds h k) ds h (fun v25 ds h =>
  gd (isB true v21) (fun k => kO (some v25) ds h k) ds h (fun v26 ds h =>
  gd (isB false v26) (fun k => kO (fieldPtr 1 (tg tm 6)) ds h k) ds h (fun v27 ds h =>
  ite2 (isB false v26) (kO (loadOne h v27) ds h (fun v28 ds h =>
  gd (isB false v26) (fun k => kO (some (tg tm 1)) ds h k) ds h (fun v29 ds h =>
  gd (isB false v26) (fun k => kO (binV Tryd.prog .eql 5 false v28 v29) ds h k) ds h (fun v30 ds h =>
  gd (isB true v21) (fun k => kO (pickV v26 (.bool true) v30) ds h k) ds h (fun v31 ds h =>
  kO (pickV v21 v31 (.bool false)) ds h (fun v32 ds h =>
  K .norm (T.set tm 4 v32) ds h))))))
  (gd (isB false v26) (fun k => kO (some (tg tm 1)) ds h k) ds h (fun v29 ds h =>
  gd (isB false v26) (fun k => kO (binV Tryd.prog .eql 5 false undef v29) ds h k) ds h (fun v30 ds h =>
  gd (isB true v21) (fun k => kO (pickV v26 (.bool true) v30) ds h k) ds h (fun v31 ds h =>
  kO (pickV v21 v31 (.bool false)) ds h (fun v32 ds h =>
  K .norm (T.set tm 4 v32) ds h))))))))))
  (gd (isB true v21) (fun k => kO (binV Tryd.prog .neq 5 true undef (.int .u8 (1))) ds h k) ds h (fun v25 ds h =>
  gd (isB true v21) (fun k => kO (some v25) ds h k) ds h (fun v26 ds h =>
  gd (isB false v26) (fun k => kO (fieldPtr 1 (tg tm 6)) ds h k) ds h (fun v27 ds h =>
  ite2 (isB false v26) (kO (loadOne h v27) ds h (fun v28 ds h =>
  gd (isB false v26) (fun k => kO (some (tg tm 1)) ds h k) ds h (fun v29 ds h =>
  gd (isB false v26) (fun k => kO (binV Tryd.prog .eql 5 false v28 v29) ds h k) ds h (fun v30 ds h =>
  gd (isB true v21) (fun k => kO (pickV v26 (.bool true) v30) ds h k) ds h (fun v31 ds h =>
  kO (pickV v21 v31 (.bool false)) ds h (fun v32 ds h =>
  K .norm (T.set tm 4 v32) ds h))))))
  (gd (isB false v26) (fun k => kO (some (tg tm 1)) ds h k) ds h (fun v29 ds h =>
  gd (isB false v26) (fun k => kO (binV Tryd.prog .eql 5 false undef v29) ds h k) ds h (fun v30 ds h =>
  gd (isB true v21) (fun k => kO (pickV v26 (.bool true) v30) ds h k) ds h (fun v31 ds h =>
  kO (pickV v21 v31 (.bool false)) ds h (fun v32 ds h =>
  K .norm (T.set tm 4 v32) ds h))))))))))))) v ds h))
  (gd (isB true v16) (fun k => kO (binV Tryd.prog .eql 30 true undef (.int .i64 (0))) ds h k) ds h (fun v20 ds h =>
  kO (pickV v16 v20 (.bool false)) ds h (fun v21 ds h =>
  gd (isB true v21) (fun k => kO (fieldPtr 0 (tg tm 6)) ds h k) ds h (fun v23 ds h =>
  ite2 (isB true v21) (kO (loadOne h v23) ds h (fun v24 ds h =>
  gd (isB true v21) (fun k => kO (binV Tryd.prog .neq 5 true v24 (.int .u8 (1))) ds h k) ds h (fun v25 ds h =>
  gd (isB true v21) (fun k => kO (some v25) ds h k) ds h (fun v26 ds h =>
  gd (isB false v26) (fun k => kO (fieldPtr 1 (tg tm 6)) ds h k) ds h (fun v27 ds h =>
  ite2 (isB false v26) (kO (loadOne h v27) ds h (fun v28 ds h =>
  gd (isB false v26) (fun k => kO (some (tg tm 1)) ds h k) ds h (fun v29 ds h =>
  gd (isB false v26) (fun k => kO (binV Tryd.prog .eql 5 false v28 v29) ds h k) ds h (fun v30 ds h =>
  gd (isB true v21) (fun k => kO (pickV v26 (.bool true) v30) ds h k) ds h (fun v31 ds h =>
  kO (pickV v21 v31 (.bool false)) ds h (fun v32 ds h =>
  K .norm (T.set tm 4 v32) ds h))))))
  (gd (isB false v26) (fun k => kO (some (tg tm 1)) ds h k) ds h (fun v29 ds h =>
  gd (isB false v26) (fun k => kO (binV Tryd.prog .eql 5 false undef v29) ds h k) ds h (fun v30 ds h =>
  gd (isB true v21) (fun k => kO (pickV v26 (.bool true) v30) ds h k) ds h (fun v31 ds h =>
  kO (pickV v21 v31 (.bool false)) ds h (fun v32 ds h =>
  K .norm (T.set tm 4 v32) ds h))))))))))
  (gd (isB true v21) (fun k => kO (binV Tryd.prog .neq 5 true undef (.int .u8 (1))) ds h k) ds h (fun v25 ds h =>
  gd (isB true v21) (fun k => kO (some v25) ds h k) ds h (fun v26 ds h =>
  gd (isB false v26) (fun k => kO (fieldPtr 1 (tg tm 6)) ds h k) ds h (fun v27 ds h =>
  ite2 (isB false v26) (kO (loadOne h v27) ds h (fun v28 ds h =>
  gd (isB false v26) (fun k => kO (some (tg tm 1)) ds h k) ds h (fun v29 ds h =>
  gd (isB false v26) (fun k => kO (binV Tryd.prog .eql 5 false v28 v29) ds h k) ds h (fun v30 ds h =>
  gd (isB true v21) (fun k => kO (pickV v26 (.bool true) v30) ds h k) ds h (fun v31 ds h =>
  kO (pickV v21 v31 (.bool false)) ds h (fun v32 ds h =>
  K .norm (T.set tm 4 v32) ds h))))))
  (gd (isB false v26) (fun k => kO (some (tg tm 1)) ds h k) ds h (fun v29 ds h =>
  gd (isB false v26) (fun k => kO (binV Tryd.prog .eql 5 false undef v29) ds h k) ds h (fun v30 ds h =>
  gd (isB true v21) (fun k => kO (pickV v26 (.bool true) v30) ds h k) ds h (fun v31 ds h =>
  kO (pickV v21 v31 (.bool false)) ds h (fun v32 ds h =>
  K .norm (T.set tm 4 v32) ds h))))))))))))))))))
  (gd (isB true v7) (fun k => kO (binV Tryd.prog .eql 9 false v10 undef) ds h k) ds h (fun v15 ds h =>
  kO (pickV v7 v15 (.bool false)) ds h (fun v16 ds h =>
  ite2 (isB true v16) (kO (loadAgg 7 h (tg tm 6)) ds h (fun v18 ds h =>
  ite2 (isB true v16) (call 11 [v18] h (fun v h => (fun v19 ds h =>
  gd (isB true v16) (fun k => kO (binV Tryd.prog .eql 30 true v19 (.int .i64 (0))) ds h k) ds h (fun v20 ds h =>
  kO (pickV v16 v20 (.bool false)) ds h (fun v21 ds h =>
  gd (isB true v21) (fun k => kO (fieldPtr 0 (tg tm 6)) ds h k) ds h (fun v23 ds h =>
  ite2 (isB true v21) (kO (loadOne h v23) ds h (fun v24 ds h =>
  gd (isB true v21) (fun k => kO (binV Tryd.prog .neq 5 true v24 (.int .u8 (1))) ds h k) ds h (fun v25 ds h =>
  gd (isB true v21) (fun k => kO (some v25) ds h k) ds h (fun v26 ds h =>
  gd (isB false v26) (fun k => kO (fieldPtr 1 (tg tm 6)) ds h k) ds h (fun v27 ds h =>
  ite2 (isB false v26) (kO (loadOne h v27) ds h (fun v28 ds h =>
  gd (isB false v26) (fun k => kO (some (tg tm 1)) ds h k) ds h (fun v29 ds h =>
  gd (isB false v26) (fun k => kO (binV Tryd.prog .eql 5 false v28 v29) ds h k) ds h (fun v30 ds h =>
  gd (isB true v21) (fun k => kO (pickV v26 (.bool true) v30) ds h k) ds h (fun v31 ds h =>
  kO (pickV v21 v31 (.bool false)) ds h (fun v32 ds h =>
  K .norm (T.set tm 4 v32) ds h))))))
  (gd (isB false v26) (fun k => kO (some (tg tm 1)) ds h k) ds h (fun v29 ds h =>
  gd (isB false v26) (fun k => kO (binV Tryd.prog .eql 5 false undef v29) ds h k) ds h (fun v30 ds h =>
  gd (isB true v21) (fun k => kO (pickV v26 (.bool true) v30) ds h k) ds h (fun v31 ds h =>
  kO (pickV v21 v31 (.bool false)) ds h (fun v32 ds h =>
  K .norm (T.set tm 4 v32) ds h))))))))))
  (gd (isB true v21) (fun k => kO (binV Tryd.prog .neq 5 true undef (.int .u8 (1))) ds h k) ds h (fun v25 ds h =>
  gd (isB true v21) (fun k => kO (some v25) ds h k) ds h (fun v26 ds h =>
  gd (isB false v26) (fun k => kO (fieldPtr 1 (tg tm 6)) ds h k) ds h (fun v27 ds h =>
  ite2 (isB false v26) (kO (loadOne h v27) ds h (fun v28 ds h =>
  gd (isB false v26) (fun k => kO (some (tg tm 1)) ds h k) ds h (fun v29 ds h =>
  gd (isB false v26) (fun k => kO (binV Tryd.prog .eql 5 false v28 v29) ds h k) ds h (fun v30 ds h =>
  gd (isB true v21) (fun k => kO (pickV v26 (.bool true) v30) ds h k) ds h (fun v31 ds h =>
  kO (pickV v21 v31 (.bool false)) ds h (fun v32 ds h =>
  K .norm (T.set tm 4 v32) ds h))))))
  (gd (isB false v26) (fun k => kO (some (tg tm 1)) ds h k) ds h (fun v29 ds h =>
  gd (isB false v26) (fun k => kO (binV Tryd.prog .eql 5 false undef v29) ds h k) ds h (fun v30 ds h =>
  gd (isB true v21) (fun k => kO (pickV v26 (.bool true) v30) ds h k) ds h (fun v31 ds h =>
  kO (pickV v21 v31 (.bool false)) ds h (fun v32 ds h =>
  K .norm (T.set tm 4 v32) ds h))))))))))))) v ds h))
  (gd (isB true v16) (fun k => kO (binV Tryd.prog .eql 30 true undef (.int .i64 (0))) ds h k) ds h (fun v20 ds h =>
  kO (pickV v16 v20 (.bool false)) ds h (fun v21 ds h =>
  gd (isB true v21) (fun k => kO (fieldPtr 0 (tg tm 6)) ds h k) ds h (fun v23 ds h =>
  ite2 (isB true v21) (kO (loadOne h v23) ds h (fun v24 ds h =>
  gd (isB true v21) (fun k => kO (binV Tryd.prog .neq 5 true v24 (.int .u8 (1))) ds h k) ds h (fun v25 ds h =>
  gd (isB true v21) (fun k => kO (some v25) ds h k) ds h (fun v26 ds h =>
  gd (isB false v26) (fun k => kO (fieldPtr 1 (tg tm 6)) ds h k) ds h (fun v27 ds h =>
  ite2 (isB false v26) (kO (loadOne h v27) ds h (fun v28 ds h =>
  gd (isB false v26) (fun k => kO (some (tg tm 1)) ds h k) ds h (fun v29 ds h =>
  gd (isB false v26) (fun k => kO (binV Tryd.prog .eql 5 false v28 v29) ds h k) ds h (fun v30 ds h =>
  gd (isB true v21) (fun k => kO (pickV v26 (.bool true) v30) ds h k) ds h (fun v31 ds h =>
  kO (pickV v21 v31 (.bool false)) ds h (fun v32 ds h =>
  K .norm (T.set tm 4 v32) ds h))))))
  (gd (isB false v26) (fun k => kO (some (tg tm 1)) ds h k) ds h (fun v29 ds h =>
  gd (isB false v26) (fun k => kO (binV Tryd.prog .eql 5 false undef v29) ds h k) ds h (fun v30 ds h =>
  gd (isB true v21) (fun k => kO (pickV v26 (.bool true) v30) ds h k) ds h (fun v31 ds h =>
  kO (pickV v21 v31 (.bool false)) ds h (fun v32 ds h =>
  K .norm (T.set tm 4 v32) ds h))))))))))
  (gd (isB true v21) (fun k => kO (binV Tryd.prog .neq 5 true undef (.int .u8 (1))) ds h k) ds h (fun v25 ds h =>
  gd (isB true v21) (fun k => kO (some v25) ds h k) ds h (fun v26 ds h =>
  gd (isB false v26) (fun k => kO (fieldPtr 1 (tg tm 6)) ds h k) ds h (fun v27 ds h =>
  ite2 (isB false v26) (kO (loadOne h v27) ds h (fun v28 ds h =>
  gd (isB false v26) (fun k => kO (some (tg tm 1)) ds h k) ds h (fun v29 ds h =>
  gd (isB false v26) (fun k => kO (binV Tryd.prog .eql 5 false v28 v29) ds h k) ds h (fun v30 ds h =>
  gd (isB true v21) (fun k => kO (pickV v26 (.bool true) v30) ds h k) ds h (fun v31 ds h =>
  kO (pickV v21 v31 (.bool false)) ds h (fun v32 ds h =>
  K .norm (T.set tm 4 v32) ds h))))))
  (gd (isB false v26) (fun k => kO (some (tg tm 1)) ds h k) ds h (fun v29 ds h =>
  gd (isB false v26) (fun k => kO (binV Tryd.prog .eql 5 false undef v29) ds h k) ds h (fun v30 ds h =>
  gd (isB true v21) (fun k => kO (pickV v26 (.bool true) v30) ds h k) ds h (fun v31 ds h =>
  kO (pickV v21 v31 (.bool false)) ds h (fun v32 ds h =>
  K .norm (T.set tm 4 v32) ds h)))))))))))))))
  (ite2 (isB true v16) (call 11 [undef] h (fun v h => (fun v19 ds h =>
  gd (isB true v16) (fun k => kO (binV Tryd.prog .eql 30 true v19 (.int .i64 (0))) ds h k) ds h (fun v20 ds h =>
  kO (pickV v16 v20 (.bool false)) ds h (fun v21 ds h =>
  gd (isB true v21) (fun k => kO (fieldPtr 0 (tg tm 6)) ds h k) ds h (fun v23 ds h =>
  ite2 (isB true v21) (kO (loadOne h v23) ds h (fun v24 ds h =>
  gd (isB true v21) (fun k => kO (binV Tryd.prog .neq 5 true v24 (.int .u8 (1))) ds h k) ds h (fun v25 ds h =>
  gd (isB true v21) (fun k => kO (some v25) ds h k) ds h (fun v26 ds h =>
  gd (isB false v26) (fun k => kO (fieldPtr 1 (tg tm 6)) ds h k) ds h (fun v27 ds h =>
  ite2 (isB false v26) (kO (loadOne h v27) ds h (fun v28 ds h =>
  gd (isB false v26) (fun k => kO (some (tg tm 1)) ds h k) ds h (fun v29 ds h =>
  gd (isB false v26) (fun k => kO (binV Tryd.prog .eql 5 false v28 v29) ds h k) ds h (fun v30 ds h =>
  gd (isB true v21) (fun k => kO (pickV v26 (.bool true) v30) ds h k) ds h (fun v31 ds h =>
  kO (pickV v21 v31 (.bool false)) ds h (fun v32 ds h =>
  K .norm (T.set tm 4 v32) ds h))))))
  (gd (isB false v26) (fun k => kO (some (tg tm 1)) ds h k) ds h (fun v29 ds h =>
  gd (isB false v26) (fun k => kO (binV Tryd.prog .eql 5 false undef v29) ds h k) ds h (fun v30 ds h =>
  gd (isB true v21) (fun k => kO (pickV v26 (.bool true) v30) ds h k) ds h (fun v31 ds h =>
  kO (pickV v21 v31 (.bool false)) ds h (fun v32 ds h =>
  K .norm (T.set tm 4 v32) ds h))))))))))
  (gd (isB true v21) (fun k => kO (binV Tryd.prog .neq 5 true undef (.int .u8 (1))) ds h k) ds h (fun v25 ds h =>
  gd (isB true v21) (fun k => kO (some v25) ds h k) ds h (fun v26 ds h =>
  gd (isB false v26) (fun k => kO (fieldPtr 1 (tg tm 6)) ds h k) ds h (fun v27 ds h =>
  ite2 (isB false v26) (kO (loadOne h v27) ds h (fun v28 ds h =>
  gd (isB false v26) (fun k => kO (some (tg tm 1)) ds h k) ds h (fun v29 ds h =>
  gd (isB false v26) (fun k => kO (binV Tryd.prog .eql 5 false v28 v29) ds h k) ds h (fun v30 ds h =>
  gd (isB true v21) (fun k => kO (pickV v26 (.bool true) v30) ds h k) ds h (fun v31 ds h =>
  kO (pickV v21 v31 (.bool false)) ds h (fun v32 ds h =>
  K .norm (T.set tm 4 v32) ds h))))))
  (gd (isB false v26) (fun k => kO (some (tg tm 1)) ds h k) ds h (fun v29 ds h =>
  gd (isB false v26) (fun k => kO (binV Tryd.prog .eql 5 false undef v29) ds h k) ds h (fun v30 ds h =>
  gd (isB true v21) (fun k => kO (pickV v26 (.bool true) v30) ds h k) ds h (fun v31 ds h =>
  kO (pickV v21 v31 (.bool false)) ds h (fun v32 ds h =>
  K .norm (T.set tm 4 v32) ds h))))))))))))) v ds h))
  (gd (isB true v16) (fun k => kO (binV Tryd.prog .eql 30 true undef (.int .i64 (0))) ds h k) ds h (fun v20 ds h =>
  kO (pickV v16 v20 (.bool false)) ds h (fun v21 ds h =>
  gd (isB true v21) (fun k => kO (fieldPtr 0 (tg tm 6)) ds h k) ds h (fun v23 ds h =>
  ite2 (isB true v21) (kO (loadOne h v23) ds h (fun v24 ds h =>
  gd (isB true v21) (fun k => kO (binV Tryd.prog .neq 5 true v24 (.int .u8 (1))) ds h k) ds h (fun v25 ds h =>
  gd (isB true v21) (fun k => kO (some v25) ds h k) ds h (fun v26 ds h =>
  gd (isB false v26) (fun k => kO (fieldPtr 1 (tg tm 6)) ds h k) ds h (fun v27 ds h =>
  ite2 (isB false v26) (kO (loadOne h v27) ds h (fun v28 ds h =>
  gd (isB false v26) (fun k => kO (some (tg tm 1)) ds h k) ds h (fun v29 ds h =>
  gd (isB false v26) (fun k => kO (binV Tryd.prog .eql 5 false v28 v29) ds h k) ds h (fun v30 ds h =>
  gd (isB true v21) (fun k => kO (pickV v26 (.bool true) v30) ds h k) ds h (fun v31 ds h =>
  kO (pickV v21 v31 (.bool false)) ds h (fun v32 ds h =>
  K .norm (T.set tm 4 v32) ds h))))))
  (gd (isB false v26) (fun k => kO (some (tg tm 1)) ds h k) ds h (fun v29 ds h =>
  gd (isB false v26) (fun k => kO (binV Tryd.prog .eql 5 false undef v29) ds h k) ds h (fun v30 ds h =>
  gd (isB true v21) (fun k => kO (pickV v26 (.bool true) v30) ds h k) ds h (fun v31 ds h =>
  kO (pickV v21 v31 (.bool false)) ds h (fun v32 ds h =>
  K .norm (T.set tm 4 v32) ds h))))))))))
  (gd (isB true v21) (fun k => kO (binV Tryd.prog .neq 5 true undef (.int .u8 (1))) ds h k) ds h (fun v25 ds h =>
  gd (isB true v21) (fun k => kO (some v25) ds h k) ds h (fun v26 ds h =>
  gd (isB false v26) (fun k => kO (fieldPtr 1 (tg tm 6)) ds h k) ds h (fun v27 ds h =>
  ite2 (isB false v26) (kO (loadOne h v27) ds h (fun v28 ds h =>
  gd (isB false v26) (fun k => kO (some (tg tm 1)) ds h k) ds h (fun v29 ds h =>
  gd (isB false v26) (fun k => kO (binV Tryd.prog .eql 5 false v28 v29) ds h k) ds h (fun v30 ds h =>
  gd (isB true v21) (fun k => kO (pickV v26 (.bool true) v30) ds h k) ds h (fun v31 ds h =>
  kO (pickV v21 v31 (.bool false)) ds h (fun v32 ds h =>
  K .norm (T.set tm 4 v32) ds h))))))
  (gd (isB false v26) (fun k => kO (some (tg tm 1)) ds h k) ds h (fun v29 ds h =>
  gd (isB false v26) (fun k => kO (binV Tryd.prog .eql 5 false undef v29) ds h k) ds h (fun v30 ds h =>
  gd (isB true v21) (fun k => kO (pickV v26 (.bool true) v30) ds h k) ds h (fun v31 ds h =>
  kO (pickV v21 v31 (.bool false)) ds h (fun v32 ds h =>
  K .norm (T.set tm 4 v32) ds h))))))))))))))))))))))
  (gd (isB true v7) (fun k => kO (some (tg tm 0)) ds h k) ds h (fun v11 ds h =>
  gd (isB true v7) (fun k => kO (some (tg tm 7)) ds h k) ds h (fun v12 ds h =>
  gd (isB true v7) (fun k => kO (sliceSl 1 v11 none (some v12) none) ds h k) ds h (fun v13 ds h =>
  ite2 (isB true v7) (kO (bytesStr h v13) ds h (fun v14 ds h =>
  gd (isB true v7) (fun k => kO (binV Tryd.prog .eql 9 false undef v14) ds h k) ds h (fun v15 ds h =>
  kO (pickV v7 v15 (.bool false)) ds h (fun v16 ds h =>
  ite2 (isB true v16) (kO (loadAgg 7 h (tg tm 6)) ds h (fun v18 ds h =>
  ite2 (isB true v16) (call 11 [v18] h (fun v h => (fun v19 ds h =>
  gd (isB true v16) (fun k => kO (binV Tryd.prog .eql 30 true v19 (.int .i64 (0))) ds h k) ds h (fun v20 ds h =>
  kO (pickV v16 v20 (.bool false)) ds h (fun v21 ds h =>
  gd (isB true v21) (fun k => kO (fieldPtr 0 (tg tm 6)) ds h k) ds h (fun v23 ds h =>
  ite2 (isB true v21) (kO (loadOne h v23) ds h (fun v24 ds h =>
  gd (isB true v21) (fun k => kO (binV Tryd.prog .neq 5 true v24 (.int .u8 (1))) ds h k) ds h (fun v25 ds h =>
  gd (isB true v21) (fun k => kO (some v25) ds h k) ds h (fun v26 ds h =>
  gd (isB false v26) (fun k => kO (fieldPtr 1 (tg tm 6)) ds h k) ds h (fun v27 ds h =>
  ite2 (isB false v26) (kO (loadOne h v27) ds h (fun v28 ds h =>
  gd (isB false v26) (fun k => kO (some (tg tm 1)) ds h k) ds h (fun v29 ds h =>
  gd (isB false v26) (fun k => kO (binV Tryd.prog .eql 5 false v28 v29) ds h k) ds h (fun v30 ds h =>
  gd (isB true v21) (fun k => kO (pickV v26 (.bool true) v30) ds h k) ds h (fun v31 ds h =>
  kO (pickV v21 v31 (.bool false)) ds h (fun v32 ds h =>
  K .norm (T.set tm 4 v32) ds h))))))
  (gd (isB false v26) (fun k => kO (some (tg tm 1)) ds h k) ds h (fun v29 ds h =>
  gd (isB false v26) (fun k => kO (binV Tryd.prog .eql 5 false undef v29) ds h k) ds h (fun v30 ds h =>
  gd (isB true v21) (fun k => kO (pickV v26 (.bool true) v30) ds h k) ds h (fun v31 ds h =>
  kO (pickV v21 v31 (.bool false)) ds h (fun v32 ds h =>
  K .norm (T.set tm 4 v32) ds h))))))))))
  (gd (isB true v21) (fun k => kO (binV Tryd.prog .neq 5 true undef (.int .u8 (1))) ds h k) ds h (fun v25 ds h =>
  gd (isB true v21) (fun k => kO (some v25) ds h k) ds h (fun v26 ds h =>
  gd (isB false v26) (fun k => kO (fieldPtr 1 (tg tm 6)) ds h k) ds h (fun v27 ds h =>
  ite2 (isB false v26) (kO (loadOne h v27) ds h (fun v28 ds h =>
  gd (isB false v26) (fun k => kO (some (tg tm 1)) ds h k) ds h (fun v29 ds h =>
  gd (isB false v26) (fun k => kO (binV Tryd.prog .eql 5 false v28 v29) ds h k) ds h (fun v30 ds h =>
  gd (isB true v21) (fun k => kO (pickV v26 (.bool true) v30) ds h k) ds h (fun v31 ds h =>
  kO (pickV v21 v31 (.bool false)) ds h (fun v32 ds h =>
  K .norm (T.set tm 4 v32) ds h))))))
  (gd (isB false v26) (fun k => kO (some (tg tm 1)) ds h k) ds h (fun v29 ds h =>
  gd (isB false v26) (fun k => kO (binV Tryd.prog .eql 5 false undef v29) ds h k) ds h (fun v30 ds h =>
  gd (isB true v21) (fun k => kO (pickV v26 (.bool true) v30) ds h k) ds h (fun v31 ds h =>
  kO (pickV v21 v31 (.bool false)) ds h (fun v32 ds h =>
  K .norm (T.set tm 4 v32) ds h))))))))))))) v ds h))
  (gd (isB true v16) (fun k => kO (binV Tryd.prog .eql 30 true undef (.int .i64 (0))) ds h k) ds h (fun v20 ds h =>
  kO (pickV v16 v20 (.bool false)) ds h (fun v21 ds h =>
  gd (isB true v21) (fun k => kO (fieldPtr 0 (tg tm 6)) ds h k) ds h (fun v23 ds h =>
  ite2 (isB true v21) (kO (loadOne h v23) ds h (fun v24 ds h =>
  gd (isB true v21) (fun k => kO (binV Tryd.prog .neq 5 true v24 (.int .u8 (1))) ds h k) ds h (fun v25 ds h =>
  gd (isB true v21) (fun k => kO (some v25) ds h k) ds h (fun v26 ds h =>
  gd (isB false v26) (fun k => kO (fieldPtr 1 (tg tm 6)) ds h k) ds h (fun v27 ds h =>
  ite2 (isB false v26) (kO (loadOne h v27) ds h (fun v28 ds h =>
  gd (isB false v26) (fun k => kO (some (tg tm 1)) ds h k) ds h (fun v29 ds h =>
  gd (isB false v26) (fun k => kO (binV Tryd.prog .eql 5 false v28 v29) ds h k) ds h (fun v30 ds h =>
  gd (isB true v21) (fun k => kO (pickV v26 (.bool true) v30) ds h k) ds h (fun v31 ds h =>
  kO (pickV v21 v31 (.bool false)) ds h (fun v32 ds h =>
  K .norm (T.set tm 4 v32) ds h))))))
  (gd (isB false v26) (fun k => kO (some (tg tm 1)) ds h k) ds h (fun v29 ds h =>
  gd (isB false v26) (fun k => kO (binV Tryd.prog .eql 5 false undef v29) ds h k) ds h (fun v30 ds h =>
  gd (isB true v21) (fun k => kO (pickV v26 (.bool true) v30) ds h k) ds h (fun v31 ds h =>
  kO (pickV v21 v31 (.bool false)) ds h (fun v32 ds h =>
  K .norm (T.set tm 4 v32) ds h))))))))))
  (gd (isB true v21) (fun k => kO (binV Tryd.prog .neq 5 true undef (.int .u8 (1))) ds h k) ds h (fun v25 ds h =>
  gd (isB true v21) (fun k => kO (some v25) ds h k) ds h (fun v26 ds h =>
  gd (isB false v26) (fun k => kO (fieldPtr 1 (tg tm 6)) ds h k) ds h (fun v27 ds h =>
  ite2 (isB false v26) (kO (loadOne h v27) ds h (fun v28 ds h =>
  gd (isB false v26) (fun k => kO (some (tg tm 1)) ds h k) ds h (fun v29 ds h =>
  gd (isB false v26) (fun k => kO (binV Tryd.prog .eql 5 false v28 v29) ds h k) ds h (fun v30 ds h =>
  gd (isB true v21) (fun k => kO (pickV v26 (.bool true) v30) ds h k) ds h (fun v31 ds h =>
  kO (pickV v21 v31 (.bool false)) ds h (fun v32 ds h =>
  K .norm (T.set tm 4 v32) ds h))))))
  (gd (isB false v26) (fun k => kO (some (tg tm 1)) ds h k) ds h (fun v29 ds h =>
  gd (isB false v26) (fun k => kO (binV Tryd.prog .eql 5 false undef v29) ds h k) ds h (fun v30 ds h =>
  gd (isB true v21) (fun k => kO (pickV v26 (.bool true) v30) ds h k) ds h (fun v31 ds h =>
  kO (pickV v21 v31 (.bool false)) ds h (fun v32 ds h =>
  K .norm (T.set tm 4 v32) ds h)))))))))))))))
  (ite2 (isB true v16) (call 11 [undef] h (fun v h => (fun v19 ds h =>
  gd (isB true v16) (fun k => kO (binV Tryd.prog .eql 30 true v19 (.int .i64 (0))) ds h k) ds h (fun v20 ds h =>
  kO (pickV v16 v20 (.bool false)) ds h (fun v21 ds h =>
  gd (isB true v21) (fun k => kO (fieldPtr 0 (tg tm 6)) ds h k) ds h (fun v23 ds h =>
  ite2 (isB true v21) (kO (loadOne h v23) ds h (fun v24 ds h =>
  gd (isB true v21) (fun k => kO (binV Tryd.prog .neq 5 true v24 (.int .u8 (1))) ds h k) ds h (fun v25 ds h =>
  gd (isB true v21) (fun k => kO (some v25) ds h k) ds h (fun v26 ds h =>
  gd (isB false v26) (fun k => kO (fieldPtr 1 (tg tm 6)) ds h k) ds h (fun v27 ds h =>
  ite2 (isB false v26) (kO (loadOne h v27) ds h (fun v28 ds h =>
  gd (isB false v26) (fun k => kO (some (tg tm 1)) ds h k) ds h (fun v29 ds h =>
  gd (isB false v26) (fun k => kO (binV Tryd.prog .eql 5 false v28 v29) ds h k) ds h (fun v30 ds h =>
  gd (isB true v21) (fun k => kO (pickV v26 (.bool true) v30) ds h k) ds h (fun v31 ds h =>
  kO (pickV v21 v31 (.bool false)) ds h (fun v32 ds h =>
  K .norm (T.set tm 4 v32) ds h))))))
  (gd (isB false v26) (fun k => kO (some (tg tm 1)) ds h k) ds h (fun v29 ds h =>
  gd (isB false v26) (fun k => kO (binV Tryd.prog .eql 5 false undef v29) ds h k) ds h (fun v30 ds h =>
  gd (isB true v21) (fun k => kO (pickV v26 (.bool true) v30) ds h k) ds h (fun v31 ds h =>
  kO (pickV v21 v31 (.bool false)) ds h (fun v32 ds h =>
  K .norm (T.set tm 4 v32) ds h))))))))))
  (gd (isB true v21) (fun k => kO (binV Tryd.prog .neq 5 true undef (.int .u8 (1))) ds h k) ds h (fun v25 ds h =>
  gd (isB true v21) (fun k => kO (some v25) ds h k) ds h (fun v26 ds h =>
  gd (isB false v26) (fun k => kO (fieldPtr 1 (tg tm 6)) ds h k) ds h (fun v27 ds h =>
  ite2 (isB false v26) (kO (loadOne h v27) ds h (fun v28 ds h =>
  gd (isB false v26) (fun k => kO (some (tg tm 1)) ds h k) ds h (fun v29 ds h =>
  gd (isB false v26) (fun k => kO (binV Tryd.prog .eql 5 false v28 v29) ds h k) ds h (fun v30 ds h =>
  gd (isB true v21) (fun k => kO (pickV v26 (.bool true) v30) ds h k) ds h (fun v31 ds h =>
  kO (pickV v21 v31 (.bool false)) ds h (fun v32 ds h =>
  K .norm (T.set tm 4 v32) ds h))))))
  (gd (isB false v26) (fun k => kO (some (tg tm 1)) ds h k) ds h (fun v29 ds h =>
  gd (isB false v26) (fun k => kO (binV Tryd.prog .eql 5 false undef v29) ds h k) ds h (fun v30 ds h =>
  gd (isB true v21) (fun k => kO (pickV v26 (.bool true) v30) ds h k) ds h (fun v31 ds h =>
  kO (pickV v21 v31 (.bool false)) ds h (fun v32 ds h =>
  K .norm (T.set tm 4 v32) ds h))))))))))))) v ds h))
  (gd (isB true v16) (fun k => kO (binV Tryd.prog .eql 30 true undef (.int .i64 (0))) ds h k) ds h (fun v20 ds h =>
  kO (pickV v16 v20 (.bool false)) ds h (fun v21 ds h =>
  gd (isB true v21) (fun k => kO (fieldPtr 0 (tg tm 6)) ds h k) ds h (fun v23 ds h =>
  ite2 (isB true v21) (kO (loadOne h v23) ds h (fun v24 ds h =>
  gd (isB true v21) (fun k => kO (binV Tryd.prog .neq 5 true v24 (.int .u8 (1))) ds h k) ds h (fun v25 ds h =>
  gd (isB true v21) (fun k => kO (some v25) ds h k) ds h (fun v26 ds h =>
  gd (isB false v26) (fun k => kO (fieldPtr 1 (tg tm 6)) ds h k) ds h (fun v27 ds h =>
  ite2 (isB false v26) (kO (loadOne h v27) ds h (fun v28 ds h =>
  gd (isB false v26) (fun k => kO (some (tg tm 1)) ds h k) ds h (fun v29 ds h =>
  gd (isB false v26) (fun k => kO (binV Tryd.prog .eql 5 false v28 v29) ds h k) ds h (fun v30 ds h =>
  gd (isB true v21) (fun k => kO (pickV v26 (.bool true) v30) ds h k) ds h (fun v31 ds h =>
  kO (pickV v21 v31 (.bool false)) ds h (fun v32 ds h =>
  K .norm (T.set tm 4 v32) ds h))))))
  (gd (isB false v26) (fun k => kO (some (tg tm 1)) ds h k) ds h (fun v29 ds h =>
  gd (isB false v26) (fun k => kO (binV Tryd.prog .eql 5 false undef v29) ds h k) ds h (fun v30 ds h =>
  gd (isB true v21) (fun k => kO (pickV v26 (.bool true) v30) ds h k) ds h (fun v31 ds h =>
  kO (pickV v21 v31 (.bool false)) ds h (fun v32 ds h =>
  K .norm (T.set tm 4 v32) ds h))))))))))
  (gd (isB true v21) (fun k => kO (binV Tryd.prog .neq 5 true undef (.int .u8 (1))) ds h k) ds h (fun v25 ds h =>
  gd (isB true v21) (fun k => kO (some v25) ds h k) ds h (fun v26 ds h =>
  gd (isB false v26) (fun k => kO (fieldPtr 1 (tg tm 6)) ds h k) ds h (fun v27 ds h =>
  ite2 (isB false v26) (kO (loadOne h v27) ds h (fun v28 ds h =>
  gd (isB false v26) (fun k => kO (some (tg tm 1)) ds h k) ds h (fun v29 ds h =>
  gd (isB false v26) (fun k => kO (binV Tryd.prog .eql 5 false v28 v29) ds h k) ds h (fun v30 ds h =>
  gd (isB true v21) (fun k => kO (pickV v26 (.bool true) v30) ds h k) ds h (fun v31 ds h =>
  kO (pickV v21 v31 (.bool false)) ds h (fun v32 ds h =>
  K .norm (T.set tm 4 v32) ds h))))))
  (gd (isB false v26) (fun k => kO (some (tg tm 1)) ds h k) ds h (fun v29 ds h =>
  gd (isB false v26) (fun k => kO (binV Tryd.prog .eql 5 false undef v29) ds h k) ds h (fun v30 ds h =>
  gd (isB true v21) (fun k => kO (pickV v26 (.bool true) v30) ds h k) ds h (fun v31 ds h =>
  kO (pickV v21 v31 (.bool false)) ds h (fun v32 ds h =>
  K .norm (T.set tm 4 v32) ds h))))))))))))))))))
  (gd (isB true v7) (fun k => kO (binV Tryd.prog .eql 9 false undef undef) ds h k) ds h (fun v15 ds h =>
  kO (pickV v7 v15 (.bool false)) ds h (fun v16 ds h =>
  ite2 (isB true v16) (kO (loadAgg 7 h (tg tm 6)) ds h (fun v18 ds h =>
  ite2 (isB true v16) (call 11 [v18] h (fun v h => (fun v19 ds h =>
  gd (isB true v16) (fun k => kO (binV Tryd.prog .eql 30 true v19 (.int .i64 (0))) ds h k) ds h (fun v20 ds h =>
  kO (pickV v16 v20 (.bool false)) ds h (fun v21 ds h =>
  gd (isB true v21) (fun k => kO (fieldPtr 0 (tg tm 6)) ds h k) ds h (fun v23 ds h =>
  ite2 (isB true v21) (kO (loadOne h v23) ds h (fun v24 ds h =>
  gd (isB true v21) (fun k => kO (binV Tryd.prog .neq 5 true v24 (.int .u8 (1))) ds h k) ds h (fun v25 ds h =>
  gd (isB true v21) (fun k => kO (some v25) ds h k) ds h (fun v26 ds h =>
  gd (isB false v26) (fun k => kO (fieldPtr 1 (tg tm 6)) ds h k) ds h (fun v27 ds h =>
  ite2 (isB false v26) (kO (loadOne h v27) ds h (fun v28 ds h =>
  gd (isB false v26) (fun k => kO (some (tg tm 1)) ds h k) ds h (fun v29 ds h =>
  gd (isB false v26) (fun k => kO (binV Tryd.prog .eql 5 false v28 v29) ds h k) ds h (fun v30 ds h =>
  gd (isB true v21) (fun k => kO (pickV v26 (.bool true) v30) ds h k) ds h (fun v31 ds h =>
  kO (pickV v21 v31 (.bool false)) ds h (fun v32 ds h =>
  K .norm (T.set tm 4 v32) ds h))))))
  (gd (isB false v26) (fun k => kO (some (tg tm 1)) ds h k) ds h (fun v29 ds h =>
  gd (isB false v26) (fun k => kO (binV Tryd.prog .eql 5 false undef v29) ds h k) ds h (fun v30 ds h =>
  gd (isB true v21) (fun k => kO (pickV v26 (.bool true) v30) ds h k) ds h (fun v31 ds h =>
  kO (pickV v21 v31 (.bool false)) ds h (fun v32 ds h =>
  K .norm (T.set tm 4 v32) ds h))))))))))
  (gd (isB true v21) (fun k => kO (binV Tryd.prog .neq 5 true undef (.int .u8 (1))) ds h k) ds h (fun v25 ds h =>
  gd (isB true v21) (fun k => kO (some v25) ds h k) ds h (fun v26 ds h =>
  gd (isB false v26) (fun k => kO (fieldPtr 1 (tg tm 6)) ds h k) ds h (fun v27 ds h =>
  ite2 (isB false v26) (kO (loadOne h v27) ds h (fun v28 ds h =>
  gd (isB false v26) (fun k => kO (some (tg tm 1)) ds h k) ds h (fun v29 ds h =>
  gd (isB false v26) (fun k => kO (binV Tryd.prog .eql 5 false v28 v29) ds h k) ds h (fun v30 ds h =>
  gd (isB true v21) (fun k => kO (pickV v26 (.bool true) v30) ds h k) ds h (fun v31 ds h =>
  kO (pickV v21 v31 (.bool false)) ds h (fun v32 ds h =>
  K .norm (T.set tm 4 v32) ds h))))))
  (gd (isB false v26) (fun k => kO (some (tg tm 1)) ds h k) ds h (fun v29 ds h =>
  gd (isB false v26) (fun k => kO (binV Tryd.prog .eql 5 false undef v29) ds h k) ds h (fun v30 ds h =>
  gd (isB true v21) (fun k => kO (pickV v26 (.bool true) v30) ds h k) ds h (fun v31 ds h =>
  kO (pickV v21 v31 (.bool false)) ds h (fun v32 ds h =>
  K .norm (T.set tm 4 v32) ds h))))))))))))) v ds h))
  (gd (isB true v16) (fun k => kO (binV Tryd.prog .eql 30 true undef (.int .i64 (0))) ds h k) ds h (fun v20 ds h =>
  kO (pickV v16 v20 (.bool false)) ds h (fun v21 ds h =>
  gd (isB true v21) (fun k => kO (fieldPtr 0 (tg tm 6)) ds h k) ds h (fun v23 ds h =>
  ite2 (isB true v21) (kO (loadOne h v23) ds h (fun v24 ds h =>
  gd (isB true v21) (fun k => kO (binV Tryd.prog .neq 5 true v24 (.int .u8 (1))) ds h k) ds h (fun v25 ds h =>
  gd (isB true v21) (fun k => kO (some v25) ds h k) ds h (fun v26 ds h =>
  gd (isB false v26) (fun k => kO (fieldPtr 1 (tg tm 6)) ds h k) ds h (fun v27 ds h =>
  ite2 (isB false v26) (kO (loadOne h v27) ds h (fun v28 ds h =>
  gd (isB false v26) (fun k => kO (some (tg tm 1)) ds h k) ds h (fun v29 ds h =>
  gd (isB false v26) (fun k => kO (binV Tryd.prog .eql 5 false v28 v29) ds h k) ds h (fun v30 ds h =>
  gd (isB true v21) (fun k => kO (pickV v26 (.bool true) v30) ds h k) ds h (fun v31 ds h =>
  kO (pickV v21 v31 (.bool false)) ds h (fun v32 ds h =>
  K .norm (T.set tm 4 v32) ds h))))))
  (gd (isB false v26) (fun k => kO (some (tg tm 1)) ds h k) ds h (fun v29 ds h =>
  gd (isB false v26) (fun k => kO (binV Tryd.prog .eql 5 false undef v29) ds h k) ds h (fun v30 ds h =>
  gd (isB true v21) (fun k => kO (pickV v26 (.bool true) v30) ds h k) ds h (fun v31 ds h =>
  kO (pickV v21 v31 (.bool false)) ds h (fun v32 ds h =>
  K .norm (T.set tm 4 v32) ds h))))))))))
  (gd (isB true v21) (fun k => kO (binV Tryd.prog .neq 5 true undef (.int .u8 (1))) ds h k) ds h (fun v25 ds h =>
  gd (isB true v21) (fun k => kO (some v25) ds h k) ds h (fun v26 ds h =>
  gd (isB false v26) (fun k => kO (fieldPtr 1 (tg tm 6)) ds h k) ds h (fun v27 ds h =>
  ite2 (isB false v26) (kO (loadOne h v27) ds h (fun v28 ds h =>
  gd (isB false v26) (fun k => kO (some (tg tm 1)) ds h k) ds h (fun v29 ds h =>
  gd (isB false v26) (fun k => kO (binV Tryd.prog .eql 5 false v28 v29) ds h k) ds h (fun v30 ds h =>
  gd (isB true v21) (fun k => kO (pickV v26 (.bool true) v30) ds h k) ds h (fun v31 ds h =>
  kO (pickV v21 v31 (.bool false)) ds h (fun v32 ds h =>
  K .norm (T.set tm 4 v32) ds h))))))
  (gd (isB false v26) (fun k => kO (some (tg tm 1)) ds h k) ds h (fun v29 ds h =>
  gd (isB false v26) (fun k => kO (binV Tryd.prog .eql 5 false undef v29) ds h k) ds h (fun v30 ds h =>
  gd (isB true v21) (fun k => kO (pickV v26 (.bool true) v30) ds h k) ds h (fun v31 ds h =>
  kO (pickV v21 v31 (.bool false)) ds h (fun v32 ds h =>
  K .norm (T.set tm 4 v32) ds h)))))))))))))))
  (ite2 (isB true v16) (call 11 [undef] h (fun v h => (fun v19 ds h =>
  gd (isB true v16) (fun k => kO (binV Tryd.prog .eql 30 true v19 (.int .i64 (0))) ds h k) ds h (fun v20 ds h =>
  kO (pickV v16 v20 (.bool false)) ds h (fun v21 ds h =>
  gd (isB true v21) (fun k => kO (fieldPtr 0 (tg tm 6)) ds h k) ds h (fun v23 ds h =>
  ite2 (isB true v21) (kO (loadOne h v23) ds h (fun v24 ds h =>
  gd (isB true v21) (fun k => kO (binV Tryd.prog .neq 5 true v24 (.int .u8 (1))) ds h k) ds h (fun v25 ds h =>
  gd (isB true v21) (fun k => kO (some v25) ds h k) ds h (fun v26 ds h =>
  gd (isB false v26) (fun k => kO (fieldPtr 1 (tg tm 6)) ds h k) ds h (fun v27 ds h =>
  ite2 (isB false v26) (kO (loadOne h v27) ds h (fun v28 ds h =>
  gd (isB false v26) (fun k => kO (some (tg tm 1)) ds h k) ds h (fun v29 ds h =>
  gd (isB false v26) (fun k => kO (binV Tryd.prog .eql 5 false v28 v29) ds h k) ds h (fun v30 ds h =>
  gd (isB true v21) (fun k => kO (pickV v26 (.bool true) v30) ds h k) ds h (fun v31 ds h =>
  kO (pickV v21 v31 (.bool false)) ds h (fun v32 ds h =>
  K .norm (T.set tm 4 v32) ds h))))))
  (gd (isB false v26) (fun k => kO (some (tg tm 1)) ds h k) ds h (fun v29 ds h =>
  gd (isB false v26) (fun k => kO (binV Tryd.prog .eql 5 false undef v29) ds h k) ds h (fun v30 ds h =>
  gd (isB true v21) (fun k => kO (pickV v26 (.bool true) v30) ds h k) ds h (fun v31 ds h =>
  kO (pickV v21 v31 (.bool false)) ds h (fun v32 ds h =>
  K .norm (T.set tm 4 v32) ds h))))))))))
  (gd (isB true v21) (fun k => kO (binV Tryd.prog .neq 5 true undef (.int .u8 (1))) ds h k) ds h (fun v25 ds h =>
  gd (isB true v21) (fun k => kO (some v25) ds h k) ds h (fun v26 ds h =>
  gd (isB false v26) (fun k => kO (fieldPtr 1 (tg tm 6)) ds h k) ds h (fun v27 ds h =>
  ite2 (isB false v26) (kO (loadOne h v27) ds h (fun v28 ds h =>
  gd (isB false v26) (fun k => kO (some (tg tm 1)) ds h k) ds h (fun v29 ds h =>
  gd (isB false v26) (fun k => kO (binV Tryd.prog .eql 5 false v28 v29) ds h k) ds h (fun v30 ds h =>
  gd (isB true v21) (fun k => kO (pickV v26 (.bool true) v30) ds h k) ds h (fun v31 ds h =>
  kO (pickV v21 v31 (.bool false)) ds h (fun v32 ds h =>
  K .norm (T.set tm 4 v32) ds h))))))
  (gd (isB false v26) (fun k => kO (some (tg tm 1)) ds h k) ds h (fun v29 ds h =>
  gd (isB false v26) (fun k => kO (binV Tryd.prog .eql 5 false undef v29) ds h k) ds h (fun v30 ds h =>
  gd (isB true v21) (fun k => kO (pickV v26 (.bool true) v30) ds h k) ds h (fun v31 ds h =>
  kO (pickV v21 v31 (.bool false)) ds h (fun v32 ds h =>
  K .norm (T.set tm 4 v32) ds h))))))))))))) v ds h))
  (gd (isB true v16) (fun k => kO (binV Tryd.prog .eql 30 true undef (.int .i64 (0))) ds h k) ds h (fun v20 ds h =>
  kO (pickV v16 v20 (.bool false)) ds h (fun v21 ds h =>
  gd (isB true v21) (fun k => kO (fieldPtr 0 (tg tm 6)) ds h k) ds h (fun v23 ds h =>
  ite2 (isB true v21) (kO (loadOne h v23) ds h (fun v24 ds h =>
  gd (isB true v21) (fun k => kO (binV Tryd.prog .neq 5 true v24 (.int .u8 (1))) ds h k) ds h (fun v25 ds h =>
  gd (isB true v21) (fun k => kO (some v25) ds h k) ds h (fun v26 ds h =>
  gd (isB false v26) (fun k => kO (fieldPtr 1 (tg tm 6)) ds h k) ds h (fun v27 ds h =>
  ite2 (isB false v26) (kO (loadOne h v27) ds h (fun v28 ds h =>
  gd (isB false v26) (fun k => kO (some (tg tm 1)) ds h k) ds h (fun v29 ds h =>
  gd (isB false v26) (fun k => kO (binV Tryd.prog .eql 5 false v28 v29) ds h k) ds h (fun v30 ds h =>
  gd (isB true v21) (fun k => kO (pickV v26 (.bool true) v30) ds h k) ds h (fun v31 ds h =>
  kO (pickV v21 v31 (.bool false)) ds h (fun v32 ds h =>
  K .norm (T.set tm 4 v32) ds h))))))
  (gd (isB false v26) (fun k => kO (some (tg tm 1)) ds h k) ds h (fun v29 ds h =>
  gd (isB false v26) (fun k => kO (binV Tryd.prog .eql 5 false undef v29) ds h k) ds h (fun v30 ds h =>
  gd (isB true v21) (fun k => kO (pickV v26 (.bool true) v30) ds h k) ds h (fun v31 ds h =>
  kO (pickV v21 v31 (.bool false)) ds h (fun v32 ds h =>
  K .norm (T.set tm 4 v32) ds h))))))))))
  (gd (isB true v21) (fun k => kO (binV Tryd.prog .neq 5 true undef (.int .u8 (1))) ds h k) ds h (fun v25 ds h =>
  gd (isB true v21) (fun k => kO (some v25) ds h k) ds h (fun v26 ds h =>
  gd (isB false v26) (fun k => kO (fieldPtr 1 (tg tm 6)) ds h k) ds h (fun v27 ds h =>
  ite2 (isB false v26) (kO (loadOne h v27) ds h (fun v28 ds h =>
  gd (isB false v26) (fun k => kO (some (tg tm 1)) ds h k) ds h (fun v29 ds h =>
  gd (isB false v26) (fun k => kO (binV Tryd.prog .eql 5 false v28 v29) ds h k) ds h (fun v30 ds h =>
  gd (isB true v21) (fun k => kO (pickV v26 (.bool true) v30) ds h k) ds h (fun v31 ds h =>
  kO (pickV v21 v31 (.bool false)) ds h (fun v32 ds h =>
  K .norm (T.set tm 4 v32) ds h))))))
  (gd (isB false v26) (fun k => kO (some (tg tm 1)) ds h k) ds h (fun v29 ds h =>
  gd (isB false v26) (fun k => kO (binV Tryd.prog .eql 5 false undef v29) ds h k) ds h (fun v30 ds h =>
  gd (isB true v21) (fun k => kO (pickV v26 (.bool true) v30) ds h k) ds h (fun v31 ds h =>
  kO (pickV v21 v31 (.bool false)) ds h (fun v32 ds h =>
  K .norm (T.set tm 4 v32) ds h))))))))))))))))))))))))))))) h0.next ⟨h0.objs, h0.next + 34⟩
noncomputable def c7 : Box CodeT := ⟨seqC ⟨r7_0⟩ ⟨seqC ⟨r7_1⟩ ⟨seqC ⟨seqC ⟨r7_2⟩ ⟨condC ⟨fun _ tm => tg tm 18⟩ ⟨seqC ⟨r7_3⟩ retC⟩ skipC⟩⟩ ⟨seqC ⟨r7_4⟩ ⟨seqC ⟨seqC ⟨r7_5⟩ ⟨condC ⟨fun _ tm => tg tm 32⟩ ⟨seqC ⟨r7_6⟩ retC⟩ skipC⟩⟩ ⟨seqC ⟨r7_7⟩ ⟨seqC ⟨r7_8⟩ retC⟩⟩⟩⟩⟩⟩⟩
noncomputable def q7 : Box (T Value → H → Option (List Value)) := ⟨fun tm h => some [tg tm 4]⟩
theorem f7 : funcB Tryd.prog (maskOf masks) outside NG 7 = ⟨bodyC 78 c7 q7⟩ := by kernel_rfl

/-! 17 cloakroom/cloakroomlaw15.alive -/
noncomputable def r17_0 : CodeT := fun call _ tm ds h K =>
  K .norm (T.set tm 0 (.bool false)) ds h
noncomputable def r17_1 : CodeT := fun call _ tm ds h K =>
  call 37 [] h (fun v h => (fun v0 ds h =>
  call 9 [v0] h (fun v h => (fun v1 ds h =>
  kO (tupNth 0 v1) ds h (fun v3 ds h =>
  kO (tupNth 1 v1) ds h (fun v4 ds h =>
  K .norm (T.set (T.set tm 1 v3) 2 v4) ds h))) v ds h)) v ds h)
noncomputable def r17_2 : CodeT := fun call _ tm ds h K => (⟨opStep ⟨fun call env tm ds h K => kO (some (tg tm 2)) ds h K⟩ ⟨fun v tm => tm⟩ ⟨fun env tm => true⟩
  ⟨opStep ⟨fun call env tm ds h K => kO (binV Tryd.prog .eql 30 true (nthD 0 env) (.int .i64 (0))) ds h K⟩ ⟨fun v tm => tm⟩ ⟨fun env tm => true⟩
  ⟨opStep ⟨fun call env tm ds h K => kO (some (nthD 0 env)) ds h K⟩ ⟨fun v tm => tm⟩ ⟨fun env tm => true⟩
  ⟨opStep ⟨fun call env tm ds h K => kO (some (tg tm 1)) ds h K⟩ ⟨fun v tm => tm⟩ ⟨fun env tm => isB true (nthD 0 env)⟩
  ⟨opStep ⟨fun call env tm ds h K => kO (bytesStr h (nthD 0 env)) ds h K⟩ ⟨fun v tm => tm⟩ ⟨fun env tm => isB true (nthD 1 env)⟩
  ⟨opStep ⟨fun call env tm ds h K => kO (binV Tryd.prog .eql 9 true (nthD 0 env) (.string (strB [86, 65, 76, 85, 69, 32, 107, 32, 55, 32, 48, 32, 51, 32, 50, 13, 10, 97, 98, 13, 10, 69, 78, 68, 13, 10]))) ds h K⟩ ⟨fun v tm => tm⟩ ⟨fun env tm => isB true (nthD 2 env)⟩
  ⟨opStep ⟨fun call env tm ds h K => kO (pickV (nthD 3 env) (nthD 0 env) (.bool false)) ds h K⟩ ⟨fun v tm => tm⟩ ⟨fun env tm => true⟩
  ⟨opStep ⟨fun call env tm ds h K => kO (some (nthD 0 env)) ds h K⟩ ⟨fun v tm => (T.set tm 0 v)⟩ ⟨fun env tm => true⟩
  ⟨fun _ _ tm ds h K => K .norm tm ds h⟩⟩⟩⟩⟩⟩⟩⟩⟩ : Box OpsT).f call [] tm ds h K
noncomputable def c17 : Box CodeT := ⟨seqC ⟨r17_0⟩ ⟨seqC ⟨r17_1⟩ ⟨seqC ⟨r17_2⟩ retC⟩⟩⟩
noncomputable def q17 : Box (T Value → H → Option (List Value)) := ⟨fun tm h => some [tg tm 0]⟩
theorem f17 : funcB Tryd.prog (maskOf masks) outside NG 17 = ⟨bodyC 15 c17 q17⟩ := by kernel_rfl

/-! 37 cloakroom/cloakroomlaw15.got -/
noncomputable def r37_0 : CodeT := fun call _ tm ds h K =>
  kA (some (.rw [(.int .u8 (0)), (.int .u8 (0)), (.int .u8 (0)), (.slice none 0 0), (.int .u64 (0)), (.bool false), (.string (strB []))] (some 27), ptrTo h.next)) ds h (fun v0 ds h =>
  K .norm (T.set tm 0 v0) ds h)
noncomputable def r37_1 : CodeT := fun call _ tm ds h K =>
  kO (aggO (fill [(.string (strB [])), (.string (strB [])), (.int .u32 (0)), (.int .i64 (0)), (.int .u64 (0))] (plc [(0, 1), (1, 1), (2, 1), (3, 1), (4, 1)]) [(0, (.string (strB [107]))), (1, (.string (strB [97, 98]))), (2, (.int .u32 (7))), (4, (.int .u64 (3)))])) ds h (fun v0 ds h =>
  kA (some (.rw [(.string (strB [])), (.string (strB [])), (.int .u32 (0)), (.int .i64 (0)), (.int .u64 (0))] (some 48), ptrTo h.next)) ds h (fun v1 ds h =>
  kH (withV undef (storeV 5 h v1 v0)) ds (fun v2 ds h =>
  K .norm (T.set tm 1 v1) ds h)))
noncomputable def r37_2 : CodeT := fun call _ tm ds h K =>
  kO (loadAgg 5 h (tg tm 1)) ds h (fun v0 ds h =>
  kA (mkLit 48 1 h.next (fill (repl [(.string (strB [])), (.string (strB [])), (.int .u32 (0)), (.int .i64 (0)), (.int .u64 (0))] 1) (pl 5) [(0, v0)])) ds h (fun v1 ds h =>
  kO (aggO (fill [(.int .u8 (0)), (.slice none 0 0), (.int .u64 (0))] (plc [(0, 1), (1, 1), (2, 1)]) [(0, (.int .u8 (1))), (1, v1)])) ds h (fun v2 ds h =>
  kO (aggO (fill [(.int .u8 (0)), (.int .u8 (0)), (.int .u8 (0)), (.slice none 0 0), (.int .u64 (0)), (.bool false), (.string (strB []))] (plc [(0, 1), (1, 1), (2, 3), (5, 1), (6, 1)]) [(0, (.int .u8 (1))), (1, (.int .u8 (1))), (2, v2)])) ds h (fun v3 ds h =>
  kH (withV undef (storeV 7 h (tg tm 0) v3)) ds (fun v4 ds h =>
  K .norm tm ds h)))))
noncomputable def c37 : Box CodeT := ⟨seqC ⟨r37_0⟩ ⟨seqC ⟨r37_1⟩ ⟨seqC ⟨r37_2⟩ retC⟩⟩⟩
noncomputable def q37 : Box (T Value → H → Option (List Value)) := ⟨fun tm h => (match loadAgg 7 h (tg tm 0) with | some v => (match (some [] : Option (List Value)) with | some l => some (v :: l) | none => none) | none => none)⟩
theorem f37 : funcB Tryd.prog (maskOf masks) outside NG 37 = ⟨bodyC 7 c37 q37⟩ := by kernel_rfl

end Go.Proofs.YthofbmfcpfibdaaDoor
