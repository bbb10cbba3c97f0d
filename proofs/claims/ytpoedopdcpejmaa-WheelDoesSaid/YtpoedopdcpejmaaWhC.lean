import Derived.Test.YtpoedopdcpejmaaWhA
set_option linter.unusedSimpArgs false
set_option linter.unusedVariables false
namespace Go.Proofs.Ytpoedopdcpejmaa
open Go.Ev
/-! 37 cloakroom/cloakroomref04.Add -/
noncomputable def r37_0 : CodeT := fun call _ tm ds h K =>
  kA (some (.rw (Value.cells (tg tm 0)).toList, ptrTo h.next)) ds h (fun v0 ds h =>
  kA (some (.rw (Value.cells (tg (T.set tm 3 v0) 1)).toList, ptrTo h.next)) ds h (fun v1 ds h =>
  kA (some (.rw [(.int .i64 (0)), (.slice none 0 0)], ptrTo h.next)) ds h (fun v2 ds h =>
  K .norm (T.set (T.set (T.set (T.set tm 3 v0) 4 v1) 6 v2) 7 (.int .i64 (0))) ds h)))
noncomputable def r37_1 : CodeT := fun call _ tm ds h K =>
  kO (loadAgg 2 h (tg tm 4)) ds h (fun v0 ds h =>
  call 44 [v0] h (fun v h => (fun v1 ds h =>
  kO (unV .not v1) ds h (fun v2 ds h =>
  K .norm (T.set tm 12 v2) ds h)) v ds h))
noncomputable def r37_2 : CodeT := fun call _ tm ds h K =>
  kO (loadAgg 2 h (tg tm 3)) ds h (fun v0 ds h =>
  kH (withV undef (storeV 2 h (tg tm 6) v0)) ds (fun v1 ds h =>
  K .norm (T.set tm 7 (.int .i64 (8))) ds h))
noncomputable def r37_3 : CodeT := fun call _ tm ds h K =>
  kO (fieldPtr 0 (tg tm 3)) ds h (fun v1 ds h =>
  kO (loadOne h v1) ds h (fun v2 ds h =>
  kO (binV Try.prog .leq 3 false (tg tm 2) v2) ds h (fun v3 ds h =>
  gd (isB false v3) (fun k => kO (some (tg tm 2)) ds h (k)) ds h (fun v5 ds h =>
  gd (isB false v3) (fun k => kO (binV Try.prog .gtr 3 true v5 (.int .i64 (1099511627776))) ds h (k)) ds h (fun v6 ds h =>
  kO (pickV v3 (.bool true) v6) ds h (fun v7 ds h =>
  K .norm (T.set tm 21 v7) ds h))))))
noncomputable def r37_4 : CodeT := fun call _ tm ds h K =>
  kO (loadAgg 2 h (tg tm 3)) ds h (fun v0 ds h =>
  kH (withV undef (storeV 2 h (tg tm 6) v0)) ds (fun v1 ds h =>
  K .norm (T.set tm 7 (.int .i64 (2))) ds h))
noncomputable def r37_5 : CodeT := fun call _ tm ds h0 K =>
  (fun (b0 : Nat) (h : H) =>
  kO (loadAgg 2 h (tg tm 3)) ds h (fun v0 ds h =>
  kO (loadAgg 2 h (tg tm 3)) ds h (fun v1 ds h =>
  kO (loadAgg 2 h (tg tm 4)) ds h (fun v2 ds h =>
  call 45 [v1, v2] h (fun v h => (fun v3 ds h =>
  andB (hO (loadAgg 2 h (tg tm 3)) v0 true) (call 46 [v0, v3] h (fun v h => (fun v4 ds h =>
  kH (withV undef (storeV 2 h (tg tm 3) v4)) ds (fun v5 ds h =>
  K .norm tm ds h)) v ds h))) v ds h))))) h0.next ⟨h0.objs, h0.next + 6⟩
noncomputable def r37_6 : CodeT := fun call _ tm ds h K =>
  K .norm (T.set tm 8 (.int .i64 (0))) ds h
noncomputable def r37_7 : CodeT := fun call _ tm ds h0 K =>
  (fun (b0 : Nat) (h : H) =>
  kO (fieldPtr 1 (tg tm 3)) ds h (fun v1 ds h =>
  kO (loadOne h v1) ds h (fun v2 ds h =>
  kO (lenSl v2) ds h (fun v3 ds h =>
  kO (binV Try.prog .lss 3 false (tg tm 8) v3) ds h (fun v4 ds h =>
  gd (isB true v4) (fun k => kO (fieldPtr 1 (tg tm 3)) ds h k) ds h (fun v6 ds h =>
  ite2 (isB true v4) (kO (loadOne h v6) ds h (fun v7 ds h =>
  gd (isB true v4) (fun k => kO (some (tg tm 8)) ds h k) ds h (fun v8 ds h =>
  gd (isB true v4) (fun k => kO (indexSl 3 v7 v8) ds h k) ds h (fun v9 ds h =>
  gd (isB true v4) (fun k => kO (fieldPtr 2 v9) ds h k) ds h (fun v10 ds h =>
  ite2 (isB true v4) (kO (loadOne h v10) ds h (fun v11 ds h =>
  gd (isB true v4) (fun k => kO (some (tg tm 2)) ds h k) ds h (fun v12 ds h =>
  gd (isB true v4) (fun k => kO (binV Try.prog .lss 3 false v11 v12) ds h k) ds h (fun v13 ds h =>
  gd (isB true v4) (fun k => kO (some v13) ds h k) ds h (fun v14 ds h =>
  gd (isB false v14) (fun k => kO (fieldPtr 1 (tg tm 3)) ds h k) ds h (fun v15 ds h =>
  ite2 (isB false v14) (kO (loadOne h v15) ds h (fun v16 ds h =>
  gd (isB false v14) (fun k => kO (some (tg tm 8)) ds h k) ds h (fun v17 ds h =>
  gd (isB false v14) (fun k => kO (indexSl 3 v16 v17) ds h k) ds h (fun v18 ds h =>
  gd (isB false v14) (fun k => kO (fieldPtr 2 v18) ds h k) ds h (fun v19 ds h =>
  ite2 (isB false v14) (kO (loadOne h v19) ds h (fun v20 ds h =>
  gd (isB false v14) (fun k => kO (some (tg tm 2)) ds h k) ds h (fun v21 ds h =>
  gd (isB false v14) (fun k => kO (binV Try.prog .eql 3 false v20 v21) ds h k) ds h (fun v22 ds h =>
  gd (isB false v14) (fun k => kO (some v22) ds h k) ds h (fun v23 ds h =>
  gd (isB true v23) (fun k => kO (fieldPtr 1 (tg tm 3)) ds h k) ds h (fun v24 ds h =>
  ite2 (isB true v23) (kO (loadOne h v24) ds h (fun v25 ds h =>
  gd (isB true v23) (fun k => kO (some (tg tm 8)) ds h k) ds h (fun v26 ds h =>
  gd (isB true v23) (fun k => kO (indexSl 3 v25 v26) ds h k) ds h (fun v27 ds h =>
  gd (isB true v23) (fun k => kO (fieldPtr 0 v27) ds h k) ds h (fun v28 ds h =>
  ite2 (isB true v23) (kO (loadAgg 2 h v28) ds h (fun v29 ds h =>
  ite2 (isB true v23) (kO (loadAgg 2 h (tg tm 4)) ds h (fun v30 ds h =>
  ite2 (isB true v23) (call 17 [v29, v30] h (fun v h => (fun v31 ds h =>
  gd (isB false v14) (fun k => kO (pickV v23 v31 (.bool false)) ds h k) ds h (fun v32 ds h =>
  gd (isB true v4) (fun k => kO (pickV v14 (.bool true) v32) ds h k) ds h (fun v33 ds h =>
  kO (pickV v4 v33 (.bool false)) ds h (fun v34 ds h =>
  K .norm (T.set tm 62 v34) ds h)))) v ds h))
  (gd (isB false v14) (fun k => kO (pickV v23 undef (.bool false)) ds h k) ds h (fun v32 ds h =>
  gd (isB true v4) (fun k => kO (pickV v14 (.bool true) v32) ds h k) ds h (fun v33 ds h =>
  kO (pickV v4 v33 (.bool false)) ds h (fun v34 ds h =>
  K .norm (T.set tm 62 v34) ds h))))))
  (ite2 (isB true v23) (call 17 [v29, undef] h (fun v h => (fun v31 ds h =>
  gd (isB false v14) (fun k => kO (pickV v23 v31 (.bool false)) ds h k) ds h (fun v32 ds h =>
  gd (isB true v4) (fun k => kO (pickV v14 (.bool true) v32) ds h k) ds h (fun v33 ds h =>
  kO (pickV v4 v33 (.bool false)) ds h (fun v34 ds h =>
  K .norm (T.set tm 62 v34) ds h)))) v ds h))
  (gd (isB false v14) (fun k => kO (pickV v23 undef (.bool false)) ds h k) ds h (fun v32 ds h =>
  gd (isB true v4) (fun k => kO (pickV v14 (.bool true) v32) ds h k) ds h (fun v33 ds h =>
  kO (pickV v4 v33 (.bool false)) ds h (fun v34 ds h =>
  K .norm (T.set tm 62 v34) ds h)))))))
  (ite2 (isB true v23) (kO (loadAgg 2 h (tg tm 4)) ds h (fun v30 ds h =>
  ite2 (isB true v23) (call 17 [undef, v30] h (fun v h => (fun v31 ds h =>
  gd (isB false v14) (fun k => kO (pickV v23 v31 (.bool false)) ds h k) ds h (fun v32 ds h =>
  gd (isB true v4) (fun k => kO (pickV v14 (.bool true) v32) ds h k) ds h (fun v33 ds h =>
  kO (pickV v4 v33 (.bool false)) ds h (fun v34 ds h =>
  K .norm (T.set tm 62 v34) ds h)))) v ds h))
  (gd (isB false v14) (fun k => kO (pickV v23 undef (.bool false)) ds h k) ds h (fun v32 ds h =>
  gd (isB true v4) (fun k => kO (pickV v14 (.bool true) v32) ds h k) ds h (fun v33 ds h =>
  kO (pickV v4 v33 (.bool false)) ds h (fun v34 ds h =>
  K .norm (T.set tm 62 v34) ds h))))))
  (ite2 (isB true v23) (call 17 [undef, undef] h (fun v h => (fun v31 ds h =>
  gd (isB false v14) (fun k => kO (pickV v23 v31 (.bool false)) ds h k) ds h (fun v32 ds h =>
  gd (isB true v4) (fun k => kO (pickV v14 (.bool true) v32) ds h k) ds h (fun v33 ds h =>
  kO (pickV v4 v33 (.bool false)) ds h (fun v34 ds h =>
  K .norm (T.set tm 62 v34) ds h)))) v ds h))
  (gd (isB false v14) (fun k => kO (pickV v23 undef (.bool false)) ds h k) ds h (fun v32 ds h =>
  gd (isB true v4) (fun k => kO (pickV v14 (.bool true) v32) ds h k) ds h (fun v33 ds h =>
  kO (pickV v4 v33 (.bool false)) ds h (fun v34 ds h =>
  K .norm (T.set tm 62 v34) ds h)))))))))))
  (gd (isB true v23) (fun k => kO (some (tg tm 8)) ds h k) ds h (fun v26 ds h =>
  gd (isB true v23) (fun k => kO (indexSl 3 undef v26) ds h k) ds h (fun v27 ds h =>
  gd (isB true v23) (fun k => kO (fieldPtr 0 v27) ds h k) ds h (fun v28 ds h =>
  ite2 (isB true v23) (kO (loadAgg 2 h v28) ds h (fun v29 ds h =>
  ite2 (isB true v23) (kO (loadAgg 2 h (tg tm 4)) ds h (fun v30 ds h =>
  ite2 (isB true v23) (call 17 [v29, v30] h (fun v h => (fun v31 ds h =>
  gd (isB false v14) (fun k => kO (pickV v23 v31 (.bool false)) ds h k) ds h (fun v32 ds h =>
  gd (isB true v4) (fun k => kO (pickV v14 (.bool true) v32) ds h k) ds h (fun v33 ds h =>
  kO (pickV v4 v33 (.bool false)) ds h (fun v34 ds h =>
  K .norm (T.set tm 62 v34) ds h)))) v ds h))
  (gd (isB false v14) (fun k => kO (pickV v23 undef (.bool false)) ds h k) ds h (fun v32 ds h =>
  gd (isB true v4) (fun k => kO (pickV v14 (.bool true) v32) ds h k) ds h (fun v33 ds h =>
  kO (pickV v4 v33 (.bool false)) ds h (fun v34 ds h =>
  K .norm (T.set tm 62 v34) ds h))))))
  (ite2 (isB true v23) (call 17 [v29, undef] h (fun v h => (fun v31 ds h =>
  gd (isB false v14) (fun k => kO (pickV v23 v31 (.bool false)) ds h k) ds h (fun v32 ds h =>
  gd (isB true v4) (fun k => kO (pickV v14 (.bool true) v32) ds h k) ds h (fun v33 ds h =>
  kO (pickV v4 v33 (.bool false)) ds h (fun v34 ds h =>
  K .norm (T.set tm 62 v34) ds h)))) v ds h))
  (gd (isB false v14) (fun k => kO (pickV v23 undef (.bool false)) ds h k) ds h (fun v32 ds h =>
  gd (isB true v4) (fun k => kO (pickV v14 (.bool true) v32) ds h k) ds h (fun v33 ds h =>
  kO (pickV v4 v33 (.bool false)) ds h (fun v34 ds h =>
  K .norm (T.set tm 62 v34) ds h)))))))
  (ite2 (isB true v23) (kO (loadAgg 2 h (tg tm 4)) ds h (fun v30 ds h =>
  ite2 (isB true v23) (call 17 [undef, v30] h (fun v h => (fun v31 ds h =>
  gd (isB false v14) (fun k => kO (pickV v23 v31 (.bool false)) ds h k) ds h (fun v32 ds h =>
  gd (isB true v4) (fun k => kO (pickV v14 (.bool true) v32) ds h k) ds h (fun v33 ds h =>
  kO (pickV v4 v33 (.bool false)) ds h (fun v34 ds h =>
  K .norm (T.set tm 62 v34) ds h)))) v ds h))
  (gd (isB false v14) (fun k => kO (pickV v23 undef (.bool false)) ds h k) ds h (fun v32 ds h =>
  gd (isB true v4) (fun k => kO (pickV v14 (.bool true) v32) ds h k) ds h (fun v33 ds h =>
  kO (pickV v4 v33 (.bool false)) ds h (fun v34 ds h =>
  K .norm (T.set tm 62 v34) ds h))))))
  (ite2 (isB true v23) (call 17 [undef, undef] h (fun v h => (fun v31 ds h =>
  gd (isB false v14) (fun k => kO (pickV v23 v31 (.bool false)) ds h k) ds h (fun v32 ds h =>
  gd (isB true v4) (fun k => kO (pickV v14 (.bool true) v32) ds h k) ds h (fun v33 ds h =>
  kO (pickV v4 v33 (.bool false)) ds h (fun v34 ds h =>
  K .norm (T.set tm 62 v34) ds h)))) v ds h))
  (gd (isB false v14) (fun k => kO (pickV v23 undef (.bool false)) ds h k) ds h (fun v32 ds h =>
  gd (isB true v4) (fun k => kO (pickV v14 (.bool true) v32) ds h k) ds h (fun v33 ds h =>
  kO (pickV v4 v33 (.bool false)) ds h (fun v34 ds h =>
  K .norm (T.set tm 62 v34) ds h))))))))))))))))
  (gd (isB false v14) (fun k => kO (some (tg tm 2)) ds h k) ds h (fun v21 ds h =>
  gd (isB false v14) (fun k => kO (binV Try.prog .eql 3 false undef v21) ds h k) ds h (fun v22 ds h =>
  gd (isB false v14) (fun k => kO (some v22) ds h k) ds h (fun v23 ds h =>
  gd (isB true v23) (fun k => kO (fieldPtr 1 (tg tm 3)) ds h k) ds h (fun v24 ds h =>
  ite2 (isB true v23) (kO (loadOne h v24) ds h (fun v25 ds h =>
  gd (isB true v23) (fun k => kO (some (tg tm 8)) ds h k) ds h (fun v26 ds h =>
  gd (isB true v23) (fun k => kO (indexSl 3 v25 v26) ds h k) ds h (fun v27 ds h =>
  gd (isB true v23) (fun k => kO (fieldPtr 0 v27) ds h k) ds h (fun v28 ds h =>
  ite2 (isB true v23) (kO (loadAgg 2 h v28) ds h (fun v29 ds h =>
  ite2 (isB true v23) (kO (loadAgg 2 h (tg tm 4)) ds h (fun v30 ds h =>
  ite2 (isB true v23) (call 17 [v29, v30] h (fun v h => (fun v31 ds h =>
  gd (isB false v14) (fun k => kO (pickV v23 v31 (.bool false)) ds h k) ds h (fun v32 ds h =>
  gd (isB true v4) (fun k => kO (pickV v14 (.bool true) v32) ds h k) ds h (fun v33 ds h =>
  kO (pickV v4 v33 (.bool false)) ds h (fun v34 ds h =>
  K .norm (T.set tm 62 v34) ds h)))) v ds h))
  (gd (isB false v14) (fun k => kO (pickV v23 undef (.bool false)) ds h k) ds h (fun v32 ds h =>
  gd (isB true v4) (fun k => kO (pickV v14 (.bool true) v32) ds h k) ds h (fun v33 ds h =>
  kO (pickV v4 v33 (.bool false)) ds h (fun v34 ds h =>
  K .norm (T.set tm 62 v34) ds h))))))
  (ite2 (isB true v23) (call 17 [v29, undef] h (fun v h => (fun v31 ds h =>
  gd (isB false v14) (fun k => kO (pickV v23 v31 (.bool false)) ds h k) ds h (fun v32 ds h =>
  gd (isB true v4) (fun k => kO (pickV v14 (.bool true) v32) ds h k) ds h (fun v33 ds h =>
  kO (pickV v4 v33 (.bool false)) ds h (fun v34 ds h =>
  K .norm (T.set tm 62 v34) ds h)))) v ds h))
  (gd (isB false v14) (fun k => kO (pickV v23 undef (.bool false)) ds h k) ds h (fun v32 ds h =>
  gd (isB true v4) (fun k => kO (pickV v14 (.bool true) v32) ds h k) ds h (fun v33 ds h =>
  kO (pickV v4 v33 (.bool false)) ds h (fun v34 ds h =>
  K .norm (T.set tm 62 v34) ds h)))))))
  (ite2 (isB true v23) (kO (loadAgg 2 h (tg tm 4)) ds h (fun v30 ds h =>
  ite2 (isB true v23) (call 17 [undef, v30] h (fun v h => (fun v31 ds h =>
  gd (isB false v14) (fun k => kO (pickV v23 v31 (.bool false)) ds h k) ds h (fun v32 ds h =>
  gd (isB true v4) (fun k => kO (pickV v14 (.bool true) v32) ds h k) ds h (fun v33 ds h =>
  kO (pickV v4 v33 (.bool false)) ds h (fun v34 ds h =>
  K .norm (T.set tm 62 v34) ds h)))) v ds h))
  (gd (isB false v14) (fun k => kO (pickV v23 undef (.bool false)) ds h k) ds h (fun v32 ds h =>
  gd (isB true v4) (fun k => kO (pickV v14 (.bool true) v32) ds h k) ds h (fun v33 ds h =>
  kO (pickV v4 v33 (.bool false)) ds h (fun v34 ds h =>
  K .norm (T.set tm 62 v34) ds h))))))
  (ite2 (isB true v23) (call 17 [undef, undef] h (fun v h => (fun v31 ds h =>
  gd (isB false v14) (fun k => kO (pickV v23 v31 (.bool false)) ds h k) ds h (fun v32 ds h =>
  gd (isB true v4) (fun k => kO (pickV v14 (.bool true) v32) ds h k) ds h (fun v33 ds h =>
  kO (pickV v4 v33 (.bool false)) ds h (fun v34 ds h =>
  K .norm (T.set tm 62 v34) ds h)))) v ds h))
  (gd (isB false v14) (fun k => kO (pickV v23 undef (.bool false)) ds h k) ds h (fun v32 ds h =>
  gd (isB true v4) (fun k => kO (pickV v14 (.bool true) v32) ds h k) ds h (fun v33 ds h =>
  kO (pickV v4 v33 (.bool false)) ds h (fun v34 ds h =>
  K .norm (T.set tm 62 v34) ds h)))))))))))
  (gd (isB true v23) (fun k => kO (some (tg tm 8)) ds h k) ds h (fun v26 ds h =>
  gd (isB true v23) (fun k => kO (indexSl 3 undef v26) ds h k) ds h (fun v27 ds h =>
  gd (isB true v23) (fun k => kO (fieldPtr 0 v27) ds h k) ds h (fun v28 ds h =>
  ite2 (isB true v23) (kO (loadAgg 2 h v28) ds h (fun v29 ds h =>
  ite2 (isB true v23) (kO (loadAgg 2 h (tg tm 4)) ds h (fun v30 ds h =>
  ite2 (isB true v23) (call 17 [v29, v30] h (fun v h => (fun v31 ds h =>
  gd (isB false v14) (fun k => kO (pickV v23 v31 (.bool false)) ds h k) ds h (fun v32 ds h =>
  gd (isB true v4) (fun k => kO (pickV v14 (.bool true) v32) ds h k) ds h (fun v33 ds h =>
  kO (pickV v4 v33 (.bool false)) ds h (fun v34 ds h =>
  K .norm (T.set tm 62 v34) ds h)))) v ds h))
  (gd (isB false v14) (fun k => kO (pickV v23 undef (.bool false)) ds h k) ds h (fun v32 ds h =>
  gd (isB true v4) (fun k => kO (pickV v14 (.bool true) v32) ds h k) ds h (fun v33 ds h =>
  kO (pickV v4 v33 (.bool false)) ds h (fun v34 ds h =>
  K .norm (T.set tm 62 v34) ds h))))))
  (ite2 (isB true v23) (call 17 [v29, undef] h (fun v h => (fun v31 ds h =>
  gd (isB false v14) (fun k => kO (pickV v23 v31 (.bool false)) ds h k) ds h (fun v32 ds h =>
  gd (isB true v4) (fun k => kO (pickV v14 (.bool true) v32) ds h k) ds h (fun v33 ds h =>
  kO (pickV v4 v33 (.bool false)) ds h (fun v34 ds h =>
  K .norm (T.set tm 62 v34) ds h)))) v ds h))
  (gd (isB false v14) (fun k => kO (pickV v23 undef (.bool false)) ds h k) ds h (fun v32 ds h =>
  gd (isB true v4) (fun k => kO (pickV v14 (.bool true) v32) ds h k) ds h (fun v33 ds h =>
  kO (pickV v4 v33 (.bool false)) ds h (fun v34 ds h =>
  K .norm (T.set tm 62 v34) ds h)))))))
  (ite2 (isB true v23) (kO (loadAgg 2 h (tg tm 4)) ds h (fun v30 ds h =>
  ite2 (isB true v23) (call 17 [undef, v30] h (fun v h => (fun v31 ds h =>
  gd (isB false v14) (fun k => kO (pickV v23 v31 (.bool false)) ds h k) ds h (fun v32 ds h =>
  gd (isB true v4) (fun k => kO (pickV v14 (.bool true) v32) ds h k) ds h (fun v33 ds h =>
  kO (pickV v4 v33 (.bool false)) ds h (fun v34 ds h =>
  K .norm (T.set tm 62 v34) ds h)))) v ds h))
  (gd (isB false v14) (fun k => kO (pickV v23 undef (.bool false)) ds h k) ds h (fun v32 ds h =>
  gd (isB true v4) (fun k => kO (pickV v14 (.bool true) v32) ds h k) ds h (fun v33 ds h =>
  kO (pickV v4 v33 (.bool false)) ds h (fun v34 ds h =>
  K .norm (T.set tm 62 v34) ds h))))))
  (ite2 (isB true v23) (call 17 [undef, undef] h (fun v h => (fun v31 ds h =>
  gd (isB false v14) (fun k => kO (pickV v23 v31 (.bool false)) ds h k) ds h (fun v32 ds h =>
  gd (isB true v4) (fun k => kO (pickV v14 (.bool true) v32) ds h k) ds h (fun v33 ds h =>
  kO (pickV v4 v33 (.bool false)) ds h (fun v34 ds h =>
  K .norm (T.set tm 62 v34) ds h)))) v ds h))
  (gd (isB false v14) (fun k => kO (pickV v23 undef (.bool false)) ds h k) ds h (fun v32 ds h =>
  gd (isB true v4) (fun k => kO (pickV v14 (.bool true) v32) ds h k) ds h (fun v33 ds h =>
  kO (pickV v4 v33 (.bool false)) ds h (fun v34 ds h =>
  K .norm (T.set tm 62 v34) ds h))))))))))))))))))))
  (gd (isB false v14) (fun k => kO (some (tg tm 8)) ds h k) ds h (fun v17 ds h =>
  gd (isB false v14) (fun k => kO (indexSl 3 undef v17) ds h k) ds h (fun v18 ds h =>
  gd (isB false v14) (fun k => kO (fieldPtr 2 v18) ds h k) ds h (fun v19 ds h =>
  ite2 (isB false v14) (kO (loadOne h v19) ds h (fun v20 ds h =>
  gd (isB false v14) (fun k => kO (some (tg tm 2)) ds h k) ds h (fun v21 ds h =>
  gd (isB false v14) (fun k => kO (binV Try.prog .eql 3 false v20 v21) ds h k) ds h (fun v22 ds h =>
  gd (isB false v14) (fun k => kO (some v22) ds h k) ds h (fun v23 ds h =>
  gd (isB true v23) (fun k => kO (fieldPtr 1 (tg tm 3)) ds h k) ds h (fun v24 ds h =>
  ite2 (isB true v23) (kO (loadOne h v24) ds h (fun v25 ds h =>
  gd (isB true v23) (fun k => kO (some (tg tm 8)) ds h k) ds h (fun v26 ds h =>
  gd (isB true v23) (fun k => kO (indexSl 3 v25 v26) ds h k) ds h (fun v27 ds h =>
  gd (isB true v23) (fun k => kO (fieldPtr 0 v27) ds h k) ds h (fun v28 ds h =>
  ite2 (isB true v23) (kO (loadAgg 2 h v28) ds h (fun v29 ds h =>
  ite2 (isB true v23) (kO (loadAgg 2 h (tg tm 4)) ds h (fun v30 ds h =>
  ite2 (isB true v23) (call 17 [v29, v30] h (fun v h => (fun v31 ds h =>
  gd (isB false v14) (fun k => kO (pickV v23 v31 (.bool false)) ds h k) ds h (fun v32 ds h =>
  gd (isB true v4) (fun k => kO (pickV v14 (.bool true) v32) ds h k) ds h (fun v33 ds h =>
  kO (pickV v4 v33 (.bool false)) ds h (fun v34 ds h =>
  K .norm (T.set tm 62 v34) ds h)))) v ds h))
  (gd (isB false v14) (fun k => kO (pickV v23 undef (.bool false)) ds h k) ds h (fun v32 ds h =>
  gd (isB true v4) (fun k => kO (pickV v14 (.bool true) v32) ds h k) ds h (fun v33 ds h =>
  kO (pickV v4 v33 (.bool false)) ds h (fun v34 ds h =>
  K .norm (T.set tm 62 v34) ds h))))))
  (ite2 (isB true v23) (call 17 [v29, undef] h (fun v h => (fun v31 ds h =>
  gd (isB false v14) (fun k => kO (pickV v23 v31 (.bool false)) ds h k) ds h (fun v32 ds h =>
  gd (isB true v4) (fun k => kO (pickV v14 (.bool true) v32) ds h k) ds h (fun v33 ds h =>
  kO (pickV v4 v33 (.bool false)) ds h (fun v34 ds h =>
  K .norm (T.set tm 62 v34) ds h)))) v ds h))
  (gd (isB false v14) (fun k => kO (pickV v23 undef (.bool false)) ds h k) ds h (fun v32 ds h =>
  gd (isB true v4) (fun k => kO (pickV v14 (.bool true) v32) ds h k) ds h (fun v33 ds h =>
  kO (pickV v4 v33 (.bool false)) ds h (fun v34 ds h =>
  K .norm (T.set tm 62 v34) ds h)))))))
  (ite2 (isB true v23) (kO (loadAgg 2 h (tg tm 4)) ds h (fun v30 ds h =>
  ite2 (isB true v23) (call 17 [undef, v30] h (fun v h => (fun v31 ds h =>
  gd (isB false v14) (fun k => kO (pickV v23 v31 (.bool false)) ds h k) ds h (fun v32 ds h =>
  gd (isB true v4) (fun k => kO (pickV v14 (.bool true) v32) ds h k) ds h (fun v33 ds h =>
  kO (pickV v4 v33 (.bool false)) ds h (fun v34 ds h =>
  K .norm (T.set tm 62 v34) ds h)))) v ds h))
  (gd (isB false v14) (fun k => kO (pickV v23 undef (.bool false)) ds h k) ds h (fun v32 ds h =>
  gd (isB true v4) (fun k => kO (pickV v14 (.bool true) v32) ds h k) ds h (fun v33 ds h =>
  kO (pickV v4 v33 (.bool false)) ds h (fun v34 ds h =>
  K .norm (T.set tm 62 v34) ds h))))))
  (ite2 (isB true v23) (call 17 [undef, undef] h (fun v h => (fun v31 ds h =>
  gd (isB false v14) (fun k => kO (pickV v23 v31 (.bool false)) ds h k) ds h (fun v32 ds h =>
  gd (isB true v4) (fun k => kO (pickV v14 (.bool true) v32) ds h k) ds h (fun v33 ds h =>
  kO (pickV v4 v33 (.bool false)) ds h (fun v34 ds h =>
  K .norm (T.set tm 62 v34) ds h)))) v ds h))
  (gd (isB false v14) (fun k => kO (pickV v23 undef (.bool false)) ds h k) ds h (fun v32 ds h =>
  gd (isB true v4) (fun k => kO (pickV v14 (.bool true) v32) ds h k) ds h (fun v33 ds h =>
  kO (pickV v4 v33 (.bool false)) ds h (fun v34 ds h =>
  K .norm (T.set tm 62 v34) ds h)))))))))))
  (gd (isB true v23) (fun k => kO (some (tg tm 8)) ds h k) ds h (fun v26 ds h =>
  gd (isB true v23) (fun k => kO (indexSl 3 undef v26) ds h k) ds h (fun v27 ds h =>
  gd (isB true v23) (fun k => kO (fieldPtr 0 v27) ds h k) ds h (fun v28 ds h =>
  ite2 (isB true v23) (kO (loadAgg 2 h v28) ds h (fun v29 ds h =>
  ite2 (isB true v23) (kO (loadAgg 2 h (tg tm 4)) ds h (fun v30 ds h =>
  ite2 (isB true v23) (call 17 [v29, v30] h (fun v h => (fun v31 ds h =>
  gd (isB false v14) (fun k => kO (pickV v23 v31 (.bool false)) ds h k) ds h (fun v32 ds h =>
  gd (isB true v4) (fun k => kO (pickV v14 (.bool true) v32) ds h k) ds h (fun v33 ds h =>
  kO (pickV v4 v33 (.bool false)) ds h (fun v34 ds h =>
  K .norm (T.set tm 62 v34) ds h)))) v ds h))
  (gd (isB false v14) (fun k => kO (pickV v23 undef (.bool false)) ds h k) ds h (fun v32 ds h =>
  gd (isB true v4) (fun k => kO (pickV v14 (.bool true) v32) ds h k) ds h (fun v33 ds h =>
  kO (pickV v4 v33 (.bool false)) ds h (fun v34 ds h =>
  K .norm (T.set tm 62 v34) ds h))))))
  (ite2 (isB true v23) (call 17 [v29, undef] h (fun v h => (fun v31 ds h =>
  gd (isB false v14) (fun k => kO (pickV v23 v31 (.bool false)) ds h k) ds h (fun v32 ds h =>
  gd (isB true v4) (fun k => kO (pickV v14 (.bool true) v32) ds h k) ds h (fun v33 ds h =>
  kO (pickV v4 v33 (.bool false)) ds h (fun v34 ds h =>
  K .norm (T.set tm 62 v34) ds h)))) v ds h))
  (gd (isB false v14) (fun k => kO (pickV v23 undef (.bool false)) ds h k) ds h (fun v32 ds h =>
  gd (isB true v4) (fun k => kO (pickV v14 (.bool true) v32) ds h k) ds h (fun v33 ds h =>
  kO (pickV v4 v33 (.bool false)) ds h (fun v34 ds h =>
  K .norm (T.set tm 62 v34) ds h)))))))
  (ite2 (isB true v23) (kO (loadAgg 2 h (tg tm 4)) ds h (fun v30 ds h =>
  ite2 (isB true v23) (call 17 [undef, v30] h (fun v h => (fun v31 ds h =>
  gd (isB false v14) (fun k => kO (pickV v23 v31 (.bool false)) ds h k) ds h (fun v32 ds h =>
  gd (isB true v4) (fun k => kO (pickV v14 (.bool true) v32) ds h k) ds h (fun v33 ds h =>
  kO (pickV v4 v33 (.bool false)) ds h (fun v34 ds h =>
  K .norm (T.set tm 62 v34) ds h)))) v ds h))
  (gd (isB false v14) (fun k => kO (pickV v23 undef (.bool false)) ds h k) ds h (fun v32 ds h =>
  gd (isB true v4) (fun k => kO (pickV v14 (.bool true) v32) ds h k) ds h (fun v33 ds h =>
  kO (pickV v4 v33 (.bool false)) ds h (fun v34 ds h =>
  K .norm (T.set tm 62 v34) ds h))))))
  (ite2 (isB true v23) (call 17 [undef, undef] h (fun v h => (fun v31 ds h =>
  gd (isB false v14) (fun k => kO (pickV v23 v31 (.bool false)) ds h k) ds h (fun v32 ds h =>
  gd (isB true v4) (fun k => kO (pickV v14 (.bool true) v32) ds h k) ds h (fun v33 ds h =>
  kO (pickV v4 v33 (.bool false)) ds h (fun v34 ds h =>
  K .norm (T.set tm 62 v34) ds h)))) v ds h))
  (gd (isB false v14) (fun k => kO (pickV v23 undef (.bool false)) ds h k) ds h (fun v32 ds h =>
  gd (isB true v4) (fun k => kO (pickV v14 (.bool true) v32) ds h k) ds h (fun v33 ds h =>
  kO (pickV v4 v33 (.bool false)) ds h (fun v34 ds h =>
  K .norm (T.set tm 62 v34) ds h))))))))))))))))
  (gd (isB false v14) (fun k => kO (some (tg tm 2)) ds h k) ds h (fun v21 ds h =>
  gd (isB false v14) (fun k => kO (binV Try.prog .eql 3 false undef v21) ds h k) ds h (fun v22 ds h =>
  gd (isB false v14) (fun k => kO (some v22) ds h k) ds h (fun v23 ds h =>
  gd (isB true v23) (fun k => kO (fieldPtr 1 (tg tm 3)) ds h k) ds h (fun v24 ds h =>
  ite2 (isB true v23) (kO (loadOne h v24) ds h (fun v25 ds h =>
  gd (isB true v23) (fun k => kO (some (tg tm 8)) ds h k) ds h (fun v26 ds h =>
  gd (isB true v23) (fun k => kO (indexSl 3 v25 v26) ds h k) ds h (fun v27 ds h =>
  gd (isB true v23) (fun k => kO (fieldPtr 0 v27) ds h k) ds h (fun v28 ds h =>
  ite2 (isB true v23) (kO (loadAgg 2 h v28) ds h (fun v29 ds h =>
  ite2 (isB true v23) (kO (loadAgg 2 h (tg tm 4)) ds h (fun v30 ds h =>
  ite2 (isB true v23) (call 17 [v29, v30] h (fun v h => (fun v31 ds h =>
  gd (isB false v14) (fun k => kO (pickV v23 v31 (.bool false)) ds h k) ds h (fun v32 ds h =>
  gd (isB true v4) (fun k => kO (pickV v14 (.bool true) v32) ds h k) ds h (fun v33 ds h =>
  kO (pickV v4 v33 (.bool false)) ds h (fun v34 ds h =>
  K .norm (T.set tm 62 v34) ds h)))) v ds h))
  (gd (isB false v14) (fun k => kO (pickV v23 undef (.bool false)) ds h k) ds h (fun v32 ds h =>
  gd (isB true v4) (fun k => kO (pickV v14 (.bool true) v32) ds h k) ds h (fun v33 ds h =>
  kO (pickV v4 v33 (.bool false)) ds h (fun v34 ds h =>
  K .norm (T.set tm 62 v34) ds h))))))
  (ite2 (isB true v23) (call 17 [v29, undef] h (fun v h => (fun v31 ds h =>
  gd (isB false v14) (fun k => kO (pickV v23 v31 (.bool false)) ds h k) ds h (fun v32 ds h =>
  gd (isB true v4) (fun k => kO (pickV v14 (.bool true) v32) ds h k) ds h (fun v33 ds h =>
  kO (pickV v4 v33 (.bool false)) ds h (fun v34 ds h =>
  K .norm (T.set tm 62 v34) ds h)))) v ds h))
  (gd (isB false v14) (fun k => kO (pickV v23 undef (.bool false)) ds h k) ds h (fun v32 ds h =>
  gd (isB true v4) (fun k => kO (pickV v14 (.bool true) v32) ds h k) ds h (fun v33 ds h =>
  kO (pickV v4 v33 (.bool false)) ds h (fun v34 ds h =>
  K .norm (T.set tm 62 v34) ds h)))))))
  (ite2 (isB true v23) (kO (loadAgg 2 h (tg tm 4)) ds h (fun v30 ds h =>
  ite2 (isB true v23) (call 17 [undef, v30] h (fun v h => (fun v31 ds h =>
  gd (isB false v14) (fun k => kO (pickV v23 v31 (.bool false)) ds h k) ds h (fun v32 ds h =>
  gd (isB true v4) (fun k => kO (pickV v14 (.bool true) v32) ds h k) ds h (fun v33 ds h =>
  kO (pickV v4 v33 (.bool false)) ds h (fun v34 ds h =>
  K .norm (T.set tm 62 v34) ds h)))) v ds h))
  (gd (isB false v14) (fun k => kO (pickV v23 undef (.bool false)) ds h k) ds h (fun v32 ds h =>
  gd (isB true v4) (fun k => kO (pickV v14 (.bool true) v32) ds h k) ds h (fun v33 ds h =>
  kO (pickV v4 v33 (.bool false)) ds h (fun v34 ds h =>
  K .norm (T.set tm 62 v34) ds h))))))
  (ite2 (isB true v23) (call 17 [undef, undef] h (fun v h => (fun v31 ds h =>
  gd (isB false v14) (fun k => kO (pickV v23 v31 (.bool false)) ds h k) ds h (fun v32 ds h =>
  gd (isB true v4) (fun k => kO (pickV v14 (.bool true) v32) ds h k) ds h (fun v33 ds h =>
  kO (pickV v4 v33 (.bool false)) ds h (fun v34 ds h =>
  K .norm (T.set tm 62 v34) ds h)))) v ds h))
  (gd (isB false v14) (fun k => kO (pickV v23 undef (.bool false)) ds h k) ds h (fun v32 ds h =>
  gd (isB true v4) (fun k => kO (pickV v14 (.bool true) v32) ds h k) ds h (fun v33 ds h =>
  kO (pickV v4 v33 (.bool false)) ds h (fun v34 ds h =>
  K .norm (T.set tm 62 v34) ds h)))))))))))
  (gd (isB true v23) (fun k => kO (some (tg tm 8)) ds h k) ds h (fun v26 ds h =>
  gd (isB true v23) (fun k => kO (indexSl 3 undef v26) ds h k) ds h (fun v27 ds h =>
  gd (isB true v23) (fun k => kO (fieldPtr 0 v27) ds h k) ds h (fun v28 ds h =>
  ite2 (isB true v23) (kO (loadAgg 2 h v28) ds h (fun v29 ds h =>
  ite2 (isB true v23) (kO (loadAgg 2 h (tg tm 4)) ds h (fun v30 ds h =>
  ite2 (isB true v23) (call 17 [v29, v30] h (fun v h => (fun v31 ds h =>
  gd (isB false v14) (fun k => kO (pickV v23 v31 (.bool false)) ds h k) ds h (fun v32 ds h =>
  gd (isB true v4) (fun k => kO (pickV v14 (.bool true) v32) ds h k) ds h (fun v33 ds h =>
  kO (pickV v4 v33 (.bool false)) ds h (fun v34 ds h =>
  K .norm (T.set tm 62 v34) ds h)))) v ds h))
  (gd (isB false v14) (fun k => kO (pickV v23 undef (.bool false)) ds h k) ds h (fun v32 ds h =>
  gd (isB true v4) (fun k => kO (pickV v14 (.bool true) v32) ds h k) ds h (fun v33 ds h =>
  kO (pickV v4 v33 (.bool false)) ds h (fun v34 ds h =>
  K .norm (T.set tm 62 v34) ds h))))))
  (ite2 (isB true v23) (call 17 [v29, undef] h (fun v h => (fun v31 ds h =>
  gd (isB false v14) (fun k => kO (pickV v23 v31 (.bool false)) ds h k) ds h (fun v32 ds h =>
  gd (isB true v4) (fun k => kO (pickV v14 (.bool true) v32) ds h k) ds h (fun v33 ds h =>
  kO (pickV v4 v33 (.bool false)) ds h (fun v34 ds h =>
  K .norm (T.set tm 62 v34) ds h)))) v ds h))
  (gd (isB false v14) (fun k => kO (pickV v23 undef (.bool false)) ds h k) ds h (fun v32 ds h =>
  gd (isB true v4) (fun k => kO (pickV v14 (.bool true) v32) ds h k) ds h (fun v33 ds h =>
  kO (pickV v4 v33 (.bool false)) ds h (fun v34 ds h =>
  K .norm (T.set tm 62 v34) ds h)))))))
  (ite2 (isB true v23) (kO (loadAgg 2 h (tg tm 4)) ds h (fun v30 ds h =>
  ite2 (isB true v23) (call 17 [undef, v30] h (fun v h => (fun v31 ds h =>
  gd (isB false v14) (fun k => kO (pickV v23 v31 (.bool false)) ds h k) ds h (fun v32 ds h =>
  gd (isB true v4) (fun k => kO (pickV v14 (.bool true) v32) ds h k) ds h (fun v33 ds h =>
  kO (pickV v4 v33 (.bool false)) ds h (fun v34 ds h =>
  K .norm (T.set tm 62 v34) ds h)))) v ds h))
  (gd (isB false v14) (fun k => kO (pickV v23 undef (.bool false)) ds h k) ds h (fun v32 ds h =>
  gd (isB true v4) (fun k => kO (pickV v14 (.bool true) v32) ds h k) ds h (fun v33 ds h =>
  kO (pickV v4 v33 (.bool false)) ds h (fun v34 ds h =>
  K .norm (T.set tm 62 v34) ds h))))))
  (ite2 (isB true v23) (call 17 [undef, undef] h (fun v h => (fun v31 ds h =>
  gd (isB false v14) (fun k => kO (pickV v23 v31 (.bool false)) ds h k) ds h (fun v32 ds h =>
  gd (isB true v4) (fun k => kO (pickV v14 (.bool true) v32) ds h k) ds h (fun v33 ds h =>
  kO (pickV v4 v33 (.bool false)) ds h (fun v34 ds h =>
  K .norm (T.set tm 62 v34) ds h)))) v ds h))
  (gd (isB false v14) (fun k => kO (pickV v23 undef (.bool false)) ds h k) ds h (fun v32 ds h =>
  gd (isB true v4) (fun k => kO (pickV v14 (.bool true) v32) ds h k) ds h (fun v33 ds h =>
  kO (pickV v4 v33 (.bool false)) ds h (fun v34 ds h =>
  K .norm (T.set tm 62 v34) ds h)))))))))))))))))))))))))
  (gd (isB true v4) (fun k => kO (some (tg tm 2)) ds h k) ds h (fun v12 ds h =>
  gd (isB true v4) (fun k => kO (binV Try.prog .lss 3 false undef v12) ds h k) ds h (fun v13 ds h =>
  gd (isB true v4) (fun k => kO (some v13) ds h k) ds h (fun v14 ds h =>
  gd (isB false v14) (fun k => kO (fieldPtr 1 (tg tm 3)) ds h k) ds h (fun v15 ds h =>
  ite2 (isB false v14) (kO (loadOne h v15) ds h (fun v16 ds h =>
  gd (isB false v14) (fun k => kO (some (tg tm 8)) ds h k) ds h (fun v17 ds h =>
  gd (isB false v14) (fun k => kO (indexSl 3 v16 v17) ds h k) ds h (fun v18 ds h =>
  gd (isB false v14) (fun k => kO (fieldPtr 2 v18) ds h k) ds h (fun v19 ds h =>
  ite2 (isB false v14) (kO (loadOne h v19) ds h (fun v20 ds h =>
  gd (isB false v14) (fun k => kO (some (tg tm 2)) ds h k) ds h (fun v21 ds h =>
  gd (isB false v14) (fun k => kO (binV Try.prog .eql 3 false v20 v21) ds h k) ds h (fun v22 ds h =>
  gd (isB false v14) (fun k => kO (some v22) ds h k) ds h (fun v23 ds h =>
  gd (isB true v23) (fun k => kO (fieldPtr 1 (tg tm 3)) ds h k) ds h (fun v24 ds h =>
  ite2 (isB true v23) (kO (loadOne h v24) ds h (fun v25 ds h =>
  gd (isB true v23) (fun k => kO (some (tg tm 8)) ds h k) ds h (fun v26 ds h =>
  gd (isB true v23) (fun k => kO (indexSl 3 v25 v26) ds h k) ds h (fun v27 ds h =>
  gd (isB true v23) (fun k => kO (fieldPtr 0 v27) ds h k) ds h (fun v28 ds h =>
  ite2 (isB true v23) (kO (loadAgg 2 h v28) ds h (fun v29 ds h =>
  ite2 (isB true v23) (kO (loadAgg 2 h (tg tm 4)) ds h (fun v30 ds h =>
  ite2 (isB true v23) (call 17 [v29, v30] h (fun v h => (fun v31 ds h =>
  gd (isB false v14) (fun k => kO (pickV v23 v31 (.bool false)) ds h k) ds h (fun v32 ds h =>
  gd (isB true v4) (fun k => kO (pickV v14 (.bool true) v32) ds h k) ds h (fun v33 ds h =>
  kO (pickV v4 v33 (.bool false)) ds h (fun v34 ds h =>
  K .norm (T.set tm 62 v34) ds h)))) v ds h))
  (gd (isB false v14) (fun k => kO (pickV v23 undef (.bool false)) ds h k) ds h (fun v32 ds h =>
  gd (isB true v4) (fun k => kO (pickV v14 (.bool true) v32) ds h k) ds h (fun v33 ds h =>
  kO (pickV v4 v33 (.bool false)) ds h (fun v34 ds h =>
  K .norm (T.set tm 62 v34) ds h))))))
  (ite2 (isB true v23) (call 17 [v29, undef] h (fun v h => (fun v31 ds h =>
  gd (isB false v14) (fun k => kO (pickV v23 v31 (.bool false)) ds h k) ds h (fun v32 ds h =>
  gd (isB true v4) (fun k => kO (pickV v14 (.bool true) v32) ds h k) ds h (fun v33 ds h =>
  kO (pickV v4 v33 (.bool false)) ds h (fun v34 ds h =>
  K .norm (T.set tm 62 v34) ds h)))) v ds h))
  (gd (isB false v14) (fun k => kO (pickV v23 undef (.bool false)) ds h k) ds h (fun v32 ds h =>
  gd (isB true v4) (fun k => kO (pickV v14 (.bool true) v32) ds h k) ds h (fun v33 ds h =>
  kO (pickV v4 v33 (.bool false)) ds h (fun v34 ds h =>
  K .norm (T.set tm 62 v34) ds h)))))))
  (ite2 (isB true v23) (kO (loadAgg 2 h (tg tm 4)) ds h (fun v30 ds h =>
  ite2 (isB true v23) (call 17 [undef, v30] h (fun v h => (fun v31 ds h =>
  gd (isB false v14) (fun k => kO (pickV v23 v31 (.bool false)) ds h k) ds h (fun v32 ds h =>
  gd (isB true v4) (fun k => kO (pickV v14 (.bool true) v32) ds h k) ds h (fun v33 ds h =>
  kO (pickV v4 v33 (.bool false)) ds h (fun v34 ds h =>
  K .norm (T.set tm 62 v34) ds h)))) v ds h))
  (gd (isB false v14) (fun k => kO (pickV v23 undef (.bool false)) ds h k) ds h (fun v32 ds h =>
  gd (isB true v4) (fun k => kO (pickV v14 (.bool true) v32) ds h k) ds h (fun v33 ds h =>
  kO (pickV v4 v33 (.bool false)) ds h (fun v34 ds h =>
  K .norm (T.set tm 62 v34) ds h))))))
  (ite2 (isB true v23) (call 17 [undef, undef] h (fun v h => (fun v31 ds h =>
  gd (isB false v14) (fun k => kO (pickV v23 v31 (.bool false)) ds h k) ds h (fun v32 ds h =>
  gd (isB true v4) (fun k => kO (pickV v14 (.bool true) v32) ds h k) ds h (fun v33 ds h =>
  kO (pickV v4 v33 (.bool false)) ds h (fun v34 ds h =>
  K .norm (T.set tm 62 v34) ds h)))) v ds h))
  (gd (isB false v14) (fun k => kO (pickV v23 undef (.bool false)) ds h k) ds h (fun v32 ds h =>
  gd (isB true v4) (fun k => kO (pickV v14 (.bool true) v32) ds h k) ds h (fun v33 ds h =>
  kO (pickV v4 v33 (.bool false)) ds h (fun v34 ds h =>
  K .norm (T.set tm 62 v34) ds h)))))))))))
  (gd (isB true v23) (fun k => kO (some (tg tm 8)) ds h k) ds h (fun v26 ds h =>
  gd (isB true v23) (fun k => kO (indexSl 3 undef v26) ds h k) ds h (fun v27 ds h =>
  gd (isB true v23) (fun k => kO (fieldPtr 0 v27) ds h k) ds h (fun v28 ds h =>
  ite2 (isB true v23) (kO (loadAgg 2 h v28) ds h (fun v29 ds h =>
  ite2 (isB true v23) (kO (loadAgg 2 h (tg tm 4)) ds h (fun v30 ds h =>
  ite2 (isB true v23) (call 17 [v29, v30] h (fun v h => (fun v31 ds h =>
  gd (isB false v14) (fun k => kO (pickV v23 v31 (.bool false)) ds h k) ds h (fun v32 ds h =>
  gd (isB true v4) (fun k => kO (pickV v14 (.bool true) v32) ds h k) ds h (fun v33 ds h =>
  kO (pickV v4 v33 (.bool false)) ds h (fun v34 ds h =>
  K .norm (T.set tm 62 v34) ds h)))) v ds h))
  (gd (isB false v14) (fun k => kO (pickV v23 undef (.bool false)) ds h k) ds h (fun v32 ds h =>
  gd (isB true v4) (fun k => kO (pickV v14 (.bool true) v32) ds h k) ds h (fun v33 ds h =>
  kO (pickV v4 v33 (.bool false)) ds h (fun v34 ds h =>
  K .norm (T.set tm 62 v34) ds h))))))
  (ite2 (isB true v23) (call 17 [v29, undef] h (fun v h => (fun v31 ds h =>
  gd (isB false v14) (fun k => kO (pickV v23 v31 (.bool false)) ds h k) ds h (fun v32 ds h =>
  gd (isB true v4) (fun k => kO (pickV v14 (.bool true) v32) ds h k) ds h (fun v33 ds h =>
  kO (pickV v4 v33 (.bool false)) ds h (fun v34 ds h =>
  K .norm (T.set tm 62 v34) ds h)))) v ds h))
  (gd (isB false v14) (fun k => kO (pickV v23 undef (.bool false)) ds h k) ds h (fun v32 ds h =>
  gd (isB true v4) (fun k => kO (pickV v14 (.bool true) v32) ds h k) ds h (fun v33 ds h =>
  kO (pickV v4 v33 (.bool false)) ds h (fun v34 ds h =>
  K .norm (T.set tm 62 v34) ds h)))))))
  (ite2 (isB true v23) (kO (loadAgg 2 h (tg tm 4)) ds h (fun v30 ds h =>
  ite2 (isB true v23) (call 17 [undef, v30] h (fun v h => (fun v31 ds h =>
  gd (isB false v14) (fun k => kO (pickV v23 v31 (.bool false)) ds h k) ds h (fun v32 ds h =>
  gd (isB true v4) (fun k => kO (pickV v14 (.bool true) v32) ds h k) ds h (fun v33 ds h =>
  kO (pickV v4 v33 (.bool false)) ds h (fun v34 ds h =>
  K .norm (T.set tm 62 v34) ds h)))) v ds h))
  (gd (isB false v14) (fun k => kO (pickV v23 undef (.bool false)) ds h k) ds h (fun v32 ds h =>
  gd (isB true v4) (fun k => kO (pickV v14 (.bool true) v32) ds h k) ds h (fun v33 ds h =>
  kO (pickV v4 v33 (.bool false)) ds h (fun v34 ds h =>
  K .norm (T.set tm 62 v34) ds h))))))
  (ite2 (isB true v23) (call 17 [undef, undef] h (fun v h => (fun v31 ds h =>
  gd (isB false v14) (fun k => kO (pickV v23 v31 (.bool false)) ds h k) ds h (fun v32 ds h =>
  gd (isB true v4) (fun k => kO (pickV v14 (.bool true) v32) ds h k) ds h (fun v33 ds h =>
  kO (pickV v4 v33 (.bool false)) ds h (fun v34 ds h =>
  K .norm (T.set tm 62 v34) ds h)))) v ds h))
  (gd (isB false v14) (fun k => kO (pickV v23 undef (.bool false)) ds h k) ds h (fun v32 ds h =>
  gd (isB true v4) (fun k => kO (pickV v14 (.bool true) v32) ds h k) ds h (fun v33 ds h =>
  kO (pickV v4 v33 (.bool false)) ds h (fun v34 ds h =>
  K .norm (T.set tm 62 v34) ds h))))))))))))))))
  (gd (isB false v14) (fun k => kO (some (tg tm 2)) ds h k) ds h (fun v21 ds h =>
  gd (isB false v14) (fun k => kO (binV Try.prog .eql 3 false undef v21) ds h k) ds h (fun v22 ds h =>
  gd (isB false v14) (fun k => kO (some v22) ds h k) ds h (fun v23 ds h =>
  gd (isB true v23) (fun k => kO (fieldPtr 1 (tg tm 3)) ds h k) ds h (fun v24 ds h =>
  ite2 (isB true v23) (kO (loadOne h v24) ds h (fun v25 ds h =>
  gd (isB true v23) (fun k => kO (some (tg tm 8)) ds h k) ds h (fun v26 ds h =>
  gd (isB true v23) (fun k => kO (indexSl 3 v25 v26) ds h k) ds h (fun v27 ds h =>
  gd (isB true v23) (fun k => kO (fieldPtr 0 v27) ds h k) ds h (fun v28 ds h =>
  ite2 (isB true v23) (kO (loadAgg 2 h v28) ds h (fun v29 ds h =>
  ite2 (isB true v23) (kO (loadAgg 2 h (tg tm 4)) ds h (fun v30 ds h =>
  ite2 (isB true v23) (call 17 [v29, v30] h (fun v h => (fun v31 ds h =>
  gd (isB false v14) (fun k => kO (pickV v23 v31 (.bool false)) ds h k) ds h (fun v32 ds h =>
  gd (isB true v4) (fun k => kO (pickV v14 (.bool true) v32) ds h k) ds h (fun v33 ds h =>
  kO (pickV v4 v33 (.bool false)) ds h (fun v34 ds h =>
  K .norm (T.set tm 62 v34) ds h)))) v ds h))
  (gd (isB false v14) (fun k => kO (pickV v23 undef (.bool false)) ds h k) ds h (fun v32 ds h =>
  gd (isB true v4) (fun k => kO (pickV v14 (.bool true) v32) ds h k) ds h (fun v33 ds h =>
  kO (pickV v4 v33 (.bool false)) ds h (fun v34 ds h =>
  K .norm (T.set tm 62 v34) ds h))))))
  (ite2 (isB true v23) (call 17 [v29, undef] h (fun v h => (fun v31 ds h =>
  gd (isB false v14) (fun k => kO (pickV v23 v31 (.bool false)) ds h k) ds h (fun v32 ds h =>
  gd (isB true v4) (fun k => kO (pickV v14 (.bool true) v32) ds h k) ds h (fun v33 ds h =>
  kO (pickV v4 v33 (.bool false)) ds h (fun v34 ds h =>
  K .norm (T.set tm 62 v34) ds h)))) v ds h))
  (gd (isB false v14) (fun k => kO (pickV v23 undef (.bool false)) ds h k) ds h (fun v32 ds h =>
  gd (isB true v4) (fun k => kO (pickV v14 (.bool true) v32) ds h k) ds h (fun v33 ds h =>
  kO (pickV v4 v33 (.bool false)) ds h (fun v34 ds h =>
  K .norm (T.set tm 62 v34) ds h)))))))
  (ite2 (isB true v23) (kO (loadAgg 2 h (tg tm 4)) ds h (fun v30 ds h =>
  ite2 (isB true v23) (call 17 [undef, v30] h (fun v h => (fun v31 ds h =>
  gd (isB false v14) (fun k => kO (pickV v23 v31 (.bool false)) ds h k) ds h (fun v32 ds h =>
  gd (isB true v4) (fun k => kO (pickV v14 (.bool true) v32) ds h k) ds h (fun v33 ds h =>
  kO (pickV v4 v33 (.bool false)) ds h (fun v34 ds h =>
  K .norm (T.set tm 62 v34) ds h)))) v ds h))
  (gd (isB false v14) (fun k => kO (pickV v23 undef (.bool false)) ds h k) ds h (fun v32 ds h =>
  gd (isB true v4) (fun k => kO (pickV v14 (.bool true) v32) ds h k) ds h (fun v33 ds h =>
  kO (pickV v4 v33 (.bool false)) ds h (fun v34 ds h =>
  K .norm (T.set tm 62 v34) ds h))))))
  (ite2 (isB true v23) (call 17 [undef, undef] h (fun v h => (fun v31 ds h =>
  gd (isB false v14) (fun k => kO (pickV v23 v31 (.bool false)) ds h k) ds h (fun v32 ds h =>
  gd (isB true v4) (fun k => kO (pickV v14 (.bool true) v32) ds h k) ds h (fun v33 ds h =>
  kO (pickV v4 v33 (.bool false)) ds h (fun v34 ds h =>
  K .norm (T.set tm 62 v34) ds h)))) v ds h))
  (gd (isB false v14) (fun k => kO (pickV v23 undef (.bool false)) ds h k) ds h (fun v32 ds h =>
  gd (isB true v4) (fun k => kO (pickV v14 (.bool true) v32) ds h k) ds h (fun v33 ds h =>
  kO (pickV v4 v33 (.bool false)) ds h (fun v34 ds h =>
  K .norm (T.set tm 62 v34) ds h)))))))))))
  (gd (isB true v23) (fun k => kO (some (tg tm 8)) ds h k) ds h (fun v26 ds h =>
  gd (isB true v23) (fun k => kO (indexSl 3 undef v26) ds h k) ds h (fun v27 ds h =>
  gd (isB true v23) (fun k => kO (fieldPtr 0 v27) ds h k) ds h (fun v28 ds h =>
  ite2 (isB true v23) (kO (loadAgg 2 h v28) ds h (fun v29 ds h =>
  ite2 (isB true v23) (kO (loadAgg 2 h (tg tm 4)) ds h (fun v30 ds h =>
  ite2 (isB true v23) (call 17 [v29, v30] h (fun v h => (fun v31 ds h =>
  gd (isB false v14) (fun k => kO (pickV v23 v31 (.bool false)) ds h k) ds h (fun v32 ds h =>
  gd (isB true v4) (fun k => kO (pickV v14 (.bool true) v32) ds h k) ds h (fun v33 ds h =>
  kO (pickV v4 v33 (.bool false)) ds h (fun v34 ds h =>
  K .norm (T.set tm 62 v34) ds h)))) v ds h))
  (gd (isB false v14) (fun k => kO (pickV v23 undef (.bool false)) ds h k) ds h (fun v32 ds h =>
  gd (isB true v4) (fun k => kO (pickV v14 (.bool true) v32) ds h k) ds h (fun v33 ds h =>
  kO (pickV v4 v33 (.bool false)) ds h (fun v34 ds h =>
  K .norm (T.set tm 62 v34) ds h))))))
  (ite2 (isB true v23) (call 17 [v29, undef] h (fun v h => (fun v31 ds h =>
  gd (isB false v14) (fun k => kO (pickV v23 v31 (.bool false)) ds h k) ds h (fun v32 ds h =>
  gd (isB true v4) (fun k => kO (pickV v14 (.bool true) v32) ds h k) ds h (fun v33 ds h =>
  kO (pickV v4 v33 (.bool false)) ds h (fun v34 ds h =>
  K .norm (T.set tm 62 v34) ds h)))) v ds h))
  (gd (isB false v14) (fun k => kO (pickV v23 undef (.bool false)) ds h k) ds h (fun v32 ds h =>
  gd (isB true v4) (fun k => kO (pickV v14 (.bool true) v32) ds h k) ds h (fun v33 ds h =>
  kO (pickV v4 v33 (.bool false)) ds h (fun v34 ds h =>
  K .norm (T.set tm 62 v34) ds h)))))))
  (ite2 (isB true v23) (kO (loadAgg 2 h (tg tm 4)) ds h (fun v30 ds h =>
  ite2 (isB true v23) (call 17 [undef, v30] h (fun v h => (fun v31 ds h =>
  gd (isB false v14) (fun k => kO (pickV v23 v31 (.bool false)) ds h k) ds h (fun v32 ds h =>
  gd (isB true v4) (fun k => kO (pickV v14 (.bool true) v32) ds h k) ds h (fun v33 ds h =>
  kO (pickV v4 v33 (.bool false)) ds h (fun v34 ds h =>
  K .norm (T.set tm 62 v34) ds h)))) v ds h))
  (gd (isB false v14) (fun k => kO (pickV v23 undef (.bool false)) ds h k) ds h (fun v32 ds h =>
  gd (isB true v4) (fun k => kO (pickV v14 (.bool true) v32) ds h k) ds h (fun v33 ds h =>
  kO (pickV v4 v33 (.bool false)) ds h (fun v34 ds h =>
  K .norm (T.set tm 62 v34) ds h))))))
  (ite2 (isB true v23) (call 17 [undef, undef] h (fun v h => (fun v31 ds h =>
  gd (isB false v14) (fun k => kO (pickV v23 v31 (.bool false)) ds h k) ds h (fun v32 ds h =>
  gd (isB true v4) (fun k => kO (pickV v14 (.bool true) v32) ds h k) ds h (fun v33 ds h =>
  kO (pickV v4 v33 (.bool false)) ds h (fun v34 ds h =>
  K .norm (T.set tm 62 v34) ds h)))) v ds h))
  (gd (isB false v14) (fun k => kO (pickV v23 undef (.bool false)) ds h k) ds h (fun v32 ds h =>
  gd (isB true v4) (fun k => kO (pickV v14 (.bool true) v32) ds h k) ds h (fun v33 ds h =>
  kO (pickV v4 v33 (.bool false)) ds h (fun v34 ds h =>
  K .norm (T.set tm 62 v34) ds h))))))))))))))))))))
  (gd (isB false v14) (fun k => kO (some (tg tm 8)) ds h k) ds h (fun v17 ds h =>
  gd (isB false v14) (fun k => kO (indexSl 3 undef v17) ds h k) ds h (fun v18 ds h =>
  gd (isB false v14) (fun k => kO (fieldPtr 2 v18) ds h k) ds h (fun v19 ds h =>
  ite2 (isB false v14) (kO (loadOne h v19) ds h (fun v20 ds h =>
  gd (isB false v14) (fun k => kO (some (tg tm 2)) ds h k) ds h (fun v21 ds h =>
  gd (isB false v14) (fun k => kO (binV Try.prog .eql 3 false v20 v21) ds h k) ds h (fun v22 ds h =>
  gd (isB false v14) (fun k => kO (some v22) ds h k) ds h (fun v23 ds h =>
  gd (isB true v23) (fun k => kO (fieldPtr 1 (tg tm 3)) ds h k) ds h (fun v24 ds h =>
  ite2 (isB true v23) (kO (loadOne h v24) ds h (fun v25 ds h =>
  gd (isB true v23) (fun k => kO (some (tg tm 8)) ds h k) ds h (fun v26 ds h =>
  gd (isB true v23) (fun k => kO (indexSl 3 v25 v26) ds h k) ds h (fun v27 ds h =>
  gd (isB true v23) (fun k => kO (fieldPtr 0 v27) ds h k) ds h (fun v28 ds h =>
  ite2 (isB true v23) (kO (loadAgg 2 h v28) ds h (fun v29 ds h =>
  ite2 (isB true v23) (kO (loadAgg 2 h (tg tm 4)) ds h (fun v30 ds h =>
  ite2 (isB true v23) (call 17 [v29, v30] h (fun v h => (fun v31 ds h =>
  gd (isB false v14) (fun k => kO (pickV v23 v31 (.bool false)) ds h k) ds h (fun v32 ds h =>
  gd (isB true v4) (fun k => kO (pickV v14 (.bool true) v32) ds h k) ds h (fun v33 ds h =>
  kO (pickV v4 v33 (.bool false)) ds h (fun v34 ds h =>
  K .norm (T.set tm 62 v34) ds h)))) v ds h))
  (gd (isB false v14) (fun k => kO (pickV v23 undef (.bool false)) ds h k) ds h (fun v32 ds h =>
  gd (isB true v4) (fun k => kO (pickV v14 (.bool true) v32) ds h k) ds h (fun v33 ds h =>
  kO (pickV v4 v33 (.bool false)) ds h (fun v34 ds h =>
  K .norm (T.set tm 62 v34) ds h))))))
  (ite2 (isB true v23) (call 17 [v29, undef] h (fun v h => (fun v31 ds h =>
  gd (isB false v14) (fun k => kO (pickV v23 v31 (.bool false)) ds h k) ds h (fun v32 ds h =>
  gd (isB true v4) (fun k => kO (pickV v14 (.bool true) v32) ds h k) ds h (fun v33 ds h =>
  kO (pickV v4 v33 (.bool false)) ds h (fun v34 ds h =>
  K .norm (T.set tm 62 v34) ds h)))) v ds h))
  (gd (isB false v14) (fun k => kO (pickV v23 undef (.bool false)) ds h k) ds h (fun v32 ds h =>
  gd (isB true v4) (fun k => kO (pickV v14 (.bool true) v32) ds h k) ds h (fun v33 ds h =>
  kO (pickV v4 v33 (.bool false)) ds h (fun v34 ds h =>
  K .norm (T.set tm 62 v34) ds h)))))))
  (ite2 (isB true v23) (kO (loadAgg 2 h (tg tm 4)) ds h (fun v30 ds h =>
  ite2 (isB true v23) (call 17 [undef, v30] h (fun v h => (fun v31 ds h =>
  gd (isB false v14) (fun k => kO (pickV v23 v31 (.bool false)) ds h k) ds h (fun v32 ds h =>
  gd (isB true v4) (fun k => kO (pickV v14 (.bool true) v32) ds h k) ds h (fun v33 ds h =>
  kO (pickV v4 v33 (.bool false)) ds h (fun v34 ds h =>
  K .norm (T.set tm 62 v34) ds h)))) v ds h))
  (gd (isB false v14) (fun k => kO (pickV v23 undef (.bool false)) ds h k) ds h (fun v32 ds h =>
  gd (isB true v4) (fun k => kO (pickV v14 (.bool true) v32) ds h k) ds h (fun v33 ds h =>
  kO (pickV v4 v33 (.bool false)) ds h (fun v34 ds h =>
  K .norm (T.set tm 62 v34) ds h))))))
  (ite2 (isB true v23) (call 17 [undef, undef] h (fun v h => (fun v31 ds h =>
  gd (isB false v14) (fun k => kO (pickV v23 v31 (.bool false)) ds h k) ds h (fun v32 ds h =>
  gd (isB true v4) (fun k => kO (pickV v14 (.bool true) v32) ds h k) ds h (fun v33 ds h =>
  kO (pickV v4 v33 (.bool false)) ds h (fun v34 ds h =>
  K .norm (T.set tm 62 v34) ds h)))) v ds h))
  (gd (isB false v14) (fun k => kO (pickV v23 undef (.bool false)) ds h k) ds h (fun v32 ds h =>
  gd (isB true v4) (fun k => kO (pickV v14 (.bool true) v32) ds h k) ds h (fun v33 ds h =>
  kO (pickV v4 v33 (.bool false)) ds h (fun v34 ds h =>
  K .norm (T.set tm 62 v34) ds h)))))))))))
  (gd (isB true v23) (fun k => kO (some (tg tm 8)) ds h k) ds h (fun v26 ds h =>
  gd (isB true v23) (fun k => kO (indexSl 3 undef v26) ds h k) ds h (fun v27 ds h =>
  gd (isB true v23) (fun k => kO (fieldPtr 0 v27) ds h k) ds h (fun v28 ds h =>
  ite2 (isB true v23) (kO (loadAgg 2 h v28) ds h (fun v29 ds h =>
  ite2 (isB true v23) (kO (loadAgg 2 h (tg tm 4)) ds h (fun v30 ds h =>
  ite2 (isB true v23) (call 17 [v29, v30] h (fun v h => (fun v31 ds h =>
  gd (isB false v14) (fun k => kO (pickV v23 v31 (.bool false)) ds h k) ds h (fun v32 ds h =>
  gd (isB true v4) (fun k => kO (pickV v14 (.bool true) v32) ds h k) ds h (fun v33 ds h =>
  kO (pickV v4 v33 (.bool false)) ds h (fun v34 ds h =>
  K .norm (T.set tm 62 v34) ds h)))) v ds h))
  (gd (isB false v14) (fun k => kO (pickV v23 undef (.bool false)) ds h k) ds h (fun v32 ds h =>
  gd (isB true v4) (fun k => kO (pickV v14 (.bool true) v32) ds h k) ds h (fun v33 ds h =>
  kO (pickV v4 v33 (.bool false)) ds h (fun v34 ds h =>
  K .norm (T.set tm 62 v34) ds h))))))
  (ite2 (isB true v23) (call 17 [v29, undef] h (fun v h => (fun v31 ds h =>
  gd (isB false v14) (fun k => kO (pickV v23 v31 (.bool false)) ds h k) ds h (fun v32 ds h =>
  gd (isB true v4) (fun k => kO (pickV v14 (.bool true) v32) ds h k) ds h (fun v33 ds h =>
  kO (pickV v4 v33 (.bool false)) ds h (fun v34 ds h =>
  K .norm (T.set tm 62 v34) ds h)))) v ds h))
  (gd (isB false v14) (fun k => kO (pickV v23 undef (.bool false)) ds h k) ds h (fun v32 ds h =>
  gd (isB true v4) (fun k => kO (pickV v14 (.bool true) v32) ds h k) ds h (fun v33 ds h =>
  kO (pickV v4 v33 (.bool false)) ds h (fun v34 ds h =>
  K .norm (T.set tm 62 v34) ds h)))))))
  (ite2 (isB true v23) (kO (loadAgg 2 h (tg tm 4)) ds h (fun v30 ds h =>
  ite2 (isB true v23) (call 17 [undef, v30] h (fun v h => (fun v31 ds h =>
  gd (isB false v14) (fun k => kO (pickV v23 v31 (.bool false)) ds h k) ds h (fun v32 ds h =>
  gd (isB true v4) (fun k => kO (pickV v14 (.bool true) v32) ds h k) ds h (fun v33 ds h =>
  kO (pickV v4 v33 (.bool false)) ds h (fun v34 ds h =>
  K .norm (T.set tm 62 v34) ds h)))) v ds h))
  (gd (isB false v14) (fun k => kO (pickV v23 undef (.bool false)) ds h k) ds h (fun v32 ds h =>
  gd (isB true v4) (fun k => kO (pickV v14 (.bool true) v32) ds h k) ds h (fun v33 ds h =>
  kO (pickV v4 v33 (.bool false)) ds h (fun v34 ds h =>
  K .norm (T.set tm 62 v34) ds h))))))
  (ite2 (isB true v23) (call 17 [undef, undef] h (fun v h => (fun v31 ds h =>
  gd (isB false v14) (fun k => kO (pickV v23 v31 (.bool false)) ds h k) ds h (fun v32 ds h =>
  gd (isB true v4) (fun k => kO (pickV v14 (.bool true) v32) ds h k) ds h (fun v33 ds h =>
  kO (pickV v4 v33 (.bool false)) ds h (fun v34 ds h =>
  K .norm (T.set tm 62 v34) ds h)))) v ds h))
  (gd (isB false v14) (fun k => kO (pickV v23 undef (.bool false)) ds h k) ds h (fun v32 ds h =>
  gd (isB true v4) (fun k => kO (pickV v14 (.bool true) v32) ds h k) ds h (fun v33 ds h =>
  kO (pickV v4 v33 (.bool false)) ds h (fun v34 ds h =>
  K .norm (T.set tm 62 v34) ds h))))))))))))))))
  (gd (isB false v14) (fun k => kO (some (tg tm 2)) ds h k) ds h (fun v21 ds h =>
  gd (isB false v14) (fun k => kO (binV Try.prog .eql 3 false undef v21) ds h k) ds h (fun v22 ds h =>
  gd (isB false v14) (fun k => kO (some v22) ds h k) ds h (fun v23 ds h =>
  gd (isB true v23) (fun k => kO (fieldPtr 1 (tg tm 3)) ds h k) ds h (fun v24 ds h =>
  ite2 (isB true v23) (kO (loadOne h v24) ds h (fun v25 ds h =>
  gd (isB true v23) (fun k => kO (some (tg tm 8)) ds h k) ds h (fun v26 ds h =>
  gd (isB true v23) (fun k => kO (indexSl 3 v25 v26) ds h k) ds h (fun v27 ds h =>
  gd (isB true v23) (fun k => kO (fieldPtr 0 v27) ds h k) ds h (fun v28 ds h =>
  ite2 (isB true v23) (kO (loadAgg 2 h v28) ds h (fun v29 ds h =>
  ite2 (isB true v23) (kO (loadAgg 2 h (tg tm 4)) ds h (fun v30 ds h =>
  ite2 (isB true v23) (call 17 [v29, v30] h (fun v h => (fun v31 ds h =>
  gd (isB false v14) (fun k => kO (pickV v23 v31 (.bool false)) ds h k) ds h (fun v32 ds h =>
  gd (isB true v4) (fun k => kO (pickV v14 (.bool true) v32) ds h k) ds h (fun v33 ds h =>
  kO (pickV v4 v33 (.bool false)) ds h (fun v34 ds h =>
  K .norm (T.set tm 62 v34) ds h)))) v ds h))
  (gd (isB false v14) (fun k => kO (pickV v23 undef (.bool false)) ds h k) ds h (fun v32 ds h =>
  gd (isB true v4) (fun k => kO (pickV v14 (.bool true) v32) ds h k) ds h (fun v33 ds h =>
  kO (pickV v4 v33 (.bool false)) ds h (fun v34 ds h =>
  K .norm (T.set tm 62 v34) ds h))))))
  (ite2 (isB true v23) (call 17 [v29, undef] h (fun v h => (fun v31 ds h =>
  gd (isB false v14) (fun k => kO (pickV v23 v31 (.bool false)) ds h k) ds h (fun v32 ds h =>
  gd (isB true v4) (fun k => kO (pickV v14 (.bool true) v32) ds h k) ds h (fun v33 ds h =>
  kO (pickV v4 v33 (.bool false)) ds h (fun v34 ds h =>
  K .norm (T.set tm 62 v34) ds h)))) v ds h))
  (gd (isB false v14) (fun k => kO (pickV v23 undef (.bool false)) ds h k) ds h (fun v32 ds h =>
  gd (isB true v4) (fun k => kO (pickV v14 (.bool true) v32) ds h k) ds h (fun v33 ds h =>
  kO (pickV v4 v33 (.bool false)) ds h (fun v34 ds h =>
  K .norm (T.set tm 62 v34) ds h)))))))
  (ite2 (isB true v23) (kO (loadAgg 2 h (tg tm 4)) ds h (fun v30 ds h =>
  ite2 (isB true v23) (call 17 [undef, v30] h (fun v h => (fun v31 ds h =>
  gd (isB false v14) (fun k => kO (pickV v23 v31 (.bool false)) ds h k) ds h (fun v32 ds h =>
  gd (isB true v4) (fun k => kO (pickV v14 (.bool true) v32) ds h k) ds h (fun v33 ds h =>
  kO (pickV v4 v33 (.bool false)) ds h (fun v34 ds h =>
  K .norm (T.set tm 62 v34) ds h)))) v ds h))
  (gd (isB false v14) (fun k => kO (pickV v23 undef (.bool false)) ds h k) ds h (fun v32 ds h =>
  gd (isB true v4) (fun k => kO (pickV v14 (.bool true) v32) ds h k) ds h (fun v33 ds h =>
  kO (pickV v4 v33 (.bool false)) ds h (fun v34 ds h =>
  K .norm (T.set tm 62 v34) ds h))))))
  (ite2 (isB true v23) (call 17 [undef, undef] h (fun v h => (fun v31 ds h =>
  gd (isB false v14) (fun k => kO (pickV v23 v31 (.bool false)) ds h k) ds h (fun v32 ds h =>
  gd (isB true v4) (fun k => kO (pickV v14 (.bool true) v32) ds h k) ds h (fun v33 ds h =>
  kO (pickV v4 v33 (.bool false)) ds h (fun v34 ds h =>
  K .norm (T.set tm 62 v34) ds h)))) v ds h))
  (gd (isB false v14) (fun k => kO (pickV v23 undef (.bool false)) ds h k) ds h (fun v32 ds h =>
  gd (isB true v4) (fun k => kO (pickV v14 (.bool true) v32) ds h k) ds h (fun v33 ds h =>
  kO (pickV v4 v33 (.bool false)) ds h (fun v34 ds h =>
  K .norm (T.set tm 62 v34) ds h)))))))))))
  (gd (isB true v23) (fun k => kO (some (tg tm 8)) ds h k) ds h (fun v26 ds h =>
  gd (isB true v23) (fun k => kO (indexSl 3 undef v26) ds h k) ds h (fun v27 ds h =>
  gd (isB true v23) (fun k => kO (fieldPtr 0 v27) ds h k) ds h (fun v28 ds h =>
  ite2 (isB true v23) (kO (loadAgg 2 h v28) ds h (fun v29 ds h =>
  ite2 (isB true v23) (kO (loadAgg 2 h (tg tm 4)) ds h (fun v30 ds h =>
  ite2 (isB true v23) (call 17 [v29, v30] h (fun v h => (fun v31 ds h =>
  gd (isB false v14) (fun k => kO (pickV v23 v31 (.bool false)) ds h k) ds h (fun v32 ds h =>
  gd (isB true v4) (fun k => kO (pickV v14 (.bool true) v32) ds h k) ds h (fun v33 ds h =>
  kO (pickV v4 v33 (.bool false)) ds h (fun v34 ds h =>
  K .norm (T.set tm 62 v34) ds h)))) v ds h))
  (gd (isB false v14) (fun k => kO (pickV v23 undef (.bool false)) ds h k) ds h (fun v32 ds h =>
  gd (isB true v4) (fun k => kO (pickV v14 (.bool true) v32) ds h k) ds h (fun v33 ds h =>
  kO (pickV v4 v33 (.bool false)) ds h (fun v34 ds h =>
  K .norm (T.set tm 62 v34) ds h))))))
  (ite2 (isB true v23) (call 17 [v29, undef] h (fun v h => (fun v31 ds h =>
  gd (isB false v14) (fun k => kO (pickV v23 v31 (.bool false)) ds h k) ds h (fun v32 ds h =>
  gd (isB true v4) (fun k => kO (pickV v14 (.bool true) v32) ds h k) ds h (fun v33 ds h =>
  kO (pickV v4 v33 (.bool false)) ds h (fun v34 ds h =>
  K .norm (T.set tm 62 v34) ds h)))) v ds h))
  (gd (isB false v14) (fun k => kO (pickV v23 undef (.bool false)) ds h k) ds h (fun v32 ds h =>
  gd (isB true v4) (fun k => kO (pickV v14 (.bool true) v32) ds h k) ds h (fun v33 ds h =>
  kO (pickV v4 v33 (.bool false)) ds h (fun v34 ds h =>
  K .norm (T.set tm 62 v34) ds h)))))))
  (ite2 (isB true v23) (kO (loadAgg 2 h (tg tm 4)) ds h (fun v30 ds h =>
  ite2 (isB true v23) (call 17 [undef, v30] h (fun v h => (fun v31 ds h =>
  gd (isB false v14) (fun k => kO (pickV v23 v31 (.bool false)) ds h k) ds h (fun v32 ds h =>
  gd (isB true v4) (fun k => kO (pickV v14 (.bool true) v32) ds h k) ds h (fun v33 ds h =>
  kO (pickV v4 v33 (.bool false)) ds h (fun v34 ds h =>
  K .norm (T.set tm 62 v34) ds h)))) v ds h))
  (gd (isB false v14) (fun k => kO (pickV v23 undef (.bool false)) ds h k) ds h (fun v32 ds h =>
  gd (isB true v4) (fun k => kO (pickV v14 (.bool true) v32) ds h k) ds h (fun v33 ds h =>
  kO (pickV v4 v33 (.bool false)) ds h (fun v34 ds h =>
  K .norm (T.set tm 62 v34) ds h))))))
  (ite2 (isB true v23) (call 17 [undef, undef] h (fun v h => (fun v31 ds h =>
  gd (isB false v14) (fun k => kO (pickV v23 v31 (.bool false)) ds h k) ds h (fun v32 ds h =>
  gd (isB true v4) (fun k => kO (pickV v14 (.bool true) v32) ds h k) ds h (fun v33 ds h =>
  kO (pickV v4 v33 (.bool false)) ds h (fun v34 ds h =>
  K .norm (T.set tm 62 v34) ds h)))) v ds h))
  (gd (isB false v14) (fun k => kO (pickV v23 undef (.bool false)) ds h k) ds h (fun v32 ds h =>
  gd (isB true v4) (fun k => kO (pickV v14 (.bool true) v32) ds h k) ds h (fun v33 ds h =>
  kO (pickV v4 v33 (.bool false)) ds h (fun v34 ds h =>
  K .norm (T.set tm 62 v34) ds h)))))))))))))))))))))))))))))
  (gd (isB true v4) (fun k => kO (some (tg tm 8)) ds h k) ds h (fun v8 ds h =>
  gd (isB true v4) (fun k => kO (indexSl 3 undef v8) ds h k) ds h (fun v9 ds h =>
  gd (isB true v4) (fun k => kO (fieldPtr 2 v9) ds h k) ds h (fun v10 ds h =>
  ite2 (isB true v4) (kO (loadOne h v10) ds h (fun v11 ds h =>
  gd (isB true v4) (fun k => kO (some (tg tm 2)) ds h k) ds h (fun v12 ds h =>
  gd (isB true v4) (fun k => kO (binV Try.prog .lss 3 false v11 v12) ds h k) ds h (fun v13 ds h =>
  gd (isB true v4) (fun k => kO (some v13) ds h k) ds h (fun v14 ds h =>
  gd (isB false v14) (fun k => kO (fieldPtr 1 (tg tm 3)) ds h k) ds h (fun v15 ds h =>
  ite2 (isB false v14) (kO (loadOne h v15) ds h (fun v16 ds h =>
  gd (isB false v14) (fun k => kO (some (tg tm 8)) ds h k) ds h (fun v17 ds h =>
  gd (isB false v14) (fun k => kO (indexSl 3 v16 v17) ds h k) ds h (fun v18 ds h =>
  gd (isB false v14) (fun k => kO (fieldPtr 2 v18) ds h k) ds h (fun v19 ds h =>
  ite2 (isB false v14) (kO (loadOne h v19) ds h (fun v20 ds h =>
  gd (isB false v14) (fun k => kO (some (tg tm 2)) ds h k) ds h (fun v21 ds h =>
  gd (isB false v14) (fun k => kO (binV Try.prog .eql 3 false v20 v21) ds h k) ds h (fun v22 ds h =>
  gd (isB false v14) (fun k => kO (some v22) ds h k) ds h (fun v23 ds h =>
  gd (isB true v23) (fun k => kO (fieldPtr 1 (tg tm 3)) ds h k) ds h (fun v24 ds h =>
  ite2 (isB true v23) (kO (loadOne h v24) ds h (fun v25 ds h =>
  gd (isB true v23) (fun k => kO (some (tg tm 8)) ds h k) ds h (fun v26 ds h =>
  gd (isB true v23) (fun k => kO (indexSl 3 v25 v26) ds h k) ds h (fun v27 ds h =>
  gd (isB true v23) (fun k => kO (fieldPtr 0 v27) ds h k) ds h (fun v28 ds h =>
  ite2 (isB true v23) (kO (loadAgg 2 h v28) ds h (fun v29 ds h =>
  ite2 (isB true v23) (kO (loadAgg 2 h (tg tm 4)) ds h (fun v30 ds h =>
  ite2 (isB true v23) (call 17 [v29, v30] h (fun v h => (fun v31 ds h =>
  gd (isB false v14) (fun k => kO (pickV v23 v31 (.bool false)) ds h k) ds h (fun v32 ds h =>
  gd (isB true v4) (fun k => kO (pickV v14 (.bool true) v32) ds h k) ds h (fun v33 ds h =>
  kO (pickV v4 v33 (.bool false)) ds h (fun v34 ds h =>
  K .norm (T.set tm 62 v34) ds h)))) v ds h))
  (gd (isB false v14) (fun k => kO (pickV v23 undef (.bool false)) ds h k) ds h (fun v32 ds h =>
  gd (isB true v4) (fun k => kO (pickV v14 (.bool true) v32) ds h k) ds h (fun v33 ds h =>
  kO (pickV v4 v33 (.bool false)) ds h (fun v34 ds h =>
  K .norm (T.set tm 62 v34) ds h))))))
  (ite2 (isB true v23) (call 17 [v29, undef] h (fun v h => (fun v31 ds h =>
  gd (isB false v14) (fun k => kO (pickV v23 v31 (.bool false)) ds h k) ds h (fun v32 ds h =>
  gd (isB true v4) (fun k => kO (pickV v14 (.bool true) v32) ds h k) ds h (fun v33 ds h =>
  kO (pickV v4 v33 (.bool false)) ds h (fun v34 ds h =>
  K .norm (T.set tm 62 v34) ds h)))) v ds h))
  (gd (isB false v14) (fun k => kO (pickV v23 undef (.bool false)) ds h k) ds h (fun v32 ds h =>
  gd (isB true v4) (fun k => kO (pickV v14 (.bool true) v32) ds h k) ds h (fun v33 ds h =>
  kO (pickV v4 v33 (.bool false)) ds h (fun v34 ds h =>
  K .norm (T.set tm 62 v34) ds h)))))))
  (ite2 (isB true v23) (kO (loadAgg 2 h (tg tm 4)) ds h (fun v30 ds h =>
  ite2 (isB true v23) (call 17 [undef, v30] h (fun v h => (fun v31 ds h =>
  gd (isB false v14) (fun k => kO (pickV v23 v31 (.bool false)) ds h k) ds h (fun v32 ds h =>
  gd (isB true v4) (fun k => kO (pickV v14 (.bool true) v32) ds h k) ds h (fun v33 ds h =>
  kO (pickV v4 v33 (.bool false)) ds h (fun v34 ds h =>
  K .norm (T.set tm 62 v34) ds h)))) v ds h))
  (gd (isB false v14) (fun k => kO (pickV v23 undef (.bool false)) ds h k) ds h (fun v32 ds h =>
  gd (isB true v4) (fun k => kO (pickV v14 (.bool true) v32) ds h k) ds h (fun v33 ds h =>
  kO (pickV v4 v33 (.bool false)) ds h (fun v34 ds h =>
  K .norm (T.set tm 62 v34) ds h))))))
  (ite2 (isB true v23) (call 17 [undef, undef] h (fun v h => (fun v31 ds h =>
  gd (isB false v14) (fun k => kO (pickV v23 v31 (.bool false)) ds h k) ds h (fun v32 ds h =>
  gd (isB true v4) (fun k => kO (pickV v14 (.bool true) v32) ds h k) ds h (fun v33 ds h =>
  kO (pickV v4 v33 (.bool false)) ds h (fun v34 ds h =>
  K .norm (T.set tm 62 v34) ds h)))) v ds h))
  (gd (isB false v14) (fun k => kO (pickV v23 undef (.bool false)) ds h k) ds h (fun v32 ds h =>
  gd (isB true v4) (fun k => kO (pickV v14 (.bool true) v32) ds h k) ds h (fun v33 ds h =>
  kO (pickV v4 v33 (.bool false)) ds h (fun v34 ds h =>
  K .norm (T.set tm 62 v34) ds h)))))))))))
  (gd (isB true v23) (fun k => kO (some (tg tm 8)) ds h k) ds h (fun v26 ds h =>
  gd (isB true v23) (fun k => kO (indexSl 3 undef v26) ds h k) ds h (fun v27 ds h =>
  gd (isB true v23) (fun k => kO (fieldPtr 0 v27) ds h k) ds h (fun v28 ds h =>
  ite2 (isB true v23) (kO (loadAgg 2 h v28) ds h (fun v29 ds h =>
  ite2 (isB true v23) (kO (loadAgg 2 h (tg tm 4)) ds h (fun v30 ds h =>
  ite2 (isB true v23) (call 17 [v29, v30] h (fun v h => (fun v31 ds h =>
  gd (isB false v14) (fun k => kO (pickV v23 v31 (.bool false)) ds h k) ds h (fun v32 ds h =>
  gd (isB true v4) (fun k => kO (pickV v14 (.bool true) v32) ds h k) ds h (fun v33 ds h =>
  kO (pickV v4 v33 (.bool false)) ds h (fun v34 ds h =>
  K .norm (T.set tm 62 v34) ds h)))) v ds h))
  (gd (isB false v14) (fun k => kO (pickV v23 undef (.bool false)) ds h k) ds h (fun v32 ds h =>
  gd (isB true v4) (fun k => kO (pickV v14 (.bool true) v32) ds h k) ds h (fun v33 ds h =>
  kO (pickV v4 v33 (.bool false)) ds h (fun v34 ds h =>
  K .norm (T.set tm 62 v34) ds h))))))
  (ite2 (isB true v23) (call 17 [v29, undef] h (fun v h => (fun v31 ds h =>
  gd (isB false v14) (fun k => kO (pickV v23 v31 (.bool false)) ds h k) ds h (fun v32 ds h =>
  gd (isB true v4) (fun k => kO (pickV v14 (.bool true) v32) ds h k) ds h (fun v33 ds h =>
  kO (pickV v4 v33 (.bool false)) ds h (fun v34 ds h =>
  K .norm (T.set tm 62 v34) ds h)))) v ds h))
  (gd (isB false v14) (fun k => kO (pickV v23 undef (.bool false)) ds h k) ds h (fun v32 ds h =>
  gd (isB true v4) (fun k => kO (pickV v14 (.bool true) v32) ds h k) ds h (fun v33 ds h =>
  kO (pickV v4 v33 (.bool false)) ds h (fun v34 ds h =>
  K .norm (T.set tm 62 v34) ds h)))))))
  (ite2 (isB true v23) (kO (loadAgg 2 h (tg tm 4)) ds h (fun v30 ds h =>
  ite2 (isB true v23) (call 17 [undef, v30] h (fun v h => (fun v31 ds h =>
  gd (isB false v14) (fun k => kO (pickV v23 v31 (.bool false)) ds h k) ds h (fun v32 ds h =>
  gd (isB true v4) (fun k => kO (pickV v14 (.bool true) v32) ds h k) ds h (fun v33 ds h =>
  kO (pickV v4 v33 (.bool false)) ds h (fun v34 ds h =>
  K .norm (T.set tm 62 v34) ds h)))) v ds h))
  (gd (isB false v14) (fun k => kO (pickV v23 undef (.bool false)) ds h k) ds h (fun v32 ds h =>
  gd (isB true v4) (fun k => kO (pickV v14 (.bool true) v32) ds h k) ds h (fun v33 ds h =>
  kO (pickV v4 v33 (.bool false)) ds h (fun v34 ds h =>
  K .norm (T.set tm 62 v34) ds h))))))
  (ite2 (isB true v23) (call 17 [undef, undef] h (fun v h => (fun v31 ds h =>
  gd (isB false v14) (fun k => kO (pickV v23 v31 (.bool false)) ds h k) ds h (fun v32 ds h =>
  gd (isB true v4) (fun k => kO (pickV v14 (.bool true) v32) ds h k) ds h (fun v33 ds h =>
  kO (pickV v4 v33 (.bool false)) ds h (fun v34 ds h =>
  K .norm (T.set tm 62 v34) ds h)))) v ds h))
  (gd (isB false v14) (fun k => kO (pickV v23 undef (.bool false)) ds h k) ds h (fun v32 ds h =>
  gd (isB true v4) (fun k => kO (pickV v14 (.bool true) v32) ds h k) ds h (fun v33 ds h =>
  kO (pickV v4 v33 (.bool false)) ds h (fun v34 ds h =>
  K .norm (T.set tm 62 v34) ds h))))))))))))))))
  (gd (isB false v14) (fun k => kO (some (tg tm 2)) ds h k) ds h (fun v21 ds h =>
  gd (isB false v14) (fun k => kO (binV Try.prog .eql 3 false undef v21) ds h k) ds h (fun v22 ds h =>
  gd (isB false v14) (fun k => kO (some v22) ds h k) ds h (fun v23 ds h =>
  gd (isB true v23) (fun k => kO (fieldPtr 1 (tg tm 3)) ds h k) ds h (fun v24 ds h =>
  ite2 (isB true v23) (kO (loadOne h v24) ds h (fun v25 ds h =>
  gd (isB true v23) (fun k => kO (some (tg tm 8)) ds h k) ds h (fun v26 ds h =>
  gd (isB true v23) (fun k => kO (indexSl 3 v25 v26) ds h k) ds h (fun v27 ds h =>
  gd (isB true v23) (fun k => kO (fieldPtr 0 v27) ds h k) ds h (fun v28 ds h =>
  ite2 (isB true v23) (kO (loadAgg 2 h v28) ds h (fun v29 ds h =>
  ite2 (isB true v23) (kO (loadAgg 2 h (tg tm 4)) ds h (fun v30 ds h =>
  ite2 (isB true v23) (call 17 [v29, v30] h (fun v h => (fun v31 ds h =>
  gd (isB false v14) (fun k => kO (pickV v23 v31 (.bool false)) ds h k) ds h (fun v32 ds h =>
  gd (isB true v4) (fun k => kO (pickV v14 (.bool true) v32) ds h k) ds h (fun v33 ds h =>
  kO (pickV v4 v33 (.bool false)) ds h (fun v34 ds h =>
  K .norm (T.set tm 62 v34) ds h)))) v ds h))
  (gd (isB false v14) (fun k => kO (pickV v23 undef (.bool false)) ds h k) ds h (fun v32 ds h =>
  gd (isB true v4) (fun k => kO (pickV v14 (.bool true) v32) ds h k) ds h (fun v33 ds h =>
  kO (pickV v4 v33 (.bool false)) ds h (fun v34 ds h =>
  K .norm (T.set tm 62 v34) ds h))))))
  (ite2 (isB true v23) (call 17 [v29, undef] h (fun v h => (fun v31 ds h =>
  gd (isB false v14) (fun k => kO (pickV v23 v31 (.bool false)) ds h k) ds h (fun v32 ds h =>
  gd (isB true v4) (fun k => kO (pickV v14 (.bool true) v32) ds h k) ds h (fun v33 ds h =>
  kO (pickV v4 v33 (.bool false)) ds h (fun v34 ds h =>
  K .norm (T.set tm 62 v34) ds h)))) v ds h))
  (gd (isB false v14) (fun k => kO (pickV v23 undef (.bool false)) ds h k) ds h (fun v32 ds h =>
  gd (isB true v4) (fun k => kO (pickV v14 (.bool true) v32) ds h k) ds h (fun v33 ds h =>
  kO (pickV v4 v33 (.bool false)) ds h (fun v34 ds h =>
  K .norm (T.set tm 62 v34) ds h)))))))
  (ite2 (isB true v23) (kO (loadAgg 2 h (tg tm 4)) ds h (fun v30 ds h =>
  ite2 (isB true v23) (call 17 [undef, v30] h (fun v h => (fun v31 ds h =>
  gd (isB false v14) (fun k => kO (pickV v23 v31 (.bool false)) ds h k) ds h (fun v32 ds h =>
  gd (isB true v4) (fun k => kO (pickV v14 (.bool true) v32) ds h k) ds h (fun v33 ds h =>
  kO (pickV v4 v33 (.bool false)) ds h (fun v34 ds h =>
  K .norm (T.set tm 62 v34) ds h)))) v ds h))
  (gd (isB false v14) (fun k => kO (pickV v23 undef (.bool false)) ds h k) ds h (fun v32 ds h =>
  gd (isB true v4) (fun k => kO (pickV v14 (.bool true) v32) ds h k) ds h (fun v33 ds h =>
  kO (pickV v4 v33 (.bool false)) ds h (fun v34 ds h =>
  K .norm (T.set tm 62 v34) ds h))))))
  (ite2 (isB true v23) (call 17 [undef, undef] h (fun v h => (fun v31 ds h =>
  gd (isB false v14) (fun k => kO (pickV v23 v31 (.bool false)) ds h k) ds h (fun v32 ds h =>
  gd (isB true v4) (fun k => kO (pickV v14 (.bool true) v32) ds h k) ds h (fun v33 ds h =>
  kO (pickV v4 v33 (.bool false)) ds h (fun v34 ds h =>
  K .norm (T.set tm 62 v34) ds h)))) v ds h))
  (gd (isB false v14) (fun k => kO (pickV v23 undef (.bool false)) ds h k) ds h (fun v32 ds h =>
  gd (isB true v4) (fun k => kO (pickV v14 (.bool true) v32) ds h k) ds h (fun v33 ds h =>
  kO (pickV v4 v33 (.bool false)) ds h (fun v34 ds h =>
  K .norm (T.set tm 62 v34) ds h)))))))))))
  (gd (isB true v23) (fun k => kO (some (tg tm 8)) ds h k) ds h (fun v26 ds h =>
  gd (isB true v23) (fun k => kO (indexSl 3 undef v26) ds h k) ds h (fun v27 ds h =>
  gd (isB true v23) (fun k => kO (fieldPtr 0 v27) ds h k) ds h (fun v28 ds h =>
  ite2 (isB true v23) (kO (loadAgg 2 h v28) ds h (fun v29 ds h =>
  ite2 (isB true v23) (kO (loadAgg 2 h (tg tm 4)) ds h (fun v30 ds h =>
  ite2 (isB true v23) (call 17 [v29, v30] h (fun v h => (fun v31 ds h =>
  gd (isB false v14) (fun k => kO (pickV v23 v31 (.bool false)) ds h k) ds h (fun v32 ds h =>
  gd (isB true v4) (fun k => kO (pickV v14 (.bool true) v32) ds h k) ds h (fun v33 ds h =>
  kO (pickV v4 v33 (.bool false)) ds h (fun v34 ds h =>
  K .norm (T.set tm 62 v34) ds h)))) v ds h))
  (gd (isB false v14) (fun k => kO (pickV v23 undef (.bool false)) ds h k) ds h (fun v32 ds h =>
  gd (isB true v4) (fun k => kO (pickV v14 (.bool true) v32) ds h k) ds h (fun v33 ds h =>
  kO (pickV v4 v33 (.bool false)) ds h (fun v34 ds h =>
  K .norm (T.set tm 62 v34) ds h))))))
  (ite2 (isB true v23) (call 17 [v29, undef] h (fun v h => (fun v31 ds h =>
  gd (isB false v14) (fun k => kO (pickV v23 v31 (.bool false)) ds h k) ds h (fun v32 ds h =>
  gd (isB true v4) (fun k => kO (pickV v14 (.bool true) v32) ds h k) ds h (fun v33 ds h =>
  kO (pickV v4 v33 (.bool false)) ds h (fun v34 ds h =>
  K .norm (T.set tm 62 v34) ds h)))) v ds h))
  (gd (isB false v14) (fun k => kO (pickV v23 undef (.bool false)) ds h k) ds h (fun v32 ds h =>
  gd (isB true v4) (fun k => kO (pickV v14 (.bool true) v32) ds h k) ds h (fun v33 ds h =>
  kO (pickV v4 v33 (.bool false)) ds h (fun v34 ds h =>
  K .norm (T.set tm 62 v34) ds h)))))))
  (ite2 (isB true v23) (kO (loadAgg 2 h (tg tm 4)) ds h (fun v30 ds h =>
  ite2 (isB true v23) (call 17 [undef, v30] h (fun v h => (fun v31 ds h =>
  gd (isB false v14) (fun k => kO (pickV v23 v31 (.bool false)) ds h k) ds h (fun v32 ds h =>
  gd (isB true v4) (fun k => kO (pickV v14 (.bool true) v32) ds h k) ds h (fun v33 ds h =>
  kO (pickV v4 v33 (.bool false)) ds h (fun v34 ds h =>
  K .norm (T.set tm 62 v34) ds h)))) v ds h))
  (gd (isB false v14) (fun k => kO (pickV v23 undef (.bool false)) ds h k) ds h (fun v32 ds h =>
  gd (isB true v4) (fun k => kO (pickV v14 (.bool true) v32) ds h k) ds h (fun v33 ds h =>
  kO (pickV v4 v33 (.bool false)) ds h (fun v34 ds h =>
  K .norm (T.set tm 62 v34) ds h))))))
  (ite2 (isB true v23) (call 17 [undef, undef] h (fun v h => (fun v31 ds h =>
  gd (isB false v14) (fun k => kO (pickV v23 v31 (.bool false)) ds h k) ds h (fun v32 ds h =>
  gd (isB true v4) (fun k => kO (pickV v14 (.bool true) v32) ds h k) ds h (fun v33 ds h =>
  kO (pickV v4 v33 (.bool false)) ds h (fun v34 ds h =>
  K .norm (T.set tm 62 v34) ds h)))) v ds h))
  (gd (isB false v14) (fun k => kO (pickV v23 undef (.bool false)) ds h k) ds h (fun v32 ds h =>
  gd (isB true v4) (fun k => kO (pickV v14 (.bool true) v32) ds h k) ds h (fun v33 ds h =>
  kO (pickV v4 v33 (.bool false)) ds h (fun v34 ds h =>
  K .norm (T.set tm 62 v34) ds h))))))))))))))))))))
  (gd (isB false v14) (fun k => kO (some (tg tm 8)) ds h k) ds h (fun v17 ds h =>
  gd (isB false v14) (fun k => kO (indexSl 3 undef v17) ds h k) ds h (fun v18 ds h =>
  gd (isB false v14) (fun k => kO (fieldPtr 2 v18) ds h k) ds h (fun v19 ds h =>
  ite2 (isB false v14) (kO (loadOne h v19) ds h (fun v20 ds h =>
  gd (isB false v14) (fun k => kO (some (tg tm 2)) ds h k) ds h (fun v21 ds h =>
  gd (isB false v14) (fun k => kO (binV Try.prog .eql 3 false v20 v21) ds h k) ds h (fun v22 ds h =>
  gd (isB false v14) (fun k => kO (some v22) ds h k) ds h (fun v23 ds h =>
  gd (isB true v23) (fun k => kO (fieldPtr 1 (tg tm 3)) ds h k) ds h (fun v24 ds h =>
  ite2 (isB true v23) (kO (loadOne h v24) ds h (fun v25 ds h =>
  gd (isB true v23) (fun k => kO (some (tg tm 8)) ds h k) ds h (fun v26 ds h =>
  gd (isB true v23) (fun k => kO (indexSl 3 v25 v26) ds h k) ds h (fun v27 ds h =>
  gd (isB true v23) (fun k => kO (fieldPtr 0 v27) ds h k) ds h (fun v28 ds h =>
  ite2 (isB true v23) (kO (loadAgg 2 h v28) ds h (fun v29 ds h =>
  ite2 (isB true v23) (kO (loadAgg 2 h (tg tm 4)) ds h (fun v30 ds h =>
  ite2 (isB true v23) (call 17 [v29, v30] h (fun v h => (fun v31 ds h =>
  gd (isB false v14) (fun k => kO (pickV v23 v31 (.bool false)) ds h k) ds h (fun v32 ds h =>
  gd (isB true v4) (fun k => kO (pickV v14 (.bool true) v32) ds h k) ds h (fun v33 ds h =>
  kO (pickV v4 v33 (.bool false)) ds h (fun v34 ds h =>
  K .norm (T.set tm 62 v34) ds h)))) v ds h))
  (gd (isB false v14) (fun k => kO (pickV v23 undef (.bool false)) ds h k) ds h (fun v32 ds h =>
  gd (isB true v4) (fun k => kO (pickV v14 (.bool true) v32) ds h k) ds h (fun v33 ds h =>
  kO (pickV v4 v33 (.bool false)) ds h (fun v34 ds h =>
  K .norm (T.set tm 62 v34) ds h))))))
  (ite2 (isB true v23) (call 17 [v29, undef] h (fun v h => (fun v31 ds h =>
  gd (isB false v14) (fun k => kO (pickV v23 v31 (.bool false)) ds h k) ds h (fun v32 ds h =>
  gd (isB true v4) (fun k => kO (pickV v14 (.bool true) v32) ds h k) ds h (fun v33 ds h =>
  kO (pickV v4 v33 (.bool false)) ds h (fun v34 ds h =>
  K .norm (T.set tm 62 v34) ds h)))) v ds h))
  (gd (isB false v14) (fun k => kO (pickV v23 undef (.bool false)) ds h k) ds h (fun v32 ds h =>
  gd (isB true v4) (fun k => kO (pickV v14 (.bool true) v32) ds h k) ds h (fun v33 ds h =>
  kO (pickV v4 v33 (.bool false)) ds h (fun v34 ds h =>
  K .norm (T.set tm 62 v34) ds h)))))))
  (ite2 (isB true v23) (kO (loadAgg 2 h (tg tm 4)) ds h (fun v30 ds h =>
  ite2 (isB true v23) (call 17 [undef, v30] h (fun v h => (fun v31 ds h =>
  gd (isB false v14) (fun k => kO (pickV v23 v31 (.bool false)) ds h k) ds h (fun v32 ds h =>
  gd (isB true v4) (fun k => kO (pickV v14 (.bool true) v32) ds h k) ds h (fun v33 ds h =>
  kO (pickV v4 v33 (.bool false)) ds h (fun v34 ds h =>
  K .norm (T.set tm 62 v34) ds h)))) v ds h))
  (gd (isB false v14) (fun k => kO (pickV v23 undef (.bool false)) ds h k) ds h (fun v32 ds h =>
  gd (isB true v4) (fun k => kO (pickV v14 (.bool true) v32) ds h k) ds h (fun v33 ds h =>
  kO (pickV v4 v33 (.bool false)) ds h (fun v34 ds h =>
  K .norm (T.set tm 62 v34) ds h))))))
  (ite2 (isB true v23) (call 17 [undef, undef] h (fun v h => (fun v31 ds h =>
  gd (isB false v14) (fun k => kO (pickV v23 v31 (.bool false)) ds h k) ds h (fun v32 ds h =>
  gd (isB true v4) (fun k => kO (pickV v14 (.bool true) v32) ds h k) ds h (fun v33 ds h =>
  kO (pickV v4 v33 (.bool false)) ds h (fun v34 ds h =>
  K .norm (T.set tm 62 v34) ds h)))) v ds h))
  (gd (isB false v14) (fun k => kO (pickV v23 undef (.bool false)) ds h k) ds h (fun v32 ds h =>
  gd (isB true v4) (fun k => kO (pickV v14 (.bool true) v32) ds h k) ds h (fun v33 ds h =>
  kO (pickV v4 v33 (.bool false)) ds h (fun v34 ds h =>
  K .norm (T.set tm 62 v34) ds h)))))))))))
  (gd (isB true v23) (fun k => kO (some (tg tm 8)) ds h k) ds h (fun v26 ds h =>
  gd (isB true v23) (fun k => kO (indexSl 3 undef v26) ds h k) ds h (fun v27 ds h =>
  gd (isB true v23) (fun k => kO (fieldPtr 0 v27) ds h k) ds h (fun v28 ds h =>
  ite2 (isB true v23) (kO (loadAgg 2 h v28) ds h (fun v29 ds h =>
  ite2 (isB true v23) (kO (loadAgg 2 h (tg tm 4)) ds h (fun v30 ds h =>
  ite2 (isB true v23) (call 17 [v29, v30] h (fun v h => (fun v31 ds h =>
  gd (isB false v14) (fun k => kO (pickV v23 v31 (.bool false)) ds h k) ds h (fun v32 ds h =>
  gd (isB true v4) (fun k => kO (pickV v14 (.bool true) v32) ds h k) ds h (fun v33 ds h =>
  kO (pickV v4 v33 (.bool false)) ds h (fun v34 ds h =>
  K .norm (T.set tm 62 v34) ds h)))) v ds h))
  (gd (isB false v14) (fun k => kO (pickV v23 undef (.bool false)) ds h k) ds h (fun v32 ds h =>
  gd (isB true v4) (fun k => kO (pickV v14 (.bool true) v32) ds h k) ds h (fun v33 ds h =>
  kO (pickV v4 v33 (.bool false)) ds h (fun v34 ds h =>
  K .norm (T.set tm 62 v34) ds h))))))
  (ite2 (isB true v23) (call 17 [v29, undef] h (fun v h => (fun v31 ds h =>
  gd (isB false v14) (fun k => kO (pickV v23 v31 (.bool false)) ds h k) ds h (fun v32 ds h =>
  gd (isB true v4) (fun k => kO (pickV v14 (.bool true) v32) ds h k) ds h (fun v33 ds h =>
  kO (pickV v4 v33 (.bool false)) ds h (fun v34 ds h =>
  K .norm (T.set tm 62 v34) ds h)))) v ds h))
  (gd (isB false v14) (fun k => kO (pickV v23 undef (.bool false)) ds h k) ds h (fun v32 ds h =>
  gd (isB true v4) (fun k => kO (pickV v14 (.bool true) v32) ds h k) ds h (fun v33 ds h =>
  kO (pickV v4 v33 (.bool false)) ds h (fun v34 ds h =>
  K .norm (T.set tm 62 v34) ds h)))))))
  (ite2 (isB true v23) (kO (loadAgg 2 h (tg tm 4)) ds h (fun v30 ds h =>
  ite2 (isB true v23) (call 17 [undef, v30] h (fun v h => (fun v31 ds h =>
  gd (isB false v14) (fun k => kO (pickV v23 v31 (.bool false)) ds h k) ds h (fun v32 ds h =>
  gd (isB true v4) (fun k => kO (pickV v14 (.bool true) v32) ds h k) ds h (fun v33 ds h =>
  kO (pickV v4 v33 (.bool false)) ds h (fun v34 ds h =>
  K .norm (T.set tm 62 v34) ds h)))) v ds h))
  (gd (isB false v14) (fun k => kO (pickV v23 undef (.bool false)) ds h k) ds h (fun v32 ds h =>
  gd (isB true v4) (fun k => kO (pickV v14 (.bool true) v32) ds h k) ds h (fun v33 ds h =>
  kO (pickV v4 v33 (.bool false)) ds h (fun v34 ds h =>
  K .norm (T.set tm 62 v34) ds h))))))
  (ite2 (isB true v23) (call 17 [undef, undef] h (fun v h => (fun v31 ds h =>
  gd (isB false v14) (fun k => kO (pickV v23 v31 (.bool false)) ds h k) ds h (fun v32 ds h =>
  gd (isB true v4) (fun k => kO (pickV v14 (.bool true) v32) ds h k) ds h (fun v33 ds h =>
  kO (pickV v4 v33 (.bool false)) ds h (fun v34 ds h =>
  K .norm (T.set tm 62 v34) ds h)))) v ds h))
  (gd (isB false v14) (fun k => kO (pickV v23 undef (.bool false)) ds h k) ds h (fun v32 ds h =>
  gd (isB true v4) (fun k => kO (pickV v14 (.bool true) v32) ds h k) ds h (fun v33 ds h =>
  kO (pickV v4 v33 (.bool false)) ds h (fun v34 ds h =>
  K .norm (T.set tm 62 v34) ds h))))))))))))))))
  (gd (isB false v14) (fun k => kO (some (tg tm 2)) ds h k) ds h (fun v21 ds h =>
  gd (isB false v14) (fun k => kO (binV Try.prog .eql 3 false undef v21) ds h k) ds h (fun v22 ds h =>
  gd (isB false v14) (fun k => kO (some v22) ds h k) ds h (fun v23 ds h =>
  gd (isB true v23) (fun k => kO (fieldPtr 1 (tg tm 3)) ds h k) ds h (fun v24 ds h =>
  ite2 (isB true v23) (kO (loadOne h v24) ds h (fun v25 ds h =>
  gd (isB true v23) (fun k => kO (some (tg tm 8)) ds h k) ds h (fun v26 ds h =>
  gd (isB true v23) (fun k => kO (indexSl 3 v25 v26) ds h k) ds h (fun v27 ds h =>
  gd (isB true v23) (fun k => kO (fieldPtr 0 v27) ds h k) ds h (fun v28 ds h =>
  ite2 (isB true v23) (kO (loadAgg 2 h v28) ds h (fun v29 ds h =>
  ite2 (isB true v23) (kO (loadAgg 2 h (tg tm 4)) ds h (fun v30 ds h =>
  ite2 (isB true v23) (call 17 [v29, v30] h (fun v h => (fun v31 ds h =>
  gd (isB false v14) (fun k => kO (pickV v23 v31 (.bool false)) ds h k) ds h (fun v32 ds h =>
  gd (isB true v4) (fun k => kO (pickV v14 (.bool true) v32) ds h k) ds h (fun v33 ds h =>
  kO (pickV v4 v33 (.bool false)) ds h (fun v34 ds h =>
  K .norm (T.set tm 62 v34) ds h)))) v ds h))
  (gd (isB false v14) (fun k => kO (pickV v23 undef (.bool false)) ds h k) ds h (fun v32 ds h =>
  gd (isB true v4) (fun k => kO (pickV v14 (.bool true) v32) ds h k) ds h (fun v33 ds h =>
  kO (pickV v4 v33 (.bool false)) ds h (fun v34 ds h =>
  K .norm (T.set tm 62 v34) ds h))))))
  (ite2 (isB true v23) (call 17 [v29, undef] h (fun v h => (fun v31 ds h =>
  gd (isB false v14) (fun k => kO (pickV v23 v31 (.bool false)) ds h k) ds h (fun v32 ds h =>
  gd (isB true v4) (fun k => kO (pickV v14 (.bool true) v32) ds h k) ds h (fun v33 ds h =>
  kO (pickV v4 v33 (.bool false)) ds h (fun v34 ds h =>
  K .norm (T.set tm 62 v34) ds h)))) v ds h))
  (gd (isB false v14) (fun k => kO (pickV v23 undef (.bool false)) ds h k) ds h (fun v32 ds h =>
  gd (isB true v4) (fun k => kO (pickV v14 (.bool true) v32) ds h k) ds h (fun v33 ds h =>
  kO (pickV v4 v33 (.bool false)) ds h (fun v34 ds h =>
  K .norm (T.set tm 62 v34) ds h)))))))
  (ite2 (isB true v23) (kO (loadAgg 2 h (tg tm 4)) ds h (fun v30 ds h =>
  ite2 (isB true v23) (call 17 [undef, v30] h (fun v h => (fun v31 ds h =>
  gd (isB false v14) (fun k => kO (pickV v23 v31 (.bool false)) ds h k) ds h (fun v32 ds h =>
  gd (isB true v4) (fun k => kO (pickV v14 (.bool true) v32) ds h k) ds h (fun v33 ds h =>
  kO (pickV v4 v33 (.bool false)) ds h (fun v34 ds h =>
  K .norm (T.set tm 62 v34) ds h)))) v ds h))
  (gd (isB false v14) (fun k => kO (pickV v23 undef (.bool false)) ds h k) ds h (fun v32 ds h =>
  gd (isB true v4) (fun k => kO (pickV v14 (.bool true) v32) ds h k) ds h (fun v33 ds h =>
  kO (pickV v4 v33 (.bool false)) ds h (fun v34 ds h =>
  K .norm (T.set tm 62 v34) ds h))))))
  (ite2 (isB true v23) (call 17 [undef, undef] h (fun v h => (fun v31 ds h =>
  gd (isB false v14) (fun k => kO (pickV v23 v31 (.bool false)) ds h k) ds h (fun v32 ds h =>
  gd (isB true v4) (fun k => kO (pickV v14 (.bool true) v32) ds h k) ds h (fun v33 ds h =>
  kO (pickV v4 v33 (.bool false)) ds h (fun v34 ds h =>
  K .norm (T.set tm 62 v34) ds h)))) v ds h))
  (gd (isB false v14) (fun k => kO (pickV v23 undef (.bool false)) ds h k) ds h (fun v32 ds h =>
  gd (isB true v4) (fun k => kO (pickV v14 (.bool true) v32) ds h k) ds h (fun v33 ds h =>
  kO (pickV v4 v33 (.bool false)) ds h (fun v34 ds h =>
  K .norm (T.set tm 62 v34) ds h)))))))))))
  (gd (isB true v23) (fun k => kO (some (tg tm 8)) ds h k) ds h (fun v26 ds h =>
  gd (isB true v23) (fun k => kO (indexSl 3 undef v26) ds h k) ds h (fun v27 ds h =>
  gd (isB true v23) (fun k => kO (fieldPtr 0 v27) ds h k) ds h (fun v28 ds h =>
  ite2 (isB true v23) (kO (loadAgg 2 h v28) ds h (fun v29 ds h =>
  ite2 (isB true v23) (kO (loadAgg 2 h (tg tm 4)) ds h (fun v30 ds h =>
  ite2 (isB true v23) (call 17 [v29, v30] h (fun v h => (fun v31 ds h =>
  gd (isB false v14) (fun k => kO (pickV v23 v31 (.bool false)) ds h k) ds h (fun v32 ds h =>
  gd (isB true v4) (fun k => kO (pickV v14 (.bool true) v32) ds h k) ds h (fun v33 ds h =>
  kO (pickV v4 v33 (.bool false)) ds h (fun v34 ds h =>
  K .norm (T.set tm 62 v34) ds h)))) v ds h))
  (gd (isB false v14) (fun k => kO (pickV v23 undef (.bool false)) ds h k) ds h (fun v32 ds h =>
  gd (isB true v4) (fun k => kO (pickV v14 (.bool true) v32) ds h k) ds h (fun v33 ds h =>
  kO (pickV v4 v33 (.bool false)) ds h (fun v34 ds h =>
  K .norm (T.set tm 62 v34) ds h))))))
  (ite2 (isB true v23) (call 17 [v29, undef] h (fun v h => (fun v31 ds h =>
  gd (isB false v14) (fun k => kO (pickV v23 v31 (.bool false)) ds h k) ds h (fun v32 ds h =>
  gd (isB true v4) (fun k => kO (pickV v14 (.bool true) v32) ds h k) ds h (fun v33 ds h =>
  kO (pickV v4 v33 (.bool false)) ds h (fun v34 ds h =>
  K .norm (T.set tm 62 v34) ds h)))) v ds h))
  (gd (isB false v14) (fun k => kO (pickV v23 undef (.bool false)) ds h k) ds h (fun v32 ds h =>
  gd (isB true v4) (fun k => kO (pickV v14 (.bool true) v32) ds h k) ds h (fun v33 ds h =>
  kO (pickV v4 v33 (.bool false)) ds h (fun v34 ds h =>
  K .norm (T.set tm 62 v34) ds h)))))))
  (ite2 (isB true v23) (kO (loadAgg 2 h (tg tm 4)) ds h (fun v30 ds h =>
  ite2 (isB true v23) (call 17 [undef, v30] h (fun v h => (fun v31 ds h =>
  gd (isB false v14) (fun k => kO (pickV v23 v31 (.bool false)) ds h k) ds h (fun v32 ds h =>
  gd (isB true v4) (fun k => kO (pickV v14 (.bool true) v32) ds h k) ds h (fun v33 ds h =>
  kO (pickV v4 v33 (.bool false)) ds h (fun v34 ds h =>
  K .norm (T.set tm 62 v34) ds h)))) v ds h))
  (gd (isB false v14) (fun k => kO (pickV v23 undef (.bool false)) ds h k) ds h (fun v32 ds h =>
  gd (isB true v4) (fun k => kO (pickV v14 (.bool true) v32) ds h k) ds h (fun v33 ds h =>
  kO (pickV v4 v33 (.bool false)) ds h (fun v34 ds h =>
  K .norm (T.set tm 62 v34) ds h))))))
  (ite2 (isB true v23) (call 17 [undef, undef] h (fun v h => (fun v31 ds h =>
  gd (isB false v14) (fun k => kO (pickV v23 v31 (.bool false)) ds h k) ds h (fun v32 ds h =>
  gd (isB true v4) (fun k => kO (pickV v14 (.bool true) v32) ds h k) ds h (fun v33 ds h =>
  kO (pickV v4 v33 (.bool false)) ds h (fun v34 ds h =>
  K .norm (T.set tm 62 v34) ds h)))) v ds h))
  (gd (isB false v14) (fun k => kO (pickV v23 undef (.bool false)) ds h k) ds h (fun v32 ds h =>
  gd (isB true v4) (fun k => kO (pickV v14 (.bool true) v32) ds h k) ds h (fun v33 ds h =>
  kO (pickV v4 v33 (.bool false)) ds h (fun v34 ds h =>
  K .norm (T.set tm 62 v34) ds h)))))))))))))))))))))))))
  (gd (isB true v4) (fun k => kO (some (tg tm 2)) ds h k) ds h (fun v12 ds h =>
  gd (isB true v4) (fun k => kO (binV Try.prog .lss 3 false undef v12) ds h k) ds h (fun v13 ds h =>
  gd (isB true v4) (fun k => kO (some v13) ds h k) ds h (fun v14 ds h =>
  gd (isB false v14) (fun k => kO (fieldPtr 1 (tg tm 3)) ds h k) ds h (fun v15 ds h =>
  ite2 (isB false v14) (kO (loadOne h v15) ds h (fun v16 ds h =>
  gd (isB false v14) (fun k => kO (some (tg tm 8)) ds h k) ds h (fun v17 ds h =>
  gd (isB false v14) (fun k => kO (indexSl 3 v16 v17) ds h k) ds h (fun v18 ds h =>
  gd (isB false v14) (fun k => kO (fieldPtr 2 v18) ds h k) ds h (fun v19 ds h =>
  ite2 (isB false v14) (kO (loadOne h v19) ds h (fun v20 ds h =>
  gd (isB false v14) (fun k => kO (some (tg tm 2)) ds h k) ds h (fun v21 ds h =>
  gd (isB false v14) (fun k => kO (binV Try.prog .eql 3 false v20 v21) ds h k) ds h (fun v22 ds h =>
  gd (isB false v14) (fun k => kO (some v22) ds h k) ds h (fun v23 ds h =>
  gd (isB true v23) (fun k => kO (fieldPtr 1 (tg tm 3)) ds h k) ds h (fun v24 ds h =>
  ite2 (isB true v23) (kO (loadOne h v24) ds h (fun v25 ds h =>
  gd (isB true v23) (fun k => kO (some (tg tm 8)) ds h k) ds h (fun v26 ds h =>
  gd (isB true v23) (fun k => kO (indexSl 3 v25 v26) ds h k) ds h (fun v27 ds h =>
  gd (isB true v23) (fun k => kO (fieldPtr 0 v27) ds h k) ds h (fun v28 ds h =>
  ite2 (isB true v23) (kO (loadAgg 2 h v28) ds h (fun v29 ds h =>
  ite2 (isB true v23) (kO (loadAgg 2 h (tg tm 4)) ds h (fun v30 ds h =>
  ite2 (isB true v23) (call 17 [v29, v30] h (fun v h => (fun v31 ds h =>
  gd (isB false v14) (fun k => kO (pickV v23 v31 (.bool false)) ds h k) ds h (fun v32 ds h =>
  gd (isB true v4) (fun k => kO (pickV v14 (.bool true) v32) ds h k) ds h (fun v33 ds h =>
  kO (pickV v4 v33 (.bool false)) ds h (fun v34 ds h =>
  K .norm (T.set tm 62 v34) ds h)))) v ds h))
  (gd (isB false v14) (fun k => kO (pickV v23 undef (.bool false)) ds h k) ds h (fun v32 ds h =>
  gd (isB true v4) (fun k => kO (pickV v14 (.bool true) v32) ds h k) ds h (fun v33 ds h =>
  kO (pickV v4 v33 (.bool false)) ds h (fun v34 ds h =>
  K .norm (T.set tm 62 v34) ds h))))))
  (ite2 (isB true v23) (call 17 [v29, undef] h (fun v h => (fun v31 ds h =>
  gd (isB false v14) (fun k => kO (pickV v23 v31 (.bool false)) ds h k) ds h (fun v32 ds h =>
  gd (isB true v4) (fun k => kO (pickV v14 (.bool true) v32) ds h k) ds h (fun v33 ds h =>
  kO (pickV v4 v33 (.bool false)) ds h (fun v34 ds h =>
  K .norm (T.set tm 62 v34) ds h)))) v ds h))
  (gd (isB false v14) (fun k => kO (pickV v23 undef (.bool false)) ds h k) ds h (fun v32 ds h =>
  gd (isB true v4) (fun k => kO (pickV v14 (.bool true) v32) ds h k) ds h (fun v33 ds h =>
  kO (pickV v4 v33 (.bool false)) ds h (fun v34 ds h =>
  K .norm (T.set tm 62 v34) ds h)))))))
  (ite2 (isB true v23) (kO (loadAgg 2 h (tg tm 4)) ds h (fun v30 ds h =>
  ite2 (isB true v23) (call 17 [undef, v30] h (fun v h => (fun v31 ds h =>
  gd (isB false v14) (fun k => kO (pickV v23 v31 (.bool false)) ds h k) ds h (fun v32 ds h =>
  gd (isB true v4) (fun k => kO (pickV v14 (.bool true) v32) ds h k) ds h (fun v33 ds h =>
  kO (pickV v4 v33 (.bool false)) ds h (fun v34 ds h =>
  K .norm (T.set tm 62 v34) ds h)))) v ds h))
  (gd (isB false v14) (fun k => kO (pickV v23 undef (.bool false)) ds h k) ds h (fun v32 ds h =>
  gd (isB true v4) (fun k => kO (pickV v14 (.bool true) v32) ds h k) ds h (fun v33 ds h =>
  kO (pickV v4 v33 (.bool false)) ds h (fun v34 ds h =>
  K .norm (T.set tm 62 v34) ds h))))))
  (ite2 (isB true v23) (call 17 [undef, undef] h (fun v h => (fun v31 ds h =>
  gd (isB false v14) (fun k => kO (pickV v23 v31 (.bool false)) ds h k) ds h (fun v32 ds h =>
  gd (isB true v4) (fun k => kO (pickV v14 (.bool true) v32) ds h k) ds h (fun v33 ds h =>
  kO (pickV v4 v33 (.bool false)) ds h (fun v34 ds h =>
  K .norm (T.set tm 62 v34) ds h)))) v ds h))
  (gd (isB false v14) (fun k => kO (pickV v23 undef (.bool false)) ds h k) ds h (fun v32 ds h =>
  gd (isB true v4) (fun k => kO (pickV v14 (.bool true) v32) ds h k) ds h (fun v33 ds h =>
  kO (pickV v4 v33 (.bool false)) ds h (fun v34 ds h =>
  K .norm (T.set tm 62 v34) ds h)))))))))))
  (gd (isB true v23) (fun k => kO (some (tg tm 8)) ds h k) ds h (fun v26 ds h =>
  gd (isB true v23) (fun k => kO (indexSl 3 undef v26) ds h k) ds h (fun v27 ds h =>
  gd (isB true v23) (fun k => kO (fieldPtr 0 v27) ds h k) ds h (fun v28 ds h =>
  ite2 (isB true v23) (kO (loadAgg 2 h v28) ds h (fun v29 ds h =>
  ite2 (isB true v23) (kO (loadAgg 2 h (tg tm 4)) ds h (fun v30 ds h =>
  ite2 (isB true v23) (call 17 [v29, v30] h (fun v h => (fun v31 ds h =>
  gd (isB false v14) (fun k => kO (pickV v23 v31 (.bool false)) ds h k) ds h (fun v32 ds h =>
  gd (isB true v4) (fun k => kO (pickV v14 (.bool true) v32) ds h k) ds h (fun v33 ds h =>
  kO (pickV v4 v33 (.bool false)) ds h (fun v34 ds h =>
  K .norm (T.set tm 62 v34) ds h)))) v ds h))
  (gd (isB false v14) (fun k => kO (pickV v23 undef (.bool false)) ds h k) ds h (fun v32 ds h =>
  gd (isB true v4) (fun k => kO (pickV v14 (.bool true) v32) ds h k) ds h (fun v33 ds h =>
  kO (pickV v4 v33 (.bool false)) ds h (fun v34 ds h =>
  K .norm (T.set tm 62 v34) ds h))))))
  (ite2 (isB true v23) (call 17 [v29, undef] h (fun v h => (fun v31 ds h =>
  gd (isB false v14) (fun k => kO (pickV v23 v31 (.bool false)) ds h k) ds h (fun v32 ds h =>
  gd (isB true v4) (fun k => kO (pickV v14 (.bool true) v32) ds h k) ds h (fun v33 ds h =>
  kO (pickV v4 v33 (.bool false)) ds h (fun v34 ds h =>
  K .norm (T.set tm 62 v34) ds h)))) v ds h))
  (gd (isB false v14) (fun k => kO (pickV v23 undef (.bool false)) ds h k) ds h (fun v32 ds h =>
  gd (isB true v4) (fun k => kO (pickV v14 (.bool true) v32) ds h k) ds h (fun v33 ds h =>
  kO (pickV v4 v33 (.bool false)) ds h (fun v34 ds h =>
  K .norm (T.set tm 62 v34) ds h)))))))
  (ite2 (isB true v23) (kO (loadAgg 2 h (tg tm 4)) ds h (fun v30 ds h =>
  ite2 (isB true v23) (call 17 [undef, v30] h (fun v h => (fun v31 ds h =>
  gd (isB false v14) (fun k => kO (pickV v23 v31 (.bool false)) ds h k) ds h (fun v32 ds h =>
  gd (isB true v4) (fun k => kO (pickV v14 (.bool true) v32) ds h k) ds h (fun v33 ds h =>
  kO (pickV v4 v33 (.bool false)) ds h (fun v34 ds h =>
  K .norm (T.set tm 62 v34) ds h)))) v ds h))
  (gd (isB false v14) (fun k => kO (pickV v23 undef (.bool false)) ds h k) ds h (fun v32 ds h =>
  gd (isB true v4) (fun k => kO (pickV v14 (.bool true) v32) ds h k) ds h (fun v33 ds h =>
  kO (pickV v4 v33 (.bool false)) ds h (fun v34 ds h =>
  K .norm (T.set tm 62 v34) ds h))))))
  (ite2 (isB true v23) (call 17 [undef, undef] h (fun v h => (fun v31 ds h =>
  gd (isB false v14) (fun k => kO (pickV v23 v31 (.bool false)) ds h k) ds h (fun v32 ds h =>
  gd (isB true v4) (fun k => kO (pickV v14 (.bool true) v32) ds h k) ds h (fun v33 ds h =>
  kO (pickV v4 v33 (.bool false)) ds h (fun v34 ds h =>
  K .norm (T.set tm 62 v34) ds h)))) v ds h))
  (gd (isB false v14) (fun k => kO (pickV v23 undef (.bool false)) ds h k) ds h (fun v32 ds h =>
  gd (isB true v4) (fun k => kO (pickV v14 (.bool true) v32) ds h k) ds h (fun v33 ds h =>
  kO (pickV v4 v33 (.bool false)) ds h (fun v34 ds h =>
  K .norm (T.set tm 62 v34) ds h))))))))))))))))
  (gd (isB false v14) (fun k => kO (some (tg tm 2)) ds h k) ds h (fun v21 ds h =>
  gd (isB false v14) (fun k => kO (binV Try.prog .eql 3 false undef v21) ds h k) ds h (fun v22 ds h =>
  gd (isB false v14) (fun k => kO (some v22) ds h k) ds h (fun v23 ds h =>
  gd (isB true v23) (fun k => kO (fieldPtr 1 (tg tm 3)) ds h k) ds h (fun v24 ds h =>
  ite2 (isB true v23) (kO (loadOne h v24) ds h (fun v25 ds h =>
  gd (isB true v23) (fun k => kO (some (tg tm 8)) ds h k) ds h (fun v26 ds h =>
  gd (isB true v23) (fun k => kO (indexSl 3 v25 v26) ds h k) ds h (fun v27 ds h =>
  gd (isB true v23) (fun k => kO (fieldPtr 0 v27) ds h k) ds h (fun v28 ds h =>
  ite2 (isB true v23) (kO (loadAgg 2 h v28) ds h (fun v29 ds h =>
  ite2 (isB true v23) (kO (loadAgg 2 h (tg tm 4)) ds h (fun v30 ds h =>
  ite2 (isB true v23) (call 17 [v29, v30] h (fun v h => (fun v31 ds h =>
  gd (isB false v14) (fun k => kO (pickV v23 v31 (.bool false)) ds h k) ds h (fun v32 ds h =>
  gd (isB true v4) (fun k => kO (pickV v14 (.bool true) v32) ds h k) ds h (fun v33 ds h =>
  kO (pickV v4 v33 (.bool false)) ds h (fun v34 ds h =>
  K .norm (T.set tm 62 v34) ds h)))) v ds h))
  (gd (isB false v14) (fun k => kO (pickV v23 undef (.bool false)) ds h k) ds h (fun v32 ds h =>
  gd (isB true v4) (fun k => kO (pickV v14 (.bool true) v32) ds h k) ds h (fun v33 ds h =>
  kO (pickV v4 v33 (.bool false)) ds h (fun v34 ds h =>
  K .norm (T.set tm 62 v34) ds h))))))
  (ite2 (isB true v23) (call 17 [v29, undef] h (fun v h => (fun v31 ds h =>
  gd (isB false v14) (fun k => kO (pickV v23 v31 (.bool false)) ds h k) ds h (fun v32 ds h =>
  gd (isB true v4) (fun k => kO (pickV v14 (.bool true) v32) ds h k) ds h (fun v33 ds h =>
  kO (pickV v4 v33 (.bool false)) ds h (fun v34 ds h =>
  K .norm (T.set tm 62 v34) ds h)))) v ds h))
  (gd (isB false v14) (fun k => kO (pickV v23 undef (.bool false)) ds h k) ds h (fun v32 ds h =>
  gd (isB true v4) (fun k => kO (pickV v14 (.bool true) v32) ds h k) ds h (fun v33 ds h =>
  kO (pickV v4 v33 (.bool false)) ds h (fun v34 ds h =>
  K .norm (T.set tm 62 v34) ds h)))))))
  (ite2 (isB true v23) (kO (loadAgg 2 h (tg tm 4)) ds h (fun v30 ds h =>
  ite2 (isB true v23) (call 17 [undef, v30] h (fun v h => (fun v31 ds h =>
  gd (isB false v14) (fun k => kO (pickV v23 v31 (.bool false)) ds h k) ds h (fun v32 ds h =>
  gd (isB true v4) (fun k => kO (pickV v14 (.bool true) v32) ds h k) ds h (fun v33 ds h =>
  kO (pickV v4 v33 (.bool false)) ds h (fun v34 ds h =>
  K .norm (T.set tm 62 v34) ds h)))) v ds h))
  (gd (isB false v14) (fun k => kO (pickV v23 undef (.bool false)) ds h k) ds h (fun v32 ds h =>
  gd (isB true v4) (fun k => kO (pickV v14 (.bool true) v32) ds h k) ds h (fun v33 ds h =>
  kO (pickV v4 v33 (.bool false)) ds h (fun v34 ds h =>
  K .norm (T.set tm 62 v34) ds h))))))
  (ite2 (isB true v23) (call 17 [undef, undef] h (fun v h => (fun v31 ds h =>
  gd (isB false v14) (fun k => kO (pickV v23 v31 (.bool false)) ds h k) ds h (fun v32 ds h =>
  gd (isB true v4) (fun k => kO (pickV v14 (.bool true) v32) ds h k) ds h (fun v33 ds h =>
  kO (pickV v4 v33 (.bool false)) ds h (fun v34 ds h =>
  K .norm (T.set tm 62 v34) ds h)))) v ds h))
  (gd (isB false v14) (fun k => kO (pickV v23 undef (.bool false)) ds h k) ds h (fun v32 ds h =>
  gd (isB true v4) (fun k => kO (pickV v14 (.bool true) v32) ds h k) ds h (fun v33 ds h =>
  kO (pickV v4 v33 (.bool false)) ds h (fun v34 ds h =>
  K .norm (T.set tm 62 v34) ds h)))))))))))
  (gd (isB true v23) (fun k => kO (some (tg tm 8)) ds h k) ds h (fun v26 ds h =>
  gd (isB true v23) (fun k => kO (indexSl 3 undef v26) ds h k) ds h (fun v27 ds h =>
  gd (isB true v23) (fun k => kO (fieldPtr 0 v27) ds h k) ds h (fun v28 ds h =>
  ite2 (isB true v23) (kO (loadAgg 2 h v28) ds h (fun v29 ds h =>
  ite2 (isB true v23) (kO (loadAgg 2 h (tg tm 4)) ds h (fun v30 ds h =>
  ite2 (isB true v23) (call 17 [v29, v30] h (fun v h => (fun v31 ds h =>
  gd (isB false v14) (fun k => kO (pickV v23 v31 (.bool false)) ds h k) ds h (fun v32 ds h =>
  gd (isB true v4) (fun k => kO (pickV v14 (.bool true) v32) ds h k) ds h (fun v33 ds h =>
  kO (pickV v4 v33 (.bool false)) ds h (fun v34 ds h =>
  K .norm (T.set tm 62 v34) ds h)))) v ds h))
  (gd (isB false v14) (fun k => kO (pickV v23 undef (.bool false)) ds h k) ds h (fun v32 ds h =>
  gd (isB true v4) (fun k => kO (pickV v14 (.bool true) v32) ds h k) ds h (fun v33 ds h =>
  kO (pickV v4 v33 (.bool false)) ds h (fun v34 ds h =>
  K .norm (T.set tm 62 v34) ds h))))))
  (ite2 (isB true v23) (call 17 [v29, undef] h (fun v h => (fun v31 ds h =>
  gd (isB false v14) (fun k => kO (pickV v23 v31 (.bool false)) ds h k) ds h (fun v32 ds h =>
  gd (isB true v4) (fun k => kO (pickV v14 (.bool true) v32) ds h k) ds h (fun v33 ds h =>
  kO (pickV v4 v33 (.bool false)) ds h (fun v34 ds h =>
  K .norm (T.set tm 62 v34) ds h)))) v ds h))
  (gd (isB false v14) (fun k => kO (pickV v23 undef (.bool false)) ds h k) ds h (fun v32 ds h =>
  gd (isB true v4) (fun k => kO (pickV v14 (.bool true) v32) ds h k) ds h (fun v33 ds h =>
  kO (pickV v4 v33 (.bool false)) ds h (fun v34 ds h =>
  K .norm (T.set tm 62 v34) ds h)))))))
  (ite2 (isB true v23) (kO (loadAgg 2 h (tg tm 4)) ds h (fun v30 ds h =>
  ite2 (isB true v23) (call 17 [undef, v30] h (fun v h => (fun v31 ds h =>
  gd (isB false v14) (fun k => kO (pickV v23 v31 (.bool false)) ds h k) ds h (fun v32 ds h =>
  gd (isB true v4) (fun k => kO (pickV v14 (.bool true) v32) ds h k) ds h (fun v33 ds h =>
  kO (pickV v4 v33 (.bool false)) ds h (fun v34 ds h =>
  K .norm (T.set tm 62 v34) ds h)))) v ds h))
  (gd (isB false v14) (fun k => kO (pickV v23 undef (.bool false)) ds h k) ds h (fun v32 ds h =>
  gd (isB true v4) (fun k => kO (pickV v14 (.bool true) v32) ds h k) ds h (fun v33 ds h =>
  kO (pickV v4 v33 (.bool false)) ds h (fun v34 ds h =>
  K .norm (T.set tm 62 v34) ds h))))))
  (ite2 (isB true v23) (call 17 [undef, undef] h (fun v h => (fun v31 ds h =>
  gd (isB false v14) (fun k => kO (pickV v23 v31 (.bool false)) ds h k) ds h (fun v32 ds h =>
  gd (isB true v4) (fun k => kO (pickV v14 (.bool true) v32) ds h k) ds h (fun v33 ds h =>
  kO (pickV v4 v33 (.bool false)) ds h (fun v34 ds h =>
  K .norm (T.set tm 62 v34) ds h)))) v ds h))
  (gd (isB false v14) (fun k => kO (pickV v23 undef (.bool false)) ds h k) ds h (fun v32 ds h =>
  gd (isB true v4) (fun k => kO (pickV v14 (.bool true) v32) ds h k) ds h (fun v33 ds h =>
  kO (pickV v4 v33 (.bool false)) ds h (fun v34 ds h =>
  K .norm (T.set tm 62 v34) ds h))))))))))))))))))))
  (gd (isB false v14) (fun k => kO (some (tg tm 8)) ds h k) ds h (fun v17 ds h =>
  gd (isB false v14) (fun k => kO (indexSl 3 undef v17) ds h k) ds h (fun v18 ds h =>
  gd (isB false v14) (fun k => kO (fieldPtr 2 v18) ds h k) ds h (fun v19 ds h =>
  ite2 (isB false v14) (kO (loadOne h v19) ds h (fun v20 ds h =>
  gd (isB false v14) (fun k => kO (some (tg tm 2)) ds h k) ds h (fun v21 ds h =>
  gd (isB false v14) (fun k => kO (binV Try.prog .eql 3 false v20 v21) ds h k) ds h (fun v22 ds h =>
  gd (isB false v14) (fun k => kO (some v22) ds h k) ds h (fun v23 ds h =>
  gd (isB true v23) (fun k => kO (fieldPtr 1 (tg tm 3)) ds h k) ds h (fun v24 ds h =>
  ite2 (isB true v23) (kO (loadOne h v24) ds h (fun v25 ds h =>
  gd (isB true v23) (fun k => kO (some (tg tm 8)) ds h k) ds h (fun v26 ds h =>
  gd (isB true v23) (fun k => kO (indexSl 3 v25 v26) ds h k) ds h (fun v27 ds h =>
  gd (isB true v23) (fun k => kO (fieldPtr 0 v27) ds h k) ds h (fun v28 ds h =>
  ite2 (isB true v23) (kO (loadAgg 2 h v28) ds h (fun v29 ds h =>
  ite2 (isB true v23) (kO (loadAgg 2 h (tg tm 4)) ds h (fun v30 ds h =>
  ite2 (isB true v23) (call 17 [v29, v30] h (fun v h => (fun v31 ds h =>
  gd (isB false v14) (fun k => kO (pickV v23 v31 (.bool false)) ds h k) ds h (fun v32 ds h =>
  gd (isB true v4) (fun k => kO (pickV v14 (.bool true) v32) ds h k) ds h (fun v33 ds h =>
  kO (pickV v4 v33 (.bool false)) ds h (fun v34 ds h =>
  K .norm (T.set tm 62 v34) ds h)))) v ds h))
  (gd (isB false v14) (fun k => kO (pickV v23 undef (.bool false)) ds h k) ds h (fun v32 ds h =>
  gd (isB true v4) (fun k => kO (pickV v14 (.bool true) v32) ds h k) ds h (fun v33 ds h =>
  kO (pickV v4 v33 (.bool false)) ds h (fun v34 ds h =>
  K .norm (T.set tm 62 v34) ds h))))))
  (ite2 (isB true v23) (call 17 [v29, undef] h (fun v h => (fun v31 ds h =>
  gd (isB false v14) (fun k => kO (pickV v23 v31 (.bool false)) ds h k) ds h (fun v32 ds h =>
  gd (isB true v4) (fun k => kO (pickV v14 (.bool true) v32) ds h k) ds h (fun v33 ds h =>
  kO (pickV v4 v33 (.bool false)) ds h (fun v34 ds h =>
  K .norm (T.set tm 62 v34) ds h)))) v ds h))
  (gd (isB false v14) (fun k => kO (pickV v23 undef (.bool false)) ds h k) ds h (fun v32 ds h =>
  gd (isB true v4) (fun k => kO (pickV v14 (.bool true) v32) ds h k) ds h (fun v33 ds h =>
  kO (pickV v4 v33 (.bool false)) ds h (fun v34 ds h =>
  K .norm (T.set tm 62 v34) ds h)))))))
  (ite2 (isB true v23) (kO (loadAgg 2 h (tg tm 4)) ds h (fun v30 ds h =>
  ite2 (isB true v23) (call 17 [undef, v30] h (fun v h => (fun v31 ds h =>
  gd (isB false v14) (fun k => kO (pickV v23 v31 (.bool false)) ds h k) ds h (fun v32 ds h =>
  gd (isB true v4) (fun k => kO (pickV v14 (.bool true) v32) ds h k) ds h (fun v33 ds h =>
  kO (pickV v4 v33 (.bool false)) ds h (fun v34 ds h =>
  K .norm (T.set tm 62 v34) ds h)))) v ds h))
  (gd (isB false v14) (fun k => kO (pickV v23 undef (.bool false)) ds h k) ds h (fun v32 ds h =>
  gd (isB true v4) (fun k => kO (pickV v14 (.bool true) v32) ds h k) ds h (fun v33 ds h =>
  kO (pickV v4 v33 (.bool false)) ds h (fun v34 ds h =>
  K .norm (T.set tm 62 v34) ds h))))))
  (ite2 (isB true v23) (call 17 [undef, undef] h (fun v h => (fun v31 ds h =>
  gd (isB false v14) (fun k => kO (pickV v23 v31 (.bool false)) ds h k) ds h (fun v32 ds h =>
  gd (isB true v4) (fun k => kO (pickV v14 (.bool true) v32) ds h k) ds h (fun v33 ds h =>
  kO (pickV v4 v33 (.bool false)) ds h (fun v34 ds h =>
  K .norm (T.set tm 62 v34) ds h)))) v ds h))
  (gd (isB false v14) (fun k => kO (pickV v23 undef (.bool false)) ds h k) ds h (fun v32 ds h =>
  gd (isB true v4) (fun k => kO (pickV v14 (.bool true) v32) ds h k) ds h (fun v33 ds h =>
  kO (pickV v4 v33 (.bool false)) ds h (fun v34 ds h =>
  K .norm (T.set tm 62 v34) ds h)))))))))))
  (gd (isB true v23) (fun k => kO (some (tg tm 8)) ds h k) ds h (fun v26 ds h =>
  gd (isB true v23) (fun k => kO (indexSl 3 undef v26) ds h k) ds h (fun v27 ds h =>
  gd (isB true v23) (fun k => kO (fieldPtr 0 v27) ds h k) ds h (fun v28 ds h =>
  ite2 (isB true v23) (kO (loadAgg 2 h v28) ds h (fun v29 ds h =>
  ite2 (isB true v23) (kO (loadAgg 2 h (tg tm 4)) ds h (fun v30 ds h =>
  ite2 (isB true v23) (call 17 [v29, v30] h (fun v h => (fun v31 ds h =>
  gd (isB false v14) (fun k => kO (pickV v23 v31 (.bool false)) ds h k) ds h (fun v32 ds h =>
  gd (isB true v4) (fun k => kO (pickV v14 (.bool true) v32) ds h k) ds h (fun v33 ds h =>
  kO (pickV v4 v33 (.bool false)) ds h (fun v34 ds h =>
  K .norm (T.set tm 62 v34) ds h)))) v ds h))
  (gd (isB false v14) (fun k => kO (pickV v23 undef (.bool false)) ds h k) ds h (fun v32 ds h =>
  gd (isB true v4) (fun k => kO (pickV v14 (.bool true) v32) ds h k) ds h (fun v33 ds h =>
  kO (pickV v4 v33 (.bool false)) ds h (fun v34 ds h =>
  K .norm (T.set tm 62 v34) ds h))))))
  (ite2 (isB true v23) (call 17 [v29, undef] h (fun v h => (fun v31 ds h =>
  gd (isB false v14) (fun k => kO (pickV v23 v31 (.bool false)) ds h k) ds h (fun v32 ds h =>
  gd (isB true v4) (fun k => kO (pickV v14 (.bool true) v32) ds h k) ds h (fun v33 ds h =>
  kO (pickV v4 v33 (.bool false)) ds h (fun v34 ds h =>
  K .norm (T.set tm 62 v34) ds h)))) v ds h))
  (gd (isB false v14) (fun k => kO (pickV v23 undef (.bool false)) ds h k) ds h (fun v32 ds h =>
  gd (isB true v4) (fun k => kO (pickV v14 (.bool true) v32) ds h k) ds h (fun v33 ds h =>
  kO (pickV v4 v33 (.bool false)) ds h (fun v34 ds h =>
  K .norm (T.set tm 62 v34) ds h)))))))
  (ite2 (isB true v23) (kO (loadAgg 2 h (tg tm 4)) ds h (fun v30 ds h =>
  ite2 (isB true v23) (call 17 [undef, v30] h (fun v h => (fun v31 ds h =>
  gd (isB false v14) (fun k => kO (pickV v23 v31 (.bool false)) ds h k) ds h (fun v32 ds h =>
  gd (isB true v4) (fun k => kO (pickV v14 (.bool true) v32) ds h k) ds h (fun v33 ds h =>
  kO (pickV v4 v33 (.bool false)) ds h (fun v34 ds h =>
  K .norm (T.set tm 62 v34) ds h)))) v ds h))
  (gd (isB false v14) (fun k => kO (pickV v23 undef (.bool false)) ds h k) ds h (fun v32 ds h =>
  gd (isB true v4) (fun k => kO (pickV v14 (.bool true) v32) ds h k) ds h (fun v33 ds h =>
  kO (pickV v4 v33 (.bool false)) ds h (fun v34 ds h =>
  K .norm (T.set tm 62 v34) ds h))))))
  (ite2 (isB true v23) (call 17 [undef, undef] h (fun v h => (fun v31 ds h =>
  gd (isB false v14) (fun k => kO (pickV v23 v31 (.bool false)) ds h k) ds h (fun v32 ds h =>
  gd (isB true v4) (fun k => kO (pickV v14 (.bool true) v32) ds h k) ds h (fun v33 ds h =>
  kO (pickV v4 v33 (.bool false)) ds h (fun v34 ds h =>
  K .norm (T.set tm 62 v34) ds h)))) v ds h))
  (gd (isB false v14) (fun k => kO (pickV v23 undef (.bool false)) ds h k) ds h (fun v32 ds h =>
  gd (isB true v4) (fun k => kO (pickV v14 (.bool true) v32) ds h k) ds h (fun v33 ds h =>
  kO (pickV v4 v33 (.bool false)) ds h (fun v34 ds h =>
  K .norm (T.set tm 62 v34) ds h))))))))))))))))
  (gd (isB false v14) (fun k => kO (some (tg tm 2)) ds h k) ds h (fun v21 ds h =>
  gd (isB false v14) (fun k => kO (binV Try.prog .eql 3 false undef v21) ds h k) ds h (fun v22 ds h =>
  gd (isB false v14) (fun k => kO (some v22) ds h k) ds h (fun v23 ds h =>
  gd (isB true v23) (fun k => kO (fieldPtr 1 (tg tm 3)) ds h k) ds h (fun v24 ds h =>
  ite2 (isB true v23) (kO (loadOne h v24) ds h (fun v25 ds h =>
  gd (isB true v23) (fun k => kO (some (tg tm 8)) ds h k) ds h (fun v26 ds h =>
  gd (isB true v23) (fun k => kO (indexSl 3 v25 v26) ds h k) ds h (fun v27 ds h =>
  gd (isB true v23) (fun k => kO (fieldPtr 0 v27) ds h k) ds h (fun v28 ds h =>
  ite2 (isB true v23) (kO (loadAgg 2 h v28) ds h (fun v29 ds h =>
  ite2 (isB true v23) (kO (loadAgg 2 h (tg tm 4)) ds h (fun v30 ds h =>
  ite2 (isB true v23) (call 17 [v29, v30] h (fun v h => (fun v31 ds h =>
  gd (isB false v14) (fun k => kO (pickV v23 v31 (.bool false)) ds h k) ds h (fun v32 ds h =>
  gd (isB true v4) (fun k => kO (pickV v14 (.bool true) v32) ds h k) ds h (fun v33 ds h =>
  kO (pickV v4 v33 (.bool false)) ds h (fun v34 ds h =>
  K .norm (T.set tm 62 v34) ds h)))) v ds h))
  (gd (isB false v14) (fun k => kO (pickV v23 undef (.bool false)) ds h k) ds h (fun v32 ds h =>
  gd (isB true v4) (fun k => kO (pickV v14 (.bool true) v32) ds h k) ds h (fun v33 ds h =>
  kO (pickV v4 v33 (.bool false)) ds h (fun v34 ds h =>
  K .norm (T.set tm 62 v34) ds h))))))
  (ite2 (isB true v23) (call 17 [v29, undef] h (fun v h => (fun v31 ds h =>
  gd (isB false v14) (fun k => kO (pickV v23 v31 (.bool false)) ds h k) ds h (fun v32 ds h =>
  gd (isB true v4) (fun k => kO (pickV v14 (.bool true) v32) ds h k) ds h (fun v33 ds h =>
  kO (pickV v4 v33 (.bool false)) ds h (fun v34 ds h =>
  K .norm (T.set tm 62 v34) ds h)))) v ds h))
  (gd (isB false v14) (fun k => kO (pickV v23 undef (.bool false)) ds h k) ds h (fun v32 ds h =>
  gd (isB true v4) (fun k => kO (pickV v14 (.bool true) v32) ds h k) ds h (fun v33 ds h =>
  kO (pickV v4 v33 (.bool false)) ds h (fun v34 ds h =>
  K .norm (T.set tm 62 v34) ds h)))))))
  (ite2 (isB true v23) (kO (loadAgg 2 h (tg tm 4)) ds h (fun v30 ds h =>
  ite2 (isB true v23) (call 17 [undef, v30] h (fun v h => (fun v31 ds h =>
  gd (isB false v14) (fun k => kO (pickV v23 v31 (.bool false)) ds h k) ds h (fun v32 ds h =>
  gd (isB true v4) (fun k => kO (pickV v14 (.bool true) v32) ds h k) ds h (fun v33 ds h =>
  kO (pickV v4 v33 (.bool false)) ds h (fun v34 ds h =>
  K .norm (T.set tm 62 v34) ds h)))) v ds h))
  (gd (isB false v14) (fun k => kO (pickV v23 undef (.bool false)) ds h k) ds h (fun v32 ds h =>
  gd (isB true v4) (fun k => kO (pickV v14 (.bool true) v32) ds h k) ds h (fun v33 ds h =>
  kO (pickV v4 v33 (.bool false)) ds h (fun v34 ds h =>
  K .norm (T.set tm 62 v34) ds h))))))
  (ite2 (isB true v23) (call 17 [undef, undef] h (fun v h => (fun v31 ds h =>
  gd (isB false v14) (fun k => kO (pickV v23 v31 (.bool false)) ds h k) ds h (fun v32 ds h =>
  gd (isB true v4) (fun k => kO (pickV v14 (.bool true) v32) ds h k) ds h (fun v33 ds h =>
  kO (pickV v4 v33 (.bool false)) ds h (fun v34 ds h =>
  K .norm (T.set tm 62 v34) ds h)))) v ds h))
  (gd (isB false v14) (fun k => kO (pickV v23 undef (.bool false)) ds h k) ds h (fun v32 ds h =>
  gd (isB true v4) (fun k => kO (pickV v14 (.bool true) v32) ds h k) ds h (fun v33 ds h =>
  kO (pickV v4 v33 (.bool false)) ds h (fun v34 ds h =>
  K .norm (T.set tm 62 v34) ds h)))))))))))
  (gd (isB true v23) (fun k => kO (some (tg tm 8)) ds h k) ds h (fun v26 ds h =>
  gd (isB true v23) (fun k => kO (indexSl 3 undef v26) ds h k) ds h (fun v27 ds h =>
  gd (isB true v23) (fun k => kO (fieldPtr 0 v27) ds h k) ds h (fun v28 ds h =>
  ite2 (isB true v23) (kO (loadAgg 2 h v28) ds h (fun v29 ds h =>
  ite2 (isB true v23) (kO (loadAgg 2 h (tg tm 4)) ds h (fun v30 ds h =>
  ite2 (isB true v23) (call 17 [v29, v30] h (fun v h => (fun v31 ds h =>
  gd (isB false v14) (fun k => kO (pickV v23 v31 (.bool false)) ds h k) ds h (fun v32 ds h =>
  gd (isB true v4) (fun k => kO (pickV v14 (.bool true) v32) ds h k) ds h (fun v33 ds h =>
  kO (pickV v4 v33 (.bool false)) ds h (fun v34 ds h =>
  K .norm (T.set tm 62 v34) ds h)))) v ds h))
  (gd (isB false v14) (fun k => kO (pickV v23 undef (.bool false)) ds h k) ds h (fun v32 ds h =>
  gd (isB true v4) (fun k => kO (pickV v14 (.bool true) v32) ds h k) ds h (fun v33 ds h =>
  kO (pickV v4 v33 (.bool false)) ds h (fun v34 ds h =>
  K .norm (T.set tm 62 v34) ds h))))))
  (ite2 (isB true v23) (call 17 [v29, undef] h (fun v h => (fun v31 ds h =>
  gd (isB false v14) (fun k => kO (pickV v23 v31 (.bool false)) ds h k) ds h (fun v32 ds h =>
  gd (isB true v4) (fun k => kO (pickV v14 (.bool true) v32) ds h k) ds h (fun v33 ds h =>
  kO (pickV v4 v33 (.bool false)) ds h (fun v34 ds h =>
  K .norm (T.set tm 62 v34) ds h)))) v ds h))
  (gd (isB false v14) (fun k => kO (pickV v23 undef (.bool false)) ds h k) ds h (fun v32 ds h =>
  gd (isB true v4) (fun k => kO (pickV v14 (.bool true) v32) ds h k) ds h (fun v33 ds h =>
  kO (pickV v4 v33 (.bool false)) ds h (fun v34 ds h =>
  K .norm (T.set tm 62 v34) ds h)))))))
  (ite2 (isB true v23) (kO (loadAgg 2 h (tg tm 4)) ds h (fun v30 ds h =>
  ite2 (isB true v23) (call 17 [undef, v30] h (fun v h => (fun v31 ds h =>
  gd (isB false v14) (fun k => kO (pickV v23 v31 (.bool false)) ds h k) ds h (fun v32 ds h =>
  gd (isB true v4) (fun k => kO (pickV v14 (.bool true) v32) ds h k) ds h (fun v33 ds h =>
  kO (pickV v4 v33 (.bool false)) ds h (fun v34 ds h =>
  K .norm (T.set tm 62 v34) ds h)))) v ds h))
  (gd (isB false v14) (fun k => kO (pickV v23 undef (.bool false)) ds h k) ds h (fun v32 ds h =>
  gd (isB true v4) (fun k => kO (pickV v14 (.bool true) v32) ds h k) ds h (fun v33 ds h =>
  kO (pickV v4 v33 (.bool false)) ds h (fun v34 ds h =>
  K .norm (T.set tm 62 v34) ds h))))))
  (ite2 (isB true v23) (call 17 [undef, undef] h (fun v h => (fun v31 ds h =>
  gd (isB false v14) (fun k => kO (pickV v23 v31 (.bool false)) ds h k) ds h (fun v32 ds h =>
  gd (isB true v4) (fun k => kO (pickV v14 (.bool true) v32) ds h k) ds h (fun v33 ds h =>
  kO (pickV v4 v33 (.bool false)) ds h (fun v34 ds h =>
  K .norm (T.set tm 62 v34) ds h)))) v ds h))
  (gd (isB false v14) (fun k => kO (pickV v23 undef (.bool false)) ds h k) ds h (fun v32 ds h =>
  gd (isB true v4) (fun k => kO (pickV v14 (.bool true) v32) ds h k) ds h (fun v33 ds h =>
  kO (pickV v4 v33 (.bool false)) ds h (fun v34 ds h =>
  K .norm (T.set tm 62 v34) ds h)))))))))))))))))))))))))))))))))) h0.next ⟨h0.objs, h0.next + 35⟩
noncomputable def r37_8 : CodeT := fun call _ tm ds h K =>
  kO (binV Try.prog .add 3 true (tg tm 8) (.int .i64 (1))) ds h (fun v1 ds h =>
  K .norm (T.set tm 8 v1) ds h)
noncomputable def l37_9 : Box CodeT := ⟨seqC ⟨seqC ⟨r37_7⟩ ⟨condC ⟨fun _ tm => tg tm 62⟩ skipC (exitC 0)⟩⟩ ⟨blockC 1 ⟨r37_8⟩⟩⟩
noncomputable def r37_9 : CodeT := fun call _ tm ds h K =>
  K .norm (T.set tm 9 (.slice none 0 0)) ds h
noncomputable def r37_10 : CodeT := fun call _ tm ds h K =>
  kO (fieldPtr 1 (tg tm 3)) ds h (fun v1 ds h =>
  kO (loadOne h v1) ds h (fun v2 ds h =>
  kO (sliceSl 3 v2 none (some (tg tm 8)) none) ds h (fun v4 ds h =>
  kH (appendV 3 32 h (tg tm 9) v4) ds (fun v5 ds h =>
  K .norm (T.set tm 9 v5) ds h))))
noncomputable def r37_11 : CodeT := fun call _ tm ds h K =>
  kO (loadAgg 2 h (tg tm 4)) ds h (fun v1 ds h =>
  kO (aggO (fill [(.int .i64 (0)), (.string (strB [])), (.int .i64 (0))] (plc [(0, 2), (2, 1)]) [(0, v1), (1, (tg tm 2))])) ds h (fun v3 ds h =>
  kA (mkLit 1 h.next (fill (repl [(.int .i64 (0)), (.string (strB [])), (.int .i64 (0))] 1) (pl 3) [(0, v3)])) ds h (fun v4 ds h =>
  kH (appendV 3 32 h (tg tm 9) v4) ds (fun v5 ds h =>
  K .norm (T.set tm 9 v5) ds h))))
noncomputable def r37_12 : CodeT := fun call _ tm ds h K =>
  kO (fieldPtr 1 (tg tm 3)) ds h (fun v1 ds h =>
  kO (loadOne h v1) ds h (fun v2 ds h =>
  kO (sliceSl 3 v2 (some (tg tm 8)) none none) ds h (fun v4 ds h =>
  kH (appendV 3 32 h (tg tm 9) v4) ds (fun v5 ds h =>
  K .norm (T.set tm 9 v5) ds h))))
noncomputable def r37_13 : CodeT := fun call _ tm ds h K =>
  kO (fieldPtr 0 (tg tm 3)) ds h (fun v0 ds h =>
  kO (loadOne h v0) ds h (fun v1 ds h =>
  kO (aggO (fill [(.int .i64 (0)), (.slice none 0 0)] (plc [(0, 1), (1, 1)]) [(0, v1), (1, (tg tm 9))])) ds h (fun v3 ds h =>
  kH (withV undef (storeV 2 h (tg tm 6) v3)) ds (fun v4 ds h =>
  K .norm (T.set tm 7 (.int .i64 (0))) ds h))))
noncomputable def c37 : Box CodeT := ⟨seqC ⟨r37_0⟩ ⟨seqC ⟨seqC ⟨r37_1⟩ ⟨condC ⟨fun _ tm => tg tm 12⟩ ⟨seqC ⟨r37_2⟩ retC⟩ skipC⟩⟩ ⟨seqC ⟨seqC ⟨r37_3⟩ ⟨condC ⟨fun _ tm => tg tm 21⟩ ⟨seqC ⟨r37_4⟩ retC⟩ skipC⟩⟩ ⟨seqC ⟨r37_5⟩ ⟨seqC ⟨r37_6⟩ ⟨seqC ⟨blockC 0 (loopB l37_9)⟩ ⟨seqC ⟨r37_9⟩ ⟨seqC ⟨r37_10⟩ ⟨seqC ⟨r37_11⟩ ⟨seqC ⟨r37_12⟩ ⟨seqC ⟨r37_13⟩ retC⟩⟩⟩⟩⟩⟩⟩⟩⟩⟩⟩
noncomputable def q37 : Box (T Value → H → Option (List Value)) := ⟨fun tm h => (match loadAgg 2 h (tg tm 6) with | some v => (match (some [tg tm 7] : Option (List Value)) with | some l => some (v :: l) | none => none) | none => none)⟩

end Go.Proofs.Ytpoedopdcpejmaa
