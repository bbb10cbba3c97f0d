import Derived.Test.YtilpiiafjehbnaaGreatDoorEvZ
import Derived.KernelRfl
import Derived.Test.YtilpiiafjehbnaaGreatDoorRows
import Derived.WalkKit
import Derived.ProofKit
import Derived.OpenShut
import Derived.LaidMore
import Derived.SevenTiedAt
import Derived.Stop.LaidErr
import Derived.Shelf.Vars
set_option linter.unusedSimpArgs false
set_option linter.unusedVariables false
namespace Go.Proofs.YtilpiiafjehbnaaGreatDoor
open Go.Ev
noncomputable section
def masks : List Nat := [0, 0, 0, 1279, 268500989, 4836367361245187422683123, 551903305719, 37778950229199526330355, 983, 68720527869, 637, 7, 637, 17179882493, 31, 67126323, 537952287, 37927084532505679758335, 9241966977638203901, 1237944771451700950226436605, 604539002626618639253567, 2199023255567, 39, 19, 5, 19, 19495146362428025668124799, 138351151749653378483, 5, 101218289428364493977104185500852357152742950873023135088627, 144115188080050685, 168749647921724716085108979181559805, 15, 8590983311, 66483, 19, 5, 5, 5, 2097283, 51, 5, 19, 19, 19, 0, 5, 19342813113979202331215859, 19, 31, 525, 2097725, 44739261, 3288380080516023870551917159996933195852746326003, 243, 2097715, 1386653, 4503616001942519, 531911, 524353, 19, 5491, 0, 2214597117, 2267743825679, 63, 7, 1, 5, 115, 513, 1, 1, 1, 1, 0, 1, 3, 1, 1, 2475898968041195628073582607, 281749925920893, 19, 0, 0, 21, 13, 2923003971560093291123168138537876760321514930163, 20426010943356750102455122975, 8796126839539, 16810611, 19, 8589934835, 9007237909447711, 66483, 5, 16661, 13, 5, 5, 85, 1037, 0, 702342826256273603086707106465568295829491, 17181970547, 263111, 16785693, 21, 21, 316912838952437276284744179709, 19, 0, 151115727469970589747187, 8211, 65555, 66109, 4243, 32915, 262771, 67240563, 749019592093908130998168547243562859198691857383367, 17247509535, 0, 1107300861, 19, 19, 281518060864637, 5, 3259264009699125022261772349, 19, 19, 71, 71, 15663183516433892416764882583213662997805349754095402995, 5, 77, 5, 5, 19, 1037, 5, 17188391667, 0, 0, 0, 0, 0, 0, 0, 0, 0, 0, 0, 0, 0, 0, 0, 0, 0, 0, 0, 0, 0, 0, 0, 0, 0, 0, 0, 0, 0, 0, 0]
def outside : List (Nat × XK) := [(45, .index 0), (62, .idxByte), (83, .same), (84, .noZero 5), (102, .count), (111, .index 0), (122, .idxByte)]
abbrev NG : Nat := 8
def kL (o : Option (List Lt)) (K : List Lt → Bool) : Bool := match o with | some l => K l | none => false
def SM : Value := (.string (strB [48, 48, 48, 49, 48, 50, 48, 51, 48, 52, 48, 53, 48, 54, 48, 55, 48, 56, 48, 57, 49, 48, 49, 49, 49, 50, 49, 51, 49, 52, 49, 53, 49, 54, 49, 55, 49, 56, 49, 57, 50, 48, 50, 49, 50, 50, 50, 51, 50, 52, 50, 53, 50, 54, 50, 55, 50, 56, 50, 57, 51, 48, 51, 49, 51, 50, 51, 51, 51, 52, 51, 53, 51, 54, 51, 55, 51, 56, 51, 57, 52, 48, 52, 49, 52, 50, 52, 51, 52, 52, 52, 53, 52, 54, 52, 55, 52, 56, 52, 57, 53, 48, 53, 49, 53, 50, 53, 51, 53, 52, 53, 53, 53, 54, 53, 55, 53, 56, 53, 57, 54, 48, 54, 49, 54, 50, 54, 51, 54, 52, 54, 53, 54, 54, 54, 55, 54, 56, 54, 57, 55, 48, 55, 49, 55, 50, 55, 51, 55, 52, 55, 53, 55, 54, 55, 55, 55, 56, 55, 57, 56, 48, 56, 49, 56, 50, 56, 51, 56, 52, 56, 53, 56, 54, 56, 55, 56, 56, 56, 57, 57, 48, 57, 49, 57, 50, 57, 51, 57, 52, 57, 53, 57, 54, 57, 55, 57, 56, 57, 57]))
def r7_0 : CodeT := fun c _ t d h K =>
 K .norm (T.set t 4 (.bool false)) d h
def r7_1 : CodeT := fun c _ t d h K =>
 c 11 [] h (fun v h => (fun v0 d h =>
 K .norm (T.set t 5 v0) d h) v d h)
def r7_2 : CodeT := fun c _ t d h K => (⟨opStep (oT 0) pI wT
 ⟨opStep (oK fun e _ _ => lenSl (nthD 0 e)) pI wT
 ⟨opStep (oK fun e _ _ => binV Tryz.prog .gtr 3 true (nthD 0 e) (.int .i64 3000)) pI wT
 ⟨opStep (oN 0) pI wT
 ⟨opStep (oT 1) pI (wB false 0)
 ⟨opStep (oK fun e _ _ => lenSl (nthD 0 e)) pI (wB false 1)
 ⟨opStep (oK fun e _ _ => binV Tryz.prog .gtr 3 true (nthD 0 e) (.int .i64 10000)) pI (wB false 2)
 ⟨opStep (oK fun e _ _ => pickV (nthD 3 e) (.bool true) (nthD 0 e)) pI wT
 ⟨opStep (oN 0) pI wT
 ⟨opStep (oT 5) pI (wB false 0)
 ⟨opStep (oK fun e _ _ => unV .not (nthD 0 e)) pI (wB false 1)
 ⟨opStep (oK fun e _ _ => pickV (nthD 2 e) (.bool true) (nthD 0 e)) (pS 27) wT
 ⟨fun _ _ t d h K => K .norm t d h⟩⟩⟩⟩⟩⟩⟩⟩⟩⟩⟩⟩⟩ : Box OpsT).f c [] t d h K
def r7_3 : CodeT := fun c _ t d h K =>
 K .norm (T.set t 4 (tg t 5)) d h
def r7_4 : CodeT := fun c _ t d h K =>
 c 10 [(tg t 0)] h (fun v h => (fun v1 d h =>
 kO (tupNth 0 v1) d h (fun v3 d h =>
 kO (tupNth 1 v1) d h (fun v4 d h =>
 kO (tupNth 2 v1) d h (fun v5 d h =>
 kA (some (.rw [(.int .u8 0), (.int .u8 0), (.int .i64 0), (.slice none 0 0), (.string (strB [])), (.int .u32 0), (.int .i64 0), (.int .u64 0), (.int .u64 0), (.int .i64 0), (.string (strB [])), (.bool false), (.bool false)] (some 28), ptrTo h.next)) d h (fun v6 d h =>
 kH (withV undef (storeV 13 h v6 v3)) d (fun v7 d h =>
 K .norm (T.set (T.set (T.set t 6 v6) 7 v4) 8 v5) d h)))))) v d h)
def r7_5 : CodeT := fun c _ t d h K => (⟨opStep (oT 8) pI wT
 ⟨opStep (oK fun e _ _ => binV Tryz.prog .neq 31 true (nthD 0 e) (.int .i64 0)) pI wT
 ⟨opStep (oN 0) pI wT
 ⟨opStep (oT 7) pI (wB false 0)
 ⟨opStep (oK fun e _ _ => binV Tryz.prog .lss 3 true (nthD 0 e) (.int .i64 0)) pI (wB false 1)
 ⟨opStep (oK fun e _ _ => pickV (nthD 2 e) (.bool true) (nthD 0 e)) pI wT
 ⟨opStep (oN 0) pI wT
 ⟨opStep (oT 7) pI (wB false 0)
 ⟨opStep (oT 0) pI (wB false 1)
 ⟨opStep (oK fun e _ _ => lenSl (nthD 0 e)) pI (wB false 2)
 ⟨opStep (oK fun e _ _ => binV Tryz.prog .gtr 3 false (nthD 2 e) (nthD 0 e)) pI (wB false 3)
 ⟨opStep (oK fun e _ _ => pickV (nthD 4 e) (.bool true) (nthD 0 e)) (pS 46) wT
 ⟨fun _ _ t d h K => K .norm t d h⟩⟩⟩⟩⟩⟩⟩⟩⟩⟩⟩⟩⟩ : Box OpsT).f c [] t d h K
def r7_6 : CodeT := fun c _ t d h K =>
 K .norm (T.set t 4 (.bool false)) d h
def r7_7 : CodeT := fun c _ t d h K =>
 kO (binV Tryz.prog .eql 3 true (tg t 7) (.int .i64 0)) d h (fun v1 d h =>
 K .norm (T.set t 48 v1) d h)
def r7_8 : CodeT := fun c _ t d h K =>
 kO (loadAgg 13 h (tg t 6)) d h (fun v0 d h =>
 kO (aggO (fill [(.int .u8 0), (.int .u8 0), (.int .i64 0), (.slice none 0 0), (.string (strB [])), (.int .u32 0), (.int .i64 0), (.int .u64 0), (.int .u64 0), (.int .i64 0), (.string (strB [])), (.bool false), (.bool false)] (plc [(0, 1), (1, 8), (9, 1), (10, 1), (11, 1), (12, 1)]) [])) d h (fun v1 d h =>
 c 14 [v0, v1] h (fun v h => (fun v2 d h =>
 K .norm (T.set t 4 v2) d h) v d h)))
def r7_9 : CodeT := fun c _ t d h K =>
 kO (fieldPtr 0 (tg t 6)) d h (fun v0 d h =>
 kO (loadOne h v0) d h (fun v1 d h =>
 kO (binV Tryz.prog .eql 5 true v1 (.int .u8 6)) d h (fun v2 d h =>
 K .norm (T.set t 54 v2) d h)))
def r7_10 : CodeT := fun c _ t d h K =>
 kO (loadAgg 13 h (tg t 6)) d h (fun v0 d h =>
 kO (fieldPtr 12 (tg t 6)) d h (fun v1 d h =>
 kO (loadOne h v1) d h (fun v2 d h =>
 kO (aggO (fill [(.int .u8 0), (.int .u8 0), (.int .i64 0), (.slice none 0 0), (.string (strB [])), (.int .u32 0), (.int .i64 0), (.int .u64 0), (.int .u64 0), (.int .i64 0), (.string (strB [])), (.bool false), (.bool false)] (plc [(0, 1), (1, 8), (9, 1), (10, 1), (11, 1), (12, 1)]) [(0, (.int .u8 6)), (5, v2)])) d h (fun v3 d h =>
 c 14 [v0, v3] h (fun v h => (fun v4 d h =>
 K .norm (T.set t 4 v4) d h) v d h)))))
def r7_11 : CodeT := fun c _ t d h K =>
 kO (loadAgg 13 h (tg t 6)) d h (fun v0 d h =>
 c 17 [v0] h (fun v h => (fun v1 d h =>
 kO (tupNth 0 v1) d h (fun v3 d h =>
 kO (tupNth 1 v1) d h (fun v4 d h =>
 K .norm (T.set (T.set t 9 v3) 10 v4) d h))) v d h))
def r7_12 : CodeT := fun c _ t d h0 K =>
 (fun (b0 : Nat) (h : H) =>
 kO (binV Tryz.prog .neq 31 true (tg t 10) (.int .i64 0)) d h (fun v1 d h =>
 gd (isB false v1) (fun k => kO (some (tg t 9)) d h k) d h (fun v3 d h =>
 ite2 (isB false v1) (kO (bytesStr h v3) d h (fun v4 d h =>
 gd (isB false v1) (fun k => kO (some (tg t 0)) d h k) d h (fun v5 d h =>
 gd (isB false v1) (fun k => kO (some (tg t 7)) d h k) d h (fun v6 d h =>
 gd (isB false v1) (fun k => kO (sliceSl 1 v5 none (some v6) none) d h k) d h (fun v7 d h =>
 ite2 (isB false v1) (kO (bytesStr h v7) d h (fun v8 d h =>
 gd (isB false v1) (fun k => kO (binV Tryz.prog .neq 9 false v4 v8) d h k) d h (fun v9 d h =>
 kO (pickV v1 (.bool true) v9) d h (fun v10 d h =>
 K .norm (T.set t 75 v10) d h))))
 (gd (isB false v1) (fun k => kO (binV Tryz.prog .neq 9 false v4 undef) d h k) d h (fun v9 d h =>
 kO (pickV v1 (.bool true) v9) d h (fun v10 d h =>
 K .norm (T.set t 75 v10) d h))))))))
 (gd (isB false v1) (fun k => kO (some (tg t 0)) d h k) d h (fun v5 d h =>
 gd (isB false v1) (fun k => kO (some (tg t 7)) d h k) d h (fun v6 d h =>
 gd (isB false v1) (fun k => kO (sliceSl 1 v5 none (some v6) none) d h k) d h (fun v7 d h =>
 ite2 (isB false v1) (kO (bytesStr h v7) d h (fun v8 d h =>
 gd (isB false v1) (fun k => kO (binV Tryz.prog .neq 9 false undef v8) d h k) d h (fun v9 d h =>
 kO (pickV v1 (.bool true) v9) d h (fun v10 d h =>
 K .norm (T.set t 75 v10) d h))))
 (gd (isB false v1) (fun k => kO (binV Tryz.prog .neq 9 false undef undef) d h k) d h (fun v9 d h =>
 kO (pickV v1 (.bool true) v9) d h (fun v10 d h =>
 K .norm (T.set t 75 v10) d h)))))))))) h0.next ⟨h0.objs, h0.next + 11⟩
def r7_13 : CodeT := fun c _ t d h K =>
 K .norm (T.set t 4 (.bool false)) d h
def r7_14 : CodeT := fun c _ t d h K =>
 K .norm (T.set t 11 (.slice none 0 0)) d h
def r7_15 : CodeT := fun c _ t d h K =>
 kH (appendV 5 1 1 h (tg t 11) (tg t 0)) d (fun v2 d h =>
 K .norm (T.set t 11 v2) d h)
def r7_16 : CodeT := fun c _ t d h K =>
 kH (appendV 5 1 1 h (tg t 11) (tg t 1)) d (fun v2 d h =>
 K .norm (T.set t 11 v2) d h)
def r7_17 : CodeT := fun c _ t d h K =>
 c 10 [(tg t 11)] h (fun v h => (fun v1 d h =>
 kO (tupNth 0 v1) d h (fun v3 d h =>
 kO (tupNth 1 v1) d h (fun v4 d h =>
 kO (tupNth 2 v1) d h (fun v5 d h =>
 kA (some (.rw [(.int .u8 0), (.int .u8 0), (.int .i64 0), (.slice none 0 0), (.string (strB [])), (.int .u32 0), (.int .i64 0), (.int .u64 0), (.int .u64 0), (.int .i64 0), (.string (strB [])), (.bool false), (.bool false)] (some 28), ptrTo h.next)) d h (fun v6 d h =>
 kH (withV undef (storeV 13 h v6 v3)) d (fun v7 d h =>
 K .norm (T.set (T.set (T.set t 12 v6) 13 v4) 14 v5) d h)))))) v d h)
def r7_18 : CodeT := fun c _ t d h K => (⟨opStep (oT 14) pI wT
 ⟨opStep (oK fun e _ _ => binV Tryz.prog .eql 31 true (nthD 0 e) (.int .i64 0)) pI wT
 ⟨opStep (oN 0) pI wT
 ⟨opStep (oT 13) pI (wB true 0)
 ⟨opStep (oT 7) pI (wB true 1)
 ⟨opStep (oK fun e _ _ => binV Tryz.prog .eql 3 false (nthD 1 e) (nthD 0 e)) pI (wB true 2)
 ⟨opStep (oK fun e _ _ => pickV (nthD 3 e) (nthD 0 e) (.bool false)) pI wT
 ⟨opStep (oN 0) pI wT
 ⟨opStep (oK fun _ t h => loadAgg 13 h (tg t 12)) pI (wB true 0)
 ⟨opStep (oK fun _ t h => loadAgg 13 h (tg t 6)) pI (wB true 1)
 ⟨opStep ⟨fun c e t d h K => c 14 [(nthD 1 e), (nthD 0 e)] h (fun v h => (K) v d h)⟩ pI (wB true 2)
 ⟨opStep (oK fun e _ _ => pickV (nthD 3 e) (nthD 0 e) (.bool false)) pI wT
 ⟨opStep (oN 0) (pS 4) wT
 ⟨fun _ _ t d h K => K .norm t d h⟩⟩⟩⟩⟩⟩⟩⟩⟩⟩⟩⟩⟩⟩ : Box OpsT).f c [] t d h K
def c7 : Box CodeT := ⟨seqC ⟨r7_0⟩ ⟨seqC ⟨r7_1⟩ ⟨seqC ⟨seqC ⟨r7_2⟩ ⟨condC (tC 27) ⟨seqC ⟨r7_3⟩ retC⟩ skipC⟩⟩ ⟨seqC ⟨r7_4⟩ ⟨seqC ⟨seqC ⟨r7_5⟩ ⟨condC (tC 46) ⟨seqC ⟨r7_6⟩ retC⟩ skipC⟩⟩ ⟨seqC ⟨seqC ⟨r7_7⟩ ⟨condC (tC 48) ⟨seqC ⟨r7_8⟩ retC⟩ skipC⟩⟩ ⟨seqC ⟨seqC ⟨r7_9⟩ ⟨condC (tC 54) ⟨seqC ⟨r7_10⟩ retC⟩ skipC⟩⟩ ⟨seqC ⟨r7_11⟩ ⟨seqC ⟨seqC ⟨r7_12⟩ ⟨condC (tC 75) ⟨seqC ⟨r7_13⟩ retC⟩ skipC⟩⟩ ⟨seqC ⟨r7_14⟩ ⟨seqC ⟨r7_15⟩ ⟨seqC ⟨r7_16⟩ ⟨seqC ⟨r7_17⟩ ⟨seqC ⟨r7_18⟩ retC⟩⟩⟩⟩⟩⟩⟩⟩⟩⟩⟩⟩⟩⟩
def q7 : Box (T Value → H → Option (List Value)) := ⟨fun t h => some [tg t 4]⟩
def r8_0 : CodeT := fun c _ t d h K =>
 kA (some (.rw (Value.cells (tg t 1)).toList (some 28), ptrTo h.next)) d h (fun v0 d h =>
 K .norm (T.set (T.set t 4 v0) 6 (.bool false)) d h)
def r8_1 : CodeT := fun c _ t d h K =>
 kA (mkBytes 5 h.next (tg t 0)) d h (fun v1 d h =>
 c 10 [v1] h (fun v h => (fun v2 d h =>
 kO (tupNth 0 v2) d h (fun v4 d h =>
 kO (tupNth 1 v2) d h (fun v5 d h =>
 kO (tupNth 2 v2) d h (fun v6 d h =>
 kA (some (.rw [(.int .u8 0), (.int .u8 0), (.int .i64 0), (.slice none 0 0), (.string (strB [])), (.int .u32 0), (.int .i64 0), (.int .u64 0), (.int .u64 0), (.int .i64 0), (.string (strB [])), (.bool false), (.bool false)] (some 28), ptrTo h.next)) d h (fun v7 d h =>
 kH (withV undef (storeV 13 h v7 v4)) d (fun v8 d h =>
 K .norm (T.set (T.set (T.set t 7 v7) 8 v5) 9 v6) d h)))))) v d h))
def r8_2 : CodeT := fun c _ t d h K => (⟨opStep (oT 9) pI wT
 ⟨opStep (oK fun e _ _ => binV Tryz.prog .eql 31 true (nthD 0 e) (.int .i64 0)) pI wT
 ⟨opStep (oN 0) pI wT
 ⟨opStep (oT 8) pI (wB true 0)
 ⟨opStep (oT 2) pI (wB true 1)
 ⟨opStep (oK fun e _ _ => binV Tryz.prog .eql 3 false (nthD 1 e) (nthD 0 e)) pI (wB true 2)
 ⟨opStep (oK fun e _ _ => pickV (nthD 3 e) (nthD 0 e) (.bool false)) pI wT
 ⟨opStep (oN 0) pI wT
 ⟨opStep (oK fun _ t h => loadAgg 13 h (tg t 7)) pI (wB true 0)
 ⟨opStep (oK fun _ t h => loadAgg 13 h (tg t 4)) pI (wB true 1)
 ⟨opStep ⟨fun c e t d h K => c 14 [(nthD 1 e), (nthD 0 e)] h (fun v h => (K) v d h)⟩ pI (wB true 2)
 ⟨opStep (oK fun e _ _ => pickV (nthD 3 e) (nthD 0 e) (.bool false)) pI wT
 ⟨opStep (oN 0) (pS 6) wT
 ⟨fun _ _ t d h K => K .norm t d h⟩⟩⟩⟩⟩⟩⟩⟩⟩⟩⟩⟩⟩⟩ : Box OpsT).f c [] t d h K
def c8 : Box CodeT := ⟨seqC ⟨r8_0⟩ ⟨seqC ⟨r8_1⟩ ⟨seqC ⟨r8_2⟩ retC⟩⟩⟩
def q8 : Box (T Value → H → Option (List Value)) := ⟨fun t h => some [tg t 6]⟩
def r10_0 : CodeT := fun c _ t d h K =>
 kA (some (.rw [(.int .u8 0), (.int .u8 0), (.int .i64 0), (.slice none 0 0), (.string (strB [])), (.int .u32 0), (.int .i64 0), (.int .u64 0), (.int .u64 0), (.int .i64 0), (.string (strB [])), (.bool false), (.bool false)] (some 28), ptrTo h.next)) d h (fun v0 d h =>
 K .norm (T.set (T.set (T.set t 2 v0) 3 (.int .i64 0)) 4 (.int .i64 0)) d h)
def r10_1 : CodeT := fun c _ t d h K =>
 kO (lenSl (tg t 0)) d h (fun v1 d h =>
 kO (binV Tryz.prog .gtr 3 true v1 (.int .i64 16384)) d h (fun v2 d h =>
 K .norm (T.set t 9 v2) d h))
def r10_2 : CodeT := fun c _ t d h K =>
 kO (aggO (fill [(.int .u8 0), (.int .u8 0), (.int .i64 0), (.slice none 0 0), (.string (strB [])), (.int .u32 0), (.int .i64 0), (.int .u64 0), (.int .u64 0), (.int .i64 0), (.string (strB [])), (.bool false), (.bool false)] (plc [(0, 1), (1, 8), (9, 1), (10, 1), (11, 1), (12, 1)]) [])) d h (fun v0 d h =>
 kH (withV undef (storeV 13 h (tg t 2) v0)) d (fun v1 d h =>
 K .norm (T.set (T.set t 3 (.int .i64 0)) 4 (.int .i64 3)) d h))
def r10_3 : CodeT := fun c _ t d h K =>
 c 18 [(tg t 0)] h (fun v h => (fun v1 d h =>
 kO (tupNth 0 v1) d h (fun v3 d h =>
 kO (tupNth 1 v1) d h (fun v4 d h =>
 kA (some (.rw [(.int .u8 0), (.int .u8 0), (.int .i64 0), (.slice none 0 0), (.string (strB [])), (.int .u32 0), (.int .i64 0), (.int .u64 0), (.int .u64 0), (.int .i64 0), (.string (strB [])), (.bool false), (.bool false)] (some 28), ptrTo h.next)) d h (fun v5 d h =>
 kH (withV undef (storeV 13 h v5 v3)) d (fun v6 d h =>
 K .norm (T.set (T.set t 5 v5) 6 v4) d h))))) v d h)
def r10_4 : CodeT := fun c _ t d h K =>
 kO (loadAgg 13 h (tg t 5)) d h (fun v0 d h =>
 kH (withV undef (storeV 13 h (tg t 2) v0)) d (fun v2 d h =>
 K .norm (T.set (T.set t 3 (tg t 6)) 4 (.int .i64 0)) d h))
def c10 : Box CodeT := ⟨seqC ⟨r10_0⟩ ⟨seqC ⟨seqC ⟨r10_1⟩ ⟨condC (tC 9) ⟨seqC ⟨r10_2⟩ retC⟩ skipC⟩⟩ ⟨seqC ⟨r10_3⟩ ⟨seqC ⟨r10_4⟩ retC⟩⟩⟩⟩
def q10 : Box (T Value → H → Option (List Value)) := ⟨fun t h => (match loadAgg 13 h (tg t 2) with | some v => (match (some [tg t 3, tg t 4] : Option (List Value)) with | some l => some (v :: l) | none => none) | none => none)⟩
def r11_0 : CodeT := fun c _ t d h K =>
 K .norm (T.set t 0 (.bool false)) d h
def r11_1 : CodeT := fun c _ t d h K =>
 kA (mkLit 9 2 h.next (fill (repl [(.string (strB []))] 2) (pl 1) [(0, (.string (strB [97]))), (1, (.string (strB [98])))])) d h (fun v0 d h =>
 kO (aggO (fill [(.int .u8 0), (.int .i64 0), (.slice none 0 0), (.string (strB [])), (.int .u32 0), (.int .i64 0), (.int .u64 0), (.int .u64 0)] (plc [(0, 1), (1, 1), (2, 1), (3, 1), (4, 1), (5, 1), (6, 1), (7, 1)]) [(0, (.int .u8 1)), (2, v0)])) d h (fun v1 d h =>
 kO (aggO (fill [(.int .u8 0), (.int .u8 0), (.int .i64 0), (.slice none 0 0), (.string (strB [])), (.int .u32 0), (.int .i64 0), (.int .u64 0), (.int .u64 0), (.int .i64 0), (.string (strB [])), (.bool false), (.bool false)] (plc [(0, 1), (1, 8), (9, 1), (10, 1), (11, 1), (12, 1)]) [(0, (.int .u8 1)), (1, v1)])) d h (fun v2 d h =>
 kA (some (.rw [(.int .u8 0), (.int .u8 0), (.int .i64 0), (.slice none 0 0), (.string (strB [])), (.int .u32 0), (.int .i64 0), (.int .u64 0), (.int .u64 0), (.int .i64 0), (.string (strB [])), (.bool false), (.bool false)] (some 28), ptrTo h.next)) d h (fun v3 d h =>
 kH (withV undef (storeV 13 h v3 v2)) d (fun v4 d h =>
 K .norm (T.set t 1 v3) d h)))))
def r11_2 : CodeT := fun c _ t d h K =>
 kA (mkLit 9 1 h.next (fill (repl [(.string (strB []))] 1) (pl 1) [(0, (.string (strB [97])))])) d h (fun v0 d h =>
 kO (aggO (fill [(.int .u8 0), (.int .i64 0), (.slice none 0 0), (.string (strB [])), (.int .u32 0), (.int .i64 0), (.int .u64 0), (.int .u64 0)] (plc [(0, 1), (1, 1), (2, 1), (3, 1), (4, 1), (5, 1), (6, 1), (7, 1)]) [(0, (.int .u8 2)), (2, v0), (5, (.int .i64 5)), (3, (.string (strB [120, 121])))])) d h (fun v1 d h =>
 kO (aggO (fill [(.int .u8 0), (.int .u8 0), (.int .i64 0), (.slice none 0 0), (.string (strB [])), (.int .u32 0), (.int .i64 0), (.int .u64 0), (.int .u64 0), (.int .i64 0), (.string (strB [])), (.bool false), (.bool false)] (plc [(0, 1), (1, 8), (9, 1), (10, 1), (11, 1), (12, 1)]) [(0, (.int .u8 1)), (1, v1)])) d h (fun v2 d h =>
 kA (some (.rw [(.int .u8 0), (.int .u8 0), (.int .i64 0), (.slice none 0 0), (.string (strB [])), (.int .u32 0), (.int .i64 0), (.int .u64 0), (.int .u64 0), (.int .i64 0), (.string (strB [])), (.bool false), (.bool false)] (some 28), ptrTo h.next)) d h (fun v3 d h =>
 kH (withV undef (storeV 13 h v3 v2)) d (fun v4 d h =>
 K .norm (T.set t 2 v3) d h)))))
def r11_3 : CodeT := fun c _ t d h K =>
 kO (loadAgg 13 h (tg t 1)) d h (fun v0 d h =>
 c 8 [(.string (strB [103, 101, 116, 32, 97, 32, 98, 13, 10])), v0, (.int .i64 9)] h (fun v h => (fun v1 d h =>
 gd (isB true v1) (fun k => kO (loadAgg 13 h (tg t 2)) d h (k)) d h (fun v3 d h =>
 gd (isB true v1) (fun k => c 8 [(.string (strB [115, 101, 116, 32, 97, 32, 48, 32, 53, 32, 50, 13, 10, 120, 121, 13, 10, 103, 101, 116])), v3, (.int .i64 17)] h (fun v h => (k) v d h)) d h (fun v4 d h =>
 kO (pickV v1 v4 (.bool false)) d h (fun v5 d h =>
 K .norm (T.set t 0 v5) d h)))) v d h))
def c11 : Box CodeT := ⟨seqC ⟨r11_0⟩ ⟨seqC ⟨r11_1⟩ ⟨seqC ⟨r11_2⟩ ⟨seqC ⟨r11_3⟩ retC⟩⟩⟩⟩
def q11 : Box (T Value → H → Option (List Value)) := ⟨fun t h => some [tg t 0]⟩
def r14_0 : CodeT := fun c _ t d h K =>
 kA (some (.rw (Value.cells (tg t 0)).toList (some 28), ptrTo h.next)) d h (fun v0 d h =>
 kA (some (.rw (Value.cells (tg (T.set t 2 v0) 1)).toList (some 28), ptrTo h.next)) d h (fun v1 d h =>
 K .norm (T.set (T.set (T.set t 2 v0) 3 v1) 4 (.bool false)) d h))
def r14_1 : CodeT := fun c _ t d h K => (⟨opStep (oK fun _ t _ => fieldPtr 0 (tg t 2)) pI wT
 ⟨opStep (oK fun e _ h => loadOne h (nthD 0 e)) pI wT
 ⟨opStep (oK fun _ t _ => fieldPtr 0 (tg t 3)) pI wT
 ⟨opStep (oK fun e _ h => loadOne h (nthD 0 e)) pI wT
 ⟨opStep (oK fun e _ _ => binV Tryz.prog .eql 5 false (nthD 2 e) (nthD 0 e)) pI wT
 ⟨opStep (oN 0) pI wT
 ⟨opStep (oK fun _ t _ => fieldPtr 1 (tg t 2)) pI (wB true 0)
 ⟨opStep (oK fun e _ h => loadAgg 8 h (nthD 0 e)) pI (wB true 1)
 ⟨opStep (oK fun _ t _ => fieldPtr 1 (tg t 3)) pI (wB true 2)
 ⟨opStep (oK fun e _ h => loadAgg 8 h (nthD 0 e)) pI (wB true 3)
 ⟨opStep ⟨fun c e t d h K => c 20 [(nthD 2 e), (nthD 0 e)] h (fun v h => (K) v d h)⟩ pI (wB true 4)
 ⟨opStep (oK fun e _ _ => pickV (nthD 5 e) (nthD 0 e) (.bool false)) pI wT
 ⟨opStep (oN 0) pI wT
 ⟨opStep (oK fun _ t _ => fieldPtr 9 (tg t 2)) pI (wB true 0)
 ⟨opStep (oK fun e _ h => loadOne h (nthD 0 e)) pI (wB true 1)
 ⟨opStep (oK fun _ t _ => fieldPtr 9 (tg t 3)) pI (wB true 2)
 ⟨opStep (oK fun e _ h => loadOne h (nthD 0 e)) pI (wB true 3)
 ⟨opStep (oK fun e _ _ => binV Tryz.prog .eql 3 false (nthD 2 e) (nthD 0 e)) pI (wB true 4)
 ⟨opStep (oK fun e _ _ => pickV (nthD 5 e) (nthD 0 e) (.bool false)) pI wT
 ⟨opStep (oN 0) pI wT
 ⟨opStep (oK fun _ t _ => fieldPtr 10 (tg t 2)) pI (wB true 0)
 ⟨opStep (oK fun e _ h => loadOne h (nthD 0 e)) pI (wB true 1)
 ⟨opStep (oK fun _ t _ => fieldPtr 10 (tg t 3)) pI (wB true 2)
 ⟨opStep (oK fun e _ h => loadOne h (nthD 0 e)) pI (wB true 3)
 ⟨opStep (oK fun e _ _ => binV Tryz.prog .eql 9 false (nthD 2 e) (nthD 0 e)) pI (wB true 4)
 ⟨opStep (oK fun e _ _ => pickV (nthD 5 e) (nthD 0 e) (.bool false)) pI wT
 ⟨opStep (oN 0) pI wT
 ⟨opStep (oK fun _ t _ => fieldPtr 11 (tg t 2)) pI (wB true 0)
 ⟨opStep (oK fun e _ h => loadOne h (nthD 0 e)) pI (wB true 1)
 ⟨opStep (oK fun _ t _ => fieldPtr 11 (tg t 3)) pI (wB true 2)
 ⟨opStep (oK fun e _ h => loadOne h (nthD 0 e)) pI (wB true 3)
 ⟨opStep (oK fun e _ _ => binV Tryz.prog .eql 4 false (nthD 2 e) (nthD 0 e)) pI (wB true 4)
 ⟨opStep (oK fun e _ _ => pickV (nthD 5 e) (nthD 0 e) (.bool false)) pI wT
 ⟨opStep (oN 0) pI wT
 ⟨opStep (oK fun _ t _ => fieldPtr 12 (tg t 2)) pI (wB true 0)
 ⟨opStep (oK fun e _ h => loadOne h (nthD 0 e)) pI (wB true 1)
 ⟨opStep (oK fun _ t _ => fieldPtr 12 (tg t 3)) pI (wB true 2)
 ⟨opStep (oK fun e _ h => loadOne h (nthD 0 e)) pI (wB true 3)
 ⟨opStep (oK fun e _ _ => binV Tryz.prog .eql 4 false (nthD 2 e) (nthD 0 e)) pI (wB true 4)
 ⟨opStep (oK fun e _ _ => pickV (nthD 5 e) (nthD 0 e) (.bool false)) pI wT
 ⟨opStep (oN 0) (pS 4) wT
 ⟨fun _ _ t d h K => K .norm t d h⟩⟩⟩⟩⟩⟩⟩⟩⟩⟩⟩⟩⟩⟩⟩⟩⟩⟩⟩⟩⟩⟩⟩⟩⟩⟩⟩⟩⟩⟩⟩⟩⟩⟩⟩⟩⟩⟩⟩⟩⟩⟩ : Box OpsT).f c [] t d h K
def c14 : Box CodeT := ⟨seqC ⟨r14_0⟩ ⟨seqC ⟨r14_1⟩ retC⟩⟩
def q14 : Box (T Value → H → Option (List Value)) := ⟨fun t h => some [tg t 4]⟩
def r17_0 : CodeT := fun c _ t d h K =>
 kA (some (.rw (Value.cells (tg t 0)).toList (some 28), ptrTo h.next)) d h (fun v0 d h =>
 K .norm (T.set (T.set (T.set t 1 v0) 2 (.slice none 0 0)) 3 (.int .i64 0)) d h)
def r17_1 : CodeT := fun c _ t d h K => (⟨opStep (oK fun _ t _ => fieldPtr 0 (tg t 1)) pI wT
 ⟨opStep (oK fun e _ h => loadOne h (nthD 0 e)) pI wT
 ⟨opStep (oK fun e _ _ => binV Tryz.prog .lss 5 true (nthD 0 e) (.int .u8 1)) pI wT
 ⟨opStep (oN 0) pI wT
 ⟨opStep (oK fun _ t _ => fieldPtr 0 (tg t 1)) pI (wB false 0)
 ⟨opStep (oK fun e _ h => loadOne h (nthD 0 e)) pI (wB false 1)
 ⟨opStep (oK fun e _ _ => binV Tryz.prog .gtr 5 true (nthD 0 e) (.int .u8 5)) pI (wB false 2)
 ⟨opStep (oK fun e _ _ => pickV (nthD 3 e) (.bool true) (nthD 0 e)) pI wT
 ⟨opStep (oN 0) pI wT
 ⟨opStep (oK fun _ t h => loadAgg 13 h (tg t 1)) pI (wB false 0)
 ⟨opStep ⟨fun c e t d h K => c 21 [(nthD 0 e)] h (fun v h => (K) v d h)⟩ pI (wB false 1)
 ⟨opStep (oK fun e _ _ => unV .not (nthD 0 e)) pI (wB false 2)
 ⟨opStep (oK fun e _ _ => pickV (nthD 3 e) (.bool true) (nthD 0 e)) (pS 22) wT
 ⟨fun _ _ t d h K => K .norm t d h⟩⟩⟩⟩⟩⟩⟩⟩⟩⟩⟩⟩⟩⟩ : Box OpsT).f c [] t d h K
def r17_2 : CodeT := fun c _ t d h K =>
 K .norm (T.set (T.set t 2 (.slice none 0 0)) 3 (.int .i64 8)) d h
def r17_3 : CodeT := fun c _ t d h K =>
 K .norm (T.set t 4 (.slice none 0 0)) d h
def r17_4 : CodeT := fun c _ t d h K =>
 kO (fieldPtr 0 (tg t 1)) d h (fun v0 d h =>
 kO (loadOne h v0) d h (fun v1 d h =>
 K .norm (T.set t 24 v1) d h))
def r17_6 : CodeT := fun c _ t d h K =>
 kO (binV Tryz.prog .eql 5 true (tg t 24) (.int .u8 1)) d h (fun v0 d h =>
 K .norm (T.set t 26 v0) d h)
def r17_7 : CodeT := fun c _ t d h K =>
 kO (fieldPtr 1 (tg t 1)) d h (fun v0 d h =>
 kO (loadAgg 8 h v0) d h (fun v1 d h =>
 kA (some (.rw [(.int .u8 0), (.int .i64 0), (.slice none 0 0), (.string (strB [])), (.int .u32 0), (.int .i64 0), (.int .u64 0), (.int .u64 0)] (some 26), ptrTo h.next)) d h (fun v2 d h =>
 kH (withV undef (storeV 8 h v2 v1)) d (fun v3 d h =>
 K .norm (T.set t 5 v2) d h))))
def r17_8 : CodeT := fun c _ t d h K =>
 kO (loadAgg 8 h (tg t 5)) d h (fun v0 d h =>
 c 22 [v0] h (fun v h => (fun v1 d h =>
 K .norm (T.set t 6 v1) d h) v d h))
def r17_9 : CodeT := fun c _ t d h K =>
 kO (binV Tryz.prog .neq 31 true (tg t 6) (.int .i64 0)) d h (fun v1 d h =>
 K .norm (T.set t 33 v1) d h)
def r17_10 : CodeT := fun c _ t d h K =>
 K .norm (T.set (T.set t 2 (.slice none 0 0)) 3 (tg t 6)) d h
def r17_11 : CodeT := fun c _ t d h K => (⟨opStep (oK fun _ t _ => fieldPtr 1 (tg t 5)) pI wT
 ⟨opStep (oK fun e _ h => loadOne h (nthD 0 e)) pI wT
 ⟨opStep (oK fun e _ _ => binV Tryz.prog .neq 3 true (nthD 0 e) (.int .i64 0)) pI wT
 ⟨opStep (oN 0) pI wT
 ⟨opStep (oK fun _ t _ => fieldPtr 2 (tg t 5)) pI (wB false 0)
 ⟨opStep (oK fun e _ h => loadOne h (nthD 0 e)) pI (wB false 1)
 ⟨opStep ⟨fun c e t d h K => c 23 [(nthD 0 e), (.func (.func 24) #[] #[])] h (fun v h => (K) v d h)⟩ pI (wB false 2)
 ⟨opStep (oK fun e _ _ => pickV (nthD 3 e) (.bool true) (nthD 0 e)) (pS 42) wT
 ⟨fun _ _ t d h K => K .norm t d h⟩⟩⟩⟩⟩⟩⟩⟩⟩ : Box OpsT).f c [] t d h K
def r17_12 : CodeT := fun c _ t d h K =>
 K .norm (T.set (T.set t 2 (.slice none 0 0)) 3 (.int .i64 8)) d h
def r17_13 : CodeT := fun c _ t d h K =>
 kO (loadAgg 8 h (tg t 5)) d h (fun v0 d h =>
 c 26 [v0] h (fun v h => (fun v1 d h =>
 kO (tupNth 0 v1) d h (fun v3 d h =>
 kO (tupNth 1 v1) d h (fun v4 d h =>
 K .norm (T.set (T.set t 7 v3) 8 v4) d h))) v d h))
def r17_14 : CodeT := fun c _ t d h K =>
 c 27 [(tg t 7), (.string (strB [32]))] h (fun v h => (fun v1 d h =>
 kO (binV Tryz.prog .add 9 true v1 (.string (strB [13, 10]))) d h (fun v2 d h =>
 K .norm (T.set t 9 v2) d h)) v d h)
def r17_15 : CodeT := fun c _ t d h K =>
 K .norm (T.set t 51 (tg t 8)) d h
def r17_16 : CodeT := fun c _ t d h K =>
 kO (fieldPtr 3 (tg t 5)) d h (fun v1 d h =>
 kO (loadOne h v1) d h (fun v2 d h =>
 kO (binV Tryz.prog .add 9 true v2 (.string (strB [13, 10]))) d h (fun v3 d h =>
 kO (binV Tryz.prog .add 9 false (tg t 9) v3) d h (fun v4 d h =>
 K .norm (T.set t 9 v4) d h))))
def r17_17 : CodeT := fun c _ t d h K =>
 kA (mkBytes 5 h.next (tg t 9)) d h (fun v1 d h =>
 K .norm (T.set (T.set t 2 v1) 3 (.int .i64 0)) d h)
def r17_18 : CodeT := fun c _ t d h K =>
 kO (binV Tryz.prog .eql 5 true (tg t 24) (.int .u8 2)) d h (fun v0 d h =>
 K .norm (T.set t 59 v0) d h)
def r17_19 : CodeT := fun c _ t d h0 K =>
 (fun (b0 : Nat) (h : H) =>
 kO (fieldPtr 9 (tg t 1)) d h (fun v0 d h =>
 kO (loadOne h v0) d h (fun v1 d h =>
 kO (fieldPtr 10 (tg t 1)) d h (fun v3 d h =>
 kO (loadOne h v3) d h (fun v4 d h =>
 c 28 [v1] h (fun v h => (fun v2 d h =>
 andB ((hO (loadOne h v3) v4 true) && true) (aO (mkLit 9 3 (b0 + 5) (fill (repl [(.string (strB []))] 3) (pl 1) [(0, (.string (strB [117, 115, 101, 114]))), (1, v2), (2, v4)])) (fun x5 v5 =>
 K .norm (T.set t 4 v5) d (H.put h (b0 + 5) x5)))) v d h)))))) h0.next ⟨h0.objs, h0.next + 7⟩
def r17_20 : CodeT := fun c _ t d h K =>
 kO (binV Tryz.prog .eql 5 true (tg t 24) (.int .u8 3)) d h (fun v0 d h =>
 K .norm (T.set t 67 v0) d h)
def r17_21 : CodeT := fun c _ t d h K =>
 kA (some (.map [] 0, .map (some h.next))) d h (fun v0 d h =>
 kH (withV undef (updM Tryz.prog 4 h v0 (.bool true) (.string (strB [111, 110])))) d (fun v1 d h =>
 kH (withV undef (updM Tryz.prog 4 h v0 (.bool false) (.string (strB [111, 102, 102])))) d (fun v2 d h =>
 kO (fieldPtr 11 (tg t 1)) d h (fun v4 d h =>
 kO (loadOne h v4) d h (fun v5 d h =>
 kO (lookV Tryz.prog 4 (.string (strB [])) false h v0 v5) d h (fun v6 d h =>
 kA (mkLit 9 2 h.next (fill (repl [(.string (strB []))] 2) (pl 1) [(0, (.string (strB [116, 114, 97, 99, 107]))), (1, v6)])) d h (fun v7 d h =>
 K .norm (T.set t 4 v7) d h)))))))
def r17_22 : CodeT := fun c _ t d h K =>
 kO (binV Tryz.prog .eql 5 true (tg t 24) (.int .u8 4)) d h (fun v0 d h =>
 K .norm (T.set t 75 v0) d h)
def r17_23 : CodeT := fun c _ t d h K =>
 kA (mkLit 9 1 h.next (fill (repl [(.string (strB []))] 1) (pl 1) [(0, (.string (strB [112, 105, 110, 103])))])) d h (fun v0 d h =>
 K .norm (T.set t 4 v0) d h)
def r17_5 : CodeT := fun c _ t d h K =>
 kA (mkLit 9 1 h.next (fill (repl [(.string (strB []))] 1) (pl 1) [(0, (.string (strB [113, 117, 105, 116])))])) d h (fun v0 d h =>
 K .norm (T.set t 4 v0) d h)
def r17_24 : CodeT := fun c _ t d h K =>
 c 27 [(tg t 4), (.string (strB [32]))] h (fun v h => (fun v1 d h =>
 kO (binV Tryz.prog .add 9 true v1 (.string (strB [13, 10]))) d h (fun v2 d h =>
 kA (mkBytes 5 h.next v2) d h (fun v3 d h =>
 K .norm (T.set (T.set t 2 v3) 3 (.int .i64 0)) d h))) v d h)
def c17 : Box CodeT := ⟨seqC ⟨r17_0⟩ ⟨seqC ⟨seqC ⟨r17_1⟩ ⟨condC (tC 22) ⟨seqC ⟨r17_2⟩ retC⟩ skipC⟩⟩ ⟨seqC ⟨r17_3⟩ ⟨seqC ⟨seqC ⟨r17_4⟩ ⟨blockC 0 ⟨seqC ⟨r17_6⟩ ⟨condC (tC 26) ⟨seqC ⟨r17_7⟩ ⟨seqC ⟨seqC ⟨r17_8⟩ ⟨seqC ⟨r17_9⟩ ⟨condC (tC 33) ⟨seqC ⟨r17_10⟩ retC⟩ skipC⟩⟩⟩ ⟨seqC ⟨seqC ⟨r17_11⟩ ⟨condC (tC 42) ⟨seqC ⟨r17_12⟩ retC⟩ skipC⟩⟩ ⟨seqC ⟨r17_13⟩ ⟨seqC ⟨r17_14⟩ ⟨seqC ⟨seqC ⟨r17_15⟩ ⟨condC (tC 51) ⟨r17_16⟩ skipC⟩⟩ ⟨seqC ⟨r17_17⟩ retC⟩⟩⟩⟩⟩⟩⟩ ⟨seqC ⟨r17_18⟩ ⟨condC (tC 59) ⟨r17_19⟩ ⟨seqC ⟨r17_20⟩ ⟨condC (tC 67) ⟨r17_21⟩ ⟨seqC ⟨r17_22⟩ ⟨condC (tC 75) ⟨r17_23⟩ ⟨r17_5⟩⟩⟩⟩⟩⟩⟩⟩⟩⟩⟩ ⟨seqC ⟨r17_24⟩ retC⟩⟩⟩⟩⟩
def q17 : Box (T Value → H → Option (List Value)) := ⟨fun t h => some [tg t 2, tg t 3]⟩
def r18_0 : CodeT := fun c _ t d h K =>
 kA (some (.rw [(.int .u8 0), (.int .u8 0), (.int .i64 0), (.slice none 0 0), (.string (strB [])), (.int .u32 0), (.int .i64 0), (.int .u64 0), (.int .u64 0), (.int .i64 0), (.string (strB [])), (.bool false), (.bool false)] (some 28), ptrTo h.next)) d h (fun v0 d h =>
 K .norm (T.set (T.set t 2 v0) 3 (.int .i64 0)) d h)
def r18_1 : CodeT := fun c _ t d h K =>
 kO (lenSl (tg t 0)) d h (fun v2 d h =>
 kO (foldMM false [v2, (.int .i64 514)]) d h (fun v3 d h =>
 kO (sliceSl 1 (tg t 0) none (some v3) none) d h (fun v4 d h =>
 K .norm (T.set t 4 v4) d h)))
def r18_2 : CodeT := fun c _ t d h K =>
 kA (mkLit 5 2 h.next (fill (repl [(.int .u8 0)] 2) (pl 1) [(0, (.int .u8 13)), (1, (.int .u8 10))])) d h (fun v1 d h =>
 kH (markV h v1) d (fun v2 d h =>
 c 29 [(tg t 4), v2] h (fun v h => (fun v3 d h =>
 K .norm (T.set t 5 v3) d h) v d h)))
def r18_3 : CodeT := fun c _ t d h K => (⟨opStep (oT 5) pI wT
 ⟨opStep (oK fun e _ _ => binV Tryz.prog .lss 3 true (nthD 0 e) (.int .i64 0)) pI wT
 ⟨opStep (oN 0) pI wT
 ⟨opStep (oT 0) pI (wB true 0)
 ⟨opStep (oK fun e _ _ => lenSl (nthD 0 e)) pI (wB true 1)
 ⟨opStep (oK fun e _ _ => binV Tryz.prog .lss 3 true (nthD 0 e) (.int .i64 514)) pI (wB true 2)
 ⟨opStep (oK fun e _ _ => pickV (nthD 3 e) (nthD 0 e) (.bool false)) pI wT
 ⟨opStep (oN 0) (pS 18) wT
 ⟨fun _ _ t d h K => K .norm t d h⟩⟩⟩⟩⟩⟩⟩⟩⟩ : Box OpsT).f c [] t d h K
def r18_4 : CodeT := fun c _ t d h K =>
 kO (aggO (fill [(.int .u8 0), (.int .u8 0), (.int .i64 0), (.slice none 0 0), (.string (strB [])), (.int .u32 0), (.int .i64 0), (.int .u64 0), (.int .u64 0), (.int .i64 0), (.string (strB [])), (.bool false), (.bool false)] (plc [(0, 1), (1, 8), (9, 1), (10, 1), (11, 1), (12, 1)]) [])) d h (fun v0 d h =>
 kH (withV undef (storeV 13 h (tg t 2) v0)) d (fun v1 d h =>
 K .norm (T.set t 3 (.int .i64 0)) d h))
def r18_5 : CodeT := fun c _ t d h K =>
 kO (binV Tryz.prog .lss 3 true (tg t 5) (.int .i64 0)) d h (fun v1 d h =>
 K .norm (T.set t 27 v1) d h)
def r18_6 : CodeT := fun c _ t d h K =>
 kO (aggO (fill [(.int .u8 0), (.int .u8 0), (.int .i64 0), (.slice none 0 0), (.string (strB [])), (.int .u32 0), (.int .i64 0), (.int .u64 0), (.int .u64 0), (.int .i64 0), (.string (strB [])), (.bool false), (.bool false)] (plc [(0, 1), (1, 8), (9, 1), (10, 1), (11, 1), (12, 1)]) [(0, (.int .u8 6)), (5, (.bool true))])) d h (fun v0 d h =>
 kO (lenSl (tg t 0)) d h (fun v2 d h =>
 kH (withV undef (storeV 13 h (tg t 2) v0)) d (fun v3 d h =>
 K .norm (T.set t 3 v2) d h)))
def r18_7 : CodeT := fun c _ t d h K =>
 kO (sliceSl 1 (tg t 0) none (some (tg t 5)) none) d h (fun v2 d h =>
 kO (bytesStr h v2) d h (fun v3 d h =>
 c 30 [v3] h (fun v h => (fun v4 d h =>
 kO (tupNth 0 v4) d h (fun v6 d h =>
 kO (tupNth 1 v4) d h (fun v7 d h =>
 kO (tupNth 2 v4) d h (fun v8 d h =>
 kA (some (.rw [(.int .u8 0), (.int .u8 0), (.int .i64 0), (.slice none 0 0), (.string (strB [])), (.int .u32 0), (.int .i64 0), (.int .u64 0), (.int .u64 0), (.int .i64 0), (.string (strB [])), (.bool false), (.bool false)] (some 28), ptrTo h.next)) d h (fun v9 d h =>
 kH (withV undef (storeV 13 h v9 v6)) d (fun v10 d h =>
 K .norm (T.set (T.set (T.set t 6 v9) 7 v7) 8 v8) d h)))))) v d h)))
def r18_8 : CodeT := fun c _ t d h K =>
 kO (binV Tryz.prog .add 3 true (tg t 5) (.int .i64 2)) d h (fun v1 d h =>
 K .norm (T.set t 5 v1) d h)
def r18_9 : CodeT := fun c _ t d h K =>
 kO (unV .not (tg t 8)) d h (fun v1 d h =>
 K .norm (T.set t 44 v1) d h)
def r18_10 : CodeT := fun c _ t d h K =>
 kO (aggO (fill [(.int .u8 0), (.int .u8 0), (.int .i64 0), (.slice none 0 0), (.string (strB [])), (.int .u32 0), (.int .i64 0), (.int .u64 0), (.int .u64 0), (.int .i64 0), (.string (strB [])), (.bool false), (.bool false)] (plc [(0, 1), (1, 8), (9, 1), (10, 1), (11, 1), (12, 1)]) [(0, (.int .u8 6))])) d h (fun v0 d h =>
 kH (withV undef (storeV 13 h (tg t 2) v0)) d (fun v2 d h =>
 K .norm (T.set t 3 (tg t 5)) d h))
def r18_11 : CodeT := fun c _ t d h K =>
 kO (binV Tryz.prog .lss 3 true (tg t 7) (.int .i64 0)) d h (fun v1 d h =>
 K .norm (T.set t 49 v1) d h)
def r18_12 : CodeT := fun c _ t d h K =>
 kO (loadAgg 13 h (tg t 6)) d h (fun v0 d h =>
 kH (withV undef (storeV 13 h (tg t 2) v0)) d (fun v2 d h =>
 K .norm (T.set t 3 (tg t 5)) d h))
def r18_13 : CodeT := fun c _ t d h K =>
 kO (lenSl (tg t 0)) d h (fun v1 d h =>
 kO (binV Tryz.prog .add 3 false (tg t 5) (tg t 7)) d h (fun v4 d h =>
 kO (binV Tryz.prog .add 3 true v4 (.int .i64 2)) d h (fun v5 d h =>
 kO (binV Tryz.prog .lss 3 false v1 v5) d h (fun v6 d h =>
 K .norm (T.set t 54 v6) d h))))
def r18_14 : CodeT := fun c _ t d h K =>
 kO (aggO (fill [(.int .u8 0), (.int .u8 0), (.int .i64 0), (.slice none 0 0), (.string (strB [])), (.int .u32 0), (.int .i64 0), (.int .u64 0), (.int .u64 0), (.int .i64 0), (.string (strB [])), (.bool false), (.bool false)] (plc [(0, 1), (1, 8), (9, 1), (10, 1), (11, 1), (12, 1)]) [])) d h (fun v0 d h =>
 kH (withV undef (storeV 13 h (tg t 2) v0)) d (fun v1 d h =>
 K .norm (T.set t 3 (.int .i64 0)) d h))
def r18_15 : CodeT := fun c _ t d h K =>
 kO (binV Tryz.prog .add 3 false (tg t 5) (tg t 7)) d h (fun v3 d h =>
 kO (binV Tryz.prog .add 3 false (tg t 5) (tg t 7)) d h (fun v6 d h =>
 kO (binV Tryz.prog .add 3 true v6 (.int .i64 2)) d h (fun v7 d h =>
 kO (sliceSl 1 (tg t 0) (some v3) (some v7) none) d h (fun v8 d h =>
 kO (bytesStr h v8) d h (fun v9 d h =>
 kO (binV Tryz.prog .neq 9 true v9 (.string (strB [13, 10]))) d h (fun v10 d h =>
 K .norm (T.set t 63 v10) d h))))))
def r18_16 : CodeT := fun c _ t d h K =>
 kO (aggO (fill [(.int .u8 0), (.int .u8 0), (.int .i64 0), (.slice none 0 0), (.string (strB [])), (.int .u32 0), (.int .i64 0), (.int .u64 0), (.int .u64 0), (.int .i64 0), (.string (strB [])), (.bool false), (.bool false)] (plc [(0, 1), (1, 8), (9, 1), (10, 1), (11, 1), (12, 1)]) [(0, (.int .u8 6)), (5, (.bool true))])) d h (fun v0 d h =>
 kO (binV Tryz.prog .add 3 false (tg t 5) (tg t 7)) d h (fun v3 d h =>
 kO (binV Tryz.prog .add 3 true v3 (.int .i64 2)) d h (fun v4 d h =>
 kH (withV undef (storeV 13 h (tg t 2) v0)) d (fun v5 d h =>
 K .norm (T.set t 3 v4) d h))))
def r18_17 : CodeT := fun c _ t d h K =>
 kO (binV Tryz.prog .add 3 false (tg t 5) (tg t 7)) d h (fun v4 d h =>
 kO (sliceSl 1 (tg t 0) (some (tg t 5)) (some v4) none) d h (fun v5 d h =>
 kO (bytesStr h v5) d h (fun v6 d h =>
 kO (fieldPtr 1 (tg t 6)) d h (fun v7 d h =>
 kO (fieldPtr 3 v7) d h (fun v8 d h =>
 kH (withV undef (storeV 1 h v8 v6)) d (fun v9 d h =>
 K .norm t d h))))))
def r18_18 : CodeT := fun c _ t d h K =>
 kO (loadAgg 13 h (tg t 6)) d h (fun v0 d h =>
 kO (binV Tryz.prog .add 3 false (tg t 5) (tg t 7)) d h (fun v3 d h =>
 kO (binV Tryz.prog .add 3 true v3 (.int .i64 2)) d h (fun v4 d h =>
 kH (withV undef (storeV 13 h (tg t 2) v0)) d (fun v5 d h =>
 K .norm (T.set t 3 v4) d h))))
def c18 : Box CodeT := ⟨seqC ⟨r18_0⟩ ⟨seqC ⟨r18_1⟩ ⟨seqC ⟨r18_2⟩ ⟨seqC ⟨blockC 0 ⟨seqC ⟨r18_3⟩ ⟨condC (tC 18) ⟨seqC ⟨r18_4⟩ retC⟩ ⟨seqC ⟨r18_5⟩ ⟨condC (tC 27) ⟨seqC ⟨r18_6⟩ retC⟩ skipC⟩⟩⟩⟩⟩ ⟨seqC ⟨r18_7⟩ ⟨seqC ⟨r18_8⟩ ⟨seqC ⟨blockC 1 ⟨seqC ⟨r18_9⟩ ⟨condC (tC 44) ⟨seqC ⟨r18_10⟩ retC⟩ ⟨seqC ⟨r18_11⟩ ⟨condC (tC 49) ⟨seqC ⟨r18_12⟩ retC⟩ ⟨seqC ⟨r18_13⟩ ⟨condC (tC 54) ⟨seqC ⟨r18_14⟩ retC⟩ ⟨seqC ⟨r18_15⟩ ⟨condC (tC 63) ⟨seqC ⟨r18_16⟩ retC⟩ skipC⟩⟩⟩⟩⟩⟩⟩⟩⟩ ⟨seqC ⟨r18_17⟩ ⟨seqC ⟨r18_18⟩ retC⟩⟩⟩⟩⟩⟩⟩⟩⟩
def q18 : Box (T Value → H → Option (List Value)) := ⟨fun t h => (match loadAgg 13 h (tg t 2) with | some v => (match (some [tg t 3] : Option (List Value)) with | some l => some (v :: l) | none => none) | none => none)⟩
def r20_0 : CodeT := fun c _ t d h K =>
 kA (some (.rw (Value.cells (tg t 0)).toList (some 26), ptrTo h.next)) d h (fun v0 d h =>
 kA (some (.rw (Value.cells (tg (T.set t 2 v0) 1)).toList (some 26), ptrTo h.next)) d h (fun v1 d h =>
 K .norm (T.set (T.set (T.set t 2 v0) 3 v1) 4 (.bool false)) d h))
def r20_1 : CodeT := fun c _ t d h K => (⟨opStep (oK fun _ t _ => fieldPtr 0 (tg t 2)) pI wT
 ⟨opStep (oK fun e _ h => loadOne h (nthD 0 e)) pI wT
 ⟨opStep (oK fun _ t _ => fieldPtr 0 (tg t 3)) pI wT
 ⟨opStep (oK fun e _ h => loadOne h (nthD 0 e)) pI wT
 ⟨opStep (oK fun e _ _ => binV Tryz.prog .neq 5 false (nthD 2 e) (nthD 0 e)) pI wT
 ⟨opStep (oN 0) pI wT
 ⟨opStep (oK fun _ t _ => fieldPtr 1 (tg t 2)) pI (wB false 0)
 ⟨opStep (oK fun e _ h => loadOne h (nthD 0 e)) pI (wB false 1)
 ⟨opStep (oK fun _ t _ => fieldPtr 1 (tg t 3)) pI (wB false 2)
 ⟨opStep (oK fun e _ h => loadOne h (nthD 0 e)) pI (wB false 3)
 ⟨opStep (oK fun e _ _ => binV Tryz.prog .neq 3 false (nthD 2 e) (nthD 0 e)) pI (wB false 4)
 ⟨opStep (oK fun e _ _ => pickV (nthD 5 e) (.bool true) (nthD 0 e)) pI wT
 ⟨opStep (oN 0) pI wT
 ⟨opStep (oK fun _ t _ => fieldPtr 3 (tg t 2)) pI (wB false 0)
 ⟨opStep (oK fun e _ h => loadOne h (nthD 0 e)) pI (wB false 1)
 ⟨opStep (oK fun _ t _ => fieldPtr 3 (tg t 3)) pI (wB false 2)
 ⟨opStep (oK fun e _ h => loadOne h (nthD 0 e)) pI (wB false 3)
 ⟨opStep (oK fun e _ _ => binV Tryz.prog .neq 9 false (nthD 2 e) (nthD 0 e)) pI (wB false 4)
 ⟨opStep (oK fun e _ _ => pickV (nthD 5 e) (.bool true) (nthD 0 e)) pI wT
 ⟨opStep (oN 0) pI wT
 ⟨opStep (oK fun _ t _ => fieldPtr 4 (tg t 2)) pI (wB false 0)
 ⟨opStep (oK fun e _ h => loadOne h (nthD 0 e)) pI (wB false 1)
 ⟨opStep (oK fun _ t _ => fieldPtr 4 (tg t 3)) pI (wB false 2)
 ⟨opStep (oK fun e _ h => loadOne h (nthD 0 e)) pI (wB false 3)
 ⟨opStep (oK fun e _ _ => binV Tryz.prog .neq 23 false (nthD 2 e) (nthD 0 e)) pI (wB false 4)
 ⟨opStep (oK fun e _ _ => pickV (nthD 5 e) (.bool true) (nthD 0 e)) pI wT
 ⟨opStep (oN 0) pI wT
 ⟨opStep (oK fun _ t _ => fieldPtr 5 (tg t 2)) pI (wB false 0)
 ⟨opStep (oK fun e _ h => loadOne h (nthD 0 e)) pI (wB false 1)
 ⟨opStep (oK fun _ t _ => fieldPtr 5 (tg t 3)) pI (wB false 2)
 ⟨opStep (oK fun e _ h => loadOne h (nthD 0 e)) pI (wB false 3)
 ⟨opStep (oK fun e _ _ => binV Tryz.prog .neq 3 false (nthD 2 e) (nthD 0 e)) pI (wB false 4)
 ⟨opStep (oK fun e _ _ => pickV (nthD 5 e) (.bool true) (nthD 0 e)) pI wT
 ⟨opStep (oN 0) pI wT
 ⟨opStep (oK fun _ t _ => fieldPtr 6 (tg t 2)) pI (wB false 0)
 ⟨opStep (oK fun e _ h => loadOne h (nthD 0 e)) pI (wB false 1)
 ⟨opStep (oK fun _ t _ => fieldPtr 6 (tg t 3)) pI (wB false 2)
 ⟨opStep (oK fun e _ h => loadOne h (nthD 0 e)) pI (wB false 3)
 ⟨opStep (oK fun e _ _ => binV Tryz.prog .neq 24 false (nthD 2 e) (nthD 0 e)) pI (wB false 4)
 ⟨opStep (oK fun e _ _ => pickV (nthD 5 e) (.bool true) (nthD 0 e)) pI wT
 ⟨opStep (oN 0) pI wT
 ⟨opStep (oK fun _ t _ => fieldPtr 7 (tg t 2)) pI (wB false 0)
 ⟨opStep (oK fun e _ h => loadOne h (nthD 0 e)) pI (wB false 1)
 ⟨opStep (oK fun _ t _ => fieldPtr 7 (tg t 3)) pI (wB false 2)
 ⟨opStep (oK fun e _ h => loadOne h (nthD 0 e)) pI (wB false 3)
 ⟨opStep (oK fun e _ _ => binV Tryz.prog .neq 24 false (nthD 2 e) (nthD 0 e)) pI (wB false 4)
 ⟨opStep (oK fun e _ _ => pickV (nthD 5 e) (.bool true) (nthD 0 e)) pI wT
 ⟨opStep (oN 0) pI wT
 ⟨opStep (oK fun _ t _ => fieldPtr 2 (tg t 2)) pI (wB false 0)
 ⟨opStep (oK fun e _ h => loadOne h (nthD 0 e)) pI (wB false 1)
 ⟨opStep (oK fun e _ _ => lenSl (nthD 0 e)) pI (wB false 2)
 ⟨opStep (oK fun _ t _ => fieldPtr 2 (tg t 3)) pI (wB false 3)
 ⟨opStep (oK fun e _ h => loadOne h (nthD 0 e)) pI (wB false 4)
 ⟨opStep (oK fun e _ _ => lenSl (nthD 0 e)) pI (wB false 5)
 ⟨opStep (oK fun e _ _ => binV Tryz.prog .neq 3 false (nthD 3 e) (nthD 0 e)) pI (wB false 6)
 ⟨opStep (oK fun e _ _ => pickV (nthD 7 e) (.bool true) (nthD 0 e)) (pS 61) wT
 ⟨fun _ _ t d h K => K .norm t d h⟩⟩⟩⟩⟩⟩⟩⟩⟩⟩⟩⟩⟩⟩⟩⟩⟩⟩⟩⟩⟩⟩⟩⟩⟩⟩⟩⟩⟩⟩⟩⟩⟩⟩⟩⟩⟩⟩⟩⟩⟩⟩⟩⟩⟩⟩⟩⟩⟩⟩⟩⟩⟩⟩⟩⟩⟩ : Box OpsT).f c [] t d h K
def r20_2 : CodeT := fun c _ t d h K =>
 K .norm (T.set t 4 (.bool false)) d h
def r20_3 : CodeT := fun c _ t d h K =>
 K .norm (T.set t 5 (.int .i64 0)) d h
def r20_4 : CodeT := fun c _ t d h K =>
 kO (fieldPtr 2 (tg t 2)) d h (fun v1 d h =>
 kO (loadOne h v1) d h (fun v2 d h =>
 kO (lenSl v2) d h (fun v3 d h =>
 kO (binV Tryz.prog .lss 3 false (tg t 5) v3) d h (fun v4 d h =>
 K .norm (T.set t 66 v4) d h))))
def r20_6 : CodeT := fun c _ t d h0 K =>
 (fun (b0 : Nat) (h : H) =>
 kO (fieldPtr 2 (tg t 2)) d h (fun v0 d h =>
 kO (loadOne h v0) d h (fun v1 d h =>
 kO (indexSl 1 v1 (tg t 5)) d h (fun v3 d h =>
 kO (loadOne h v3) d h (fun v4 d h =>
 kO (fieldPtr 2 (tg t 3)) d h (fun v5 d h =>
 kO (loadOne h v5) d h (fun v6 d h =>
 kO (indexSl 1 v6 (tg t 5)) d h (fun v8 d h =>
 kO (loadOne h v8) d h (fun v9 d h =>
 kO (binV Tryz.prog .neq 9 false v4 v9) d h (fun v10 d h =>
 K .norm (T.set t 79 v10) d h)))))))))) h0.next ⟨h0.objs, h0.next + 11⟩
def r20_7 : CodeT := fun c _ t d h K =>
 K .norm (T.set t 4 (.bool false)) d h
def r20_5 : CodeT := fun c _ t d h K =>
 kO (binV Tryz.prog .add 3 true (tg t 5) (.int .i64 1)) d h (fun v1 d h =>
 K .norm (T.set t 5 v1) d h)
def l20_8 : Box CodeT := ⟨seqC ⟨seqC ⟨r20_4⟩ ⟨condC (tC 66) skipC (exitC 0)⟩⟩ ⟨seqC ⟨blockC 1 ⟨seqC ⟨r20_6⟩ ⟨condC (tC 79) ⟨seqC ⟨r20_7⟩ retC⟩ skipC⟩⟩⟩ ⟨r20_5⟩⟩⟩
def r20_8 : CodeT := fun c _ t d h K =>
 K .norm (T.set t 4 (.bool true)) d h
def c20 : Box CodeT := ⟨seqC ⟨r20_0⟩ ⟨seqC ⟨seqC ⟨r20_1⟩ ⟨condC (tC 61) ⟨seqC ⟨r20_2⟩ retC⟩ skipC⟩⟩ ⟨seqC ⟨seqC ⟨r20_3⟩ ⟨blockC 0 (loopB l20_8)⟩⟩ ⟨seqC ⟨r20_8⟩ retC⟩⟩⟩⟩
def q20 : Box (T Value → H → Option (List Value)) := ⟨fun t h => some [tg t 4]⟩
def r21_0 : CodeT := fun c _ t d h K =>
 kA (some (.rw (Value.cells (tg t 0)).toList (some 28), ptrTo h.next)) d h (fun v0 d h =>
 K .norm (T.set (T.set t 1 v0) 2 (.bool false)) d h)
def r21_1 : CodeT := fun c _ t d h K =>
 kO (fieldPtr 0 (tg t 1)) d h (fun v0 d h =>
 kO (loadOne h v0) d h (fun v1 d h =>
 kO (binV Tryz.prog .eql 5 true v1 (.int .u8 2)) d h (fun v2 d h =>
 K .norm (T.set t 3 v2) d h)))
def r21_2 : CodeT := fun c _ t d h K => (⟨opStep (oK fun _ t _ => fieldPtr 12 (tg t 1)) pI wT
 ⟨opStep (oK fun e _ h => loadOne h (nthD 0 e)) pI wT
 ⟨opStep (oN 0) pI wT
 ⟨opStep (oK fun _ t _ => fieldPtr 11 (tg t 1)) pI (wB false 0)
 ⟨opStep (oK fun e _ h => loadOne h (nthD 0 e)) pI (wB false 1)
 ⟨opStep (oN 0) pI (wB false 2)
 ⟨opStep (oK fun _ t _ => fieldPtr 0 (tg t 1)) pI (wB true 0)
 ⟨opStep (oK fun e _ h => loadOne h (nthD 0 e)) pI (wB true 1)
 ⟨opStep (oK fun e _ _ => binV Tryz.prog .neq 5 true (nthD 0 e) (.int .u8 3)) pI (wB true 2)
 ⟨opStep (oK fun e _ _ => pickV (nthD 3 e) (nthD 0 e) (.bool false)) pI (wB false 6)
 ⟨opStep (oK fun e _ _ => pickV (nthD 7 e) (.bool true) (nthD 0 e)) pI wT
 ⟨opStep (oN 0) pI wT
 ⟨opStep (oT 3) pI (wB false 0)
 ⟨opStep (oK fun e _ _ => unV .not (nthD 0 e)) pI (wB false 1)
 ⟨opStep (oN 0) pI (wB false 2)
 ⟨opStep (oK fun _ t _ => fieldPtr 9 (tg t 1)) pI (wB true 0)
 ⟨opStep (oK fun e _ h => loadOne h (nthD 0 e)) pI (wB true 1)
 ⟨opStep (oK fun e _ _ => binV Tryz.prog .neq 3 true (nthD 0 e) (.int .i64 0)) pI (wB true 2)
 ⟨opStep (oN 0) pI (wB true 3)
 ⟨opStep (oK fun _ t _ => fieldPtr 10 (tg t 1)) pI (wB false 0)
 ⟨opStep (oK fun e _ h => loadOne h (nthD 0 e)) pI (wB false 1)
 ⟨opStep (oK fun e _ _ => binV Tryz.prog .neq 9 true (nthD 0 e) (.string (strB []))) pI (wB false 2)
 ⟨opStep (oK fun e _ _ => pickV (nthD 3 e) (.bool true) (nthD 0 e)) pI (wB true 7)
 ⟨opStep (oK fun e _ _ => pickV (nthD 8 e) (nthD 0 e) (.bool false)) pI (wB false 11)
 ⟨opStep (oK fun e _ _ => pickV (nthD 12 e) (.bool true) (nthD 0 e)) pI wT
 ⟨opStep (oN 0) pI wT
 ⟨opStep (oK fun _ t _ => fieldPtr 0 (tg t 1)) pI (wB false 0)
 ⟨opStep (oK fun e _ h => loadOne h (nthD 0 e)) pI (wB false 1)
 ⟨opStep (oK fun e _ _ => binV Tryz.prog .neq 5 true (nthD 0 e) (.int .u8 1)) pI (wB false 2)
 ⟨opStep (oN 0) pI (wB false 3)
 ⟨opStep (oK fun _ t h => loadAgg 13 h (tg t 1)) pI (wB true 0)
 ⟨opStep ⟨fun c e t d h K => c 32 [(nthD 0 e)] h (fun v h => (K) v d h)⟩ pI (wB true 1)
 ⟨opStep (oK fun e _ _ => unV .not (nthD 0 e)) pI (wB true 2)
 ⟨opStep (oK fun e _ _ => pickV (nthD 3 e) (nthD 0 e) (.bool false)) pI (wB false 7)
 ⟨opStep (oK fun e _ _ => pickV (nthD 8 e) (.bool true) (nthD 0 e)) (pS 41) wT
 ⟨fun _ _ t d h K => K .norm t d h⟩⟩⟩⟩⟩⟩⟩⟩⟩⟩⟩⟩⟩⟩⟩⟩⟩⟩⟩⟩⟩⟩⟩⟩⟩⟩⟩⟩⟩⟩⟩⟩⟩⟩⟩⟩ : Box OpsT).f c [] t d h K
def r21_3 : CodeT := fun c _ t d h K =>
 K .norm (T.set t 2 (.bool false)) d h
def r21_4 : CodeT := fun c _ t d h K => (⟨opStep (oT 3) pI wT
 ⟨opStep (oK fun e _ _ => unV .not (nthD 0 e)) pI wT
 ⟨opStep (oN 0) pI wT
 ⟨opStep (oK fun _ t _ => fieldPtr 9 (tg t 1)) pI (wB false 0)
 ⟨opStep (oK fun e _ h => loadOne h (nthD 0 e)) pI (wB false 1)
 ⟨opStep (oK fun e _ _ => binV Tryz.prog .geq 3 true (nthD 0 e) (.int .i64 0)) pI (wB false 2)
 ⟨opStep (oN 0) pI (wB false 3)
 ⟨opStep (oK fun _ t _ => fieldPtr 9 (tg t 1)) pI (wB true 0)
 ⟨opStep (oK fun e _ h => loadOne h (nthD 0 e)) pI (wB true 1)
 ⟨opStep (oK fun e _ _ => binV Tryz.prog .lss 3 true (nthD 0 e) (.int .i64 4)) pI (wB true 2)
 ⟨opStep (oK fun e _ _ => pickV (nthD 3 e) (nthD 0 e) (.bool false)) pI (wB false 7)
 ⟨opStep (oN 0) pI (wB false 8)
 ⟨opStep (oK fun _ t _ => fieldPtr 10 (tg t 1)) pI (wB true 0)
 ⟨opStep (oK fun e _ h => loadOne h (nthD 0 e)) pI (wB true 1)
 ⟨opStep ⟨fun c e t d h K => c 25 [(nthD 0 e), (.int .i64 16)] h (fun v h => (K) v d h)⟩ pI (wB true 2)
 ⟨opStep (oK fun e _ _ => pickV (nthD 3 e) (nthD 0 e) (.bool false)) pI (wB false 12)
 ⟨opStep (oK fun e _ _ => pickV (nthD 13 e) (.bool true) (nthD 0 e)) pI wT
 ⟨opStep (oN 0) (pS 2) wT
 ⟨fun _ _ t d h K => K .norm t d h⟩⟩⟩⟩⟩⟩⟩⟩⟩⟩⟩⟩⟩⟩⟩⟩⟩⟩⟩ : Box OpsT).f c [] t d h K
def c21 : Box CodeT := ⟨seqC ⟨r21_0⟩ ⟨seqC ⟨r21_1⟩ ⟨seqC ⟨seqC ⟨r21_2⟩ ⟨condC (tC 41) ⟨seqC ⟨r21_3⟩ retC⟩ skipC⟩⟩ ⟨seqC ⟨r21_4⟩ retC⟩⟩⟩⟩
def q21 : Box (T Value → H → Option (List Value)) := ⟨fun t h => some [tg t 2]⟩
def r22_0 : CodeT := fun c _ t d h K =>
 kA (some (.rw (Value.cells (tg t 0)).toList (some 26), ptrTo h.next)) d h (fun v0 d h =>
 K .norm (T.set (T.set t 1 v0) 2 (.int .i64 0)) d h)
def r22_1 : CodeT := fun c _ t d h K =>
 kO (loadAgg 8 h (tg t 1)) d h (fun v0 d h =>
 c 33 [v0] h (fun v h => (fun v1 d h =>
 kO (unV .not v1) d h (fun v2 d h =>
 K .norm (T.set t 5 v2) d h)) v d h))
def r22_2 : CodeT := fun c _ t d h K =>
 K .norm (T.set t 2 (.int .i64 100)) d h
def r22_3 : CodeT := fun c _ t d h K =>
 K .norm (T.set t 2 (.int .i64 0)) d h
def c22 : Box CodeT := ⟨seqC ⟨r22_0⟩ ⟨seqC ⟨seqC ⟨r22_1⟩ ⟨condC (tC 5) ⟨seqC ⟨r22_2⟩ retC⟩ skipC⟩⟩ ⟨seqC ⟨r22_3⟩ retC⟩⟩⟩
def q22 : Box (T Value → H → Option (List Value)) := ⟨fun t h => some [tg t 2]⟩
def r23_0 : CodeT := fun c _ t d h K =>
 K .norm (T.set t 4 (.bool false)) d h
def r23_1 : CodeT := fun c _ t d h K =>
 c 34 [(tg t 0), (tg t 1)] h (fun v h => (fun v2 d h =>
 kO (binV Tryz.prog .geq 3 true v2 (.int .i64 0)) d h (fun v3 d h =>
 K .norm (T.set t 4 v3) d h)) v d h)
def c23 : Box CodeT := ⟨seqC ⟨r23_0⟩ ⟨seqC ⟨r23_1⟩ retC⟩⟩
def q23 : Box (T Value → H → Option (List Value)) := ⟨fun t h => some [tg t 4]⟩
def r24_0 : CodeT := fun c _ t d h K =>
 K .norm (T.set t 2 (.bool false)) d h
def r24_1 : CodeT := fun c _ t d h K =>
 c 25 [(tg t 0), (.int .i64 32)] h (fun v h => (fun v1 d h =>
 kO (unV .not v1) d h (fun v2 d h =>
 K .norm (T.set t 2 v2) d h)) v d h)
def c24 : Box CodeT := ⟨seqC ⟨r24_0⟩ ⟨seqC ⟨r24_1⟩ retC⟩⟩
def q24 : Box (T Value → H → Option (List Value)) := ⟨fun t h => some [tg t 2]⟩
def r25_0 : CodeT := fun c _ t d h K =>
 K .norm (T.set t 4 (.bool false)) d h
def r25_1 : CodeT := fun c _ t d h K => (⟨opStep (oT 0) pI wT
 ⟨opStep (oK fun e _ _ => lenStr (nthD 0 e)) pI wT
 ⟨opStep (oK fun e _ _ => binV Tryz.prog .geq 3 true (nthD 0 e) (.int .i64 1)) pI wT
 ⟨opStep (oN 0) pI wT
 ⟨opStep (oT 0) pI (wB true 0)
 ⟨opStep (oK fun e _ _ => lenStr (nthD 0 e)) pI (wB true 1)
 ⟨opStep (oT 1) pI (wB true 2)
 ⟨opStep (oK fun e _ _ => binV Tryz.prog .leq 3 false (nthD 1 e) (nthD 0 e)) pI (wB true 3)
 ⟨opStep (oK fun e _ _ => pickV (nthD 4 e) (nthD 0 e) (.bool false)) pI wT
 ⟨opStep (oN 0) pI wT
 ⟨opStep (oT 0) pI (wB true 0)
 ⟨opStep ⟨fun c e t d h K => c 35 [(nthD 0 e), (.func (.func 36) #[] #[])] h (fun v h => (K) v d h)⟩ pI (wB true 1)
 ⟨opStep (oK fun e _ _ => binV Tryz.prog .lss 3 true (nthD 0 e) (.int .i64 0)) pI (wB true 2)
 ⟨opStep (oK fun e _ _ => pickV (nthD 3 e) (nthD 0 e) (.bool false)) pI wT
 ⟨opStep (oN 0) (pS 4) wT
 ⟨fun _ _ t d h K => K .norm t d h⟩⟩⟩⟩⟩⟩⟩⟩⟩⟩⟩⟩⟩⟩⟩⟩ : Box OpsT).f c [] t d h K
def c25 : Box CodeT := ⟨seqC ⟨r25_0⟩ ⟨seqC ⟨r25_1⟩ retC⟩⟩
def q25 : Box (T Value → H → Option (List Value)) := ⟨fun t h => some [tg t 4]⟩
def r26_0 : CodeT := fun c _ t d h K =>
 kA (some (.rw (Value.cells (tg t 0)).toList (some 26), ptrTo h.next)) d h (fun v0 d h =>
 K .norm (T.set (T.set (T.set t 1 v0) 2 (.slice none 0 0)) 3 (.bool false)) d h)
def r26_1 : CodeT := fun c _ t d h K =>
 kO (fieldPtr 3 (tg t 1)) d h (fun v0 d h =>
 kO (loadOne h v0) d h (fun v1 d h =>
 kO (lenStr v1) d h (fun v2 d h =>
 c 28 [v2] h (fun v h => (fun v3 d h =>
 K .norm (T.set (T.set t 4 (.string (strB []))) 5 v3) d h) v d h))))
def r26_2 : CodeT := fun c _ t d h K =>
 kO (fieldPtr 2 (tg t 1)) d h (fun v0 d h =>
 kO (loadOne h v0) d h (fun v1 d h =>
 kO (lenSl v1) d h (fun v2 d h =>
 kO (binV Tryz.prog .gtr 3 true v2 (.int .i64 0)) d h (fun v3 d h =>
 K .norm (T.set t 14 v3) d h))))
def r26_3 : CodeT := fun c _ t d h K =>
 kO (fieldPtr 2 (tg t 1)) d h (fun v0 d h =>
 kO (loadOne h v0) d h (fun v1 d h =>
 kO (indexSl 1 v1 (.int .i64 0)) d h (fun v2 d h =>
 kO (loadOne h v2) d h (fun v3 d h =>
 K .norm (T.set t 4 v3) d h))))
def r26_4 : CodeT := fun c _ t d h0 K =>
 (fun (b0 : Nat) (h : H) =>
 kO (fieldPtr 4 (tg t 1)) d h (fun v1 d h =>
 kO (loadOne h v1) d h (fun v2 d h =>
 kO (fieldPtr 5 (tg t 1)) d h (fun v4 d h =>
 kO (loadOne h v4) d h (fun v5 d h =>
 c 37 [v2] h (fun v h => (fun v3 d h =>
 andB ((hO (loadOne h v4) v5 true) && true) (c 28 [v5] h (fun v h => (fun v6 d h =>
 aO (mkLit 9 4 (b0 + 8) (fill (repl [(.string (strB []))] 4) (pl 1) [(0, (tg t 4)), (1, v3), (2, v6), (3, (tg t 5))])) (fun x8 v8 =>
 K .norm (T.set t 6 v8) d (H.put h (b0 + 8) x8))) v d h))) v d h)))))) h0.next ⟨h0.objs, h0.next + 10⟩
def r26_5 : CodeT := fun c _ t d h K =>
 kO (fieldPtr 0 (tg t 1)) d h (fun v0 d h =>
 kO (loadOne h v0) d h (fun v1 d h =>
 K .norm (T.set t 29 v1) d h))
def r26_6 : CodeT := fun c _ t d h K =>
 kO (binV Tryz.prog .eql 5 true (tg t 29) (.int .u8 1)) d h (fun v0 d h =>
 K .norm (T.set t 30 v0) d h)
def r26_7 : CodeT := fun c _ t d h K =>
 kA (mkLit 9 1 h.next (fill (repl [(.string (strB []))] 1) (pl 1) [(0, (.string (strB [103, 101, 116])))])) d h (fun v0 d h =>
 kO (fieldPtr 2 (tg t 1)) d h (fun v1 d h =>
 kO (loadOne h v1) d h (fun v2 d h =>
 kH (appendV 9 1 16 h v0 v2) d (fun v3 d h =>
 K .norm (T.set (T.set t 2 v3) 3 (.bool false)) d h))))
def r26_8 : CodeT := fun c _ t d h K =>
 kO (binV Tryz.prog .eql 5 true (tg t 29) (.int .u8 10)) d h (fun v0 d h =>
 K .norm (T.set t 36 v0) d h)
def r26_9 : CodeT := fun c _ t d h K =>
 kA (mkLit 9 1 h.next (fill (repl [(.string (strB []))] 1) (pl 1) [(0, (.string (strB [100, 101, 108, 101, 116, 101])))])) d h (fun v0 d h =>
 kO (fieldPtr 2 (tg t 1)) d h (fun v1 d h =>
 kO (loadOne h v1) d h (fun v2 d h =>
 kH (appendV 9 1 16 h v0 v2) d (fun v3 d h =>
 K .norm (T.set (T.set t 2 v3) 3 (.bool false)) d h))))
def r26_10 : CodeT := fun c _ t d h K =>
 kO (binV Tryz.prog .eql 5 true (tg t 29) (.int .u8 2)) d h (fun v0 d h =>
 K .norm (T.set t 42 v0) d h)
def r26_11 : CodeT := fun c _ t d h K =>
 kO (binV Tryz.prog .eql 5 true (tg t 29) (.int .u8 3)) d h (fun v0 d h =>
 K .norm (T.set t 42 v0) d h)
def r26_12 : CodeT := fun c _ t d h K =>
 kO (binV Tryz.prog .eql 5 true (tg t 29) (.int .u8 4)) d h (fun v0 d h =>
 K .norm (T.set t 42 v0) d h)
def r26_13 : CodeT := fun c _ t d h K =>
 kA (mkLit 9 3 h.next (fill (repl [(.string (strB []))] 3) (pl 1) [(0, (.string (strB [115, 101, 116]))), (1, (.string (strB [97, 100, 100]))), (2, (.string (strB [114, 101, 112, 108, 97, 99, 101])))])) d h (fun v0 d h =>
 kO (fieldPtr 0 (tg t 1)) d h (fun v1 d h =>
 kO (loadOne h v1) d h (fun v2 d h =>
 kO (binV Tryz.prog .sub 5 true v2 (.int .u8 2)) d h (fun v3 d h =>
 kO (indexSl 1 v0 v3) d h (fun v4 d h =>
 kO (loadOne h v4) d h (fun v5 d h =>
 kA (mkLit 9 1 h.next (fill (repl [(.string (strB []))] 1) (pl 1) [(0, v5)])) d h (fun v6 d h =>
 kH (appendV 9 1 16 h v6 (tg t 6)) d (fun v8 d h =>
 K .norm (T.set (T.set t 2 v8) 3 (.bool true)) d h))))))))
def r26_14 : CodeT := fun c _ t d h K =>
 kO (binV Tryz.prog .eql 5 true (tg t 29) (.int .u8 5)) d h (fun v0 d h =>
 K .norm (T.set t 55 v0) d h)
def r26_15 : CodeT := fun c _ t d h0 K =>
 (fun (b0 : Nat) (h : H) =>
 aO (mkLit 9 1 (b0 + 0) (fill (repl [(.string (strB []))] 1) (pl 1) [(0, (.string (strB [99, 97, 115])))])) (fun x0 v0 =>
 kO (fieldPtr 6 (tg t 1)) d h (fun v3 d h =>
 kO (loadOne (H.put h (b0 + 0) x0) v3) d h (fun v4 d h =>
 kH (appendV 9 1 16 (H.put h (b0 + 0) x0) v0 (tg t 6)) d (fun v2 d h =>
 andB ((hO (loadOne h v3) v4 true) && true) (c 38 [v4] h (fun v h => (fun v5 d h =>
 aO (mkLit 9 1 (b0 + 6) (fill (repl [(.string (strB []))] 1) (pl 1) [(0, v5)])) (fun x6 v6 =>
 kH (appendV 9 1 16 (H.put h (b0 + 6) x6) v2 v6) d (fun v7 d h =>
 K .norm (T.set (T.set t 2 v7) 3 (.bool true)) d h))) v d h))))))) h0.next ⟨h0.objs, h0.next + 10⟩
def r26_16 : CodeT := fun c _ t d h K =>
 kO (binV Tryz.prog .eql 5 true (tg t 29) (.int .u8 8)) d h (fun v0 d h =>
 K .norm (T.set t 65 v0) d h)
def r26_17 : CodeT := fun c _ t d h K =>
 kA (mkLit 9 3 h.next (fill (repl [(.string (strB []))] 3) (pl 1) [(0, (.string (strB [97, 112, 112, 101, 110, 100]))), (1, (tg t 4)), (2, (tg t 5))])) d h (fun v2 d h =>
 K .norm (T.set (T.set t 2 v2) 3 (.bool true)) d h)
def r26_18 : CodeT := fun c _ t d h K =>
 kO (binV Tryz.prog .eql 5 true (tg t 29) (.int .u8 6)) d h (fun v0 d h =>
 K .norm (T.set t 70 v0) d h)
def r26_19 : CodeT := fun c _ t d h K =>
 kO (fieldPtr 7 (tg t 1)) d h (fun v1 d h =>
 kO (loadOne h v1) d h (fun v2 d h =>
 c 38 [v2] h (fun v h => (fun v3 d h =>
 kA (mkLit 9 3 h.next (fill (repl [(.string (strB []))] 3) (pl 1) [(0, (.string (strB [105, 110, 99, 114]))), (1, (tg t 4)), (2, v3)])) d h (fun v4 d h =>
 K .norm (T.set (T.set t 2 v4) 3 (.bool false)) d h)) v d h)))
def r26_20 : CodeT := fun c _ t d h K =>
 kO (binV Tryz.prog .eql 5 true (tg t 29) (.int .u8 7)) d h (fun v0 d h =>
 K .norm (T.set t 77 v0) d h)
def r26_21 : CodeT := fun c _ t d h K =>
 kO (fieldPtr 7 (tg t 1)) d h (fun v1 d h =>
 kO (loadOne h v1) d h (fun v2 d h =>
 c 38 [v2] h (fun v h => (fun v3 d h =>
 kA (mkLit 9 3 h.next (fill (repl [(.string (strB []))] 3) (pl 1) [(0, (.string (strB [100, 101, 99, 114]))), (1, (tg t 4)), (2, v3)])) d h (fun v4 d h =>
 K .norm (T.set (T.set t 2 v4) 3 (.bool false)) d h)) v d h)))
def r26_22 : CodeT := fun c _ t d h K =>
 kO (binV Tryz.prog .eql 5 true (tg t 29) (.int .u8 9)) d h (fun v0 d h =>
 K .norm (T.set t 84 v0) d h)
def r26_23 : CodeT := fun c _ t d h K =>
 kO (fieldPtr 5 (tg t 1)) d h (fun v1 d h =>
 kO (loadOne h v1) d h (fun v2 d h =>
 c 28 [v2] h (fun v h => (fun v3 d h =>
 kA (mkLit 9 3 h.next (fill (repl [(.string (strB []))] 3) (pl 1) [(0, (.string (strB [116, 111, 117, 99, 104]))), (1, (tg t 4)), (2, v3)])) d h (fun v4 d h =>
 K .norm (T.set (T.set t 2 v4) 3 (.bool false)) d h)) v d h)))
def r26_24 : CodeT := fun c _ t d h K =>
 kA (mkLit 9 1 h.next (fill (repl [(.string (strB []))] 1) (pl 1) [(0, (.string (strB [102, 108, 117, 115, 104])))])) d h (fun v0 d h =>
 K .norm (T.set (T.set t 2 v0) 3 (.bool false)) d h)
def c26 : Box CodeT := ⟨seqC ⟨r26_0⟩ ⟨seqC ⟨r26_1⟩ ⟨seqC ⟨seqC ⟨r26_2⟩ ⟨condC (tC 14) ⟨r26_3⟩ skipC⟩⟩ ⟨seqC ⟨r26_4⟩ ⟨seqC ⟨seqC ⟨r26_5⟩ ⟨blockC 0 ⟨seqC ⟨r26_6⟩ ⟨condC (tC 30) ⟨seqC ⟨r26_7⟩ retC⟩ ⟨seqC ⟨r26_8⟩ ⟨condC (tC 36) ⟨seqC ⟨r26_9⟩ retC⟩ ⟨seqC ⟨seqC ⟨r26_10⟩ ⟨condC (tC 42) skipC ⟨seqC ⟨r26_11⟩ ⟨condC (tC 42) skipC ⟨r26_12⟩⟩⟩⟩⟩ ⟨condC (tC 42) ⟨seqC ⟨r26_13⟩ retC⟩ ⟨seqC ⟨r26_14⟩ ⟨condC (tC 55) ⟨seqC ⟨r26_15⟩ retC⟩ ⟨seqC ⟨r26_16⟩ ⟨condC (tC 65) ⟨seqC ⟨r26_17⟩ retC⟩ ⟨seqC ⟨r26_18⟩ ⟨condC (tC 70) ⟨seqC ⟨r26_19⟩ retC⟩ ⟨seqC ⟨r26_20⟩ ⟨condC (tC 77) ⟨seqC ⟨r26_21⟩ retC⟩ ⟨seqC ⟨r26_22⟩ ⟨condC (tC 84) ⟨seqC ⟨r26_23⟩ retC⟩ skipC⟩⟩⟩⟩⟩⟩⟩⟩⟩⟩⟩⟩⟩⟩⟩⟩⟩⟩ ⟨seqC ⟨r26_24⟩ retC⟩⟩⟩⟩⟩⟩
def q26 : Box (T Value → H → Option (List Value)) := ⟨fun t h => some [tg t 2, tg t 3]⟩
def r27_0 : CodeT := fun c _ t d h K =>
 K .norm (T.set t 4 (.string (strB []))) d h
def r27_1 : CodeT := fun c _ t d h K =>
 kO (lenSl (tg t 0)) d h (fun v1 d h =>
 K .norm (T.set t 12 v1) d h)
def r27_2 : CodeT := fun c _ t d h K =>
 kO (binV Tryz.prog .eql 3 true (tg t 12) (.int .i64 0)) d h (fun v0 d h =>
 K .norm (T.set t 13 v0) d h)
def r27_3 : CodeT := fun c _ t d h K =>
 K .norm (T.set t 4 (.string (strB []))) d h
def r27_4 : CodeT := fun c _ t d h K =>
 kO (binV Tryz.prog .eql 3 true (tg t 12) (.int .i64 1)) d h (fun v0 d h =>
 K .norm (T.set t 15 v0) d h)
def r27_5 : CodeT := fun c _ t d h K =>
 kO (indexSl 1 (tg t 0) (.int .i64 0)) d h (fun v1 d h =>
 kO (loadOne h v1) d h (fun v2 d h =>
 K .norm (T.set t 4 v2) d h))
def r27_6 : CodeT := fun c _ t d h K =>
 K .norm (T.set t 5 (.int .i64 0)) d h
def r27_7 : CodeT := fun c _ t d h K =>
 kO (lenStr (tg t 1)) d h (fun v1 d h =>
 kO (binV Tryz.prog .gtr 3 true v1 (.int .i64 0)) d h (fun v2 d h =>
 K .norm (T.set t 22 v2) d h))
def r27_8 : CodeT := fun c _ t d h K =>
 kO (lenStr (tg t 1)) d h (fun v1 d h =>
 kO (lenSl (tg t 0)) d h (fun v3 d h =>
 kO (binV Tryz.prog .sub 3 true v3 (.int .i64 1)) d h (fun v4 d h =>
 kO (binV Tryz.prog .quo 3 true (.int .i64 9223372036854775807) v4) d h (fun v5 d h =>
 kO (binV Tryz.prog .geq 3 false v1 v5) d h (fun v6 d h =>
 K .norm (T.set t 29 v6) d h)))))
def r27_9 : CodeT := fun c _ t d h K =>
 kO (some (.iface 9 (.string (strB [115, 116, 114, 105, 110, 103, 115, 58, 32, 74, 111, 105, 110, 32, 111, 117, 116, 112, 117, 116, 32, 108, 101, 110, 103, 116, 104, 32, 111, 118, 101, 114, 102, 108, 111, 119])))) d h (fun v0 d h =>
 kO none d h (fun v1 d h =>
 K .norm t d h))
def r27_10 : CodeT := fun c _ t d h K =>
 kO (lenStr (tg t 1)) d h (fun v2 d h =>
 kO (lenSl (tg t 0)) d h (fun v4 d h =>
 kO (binV Tryz.prog .sub 3 true v4 (.int .i64 1)) d h (fun v5 d h =>
 kO (binV Tryz.prog .mul 3 false v2 v5) d h (fun v6 d h =>
 kO (binV Tryz.prog .add 3 false (tg t 5) v6) d h (fun v7 d h =>
 K .norm (T.set t 5 v7) d h)))))
def r27_11 : CodeT := fun c _ t d h K =>
 kO (lenSl (tg t 0)) d h (fun v1 d h =>
 K .norm (T.set (T.set (T.set t 39 (tg t 0)) 40 v1) 41 (.int .i64 0)) d h)
def r27_12 : CodeT := fun c _ t d h K =>
 kO (binV Tryz.prog .lss 3 false (tg t 41) (tg t 40)) d h (fun v0 d h =>
 K .norm (T.set t 42 v0) d h)
def r27_13 : CodeT := fun c _ t d h K =>
 kO (indexSl 1 (tg t 39) (tg t 41)) d h (fun v0 d h =>
 kO (loadOne h v0) d h (fun v1 d h =>
 K .norm (T.set t 7 v1) d h))
def r27_14 : CodeT := fun c _ t d h K =>
 kO (lenStr (tg t 7)) d h (fun v1 d h =>
 kO (binV Tryz.prog .sub 3 true (.int .i64 9223372036854775807) (tg t 5)) d h (fun v3 d h =>
 kO (binV Tryz.prog .gtr 3 false v1 v3) d h (fun v4 d h =>
 K .norm (T.set t 49 v4) d h)))
def r27_15 : CodeT := fun c _ t d h K =>
 kO (some (.iface 9 (.string (strB [115, 116, 114, 105, 110, 103, 115, 58, 32, 74, 111, 105, 110, 32, 111, 117, 116, 112, 117, 116, 32, 108, 101, 110, 103, 116, 104, 32, 111, 118, 101, 114, 102, 108, 111, 119])))) d h (fun v0 d h =>
 kO none d h (fun v1 d h =>
 K .norm t d h))
def r27_16 : CodeT := fun c _ t d h K =>
 kO (lenStr (tg t 7)) d h (fun v2 d h =>
 kO (binV Tryz.prog .add 3 false (tg t 5) v2) d h (fun v3 d h =>
 K .norm (T.set t 5 v3) d h))
def r27_17 : CodeT := fun c _ t d h K =>
 kO (binV Tryz.prog .add 3 true (tg t 41) (.int .i64 1)) d h (fun v0 d h =>
 K .norm (T.set t 41 v0) d h)
def l27_18 : Box CodeT := ⟨seqC ⟨r27_12⟩ ⟨seqC ⟨condC (tC 42) skipC (exitC 1)⟩ ⟨seqC ⟨blockC 2 ⟨seqC ⟨r27_13⟩ ⟨seqC ⟨seqC ⟨r27_14⟩ ⟨condC (tC 49) ⟨r27_15⟩ skipC⟩⟩ ⟨r27_16⟩⟩⟩⟩ ⟨r27_17⟩⟩⟩⟩
def r27_18 : CodeT := fun c _ t d h K =>
 kA (some (.rw [(.pointer none), (.slice none 0 0)] (some 74), ptrTo h.next)) d h (fun v0 d h =>
 K .norm (T.set t 8 v0) d h)
def r27_19 : CodeT := fun c _ t d h K =>
 c 39 [(tg t 8), (tg t 5)] h (fun v h => (fun v1 d h =>
 K .norm t d h) v d h)
def r27_20 : CodeT := fun c _ t d h K =>
 kO (indexSl 1 (tg t 0) (.int .i64 0)) d h (fun v1 d h =>
 kO (loadOne h v1) d h (fun v2 d h =>
 c 40 [(tg t 8), v2] h (fun v h => (fun v3 d h =>
 K .norm t d h) v d h)))
def r27_21 : CodeT := fun c _ t d h K =>
 kO (sliceSl 1 (tg t 0) (some (.int .i64 1)) none none) d h (fun v1 d h =>
 kO (lenSl v1) d h (fun v2 d h =>
 K .norm (T.set (T.set (T.set t 63 v1) 64 v2) 65 (.int .i64 0)) d h))
def r27_22 : CodeT := fun c _ t d h K =>
 kO (binV Tryz.prog .lss 3 false (tg t 65) (tg t 64)) d h (fun v0 d h =>
 K .norm (T.set t 66 v0) d h)
def r27_23 : CodeT := fun c _ t d h K =>
 kO (indexSl 1 (tg t 63) (tg t 65)) d h (fun v0 d h =>
 kO (loadOne h v0) d h (fun v1 d h =>
 K .norm (T.set t 10 v1) d h))
def r27_24 : CodeT := fun c _ t d h K =>
 c 40 [(tg t 8), (tg t 1)] h (fun v h => (fun v1 d h =>
 K .norm t d h) v d h)
def r27_25 : CodeT := fun c _ t d h K =>
 c 40 [(tg t 8), (tg t 10)] h (fun v h => (fun v1 d h =>
 K .norm t d h) v d h)
def r27_26 : CodeT := fun c _ t d h K =>
 kO (binV Tryz.prog .add 3 true (tg t 65) (.int .i64 1)) d h (fun v0 d h =>
 K .norm (T.set t 65 v0) d h)
def l27_28 : Box CodeT := ⟨seqC ⟨r27_22⟩ ⟨seqC ⟨condC (tC 66) skipC (exitC 3)⟩ ⟨seqC ⟨blockC 4 ⟨seqC ⟨r27_23⟩ ⟨seqC ⟨r27_24⟩ ⟨r27_25⟩⟩⟩⟩ ⟨r27_26⟩⟩⟩⟩
def r27_27 : CodeT := fun c _ t d h K =>
 c 41 [(tg t 8)] h (fun v h => (fun v0 d h =>
 K .norm (T.set t 4 v0) d h) v d h)
def c27 : Box CodeT := ⟨seqC ⟨r27_0⟩ ⟨seqC ⟨seqC ⟨r27_1⟩ ⟨blockC 0 ⟨seqC ⟨r27_2⟩ ⟨condC (tC 13) ⟨seqC ⟨r27_3⟩ retC⟩ ⟨seqC ⟨r27_4⟩ ⟨condC (tC 15) ⟨seqC ⟨r27_5⟩ retC⟩ skipC⟩⟩⟩⟩⟩⟩ ⟨seqC ⟨r27_6⟩ ⟨seqC ⟨seqC ⟨r27_7⟩ ⟨condC (tC 22) ⟨seqC ⟨seqC ⟨r27_8⟩ ⟨condC (tC 29) ⟨r27_9⟩ skipC⟩⟩ ⟨r27_10⟩⟩ skipC⟩⟩ ⟨seqC ⟨seqC ⟨r27_11⟩ ⟨blockC 1 (loopB l27_18)⟩⟩ ⟨seqC ⟨r27_18⟩ ⟨seqC ⟨r27_19⟩ ⟨seqC ⟨r27_20⟩ ⟨seqC ⟨seqC ⟨r27_21⟩ ⟨blockC 3 (loopB l27_28)⟩⟩ ⟨seqC ⟨r27_27⟩ retC⟩⟩⟩⟩⟩⟩⟩⟩⟩⟩
def q27 : Box (T Value → H → Option (List Value)) := ⟨fun t h => some [tg t 4]⟩
def r28_0 : CodeT := fun c _ t d h K =>
 K .norm (T.set t 2 (.string (strB []))) d h
def r28_1 : CodeT := fun c _ t d h K =>
 kO (toInt .u64 (tg t 0)) d h (fun v1 d h =>
 c 42 [v1, (.int .i64 10)] h (fun v h => (fun v2 d h =>
 K .norm (T.set t 2 v2) d h) v d h))
def c28 : Box CodeT := ⟨seqC ⟨r28_0⟩ ⟨seqC ⟨r28_1⟩ retC⟩⟩
def q28 : Box (T Value → H → Option (List Value)) := ⟨fun t h => some [tg t 2]⟩
def r29_0 : CodeT := fun c _ t d h K =>
 K .norm (T.set t 4 (.int .i64 0)) d h
def r29_1 : CodeT := fun c _ t d h K =>
 kO (lenSl (tg t 1)) d h (fun v1 d h =>
 K .norm (T.set t 5 v1) d h)
def r29_2 : CodeT := fun c _ t d h K =>
 kO (binV Tryz.prog .eql 3 true (tg t 5) (.int .i64 0)) d h (fun v1 d h =>
 K .norm (T.set t 22 v1) d h)
def r29_3 : CodeT := fun c _ t d h K =>
 K .norm (T.set t 4 (.int .i64 0)) d h
def r29_4 : CodeT := fun c _ t d h K =>
 kO (binV Tryz.prog .eql 3 true (tg t 5) (.int .i64 1)) d h (fun v1 d h =>
 K .norm (T.set t 25 v1) d h)
def r29_5 : CodeT := fun c _ t d h K =>
 kO (indexSl 1 (tg t 1) (.int .i64 0)) d h (fun v2 d h =>
 kO (loadOne h v2) d h (fun v3 d h =>
 c 43 [(tg t 0), v3] h (fun v h => (fun v4 d h =>
 K .norm (T.set t 4 v4) d h) v d h)))
def r29_6 : CodeT := fun c _ t d h K =>
 kO (lenSl (tg t 0)) d h (fun v2 d h =>
 kO (binV Tryz.prog .eql 3 false (tg t 5) v2) d h (fun v3 d h =>
 K .norm (T.set t 33 v3) d h))
def r29_7 : CodeT := fun c _ t d h K =>
 c 44 [(tg t 1), (tg t 0)] h (fun v h => (fun v2 d h =>
 K .norm (T.set t 40 v2) d h) v d h)
def r29_8 : CodeT := fun c _ t d h K =>
 K .norm (T.set t 4 (.int .i64 0)) d h
def r29_9 : CodeT := fun c _ t d h K =>
 K .norm (T.set t 4 (.int .i64 (-1))) d h
def r29_10 : CodeT := fun c _ t d h K =>
 kO (lenSl (tg t 0)) d h (fun v2 d h =>
 kO (binV Tryz.prog .gtr 3 false (tg t 5) v2) d h (fun v3 d h =>
 K .norm (T.set t 41 v3) d h))
def r29_11 : CodeT := fun c _ t d h K =>
 K .norm (T.set t 4 (.int .i64 (-1))) d h
def r29_12 : CodeT := fun c _ t d h K =>
 kO (loadOne h (.pointer (some ⟨0, 0, none⟩))) d h (fun v1 d h =>
 kO (binV Tryz.prog .leq 3 false (tg t 5) v1) d h (fun v2 d h =>
 K .norm (T.set t 46 v2) d h))
def r29_13 : CodeT := fun c _ t d h K =>
 kO (lenSl (tg t 0)) d h (fun v1 d h =>
 kO (binV Tryz.prog .leq 3 true v1 (.int .i64 64)) d h (fun v2 d h =>
 K .norm (T.set t 52 v2) d h))
def r29_14 : CodeT := fun c _ t d h K =>
 c 45 [(tg t 0), (tg t 1)] h (fun v h => (fun v2 d h =>
 K .norm (T.set t 4 v2) d h) v d h)
def r29_15 : CodeT := fun c _ t d h K =>
 kO (indexSl 1 (tg t 1) (.int .i64 0)) d h (fun v1 d h =>
 kO (loadOne h v1) d h (fun v2 d h =>
 K .norm (T.set t 6 v2) d h))
def r29_16 : CodeT := fun c _ t d h K =>
 kO (indexSl 1 (tg t 1) (.int .i64 1)) d h (fun v1 d h =>
 kO (loadOne h v1) d h (fun v2 d h =>
 K .norm (T.set t 7 v2) d h))
def r29_17 : CodeT := fun c _ t d h K =>
 K .norm (T.set t 8 (.int .i64 0)) d h
def r29_18 : CodeT := fun c _ t d h K =>
 kO (lenSl (tg t 0)) d h (fun v1 d h =>
 kO (binV Tryz.prog .sub 3 false v1 (tg t 5)) d h (fun v3 d h =>
 kO (binV Tryz.prog .add 3 true v3 (.int .i64 1)) d h (fun v4 d h =>
 K .norm (T.set t 9 v4) d h)))
def r29_19 : CodeT := fun c _ t d h K =>
 K .norm (T.set t 10 (.int .i64 0)) d h
def r29_20 : CodeT := fun c _ t d h K =>
 kO (binV Tryz.prog .lss 3 false (tg t 8) (tg t 9)) d h (fun v2 d h =>
 K .norm (T.set t 69 v2) d h)
def r29_21 : CodeT := fun c _ t d h K =>
 kO (indexSl 1 (tg t 0) (tg t 8)) d h (fun v2 d h =>
 kO (loadOne h v2) d h (fun v3 d h =>
 kO (binV Tryz.prog .neq 5 false v3 (tg t 6)) d h (fun v5 d h =>
 K .norm (T.set t 75 v5) d h)))
def r29_22 : CodeT := fun c _ t d h K =>
 kO (binV Tryz.prog .add 3 true (tg t 8) (.int .i64 1)) d h (fun v2 d h =>
 kO (sliceSl 1 (tg t 0) (some v2) (some (tg t 9)) none) d h (fun v4 d h =>
 c 43 [v4, (tg t 6)] h (fun v h => (fun v6 d h =>
 K .norm (T.set t 11 v6) d h) v d h)))
def r29_23 : CodeT := fun c _ t d h K =>
 kO (binV Tryz.prog .lss 3 true (tg t 11) (.int .i64 0)) d h (fun v1 d h =>
 K .norm (T.set t 84 v1) d h)
def r29_24 : CodeT := fun c _ t d h K =>
 K .norm (T.set t 4 (.int .i64 (-1))) d h
def r29_25 : CodeT := fun c _ t d h K =>
 kO (binV Tryz.prog .add 3 true (tg t 11) (.int .i64 1)) d h (fun v2 d h =>
 kO (binV Tryz.prog .add 3 false (tg t 8) v2) d h (fun v3 d h =>
 K .norm (T.set t 8 v3) d h))
def r29_26 : CodeT := fun c _ t d h K => (⟨opStep (oT 0) pI wT
 ⟨opStep (oT 8) pI wT
 ⟨opStep (oK fun e _ _ => binV Tryz.prog .add 3 true (nthD 0 e) (.int .i64 1)) pI wT
 ⟨opStep (oK fun e _ _ => indexSl 1 (nthD 2 e) (nthD 0 e)) pI wT
 ⟨opStep (oK fun e _ h => loadOne h (nthD 0 e)) pI wT
 ⟨opStep (oT 7) pI wT
 ⟨opStep (oK fun e _ _ => binV Tryz.prog .eql 5 false (nthD 1 e) (nthD 0 e)) pI wT
 ⟨opStep (oN 0) pI wT
 ⟨opStep (oT 0) pI (wB true 0)
 ⟨opStep (oT 8) pI (wB true 1)
 ⟨opStep (oT 8) pI (wB true 2)
 ⟨opStep (oT 5) pI (wB true 3)
 ⟨opStep (oK fun e _ _ => binV Tryz.prog .add 3 false (nthD 1 e) (nthD 0 e)) pI (wB true 4)
 ⟨opStep (oK fun e _ _ => sliceSl 1 (nthD 4 e) (some (nthD 3 e)) (some (nthD 0 e)) none) pI (wB true 5)
 ⟨opStep (oT 1) pI (wB true 6)
 ⟨opStep ⟨fun c e t d h K => c 44 [(nthD 1 e), (nthD 0 e)] h (fun v h => (K) v d h)⟩ pI (wB true 7)
 ⟨opStep (oK fun e _ _ => pickV (nthD 8 e) (nthD 0 e) (.bool false)) (pS 105) wT
 ⟨fun _ _ t d h K => K .norm t d h⟩⟩⟩⟩⟩⟩⟩⟩⟩⟩⟩⟩⟩⟩⟩⟩⟩⟩ : Box OpsT).f c [] t d h K
def r29_27 : CodeT := fun c _ t d h K =>
 K .norm (T.set t 4 (tg t 8)) d h
def r29_28 : CodeT := fun c _ t d h K =>
 kO (binV Tryz.prog .add 3 true (tg t 10) (.int .i64 1)) d h (fun v1 d h =>
 K .norm (T.set t 10 v1) d h)
def r29_29 : CodeT := fun c _ t d h K =>
 kO (binV Tryz.prog .add 3 true (tg t 8) (.int .i64 1)) d h (fun v1 d h =>
 K .norm (T.set t 8 v1) d h)
def r29_30 : CodeT := fun c _ t d h K =>
 c 46 [(tg t 8)] h (fun v h => (fun v2 d h =>
 kO (binV Tryz.prog .gtr 3 false (tg t 10) v2) d h (fun v3 d h =>
 K .norm (T.set t 114 v3) d h)) v d h)
def r29_31 : CodeT := fun c _ t d h K =>
 kO (sliceSl 1 (tg t 0) (some (tg t 8)) none none) d h (fun v2 d h =>
 c 45 [v2, (tg t 1)] h (fun v h => (fun v4 d h =>
 K .norm (T.set t 12 v4) d h) v d h))
def r29_32 : CodeT := fun c _ t d h K =>
 kO (binV Tryz.prog .geq 3 true (tg t 12) (.int .i64 0)) d h (fun v1 d h =>
 K .norm (T.set t 121 v1) d h)
def r29_33 : CodeT := fun c _ t d h K =>
 kO (binV Tryz.prog .add 3 false (tg t 12) (tg t 8)) d h (fun v2 d h =>
 K .norm (T.set t 4 v2) d h)
def r29_34 : CodeT := fun c _ t d h K =>
 K .norm (T.set t 4 (.int .i64 (-1))) d h
def l29_35 : Box CodeT := ⟨seqC ⟨seqC ⟨r29_20⟩ ⟨condC (tC 69) skipC (exitC 1)⟩⟩ ⟨blockC 2 ⟨seqC ⟨seqC ⟨r29_21⟩ ⟨condC (tC 75) ⟨seqC ⟨r29_22⟩ ⟨seqC ⟨seqC ⟨r29_23⟩ ⟨condC (tC 84) ⟨seqC ⟨r29_24⟩ retC⟩ skipC⟩⟩ ⟨r29_25⟩⟩⟩ skipC⟩⟩ ⟨seqC ⟨seqC ⟨r29_26⟩ ⟨condC (tC 105) ⟨seqC ⟨r29_27⟩ retC⟩ skipC⟩⟩ ⟨seqC ⟨r29_28⟩ ⟨seqC ⟨r29_29⟩ ⟨seqC ⟨r29_30⟩ ⟨condC (tC 114) ⟨seqC ⟨r29_31⟩ ⟨seqC ⟨seqC ⟨r29_32⟩ ⟨condC (tC 121) ⟨seqC ⟨r29_33⟩ retC⟩ skipC⟩⟩ ⟨seqC ⟨r29_34⟩ retC⟩⟩⟩ skipC⟩⟩⟩⟩⟩⟩⟩⟩
def r29_35 : CodeT := fun c _ t d h K =>
 K .norm (T.set t 4 (.int .i64 (-1))) d h
def r29_36 : CodeT := fun c _ t d h K =>
 kO (indexSl 1 (tg t 1) (.int .i64 0)) d h (fun v1 d h =>
 kO (loadOne h v1) d h (fun v2 d h =>
 K .norm (T.set t 13 v2) d h))
def r29_37 : CodeT := fun c _ t d h K =>
 kO (indexSl 1 (tg t 1) (.int .i64 1)) d h (fun v1 d h =>
 kO (loadOne h v1) d h (fun v2 d h =>
 K .norm (T.set t 14 v2) d h))
def r29_38 : CodeT := fun c _ t d h K =>
 K .norm (T.set t 15 (.int .i64 0)) d h
def r29_39 : CodeT := fun c _ t d h K =>
 K .norm (T.set t 16 (.int .i64 0)) d h
def r29_40 : CodeT := fun c _ t d h K =>
 kO (lenSl (tg t 0)) d h (fun v1 d h =>
 kO (binV Tryz.prog .sub 3 false v1 (tg t 5)) d h (fun v3 d h =>
 kO (binV Tryz.prog .add 3 true v3 (.int .i64 1)) d h (fun v4 d h =>
 K .norm (T.set t 17 v4) d h)))
def r29_41 : CodeT := fun c _ t d h K =>
 kO (binV Tryz.prog .lss 3 false (tg t 15) (tg t 17)) d h (fun v2 d h =>
 K .norm (T.set t 138 v2) d h)
def r29_42 : CodeT := fun c _ t d h K =>
 kO (indexSl 1 (tg t 0) (tg t 15)) d h (fun v2 d h =>
 kO (loadOne h v2) d h (fun v3 d h =>
 kO (binV Tryz.prog .neq 5 false v3 (tg t 13)) d h (fun v5 d h =>
 K .norm (T.set t 144 v5) d h)))
def r29_43 : CodeT := fun c _ t d h K =>
 kO (binV Tryz.prog .add 3 true (tg t 15) (.int .i64 1)) d h (fun v2 d h =>
 kO (sliceSl 1 (tg t 0) (some v2) (some (tg t 17)) none) d h (fun v4 d h =>
 c 43 [v4, (tg t 13)] h (fun v h => (fun v6 d h =>
 K .norm (T.set t 18 v6) d h) v d h)))
def r29_44 : CodeT := fun c _ t d h K =>
 kO (binV Tryz.prog .lss 3 true (tg t 18) (.int .i64 0)) d h (fun v1 d h =>
 K .norm (T.set t 153 v1) d h)
def r29_45 : CodeT := fun c _ t d h K =>
 kO (binV Tryz.prog .add 3 true (tg t 18) (.int .i64 1)) d h (fun v2 d h =>
 kO (binV Tryz.prog .add 3 false (tg t 15) v2) d h (fun v3 d h =>
 K .norm (T.set t 15 v3) d h))
def r29_46 : CodeT := fun c _ t d h K => (⟨opStep (oT 0) pI wT
 ⟨opStep (oT 15) pI wT
 ⟨opStep (oK fun e _ _ => binV Tryz.prog .add 3 true (nthD 0 e) (.int .i64 1)) pI wT
 ⟨opStep (oK fun e _ _ => indexSl 1 (nthD 2 e) (nthD 0 e)) pI wT
 ⟨opStep (oK fun e _ h => loadOne h (nthD 0 e)) pI wT
 ⟨opStep (oT 14) pI wT
 ⟨opStep (oK fun e _ _ => binV Tryz.prog .eql 5 false (nthD 1 e) (nthD 0 e)) pI wT
 ⟨opStep (oN 0) pI wT
 ⟨opStep (oT 0) pI (wB true 0)
 ⟨opStep (oT 15) pI (wB true 1)
 ⟨opStep (oT 15) pI (wB true 2)
 ⟨opStep (oT 5) pI (wB true 3)
 ⟨opStep (oK fun e _ _ => binV Tryz.prog .add 3 false (nthD 1 e) (nthD 0 e)) pI (wB true 4)
 ⟨opStep (oK fun e _ _ => sliceSl 1 (nthD 4 e) (some (nthD 3 e)) (some (nthD 0 e)) none) pI (wB true 5)
 ⟨opStep (oT 1) pI (wB true 6)
 ⟨opStep ⟨fun c e t d h K => c 44 [(nthD 1 e), (nthD 0 e)] h (fun v h => (K) v d h)⟩ pI (wB true 7)
 ⟨opStep (oK fun e _ _ => pickV (nthD 8 e) (nthD 0 e) (.bool false)) (pS 174) wT
 ⟨fun _ _ t d h K => K .norm t d h⟩⟩⟩⟩⟩⟩⟩⟩⟩⟩⟩⟩⟩⟩⟩⟩⟩⟩ : Box OpsT).f c [] t d h K
def r29_47 : CodeT := fun c _ t d h K =>
 K .norm (T.set t 4 (tg t 15)) d h
def r29_48 : CodeT := fun c _ t d h K =>
 kO (binV Tryz.prog .add 3 true (tg t 15) (.int .i64 1)) d h (fun v1 d h =>
 K .norm (T.set t 15 v1) d h)
def r29_49 : CodeT := fun c _ t d h K =>
 kO (binV Tryz.prog .add 3 true (tg t 16) (.int .i64 1)) d h (fun v1 d h =>
 K .norm (T.set t 16 v1) d h)
def r29_50 : CodeT := fun c _ t d h K => (⟨opStep (oT 16) pI wT
 ⟨opStep (oT 15) pI wT
 ⟨opStep (oK fun e _ _ => binV Tryz.prog .shr 3 true (nthD 0 e) (.int .u64 4)) pI wT
 ⟨opStep (oK fun e _ _ => binV Tryz.prog .add 3 true (.int .i64 4) (nthD 0 e)) pI wT
 ⟨opStep (oK fun e _ _ => binV Tryz.prog .geq 3 false (nthD 3 e) (nthD 0 e)) pI wT
 ⟨opStep (oN 0) pI wT
 ⟨opStep (oT 15) pI (wB true 0)
 ⟨opStep (oT 17) pI (wB true 1)
 ⟨opStep (oK fun e _ _ => binV Tryz.prog .lss 3 false (nthD 1 e) (nthD 0 e)) pI (wB true 2)
 ⟨opStep (oK fun e _ _ => pickV (nthD 3 e) (nthD 0 e) (.bool false)) (pS 189) wT
 ⟨fun _ _ t d h K => K .norm t d h⟩⟩⟩⟩⟩⟩⟩⟩⟩⟩⟩ : Box OpsT).f c [] t d h K
def r29_51 : CodeT := fun c _ t d h K =>
 kO (sliceSl 1 (tg t 0) (some (tg t 15)) none none) d h (fun v2 d h =>
 c 47 [v2, (tg t 1)] h (fun v h => (fun v4 d h =>
 K .norm (T.set t 19 v4) d h) v d h))
def r29_52 : CodeT := fun c _ t d h K =>
 kO (binV Tryz.prog .lss 3 true (tg t 19) (.int .i64 0)) d h (fun v1 d h =>
 K .norm (T.set t 196 v1) d h)
def r29_53 : CodeT := fun c _ t d h K =>
 K .norm (T.set t 4 (.int .i64 (-1))) d h
def r29_54 : CodeT := fun c _ t d h K =>
 kO (binV Tryz.prog .add 3 false (tg t 15) (tg t 19)) d h (fun v2 d h =>
 K .norm (T.set t 4 v2) d h)
def l29_56 : Box CodeT := ⟨seqC ⟨seqC ⟨r29_41⟩ ⟨condC (tC 138) skipC (exitC 3)⟩⟩ ⟨blockC 4 ⟨seqC ⟨seqC ⟨r29_42⟩ ⟨condC (tC 144) ⟨seqC ⟨r29_43⟩ ⟨seqC ⟨seqC ⟨r29_44⟩ ⟨condC (tC 153) (exitC 3) skipC⟩⟩ ⟨r29_45⟩⟩⟩ skipC⟩⟩ ⟨seqC ⟨seqC ⟨r29_46⟩ ⟨condC (tC 174) ⟨seqC ⟨r29_47⟩ retC⟩ skipC⟩⟩ ⟨seqC ⟨r29_48⟩ ⟨seqC ⟨r29_49⟩ ⟨seqC ⟨r29_50⟩ ⟨condC (tC 189) ⟨seqC ⟨r29_51⟩ ⟨seqC ⟨seqC ⟨r29_52⟩ ⟨condC (tC 196) ⟨seqC ⟨r29_53⟩ retC⟩ skipC⟩⟩ ⟨seqC ⟨r29_54⟩ retC⟩⟩⟩ skipC⟩⟩⟩⟩⟩⟩⟩⟩
def r29_55 : CodeT := fun c _ t d h K =>
 K .norm (T.set t 4 (.int .i64 (-1))) d h
def c29 : Box CodeT := ⟨seqC ⟨r29_0⟩ ⟨seqC ⟨r29_1⟩ ⟨seqC ⟨blockC 0 ⟨seqC ⟨r29_2⟩ ⟨condC (tC 22) ⟨seqC ⟨r29_3⟩ retC⟩ ⟨seqC ⟨r29_4⟩ ⟨condC (tC 25) ⟨seqC ⟨r29_5⟩ retC⟩ ⟨seqC ⟨r29_6⟩ ⟨condC (tC 33) ⟨seqC ⟨seqC ⟨r29_7⟩ ⟨condC (tC 40) ⟨seqC ⟨r29_8⟩ retC⟩ skipC⟩⟩ ⟨seqC ⟨r29_9⟩ retC⟩⟩ ⟨seqC ⟨r29_10⟩ ⟨condC (tC 41) ⟨seqC ⟨r29_11⟩ retC⟩ ⟨seqC ⟨r29_12⟩ ⟨condC (tC 46) ⟨seqC ⟨seqC ⟨r29_13⟩ ⟨condC (tC 52) ⟨seqC ⟨r29_14⟩ retC⟩ skipC⟩⟩ ⟨seqC ⟨r29_15⟩ ⟨seqC ⟨r29_16⟩ ⟨seqC ⟨r29_17⟩ ⟨seqC ⟨r29_18⟩ ⟨seqC ⟨r29_19⟩ ⟨seqC ⟨blockC 1 (loopB l29_35)⟩ ⟨seqC ⟨r29_35⟩ retC⟩⟩⟩⟩⟩⟩⟩⟩ skipC⟩⟩⟩⟩⟩⟩⟩⟩⟩⟩⟩ ⟨seqC ⟨r29_36⟩ ⟨seqC ⟨r29_37⟩ ⟨seqC ⟨r29_38⟩ ⟨seqC ⟨r29_39⟩ ⟨seqC ⟨r29_40⟩ ⟨seqC ⟨blockC 3 (loopB l29_56)⟩ ⟨seqC ⟨r29_55⟩ retC⟩⟩⟩⟩⟩⟩⟩⟩⟩⟩
def q29 : Box (T Value → H → Option (List Value)) := ⟨fun t h => some [tg t 4]⟩
def r30_0 : CodeT := fun c _ t d h K =>
 kA (some (.rw [(.int .u8 0), (.int .u8 0), (.int .i64 0), (.slice none 0 0), (.string (strB [])), (.int .u32 0), (.int .i64 0), (.int .u64 0), (.int .u64 0), (.int .i64 0), (.string (strB [])), (.bool false), (.bool false)] (some 28), ptrTo h.next)) d h (fun v0 d h =>
 K .norm (T.set (T.set (T.set t 2 v0) 3 (.int .i64 0)) 4 (.bool false)) d h)
def r30_1 : CodeT := fun c _ t d h K =>
 c 48 [(tg t 0), (.string (strB [32]))] h (fun v h => (fun v1 d h =>
 kO (aggO (fill [(.slice none 0 0), (.bool false), (.int .u8 0), (.int .u8 0), (.int .i64 0), (.slice none 0 0), (.string (strB [])), (.int .u32 0), (.int .i64 0), (.int .u64 0), (.int .u64 0), (.int .i64 0), (.string (strB [])), (.bool false), (.bool false), (.int .i64 0)] (plc [(0, 1), (1, 1), (2, 13), (15, 1)]) [(0, v1), (1, (.bool true)), (3, (.int .i64 (-1)))])) d h (fun v2 d h =>
 kA (some (.rw (Value.cells v2).toList (some 88), ptrTo h.next)) d h (fun v3 d h =>
 K .norm (T.set t 5 v3) d h))) v d h)
def r30_2 : CodeT := fun c _ t d h K =>
 c 49 [(tg t 5)] h (fun v h => (fun v1 d h =>
 c 50 [(tg t 5)] h (fun v h => (fun v3 d h =>
 kO (lookV Tryz.prog 9 .nilFunc true h v1 v3) d h (fun v4 d h =>
 kO (tupNth 0 v4) d h (fun v6 d h =>
 kO (tupNth 1 v4) d h (fun v7 d h =>
 K .norm (T.set (T.set t 6 v6) 7 v7) d h)))) v d h)) v d h)
def r30_3 : CodeT := fun c _ t d h K =>
 kO (unV .not (tg t 7)) d h (fun v1 d h =>
 K .norm (T.set t 22 v1) d h)
def r30_4 : CodeT := fun c _ t d h K =>
 kO (aggO (fill [(.int .u8 0), (.int .u8 0), (.int .i64 0), (.slice none 0 0), (.string (strB [])), (.int .u32 0), (.int .i64 0), (.int .u64 0), (.int .u64 0), (.int .i64 0), (.string (strB [])), (.bool false), (.bool false)] (plc [(0, 1), (1, 8), (9, 1), (10, 1), (11, 1), (12, 1)]) [])) d h (fun v0 d h =>
 kH (withV undef (storeV 13 h (tg t 2) v0)) d (fun v1 d h =>
 K .norm (T.set (T.set t 3 (.int .i64 0)) 4 (.bool false)) d h))
def r30_5 : CodeT := fun c _ t d h K =>
 goCall c (funcArgs (tg t 6) []) d h (fun v1 d h =>
 K .norm t d h)
def r30_6 : CodeT := fun c _ t d h K =>
 kO (nilChk (tg t 5)) d h (fun v1 d h =>
 kO (fieldPtr 2 v1) d h (fun v2 d h =>
 kO (fieldPtr 1 v2) d h (fun v3 d h =>
 kO (loadAgg 8 h v3) d h (fun v4 d h =>
 kA (some (.rw [(.int .u8 0), (.int .i64 0), (.slice none 0 0), (.string (strB [])), (.int .u32 0), (.int .i64 0), (.int .u64 0), (.int .u64 0)] (some 26), ptrTo h.next)) d h (fun v5 d h =>
 kH (withV undef (storeV 8 h v5 v4)) d (fun v6 d h =>
 K .norm (T.set t 8 v5) d h))))))
def r30_7 : CodeT := fun c _ t d h K =>
 kO (fieldPtr 3 (tg t 8)) d h (fun v0 d h =>
 kH (withV undef (storeV 1 h v0 (.string (strB [])))) d (fun v1 d h =>
 K .norm t d h))
def r30_8 : CodeT := fun c _ t d h K => (⟨opStep (oT 5) pI wT
 ⟨opStep (oK fun e _ _ => nilChk (nthD 0 e)) pI wT
 ⟨opStep (oK fun e _ _ => fieldPtr 1 (nthD 0 e)) pI wT
 ⟨opStep (oK fun e _ h => loadOne h (nthD 0 e)) pI wT
 ⟨opStep (oK fun e _ _ => unV .not (nthD 0 e)) pI wT
 ⟨opStep (oN 0) pI wT
 ⟨opStep (oT 5) pI (wB false 0)
 ⟨opStep (oK fun e _ _ => nilChk (nthD 0 e)) pI (wB false 1)
 ⟨opStep (oK fun e _ _ => fieldPtr 0 (nthD 0 e)) pI (wB false 2)
 ⟨opStep (oK fun e _ h => loadOne h (nthD 0 e)) pI (wB false 3)
 ⟨opStep (oK fun e _ _ => lenSl (nthD 0 e)) pI (wB false 4)
 ⟨opStep (oK fun e _ _ => binV Tryz.prog .gtr 3 true (nthD 0 e) (.int .i64 0)) pI (wB false 5)
 ⟨opStep (oK fun e _ _ => pickV (nthD 6 e) (.bool true) (nthD 0 e)) pI wT
 ⟨opStep (oN 0) pI wT
 ⟨opStep (oT 5) pI (wB false 0)
 ⟨opStep (oK fun e _ _ => nilChk (nthD 0 e)) pI (wB false 1)
 ⟨opStep (oK fun e _ _ => fieldPtr 2 (nthD 0 e)) pI (wB false 2)
 ⟨opStep (oK fun e _ _ => fieldPtr 0 (nthD 0 e)) pI (wB false 3)
 ⟨opStep (oK fun e _ h => loadOne h (nthD 0 e)) pI (wB false 4)
 ⟨opStep (oK fun e _ _ => binV Tryz.prog .eql 5 true (nthD 0 e) (.int .u8 1)) pI (wB false 5)
 ⟨opStep (oN 0) pI (wB false 6)
 ⟨opStep (oK fun _ t h => loadAgg 8 h (tg t 8)) pI (wB true 0)
 ⟨opStep ⟨fun c e t d h K => c 22 [(nthD 0 e)] h (fun v h => (K) v d h)⟩ pI (wB true 1)
 ⟨opStep (oK fun e _ _ => binV Tryz.prog .neq 31 true (nthD 0 e) (.int .i64 0)) pI (wB true 2)
 ⟨opStep (oK fun e _ _ => pickV (nthD 3 e) (nthD 0 e) (.bool false)) pI (wB false 10)
 ⟨opStep (oK fun e _ _ => pickV (nthD 11 e) (.bool true) (nthD 0 e)) (pS 57) wT
 ⟨fun _ _ t d h K => K .norm t d h⟩⟩⟩⟩⟩⟩⟩⟩⟩⟩⟩⟩⟩⟩⟩⟩⟩⟩⟩⟩⟩⟩⟩⟩⟩⟩⟩ : Box OpsT).f c [] t d h K
def r30_9 : CodeT := fun c _ t d h K =>
 kO (aggO (fill [(.int .u8 0), (.int .u8 0), (.int .i64 0), (.slice none 0 0), (.string (strB [])), (.int .u32 0), (.int .i64 0), (.int .u64 0), (.int .u64 0), (.int .i64 0), (.string (strB [])), (.bool false), (.bool false)] (plc [(0, 1), (1, 8), (9, 1), (10, 1), (11, 1), (12, 1)]) [])) d h (fun v0 d h =>
 kH (withV undef (storeV 13 h (tg t 2) v0)) d (fun v1 d h =>
 K .norm (T.set (T.set t 3 (.int .i64 0)) 4 (.bool false)) d h))
def r30_10 : CodeT := fun c _ t d h0 K =>
 (fun (b0 : Nat) (h : H) =>
 kO (nilChk (tg t 5)) d h (fun v1 d h =>
 kO (fieldPtr 2 v1) d h (fun v2 d h =>
 kO (loadAgg 13 h v2) d h (fun v3 d h =>
 kO (nilChk (tg t 5)) d h (fun v5 d h =>
 kO (fieldPtr 15 v5) d h (fun v6 d h =>
 kO (loadOne h v6) d h (fun v7 d h =>
 kH (withV undef (storeV 13 h (tg t 2) v3)) d (fun v8 d h =>
 andB ((hO (loadOne h v6) v7 true) && true) (K .norm (T.set (T.set t 3 v7) 4 (.bool true)) d h))))))))) h0.next ⟨h0.objs, h0.next + 11⟩
def c30 : Box CodeT := ⟨seqC ⟨r30_0⟩ ⟨seqC ⟨r30_1⟩ ⟨seqC ⟨r30_2⟩ ⟨seqC ⟨seqC ⟨r30_3⟩ ⟨condC (tC 22) ⟨seqC ⟨r30_4⟩ retC⟩ skipC⟩⟩ ⟨seqC ⟨r30_5⟩ ⟨seqC ⟨r30_6⟩ ⟨seqC ⟨r30_7⟩ ⟨seqC ⟨seqC ⟨r30_8⟩ ⟨condC (tC 57) ⟨seqC ⟨r30_9⟩ retC⟩ skipC⟩⟩ ⟨seqC ⟨r30_10⟩ retC⟩⟩⟩⟩⟩⟩⟩⟩⟩
def q30 : Box (T Value → H → Option (List Value)) := ⟨fun t h => (match loadAgg 13 h (tg t 2) with | some v => (match (some [tg t 3, tg t 4] : Option (List Value)) with | some l => some (v :: l) | none => none) | none => none)⟩
def r32_0 : CodeT := fun c _ t d h K =>
 kA (some (.rw (Value.cells (tg t 0)).toList (some 28), ptrTo h.next)) d h (fun v0 d h =>
 K .norm (T.set (T.set t 1 v0) 2 (.bool false)) d h)
def r32_1 : CodeT := fun c _ t d h K =>
 kO (fieldPtr 1 (tg t 1)) d h (fun v0 d h =>
 kO (loadAgg 8 h v0) d h (fun v1 d h =>
 kA (some (.rw [(.int .u8 0), (.int .i64 0), (.slice none 0 0), (.string (strB [])), (.int .u32 0), (.int .i64 0), (.int .u64 0), (.int .u64 0)] (some 26), ptrTo h.next)) d h (fun v2 d h =>
 kH (withV undef (storeV 8 h v2 v1)) d (fun v3 d h =>
 K .norm (T.set t 3 v2) d h))))
def r32_2 : CodeT := fun c _ t d h K => (⟨opStep (oK fun _ t _ => fieldPtr 0 (tg t 3)) pI wT
 ⟨opStep (oK fun e _ h => loadOne h (nthD 0 e)) pI wT
 ⟨opStep (oK fun e _ _ => binV Tryz.prog .eql 5 true (nthD 0 e) (.int .u8 0)) pI wT
 ⟨opStep (oN 0) pI wT
 ⟨opStep (oK fun _ t _ => fieldPtr 1 (tg t 3)) pI (wB true 0)
 ⟨opStep (oK fun e _ h => loadOne h (nthD 0 e)) pI (wB true 1)
 ⟨opStep (oK fun e _ _ => binV Tryz.prog .eql 3 true (nthD 0 e) (.int .i64 0)) pI (wB true 2)
 ⟨opStep (oK fun e _ _ => pickV (nthD 3 e) (nthD 0 e) (.bool false)) pI wT
 ⟨opStep (oN 0) pI wT
 ⟨opStep (oK fun _ t _ => fieldPtr 2 (tg t 3)) pI (wB true 0)
 ⟨opStep (oK fun e _ h => loadOne h (nthD 0 e)) pI (wB true 1)
 ⟨opStep (oK fun e _ _ => lenSl (nthD 0 e)) pI (wB true 2)
 ⟨opStep (oK fun e _ _ => binV Tryz.prog .eql 3 true (nthD 0 e) (.int .i64 0)) pI (wB true 3)
 ⟨opStep (oK fun e _ _ => pickV (nthD 4 e) (nthD 0 e) (.bool false)) pI wT
 ⟨opStep (oN 0) pI wT
 ⟨opStep (oK fun _ t _ => fieldPtr 3 (tg t 3)) pI (wB true 0)
 ⟨opStep (oK fun e _ h => loadOne h (nthD 0 e)) pI (wB true 1)
 ⟨opStep (oK fun e _ _ => binV Tryz.prog .eql 9 true (nthD 0 e) (.string (strB []))) pI (wB true 2)
 ⟨opStep (oK fun e _ _ => pickV (nthD 3 e) (nthD 0 e) (.bool false)) pI wT
 ⟨opStep (oN 0) pI wT
 ⟨opStep (oK fun _ t _ => fieldPtr 4 (tg t 3)) pI (wB true 0)
 ⟨opStep (oK fun e _ h => loadOne h (nthD 0 e)) pI (wB true 1)
 ⟨opStep (oK fun e _ _ => binV Tryz.prog .eql 23 true (nthD 0 e) (.int .u32 0)) pI (wB true 2)
 ⟨opStep (oK fun e _ _ => pickV (nthD 3 e) (nthD 0 e) (.bool false)) pI wT
 ⟨opStep (oN 0) pI wT
 ⟨opStep (oK fun _ t _ => fieldPtr 5 (tg t 3)) pI (wB true 0)
 ⟨opStep (oK fun e _ h => loadOne h (nthD 0 e)) pI (wB true 1)
 ⟨opStep (oK fun e _ _ => binV Tryz.prog .eql 3 true (nthD 0 e) (.int .i64 0)) pI (wB true 2)
 ⟨opStep (oK fun e _ _ => pickV (nthD 3 e) (nthD 0 e) (.bool false)) pI wT
 ⟨opStep (oN 0) pI wT
 ⟨opStep (oK fun _ t _ => fieldPtr 6 (tg t 3)) pI (wB true 0)
 ⟨opStep (oK fun e _ h => loadOne h (nthD 0 e)) pI (wB true 1)
 ⟨opStep (oK fun e _ _ => binV Tryz.prog .eql 24 true (nthD 0 e) (.int .u64 0)) pI (wB true 2)
 ⟨opStep (oK fun e _ _ => pickV (nthD 3 e) (nthD 0 e) (.bool false)) pI wT
 ⟨opStep (oN 0) pI wT
 ⟨opStep (oK fun _ t _ => fieldPtr 7 (tg t 3)) pI (wB true 0)
 ⟨opStep (oK fun e _ h => loadOne h (nthD 0 e)) pI (wB true 1)
 ⟨opStep (oK fun e _ _ => binV Tryz.prog .eql 24 true (nthD 0 e) (.int .u64 0)) pI (wB true 2)
 ⟨opStep (oK fun e _ _ => pickV (nthD 3 e) (nthD 0 e) (.bool false)) pI wT
 ⟨opStep (oN 0) (pS 2) wT
 ⟨fun _ _ t d h K => K .norm t d h⟩⟩⟩⟩⟩⟩⟩⟩⟩⟩⟩⟩⟩⟩⟩⟩⟩⟩⟩⟩⟩⟩⟩⟩⟩⟩⟩⟩⟩⟩⟩⟩⟩⟩⟩⟩⟩⟩⟩⟩⟩ : Box OpsT).f c [] t d h K
def c32 : Box CodeT := ⟨seqC ⟨r32_0⟩ ⟨seqC ⟨r32_1⟩ ⟨seqC ⟨r32_2⟩ retC⟩⟩⟩
def q32 : Box (T Value → H → Option (List Value)) := ⟨fun t h => some [tg t 2]⟩
def r33_0 : CodeT := fun c _ t d h K =>
 kA (some (.rw (Value.cells (tg t 0)).toList (some 26), ptrTo h.next)) d h (fun v0 d h =>
 K .norm (T.set (T.set t 1 v0) 2 (.bool false)) d h)
def r33_1 : CodeT := fun c _ t d h K =>
 kO (fieldPtr 0 (tg t 1)) d h (fun v0 d h =>
 kO (loadOne h v0) d h (fun v1 d h =>
 c 56 [v1] h (fun v h => (fun v2 d h =>
 K .norm (T.set t 3 v2) d h) v d h)))
def r33_2 : CodeT := fun c _ t d h K =>
 kO (binV Tryz.prog .eql 3 true (tg t 3) (.int .i64 0)) d h (fun v1 d h =>
 K .norm (T.set t 7 v1) d h)
def r33_3 : CodeT := fun c _ t d h K =>
 kO (fieldPtr 1 (tg t 1)) d h (fun v0 d h =>
 kO (loadOne h v0) d h (fun v1 d h =>
 kO (binV Tryz.prog .lss 3 true v1 (.int .i64 0)) d h (fun v2 d h =>
 K .norm (T.set t 7 v2) d h)))
def r33_4 : CodeT := fun c _ t d h K =>
 kO (fieldPtr 1 (tg t 1)) d h (fun v0 d h =>
 kO (loadOne h v0) d h (fun v1 d h =>
 kO (binV Tryz.prog .geq 3 true v1 (.int .i64 4)) d h (fun v2 d h =>
 K .norm (T.set t 7 v2) d h)))
def r33_5 : CodeT := fun c _ t d h K =>
 kO (loadAgg 8 h (tg t 1)) d h (fun v0 d h =>
 c 57 [v0, (tg t 3)] h (fun v h => (fun v2 d h =>
 kO (unV .not v2) d h (fun v3 d h =>
 K .norm (T.set t 7 v3) d h)) v d h))
def r33_6 : CodeT := fun c _ t d h K =>
 K .norm (T.set t 2 (.bool false)) d h
def r33_7 : CodeT := fun c _ t d h K =>
 kO (fieldPtr 3 (tg t 1)) d h (fun v0 d h =>
 kO (loadOne h v0) d h (fun v1 d h =>
 kO (lenStr v1) d h (fun v2 d h =>
 kO (binV Tryz.prog .gtr 3 true v2 (.int .i64 512)) d h (fun v3 d h =>
 K .norm (T.set t 20 v3) d h))))
def r33_8 : CodeT := fun c _ t d h K => (⟨opStep (oT 3) pI wT
 ⟨opStep (oK fun e _ _ => binV Tryz.prog .and 3 true (nthD 0 e) (.int .i64 2)) pI wT
 ⟨opStep (oK fun e _ _ => binV Tryz.prog .eql 3 true (nthD 0 e) (.int .i64 0)) pI wT
 ⟨opStep (oN 0) pI wT
 ⟨opStep (oK fun _ t _ => fieldPtr 3 (tg t 1)) pI (wB true 0)
 ⟨opStep (oK fun e _ h => loadOne h (nthD 0 e)) pI (wB true 1)
 ⟨opStep (oK fun e _ _ => binV Tryz.prog .neq 9 true (nthD 0 e) (.string (strB []))) pI (wB true 2)
 ⟨opStep (oK fun e _ _ => pickV (nthD 3 e) (nthD 0 e) (.bool false)) pI wT
 ⟨opStep (oN 0) (pS 20) wT
 ⟨fun _ _ t d h K => K .norm t d h⟩⟩⟩⟩⟩⟩⟩⟩⟩⟩ : Box OpsT).f c [] t d h K
def r33_9 : CodeT := fun c _ t d h K =>
 K .norm (T.set t 2 (.bool false)) d h
def r33_10 : CodeT := fun c _ t d h K =>
 kO (fieldPtr 5 (tg t 1)) d h (fun v0 d h =>
 kO (loadOne h v0) d h (fun v1 d h =>
 kO (binV Tryz.prog .lss 3 true v1 (.int .i64 0)) d h (fun v2 d h =>
 K .norm (T.set t 33 v2) d h)))
def r33_11 : CodeT := fun c _ t d h K =>
 kO (fieldPtr 5 (tg t 1)) d h (fun v0 d h =>
 kO (loadOne h v0) d h (fun v1 d h =>
 kO (binV Tryz.prog .gtr 3 true v1 (.int .i64 1099511627776)) d h (fun v2 d h =>
 K .norm (T.set t 33 v2) d h)))
def r33_12 : CodeT := fun c _ t d h K => (⟨opStep (oT 3) pI wT
 ⟨opStep (oK fun e _ _ => binV Tryz.prog .and 3 true (nthD 0 e) (.int .i64 4)) pI wT
 ⟨opStep (oK fun e _ _ => binV Tryz.prog .eql 3 true (nthD 0 e) (.int .i64 0)) pI wT
 ⟨opStep (oN 0) pI wT
 ⟨opStep (oK fun _ t _ => fieldPtr 5 (tg t 1)) pI (wB true 0)
 ⟨opStep (oK fun e _ h => loadOne h (nthD 0 e)) pI (wB true 1)
 ⟨opStep (oK fun e _ _ => binV Tryz.prog .neq 3 true (nthD 0 e) (.int .i64 0)) pI (wB true 2)
 ⟨opStep (oK fun e _ _ => pickV (nthD 3 e) (nthD 0 e) (.bool false)) pI wT
 ⟨opStep (oN 0) (pS 33) wT
 ⟨fun _ _ t d h K => K .norm t d h⟩⟩⟩⟩⟩⟩⟩⟩⟩⟩ : Box OpsT).f c [] t d h K
def r33_13 : CodeT := fun c _ t d h K =>
 K .norm (T.set t 2 (.bool false)) d h
def r33_14 : CodeT := fun c _ t d h K => (⟨opStep (oT 3) pI wT
 ⟨opStep (oK fun e _ _ => binV Tryz.prog .and 3 true (nthD 0 e) (.int .i64 8)) pI wT
 ⟨opStep (oK fun e _ _ => binV Tryz.prog .neq 3 true (nthD 0 e) (.int .i64 0)) pI wT
 ⟨opStep (oN 0) pI wT
 ⟨opStep (oK fun _ t _ => fieldPtr 4 (tg t 1)) pI (wB false 0)
 ⟨opStep (oK fun e _ h => loadOne h (nthD 0 e)) pI (wB false 1)
 ⟨opStep (oK fun e _ _ => binV Tryz.prog .eql 23 true (nthD 0 e) (.int .u32 0)) pI (wB false 2)
 ⟨opStep (oK fun e _ _ => pickV (nthD 3 e) (.bool true) (nthD 0 e)) pI wT
 ⟨opStep (oN 0) pI wT
 ⟨opStep (oT 3) pI (wB true 0)
 ⟨opStep (oK fun e _ _ => binV Tryz.prog .and 3 true (nthD 0 e) (.int .i64 16)) pI (wB true 1)
 ⟨opStep (oK fun e _ _ => binV Tryz.prog .neq 3 true (nthD 0 e) (.int .i64 0)) pI (wB true 2)
 ⟨opStep (oN 0) pI (wB true 3)
 ⟨opStep (oK fun _ t _ => fieldPtr 6 (tg t 1)) pI (wB false 0)
 ⟨opStep (oK fun e _ h => loadOne h (nthD 0 e)) pI (wB false 1)
 ⟨opStep (oK fun e _ _ => binV Tryz.prog .eql 24 true (nthD 0 e) (.int .u64 0)) pI (wB false 2)
 ⟨opStep (oK fun e _ _ => pickV (nthD 3 e) (.bool true) (nthD 0 e)) pI (wB true 7)
 ⟨opStep (oK fun e _ _ => pickV (nthD 8 e) (nthD 0 e) (.bool false)) pI wT
 ⟨opStep (oN 0) pI wT
 ⟨opStep (oT 3) pI (wB true 0)
 ⟨opStep (oK fun e _ _ => binV Tryz.prog .and 3 true (nthD 0 e) (.int .i64 32)) pI (wB true 1)
 ⟨opStep (oK fun e _ _ => binV Tryz.prog .neq 3 true (nthD 0 e) (.int .i64 0)) pI (wB true 2)
 ⟨opStep (oN 0) pI (wB true 3)
 ⟨opStep (oK fun _ t _ => fieldPtr 7 (tg t 1)) pI (wB false 0)
 ⟨opStep (oK fun e _ h => loadOne h (nthD 0 e)) pI (wB false 1)
 ⟨opStep (oK fun e _ _ => binV Tryz.prog .eql 24 true (nthD 0 e) (.int .u64 0)) pI (wB false 2)
 ⟨opStep (oK fun e _ _ => pickV (nthD 3 e) (.bool true) (nthD 0 e)) pI (wB true 7)
 ⟨opStep (oK fun e _ _ => pickV (nthD 8 e) (nthD 0 e) (.bool false)) pI wT
 ⟨opStep (oN 0) (pS 2) wT
 ⟨fun _ _ t d h K => K .norm t d h⟩⟩⟩⟩⟩⟩⟩⟩⟩⟩⟩⟩⟩⟩⟩⟩⟩⟩⟩⟩⟩⟩⟩⟩⟩⟩⟩⟩⟩⟩ : Box OpsT).f c [] t d h K
def c33 : Box CodeT := ⟨seqC ⟨r33_0⟩ ⟨seqC ⟨r33_1⟩ ⟨seqC ⟨blockC 0 ⟨seqC ⟨seqC ⟨r33_2⟩ ⟨condC (tC 7) skipC ⟨seqC ⟨r33_3⟩ ⟨condC (tC 7) skipC ⟨seqC ⟨r33_4⟩ ⟨condC (tC 7) skipC ⟨r33_5⟩⟩⟩⟩⟩⟩⟩ ⟨condC (tC 7) ⟨seqC ⟨r33_6⟩ retC⟩ ⟨seqC ⟨seqC ⟨r33_7⟩ ⟨condC (tC 20) skipC ⟨r33_8⟩⟩⟩ ⟨condC (tC 20) ⟨seqC ⟨r33_9⟩ retC⟩ ⟨seqC ⟨seqC ⟨r33_10⟩ ⟨condC (tC 33) skipC ⟨seqC ⟨r33_11⟩ ⟨condC (tC 33) skipC ⟨r33_12⟩⟩⟩⟩⟩ ⟨condC (tC 33) ⟨seqC ⟨r33_13⟩ retC⟩ skipC⟩⟩⟩⟩⟩⟩⟩ ⟨seqC ⟨r33_14⟩ retC⟩⟩⟩⟩
def q33 : Box (T Value → H → Option (List Value)) := ⟨fun t h => some [tg t 2]⟩
end
end Go.Proofs.YtilpiiafjehbnaaGreatDoor
