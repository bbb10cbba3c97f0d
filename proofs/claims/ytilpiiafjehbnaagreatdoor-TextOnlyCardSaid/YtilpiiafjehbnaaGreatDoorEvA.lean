import GoSem.Step
namespace Go.Ev
structure Box (α : Type) where
 f : α
inductive Pos where
 | h | o (p : Pos) | i (p : Pos)
 deriving DecidableEq
inductive T (α : Type) where
 | e
 | n (l : T α) (v : Option α) (r : T α)
noncomputable def toPosF (f k : Nat) : Pos :=
 Nat.rec (motive := fun _ => Nat → Pos) (fun _ => .h)
   (fun _ ih k => Bool.rec (Bool.rec (Pos.i (ih (Nat.div k 2))) (Pos.o (ih (Nat.div k 2))) (Nat.beq (Nat.mod k 2) 0)) Pos.h (Nat.ble k 1)) f k
noncomputable def toPos (k : Nat) : Pos := toPosF k k
noncomputable def T.getP {α : Type} (t : T α) (p : Pos) : Option α :=
 Pos.rec (motive := fun _ => T α → Option α)
   (fun t => T.rec (motive := fun _ => Option α) none (fun _ v _ _ _ => v) t)
   (fun _ ih t => T.rec (motive := fun _ => Option α) none (fun l _ _ _ _ => ih l) t)
   (fun _ ih t => T.rec (motive := fun _ => Option α) none (fun _ _ r _ _ => ih r) t) p t
noncomputable def T.setP {α : Type} (t : T α) (p : Pos) (x : Option α) : T α :=
 Pos.rec (motive := fun _ => T α → T α)
   (fun t => T.rec (motive := fun _ => T α) (.n .e x .e) (fun l _ r _ _ => .n l x r) t)
   (fun _ ih t => T.rec (motive := fun _ => T α) (.n (ih .e) none .e) (fun l v r _ _ => .n (ih l) v r) t)
   (fun _ ih t => T.rec (motive := fun _ => T α) (.n .e none (ih .e)) (fun l v r _ _ => .n l v (ih r)) t) p t
noncomputable def T.get {α : Type} (t : T α) (i : Nat) : Option α := t.getP (toPos (Nat.succ i))
noncomputable def T.set {α : Type} (t : T α) (i : Nat) (x : α) : T α := t.setP (toPos (Nat.succ i)) (some x)
noncomputable def T.del {α : Type} (t : T α) (i : Nat) : T α := t.setP (toPos (Nat.succ i)) none
def nth {α : Type} : List α → Nat → Option α
 | [] => fun _ => none
 | x :: xs => fun i => match i with | 0 => some x | i + 1 => nth xs i
def setNth {α : Type} : List α → Nat → α → Option (List α)
 | [] => fun _ _ => none
 | x :: xs => fun i y => match i with | 0 => some (y :: xs) | i + 1 => match setNth xs i y with | some l => some (x :: l) | none => none
def cut {α : Type} : List α → Nat → Option (List α)
 | [] => fun i => match i with | 0 => some [] | _ + 1 => none
 | x :: xs => fun i => match i with | 0 => some (x :: xs) | i + 1 => cut xs i
def takeN {α : Type} : List α → Nat → Option (List α)
 | [] => fun i => match i with | 0 => some [] | _ + 1 => none
 | x :: xs => fun i => match i with | 0 => some [] | i + 1 => match takeN xs i with | some t => some (x :: t) | none => none
def putAt {α : Type} : List α → Nat → List α → Option (List α)
 | [] => fun i ys => match i, ys with | 0, [] => some [] | _, _ => none
 | x :: xs => fun i ys => match i with
   | i + 1 => match putAt xs i ys with | some l => some (x :: l) | none => none
   | 0 => match ys with
     | [] => some (x :: xs)
     | y :: ys => match putAt xs 0 ys with | some l => some (y :: l) | none => none
def repl {α : Type} (z : List α) : Nat → List α
 | 0 => []
 | n + 1 => z ++ repl z n
inductive AObj where
 | ro (cs : List Value)
 | rw (cs : List Value) (ty : Option TypeId)
 | op (cs : List Value) (esz : Nat) (ty : Option TypeId)
 | map (es : List MapEntry) (clock : Nat)
 | lit (es : List (ByteArray × Value))
 | sit (s : ByteArray) (pos : Nat)
 | mit (map : Nat) (since : Nat) (seen : List Nat) (stepped : Nat)
 | nit
structure H where
 objs : T AObj
 next : Nat
def OPEN : Nat := 18446744073709551616
def opCap (lb size : Nat) : Nat := 18446744073709551616 * (lb + 1) + size
def lbOf (cap : Nat) : Nat := cap / 18446744073709551616 - 1
def szOf (cap : Nat) : Nat := cap % 18446744073709551616
def AObj.cells? : AObj → Option (List Value)
 | .ro cs => some cs
 | .rw cs _ => some cs
 | .op cs _ _ => some cs
 | _ => none
noncomputable def H.cellsOf (h : H) (b : Nat) : Option (List Value) :=
 match h.objs.get b with
 | some x => x.cells?
 | none => none
noncomputable def H.new (h : H) (x : AObj) : H := ⟨h.objs.set h.next x, h.next + 1⟩
noncomputable def H.put (h : H) (b : Nat) (x : AObj) : H := ⟨h.objs.set b x, h.next⟩
noncomputable def H.del (h : H) (b : Nat) : H := ⟨h.objs.del b, h.next⟩
def ones : List Value → Bool
 | [] => true
 | v :: r => match v with
   | .agg _ => false
   | .tuple _ => false
   | _ => ones r
noncomputable def H.write (h : H) (b o : Nat) (l : List Value) : Option H :=
 match ones l with
 | false => none
 | true => match h.objs.get b with
   | some (.rw cs ty) => match putAt cs o l with | some l => some (h.put b (.rw l ty)) | none => none
   | some (.op cs e ty) => match putAt cs o l with | some l => some (h.put b (.op l e ty)) | none => none
   | _ => none
noncomputable def H.row (h : H) (b o n : Nat) : Option (List Value) :=
 match h.cellsOf b with
 | some cs => match cut cs o with
   | some r => takeN r n
   | none => none
 | none => none
noncomputable def getT (p : Pos) (tm : T Value) : Value := Option.rec undef (fun v => v) (tm.getP p)
def nthD : Nat → List Value → Value
 | 0 => fun l => match l with | [] => undef | v :: _ => v
 | n + 1 => fun l => match l with | [] => undef | _ :: r => nthD n r
def idx (t : Nat) : List (Option Nat) → Option Nat
 | [] => none
 | d :: r => match d with
   | some d => match Nat.beq d t with
     | true => some 0
     | false => match idx t r with | some k => some (k + 1) | none => none
   | none => match idx t r with | some k => some (k + 1) | none => none
structure SG where
 m : Nat
 g : Nat
 n : Nat
structure Sc where
 S : SG
 done : List (Option Nat)
abbrev EvT := List Value → T Value → Value
noncomputable def opnd (c : Sc) (x : Operand) : Box EvT :=
 match x with
 | .tmp t => match idx t c.done with
   | some k => ⟨fun env _ => nthD k env⟩
   | none => ⟨fun _ tm => getT (toPos (Nat.succ t)) tm⟩
 | .const v => ⟨fun _ _ => v⟩
 | .global g => ⟨fun _ _ => .pointer (some ⟨g, 0, none⟩)⟩
 | .func f => ⟨fun _ _ => .func (.func f) #[] #[]⟩
def cstOk (v : Value) : Bool :=
 match v with
 | .bool _ => true
 | .int .. => true
 | .float .. => true
 | .string _ => true
 | .pointer none => true
 | .slice none _ _ => true
 | .map none => true
 | .nilFunc => true
 | .nilIface => true
 | .tuple a => a.isEmpty
 | .agg a => a.all fun v => match v with
   | .bool _ => true
   | .int .. => true
   | .float .. => true
   | .string _ => true
   | .pointer none => true
   | .slice none _ _ => true
   | .map none => true
   | .nilFunc => true
   | .nilIface => true
   | _ => false
 | _ => false
def known (c : Sc) (x : Operand) : Bool :=
 match x with
 | .tmp t => match idx t c.done with
   | some _ => true
   | none => Nat.testBit c.S.m t
 | .const v => cstOk v
 | .global g => Nat.ble (Nat.succ g) c.S.g
 | .func _ => true
noncomputable def eval (c : Sc) (x : Operand) (env : List Value) (tm : T Value) : Value := (opnd c x).f env tm
noncomputable def evalL (c : Sc) : List Operand → Box (List Value → T Value → List Value)
 | [] => ⟨fun _ _ => []⟩
 | x :: r => ⟨fun env tm => eval c x env tm :: (evalL c r).f env tm⟩
noncomputable def evalO (c : Sc) : Option Operand → Box (List Value → T Value → Option Value)
 | none => ⟨fun _ _ => none⟩
 | some x => ⟨fun env tm => some (eval c x env tm)⟩
def isAgg? (P : Program) (t : TypeId) : Option Bool :=
 match P.underlying t with
 | some (.struct _) | some (.array ..) => some true
 | some _ => some false
 | none => none
def zeroV? (P : Program) (t : TypeId) : Option Value :=
 match P.info? t with
 | some i => match i.zero with
   | some z => match cstOk z with
     | true => some z
     | false => none
   | none => none
 | none => none
def zero? (P : Program) (t : TypeId) : Option (List Value) :=
 match P.info? t with
 | some i => match i.zero with
   | some z => match z.cells.toList.all cstOk with
     | true => some z.cells.toList
     | false => none
   | none => none
 | none => none
def addOff (a : Addr) (n : Nat) : Addr := ⟨a.block, a.off + n, none⟩
def asNat : Value → Option Nat
 | .int _ (.ofNat n) => some n
 | _ => none
def bnd (x : Option Value) (d y : Nat) : Option Nat :=
 match x with
 | none => some d
 | some v => match asNat v with
   | some n => match Nat.ble n y with | true => some n | false => none
   | none => none
def bnds (lo hi mx : Option Value) (len cap : Nat) : Option (Nat × Nat × Nat) :=
 match (match hi, mx with | none, some _ => false | _, _ => true) with
 | false => none
 | true => match bnd mx cap cap with
   | some m => match bnd hi len m with
     | some h => match bnd lo 0 h with
       | some l => some (l, h, m)
       | none => none
     | none => none
   | none => none
def sliceStr (x : Value) (lo hi mx : Option Value) : Option Value :=
 match x, mx with
 | .string s, none => match bnds lo hi none s.size s.size with
   | some (l, h, _) => some (.string ⟨((s.data.toList.drop l).take (h - l)).toArray⟩)
   | none => none
 | _, _ => none
def sliceSl (size : Nat) (x : Value) (lo hi mx : Option Value) : Option Value :=
 match x with
 | .slice a len cap => match Nat.ble OPEN cap, mx with
   | true, some _ => match Nat.beq (szOf cap) size && Nat.ble 1 len && Nat.ble len 9223372036854775807, bnds lo hi mx len len with
     | true, some (l, h, m) => match a with
       | some a => match Nat.beq m l with
         | true => some (.slice (some a) (h - l) 0)
         | false => some (.slice (some (addOff a (l * size))) (h - l) (m - l))
       | none => none
     | _, _ => none
   | true, none => match Nat.beq (szOf cap) size, bnds lo hi none len (Nat.max len (lbOf cap)) with
     | true, some (l, h, m) => match a with
       | some a => some (.slice (some (addOff a (l * size))) (h - l) (opCap (m - l) size))
       | none => none
     | _, _ => none
   | false, _ => match bnds lo hi mx len cap with
     | some (l, h, m) => match Nat.beq m l with
       | true => some (.slice a (h - l) 0)
       | false => some (.slice (match a with | some a => some (addOff a (l * size)) | none => none) (h - l) (m - l))
     | none => none
 | _ => none
def sliceArr (size n : Nat) (x : Value) (lo hi mx : Option Value) : Option Value :=
 match x with
 | .pointer (some a) => match bnds lo hi mx n n with
   | some (l, h, m) => match Nat.beq m l with
     | true => some (.slice (some a) (h - l) 0)
     | false => some (.slice (some (addOff a (l * size))) (h - l) (m - l))
   | none => none
 | _ => none
def indexSl (size : Nat) (x i : Value) : Option Value :=
 match x with
 | .slice (some a) len _ => match asNat i with
   | some k => match Nat.ble (k + 1) len with | true => some (.pointer (some (addOff a (k * size)))) | false => none
   | none => none
 | _ => none
def indexArr (size n : Nat) (x i : Value) : Option Value :=
 match x with
 | .pointer (some a) => match asNat i with
   | some k => match Nat.ble (k + 1) n with | true => some (.pointer (some (addOff a (k * size)))) | false => none
   | none => none
 | _ => none
def partV (agg : Bool) (size : Nat) (cs : List Value) (off : Nat) : Option Value :=
 match agg with
 | true => match cut cs off with
   | some r => match takeN r size with | some l => some (.agg l.toArray) | none => none
   | none => none
 | false => nth cs off
def fieldOf (agg : Bool) (size off : Nat) (x : Value) : Option Value :=
 match x with
 | .agg cs => partV agg size cs.toList off
 | _ => none
def fieldPtr (off : Nat) (x : Value) : Option Value :=
 match x with
 | .pointer (some a) => some (.pointer (some (addOff a off)))
 | _ => none
def indexAgg (agg : Bool) (size n : Nat) (x i : Value) : Option Value :=
 match x with
 | .agg cs => match asNat i with
   | some k => match Nat.ble (k + 1) n with | true => partV agg size cs.toList (k * size) | false => none
   | none => none
 | _ => none
def indexStr (x i : Value) : Option Value :=
 match x with
 | .string s => match asNat i with
   | some k => match nth s.data.toList k with | some b => some (.int .u8 (Int.ofNat b.toNat)) | none => none
   | none => none
 | _ => none
def pureRun (P : Program) (s : Sem Value) : Option Value :=
 match s.run P default with
 | .ok v _ => some v
 | .halt _ _ => none
def sameAt (a b : Addr) : Option Bool :=
 match Nat.beq a.block b.block && Nat.beq a.off b.off && a.spot.isNone && b.spot.isNone with | true => some true | false => none
def isNilEq (x y : Value) : Option Bool :=
 match x with
 | .pointer none => match y with | .pointer (some _) => some false | .pointer none => some true | _ => none
 | .pointer (some a) => match y with | .pointer none => some false | .pointer (some b) => sameAt a b | _ => none
 | .slice none _ _ => match y with | .slice (some _) _ _ => some false | .slice none _ _ => some true | _ => none
 | .slice (some _) _ _ => match y with | .slice none _ _ => some false | _ => none
 | .map none => match y with | .map (some _) => some false | .map none => some true | _ => none
 | .map (some _) => match y with | .map none => some false | _ => none
 | .nilFunc => match y with | .func .. => some false | .nilFunc => some true | _ => none
 | .func .. => match y with | .nilFunc => some false | _ => none
 | .nilIface => match y with | .iface .. => some false | .nilIface => some true | _ => none
 | .iface .. => match y with | .nilIface => some false | _ => none
 | _ => none
def leB : List UInt8 → List UInt8 → Bool
 | [] => fun y => match y with | [] => true | _ :: _ => false
 | a :: x => fun y => match y with | [] => false | b :: y => match Nat.beq a.toNat b.toNat with | true => leB x y | false => false
def ltB : List UInt8 → List UInt8 → Bool
 | [] => fun y => match y with | [] => false | _ :: _ => true
 | a :: x => fun y => match y with
   | [] => false
   | b :: y => match Nat.beq a.toNat b.toNat with | true => ltB x y | false => Nat.ble (a.toNat + 1) b.toNat
def catV (x y : ByteArray) : Option Value :=
 match Nat.ble (x.size + y.size) 9223372036854775807 with
 | true => some (.string ⟨(x.data.toList ++ y.data.toList).toArray⟩)
 | false => none
def strV (op : BinOp) (x y : ByteArray) : Option Value :=
 match op with
 | .add => catV x y
 | .eql => some (.bool (leB x.data.toList y.data.toList))
 | .neq => some (.bool (!leB x.data.toList y.data.toList))
 | .lss => some (.bool (ltB x.data.toList y.data.toList))
 | .leq => some (.bool (!ltB y.data.toList x.data.toList))
 | .gtr => some (.bool (ltB y.data.toList x.data.toList))
 | .geq => some (.bool (!ltB x.data.toList y.data.toList))
 | _ => none
def kEq (a b : IntKind) : Bool :=
 match a with
 | .i8 => match b with | .i8 => true | _ => false
 | .i16 => match b with | .i16 => true | _ => false
 | .i32 => match b with | .i32 => true | _ => false
 | .i64 => match b with | .i64 => true | _ => false
 | .u8 => match b with | .u8 => true | _ => false
 | .u16 => match b with | .u16 => true | _ => false
 | .u32 => match b with | .u32 => true | _ => false
 | .u64 => match b with | .u64 => true | _ => false
def iEq (a b : Int) : Bool :=
 match a with
 | .ofNat m => match b with | .ofNat n => Nat.beq m n | .negSucc _ => false
 | .negSucc m => match b with | .ofNat _ => false | .negSucc n => Nat.beq m n
def iLt (a b : Int) : Bool :=
 match a with
 | .ofNat m => match b with | .ofNat n => Nat.ble (Nat.succ m) n | .negSucc _ => false
 | .negSucc m => match b with | .ofNat _ => true | .negSucc n => Nat.ble (Nat.succ n) m
noncomputable def intOp (op : BinOp) : Box (IntKind → Int → Int → Option Value) :=
 match op with
 | .add => ⟨fun k a b => some (.int k (k.wrap (a + b)))⟩
 | .sub => ⟨fun k a b => some (.int k (k.wrap (a - b)))⟩
 | .mul => ⟨fun k a b => some (.int k (k.wrap (a * b)))⟩
 | .eql => ⟨fun _ a b => some (.bool (iEq a b))⟩
 | .neq => ⟨fun _ a b => some (.bool (!iEq a b))⟩
 | .lss => ⟨fun _ a b => some (.bool (iLt a b))⟩
 | .leq => ⟨fun _ a b => some (.bool (!iLt b a))⟩
 | .gtr => ⟨fun _ a b => some (.bool (iLt b a))⟩
 | .geq => ⟨fun _ a b => some (.bool (!iLt a b))⟩
 | .quo => ⟨fun k a b => match iEq b 0 with | true => none | false => some (.int k (k.wrap (a.tdiv b)))⟩
 | .rem => ⟨fun k a b => match iEq b 0 with | true => none | false => some (.int k (a.tmod b))⟩
 | _ => ⟨fun _ _ _ => none⟩
def orRun (P : Program) (op : BinOp) (t : TypeId) (k k' : IntKind) (x y : Int) (r : Option Value) : Option Value :=
 match r with | some v => some v | none => pureRun P (binOp op t (.int k x) (.int k' y))
def bEq (a b : Bool) : Bool := match a with | true => b | false => !b
mutual
def eqV (P : Program) : Nat → TypeId → Value → Value → Option Bool
 | 0 => fun _ _ _ => none
 | d + 1 => fun t x y => match P.underlying t with
   | some .bool => (match x, y with | .bool a, .bool b => some (bEq a b) | _, _ => none)
   | some (.int _) => (match x, y with | .int k a, .int l b => (match kEq k l with | true => some (iEq a b) | false => none) | _, _ => none)
   | some .string => (match x, y with | .string a, .string b => some (leB a.data.toList b.data.toList) | _, _ => none)
   | some (.struct fs) => (match P.stoodInHeld t with
     | false => (match x, y with | .agg xs, .agg ys => eqFs P d xs.toList ys.toList fs.toList | _, _ => none)
     | true => none)
   | _ => none
def eqFs (P : Program) : Nat → List Value → List Value → List Field → Option Bool
 | 0 => fun _ _ _ => none
 | d + 1 => fun xs ys l => match l with
   | [] => some true
   | f :: r => match f.name == "_", isAgg? P f.type with
     | false, some b => (match partV b (P.cellsOf f.type) xs f.offset, partV b (P.cellsOf f.type) ys f.offset with
       | some x, some y => (match eqV P d f.type x y with
         | some true => eqFs P d xs ys r
         | some false => some false
         | none => none)
       | _, _ => none)
     | _, _ => none
end
def boolRes (op : BinOp) (r : Option Bool) : Option Value :=
 match r with
 | some r => match op with
   | .eql => some (.bool r)
   | .neq => some (.bool (!r))
   | _ => none
 | none => none
def aggEq (P : Program) (op : BinOp) (t : TypeId) (x y : Value) : Option Value :=
 match P.eqGuardType P.depth t with
 | false => boolRes op (eqV P 200 t x y)
 | true => none
def binElse (P : Program) (op : BinOp) (t : TypeId) (cst : Bool) (a b : Value) : Option Value :=
 match a, b with
 | .bool x, .bool y => boolRes op (match P.underlying t with | some .bool => some (bEq x y) | _ => none)
 | .agg x, .agg y => aggEq P op t (.agg x) (.agg y)
 | .nilIface, .nilIface => (match cst with | true => boolRes op (nilIf P t a b) | false => none)
 | a, b => boolRes op (nilIf P t a b)
where
 nilIf (P : Program) (t : TypeId) (a b : Value) : Option Bool :=
   match isNilEq a b with
   | some r => match nilFits P t a with | true => some r | false => none
   | none => ifEq P t a b
 ifEq (P : Program) (t : TypeId) (a b : Value) : Option Bool :=
   match a with
   | .iface t1 x => match b with
     | .iface t2 y => match x with
       | .int k n => match y with
         | .int l m => match Nat.beq t1 t2 && kEq k l, P.underlying t, P.info? t1, P.underlying t1 with
           | true, some (.interface _), some i, some (.int _) => match i.comparable with | true => some (iEq n m) | false => none
           | _, _, _, _ => none
         | _ => none
       | _ => none
     | _ => none
   | _ => none
 nilFits (P : Program) (t : TypeId) (a : Value) : Bool :=
   match P.underlying t with
   | some (.pointer e) => (match a with | .pointer none => true | .pointer (some _) => (P.info? e).isSome | _ => false)
   | some (.slice _) => (match a with | .slice .. => true | _ => false)
   | some (.map ..) => (match a with | .map _ => true | _ => false)
   | some (.func ..) => (match a with | .nilFunc => true | .func .. => true | _ => false)
   | some (.interface _) => (match a with | .nilIface => true | .iface .. => true | _ => false)
   | _ => false
noncomputable def binInt (P : Program) (op : BinOp) (t : TypeId) (k : IntKind) (x : Int) (b : Value) : Option Value :=
 match b with
 | .int k' y => match kEq k k' with
   | true => orRun P op t k k' x y ((intOp op).f k x y)
   | false => pureRun P (binOp op t (.int k x) (.int k' y))
 | _ => none
def binStr (op : BinOp) (x : ByteArray) (b : Value) : Option Value :=
 match b with
 | .string y => strV op x y
 | _ => none
noncomputable def binV (P : Program) (op : BinOp) (t : TypeId) (cst : Bool) (a b : Value) : Option Value :=
 match a with
 | .int k x => binInt P op t k x b
 | .string x => binStr op x b
 | a => binElse P op t cst a b
def isCst (x : Operand) : Bool := match x with | .const _ => true | _ => false
def unV (op : UnOp) (x : Value) : Option Value :=
 match op with
 | .not => match x with | .bool b => some (.bool (!b)) | _ => none
 | .neg => match x with | .int k n => some (.int k (k.wrap (0 - n))) | _ => none
 | .xor => match x with | .int k n => some (.int k (k.wrap (BitVec.ofInt k.bits (if k.signed then -1 else k.max) ^^^ BitVec.ofInt k.bits n).toNat)) | _ => none
 | _ => none
def fill (z : List Value) (place : Nat → Option (Nat × Nat)) : List (Nat × Value) → Option (List Value)
 | [] => some z
 | (i, v) :: r => match place i with
   | some (off, sz) => match Nat.beq v.cells.size sz with
     | true => match putAt z off v.cells.toList with
       | some z' => fill z' place r
       | none => none
     | false => none
   | none => none
noncomputable def evalP (c : Sc) : List (Nat × Operand) → Box (List Value → T Value → List (Nat × Value))
 | [] => ⟨fun _ _ => []⟩
 | (i, x) :: r => ⟨fun env tm => (i, eval c x env tm) :: (evalP c r).f env tm⟩
def bytesOf (l : List Value) : Option (List UInt8) :=
 match l with
 | [] => some []
 | v :: r => match v with
   | .int .u8 (.ofNat n) => match bytesOf r with | some t => some (UInt8.ofNat n :: t) | none => none
   | _ => none
def tupNth (i : Nat) (x : Value) : Option Value := match x with | .tuple vs => nth vs.toList i | _ => none
def nilChk (x : Value) : Option Value :=
 match x with
 | .pointer (some a) => some (.pointer (some a))
 | .func (.func f) a b => some (.func (.func f) a b)
 | _ => none
def toInt (k : IntKind) (x : Value) : Option Value := match x with | .int _ n => some (.int k (k.wrap n)) | _ => none
def toStr (x : Value) : Option Value := match x with | .string s => some (.string s) | _ => none
def pickV (c a b : Value) : Option Value := match c with | .bool true => some a | .bool false => some b | _ => none
def aggO (o : Option (List Value)) : Option Value := match o with | some l => some (.agg l.toArray) | none => none
def structPlace (P : Program) (fs : Array Field) (i : Nat) : Option (Nat × Nat) :=
 match fs[i]? with | some f => some (f.offset, P.cellsOf f.type) | none => none
def lenSl (x : Value) : Option Value := match x with | .slice _ n _ => some (.int .i64 (Int.ofNat n)) | _ => none
def lenStr (x : Value) : Option Value := match x with | .string s => some (.int .i64 (Int.ofNat s.size)) | _ => none
abbrev PureT := List Value → T Value → Option Value
def no : Box PureT := ⟨fun _ _ => none⟩
noncomputable def pureLen (P : Program) (sc : Sc) (t : TypeId) (x : Operand) : Box PureT :=
 match P.underlying t with
 | some .string => ⟨fun env tm => lenStr (eval sc x env tm)⟩
 | some (.slice _) => ⟨fun env tm => lenSl (eval sc x env tm)⟩
 | some (.array n _) => ⟨fun _ _ => some (.int .i64 (Int.ofNat n))⟩
 | _ => no
def mmI (mx : Bool) : List Value → Int → Option Int
 | [] => fun x => some x
 | v :: r => fun x => match v with
   | .int _ y => match mx with
     | true => mmI mx r (match iLt x y with | true => y | false => x)
     | false => mmI mx r (match iLt y x with | true => y | false => x)
   | _ => none
def foldMM (mx : Bool) (l : List Value) : Option Value :=
 match l with
 | v :: r => match v with
   | .int k x => match mmI mx r x with | some n => some (.int k n) | none => none
   | _ => none
 | [] => none
def capV (x : Value) : Option Value :=
 match x with
 | .slice _ _ c => match Nat.ble OPEN c with | true => none | false => some (.int .i64 (Int.ofNat c))
 | _ => none
def dataV (x : Value) : Option Value :=
 match x with
 | .slice none _ _ => some (.pointer none)
 | .slice (some a) n c => match Nat.ble OPEN c with
   | true => match Nat.ble 1 (Nat.max n (lbOf c)) with | true => some (.pointer (some a)) | false => none
   | false => match Nat.ble 1 c with | true => some (.pointer (some a)) | false => none
 | _ => none
noncomputable def pureCap (P : Program) (sc : Sc) (t : TypeId) (x : Operand) : Box PureT :=
 match P.underlying t with
 | some (.slice _) => ⟨fun env tm => capV (eval sc x env tm)⟩
 | _ => no
noncomputable def pureCall (P : Program) (sc : Sc) (c : Call) : Box PureT :=
 match c.callee with
 | .builtin .cap => match c.argTypes.toList, c.args.toList with
   | [t], [x] => pureCap P sc t x
   | _, _ => no
 | .builtin .unsafeSliceData => match c.args.toList with
   | [x] => ⟨fun env tm => dataV (eval sc x env tm)⟩
   | _ => no
 | .builtin .len => match c.argTypes.toList, c.args.toList with
   | [t], [x] => pureLen P sc t x
   | _, _ => no
 | .builtin .min => ⟨fun env tm => foldMM false ((evalL sc c.args.toList).f env tm)⟩
 | .builtin .max => ⟨fun env tm => foldMM true ((evalL sc c.args.toList).f env tm)⟩
 | _ => no
noncomputable def pureConv (P : Program) (sc : Sc) (s d : TypeId) (x : Operand) : Box PureT :=
 match P.underlying s, P.underlying d with
 | some _, some (.int k) => ⟨fun env tm => toInt k (eval sc x env tm)⟩
 | some .string, some .string => ⟨fun env tm => toStr (eval sc x env tm)⟩
 | _, _ => no
noncomputable def pureSlice (P : Program) (sc : Sc) (t : TypeId) (x : Operand) (lo hi mx : Option Operand) : Box PureT :=
 match P.underlying t with
 | some .string => ⟨fun env tm => sliceStr (eval sc x env tm) ((evalO sc lo).f env tm) ((evalO sc hi).f env tm) ((evalO sc mx).f env tm)⟩
 | some (.slice e) => match isAgg? P e with
   | some _ => ⟨fun env tm => sliceSl (P.cellsOf e) (eval sc x env tm) ((evalO sc lo).f env tm) ((evalO sc hi).f env tm) ((evalO sc mx).f env tm)⟩
   | none => no
 | some (.array n e) => match isAgg? P e, Nat.ble OPEN n with
   | none, _ => no
   | some _, true => no
   | some _, false => ⟨fun env tm => sliceArr (P.cellsOf e) n (eval sc x env tm) ((evalO sc lo).f env tm) ((evalO sc hi).f env tm) ((evalO sc mx).f env tm)⟩
 | _ => no
noncomputable def pureIndexA (P : Program) (sc : Sc) (t : TypeId) (x i : Operand) : Box PureT :=
 match P.underlying t with
 | some (.slice e) => match isAgg? P e with
   | some _ => ⟨fun env tm => indexSl (P.cellsOf e) (eval sc x env tm) (eval sc i env tm)⟩
   | none => no
 | some (.array n e) => match isAgg? P e with
   | some _ => ⟨fun env tm => indexArr (P.cellsOf e) n (eval sc x env tm) (eval sc i env tm)⟩
   | none => no
 | _ => no
noncomputable def pureIndex (P : Program) (sc : Sc) (t : TypeId) (x i : Operand) : Box PureT :=
 match P.underlying t with
 | some .string => ⟨fun env tm => indexStr (eval sc x env tm) (eval sc i env tm)⟩
 | some (.array n e) => match isAgg? P e with
   | some b => ⟨fun env tm => indexAgg b (P.cellsOf e) n (eval sc x env tm) (eval sc i env tm)⟩
   | none => no
 | _ => no
noncomputable def pureField (P : Program) (sc : Sc) (t : TypeId) (x : Operand) (f : Nat) : Box PureT :=
 match P.underlying t with
 | some (.struct fs) => match fs[f]? with
   | some fd => match isAgg? P fd.type with
     | some b => ⟨fun env tm => fieldOf b (P.cellsOf fd.type) fd.offset (eval sc x env tm)⟩
     | none => no
   | none => no
 | _ => no
noncomputable def pureFieldA (P : Program) (sc : Sc) (t : TypeId) (x : Operand) (f : Nat) : Box PureT :=
 match P.underlying t with
 | some (.struct fs) => match fs[f]? with
   | some fd => match P.cellsOf fd.type with
     | 0 => no
     | _ + 1 => ⟨fun env tm => fieldPtr fd.offset (eval sc x env tm)⟩
   | none => no
 | _ => no
noncomputable def pureBuild (P : Program) (sc : Sc) (t : TypeId) (ps : List (Nat × Operand)) : Box PureT :=
 match zero? P t with
 | some z => match P.underlying t with
   | some (.struct fs) => match fs.all (fun f => (isAgg? P f.type).isSome) with
     | true => ⟨fun env tm => aggO (fill z (structPlace P fs) ((evalP sc ps).f env tm))⟩
     | false => no
   | some (.array _ e) => match isAgg? P e with
     | some _ => ⟨fun env tm => aggO (fill z (fun i => some (i * P.cellsOf e, P.cellsOf e)) ((evalP sc ps).f env tm))⟩
     | none => no
   | _ => no
 | none => no
noncomputable def pureIface (P : Program) (sc : Sc) (t : TypeId) (x : Operand) : Box PureT :=
 match P.underlying t with
 | some (.interface _) => no
 | some _ => ⟨fun env tm => some (.iface t (eval sc x env tm))⟩
 | none => no
noncomputable def pureB (P : Program) (sc : Sc) (o : Op) : Box PureT :=
 match o with
 | .move x => ⟨fun env tm => some (eval sc x env tm)⟩
 | .assign x => ⟨fun env tm => some (eval sc x env tm)⟩
 | .pick c a b => ⟨fun env tm => pickV (eval sc c env tm) (eval sc a env tm) (eval sc b env tm)⟩
 | .nilCheck x => ⟨fun env tm => nilChk (eval sc x env tm)⟩
 | .extract x i => ⟨fun env tm => tupNth i (eval sc x env tm)⟩
 | .fieldAddr t x f => pureFieldA P sc t x f
 | .field t x f => pureField P sc t x f
 | .indexAddr t x i => pureIndexA P sc t x i
 | .index t x i => pureIndex P sc t x i
 | .slice t x lo hi mx => pureSlice P sc t x lo hi mx
 | .binOp op t x y _ => ⟨fun env tm => binV P op t (isCst x || isCst y) (eval sc x env tm) (eval sc y env tm)⟩
 | .unOp op _ x => ⟨fun env tm => unV op (eval sc x env tm)⟩
 | .convert s d x => pureConv P sc s d x
 | .build t ps => pureBuild P sc t ps.toList
 | .makeInterface t x => pureIface P sc t x
 | .makeFunc fn a b => ⟨fun env tm => some (.func fn ((evalL sc a.toList).f env tm).toArray ((evalL sc b.toList).f env tm).toArray)⟩
 | .call c => pureCall P sc c
 | _ => no
def veq : Nat → Value → Value → Bool
 | 0 => fun _ _ => false
 | n + 1 => fun x y => match x with
   | .bool a => (match y with | .bool b => (match a with | true => b | false => !b) | _ => false)
   | .int k a => (match y with | .int l b => kEq k l && iEq a b | _ => false)
   | .string s => (match y with | .string t => leB s.data.toList t.data.toList | _ => false)
   | .pointer none => (match y with | .pointer none => true | _ => false)
   | .pointer (some a) => (match y with | .pointer (some b) => aEq a b | _ => false)
   | .slice none m c => (match y with | .slice none n d => Nat.beq m n && Nat.beq c d | _ => false)
   | .slice (some a) m c => (match y with | .slice (some b) n d => aEq a b && Nat.beq m n && Nat.beq c d | _ => false)
   | .map none => (match y with | .map none => true | _ => false)
   | .map (some a) => (match y with | .map (some b) => Nat.beq a b | _ => false)
   | .nilIface => (match y with | .nilIface => true | _ => false)
   | .nilFunc => (match y with | .nilFunc => true | _ => false)
   | .iface t v => (match y with | .iface u w => Nat.beq t u && veq n v w | _ => false)
   | .func f a b => (match y with | .func g c d => fEq f g && vlq (veq n) a.toList c.toList && vlq (veq n) b.toList d.toList | _ => false)
   | .agg l => (match y with | .agg m => vlq (veq n) l.toList m.toList | _ => false)
   | .tuple l => (match y with | .tuple m => vlq (veq n) l.toList m.toList | _ => false)
   | _ => false
where
 aEq (a b : Addr) : Bool := Nat.beq a.block b.block && Nat.beq a.off b.off && (match a.spot with | none => (match b.spot with | none => true | some _ => false) | some _ => false)
 fEq (f g : Fn) : Bool := match f with | .func a => (match g with | .func b => Nat.beq a b | _ => false) | _ => false
 vlq (q : Value → Value → Bool) : List Value → List Value → Bool
   | [] => fun m => match m with | [] => true | _ :: _ => false
   | x :: l => fun m => match m with | [] => false | y :: m => q x y && vlq q l m
abbrev ReadT := List Value → T Value → H → Option Value
def noR : Box ReadT := ⟨fun _ _ _ => none⟩
noncomputable def loadOne (h : H) (x : Value) : Option Value :=
 match x with
 | .pointer (some ⟨b, o, _⟩) => match h.cellsOf b with
   | some cs => nth cs o
   | none => none
 | _ => none
noncomputable def loadAgg (size : Nat) (h : H) (x : Value) : Option Value :=
 match x with
 | .pointer (some ⟨b, o, _⟩) => aggO (h.row b o size)
 | _ => none
noncomputable def loadV (P : Program) (t : TypeId) : Box (H → Value → Option Value) :=
 match isAgg? P t with
 | some true => ⟨fun h x => loadAgg (P.cellsOf t) h x⟩
 | some false => ⟨fun h x => loadOne h x⟩
 | none => ⟨fun _ _ => none⟩
noncomputable def bytesStr (h : H) (x : Value) : Option Value :=
 match x with
 | .slice none _ _ => some (.string ⟨#[]⟩)
 | .slice (some a) len _ => match h.row a.block a.off len with
   | some l => match bytesOf l with
     | some bs => some (.string ⟨bs.toArray⟩)
     | none => none
   | none => none
 | _ => none
noncomputable def ptrUns (h : H) (x : Value) : Option Value :=
 match x with
 | .pointer none => some x
 | .pointer (some ⟨b, o, none⟩) => match h.cellsOf b with
   | some cs => match nth cs o with | some _ => some x | none => none
   | none => none
 | _ => none
def AObj.ty : AObj → Option TypeId
 | .rw _ ty => ty
 | .op _ _ ty => ty
 | _ => none
noncomputable def unsPtr (u : TypeId) (sz : Nat) (h : H) (x : Value) : Option Value :=
 match x with
 | .pointer none => some x
 | .pointer (some ⟨b, 0, none⟩) => match h.objs.get b with
   | some ob => match ob.ty, ob.cells? with
     | some t, some cs => match Nat.beq t u && Nat.ble 1 sz && Nat.ble sz cs.length with | true => some x | false => none
     | _, _ => none
   | none => none
 | _ => none
noncomputable def readConv (P : Program) (sc : Sc) (s d : TypeId) (x : Operand) : Box ReadT :=
 match P.underlying s, P.underlying d with
 | some (.pointer t), some .unsafePointer => match Nat.ble 1 (P.cellsOf t) with
   | true => ⟨fun env tm h => ptrUns h (eval sc x env tm)⟩
   | false => noR
 | some .unsafePointer, some (.pointer u) => ⟨fun env tm h => unsPtr u (P.cellsOf u) h (eval sc x env tm)⟩
 | some (.slice e), some .string => match P.underlying e with
   | some (.int .u8) => ⟨fun env tm h => bytesStr h (eval sc x env tm)⟩
   | _ => noR
 | _, _ => noR
def cmpK (P : Program) (kt : TypeId) (k q : Value) : Option Bool :=
 match k, q with
 | .string a, .string b => some (leB a.data.toList b.data.toList)
 | .int ka a, .int kb b => match kEq ka kb with | true => some (iEq a b) | false => none
 | a, b => eqV P 200 kt a b
def findI (P : Program) (kt : TypeId) (k : Value) : List MapEntry → Nat → Option (Option (Nat × MapEntry))
 | [] => fun _ => some none
 | e :: r => fun i => match cmpK P kt k e.key with
   | some true => some (some (i, e))
   | some false => findI P kt k r (i + 1)
   | none => none
def keyOk (P : Program) (kt : TypeId) (k : Value) : Bool := match eqV P 200 kt k k with | some b => b | none => false
def findK (P : Program) (kt : TypeId) (k : Value) (es : List MapEntry) : Option (Option (Nat × MapEntry)) :=
 match keyOk P kt k with
 | true => findI P kt k es 0
 | false => none
noncomputable def mapOf (h : H) (x : Value) : Option (List MapEntry) :=
 match x with
 | .map none => some []
 | .map (some r) => match h.objs.get r with | some (.map es _) => some es | _ => none
 | _ => none
def found (ok : Bool) (z : Value) (r : Option (Option (Nat × MapEntry))) : Option Value :=
 match r with
 | some (some (_, e)) => some (match ok with | true => .tuple #[e.val, .bool true] | false => e.val)
 | some none => some (match ok with | true => .tuple #[z, .bool false] | false => z)
 | none => none
noncomputable def litOf (h : H) (x : Value) : Option (List (ByteArray × Value)) :=
 match x with
 | .map (some r) => match h.objs.get r with | some (.lit es) => some es | _ => none
 | _ => none
def findS (k : List UInt8) : List (ByteArray × Value) → Option Value
 | [] => none
 | e :: r => match leB k e.1.data.toList with | true => some e.2 | false => findS k r
def foundS (ok : Bool) (z : Value) (r : Option Value) : Value :=
 match r with
 | some v => (match ok with | true => .tuple #[v, .bool true] | false => v)
 | none => (match ok with | true => .tuple #[z, .bool false] | false => z)
noncomputable def lookL (P : Program) (kt : TypeId) (z : Value) (ok : Bool) (h : H) (m k : Value) : Option Value :=
 match litOf h m with
 | some es => match k with
   | .string s => match keyOk P kt (.string s) with | true => some (foundS ok z (findS s.data.toList es)) | false => none
   | _ => none
 | none => none
noncomputable def lookV (P : Program) (kt : TypeId) (z : Value) (ok : Bool) (h : H) (m k : Value) : Option Value :=
 match mapOf h m with
 | some es => found ok z (findK P kt k es)
 | none => lookL P kt z ok h m k
noncomputable def readLook (P : Program) (sc : Sc) (t : TypeId) (m k : Operand) (ok : Bool) : Box ReadT :=
 match P.underlying t with
 | some (.map kt et) => match zeroV? P et with
   | some z => ⟨fun env tm h => lookV P kt z ok h (eval sc m env tm) (eval sc k env tm)⟩
   | none => noR
 | _ => noR
noncomputable def lenMap (h : H) (x : Value) : Option Value := match mapOf h x with | some es => some (.int .i64 (Int.ofNat es.length)) | none => none
noncomputable def readCall (P : Program) (sc : Sc) (c : Call) : Box ReadT :=
 match c.callee with
 | .builtin .len => match c.argTypes.toList, c.args.toList with
   | [t], [x] => match P.underlying t with
     | some (.map ..) => ⟨fun env tm h => lenMap h (eval sc x env tm)⟩
     | _ => noR
   | _, _ => noR
 | _ => noR
noncomputable def entryV (h : H) (it : Value) : Option Value :=
 match it with
 | .pointer (some ⟨r, 0, none⟩) => match h.objs.get r with
   | some (.mit m _ seen stepped) => match seen.getLast? with
     | some stamp => match h.objs.get m with
       | some (.map es clock) => match Nat.beq clock stepped with
         | true => match es.find? (fun e => Nat.beq e.born stamp) with
           | some e => some (.tuple #[e.key, e.val])
           | none => none
         | false => none
       | _ => none
     | none => none
   | _ => none
 | _ => none
noncomputable def readB (P : Program) (sc : Sc) (o : Op) : Box ReadT :=
 match o with
 | .entry it => ⟨fun env tm h => entryV h (eval sc it env tm)⟩
 | .load t a => ⟨fun env tm h => (loadV P t).f h (eval sc a env tm)⟩
 | .convert s d x => readConv P sc s d x
 | .lookup t m k ok => readLook P sc t m k ok
 | .call c => readCall P sc c
 | _ => noR
abbrev AllocT := List Value → T Value → Nat → Option (AObj × Value)
def noA : Box AllocT := ⟨fun _ _ _ => none⟩
def ptrTo (b : Nat) : Value := .pointer (some ⟨b, 0, none⟩)
def mkSlice (e : TypeId) (z : List Value) (bytes : Nat) (b : Nat) (l c : Value) : Option (AObj × Value) :=
 match asNat l with
 | some l => match asNat c with
   | some c => match Nat.ble l c && Nat.ble (bytes * c) 281474976710656 && Nat.ble c 9223372036854775807 with
     | true => some (.rw (repl z c) (some e), .slice (some ⟨b, 0, none⟩) l c)
     | false => none
   | none => none
 | none => none
def mkLit (e : TypeId) (len : Nat) (b : Nat) (o : Option (List Value)) : Option (AObj × Value) :=
 match o with | some l => some (.rw l (some e), .slice (some ⟨b, 0, none⟩) len len) | none => none
def mkBytes (e : TypeId) (b : Nat) (x : Value) : Option (AObj × Value) :=
 match x with
 | .string s => some (.op (s.data.toList.map fun b => .int .u8 (Int.ofNat b.toNat)) 1 (some e), .slice (some ⟨b, 0, none⟩) s.size (opCap s.size 1))
 | _ => none
noncomputable def allocConv (P : Program) (sc : Sc) (s d : TypeId) (x : Operand) : Box AllocT :=
 match P.underlying s, P.underlying d with
 | some .string, some (.slice e) => match P.underlying e with
   | some (.int .u8) => ⟨fun env tm b => mkBytes e b (eval sc x env tm)⟩
   | _ => noA
 | _, _ => noA
noncomputable def allocLit (P : Program) (sc : Sc) (t : TypeId) (len : Nat) (ps : List (Nat × Operand)) : Box AllocT :=
 match P.underlying t with
 | some (.slice e) => match zero? P e with
   | some z => match Nat.beq z.length (P.cellsOf e) && Nat.ble (len * P.cellsOf e) 16777216 && Nat.ble len 16777216 with
     | true => ⟨fun env tm b => mkLit e len b (fill (repl z len) (fun i => some (i * P.cellsOf e, P.cellsOf e)) ((evalP sc ps).f env tm))⟩
     | false => noA
   | none => noA
 | _ => noA
noncomputable def allocMake (P : Program) (sc : Sc) (t : TypeId) (l c : Operand) : Box AllocT :=
 match P.underlying t with
 | some (.slice e) => match zero? P e with
   | some z => match Nat.beq z.length (P.cellsOf e) with
     | true => ⟨fun env tm b => mkSlice e z (P.bytesOf e) b (eval sc l env tm) (eval sc c env tm)⟩
     | false => noA
   | none => noA
 | _ => noA
noncomputable def allocB (P : Program) (sc : Sc) (o : Op) : Box AllocT :=
 match o with
 | .alloc t => match zero? P t with | some z => ⟨fun _ _ b => some (.rw z (some t), ptrTo b)⟩ | none => noA
 | .box t x => ⟨fun env tm b => some (.rw (eval sc x env tm).cells.toList (some t), ptrTo b)⟩
 | .buildSlice t len ps => allocLit P sc t len ps.toList
 | .makeSlice t l c => allocMake P sc t l c
 | .makeMap _ none => ⟨fun _ _ b => some (.map [] 0, .map (some b))⟩
 | .convert s d x => allocConv P sc s d x
 | _ => noA
abbrev HeavyT := List Value → T Value → H → Option (Value × H)
def noH : Box HeavyT := ⟨fun _ _ _ => none⟩
def withV (v : Value) (o : Option H) : Option (Value × H) := match o with | some h => some (v, h) | none => none
noncomputable def storeV (size : Nat) (h : H) (a v : Value) : Option H :=
 match a with
 | .pointer (some ⟨b, o, _⟩) => match Nat.beq v.cells.size size with
   | true => h.write b o v.cells.toList
   | false => none
 | _ => none
noncomputable def firstV (h : H) (size n : Nat) (x : Value) : Option (List Value) :=
 match x with
 | .slice (some a) _ _ => h.row a.block a.off (n * size)
 | .slice none _ _ => some []
 | .string s => some ((s.data.toList.take n).map fun b => .int .u8 (Int.ofNat b.toNat))
 | _ => none
def lenV (x : Value) : Option Nat :=
 match x with
 | .slice _ n _ => some n
 | .string s => some s.size
 | _ => none
def tyIf (e : TypeId) (off : Nat) (ty : Option TypeId) : Option TypeId :=
 match ty with
 | some t => match Nat.beq off 0 && Nat.beq t e with | true => some t | false => none
 | none => none
noncomputable def grow (h : H) (old new : List Value) (need size : Nat) (ty : Option TypeId) : Option (Value × H) :=
 some (.slice (some ⟨h.next, 0, none⟩) need (opCap need size), h.new (.op (old ++ new) size ty))
noncomputable def appOpen (e : TypeId) (size : Nat) (h : H) (a : Addr) (sl sc n : Nat) (new : List Value) : Option (Value × H) :=
 match Nat.beq (szOf sc) size && ones new with
 | true => match h.objs.get a.block with
   | some (.op cs es ty) => match putAt cs (a.off + sl * size) new with
     | some cs' => some (.slice (some a) (sl + n) (opCap (Nat.max (lbOf sc) (sl + n)) size), h.put a.block (.op cs' es ty))
     | none => match Nat.beq (a.off + sl * size) cs.length, cut cs a.off with
       | true, some old => grow (h.del a.block) old new (sl + n) size (tyIf e a.off ty)
       | _, _ => none
   | _ => none
 | false => none
noncomputable def appExact (e : TypeId) (size : Nat) (h : H) (a : Addr) (sl sc n : Nat) (new : List Value) : Option (Value × H) :=
 match Nat.ble (sl + n) sc with
 | true => match h.write a.block (a.off + sl * size) new with
   | some h' => some (.slice (some a) (sl + n) sc, h')
   | none => none
 | false => match h.row a.block a.off (sl * size) with
   | some old => grow h old new (sl + n) size (some e)
   | none => none
noncomputable def appTo (e : TypeId) (size bytes : Nat) (h : H) (base : Option Addr) (sl sc n : Nat) (new : List Value) : Option (Value × H) :=
 match n with
 | 0 => match Nat.ble sl sc with | true => some (.slice base sl sc, h) | false => none
 | _ + 1 => match Nat.ble ((sl + n) * bytes) 140737488355328 && Nat.ble (sl + n) 9223372036854775807 with
   | false => none
   | true => match base with
     | none => match sl, sc with | 0, 0 => grow h [] new (sl + n) size (some e) | _, _ => none
     | some a => match Nat.ble OPEN sc with
       | true => appOpen e size h a sl sc n new
       | false => appExact e size h a sl sc n new
noncomputable def appendV (e : TypeId) (size bytes : Nat) (h : H) (s x : Value) : Option (Value × H) :=
 match s with
 | .slice base sl sc => match lenV x with
   | some n => match firstV h size n x with
     | some new => match Nat.beq new.length (n * size) with
       | true => appTo e size bytes h base sl sc n new
       | false => none
     | none => none
   | none => none
 | _ => none
noncomputable def copyTo (h : H) (base : Option Addr) (n : Nat) (new : List Value) : Option (Value × H) :=
 match new with
 | [] => some (.int .i64 (Int.ofNat n), h)
 | _ :: _ => match base with
   | some a => withV (.int .i64 (Int.ofNat n)) (h.write a.block a.off new)
   | none => none
noncomputable def copyV (size : Nat) (h : H) (d x : Value) : Option (Value × H) :=
 match d with
 | .slice base dl _ => match lenV x with
   | some xl => match firstV h size (Nat.min xl dl) x with
     | some new => copyTo h base (Nat.min xl dl) new
     | none => none
   | none => none
 | _ => none
def same1 (x y : Value) : Bool :=
 match x with
 | .bool a => (match y with | .bool b => bEq a b | _ => false)
 | .int k a => (match y with | .int l b => kEq k l && iEq a b | _ => false)
 | .string s => (match y with | .string t => leB s.data.toList t.data.toList | _ => false)
 | _ => false
def same1L : List Value → List Value → Bool
 | [] => fun m => match m with | [] => true | _ :: _ => false
 | x :: l => fun m => match m with | [] => false | y :: m => match same1 x y with | true => same1L l m | false => false
def sameK (x y : Value) : Bool :=
 match x with
 | .agg a => (match y with | .agg b => same1L a.toList b.toList | _ => false)
 | x => same1 x y
noncomputable def updM (P : Program) (kt : TypeId) (h : H) (m k x : Value) : Option H :=
 match m with
 | .map (some r) => match h.objs.get r with
   | some (.map es c) => match findK P kt k es with
     | some (some (i, e)) => match sameK e.key k with
       | true => match setNth es i { e with key := k, val := x } with | some l => some (h.put r (.map l c)) | none => none
       | false => none
     | some none => some (h.put r (.map (es ++ [{ key := k, val := x, born := c }]) (c + 1)))
     | none => none
   | _ => none
 | _ => none
def delNth {α : Type} : List α → Nat → List α
 | [] => fun _ => []
 | x :: xs => fun i => match i with | 0 => xs | i + 1 => x :: delNth xs i
noncomputable def delM (P : Program) (kt : TypeId) (h : H) (m k : Value) : Option H :=
 match m with
 | .map none => match keyOk P kt k with | true => some h | false => none
 | .map (some r) => match h.objs.get r with
   | some (.map es c) => match findK P kt k es with
     | some (some (i, _)) => some (h.put r (.map (delNth es i) c))
     | some none => some (h.put r (.map es c))
     | none => none
   | _ => none
 | _ => none
noncomputable def clearM (h : H) (m : Value) : Option H :=
 match m with
 | .map none => some h
 | .map (some r) => match h.objs.get r with | some (.map _ c) => some (h.put r (.map [] c)) | _ => none
 | _ => none
noncomputable def clearS (z : List Value) (h : H) (x : Value) : Option H :=
 match x with
 | .slice none _ _ => some h
 | .slice (some a) n _ => match n with
   | 0 => some h
   | n + 1 => h.write a.block a.off (repl z (n + 1))
 | _ => none
noncomputable def heavyUpd (P : Program) (sc : Sc) (t : TypeId) (m k x : Operand) : Box HeavyT :=
 match P.underlying t with
 | some (.map kt _) => ⟨fun env tm h => withV undef (updM P kt h (eval sc m env tm) (eval sc k env tm) (eval sc x env tm))⟩
 | _ => noH
def bytesIn : List Value → Option (List UInt8)
 | [] => some []
 | v :: r => match v with
   | .int .u8 (.ofNat n) => match Nat.ble n 255 with
     | true => match bytesIn r with | some t => some (UInt8.ofNat n :: t) | none => none
     | false => none
   | _ => none
noncomputable def strAt (e : TypeId) (h : H) (n : Nat) (p : Value) : Option (Value × H) :=
 match p with
 | .pointer (some ⟨b, 0, none⟩) => match h.objs.get b with
   | some ob => match ob.ty, ob.cells? with
     | some t, some cs => match Nat.beq t e, takeN cs n with
       | true, some l => match bytesIn l with
         | some bs => some (.string ⟨bs.toArray⟩, h.put b (.ro cs))
         | none => none
       | _, _ => none
     | _, _ => none
   | none => none
 | _ => none
noncomputable def strOf (e : TypeId) (h : H) (p n : Value) : Option (Value × H) :=
 match n with
 | .int .i64 (.ofNat n) => match n with
   | 0 => match p with | .pointer _ => some (.string ⟨#[]⟩, h) | _ => none
   | n + 1 => match Nat.ble (n + 1) 9223372036854775807 with | true => strAt e h (n + 1) p | false => none
 | _ => none
noncomputable def heavyCall (P : Program) (sc : Sc) (c : Call) : Box HeavyT :=
 match c.callee with
 | .builtin .unsafeString => match c.argTypes.toList, c.args.toList with
   | [t, _], [p, n] => match P.underlying t with
     | some (.pointer e) => match Nat.beq (P.cellsOf e) 1 with
       | true => ⟨fun env tm h => strOf e h (eval sc p env tm) (eval sc n env tm)⟩
       | false => noH
     | _ => noH
   | _, _ => noH
 | .builtin .append => match c.argTypes.toList, c.args.toList with
   | [t, u], [s, x] => match P.underlying t, P.underlying u with
     | some (.slice _), some (.int _) => noH
     | some (.slice e), some _ => match zero? P e with
       | some z => match Nat.beq z.length (P.cellsOf e) && Nat.ble 1 (P.cellsOf e) && Nat.ble (P.cellsOf e) 9223372036854775807 with
         | true => ⟨fun env tm h => appendV e (P.cellsOf e) (P.bytesOf e) h (eval sc s env tm) (eval sc x env tm)⟩
         | false => noH
       | none => noH
     | _, _ => noH
   | _, _ => noH
 | .builtin .copy => match c.argTypes.toList, c.args.toList with
   | [t, _], [s, x] => match P.underlying t with
     | some (.slice e) => match isAgg? P e with
       | some _ => ⟨fun env tm h => copyV (P.cellsOf e) h (eval sc s env tm) (eval sc x env tm)⟩
       | none => noH
     | _ => noH
   | _, _ => noH
 | .builtin .delete => match c.argTypes.toList, c.args.toList with
   | [t, _], [m, k] => match P.underlying t with
     | some (.map kt _) => ⟨fun env tm h => withV (.tuple #[]) (delM P kt h (eval sc m env tm) (eval sc k env tm))⟩
     | _ => noH
   | _, _ => noH
 | .builtin .clear => match c.argTypes.toList, c.args.toList with
   | [t], [m] => match P.underlying t with
     | some (.map ..) => ⟨fun env tm h => withV (.tuple #[]) (clearM h (eval sc m env tm))⟩
     | some (.slice e) => match zero? P e with
       | some z => ⟨fun env tm h => withV (.tuple #[]) (clearS z h (eval sc m env tm))⟩
       | none => noH
     | _ => noH
   | _, _ => noH
 | _ => noH
noncomputable def rangeStr (h : H) (x : Value) : Option (Value × H) := match x with | .string s => some (ptrTo h.next, h.new (.sit s 0)) | _ => none
noncomputable def rangeMap (h : H) (x : Value) : Option (Value × H) :=
 match x with
 | .map none => some (ptrTo h.next, h.new .nit)
 | .map (some r) => match h.objs.get r with | some (.map _ c) => some (ptrTo h.next, h.new (.mit r c [] c)) | _ => none
 | _ => none
noncomputable def heavyRange (P : Program) (sc : Sc) (t : TypeId) (x : Operand) : Box HeavyT :=
 match P.underlying t with
 | some .string => ⟨fun env tm h => rangeStr h (eval sc x env tm)⟩
 | some (.map ..) => ⟨fun env tm h => rangeMap h (eval sc x env tm)⟩
 | _ => noH
noncomputable def heavyStore (P : Program) (sc : Sc) (t : TypeId) (a x : Operand) : Box HeavyT :=
 match isAgg? P t with
 | some _ => ⟨fun env tm h => withV undef (storeV (P.cellsOf t) h (eval sc a env tm) (eval sc x env tm))⟩
 | none => noH
noncomputable def markV (h : H) (x : Value) : Option (Value × H) :=
 match x with
 | .slice (some a) _ _ => match h.objs.get a.block with
   | some (.rw cs ty) => some (x, h.put a.block (.rw cs ty))
   | some (.op cs e ty) => some (x, h.put a.block (.op cs e ty))
   | _ => none
 | _ => none
noncomputable def heavyMark (P : Program) (sc : Sc) (s d : TypeId) (x : Operand) : Box HeavyT :=
 match Nat.beq s d, P.underlying d with
 | true, some (.slice e) => match P.underlying e with
   | some (.int .u8) => ⟨fun env tm h => markV h (eval sc x env tm)⟩
   | _ => noH
 | _, _ => noH
noncomputable def heavyB (P : Program) (sc : Sc) (o : Op) : Box HeavyT :=
 match o with
 | .convert s d x => heavyMark P sc s d x
 | .store t a x => heavyStore P sc t a x
 | .mapUpdate t m k x => heavyUpd P sc t m k x
 | .insert t m k x => heavyUpd P sc t m k x
 | .range t x => heavyRange P sc t x
 | .call c => heavyCall P sc c
 | _ => noH
abbrev KV := Value → H → Bool
abbrev CallT := Nat → List Value → H → KV → Bool
abbrev Defs := List (Nat × List Value)
def funcArgs (x : Value) (args : List Value) : Option (Nat × List Value) :=
 match x with
 | .func (.func f) first captured => some (f, first.toList ++ (args ++ captured.toList))
 | _ => none
def memN (x : Nat) : List Nat → Bool
 | [] => false
 | y :: r => match Nat.beq x y with | true => true | false => memN x r
def allK (K : KV) : List (Value × H) → Bool
 | [] => true
 | (v, h) :: r => match K v h with | true => allK K r | false => false
def nextStr (h : H) (s : ByteArray) (pos : Nat) (put : AObj → H) (K : KV) : Bool :=
 match Nat.ble (pos + 1) s.size with
 | true => match Utf8.decode s pos with
   | (c, w) => K (.tuple #[.bool true, .int .i64 (Int.ofNat pos), .int .i32 (Int.ofNat c)]) (put (.sit s (pos + w)))
 | false => K (.tuple #[.bool false]) h
noncomputable def nextMap (h : H) (r m since : Nat) (seen : List Nat) (last : Nat) (K : KV) : Bool :=
 match h.objs.get m with
 | some (.map es clock) =>
   match !seen.isEmpty && !es.isEmpty && es.all (fun e => Nat.ble last e.born) with
   | true => false
   | false =>
     let left := es.filter fun e => !memN e.born seen
     let old := left.filter (fun e => Nat.ble (e.born + 1) since)
     let new := left.filter (fun e => Nat.ble since e.born)
     allK K ((match old with | [] => [(.tuple #[.bool false], h)] | _ :: _ => []) ++
       (old ++ new).map fun e => (.tuple #[.bool true, e.key, e.val], h.put r (.mit m since (seen ++ [e.born]) clock)))
 | _ => false
noncomputable def nextV (st : Bool) (h : H) (it : Value) (K : KV) : Bool :=
 match it with
 | .pointer (some ⟨r, 0, none⟩) => match h.objs.get r with
   | some (.sit s pos) => match st with | true => nextStr h s pos (h.put r) K | false => false
   | some (.mit m since seen last) => match st with | true => false | false => nextMap h r m since seen last K
   | some .nit => match st with | true => false | false => K (.tuple #[.bool false]) h
   | _ => false
 | _ => false
inductive Ex where
 | norm | exit (i : Nat) | goto (i : Nat) | ret
abbrev KE := Ex → T Value → Defs → H → Bool
abbrev OpK := Value → Defs → H → Bool
abbrev OpT := CallT → List Value → T Value → Defs → H → OpK → Bool
def kO (o : Option Value) (ds : Defs) (h : H) (K : OpK) : Bool := match o with | some v => K v ds h | none => false
noncomputable def kA (o : Option (AObj × Value)) (ds : Defs) (h : H) (K : OpK) : Bool := match o with | some (x, v) => K v ds (h.new x) | none => false
def kH (o : Option (Value × H)) (ds : Defs) (K : OpK) : Bool := match o with | some (v, h) => K v ds h | none => false
def goCall (call : CallT) (o : Option (Nat × List Value)) (ds : Defs) (h : H) (K : OpK) : Bool :=
 match o with | some (g, args) => call g args h fun v h => K v ds h | none => false
inductive Cls where | pure | read | alloc | heavy
def callCls (P : Program) (c : Call) : Cls :=
 match c.callee with
 | .builtin .len => match c.argTypes.toList with
   | [t] => match P.underlying t with | some (.map ..) => .read | _ => .pure
   | _ => .pure
 | .builtin .min => .pure
 | .builtin .max => .pure
 | .builtin .cap => .pure
 | .builtin .unsafeSliceData => .pure
 | _ => .heavy
def convCls (P : Program) (s d : TypeId) : Cls :=
 match P.underlying s, P.underlying d with
 | some (.slice _), some .string => .read
 | some (.pointer _), some .unsafePointer => .read
 | some .unsafePointer, some (.pointer _) => .read
 | some .string, some (.slice _) => .alloc
 | some (.slice _), some (.slice _) => .heavy
 | _, _ => .pure
def cls (P : Program) (o : Op) : Cls :=
 match o with
 | .load .. => .read
 | .lookup .. => .read
 | .entry _ => .read
 | .convert s d _ => convCls P s d
 | .alloc _ => .alloc
 | .box .. => .alloc
 | .buildSlice .. => .alloc
 | .makeSlice .. => .alloc
 | .makeMap .. => .alloc
 | .store .. => .heavy
 | .mapUpdate .. => .heavy
 | .insert .. => .heavy
 | .range .. => .heavy
 | .next .. => .heavy
 | .defer _ => .heavy
 | .call c => callCls P c
 | _ => .pure
noncomputable def callB (P : Program) (sc : Sc) (c : Call) : Box OpT :=
 match c.callee with
 | .value f => ⟨fun call env tm ds h K => goCall call (funcArgs (eval sc f env tm) ((evalL sc c.args.toList).f env tm)) ds h K⟩
 | .invoke .. => ⟨fun _ _ _ _ _ _ => false⟩
 | .builtin _ => ⟨fun _ env tm ds h K => kH ((heavyCall P sc c).f env tm h) ds K⟩
noncomputable def heavyO (P : Program) (sc : Sc) (o : Op) : Box OpT :=
 match o with
 | .call c => callB P sc c
 | .defer _ => ⟨fun _ _ _ _ _ _ => false⟩
 | .next it st => ⟨fun _ env tm ds h K => nextV st h (eval sc it env tm) fun v h => K v ds h⟩
 | o => ⟨fun _ env tm ds h K => kH ((heavyB P sc o).f env tm h) ds K⟩
noncomputable def oneB (P : Program) (sc : Sc) (o : Op) : Box OpT :=
 match o.operands.toList.all (known sc) with
 | true => match cls P o with
   | .pure => ⟨fun _ env tm ds h K => kO ((pureB P sc o).f env tm) ds h K⟩
   | .read => ⟨fun _ env tm ds h K => kO ((readB P sc o).f env tm h) ds h K⟩
   | .alloc => ⟨fun _ env tm ds h K => kA ((allocB P sc o).f env tm h.next) ds h K⟩
   | .heavy => heavyO P sc o
 | false => ⟨fun _ _ _ _ _ _ => false⟩
noncomputable def putB (S : SG) (d : Option Tmp) : Box (Value → T Value → T Value) :=
 match d with
 | some d => match Nat.testBit S.m d with
   | true => ⟨fun v tm => tm.setP (toPos (Nat.succ d)) (some v)⟩
   | false => ⟨fun _ tm => tm⟩
 | none => ⟨fun _ tm => tm⟩
def isB (w : Bool) (v : Value) : Bool := match v with | .bool b => (match w with | true => b | false => !b) | _ => false
noncomputable def wantB (sc : Sc) (ops : Array Oper) (g : Option (Nat × Bool)) : Box (List Value → T Value → Bool) :=
 match g with
 | none => ⟨fun _ _ => true⟩
 | some (j, w) => match ops[j]? with
   | some oj => match oj.dst with
     | some d => ⟨fun env tm => isB w (eval sc (.tmp d) env tm)⟩
     | none => ⟨fun _ _ => false⟩
   | none => ⟨fun _ _ => false⟩
def dstOk (S : SG) (d : Option Tmp) : Bool :=
 match d with
 | some d => Nat.ble (Nat.succ d) S.n
 | none => true
def wantOk (sc : Sc) (ops : Array Oper) (g : Option (Nat × Bool)) : Bool :=
 match g with
 | none => true
 | some (j, _) => match ops[j]? with
   | some oj => match oj.dst with
     | some d => known sc (.tmp d)
     | none => false
   | none => false
abbrev OpsT := CallT → List Value → T Value → Defs → H → KE → Bool
abbrev CodeT := CallT → Nat → T Value → Defs → H → KE → Bool
noncomputable def opStep (one : Box OpT) (put : Box (Value → T Value → T Value)) (want : Box (List Value → T Value → Bool)) (rest : Box OpsT) : OpsT :=
 fun call env tm ds h K => match want.f env tm with
   | true => one.f call env tm ds h fun v ds h => rest.f call (v :: env) (put.f v tm) ds h K
   | false => rest.f call (undef :: env) (put.f undef tm) ds h K
noncomputable def opsB (P : Program) (S : SG) (ops : Array Oper) : List (Option Nat) → List Oper → Box OpsT
 | _, [] => ⟨fun _ _ tm ds h K => K .norm tm ds h⟩
 | done, o :: r => match wantOk ⟨S, done⟩ ops o.guard && dstOk S o.dst with
   | true => ⟨opStep (oneB P ⟨S, done⟩ o.op) (putB S o.dst) (wantB ⟨S, done⟩ ops o.guard) (opsB P S ops (o.dst :: done) r)⟩
   | false => ⟨fun _ _ _ _ _ _ => false⟩
noncomputable def edgesM (ms : T Nat) : List Edge → Nat → Nat
 | [] => fun acc => acc
 | e :: r => fun acc => match Region.binds .any e with
   | true => edgesM ms r (Nat.lor acc (Nat.lor (Nat.pow 2 e.on) (match ms.get e.on with | some m => m | none => 0)))
   | false => edgesM ms r acc
structure It where
 i : Nat
 o : Oper
 m : Nat
 rd : Nat
 hv : Bool
def hvy (P : Program) (lm : Bool) (o : Op) : Bool :=
 match lm with
 | true => (match o with | .insert .. => false | o => (match cls P o with | .heavy => true | _ => false))
 | false => match cls P o with | .heavy => true | _ => false
def rdOps : List Operand → Nat
 | [] => 0
 | x :: r => match x with | .tmp t => Nat.lor (Nat.pow 2 t) (rdOps r) | _ => rdOps r
def rdOf (ops : Array Oper) (o : Oper) : Nat :=
 match o.guard with
 | none => rdOps o.op.operands.toList
 | some (j, _) => match ops[j]? with
   | some oj => match oj.dst with
     | some d => Nat.lor (Nat.pow 2 d) (rdOps o.op.operands.toList)
     | none => rdOps o.op.operands.toList
   | none => rdOps o.op.operands.toList
noncomputable def itsOf (P : Program) (lm : Bool) (ops : Array Oper) : List Oper → Nat → T Nat → List It
 | [] => fun _ _ => []
 | o :: r => fun i ms =>
   ⟨i, o, edgesM ms o.after.toList 0, rdOf ops o, hvy P lm o.op⟩ :: itsOf P lm ops r (i + 1) (ms.set i (edgesM ms o.after.toList 0))
def sub (a b : Nat) : Bool := Nat.beq (Nat.land a b) a
def pass : List It → Nat → List It × List It × Nat
 | [] => fun E => ([], [], E)
 | x :: r => fun E => match x.hv, sub x.m E with
   | false, true => match pass r (Nat.lor E (Nat.pow 2 x.i)) with
     | (a, b, E) => (x :: a, b, E)
   | _, _ => match pass r E with
     | (a, b, E) => (a, x :: b, E)
def hvs : List It → Nat
 | [] => 0
 | x :: r => match x.hv with | true => Nat.lor (Nat.pow 2 x.i) (hvs r) | false => hvs r
def takeHv : List It → Option (It × List It)
 | [] => none
 | x :: r => match x.hv with
   | true => some (x, r)
   | false => match takeHv r with | some (y, l) => some (y, x :: l) | none => none
def waits (R : Nat) : List It → Bool
 | [] => true
 | x :: r => match x.hv with
   | true => waits R r
   | false => match Nat.land x.m R with | 0 => false | _ + 1 => waits R r
def plan : Nat → List It → Nat → Nat → Option (List It)
 | 0 => fun _ _ _ => none
 | k + 1 => fun l E HE => match pass l E with
   | (a, b, E) => match b with
     | [] => some a
     | _ :: _ => match takeHv b with
       | none => none
       | some (x, rest) => match sub x.m E && sub HE x.m && waits (hvs b) b with
         | false => none
         | true => match plan k rest (Nat.lor E (Nat.pow 2 x.i)) (Nat.lor HE (Nat.pow 2 x.i)) with
           | some r => some (a ++ x :: r)
           | none => none
def dstIs (d : Tmp) (o : Oper) : Bool := match o.dst with | some e => Nat.beq e d | none => false
def freeOf (x : It) (d : Tmp) : List It → Bool
 | [] => true
 | y :: r => match Nat.beq x.i y.i || (!dstIs d y.o && (!Nat.testBit y.rd d || Nat.testBit y.m x.i || Nat.testBit x.m y.i)) with
   | true => freeOf x d r
   | false => false
def tempsFree (S : SG) (its : List It) : List It → Bool
 | [] => true
 | x :: r => match Nat.ble (Nat.succ x.m) (Nat.pow 2 x.i) && (match x.o.dst with | none => true | some d => Nat.ble (Nat.succ d) S.n && freeOf x d its) with
   | true => tempsFree S its r
   | false => false
structure Al where
 i : Nat
 b : Nat
 x : AObj
structure Wt where
 i : Nat
 rd : H → Option Value
 v : Value
structure Lt where
 i : Nat
 b : Nat
 es : List (Nat × ByteArray × Value)
def litE : List (Nat × ByteArray × Value) → List (ByteArray × Value)
 | [] => []
 | e :: r => e.2 :: litE r
def litsAll : List Lt → List Al
 | [] => []
 | t :: r => ⟨t.i, t.b, .lit (litE t.es)⟩ :: litsAll r
def notIn (s : ByteArray) : List (Nat × ByteArray × Value) → Bool
 | [] => true
 | e :: r => match leB s.data.toList e.2.1.data.toList with | true => false | false => notIn s r
def insLt (m i b : Nat) (s : ByteArray) (v : Value) : List Lt → Option (List Lt)
 | [] => none
 | t :: r => match Nat.beq t.b b with
   | true => match Nat.testBit m t.i && notIn s t.es with
     | true => some (⟨t.i, t.b, (i, s, v) :: t.es⟩ :: r)
     | false => none
   | false => match insLt m i b s v r with | some r => some (t :: r) | none => none
def ltFree (m : Nat) : List Lt → Bool
 | [] => true
 | t :: r => match Nat.testBit m t.i with | true => false | false => ltFree m r
noncomputable def absorb : List Al → H → H
 | [] => fun h => h
 | a :: r => fun h => absorb r (h.put a.b a.x)
def alIn (m : Nat) : List Al → List Al
 | [] => []
 | a :: r => match Nat.testBit m a.i with | true => a :: alIn m r | false => alIn m r
def alOut (m : Nat) : List Al → List Al
 | [] => []
 | a :: r => match Nat.testBit m a.i with | true => alOut m r | false => a :: alOut m r
def wtOut (m : Nat) : List Wt → List Wt
 | [] => []
 | a :: r => match Nat.testBit m a.i with | true => wtOut m r | false => a :: wtOut m r
noncomputable def holds (h : H) : List Wt → Bool
 | [] => true
 | a :: r => match a.rd h with
   | some v => (match veq 64 v a.v with | true => holds h r | false => false)
   | none => false
abbrev DT := CallT → List Value → T Value → Defs → H → List Al → List Wt → List Lt → Nat → KE → Bool
def stopD : Box DT := ⟨fun _ _ _ _ _ _ _ _ _ _ => false⟩
noncomputable def dPure (one : Box PureT) (put : Box (Value → T Value → T Value)) (rest : Box DT) : DT :=
 fun call env tm ds h al wt lt base K => match one.f env tm with
   | some v => rest.f call (v :: env) (put.f v tm) ds h al wt lt base K
   | none => false
noncomputable def dRead (i : Nat) (one : Box ReadT) (put : Box (Value → T Value → T Value)) (rest : Box DT) : DT :=
 fun call env tm ds h al wt lt base K => match one.f env tm (absorb al h) with
   | some v => rest.f call (v :: env) (put.f v tm) ds h al (⟨i, one.f env tm, v⟩ :: wt) lt base K
   | none => false
noncomputable def dAlloc (i : Nat) (one : Box AllocT) (put : Box (Value → T Value → T Value)) (rest : Box DT) : DT :=
 fun call env tm ds h al wt lt base K => match one.f env tm (base + i) with
   | some (x, v) => rest.f call (v :: env) (put.f v tm) ds h (⟨i, base + i, x⟩ :: al) wt lt base K
   | none => false
noncomputable def dHeavy (m : Nat) (one : Box OpT) (put : Box (Value → T Value → T Value)) (rest : Box DT) : DT :=
 fun call env tm ds h al wt lt base K => one.f call env tm ds (absorb (alIn m al) h) fun v ds h =>
   match holds (absorb (alOut m al) h) (wtOut m wt) && ltFree m lt with
   | true => rest.f call (v :: env) (put.f v tm) ds h (alOut m al) (wtOut m wt) lt base K
   | false => false
noncomputable def dSkip (put : Box (Value → T Value → T Value)) (rest : Box DT) : DT :=
 fun call env tm ds h al wt lt base K => rest.f call (undef :: env) (put.f undef tm) ds h al wt lt base K
noncomputable def dLit (i : Nat) (put : Box (Value → T Value → T Value)) (rest : Box DT) : DT :=
 fun call env tm ds h al wt lt base K => rest.f call (.map (some (base + i)) :: env) (put.f (.map (some (base + i))) tm) ds h al wt (⟨i, base + i, []⟩ :: lt) base K
noncomputable def insV (P : Program) (kt : TypeId) (m i : Nat) (lt : List Lt) (x k v : Value) : Option (List Lt) :=
 match x with
 | .map (some b) => match k with
   | .string s => match keyOk P kt (.string s) with
     | true => insLt m i b s v lt
     | false => none
   | _ => none
 | _ => none
noncomputable def dIns (P : Program) (kt : TypeId) (m i : Nat) (fm fk fv : Box EvT) (put : Box (Value → T Value → T Value)) (rest : Box DT) : DT :=
 fun call env tm ds h al wt lt base K => match insV P kt m i lt (fm.f env tm) (fk.f env tm) (fv.f env tm) with
   | some lt => rest.f call (undef :: env) (put.f undef tm) ds h al wt lt base K
   | none => false
noncomputable def dKind (P : Program) (sc : Sc) (x : It) (put : Box (Value → T Value → T Value)) (rest : Box DT) : Box DT :=
 match cls P x.o.op with
   | .pure => ⟨dPure (pureB P sc x.o.op) put rest⟩
   | .read => ⟨dRead x.i (readB P sc x.o.op) put rest⟩
   | .alloc => ⟨dAlloc x.i (allocB P sc x.o.op) put rest⟩
   | .heavy => ⟨dHeavy x.m (heavyO P sc x.o.op) put rest⟩
noncomputable def dOne (P : Program) (lm : Bool) (sc : Sc) (x : It) (put : Box (Value → T Value → T Value)) (rest : Box DT) : Box DT :=
 match x.o.op.operands.toList.all (known sc) with
 | true => match lm with
   | true => match x.o.op with
     | .makeMap _ none => ⟨dLit x.i put rest⟩
     | .insert t m k v => match P.underlying t with
       | some (.map kt _) => ⟨dIns P kt x.m x.i (opnd sc m) (opnd sc k) (opnd sc v) put rest⟩
       | _ => stopD
     | _ => dKind P sc x put rest
   | false => dKind P sc x put rest
 | false => stopD
noncomputable def dWant (want : Box (List Value → T Value → Bool)) (yes : Box DT) (skip : DT) : DT :=
 fun call env tm ds h al wt lt base K => match want.f env tm with
   | true => yes.f call env tm ds h al wt lt base K
   | false => skip call env tm ds h al wt lt base K
noncomputable def dStepB (P : Program) (lm : Bool) (S : SG) (ops : Array Oper) (done : List (Option Nat)) (x : It) (rest : Box DT) : Box DT :=
 match x.o.guard with
 | none => dOne P lm ⟨S, done⟩ x (putB S x.o.dst) rest
 | some g => match wantOk ⟨S, done⟩ ops (some g) with
   | true => ⟨dWant (wantB ⟨S, done⟩ ops (some g)) (dOne P lm ⟨S, done⟩ x (putB S x.o.dst) rest) (dSkip (putB S x.o.dst) rest)⟩
   | false => stopD
noncomputable def drawB (P : Program) (lm : Bool) (S : SG) (ops : Array Oper) : List (Option Nat) → List It → Box DT
 | _, [] => ⟨fun _ _ tm ds h al _ lt _ K => K .norm tm ds (absorb (al ++ litsAll lt) h)⟩
 | done, x :: r => dStepB P lm S ops done x (drawB P lm S ops (x.o.dst :: done) r)
noncomputable def drawM (P : Program) (lm : Bool) (S : SG) (ops : Array Oper) (its : List It) (other : Box DT) : Box DT :=
 match tempsFree S its its with
 | true => match plan (ops.size + 1) its 0 0 with
   | some l => drawB P lm S ops [] l
   | none => other
 | false => stopD
noncomputable def drawR (P : Program) (S : SG) (ops : Array Oper) : Box DT :=
 drawM P false S ops (itsOf P false ops ops.toList 0 .e) (drawM P true S ops (itsOf P true ops ops.toList 0 .e) stopD)
noncomputable def regionD (P : Program) (S : SG) (ops : Array Oper) : CodeT := fun call _ tm ds h K =>
 (drawR P S ops).f call [] tm ds ⟨h.objs, h.next + ops.size⟩ [] [] [] h.next K
noncomputable def seqC (a b : Box CodeT) : CodeT := fun call L tm ds h K =>
 a.f call L tm ds h fun e tm ds h => match e with
   | .norm => b.f call L tm ds h K
   | e => K e tm ds h
noncomputable def condC (x : Box EvT) (a b : Box CodeT) : CodeT := fun call L tm ds h K =>
 match x.f [] tm with
 | .bool true => a.f call L tm ds h K
 | .bool false => b.f call L tm ds h K
 | _ => false
noncomputable def blockC (i : Nat) (b : Box CodeT) : CodeT := fun call L tm ds h K =>
 b.f call L tm ds h fun e tm ds h => match e with
   | .exit j => (match Nat.beq i j with | true => K .norm tm ds h | false => K (.exit j) tm ds h)
   | e => K e tm ds h
noncomputable def scopeC (b : Box CodeT) : CodeT := fun call L tm ds h K =>
 b.f call L tm ds h fun e tm ds h => match e with
   | .goto _ => false
   | e => K e tm ds h
noncomputable def loopC (b : Box CodeT) (call : CallT) (L : Nat) : Nat → T Value → Defs → H → KE → Bool
 | 0 => fun _ _ _ _ => false
 | n + 1 => fun tm ds h K => b.f call L tm ds h fun e tm ds h => match e with
   | .norm => loopC b call L n tm ds h K
   | e => K e tm ds h
def stop : Box CodeT := ⟨fun _ _ _ _ _ _ => false⟩
noncomputable def codeB (P : Program) (S : SG) (c : Code) : Box CodeT :=
 match c with
 | .skip => ⟨fun _ _ tm ds h K => K .norm tm ds h⟩
 | .label _ => ⟨fun _ _ tm ds h K => K .norm tm ds h⟩
 | .seq a b => ⟨seqC (codeB P S a) (codeB P S b)⟩
 | .cond x a b => match known ⟨S, []⟩ x with
   | true => ⟨condC (opnd ⟨S, []⟩ x) (codeB P S a) (codeB P S b)⟩
   | false => stop
 | .block i b => ⟨blockC i (codeB P S b)⟩
 | .scope b => ⟨scopeC (codeB P S b)⟩
 | .loop b => ⟨fun call L => loopC (codeB P S b) call L L⟩
 | .exit i => ⟨fun _ _ tm ds h K => K (.exit i) tm ds h⟩
 | .ret => ⟨fun _ _ tm ds h K => K .ret tm ds h⟩
 | .region _ ops d => match d with
   | false => ⟨fun call _ tm ds h K => (opsB P S ops [] ops.toList).f call [] tm ds h K⟩
   | true => ⟨regionD P S ops⟩
 | _ => stop
noncomputable def resB (P : Program) (S : SG) : List ResultVar → Box (T Value → H → Option (List Value))
 | [] => ⟨fun _ _ => some []⟩
 | .tmp t :: r => match Nat.testBit S.m t with
   | true => ⟨fun tm h => match (resB P S r).f tm h with | some l => some (eval ⟨S, []⟩ (.tmp t) [] tm :: l) | none => none⟩
   | false => ⟨fun _ _ => none⟩
 | .cell a t :: r => match Nat.testBit S.m a with
   | true => ⟨fun tm h => match (loadV P t).f h (eval ⟨S, []⟩ (.tmp a) [] tm) with
     | some v => (match (resB P S r).f tm h with | some l => some (v :: l) | none => none)
     | none => none⟩
   | false => ⟨fun _ _ => none⟩
def resOf (l : List Value) : Value := match l with | [v] => v | l => .tuple l.toArray
noncomputable def toTm : List Value → Nat → T Value → T Value
 | [] => fun _ t => t
 | v :: r => fun i t => toTm r (i + 1) (t.set i v)
def kR (o : Option (List Value)) (h : H) (K : KV) : Bool := match o with | some l => K (resOf l) h | none => false
noncomputable def bodyC (n : Nat) (c : Box CodeT) (res : Box (T Value → H → Option (List Value))) (call : CallT) (L : Nat) (args : List Value) (h : H) (K : KV) : Bool :=
 match Nat.ble args.length n with
 | true => c.f call L (toTm args 0 .e) [] h fun e tm ds h => match ds with
   | [] => (match e with
     | .norm => kR (res.f tm h) h K
     | .ret => kR (res.f tm h) h K
     | _ => false)
   | _ :: _ => false
 | false => false
inductive XK where
 | cmp | idxByte | same | count
 | index (g : Nat)
 | noZero (e : TypeId)
noncomputable def bytesX (h : H) (x : Value) : Option (List UInt8) :=
 match x with
 | .string s => some s.data.toList
 | .slice none _ _ => some []
 | .slice (some a) len _ => match h.row a.block a.off len with
   | some l => bytesOf l
   | none => none
 | _ => none
def idxL (c : Nat) : List UInt8 → Nat → Int
 | [] => fun _ => -1
 | x :: r => fun i => match Nat.beq x.toNat c with | true => Int.ofNat i | false => idxL c r (i + 1)
def cntL (c : Nat) : List UInt8 → Nat → Nat
 | [] => fun n => n
 | x :: r => fun n => match Nat.beq x.toNat c with | true => cntL c r (n + 1) | false => cntL c r n
def preL : List UInt8 → List UInt8 → Bool
 | [] => fun _ => true
 | a :: x => fun y => match y with | [] => false | b :: y => match Nat.beq a.toNat b.toNat with | true => preL x y | false => false
def findL (b : List UInt8) : List UInt8 → Nat → Int
 | [] => fun i => match b with | [] => Int.ofNat i | _ :: _ => -1
 | x :: r => fun i => match preL b (x :: r) with | true => Int.ofNat i | false => findL b r (i + 1)
def u8Nat (c : Int) : Nat := c.toNat.toUInt8.toNat
noncomputable def xIndex (NG g : Nat) (h : H) (a b : List UInt8) : Option Value :=
 match Nat.ble (g + 1) NG with
 | false => none
 | true => match loadOne h (.pointer (some ⟨g, 0, none⟩)) with
 | some (.int .i64 (.ofNat m)) => match Nat.ble 2 b.length && Nat.ble b.length m && Nat.ble a.length 4294967280 with
   | true => some (.int .i64 (findL b a 0))
   | false => none
 | _ => none
noncomputable def xVal (NG : Nat) (k : XK) (h : H) (args : List Value) : Option (Value × H) :=
 match k with
 | .cmp => match args with
   | [.string a, .string b] => some (.int .i64 (Extern.BytealgCompare.cmp a b), h)
   | _ => none
 | .idxByte => match args with
   | [x, .int .u8 c] => match bytesX h x with | some s => some (.int .i64 (idxL (u8Nat c) s 0), h) | none => none
   | _ => none
 | .count => match args with
   | [x, .int .u8 c] => match bytesX h x with | some s => some (.int .i64 (Int.ofNat (cntL (u8Nat c) s 0)), h) | none => none
   | _ => none
 | .index g => match args with
   | [x, y] => match bytesX h x, bytesX h y with
     | some a, some b => match xIndex NG g h a b with | some v => some (v, h) | none => none
     | _, _ => none
   | _ => none
 | .noZero e => match args with
   | [n] => match n with
     | .int .i64 (.ofNat n) => match Nat.ble n 281474976710656 with
       | true => some (.slice (some ⟨h.next, 0, none⟩) n (opCap n 1), h.new (.op [] 1 (some e)))
       | false => none
     | _ => none
   | _ => none
 | .same => match args with
   | [v] => some (v, h)
   | _ => none
def xK (o : Option (Value × H)) (K : KV) : Bool := match o with | some (v, h) => K v h | none => false
def xOf : List (Nat × XK) → Nat → Option XK
 | [] => fun _ => none
 | (g, k) :: r => fun f => match Nat.beq g f with | true => some k | false => xOf r f
noncomputable def funcB (P : Program) (Sf : Nat → Nat) (X : List (Nat × XK)) (NG : Nat) (f : Nat) : Box (CallT → Nat → List Value → H → KV → Bool) :=
 match P.funcs[f]? with
 | some fn => match fn.body with
   | some c => ⟨bodyC fn.ntmps (codeB P ⟨Sf f, NG, fn.ntmps⟩ c) (resB P ⟨Sf f, NG, fn.ntmps⟩ fn.results.toList)⟩
   | none => match xOf X f with
     | some k => ⟨fun _ _ args h K => xK (xVal NG k h args) K⟩
     | none => ⟨fun _ _ _ _ _ => false⟩
 | none => ⟨fun _ _ _ _ _ => false⟩
noncomputable def callF (P : Program) (Sf : Nat → Nat) (X : List (Nat × XK)) (NG L : Nat) : Nat → CallT
 | 0 => fun _ _ _ _ => false
 | n + 1 => fun f args h K => (funcB P Sf X NG f).f (callF P Sf X NG L n) L args h K
end Go.Ev
