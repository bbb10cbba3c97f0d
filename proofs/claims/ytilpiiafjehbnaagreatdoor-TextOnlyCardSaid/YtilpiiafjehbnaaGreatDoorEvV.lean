import Derived.Test.YtilpiiafjehbnaaGreatDoorEvU
namespace Go.Ev
noncomputable def tg (tm : T Value) (t : Nat) : Value := getT (toPos (Nat.succ t)) tm
def strB (l : List Nat) : ByteArray := ⟨(l.map UInt8.ofNat).toArray⟩
def pl (c i : Nat) : Option (Nat × Nat) := some (i * c, c)
def plc (l : List (Nat × Nat)) (i : Nat) : Option (Nat × Nat) := nth l i
def gd (g : Bool) (one : OpK → Bool) (ds : Defs) (h : H) (rest : OpK) : Bool := match g with | true => one rest | false => rest undef ds h
def aO (o : Option (AObj × Value)) (K : AObj → Value → Bool) : Bool := match o with | some (x, v) => K x v | none => false
def hO (o : Option Value) (v : Value) (b : Bool) : Bool := match o with | some x => (match veq 64 x v with | true => b | false => false) | none => false
def andB (a b : Bool) : Bool := match a with | true => b | false => false
def ite2 (g a b : Bool) : Bool := match g with | true => a | false => b
def skipC : Box CodeT := ⟨fun _ _ tm ds h K => K .norm tm ds h⟩
def exitC (i : Nat) : Box CodeT := ⟨fun _ _ tm ds h K => K (.exit i) tm ds h⟩
def retC : Box CodeT := ⟨fun _ _ tm ds h K => K .ret tm ds h⟩
noncomputable def loopB (b : Box CodeT) : Box CodeT := ⟨fun call L => loopC b call L L⟩
end Go.Ev
