/- The abstract array as a value. -/
import Derived.Test.YthhpcilinkebeaaDoorPa
namespace Go.Proofs.YthhpcilinkebeaaDoor
set_option maxRecDepth 100000

abbrev Bts := List UInt8
/-- a volume; an array; an operation; an answer -/
structure VV where
  size : Nat
  snap : Bool
  cells : Int → Option Bts
structure AV where
  block : Nat
  quota : Nat
  vols : List (Bts × VV)
structure OV where
  kind : Int
  name : Bts
  dst : Bts
  at_ : Int
  n : Int
  data : Bts
structure AnV where
  err : Nat
  data : Bts
  vols : List (Bts × Nat × Bool)

def getV (l : List (Bts × VV)) (n : Bts) : Option VV := match l with
  | [] => none
  | (m, v) :: r => if m = n then some v else getV r n
def putV (l : List (Bts × VV)) (n : Bts) (v : VV) : List (Bts × VV) := match l with
  | [] => [(n, v)]
  | (m, u) :: r => if n = m then (n, v) :: r else if n < m then (n, v) :: (m, u) :: r else (m, u) :: putV r n v
def delV (l : List (Bts × VV)) (n : Bts) : List (Bts × VV) := l.filter fun x => decide (x.1 ≠ n)
def usedV (l : List (Bts × VV)) : Nat := (l.map (·.2.size)).sum
def bytesV (block : Nat) (v : VV) (i : Int) : Bts := (v.cells i).getD (List.replicate block 0)

def onlyV (o : OV) (t at_ n data : Bool) : Bool := (t || decide (o.dst = [])) && (at_ || decide (o.at_ = 0)) && (n || decide (o.n = 0)) && (data || decide (o.data = []))
def rightV (o : OV) : Bool :=
  if o.kind = 1 ∨ o.kind = 8 then onlyV o false false true false
  else if o.kind = 2 then onlyV o false false false false
  else if o.kind = 3 ∨ o.kind = 5 then onlyV o false true true false
  else if o.kind = 4 then onlyV o false true false true
  else if o.kind = 6 ∨ o.kind = 7 then onlyV o true false false false
  else if o.kind = 9 then decide (o.name = []) && onlyV o false false false false
  else false
def firstV : List Nat → Nat
  | [] => 0
  | e :: r => if e = 0 then firstV r else e
def whenV (b : Bool) (e : Nat) : Nat := if b then e else 0
def freshV (av : AV) (s : Bts) (size : Int) : Nat :=
  firstV [whenV (getV av.vols s).isSome 9, whenV (decide (1024 ≤ av.vols.length)) 2, whenV (decide ((av.quota : Int) - usedV av.vols < size)) 10]
def withinV (size : Nat) (at_ n : Int) : Nat := whenV (decide (at_ < 0 ∨ n < 1 ∨ (size : Int) < at_ ∨ (size : Int) - at_ < n)) 1
/-- a write's blocks -/
def layV (block : Nat) (cells : Int → Option Bts) (at_ : Int) (data : Bts) (i : Int) : Option Bts :=
  if at_ ≤ i ∧ i < at_ + (data.length / block : Nat) then some ((data.drop ((i - at_).toNat * block)).take block) else cells i
def readV (block : Nat) (v : VV) (at_ : Int) (n : Nat) : Bts := (List.range n).flatMap fun (i : Nat) => bytesV block v (at_ + (i : Int))
def volsV (l : List (Bts × VV)) : List (Bts × Nat × Bool) := l.map fun x => (x.1, x.2.size, x.2.snap)
def nilV : VV := ⟨0, false, fun _ => none⟩
section
variable (nameE : Bts → Nat)
def checkV (av : AV) (o : OV) : Nat :=
  if rightV o = false then 1 else
  let g := getV av.vols o.name
  let v := g.getD nilV
  let none' := whenV g.isNone 4
  let fixed := whenV v.snap 11
  if o.kind = 1 then firstV [nameE o.name, whenV (decide (o.n < 1 ∨ 1048576 < o.n)) 1, freshV av o.name o.n]
  else if o.kind = 2 then none'
  else if o.kind = 3 then firstV [none', withinV v.size o.at_ o.n, whenV (decide ((1048576 / av.block : Nat) < o.n)) 3]
  else if o.kind = 4 then firstV [none', fixed, whenV (decide (o.data.length % av.block ≠ 0)) 1, withinV v.size o.at_ (o.data.length / av.block : Nat), whenV (decide (1048576 < o.data.length)) 3]
  else if o.kind = 5 then firstV [none', fixed, withinV v.size o.at_ o.n]
  else if o.kind = 6 then firstV [none', fixed, nameE o.dst, freshV av o.dst v.size]
  else if o.kind = 7 then firstV [none', whenV (!v.snap) 1, nameE o.dst, freshV av o.dst v.size]
  else if o.kind = 8 then firstV [none', fixed, whenV (decide (o.n < v.size ∨ 1048576 < o.n)) 1, whenV (decide ((av.quota : Int) - usedV av.vols < o.n - v.size)) 10]
  else 0
def setV (av : AV) (l : List (Bts × VV)) : AV := { av with vols := l }
def doV (av : AV) (o : OV) : AnV × AV :=
  if checkV nameE av o ≠ 0 then (⟨checkV nameE av o, [], []⟩, av) else
  let v := (getV av.vols o.name).getD nilV
  if o.kind = 1 then (⟨0, [], []⟩, setV av (putV av.vols o.name ⟨o.n.toNat, false, fun _ => none⟩))
  else if o.kind = 2 then (⟨0, [], []⟩, setV av (delV av.vols o.name))
  else if o.kind = 3 then (⟨0, readV av.block v o.at_ o.n.toNat, []⟩, av)
  else if o.kind = 4 then (⟨0, [], []⟩, setV av (putV av.vols o.name { v with cells := layV av.block v.cells o.at_ o.data }))
  else if o.kind = 5 then (⟨0, [], []⟩, setV av (putV av.vols o.name { v with cells := fun i => if o.at_ ≤ i ∧ i < o.at_ + o.n then none else v.cells i }))
  else if o.kind = 6 ∨ o.kind = 7 then (⟨0, [], []⟩, setV av (putV av.vols o.dst { v with snap := decide (o.kind = 6) }))
  else if o.kind = 8 then (⟨0, [], []⟩, setV av (putV av.vols o.name { v with size := o.n.toNat }))
  else (⟨0, [], volsV av.vols⟩, av)
end
end Go.Proofs.YthhpcilinkebeaaDoor
