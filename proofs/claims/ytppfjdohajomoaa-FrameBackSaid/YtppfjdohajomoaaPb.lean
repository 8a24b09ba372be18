/- Plain words of the codec: records and pages as they are read. No program in sight. -/
import Derived.Test.YtppfjdohajomoaaPa
namespace Go.Proofs.Ytppfjdohajomoaa

/-- a part of a list -/
def cutB (l : List UInt8) (i n : Nat) : List UInt8 := (l.drop i).take n
theorem cutB_length (l : List UInt8) (i n : Nat) (h : i + n ≤ l.length) : (cutB l i n).length = n := by simp [cutB]; omega

/-- a record at the front: its number, what it bears, where it ends, the error -/
def rdRec (l : List UInt8) : Nat × List UInt8 × Nat × Nat :=
  if (rdNum l).2.2 ≠ 0 then (0, [], 0, (rdNum l).2.2)
  else if 16777216 < (rdNum l).1 then (0, [], 0, 3)
  else if l.length < (rdNum l).2.1 + (rdNum l).1 + 12 then (0, [], 0, 21)
  else if leN (cutB l (rdNum l).2.1 4) ≠ crcB (cutB l ((rdNum l).2.1 + 4) (8 + (rdNum l).1)) then (0, [], 0, 23)
  else (leN (cutB l ((rdNum l).2.1 + 4) 8), cutB l ((rdNum l).2.1 + 12) (rdNum l).1, (rdNum l).2.1 + 12 + (rdNum l).1, 0)

/-- a page behind its checksum -/
def pageT (seg row sh : Nat) (x : List UInt8) (n : Nat) : List UInt8 :=
  lowB seg 8 ++ lowB row 4 ++ lowB sh 1 ++ lowB x.length 2 ++ x ++ List.replicate (n - 19 - x.length) 0
/-- a page -/
def pageB (seg row sh : Nat) (x : List UInt8) (n : Nat) : List UInt8 := lowB (crcB (pageT seg row sh x n)) 4 ++ pageT seg row sh x n
theorem pageT_length (seg row sh : Nat) (x : List UInt8) (n : Nat) (h : 19 + x.length ≤ n) : (pageT seg row sh x n).length = n - 4 := by
  simp [pageT, lowB_length]
  omega
theorem pageB_length (seg row sh : Nat) (x : List UInt8) (n : Nat) (h : 19 + x.length ≤ n) : (pageB seg row sh x n).length = n := by
  rw [pageB, List.length_append, pageT_length _ _ _ _ _ h, lowB_length]
  omega

/-- a page as it is read: its head, what it bears, the error -/
def rdPage (room : Int) (l : List UInt8) : (Nat × Nat × Nat × Nat) × List UInt8 × Nat :=
  if room = 0 then ((0, 0, 0, 0), [], 1)
  else if leN (l.take 4) ≠ crcB (l.drop 4) then ((0, 0, 0, 0), [], 23)
  else if 1073741824 < leN (cutB l 12 4) ∨ room < (leN (cutB l 17 2) : Int) then ((0, 0, 0, 0), [], 24)
  else if (l.drop (19 + leN (cutB l 17 2))).any (· != 0) then ((0, 0, 0, 0), [], 24)
  else ((leN (cutB l 4 8), leN (cutB l 12 4), (l.getD 16 0).toNat, leN (cutB l 17 2)), cutB l 19 (leN (cutB l 17 2)), 0)
end Go.Proofs.Ytppfjdohajomoaa
