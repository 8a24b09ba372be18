/- The abstract array: small functions. -/
import Derived.Test.YthhpcilinkebeaaDoorHb
import Derived.Test.YthhpcilinkebeaaDoorVa
import Derived.Lib.Hide
namespace Go.Proofs.YthhpcilinkebeaaDoor
open Go.RowKit Go.Maps
set_option maxHeartbeats 4000000
set_option maxRecDepth 100000

/-- an operation in memory -/
structure OM where
  kind : Int
  name : ByteArray
  dst : ByteArray
  at_ : Int
  n : Int
  A : Option Addr
  l : Bts
  c : Nat
def OM.cells (o : OM) : List Value := [.int .i64 o.kind, .string o.name, .string o.dst, .int .i64 o.at_, .int .i64 o.n, .slice o.A o.l.length o.c]
def OM.val (o : OM) : Value := .agg o.cells.toArray
def OM.ov (o : OM) : OV := ⟨o.kind, strB o.name, strB o.dst, o.at_, o.n, o.l⟩
def I64 (x : Int) : Prop := -9223372036854775808 ≤ x ∧ x ≤ 9223372036854775807
structure OM.ok (o : OM) (w : World) : Prop where
  rd : Rd w o.A (byts o.l)
  cap : o.l.length ≤ o.c
  few : o.l.length ≤ 140737488351232
  name : o.name.size ≤ 1048576
  dst : o.dst.size ≤ 1048576
  kind : I64 o.kind
  at_ : I64 o.at_
  n : I64 o.n
theorem OM.ok.below {o : OM} {w w' : World} (h : o.ok w) (hb : Below w.heap.size w w') : o.ok w' := ⟨h.rd.below hb, h.cap, h.few, h.name, h.dst, h.kind, h.at_, h.n⟩

theorem when_any (b : Bool) (e : Nat) (w : World) : Calls Tryd.prog 49 #[.bool b, .int .i64 (e : Nat)] w fun x w' => x = .returned (.int .i64 (whenV b e : Nat)) ∧ w' = w := by
  cases b with
  | false =>
    go_enter Tryd.func49, Tryd.ntmps49
    go_wp2_with fail
    go_ret
    exact ⟨rfl, rfl⟩
  | true =>
    go_enter Tryd.func49, Tryd.ntmps49
    go_wp2_with fail
    go_ret
    exact ⟨rfl, rfl⟩
def nats (l : List Nat) : List Value := l.map fun e => .int .i64 (e : Nat)
theorem firstV_drop (l : List Nat) (i : Nat) (h : i < l.length) : firstV (l.drop i) = if l[i] = 0 then firstV (l.drop (i + 1)) else l[i] := by
  rw [List.drop_eq_getElem_cons h, firstV]
theorem first_any (A : Option Addr) (c : Nat) (l : List Nat) (w : World) (hr : Rd w A (nats l)) (hl : l.length ≤ 1000) :
    Calls Tryd.prog 50 #[.slice A l.length c] w fun x w' => x = .returned (.int .i64 (firstV l : Nat)) ∧ Below w.heap.size w w' := by
  go_enter Tryd.func50, Tryd.ntmps50
  go_wp2_with fail
  go_loopg [4, 7] l.length (fun m s4 s7 wr => ∃ i : Nat, m = l.length - i ∧ i ≤ l.length ∧ s7 = .int .i64 (i : Nat) ∧ firstV l = firstV (l.drop i) ∧ Below w.heap.size w wr)
  case atStart => exact ⟨0, by omega, by omega, rfl, rfl, Below.refl _ _⟩
  case round =>
    obtain ⟨i, rfl, hi, rfl, hf, hb⟩ := hrel
    have HF := Lib.hid hf
    clear hf
    by_cases hlt : i < l.length
    · have r1 : (i : Int) < (l.length : Int) := by omega
      obtain ⟨ad, rfl, hadb, hcell0⟩ := hr.at_ (k := i) (by simpa [nats] using hlt)
      have hcell : wr.cell? (ad.add i) = some (.int .i64 (l[i] : Nat)) := by
        rw [hb.cell (p := ad.add i) (by rw [add_block]; exact hadb), hcell0]
        simp [nats]
      have hfd := firstV_drop l i hlt
      by_cases h0 : l[i] = 0
      · rw [h0] at hcell hfd
        simp only [if_true] at hfd
        have HD := Lib.hid hfd
        clear hfd hcell0 h0
        go_wp2_with fail
        go_roundg (l.length - (i + 1))
        case measure => omega
        case rel => exact ⟨i + 1, rfl, hlt, by go_num, HF.out.trans HD.out, hb⟩
      · have k1 : ((l[i] : Int) != 0) = true := by simp; omega
        rw [if_neg h0] at hfd
        have HD := Lib.hid hfd
        clear hfd hcell0 h0
        generalize l[i] = e at *
        go_wp2_with fail
        go_ret
        exact ⟨by rw [HF.out, HD.out]; rfl, hb⟩
    · have r1 : ¬ (i : Int) < (l.length : Int) := by omega
      have hil : i = l.length := by omega
      subst hil
      go_wp2_with fail
      go_ret
      exact ⟨by rw [HF.out, List.drop_length]; rfl, hb⟩
end Go.Proofs.YthhpcilinkebeaaDoor
