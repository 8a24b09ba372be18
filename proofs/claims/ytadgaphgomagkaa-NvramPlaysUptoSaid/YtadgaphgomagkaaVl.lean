/- The plays' acts in memory; few. -/
import Derived.Test.YtadgaphgomagkaaVk
import Derived.Test.YtadgaphgomagkaaVh
import Derived.Test.YtadgaphgomagkaaVg
namespace Go.Proofs.Ytadgaphgomagkaa
open Go.RowKit
set_option maxHeartbeats 4000000
set_option maxRecDepth 100000

structure NAct where
  op : Int
  at_ : Int
  n : Int
  A : Option Addr
  c : Nat
  l : List UInt8
  pA : Option Addr
  pc : Nat
  p : List Int
def NAct.cells (a : NAct) : List Value := [.int .i64 a.op, .int .i64 a.at_, .int .i64 a.n, .slice a.A a.l.length a.c, .slice a.pA a.p.length a.pc]
structure NAct.ok (a : NAct) (w : World) : Prop where
  byt : Rd w a.A (byts a.l)
  cap : a.l.length ≤ a.c
  few : a.l.length ≤ 140737488351232
  pck : Rd w a.pA (ints a.p)
  pcap : a.p.length ≤ a.pc
  pfew : a.p.length ≤ 140737488351232
  prng : ∀ x ∈ a.p, -9223372036854775808 ≤ x ∧ x ≤ 9223372036854775807
  arng : -9223372036854775808 ≤ a.at_ ∧ a.at_ ≤ 9223372036854775807
  nrng : -9223372036854775808 ≤ a.n ∧ a.n ≤ 9223372036854775807
theorem NAct.ok.below {a : NAct} {w w1 : World} (h : a.ok w) (hb : Below w.heap.size w w1) : a.ok w1 := ⟨h.byt.below hb, h.cap, h.few, h.pck.below hb, h.pcap, h.pfew, h.prng, h.arng, h.nrng⟩
def acells (l : List NAct) : List Value := l.flatMap NAct.cells
theorem acells_length (l : List NAct) : (acells l).length = l.length * 5 := by
  induction l with
  | nil => rfl
  | cons p L ih => simp [acells, NAct.cells] at ih ⊢; omega
theorem acells_get (l : List NAct) (i j : Nat) (h : i < l.length) (hj : j < 5) : (acells l)[i * 5 + j]? = (l[i].cells)[j]? := by
  induction l generalizing i with
  | nil => simp at h
  | cons p L ih =>
    have e : acells (p :: L) = p.cells ++ acells L := rfl
    have hp : p.cells.length = 5 := rfl
    cases i with
    | zero =>
      rw [e, List.getElem?_append_left (by omega)]
      simp
    | succ i =>
      rw [e, List.getElem?_append_right (by omega), hp, show (i + 1) * 5 + j - 5 = i * 5 + j by omega]
      simpa using ih i (by simpa using h)
theorem add_off (a : Addr) (i j : Nat) (hj : j ≠ 0) : a.add (i + j) = ⟨(a.add i).block, (a.add i).off + j, none⟩ := by
  have h : ∀ x : Addr, x.add j = ⟨x.block, x.off + j, none⟩ := fun x => by simp [Addr.add, hj]
  rw [← add_add', h]
/-- an act's cells, as the walk spells them -/
theorem acts_at {w : World} {A : Option Addr} {l : List NAct} (hr : Rd w A (acells l)) (i : Nat) (h : i < l.length) : ∃ ad, A = some ad ∧ w.cell? (ad.add (i * 5)) = some (.int .i64 l[i].op) ∧ w.cell? ⟨(ad.add (i * 5)).block, (ad.add (i * 5)).off + 1, none⟩ = some (.int .i64 l[i].at_) ∧ w.cell? ⟨(ad.add (i * 5)).block, (ad.add (i * 5)).off + 2, none⟩ = some (.int .i64 l[i].n) ∧
    w.cell? ⟨(ad.add (i * 5)).block, (ad.add (i * 5)).off + 3, none⟩ = some (.slice l[i].A l[i].l.length l[i].c) ∧ w.cell? ⟨(ad.add (i * 5)).block, (ad.add (i * 5)).off + 4, none⟩ = some (.slice l[i].pA l[i].p.length l[i].pc) := by
  have hl := acells_length l
  obtain ⟨ad, e, _, hc⟩ := hr (by intro h0; rw [h0] at hl; simp at hl; omega)
  have g := fun j u hj hu => hc (i * 5 + j) u (by rw [acells_get l i j h hj]; exact hu)
  refine ⟨ad, e, g 0 _ (by omega) rfl, ?_, ?_, ?_, ?_⟩
  · rw [← add_off _ _ _ (by omega)]; exact g 1 _ (by omega) rfl
  · rw [← add_off _ _ _ (by omega)]; exact g 2 _ (by omega) rfl
  · rw [← add_off _ _ _ (by omega)]; exact g 3 _ (by omega) rfl
  · rw [← add_off _ _ _ (by omega)]; exact g 4 _ (by omega) rfl

def FewPost (n : Nat) (w : World) (e : Ending) (w' : World) : Prop := ∃ b : Bool, e = .returned (.bool b) ∧ (b = true → n ≤ 300) ∧ Below w.heap.size w w'
theorem few_any (w : World) (A : Option Addr) (c : Nat) (l : List NAct) (hr : Rd w A (acells l)) (hok : ∀ a ∈ l, a.ok w) (hl : l.length ≤ 140737488351232) :
    Calls Try.prog 14 #[.slice A l.length c] w (FewPost l.length w) := by
  go_enter Try.func14, Try.ntmps14
  go_wp2
  go_loopg [3, 4] l.length (fun m s3 s4 wr => ∃ (k : Nat) (x : Int), m = l.length - k ∧ k ≤ l.length ∧ s4 = .int .i64 (k : Nat) ∧ s3 = .int .i64 x ∧ Below w.heap.size w wr)
  case atStart => exact ⟨0, 0, rfl, by omega, rfl, rfl, Below.refl _ _⟩
  case round =>
    obtain ⟨k, x, rfl, hk, rfl, rfl, hb⟩ := hrel
    by_cases hlt : k < l.length
    · have r1 : (k : Int) < (l.length : Int) := by omega
      obtain ⟨ad, rfl, c0, c1, c2, c3, c4⟩ := acts_at (hr.below hb) k hlt
      have hz := hok _ (List.getElem_mem hlt)
      have z1 := hz.few
      have z2 := hz.pfew
      generalize l[k] = y at *
      clear hz c0 c1 c2
      go_wp2_with fail
      go_quiet (fail)
      go_wp2_with fail
      go_roundg (l.length - (k + 1))
      case measure => omega
      case rel => exact ⟨k + 1, _, rfl, by omega, by go_num, rfl, below_drewN hb _⟩
    · obtain rfl : k = l.length := by omega
      have r1 : ¬ (l.length : Int) < (l.length : Int) := by omega
      by_cases h3 : l.length ≤ 300
      · have r2 : (l.length : Int) ≤ 300 := by omega
        go_wp2_with fail
        go_ret
        exact ⟨_, rfl, fun _ => h3, hb⟩
      · have r2 : ¬ (l.length : Int) ≤ 300 := by omega
        clear h3
        go_wp2_with fail
        go_ret
        exact ⟨_, rfl, fun h => by simp at h, hb⟩
end Go.Proofs.Ytadgaphgomagkaa
