/- The reference's four bytes; the law's own helpers. -/
import Derived.Test.YtadgaphgomagkaaFf
namespace Go.Proofs.Ytadgaphgomagkaa
open Go.RowKit
set_option maxHeartbeats 1000000
set_option maxRecDepth 100000

theorem four_any (A : Option Addr) (c v m base : Nat) (xs : List Value) (w : World) (hown : w.ownsRow base 5 1 (.slice A m c) m xs) (hb : base ≤ w.heap.size) (hm : m + 10 ≤ 140737488355328) (hv : v < 4294967296) :
    Calls Try.prog 70 #[.slice A m c, .int .u32 v] w fun e w' => ∃ A' c', e = .returned (.slice A' (m + 4) c') ∧
      w'.ownsRow base 5 1 (.slice A' (m + 4) c') (m + 4) (xs ++ byts (lowB v 4)) ∧ Grew w w' (.slice A m c) (.slice A' (m + 4) c') := by
  have hE : byts (lowB v 4) = [.int .u8 ((v : Int) % 256), .int .u8 ((v : Int) / 256 % 256), .int .u8 ((v : Int) / 65536 % 256), .int .u8 ((v : Int) / 16777216)] := by
    simp [byts, byt, lowB, List.range_succ]
    omega
  have hrd := Rd.many w (byts (lowB v 4)) 5
  rw [hE] at hrd
  have HE := Lib.hid hE
  clear hE
  go_enter Try.func70, Try.ntmps70
  go_wp2_with (first | (at_builtin; go_loud (refine wpList_app _ rfl _ _ rfl slB base (.slice A m c) _ _ rfl (hown.alloc _) _ 4 4 (byts (lowB v 4)) rfl (by rw [byts_length, lowB_length]) (by rw [HE.out]; exact hrd) (byts_one _) (by unfold maxLen; omega) (by omega) (by simp; omega) ?_); intro A2 c2 w2 ho2 hg2))
  go_ret
  exact ⟨A2, c2, rfl, ho2, ((Grew.refl _ _).alloc _).trans hg2⟩

theorem or32_join (i P x y : Nat) (hP : P = 2 ^ i) (hx : x < P) (h1 : x < 4294967296) (h2 : y * P < 4294967296) : bits .or .u32 (x : Int) ((y : Int) * (P : Int)) = ((x + y * P : Nat) : Int) := by
  subst hP
  have h := u32_or_nat x (y * 2 ^ i) h1 h2
  rw [Nat.or_comm, nat_join i (y * 2 ^ i) x (by simp) hx] at h
  rw [← Int.natCast_mul, h, Nat.add_comm]
theorem readFour_any (A : Option Addr) (c : Nat) (l : List UInt8) (w : World) (hr : Rd w A (byts l)) (hl : 4 ≤ l.length) :
    Calls Try.prog 72 #[.slice A l.length c] w fun e w' => e = .returned (.int .u32 (leN (l.take 4) : Nat)) ∧ ∃ n, w' = w.drewN n := by
  match l, hl with
  | b0 :: b1 :: b2 :: b3 :: l, _ =>
  obtain ⟨ad, rfl, hb, hc⟩ := hr (by simp [byts])
  have c0 : w.cell? (ad.add 0) = some (.int .u8 (b0.toNat : Int)) := hc 0 _ rfl
  have c1 : w.cell? (ad.add 1) = some (.int .u8 (b1.toNat : Int)) := hc 1 _ rfl
  have c2 : w.cell? (ad.add 2) = some (.int .u8 (b2.toNat : Int)) := hc 2 _ rfl
  have c3 : w.cell? (ad.add 3) = some (.int .u8 (b3.toNat : Int)) := hc 3 _ rfl
  have h0 : b0.toNat < 256 := b0.toNat_lt
  have h1 : b1.toNat < 256 := b1.toNat_lt
  have h2 : b2.toNat < 256 := b2.toNat_lt
  have h3 : b3.toNat < 256 := b3.toNat_lt
  have hV : bits .or .u32 (bits .or .u32 (bits .or .u32 (b0.toNat : Int) ((b1.toNat : Int) * 256)) ((b2.toNat : Int) * 65536)) ((b3.toNat : Int) * 16777216) = ((leN ((b0 :: b1 :: b2 :: b3 :: l).take 4) : Nat) : Int) := by
    have e1 := or32_join 8 256 b0.toNat b1.toNat (by decide) (by omega) (by omega) (by omega)
    have e2 := or32_join 16 65536 (b0.toNat + b1.toNat * 256) b2.toNat (by decide) (by omega) (by omega) (by omega)
    have e3 := or32_join 24 16777216 (b0.toNat + b1.toNat * 256 + b2.toNat * 65536) b3.toNat (by decide) (by omega) (by omega) (by omega)
    rw [show ((b1.toNat : Int) * 256) = (b1.toNat : Int) * ((256 : Nat) : Int) from rfl, e1, show ((b2.toNat : Int) * 65536) = (b2.toNat : Int) * ((65536 : Nat) : Int) from rfl, e2, show ((b3.toNat : Int) * 16777216) = (b3.toNat : Int) * ((16777216 : Nat) : Int) from rfl, e3]
    show _ = ((b0.toNat + 256 * (b1.toNat + 256 * (b2.toNat + 256 * (b3.toNat + 256 * 0))) : Nat) : Int)
    congr 1
    omega
  have HV := Lib.hid hV
  clear hV
  have hlen : (3 : Int) < ((b0 :: b1 :: b2 :: b3 :: l).length : Nat) := by simp; omega
  generalize (b0 :: b1 :: b2 :: b3 :: l).length = n at *
  simp [Addr.add] at c0 c1 c2 c3
  have k0 : (0 : Int) < n := by omega
  have k1 : (1 : Int) < n := by omega
  have k2 : (2 : Int) < n := by omega
  go_enter Try.func72, Try.ntmps72
  go_wp2_with fail
  go_quiet (fail)
  go_wp2
  go_ret
  exact ⟨by rw [← HV.out]; rfl, nq, rfl⟩
end Go.Proofs.Ytadgaphgomagkaa
