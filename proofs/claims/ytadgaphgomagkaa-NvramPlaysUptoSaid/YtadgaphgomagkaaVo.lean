/- Both devices side by side: a write on each. -/
import Derived.Test.YtadgaphgomagkaaVn
namespace Go.Proofs.Ytadgaphgomagkaa
open Go.RowKit
set_option maxHeartbeats 400000
set_option maxRecDepth 100000

def RfS (w : World) (B R G : Nat) (kept : List UInt8) (L : List (Nat × UInt8)) : Prop := ∃ kA kc lA lc, RfAt w B R G kept L kA kc lA lc
structure Two (w0 w : World) (B D P R G : Nat) (kept : List UInt8) (L : List (Nat × UInt8)) (s i : Nat) : Prop where
  nv : ∃ m, m ≤ s + i ∧ NvS w B D P G kept L m
  rf : RfS w B R G kept L
  few : L.length ≤ 100 * i
  bel : Below B w0 w
  len : kept.length = 100
structure Mid (w0 w : World) (B D P R G : Nat) (kept : List UInt8) (L L' : List (Nat × UInt8)) (s i : Nat) : Prop where
  nv : ∃ m, m ≤ s + i ∧ NvS w B D P G kept L' m
  rf : RfS w B R G kept L
  bel : Below B w0 w
section
variable {w0 w w1 : World} {B D P R G s i : Nat} {kept : List UInt8} {L : List (Nat × UInt8)}
theorem RfS.below (h : RfS w B R G kept L) (hb : Below w.heap.size w w1) : RfS w1 B R G kept L := by
  obtain ⟨a, b, c, d, h⟩ := h
  exact ⟨a, b, c, d, h.below hb⟩
theorem RfS.keepN (h : RfS w B R G kept L) (hG : Has w G 5) (hc : ChgN B G w w1) : RfS w1 B R G kept L := by
  obtain ⟨a, b, c, d, h⟩ := h
  exact ⟨a, b, c, d, h.keepN hG hc⟩
theorem Two.base (h : Two w0 w B D P R G kept L s i) : B ≤ w.heap.size := by
  obtain ⟨m, _, h⟩ := h.nv
  exact h.base
theorem Two.below (h : Two w0 w B D P R G kept L s i) (hb : Below w.heap.size w w1) : Two w0 w1 B D P R G kept L s i := by
  obtain ⟨m, hm, hn⟩ := h.nv
  exact ⟨⟨m, hm, hn.below hb⟩, h.rf.below hb, h.few, h.bel.trans (hb.mono h.base), h.len⟩
theorem Two.next (h : Two w0 w B D P R G kept L s i) : Two w0 w B D P R G kept L s (i + 1) := by
  obtain ⟨m, hm, hn⟩ := h.nv
  exact ⟨⟨m, by omega, hn⟩, h.rf, by have := h.few; omega, h.bel, h.len⟩
theorem Mid.below {L' : List (Nat × UInt8)} (h : Mid w0 w B D P R G kept L L' s i) (hb : Below w.heap.size w w1) : Mid w0 w1 B D P R G kept L L' s i := by
  obtain ⟨m, hm, hn⟩ := h.nv
  exact ⟨⟨m, hm, hn.below hb⟩, h.rf.below hb, h.bel.trans (hb.mono hn.base)⟩
theorem two_fits (h : Two w0 w B D P R G kept L s i) (a m : Int) (hm : 0 ≤ m) (n : Nat) :
    Calls Try.prog 18 #[.pointer (some ⟨R, 0, none⟩), .int .i64 a, .int .i64 m] (w.drewN n) fun e w' => e = .returned (.bool (fitsB 100 a m)) ∧ w.drewN n = w' := by
  obtain ⟨kA, kc, lA, lc, hr⟩ := h.rf
  have := fits_any _ B R G kept L kA kc lA lc (hr.below (below_drewN (Below.refl _ _) n)) (by rw [h.len]; decide) a m hm
  rwa [h.len] at this
theorem fits_cases {a : Int} {n : Nat} (h : fitsB 100 a (n : Nat) = true) : ∃ b : Nat, a = (b : Int) ∧ b + n ≤ 100 := by
  unfold fitsB at h
  simp at h
  exact ⟨a.toNat, by omega, by omega⟩
theorem two_write (h : Two w0 w B D P R G kept L s i) (hs : s + i ≤ 5000) (hb : Below w.heap.size w w1) (a : Nat) (A PA : Option Addr) (c : Nat) (l : List UInt8) (hr : Rd w1 PA [.slice A l.length c]) (hl : Rd w1 A (byts l)) (hlc : l.length ≤ c) (hfit : a + l.length ≤ 100) :
    Calls Try.prog 19 #[.pointer (some ⟨D, 0, none⟩), .int .i64 (a : Nat), .slice PA 1 1] w1 fun e w' => e = .returned (.int .i64 0) ∧ Mid w0 w' B D P R G kept L (L ++ puts a l) s (i + 1) := by
  have h1 := h.below hb
  obtain ⟨m, hm, hn⟩ := h1.nv
  refine (s_write hn (by omega) a A PA c l hr hl hlc (by rw [h.len]; exact hfit) (by have := h.few; omega)).mono ?_
  rintro e w' ⟨rfl, k1, k2⟩
  exact ⟨rfl, ⟨m + 1, by omega, k1⟩, h1.rf.keepN hn.hasG k2, k2.after h1.bel hn.base⟩
theorem mid_write {a : Nat} {l : List UInt8} (h : Mid w0 w B D P R G kept L (L ++ puts a l) s (i + 1)) (hk : kept.length = 100) (hf : L.length ≤ 100 * i) (hi : i ≤ 5000) (hb : Below w.heap.size w w1) (A : Option Addr) (c : Nat) (hl : Rd w1 A (byts l)) (hA : l ≠ [] → ∀ ad, A = some ad → ad.block < B) (hfit : a + l.length ≤ 100) :
    Calls Try.prog 20 #[.pointer (some ⟨R, 0, none⟩), .int .i64 (a : Nat), .slice A l.length c] w1 fun e w' => e = .returned (.tuple #[]) ∧ Two w0 w' B D P R G kept (L ++ puts a l) s (i + 1) := by
  have h1 := h.below hb
  obtain ⟨m, hm, hn⟩ := h1.nv
  obtain ⟨kA, kc, lA, lc, hr⟩ := h1.rf
  refine (refWrite_ok _ B R G kept L kA kc lA lc hr hn.base a A c l hl hA (by omega) (by omega)).mono ?_
  rintro e w' ⟨rfl, ⟨lA', lc', k1⟩, k2⟩
  exact ⟨rfl, ⟨m, hm, hn.keepR k2⟩, ⟨kA, kc, lA', lc', k1⟩, by rw [List.length_append, puts_length]; omega, k2.after h1.bel hn.base, hk⟩
end
end Go.Proofs.Ytadgaphgomagkaa
