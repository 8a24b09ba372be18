/- Both devices and the power side by side; devices refused. -/
import Derived.Test.YtadgaphgomagkaaRe
import Derived.Test.YtadgaphgomagkaaVo
namespace Go.Proofs.Ytadgaphgomagkaa
open Go.RowKit
set_option maxHeartbeats 1000000
set_option maxRecDepth 100000

structure TwoP (w0 w : World) (B D P R G : Nat) (kept : List UInt8) (L : List (Nat × UInt8)) (off : Bool) (armed : Nat) (picks : List Int) (s i : Nat) : Prop where
  nv : ∃ m, m ≤ s + i ∧ NvP w B D P G kept L off armed picks m
  rf : RfS w B R G kept L
  few : L.length ≤ 4096 * i
  bel : Below B w0 w
  len : kept.length ≤ 4096
  arm : armed ≤ 9223372036854775807
section
variable {w0 w w1 : World} {B D P R G s i : Nat} {kept : List UInt8} {L : List (Nat × UInt8)} {off : Bool} {armed : Nat} {picks : List Int}
theorem TwoP.base (h : TwoP w0 w B D P R G kept L off armed picks s i) : B ≤ w.heap.size := by
  obtain ⟨m, _, h⟩ := h.nv
  exact h.base
theorem TwoP.below (h : TwoP w0 w B D P R G kept L off armed picks s i) (hb : Below w.heap.size w w1) : TwoP w0 w1 B D P R G kept L off armed picks s i := by
  obtain ⟨m, hm, hn⟩ := h.nv
  exact ⟨⟨m, hm, hn.below hb⟩, h.rf.below hb, h.few, h.bel.trans (hb.mono h.base), h.len, h.arm⟩
theorem TwoP.next (h : TwoP w0 w B D P R G kept L off armed picks s i) : TwoP w0 w B D P R G kept L off armed picks s (i + 1) := by
  obtain ⟨m, hm, hn⟩ := h.nv
  exact ⟨⟨m, by omega, hn⟩, h.rf, by have := h.few; omega, h.bel, h.len, h.arm⟩
theorem tp_fits (h : TwoP w0 w B D P R G kept L off armed picks s i) (a n : Int) :
    Calls Try.prog 18 #[.pointer (some ⟨R, 0, none⟩), .int .i64 a, .int .i64 n] w fun e w' => e = .returned (.bool (fitsB kept.length a n)) ∧ w = w' := by
  obtain ⟨kA, kc, lA, lc, hr⟩ := h.rf
  exact fits_all _ B R G kept L kA kc lA lc hr (by have := h.len; omega) a n
theorem tp_all (h : TwoP w0 w B D P R G kept L off armed picks s i) (hi : i ≤ 400) :
    Calls Try.prog 30 #[.pointer (some ⟨R, 0, none⟩)] w fun e w' => ∃ A' c', e = .returned (.slice A' kept.length c') ∧ w'.ownsRow w.heap.size 5 1 (.slice A' kept.length c') kept.length (byts (app kept L)) ∧ Below w.heap.size w w' := by
  obtain ⟨kA, kc, lA, lc, hr⟩ := h.rf
  obtain ⟨m, hm, hn⟩ := h.nv
  exact all_any _ B R G kept L kA kc lA lc hr (by have := h.len; omega) hn.lt (by have := h.few; omega)
/-- the reference cut alone -/
theorem tp_refcut (h : TwoP w0 w B D P R G kept L off armed picks s i) (hi : i ≤ 400) (A : Option Addr) (c : Nat) (p : List Int) (hp : Rd w A (ints p)) (hpx : ∀ x ∈ p, x ≤ 9223372036854775807) :
    Calls Try.prog 26 #[.pointer (some ⟨R, 0, none⟩), .slice A p.length c] w fun e w' => e = .returned (.tuple #[]) ∧ RfS w' B R G (app kept (L.take (keptW p L.length))) [] ∧ (∃ m, m ≤ s + i ∧ NvP w' B D P G kept L off armed picks m) ∧ Below B w0 w' ∧ ChgR B w w' := by
  obtain ⟨kA, kc, lA, lc, hr⟩ := h.rf
  obtain ⟨m, hm, hn⟩ := h.nv
  refine (refCut_ok _ B R G kept L kA kc lA lc hr (by have := h.len; omega) hn.lt (by have := h.few; omega) hn.hasG.lt A c p hp hpx).mono ?_
  rintro e w' ⟨rfl, ⟨kA', kc', k1⟩, k2⟩
  exact ⟨rfl, ⟨kA', kc', none, 0, k1⟩, ⟨m, hm, hn.keepR k2⟩, k2.after h.bel hn.base, k2⟩
end
theorem notTNA : ¬ TN 38 := by rintro (e | e | e) <;> exact absurd e (by decide)
theorem notTRA : ¬ TR 38 := by rintro (e | e) <;> exact absurd e (by decide)
theorem blk_keepN {w w1 : World} {B G X : Nat} {cs : Array Value} (h : Blk w X 38 cs) (hG : Has w G 5) (hc : ChgN B G w w1) : Blk w1 X 38 cs := h.keep hc (SN.not h.has notTNA (h.has.ne hG (by decide)))
theorem blk_keepR {w w1 : World} {B X : Nat} {cs : Array Value} (h : Blk w X 38 cs) (hc : ChgR B w w1) : Blk w1 X 38 cs := h.keep hc (SR.not h.has notTRA)
def wantA (off : Bool) (op : Int) (f : Bool) : Nat := if off then 8 else if op = 1 ∧ f = false then 1 else 0
def armB (op : Int) (wa armed : Nat) : Bool := decide ((op = 1 ∨ op = 2) ∧ wa = 0 ∧ 0 < armed)
/-- between the tests and the act: the power will go, or not -/
def EPost (w0 wx : World) (B D P R G _z _X : Nat) (kept : List UInt8) (L : List (Nat × UInt8)) (off : Bool) (armed : Nat) (picks : List Int) (k : Nat) (op : Int) (wa : Nat) (wv a2 : Nat) (o2 : Bool) : Prop :=
  (armB op wa armed = true ∧ armed = 1 ∧ wv = 8 ∧ a2 = 0 ∧ o2 = true ∧ off = false ∧ (∃ m, m ≤ k ∧ NvP wx B D P G kept L false 1 picks m) ∧ RfS wx B R G (app kept (L.take (keptW picks L.length))) [] ∧ Below B w0 wx) ∨
  ((armB op wa armed = true → armed ≠ 1) ∧ wv = wa ∧ a2 = (if armB op wa armed = true then armed - 1 else armed) ∧ o2 = off ∧ TwoP w0 wx B D P R G kept L off armed picks 0 k)
theorem nvNew_bad (w : World) (P : Nat) (n : Int) (h : n < 64 ∨ 67108864 < n) :
    Calls Try.prog 15 #[.pointer (some ⟨P, 0, none⟩), .int .i64 n] w fun e w' => e = .returned (.tuple #[.pointer none, .int .i64 1]) ∧ w = w' := by
  by_cases h1 : n < 64
  · go_enter Try.func15, Try.ntmps15
    go_wp2
    go_ret2
    exact ⟨rfl, rfl⟩
  · have h2 : 67108864 < n := by omega
    go_enter Try.func15, Try.ntmps15
    go_wp2
    go_ret2
    exact ⟨rfl, rfl⟩
theorem refNew_bad (w : World) (n : Int) (h : n < 64 ∨ 67108864 < n) :
    Calls Try.prog 17 #[.int .i64 n] w fun e w' => e = .returned (.tuple #[.pointer none, .int .i64 1]) ∧ w = w' := by
  by_cases h1 : n < 64
  · go_enter Try.func17, Try.ntmps17
    go_wp2
    go_ret2
    exact ⟨rfl, rfl⟩
  · have h2 : 67108864 < n := by omega
    go_enter Try.func17, Try.ntmps17
    go_wp2
    go_ret2
    exact ⟨rfl, rfl⟩
theorem PwD.new {w : World} {P D dc m : Nat} {dA : Option Addr} {base : Nat} (hp : PwAt w P false 0 (.slice none 0 0) m (.slice dA 1 dc)) (ho : w.ownsRow base 146 1 (.slice dA 1 dc) 1 [devV D]) {B : Nat} (hB : B ≤ P) : PwD w B P D false 0 [] m :=
  ⟨⟨none, 0, dA, dc, hp, Rd.none_, by simp, (fun _ h => by cases h), Rd.of_own ho, own_has ho⟩, hB, by simp, by simp⟩
end Go.Proofs.Ytadgaphgomagkaa
