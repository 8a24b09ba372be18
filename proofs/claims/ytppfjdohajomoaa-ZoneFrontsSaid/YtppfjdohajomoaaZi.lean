/- Drives on a power: New, Arm, a write that cuts. -/
import Derived.Test.YtppfjdohajomoaaZh
namespace Go.Proofs.Ytppfjdohajomoaa
open Go.RowKit
set_option maxHeartbeats 4000000
set_option maxRecDepth 100000

def zs0 (n : Nat) : List ZS := List.replicate n ⟨none, 0, [], 0⟩
section
variable {w w1 : World} {B P : Nat} {off : Bool} {armed : Nat} {picks : List Int} {writes : Nat} {ds : List Dr} {vA : Option Addr} {vc : Nat}
theorem new_ok (zones pages size : Nat) (h : Sys w B P off armed picks writes ds vA vc) (hz : 1 ≤ zones) (hz2 : zones ≤ 4096) (hp : 1 ≤ pages) (hp2 : pages ≤ 4096) (hs : 32 ≤ size) (hs2 : size ≤ 65536) (hf : ds.length + 1 ≤ 1000) (hB : B ≤ w.heap.size) :
    Calls Try.prog 40 #[.pointer (some ⟨P, 0, none⟩), .int .i64 (zones : Nat), .int .i64 (pages : Nat), .int .i64 (size : Nat)] w fun e w' => ∃ D Z, e = .returned (.tuple #[.pointer (some ⟨D, 0, none⟩), .int .i64 0]) ∧ ∃ vA' vc', Sys w' B P off armed picks writes (ds ++ [⟨D, Z, pages, size, false, zs0 zones⟩]) vA' vc' ∧
      Chg (fun k => k = P ∨ ∃ ad, vA = some ad ∧ k = ad.block) w w' ∧ w.heap.size ≤ D ∧ w.heap.size ≤ Z := by
  have hmk := run_mkz zones hz2
  have hb1 : Below w.heap.size w ((w.alloc (.cells (zcells (zs0 zones)).toArray 154)).alloc (.cells #[.pointer (some ⟨P, 0, none⟩), .slice (some ⟨w.heap.size, 0, none⟩) zones zones, .int .i64 (pages : Nat), .int .i64 (size : Nat), .bool false] 147)) := ((Below.refl _ _).alloc (Nat.le_refl _) _).alloc (by simp) _
  have hd : (Dr.mk (w.heap.size + 1) w.heap.size pages size false (zs0 zones)).at_ ((w.alloc (.cells (zcells (zs0 zones)).toArray 154)).alloc (.cells #[.pointer (some ⟨P, 0, none⟩), .slice (some ⟨w.heap.size, 0, none⟩) zones zones, .int .i64 (pages : Nat), .int .i64 (size : Nat), .bool false] 147)) B P := by
    refine ⟨?_, (Blk.new w 154 _).alloc _, ⟨by simp only; omega, hB⟩, ⟨hp2, by simp [zs0]; omega⟩, fun i hi => ?_, fun i j hi hj hij a b ha => ?_⟩
    · have := Blk.new (w.alloc (.cells (zcells (zs0 zones)).toArray 154)) 147 #[.pointer (some ⟨P, 0, none⟩), .slice (some ⟨w.heap.size, 0, none⟩) zones zones, .int .i64 (pages : Nat), .int .i64 (size : Nat), .bool false]
      simpa [zs0] using this
    · simp only [zs0, List.getElem_replicate]
      exact ⟨.inl (World.ownsRow_nil _ _ _ _), (fun _ h => by cases h), (fun _ h => by cases h), by simp, by simp⟩
    · simp [zs0] at ha
  have hap : ∀ d' ∈ ds, ∀ k, d'.S k → ¬ (Dr.mk (w.heap.size + 1) w.heap.size pages size false (zs0 zones)).S k := by
    intro d' hd' k hk hk2
    have hlt : k < w.heap.size := by
      have h1 := h.drv d' hd'
      rcases hk with rfl | rfl | ⟨z, hz, ad, hA, rfl⟩
      · exact h1.drv.lt
      · exact h1.zon.lt
      · obtain ⟨i, hi, rfl⟩ := List.getElem_of_mem hz
        exact ((h1.rows i hi).has ad hA).2.lt
    rcases hk2 with e | e | ⟨z, hz, ad, hA, rfl⟩
    · simp only at e; omega
    · simp only at e; omega
    · simp only [zs0] at hz
      rw [List.eq_of_mem_replicate hz] at hA
      cases hA
  have hat := attach_any (Dr.mk (w.heap.size + 1) w.heap.size pages size false (zs0 zones)) (h.below hb1) hd hap hf (Nat.le_trans hB hb1.size)
  have k1 : ¬ (zones : Int) < 1 := by omega
  have k2 : ¬ 4096 < (zones : Int) := by omega
  have k3 : ¬ (pages : Int) < 1 := by omega
  have k4 : ¬ 4096 < (pages : Int) := by omega
  have k5 : ¬ (size : Int) < 32 := by omega
  have k6 : ¬ 65536 < (size : Int) := by omega
  unfold devV at hat
  unfold zs0 at hat hb1 ⊢
  go_enter Try.func40, Try.ntmps40
  go_wp2_with (go_at_call 77; refine hat.mono ?_; rintro e w3 ⟨rfl, vA', vc', hs3, hc3⟩)
  go_ret2
  refine ⟨w.heap.size + 1, w.heap.size, rfl, vA', vc', hs3, ?_, by omega, Nat.le_refl _⟩
  exact (Chg.of_below hb1).trans hc3
end
end Go.Proofs.Ytppfjdohajomoaa
