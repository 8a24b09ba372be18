/- Records are read. -/
import Derived.Test.YtppfjdohajomoaaFl
import Derived.Test.YtppfjdohajomoaaPb
import Derived.Deep.RegionWith
import Derived.Deep.DeepCutAuto
import Derived.Deep.CutBlock
namespace Go.Proofs.Ytppfjdohajomoaa
open Go.RowKit
set_option maxHeartbeats 1000000
set_option maxRecDepth 100000

theorem Rd.cutB {w : World} {A : Option Addr} {l : List UInt8} (h : Rd w A (byts l)) (i n c : Nat) (hc : l.length ≤ c) : Rd w (if c = i then A else A.map (·.add i)) (byts (cutB l i n)) := by
  have := (h.drop i c (by rw [byts_length]; exact hc)).take n
  simpa [byts, Go.Proofs.Ytppfjdohajomoaa.cutB] using this

theorem readRecord_bad (A : Option Addr) (c : Nat) (l : List UInt8) (n p p4 e12 : Nat) (w : World) (hr : Rd w A (byts l)) (hl : l.length ≤ 140737488351232) (hlc : l.length ≤ c) (hp0 : 0 < p) (hp1 : p ≤ 10) (hn : n ≤ 16777216) (hlen : p + n + 12 ≤ l.length)
    (hp4 : p4 = p + 4) (he12 : e12 = p + 12 + n)
    (hnum : Calls Try.prog 50 #[.slice A l.length c] w fun e w' => e = .returned (.tuple #[.int .u64 (n : Nat), .int .i64 (p : Nat), .int .i64 0]) ∧ w = w')
    (h : leN (cutB l p 4) ≠ crcB (cutB l p4 (8 + n))) :
    Calls Try.prog 54 #[.slice A l.length c] w fun e w' => e = .returned (.tuple #[.int .u64 0, .slice none 0 0, .int .i64 0, .int .i64 23]) ∧ Below w.heap.size w w' := by
  have h1 := hr.cutB p 4 c hlc
  have h2 := hr.cutB p4 (8 + n) c hlc
  have l1 := cutB_length l p 4 (by omega)
  have l2 := cutB_length l p4 (8 + n) (by omega)
  generalize hA1 : (if c = p then A else A.map (·.add p)) = A1 at *
  generalize hA2 : (if c = p4 then A else A.map (·.add p4)) = A2 at *
  generalize cutB l p 4 = q1 at *
  generalize cutB l p4 (8 + n) = q2 at *
  have hq1 : ∀ W : World, Rd W A1 (byts q1) → Calls Try.prog 83 #[.slice A1 4 (c - p)] W fun e w' => e = .returned (.int .u64 (leN q1 : Nat)) ∧ W = w' := fun W hW => by
    have := num_any A1 (c - p) q1 W hW (by omega)
    rw [l1] at this
    exact this
  have hq2 : ∀ (W : World) (g : Nat), Rd W (some ⟨g, 0, none⟩) [.slice A2 (8 + n) (c - p4)] → Rd W A2 (byts q2) → Calls Try.prog 24 #[.slice (some ⟨g, 0, none⟩) 1 1] W fun e w' => e = .returned (.int .u32 (crcB q2 : Nat)) ∧ Below W.heap.size W w' := fun W g hg hW => by
    have := sum_any (some ⟨g, 0, none⟩) 1 [⟨A2, c - p4, q2⟩] W (by simpa [Sb.val, l2] using hg) (by simp) (by
      intro s hs
      simp only [List.mem_cons, List.not_mem_nil, or_false] at hs
      subst hs
      exact ⟨hW, by show q2.length ≤ c - p4; omega, by show q2.length ≤ _; omega⟩)
    simpa [flat] using this
  have hC := crcB_lt q2
  generalize crcB q2 = C at *
  generalize leN q1 = D at *
  have hne : ((D : Int) != (C : Int)) = true := by rw [bne_iff_ne]; omega
  have sC : IntKind.u64.wrap (C : Int) = (C : Int) := by rw [IntKind.wrap_u64]; omega
  have s1 : IntKind.i64.wrap ((p : Int) + 4) = (p : Int) + 4 := IntWalk.i64_in _ (by omega)
  have s2 : (0 : Int) ≤ (p : Int) + 4 := by omega
  have s3 : ((p : Int) + 4).toNat = p4 := by omega
  have s4 : (p : Int) + 4 ≤ (c : Int) := by omega
  have s5 : (p : Int) ≤ (p : Int) + 4 := by omega
  have s6 : (p : Int) + 4 ≤ (p : Int) + 12 + (n : Int) := by omega
  have s7 : (p : Int) + 12 + (n : Int) ≤ (c : Int) := by omega
  have s8 : (0 : Int) ≤ (p : Int) + 12 + (n : Int) := by omega
  have s9 : ((p : Int) + 12 + (n : Int)).toNat = e12 := by omega
  have s10 : p4 - p = 4 := by omega
  have s11 : e12 - p4 = 8 + n := by omega
  have H4 := Lib.hid hp4
  have H12 := Lib.hid he12
  clear l1 l2 hp4 he12
  go_enter Try.func54, Try.ntmps54
  go_wp2_with (go_at_call 50; refine hnum.mono ?_; rintro e w1 ⟨rfl, rfl⟩)
  go_region_with (first
    | (go_at_call 83; refine (hq1 _ ?_).mono ?_; (first | exact h1 | exact h1.alloc _); rintro e w' ⟨rfl, rfl⟩)
    | (go_at_call 24; refine (hq2 _ _ ?_ ?_).mono ?_; (first | exact Rd.one _ _ _); (first | exact h2.alloc _); rintro e w2 ⟨rfl, hb2⟩))
  all_goals
    have hbb : Below w.heap.size w w2 := (((Below.refl _ _).drew).alloc (Nat.le_refl _) _).trans (hb2.mono (by simp))
    go_wp2
    refine bodyPost_ret (results_tmp4 rfl _ _ _) rfl ?_
    exact ⟨rfl, hbb⟩

/-- what a read record comes back as -/
def RecPost (w : World) (R : Nat × List UInt8 × Nat × Nat) (e : Ending) (w' : World) : Prop :=
  ∃ A' c' out, e = .returned (.tuple #[.int .u64 (R.1 : Nat), .slice A' out.length c', .int .i64 (R.2.2.1 : Nat), .int .i64 (R.2.2.2 : Nat)]) ∧ out = R.2.1 ∧
      w'.ownsRow w.heap.size 5 1 (.slice A' out.length c') out.length (byts out) ∧ Below w.heap.size w w'
theorem RecPost.bad (w : World) (k : Nat) (w' : World) (hb : Below w.heap.size w w') : RecPost w (0, [], 0, k) (.returned (.tuple #[.int .u64 0, .slice none 0 0, .int .i64 0, .int .i64 (k : Nat)])) w' :=
  ⟨none, 0, [], rfl, rfl, World.ownsRow_nil _ _ _ _, hb⟩
end Go.Proofs.Ytppfjdohajomoaa
