/- Records are read, the good way. -/
import Derived.Test.YtppfjdohajomoaaFm
namespace Go.Proofs.Ytppfjdohajomoaa
open Go.RowKit
set_option maxHeartbeats 4000000
set_option maxRecDepth 100000

theorem readRecord_good (A : Option Addr) (c : Nat) (l : List UInt8) (n p p4 p12 e12 : Nat) (w : World) (hr : Rd w A (byts l)) (hl : l.length ≤ 140737488351232) (hlc : l.length ≤ c) (hp0 : 0 < p) (hp1 : p ≤ 10) (hn : n ≤ 16777216) (hlen : p + n + 12 ≤ l.length)
    (hp4 : p4 = p + 4) (hp12 : p12 = p + 12) (he12 : e12 = p + 12 + n)
    (hnum : Calls Try.prog 50 #[.slice A l.length c] w fun e w' => e = .returned (.tuple #[.int .u64 (n : Nat), .int .i64 (p : Nat), .int .i64 0]) ∧ w = w')
    (h : leN (cutB l p 4) = crcB (cutB l p4 (8 + n))) :
    Calls Try.prog 54 #[.slice A l.length c] w fun e w' => ∃ A' c' out, e = .returned (.tuple #[.int .u64 (leN (cutB l p4 8) : Nat), .slice A' out.length c', .int .i64 e12, .int .i64 0]) ∧ out = cutB l p12 n ∧
      w'.ownsRow w.heap.size 5 1 (.slice A' out.length c') out.length (byts out) ∧ Below w.heap.size w w' := by
  have h1 := hr.cutB p 4 c hlc
  have h2 := hr.cutB p4 (8 + n) c hlc
  have h3 := hr.cutB p4 8 c hlc
  have h4 := hr.cutB p12 n c hlc
  have l3 := cutB_length l p4 8 (by omega)
  have l4 := cutB_length l p12 n (by omega)
  have l1 := cutB_length l p 4 (by omega)
  have l2 := cutB_length l p4 (8 + n) (by omega)
  generalize hA1 : (if c = p then A else A.map (·.add p)) = A1 at *
  generalize hA2 : (if c = p4 then A else A.map (·.add p4)) = A2 at *
  generalize hA4 : (if c = p12 then A else A.map (·.add p12)) = A4 at *
  generalize cutB l p4 8 = q3 at *
  generalize cutB l p12 n = q4 at *
  generalize cutB l p 4 = q1 at *
  generalize cutB l p4 (8 + n) = q2 at *
  have hq1 : ∀ W : World, Rd W A1 (byts q1) → Calls Try.prog 83 #[.slice A1 4 (c - p)] W fun e w' => e = .returned (.int .u64 (leN q1 : Nat)) ∧ W = w' := fun W hW => by
    have := num_any A1 (c - p) q1 W hW (by omega)
    rw [l1] at this
    exact this
  have hq2 : ∀ (W : World) (g : Nat), Rd W (some ⟨g, 0, none⟩) [.slice A2 (8 + n) (c - p4)] → Rd W A2 (byts q2) → Calls Try.prog 24 #[.slice (some ⟨g, 0, none⟩) 1 1] W fun e w' => e = .returned (.int .u32 (crcB q2 : Nat)) ∧ Below W.heap.size W w' := fun W g hg hW => by
    have := sum_any (some ⟨g, 0, none⟩) 1 [⟨A2, c - p4, q2⟩] W (by simpa [Sb.val, l2] using hg) (by simp) (by
      intro s hs
      simp only [List.mem_cons, List.not_mem_nil, or_false] at hs
      subst hs
      exact ⟨hW, by show q2.length ≤ c - p4; omega, by show q2.length ≤ _; omega⟩)
    simpa [flat] using this
  have hq3 : ∀ W : World, Rd W A2 (byts q3) → Calls Try.prog 83 #[.slice A2 8 (c - p4)] W fun e w' => e = .returned (.int .u64 (leN q3 : Nat)) ∧ W = w' := fun W hW => by
    have := num_any A2 (c - p4) q3 W hW (by omega)
    rw [l3] at this
    exact this
  have hq4 : ∀ W : World, Rd W A4 (byts q4) → Calls Try.prog 81 #[.slice A4 n (c - p12)] W fun e w' => ∃ A' c', e = .returned (.slice A' n c') ∧
      w'.ownsRow W.heap.size 5 1 (.slice A' n c') n (byts q4) ∧ Below W.heap.size W w' := fun W hW => by
    have := clone_any A4 (c - p12) q4 W hW (by omega)
    rw [l4] at this
    exact this
  have hC := crcB_lt q2
  generalize crcB q2 = C at *
  generalize leN q1 = D at *
  generalize leN q3 = E at *
  have hne : ((D : Int) != (C : Int)) = false := by rw [bne_eq_false_iff_eq]; omega
  have L4 := Lib.hid l4
  have sC : IntKind.u64.wrap (C : Int) = (C : Int) := by rw [IntKind.wrap_u64]; omega
  have s1 : IntKind.i64.wrap ((p : Int) + 4) = (p : Int) + 4 := IntWalk.i64_in _ (by omega)
  have s2 : (0 : Int) ≤ (p : Int) + 4 := by omega
  have s3 : ((p : Int) + 4).toNat = p4 := by omega
  have s4 : (p : Int) + 4 ≤ (c : Int) := by omega
  have s5 : (p : Int) ≤ (p : Int) + 4 := by omega
  have s6 : (p : Int) + 4 ≤ (p : Int) + 12 + (n : Int) := by omega
  have s7 : (p : Int) + 12 + (n : Int) ≤ (c : Int) := by omega
  have s8 : (0 : Int) ≤ (p : Int) + 12 + (n : Int) := by omega
  have s9 : ((p : Int) + 12 + (n : Int)).toNat = e12 := by omega
  have s12 : ((p : Int) + 12).toNat = p12 := by omega
  have s13 : IntKind.i64.wrap ((p : Int) + 12) = (p : Int) + 12 := IntWalk.i64_in _ (by omega)
  have s14 : (0 : Int) ≤ (p : Int) + 12 := by omega
  have s15 : (p : Int) + 12 ≤ (c : Int) := by omega
  have s16 : (p : Int) + 4 ≤ (p : Int) + 12 := by omega
  have s17 : (p : Int) + 12 ≤ (p : Int) + 12 + (n : Int) := by omega
  have s18 : p12 - p4 = 8 := by omega
  have s19 : e12 - p12 = n := by omega
  have s20 : ((p : Int) + 12 + (n : Int)) = (e12 : Int) := by omega
  have S20 := Lib.hid s20
  clear s20
  have s10 : p4 - p = 4 := by omega
  have s11 : e12 - p4 = 8 + n := by omega
  have H4 := Lib.hid hp4
  have H12 := Lib.hid he12
  have HP12 := Lib.hid hp12
  clear l1 l2 l3 l4 hp4 he12 hp12 h
  go_enter Try.func54, Try.ntmps54
  go_wp2_with (go_at_call 50; refine hnum.mono ?_; rintro e w1 ⟨rfl, rfl⟩)
  go_region_with (first
    | (go_at_call 83; refine (hq1 _ ?_).mono ?_; (first | exact h1 | exact h1.alloc _); rintro e w' ⟨rfl, rfl⟩)
    | (go_at_call 24; refine (hq2 _ _ ?_ ?_).mono ?_; (first | exact Rd.one _ _ _); (first | exact h2.alloc _); rintro e w2 ⟨rfl, hb2⟩))
  all_goals
    have hbb : Below w.heap.size w w2 := (((Below.refl _ _).drew).alloc (Nat.le_refl _) _).trans (hb2.mono (by simp))
    have h3' := h3.below hbb
    have h4' := h4.below hbb
    go_wp2
    go_region_with (first
      | (go_at_call 83; refine (hq3 _ ?_).mono ?_; (first | exact h3' | exact h3'.alloc _); rintro e w' ⟨rfl, rfl⟩)
      | (go_at_call 81; refine (hq4 _ ?_).mono ?_; (first | exact h4' | exact h4'.alloc _); rintro e w3 ⟨A5, c5, rfl, ho5, hb5⟩))
  all_goals
    go_wp2
    refine bodyPost_ret (results_tmp4 rfl _ _ _) rfl ?_
    have hb3 : Below w2.heap.size w2 w3 := (Below.refl _ _).drew.trans hb5
    have hsz := hbb.size
    exact ⟨A5, c5, q4, by rw [L4.out, ← S20.out]; rfl, rfl, by rw [L4.out]; exact own_mono ho5 hsz, hbb.trans (hb3.mono hsz)⟩
end Go.Proofs.Ytppfjdohajomoaa
