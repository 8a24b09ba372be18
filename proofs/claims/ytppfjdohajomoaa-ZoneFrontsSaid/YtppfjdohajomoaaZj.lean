/- Drives on a power: Arm. -/
import Derived.Test.YtppfjdohajomoaaZi
namespace Go.Proofs.Ytppfjdohajomoaa
open Go.RowKit
set_option maxHeartbeats 4000000
set_option maxRecDepth 100000

theorem slI : SlT Try.prog 66 3 (.int .i64 0) 1 8 := ⟨Try.underlying66, by kernel_rfl, rfl, by decide⟩
theorem ints_length (l : List Int) : (ints l).length = l.length := by simp [ints]
theorem ints_one (l : List Int) : ∀ v ∈ ints l, v.oneCell' = true := by
  intro v hv
  simp only [ints, List.mem_map] at hv
  obtain ⟨x, _, rfl⟩ := hv
  rfl

theorem cloneI_any (A : Option Addr) (c : Nat) (l : List Int) (w : World) (hr : Rd w A (ints l)) (hl : l.length ≤ 1000000) :
    Calls Try.prog 78 #[.slice A l.length c] w fun e w' => ∃ A' c', e = .returned (.slice A' l.length c') ∧
      w'.ownsRow w.heap.size 3 1 (.slice A' l.length c') l.length (ints l) ∧ Below w.heap.size w w' := by
  have hnil := fun (W : World) => Lib.run_eql_slice_nil (P := Try.prog) W 66 3 A l.length c 0 0 Try.underlying66
  rcases A with _ | ad
  · have : l = [] := by have := hr.eq_nil; simpa [ints] using this
    subst this
    show Calls Try.prog 78 #[.slice none 0 c] w _
    have hn : ∀ W, (binOp .eql 66 (.slice none 0 c) (.slice none 0 0)).run Try.prog W = .ok (.bool true) W := hnil
    clear hnil
    go_enter Try.func78, Try.ntmps78
    go_wp2
    go_ret
    exact ⟨none, 0, rfl, World.ownsRow_nil _ _ _ _, Below.refl _ _⟩
  · have hown : (w.alloc (.cells #[] 3)).ownsRow w.heap.size 3 1 (.slice (some ⟨w.heap.size, 0, none⟩) 0 0) 0 [] := World.ownsRow_made w #[] 0 (Nat.le_refl _) (by unfold maxLen; omega) rfl
    have hr1 := hr.alloc (.cells #[] 3)
    have hL := ints_length l
    have HL := Lib.hid hL
    clear hL
    go_enter Try.func78, Try.ntmps78
    go_wp2_with (first | (at_builtin; refine wpList_app _ rfl _ _ rfl slI w.heap.size (.slice (some ⟨w.heap.size, 0, none⟩) 0 0) 0 [] rfl hown (some ad) l.length c (ints l) rfl (by rw [HL.out, Nat.mul_one]) hr1 (ints_one l) (by unfold maxLen; omega) (by omega) (by simp) ?_; intro A2 c2 w2 ho2 hg2))
    go_ret
    refine ⟨A2, c2, rfl, by simpa using ho2, ?_⟩
    exact ((Below.refl _ _).alloc (Nat.le_refl _) _).trans (hg2.toBelow (by simp) (by simp [Value.ownBlock]))

section
variable {w w1 : World} {B P : Nat} {off : Bool} {armed : Nat} {picks : List Int} {writes : Nat} {ds : List Dr} {vA : Option Addr} {vc : Nat}
theorem arm_ok (n : Int) (A : Option Addr) (c : Nat) (l : List Int) (h : Sys w B P off armed picks writes ds vA vc) (hr : Rd w A (ints l)) (hl : l.length ≤ 1000000) (hk : ∀ x ∈ l, x ≤ 9223372036854775807) :
    Calls Try.prog 41 #[.pointer (some ⟨P, 0, none⟩), .int .i64 n, .slice A l.length c] w fun e w' => e = .returned (.tuple #[]) ∧ Sys w' B P off (max n 1).toNat l writes ds vA vc ∧ Chg (fun k => k = P) w w' := by
  have hc := cloneI_any A c l w hr hl
  have hmax : max n 1 = (((max n 1).toNat : Nat) : Int) := by omega
  generalize (max n 1).toNat = N at hmax ⊢
  obtain ⟨pA, pc, ⟨h1⟩, h2, h3, h4⟩ := h.pw
  have key : ∀ w2 A2 c2, w2.ownsRow w.heap.size 3 1 (.slice A2 l.length c2) l.length (ints l) → Below w.heap.size w w2 →
      Sys ((w2.setCell ⟨P, 1, none⟩ (.int .i64 (N : Nat))).setCell ⟨P, 2, none⟩ (.slice A2 l.length c2)) B P off N l writes ds vA vc ∧ Chg (fun k => k = P) w ((w2.setCell ⟨P, 1, none⟩ (.int .i64 (N : Nat))).setCell ⟨P, 2, none⟩ (.slice A2 l.length c2)) := by
    intro w2 A2 c2 ho2 hb2
    have z2 := ((h1.below' hb2).set 1 (.int .i64 (N : Nat))).set 2 (.slice A2 l.length c2)
    have hcc : Chg (fun k => k = P) w2 ((w2.setCell ⟨P, 1, none⟩ (.int .i64 (N : Nat))).setCell ⟨P, 2, none⟩ (.slice A2 l.length c2)) := Chg.set (S := fun k => k = P) (Chg.set (S := fun k => k = P) (Chg.refl _ _) rfl _ _) rfl _ _
    have hA : ∀ ad, A2 = some ad → Has w2 ad.block 3 := by
      intro ad e
      rcases ho2.2 with ⟨h0, _⟩ | ⟨g, cap, cur, h0, hg1, hg2, _⟩
      · injection h0 with h0 _ _; rw [e] at h0; cases h0
      · injection h0 with h0 _ _
        rw [e] at h0
        injection h0 with h0
        subst h0
        exact ⟨_, _, hg2⟩
    have hP2 := (h1.below' hb2).has
    have hAP : ∀ ad, A2 = some ad → ¬ ad.block = P := fun ad e e' => ((hA ad e).ne hP2 (by decide)) e'
    refine ⟨?_, (Chg.of_below hb2).trans hcc⟩
    have hs := h.below hb2
    have hPv : ∀ ad, vA = some ad → ¬ ad.block = P := fun ad e e' => ((hs.has ad e).2.ne hP2 (by decide)) e'
    refine ⟨⟨A2, c2, ⟨by simpa using z2⟩, ?_, ?_, fun ad e => (hA ad e).keep hcc (hAP ad e)⟩, h.low, hs.row.keepC hcc hPv, fun ad e => ⟨(hs.has ad e).1, (hs.has ad e).2.keep hcc (hPv ad e)⟩, fun d hd => ?_, h.apart, h.few, hk⟩
    · exact (Rd.of_own ho2).keepC hcc hAP
    · exact (own_cap ho2).1
    · exact DrAt.keepT (hs.drv d hd) (fun k e => .inl (by rw [e]; exact hP2)) hcc
  by_cases hn : 1 ≤ n
  · obtain rfl : n = (N : Int) := by omega
    clear hmax
    go_enter Try.func41, Try.ntmps41
    go_wp2_with (go_at_call 78; refine hc.mono ?_; rintro e w2 ⟨A2, c2, rfl, ho2, hb2⟩; have z1 := h1.below' hb2; have f1 : w2.frozen? ⟨P, 1, none⟩ = false := z1.frozen 1; have f2 : w2.frozen? ⟨P, 2, none⟩ = false := z1.frozen 2; have y1 : w2.cell? ⟨P, 1, none⟩ = some (.int .i64 armed) := z1.cell 1; have y2 : w2.cell? ⟨P, 2, none⟩ = some (.slice pA picks.length pc) := z1.cell 2)
    go_end0
    exact ⟨rfl, key _ _ _ ho2 hb2⟩
  · obtain rfl : N = 1 := by omega
    clear hmax
    have hn1 : ¬ 1 ≤ n := hn
    go_enter Try.func41, Try.ntmps41
    go_wp2_with (go_at_call 78; refine hc.mono ?_; rintro e w2 ⟨A2, c2, rfl, ho2, hb2⟩; have z1 := h1.below' hb2; have f1 : w2.frozen? ⟨P, 1, none⟩ = false := z1.frozen 1; have f2 : w2.frozen? ⟨P, 2, none⟩ = false := z1.frozen 2; have y1 : w2.cell? ⟨P, 1, none⟩ = some (.int .i64 armed) := z1.cell 1; have y2 : w2.cell? ⟨P, 2, none⟩ = some (.slice pA picks.length pc) := z1.cell 2)
    go_end0
    exact ⟨rfl, key _ _ _ ho2 hb2⟩
end
end Go.Proofs.Ytppfjdohajomoaa
