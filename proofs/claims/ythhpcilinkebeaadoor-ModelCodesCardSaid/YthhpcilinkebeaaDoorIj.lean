/- The abstract array: the chapter's example. -/
import Derived.Test.YthhpcilinkebeaaDoorIi
import Derived.Lib.SlBytesConst
namespace Go.Proofs.YthhpcilinkebeaaDoor
open Go.RowKit Go.Maps
set_option maxHeartbeats 4000000
set_option maxRecDepth 100000

theorem conv_same (w : World) (C : Array Value) (n c g : Nat) (hg : g = w.heap.size) : (convert 31 31 (.slice (some ⟨g, 0, none⟩) n c)).run Tryd.prog (w.alloc (.cells C 5)) = .ok (.slice (some ⟨g, 0, none⟩) n c) (w.alloc (.cells C 5 (C.size, C.size + 1))) :=
  hg ▸ Go.Lib.run_convert_bytes_const w _ _ C n c Tryd.underlying31 Tryd.underlying5
theorem Rd.lit (w : World) (cs : List Value) (t : TypeId) (fr : Nat × Nat) (g : Nat) (hg : g = w.heap.size) : Rd (w.alloc (.cells cs.toArray t fr)) (some ⟨g, 0, none⟩) cs := by
  subst hg
  have h := Rd.of_block (w := w.alloc (.cells cs.toArray t fr)) (g := w.heap.size) (cs := cs.toArray) (t := t) (fr := fr) (heap_alloc_new w _)
  simpa using h
theorem nameE_v : nameE (strB ⟨#[118]⟩) = 0 := by kernel_rfl
theorem nameE_s : nameE (strB ⟨#[115]⟩) = 0 := by kernel_rfl
def knownOps (D : Option Addr) : List OM := [⟨1, ⟨#[118]⟩, ⟨#[]⟩, 0, 3, none, [], 0⟩, ⟨4, ⟨#[118]⟩, ⟨#[]⟩, 1, 0, D, [97, 98, 99, 100], 4⟩, ⟨6, ⟨#[118]⟩, ⟨#[115]⟩, 0, 0, none, [], 0⟩,
  ⟨5, ⟨#[118]⟩, ⟨#[]⟩, 2, 1, none, [], 0⟩, ⟨3, ⟨#[115]⟩, ⟨#[]⟩, 0, 3, none, [], 0⟩, ⟨3, ⟨#[118]⟩, ⟨#[]⟩, 0, 3, none, [], 0⟩]
theorem knownV (D : Option Addr) : (runV nameE (avM 2 10 []) ((knownOps D).map OM.ov)).1 = [⟨0, [], []⟩, ⟨0, [], []⟩, ⟨0, [], []⟩, ⟨0, [], []⟩, ⟨0, [0, 0, 97, 98, 99, 100], []⟩, ⟨0, [0, 0, 97, 98, 0, 0], []⟩] := by kernel_rfl
theorem knownU (D : Option Addr) : usedV (runV nameE (avM 2 10 []) ((knownOps D).map OM.ov)).2.vols = 6 := by kernel_rfl
theorem known_ok (w : World) {D : Option Addr} (hD : Rd w D (byts [97, 98, 99, 100])) : ∀ o ∈ knownOps D, o.ok w := by
  intro o ho
  simp only [knownOps, List.mem_cons, List.not_mem_nil, or_false] at ho
  have h0 : ∀ A, Rd w A (byts []) := fun A h => absurd rfl h
  rcases ho with rfl | rfl | rfl | rfl | rfl | rfl
  case inr.inl => exact ⟨hD, show (4 : Nat) ≤ 4 by decide, show (4 : Nat) ≤ 140737488351232 by decide, show (1 : Nat) ≤ 1048576 by decide, show (0 : Nat) ≤ 1048576 by decide, show I64 4 by unfold I64; decide, show I64 1 by unfold I64; decide, show I64 0 by unfold I64; decide⟩
  all_goals exact ⟨h0 _, by decide, by decide, by decide, by decide, by unfold I64; decide, by unfold I64; decide, by unfold I64; decide⟩
theorem six {α β : Type} {f : α → β} {L : List α} {a b c d e g : β} (h : L.map f = [a, b, c, d, e, g]) : ∃ x0 x1 x2 x3 x4 x5, L = [x0, x1, x2, x3, x4, x5] ∧ f x4 = e ∧ f x5 = g := by
  match L, h with
  | [x0, x1, x2, x3, x4, x5], h =>
    simp only [List.map_cons, List.cons.injEq] at h
    exact ⟨x0, x1, x2, x3, x4, x5, rfl, h.2.2.2.2.1, h.2.2.2.2.2.1⟩
theorem known_run {w : World} {A M : Nat} (hA : ArrAt w A M 2 10 []) (hT : Tabs w) {P D : Option Addr} {c : Nat} (hr : Rd w P (ocells (knownOps D))) (hD : Rd w D (byts [97, 98, 99, 100])) (hP : ∀ ad, P = some ad → ¬ ad.block = M) (hDD : ∀ ad, D = some ad → ¬ ad.block = M) :
    Calls Tryd.prog 13 #[.pointer (some ⟨A, 0, none⟩), .slice P 6 c] w fun e w2 => ∃ (ad : Addr) (oc : Nat) (B4 : Option Addr) (c4 : Nat) (B5 : Option Addr) (c5 : Nat) (ms : List VM), e = .returned (.slice (some ad) 6 oc) ∧ w2.cell? ⟨(ad.add 12).block, (ad.add 12).off + 1, none⟩ = some (.slice B4 6 c4) ∧
      w2.cell? ⟨(ad.add 15).block, (ad.add 15).off + 1, none⟩ = some (.slice B5 6 c5) ∧ Rd w2 B4 (byts [0, 0, 97, 98, 99, 100]) ∧ Rd w2 B5 (byts [0, 0, 97, 98, 0, 0]) ∧ ArrAt w2 A M 2 10 ms ∧ usedM ms = 6 ∧ Chg (fun k => k = M) w w2 := by
  have hF : ∀ k, Foot M [] k → k = M := fun k hk => by
    rcases hk with rfl | ⟨m, hm, _⟩
    · rfl
    · cases hm
  have hd : ∀ o ∈ knownOps D, byts o.l ≠ [] → ∀ ad, o.A = some ad → ¬ Foot M [] ad.block := by
    intro o ho _ ad e hf
    simp only [knownOps, List.mem_cons, List.not_mem_nil, or_false] at ho
    rcases ho with rfl | rfl | rfl | rfl | rfl | rfl
    case inr.inl => exact hDD ad e (hF _ hf)
    all_goals cases e
  have hrun := run_any (c := c) hA nameC hT (knownOps D) hr (show (6 : Nat) ≤ 1000000 by decide) (known_ok w hD) (fun _ ad e hf => hP ad e (hF _ hf)) hd
  have kV := knownV D
  have kU := knownU D
  generalize runV nameE (avM 2 10 []) ((knownOps D).map OM.ov) = R at *
  have e6 : (knownOps D).length = 6 := rfl
  rw [e6] at hrun
  refine hrun.mono ?_
  rintro e w2 ⟨L, O, oc, rfl, hL, hown, hLo, ms, ht⟩
  rw [kV] at hL
  obtain ⟨x0, x1, x2, x3, x4, x5, rfl, hx4, hx5⟩ := six hL
  have o4 := (hLo x4 (by simp)).fr.1
  have o5 := (hLo x5 (by simp)).fr.1
  obtain ⟨ad, rfl, hadb, hc⟩ := Rd.of_own hown (by simp [AnM.cells])
  have c41 := hc (12 + 1) (.slice x4.B x4.v.data.length x4.c) rfl
  have c51 := hc (15 + 1) (.slice x5.B x5.v.data.length x5.c) rfl
  rw [add_off2 _ _ _ (by omega)] at c41 c51
  rw [hx4] at o4 c41
  rw [hx5] at o5 c51
  refine ⟨ad, oc, x4.B, x4.c, x5.B, x5.c, ms, rfl, c41, c51, o4, o5, ht.arr, ?_, ht.chg.mono fun k _ hk => hF k hk⟩
  rw [← usedM_vv, ht.vol]
  exact kU
theorem known_any (w : World) (hT : Tabs w) : Calls Tryd.prog 10 #[] w fun e w' => e = .returned (.bool true) ∧ Below w.heap.size w w' := by
  have hnew := new_any 2 10 (by decide) (by decide) (by decide) w
  go_enter Tryd.func10, Tryd.ntmps10
  go_wp2_with fail
  refine hnew.mono ?_
  rintro e w1 ⟨A, M, rfl, hA, hAA, hMM, hb1⟩
  clear hnew
  have hT1 := nameC.keep _ _ hT hb1
  have hcs := conv_same w1 #[.int .u8 97, .int .u8 98, .int .u8 99, .int .u8 100] 4 4 w1.heap.size rfl
  have hbD := (Below.refl w1.heap.size w1).alloc (Nat.le_refl _) (.cells #[.int .u8 97, .int .u8 98, .int .u8 99, .int .u8 100] 5 (4, 5))
  have hrD : Rd (w1.alloc (.cells #[.int .u8 97, .int .u8 98, .int .u8 99, .int .u8 100] 5 (4, 5))) (some ⟨w1.heap.size, 0, none⟩) (byts [97, 98, 99, 100]) := Rd.lit w1 (byts [97, 98, 99, 100]) 5 (4, 5) w1.heap.size rfl
  have hsD : (w1.alloc (.cells #[.int .u8 97, .int .u8 98, .int .u8 99, .int .u8 100] 5 (4, 5))).heap.size = w1.heap.size + 1 := by simp
  have hMl : M < w1.heap.size := hA.mp.elim fun n hn => hn.lt
  go_wp2_with fail
  clear hcs
  have hrO := Rd.many (w1.alloc (.cells #[.int .u8 97, .int .u8 98, .int .u8 99, .int .u8 100] 5 (4, 5))) (ocells (knownOps (some ⟨w1.heap.size, 0, none⟩))) 33
  rw [hsD] at hrO
  have hbO := (Below.refl _ (w1.alloc (.cells #[.int .u8 97, .int .u8 98, .int .u8 99, .int .u8 100] 5 (4, 5)))).alloc (Nat.le_refl _) (.cells (ocells (knownOps (some ⟨w1.heap.size, 0, none⟩))).toArray 33)
  have hb2 := hbD.trans (hbO.mono hbD.size)
  have hrun := known_run (c := 6) (hA.below hb2) (nameC.keep _ _ hT1 hb2) hrO (hrD.below hbO) (fun ad e h => by injection e with e; subst e; simp at h; omega) (fun ad e h => by injection e with e; subst e; simp at h; omega)
  refine hrun.mono ?_
  rintro e w2 ⟨ad, oc, B4, c4, B5, c5, ms, rfl, c41, c51, o4, o5, hA2, hus, hcg⟩
  clear hrun
  have v4 : (convert 31 9 (.slice B4 6 c4)).run Tryd.prog w2 = .ok (.string ⟨#[0, 0, 97, 98, 99, 100]⟩) w2 := conv_bytes w2 B4 c4 _ o4
  have v5 : (convert 31 9 (.slice B5 6 c5)).run Tryd.prog w2 = .ok (.string ⟨#[0, 0, 97, 98, 0, 0]⟩) w2 := conv_bytes w2 B5 c5 _ o5
  have hu := used_any hA2
  rw [hus] at hu
  replace hu : Calls Tryd.prog 17 #[.pointer (some ⟨A, 0, none⟩)] w2 fun e w' => e = .returned (.int .i64 6) ∧ Below w2.heap.size w2 w' := hu
  replace c41 : w2.cell? ⟨ad.block, ad.off + 12 + 1, none⟩ = some (.slice B4 6 c4) := c41
  replace c51 : w2.cell? ⟨ad.block, ad.off + 15 + 1, none⟩ = some (.slice B5 6 c5) := c51
  have hbF : Below w.heap.size w w2 := (hcg.mono (S' := fun k => w.heap.size ≤ k) fun k hk hf => by rw [hf]; exact hMM).toBelow (hb1.trans (hb2.mono hb1.size)) (fun _ h => h) (Nat.le_trans hb1.size hb2.size)
  clear hcg hA2 o4 o5 hus hrO hbO hb2 hbD hrD hsD
  go_wp2_with fail
  refine hu.mono ?_
  rintro e w3 ⟨rfl, hb3⟩
  clear hu c41 c51 v4 v5
  go_wp2_with fail
  go_ret
  exact ⟨rfl, hbF.trans (hb3.mono hbF.size)⟩
end Go.Proofs.YthhpcilinkebeaaDoor
