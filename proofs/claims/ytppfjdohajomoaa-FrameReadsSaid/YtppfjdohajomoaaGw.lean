/- The law FrameReads: its walk (under way). -/
import Derived.Test.YtppfjdohajomoaaGv
import Derived.Test.YtppfjdohajomoaaFq
import Derived.Test.YtppfjdohajomoaaFu
import Derived.Deep.DeepCutAuto
import Derived.Deep.RegionWith
namespace Go.Proofs.Ytppfjdohajomoaa
open Go.RowKit
set_option maxHeartbeats 2000000
set_option maxRecDepth 100000

theorem frameReads_any (A : Option Addr) (c : Nat) (l : List UInt8) (most : Int) (w : World) (hr : Rd w A (byts l)) (hlc : l.length ≤ c) (hm1 : most ≤ 9223372036854775807) (hm0 : -9223372036854775808 ≤ most) :
    Calls Try.prog 11 #[.slice A l.length c, .int .i64 most] w fun e w' => e = .returned (.bool true) ∧ Below w.heap.size w w' := by
  by_cases hlong : 65536 < l.length
  · have g1 : (65536 : Int) < (l.length : Int) := by omega
    clear hlong
    go_enter Try.func11, Try.ntmps11
    go_wp2_with (go_at_call 22; refine (known_any _).mono ?_; rintro e w1 ⟨rfl, hb1⟩)
    go_ret
    exact ⟨rfl, hb1⟩
  · have g1 : ¬ (65536 : Int) < (l.length : Int) := by omega
    have hl : l.length ≤ 140737488351232 := by omega
    clear hlong
    have hN := fun (W : World) (h : Below w.heap.size w W) => readNumber_any A c l W (hr.below h) hl
    have hrN := fun (W : World) (h : Below w.heap.size w W) => refReadNumber_any A c l W (hr.below h) hl
    have hB := fun (W : World) (h : Below w.heap.size w W) => readBytes_any A c l most W (hr.below h) hl hlc hm1 hm0
    have hrB := fun (W : World) (h : Below w.heap.size w W) => refReadBytes_any A c l most W (hr.below h) hl hlc hm1 hm0
    have hC := fun (W : World) (h : Below w.heap.size w W) => readRecord_any A c l W (hr.below h) hl hlc
    have hrC := fun (W : World) (h : Below w.heap.size w W) => refReadRecord_any A c l W (hr.below h) hl hlc
    have hP := fun (W : World) (h : Below w.heap.size w W) => readPage_any A c l W (hr.below h) hlc
    have hrP := fun (W : World) (h : Below w.heap.size w W) => refReadPage_any A c l W (hr.below h) hlc
    have hsm : ∀ (X : List UInt8) (W : World) (A' B' : Option Addr) (c' d' : Nat), Rd W A' (byts X) → Rd W B' (byts X) → Calls Try.prog 27 #[.slice A' X.length c', .slice B' X.length d'] W fun e w' => e = .returned (.bool true) ∧ W = w' := fun X W A' B' c' d' h1 h2 => by
      have := same_any A' B' c' d' X X W h1 h2
      rwa [show (X == X) = true from by simp] at this
    generalize rdNum l = RN at *
    generalize rdBytes most l = RB at *
    generalize rdRec l = RC at *
    generalize rdPage (roomN l.length) l = RP at *
    obtain ⟨n1, n2, n3⟩ := RN
    obtain ⟨X1, n4, n5⟩ := RB
    obtain ⟨n6, X2, n7, n8⟩ := RC
    obtain ⟨⟨h1, h2, h3, h4⟩, X3, n9⟩ := RP
    unfold RecPost at hC hrC
    unfold RdPagePost at hP hrP
    simp only at hN hrN hB hrB hC hrC hP hrP
    have hm1' := hsm X1
    have hm2' := hsm X2
    have hm3' := hsm X3
    clear hsm
    go_enter Try.func11, Try.ntmps11
    go_wp2_with (first
      | (go_at_call 22; refine (known_any _).mono ?_; rintro e w1 ⟨rfl, hb1⟩)
      | (go_at_call 50; refine (hN _ hb1).mono ?_; rintro e w' ⟨rfl, rfl⟩)
      | (go_at_call 51; refine (hrN _ hb1).mono ?_; rintro e w' ⟨rfl, rfl⟩)
      | (go_at_call 52; refine (hB _ hb1).mono ?_; rintro e w2 ⟨A2, c2, o2, rfl, rfl, ho2, hb2⟩; have hbw2 := hb1.trans (hb2.mono hb1.size))
      | (go_at_call 53; refine (hrB _ hbw2).mono ?_; rintro e w' ⟨A3, c3, o3, rfl, rfl, hr3, rfl⟩)
      | (go_at_call 54; refine (hC _ hbw2).mono ?_; rintro e w4 ⟨A4, c4, o4, rfl, rfl, ho4, hb4⟩; have hbw4 := hbw2.trans (hb4.mono hbw2.size))
      | (go_at_call 55; refine (hrC _ hbw4).mono ?_; rintro e w5 ⟨A5, c5, o5, rfl, rfl, ho5, hb5⟩; have hbw5 := hbw4.trans (hb5.mono hbw4.size))
      | (go_at_call 27; have _h := hb5; refine (hm2' _ _ _ _ _ ((Rd.of_own ho4).below hb5) (Rd.of_own ho5)).mono ?_; rintro e w' ⟨rfl, rfl⟩)
      | (go_at_call 27; refine (hm1' _ _ _ _ _ (Rd.of_own ho2) hr3).mono ?_; rintro e w' ⟨rfl, rfl⟩)
      | (go_at_call 56; refine (hP _ hbw5).mono ?_; rintro e w6 ⟨A6, c6, o6, rfl, rfl, ho6, hb6⟩; have hbw6 := hbw5.trans (hb6.mono hbw5.size); have hb6a := hb6.alloc hb6.size (.cells #[.int .u64 h1, .int .i64 h2, .int .i64 h3, .int .i64 h4] 46))
      | (go_at_call 57; go_loud (refine (hrP _ ?_).mono ?_; (first | exact hbw6.alloc hbw6.size _ | exact (hbw6.alloc hbw6.size _).setCell hbw6.size _); rintro e w7 ⟨A7, c7, o7, rfl, rfl, ho7, hb7⟩)))
    have B6 := ((Blk.new w6 46 #[.int .u64 (h1 : Nat), .int .i64 (h2 : Nat), .int .i64 (h3 : Nat), .int .i64 (h4 : Nat)]).below' hb7).alloc (.cells #[.int .u64 (h1 : Nat), .int .i64 (h2 : Nat), .int .i64 (h3 : Nat), .int .i64 (h4 : Nat)] 64)
    have B7 := Blk.new w7 64 #[.int .u64 (h1 : Nat), .int .i64 (h2 : Nat), .int .i64 (h3 : Nat), .int .i64 (h4 : Nat)]
    have r6 := ((((Rd.of_own ho6).alloc (.cells #[.int .u64 (h1 : Nat), .int .i64 (h2 : Nat), .int .i64 (h3 : Nat), .int .i64 (h4 : Nat)] 46)).below hb7).alloc (.cells #[.int .u64 (h1 : Nat), .int .i64 (h2 : Nat), .int .i64 (h3 : Nat), .int .i64 (h4 : Nat)] 64))
    have r7 := (Rd.of_own ho7).alloc (.cells #[.int .u64 (h1 : Nat), .int .i64 (h2 : Nat), .int .i64 (h3 : Nat), .int .i64 (h4 : Nat)] 64)
    have hbV : Below w.heap.size w (w7.alloc (.cells #[.int .u64 (h1 : Nat), .int .i64 (h2 : Nat), .int .i64 (h3 : Nat), .int .i64 (h4 : Nat)] 64)) := ((hbw6.alloc hbw6.size (.cells #[.int .u64 (h1 : Nat), .int .i64 (h2 : Nat), .int .i64 (h3 : Nat), .int .i64 (h4 : Nat)] 46)).trans (hb7.mono (by have := hbw6.size; simp; omega))).alloc (by have := hbw6.size; have := hb7.size; simp at this; omega) _
    generalize w7.alloc (.cells #[.int .u64 (h1 : Nat), .int .i64 (h2 : Nat), .int .i64 (h3 : Nat), .int .i64 (h4 : Nat)] 64) = V at *
    generalize w6.heap.size = g6 at *
    generalize w7.heap.size = g7 at *
    have x0 : V.cell? ⟨g6, 0, none⟩ = some (.int .u64 (h1 : Nat)) := B6.cell 0
    have x1 : V.cell? ⟨g6, 1, none⟩ = some (.int .i64 (h2 : Nat)) := B6.cell 1
    have x2 : V.cell? ⟨g6, 2, none⟩ = some (.int .i64 (h3 : Nat)) := B6.cell 2
    have x3 : V.cell? ⟨g6, 3, none⟩ = some (.int .i64 (h4 : Nat)) := B6.cell 3
    have y0 : V.cell? ⟨g7, 0, none⟩ = some (.int .u64 (h1 : Nat)) := B7.cell 0
    have y1 : V.cell? ⟨g7, 1, none⟩ = some (.int .i64 (h2 : Nat)) := B7.cell 1
    have y2 : V.cell? ⟨g7, 2, none⟩ = some (.int .i64 (h3 : Nat)) := B7.cell 2
    have y3 : V.cell? ⟨g7, 3, none⟩ = some (.int .i64 (h4 : Nat)) := B7.cell 3
    go_cut [4] (fun s4 wx => s4 = .bool true ∧ Below w.heap.size w wx)
    case first =>
      go_region_law (first
        | (go_simp; go_at_call 58; (refine (head_any _ _ _ _ V.drew).mono ?_); rintro e w8 ⟨rfl, hb8⟩; have r68 := r6.drew.below hb8; have r78 := r7.drew.below hb8; have B68 := B6.drew.below' hb8; have z0 : w8.cell? ⟨g6, 0, none⟩ = some (.int .u64 (h1 : Nat)) := B68.cell 0; have z1 : w8.cell? ⟨g6, 1, none⟩ = some (.int .i64 (h2 : Nat)) := B68.cell 1; have z2 : w8.cell? ⟨g6, 2, none⟩ = some (.int .i64 (h3 : Nat)) := B68.cell 2; have z3 : w8.cell? ⟨g6, 3, none⟩ = some (.int .i64 (h4 : Nat)) := B68.cell 3)
        | (go_simp; go_at_call 27; (refine (hm3' _ _ _ _ _ r68 r78).mono ?_); rintro e w' ⟨rfl, rfl⟩))
      all_goals ((simp only [List.getElem_toArray, List.getElem_cons_succ, List.getElem_cons_zero]); go_simp; go_wp2_with fail; go_meet; exact ⟨rfl, hbV.drew.trans (hb8.mono hbV.size)⟩)
    case rest =>
      obtain ⟨rfl, hbc⟩ := hcut
      go_wp2
      go_ret
      exact ⟨rfl, hbc⟩
end Go.Proofs.Ytppfjdohajomoaa
