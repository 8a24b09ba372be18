/- Pages are written. -/
import Derived.Test.YtppfjdohajomoaaFj
import Derived.Test.YtppfjdohajomoaaPb
import Derived.Test.YtppfjdohajomoaaWc
import Derived.Deep.RegionHeld3
namespace Go.Proofs.Ytppfjdohajomoaa
open Go.RowKit
set_option maxHeartbeats 2000000
set_option maxRecDepth 100000

theorem page_good (A : Option Addr) (c s seg row sh : Nat) (sz : Int) (x : List UInt8) (w : World) (hr : Rd w A (byts x)) (hs0 : 32 ≤ s) (hs1 : s ≤ 65536) (hx : 19 + x.length ≤ s) (_hxc : x.length ≤ c) (hrow : row ≤ 1073741824) (hsh : sh ≤ 255) (hseg : seg < 18446744073709551616) :
    Calls Try.prog 26 #[.int .i64 s, .agg #[.int .u64 seg, .int .i64 row, .int .i64 sh, .int .i64 sz], .slice A x.length c] w fun e w' => ∃ A' c', e = .returned (.tuple #[.slice A' s c', .int .i64 0]) ∧
      w'.ownsRow w.heap.size 5 1 (.slice A' s c') s (byts (pageB seg row sh x s)) ∧ Below w.heap.size w w' := by
  have hroom : ∀ W, Calls Try.prog 35 #[.int .i64 s] W fun e w' => e = .returned (.int .i64 ((s : Int) - 19)) ∧ W = w' := fun W => by
    have := room_any s W
    rw [show roomN (s : Int) = (s : Int) - 19 from by unfold roomN; rw [if_neg (by omega), if_neg (by omega)]] at this
    exact this
  have hmk : ∀ W, (Instr.makeSlice 38 (.int .i64 4) (.int .i64 (s : Int))).run Try.prog W = .ok (.slice (some ⟨W.heap.size, 0, none⟩) 4 s) (W.alloc (.cells (List.replicate s (Value.int .u8 0)).toArray 5)) := fun W => run_mk (P := Try.prog) slB rfl .i64 .i64 4 s (by omega) (by omega) (by omega) W
  have hom := own_mk (w := w.alloc (.cells #[.int .u64 seg, .int .i64 row, .int .i64 sh, .int .i64 sz] 46)) 5 (.int .u8 0) 4 s (by omega) (by unfold maxLen; omega)
  have hbx : Blk (w.alloc (.cells #[.int .u64 seg, .int .i64 row, .int .i64 sh, .int .i64 sz] 46)) w.heap.size 46 #[.int .u64 seg, .int .i64 row, .int .i64 sh, .int .i64 sz] := Blk.new _ _ _
  have hbx2 := hbx.alloc (.cells (List.replicate s (.int .u8 0)).toArray 5)
  generalize hZ : List.replicate s (Value.int .u8 0) = Z at *
  generalize hZ4 : List.replicate 4 (Value.int .u8 0) = Z4 at *
  simp only [World.size_alloc] at hom
  have HZ := Lib.hid hZ
  have HZ4 := Lib.hid hZ4
  clear hZ hZ4 hbx
  have f0 : ((s : Int) - 19 == 0) = false := by simp; omega
  have f1 : ¬ ((s : Int) - 19 < (x.length : Int)) := by omega
  have f2 : IntKind.u64.wrap (row : Int) = (row : Int) := by rw [IntKind.wrap_u64]; omega
  have f3 : IntKind.u64.wrap (sh : Int) = (sh : Int) := by rw [IntKind.wrap_u64]; omega
  have f4 : IntKind.u64.wrap (x.length : Int) = (x.length : Int) := by rw [IntKind.wrap_u64]; omega
  go_enter Try.func26, Try.ntmps26
  go_wp2_with (go_at_call 35; refine (hroom _).mono ?_; rintro e w1 ⟨rfl, rfl⟩)
  obtain ⟨W, hW⟩ : ∃ W, W = w.alloc (.cells #[.int .u64 seg, .int .i64 row, .int .i64 sh, .int .i64 sz] 46) := ⟨_, rfl⟩
  have hbW : Below w.heap.size w W := by rw [hW]; exact (Below.refl _ _).alloc (Nat.le_refl _) _
  have hszW : W.heap.size = w.heap.size + 1 := by rw [hW]; simp
  have hB0 : Blk W w.heap.size 46 #[.int .u64 seg, .int .i64 row, .int .i64 sh, .int .i64 sz] := by rw [hW]; exact Blk.new _ _ _
  have hO0 : (W.alloc (.cells Z.toArray 5)).ownsRow W.heap.size 5 1 (.slice (some ⟨W.heap.size, 0, none⟩) 4 s) 4 Z4 := by rw [hW]; simpa using hom
  have hB1 := hB0.alloc (.cells Z.toArray 5)
  have hlt : w.heap.size < W.heap.size := by omega
  rw [← hW]
  generalize hg0 : w.heap.size = g0 at *
  have HW := Lib.hid hW
  have HSZ := Lib.hid hszW
  have HG0 := Lib.hid hg0
  clear hW hszW hg0 hom hbx2
  have c0 : W.cell? ⟨g0, 0, none⟩ = some (.int .u64 seg) := hB0.cell 0
  have c1 : W.cell? ⟨g0, 1, none⟩ = some (.int .i64 row) := hB0.cell 1
  have c2 : W.cell? ⟨g0, 2, none⟩ = some (.int .i64 sh) := hB0.cell 2
  go_region_held3 (fun w' => w'.cell? ⟨g0, 0, none⟩ = some (.int .u64 seg) ∧ w'.cell? ⟨g0, 1, none⟩ = some (.int .i64 row) ∧ w'.cell? ⟨g0, 2, none⟩ = some (.int .i64 sh))
    (first
      | exact ⟨c0, c1, c2⟩
      | exact ⟨hB1.cell 0, hB1.cell 1, hB1.cell 2⟩
      | exact ⟨hk1.cell 0, hk1.cell 1, hk1.cell 2⟩
      | exact ⟨hk2.cell 0, hk2.cell 1, hk2.cell 2⟩
      | exact ⟨hk3.cell 0, hk3.cell 1, hk3.cell 2⟩
      | exact ⟨hk4.cell 0, hk4.cell 1, hk4.cell 2⟩)
    ((first
      | (go_at_call_of 70 (Value.int IntKind.u64 (seg : Int)); refine (low_any _ _ seg 8 W.heap.size Z4 4 _ ?_ (by simp) (by omega) (by omega)).mono ?_; · exact hO0
         rintro e w1 ⟨A1, d1, rfl, ho1, hg1⟩
         have hb1 := hg1.under hO0 (Nat.le_refl _) (by simp)
         have hk1 := hB1.drew.below hb1 hlt)
      | (go_at_call_of 70 (Value.int IntKind.u64 (row : Int)); refine (low_any _ _ row 4 W.heap.size (Z4 ++ byts (lowB seg 8)) _ _ ?_ ?_ (by omega) (by omega)).mono ?_; · exact ho1
         · exact Nat.le_trans (by simp) hb1.size
         rintro e w2 ⟨A2, d2, rfl, ho2, hg2⟩
         have hb2 := hb1.trans (hg2.under ho1 (Nat.le_refl _) (Nat.le_trans (by simp) hb1.size))
         have hk2 := hB1.drew.below hb2 hlt)
      | (go_at_call_of 70 (Value.int IntKind.u64 (sh : Int)); refine (low_any _ _ sh 1 W.heap.size (Z4 ++ byts (lowB seg 8) ++ byts (lowB row 4)) _ _ ?_ ?_ (by omega) (by omega)).mono ?_; · exact ho2
         · exact Nat.le_trans (by simp) hb2.size
         rintro e w3 ⟨A3, d3, rfl, ho3, hg3⟩
         have hb3 := hb2.trans (hg3.under ho2 (Nat.le_refl _) (Nat.le_trans (by simp) hb2.size))
         have hk3 := hB1.drew.below hb3 hlt)
      | (go_at_call_of 70 (Value.int IntKind.u64 (x.length : Int)); refine (low_any _ _ x.length 2 W.heap.size (Z4 ++ byts (lowB seg 8) ++ byts (lowB row 4) ++ byts (lowB sh 1)) _ _ ?_ ?_ (by omega) (by omega)).mono ?_; · exact ho3
         · exact Nat.le_trans (by simp) hb3.size
         rintro e w4 ⟨A4, d4, rfl, ho4, hg4⟩
         have hb4 := hb3.trans (hg4.under ho3 (Nat.le_refl _) (Nat.le_trans (by simp) hb3.size))
         have hk4 := hB1.drew.below hb4 hlt)))
  have hfin4 : Below g0 w4 w4 := Below.refl _ _
  have hb04 : Below g0 w w4 := hbW.trans (((Below.refl g0 W).alloc (by omega) _).drew.trans (hb4.mono (by omega)))
  have hrx4 : Rd w4 A (byts x) := hr.below (by rw [HG0.out]; exact hb04)
  have hsz4 : W.heap.size ≤ w4.heap.size := Nat.le_trans (by simp) hb4.size
  have hX4 : Z4 ++ byts (lowB seg 8) ++ byts (lowB row 4) ++ byts (lowB sh 1) ++ byts (lowB x.length 2) = byts (List.replicate 4 0 ++ (lowB seg 8 ++ lowB row 4 ++ lowB sh 1 ++ lowB x.length 2)) := by
    rw [← HZ4.out]
    simp [byts, byt]
  have ho4' := ho4
  rw [hX4] at ho4'
  have hT : pageT seg row sh x s = (lowB seg 8 ++ lowB row 4 ++ lowB sh 1 ++ lowB x.length 2) ++ x ++ List.replicate (s - 19 - x.length) 0 := rfl
  have hTl := pageT_length seg row sh x s hx
  have hPB : pageB seg row sh x s = lowB (crcB (pageT seg row sh x s)) 4 ++ pageT seg row sh x s := rfl
  have hCl := crcB_lt (pageT seg row sh x s)
  have hHl : (lowB seg 8 ++ lowB row 4 ++ lowB sh 1 ++ lowB x.length 2).length = 15 := by simp [lowB_length]
  generalize lowB seg 8 ++ lowB row 4 ++ lowB sh 1 ++ lowB x.length 2 = H at *
  generalize pageT seg row sh x s = T at *
  generalize hPBe : pageB seg row sh x s = PB at *
  have HPBe := Lib.hid hPBe
  clear hPBe
  clear ho4 hX4
  have HT := Lib.hid hT
  have HTl := Lib.hid hTl
  have HPB := Lib.hid hPB
  have HHl := Lib.hid hHl
  clear hT hTl hPB hHl f0 f1 f2 f3 f4 hmk
  have ho19 : w4.ownsRow W.heap.size 5 1 (.slice A4 19 d4) 19 (byts (List.replicate 4 0 ++ H)) := ho4'
  clear ho4'
  obtain ⟨kz, hkz⟩ : ∃ kz, 19 + x.length + kz = s := ⟨s - 19 - x.length, by omega⟩
  have hkk : s - 19 - x.length = kz := by omega
  rw [hkk] at HT
  clear hkk
  go_wp2_with (first
    | (at_builtin; refine wpList_app _ rfl (.tmp 56) (.tmp 57) rfl slB W.heap.size (.slice A4 19 d4) 19 _ rfl ho19 A x.length c (byts x) rfl (by rw [byts_length, Nat.mul_one]) hrx4 (byts_one _) (by unfold maxLen; omega) (by omega) hsz4 ?_
       intro A5 d5 w5 ho5 hg5
       have hb5 := hg5.under ho19 (Nat.le_refl _) hsz4)
    | (at_builtin; refine wpList_appz _ rfl (.tmp 59) (.tmp 63) rfl slB rfl rfl .i64 .i64 Try.underlying3 W.heap.size (.slice A5 (19 + x.length) d5) (19 + x.length) _ rfl ho5 kz ?hk (by unfold maxLen; omega) (by omega) (Nat.le_trans hsz4 hb5.size) ?_
       case hk => show Value.int IntKind.i64 _ = Value.int IntKind.i64 _; congr 1; omega
       intro A6 d6 w6 ho6 hg6
       have hb6 := hb5.trans (hg6.under ho5 (Nat.le_refl _) (Nat.le_trans hsz4 hb5.size))
       obtain ⟨hsd6, hd6, hbl6⟩ := own_cap ho6
       obtain ⟨A7, hA7⟩ : ∃ A7, (A6.map fun a => (⟨a.block, a.off + 4, none⟩ : Addr)) = A7 := ⟨_, rfl⟩))
  have ho6' : w6.ownsRow W.heap.size 5 1 (.slice A6 s d6) s (byts (List.replicate 4 0 ++ T)) := by
    rw [hkz] at ho6
    have e : byts (List.replicate 4 0 ++ H) ++ byts x ++ List.replicate kz (.int .u8 0) = byts (List.replicate 4 0 ++ T) := by
      rw [HT.out]
      simp [byts, byt]
    rw [← e]
    exact ho6
  rw [hkz] at hsd6
  have hr6 := (Rd.of_own ho6').drop 4 d6 (by rw [byts_length]; simp [HTl.out]; omega)
  rw [if_neg (by omega)] at hr6
  have e4 : (byts (List.replicate 4 0 ++ T)).drop 4 = byts T := by simp [byts]
  rw [e4] at hr6
  have eA : (A6.map fun a => a.add 4) = (A6.map fun a => (⟨a.block, a.off + 4, none⟩ : Addr)) := by congr 1
  rw [eA] at hr6
  clear e4 eA ho6
  rw [hA7] at hr6
  have hsum := sum_any (some ⟨w6.heap.size, 0, none⟩) 1 [⟨A7, d6 - 4, T⟩] (w6.alloc (.cells #[.slice A7 (s - 4) (d6 - 4)] 38))
    (by have := Rd.one w6 (.slice A7 (s - 4) (d6 - 4)) 38; simpa [Sb.val, HTl.out] using this) (by simp)
    (by
      intro q hq
      simp only [List.mem_cons, List.not_mem_nil, or_false] at hq
      subst hq
      exact ⟨hr6.alloc _, by show T.length ≤ d6 - 4; rw [HTl.out]; omega, by show T.length ≤ _; rw [HTl.out]; omega⟩)
  rw [show flat [⟨A7, d6 - 4, T⟩] = T from by simp [flat]] at hsum
  generalize crcB T = C at *
  go_wp2_with (first
    | (go_at_call 24; refine hsum.mono ?_; rintro e w7 ⟨rfl, hb7⟩)
    | (go_at_call 70; refine (low_any none 0 C 4 w7.heap.size [] 0 w7 (World.ownsRow_nil _ _ _ _) (Nat.le_refl _) (by omega) (by omega)).mono ?_; rintro e w8 ⟨A8, d8, rfl, ho8, hg8⟩
       have hb8 := hg8.fresh
       have ho68 : w8.ownsRow W.heap.size 5 1 (.slice A6 s d6) s (byts (List.replicate 4 0 ++ T)) := own_below (own_below (ho6'.alloc _) hb7) hb8
       have hr8 := Rd.of_own ho8)
    | ((with_reducible show wpList _ _ _ (Oper.mk _ (Op.call (Call.mk (Callee.builtin Builtin.copy) _ _)) _ _ _ _ :: _) _ _); refine wpList_copyv rfl (.tmp 65) (.tmp 71) rfl slB W.heap.size A6 s d6 _ rfl ho68 A8 4 d8 _ rfl ?l4 hr8 ?o4 (by omega) (by omega) ?_
       case l4 => simp [byts, lowB_length]
       case o4 => exact byts_one _
       intro w9 ho9 hg9))
  go_ret2
  have hb7' : Below W.heap.size w6 w7 := ((Below.refl _ _).alloc (Nat.le_trans hsz4 hb6.size) _).trans (hb7.mono (Nat.le_trans (Nat.le_trans hsz4 hb6.size) (by simp)))
  have hs7 : W.heap.size ≤ w7.heap.size := Nat.le_trans (Nat.le_trans hsz4 hb6.size) hb7'.size
  have hb8' : Below W.heap.size w7 w8 := hb8.mono hs7
  have hb9 : Below W.heap.size w8 w9 := hg9.under ho68 (Nat.le_refl _) (Nat.le_trans hs7 hb8.size)
  have hall : Below W.heap.size w4 w9 := ((hb6.trans hb7').trans hb8').trans hb9
  refine ⟨A6, d6, rfl, ?_, by rw [HG0.out]; exact hb04.trans (hall.mono (by omega))⟩
  have e9 : byts (lowB C 4) ++ (byts (List.replicate 4 0 ++ T)).drop 4 = byts PB := by
    rw [HPB.out]
    simp [byts]
  rw [HPBe.out, HG0.out, ← e9]
  exact own_mono ho9 (by omega)
end Go.Proofs.Ytppfjdohajomoaa
