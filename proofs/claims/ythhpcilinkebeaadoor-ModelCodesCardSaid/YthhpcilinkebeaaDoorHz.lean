/- The abstract array: blocks read. -/
import Derived.Test.YthhpcilinkebeaaDoorHy
import Derived.Test.YthhpcilinkebeaaDoorHw
namespace Go.Proofs.YthhpcilinkebeaaDoor
open Go.RowKit Go.Maps
set_option maxHeartbeats 4000000
set_option maxRecDepth 100000

theorem readV_succ (block : Nat) (v : VV) (at_ : Int) (k : Nat) : readV block v at_ (k + 1) = readV block v at_ k ++ bytesV block v (at_ + (k : Int)) := by
  unfold readV
  rw [List.range_succ, List.flatMap_append]
  simp
section
variable {w : World} {A M block quota : Nat} {ms : List VM}
theorem bytesV_len {m : VM} (hv : VolAt w block m) (i : Int) : (bytesV block m.vv i).length = block := by
  unfold bytesV VM.vv
  simp only
  cases hg : m.g i with
  | none => simp
  | some s => simpa using (hv.ok i s hg).2.1
theorem readV_len {m : VM} (hv : VolAt w block m) (at_ : Int) (k : Nat) : (readV block m.vv at_ k).length = k * block := by
  induction k with
  | zero => simp [readV]
  | succ k ih => rw [readV_succ, List.length_append, ih, bytesV_len hv, Nat.succ_mul]
theorem read_any (h : ArrAt w A M block quota ms) (o : OM) (hok : o.ok w) {m : VM} {n : Nat} (hm : getM ms (strB o.name) = some m) (hn : o.n = (n : Int)) (h0 : 0 ≤ o.at_) (hs : o.at_ + o.n ≤ m.size) (hl : n * block ≤ 1048576) :
    Calls Tryd.prog 42 #[.pointer (some ⟨A, 0, none⟩), o.val] w fun e w' => (∃ B c, e = .returned (.agg #[.int .i64 0, .slice B (readV block m.vv o.at_ n).length c, .slice none 0 0]) ∧ FreshB w w' B c (readV block m.vv o.at_ n)) ∧ Below w.heap.size w w' := by
  have hb0 := (Below.refl w.heap.size w).alloc (Nat.le_refl _) (.cells o.cells.toArray 33)
  have hb1 := hb0.alloc hb0.size (.cells zAns 36)
  have hO := (Blk.new w 33 o.cells.toArray).alloc (.cells zAns 36)
  have hR := Blk.new (w.alloc (.cells o.cells.toArray 33)) 36 zAns
  have hv := h.vol m (getM_mem hm).1
  have h1 := h.below hb1
  have hsz : (w.alloc (.cells o.cells.toArray 33)).heap.size = w.heap.size + 1 := by simp
  rw [hsz] at hR
  have hsz2 : ((w.alloc (.cells o.cells.toArray 33)).alloc (.cells zAns 36)).heap.size = w.heap.size + 2 := by simp
  have hf := hv.few
  have HRL := fun k => Lib.hid (readV_len hv o.at_ k)
  have hov : o.val = .agg o.cells.toArray := rfl
  rw [hov]
  go_enter Tryd.func42, Tryd.ntmps42
  go_upto_region 2 with fail
  generalize hW : (w.alloc (.cells o.cells.toArray 33)).alloc (.cells zAns 36) = W at *
  have e4 : W.cell? ⟨w.heap.size, 4, none⟩ = some (.int .i64 o.n) := hO.cell 4
  rw [hn] at e4
  change Code.wp _ _ _ _ ((w.alloc (.cells o.cells.toArray 33)).alloc (.cells zAns 36))
  rw [hW]
  go_wp2_with fail
  go_loopg [5, 6, 7, 8, 11] n (fun m' s5 s6 s7 s8 s11 wr => ∃ (k : Nat) (B : Option Addr) (c : Nat), m' = n - k ∧ k ≤ n ∧ s11 = .int .i64 (k : Nat) ∧ s5 = .slice B (readV block m.vv o.at_ k).length c ∧ wr.ownsRow (w.heap.size + 2) 5 1 (.slice B (readV block m.vv o.at_ k).length c) (readV block m.vv o.at_ k).length (byts (readV block m.vv o.at_ k)) ∧ Below W.heap.size W wr)
  case atStart => exact ⟨0, none, 0, by omega, by omega, rfl, rfl, World.ownsRow_nil _ _ _ _, Below.refl _ _⟩
  case round =>
    obtain ⟨k, B, c, rfl, hk, rfl, rfl, hown, hb⟩ := hrel
    have hAr := h1.below hb
    have hOr := hO.below' hb
    have hszr : w.heap.size + 2 ≤ wr.heap.size := by have := hb.size; omega
    have HRK := HRL k
    by_cases hlt : k < n
    · have q1 : (k : Int) < (n : Int) := by omega
      obtain ⟨ix, hix⟩ : ∃ ix, o.at_ + (k : Int) = ix := ⟨_, rfl⟩
      have kw : IntKind.i64.wrap (o.at_ + (k : Int)) = ix := by rw [IntWalk.i64_in _ (by omega)]; exact hix
      have d1 : wr.cell? ⟨w.heap.size, 1, none⟩ = some (.string o.name) := hOr.cell 1
      have d3 : wr.cell? ⟨w.heap.size, 3, none⟩ = some (.int .i64 o.at_) := hOr.cell 3
      have hbk := block_any hAr o.name hok.name ix ⟨by omega, by omega⟩
      have hbv : blockV block ((getM ms (strB o.name)).map VM.vv) ix = some (bytesV block m.vv ix) := by
        rw [hm]
        simp only [Option.map_some, blockV]
        rw [if_pos (by simp only [VM.vv]; omega)]
      rw [hbv] at hbk
      have hsu := readV_succ block m.vv o.at_ k
      rw [hix] at hsu
      have HBL := Lib.hid (bytesV_len hv ix)
      have hmul : (k + 1) * block ≤ 1048576 := Nat.le_trans (Nat.mul_le_mul_right _ hlt) hl
      rw [Nat.succ_mul] at hmul
      have HSU := Lib.hid hsu
      clear hsu hix hbv e4 hO hR h1 HRL
      generalize bytesV block m.vv ix = l at *
      generalize readV block m.vv o.at_ k = acc at *
      go_wp2_with fail
      refine hbk.mono ?_
      rintro e w3 ⟨hb3, A3, c3, rfl, hf3⟩
      clear hbk
      have hown3 := own_below hown hb3
      have hb03 := hb.trans (hb3.mono hb.size)
      go_wp2_with (at_builtin; refine wpList_app _ rfl _ _ rfl slB (w.heap.size + 2) (.slice B acc.length c) acc.length (byts acc) rfl hown3 A3 l.length c3 (byts l) rfl (by simp [byts]) hf3.1 (byts_one _) (by have := HRK.out; have := HBL.out; unfold maxLen; omega) (by have := HRK.out; have := HBL.out; omega) (Nat.le_trans hszr hb3.size) ?_; intro A7 c7 w7 ho7 hg7)
      have hb7 := hb03.trans ((hg7.under hown3 (Nat.le_refl _) (Nat.le_trans hszr hb3.size)).mono (Nat.le_of_eq hsz2))
      go_roundg (n - (k + 1))
      case measure => omega
      case rel =>
        refine ⟨k + 1, A7, c7, rfl, hlt, by go_num, ?_, ?_, hb7⟩
        · rw [HSU.out, List.length_append]
        · rw [HSU.out, List.length_append, byts_append]
          exact ho7
    · have q1 : ¬ (k : Int) < (n : Int) := by omega
      have hkn : k = n := by omega
      subst hkn
      have hR2 : Blk wr (w.heap.size + 1) 36 #[.int .i64 0, .slice none 0 0, .slice none 0 0] := hR.below' hb
      have r0 := hR2.cell 0
      have r1 := hR2.cell 1
      have r2 := hR2.cell 2
      have f0 := hR2.frozen 0
      have f1 := hR2.frozen 1
      have f2 := hR2.frozen 2
      have hbF : Below w.heap.size w (setA wr (w.heap.size + 1) (.int .i64 0) (.slice B (readV block m.vv o.at_ k).length c) (.slice none 0 0)) :=
        (((Chg.of_below (S := fun _ => False) (hb1.trans (hb.mono hb1.size))).trans' (chg_setA wr (w.heap.size + 1) (.int .i64 0) (.slice B (readV block m.vv o.at_ k).length c) (.slice none 0 0)) fun j hj e => by omega)).toBelow (Below.refl _ _) (fun _ h => h.elim) (Nat.le_refl _)
      have hfr : FreshB w (setA wr (w.heap.size + 1) (.int .i64 0) (.slice B (readV block m.vv o.at_ k).length c) (.slice none 0 0)) B c (readV block m.vv o.at_ k) :=
        FreshB.of_own (base := w.heap.size + 2) (own_keepC hown (chg_setA wr (w.heap.size + 1) _ _ _) fun g hg e => by have := (hown.lt g hg).1; omega) (by omega)
      clear HRL HRK
      go_wp2_with fail
      exact ans_end rfl rfl (Blk.setA hR2 _ _ _) ⟨⟨B, c, rfl, hfr⟩, hbF⟩
end
end Go.Proofs.YthhpcilinkebeaaDoor
