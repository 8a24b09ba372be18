/- The abstract array: all volumes told. -/
import Derived.Test.YthhpcilinkebeaaDoorIb
import Derived.Test.YthhpcilinkebeaaDoorHn
namespace Go.Proofs.YthhpcilinkebeaaDoor
open Go.RowKit Go.Maps Go.Sort Go.Shelf
set_option maxHeartbeats 4000000
set_option maxRecDepth 100000

theorem Sorts_names (m : Nat) : AnyZ.SortsIn Tryd.prog Tryd.sortedA_ren Fence.wide m :=
  ⟨fun blk off cap ss W hH hblk hsz => callsIn_wide.2 (AnyM.slices_Sort_string Tryd.sortA blk off cap ss W hH hblk hsz),
   fun p cap W => callsIn_wide.2 (AnyM.slices_Sort_string_none Tryd.sortA p cap W)⟩
theorem names_perm {w : World} {M n : Nat} {f : Bts → Option Value} {D : DataW Value} {ks : List Bts} (h1 : w.ownsMap Tryd.prog kStr.ty idR M n D) (h2 : ∀ x, has D (kStr.lit x) = (f x).isSome) (hk : Keys f ks) : ks.Perm (strKeys D) := by
  obtain ⟨es, rfl, hp, _⟩ := h1.entries kStr.keyed
  obtain ⟨es', e', hko⟩ := h1.keysOf
  injection e' with e'
  subst e'
  refine perm_strKeys hp (fun p hp' => ?_) hk.1 fun x => ?_
  · obtain ⟨v, hv⟩ := hko p hp'
    obtain ⟨x, _, _, hx⟩ := kStr.back _ _ hv
    exact ⟨x, hx⟩
  · rw [hk.2]
    have := h2 x
    rw [show kStr.lit x = .string x from rfl] at this
    rw [this]
theorem sort_names {ms : List VM} (hs : SrtM ms) {ss : List Bts} (h : ss.Perm (ms.map VM.name)) : ss.mergeSort (fun x y => decide (x ≤ y)) = ms.map VM.name := by
  have e := mergeSort_of_perm h
  have hsr : (ms.map VM.name).mergeSort leB = ms.map VM.name := List.mergeSort_of_pairwise (List.Pairwise.imp (fun {a b} hab => by simp only [leB, decide_eq_true_eq]; exact List.le_of_lt hab) hs)
  exact e.trans hsr
section
variable {w : World} {A M block quota : Nat} {ms : List VM}
theorem keys_any (w : World) (M : Nat) : Calls Tryd.prog 48 #[.map (some M)] w fun e w' => e = .returned (.func (.func 78) #[] #[.pointer (some ⟨w.heap.size, 0, none⟩)]) ∧ w' = w.alloc (.cells #[.map (some M)] 78) :=
  (callsIn_wide (n := 5)).1 (AnyZ.keys_in Tryd.keysA Fence.wide 5 trivial rfl _ w)
theorem sorted_any (h : ArrAt w A M block quota ms) :
    Calls Tryd.prog 47 #[.func (.func 78) #[] #[.pointer (some ⟨w.heap.size, 0, none⟩)]] (w.alloc (.cells #[.map (some M)] 78))
      fun e w' => (∃ A' c, e = .returned (.slice A' ms.length c) ∧ Rd w' A' (ms.map fun m => .string ⟨m.name.toArray⟩)) ∧ Below w.heap.size w w' ∧ ∀ m ∈ ms, m.name.length ≤ maxLen := by
  obtain ⟨n, D, hown, h2, _⟩ := h.mp
  have hk := keysM h.sorted
  have hperm := names_perm hown h2 hk
  have hle := strKeys_le hown Tryd.underlying9
  have hsz := keys_size hown h2 hk
  have hf := h.few
  rw [List.length_map] at hsz
  have hbl := hown.lt
  have hseq : SeqGives Fence.wide 2 Tryd.prog 78 #[.pointer (some ⟨w.heap.size, 0, none⟩)] encStr (fun ss => ss.Perm (strKeys D)) (Maps.size D) (w.alloc (.cells #[.map (some M)] 78)) :=
    AnyZ.keys_gives (ρ := Tryd.keysA_ren) { Tryd.keysA with } Fence.wide _ trivial rfl (by omega) w.heap.size M n D _ (by simp) (by simp) (by
      obtain ⟨es, clock, hb, Ft, hs, hD⟩ := hown
      exact ⟨es, clock, (Below.heap_alloc _ _ M hbl).trans hb, Ft, hs, hD⟩)
  have cS := AnyZ.sorted_in Tryd.sortedA Fence.wide 5 trivial trivial trivial trivial rfl (by omega) (Sorts_names _) (enters_of Tryd.func77 (by kernel_rfl) rfl) 78 #[.pointer (some ⟨w.heap.size, 0, none⟩)] trivial (enters_of Tryd.func78 (by kernel_rfl) rfl) _ _ (by unfold maxLen; omega) (by omega) _ hseq
  change CallsIn _ _ Tryd.prog 47 _ _ _ at cS
  refine ((callsIn_wide (n := 5)).1 cS).mono ?_
  rintro e w' ⟨v, ss, rfl, hP, hrow, _, hb⟩
  have hP2 : ss.Perm (ms.map VM.name) := hP.trans hperm.symm
  have hlen : ss.length = ms.length := by rw [hP2.length_eq, List.length_map]
  rw [sort_names h.sorted hP2, hlen] at hrow
  obtain ⟨A', c, rfl, _⟩ := own_slice hrow
  refine ⟨⟨A', c, rfl, ?_⟩, ?_, fun m hm => hle _ (hperm.subset (List.mem_map.2 ⟨m, hm, rfl⟩))⟩
  · have := Rd.of_own hrow
    rw [List.map_map] at this
    exact this
  · have hx := (Below.refl w.heap.size w).alloc (Nat.le_refl _) (.cells #[.map (some M)] 78)
    exact hx.trans (hb.mono (by simp))
def volC (x : Bts × Nat × Bool) : List Value := [.string ⟨x.1.toArray⟩, .int .u64 0, .int .i64 (x.2.1 : Nat), .bool x.2.2]
def volM (m : VM) : List Value := [.string ⟨m.name.toArray⟩, .int .u64 0, .int .i64 (m.size : Nat), .bool m.snap]
theorem volM_V (ms : List VM) : ms.flatMap volM = (volsV (volsM ms)).flatMap volC := by
  unfold volsV volsM
  rw [List.map_map, List.flatMap_map]
  rfl
theorem volumes_any (h : ArrAt w A M block quota ms) :
    Calls Tryd.prog 18 #[.pointer (some ⟨A, 0, none⟩)] w fun e w' => (∃ A' c, e = .returned (.slice A' ms.length c) ∧ w'.ownsRow w.heap.size 47 4 (.slice A' ms.length c) ms.length (ms.flatMap volM)) ∧ Below w.heap.size w w' := by
  have c2 := h.blk.cell 2
  have hsd := sorted_any h
  have hks := keys_any w M
  go_enter Tryd.func18, Tryd.ntmps18
  go_wp2_with fail
  refine hks.mono ?_
  rintro e w' ⟨rfl, rfl⟩
  clear hks
  go_wp2_with fail
  refine hsd.mono ?_
  rintro e w1 ⟨⟨NA, nc, rfl, hrn⟩, hb1, hnl⟩
  clear hsd c2
  have h1 := h.below hb1
  have hf := h.few
  go_wp2_with fail
  go_loopg [3, 5, 13] ms.length (fun m' s3 s5 s13 wr => ∃ (k : Nat) (oA : Option Addr) (oc : Nat), m' = ms.length - k ∧ k ≤ ms.length ∧ s13 = .int .i64 (k : Nat) ∧ s3 = .slice oA k oc ∧ wr.ownsRow w1.heap.size 47 4 (.slice oA k oc) k ((ms.take k).flatMap volM) ∧ Below w1.heap.size w1 wr)
  case atStart => exact ⟨0, none, 0, by omega, by omega, rfl, rfl, World.ownsRow_nil _ _ _ _, Below.refl _ _⟩
  case round =>
    obtain ⟨k, oA, oc, rfl, hk, rfl, rfl, hown, hb⟩ := hrel
    by_cases hlt : k < ms.length
    · have r1 : (k : Int) < (ms.length : Int) := by omega
      obtain ⟨ad, rfl, hadb, hcell0⟩ := hrn.at_ (k := k) (by simpa using hlt)
      have hcell : wr.cell? (ad.add k) = some (.string ⟨ms[k].name.toArray⟩) := by
        rw [hb.cell (p := ad.add k) (by rw [add_block]; exact hadb), hcell0]
        simp
      have hm : ms[k] ∈ ms := List.getElem_mem hlt
      have HX := Lib.hid (show (ms.take (k + 1)).flatMap volM = (ms.take k).flatMap volM ++ volM ms[k] by rw [List.take_succ_eq_append_getElem hlt, List.flatMap_append]; simp)
      have hnm := hnl _ hm
      clear hcell0 hnl
      generalize ms[k] = m at *
      go_upto_region 5 with fail
      refine regVo5 h1 hb.drew hm hnm hown (by omega) ?_
      intro w2 _ _ _ _ _ _ _ _ _ _ _ _ _ _ _ _ _ _ _ _ _ _ _ A2 c2 hown2 hb2
      go_wp2_with fail
      go_roundg (ms.length - (k + 1))
      case measure => omega
      case rel => exact ⟨k + 1, A2, c2, rfl, hlt, by go_num, rfl, by rw [HX.out]; exact hown2, hb2⟩
    · have r1 : ¬ (k : Int) < (ms.length : Int) := by omega
      go_wp2_with fail
      go_ret
      have hke : k = ms.length := by omega
      subst hke
      rw [List.take_length] at hown
      exact ⟨⟨oA, oc, rfl, own_mono hown hb1.size⟩, hb1.trans (hb.mono hb1.size)⟩
theorem list_any (h : ArrAt w A M block quota ms) (o : OM) :
    Calls Tryd.prog 38 #[.pointer (some ⟨A, 0, none⟩), o.val] w fun e w' => (∃ A' c, e = .returned (.agg #[.int .i64 0, .slice none 0 0, .slice A' ms.length c]) ∧ w'.ownsRow w.heap.size 47 4 (.slice A' ms.length c) ms.length (ms.flatMap volM)) ∧ Below w.heap.size w w' := by
  have hb0 := (Below.refl w.heap.size w).alloc (Nat.le_refl _) (.cells o.cells.toArray 33)
  have hb1 := hb0.alloc hb0.size (.cells zAns 36)
  have hR := Blk.new (w.alloc (.cells o.cells.toArray 33)) 36 zAns
  have hsz : (w.alloc (.cells o.cells.toArray 33)).heap.size = w.heap.size + 1 := by simp
  rw [hsz] at hR
  clear hsz
  have hsz2 : ((w.alloc (.cells o.cells.toArray 33)).alloc (.cells zAns 36)).heap.size = w.heap.size + 2 := by simp
  have hvo := volumes_any (h.below hb1)
  have hov : o.val = .agg o.cells.toArray := rfl
  rw [hov]
  go_enter Tryd.func38, Tryd.ntmps38
  go_upto_region 1 with fail
  change Code.wp _ _ _ _ ((w.alloc (.cells o.cells.toArray 33)).alloc (.cells zAns 36))
  generalize hW : (w.alloc (.cells o.cells.toArray 33)).alloc (.cells zAns 36) = W at *
  go_wp2_with fail
  refine hvo.mono ?_
  rintro e w2 ⟨⟨A2, c2, rfl, hown⟩, hb2⟩
  clear hvo
  have hR2 : Blk w2 (w.heap.size + 1) 36 #[.int .i64 0, .slice none 0 0, .slice none 0 0] := hR.below' hb2
  have r0 := hR2.cell 0
  have r1 := hR2.cell 1
  have r2 := hR2.cell 2
  have f0 := hR2.frozen 0
  have f1 := hR2.frozen 1
  have f2 := hR2.frozen 2
  have hbF : Below w.heap.size w (setA w2 (w.heap.size + 1) (.int .i64 0) (.slice none 0 0) (.slice A2 ms.length c2)) :=
    (((Chg.of_below (S := fun _ => False) (hb1.trans (hb2.mono hb1.size))).trans' (chg_setA w2 (w.heap.size + 1) (.int .i64 0) (.slice none 0 0) (.slice A2 ms.length c2)) fun j hj e => by omega)).toBelow (Below.refl _ _) (fun _ h => h.elim) (Nat.le_refl _)
  have hfr := own_keepC hown (chg_setA w2 (w.heap.size + 1) (.int .i64 0) (.slice none 0 0) (.slice A2 ms.length c2)) fun g hg e => by have := (hown.lt g hg).1; omega
  go_wp2_with fail
  exact ans_end rfl rfl (Blk.setA hR2 _ _ _) ⟨⟨A2, c2, rfl, own_mono hfr hb1.size⟩, hbF⟩
end
end Go.Proofs.YthhpcilinkebeaaDoor
