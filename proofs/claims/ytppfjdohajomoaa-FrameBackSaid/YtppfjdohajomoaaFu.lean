/- The law's known answers; its first two laws' walks. -/
import Derived.Test.YtppfjdohajomoaaFs
import Derived.Test.YtppfjdohajomoaaFh
import Derived.Test.YtppfjdohajomoaaFf
import Derived.Lib.SlBytesConst
namespace Go.Proofs.Ytppfjdohajomoaa
open Go.RowKit
set_option maxHeartbeats 2000000
set_option maxRecDepth 100000

theorem known_sum : crcB [49, 50, 51, 52, 53, 54, 55, 56, 57] = 3808858755 := by decide +kernel
theorem known_page : pageR 32 0 0 1 [97] = (pageB 1 0 0 [97] 32, 0) := by decide +kernel
theorem known_num : rdNum [172, 2] = (300, 2, 0) := by decide +kernel
theorem known_cells : pageB 1 0 0 [97] 32 = [179, 198, 242, 8, 1, 0, 0, 0, 0, 0, 0, 0, 0, 0, 0, 0, 0, 1, 0, 97, 0, 0, 0, 0, 0, 0, 0, 0, 0, 0, 0, 0] := by decide +kernel
theorem conv_same (w : World) (C : Array Value) (n c g : Nat) (hg : g = w.heap.size) : (convert 38 38 (.slice (some ⟨g, 0, none⟩) n c)).run Try.prog (w.alloc (.cells C 5)) = .ok (.slice (some ⟨g, 0, none⟩) n c) (w.alloc (.cells C 5 (C.size, C.size + 1))) :=
  hg ▸ Go.Lib.run_convert_bytes_const w _ _ C n c Try.underlying38 Try.underlying5
theorem Rd.lit (w : World) (cs : List Value) (t : TypeId) (fr : Nat × Nat) (g : Nat) (hg : g = w.heap.size) : Rd (w.alloc (.cells cs.toArray t fr)) (some ⟨g, 0, none⟩) cs := by
  subst hg
  have h := Rd.of_block (w := w.alloc (.cells cs.toArray t fr)) (g := w.heap.size) (cs := cs.toArray) (t := t) (fr := fr) (heap_alloc_new w _)
  simpa using h


theorem below_after2 {w w' : World} {a b : Obj} (h : Below ((w.alloc a).alloc b).heap.size ((w.alloc a).alloc b) w') : Below w.heap.size w w' :=
  (((Below.refl _ _).alloc (Nat.le_refl _) a).alloc (by simp) b).trans (h.mono (by simp; omega))
theorem below_after1 {w w' : World} {a : Obj} (h : Below (w.alloc a).heap.size (w.alloc a) w') : Below w.heap.size w w' :=
  ((Below.refl _ _).alloc (Nat.le_refl _) a).trans (h.mono (by simp))

theorem known_any (w : World) :
    Calls Try.prog 22 #[] w fun e w' => e = .returned (.bool true) ∧ Below w.heap.size w w' := by
  have hn : ∀ (W : World) (g : Nat), Rd W (some ⟨g, 0, none⟩) (byts [172, 2]) → Calls Try.prog 50 #[.slice (some ⟨g, 0, none⟩) 2 2] W fun e w' => e = .returned (.tuple #[.int .u64 300, .int .i64 2, .int .i64 0]) ∧ W = w' := fun W g h => by
    have := readNumber_any (some ⟨g, 0, none⟩) 2 [172, 2] W h (by simp)
    rw [known_num] at this
    exact this
  have hp : ∀ (W : World) (g : Nat), Rd W (some ⟨g, 0, none⟩) (byts [97]) → Calls Try.prog 26 #[.int .i64 32, .agg #[.int .u64 1, .int .i64 0, .int .i64 0, .int .i64 0], .slice (some ⟨g, 0, none⟩) 1 1] W fun e w' => ∃ g c, e = .returned (.tuple #[.slice (some ⟨g, 0, none⟩) 32 c, .int .i64 0]) ∧ g < w'.heap.size ∧ w'.cell? ⟨g, 4, none⟩ = some (.int .u8 1) ∧ w'.cell? ⟨g, 17, none⟩ = some (.int .u8 1) ∧ w'.cell? ⟨g, 19, none⟩ = some (.int .u8 97) ∧ Below W.heap.size W w' := fun W g h => by
    have := page_any (some ⟨g, 0, none⟩) 1 1 32 0 0 0 [97] W h (by simp) (by omega)
    rw [known_page] at this
    refine this.mono ?_
    rintro e w' ⟨A', c', out, he, hout, ho, hb⟩
    subst hout
    have hl : (pageB 1 0 0 [97] 32).length = 32 := pageB_length _ _ _ _ _ (by simp)
    rw [hl] at he ho
    obtain ⟨g, cap, hv, _, hlt⟩ := ho.form (by omega)
    injection hv with h1 h2 h3
    subst h1 h3
    have hc := ho.cells (g := g) rfl
    rw [known_cells] at hc
    exact ⟨g, _, he, hlt, hc 4 _ rfl, hc 17 _ rfl, hc 19 _ rfl, hb⟩
  have hs : ∀ (W : World) (g h : Nat), Rd W (some ⟨g, 0, none⟩) [.slice (some ⟨h, 0, none⟩) 9 9] → Rd W (some ⟨h, 0, none⟩) (byts [49, 50, 51, 52, 53, 54, 55, 56, 57]) → Calls Try.prog 24 #[.slice (some ⟨g, 0, none⟩) 1 1] W fun e w' => e = .returned (.int .u32 3808858755) ∧ Below W.heap.size W w' := fun W g h hg hh => by
    have := sum_any (some ⟨g, 0, none⟩) 1 [⟨some ⟨h, 0, none⟩, 9, [49, 50, 51, 52, 53, 54, 55, 56, 57]⟩] W (by simpa [Sb.val] using hg) (by simp) (by
      intro s hs
      simp only [List.mem_cons, List.not_mem_nil, or_false] at hs
      subst hs
      exact ⟨hh, by simp, by simp⟩)
    have hf : flat [⟨some ⟨h, 0, none⟩, 9, [49, 50, 51, 52, 53, 54, 55, 56, 57]⟩] = [49, 50, 51, 52, 53, 54, 55, 56, 57] := by simp [flat]
    rw [hf, known_sum] at this
    exact this
  have hm : ∀ W, Calls Try.prog 35 #[.int .i64 32] W fun e w' => e = .returned (.int .i64 13) ∧ W = w' := fun W => by
    have := room_any 32 W
    rw [show roomN 32 = 13 from by decide] at this
    exact this
  have hcv := conv_same
  go_enter Try.func22, Try.ntmps22
  go_wp2_with (first
    | (go_at_call 50; refine (hn _ _ ?_).mono ?_; (exact Rd.many _ _ _); rintro e w1 ⟨rfl, rfl⟩)
    | (go_at_call 26; refine (hp _ _ ?_).mono ?_; (exact Rd.lit _ _ _ _ _ (by simp)); rintro e w1 ⟨g, c, rfl, hg, hc4, hc17, hc19, hb1⟩)
    | (go_at_call 24; go_loud (refine (hs _ _ w1.heap.size ?_ ?_).mono ?_; (exact Rd.lit _ [.slice (some ⟨w1.heap.size, 0, none⟩) 9 9] 38 (0, 0) _ (by simp)); (exact (Rd.lit w1 (byts [49, 50, 51, 52, 53, 54, 55, 56, 57]) 5 (9, 10) _ rfl).alloc _); rintro e w2 ⟨rfl, hb2⟩; have hbb : Below w1.heap.size w1 w2 := below_after2 hb2; have hd4 := (hbb.cell (p := ⟨g, 4, none⟩) hg).trans hc4; have hd17 := (hbb.cell (p := ⟨g, 17, none⟩) hg).trans hc17; have hd19 := (hbb.cell (p := ⟨g, 19, none⟩) hg).trans hc19; clear hc4 hc17 hc19))
    | (go_at_call 35; refine (hm _).mono ?_; rintro e w2 ⟨rfl, rfl⟩))
  go_ret
  have h12 := below_after2 hb1
  exact ⟨rfl, h12.trans (hbb.mono h12.size)⟩
end Go.Proofs.Ytppfjdohajomoaa
