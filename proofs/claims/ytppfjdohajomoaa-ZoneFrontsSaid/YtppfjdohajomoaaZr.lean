/- The law's known answers. -/
import Derived.Test.YtppfjdohajomoaaZq
namespace Go.Proofs.Ytppfjdohajomoaa
open Go.RowKit
set_option maxHeartbeats 4000000
set_option maxRecDepth 100000

theorem known3_law (w : World) : Calls Try.prog 38 #[] w fun e w' => e = .returned (.bool true) ∧ Below w.heap.size w w' := by
  have hmk := run_mk32
  go_enter Try.func38, Try.ntmps38
  go_wp2_with fail
  refine (pw_none _).mono ?_
  rintro e w1 ⟨rfl, hp1, hb1⟩
  go_wp2_with fail
  refine (pw_new hp1 2 3 32 (by decide) (by decide) (by decide) (by decide) (by decide) (by decide) (by decide)).mono ?_
  rintro e w2 ⟨D, rfl, hp2, hc2⟩
  go_wp2_with fail
  have hp3 := hp2.alloc (.cells zc32 5)
  have hc3 := hc2.alloc (.cells zc32 5)
  have hz3 := PgOk.zer w2
  refine (at_append hp3 0 rfl 0 _ _ zer hz3 zer_len (by simp) (s1 := ⟨false, 0, [], 1, [⟨D, 3, 32, false, [([zer], 0), ([], 0)]⟩]⟩) (v := 0) rfl).mono ?_
  rintro e w4 ⟨rfl, hp4, hc4⟩
  go_wp2_with fail
  have hz4 := hz3.keepX hc4
  refine (at_append hp4 0 rfl 0 _ _ zer hz4 zer_len (by simp) (s1 := ⟨false, 0, [], 2, [⟨D, 3, 32, false, [([zer, zer], 0), ([], 0)]⟩]⟩) (v := 0) rfl).mono ?_
  rintro e w5 ⟨rfl, hp5, hc5⟩
  go_wp2_with fail
  have hz5 := hz4.keepX hc5
  refine (at_flush hp5 0 rfl (by simp) (s1 := ⟨false, 0, [], 3, [⟨D, 3, 32, false, [([zer, zer], 2), ([], 0)]⟩]⟩) (v := 0) rfl).mono ?_
  rintro e w6 ⟨rfl, hp6, hc6⟩
  go_wp2_with fail
  have hz6 := hz5.keepX hc6
  refine (at_append hp6 0 rfl 0 _ _ zer hz6 zer_len (by simp) (s1 := ⟨false, 0, [], 4, [⟨D, 3, 32, false, [([zer, zer, zer], 2), ([], 0)]⟩]⟩) (v := 0) rfl).mono ?_
  rintro e w7 ⟨rfl, hp7, hc7⟩
  go_wp2_with fail
  have hz7 := hz6.keepX hc7
  refine (at_append hp7 0 rfl 0 _ _ zer hz7 zer_len (by simp) (s1 := ⟨false, 0, [], 4, [⟨D, 3, 32, false, [([zer, zer, zer], 2), ([], 0)]⟩]⟩) (v := 5) rfl).mono ?_
  rintro e w8 ⟨rfl, hp8, hc8⟩
  go_wp2_with fail
  refine (at_pointer hp8 0 rfl 0 (v := 3) (e := 0) rfl).mono ?_
  rintro e w8' ⟨rfl, rfl⟩
  have hct := cut_law w8
  go_wp2_with (first
    | (go_at_call 43; refine (pw_off hp8).mono ?_; rintro e w8' ⟨rfl, rfl⟩)
    | (go_at_call 76; refine hct.mono ?_; rintro e w9 ⟨rfl, hb9⟩))
  go_ret
  exact ⟨rfl, ((hc3.trans (hc4.trans (hc5.trans (hc6.trans (hc7.trans hc8))))).below hb9).after hb1 hb1.size⟩
end Go.Proofs.Ytppfjdohajomoaa
