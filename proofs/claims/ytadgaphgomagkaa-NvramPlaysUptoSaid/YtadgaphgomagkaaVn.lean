/- The log's device: the chapter's example. -/
import Derived.Test.YtadgaphgomagkaaVm
import Derived.Lib.SlBytesConst
namespace Go.Proofs.Ytadgaphgomagkaa
open Go.RowKit
set_option maxHeartbeats 4000000
set_option maxRecDepth 100000

theorem NvS.new {w2 : World} {B D P G : Nat} {kept : List UInt8} {devs : Value} (h : NvAt w2 B D P G kept [] none 0) (hp : PwAt w2 P false 0 (.slice none 0 0) 0 devs) (hB : B ≤ P) (hz : B ≤ w2.heap.size) (hl : kept.length ≤ 67108864) : NvS w2 B D P G kept [] 0 :=
  ⟨[], none, 0, _, devs, h, ⟨rfl, by simp, fun k h => by simp at h, fun k h => by simp at h⟩, hp, hB, hz, hl⟩
theorem conv_same (w : World) (C : Array Value) (n c : Nat) : (convert 35 35 (.slice (some ⟨w.heap.size, 0, none⟩) n c)).run Try.prog (w.alloc (.cells C 5)) = .ok (.slice (some ⟨w.heap.size, 0, none⟩) n c) (w.alloc (.cells C 5 (C.size, C.size + 1))) :=
  Go.Lib.run_convert_bytes_const w _ _ C n c Try.underlying35 Try.underlying5
theorem Rd.lit (w : World) (cs : List Value) (t : TypeId) (fr : Nat × Nat) : Rd (w.alloc (.cells cs.toArray t fr)) (some ⟨w.heap.size, 0, none⟩) cs := by
  have h := Rd.of_block (w := w.alloc (.cells cs.toArray t fr)) (g := w.heap.size) (cs := cs.toArray) (t := t) (fr := fr) (heap_alloc_new w _)
  simpa using h
/-- two bytes of a literal are written -/
theorem s_two {w : World} {B D P G m : Nat} {kept : List UInt8} {L : List (Nat × UInt8)} (h : NvS w B D P G kept L m) (hm : m ≤ 4611686018427387904) (a : Nat) (x y : UInt8) (hfit : a + 2 ≤ kept.length) (hL : L.length + 2 ≤ 2000000) :
    Calls Try.prog 19 #[.pointer (some ⟨D, 0, none⟩), .int .i64 (a : Nat), .slice (some ⟨w.heap.size + 1, 0, none⟩) 1 1] ((w.alloc (.cells #[byt x, byt y] 5 (2, 3))).alloc (.cells #[.slice (some ⟨w.heap.size, 0, none⟩) 2 2] 35)) fun e w' => e = .returned (.int .i64 0) ∧ NvS w' B D P G kept (L ++ puts a [x, y]) (m + 1) ∧ Below B w w' := by
  have hb3 : Below w.heap.size w ((w.alloc (.cells #[byt x, byt y] 5 (2, 3))).alloc (.cells #[.slice (some ⟨w.heap.size, 0, none⟩) 2 2] 35)) := ((Below.refl _ _).alloc (Nat.le_refl _) _).alloc (by simp) _
  have hr3 : Rd ((w.alloc (.cells #[byt x, byt y] 5 (2, 3))).alloc (.cells #[.slice (some ⟨w.heap.size, 0, none⟩) 2 2] 35)) (some ⟨w.heap.size, 0, none⟩) (byts [x, y]) := (Rd.lit w [byt x, byt y] _ (2, 3)).alloc _
  have hq3 : Rd ((w.alloc (.cells #[byt x, byt y] 5 (2, 3))).alloc (.cells #[.slice (some ⟨w.heap.size, 0, none⟩) 2 2] 35)) (some ⟨w.heap.size + 1, 0, none⟩) [.slice (some ⟨w.heap.size, 0, none⟩) ([x, y] : List UInt8).length 2] := by
    have := Rd.one (w.alloc (.cells #[byt x, byt y] 5 (2, 3))) (.slice (some ⟨w.heap.size, 0, none⟩) 2 2) 35
    simpa using this
  refine (s_write (h.below hb3) hm a _ _ 2 [x, y] hq3 hr3 (by simp) (by simpa using hfit) (by simpa using hL)).mono ?_
  rintro e w' ⟨rfl, h1, h2⟩
  exact ⟨rfl, h1, h2.after ((Below.refl B w).trans (hb3.mono h.base)) (Nat.le_trans h.base hb3.size)⟩

theorem known4_any (w : World) : Calls Try.prog 13 #[] w fun e w' => e = .returned (.bool true) ∧ Below w.heap.size w w' := by
  go_enter Try.func13, Try.ntmps13
  go_wp2_with fail
  refine (newPower_any w).mono ?_
  rintro e w1 ⟨rfl, hp1, hb1⟩
  go_wp2_with fail
  refine (nvNew_ok w1 w.heap.size w.heap.size 64 (by decide) (by decide) hb1.size false 0 0 _ hp1).mono ?_
  rintro e w2 ⟨D, G, rfl, hd2, ⟨dA, dc, hp2, ho2⟩, hG2, hc2⟩
  have hb2 : Below w.heap.size w w2 := Chg.toBelow hc2 hb1 (fun k hk => by rw [show k = w.heap.size from hk]; exact Nat.le_refl _) hb1.size
  have hS2 : NvS w2 w.heap.size D w.heap.size G (List.replicate 64 0) [] 0 := NvS.new hd2 hp2 (Nat.le_refl _) hb2.size (by simp)
  clear hd2 hp2 ho2 hc2 hp1 hb1
  have hcv := conv_same
  go_wp2_with fail
  refine (s_two hS2 (by decide) 0 97 98 (by simp) (by simp)).mono ?_
  rintro e w4 ⟨rfl, hS4, hb4⟩
  go_wp2_with fail
  refine (s_persist hS4 (by decide)).mono ?_
  rintro e w5 ⟨rfl, hS5, hc5⟩
  go_wp2_with fail
  refine (s_two hS5 (by decide) 1 120 121 (by simp [app_length]) (by simp)).mono ?_
  rintro e w6 ⟨rfl, hS6, hb6⟩
  go_wp2_with fail
  have hpe := s_pending hS6
  rw [show (([] : List (Nat × UInt8)) ++ puts 1 [120, 121]).length = 2 from rfl] at hpe
  refine hpe.mono ?_
  rintro e w7 ⟨rfl, rfl⟩
  go_wp2_with fail
  have hb7 : Below w6.heap.size w6 (w6.alloc (.cells #[.int .i64 1] 3)) := (Below.refl _ _).alloc (Nat.le_refl _) _
  refine (s_cut (hS6.below hb7) (by simp [puts]) (some ⟨w6.heap.size, 0, none⟩) 1 [1] (Rd.one w6 (.int .i64 1) _) (by simp)).mono ?_
  rintro e w8 ⟨rfl, hS8, hc8⟩
  go_wp2_with fail
  have hrd := s_read hS8 0 3 (by simp [app_length])
  have hval : ((app (app (app (List.replicate 64 0) ([] ++ puts 0 [97, 98])) (List.take (keptW [1] ([] ++ puts 1 [120, 121]).length) ([] ++ puts 1 [120, 121]))) []).drop 0).take 3 = [97, 120, 0] := by decide +kernel
  rw [hval] at hrd
  refine hrd.mono ?_
  rintro e w9 ⟨A9, c9, rfl, ho9, hb9⟩
  have hst := conv_bytes w9 A9 c9 [97, 120, 0] (Rd.of_own ho9)
  simp only [List.length_cons, List.length_nil, Nat.zero_add, Nat.reduceAdd] at hst
  have hsz := s_size (hS8.below hb9)
  simp only [app_length, List.length_replicate] at hsz
  have hz4 := hS4.base
  have hz6 := (hS6.below hb7).base
  have hbF : Below w.heap.size w w9 := (hc8.after (((hc5.after (hb2.trans hb4) hz4).trans hb6).trans (hb7.mono hS6.base)) hz6).trans (hb9.mono hS8.base)
  clear hval hrd
  go_wp2_with (go_at_call 49; refine hsz.mono ?_; rintro e w10 ⟨rfl, rfl⟩)
  go_ret
  exact ⟨rfl, hbF⟩
end Go.Proofs.Ytadgaphgomagkaa
