/- The law's known answers. -/
import Derived.Test.YtppfjdohajomoaaZp
namespace Go.Proofs.Ytppfjdohajomoaa
open Go.RowKit
set_option maxHeartbeats 4000000
set_option maxRecDepth 100000

section
variable {F : Nat → Prop} {w w1 : World} {B P : Nat} {s s1 : St}
theorem at_append (h : Pow w B P s F) (i : Nat) {d : DV} (hd : s.ds[i]? = some d) (n : Int) (A : Option Addr) (c : Nat) (l : List UInt8) (hl : PgOk w ⟨A, c, l⟩) {m : Nat} (hm : l.length = m) (hw : s.writes ≤ 4611686018427387904) {v : Nat} (hr : appendR s i n l = (v, s1)) :
    Calls Try.prog 42 #[.pointer (some ⟨d.D, 0, none⟩), .int .i64 n, .slice A m c] w fun e w' => e = .returned (.int .i64 (v : Nat)) ∧ Pow w' B P s1 (FN F w w') ∧ ChgT B w w' := by
  obtain ⟨hi, rfl⟩ := List.getElem?_eq_some_iff.1 hd
  subst hm
  have := pw_append h i hi n A c l hl.1 hl.2.2 hw
  rw [hr] at this
  exact this
theorem at_flush (h : Pow w B P s F) (i : Nat) {d : DV} (hd : s.ds[i]? = some d) (hw : s.writes ≤ 4611686018427387904) {v : Nat} (hr : flushR s i = (v, s1)) :
    Calls Try.prog 46 #[.pointer (some ⟨d.D, 0, none⟩)] w fun e w' => e = .returned (.int .i64 (v : Nat)) ∧ Pow w' B P s1 F ∧ ChgT B w w' := by
  obtain ⟨hi, rfl⟩ := List.getElem?_eq_some_iff.1 hd
  have := pw_flush h i hi hw
  rw [hr] at this
  exact this
theorem at_pointer (h : Pow w B P s F) (i : Nat) {d : DV} (hd : s.ds[i]? = some d) (n : Int) {v e : Nat} (hr : pointerR s i n = (v, e)) :
    Calls Try.prog 48 #[.pointer (some ⟨d.D, 0, none⟩), .int .i64 n] w fun e' w' => e' = .returned (.tuple #[.int .i64 (v : Nat), .int .i64 (e : Nat)]) ∧ w = w' := by
  obtain ⟨hi, rfl⟩ := List.getElem?_eq_some_iff.1 hd
  have := pw_pointer h i hi n
  rw [hr] at this
  exact this
end
def zer : List UInt8 := List.replicate 32 0
theorem zer_len : zer.length = 32 := by decide
def zc32 : Array Value := (byts zer).toArray
theorem run_mk32 (W : World) : (Instr.makeSlice 38 (.int .i64 32) (.int .i64 32)).run Try.prog W = .ok (.slice (some ⟨W.heap.size, 0, none⟩) 32 32) (W.alloc (.cells zc32 5)) :=
  run_mk slB rfl .i64 .i64 32 32 (by decide) (by decide) (by decide) W
theorem Rd.lay (W : World) (cs : List Value) (t : TypeId) : Rd (W.alloc (.cells cs.toArray t)) (some ⟨W.heap.size, 0, none⟩) cs := by
  have h := Rd.of_block (w := W.alloc (.cells cs.toArray t)) (g := W.heap.size) (cs := cs.toArray) (t := t) (fr := _) (heap_alloc_new W _)
  simpa using h
theorem PgOk.zer (W : World) : PgOk (W.alloc (.cells zc32 5)) ⟨some ⟨W.heap.size, 0, none⟩, 32, zer⟩ := by
  refine ⟨Rd.lay W _ _, by simp only [zer_len]; omega, fun ad e => ?_⟩
  injection e with e
  subst e
  exact (Blk.new W 5 _).has
theorem notT8 : ¬ TT 5 := by rintro (e | e | e | e | e) <;> exact absurd e (by decide)
theorem notTI : ¬ TT 3 := by rintro (e | e | e | e | e) <;> exact absurd e (by decide)
theorem notTP : ¬ TT 70 := by rintro (e | e | e | e | e) <;> exact absurd e (by decide)

theorem cut_law (w : World) : Calls Try.prog 76 #[] w fun e w' => e = .returned (.bool true) ∧ Below w.heap.size w w' := by
  have hmk := run_mk32
  go_enter Try.func76, Try.ntmps76
  go_wp2_with fail
  refine (pw_none _).mono ?_
  rintro e w1 ⟨rfl, hp1, hb1⟩
  go_wp2_with fail
  refine (pw_new hp1 2 3 32 (by decide) (by decide) (by decide) (by decide) (by decide) (by decide) (by decide)).mono ?_
  rintro e w2 ⟨D, rfl, hp2, hc2⟩
  go_wp2_with fail
  have hp3 := hp2.alloc (.cells zc32 5)
  have hc3 := hc2.alloc (.cells zc32 5)
  have hz3 := PgOk.zer w2
  refine (at_append hp3 0 rfl 0 _ _ zer hz3 zer_len (by simp) (s1 := ⟨false, 0, [], 1, [⟨D, 3, 32, false, [([zer], 0), ([], 0)]⟩]⟩) (v := 0) rfl).mono ?_
  rintro e w4 ⟨rfl, hp4, hc4⟩
  go_wp2_with fail
  have hz4 := hz3.keepX hc4
  refine (at_append hp4 0 rfl 0 _ _ zer hz4 zer_len (by simp) (s1 := ⟨false, 0, [], 2, [⟨D, 3, 32, false, [([zer, zer], 0), ([], 0)]⟩]⟩) (v := 0) rfl).mono ?_
  rintro e w5 ⟨rfl, hp5, hc5⟩
  go_wp2_with fail
  have hz5 := hz4.keepX hc5
  refine (at_flush hp5 0 rfl (by simp) (s1 := ⟨false, 0, [], 3, [⟨D, 3, 32, false, [([zer, zer], 2), ([], 0)]⟩]⟩) (v := 0) rfl).mono ?_
  rintro e w6 ⟨rfl, hp6, hc6⟩
  go_wp2_with fail
  have hz6 := hz5.keepX hc6
  refine (at_append hp6 0 rfl 1 _ _ zer hz6 zer_len (by simp) (s1 := ⟨false, 0, [], 4, [⟨D, 3, 32, false, [([zer, zer], 2), ([zer], 0)]⟩]⟩) (v := 0) rfl).mono ?_
  rintro e w7 ⟨rfl, hp7, hc7⟩
  go_wp2_with fail
  have hz8 := (hz6.keepX hc7).keep (S := fun _ => False) (Chg.alloc (Chg.refl _ _) (.cells #[.int .i64 0] 3)) (fun _ h => h.elim)
  have hp8 := hp7.alloc (.cells #[.int .i64 0] 3)
  refine (pw_arm hp8 1 (by decide) (some ⟨w7.heap.size, 0, none⟩) 1 [0] (Rd.lay w7 [.int .i64 0] 3) (by simp) (by simp)).mono ?_
  rintro e w9 ⟨rfl, hp9, hc9⟩
  go_wp2_with fail
  have hz9 := hz8.keepX hc9
  refine (at_append hp9 0 rfl 0 _ _ zer hz9 zer_len (by simp) (s1 := ⟨true, 0, [0], 4, [⟨D, 3, 32, false, [([zer, zer], 2), ([], 0)]⟩]⟩) (v := 8) rfl).mono ?_
  rintro e w10 ⟨rfl, hp10, hc10⟩
  go_wp2_with fail
  refine (pw_off hp10).mono ?_
  rintro e w10' ⟨rfl, rfl⟩
  go_wp2_with fail
  refine (pw_on hp10).mono ?_
  rintro e w11 ⟨rfl, hp11, hc11⟩
  go_wp2_with fail
  refine (at_pointer hp11 0 rfl 0 (v := 2) (e := 0) rfl).mono ?_
  rintro e w11' ⟨rfl, rfl⟩
  go_wp2_with fail
  refine (at_pointer hp11 0 rfl 1 (v := 0) (e := 0) rfl).mono ?_
  rintro e w11' ⟨rfl, rfl⟩
  go_wp2_with (go_at_call 45; refine (pw_writes hp11).mono ?_; rintro e w11' ⟨rfl, rfl⟩)
  go_ret
  have h9 := (hc7.alloc (.cells #[.int .i64 0] 3)).trans (hc9.trans (hc10.trans hc11))
  exact ⟨rfl, (hc3.trans (hc4.trans (hc5.trans (hc6.trans h9)))).after hb1 hb1.size⟩
end Go.Proofs.Ytppfjdohajomoaa
