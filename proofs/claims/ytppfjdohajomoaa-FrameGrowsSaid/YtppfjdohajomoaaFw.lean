/- The law FrameGrows: its walk. -/
import Derived.Test.YtppfjdohajomoaaFu
import Derived.Test.YtppfjdohajomoaaPc
namespace Go.Proofs.Ytppfjdohajomoaa
open Go.RowKit
set_option maxHeartbeats 2000000
set_option maxRecDepth 100000

theorem frameGrows_any (a b : Nat) (w : World) (ha : a < 18446744073709551616) (hb : b < 18446744073709551616) :
    Calls Try.prog 6 #[.int .u64 a, .int .u64 b] w fun e w' => e = .returned (.bool true) ∧ Below w.heap.size w w' := by
  have key : ∀ n m : Nat, n ≤ m → n < 18446744073709551616 → m < 18446744073709551616 → ((a = n ∧ b = m) ∨ (a = m ∧ b = n ∧ n < m)) → 
      Calls Try.prog 6 #[.int .u64 a, .int .u64 b] w fun e w' => e = .returned (.bool true) ∧ Below w.heap.size w w' := by
    intro n m hnm hn hm hab
    have hnum : ∀ (v : Nat), v < 18446744073709551616 → ∀ W : World, Calls Try.prog 28 #[.slice none 0 0, .int .u64 v] W fun e w' => ∃ A' c', e = .returned (.slice A' (numB v).length c') ∧ (numB v).length ≤ c' ∧ Rd w' A' (byts (numB v)) ∧ Below W.heap.size W w' := fun v hv W =>
      (number_any none 0 v [] W Rd.none_ (by simp) (by simp) hv).mono fun e w' h => by
        obtain ⟨A', c', he, ho, hb⟩ := h
        refine ⟨A', c', by simpa using he, ?_, by simpa using Rd.of_own ho, hb⟩
        have := (own_cap ho).1
        simpa using this
    have hN := hnum n hn
    have hM := hnum m hm
    have p1 := numF_pos1 9 n
    have p2 := numF_le10 9 m
    have p3 := numF_mono 9 n m hnm
    have hpre : n ≠ m → (numB n == (numB m).take (numB n).length) = false := fun hne => by
      rw [beq_eq_false_iff_ne]
      exact fun h => hne (numB_take n m hn hm h)
    change 1 ≤ (numB n).length at p1
    change (numB m).length ≤ 10 at p2
    change (numB n).length ≤ (numB m).length at p3
    have hsame : n ≠ m → ∀ (W : World) (A B : Option Addr) (c d : Nat), Rd W A (byts (numB n)) → Rd W B (byts (numB m)) → Calls Try.prog 27 #[.slice A (numB n).length c, .slice B (numB n).length d] W fun e w' => e = .returned (.bool false) ∧ W = w' := fun hne W A B c d h1 h2 => by
      have h3 := h2.take (numB n).length
      rw [show (byts (numB m)).take (numB n).length = byts ((numB m).take (numB n).length) from by simp [byts]] at h3
      have := same_any A B c d (numB n) ((numB m).take (numB n).length) W h1 h3
      rw [hpre hne, List.length_take, Nat.min_eq_left p3] at this
      exact this
    clear hnum hpre
    generalize numB n = L at *
    generalize numB m = M at *
    have q1 : (1 : Int) ≤ (L.length : Int) := by omega
    have q2 : (L.length : Int) ≤ (M.length : Int) := by omega
    have q3 : (M.length : Int) ≤ 10 := by omega
    have hnm' := Lib.hid hnm
    by_cases he : n = m
    · subst he
      obtain ⟨h1, h2⟩ : n = a ∧ b = a := by omega
      subst h1
      subst h2
      clear hsame hab hnm p1 p2 p3
      have hee : ((b : Int) == (b : Int)) = true := by simp
      go_enter Try.func6, Try.ntmps6
      go_wp2_with (first
        | (go_at_call 22; refine (known_any _).mono ?_; rintro e w1 ⟨rfl, hb1⟩)
        | (go_at_call 28; have _h := hb2; refine (hM _).mono ?_; rintro e w3 ⟨A3, c3, rfl, hc3, hr3, hb3⟩)
        | (go_at_call 28; refine (hN _).mono ?_; rintro e w2 ⟨A2, c2, rfl, hc2, hr2, hb2⟩))
      go_ret
      exact ⟨rfl, hb1.trans ((hb2.trans (hb3.mono hb2.size)).mono hb1.size)⟩
    · have hs := hsame he
      have hlt : n < m := by omega
      have hne : ((n : Int) == (m : Int)) = false := by rw [beq_eq_false_iff_ne]; omega
      have hne' : ¬ ((m : Int) < (n : Int)) := by omega
      have hlt' : ((n : Int) < (m : Int)) := by omega
      clear hsame hnm p1 p2 p3 he
      rcases hab with ⟨h1, h2⟩ | ⟨h1, h2, _⟩
      all_goals
        subst h1
        subst h2
        have HL := Lib.hid hlt
        clear hlt
        go_enter Try.func6, Try.ntmps6
        go_wp2_with (first
          | (go_at_call 22; refine (known_any _).mono ?_; rintro e w1 ⟨rfl, hb1⟩)
          | (go_at_call 28; have _h := hb2; refine (hM _).mono ?_; rintro e w3 ⟨A3, c3, rfl, hc3, hr3, hb3⟩)
          | (go_at_call 28; refine (hN _).mono ?_; rintro e w2 ⟨A2, c2, rfl, hc2, hr2, hb2⟩)
          | (go_at_call 27; refine (hs _ _ _ _ _ ?_ ?_).mono ?_; (exact hr2.below hb3); (exact hr3); rintro e w4 ⟨rfl, rfl⟩))
        go_ret
        exact ⟨rfl, hb1.trans ((hb2.trans (hb3.mono hb2.size)).mono hb1.size)⟩
  rcases Nat.lt_or_ge b a with h | h
  · exact key b a (by omega) hb ha (Or.inr ⟨rfl, rfl, h⟩)
  · exact key a b h ha hb (Or.inl ⟨rfl, rfl⟩)
end Go.Proofs.Ytppfjdohajomoaa
