/- The law FramePages: its walk. -/
import Derived.Test.YtppfjdohajomoaaFu
import Derived.Test.YtppfjdohajomoaaWd
import Derived.Test.YtppfjdohajomoaaPd
import Derived.Deep.RegionHeld3
import Derived.Deep.RegionWith
import Derived.Deep.DeepCutAuto
import Derived.Deep.CutBlock
namespace Go.Proofs.Ytppfjdohajomoaa
open Go.RowKit
set_option maxHeartbeats 2000000
set_option maxRecDepth 100000

theorem stHead' : StT Try.prog 46 4 := ⟨⟨_, Try.underlying46⟩, by kernel_rfl⟩
theorem two_blks {w w1 : World} {t1 t2 : TypeId} {cs1 cs2 : Array Value} (h : Below ((w.alloc (.cells cs1 t1)).alloc (.cells cs2 t2)).heap.size ((w.alloc (.cells cs1 t1)).alloc (.cells cs2 t2)) w1) :
    Below w.heap.size w w1 ∧ Blk w1 w.heap.size t1 cs1 ∧ Blk w1 (w.heap.size + 1) t2 cs2 := by
  refine ⟨below_after2 h, ((Blk.new w t1 cs1).alloc _).below' h, ?_⟩
  have := (Blk.new (w.alloc (.cells cs1 t1)) t2 cs2).below' h
  simpa using this

theorem pageR_bad {size row sh : Int} {seg : Nat} {x P : List UInt8} {k : Nat} (h : pageR size row sh seg x = (P, k)) (hk : k ≠ 0) : P = [] := by
  unfold pageR at h
  split at h
  · injection h with h1 _; exact h1.symm
  · split at h
    · injection h with h1 _; exact h1.symm
    · injection h with _ h2; exact absurd h2.symm hk
theorem pageR_good {size row sh : Int} {seg : Nat} {x P : List UInt8} (h : pageR size row sh seg x = (P, 0)) : ∃ n r s : Nat, size = n ∧ row = r ∧ sh = s ∧ 32 ≤ n ∧ n ≤ 65536 ∧ r ≤ 1073741824 ∧ s ≤ 255 ∧ 19 + x.length ≤ n ∧ P = pageB seg r s x n ∧ P.length = n := by
  unfold pageR at h
  split at h
  · injection h with _ h2; cases h2
  · rename_i hb
    split at h
    · injection h with _ h2; cases h2
    · rename_i hl
      injection h with h1 _
      have hs : 32 ≤ size ∧ size ≤ 65536 ∧ roomN size = size - 19 := by
        unfold roomN at hb ⊢
        by_cases a : size < 32
        · simp [a] at hb
        · by_cases b : 65536 < size
          · simp [b] at hb
          · simp [a, b]; omega
      refine ⟨size.toNat, row.toNat, sh.toNat, by omega, by omega, by omega, by omega, by omega, by omega, by omega, by omega, h1.symm, ?_⟩
      rw [← h1, pageB_length _ _ _ _ _ (by omega)]

theorem framePages_any (A B : Option Addr) (c d s1 s2 : Nat) (size r1 h1 z1 r2 h2 z2 : Int) (x y : List UInt8) (w : World) (hx : Rd w A (byts x)) (hy : Rd w B (byts y)) (hxc : x.length ≤ c) (hyd : y.length ≤ d)
    (hs1 : s1 < 18446744073709551616) (hs2 : s2 < 18446744073709551616) :
    Calls Try.prog 5 #[.int .i64 size, .agg #[.int .u64 s1, .int .i64 r1, .int .i64 h1, .int .i64 z1], .agg #[.int .u64 s2, .int .i64 r2, .int .i64 h2, .int .i64 z2], .slice A x.length c, .slice B y.length d] w
      fun e w' => e = .returned (.bool true) ∧ Below w.heap.size w w' := by
  have hp1 : ∀ W, Below w.heap.size w W → Calls Try.prog 26 #[.int .i64 size, .agg #[.int .u64 s1, .int .i64 r1, .int .i64 h1, .int .i64 z1], .slice A x.length c] W fun e w' => ∃ A' c', e = .returned (.tuple #[.slice A' (pageR size r1 h1 s1 x).1.length c', .int .i64 ((pageR size r1 h1 s1 x).2 : Nat)]) ∧ Rd w' A' (byts (pageR size r1 h1 s1 x).1) ∧ Below W.heap.size W w' := fun W hW =>
    (page_any A c s1 size r1 h1 z1 x W (hx.below hW) hxc hs1).mono fun e w' h => by
      obtain ⟨A', c', out, he, rfl, ho, hb⟩ := h
      exact ⟨A', c', he, Rd.of_own ho, hb⟩
  have hp2 : ∀ W, Below w.heap.size w W → Calls Try.prog 26 #[.int .i64 size, .agg #[.int .u64 s2, .int .i64 r2, .int .i64 h2, .int .i64 z2], .slice B y.length d] W fun e w' => ∃ A' c', e = .returned (.tuple #[.slice A' (pageR size r2 h2 s2 y).1.length c', .int .i64 ((pageR size r2 h2 s2 y).2 : Nat)]) ∧ Rd w' A' (byts (pageR size r2 h2 s2 y).1) ∧ Below W.heap.size W w' := fun W hW =>
    (page_any B d s2 size r2 h2 z2 y W (hy.below hW) hyd hs2).mono fun e w' h => by
      obtain ⟨A', c', out, he, rfl, ho, hb⟩ := h
      exact ⟨A', c', he, Rd.of_own ho, hb⟩
  by_cases hlong : 65536 < x.length ∨ 65536 < y.length
  · by_cases g1 : 65536 < x.length
    · have g1' : (65536 : Int) < (x.length : Int) := by omega
      clear hlong g1
      go_enter Try.func5, Try.ntmps5
      go_wp2_with (go_at_call 22; refine (known_any _).mono ?_; rintro e w1 ⟨rfl, hb1⟩)
      go_ret
      exact ⟨rfl, below_after2 hb1⟩
    · have g1' : ¬ (65536 : Int) < (x.length : Int) := by omega
      have g2' : (65536 : Int) < (y.length : Int) := by omega
      clear hlong g1
      go_enter Try.func5, Try.ntmps5
      go_wp2_with (go_at_call 22; refine (known_any _).mono ?_; rintro e w1 ⟨rfl, hb1⟩)
      go_ret
      exact ⟨rfl, below_after2 hb1⟩
  · have g1' : ¬ (65536 : Int) < (x.length : Int) := by omega
    have g2' : ¬ (65536 : Int) < (y.length : Int) := by omega
    generalize hR1 : pageR size r1 h1 s1 x = R1 at *
    generalize hR2 : pageR size r2 h2 s2 y = R2 at *
    obtain ⟨P1, k1⟩ := R1
    obtain ⟨P2, k2⟩ := R2
    simp only at hp1 hp2
    by_cases hk1 : k1 = 0
    · subst hk1
      obtain ⟨n, a1, a2, rfl, rfl, rfl, b1', b2', b3', b4', b5', hP1, hL1⟩ := pageR_good hR1
      by_cases hk2 : k2 = 0
      · subst hk2
        obtain ⟨n', b1, b2, hn', rfl, rfl, d1, d2, d3, d4, d5, hP2, hL2⟩ := pageR_good hR2
        obtain rfl : n = n' := by omega
        have hsm : ∀ W : World, Rd W A (byts x) → Rd W B (byts y) → Calls Try.prog 27 #[.slice A x.length c, .slice B y.length d] W fun e w' => e = .returned (.bool (x == y)) ∧ W = w' := fun W h1 h2 => same_any A B c d x y W h1 h2
        have hsp : ∀ (W : World) (A' B' : Option Addr) (c' d' : Nat), Rd W A' (byts P1) → Rd W B' (byts P2) → Calls Try.prog 27 #[.slice A' P1.length c', .slice B' P2.length d'] W fun e w' => e = .returned (.bool (P1 == P2)) ∧ W = w' := fun W A' B' c' d' h1 h2 => same_any A' B' c' d' P1 P2 W h1 h2
        have hrel : (P1 == P2) = (((((s1 : Int) == (s2 : Int)) && ((a1 : Int) == (b1 : Int))) && ((a2 : Int) == (b2 : Int))) && (x == y)) := by
          rw [Bool.eq_iff_iff]
          simp only [beq_iff_eq, Bool.and_eq_true]
          constructor
          · intro h
            rw [hP1, hP2] at h
            obtain ⟨e1, e2, e3, e4⟩ := pageB_inj (by omega) (by omega) (by omega) (by omega) (by omega) (by omega) (by omega) (by omega) h
            exact ⟨⟨⟨by omega, by omega⟩, by omega⟩, e4⟩
          · rintro ⟨⟨⟨e1, e2⟩, e3⟩, rfl⟩
            have e1' : s1 = s2 := by omega
            have e2' : a1 = b1 := by omega
            have e3' : a2 = b2 := by omega
            rw [hP1, hP2, e1', e2', e3']
        generalize hq5 : (P1 == P2) = q5 at *
        generalize hq1 : ((s1 : Int) == (s2 : Int)) = q1 at *
        generalize hq2 : ((a1 : Int) == (b1 : Int)) = q2 at *
        generalize hq3 : ((a2 : Int) == (b2 : Int)) = q3 at *
        generalize hq4 : (x == y) = q4 at *
        have f1 : ((P1.length : Int) == (n : Int)) = true := by rw [beq_iff_eq]; omega
        have f2 : ((P2.length : Int) == (n : Int)) = true := by rw [beq_iff_eq]; omega
        have hd : (q1 = false ∧ q5 = false) ∨ (q1 = true ∧ q2 = false ∧ q5 = false) ∨ (q1 = true ∧ q2 = true ∧ q3 = false ∧ q5 = false) ∨ ((q1 = true ∧ q2 = true ∧ q3 = true ∧ q4 = false ∧ q5 = false) ∨ (q1 = true ∧ q2 = true ∧ q3 = true ∧ q4 = true ∧ q5 = true)) := by
          clear hq1 hq2 hq3 hsm hsp
          subst hrel
          cases q1 <;> cases q2 <;> cases q3 <;> cases q4 <;> simp
        clear hP1 hP2 hL1 hL2 hR1 hR2 hlong hrel hq5 hq4 b1' b2' b3' b4' b5' d1 d2 d3 d4 d5 hn'
        have hd2 : (_ ∨ _ ∨ _) ∨ _ := hd.elim (fun h => Or.inl (Or.inl h)) (fun h => h.elim (fun h => Or.inl (Or.inr (Or.inl h))) (fun h => h.elim (fun h => Or.inl (Or.inr (Or.inr h))) Or.inr))
        clear hd
        rcases hd2 with hd | hd
        · rcases hd with ⟨rfl, rfl⟩ | ⟨rfl, rfl, rfl⟩ | ⟨rfl, rfl, rfl, rfl⟩
          all_goals
            go_enter Try.func5, Try.ntmps5
            go_wp2_with (first
              | (go_at_call 22; refine (known_any _).mono ?_; rintro e w1 ⟨rfl, hb1⟩; obtain ⟨hbw1, B1, B2⟩ := two_blks hb1; clear hb1)
              | (go_at_call 26; have _h := B3; refine (hp2 _ (hbw1.trans (hb2.mono hbw1.size))).mono ?_; rintro e w3 ⟨A3, c3, rfl, hr3, hb3⟩; have B5 := B4.below' hb3; have B6 := B3.below' hb3; have e50 : w3.cell? ⟨w.heap.size, 0, none⟩ = some (.int .u64 ((s1 : Nat))) := B5.cell 0; have e51 : w3.cell? ⟨w.heap.size, 1, none⟩ = some (.int .i64 ((a1 : Nat))) := B5.cell 1; have e52 : w3.cell? ⟨w.heap.size, 2, none⟩ = some (.int .i64 ((a2 : Nat))) := B5.cell 2; have e60 : w3.cell? ⟨w.heap.size + 1, 0, none⟩ = some (.int .u64 ((s2 : Nat))) := B6.cell 0; have e61 : w3.cell? ⟨w.heap.size + 1, 1, none⟩ = some (.int .i64 ((b1 : Nat))) := B6.cell 1; have e62 : w3.cell? ⟨w.heap.size + 1, 2, none⟩ = some (.int .i64 ((b2 : Nat))) := B6.cell 2)
              | (go_at_call 26; refine (hp1 _ hbw1).mono ?_; rintro e w2 ⟨A2, c2, rfl, hr2, hb2⟩; have B3 := B2.below' hb2; have B4 := B1.below' hb2)
              | (go_at_call 27; refine (hsp _ _ _ _ _ ?_ ?_).mono ?_; (exact hr2.below hb3); (exact hr3); rintro e w4 ⟨rfl, rfl⟩)
              | ((with_reducible show wpList _ _ _ (Oper.mk _ (Op.load _ _) _ _ _ _ :: _) _ _); first | refine wpList_ld rfl 46 _ rfl stHead' (w.heap.size + 1) rfl _ _ B3 rfl ?_ | refine wpList_ld rfl 46 _ rfl stHead' w.heap.size rfl _ _ B1 rfl ?_))
            go_ret
            exact ⟨rfl, hbw1.trans ((hb2.trans (hb3.mono hb2.size)).mono hbw1.size)⟩
        · rcases hd with ⟨rfl, rfl, rfl, rfl, rfl⟩ | ⟨rfl, rfl, rfl, rfl, rfl⟩
          all_goals
            go_enter Try.func5, Try.ntmps5
            go_wp2_with (first
              | (go_at_call 22; refine (known_any _).mono ?_; rintro e w1 ⟨rfl, hb1⟩; obtain ⟨hbw1, B1, B2⟩ := two_blks hb1; clear hb1)
              | (go_at_call 26; have _h := B3; refine (hp2 _ (hbw1.trans (hb2.mono hbw1.size))).mono ?_; rintro e w3 ⟨A3, c3, rfl, hr3, hb3⟩; have B5 := B4.below' hb3; have B6 := B3.below' hb3; have e50 : w3.cell? ⟨w.heap.size, 0, none⟩ = some (.int .u64 ((s1 : Nat))) := B5.cell 0; have e51 : w3.cell? ⟨w.heap.size, 1, none⟩ = some (.int .i64 ((a1 : Nat))) := B5.cell 1; have e52 : w3.cell? ⟨w.heap.size, 2, none⟩ = some (.int .i64 ((a2 : Nat))) := B5.cell 2; have e60 : w3.cell? ⟨w.heap.size + 1, 0, none⟩ = some (.int .u64 ((s2 : Nat))) := B6.cell 0; have e61 : w3.cell? ⟨w.heap.size + 1, 1, none⟩ = some (.int .i64 ((b1 : Nat))) := B6.cell 1; have e62 : w3.cell? ⟨w.heap.size + 1, 2, none⟩ = some (.int .i64 ((b2 : Nat))) := B6.cell 2)
              | (go_at_call 26; refine (hp1 _ hbw1).mono ?_; rintro e w2 ⟨A2, c2, rfl, hr2, hb2⟩; have B3 := B2.below' hb2; have B4 := B1.below' hb2)
              | (go_at_call 27; have _h := hmark; refine (hsp _ _ _ _ _ ?_ ?_).mono ?_; (exact hr2.below hb3); (exact hr3); rintro e w4 ⟨rfl, rfl⟩)
              | (go_at_call 27; refine (hsm _ ?_ ?_).mono ?_; (first | exact hx.below (hbw1.trans ((hb2.trans (hb3.mono hb2.size)).mono hbw1.size))); (first | exact hy.below (hbw1.trans ((hb2.trans (hb3.mono hb2.size)).mono hbw1.size))); rintro e w4 ⟨rfl, rfl⟩; have hmark : True := trivial)
              | ((with_reducible show wpList _ _ _ (Oper.mk _ (Op.load _ _) _ _ _ _ :: _) _ _); first | refine wpList_ld rfl 46 _ rfl stHead' (w.heap.size + 1) rfl _ _ B3 rfl ?_ | refine wpList_ld rfl 46 _ rfl stHead' w.heap.size rfl _ _ B1 rfl ?_))
            go_ret
            exact ⟨rfl, hbw1.trans ((hb2.trans (hb3.mono hb2.size)).mono hbw1.size)⟩
      · have f1 : ((k2 : Int) == 0) = false := by rw [beq_eq_false_iff_ne]; omega
        have f2 : ((k2 : Int) != 0) = true := by rw [bne_iff_ne]; omega
        have f3 : ((P1.length : Int) == 0) = false := by rw [beq_eq_false_iff_ne]; omega
        clear hk2 hP1 hL1 hR1 hR2 hlong
        go_enter Try.func5, Try.ntmps5
        go_wp2_with (first
          | (go_at_call 22; refine (known_any _).mono ?_; rintro e w1 ⟨rfl, hb1⟩; obtain ⟨hbw1, B1, B2⟩ := two_blks hb1; clear hb1)
          | (go_at_call 26; have _h := B3; refine (hp2 _ (hbw1.trans (hb2.mono hbw1.size))).mono ?_; rintro e w3 ⟨A3, c3, rfl, hr3, hb3⟩)
          | (go_at_call 26; refine (hp1 _ hbw1).mono ?_; rintro e w2 ⟨A2, c2, rfl, hr2, hb2⟩; have B3 := B2.below' hb2; have B4 := B1.below' hb2)
          | ((with_reducible show wpList _ _ _ (Oper.mk _ (Op.load _ _) _ _ _ _ :: _) _ _); first | refine wpList_ld rfl 46 _ rfl stHead' (w.heap.size + 1) rfl _ _ B3 rfl ?_ | refine wpList_ld rfl 46 _ rfl stHead' w.heap.size rfl _ _ B1 rfl ?_))
        go_ret
        exact ⟨rfl, hbw1.trans ((hb2.trans (hb3.mono hb2.size)).mono hbw1.size)⟩
    · obtain rfl := pageR_bad hR1 hk1
      have f1 : ((k1 : Int) == 0) = false := by rw [beq_eq_false_iff_ne]; omega
      have f2 : ((k1 : Int) != 0) = true := by rw [bne_iff_ne]; omega
      clear hk1 hR1 hR2 hlong
      go_enter Try.func5, Try.ntmps5
      go_wp2_with (first
        | (go_at_call 22; refine (known_any _).mono ?_; rintro e w1 ⟨rfl, hb1⟩; obtain ⟨hbw1, B1, B2⟩ := two_blks hb1; clear hb1)
        | (go_at_call 26; have _h := B3; refine (hp2 _ (hbw1.trans (hb2.mono hbw1.size))).mono ?_; rintro e w3 ⟨A3, c3, rfl, hr3, hb3⟩)
        | (go_at_call 26; refine (hp1 _ hbw1).mono ?_; rintro e w2 ⟨A2, c2, rfl, hr2, hb2⟩; have B3 := B2.below' hb2; have B4 := B1.below' hb2)
        | ((with_reducible show wpList _ _ _ (Oper.mk _ (Op.load _ _) _ _ _ _ :: _) _ _); first | refine wpList_ld rfl 46 _ rfl stHead' (w.heap.size + 1) rfl _ _ B3 rfl ?_ | refine wpList_ld rfl 46 _ rfl stHead' w.heap.size rfl _ _ B1 rfl ?_))
      go_ret
      exact ⟨rfl, hbw1.trans ((hb2.trans (hb3.mono hb2.size)).mono hbw1.size)⟩
end Go.Proofs.Ytppfjdohajomoaa
