/- The log's device: a cut. -/
import Derived.Test.YtadgaphgomagkaaVf
import Derived.Test.YtadgaphgomagkaaVq
namespace Go.Proofs.Ytadgaphgomagkaa
open Go.RowKit
set_option maxHeartbeats 4000000
set_option maxRecDepth 100000

theorem cut_any (w : World) (B D P G : Nat) (kept : List UInt8) (L : List (Nat × UInt8)) (us : List Un) (uA : Option Addr) (uc : Nat) (h : NvAt w B D P G (app kept L) us uA uc) (l : Link kept L us) (hbl : kept.length ≤ 67108864) (hL : L.length ≤ 2000000) (A : Option Addr) (c : Nat) (p : List Int) (hp : Rd w A (ints p)) (hpx : ∀ x ∈ p, x ≤ 9223372036854775807) :
    Calls Try.prog 24 #[.pointer (some ⟨D, 0, none⟩), .slice A p.length c] w fun e w' => e = .returned (.tuple #[]) ∧ NvAt w' B D P G (app kept (L.take (keptW p L.length))) [] none 0 ∧ Chg (fun j => j = G ∨ j = D) w w' := by
  have c2 := h.c2
  have c2d := h.drew.c2
  have hll := l.len
  have hk0 := keptW_le p L.length
  go_enter Try.func24, Try.ntmps24
  go_upto_region 1 with fail
  go_cut [14] (fun s14 wx => s14 = .bool (firstPos p) ∧ w = wx)
  case first =>
    by_cases hn : p.length = 0
    · have hn1 : decide (0 < p.length) = false := decide_eq_false (by omega)
      have hfp := firstPos_nil hn
      clear hn
      go_wp2_with fail
      go_meet
      exact ⟨by rw [hfp], rfl⟩
    · obtain ⟨la, rfl, _, hcell⟩ := hp.at_ (k := 0) (by simp [ints]; omega)
      simp only [ints, List.getElem_map] at hcell
      have hc0 : w.cell? la = some (.int .i64 p[0]) := by rw [← hcell]; congr 1
      have hn1 : (0 : Int) < (p.length : Int) := by omega
      have hfp := firstPos_at (p := p) (by omega)
      generalize p[0] = x at *
      clear hcell
      by_cases hx : 0 ≤ x
      · go_wp2_with fail
        go_meet
        exact ⟨by rw [hfp]; simp [hx], rfl⟩
      · go_wp2_with fail
        go_meet
        exact ⟨by rw [hfp]; simp [hx], rfl⟩
  case rest =>
    obtain ⟨rfl, rfl⟩ := hcut
    go_upto_if 14 with fail
    go_cut [4] (fun s4 wx => s4 = .int .i64 (keptW p L.length : Nat) ∧ (wx = w ∨ ∃ n, wx = w.drewN n))
    case first =>
      by_cases hb : firstPos p = true
      · have hk := keptW_true hb L.length
        have hpl := firstPos_len hb
        obtain ⟨la, rfl, _, hcell⟩ := hp.at_ (k := 0) (by simpa [ints] using hpl)
        simp only [ints, List.getElem_map] at hcell
        have hc0 : w.cell? la = some (.int .i64 p[0]) := by rw [← hcell]; congr 1
        have hn1 : (0 : Int) < (p.length : Int) := by omega
        have hfp := firstPos_at (p := p) (by omega)
        have hxm := hpx p[0] (List.getElem_mem (by omega))
        rw [hb] at hfp ⊢
        have hx : 0 ≤ p[0] := by simpa using hfp.symm
        generalize p[0] = x at *
        clear hcell hfp
        obtain ⟨y, rfl⟩ : ∃ y : Nat, x = (y : Int) := ⟨x.toNat, by omega⟩
        simp only [Int.toNat_natCast] at hk
        have hq : Int.tmod (y : Int) ((us.length : Int) + 1) = ((y % (L.length + 1) : Nat) : Int) := by
          rw [hll, Int.tmod_eq_emod_of_nonneg (by omega)]; push_cast; rfl
        have HK := Lib.hid hk
        have HLL := Lib.hid hll
        clear hll hk
        generalize y % (L.length + 1) = q at *
        have hul : us.length ≤ 2000000 := by rw [HLL.out]; omega
        go_wp2_with fail
        go_quiet (fail)
        go_wp2_with fail
        go_meet
        exact ⟨by rw [HK.out], .inr ⟨_, rfl⟩⟩
      · have hb0 : firstPos p = false := by simpa using hb
        rw [hb0]
        go_wp2_with fail
        go_meet
        refine ⟨?_, .inl rfl⟩
        rw [keptW_false hb0]; rfl
    case rest =>
      obtain ⟨rfl, hwx⟩ := hcut
      obtain ⟨h3, hc3⟩ : NvAt wc B D P G (app kept L) us uA uc ∧ Chg (fun j => j = G ∨ j = D) w wc := by
        rcases hwx with rfl | ⟨n, rfl⟩
        · exact ⟨h, Chg.refl _ _⟩
        · exact ⟨h.below (below_drewN (Below.refl _ _) n), Chg.of_below (below_drewN (Below.refl _ _) n)⟩
      clear hwx h c2 c2d hp
      have hq := hk0
      generalize hqe : keptW p L.length = q at *
      have HQ := Lib.hid hqe
      clear hqe
      have c2 := h3.c2
      have hul : us.length ≤ 2000000 := by omega
      have HLL := Lib.hid hll
      clear hll
      have h3' : NvAt wc B D P G (app kept (L.take us.length)) us uA uc := by rw [HLL.out, List.take_length]; exact h3
      clear h3
      go_wp2_with fail
      go_loopg [5] us.length (fun m s5 wr => ∃ (j : Nat), m = 0 + j ∧ j ≤ us.length ∧ q ≤ j ∧ s5 = .int .i64 ((j : Int) - 1) ∧ NvAt wr B D P G (app kept (L.take j)) us uA uc ∧ Chg (fun j => j = G ∨ j = D) w wr)
      case atStart => exact ⟨us.length, by omega, Nat.le_refl _, by rw [HLL.out]; exact hq, rfl, h3', hc3⟩
      case round =>
        clear h3' hc3 c2
        obtain ⟨j, rfl, hj, hqj, rfl, h4, hc4⟩ := hrel
        have c2 := h4.c2
        by_cases hlt : q < j
        · obtain ⟨i, rfl⟩ : ∃ i, j = i + 1 := ⟨j - 1, by omega⟩
          have hi : i < us.length := by omega
          obtain ⟨ad, rfl, _, hcell⟩ := (Rd.of_own h4.row).at_ (k := i) (by simpa using hi)
          have hun := undo_any wr B D P G _ us (some ad) uc h4 (by rw [app_length]; exact hbl) us[i] (h4.ok _ (List.getElem_mem hi)) (by
            have hi' : i < L.length := by rw [← HLL.out]; exact hi
            rw [app_length, l.pos i hi hi']; exact l.lt _ (List.getElem_mem hi'))
          rw [l.undo i hi] at hun
          rw [List.getElem_map] at hcell
          unfold Un.val at hcell
          have e1 : ((i + 1 : Nat) : Int) - 1 = (i : Int) := by omega
          rw [e1]
          have r1 : (q : Int) ≤ (i : Int) := by omega
          have r2 : (i : Int) < (us.length : Int) := by omega
          go_wp2_with fail
          refine hun.mono ?_
          rintro e w5 ⟨rfl, h5, hc5⟩
          have hc5' : Chg (fun j => j = G ∨ j = D) wr w5 := hc5.mono fun k _ hk => .inl hk
          clear hun hcell h4 c2
          go_wp2_with fail
          go_roundg (0 + i)
          case measure => omega
          case rel => exact ⟨i, rfl, by omega, by omega, by go_num, h5, hc4.trans hc5'⟩
        · obtain rfl : j = q := by omega
          have r1 : ¬ (j : Int) ≤ (j : Int) - 1 := by omega
          have f2 := h4.dev.frozen 2
          go_wp2_with fail
          go_end0
          rw [HQ.out]
          exact ⟨rfl, h4.wipe, hc4.trans ((Chg.set (S := fun k => k = D) (Chg.refl _ _) rfl _ _).mono fun k _ hk => .inr hk)⟩
end Go.Proofs.Ytadgaphgomagkaa
