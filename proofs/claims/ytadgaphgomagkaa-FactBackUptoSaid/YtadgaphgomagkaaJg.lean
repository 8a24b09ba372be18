/- FactBack: the walk. -/
import Derived.Test.YtadgaphgomagkaaJf
import Derived.Test.YtadgaphgomagkaaLr
import Derived.Test.YtadgaphgomagkaaLt
namespace Go.Proofs.Ytadgaphgomagkaa
open Go.RowKit
set_option maxHeartbeats 8000000
set_option maxRecDepth 100000

theorem buildR_long (l : List FM) (block : Int) (hr : rightF l = true) (h1 : 1 ≤ block) (h2 : block ≤ 1048576) (h : (buildR l block).2 ≠ 0) : (buildR l block).2 = 3 := by
  unfold buildR at *
  rw [if_neg (by omega)] at *
  rw [if_neg (by simp [hr])] at *
  split at h
  · rename_i h3; rw [if_pos h3]
  · simp at h
def blkOf (block : Int) : Int := if block < 1 ∨ 1048576 < block then 100 else block
theorem blkOf_in (block : Int) : 1 ≤ blkOf block ∧ blkOf block ≤ 1048576 := by unfold blkOf; split <;> omega
theorem factBack_any (w : World) (A : Option Addr) (c : Nat) (l : List FM) (block : Int) (lo up : ByteArray) (hr : Rd w A (fcells l)) (hok : ∀ f ∈ l, f.ok w) (hl : l.length ≤ 1048576) (hs : lo.size + up.size ≤ 4611686018427387904) :
    Calls Try.prog 10 #[.slice A l.length c, .int .i64 block, .string lo, .string up] w fun e w' => e = .returned (.bool true) ∧ Below w.heap.size w w' := by
  go_enter Try.func10, Try.ntmps10
  go_wp2_with fail
  refine (known11_any w).mono ?_
  rintro e w1 ⟨rfl, hb1⟩
  have hr1 := hr.below hb1
  have hok1 := fun f hf => (hok f hf).below hb1
  have hfew := few_any A c l 400 w1 hr1 hok1 hl
  have hbl := fun h b => buildR_le l b 400 h (by decide)
  have hfl : fewF l 400 = true → l.length ≤ 400 := fun h => by simp only [fewF, Bool.and_eq_true, decide_eq_true_eq] at h; omega
  rw [show ((400 : Nat) : Int) = 400 from rfl] at hbl
  generalize fewF l 400 = fw at *
  go_wp2_with fail
  refine hfew.mono ?_
  rintro e w2 ⟨rfl, hb2⟩
  clear hfew
  have hb02 := hb1.trans (hb2.mono hb1.size)
  have hr2 := hr1.below hb2
  have hok2 := fun f hf => (hok1 f hf).below hb2
  clear hr hok hr1 hok1 hb1 hb2
  cases fw with
  | false =>
    go_wp2_with fail
    go_ret
    exact ⟨rfl, hb02⟩
  | true =>
    replace hbl := hbl rfl
    replace hfl := hfl rfl
    have hri := refRight_any A c l w2 hr2 hl
    cases hrl : rightF l with
    | false =>
      rw [hrl] at hri
      go_wp2_with fail
      refine hri.mono ?_
      rintro e w3 ⟨rfl, hb3⟩
      go_wp2_with fail
      go_ret
      exact ⟨rfl, hb02.trans (hb3.mono hb02.size)⟩
    | true =>
      rw [hrl] at hri
      go_wp2_with fail
      refine hri.mono ?_
      rintro e w3 ⟨rfl, hb3⟩
      clear hri
      have hb03 := hb02.trans (hb3.mono hb02.size)
      have hr3 := hr2.below hb3
      have hok3 := fun f hf => (hok2 f hf).below hb3
      clear hr2 hok2 hb02 hb3
      obtain ⟨n, hn⟩ : ∃ n, lo.size + up.size = n := ⟨_, rfl⟩
      have kw : IntKind.i64.wrap ((lo.size : Int) + (up.size : Int)) = (n : Int) := by rw [IntWalk.i64_in _ (by omega)]; omega
      by_cases hlong : 5000 < n
      · have k1 : (5000 : Int) < (n : Int) := by omega
        clear hlong hn
        go_wp2_with fail
        go_ret
        exact ⟨rfl, hb03⟩
      have k1 : ¬ (5000 : Int) < (n : Int) := by omega
      clear hlong hn
      obtain ⟨bA, hbA⟩ : ∃ bA, decide (block < 1 ∨ 1048576 < block) = bA := ⟨_, rfl⟩
      have HBA := Lib.hid hbA
      clear hbA
      go_upto_region 5 with fail
      go_cut [36] (fun s36 wx => s36 = .bool bA ∧ w3 = wx)
      case first =>
        by_cases h1 : block < 1
        · go_wp2_with fail
          go_meet
          exact ⟨by rw [← HBA.out, decide_eq_true (.inl h1)], rfl⟩
        · by_cases h2 : 1048576 < block
          · go_wp2_with fail
            go_meet
            exact ⟨by rw [← HBA.out, decide_eq_true (.inr h2)], rfl⟩
          · go_wp2_with fail
            go_meet
            exact ⟨by rw [← HBA.out, decide_eq_false (by omega)], rfl⟩
      case rest =>
      obtain ⟨rfl, rfl⟩ := hcut
      obtain ⟨bk, hbk⟩ : ∃ bk, blkOf block = bk := ⟨_, rfl⟩
      have hbi := blkOf_in block
      rw [hbk] at hbi
      have HBK := Lib.hid hbk
      clear hbk
      go_upto_if 36 with fail
      go_cut [1] (fun s1 wx => s1 = .int .i64 bk ∧ w3 = wx)
      case first =>
        cases bA with
        | true =>
          have h := of_decide_eq_true HBA.out
          go_wp2_with fail
          go_meet
          exact ⟨by rw [← HBK.out, blkOf, if_pos h], rfl⟩
        | false =>
          have h := of_decide_eq_false HBA.out
          go_wp2_with fail
          go_meet
          exact ⟨by rw [← HBK.out, blkOf, if_neg h], rfl⟩
      case rest =>
      obtain ⟨rfl, rfl⟩ := hcut
      clear HBA HBK k1 kw
      have hbu := fbuild_any A c l bk w3 hr3 hok3 hl
      replace hbl := hbl bk
      have hlong := buildR_long l bk hrl hbi.1 hbi.2
      have hob := open_build l bk (fun f hf => (hok3 f hf).seq) (by omega) (by omega)
      generalize buildR l bk = R at *
      obtain ⟨b, er⟩ := R
      simp only at hbl hob hlong
      go_wp2_with fail
      refine hbu.mono ?_
      rintro e w4 ⟨A4, c4, rfl, ho4, hb4⟩
      clear hbu
      have hb04 := hb03.trans (hb4.mono hb03.size)
      simp only at ho4 ⊢
      by_cases her : er = 0
      · subst her
        replace hob := hob rfl
        have hop := open_any A4 c4 b w4 (Rd.of_own ho4) (own_cap ho4).1 (by omega) fun ad h => ((own_cap ho4).2.2 ad h).2
        rw [hob] at hop
        clear hlong hob
        go_wp2_with fail
        refine hop.mono ?_
        rintro e w5 ⟨hb5, h5 | ⟨_, g, At, ct, L, rfl, hL, hBg, hg, hF⟩⟩
        · exact absurd rfl h5.1
        clear hop
        have hb05 := hb04.trans (hb5.mono hb04.size)
        have hb35 := hb4.trans (hb5.mono hb4.size)
        simp only at hL
        have hlk := looks_any g At ct L A c l lo up w5 ⟨hBg, Rd.of_own hF.own, (own_cap hF.own).1⟩ (fun ad h => ((own_cap hF.own).2.2 ad h).2) hF.ok (fun f hf ad h => (hF.lo f hf ad h).2) (hr3.below hb35) (fun f hf => (hok3 f hf).below hb35) hL (by rw [← rightF_fv, hL, rightF_fv]; exact hrl) hfl
        clear ho4 hL hBg hF hr3 hok3 hb5 hb4
        go_wp2_with fail
        refine hlk.mono ?_
        rintro e w6 ⟨rfl, hb6⟩
        go_wp2_with fail
        go_ret
        exact ⟨rfl, hb05.trans (hb6.mono hb05.size)⟩
      · obtain rfl : er = 3 := hlong her
        clear hlong hob
        go_wp2_with fail
        go_ret
        exact ⟨rfl, hb04⟩
end Go.Proofs.Ytadgaphgomagkaa
