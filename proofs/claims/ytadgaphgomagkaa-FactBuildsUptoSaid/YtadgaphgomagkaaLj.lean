/- FactBuilds: the walk. -/
import Derived.Test.YtadgaphgomagkaaLi
import Derived.Test.YtadgaphgomagkaaKo
namespace Go.Proofs.Ytadgaphgomagkaa
open Go.RowKit
set_option maxHeartbeats 4000000
set_option maxRecDepth 100000

theorem factBuilds_any (w : World) (A : Option Addr) (c : Nat) (l : List FM) (block : Int) (hr : Rd w A (fcells l)) (hok : ∀ f ∈ l, f.ok w) (hl : l.length ≤ 1048576) :
    Calls Try.prog 5 #[.slice A l.length c, .int .i64 block] w fun e w' => e = .returned (.bool true) ∧ Below w.heap.size w w' := by
  go_enter Try.func5, Try.ntmps5
  go_wp2_with fail
  refine (known11_any w).mono ?_
  rintro e w1 ⟨rfl, hb1⟩
  have hr1 := hr.below hb1
  have hok1 := fun f hf => (hok f hf).below hb1
  have hfew := few_any A c l 400 w1 hr1 hok1 hl
  generalize fewF l 400 = fw at *
  go_wp2_with fail
  refine hfew.mono ?_
  rintro e w2 ⟨rfl, hb2⟩
  clear hfew
  have hb02 := hb1.trans (hb2.mono hb1.size)
  have hr2 := hr1.below hb2
  have hok2 := fun f hf => (hok1 f hf).below hb2
  cases fw with
  | false =>
    go_wp2_with fail
    go_ret
    exact ⟨rfl, hb02⟩
  | true =>
    have hbu := fbuild_any A c l block w2 hr2 hok2 hl
    clear hr hr1 hok hok1 hb1 hb2
    go_wp2_with fail
    refine hbu.mono ?_
    rintro e w3 ⟨A3, c3, rfl, ho3, hb3⟩
    clear hbu
    have hbr := refBuild_any A c l block w3 (hr2.below hb3) (fun f hf => (hok2 f hf).below hb3) hl
    go_wp2_with fail
    refine hbr.mono ?_
    rintro e w4 ⟨A4, c4, rfl, ho4, hb4⟩
    clear hbr
    have h3 := conv_bytes w4 A3 c3 _ ((Rd.of_own ho3).below hb4)
    have h4 := conv_bytes w4 A4 c4 _ (Rd.of_own ho4)
    have hbx := hb02.trans ((hb3.trans (hb4.mono hb3.size)).mono hb02.size)
    clear ho3 ho4 hr2 hok2
    generalize buildR l block = R at *
    obtain ⟨b, er⟩ := R
    simp only at h3 h4
    go_wp2_with fail
    go_ret
    exact ⟨rfl, hbx⟩
end Go.Proofs.Ytadgaphgomagkaa
