/- Numbers with bytes behind them, records: written and read. -/
import Derived.Test.YtadgaphgomagkaaFh
namespace Go.Proofs.Ytadgaphgomagkaa
open Go.RowKit
set_option maxHeartbeats 1000000
set_option maxRecDepth 100000

theorem bytes_any (A B : Option Addr) (c d : Nat) (l : List UInt8) (ps : List Sb) (w : World) (hr : Rd w A (byts l)) (hl : l.length ≤ c) (hp : Rd w B (ps.map Sb.val)) (hpl : ps.length ≤ 5864062014806)
    (hok : ∀ s ∈ ps, s.ok w) (hsum : l.length + 10 + (flat ps).length ≤ 140737488351232) :
    Calls Try.prog 61 #[.slice A l.length c, .slice B ps.length d] w fun e w' => ∃ A' c', e = .returned (.slice A' (l ++ (numB (flat ps).length ++ flat ps)).length c') ∧
      w'.ownsRow w.heap.size 5 1 (.slice A' (l ++ (numB (flat ps).length ++ flat ps)).length c') (l ++ (numB (flat ps).length ++ flat ps)).length (byts (l ++ (numB (flat ps).length ++ flat ps))) ∧ Below w.heap.size w w' := by
  have hN10 := (numF_length 9 (flat ps).length).1
  go_enter Try.func61, Try.ntmps61
  go_wp2
  go_loop [5, 12] (fun n i => ∃ k : Nat, k ≤ ps.length ∧ i = .int .i64 k ∧ n = .int .i64 ((flat (ps.take k)).length : Nat)) (fun _ i => ps.length - (intOf i).toNat)
  case atStart => exact ⟨0, by omega, rfl, rfl⟩
  case round =>
    obtain ⟨k, hk, rfl, rfl⟩ := hrel
    have hle := flat_take_le ps (k + 1)
    by_cases hlt : k < ps.length
    · obtain ⟨ad, rfl, hba, hcell⟩ := hp.at_ (k := k) (by simpa using hlt)
      have hc1 : w.cell? (ad.add k) = some (ps[k]).val := by rw [hcell]; simp
      have hft := flat_take ps k hlt
      generalize ps[k] = p at *
      obtain ⟨Ap, cp, lp⟩ := p
      simp only [Sb.val] at *
      have hlen : (flat (ps.take (k + 1))).length = (flat (ps.take k)).length + lp.length := by rw [hft, List.length_append]
      have HL := Lib.hid hlen
      rw [hlen] at hle
      clear hft hlen hcell
      generalize (flat (ps.take k)).length = n at *
      go_wp2
      go_round
      case rel => exact ⟨k + 1, by omega, by go_num, by rw [HL.out]; rfl⟩
      case measure => simp [intOf]; omega
    · obtain rfl : k = ps.length := by omega
      clear hle hlt hk
      rw [List.take_length]
      have hnum := number_any A c (flat ps).length l w hr hl (by omega) (by omega)
      generalize hFN : (flat ps).length = N at *
      have HFN := Lib.hid hFN
      have hle2 : (l ++ numB N).length ≤ l.length + 10 := by rw [List.length_append]; unfold numB; omega
      clear hFN
      generalize hP : l ++ numB N = P at *
      have HP := Lib.hid hP
      clear hP
      go_wp2_with (go_at_call 62; refine hnum.mono ?_; rintro e w1 ⟨A1, c1, rfl, ho1, hb1⟩)
      clear hnum
      go_loopw [0, 27] (fun b i wr => ∃ (k : Nat) (A' : Option Addr) (c' : Nat), k ≤ ps.length ∧ i = .int .i64 k ∧ b = .slice A' (P.length + (flat (ps.take k)).length) c' ∧
        wr.ownsRow w.heap.size 5 1 (.slice A' (P.length + (flat (ps.take k)).length) c') (P.length + (flat (ps.take k)).length) (byts P ++ byts (flat (ps.take k))) ∧ Below w.heap.size w wr) (fun _ i _ => ps.length - (intOf i).toNat)
      case atStart => exact ⟨0, A1, c1, by omega, rfl, rfl, by simpa [flat, byts] using ho1, hb1⟩
      case round =>
        obtain ⟨k, A', c', hk, rfl, rfl, ho, hb⟩ := hrel
        have hsz := hb.size
        have hpr := hp.below hb
        have hokr : ∀ s ∈ ps, s.ok wr := fun s hs => Sb.ok_below (hok s hs) hb
        by_cases hlt : k < ps.length
        · obtain ⟨ad, rfl, hba, hcell⟩ := hpr.at_ (k := k) (by simpa using hlt)
          have hc1 : wr.cell? (ad.add k) = some (ps[k]).val := by rw [hcell]; simp
          have hft := flat_take ps k hlt
          have hle := flat_take_le ps (k + 1)
          obtain ⟨hpr1, hpl1, hpc1⟩ := hokr _ (List.getElem_mem hlt)
          generalize ps[k] = p at *
          obtain ⟨Ap, cp, lp⟩ := p
          simp only [Sb.val] at *
          have hlen : (flat (ps.take (k + 1))).length = (flat (ps.take k)).length + lp.length := by rw [hft, List.length_append]
          rw [HFN.out, hlen] at hle
          have HL := Lib.hid hlen
          have HF := Lib.hid hft
          have ho' : wr.ownsRow w.heap.size 5 1 (.slice A' (P.length + (flat (ps.take k)).length) c') (P.length + (flat (ps.take k)).length) (byts P ++ byts (flat (ps.take k))) := ho
          clear hft hlen hcell ho
          generalize hn : (flat (ps.take k)).length = n at *
          have HN := Lib.hid hn
          clear hn
          go_wp2_with (first | (at_builtin; refine wpList_app _ rfl _ _ rfl slB w.heap.size (.slice A' (P.length + n) c') (P.length + n) (byts P ++ byts (flat (ps.take k))) rfl ho' Ap lp.length cp (byts lp) rfl (by rw [byts_length, Nat.mul_one]) hpr1 (byts_one _) (by unfold maxLen; omega) (by omega) (by omega) ?_; intro A2 c2 w2 ho2 hg2))
          have hbb := hg2.under ho' (Nat.le_refl _) hsz
          go_roundw
          case rel =>
            refine ⟨k + 1, A2, c2, by omega, by go_num, by rw [HL.out, Nat.add_assoc], ?_, hb.trans hbb⟩
            rw [HL.out, HF.out, byts_append, ← List.append_assoc, ← Nat.add_assoc]
            exact ho2
          case measure => simp [intOf]; omega
        · obtain rfl : k = ps.length := by omega
          rw [List.take_length] at ho ⊢
          have hE : l ++ (numB (flat ps).length ++ flat ps) = P ++ flat ps := by rw [HFN.out, ← HP.out, List.append_assoc]
          have hEl : (P ++ flat ps).length = P.length + (flat ps).length := List.length_append
          have HE := Lib.hid hE
          have HEl := Lib.hid hEl
          clear hE hEl hpr hokr
          go_wp2
          go_ret
          refine ⟨A', c', ?_, ?_, hb⟩
          · rw [HE.out, HEl.out]; rfl
          · rw [HE.out, HEl.out, byts_append]; exact ho

theorem refBytes_any (A B : Option Addr) (c d m base : Nat) (xs : List Value) (x : List UInt8) (w : World) (hown : w.ownsRow base 5 1 (.slice A m c) m xs) (hb : base ≤ w.heap.size) (hr : Rd w B (byts x)) (hbl : ∀ ad, B = some ad → ad.block < base)
    (hx : x.length ≤ 140737488351232) (hsum : m + 10 + x.length ≤ 140737488355328) :
    Calls Try.prog 66 #[.slice A m c, .slice B x.length d] w fun e w' => ∃ A' c', e = .returned (.slice A' (m + (numB x.length).length + x.length) c') ∧
      w'.ownsRow base 5 1 (.slice A' (m + (numB x.length).length + x.length) c') (m + (numB x.length).length + x.length) (xs ++ byts (numB x.length) ++ byts x) ∧ Grew w w' (.slice A m c) (.slice A' (m + (numB x.length).length + x.length) c') := by
  have hnum := refNumber_any A c x.length m base xs w hown hb (by omega) (by omega)
  have hN10 : (numB x.length).length ≤ 10 := (numF_length 9 x.length).1
  generalize numB x.length = N at *
  go_enter Try.func66, Try.ntmps66
  go_wp2_with (first
    | (go_at_call 67; refine hnum.mono ?_; rintro e w1 ⟨A1, c1, rfl, ho1, hg1⟩)
    | (at_builtin; refine wpList_app _ rfl _ _ rfl slB base (.slice A1 (m + N.length) c1) (m + N.length) (xs ++ byts N) rfl ho1 B x.length d (byts x) rfl (by rw [byts_length, Nat.mul_one]) (hr.keepB hg1 hown hbl) (byts_one _) (by unfold maxLen; omega) (by omega) (by have := hg1.grown.size; omega) ?_; intro A2 c2 w2 ho2 hg2))
  go_ret
  exact ⟨A2, c2, rfl, ho2, hg1.trans hg2⟩
end Go.Proofs.Ytadgaphgomagkaa
