/- The law of fronts of the log's device: its walk. -/
import Derived.Test.YtadgaphgomagkaaVo
namespace Go.Proofs.Ytadgaphgomagkaa
open Go.RowKit
set_option maxHeartbeats 8000000
set_option maxRecDepth 100000

theorem nvramFronts_any (w : World) (A1 A2 : Option Addr) (c1' c2' : Nat) (l1 l2 : List NAct) (pick : Int) (hr1 : Rd w A1 (acells l1)) (hok1 : ∀ a ∈ l1, a.ok w) (hl1 : l1.length ≤ 1048576) (hr2 : Rd w A2 (acells l2)) (hok2 : ∀ a ∈ l2, a.ok w) (hl2 : l2.length ≤ 1048576) (hpk : pick ≤ 9223372036854775807) :
    Calls Try.prog 3 #[.slice A1 l1.length c1', .slice A2 l2.length c2', .int .i64 pick] w fun e w' => e = .returned (.bool true) ∧ Below w.heap.size w w' := by
  go_enter Try.func3, Try.ntmps3
  go_wp2_with fail
  refine (known4_any w).mono ?_
  rintro e wk ⟨rfl, hbk⟩
  go_wp2_with fail
  refine (few_any wk A1 c1' l1 (hr1.below hbk) (fun a ha => (hok1 a ha).below hbk) (by omega)).mono ?_
  rintro e wa ⟨b1, rfl, hf1, hba⟩
  have hbka := hbk.trans (hba.mono hbk.size)
  cases b1 with
  | false =>
    go_wp2_with fail
    go_ret
    exact ⟨rfl, hbka⟩
  | true =>
  have hf1 := hf1 rfl
  go_wp2_with fail
  refine (few_any wa A2 c2' l2 (hr2.below hbka) (fun a ha => (hok2 a ha).below hbka) (by omega)).mono ?_
  rintro e w0 ⟨b2, rfl, hf2, hbb⟩
  have hb0 := hbka.trans (hbb.mono hbka.size)
  cases b2 with
  | false =>
    go_wp2_with fail
    go_ret
    exact ⟨rfl, hb0⟩
  | true =>
  have hf2 := hf2 rfl
  clear hbk hba hbka hbb
  go_wp2_with fail
  refine (newPower_any w0).mono ?_
  rintro e w1 ⟨rfl, hp1, hb1⟩
  go_wp2_with fail
  refine (nvNew_ok w1 w0.heap.size w0.heap.size 100 (by decide) (by decide) hb1.size false 0 0 _ hp1).mono ?_
  rintro e w2 ⟨D, G, rfl, hd2, ⟨dA, dc, hp2, ho2⟩, hG2, hc2⟩
  have hb2 : Below w0.heap.size w0 w2 := Chg.toBelow hc2 hb1 (fun k hk => by rw [show k = w0.heap.size from hk]; exact Nat.le_refl _) hb1.size
  have hS2 : NvS w2 w0.heap.size D w0.heap.size G (List.replicate 100 0) [] 0 := NvS.new hd2 hp2 (Nat.le_refl _) hb2.size (by simp)
  clear hd2 hp2 ho2 hc2 hp1 hb1
  go_wp2_with fail
  refine (refNew_ok w2 w0.heap.size G 100 (by decide) (by decide) hb2.size hS2.hasG.lt).mono ?_
  rintro e w3 ⟨R, rfl, hR3, hb3⟩
  have hT0 : Two w0 w3 w0.heap.size D w0.heap.size R G (List.replicate 100 0) [] 0 0 := ⟨⟨0, by omega, hS2.below hb3⟩, hR3, by simp, hb2.trans (hb3.mono hb2.size), by simp⟩
  clear hS2 hR3 hb3 hb2 hG2
  go_wp2_with fail
  go_loopg [11] l1.length (fun m s11 wr => ∃ (k : Nat) (L : List (Nat × UInt8)), m = l1.length - k ∧ k ≤ l1.length ∧ s11 = .int .i64 (k : Nat) ∧ Two w0 wr w0.heap.size D w0.heap.size R G (List.replicate 100 0) L 0 k)
  case atStart => exact ⟨0, [], rfl, by omega, rfl, hT0⟩
  case round =>
    clear hT0
    obtain ⟨k, L, rfl, hk, rfl, hT⟩ := hrel
    have hbw : Below w.heap.size w wr := hb0.trans (hT.bel.mono hb0.size)
    by_cases hlt : k < l1.length
    · have r1 : (k : Int) < (l1.length : Int) := by omega
      have hca : ∀ W, Below w.heap.size w W → ∃ ad, A1 = some ad ∧ W.cell? ⟨(ad.add (k * 5)).block, (ad.add (k * 5)).off + 1, none⟩ = some (.int .i64 l1[k].at_) ∧ W.cell? ⟨(ad.add (k * 5)).block, (ad.add (k * 5)).off + 3, none⟩ = some (.slice l1[k].A l1[k].l.length l1[k].c) := fun W hW => by
        obtain ⟨ad, e, _, c1, _, c3, _⟩ := acts_at (hr1.below hW) k hlt
        exact ⟨ad, e, c1, c3⟩
      have hok := hok1 _ (List.getElem_mem hlt)
      have hlc := hok.cap
      have hrl := hok.byt
      have hfw := hok.few
      clear hok
      obtain ⟨ad, hAe, c1, c3⟩ := hca wr hbw
      have hcb : ∀ W, Below w.heap.size w W → W.cell? ⟨(ad.add (k * 5)).block, (ad.add (k * 5)).off + 1, none⟩ = some (.int .i64 l1[k].at_) ∧ W.cell? ⟨(ad.add (k * 5)).block, (ad.add (k * 5)).off + 3, none⟩ = some (.slice l1[k].A l1[k].l.length l1[k].c) := fun W hW => by
        obtain ⟨ad', e, c1, c3⟩ := hca W hW
        rw [hAe] at e
        injection e with e
        subst e
        exact ⟨c1, c3⟩
      subst hAe
      have hfit := fun n => (two_fits hT l1[k].at_ (l1[k].l.length : Nat) (by omega) n).mono fun e w' h => And.intro h.1 h.2.symm
      have hAl : l1[k].l ≠ [] → ∀ ad', l1[k].A = some ad' → ad'.block < w0.heap.size := fun hne ad' e => by
        obtain ⟨a2, e2, hlt2, _⟩ := hrl.at_ (k := 0) (by rw [byts_length]; exact List.length_pos_iff.2 hne)
        rw [e] at e2; injection e2 with e2; subst e2
        have := hb0.size; omega
      clear hca
      generalize l1[k].at_ = a at *
      generalize l1[k].l = bl at *
      generalize l1[k].A = bA at *
      generalize l1[k].c = bc at *
      go_upto_region 12 with fail
      go_cut [60] (fun s60 wx => s60 = .bool (fitsB 100 a (bl.length : Nat)) ∧ Below wr.heap.size wr wx)
      case first =>
        generalize fitsB 100 a (bl.length : Nat) = fb at *
        clear hcb hT hbw hlc hrl hfw hAl
        go_quiet ((go_at_call 18; exact Calls.quiet_of_same (hfit _)))
        go_wp2_with fail
        go_meet
        exact ⟨rfl, below_drewN (Below.refl _ _) _⟩
      case rest =>
        obtain ⟨rfl, hbx⟩ := hcut
        have hT2 := hT.below hbx
        have hbw2 := hbw.trans (hbx.mono hbw.size)
        clear hT hbw hbx hfit c1 c3
        obtain ⟨w5, hw5⟩ : ∃ x, x = wc := ⟨wc, rfl⟩
        subst hw5
        have hwk : IntKind.i64.wrap ((k : Int) + 1) = ((k + 1 : Nat) : Int) := by rw [IntWalk.i64_in _ (by omega)]; omega
        by_cases hfb : fitsB 100 a (bl.length : Nat) = true
        · rw [hfb]
          obtain ⟨b, rfl, hb100⟩ := fits_cases hfb
          clear hfb
          go_upto_region 13 with fail
          go_cut [] (fun wx => Mid w0 wx w0.heap.size D w0.heap.size R G (List.replicate 100 0) L (L ++ puts b bl) 0 (k + 1))
          case first =>
            obtain ⟨x1, x3⟩ := hcb w5.drew hbw2.drew
            obtain ⟨y1, y3⟩ := hcb (w5.alloc (.cells #[.slice bA bl.length bc] 35)).drew (hbw2.alloc hbw2.size _).drew
            have hbz : Below w5.heap.size w5 (w5.alloc (.cells #[.slice bA bl.length bc] 35)).drew := ((Below.refl _ _).alloc (Nat.le_refl _) _).drew
            have hq : Rd (w5.alloc (.cells #[.slice bA bl.length bc] 35)).drew (some ⟨w5.heap.size, 0, none⟩) [.slice bA bl.length bc] := Rd.one w5 _ _
            have hrW := hrl.below (hbw2.alloc hbw2.size (.cells #[.slice bA bl.length bc] 35)).drew
            have hwc := two_write hT2 (by omega) hbz b bA _ bc bl hq hrW hlc hb100
            clear hcb hT2 hbw2 hrl hAl hfw hbz hq hrW
            go_region_law (go_simp; go_at_call 19; (with_reducible refine hwc.mono ?_); rintro e w6 ⟨rfl, hM⟩)
            all_goals ((try (simp only [List.getElem_toArray, List.getElem_cons_succ, List.getElem_cons_zero]; go_simp)); go_wp2_with fail; go_meet; exact hM)
          case rest =>
            have hM := hcut
            clear hcut
            have hbw3 : Below w.heap.size w wc := hb0.trans (hM.bel.mono hb0.size)
            obtain ⟨x1, x3⟩ := hcb wc.drew hbw3.drew
            have hrW := hrl.below hbw3.drew
            have hwc := mid_write hM hT2.len hT2.few (by omega) (Below.refl _ _).drew bA bc hrW hAl hb100
            clear hcb hT2 hbw2 hrl hAl hfw hM hbw3 hrW
            go_upto_region 14 with fail
            go_region_law (go_simp; go_at_call 20; (with_reducible refine hwc.mono ?_); rintro e w6 ⟨rfl, hT9⟩)
            all_goals ((try (simp only [List.getElem_toArray, List.getElem_cons_succ, List.getElem_cons_zero]; go_simp)); go_wp2_with fail; go_roundg (l1.length - (k + 1)); (case measure => omega); (case rel => exact ⟨k + 1, _, rfl, by omega, by go_num, hT9⟩))
        · have hfb0 : fitsB 100 a (bl.length : Nat) = false := by simpa using hfb
          rw [hfb0]
          clear hcb hfb hfb0
          go_wp2_with fail
          go_roundg (l1.length - (k + 1))
          case measure => omega
          case rel => exact ⟨k + 1, L, rfl, by omega, by go_num, hT2.next⟩
    · obtain rfl : k = l1.length := by omega
      have r1 : ¬ (l1.length : Int) < (l1.length : Int) := by omega
      clear hok1 hr1
      have hlen := hT.len
      obtain ⟨m, hm, hn⟩ := hT.nv
      have hL30 := hT.few
      go_wp2_with fail
      refine (s_persist hn (by omega)).mono ?_
      rintro e w5 ⟨rfl, hn5, hc5⟩
      have hb5 := hc5.after hT.bel hn.base
      obtain ⟨kA, kc, lA, lc, hrf5⟩ := hT.rf.keepN hn.hasG hc5
      have hpc := refPersist_ok w5 w0.heap.size R G _ L kA kc lA lc hrf5 (by rw [hlen]; decide) hn.lt (by omega) hn5.hasG.lt
      go_wp2_with fail
      refine hpc.mono ?_
      rintro e w6 ⟨rfl, ⟨kA6, kc6, hrf6⟩, hc6⟩
      have hT1 : Two w0 w6 w0.heap.size D w0.heap.size R G (app (List.replicate 100 0) L) [] 400 0 := ⟨⟨m + 1, by omega, hn5.keepR hc6⟩, ⟨kA6, kc6, none, 0, hrf6⟩, by simp, hc6.after hb5 hn5.base, by rw [app_length]; exact hlen⟩
      clear hpc hrf5 hb5 hc5 hc6 hrf6 hn5 hn hT hm hL30 hlen
      generalize app (List.replicate 100 0) L = kept at *
      go_wp2_with fail
      go_loopg [12] l2.length (fun m s12 wr => ∃ (k : Nat) (L : List (Nat × UInt8)), m = l2.length - k ∧ k ≤ l2.length ∧ s12 = .int .i64 (k : Nat) ∧ Two w0 wr w0.heap.size D w0.heap.size R G kept L 400 k)
      case atStart => exact ⟨0, [], rfl, by omega, rfl, hT1⟩
      case round =>
        clear hT1
        obtain ⟨k, L, rfl, hk, rfl, hT⟩ := hrel
        have hbw : Below w.heap.size w wr := hb0.trans (hT.bel.mono hb0.size)
        by_cases hlt : k < l2.length
        · have r1 : (k : Int) < (l2.length : Int) := by omega
          have hca : ∀ W, Below w.heap.size w W → ∃ ad, A2 = some ad ∧ W.cell? ⟨(ad.add (k * 5)).block, (ad.add (k * 5)).off + 1, none⟩ = some (.int .i64 l2[k].at_) ∧ W.cell? ⟨(ad.add (k * 5)).block, (ad.add (k * 5)).off + 3, none⟩ = some (.slice l2[k].A l2[k].l.length l2[k].c) := fun W hW => by
            obtain ⟨ad, e, _, c1, _, c3, _⟩ := acts_at (hr2.below hW) k hlt
            exact ⟨ad, e, c1, c3⟩
          have hok := hok2 _ (List.getElem_mem hlt)
          have hlc := hok.cap
          have hrl := hok.byt
          have hfw := hok.few
          clear hok
          obtain ⟨ad, hAe, c1, c3⟩ := hca wr hbw
          have hcb : ∀ W, Below w.heap.size w W → W.cell? ⟨(ad.add (k * 5)).block, (ad.add (k * 5)).off + 1, none⟩ = some (.int .i64 l2[k].at_) ∧ W.cell? ⟨(ad.add (k * 5)).block, (ad.add (k * 5)).off + 3, none⟩ = some (.slice l2[k].A l2[k].l.length l2[k].c) := fun W hW => by
            obtain ⟨ad', e, c1, c3⟩ := hca W hW
            rw [hAe] at e
            injection e with e
            subst e
            exact ⟨c1, c3⟩
          subst hAe
          have hfit := fun n => (two_fits hT l2[k].at_ (l2[k].l.length : Nat) (by omega) n).mono fun e w' h => And.intro h.1 h.2.symm
          have hAl : l2[k].l ≠ [] → ∀ ad', l2[k].A = some ad' → ad'.block < w0.heap.size := fun hne ad' e => by
            obtain ⟨a2, e2, hlt2, _⟩ := hrl.at_ (k := 0) (by rw [byts_length]; exact List.length_pos_iff.2 hne)
            rw [e] at e2; injection e2 with e2; subst e2
            have := hb0.size; omega
          clear hca
          generalize l2[k].at_ = a at *
          generalize l2[k].l = bl at *
          generalize l2[k].A = bA at *
          generalize l2[k].c = bc at *
          go_upto_region 20 with fail
          go_cut [108] (fun s108 wx => s108 = .bool (fitsB 100 a (bl.length : Nat)) ∧ Below wr.heap.size wr wx)
          case first =>
            generalize fitsB 100 a (bl.length : Nat) = fb at *
            clear hcb hT hbw hlc hrl hfw hAl
            go_quiet ((go_at_call 18; exact Calls.quiet_of_same (hfit _)))
            go_wp2_with fail
            go_meet
            exact ⟨rfl, below_drewN (Below.refl _ _) _⟩
          case rest =>
            obtain ⟨rfl, hbx⟩ := hcut
            have hT2 := hT.below hbx
            have hbw2 := hbw.trans (hbx.mono hbw.size)
            clear hT hbw hbx hfit c1 c3
            obtain ⟨w5, hw5⟩ : ∃ x, x = wc := ⟨wc, rfl⟩
            subst hw5
            have hwk : IntKind.i64.wrap ((k : Int) + 1) = ((k + 1 : Nat) : Int) := by rw [IntWalk.i64_in _ (by omega)]; omega
            by_cases hfb : fitsB 100 a (bl.length : Nat) = true
            · rw [hfb]
              obtain ⟨b, rfl, hb100⟩ := fits_cases hfb
              clear hfb
              go_upto_region 21 with fail
              go_cut [] (fun wx => Mid w0 wx w0.heap.size D w0.heap.size R G kept L (L ++ puts b bl) 400 (k + 1))
              case first =>
                obtain ⟨x1, x3⟩ := hcb w5.drew hbw2.drew
                obtain ⟨y1, y3⟩ := hcb (w5.alloc (.cells #[.slice bA bl.length bc] 35)).drew (hbw2.alloc hbw2.size _).drew
                have hbz : Below w5.heap.size w5 (w5.alloc (.cells #[.slice bA bl.length bc] 35)).drew := ((Below.refl _ _).alloc (Nat.le_refl _) _).drew
                have hq : Rd (w5.alloc (.cells #[.slice bA bl.length bc] 35)).drew (some ⟨w5.heap.size, 0, none⟩) [.slice bA bl.length bc] := Rd.one w5 _ _
                have hrW := hrl.below (hbw2.alloc hbw2.size (.cells #[.slice bA bl.length bc] 35)).drew
                have hwc := two_write hT2 (by omega) hbz b bA _ bc bl hq hrW hlc hb100
                clear hcb hT2 hbw2 hrl hAl hfw hbz hq hrW
                go_region_law (go_simp; go_at_call 19; (with_reducible refine hwc.mono ?_); rintro e w6 ⟨rfl, hM⟩)
                all_goals ((try (simp only [List.getElem_toArray, List.getElem_cons_succ, List.getElem_cons_zero]; go_simp)); go_wp2_with fail; go_meet; exact hM)
              case rest =>
                have hM := hcut
                clear hcut
                have hbw3 : Below w.heap.size w wc := hb0.trans (hM.bel.mono hb0.size)
                obtain ⟨x1, x3⟩ := hcb wc.drew hbw3.drew
                have hrW := hrl.below hbw3.drew
                have hwc := mid_write hM hT2.len hT2.few (by omega) (Below.refl _ _).drew bA bc hrW hAl hb100
                clear hcb hT2 hbw2 hrl hAl hfw hM hbw3 hrW
                go_upto_region 22 with fail
                go_region_law (go_simp; go_at_call 20; (with_reducible refine hwc.mono ?_); rintro e w6 ⟨rfl, hT9⟩)
                all_goals ((try (simp only [List.getElem_toArray, List.getElem_cons_succ, List.getElem_cons_zero]; go_simp)); go_wp2_with fail; go_roundg (l2.length - (k + 1)); (case measure => omega); (case rel => exact ⟨k + 1, _, rfl, by omega, by go_num, hT9⟩))
            · have hfb0 : fitsB 100 a (bl.length : Nat) = false := by simpa using hfb
              rw [hfb0]
              clear hcb hfb hfb0
              go_wp2_with fail
              go_roundg (l2.length - (k + 1))
              case measure => omega
              case rel => exact ⟨k + 1, L, rfl, by omega, by go_num, hT2.next⟩
        · obtain rfl : k = l2.length := by omega
          have r1 : ¬ (l2.length : Int) < (l2.length : Int) := by omega
          clear hok2 hr2
          have hlen := hT.len
          obtain ⟨m, hm, hn⟩ := hT.nv
          have hL30 := hT.few
          have hlt' := hn.lt
          go_wp2_with fail
          refine (s_pending hn).mono ?_
          rintro e w5 ⟨rfl, rfl⟩
          go_wp2_with fail
          have hba : Below wr.heap.size wr (wr.alloc (.cells #[.int .i64 pick] 3)) := (Below.refl _ _).alloc (Nat.le_refl _) _
          refine (s_cut (hn.below hba) (by omega) (some ⟨wr.heap.size, 0, none⟩) 1 [pick] (Rd.one wr (.int .i64 pick) _) (by simpa using hpk)).mono ?_
          rintro e w7 ⟨rfl, hn7, hc7⟩
          have hq := keptW_le [pick] L.length
          generalize keptW [pick] L.length = q at *
          have hb7 := hc7.after (hT.bel.trans (hba.mono hn.base)) (hn.below hba).base
          have hrf7 := (hT.rf.below hba).keepN (hn.below hba).hasG hc7
          have hrd := s_read hn7 0 100 (by rw [app_length]; omega)
          have hval : ((app (app kept (L.take q)) []).drop 0).take 100 = app kept (L.take q) := by rw [app_nil, List.drop_zero, List.take_of_length_le (by rw [app_length]; omega)]
          rw [hval] at hrd
          clear hval hc7 hba hT
          go_wp2_with fail
          refine hrd.mono ?_
          rintro e w8 ⟨A8, c8, rfl, ho8, hb8⟩
          have hpe := s_pending (hn7.below hb8)
          obtain ⟨kA, kc, lA, lc, hrf8⟩ := hrf7.below hb8
          have hb8' := hb7.trans (hb8.mono hn7.base)
          have R1 : w8.cell? ⟨R, 1, none⟩ = some (.slice lA L.length lc) := hrf8.dev.cell 1
          clear hrd hn7 hrf7 hb7 hn
          simp only [List.length_nil] at hpe
          have hown : (w8.alloc (.cells #[] 5)).ownsRow w8.heap.size 5 1 (.slice (some ⟨w8.heap.size, 0, none⟩) 0 0) 0 [] := World.ownsRow_made w8 #[] 0 (Nat.le_refl _) (by unfold maxLen; omega) rfl
          have hk1 := hrf8.kep.alloc (.cells #[] 5)
          have c0a : (w8.alloc (.cells #[] 5)).cell? ⟨R, 0, none⟩ = some (.slice kA kept.length kc) := (hrf8.dev.alloc _).cell 0
          have HL := Lib.hid (byts_length kept)
          have HLen := Lib.hid hlen
          have hkl : kept.length ≤ 1000 := by omega
          clear hlen
          go_wp2_with (first
            | (go_at_call 23; refine hpe.mono ?_; rintro e w9 ⟨rfl, rfl⟩)
            | (at_builtin; refine wpList_app _ rfl _ _ rfl slB w8.heap.size (.slice (some ⟨w8.heap.size, 0, none⟩) 0 0) 0 [] rfl hown kA kept.length kc (byts kept) rfl (by rw [HL.out, Nat.mul_one]) hk1 (byts_one kept) (by unfold maxLen; omega) (by omega) (by simp) ?_; intro AX cX wX hoX hgX))
          have hoX' : wX.ownsRow w8.heap.size 5 1 (.slice AX kept.length cX) kept.length (byts (app kept (L.take 0))) := by simpa [app] using hoX
          have hbX : Below w8.heap.size w8 wX := ((Below.refl _ _).alloc (Nat.le_refl _) _).trans (hgX.toBelow (by simp) (by simp [Value.ownBlock]))
          have hr8 := Rd.of_own ho8
          clear hoX hgX hown hk1 c0a HL hpe R1 ho8
          go_loopg [16] q (fun m s16 wr => ∃ (k : Nat), m = q - k ∧ k ≤ q ∧ s16 = .int .i64 (k : Nat) ∧ wr.ownsRow w8.heap.size 5 1 (.slice AX kept.length cX) kept.length (byts (app kept (L.take k))) ∧ Below w8.heap.size w8 wr)
          case atStart => exact ⟨0, rfl, by omega, rfl, hoX', hbX⟩
          case round =>
            clear hoX' hbX
            obtain ⟨k, rfl, hk, rfl, ho, hb⟩ := hrel
            have cv1 := conv_bytes wr AX cX (app kept (L.take k)) (Rd.of_own ho)
            have cv2 := conv_bytes wr A8 c8 (app kept (L.take q)) (hr8.below hb)
            rw [app_length] at cv1
            rw [app_length, HLen.out] at cv2
            have hbF : Below w.heap.size w wr := hb0.trans ((hb8'.trans (hb.mono hb8'.size)).mono hb0.size)
            by_cases hxy : app kept (L.take k) = app kept (L.take q)
            · rw [← hxy] at cv2
              clear hxy
              generalize app kept (L.take k) = x at *
              go_wp2_with fail
              go_ret
              exact ⟨rfl, hbF⟩
            · have hkq : k < q := by
                rcases Nat.lt_or_ge k q with h | h
                · exact h
                · exact absurd (by rw [show k = q by omega]) hxy
              have hkL : k < L.length := by omega
              have hax := app_take kept L k hkL
              have hne : (app kept (L.take k) == app kept (L.take q)) = false := by simpa using hxy
              have hlk := hlt' _ (List.getElem_mem hkL)
              have hR := hrf8.below hb
              obtain ⟨g, rfl, hg, _, hgc, hgf, hset⟩ := own_set ho L[k].1 hlk
              have hset1 := hset (byt L[k].2)
              rw [show (byts (app kept (L.take k))).set L[k].1 (byt L[k].2) = byts (app kept (L.take (k + 1))) from by rw [hax]; unfold byts; rw [List.map_set]] at hset1
              have hbS : Below w8.heap.size w8 (wr.setCell ⟨g, L[k].1, none⟩ (byt L[k].2)) := Chg.toBelow (S := fun j => j = g) (Chg.set (S := fun j => j = g) (Chg.refl _ _) rfl _ _) hb (fun j e => by rw [e]; exact hg) hb.size
              obtain ⟨p1, p2⟩ := putCells_get L k hkL
              have hpl := putCells_length L
              have R1 : wr.cell? ⟨R, 1, none⟩ = some (.slice lA L.length lc) := hR.dev.cell 1
              have R1d : wr.drew.cell? ⟨R, 1, none⟩ = some (.slice lA L.length lc) := hR.dev.cell 1
              obtain ⟨al, hlA, _, hq1⟩ := (Rd.of_own hR.row).at_ (k := k * 2) (by omega)
              obtain ⟨gl, rfl⟩ := own_addr hR.row _ hlA
              obtain ⟨al2, e2, _, hq2⟩ := (Rd.of_own hR.row).at_ (k := k * 2 + 1) (by omega)
              rw [hlA] at e2
              injection e2 with e2
              subst e2
              rw [addr_add, Nat.zero_add] at hq1 hq2
              have hq1' : wr.drew.cell? ⟨gl, k * 2, none⟩ = some (.int .i64 (L[k].1 : Nat)) := by
                have : (putCells L)[k * 2]'(by omega) = .int .i64 (L[k].1 : Nat) := by
                  rw [List.getElem?_eq_getElem (by omega)] at p1; injection p1
                rw [← this]; exact hq1
              have hq2' : wr.drew.cell? ⟨gl, k * 2 + 1, none⟩ = some (.int .u8 (L[k].2.toNat : Nat)) := by
                have : (putCells L)[k * 2 + 1]'(by omega) = .int .u8 (L[k].2.toNat : Nat) := by
                  rw [List.getElem?_eq_getElem (by omega)] at p2; injection p2
                rw [← this]; exact hq2
              subst hlA
              have r2 : (k : Int) < (L.length : Int) := by omega
              have r4 : ¬ (L.length : Int) ≤ (k : Int) := by omega
              have r3 : (L[k].1 : Int) < (kept.length : Int) := by omega
              have gf : wr.drew.frozen? ⟨g, L[k].1, none⟩ = false := hgf
              have gc : ∃ v, wr.drew.cell? ⟨g, L[k].1, none⟩ = some v := ⟨_, by rw [show wr.drew.cell? ⟨g, L[k].1, none⟩ = wr.cell? ⟨g, L[k].1, none⟩ from rfl, hgc, List.getElem?_eq_getElem (by simp [byts, app_length]; omega)]⟩
              obtain ⟨v0, gc⟩ := gc
              have hkb : k ≤ 1000000 := by omega
              generalize L[k].1 = z at *
              generalize L[k].2 = u at *
              unfold byt at hset1 hbS
              have HO := Lib.hid hset1
              have HF := Lib.hid hbF
              generalize app kept (L.take k) = xk at *
              generalize app kept (L.take q) = xq at *
              clear hset hgc hgf p1 p2 hq1 hq2 hR ho hset1 hbF hxy hax hlt'
              go_upto_region 35 with fail
              go_region_law (fail)
              all_goals (go_wp2_with fail; go_roundg (q - (k + 1)); (case measure => omega); (case rel =>
                first
                  | exact ⟨k + 1, rfl, by omega, by go_num, HO.out, hbS⟩
                  | exact ⟨k + 1, rfl, by omega, by go_num, own_below HO.out (Below.refl _ _).drew, hbS.drew⟩))
end Go.Proofs.Ytadgaphgomagkaa
