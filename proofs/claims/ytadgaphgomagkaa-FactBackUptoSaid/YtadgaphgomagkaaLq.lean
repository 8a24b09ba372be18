/- The reference's Open. -/
import Derived.Test.YtadgaphgomagkaaLo
import Derived.Deep.CutBlock
namespace Go.Proofs.Ytadgaphgomagkaa
open Go.RowKit
set_option maxHeartbeats 8000000
set_option maxRecDepth 100000

theorem icells_length (l : List IP) : (icells l).length = l.length * 3 := by
  induction l with
  | nil => rfl
  | cons p L ih => simp [icells, IP.cells] at ih ⊢; omega
theorem icells_get (l : List IP) (i j : Nat) (h : i < l.length) (hj : j < 3) : (icells l)[i * 3 + j]? = (l[i].cells)[j]? := by
  induction l generalizing i with
  | nil => simp at h
  | cons p L ih =>
    have e : icells (p :: L) = p.cells ++ icells L := rfl
    have hp : p.cells.length = 3 := rfl
    cases i with
    | zero =>
      rw [e, List.getElem?_append_left (by omega)]
      simp
    | succ i =>
      rw [e, List.getElem?_append_right (by omega), hp, show (i + 1) * 3 + j - 3 = i * 3 + j by omega]
      simpa using ih i (by simpa using h)
theorem iparts_at {w : World} {A : Option Addr} {l : List IP} (hr : Rd w A (icells l)) (i : Nat) (h : i < l.length) : ∃ ad, A = some ad ∧ w.cell? (ad.add (i * 3)) = some (.int .i64 (l[i].a : Nat)) ∧ w.cell? ⟨(ad.add (i * 3)).block, (ad.add (i * 3)).off + 1, none⟩ = some (.int .i64 (l[i].n : Nat)) ∧
    w.cell? ⟨(ad.add (i * 3)).block, (ad.add (i * 3)).off + 2, none⟩ = some (.string l[i].k) := by
  have hl := icells_length l
  obtain ⟨ad, e, _, hc⟩ := hr (by intro h0; rw [h0] at hl; simp at hl; omega)
  have g := fun j u hj hu => hc (i * 3 + j) u (by rw [icells_get l i j h hj]; exact hu)
  refine ⟨ad, e, g 0 _ (by omega) rfl, ?_, ?_⟩
  · rw [← add_off _ _ _ (by omega)]; exact g 1 _ (by omega) rfl
  · rw [← add_off _ _ _ (by omega)]; exact g 2 _ (by omega) rfl
def ROpenPost (w : World) (R : Nat × List FV) (e : Ending) (w' : World) : Prop := Below w.heap.size w w' ∧ ∃ x, e = .returned (.tuple #[x, .int .i64 (R.1 : Nat)])
theorem ROpenPost.bad {w w' : World} {R : Nat × List FV} (n : Nat) (x : Value) (hR : R.1 = n) (hb : Below w.heap.size w w') : ROpenPost w R (.returned (.tuple #[x, .int .i64 (n : Nat)])) w' := ⟨hb, x, by rw [hR]⟩
theorem add4_eq (a : Addr) : a.add 4 = ⟨a.block, a.off + 4, none⟩ := rfl
theorem rfacts4_any (ad : Addr) (c : Nat) (pl : List UInt8) (w : World) (hr : Rd w (some ad) (byts pl)) (h4 : 4 ≤ pl.length) (hl : pl.length ≤ 1048576) (hc : pl.length ≤ c) (hc4 : ¬ c = 4) (hA : ad.block < w.heap.size) :
    Calls Try.prog 76 #[.slice (some ⟨ad.block, ad.off + 4, none⟩) (pl.length - 4) (c - 4)] w (RFactsPost w (facP (pl.drop 4))) := by
  have hdl : (pl.drop 4).length = pl.length - 4 := List.length_drop
  have hdr := hr.drop 4 c (by rw [byts_length]; exact hc)
  rw [show (byts pl).drop 4 = byts (pl.drop 4) by simp [byts], if_neg hc4] at hdr
  have := refFacts_any (some (ad.add 4)) (c - 4) (pl.drop 4) w hdr (by omega) (by omega) fun a h => by injection h with h; subst h; rw [add_block]; exact hA
  rw [hdl] at this
  exact this
theorem refOpen_short (A : Option Addr) (c : Nat) (b : List UInt8) (w : World) (hs : b.length < 12) :
    Calls Try.prog 36 #[.slice A b.length c] w (ROpenPost w (refOpenP b)) := by
  have hR : (refOpenP b).1 = 21 := by rw [refOpenP, if_pos hs]
  have d0 : (b.length : Int) < 12 := by omega
  generalize refOpenP b = R at *
  go_enter Try.func36, Try.ntmps36
  go_wp2_with fail
  go_ret2
  exact ROpenPost.bad 21 _ hR (Below.refl _ _)
theorem refOpen_long (A : Option Addr) (c : Nat) (b : List UInt8) (n : Nat) (w : World) (hn : b.length = n + 12) (hr : Rd w A (byts b)) (hc : b.length ≤ c) (hl : b.length ≤ 1048576) (hA : ∀ ad, A = some ad → ad.block < w.heap.size) :
    Calls Try.prog 36 #[.slice A (n + 12) c] w (ROpenPost w (refOpenP b)) := by
  obtain ⟨ad, rfl, _, _⟩ := hr (by rw [← List.length_pos_iff, byts_length]; omega)
  have hA := hA ad rfl
  have hft : ftB b = b.drop n := by rw [ftB, hn]; rfl
  have hfl : (b.drop n).length = 12 := by rw [List.length_drop]; omega
  have hfr : Rd w (some (ad.add n)) (byts (b.drop n)) := by
    have := hr.drop n c (by rw [byts_length]; exact hc)
    rw [if_neg (by omega)] at this
    simpa [byts] using this
  have hO : refOpenP b = if leN (((b.drop n).drop 8).take 4) ≠ crcB ((b.drop n).take 8) then (23, [])
    else if n < leN ((b.drop n).take 4) then (21, [])
    else if fitsB ((b.drop (n - leN ((b.drop n).take 4))).take (leN ((b.drop n).take 4))) = false then (23, [])
    else match parP ((b.drop (n - leN ((b.drop n).take 4) + 4)).take (leN ((b.drop n).take 4) - 4)) (b.take (n - leN ((b.drop n).take 4))) with
      | none => (24, [])
      | some ps => if longB ps = true then endP (blkP ps []) (leN (((b.drop n).drop 4).take 4)) else (24, []) := by
    rw [refOpenP, if_neg (by omega)]
    simp only [ftN, ftC, hft, hn, Nat.add_sub_cancel]
    rfl
  generalize refOpenP b = R at *
  have HO := Lib.hid hO
  have hcn : ¬ c = n := by omega
  have hnc : (n : Int) ≤ (n : Int) + 12 := by omega
  have hcc : 12 ≤ c - n := by omega
  have d1 : IntKind.i64.wrap ((n : Int) + 12 - 12) = (n : Int) := by rw [IntWalk.i64_in _ (by omega)]; omega
  have d0 : ¬ (n : Int) + 12 < 12 := by omega
  have hm4 := leN_lt ((b.drop n).take 4)
  have hcl := leN_lt (((b.drop n).drop 4).take 4)
  have ht4 : ((b.drop n).take 4).length ≤ 4 := by rw [List.length_take]; omega
  have ht5 : (((b.drop n).drop 4).take 4).length ≤ 4 := by rw [List.length_take]; omega
  have hm4 : leN ((b.drop n).take 4) < 4294967296 := Nat.lt_of_lt_of_le hm4 (Nat.pow_le_pow_right (by decide) ht4)
  have hcl : leN (((b.drop n).drop 4).take 4) < 4294967296 := Nat.lt_of_lt_of_le hcl (Nat.pow_le_pow_right (by decide) ht5)
  have hl1 := fun W h => refLow_any (some (ad.add n)) (c - n) 4 (b.drop n) W h (by omega) (by decide)
  rw [hfl] at hl1
  have hd4 : ((b.drop n).drop 4).length = 8 := by rw [List.length_drop, hfl]
  have hl2 := fun W h => refLow_any (some ((ad.add n).add 4)) (c - n - 4) 4 ((b.drop n).drop 4) W h (by omega) (by decide)
  rw [hd4, add4_eq] at hl2
  have hfd : Rd w (some ⟨(ad.add n).block, (ad.add n).off + 4, none⟩) (byts ((b.drop n).drop 4)) := by
    have := hfr.drop 4 (c - n) (by rw [byts_length]; omega)
    rw [if_neg (by omega)] at this
    rw [← add4_eq]
    simpa [byts] using this
  have hc4 : ¬ c - n = 4 := by omega
  clear hO hft ht4 ht5
  go_enter Try.func36, Try.ntmps36
  go_wp2_with fail
  refine regRopen4 hfr.drew hfl hcc ?_
  intro w3 _ _ _ _ _ _ hb3
  by_cases hs : crcB ((b.drop n).take 8) ≠ leN (((b.drop n).drop 8).take 4)
  · have HR := Lib.hid (show R.1 = 23 by rw [HO.out, if_pos fun h => hs h.symm])
    have e : decide (crcB ((b.drop n).take 8) ≠ leN (((b.drop n).drop 8).take 4)) = true := by simpa using hs
    clear HO hs
    generalize decide (crcB ((b.drop n).take 8) ≠ leN (((b.drop n).drop 8).take 4)) = dd at *
    subst e
    go_wp2_with fail
    go_ret2
    exact ROpenPost.bad 23 _ HR.out hb3
  have HO2 := HO.out
  rw [if_neg (fun h => hs fun e => h e.symm)] at HO2
  clear HO
  have e : decide (crcB ((b.drop n).take 8) ≠ leN (((b.drop n).drop 8).take 4)) = false := by simpa using hs
  generalize decide (crcB ((b.drop n).take 8) ≠ leN (((b.drop n).drop 8).take 4)) = dd at *
  subst e
  clear hs
  generalize leN ((b.drop n).take 4) = m at *
  generalize leN (((b.drop n).drop 4).take 4) = count at *
  have HO3 := Lib.hid HO2
  clear HO2
  have hl1 := hl1 w3 (hfr.below hb3)
  have hl2 := hl2 w3 (hfd.below hb3)
  go_wp2_with fail
  refine hl1.mono ?_
  rintro e w4 ⟨rfl, rfl⟩
  clear hl1
  go_wp2_with fail
  refine hl2.mono ?_
  rintro e w4 ⟨rfl, rfl⟩
  clear hl2 hfr hfd hfl hd4 hc4 hcc hcn hnc
  by_cases hm : n < m
  · have HR := Lib.hid (show R.1 = 21 by rw [HO3.out, if_pos hm])
    have k1 : (n : Int) < (m : Int) := by omega
    clear HO3 hm
    go_wp2_with fail
    go_ret2
    exact ROpenPost.bad 21 _ HR.out hb3
  obtain ⟨e, rfl⟩ : ∃ e, n = e + m := ⟨n - m, by omega⟩
  have HO4 := Lib.hid (show R = if fitsB ((b.drop e).take m) = false then (23, [])
    else match parP ((b.drop (e + 4)).take (m - 4)) (b.take e) with
      | none => (24, [])
      | some ps => if longB ps = true then endP (blkP ps []) count else (24, []) by
    have := HO3.out
    rw [if_neg hm] at this
    simp only [Nat.add_sub_cancel] at this
    exact this)
  clear HO3 hm d0
  have k1 : ¬ (e : Int) + (m : Int) < (m : Int) := by omega
  have k0 : IntKind.i64.wrap (m : Int) = (m : Int) := IntWalk.i64_in _ (by omega)
  have k2 : IntKind.i64.wrap ((e : Int) + (m : Int) - (m : Int)) = (e : Int) := by rw [IntWalk.i64_in _ (by omega)]; omega
  have k3 : (e : Int) ≤ (e : Int) + (m : Int) := by omega
  have k4 : (e : Int) + (m : Int) ≤ (c : Int) := by omega
  have k5 : IntKind.i64.wrap ((e : Int) + (m : Int) + 12 - 12) = (e : Int) + (m : Int) := by rw [IntWalk.i64_in _ (by omega)]; omega
  have hxl : ((b.drop e).take m).length = m := by rw [List.length_take, List.length_drop]; omega
  have hrx : Rd w3 (some (ad.add e)) (byts ((b.drop e).take m)) := by
    have := ((hr.below hb3).drop e c (by rw [byts_length]; exact hc)).take m
    rw [if_neg (by omega)] at this
    simpa [byts] using this
  have hft := refFits_any (some (ad.add e)) (c - e) ((b.drop e).take m) w3 hrx (by omega) (by omega)
  rw [hxl] at hft
  have hce : ¬ c = e := by omega
  generalize hfb : fitsB ((b.drop e).take m) = fb at *
  have hm4 : fb = true → 4 ≤ m := fun h => by rw [h] at hfb; simp only [fitsB, Bool.and_eq_true, decide_eq_true_eq] at hfb; omega
  clear hfb d1
  go_wp2_with fail
  refine hft.mono ?_
  rintro e4 w4 ⟨rfl, hb4⟩
  have hb4 := hb3.trans (hb4.mono hb3.size)
  clear hb3 hft hrx
  cases fb with
  | false =>
    have HR := Lib.hid (show R.1 = 23 by rw [HO4.out]; rfl)
    clear HO4
    go_wp2_with fail
    go_ret2
    exact ROpenPost.bad 23 _ HR.out hb4
  | true =>
    replace hm4 := hm4 rfl
    have HO5 := Lib.hid (show R = match parP ((b.drop (e + 4)).take (m - 4)) (b.take e) with
      | none => (24, [])
      | some ps => if longB ps = true then endP (blkP ps []) count else (24, []) from HO4.out)
    clear HO4
    have hr4 := hr.below hb4
    have hA4 : ad.block < w4.heap.size := Nat.lt_of_lt_of_le hA hb4.size
    have hpx : ((b.drop (e + 4)).take (m - 4)).length = m - 4 := by rw [List.length_take, List.length_drop]; omega
    have hpb : (b.take e).length = e := by rw [List.length_take]; omega
    have hrx : Rd w4 (some ⟨(ad.add e).block, (ad.add e).off + 4, none⟩) (byts ((b.drop (e + 4)).take (m - 4))) := by
      have := (hr4.drop (e + 4) c (by rw [byts_length]; exact hc)).take (m - 4)
      rw [if_neg (by omega)] at this
      rw [← add4_eq, add_add']
      simpa [byts] using this
    have hix := refIndex_any (some ⟨(ad.add e).block, (ad.add e).off + 4, none⟩) (c - e - 4) e ((b.drop (e + 4)).take (m - 4)) (b.take e) w4 hrx (by omega) (by omega) (fun a h => by injection h with h; subst h; show (ad.add e).block < _; rw [add_block]; exact hA4) hpb (by omega)
    rw [hpx] at hix
    have hsum := fun X (h : parP ((b.drop (e + 4)).take (m - 4)) (b.take e) = some X) => (parN_sum _ _ _ X h).trans hpb
    have k6 : (4 : Int) ≤ (m : Int) := by omega
    have k7 : ¬ c - e = 4 := by omega
    clear hrx hpx
    generalize parP ((b.drop (e + 4)).take (m - 4)) (b.take e) = PR at *
    go_wp2_with fail
    refine hix.mono ?_
    rintro e5 w5 ⟨hb5, h5⟩
    clear hix
    have hb05 := hb4.trans (hb5.mono hb4.size)
    rcases h5 with ⟨hno, x, rfl⟩ | ⟨X, rfl, hlo, PA, pc, Ps, rfl, hX, hPo, hfit⟩
    · have HR := Lib.hid (show R.1 = 24 by
        rw [HO5.out]
        cases PR with
        | none => rfl
        | some X =>
          have : longB X = false := by
            cases h : longB X with
            | false => rfl
            | true => exact absurd ((longB_iff X).1 h) (hno X rfl)
          simp only [this]
          rfl)
      clear HO5
      go_wp2_with fail
      go_ret2
      exact ROpenPost.bad 24 _ HR.out hb05
    · have hsum := hsum X rfl
      have HO6 := Lib.hid (show R = endP (blkP X []) count by rw [HO5.out]; simp only; rw [if_pos ((longB_iff X).2 hlo)])
      have hr5 := hr4.below hb5
      have hA5 : ad.block < w5.heap.size := Nat.lt_of_lt_of_le hA4 hb5.size
      have hPr := Rd.of_own hPo
      have hPn : Ps.length ≤ 9223372036854775807 := Nat.le_trans (own_cap hPo).1 (by have := (own_cap hPo).2.1; unfold maxLen at this; omega)
      clear HO5 hlo hr4 hA4 hb5 hPo
      have hfit2 : ∀ f ∈ Ps, f.a + f.n ≤ e := fun f hf => by have := hfit f hf; rw [hpb] at this; exact this
      have hpv : ∀ f ∈ Ps, IP.pv (b.take e) f = (strB f.k, (b.drop f.a).take f.n) := fun f hf => by
        have := hfit2 f hf
        simp only [IP.pv, List.drop_take, List.take_take]
        rw [show min f.n (e - f.a) = f.n by omega]
      clear hfit
      subst hX
      generalize hRB : blkP (Ps.map (IP.pv (b.take e))) [] = RB at *
      have HRB := Lib.hid hRB
      clear hRB
      go_wp2_with fail
      go_loopg [11, 12, 13, 14, 15] Ps.length (fun m s11 s12 s13 s14 s15 wr => ∃ (k : Nat) (L : List FM) (A' : Option Addr) (c' : Nat), m = Ps.length - k ∧ k ≤ Ps.length ∧ s12 = .int .i64 (k : Nat) ∧ s11 = .slice A' L.length c' ∧ Facts wr w5.heap.size A' c' L ∧ Below w5.heap.size w5 wr ∧ blkP ((Ps.map (IP.pv (b.take e))).drop k) (L.map FM.fv) = RB ∧ L.length + sumL ((Ps.map (IP.pv (b.take e))).drop k) ≤ 1048576)
      case atStart => exact ⟨0, [], none, 0, by omega, by omega, rfl, rfl, Facts.nil _ _, Below.refl _ _, HRB.out, by simp only [List.drop_zero, List.length_nil]; omega⟩
      case round =>
        clear HRB
        obtain ⟨k, L, A', c', rfl, hk, rfl, rfl, hF, hb, hbl, hcnt⟩ := hrel
        have hb00 := hb05.trans (hb.mono hb05.size)
        by_cases hlt : k < Ps.length
        · have r1 : (k : Int) < (Ps.length : Int) := by omega
          obtain ⟨pad, rfl, c0, c1, c2⟩ := iparts_at (hPr.below hb) k hlt
          have hd : (Ps.map (IP.pv (b.take e))).drop k = IP.pv (b.take e) Ps[k] :: (Ps.map (IP.pv (b.take e))).drop (k + 1) := by
            rw [List.drop_eq_getElem_cons (by simpa using hlt)]
            simp
          rw [hd, hpv _ (List.getElem_mem hlt)] at hbl hcnt
          have hfk := hfit2 _ (List.getElem_mem hlt)
          clear hd
          generalize Ps[k] = p at *
          obtain ⟨a, pn, pk⟩ := p
          simp only at *
          have hpl : pn ≤ 1048576 := by omega
          have hplen : ((b.drop a).take pn).length = pn := by rw [List.length_take, List.length_drop]; omega
          have hpr : Rd wr (some (ad.add a)) (byts ((b.drop a).take pn)) := by
            have := ((hr5.below hb).drop a c (by rw [byts_length]; exact hc)).take pn
            rw [if_neg (by omega)] at this
            simpa [byts] using this
          have HBL := Lib.hid hbl
          have HCN := Lib.hid hcnt
          clear hbl hcnt hlt
          generalize (b.drop a).take pn = pl at *
          have hft := fun W h => refFits_any (some (ad.add a)) (c - a) pl W h (by omega) (by omega)
          rw [hplen] at hft
          generalize hfb : fitsB pl = fb at *
          have HFB := Lib.hid hfb
          have h4 : fb = true → 4 ≤ pn := fun h => by rw [h] at hfb; simp only [fitsB, Bool.and_eq_true, decide_eq_true_eq] at hfb; omega
          have q1 : IntKind.i64.wrap ((a : Int) + (pn : Int)) = (a : Int) + (pn : Int) := IntWalk.i64_in _ (by omega)
          have q2 : (a : Int) ≤ (a : Int) + (pn : Int) := by omega
          have q3 : (a : Int) + (pn : Int) ≤ (c : Int) := by omega
          have q4 : ¬ c = a := by omega
          clear hfb
          go_wp2_with fail
          go_quiet (fail)
          replace hpr := hpr.drewN nq
          replace hF := hF.drewN nq
          replace hb := belN hb nq
          have hPr2 := hPr.below hb
          replace hb00 := belN hb00 nq
          have c2 : (wr.drewN nq).cell? ⟨(pad.add (k * 3)).block, (pad.add (k * 3)).off + 2, none⟩ = some (.string pk) := c2
          clear c0 c1
          generalize wr.drewN nq = wq at *
          go_wp2_with fail
          refine (hft _ hpr).mono ?_
          rintro e7 w7 ⟨rfl, hb7⟩
          clear hft
          have hpr7 := hpr.below hb7
          have hF7 := hF.below hb7
          have c27 := cell_below c2 hb7
          have hb07 := hb00.trans (hb7.mono hb00.size)
          have hbw7 := hb.trans (hb7.mono hb.size)
          have hplo : (ad.add a).block < w7.heap.size := by rw [add_block]; exact Nat.lt_of_lt_of_le hA5 hbw7.size
          clear hpr hF c2 hb hb00 hb7
          cases fb with
          | false =>
            have HR := Lib.hid (show R.1 = 23 by rw [HO6.out, ← HBL.out, blkP, if_pos HFB.out]; rfl)
            clear HO6
            go_wp2_with fail
            go_ret2
            exact ROpenPost.bad 23 _ HR.out hb07
          | true =>
            replace h4 := h4 rfl
            have q5 : (4 : Int) ≤ (pn : Int) := by omega
            have q6 : ¬ c - a = 4 := by omega
            have hfa := rfacts4_any (ad.add a) (c - a) pl w7 hpr7 (by omega) (by omega) (by omega) q6 hplo
            rw [hplen] at hfa
            have HBad := Lib.hid (show (facP (pl.drop 4)).2 = true ∨ (facP (pl.drop 4)).1.head?.map FV.k ≠ some (strB pk) → R.1 = 24 from fun h => by
              rw [HO6.out, ← HBL.out, blkP, if_neg (by rw [HFB.out]; decide), if_pos h]
              rfl)
            have HGood := Lib.hid (show ¬ ((facP (pl.drop 4)).2 = true ∨ (facP (pl.drop 4)).1.head?.map FV.k ≠ some (strB pk)) → blkP ((Ps.map (IP.pv (b.take e))).drop (k + 1)) (L.map FM.fv ++ (facP (pl.drop 4)).1) = RB from fun h => by
              rw [← HBL.out, blkP, if_neg (by rw [HFB.out]; decide), if_neg h])
            have hfl : (facP (pl.drop 4)).1.length ≤ pn := Nat.le_trans (facN_length _ _) (by rw [List.length_drop]; omega)
            clear HBL HFB
            generalize facP (pl.drop 4) = FR at *
            go_wp2_with fail
            refine hfa.mono ?_
            rintro e8 w8 ⟨hb8, h8⟩
            clear hfa hpr7
            have hF8 := hF7.below hb8
            have hb08 := hb07.trans (hb8.mono hb07.size)
            have hbw8 := hbw7.trans (hb8.mono hbw7.size)
            have c28 := cell_below c27 hb8
            rcases h8 with ⟨hbad, x8, rfl⟩ | ⟨hF2, hne, A8, c8, M, rfl, hM, hMF⟩
            · have HR := Lib.hid (HBad.out (by
                rcases hbad with h | h
                · exact .inl h
                · right; rw [h]; simp))
              clear hbad HBad HGood
              go_wp2_with fail
              go_quiet (fail)
              go_wp2_with fail
              go_ret2
              exact ROpenPost.bad 24 _ HR.out (hb08.trans ⟨rfl, rfl, rfl, Nat.le_refl _, fun _ _ => rfl⟩)
            · have hlM : M.length ≤ pn := by rw [← List.length_map (f := FM.fv), hM]; exact hfl
              have HM := Lib.hid hM
              obtain ⟨f, M', rfl⟩ : ∃ f M', M = f :: M' := List.exists_cons_of_ne_nil (by intro h; rw [h] at hM; exact hne hM.symm)
              have hHd : FR.1.head?.map FV.k = some (strB f.k) := by rw [← hM]; rfl
              clear hM
              obtain ⟨gM, cM, hv, hgM1, hgM2⟩ := hMF.own.form (by simp)
              injection hv with hv1 _ hv2
              subst hv1 hv2
              have z2 : w8.cell? ⟨gM, 0, none⟩ = some (.string f.k) := hMF.own.cells (g := gM) rfl 0 _ rfl
              have hkq := key_eq f.k pk
              have hlen : (0 : Int) < ((f :: M').length : Int) := by simp only [List.length_cons]; omega
              by_cases hq : strB f.k = strB pk
              · have HG2 := Lib.hid (HGood.out (by rw [hF2, hHd, hq]; simp))
                rw [decide_eq_true hq] at hkq
                clear HBad HGood hHd hq hF2 hne
                generalize f :: M' = M at *
                have hcc2 : L.length + M.length + sumL ((Ps.map (IP.pv (b.take e))).drop (k + 1)) ≤ 1048576 := by
                  have := HCN.out
                  simp only [sumL, List.map_cons, List.sum_cons] at this ⊢
                  omega
                have hMap : ∀ f ∈ M, ∀ ad, f.A = some ad → (Value.slice A' L.length c').ownBlock ≠ some ad.block := fun f hf ad h e2 => by
                  have h1 := (hF7.own.lt _ e2).2
                  have h2 := (hMF.lo f hf ad h).1
                  omega
                have hfM := fcells_length M
                have HFM := Lib.hid hfM
                have hMB : w5.heap.size ≤ w7.heap.size := hbw7.size
                clear hfM hF7
                go_wp2_with fail
                go_quiet (fail)
                replace hF8 := hF8.drewN nq
                replace hMF := hMF.drewN nq
                replace hbw8 := belN hbw8 nq
                clear z2 hkq c28 c27 hgM1 hgM2 hb08 hb8
                generalize w8.drewN nq = wz at *
                have hMr := Rd.of_own hMF.own
                have hsd : w5.heap.size ≤ wz.heap.size := hbw8.size
                have hMlo : ∀ f ∈ M, ∀ ad, f.A = some ad → w5.heap.size ≤ ad.block ∧ ad.block < wz.heap.size := fun f hf ad h => ⟨by have := (hMF.lo f hf ad h).1; omega, (hMF.lo f hf ad h).2⟩
                go_wp2_with (at_builtin; refine wpList_app _ rfl _ _ rfl slF w5.heap.size (.slice A' L.length c') L.length (fcells L) rfl hF8.own _ M.length _ (fcells M) rfl HFM.out hMr (fcells_one M) (by unfold maxLen; omega) (by omega) hsd ?_; intro A9 c9 w9 ho9 hg9)
                have hF9 := hF8.app hMF.ok hMlo hMap ho9 hg9
                have hbu := hbw8.trans (hg9.under hF8.own (Nat.le_refl _) hsd)
                go_roundg (Ps.length - (k + 1))
                case measure => omega
                case rel =>
                  refine ⟨k + 1, L ++ M, A9, c9, rfl, by omega, by go_num, by rw [List.length_append], hF9, hbu, ?_, ?_⟩
                  · rw [List.map_append, HM.out]; exact HG2.out
                  · rw [List.length_append]; exact hcc2
              · have HR := Lib.hid (HBad.out (.inr (by rw [hHd]; simpa using hq)))
                rw [decide_eq_false hq] at hkq
                clear HBad HGood hHd hq hF2 hne
                generalize f :: M' = M at *
                go_wp2_with fail
                go_quiet (fail)
                go_wp2_with fail
                go_ret2
                exact ROpenPost.bad 24 _ HR.out (hb08.trans ⟨rfl, rfl, rfl, Nat.le_refl _, fun _ _ => rfl⟩)
        · obtain rfl : k = Ps.length := by omega
          have r1 : ¬ (Ps.length : Int) < (Ps.length : Int) := by omega
          rw [List.drop_eq_nil_of_le (by simp)] at hbl hcnt
          have hRB2 : RB = (0, L.map FM.fv) := by rw [← hbl, blkP]
          have hLn : L.length ≤ 1048576 := by omega
          have hri := refRight_any A' c' L wr (Rd.of_own hF.own) hLn
          have hR2 : R.1 = if rightF L = false ∨ L.length ≠ count then 24 else 0 := by
            rw [HO6.out, hRB2]
            simp only [endP, rightF_fv, List.length_map]
            simp only [ne_eq, not_true_eq_false, if_false]
            split <;> rfl
          have HR2 := Lib.hid hR2
          clear hbl hcnt hRB2 HO6 hR2
          generalize rightF L = rf at *
          go_wp2_with fail
          refine hri.mono ?_
          rintro e9 w9 ⟨rfl, hb9⟩
          clear hri
          have hb09 := hb00.trans (hb9.mono hb00.size)
          clear hb9
          cases rf with
          | false =>
            have HR := Lib.hid (show R.1 = 24 by rw [HR2.out, if_pos (.inl rfl)])
            clear HR2
            go_wp2_with fail
            go_ret2
            exact ROpenPost.bad 24 _ HR.out hb09
          | true =>
            by_cases hcq : L.length = count
            · have HR := Lib.hid (show R.1 = 0 by rw [HR2.out, if_neg (by simp [hcq])])
              have k7 : ((L.length : Int) != (count : Int)) = false := by simp [hcq]
              clear HR2 hcq
              go_wp2_with fail
              go_ret2
              exact ⟨hb09, _, by rw [HR.out]; rfl⟩
            · have HR := Lib.hid (show R.1 = 24 by rw [HR2.out, if_pos (.inr hcq)])
              have k7 : ((L.length : Int) != (count : Int)) = true := by simp; omega
              clear HR2 hcq
              go_wp2_with fail
              go_ret2
              exact ROpenPost.bad 24 _ HR.out hb09
theorem refOpen_any (A : Option Addr) (c : Nat) (b : List UInt8) (w : World) (hr : Rd w A (byts b)) (hc : b.length ≤ c) (hl : b.length ≤ 1048576) (hA : ∀ ad, A = some ad → ad.block < w.heap.size) :
    Calls Try.prog 36 #[.slice A b.length c] w (ROpenPost w (refOpenP b)) := by
  by_cases hs : b.length < 12
  · exact refOpen_short A c b w hs
  · have h := refOpen_long A c b (b.length - 12) w (by omega) hr hc hl hA
    rw [show b.length - 12 + 12 = b.length by omega] at h
    exact h
end Go.Proofs.Ytadgaphgomagkaa
