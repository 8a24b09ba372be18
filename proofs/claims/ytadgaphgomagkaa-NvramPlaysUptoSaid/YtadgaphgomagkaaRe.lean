/- The power armed, with a device on it; the reference's cut. -/
import Derived.Test.YtadgaphgomagkaaRc
namespace Go.Proofs.Ytadgaphgomagkaa
open Go.RowKit
set_option maxHeartbeats 4000000
set_option maxRecDepth 100000

theorem cloneI_any (A : Option Addr) (c : Nat) (l : List Int) (w : World) (hr : Rd w A (ints l)) (hl : l.length ≤ 2000000) :
    Calls Try.prog 57 #[.slice A l.length c] w fun e w' => ∃ A' c', e = .returned (.slice A' l.length c') ∧
      w'.ownsRow w.heap.size 3 1 (.slice A' l.length c') l.length (ints l) ∧ Below w.heap.size w w' := by
  have hnil := fun (W : World) => Lib.run_eql_slice_nil (P := Try.prog) W 36 3 A l.length c 0 0 Try.underlying36
  rcases A with _ | ad
  · have : l = [] := by have := hr.eq_nil; simpa [ints] using this
    subst this
    show Calls Try.prog 57 #[.slice none 0 c] w _
    have hn : ∀ W, (binOp .eql 36 (.slice none 0 c) (.slice none 0 0)).run Try.prog W = .ok (.bool true) W := hnil
    clear hnil
    go_enter Try.func57, Try.ntmps57
    go_wp2
    go_ret
    exact ⟨none, 0, rfl, World.ownsRow_nil _ _ _ _, Below.refl _ _⟩
  · have hown : (w.alloc (.cells #[] 3)).ownsRow w.heap.size 3 1 (.slice (some ⟨w.heap.size, 0, none⟩) 0 0) 0 [] := World.ownsRow_made w #[] 0 (Nat.le_refl _) (by unfold maxLen; omega) rfl
    have hr1 := hr.alloc (.cells #[] 3)
    have hL := ints_length l
    have HL := Lib.hid hL
    clear hL
    go_enter Try.func57, Try.ntmps57
    go_wp2_with (first | (at_builtin; refine wpList_app _ rfl _ _ rfl slI w.heap.size (.slice (some ⟨w.heap.size, 0, none⟩) 0 0) 0 [] rfl hown (some ad) l.length c (ints l) rfl (by rw [HL.out, Nat.mul_one]) hr1 (ints_one l) (by unfold maxLen; omega) (by omega) (by simp) ?_; intro A2 c2 w2 ho2 hg2))
    go_ret
    refine ⟨A2, c2, rfl, by simpa using ho2, ?_⟩
    exact ((Below.refl _ _).alloc (Nat.le_refl _) _).trans (hg2.toBelow (by simp) (by simp [Value.ownBlock]))

section
variable {w w1 : World} {B D P R G m : Nat} {off : Bool} {armed : Nat} {picks : List Int} {kept : List UInt8} {L : List (Nat × UInt8)}
theorem p_arm (h : NvP w B D P G kept L off armed picks m) (n : Int) (A : Option Addr) (c : Nat) (l : List Int) (hr : Rd w A (ints l)) (hl : l.length ≤ 2000000) (hk : ∀ x ∈ l, x ≤ 9223372036854775807) :
    Calls Try.prog 27 #[.pointer (some ⟨P, 0, none⟩), .int .i64 n, .slice A l.length c] w fun e w' => e = .returned (.tuple #[]) ∧ NvP w' B D P G kept L off (max n 1).toNat l m ∧ ChgN B G w w' := by
  have hc := cloneI_any A c l w hr hl
  have hmax : max n 1 = (((max n 1).toNat : Nat) : Int) := by omega
  generalize (max n 1).toNat = N at hmax ⊢
  obtain ⟨us, uA, uc, h1, h2, h3, h4, h5⟩ := h
  obtain ⟨pA, pc, dA, dc, hp1, hp2, hp3, hp4, hp5, hp6⟩ := h3.at_
  have key : ∀ w2 A2 c2, w2.ownsRow w.heap.size 3 1 (.slice A2 l.length c2) l.length (ints l) → Below w.heap.size w w2 →
      NvP ((w2.setCell ⟨P, 1, none⟩ (.int .i64 (N : Nat))).setCell ⟨P, 2, none⟩ (.slice A2 l.length c2)) B D P G kept L off N l m ∧ ChgN B G w ((w2.setCell ⟨P, 1, none⟩ (.int .i64 (N : Nat))).setCell ⟨P, 2, none⟩ (.slice A2 l.length c2)) := by
    intro w2 A2 c2 ho2 hb2
    have z1 := hp1.blk.below' hb2
    have z2 := (z1.set 1 (.int .i64 (N : Nat))).set 2 (.slice A2 l.length c2)
    have hcc : Chg (fun k => k = P) w2 ((w2.setCell ⟨P, 1, none⟩ (.int .i64 (N : Nat))).setCell ⟨P, 2, none⟩ (.slice A2 l.length c2)) := Chg.set (S := fun k => k = P) (Chg.set (S := fun k => k = P) (Chg.refl _ _) rfl _ _) rfl _ _
    have hA := own_has ho2
    have hP2 := z1.has
    have hAP : ∀ ad, A2 = some ad → ¬ ad.block = P := fun ad e e' => ((hA ad e).ne hP2 (by decide)) e'
    have hd2 : ∀ ad, dA = some ad → Has w2 ad.block 146 := fun ad e => (hp6 ad e).keep (S := fun _ => False) (.of_below hb2) (fun h => h)
    have hdP : ∀ ad, dA = some ad → ¬ ad.block = P := fun ad e e' => ((hd2 ad e).ne hP2 (by decide)) e'
    have hN : ChgN B G w2 ((w2.setCell ⟨P, 1, none⟩ (.int .i64 (N : Nat))).setCell ⟨P, 2, none⟩ (.slice A2 l.length c2)) := ChgN.of hcc fun k _ hk => by rw [show k = P from hk]; exact ⟨h3.low, .inr ⟨_, .inl rfl, hP2⟩⟩
    refine ⟨⟨us, uA, uc, (h1.below hb2).keepP hP2 hcc, h2, ⟨⟨A2, c2, dA, dc, ⟨by simpa using z2⟩, (Rd.of_own ho2).keepC hcc hAP, (own_cap ho2).1, fun ad e => (hA ad e).keep hcc (hAP ad e), (hp5.below hb2).keepC hcc hdP, fun ad e => (hd2 ad e).keep hcc (hdP ad e)⟩, h3.low, hl, hk⟩, Nat.le_trans h4 (Nat.le_trans hb2.size hcc.size), h5⟩, (ChgN.of_below hb2).trans hN⟩
  have hpb := hp1.blk
  clear h1 h2 h3 hp1 hp2 hp3 hp4 hp5 hp6 h4 h5
  by_cases hn : 1 ≤ n
  · obtain rfl : n = (N : Int) := by omega
    clear hmax
    go_enter Try.func27, Try.ntmps27
    go_wp2_with (go_at_call 57; refine hc.mono ?_; rintro e w2 ⟨A2, c2, rfl, ho2, hb2⟩; have z1 := hpb.below' hb2; have f1 : w2.frozen? ⟨P, 1, none⟩ = false := z1.frozen 1; have f2 : w2.frozen? ⟨P, 2, none⟩ = false := z1.frozen 2; have y1 : w2.cell? ⟨P, 1, none⟩ = some (.int .i64 armed) := z1.cell 1; have y2 : w2.cell? ⟨P, 2, none⟩ = some (.slice pA picks.length pc) := z1.cell 2)
    go_end0
    exact ⟨rfl, key _ _ _ ho2 hb2⟩
  · obtain rfl : N = 1 := by omega
    clear hmax
    have hn1 : ¬ 1 ≤ n := hn
    go_enter Try.func27, Try.ntmps27
    go_wp2_with (go_at_call 57; refine hc.mono ?_; rintro e w2 ⟨A2, c2, rfl, ho2, hb2⟩; have z1 := hpb.below' hb2; have f1 : w2.frozen? ⟨P, 1, none⟩ = false := z1.frozen 1; have f2 : w2.frozen? ⟨P, 2, none⟩ = false := z1.frozen 2; have y1 : w2.cell? ⟨P, 1, none⟩ = some (.int .i64 armed) := z1.cell 1; have y2 : w2.cell? ⟨P, 2, none⟩ = some (.slice pA picks.length pc) := z1.cell 2)
    go_end0
    exact ⟨rfl, key _ _ _ ho2 hb2⟩

theorem refCut_ok (w : World) (B R G : Nat) (kept : List UInt8) (L : List (Nat × UInt8)) (kA : Option Addr) (kc : Nat) (lA : Option Addr) (lc : Nat) (h : RfAt w B R G kept L kA kc lA lc) (hbl : kept.length ≤ 67108864) (hlt : ∀ p ∈ L, p.1 < kept.length) (hLs : L.length ≤ 2000000) (hG : G < w.heap.size) (A : Option Addr) (c : Nat) (p : List Int) (hp : Rd w A (ints p)) (hpx : ∀ x ∈ p, x ≤ 9223372036854775807) :
    Calls Try.prog 26 #[.pointer (some ⟨R, 0, none⟩), .slice A p.length c] w fun e w' => e = .returned (.tuple #[]) ∧ (∃ kA' kc', RfAt w' B R G (app kept (L.take (keptW p L.length))) [] kA' kc' none 0) ∧ ChgR B w w' := by
  have c2 : w.cell? ⟨R, 1, none⟩ = some (.slice lA L.length lc) := h.dev.cell 1
  have hk0 := keptW_le p L.length
  go_enter Try.func26, Try.ntmps26
  go_upto_region 1 with fail
  go_cut [13] (fun s13 wx => s13 = .bool (firstPos p) ∧ w = wx)
  case first =>
    by_cases hn : p.length = 0
    · have hn1 : decide (0 < p.length) = false := decide_eq_false (by omega)
      have hfp := firstPos_nil hn
      clear hn
      go_wp2_with fail
      go_meet
      exact ⟨by rw [hfp], rfl⟩
    · obtain ⟨la, rfl, _, hcell⟩ := hp.at_ (k := 0) (by simp [ints]; omega)
      simp only [ints, List.getElem_map] at hcell
      have hc0 : w.cell? la = some (.int .i64 p[0]) := by rw [← hcell]; congr 1
      have hn1 : (0 : Int) < (p.length : Int) := by omega
      have hfp := firstPos_at (p := p) (by omega)
      generalize p[0] = x at *
      clear hcell
      by_cases hx : 0 ≤ x
      · go_wp2_with fail
        go_meet
        exact ⟨by rw [hfp]; simp [hx], rfl⟩
      · go_wp2_with fail
        go_meet
        exact ⟨by rw [hfp]; simp [hx], rfl⟩
  case rest =>
    obtain ⟨rfl, rfl⟩ := hcut
    go_upto_if 13 with fail
    go_cut [4] (fun s4 wx => s4 = .int .i64 (keptW p L.length : Nat) ∧ (wx = w ∨ ∃ n, wx = w.drewN n))
    case first =>
      by_cases hb : firstPos p = true
      · have hk := keptW_true hb L.length
        have hpl := firstPos_len hb
        obtain ⟨la, rfl, _, hcell⟩ := hp.at_ (k := 0) (by simpa [ints] using hpl)
        simp only [ints, List.getElem_map] at hcell
        have hc0 : w.cell? la = some (.int .i64 p[0]) := by rw [← hcell]; congr 1
        have hn1 : (0 : Int) < (p.length : Int) := by omega
        have hfp := firstPos_at (p := p) (by omega)
        have hxm := hpx p[0] (List.getElem_mem (by omega))
        rw [hb] at hfp ⊢
        have hx : 0 ≤ p[0] := by simpa using hfp.symm
        generalize p[0] = x at *
        clear hcell hfp
        obtain ⟨y, rfl⟩ : ∃ y : Nat, x = (y : Int) := ⟨x.toNat, by omega⟩
        simp only [Int.toNat_natCast] at hk
        have hq : Int.tmod (y : Int) ((L.length : Int) + 1) = ((y % (L.length + 1) : Nat) : Int) := by
          rw [Int.tmod_eq_emod_of_nonneg (by omega)]; push_cast; rfl
        have HK := Lib.hid hk
        clear hk
        generalize y % (L.length + 1) = q at *
        go_wp2_with fail
        go_quiet (fail)
        go_wp2_with fail
        go_meet
        exact ⟨by rw [HK.out], .inr ⟨_, rfl⟩⟩
      · have hb0 : firstPos p = false := by simpa using hb
        rw [hb0]
        go_wp2_with fail
        go_meet
        refine ⟨?_, .inl rfl⟩
        rw [keptW_false hb0]; rfl
    case rest =>
      obtain ⟨rfl, hwx⟩ := hcut
      have hbw : Below w.heap.size w wc := by
        rcases hwx with rfl | ⟨n, rfl⟩
        · exact Below.refl _ _
        · exact below_drewN (Below.refl _ _) n
      have h3 := h.below hbw
      have hG3 : G < wc.heap.size := Nat.lt_of_lt_of_le hG hbw.size
      clear hwx h c2 hp
      generalize hqe : keptW p L.length = q at *
      have HQ := Lib.hid hqe
      clear hqe
      have hnow := now_any wc B R G kept L kA kc lA lc h3 hbl hlt q hk0 hLs
      go_wp2_with (go_at_call 56; refine hnow.mono ?_; rintro e w2 ⟨A2, c2, rfl, ho2, hb2⟩; have h2 := h3.below hb2; have f0 := h2.dev.frozen 0; have f1 := h2.dev.frozen 1; have x0 := h2.dev.cell 0; have x1 := h2.dev.cell 1)
      go_end0
      rw [HQ.out]
      have hc : Chg (fun j => j = R) w2 ((w2.setCell ⟨R, 0, none⟩ (.slice A2 kept.length c2)).setCell ⟨R, 1, none⟩ (.slice none 0 0)) := Chg.set (S := fun j => j = R) (Chg.set (S := fun j => j = R) (Chg.refl _ _) rfl _ _) rfl _ _
      have hneR : ∀ ad, A2 = some ad → ad.block ≠ R := fun ad e => (own_has ho2 ad e).ne h2.dev.has (by decide)
      refine ⟨rfl, ⟨A2, c2, ?_, ?_, ?_, fun ad e => ⟨?_, ?_⟩, World.ownsRow_nil _ _ _ _, h3.low⟩, ((ChgR.of_below hbw).trans (ChgR.of_below hb2)).trans (ChgR.of hc fun j _ hj => ?_)⟩
      · have := (h2.dev.set 0 (.slice A2 kept.length c2)).set 1 (.slice none 0 0)
        rw [app_length]
        simpa using this
      · exact (Rd.of_own ho2).keepC hc hneR
      · rw [app_length]; exact (own_cap ho2).1
      · exact (own_has ho2 ad e).keep hc (hneR ad e)
      · have := ((own_cap ho2).2.2 ad e).1
        omega
      · rw [show j = R from hj]
        exact ⟨h3.low, _, .inl rfl, h2.dev.has⟩
end
end Go.Proofs.Ytadgaphgomagkaa
