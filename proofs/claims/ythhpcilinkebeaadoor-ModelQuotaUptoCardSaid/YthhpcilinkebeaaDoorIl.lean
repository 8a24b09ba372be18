/- ModelSnaps: its walk. -/
import Derived.Test.YthhpcilinkebeaaDoorIk
namespace Go.Proofs.YthhpcilinkebeaaDoor
open Go.RowKit Go.Maps
set_option maxHeartbeats 4000000
set_option maxRecDepth 100000

/-- operations that are an argument -/
structure OpsArg (w : World) (P : Option Addr) (l : List OM) : Prop where
  rd : Rd w P (ocells l)
  len : l.length ≤ 281474976710656
  str : ∀ o ∈ l, o.name.size ≤ 281474976710656 ∧ o.dst.size ≤ 281474976710656 ∧ o.l.length ≤ 140737488351232
  op : ∀ o ∈ l, Rd w o.A (byts o.l) ∧ o.l.length ≤ o.c ∧ I64 o.kind ∧ I64 o.at_ ∧ I64 o.n
theorem Rd.lo {w : World} {A : Option Addr} {xs : List Value} (h : Rd w A xs) (hn : xs ≠ []) : ∀ ad, A = some ad → ad.block < w.heap.size := fun ad e => by
  obtain ⟨a', e', hb, _⟩ := h hn
  rw [e] at e'
  injection e' with e'
  rw [e']; exact hb
theorem OpsArg.ok {w w' : World} {P : Option Addr} {l : List OM} (h : OpsArg w P l) (hb : Below w.heap.size w w') (hf : szsum l ≤ 32768) : ∀ o ∈ l, o.ok w' := fun o ho => by
  have h1 := sz_mem ho
  have h2 := h.op o ho
  unfold OM.sz at h1
  exact ⟨h2.1.below hb, h2.2.1, by omega, by omega, by omega, h2.2.2.1, h2.2.2.2.1, h2.2.2.2.2⟩
theorem OpsArg.few {w w' : World} {P : Option Addr} {l : List OM} (h : OpsArg w P l) (hb : Below w.heap.size w w') (blk : Int) (c : Nat) : Calls Tryd.prog 11 #[.slice P l.length c, .int .i64 blk] w' (FewPost l w') :=
  few_any w' P c l blk (h.rd.below hb) (fun o ho => by have := h.str o ho; omega) h.len
theorem doV_err (av : AV) (o : OV) : (doV nameE av o).1.err = checkV nameE av o := by
  by_cases hc : checkV nameE av o = 0
  · have hr := check_right hc
    rw [doV_ok hc, hc]
    dsimp only
    rcases right_kind hr with hk | hk | hk | hk | hk | hk | hk | hk | hk <;> simp only [hk] <;> rfl
  · unfold doV
    rw [if_pos hc]
def sVol : ByteArray := ⟨#[118, 111, 108]⟩
def sSnap : ByteArray := ⟨#[116, 104, 101, 45, 115, 110, 97, 112]⟩
def sClone : ByteArray := ⟨#[116, 104, 101, 45, 99, 108, 111, 110, 101]⟩
def oMk : OM := ⟨1, sVol, ⟨#[]⟩, 0, 40, none, [], 0⟩
def oSn : OM := ⟨6, sVol, sSnap, 0, 0, none, [], 0⟩
def oCl : OM := ⟨7, sSnap, sClone, 0, 0, none, [], 0⟩
theorem lit_ok (w : World) (o : OM) (h : o.A = none ∧ o.l = []) (h2 : o.name.size ≤ 1048576 ∧ o.dst.size ≤ 1048576 ∧ I64 o.kind ∧ I64 o.at_ ∧ I64 o.n) : o.ok w :=
  ⟨by rw [h.2]; exact fun h => absurd rfl h, by rw [h.2]; exact Nat.zero_le _, by rw [h.2]; exact Nat.zero_le _, h2.1, h2.2.1, h2.2.2.1, h2.2.2.2.1, h2.2.2.2.2⟩
theorem oMk_ok (w : World) : oMk.ok w := lit_ok w _ ⟨rfl, rfl⟩ (by unfold I64; decide)
theorem oSn_ok (w : World) : oSn.ok w := lit_ok w _ ⟨rfl, rfl⟩ (by unfold I64; decide)
theorem oCl_ok (w : World) : oCl.ok w := lit_ok w _ ⟨rfl, rfl⟩ (by unfold I64; decide)
theorem blockV_snap (b : Nat) (v : VV) (s : Bool) (i : Int) : blockV b (some { v with snap := s }) i = blockV b (some v) i := rfl
theorem snap_vals {q : Nat} {V : List (Bts × VV)} (h1 : checkV nameE ⟨4, q, V⟩ oSn.ov = 0) (h2 : checkV nameE ⟨4, q, (doV nameE ⟨4, q, V⟩ oSn.ov).2.vols⟩ oCl.ov = 0) :
    ∃ v a b, (doV nameE ⟨4, q, (doV nameE ⟨4, q, V⟩ oSn.ov).2.vols⟩ oCl.ov).2.vols = putV (putV V (strB sSnap) { v with snap := a }) (strB sClone) { v with snap := b } ∧ getV V (strB sVol) = some v := by
  have e1 : (doV nameE ⟨4, q, V⟩ oSn.ov).2.vols = putV V (strB sSnap) { ((getV V (strB sVol)).getD nilV) with snap := true } := by rw [doV_ok h1]; rfl
  rw [doV_ok h2]
  rw [e1]
  obtain ⟨v, hv⟩ : ∃ v, getV V (strB sVol) = some v := by
    have hr := check_right h1
    have hcc := h1
    unfold checkV at hcc
    rw [if_neg (by rw [hr]; simp)] at hcc
    have h4 : whenV (getV V (strB sVol)).isNone 4 = 0 := fv0 hcc _ (List.mem_cons_self ..)
    have := wh0 h4 (by decide)
    cases hg : getV V (strB sVol) with
    | none => rw [hg] at this; cases this
    | some v => exact ⟨v, rfl⟩
  refine ⟨v, true, false, ?_, hv⟩
  rw [hv]
  show putV _ _ { ((getV (putV V (strB sSnap) { v with snap := true }) (strB sSnap)).getD nilV) with snap := decide ((7 : Int) = 6) } = _
  rw [getV_put, if_pos rfl]
  rfl
theorem touch_keep {q : Nat} {V : List (Bts × VV)} {o : OM} {s : ByteArray} {x : VV} (ht : (decide (o.name.toList = s.toList) && decide (o.kind ≠ 3) && decide (o.kind ≠ 6) && decide (o.kind ≠ 7)) = false) (hg : getV V (strB s) = some x) : getV (doV nameE ⟨4, q, V⟩ o.ov).2.vols (strB s) = some x := by
  rw [doV_keep (av := ⟨4, q, V⟩) (by show (getV V (strB s)).isSome = true; rw [hg]; rfl) (fun h => ?_)]
  · exact hg
  · obtain ⟨a1, a2, a3, a4⟩ := h
    have e : o.name.toList = s.toList := by rw [Lib.toList_data, Lib.toList_data]; exact a1
    have a2' : o.kind ≠ 3 := a2
    have a3' : o.kind ≠ 6 := a3
    have a4' : o.kind ≠ 7 := a4
    simp [e, a2', a3', a4'] at ht
theorem run_err (n : Int) (s1 s2 : Value) (W : World) : (Instr.field 36 (.agg #[.int .i64 n, s1, s2]) 0).run Tryd.prog W = .ok (.int .i64 n) W := by kernel_rfl
theorem modelSnaps_any {w0 : World} (hT : Tabs w0) {P1 P2 : Option Addr} {c1 c2 : Nat} {l1 l2 : List OM} (h1 : OpsArg w0 P1 l1) (h2 : OpsArg w0 P2 l2) {at_ : Int} :
    Calls Tryd.prog 3 #[.slice P1 l1.length c1, .slice P2 l2.length c2, .int .i64 at_] w0 fun e w' => e = .returned (.bool true) ∧ Below w0.heap.size w0 w' := by
  have hkn := known_any w0 hT
  go_enter Tryd.func3, Tryd.ntmps3
  go_wp2_with fail
  refine hkn.mono ?_
  rintro e w1 ⟨rfl, hb1⟩
  clear hkn
  have hT1 := nameC.keep _ _ hT hb1
  have hf1 := h1.few hb1 4 c1
  go_wp2_with fail
  refine hf1.mono ?_
  rintro e w2 ⟨b1, rfl, hq1, hb2⟩
  clear hf1
  have hT2 := nameC.keep _ _ hT1 hb2
  have hb02 := hb1.trans (hb2.mono hb1.size)
  clear hb1 hb2 hT1
  cases b1 with
  | false =>
    go_wp2_with fail
    go_ret
    exact ⟨rfl, hb02⟩
  | true =>
  obtain ⟨hn1, hs1⟩ := hq1 rfl
  clear hq1
  have hf2 := h2.few hb02 4 c2
  go_wp2_with fail
  refine hf2.mono ?_
  rintro e w3 ⟨b2, rfl, hq2, hb3⟩
  clear hf2
  have hT3 := nameC.keep _ _ hT2 hb3
  have hb03 := hb02.trans (hb3.mono hb02.size)
  clear hb02 hb3 hT2
  cases b2 with
  | false =>
    go_wp2_with fail
    go_ret
    exact ⟨rfl, hb03⟩
  | true =>
  obtain ⟨hn2, hs2⟩ := hq2 rfl
  clear hq2
  have hnew := md_new (w0 := w0) (w := w3) 4 1048576 (by decide) (by decide) (by decide) hb03 hT3
  go_wp2_with fail
  refine hnew.mono ?_
  rintro e w4 ⟨A, M, rfl, hM, hb4⟩
  clear hnew hT3 hb03 hb4
  have hb04 := hM.below
  go_wp2_with fail
  have hx5 := (Below.refl w4.heap.size w4).alloc (Nat.le_refl _) (.cells (ocells [oMk]).toArray 33)
  have hr5 := Rd.many w4 (ocells [oMk]) 33
  have hB5 := Blk.new w4 33 (ocells [oMk]).toArray
  have hrun := md_run (c := 1) (hM.sub hx5) [oMk] hr5 (show (1 : Nat) ≤ 1000000 by decide) (fun o ho => by rw [List.mem_singleton.1 ho]; exact oMk_ok _) (fun _ ad e => by injection e with e; subst e; exact SM.not hB5.has (by decide)) (fun o ho _ ad e => by rw [List.mem_singleton.1 ho] at e; cases e)
  generalize (runV nameE ⟨4, 1048576, []⟩ ([oMk].map OM.ov)) = R1 at *
  refine hrun.mono ?_
  rintro e w5 ⟨L1, O1, oc1, rfl, -, -, -, hM5, -⟩
  clear hrun hx5 hr5 hB5 hM hb04
  have hb05 := hM5.below
  have hrun := md_run (c := c1) hM5 l1 (h1.rd.below hb05) (by omega) (h1.ok hb05 hs1) (fun hn ad e => SM.lo (h1.rd.lo hn ad e)) (fun o ho hn ad e => SM.lo ((h1.op o ho).1.lo hn ad e))
  generalize (runV nameE ⟨4, 1048576, R1.2.vols⟩ (l1.map OM.ov)) = R2 at *
  go_wp2_with fail
  refine hrun.mono ?_
  rintro e w6 ⟨L2, O2, oc2, rfl, -, -, -, hM6, -⟩
  clear hrun hM5 hb05
  have hdo := md_do hM6 oSn (oSn_ok _)
  have he1 := doV_err ⟨4, 1048576, R2.2.vols⟩ oSn.ov
  have HV := Lib.hid (@snap_vals 1048576 R2.2.vols)
  go_wp2_with fail
  refine hdo.mono ?_
  rintro e w7 ⟨v1, rfl, hA1, hM7, -⟩
  clear hdo hM6
  obtain ⟨x1, hx1, rfl, -⟩ := hA1.am
  clear hA1
  generalize doV nameE ⟨4, 1048576, R2.2.vols⟩ oSn.ov = r3 at *
  rw [← hx1] at he1
  generalize checkV nameE ⟨4, 1048576, R2.2.vols⟩ oSn.ov = C1 at *
  have hcx : x1.cells.toArray = #[.int .i64 (C1 : Nat), .slice x1.B x1.v.data.length x1.c, .slice x1.D x1.v.vols.length x1.c2] := by rw [← he1]; rfl
  rw [hcx]
  clear hcx he1 hx1
  have hfd := run_err (C1 : Nat) (.slice x1.B x1.v.data.length x1.c) (.slice x1.D x1.v.vols.length x1.c2) w7
  by_cases hC1 : C1 = 0
  case neg =>
    have k1 : ((C1 : Int) != 0) = true := by simp; omega
    have hb07 := hM7.below
    clear hC1 HV
    go_wp2_with fail
    go_ret
    exact ⟨rfl, hb07⟩
  subst hC1
  clear hfd
  have hfd := run_err 0 (.slice x1.B x1.v.data.length x1.c) (.slice x1.D x1.v.vols.length x1.c2) w7
  have hdo := md_do hM7 oCl (oCl_ok _)
  have he2 := doV_err ⟨4, 1048576, r3.2.vols⟩ oCl.ov
  go_wp2_with fail
  refine hdo.mono ?_
  rintro e w8 ⟨v2, rfl, hA2, hM8, -⟩
  clear hdo hM7
  obtain ⟨x2, hx2, rfl, -⟩ := hA2.am
  clear hA2
  generalize doV nameE ⟨4, 1048576, r3.2.vols⟩ oCl.ov = r4 at *
  rw [← hx2] at he2
  generalize checkV nameE ⟨4, 1048576, r3.2.vols⟩ oCl.ov = C2 at *
  have hcx : x2.cells.toArray = #[.int .i64 (C2 : Nat), .slice x2.B x2.v.data.length x2.c, .slice x2.D x2.v.vols.length x2.c2] := by rw [← he2]; rfl
  rw [hcx]
  clear hcx he2 hx2
  have hb08 := hM8.below
  have hfd := run_err (C2 : Nat) (.slice x2.B x2.v.data.length x2.c) (.slice x2.D x2.v.vols.length x2.c2) w8
  by_cases hC2 : C2 = 0
  case neg =>
    have k1 : ((C2 : Int) != 0) = true := by simp; omega
    clear hC2 HV
    go_wp2_with fail
    go_ret
    exact ⟨rfl, hb08⟩
  subst hC2
  clear hfd
  have hfd := run_err 0 (.slice x2.B x2.v.data.length x2.c) (.slice x2.D x2.v.vols.length x2.c2) w8
  obtain ⟨v, a, b, hr4, hvol⟩ := HV.out (by trivial) (by trivial)
  clear HV
  rw [hr4] at hM8
  obtain ⟨V4, hV4⟩ : ∃ V4, putV (putV R2.2.vols (strB sSnap) { v with snap := a }) (strB sClone) { v with snap := b } = V4 := ⟨_, rfl⟩
  have g1 : getV V4 (strB sVol) = some v := by
    rw [← hV4, getV_put, if_neg (by decide), getV_put, if_neg (by decide)]; exact hvol
  have g2 : getV V4 (strB sSnap) = some { v with snap := a } := by
    rw [← hV4, getV_put, if_neg (by decide), getV_put, if_pos rfl]
  have g3 : getV V4 (strB sClone) = some { v with snap := b } := by
    rw [← hV4, getV_put, if_pos rfl]
  rw [hV4] at hM8
  clear hV4 hvol hr4
  have t1 : at_.tmod 40 < 40 := Int.tmod_lt_of_pos _ (by decide)
  have t2 : -40 < at_.tmod 40 := Int.lt_tmod_of_pos _ (by decide)
  go_upto_if 54 with fail
  generalize at_.tmod 40 = r at *
  go_cut [2] (fun s2 wx => ∃ i : Int, s2 = .int .i64 i ∧ 0 ≤ i ∧ i < 40 ∧ wx = w8)
  case first =>
    by_cases hr0 : r < 0
    · have kw : IntKind.i64.wrap (0 - r) = -r := by rw [IntWalk.i64_in _ (by omega)]; omega
      go_wp2_with fail
      go_meet
      exact ⟨-r, rfl, by omega, by omega, rfl⟩
    · go_wp2_with fail
      go_meet
      exact ⟨r, rfl, by omega, by omega, rfl⟩
  case rest =>
  obtain ⟨i, rfl, hi0, hi1, rfl⟩ := hcut
  clear t1 t2 hfd
  have hbk := md_block hM8 sVol (by decide) i ⟨by omega, by omega⟩
  rw [g1] at hbk
  clear g1
  generalize hB : blockV 4 (some v) i = bo at hbk
  go_wp2_with fail
  refine hbk.mono ?_
  rintro e w9 ⟨hb9, hpost⟩
  clear hbk
  have hM9 := hM8.sub hb9
  have hb09 := hM9.below
  clear hM8 hb9 hb08
  cases bo with
  | none =>
    replace hpost : e = .returned (.tuple #[.slice none 0 0, .bool false]) := hpost
    subst hpost
    clear g2 g3 hB
    go_wp2_with fail
    go_ret
    exact ⟨rfl, hb09⟩
  | some was =>
  obtain ⟨WA, wcap, rfl, hwr, hwc, hwh⟩ := hpost
  replace hwh := fun ad e => (hwh ad e).2
  have HB := Lib.hid hB
  clear hB
  generalize hsv : ({ v with snap := a } : VV) = va at *
  generalize hcv : ({ v with snap := b } : VV) = vb at *
  have HBa : Hid (blockV 4 (some va) i = some was) := Lib.hid (by rw [← hsv]; exact HB.out)
  have HBb : Hid (blockV 4 (some vb) i = some was) := Lib.hid (by rw [← hcv]; exact HB.out)
  clear hsv hcv HB
  go_wp2_with fail
  go_loopg [11, 12, 13, 14, 15] l2.length (fun m s11 s12 s13 s14 s15 wr => ∃ (k : Nat) (V : List (Bts × VV)), m = l2.length - k ∧ k ≤ l2.length ∧ s11 = .int .i64 (k : Nat) ∧ MdS w0 wr A M 4 1048576 V ∧ getV V (strB sSnap) = some va ∧ getV V (strB sClone) = some vb ∧ Rd wr WA (byts was) ∧ ∀ ad, WA = some ad → Has wr ad.block 5)
  case atStart => exact ⟨0, V4, by omega, by omega, rfl, hM9, g2, g3, hwr, hwh⟩
  case round =>
    clear hM9 g2 g3 hwr hwh hb09
    obtain ⟨k, V, rfl, hk, rfl, hM, g2, g3, hwr, hwh⟩ := hrel
    by_cases hlt : k < l2.length
    · have r1 : (k : Int) < (l2.length : Int) := by omega
      have hops := fun W (hW : Below w0.heap.size w0 W) => ops_at (h2.rd.below hW) k hlt
      have hok := fun W (hW : Below w0.heap.size w0 W) => h2.ok hW hs2 _ (List.getElem_mem hlt)
      generalize l2[k] = o at *
      obtain ⟨ad, rfl, -, d0, d1, d2, d3, d4, d5⟩ := hops wr hM.below
      have hto := touches_any o sSnap wr
      obtain ⟨tb1, htb1⟩ : ∃ tb, (decide (o.name.toList = sSnap.toList) && decide (o.kind ≠ 3) && decide (o.kind ≠ 6) && decide (o.kind ≠ 7)) = tb := ⟨_, rfl⟩
      rw [htb1] at hto
      have HT1 := Lib.hid htb1
      clear htb1
      go_wp2_with fail
      refine hto.mono ?_
      rintro e w10 ⟨rfl, hb10⟩
      clear hto d0 d1 d2 d3 d4 d5
      have hM10 := hM.sub hb10
      have hwr10 := hwr.below hb10
      have hwh10 := fun ad e => (hwh ad e).keep (Chg.of_below (S := fun _ => False) hb10) (fun h => h)
      clear hM hwr hwh hb10
      cases tb1 with
      | true =>
        go_wp2_with fail
        go_roundg (l2.length - (k + 1))
        case measure => omega
        case rel => exact ⟨k + 1, V, rfl, hlt, by go_num, hM10, g2, g3, hwr10, hwh10⟩
      | false =>
      obtain ⟨ad', e', -, d0, d1, d2, d3, d4, d5⟩ := hops w10 hM10.below
      injection e' with e'
      subst e'
      have hto := touches_any o sClone w10
      obtain ⟨tb2, htb2⟩ : ∃ tb, (decide (o.name.toList = sClone.toList) && decide (o.kind ≠ 3) && decide (o.kind ≠ 6) && decide (o.kind ≠ 7)) = tb := ⟨_, rfl⟩
      rw [htb2] at hto
      have HT2 := Lib.hid htb2
      clear htb2
      go_wp2_with fail
      refine hto.mono ?_
      rintro e w11 ⟨rfl, hb11⟩
      clear hto d0 d1 d2 d3 d4 d5
      have hM11 := hM10.sub hb11
      have hwr11 := hwr10.below hb11
      have hwh11 := fun ad e => (hwh10 ad e).keep (Chg.of_below (S := fun _ => False) hb11) (fun h => h)
      clear hM10 hwr10 hwh10 hb11
      cases tb2 with
      | true =>
        go_wp2_with fail
        go_roundg (l2.length - (k + 1))
        case measure => omega
        case rel => exact ⟨k + 1, V, rfl, hlt, by go_num, hM11, g2, g3, hwr11, hwh11⟩
      | false =>
      obtain ⟨ad', e', -, d0, d1, d2, d3, d4, d5⟩ := hops w11 hM11.below
      injection e' with e'
      subst e'
      have hdo := md_do hM11 o (hok w11 hM11.below)
      have hk2 := touch_keep (q := 1048576) HT1.out g2
      have hk3 := touch_keep (q := 1048576) HT2.out g3
      generalize doV nameE ⟨4, 1048576, V⟩ o.ov = r5 at *
      clear HT1 HT2 hok hops h2
      go_wp2_with fail
      refine hdo.mono ?_
      rintro e w12 ⟨v3, rfl, -, hM12, hc12⟩
      clear hdo d0 d1 d2 d3 d4 d5
      have hwr12 := hwr11.keepC hc12 fun ad e => SM.not (hwh11 ad e) (by decide)
      have hwh12 := fun ad e => (hwh11 ad e).keep hc12 (SM.not (hwh11 ad e) (by decide))
      clear hM11 hwr11 hwh11 hc12 g2 g3
      have hbx := md_block hM12 sSnap (by decide) i ⟨by omega, by omega⟩
      rw [hk2, HBa.out] at hbx
      go_wp2_with fail
      refine hbx.mono ?_
      rintro e w13 ⟨hb13, XA, xc, rfl, hxr, -, -⟩
      clear hbx
      have hM13 := hM12.sub hb13
      have hwr13 := hwr12.below hb13
      have hwh13 := fun ad e => (hwh12 ad e).keep (Chg.of_below (S := fun _ => False) hb13) (fun h => h)
      clear hM12 hwr12 hwh12 hb13
      have hby := md_block hM13 sClone (by decide) i ⟨by omega, by omega⟩
      rw [hk3, HBb.out] at hby
      go_wp2_with fail
      refine hby.mono ?_
      rintro e w14 ⟨hb14, YA, yc, rfl, hyr, -, -⟩
      clear hby
      have hM14 := hM13.sub hb14
      have hwr14 := hwr13.below hb14
      have hwh14 := fun ad e => (hwh13 ad e).keep (Chg.of_below (S := fun _ => False) hb14) (fun h => h)
      have vx := conv_bytes w14 XA xc _ (hxr.below hb14)
      have vy := conv_bytes w14 YA yc _ hyr
      have vw := conv_bytes w14 WA wcap _ hwr14
      clear hM13 hwr13 hwh13 hb14 hxr hyr
      generalize (⟨was.toArray⟩ : ByteArray) = ws at *
      go_wp2_with fail
      go_roundg (l2.length - (k + 1))
      case measure => omega
      case rel => exact ⟨k + 1, _, rfl, hlt, by go_num, hM14, hk2, hk3, hwr14, hwh14⟩
    · have r1 : ¬ (k : Int) < (l2.length : Int) := by omega
      have hbw := hM.below
      go_wp2_with fail
      go_ret
      exact ⟨rfl, hbw⟩
end Go.Proofs.YthhpcilinkebeaaDoor
