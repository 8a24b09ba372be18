/- The abstract array: a check. PRINTED by tools/hm.py. -/
import Derived.Test.YthhpcilinkebeaaDoorHk
import Derived.Test.YthhpcilinkebeaaDoorHl
import Derived.Test.YthhpcilinkebeaaDoorHe
namespace Go.Proofs.YthhpcilinkebeaaDoor
open Go.RowKit Go.Maps
set_option maxHeartbeats 8000000
set_option maxRecDepth 100000

theorem checkV_at {nameE : Bts → Nat} {block quota : Nat} {ms : List VM} {o : OM} {mv : VV} {is : Bool} (hmv : ((getM ms (strB o.name)).map VM.vv).getD nilV = mv) (his : (getM ms (strB o.name)).isSome = is) (hr : rightV o.ov = true) :
    checkV nameE (avM block quota ms) o.ov =
      if o.kind = 1 then firstV [nameE (strB o.name), whenV (decide (o.n < 1 ∨ 1048576 < o.n)) 1, freshV (avM block quota ms) (strB o.name) o.n]
      else if o.kind = 2 then whenV (!is) 4
      else if o.kind = 3 then firstV [whenV (!is) 4, withinV mv.size o.at_ o.n, whenV (decide (((1048576 / block : Nat) : Int) < o.n)) 3]
      else if o.kind = 4 then firstV [whenV (!is) 4, whenV mv.snap 11, whenV (decide (((o.l.length % block : Nat) : Int) ≠ 0)) 1, withinV mv.size o.at_ ((o.l.length / block : Nat) : Int), whenV (decide ((1048576 : Int) < (o.l.length : Int))) 3]
      else if o.kind = 5 then firstV [whenV (!is) 4, whenV mv.snap 11, withinV mv.size o.at_ o.n]
      else if o.kind = 6 then firstV [whenV (!is) 4, whenV mv.snap 11, nameE (strB o.dst), freshV (avM block quota ms) (strB o.dst) (mv.size : Int)]
      else if o.kind = 7 then firstV [whenV (!is) 4, whenV (!mv.snap) 1, nameE (strB o.dst), freshV (avM block quota ms) (strB o.dst) (mv.size : Int)]
      else if o.kind = 8 then firstV [whenV (!is) 4, whenV mv.snap 11, whenV (decide (o.n < mv.size ∨ 1048576 < o.n)) 1, whenV (decide ((quota : Int) - usedM ms < o.n - mv.size)) 10]
      else 0 := by
  have hg : getV (avM block quota ms).vols o.ov.name = (getM ms (strB o.name)).map VM.vv := getM_vv ms _
  have h4 : ((getM ms (strB o.name)).map VM.vv).isNone = !is := by rw [← his]; cases getM ms (strB o.name) <;> rfl
  have h5 : decide (o.ov.data.length % (avM block quota ms).block ≠ 0) = decide (((o.l.length % block : Nat) : Int) ≠ 0) := decide_eq_decide.2 (by show o.l.length % block ≠ 0 ↔ _; omega)
  have h6 : decide (1048576 < o.ov.data.length) = decide ((1048576 : Int) < (o.l.length : Int)) := decide_eq_decide.2 (by show 1048576 < o.l.length ↔ _; omega)
  have hu : usedV (avM block quota ms).vols = usedM ms := usedM_vv ms
  unfold checkV
  rw [if_neg (by rw [hr]; simp), hg]
  simp only [hmv, h4, h5, h6, hu]
  rfl
theorem firstV3 (a b c d : Nat) (hc : c ≠ 0) : firstV [a, b, c, d] = firstV [a, b, c, 0] := by simp [firstV, hc]
theorem check_any {nameE : Bts → Nat} {T : World → Prop} {w : World} {A M block quota : Nat} {ms : List VM} (hN : NameC nameE T) (h : ArrAt w A M block quota ms) (o : OM) (hok : o.ok w) (hT : T w) {R : Nat} (hR : checkV nameE (avM block quota ms) o.ov = R) :
    Calls Tryd.prog 20 #[.pointer (some ⟨A, 0, none⟩), o.val] w fun e w' => e = .returned (.int .i64 (R : Nat)) ∧ Below w.heap.size w w' := by
  have hb0 := (Below.refl w.heap.size w).alloc (Nat.le_refl _) (.cells o.cells.toArray 33)
  have hO := Blk.new w 33 o.cells.toArray
  have h1 := h.below hb0
  have hok1 := hok.below hb0
  have hT1 := hN.keep _ _ hT hb0
  clear h hok hT
  have hri := right_at o (w.alloc (.cells o.cells.toArray 33)) rfl
  have hov : o.val = .agg o.cells.toArray := rfl
  rw [hov] at hri ⊢
  have HRR := Lib.hid hR
  clear hR
  generalize hrv : rightV o.ov = rv at *
  have HRV := Lib.hid hrv
  clear hrv
  have ce : o.cells.toArray = #[.int .i64 o.kind, .string o.name, .string o.dst, .int .i64 o.at_, .int .i64 o.n, .slice o.A o.l.length o.c] := rfl
  rw [ce] at hri ⊢
  go_enter Tryd.func20, Tryd.ntmps20
  go_wp2_with fail
  refine hri.mono ?_
  rintro e w1 ⟨rfl, hb1⟩
  clear hri
  have hb01 := hb0.trans (hb1.mono hb0.size)
  have h2 := h1.below hb1
  have hO2 := hO.below' hb1
  have hok2 := hok1.below hb1
  have hT2 := hN.keep _ _ hT1 hb1
  clear hb1 h1 hO hok1 hT1 hb0
  cases rv with
  | false =>
    have HE : Hid (R = 1) := Lib.hid (by rw [← HRR.out]; unfold checkV; rw [if_pos HRV.out])
    go_wp2_with fail
    go_ret
    exact ⟨by rw [HE.out]; rfl, hb01⟩
  | true =>
  go_upto_region 3 with fail
  refine regCk3 h2 hO2 hok2 ?_
  intro w2 _ _ _ _ _ _ _ _ _ _ hw2
  subst hw2
  have hbd : Below w1.heap.size w1 w1.drew := (Below.refl _ _).drew
  have h3 := h2.below hbd
  have hO3 := hO2.below' hbd
  have hok3 := hok2.below hbd
  have hT3 := hN.keep _ _ hT2 hbd
  have hb02 := hb01.trans (hbd.mono hb01.size)
  clear h2 hO2 hok2 hT2 hb01 hbd
  generalize w1.drew = w2 at *
  obtain ⟨mv, hmv⟩ : ∃ mv, ((getM ms (strB o.name)).map VM.vv).getD nilV = mv := ⟨_, rfl⟩
  obtain ⟨is, his⟩ : ∃ is, (getM ms (strB o.name)).isSome = is := ⟨_, rfl⟩
  have HCV := Lib.hid (checkV_at (nameE := nameE) (block := block) (quota := quota) hmv his HRV.out)
  have hms : mv.size ≤ 1048576 := by
    rw [← hmv]
    cases hgm : getM ms (strB o.name) with
    | none => exact Nat.zero_le _
    | some m => exact (h3.vol m (getM_mem hgm).1).few
  have HMV := Lib.hid hmv
  have HIS := Lib.hid his
  rw [his]
  clear hmv his
  go_upto_if 23 with fail
  go_cut [5] (fun s5 wx => ∃ (V : Nat) (mp : Value), s5 = .pointer (some ⟨V, 0, none⟩) ∧ Blk wx V 95 #[.int .i64 (mv.size : Nat), .bool mv.snap, mp] ∧ Below w2.heap.size w2 wx)
  case first =>
    as_aux_lemma =>
    cases hgm : getM ms (strB o.name) with
    | none =>
      have his := HIS.out
      have hmv := HMV.out
      rw [hgm] at his hmv
      simp only [Option.isSome_none, Option.map_none, Option.getD_none] at his hmv
      subst his
      simp only [Option.map_none, Option.getD_none]
      clear HIS HMV HCV
      have hnb := Blk.new w2 95 #[.int .i64 0, .bool false, .map none]
      go_wp2_with fail
      go_meet
      exact ⟨w2.heap.size, .map none, rfl, by rw [← hmv]; exact hnb, (Below.refl _ _).alloc (Nat.le_refl _) _⟩
    | some m =>
      have his := HIS.out
      have hmv := HMV.out
      rw [hgm] at his hmv
      simp only [Option.isSome_some, Option.map_some, Option.getD_some] at his hmv
      subst his
      simp only [Option.map_some, Option.getD_some]
      clear HIS HMV HCV
      have hvl := (h3.vol m (getM_mem hgm).1).blk
      unfold VM.ptr
      go_wp2_with fail
      go_meet
      exact ⟨m.V, .map (some m.Bm), rfl, by rw [← hmv]; exact hvl, Below.refl _ _⟩
  case rest =>
  obtain ⟨V, mp, rfl, hV, hbv⟩ := hcut
  have h4 := h3.below hbv
  have hO4 := hO3.below' hbv
  have hok4 := hok3.below hbv
  have hT4 := hN.keep _ _ hT3 hbv
  have hb03 := hb02.trans (hbv.mono hb02.size)
  clear h3 hO3 hok3 hT3 hb02 hbv HIS HMV
  go_upto_region 6 with fail
  refine regCk6 hV ?_
  intro w3 _ _ _ _ _ _ _ _ hw3
  subst hw3
  have hbd : Below wc.heap.size wc wc.drew := (Below.refl _ _).drew
  have h5 := h4.below hbd
  have hO5 := hO4.below' hbd
  have hok5 := hok4.below hbd
  have hT5 := hN.keep _ _ hT4 hbd
  have hV5 := hV.below' hbd
  have hb04 := hb03.trans (hbd.mono hb03.size)
  clear h4 hO4 hok4 hT4 hV hb03 hbd
  generalize wc.drew = w3 at *
  have hty := typed_any o w3
  rw [hov] at hty
  obtain ⟨e7, he7⟩ : ∃ e7, whenV (!is) 4 = e7 := ⟨_, rfl⟩
  obtain ⟨e8, he8⟩ : ∃ e8, whenV mv.snap 11 = e8 := ⟨_, rfl⟩
  rw [he7, he8] at HCV
  rw [he7, he8]
  clear he7 he8
  obtain ⟨sz, hsz⟩ : ∃ sz, mv.size = sz := ⟨_, rfl⟩
  obtain ⟨sn, hsn⟩ : ∃ sn, mv.snap = sn := ⟨_, rfl⟩
  rw [hsz] at HCV hV5 hms
  rw [hsn] at HCV hV5
  clear hsz hsn
  have c0 := hO5.cell 0
  have c1 := hO5.cell 1
  have c2 := hO5.cell 2
  have c3 := hO5.cell 3
  have c4 := hO5.cell 4
  have c5 := hO5.cell 5
  rcases kinds o.kind with hk | hk | hk | hk | hk | hk | hk | hk | hk | ⟨k1, k2, k3, k4, k5, k6, k7, k8, k9⟩
  · have HC : Hid (R = firstV [nameE (strB o.name), whenV (decide (o.n < 1 ∨ 1048576 < o.n)) 1, freshV (avM block quota ms) (strB o.name) o.n]) := Lib.hid (HRR.out.symm.trans (HCV.out.trans (by first | (rw [hk]; done) | (rw [hk]; rfl))))
    replace hty : Calls Tryd.prog 39 #[.agg o.cells.toArray] w3 fun x w' => x = .returned (.iface 83 (.agg o.cells.toArray)) ∧ Below w3.heap.size w3 w' := by
      refine hty.mono fun e w' he => ⟨he.1.trans ?_, he.2⟩
      unfold OM.typed
      rw [hk]
      rfl
    obtain ⟨m1, m2, m3, m4, m5, m6, m7, m8⟩ := ta_all_makes (.agg #[.int .i64 o.kind, .string o.name, .string o.dst, .int .i64 o.at_, .int .i64 o.n, .slice o.A o.l.length o.c])
    clear HCV HRR HRV hk
    go_wp2_with fail
    refine hty.mono ?_
    rintro e w4 ⟨rfl, hb4⟩
    clear hty c0 c1 c2 c3 c4 c5
    have h6 := h5.below hb4
    have hO6 := hO5.below' hb4
    have hok6 := hok5.below hb4
    have hT6 := hN.keep _ _ hT5 hb4
    have hV6 := hV5.below' hb4
    have hb05 := hb04.trans (hb4.mono hb04.size)
    clear h5 hO5 hok5 hT5 hV5 hb04 hb4
    by_cases hlt : o.n < 1
    · have hc1 : decide (o.n < 1) = true := decide_eq_true hlt
      have hd : decide (o.n < 1 ∨ 1048576 < o.n) = true := by simp [hlt]
      rw [hd] at HC
      clear hd
      clear hlt
      go_upto_region 9 with fail
      refine regCk9a hN h6 hO6 hV6 hT6 hok6 hms hc1 ?_
      intro w5
      intros
      rename_i hb5
      go_wp2_with fail
      go_ret
      exact ⟨by rw [HC.out]; rfl, hb05.trans (hb5.mono hb05.size)⟩
    · have hc1 : decide (o.n < 1) = false := decide_eq_false hlt
      have hd : decide (o.n < 1 ∨ 1048576 < o.n) = decide (1048576 < o.n) := by simp [hlt]
      rw [hd] at HC
      clear hd
      clear hlt
      go_upto_region 9 with fail
      refine regCk9b hN h6 hO6 hV6 hT6 hok6 hms hc1 ?_
      intro w5
      intros
      rename_i hb5
      go_wp2_with fail
      go_ret
      exact ⟨by rw [HC.out]; rfl, hb05.trans (hb5.mono hb05.size)⟩
  · have HC : Hid (R = e7) := Lib.hid (HRR.out.symm.trans (HCV.out.trans (by first | (rw [hk]; done) | (rw [hk]; rfl))))
    replace hty : Calls Tryd.prog 39 #[.agg o.cells.toArray] w3 fun x w' => x = .returned (.iface 84 (.agg o.cells.toArray)) ∧ Below w3.heap.size w3 w' := by
      refine hty.mono fun e w' he => ⟨he.1.trans ?_, he.2⟩
      unfold OM.typed
      rw [hk]
      rfl
    obtain ⟨m1, m2, m3, m4, m5, m6, m7, m8⟩ := ta_all_drops (.agg #[.int .i64 o.kind, .string o.name, .string o.dst, .int .i64 o.at_, .int .i64 o.n, .slice o.A o.l.length o.c])
    clear HCV HRR HRV hk
    go_wp2_with fail
    refine hty.mono ?_
    rintro e w4 ⟨rfl, hb4⟩
    clear hty c0 c1 c2 c3 c4 c5
    have h6 := h5.below hb4
    have hO6 := hO5.below' hb4
    have hok6 := hok5.below hb4
    have hT6 := hN.keep _ _ hT5 hb4
    have hV6 := hV5.below' hb4
    have hb05 := hb04.trans (hb4.mono hb04.size)
    clear h5 hO5 hok5 hT5 hV5 hb04 hb4
    go_wp2_with fail
    go_ret
    exact ⟨by rw [HC.out]; rfl, hb05⟩
  · have HC : Hid (R = firstV [e7, withinV sz o.at_ o.n, whenV (decide (((1048576 / block : Nat) : Int) < o.n)) 3]) := Lib.hid (HRR.out.symm.trans (HCV.out.trans (by first | (rw [hk]; done) | (rw [hk]; rfl))))
    replace hty : Calls Tryd.prog 39 #[.agg o.cells.toArray] w3 fun x w' => x = .returned (.iface 85 (.agg o.cells.toArray)) ∧ Below w3.heap.size w3 w' := by
      refine hty.mono fun e w' he => ⟨he.1.trans ?_, he.2⟩
      unfold OM.typed
      rw [hk]
      rfl
    obtain ⟨m1, m2, m3, m4, m5, m6, m7, m8⟩ := ta_all_reads (.agg #[.int .i64 o.kind, .string o.name, .string o.dst, .int .i64 o.at_, .int .i64 o.n, .slice o.A o.l.length o.c])
    clear HCV HRR HRV hk
    go_wp2_with fail
    refine hty.mono ?_
    rintro e w4 ⟨rfl, hb4⟩
    clear hty c0 c1 c2 c3 c4 c5
    have h6 := h5.below hb4
    have hO6 := hO5.below' hb4
    have hok6 := hok5.below hb4
    have hT6 := hN.keep _ _ hT5 hb4
    have hV6 := hV5.below' hb4
    have hb05 := hb04.trans (hb4.mono hb04.size)
    clear h5 hO5 hok5 hT5 hV5 hb04 hb4
    go_upto_region 13 with fail
    refine regCk13 hN h6 hO6 hV6 hT6 hok6 hms ?_
    intro w5
    intros
    rename_i hb5
    go_wp2_with fail
    go_ret
    exact ⟨by rw [HC.out]; rfl, hb05.trans (hb5.mono hb05.size)⟩
  · have HC : Hid (R = firstV [e7, e8, whenV (decide (((o.l.length % block : Nat) : Int) ≠ 0)) 1, withinV sz o.at_ ((o.l.length / block : Nat) : Int), whenV (decide ((1048576 : Int) < (o.l.length : Int))) 3]) := Lib.hid (HRR.out.symm.trans (HCV.out.trans (by first | (rw [hk]; done) | (rw [hk]; rfl))))
    replace hty : Calls Tryd.prog 39 #[.agg o.cells.toArray] w3 fun x w' => x = .returned (.iface 86 (.agg o.cells.toArray)) ∧ Below w3.heap.size w3 w' := by
      refine hty.mono fun e w' he => ⟨he.1.trans ?_, he.2⟩
      unfold OM.typed
      rw [hk]
      rfl
    obtain ⟨m1, m2, m3, m4, m5, m6, m7, m8⟩ := ta_all_writes (.agg #[.int .i64 o.kind, .string o.name, .string o.dst, .int .i64 o.at_, .int .i64 o.n, .slice o.A o.l.length o.c])
    clear HCV HRR HRV hk
    go_wp2_with fail
    refine hty.mono ?_
    rintro e w4 ⟨rfl, hb4⟩
    clear hty c0 c1 c2 c3 c4 c5
    have h6 := h5.below hb4
    have hO6 := hO5.below' hb4
    have hok6 := hok5.below hb4
    have hT6 := hN.keep _ _ hT5 hb4
    have hV6 := hV5.below' hb4
    have hb05 := hb04.trans (hb4.mono hb04.size)
    clear h5 hO5 hok5 hT5 hV5 hb04 hb4
    go_upto_region 15 with fail
    refine regCk15 hN h6 hO6 hV6 hT6 hok6 hms ?_
    intro w5
    intros
    rename_i hb5
    go_wp2_with fail
    go_ret
    exact ⟨by rw [HC.out]; rfl, hb05.trans (hb5.mono hb05.size)⟩
  · have HC : Hid (R = firstV [e7, e8, withinV sz o.at_ o.n]) := Lib.hid (HRR.out.symm.trans (HCV.out.trans (by first | (rw [hk]; done) | (rw [hk]; rfl))))
    replace hty : Calls Tryd.prog 39 #[.agg o.cells.toArray] w3 fun x w' => x = .returned (.iface 87 (.agg o.cells.toArray)) ∧ Below w3.heap.size w3 w' := by
      refine hty.mono fun e w' he => ⟨he.1.trans ?_, he.2⟩
      unfold OM.typed
      rw [hk]
      rfl
    obtain ⟨m1, m2, m3, m4, m5, m6, m7, m8⟩ := ta_all_trims (.agg #[.int .i64 o.kind, .string o.name, .string o.dst, .int .i64 o.at_, .int .i64 o.n, .slice o.A o.l.length o.c])
    clear HCV HRR HRV hk
    go_wp2_with fail
    refine hty.mono ?_
    rintro e w4 ⟨rfl, hb4⟩
    clear hty c0 c1 c2 c3 c4 c5
    have h6 := h5.below hb4
    have hO6 := hO5.below' hb4
    have hok6 := hok5.below hb4
    have hT6 := hN.keep _ _ hT5 hb4
    have hV6 := hV5.below' hb4
    have hb05 := hb04.trans (hb4.mono hb04.size)
    clear h5 hO5 hok5 hT5 hV5 hb04 hb4
    have hwi := within_any V sz (.bool sn) mp o.at_ o.n w4 hV6 hms hok6.at_ rfl
    have hfi := first_any (some ⟨w4.heap.size, 0, none⟩) 3 [e7, e8, withinV sz o.at_ o.n] (w4.alloc (.cells #[.int .i64 (e7 : Nat), .int .i64 (e8 : Nat), .int .i64 (withinV sz o.at_ o.n : Nat)] 26)) (Rd.many _ _ _) (by simp)
    have d3 := hO6.cell 3
    have d4 := hO6.cell 4
    have hbx := (Below.refl w4.heap.size w4).alloc (Nat.le_refl _) (.cells #[.int .i64 (e7 : Nat), .int .i64 (e8 : Nat), .int .i64 (withinV sz o.at_ o.n : Nat)] 26)
    generalize withinV sz o.at_ o.n = e9 at *
    go_wp2_with fail
    refine hwi.mono ?_
    rintro e w5 ⟨rfl, rfl⟩
    clear hwi
    go_wp2_with fail
    refine hfi.mono ?_
    rintro e w6 ⟨rfl, hb6⟩
    clear hfi
    go_wp2_with fail
    go_ret
    exact ⟨by rw [HC.out]; rfl, hb05.trans ((hbx.trans (hb6.mono hbx.size)).mono hb05.size)⟩
  · have HC : Hid (R = firstV [e7, e8, nameE (strB o.dst), freshV (avM block quota ms) (strB o.dst) (sz : Int)]) := Lib.hid (HRR.out.symm.trans (HCV.out.trans (by first | (rw [hk]; done) | (rw [hk]; rfl))))
    replace hty : Calls Tryd.prog 39 #[.agg o.cells.toArray] w3 fun x w' => x = .returned (.iface 88 (.agg o.cells.toArray)) ∧ Below w3.heap.size w3 w' := by
      refine hty.mono fun e w' he => ⟨he.1.trans ?_, he.2⟩
      unfold OM.typed
      rw [hk]
      rfl
    obtain ⟨m1, m2, m3, m4, m5, m6, m7, m8⟩ := ta_all_snaps (.agg #[.int .i64 o.kind, .string o.name, .string o.dst, .int .i64 o.at_, .int .i64 o.n, .slice o.A o.l.length o.c])
    clear HCV HRR HRV hk
    go_wp2_with fail
    refine hty.mono ?_
    rintro e w4 ⟨rfl, hb4⟩
    clear hty c0 c1 c2 c3 c4 c5
    have h6 := h5.below hb4
    have hO6 := hO5.below' hb4
    have hok6 := hok5.below hb4
    have hT6 := hN.keep _ _ hT5 hb4
    have hV6 := hV5.below' hb4
    have hb05 := hb04.trans (hb4.mono hb04.size)
    clear h5 hO5 hok5 hT5 hV5 hb04 hb4
    go_upto_region 19 with fail
    refine regCk19 hN h6 hO6 hV6 hT6 hok6 hms ?_
    intro w5
    intros
    rename_i hb5
    go_wp2_with fail
    go_ret
    exact ⟨by rw [HC.out]; rfl, hb05.trans (hb5.mono hb05.size)⟩
  · have HC : Hid (R = firstV [e7, whenV (!sn) 1, nameE (strB o.dst), freshV (avM block quota ms) (strB o.dst) (sz : Int)]) := Lib.hid (HRR.out.symm.trans (HCV.out.trans (by first | (rw [hk]; done) | (rw [hk]; rfl))))
    replace hty : Calls Tryd.prog 39 #[.agg o.cells.toArray] w3 fun x w' => x = .returned (.iface 89 (.agg o.cells.toArray)) ∧ Below w3.heap.size w3 w' := by
      refine hty.mono fun e w' he => ⟨he.1.trans ?_, he.2⟩
      unfold OM.typed
      rw [hk]
      rfl
    obtain ⟨m1, m2, m3, m4, m5, m6, m7, m8⟩ := ta_all_clones (.agg #[.int .i64 o.kind, .string o.name, .string o.dst, .int .i64 o.at_, .int .i64 o.n, .slice o.A o.l.length o.c])
    clear HCV HRR HRV hk
    go_wp2_with fail
    refine hty.mono ?_
    rintro e w4 ⟨rfl, hb4⟩
    clear hty c0 c1 c2 c3 c4 c5
    have h6 := h5.below hb4
    have hO6 := hO5.below' hb4
    have hok6 := hok5.below hb4
    have hT6 := hN.keep _ _ hT5 hb4
    have hV6 := hV5.below' hb4
    have hb05 := hb04.trans (hb4.mono hb04.size)
    clear h5 hO5 hok5 hT5 hV5 hb04 hb4
    go_upto_region 21 with fail
    refine regCk21 hN h6 hO6 hV6 hT6 hok6 hms ?_
    intro w5
    intros
    rename_i hb5
    go_wp2_with fail
    go_ret
    exact ⟨by rw [HC.out]; rfl, hb05.trans (hb5.mono hb05.size)⟩
  · have HC : Hid (R = firstV [e7, e8, whenV (decide (o.n < (sz : Int) ∨ 1048576 < o.n)) 1, whenV (decide ((quota : Int) - usedM ms < o.n - (sz : Int))) 10]) := Lib.hid (HRR.out.symm.trans (HCV.out.trans (by first | (rw [hk]; done) | (rw [hk]; rfl))))
    replace hty : Calls Tryd.prog 39 #[.agg o.cells.toArray] w3 fun x w' => x = .returned (.iface 90 (.agg o.cells.toArray)) ∧ Below w3.heap.size w3 w' := by
      refine hty.mono fun e w' he => ⟨he.1.trans ?_, he.2⟩
      unfold OM.typed
      rw [hk]
      rfl
    obtain ⟨m1, m2, m3, m4, m5, m6, m7, m8⟩ := ta_all_grows (.agg #[.int .i64 o.kind, .string o.name, .string o.dst, .int .i64 o.at_, .int .i64 o.n, .slice o.A o.l.length o.c])
    clear HCV HRR HRV hk
    go_wp2_with fail
    refine hty.mono ?_
    rintro e w4 ⟨rfl, hb4⟩
    clear hty c0 c1 c2 c3 c4 c5
    have h6 := h5.below hb4
    have hO6 := hO5.below' hb4
    have hok6 := hok5.below hb4
    have hT6 := hN.keep _ _ hT5 hb4
    have hV6 := hV5.below' hb4
    have hb05 := hb04.trans (hb4.mono hb04.size)
    clear h5 hO5 hok5 hT5 hV5 hb04 hb4
    obtain ⟨dn, hdn⟩ : ∃ dn, IntKind.i64.wrap (o.n - (sz : Int)) = dn := ⟨_, rfl⟩
    by_cases hlt : o.n < (sz : Int)
    · have hc1 : decide (o.n < (sz : Int)) = true := decide_eq_true hlt
      have hd : decide (o.n < (sz : Int) ∨ 1048576 < o.n) = true := by simp [hlt]
      rw [hd] at HC
      replace HC : Hid (R = firstV [e7, e8, whenV true 1, whenV (decide ((quota : Int) - usedM ms < dn)) 10]) := Lib.hid (HC.out.trans ((firstV3 _ _ _ _ (by decide)).trans (firstV3 _ _ _ _ (by decide)).symm))
      clear hd
      clear hlt
      go_upto_region 23 with fail
      refine regCk23a hN h6 hO6 hV6 hT6 hok6 hms hdn hc1 ?_
      intro w5
      intros
      rename_i hb5
      go_wp2_with fail
      go_ret
      exact ⟨by rw [HC.out]; rfl, hb05.trans (hb5.mono hb05.size)⟩
    · have hc1 : decide (o.n < (sz : Int)) = false := decide_eq_false hlt
      have hd : decide (o.n < (sz : Int) ∨ 1048576 < o.n) = decide (1048576 < o.n) := by simp [hlt]
      have hde : dn = o.n - (sz : Int) := by rw [← hdn]; exact IntWalk.i64_in _ (by have := hok6.n.2; have := hok6.n.1; omega)
      rw [hd, ← hde] at HC
      clear hd hde
      clear hlt
      go_upto_region 23 with fail
      refine regCk23b hN h6 hO6 hV6 hT6 hok6 hms hdn hc1 ?_
      intro w5
      intros
      rename_i hb5
      go_wp2_with fail
      go_ret
      exact ⟨by rw [HC.out]; rfl, hb05.trans (hb5.mono hb05.size)⟩
  · have HC : Hid (R = 0) := Lib.hid (HRR.out.symm.trans (HCV.out.trans (by first | (rw [hk]; done) | (rw [hk]; rfl))))
    replace hty : Calls Tryd.prog 39 #[.agg o.cells.toArray] w3 fun x w' => x = .returned (.iface 128 (.agg o.cells.toArray)) ∧ Below w3.heap.size w3 w' := by
      refine hty.mono fun e w' he => ⟨he.1.trans ?_, he.2⟩
      unfold OM.typed
      rw [hk]
      rfl
    obtain ⟨m1, m2, m3, m4, m5, m6, m7, m8⟩ := ta_all_lists (.agg #[.int .i64 o.kind, .string o.name, .string o.dst, .int .i64 o.at_, .int .i64 o.n, .slice o.A o.l.length o.c])
    clear HCV HRR HRV hk
    go_wp2_with fail
    refine hty.mono ?_
    rintro e w4 ⟨rfl, hb4⟩
    clear hty c0 c1 c2 c3 c4 c5
    have h6 := h5.below hb4
    have hO6 := hO5.below' hb4
    have hok6 := hok5.below hb4
    have hT6 := hN.keep _ _ hT5 hb4
    have hV6 := hV5.below' hb4
    have hb05 := hb04.trans (hb4.mono hb04.size)
    clear h5 hO5 hok5 hT5 hV5 hb04 hb4
    go_wp2_with fail
    go_ret
    exact ⟨by rw [HC.out]; rfl, hb05⟩
  · exfalso
    have := HRV.out
    simp [rightV, OM.ov, k1, k2, k3, k4, k5, k6, k7, k8, k9] at this
end Go.Proofs.YthhpcilinkebeaaDoor
