/- FactMerges: the walk. -/
import Derived.Test.YtadgaphgomagkaaQp
import Derived.Test.YtadgaphgomagkaaLi
namespace Go.Proofs.Ytadgaphgomagkaa
open Go.RowKit
set_option maxHeartbeats 8000000
set_option maxRecDepth 100000

/-- what a merge tells -/
def MOut (ll : List LM) (R : List FM) (n : Int) : Prop := if rightL ll = true then n = 0 ∧ Norm ltV (catV ll) (R.map FM.fv) else n = 25 ∧ R = []
def MergeP (w : World) (ll : List LM) (e : Ending) (w' : World) : Prop := ∃ A c R n, e = .returned (.tuple #[.slice A R.length c, .int .i64 n]) ∧ Rd w' A (fcells R) ∧ (∀ f ∈ R, f.ok w') ∧ MOut ll R n ∧ R.length ≤ (catF ll).length ∧ Below w.heap.size w w'
theorem MergePost.out {w w' : World} {ll : List LM} {e : Ending} (h : MergePost w ll e w') : MergeP w ll e w' := by
  obtain ⟨hb, h⟩ := h
  by_cases hR : rightL ll = true
  · rw [if_pos hR] at h
    obtain ⟨A, c, R, h1, h2, h3, h4, h5⟩ := h
    exact ⟨A, c, R, 0, h1, h2, h3, by unfold MOut; rw [if_pos hR]; exact ⟨rfl, h4⟩, h5, hb⟩
  · rw [if_neg hR] at h
    exact ⟨none, 0, [], 25, h, Rd.none_, by simp, by unfold MOut; rw [if_neg hR]; exact ⟨rfl, rfl⟩, by simp, hb⟩
theorem MOut.uniq {ll : List LM} {R R' : List FM} {n n' : Int} (h : MOut ll R n) (h' : MOut ll R' n') : R.map FM.fv = R'.map FM.fv ∧ n = n' := by
  unfold MOut at h h'
  split at h
  · rename_i hR
    rw [if_pos hR] at h'
    exact ⟨Norm.uniq ltV_wk h.2 h'.2, h.1.trans h'.1.symm⟩
  · rename_i hR
    rw [if_neg hR] at h'
    exact ⟨by rw [h.2, h'.2], h.1.trans h'.1.symm⟩
theorem factMerges_any (w : World) (a b : FM) (A : Option Addr) (c : Nat) (ll : List LM) (hr : Rd w A (ll.map LM.val)) (hok : ∀ m ∈ ll, m.ok w) (hn : (catF ll).length ≤ 1048576) (hll : ll.length ≤ 1048576) :
    Calls Try.prog 11 #[a.val, b.val, .slice A ll.length c] w fun e w' => e = .returned (.bool true) ∧ Below w.heap.size w w' := by
  have h1 := (Blk.new w 71 a.cells.toArray).alloc (.cells b.cells.toArray 71)
  have h3 := Blk.new (w.alloc (.cells a.cells.toArray 71)) 71 b.cells.toArray
  have hb0 := ((Below.refl w.heap.size w).alloc (Nat.le_refl _) (.cells a.cells.toArray 71)).alloc (by simp) (.cells b.cells.toArray 71)
  have hsz : (w.alloc (.cells a.cells.toArray 71)).heap.size = w.heap.size + 1 := by simp
  rw [hsz] at h3
  clear hsz
  have hv : ∀ x : FM, x.val = .agg x.cells.toArray := fun _ => rfl
  rw [hv, hv]
  go_enter Try.func11, Try.ntmps11
  go_wp2_with fail
  refine (known11_any _).mono ?_
  rintro e w1 ⟨rfl, hb1⟩
  have hA1 := h1.below' hb1
  have hB1 := h3.below' hb1
  have hb01 := hb0.trans (hb1.mono hb0.size)
  obtain ⟨ga, hga⟩ : ∃ ga, w.heap.size = ga := ⟨_, rfl⟩
  have hgl := hA1.lt
  have hgl2 := hB1.lt
  clear h1 h3 hb0 hb1 hv
  generalize hgb : w.heap.size + 1 = gb at *
  have HGB := Lib.hid hgb
  clear hgb hga
  go_wp2_with fail
  go_loopg [7, 8] ll.length (fun m s7 s8 wr => ∃ (i n : Nat), m = ll.length - i ∧ i ≤ ll.length ∧ s8 = .int .i64 (i : Nat) ∧ s7 = .int .i64 (n : Nat) ∧ n = (catF (ll.take i)).length ∧ Below w1.heap.size w1 wr)
  case atStart => exact ⟨0, 0, by omega, by omega, rfl, rfl, rfl, Below.refl _ _⟩
  case round =>
    obtain ⟨i, n, rfl, hi, rfl, rfl, hin, hb⟩ := hrel
    have hbw := hb01.trans (hb.mono hb01.size)
    by_cases hlt : i < ll.length
    · have r1 : (i : Int) < (ll.length : Int) := by omega
      obtain ⟨ad, rfl, hadb, hcell0⟩ := hr.at_ (k := i) (by simpa using hlt)
      have hcell : wr.cell? (ad.add i) = some (.slice ll[i].A ll[i].L.length ll[i].c) := by
        rw [hbw.cell (p := ad.add i) (by rw [add_block]; exact hadb), hcell0]
        simp [LM.val]
      have hm := (hok _ (List.getElem_mem hlt)).below hbw
      have hcl := catF_len ll i hlt
      have hsn := catF_take ll i hlt
      generalize ll[i] = q at *
      obtain ⟨qA, qc, M⟩ := q
      simp only at *
      have hfw := few_any qA qc M 400 wr hm.1 hm.2 (by omega)
      obtain ⟨n2, hn2⟩ : ∃ n2, n + M.length = n2 := ⟨_, rfl⟩
      have HN3 : Hid (n2 = (catF (ll.take (i + 1))).length) := Lib.hid (by rw [hsn, List.length_append]; omega)
      have kw : IntKind.i64.wrap ((n : Int) + (M.length : Int)) = (n2 : Int) := by rw [IntWalk.i64_in _ (by omega)]; omega
      generalize fewF M 400 = fw at *
      clear hcl hsn hn2 hin hcell0
      cases fw with
      | false =>
        go_wp2_with fail
        refine hfw.mono ?_
        rintro e w2 ⟨rfl, hb2⟩
        go_wp2_with fail
        go_ret
        exact ⟨rfl, hbw.trans (hb2.mono hbw.size)⟩
      | true =>
        go_wp2_with fail
        refine hfw.mono ?_
        rintro e w2 ⟨rfl, hb2⟩
        clear hfw
        go_wp2_with fail
        go_roundg (ll.length - (i + 1))
        case measure => omega
        case rel => exact ⟨i + 1, n2, rfl, hlt, by go_num, rfl, HN3.out, hb.trans (hb2.mono hb.size)⟩
    · have r1 : ¬ (i : Int) < (ll.length : Int) := by omega
      clear hin
      have hil : i = ll.length := by omega
      subst hil
      clear hi hlt
      by_cases hA : 20 < ll.length
      · have r2 : (20 : Int) < (ll.length : Int) := by omega
        clear hA
        go_wp2_with fail
        go_ret
        exact ⟨rfl, hbw⟩
      have r2 : ¬ (20 : Int) < (ll.length : Int) := by omega
      clear hA
      by_cases hB : 800 < n
      · have r3 : (800 : Int) < (n : Int) := by omega
        clear hB
        go_wp2_with fail
        go_ret
        exact ⟨rfl, hbw⟩
      have r3 : ¬ (800 : Int) < (n : Int) := by omega
      clear hB
      have hA2 := (hA1.below' hb).drew
      have hB2 := (hB1.below' hb).drew
      go_upto_region 12 with fail
      refine regFm12 hA2 hB2 ?_
      intro w2 _ _ _ _ _ _ hb2
      clear hA1 hB1 hA2 hB2 hgl hgl2 r2 r3
      have hb02 := hbw.trans (hb2.mono hbw.size)
      clear hb hb2 hbw hb01
      go_wp2_with fail
      go_loopg [9] ll.length (fun m s9 wr => ∃ (i : Nat), m = ll.length - i ∧ i ≤ ll.length ∧ s9 = .int .i64 (i : Nat) ∧ Below w.heap.size w wr)
      case atStart => exact ⟨0, by omega, by omega, rfl, hb02⟩
      case round =>
        clear hb02
        obtain ⟨i, rfl, hi, rfl, hbw⟩ := hrel
        by_cases hlt : i < ll.length
        · have r1 : (i : Int) < (ll.length : Int) := by omega
          obtain ⟨ad, rfl, hadb, hcell0⟩ := hr.at_ (k := i) (by simpa using hlt)
          have hcell : wr.drew.cell? (ad.add (i * 1)) = some (.slice ll[i].A ll[i].L.length ll[i].c) := by
            rw [Nat.mul_one]
            show wr.cell? (ad.add i) = _
            rw [hbw.cell (p := ad.add i) (by rw [add_block]; exact hadb), hcell0]
            simp [LM.val]
          have hm := (hok _ (List.getElem_mem hlt)).below hbw
          have hcl := catF_len ll i hlt
          generalize ll[i] = q at *
          obtain ⟨qA, qc, M⟩ := q
          simp only at *
          go_upto_region 17 with fail
          refine regFm17 hlt (by omega) hcell hm.1.drew ?_
          intro w2 _ _ _ _ _ _ _ _ _ _ hb2
          clear hm hcell hcl hcell0
          go_wp2_with fail
          go_roundg (ll.length - (i + 1))
          case measure => omega
          case rel => exact ⟨i + 1, rfl, hlt, by go_num, hbw.trans (hb2.mono hbw.size)⟩
        · have r1 : ¬ (i : Int) < (ll.length : Int) := by omega
          have hil : i = ll.length := by omega
          subst hil
          clear hi hlt
          have hme := merge_any A c ll wr (hr.below hbw) (fun m hm => (hok m hm).below hbw) hn hll
          go_wp2_with fail
          refine hme.mono fun e w3 hpost => ?_
          obtain ⟨A3, c3, R3, n3, rfl, m1, m2, m3, m4, m5⟩ := hpost.out
          clear hpost hme
          have hb3 := hbw.trans (m5.mono hbw.size)
          have hrf := refMerge_any A c ll w3 (hr.below hb3) (fun m hm => (hok m hm).below hb3) hn hll
          go_wp2_with fail
          refine hrf.mono fun e w4 hpost => ?_
          obtain ⟨A4, c4, R4, n4, rfl, q1, q2, q3, q4, q5⟩ := hpost.out
          clear hpost hrf
          obtain ⟨e1, rfl⟩ := m3.uniq q3
          have hsm := sameRows_any A3 A4 c3 c4 R3 R4 w4 (m1.below q5) q1 (fun f hf => (m2 f hf).below q5) q2 (by omega)
          rw [decide_eq_true e1] at hsm
          have hb4 := hb3.trans (q5.mono hb3.size)
          clear m1 m2 m3 m4 m5 q1 q2 q3 q4 q5 e1
          go_wp2_with fail
          refine hsm.mono ?_
          rintro e w5 ⟨rfl, hb5⟩
          clear hsm
          go_wp2_with fail
          go_ret
          exact ⟨by simp, hb4.trans (hb5.mono hb4.size)⟩
end Go.Proofs.Ytadgaphgomagkaa
