/- ModelQuota: its walk. -/
import Derived.Test.YthhpcilinkebeaaDoorIl
import Derived.Test.YthhpcilinkebeaaDoorYc
import Derived.Deep.DeepCutAuto
import Derived.Deep.CutBlock
import Derived.BigQuiet
namespace Go.Proofs.YthhpcilinkebeaaDoor
open Go.RowKit Go.Maps
set_option maxHeartbeats 4000000
set_option maxRecDepth 100000

section
variable {w0 w w' : World} {A M block quota : Nat} {vols : List (Bts × VV)}
theorem md_used (h : MdS w0 w A M block quota vols) : Calls Tryd.prog 17 #[.pointer (some ⟨A, 0, none⟩)] w fun e w' => e = .returned (.int .i64 (usedV vols : Nat)) ∧ Below w.heap.size w w' := by
  obtain ⟨⟨ms, h1, rfl, h3⟩, h4, h5⟩ := h
  have := used_any h1
  rw [← usedM_vv] at this
  exact this
theorem md_volumes (h : MdS w0 w A M block quota vols) : Calls Tryd.prog 18 #[.pointer (some ⟨A, 0, none⟩)] w fun e w' => (∃ A' c, e = .returned (.slice A' vols.length c) ∧ w'.ownsRow w.heap.size 47 4 (.slice A' vols.length c) vols.length ((volsV vols).flatMap volC)) ∧ Below w.heap.size w w' := by
  obtain ⟨⟨ms, h1, rfl, h3⟩, h4, h5⟩ := h
  have := volumes_any h1
  rw [volM_V] at this
  rw [show (volsM ms).length = ms.length from List.length_map ..]
  exact this
end
theorem vol_at {w : World} {A : Option Addr} {l : List (Bts × VV)} (hr : Rd w A ((volsV l).flatMap volC)) (i : Nat) (h : i < l.length) : ∃ ad, A = some ad ∧ ad.block < w.heap.size ∧ w.cell? (ad.add (i * 4)) = some (.string ⟨l[i].1.toArray⟩) ∧
    w.cell? ⟨(ad.add (i * 4)).block, (ad.add (i * 4)).off + 2, none⟩ = some (.int .i64 (l[i].2.size : Nat)) ∧ w.cell? ⟨(ad.add (i * 4)).block, (ad.add (i * 4)).off + 3, none⟩ = some (.bool l[i].2.snap) := by
  have hg : ∀ (L : List (Bts × Nat × Bool)) (i j : Nat) (h : i < L.length), j < 4 → (L.flatMap volC)[i * 4 + j]? = (volC L[i])[j]? := by
    intro L
    induction L with
    | nil => intro i j h; simp at h
    | cons p L ih =>
      intro i j h hj
      have hp : (volC p).length = 4 := rfl
      rw [List.flatMap_cons]
      cases i with
      | zero => rw [List.getElem?_append_left (by omega)]; simp
      | succ i =>
        rw [List.getElem?_append_right (by omega), hp, show (i + 1) * 4 + j - 4 = i * 4 + j by omega]
        simpa using ih i j (by simpa using h) hj
  have hl : i < (volsV l).length := by simpa [volsV] using h
  have he : (volsV l)[i] = (l[i].1, l[i].2.size, l[i].2.snap) := by simp [volsV]
  have g0 := hg (volsV l) i 0 hl (by omega)
  obtain ⟨ad, e, hb, hc⟩ := hr (fun e0 => by rw [e0] at g0; simp [volC] at g0)
  have g := fun j u hj hu => hc (i * 4 + j) u (by rw [hg (volsV l) i j hl hj, he]; exact hu)
  refine ⟨ad, e, hb, g 0 _ (by omega) rfl, ?_, ?_⟩
  · rw [← add_off2 _ _ _ (by omega)]; exact g 2 _ (by omega) rfl
  · rw [← add_off2 _ _ _ (by omega)]; exact g 3 _ (by omega) rfl
/-- what is needed, as far as told -/
def nvQ (o : OV) (g : Option VV) : Int := match g with
  | none => 0
  | some v => if o.kind = 8 then o.n - v.size else v.size
theorem getV_take {V : List (Bts × VV)} (s : Bts) (j : Nat) (hj : j < V.length) (hs : SrtV V) : getV (V.take (j + 1)) s = if V[j].1 = s then some V[j].2 else getV (V.take j) s := by
  induction V generalizing j with
  | nil => simp at hj
  | cons x r ih =>
    obtain ⟨m, u⟩ := x
    obtain ⟨h1, h2⟩ := hs.cons
    cases j with
    | zero =>
      show (if m = s then some u else none) = _
      rfl
    | succ j =>
      have hj' : j < r.length := by simpa using hj
      show (if m = s then some u else getV (r.take (j + 1)) s) = if r[j].1 = s then some r[j].2 else if m = s then some u else getV (r.take j) s
      rw [ih j hj' h2]
      by_cases e : m = s
      · have : r[j].1 ≠ s := fun e2 => by
          have := h1 r[j] (List.getElem_mem hj')
          rw [e2, e] at this
          exact lt_irr _ this
        rw [if_pos e, if_neg this, if_pos e]
      · rw [if_neg e, if_neg e]
theorem needV_nv {V : List (Bts × VV)} {o : OV} (h : o.kind = 6 ∨ o.kind = 7 ∨ o.kind = 8) : needV V o = nvQ o (getV V o.name) := by
  unfold needV nvQ
  rw [if_neg (by omega)]
  by_cases e : o.kind = 8
  · rw [if_neg (by omega), if_pos e]
    cases getV V o.name <;> simp [e]
  · rw [if_pos (by omega)]
    cases getV V o.name <;> simp [e]
theorem needV_no {V : List (Bts × VV)} {o : OV} (h : o.kind ≠ 1 ∧ o.kind ≠ 6 ∧ o.kind ≠ 7 ∧ o.kind ≠ 8) : needV V o = 0 := by
  unfold needV
  rw [if_neg h.1, if_neg (by omega), if_neg h.2.2.2]
theorem name_eq (s t : ByteArray) : strB s = strB t ↔ s = t := by
  constructor
  · intro h
    have h1 : s.data.toList = t.data.toList := h
    cases s; cases t
    simp only at h1
    congr 1
    exact Array.toList_inj.1 h1
  · intro h; rw [h]
theorem modelQuota_any {w0 : World} (hT : Tabs w0) {P : Option Addr} {l : List OM} {c : Nat} (h1 : OpsArg w0 P l) {q : Int} (hq : I64 q) :
    Calls Tryd.prog 5 #[.int .i64 q, .slice P l.length c] w0 fun e w' => e = .returned (.bool true) ∧ Below w0.heap.size w0 w' := by
  have hkn := known_any w0 hT
  go_enter Tryd.func5, Tryd.ntmps5
  go_wp2_with fail
  refine hkn.mono ?_
  rintro e w1 ⟨rfl, hb1⟩
  clear hkn
  have hT1 := nameC.keep _ _ hT hb1
  have hf1 := h1.few hb1 4 c
  by_cases g1 : q < 0
  · go_wp2_with fail
    refine hf1.mono ?_
    rintro e w2 ⟨b1, rfl, -, hb2⟩
    clear hf1
    have hb02 := hb1.trans (hb2.mono hb1.size)
    cases b1
    all_goals
      go_wp2_with fail
      go_ret
      exact ⟨rfl, hb02⟩
  obtain ⟨Q, rfl⟩ : ∃ Q : Nat, q = Q := ⟨q.toNat, by omega⟩
  by_cases g2 : (1073741824 : Int) < (Q : Int)
  · go_wp2_with fail
    refine hf1.mono ?_
    rintro e w2 ⟨b1, rfl, -, hb2⟩
    clear hf1
    have hb02 := hb1.trans (hb2.mono hb1.size)
    cases b1
    all_goals
      go_wp2_with fail
      go_ret
      exact ⟨rfl, hb02⟩
  go_wp2_with fail
  refine hf1.mono ?_
  rintro e w2 ⟨b1, rfl, hq1, hb2⟩
  clear hf1
  have hT2 := nameC.keep _ _ hT1 hb2
  have hb02 := hb1.trans (hb2.mono hb1.size)
  clear hb1 hb2 hT1
  cases b1 with
  | false =>
    go_wp2_with fail
    go_ret
    exact ⟨rfl, hb02⟩
  | true =>
  obtain ⟨hn1, hs1⟩ := hq1 rfl
  clear hq1
  have hnew := md_new (w0 := w0) (w := w2) 4 Q (by decide) (by decide) (by omega) hb02 hT2
  go_wp2_with fail
  refine hnew.mono ?_
  rintro e w3 ⟨A, M, rfl, hM, -⟩
  clear hnew hT2 hb02
  go_wp2_with fail
  go_loopg [7, 8, 9, 10, 11, 12] l.length (fun m s7 s8 s9 s10 s11 s12 wr => ∃ (k : Nat) (V : List (Bts × VV)), m = l.length - k ∧ k ≤ l.length ∧ s7 = .int .i64 (k : Nat) ∧ MdS w0 wr A M 4 Q V)
  case atStart => exact ⟨0, [], by omega, by omega, rfl, hM⟩
  case round =>
    clear hM
    obtain ⟨k, V, rfl, hk, rfl, hM⟩ := hrel
    by_cases hlt : k < l.length
    · have r1 : (k : Int) < (l.length : Int) := by omega
      have hops := fun W (hW : Below w0.heap.size w0 W) => ops_at (h1.rd.below hW) k hlt
      have hok := fun W (hW : Below w0.heap.size w0 W) => h1.ok hW hs1 _ (List.getElem_mem hlt)
      generalize l[k] = o at *
      have hus := md_used hM
      have hqt := @quota_ten ⟨4, Q, V⟩ o.ov
      have hqo := @quota_ok ⟨4, Q, V⟩ o.ov hM.srt
      have hqn := @quota_nn ⟨4, Q, V⟩ o.ov
      have hul := hM.usedLe
      dsimp only at hqt hqo hqn
      obtain ⟨U, hU⟩ : ∃ U, usedV V = U := ⟨_, rfl⟩
      rw [hU] at hus hqt hqo hul
      go_wp2_with fail
      refine hus.mono ?_
      rintro e w4 ⟨rfl, hb4⟩
      have hM4 := hM.sub hb4
      clear hus hM hb4
      obtain ⟨ad, rfl, -, d0, d1, d2, d3, d4, d5⟩ := hops w4 hM4.below
      go_upto_block 2 with fail
      go_cut [9, 10, 11] (fun s9 s10 s11 wx => ∃ nd : Int, s9 = .int .i64 nd ∧ (0 ≤ needV V o.ov → nd = needV V o.ov) ∧ MdS w0 wx A M 4 Q V)
      case first =>
        have hI : I64 o.n := (hok w4 hM4.below).n
        by_cases o1 : o.kind = 1
        · have b1 : (o.kind == 1) = true := by simp [o1]
          have HN := Lib.hid (show needV V o.ov = o.n by unfold needV; rw [if_pos (show o.ov.kind = 1 from o1)]; rfl)
          clear o1 hqt hqo
          go_wp2_with fail
          go_meet
          exact ⟨_, rfl, fun _ => HN.out.symm, hM4⟩
        have b1 : (o.kind == 1) = false := by simp [o1]
        by_cases o2 : o.kind = 6 ∨ o.kind = 7 ∨ o.kind = 8
        case neg =>
          have b6 : (o.kind == 6) = false := by simp; omega
          have b7 : (o.kind == 7) = false := by simp; omega
          have b8 : (o.kind == 8) = false := by simp; omega
          have HN := Lib.hid (needV_no (V := V) (o := o.ov) ⟨o1, fun e => o2 (.inl e), fun e => o2 (.inr (.inl e)), fun e => o2 (.inr (.inr e))⟩)
          clear o1 o2 hqt hqo
          go_wp2_with fail
          go_meet
          exact ⟨_, rfl, fun _ => HN.out.symm, hM4⟩
        case pos =>
        have hvo := md_volumes hM4
        have HNV := Lib.hid (needV_nv (V := V) (o := o.ov) o2)
        have hsv := Lib.hid hM4.srt
        have hvl := hM4.volsLe
        have HV1 := Lib.hid hvl.2
        have hv1 := hvl.1
        clear hvl hqt hqo
        go_upto_if 57 with fail
        go_cut [57] (fun s57 wx => s57 = .bool true ∧ wx = w4)
        case first =>
          clear hvo d1 d2 d3 d4 d5
          by_cases q6 : o.kind = 6
          · have b6 : (o.kind == 6) = true := by simp [q6]
            clear q6 o1 o2
            go_wp2_with fail
            go_meet
            exact ⟨by rw [b6], rfl⟩
          · by_cases q7 : o.kind = 7
            · have b6 : (o.kind == 6) = false := by simp [q7]
              have b7 : (o.kind == 7) = true := by simp [q7]
              clear q6 q7 o1 o2
              go_wp2_with fail
              go_meet
              exact ⟨rfl, rfl⟩
            · have b6 : (o.kind == 6) = false := by simp [q6]
              have b7 : (o.kind == 7) = false := by simp [q7]
              have b8 : (o.kind == 8) = true := by simp; omega
              clear q6 q7 o1 o2
              go_wp2_with fail
              go_meet
              exact ⟨rfl, rfl⟩
        obtain ⟨rfl, rfl⟩ := hcut
        go_wp2_with fail
        refine hvo.mono ?_
        rintro e w5 ⟨⟨VA, vc, rfl, hown⟩, hb5⟩
        have hM5 := hM4.sub hb5
        clear hvo hM4 hb5 d0 d1 d2 d3 d4 d5
        have hrv := Rd.of_own hown
        clear hown
        go_wp2_with fail
        go_loopg [9, 11] V.length (fun m s9 s11 wx => ∃ (j : Nat) (nd : Int), m = V.length - j ∧ j ≤ V.length ∧ s11 = .int .i64 (j : Nat) ∧ s9 = .int .i64 nd ∧ (0 ≤ nvQ o.ov (getV (V.take j) o.ov.name) → nd = nvQ o.ov (getV (V.take j) o.ov.name)) ∧ Below w5.heap.size w5 wx)
        case atStart => exact ⟨0, 0, by omega, by omega, rfl, rfl, fun _ => rfl, Below.refl _ _⟩
        case round =>
          obtain ⟨j, nd, rfl, hj, rfl, rfl, hnd, hbx⟩ := hrel
          have hM5x := hM5.sub hbx
          by_cases hjl : j < V.length
          · have r2 : (j : Int) < (V.length : Int) := by omega
            obtain ⟨ad2, rfl, -, v0, v2, -⟩ := vol_at (hrv.below hbx) j hjl
            obtain ⟨ad', e', -, d0, d1, d2, d3, d4, d5⟩ := hops wr hM5x.below
            injection e' with e'
            subst e'
            have hgt := getV_take o.ov.name j hjl hsv.out
            have hsz := HV1.out _ (List.getElem_mem hjl)
            generalize V[j] = y at *
            have HI := Lib.hid hI
            have HND := Lib.hid hnd
            clear hnd
            by_cases hn : y.1 = strB o.name
            · have hs : (⟨y.1.toArray⟩ : ByteArray) = o.name := by rw [hn]; exact bts_str _
              rw [hs] at v0
              rw [if_pos (show y.1 = o.ov.name from hn)] at hgt
              have HG := Lib.hid (show nvQ o.ov (getV (V.take (j + 1)) o.ov.name) = if o.kind = 8 then o.n - (y.2.size : Int) else (y.2.size : Int) by rw [hgt]; rfl)
              have HZ := Lib.hid hsz
              clear hgt hn hs hsz
              by_cases o8 : o.kind = 8
              · have b8 : (o.kind == 8) = true := by simp [o8]
                have HG2 := Lib.hid (show nvQ o.ov (getV (V.take (j + 1)) o.ov.name) = o.n - (y.2.size : Int) by rw [HG.out, if_pos o8])
                clear o8 o2 o1
                go_wp2_with fail
                go_quiet (fail)
                go_wp2_with fail
                go_quiet (fail)
                go_wp2_with fail
                go_roundg (V.length - (j + 1))
                case measure => omega
                case rel => exact ⟨j + 1, _, rfl, hjl, by go_num, rfl, fun h => by rw [HG2.out] at h ⊢; have := HI.out.2; unfold wrap64; omega, below_drewN hbx _⟩
              · have b8 : (o.kind == 8) = false := by simp [o8]
                have HG2 := Lib.hid (show nvQ o.ov (getV (V.take (j + 1)) o.ov.name) = (y.2.size : Int) by rw [HG.out, if_neg o8])
                clear o8 o2 o1
                go_wp2_with fail
                go_quiet (fail)
                go_wp2_with fail
                go_roundg (V.length - (j + 1))
                case measure => omega
                case rel => exact ⟨j + 1, _, rfl, hjl, by go_num, rfl, fun h => HG2.out.symm, below_drewN hbx _⟩
            · rw [if_neg (show ¬ y.1 = o.ov.name from hn)] at hgt
              have kb : decide ((⟨y.1.toArray⟩ : ByteArray).toList = o.name.toList) = false := decide_eq_false fun e => hn (by
                rw [Lib.toList_data, Lib.toList_data] at e
                exact (by simpa using e : y.1 = o.name.data.toList))
              have kb2 : ¬ (⟨y.1.toArray⟩ : ByteArray).toList = o.name.toList := of_decide_eq_false kb
              have kb3 : ¬ (⟨y.1.toArray⟩ : ByteArray) = o.name := fun e => kb2 (by rw [e])
              have kb4 : ((⟨y.1.toArray⟩ : ByteArray).toList == o.name.toList) = false := beq_eq_false_iff_ne.2 kb2
              have HG := Lib.hid hgt
              clear hgt hn hsz kb
              generalize (⟨y.1.toArray⟩ : ByteArray) = yS at *
              go_wp2_with fail
              go_quiet (fail)
              go_wp2_with fail
              go_roundg (V.length - (j + 1))
              case measure => omega
              case rel => exact ⟨j + 1, _, rfl, hjl, by go_num, rfl, by rw [HG.out]; exact HND.out, below_drewN hbx _⟩
          · have r2 : ¬ (j : Int) < (V.length : Int) := by omega
            obtain rfl : j = V.length := by omega
            rw [List.take_length, ← HNV.out] at hnd
            go_wp2_with fail
            go_meet
            exact ⟨nd, rfl, hnd, hM5x⟩
      case rest =>
      obtain ⟨nd, rfl, hnd, hM5⟩ := hcut
      clear d0 d1 d2 d3 d4 d5
      obtain ⟨ad', e', -, d0, d1, d2, d3, d4, d5⟩ := hops wc hM5.below
      injection e' with e'
      subst e'
      have hdo := md_do hM5 o (hok wc hM5.below)
      have he := doV_err ⟨4, Q, V⟩ o.ov
      have hkk : o.ov.kind = o.kind := rfl
      rw [← he, hkk] at hqo
      rw [← he] at hqt hqn
      have hsame : (doV nameE ⟨4, Q, V⟩ o.ov).1.err ≠ 0 → (doV nameE ⟨4, Q, V⟩ o.ov).2.vols = V := fun h => by
        unfold doV
        rw [he] at h
        rw [if_pos h]
      go_wp2_with fail
      refine hdo.mono ?_
      rintro e w6 ⟨v, rfl, hA, hM6, -⟩
      clear hdo d0 d1 d2 d3 d4 d5 hM5 he
      obtain ⟨x, hx, rfl, -⟩ := hA.am
      have hul6 := hM6.usedLe
      have HU6 := Lib.hid hM6
      rw [← hx] at hqt hqo hsame hqn
      generalize doV nameE ⟨4, Q, V⟩ o.ov = R at *
      obtain ⟨er, her⟩ : ∃ er, x.v.err = er := ⟨_, rfl⟩
      rw [her] at hqt hqo hsame hqn
      have hcx : x.cells.toArray = #[.int .i64 (er : Nat), .slice x.B x.v.data.length x.c, .slice x.D x.v.vols.length x.c2] := by rw [← her]; rfl
      rw [hcx]
      clear hcx her hx hA
      generalize x.B = z1 at *
      generalize x.v.data.length = z2 at *
      generalize x.c = z3 at *
      generalize x.D = z4 at *
      generalize x.v.vols.length = z5 at *
      generalize x.c2 = z6 at *
      go_upto_region 28 with fail
      change Code.wp _ _ _ _ (w6.alloc (.cells #[.int .i64 (er : Nat), .slice z1 z2 z3, .slice z4 z5 z6] 36))
      have hx7 := (Below.refl w6.heap.size w6).alloc (Nat.le_refl _) (.cells #[.int .i64 (er : Nat), .slice z1 z2 z3, .slice z4 z5 z6] 36)
      have hB7 := Blk.new w6 36 #[.int .i64 (er : Nat), .slice z1 z2 z3, .slice z4 z5 z6]
      have hM7 := hM6.sub hx7
      generalize w6.alloc (.cells #[.int .i64 (er : Nat), .slice z1 z2 z3, .slice z4 z5 z6] 36) = w7 at *
      have c0 := hB7.cell 0
      clear HU6 hM6 hx7
      generalize w6.heap.size = g6 at *
      have hus7 := md_used hM7
      obtain ⟨U', hU'⟩ : ∃ U', usedV R.2.vols = U' := ⟨_, rfl⟩
      rw [hU'] at hus7 hul6 hqo
      have e8 : ∀ W, Below w7.heap.size w7 W → MdS w0 W A M 4 Q R.2.vols ∧ W.cell? ⟨g6, 0, none⟩ = some (.int .i64 (er : Nat)) := fun W hW => ⟨hM7.sub hW, (Chg.of_below (S := fun _ => False) hW).cellC c0 (fun h => h)⟩
      have hops7 := fun W (hW : Below w7.heap.size w7 W) => hops W ((hM7.sub hW).below)
      have hQ2 : (U' : Int) ≤ (Q : Int) := by omega
      have hQ3 : ¬ (Q : Int) < (U' : Int) := by omega
      by_cases h10 : er = 10
      · have hlt10 := hqt h10
        have hnn : nd = needV V o.ov := hnd (by omega)
        have hUU : U' = U := by rw [← hU', hsame (by omega)]; exact hU
        have b10 : ((er : Int) == 10) = true := by rw [beq_iff_eq]; omega
        have b0 : ((er : Int) == 0) = false := by rw [beq_eq_false_iff_ne]; omega
        have kq : IntKind.i64.wrap ((Q : Int) - (U : Int)) = (Q : Int) - (U : Int) := IntWalk.i64_in _ (by omega)
        have k11 : ¬ nd ≤ (Q : Int) - (U : Int) := by omega
        subst hUU
        clear hnn hnd hqt hqo hqn hsame h10 hlt10
        go_wp2_with fail
        refine hus7.mono ?_
        rintro e w8 ⟨rfl, hb8⟩
        obtain ⟨hM8, c8⟩ := e8 _ hb8
        have hus8 := md_used hM8
        rw [hU'] at hus8
        clear hus7
        go_wp2_with fail
        refine hus8.mono ?_
        rintro e w9 ⟨rfl, hb9⟩
        obtain ⟨hM9, c9⟩ := e8 _ (hb8.trans (hb9.mono hb8.size))
        clear hus8
        go_wp2_with fail
        go_roundg (l.length - (k + 1))
        case measure => omega
        case rel => exact ⟨k + 1, _, rfl, hlt, by go_num, hM9⟩
      have b10 : ((er : Int) == 10) = false := by rw [beq_eq_false_iff_ne]; omega
      by_cases h0 : er = 0
      case neg =>
        have b0 : ((er : Int) == 0) = false := by rw [beq_eq_false_iff_ne]; omega
        clear hnd hqt hqo hqn hsame h10 h0
        go_wp2_with fail
        refine hus7.mono ?_
        rintro e w8 ⟨rfl, hb8⟩
        obtain ⟨hM8, c8⟩ := e8 _ hb8
        clear hus7
        go_wp2_with fail
        go_roundg (l.length - (k + 1))
        case measure => omega
        case rel => exact ⟨k + 1, _, rfl, hlt, by go_num, hM8⟩
      have b0 : ((er : Int) == 0) = true := by rw [beq_iff_eq]; omega
      have HND := Lib.hid hnd
      have HQN := Lib.hid (hqn h0)
      have HQO := Lib.hid (hqo h0)
      clear hnd hqn hqo hqt hsame h10 h0
      go_wp2_with fail
      refine hus7.mono ?_
      rintro e w8 ⟨rfl, hb8⟩
      obtain ⟨hM8, c8⟩ := e8 _ hb8
      obtain ⟨ad', e', -, d0, -, -, -, -, -⟩ := hops7 _ hb8
      injection e' with e'
      subst e'
      clear hus7
      by_cases hk2 : o.kind = 2
      · have b2 : (o.kind != 2) = false := by simp [hk2]
        clear hk2
        go_wp2_with fail
        go_roundg (l.length - (k + 1))
        case measure => omega
        case rel => exact ⟨k + 1, _, rfl, hlt, by go_num, hM8⟩
      · have b2 : (o.kind != 2) = true := by simp [hk2]
        have hus8 := md_used hM8
        rw [hU'] at hus8
        have hn0 := HQN.out
        have hnn := HND.out hn0
        have hqq := HQO.out hk2
        have ka : IntKind.i64.wrap ((U : Int) + nd) = (U' : Int) := by rw [IntWalk.i64_in _ (by omega)]; omega
        clear hk2 hn0 hnn hqq
        go_wp2_with fail
        refine hus8.mono ?_
        rintro e w9 ⟨rfl, hb9⟩
        obtain ⟨hM9, c9⟩ := e8 _ (hb8.trans (hb9.mono hb8.size))
        clear hus8
        go_wp2_with fail
        go_roundg (l.length - (k + 1))
        case measure => omega
        case rel => exact ⟨k + 1, _, rfl, hlt, by go_num, hM9⟩
    · have r1 : ¬ (k : Int) < (l.length : Int) := by omega
      have hbw := hM.below
      go_wp2_with fail
      go_ret
      exact ⟨rfl, hbw⟩
end Go.Proofs.YthhpcilinkebeaaDoor
