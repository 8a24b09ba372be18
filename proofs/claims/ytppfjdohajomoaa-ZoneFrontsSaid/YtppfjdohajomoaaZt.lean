/- The power's law: the walk. -/
import Derived.Test.YtppfjdohajomoaaZr
import Derived.Test.YtppfjdohajomoaaZs
namespace Go.Proofs.Ytppfjdohajomoaa
open Go.RowKit
set_option maxHeartbeats 4000000
set_option maxRecDepth 100000

theorem own_has {w : World} {base : Nat} {e : TypeId} {n c : Nat} {A : Option Addr} {xs : List Value} (h : w.ownsRow base e 1 (.slice A n c) n xs) : ∀ ad, A = some ad → Has w ad.block e := by
  intro ad e'
  rcases h.2 with ⟨h0, _⟩ | ⟨g, cap, cur, h0, hg1, hg2, _⟩
  · injection h0 with h0 _ _; rw [e'] at h0; cases h0
  · injection h0 with h0 _ _
    rw [e'] at h0
    injection h0 with h0
    subst h0
    exact ⟨_, _, hg2⟩
theorem slDp : SlT Try.prog 69 70 (.pointer none) 1 8 := ⟨Try.underlying69, by kernel_rfl, rfl, by decide⟩
def pv (D : Nat) : Value := .pointer (some ⟨D, 0, none⟩)
def dv0 (D : Nat) : DV := ⟨D, 300, 32, false, [([], 0)]⟩

theorem zonePower_any (w : World) (A : Option Addr) (c : Nat) (l : List Int) (n : Int) (hl : Rd w A (ints l)) (hx : ∀ x ∈ l, -9223372036854775808 ≤ x ∧ x ≤ 9223372036854775807) (hn0 : -9223372036854775808 ≤ n) (hn1 : n ≤ 9223372036854775807) :
    Calls Try.prog 9 #[.slice A l.length c, .int .i64 n] w fun e w' => e = .returned (.bool true) ∧ Below w.heap.size w w' := by
  have hmk := run_mk32
  by_cases hL : 200 < l.length
  · have k1 : (200 : Int) < (l.length : Int) := by omega
    go_enter Try.func9, Try.ntmps9
    go_wp2_with fail
    refine (known3_law w).mono ?_
    rintro e w0 ⟨rfl, hb0⟩
    go_wp2
    go_ret
    exact ⟨rfl, hb0⟩
  have k1 : ¬ (200 : Int) < (l.length : Int) := by omega
  obtain ⟨m, hm⟩ : ∃ m : Nat, max n 1 = (m : Int) := ⟨(max n 1).toNat, by omega⟩
  have hmm : (max n 1).toNat = m := by omega
  go_enter Try.func9, Try.ntmps9
  go_wp2_with fail
  refine (known3_law w).mono ?_
  rintro e w0 ⟨rfl, hb0⟩
  go_wp2_with fail
  refine (pw_none _).mono ?_
  rintro e w1 ⟨rfl, hp1, hb1⟩
  go_wp2_with fail
  go_loopg [6, 7] 3 (fun g s6 s7 wr => ∃ (k : Nat) (Ds : List Nat) (A' : Option Addr) (c' : Nat), g = 3 - k ∧ k ≤ 3 ∧ s7 = .int .i64 (k : Nat) ∧ Ds.length = k ∧ s6 = .slice A' k c' ∧ wr.ownsRow w0.heap.size 70 1 (.slice A' k c') k (Ds.map pv) ∧
    Pow wr w0.heap.size w0.heap.size ⟨false, 0, [], 0, Ds.map dv0⟩ (fun _ => False) ∧ Below w0.heap.size w0 wr)
  case atStart => exact ⟨0, [], none, 0, rfl, by omega, rfl, rfl, rfl, World.ownsRow_nil _ _ _ _, hp1, hb1⟩
  case round =>
    obtain ⟨k, Ds, A', c', rfl, hk, rfl, hds, rfl, hown, hp, hb⟩ := hrel
    by_cases hk3 : k < 3
    · have hnew := pw_new hp 1 300 32 (by decide) (by decide) (by decide) (by decide) (by decide) (by decide) (by simp; omega)
      go_wp2_with fail
      refine hnew.mono ?_
      rintro e w2 ⟨D, rfl, hp2, hc2⟩
      have hown2 := own_keepX hown hc2 notTP
      have hb2 := hc2.after hb hb.size
      have hp2' := hp2.alloc (.cells #[pv D] 70)
      have hown2' : Ap (w2.alloc (.cells #[pv D] 70)) w0.heap.size 70 1 (.slice A' k c') k (Ds.map pv) := (Ap.alloc (.inl hown2) _)
      have hrd : Rd (w2.alloc (.cells #[pv D] 70)) (some ⟨w2.heap.size, 0, none⟩) [pv D] := Rd.lay w2 [pv D] _
      unfold pv at hp2' hown2' hrd
      go_wp2_with (at_builtin; refine wpList_apz rfl _ _ rfl slDp w0.heap.size A' k c' _ rfl hown2' (some ⟨w2.heap.size, 0, none⟩) _ rfl hrd rfl (by unfold maxLen; omega) (by omega) (by have := hb2.size; simp; omega) ?_; intro A4 c4 w4 ho4 hc4 hA4)
      go_roundg (3 - (k + 1))
      case measure => omega
      case rel =>
        have hSb : ∀ j, (∃ ad, A' = some ad ∧ j = ad.block) → w0.heap.size ≤ j ∧ Has (w2.alloc (.cells #[.pointer (some ⟨D, 0, none⟩)] 70)) j 70 := by
          rintro j ⟨ad, e, rfl⟩
          exact ⟨((own_cap hown2).2.2 ad e).1, (own_has hown2 ad e).keep (S := fun _ => False) (Chg.alloc (Chg.refl _ _) _) (fun h => h)⟩
        refine ⟨k + 1, Ds ++ [D], A4, c4, rfl, by omega, by go_num, by simp [hds], rfl, by rw [List.map_append]; exact ho4, ?_, ?_⟩
        · have := hp2'.keep hc4 fun j hj => ⟨⟨_, (hSb j hj).2, notTP, by decide⟩, fun h => h⟩
          simpa [dv0] using this
        · exact Chg.toBelow hc4 (hb2.alloc hb2.size _) (fun j hj => (hSb j hj).1) (by have := hb2.size; simp; omega)
    · obtain rfl : k = 3 := by omega
      obtain ⟨ad, rfl⟩ : ∃ ad, A' = some ad := by
        rcases A' with _ | ad
        · rcases hown.2 with ⟨_, h0⟩ | ⟨g, cap, cur, h0, _⟩
          · omega
          · injection h0 with h0 _ _; cases h0
        · exact ⟨ad, rfl⟩
      go_wp2_with fail
      refine (pw_arm hp n hn1 none 0 [] (fun h => absurd rfl h) (by simp) (by simp)).mono ?_
      rintro e w5 ⟨rfl, hp5, hc5⟩
      have hown5 := own_keepX hown hc5 notTP
      have hb5 := hc5.after hb hb.size
      rw [hmm] at hp5
      have hP0 : PSt ⟨false, m, [], 0, Ds.map dv0⟩ m 0 Ds := ⟨rfl, by simp [dv0, Function.comp_def], fun d hd => by
        obtain ⟨D, _, rfl⟩ := List.mem_map.1 hd
        exact ⟨rfl, rfl, rfl, [], rfl, Nat.le_refl _⟩, .inl ⟨by omega, rfl, rfl, rfl⟩⟩
      clear hown hp hb hc5
      go_upto_if 45 with fail
      go_cut [1] (fun s1 wx => s1 = .int .i64 (m : Nat) ∧ wx = w5)
      case first =>
        go_wp2
        all_goals
          go_meet
          exact ⟨by first | (congr 1; omega) | (rw [← hm]; congr 1; omega), rfl⟩
      case rest =>
        obtain ⟨rfl, rfl⟩ := hcut
        go_wp2
        go_loopg [10] l.length (fun g s10 wr => ∃ (i : Nat) (s : St), g = l.length - i ∧ i ≤ l.length ∧ s10 = .int .i64 (i : Nat) ∧ Pow wr w0.heap.size w0.heap.size s (fun _ => True) ∧ PSt s m i Ds ∧
          wr.ownsRow w0.heap.size 70 1 (.slice (some ad) 3 c') 3 (Ds.map pv) ∧ Below w0.heap.size w0 wr)
        case atStart => exact ⟨0, _, rfl, by omega, rfl, hp5.mono fun _ _ => trivial, hP0, hown5, hb5⟩
        case round =>
          clear hp5 hP0 hown5 hb5
          obtain ⟨i, s, rfl, hi, rfl, hp, hP, hown, hb⟩ := hrel
          by_cases hil : i < l.length
          · have hbw : Below w.heap.size w wr := hb0.trans (hb.mono hb0.size)
            obtain ⟨la, rfl, _, hcell⟩ := (hl.below hbw).at_ (k := i) (by simpa [ints] using hil)
            simp only [ints, List.getElem_map] at hcell
            have hxi := hx _ (List.getElem_mem hil)
            have j1 : (i : Int) < (l.length : Int) := by omega
            generalize l[i] = x at *
            obtain ⟨r, hr⟩ : ∃ r, x.tmod 3 = r := ⟨_, rfl⟩
            have hr1 := Int.tmod_lt_of_pos x (show (0 : Int) < 3 by decide)
            have hr2 := Int.lt_tmod_of_pos x (show (0 : Int) < 3 by decide)
            rw [hr] at hr1 hr2
            have hwr : wrap64 (-r) = -r := IntWalk.wrap64_in _ (by omega)
            go_upto_if 58 with fail
            go_cut [11] (fun s11 wx => ∃ k : Nat, k < 3 ∧ s11 = .int .i64 (k : Nat) ∧ wx = wr)
            case first =>
              go_wp2
              · go_meet
                exact ⟨(-r).toNat, by omega, by congr 1; omega, rfl⟩
              · go_meet
                exact ⟨r.toNat, by omega, by congr 1; omega, rfl⟩
            case rest =>
              obtain ⟨k, hk, rfl, rfl⟩ := hcut
              clear hr hr1 hr2 hwr hcell hxi
              have hrow := Rd.of_own hown
              have hkd : k < Ds.length := by omega
              have hcW : ∀ W, Rd W (some ad) (Ds.map pv) → W.cell? (ad.add k) = some (.pointer (some ⟨Ds[k], 0, none⟩)) := by
                intro W hW
                obtain ⟨a2, e2, hb2, hcell2⟩ := hW.at_ (k := k) (by simpa using hkd)
                injection e2 with e2
                subst e2
                simpa [pv] using hcell2
              have q1 := hcW _ hrow.drew
              have j3 : (k : Int) < 3 := by omega
              have q2 := hcW _ (hrow.alloc (.cells zc32 5)).drew
              have hst := hP.step (by omega) (by omega) k hkd
              obtain ⟨v, s1, hr⟩ : ∃ v s1, appendR s k 0 zer = (v, s1) := ⟨_, _, rfl⟩
              rw [hr] at hst
              simp only at hst
              obtain ⟨hP1, hv, hof⟩ := hst
              have hkd2 : k < s.ds.length := by have := hP.dl; rw [← this] at hkd; simpa using hkd
              have hD : s.ds[k].D = Ds[k] := by simp [← hP.dl]
              have hw4 : s.writes ≤ 4611686018427387904 := by rcases hP.st with ⟨_, _, _, h⟩ | ⟨h0, _, _, h⟩ <;> omega
              have hap := at_append (hp.alloc (.cells zc32 5)).drew k (List.getElem?_eq_getElem hkd2) 0 _ _ zer ((PgOk.zer wc).keep (S := fun _ => False) (Chg.drew (Chg.refl _ _)) (fun _ h => h.elim)) zer_len hw4 hr
              rw [hD] at hap
              generalize Ds[k] = D at *
              have HR := Lib.hid hr
              have HD := Lib.hid hD
              clear hr hD hcW hrow
              have hfin : ∀ w4, ChgT w0.heap.size (wc.alloc (.cells zc32 5)).drew w4 → w4.ownsRow w0.heap.size 70 1 (.slice (some ad) 3 c') 3 (Ds.map pv) ∧ Below w0.heap.size w0 w4 := by
                intro w4 hc4
                have hb' := (hb.alloc hb.size (.cells zc32 5)).drew
                exact ⟨own_keepX (own_keepC hown (S := fun _ => False) ((Chg.refl _ _).alloc _).drew (fun _ _ h => h)) hc4 notTP, hc4.after hb' hb'.size⟩
              go_wp2_with fail
              go_cut [12] (fun s12 wx => s12 = .int .i64 (v : Nat) ∧ Pow wx w0.heap.size w0.heap.size s1 (fun _ => True) ∧ wx.ownsRow w0.heap.size 70 1 (.slice (some ad) 3 c') 3 (Ds.map pv) ∧ Below w0.heap.size w0 wx)
              case first =>
                go_region_law (first | (go_simp; go_at_call 42; (with_reducible refine hap.mono ?_); rintro e w4 ⟨rfl, hp4, hc4⟩))
                all_goals ((simp only [List.getElem_toArray, List.getElem_cons_succ, List.getElem_cons_zero]); go_simp; go_wp2_with fail; go_meet; exact ⟨rfl, hp4.mono fun _ _ => trivial, hfin _ hc4⟩)
              case rest =>
                obtain ⟨rfl, hp4, hown4, hb4⟩ := hcut
                have hof4 := fun W (h : Pow W w0.heap.size w0.heap.size s1 (fun _ => True)) => pw_off h
                rw [hof] at hof4
                clear hap hfin q1 q2 hp hown hb hbw hP
                by_cases him : i + 1 < m
                · have hv0 : v = 0 := hv.2 him
                  subst hv0
                  rw [show decide (m ≤ i + 1) = false from by simp; omega] at hof4
                  have t1 : (i : Int) + 1 < (m : Int) := by omega
                  have HV := Lib.hid hv
                  have HO := Lib.hid hof
                  clear hv hof him
                  go_wp2_with (go_at_call 43; refine (hof4 _ hp4).mono ?_; rintro e w5 ⟨rfl, rfl⟩)
                  go_roundg (l.length - (i + 1))
                  case measure => omega
                  case rel => exact ⟨i + 1, s1, rfl, by omega, by go_num, hp4, hP1, hown4, hb4⟩
                · have hv0 : ¬ v = 0 := fun h => him (hv.1 h)
                  have hv1 : ((v : Int) == 0) = false := by simp; omega
                  rw [show decide (m ≤ i + 1) = true from by simp; omega] at hof4
                  have t1 : (m : Int) ≤ (i : Int) + 1 := by omega
                  have HV := Lib.hid hv
                  have HO := Lib.hid hof
                  clear hv hof him hv0
                  go_wp2_with (go_at_call 43; refine (hof4 _ hp4).mono ?_; rintro e w5 ⟨rfl, rfl⟩)
                  go_roundg (l.length - (i + 1))
                  case measure => omega
                  case rel => exact ⟨i + 1, s1, rfl, by omega, by go_num, hp4, hP1, hown4, hb4⟩
          · obtain rfl : i = l.length := by omega
            have hbw : Below w.heap.size w wr := hb0.trans (hb.mono hb0.size)
            have hkd : 0 < Ds.length := by omega
            have hcW : ∀ W, Rd W (some ad) (Ds.map pv) → W.cell? ad = some (.pointer (some ⟨Ds[0], 0, none⟩)) := by
              intro W hW
              obtain ⟨a2, e2, hb2, hcell2⟩ := hW.at_ (k := 0) (by simpa using hkd)
              injection e2 with e2
              subst e2
              simp [pv] at hcell2
              exact hcell2
            obtain ⟨hof, hl1, hl2⟩ := hP.last (by omega) 0 hkd
            obtain ⟨v, s1, hr⟩ : ∃ v s1, appendR { s with off := false } 0 0 zer = (v, s1) := ⟨_, _, rfl⟩
            rw [hr] at hl1 hl2
            simp only at hl1 hl2
            have hkd2 : 0 < s.ds.length := by have := hP.dl; rw [← this] at hkd; simpa using hkd
            have hD : s.ds[0].D = Ds[0] := by simp [← hP.dl]
            have hw4 : s.writes ≤ 4611686018427387904 := by rcases hP.st with ⟨_, _, _, h⟩ | ⟨h0, _, _, h⟩ <;> omega
            have hap := fun W (hp : Pow W w0.heap.size w0.heap.size { s with off := false } (fun _ => True)) => at_append (hp.alloc (.cells zc32 5)).drew 0 (List.getElem?_eq_getElem hkd2) 0 _ _ zer ((PgOk.zer W).keep (S := fun _ => False) (Chg.drew (Chg.refl _ _)) (fun _ h => h.elim)) zer_len hw4 hr
            rw [hD] at hap
            generalize Ds[0] = D at *
            have hof4 := pw_off hp
            rw [hof] at hof4
            have HR := Lib.hid hr
            clear hP hD hr hof
            by_cases hmL : m ≤ l.length
            · have t1 : (m : Int) ≤ (l.length : Int) := by omega
              rw [show decide (m ≤ l.length) = true from by simp; omega] at hof4
              obtain ⟨rfl, hwri⟩ := hl2 (by omega)
              rw [if_pos hmL] at hwri
              clear hl1 hl2
              go_wp2_with fail
              refine hof4.mono ?_
              rintro e w5 ⟨rfl, rfl⟩
              go_wp2_with fail
              refine (pw_on hp).mono ?_
              rintro e w6 ⟨rfl, hp6, hc6⟩
              have hown6 := own_keepX hown hc6 notTP
              have hrow6 := Rd.of_own hown6
              have hb6 := hc6.after hb hb.size
              have q1 := hcW _ hrow6.drew
              have q2 := hcW _ (hrow6.alloc (.cells zc32 5)).drew
              have hap6 := hap _ hp6
              have hfin : ∀ w7, ChgT w0.heap.size (w6.alloc (.cells zc32 5)).drew w7 → Below w0.heap.size w0 w7 := by
                intro w7 hc7
                have hb' := (hb6.alloc hb6.size (.cells zc32 5)).drew
                exact hc7.after hb' hb'.size
              go_wp2_with fail
              go_cut [15] (fun s15 wx => s15 = .int .i64 (0 : Nat) ∧ Pow wx w0.heap.size w0.heap.size s1 (fun _ => True) ∧ Below w0.heap.size w0 wx)
              case first =>
                go_region_law (first | (go_simp; go_at_call 42; (with_reducible refine hap6.mono ?_); rintro e w7 ⟨rfl, hp7, hc7⟩))
                all_goals ((simp only [List.getElem_toArray, List.getElem_cons_succ, List.getElem_cons_zero]); go_simp; go_wp2_with fail; go_meet; exact ⟨rfl, hp7.mono fun _ _ => trivial, hfin _ hc7⟩)
              case rest =>
                obtain ⟨rfl, hp7, hb7⟩ := hcut
                have hwr4 := fun W (h : Pow W w0.heap.size w0.heap.size s1 (fun _ => True)) => pw_writes h
                rw [show s1.writes = m by omega] at hwr4
                clear hwri
                go_wp2_with (go_at_call 45; refine (hwr4 _ hp7).mono ?_; rintro e w5 ⟨rfl, rfl⟩)
                go_ret
                exact ⟨by simp, hb0.trans (hb7.mono hb0.size)⟩
            · have t1 : (l.length : Int) < (m : Int) := by omega
              rw [show decide (m ≤ l.length) = false from by simp; omega] at hof4
              by_cases hL1 : l.length + 1 = m
              · have t2 : ((l.length : Int) + 1 == (m : Int)) = true := by simp; omega
                obtain ⟨hv0, hof1⟩ := hl1 hL1
                have hv1 : ((v : Int) != 0) = true := by simp; omega
                clear hl1 hl2 hL1
                go_wp2_with fail
                refine hof4.mono ?_
                rintro e w5 ⟨rfl, rfl⟩
                go_wp2_with fail
                refine (pw_on hp).mono ?_
                rintro e w6 ⟨rfl, hp6, hc6⟩
                have hown6 := own_keepX hown hc6 notTP
                have hrow6 := Rd.of_own hown6
                have hb6 := hc6.after hb hb.size
                have q1 := hcW _ hrow6.drew
                have q2 := hcW _ (hrow6.alloc (.cells zc32 5)).drew
                have hap6 := hap _ hp6
                have hfin : ∀ w7, ChgT w0.heap.size (w6.alloc (.cells zc32 5)).drew w7 → Below w0.heap.size w0 w7 := by
                  intro w7 hc7
                  have hb' := (hb6.alloc hb6.size (.cells zc32 5)).drew
                  exact hc7.after hb' hb'.size
                go_wp2_with fail
                go_cut [15] (fun s15 wx => s15 = .int .i64 (v : Nat) ∧ Pow wx w0.heap.size w0.heap.size s1 (fun _ => True) ∧ Below w0.heap.size w0 wx)
                case first =>
                  go_region_law (first | (go_simp; go_at_call 42; (with_reducible refine hap6.mono ?_); rintro e w7 ⟨rfl, hp7, hc7⟩))
                  all_goals ((simp only [List.getElem_toArray, List.getElem_cons_succ, List.getElem_cons_zero]); go_simp; go_wp2_with fail; go_meet; exact ⟨rfl, hp7.mono fun _ _ => trivial, hfin _ hc7⟩)
                case rest =>
                  obtain ⟨rfl, hp7, hb7⟩ := hcut
                  have hof5 := fun W (h : Pow W w0.heap.size w0.heap.size s1 (fun _ => True)) => pw_off h
                  rw [hof1] at hof5
                  clear hof1
                  go_wp2_with (go_at_call 43; refine (hof5 _ hp7).mono ?_; rintro e w5 ⟨rfl, rfl⟩)
                  go_ret
                  exact ⟨by simp, hb0.trans (hb7.mono hb0.size)⟩
              · have t2 : ((l.length : Int) + 1 == (m : Int)) = false := by simp; omega
                obtain ⟨rfl, hwri⟩ := hl2 hL1
                rw [if_neg hmL] at hwri
                clear hl1 hl2 hL1
                go_wp2_with fail
                refine hof4.mono ?_
                rintro e w5 ⟨rfl, rfl⟩
                go_wp2_with fail
                refine (pw_on hp).mono ?_
                rintro e w6 ⟨rfl, hp6, hc6⟩
                have hown6 := own_keepX hown hc6 notTP
                have hrow6 := Rd.of_own hown6
                have hb6 := hc6.after hb hb.size
                have q1 := hcW _ hrow6.drew
                have q2 := hcW _ (hrow6.alloc (.cells zc32 5)).drew
                have hap6 := hap _ hp6
                have hfin : ∀ w7, ChgT w0.heap.size (w6.alloc (.cells zc32 5)).drew w7 → Below w0.heap.size w0 w7 := by
                  intro w7 hc7
                  have hb' := (hb6.alloc hb6.size (.cells zc32 5)).drew
                  exact hc7.after hb' hb'.size
                go_wp2_with fail
                go_cut [15] (fun s15 wx => s15 = .int .i64 (0 : Nat) ∧ Pow wx w0.heap.size w0.heap.size s1 (fun _ => True) ∧ Below w0.heap.size w0 wx)
                case first =>
                  go_region_law (first | (go_simp; go_at_call 42; (with_reducible refine hap6.mono ?_); rintro e w7 ⟨rfl, hp7, hc7⟩))
                  all_goals ((simp only [List.getElem_toArray, List.getElem_cons_succ, List.getElem_cons_zero]); go_simp; go_wp2_with fail; go_meet; exact ⟨rfl, hp7.mono fun _ _ => trivial, hfin _ hc7⟩)
                case rest =>
                  obtain ⟨rfl, hp7, hb7⟩ := hcut
                  have hwr4 := fun W (h : Pow W w0.heap.size w0.heap.size s1 (fun _ => True)) => pw_writes h
                  rw [hwri] at hwr4
                  clear hwri
                  go_wp2_with (go_at_call 45; refine (hwr4 _ hp7).mono ?_; rintro e w5 ⟨rfl, rfl⟩)
                  go_ret
                  exact ⟨by simp, hb0.trans (hb7.mono hb0.size)⟩
end Go.Proofs.Ytppfjdohajomoaa
