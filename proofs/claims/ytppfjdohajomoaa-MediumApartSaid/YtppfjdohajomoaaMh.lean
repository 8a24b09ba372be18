/- The law MediumChains: its walk. -/
import Derived.Test.YtppfjdohajomoaaMg
import Derived.Deep.QuietTactic
import Derived.BigQuiet
import Derived.Deep.LoopGhost
namespace Go.Proofs.Ytppfjdohajomoaa
open Go.RowKit
set_option maxHeartbeats 4000000
set_option maxRecDepth 100000

/-- the table behind some rounds -/
def ChSt (w wr : World) (T M depth top : Nat) (size : Int) : Prop :=
  ∃ d n f, TabAt wr T M depth (top + 1) n f ∧ n ≤ 4 * top ∧ ChI f top d size false ∧ 1 ≤ d ∧ d ≤ depth ∧ f 0 = none ∧ WFm f ∧ Below w.heap.size w wr

theorem plcs_get : ∀ (l : List (Nat × Int)) (k : Nat) (h : k < l.length), (plcs l)[2 * k]? = some (.int .u64 ((l[k].1 : Nat) : Int)) ∧ (plcs l)[2 * k + 1]? = some (.int .i64 l[k].2)
  | [], k, h => by simp at h
  | p :: l, 0, _ => by simp [plcs]
  | p :: l, k + 1, h => by
    have ih := plcs_get l k (by simpa using h)
    have e : plcs (p :: l) = .int .u64 (p.1 : Nat) :: .int .i64 p.2 :: plcs l := by simp [plcs]
    rw [e, show 2 * (k + 1) = 2 * k + 1 + 1 by omega, List.getElem?_cons_succ, List.getElem?_cons_succ, List.getElem?_cons_succ, List.getElem?_cons_succ]
    exact ih

theorem mediumChains_any (depth n size : Int) (w : World) :
    Calls Try.prog 3 #[.int .i64 depth, .int .i64 n, .int .i64 size] w fun e w' => e = .returned (.bool true) ∧ Below w.heap.size w w' := by
  by_cases hb : depth < 2 ∨ 64 < depth ∨ size < 1 ∨ 1048576 < size
  · have hd : (depth < 2) ∨ (¬ depth < 2 ∧ 64 < depth) ∨ (¬ depth < 2 ∧ ¬ 64 < depth ∧ size < 1) ∨ (¬ depth < 2 ∧ ¬ 64 < depth ∧ ¬ size < 1 ∧ 1048576 < size) := by omega
    clear hb
    rcases hd with h1 | ⟨h1, h2⟩ | ⟨h1, h2, h3⟩ | ⟨h1, h2, h3, h4⟩
    all_goals
      go_enter Try.func3, Try.ntmps3
      go_wp2_with (go_at_call 15; refine (medKnown_any _).mono ?_; rintro e w1 ⟨rfl, hb1⟩)
      go_ret
      exact ⟨rfl, hb1⟩
  obtain ⟨dp, rfl⟩ : ∃ d : Nat, depth = (d : Int) := ⟨depth.toNat, by omega⟩
  have b1 : ¬ (dp : Int) < 2 := by omega
  have b2 : ¬ 64 < (dp : Int) := by omega
  have b3 : ¬ size < 1 := by omega
  have b4 : ¬ 1048576 < size := by omega
  have d2 : 2 ≤ dp := by omega
  have d64 : dp ≤ 64 := by omega
  clear hb
  have hE0 : makeE (fun _ => none) dp size 0 0 = 0 := by
    unfold makeE
    rw [if_neg (by omega), if_neg (by simp), if_neg (by simp), if_neg]
    have : deepP (fun _ => none) dp 0 = 0 := by unfold deepP; cases dp <;> rfl
    rw [this]
    omega
  have hk1 := fun (W : World) (T M : Nat) (h : TabAt W T M dp 1 0 (fun _ => none)) => (make_any T M dp 1 0 0 size 0 (fun _ => none) W h WFm.none_ (by omega) (by omega) (by omega) (by omega)).mono fun e w' hp => hp.2 hE0
  clear hE0
  have hM : n.tmod 200 ≤ 199 := by have := Int.tmod_lt_of_pos n (show (0 : Int) < 200 by omega); omega
  go_enter Try.func3, Try.ntmps3
  go_upto_region 12 with (first
    | (go_at_call 15; refine (medKnown_any _).mono ?_; rintro e w1 ⟨rfl, hb1⟩)
    | (go_at_call 16; refine (medNew_any _ _ (by omega) (by omega)).mono ?_; rintro e w2 ⟨T, M, rfl, h2, hT, hM', hb2⟩)
    | (go_at_call 17; refine (hk1 _ _ _ h2).mono ?_; rintro e w3 ⟨rfl, h3, ht3⟩))
  have hT0 : w.heap.size ≤ T := Nat.le_trans hb1.size hT
  have hM0 : w.heap.size ≤ M := Nat.le_trans hb1.size hM'
  have hst : ChSt w w3 T M dp 1 size := ⟨1, 1, _, h3, by omega, ChI.first _ _, by omega, by omega, by simp [upd], WFm.none_.put5 _ _ _ _ _ _ (by omega) (by omega) (by omega) (by omega) (by omega) (by omega), ht3.toBelow (hb1.trans (hb2.mono hb1.size)) hT0 hM0 (Nat.le_trans hb1.size hb2.size)⟩
  clear hk1 h2 h3 ht3 hb1 hb2 hT hM'
  go_wp2
  generalize n.tmod 200 = m at *
  go_loopg [9, 10] 300 (fun gg s9 s10 wr => ∃ i top : Nat, gg = 300 - i ∧ s10 = .int .i64 (i : Nat) ∧ s9 = .int .u64 (top : Nat) ∧ top = i + 1 ∧ i ≤ 200 ∧ ChSt w wr T M dp top size)
  case atStart => exact ⟨0, 1, rfl, rfl, rfl, rfl, by omega, hst⟩
  case round =>
    obtain ⟨i, top, rfl, rfl, rfl, htop, hi, hst⟩ := hrel
    by_cases hlt : (i : Int) < m
    · obtain ⟨d, nn, f, hT, hn, hC, hd1, hd2, hf0, hwf, hbw⟩ := hst
      have htop200 : top ≤ 201 := by omega
      have htop64 : top < 18446744073709551616 := by omega
      have hft := hC.2 0 (by omega)
      simp only [Nat.sub_zero] at hft
      have hFix : Calls Try.prog 18 #[.pointer (some ⟨T, 0, none⟩), .int .u64 (top : Nat)] wr fun e w' => e = .returned (.int .i64 0) ∧ TabAt w' T M dp (top + 1) (nn + 1) (upd f top ((f top).map fixM)) ∧ Turn2 T M wr w' := by
        have h := fix_any T M dp (top + 1) nn top f wr hT htop64 (by omega)
        rwa [if_neg (by rw [hft]; simp)] at h
      have C1 := hC.fix hd1
      have hf10 : upd f top ((f top).map fixM) 0 = none := by rw [show upd f top ((f top).map fixM) 0 = f 0 from by simp [upd]; omega]; exact hf0
      have hwf1 := hwf.fix top
      have hf1t : ∃ x, upd f top ((f top).map fixM) top = some x ∧ x.fixed = true := by
        obtain ⟨x0, hx0⟩ : ∃ x, f top = some x := ⟨_, hft⟩
        exact ⟨fixM x0, by simp [upd, hx0], rfl⟩
      generalize upd f top ((f top).map fixM) = f1 at *
      clear hC hft hf0 hwf hT
      have hdp1 := deep_ChI C1 hf10 hd1 hd2
      have hE1 : makeE f1 dp size top 0 = if dp < d + 1 then 2 else 0 := by
        obtain ⟨x, hx, hx2⟩ := hf1t
        unfold makeE
        rw [if_neg (by omega), if_neg (by rw [hx]; simp), if_neg (by rw [hx]; simp [hx2]), hdp1]
      -- what the first Make gives
      have C3 := C1.make hd1
      have K3 := C1.keep (some ⟨top + 1, top, 0, size, false⟩)
      have hf30 : upd f1 (top + 1) (some ⟨top + 1, top, 0, size, false⟩) 0 = none := by simp [upd]; exact hf10
      have hwf3 := hwf1.put5 (top + 1) (top + 1) top 0 size false (by omega) (by omega) (by omega) (by omega) (by omega) (by omega)
      have hdp3 := deep_ChI K3 hf30 hd1 hd2
      have hMk := fun (W : World) (h : TabAt W T M dp (top + 1) (nn + 1) f1) => make_any T M dp (top + 1) (nn + 1) top size 0 f1 W h hwf1 (by omega) htop64 (by omega) (by omega)
      have hDp1 := fun (W : World) (h : TabAt W T M dp (top + 1) (nn + 1) f1) => deep_any T M dp (top + 1) (nn + 1) top f1 W h hwf1 (by omega) htop64
      have hDp3 := fun (W : World) (h : TabAt W T M dp (top + 1 + 1) (nn + 1 + 1) (upd f1 (top + 1) (some ⟨top + 1, top, 0, size, false⟩))) => deep_any T M dp (top + 1 + 1) (nn + 1 + 1) top _ W h hwf3 (by omega) htop64
      rw [hdp1] at hDp1
      rw [hdp3] at hDp3
      rw [hE1] at hMk
      generalize hf3 : upd f1 (top + 1) (some ⟨top + 1, top, 0, size, false⟩) = f3 at *
      -- Alone, and the second Make
      have hAl := fun (W : World) (h : TabAt W T M dp (top + 1) (nn + 1) f1) => alone_any T M dp (top + 1) (nn + 1) top f1 W h htop64 (by omega)
      obtain ⟨x1, hx1, hx1f⟩ := hf1t
      rw [if_neg (by rw [hx1]; simp)] at hAl
      have C4 := C1.alone hd1
      have hf40 : upd f1 top ((f1 top).map aloneM) 0 = none := by rw [show upd f1 top ((f1 top).map aloneM) 0 = f1 0 from by simp [upd]; omega]; exact hf10
      have hwf4 := hwf1.alone top
      have hf4t : upd f1 top ((f1 top).map aloneM) top = some (aloneM x1) := by simp [upd, hx1]
      generalize upd f1 top ((f1 top).map aloneM) = f4 at *
      have hdp4 := deep_ChI C4 hf40 (Nat.le_refl _) (show 1 ≤ dp by omega)
      have hE4 : makeE f4 dp size top 0 = 0 := by
        unfold makeE
        rw [if_neg (by omega), if_neg (by rw [hf4t]; simp), if_neg (by rw [hf4t]; simp [aloneM, hx1f]), hdp4, if_neg (by omega)]
      have hMk4 := fun (W : World) (h : TabAt W T M dp (top + 1) (nn + 1 + 1) f4) => (make_any T M dp (top + 1) (nn + 1 + 1) top size 0 f4 W h hwf4 (by omega) htop64 (by omega) (by omega)).mono fun e w' hp => hp.2 hE4
      have C5 := C4.make (Nat.le_refl _)
      have hf50 : upd f4 (top + 1) (some ⟨top + 1, top, 0, size, false⟩) 0 = none := by simp [upd]; exact hf40
      have hwf5 := hwf4.put5 (top + 1) (top + 1) top 0 size false (by omega) (by omega) (by omega) (by omega) (by omega) (by omega)
      generalize upd f4 (top + 1) (some ⟨top + 1, top, 0, size, false⟩) = f5 at *
      clear hE4 hf4t hx1 hx1f hdp4 hdp3 hdp1 hE1 hf40 hwf4 C4 K3 C1 hf10 hwf1
      obtain ⟨B, hB⟩ : ∃ B, decide (dp < d + 1) = B := ⟨_, rfl⟩
      have hMk' : ∃ X E : Nat, (B = true → X = 0 ∧ E = 2) ∧ (B = false → X = top + 1 ∧ E = 0) ∧ ∀ W, TabAt W T M dp (top + 1) (nn + 1) f1 → Calls Try.prog 17 #[.pointer (some ⟨T, 0, none⟩), .int .i64 size, .int .u64 (top : Nat), .int .i64 0] W fun e w' =>
          e = .returned (.tuple #[.int .u64 (X : Nat), .int .i64 (E : Nat)]) ∧ (B = true → Below W.heap.size W w') ∧ (B = false → TabAt w' T M dp (top + 1 + 1) (nn + 1 + 1) f3 ∧ Turn2 T M W w') := by
        cases B with
        | true =>
          have hlt' : dp < d + 1 := by simpa using hB
          refine ⟨0, 2, fun _ => ⟨rfl, rfl⟩, (fun h => by cases h), fun W h => (hMk W h).mono fun e w' hp => ?_⟩
          rw [if_pos hlt'] at hp
          obtain ⟨h1, h2⟩ := hp.1 (by simp)
          exact ⟨h1, fun _ => h2, (fun h => by cases h)⟩
        | false =>
          have hlt' : ¬ dp < d + 1 := by simpa using hB
          refine ⟨top + 1, 0, (fun h => by cases h), fun _ => ⟨rfl, rfl⟩, fun W h => (hMk W h).mono fun e w' hp => ?_⟩
          rw [if_neg hlt'] at hp
          obtain ⟨h1, h2, h3⟩ := hp.2 rfl
          rw [hf3] at h2
          exact ⟨h1, (fun h => by cases h), fun _ => ⟨h2, h3⟩⟩
      obtain ⟨X, E, hXT, hXF, hMk1⟩ := hMk'
      have hDD : ∀ W, (B = true → TabAt W T M dp (top + 1) (nn + 1) f1) → (B = false → TabAt W T M dp (top + 1 + 1) (nn + 1 + 1) f3) → Calls Try.prog 19 #[.pointer (some ⟨T, 0, none⟩), .int .u64 (top : Nat)] W fun e w' => e = .returned (.int .i64 (d : Nat)) ∧ Below W.heap.size W w' := by
        cases B with
        | true => exact fun W h1 _ => hDp1 W (h1 rfl)
        | false => exact fun W _ h2 => hDp3 W (h2 rfl)
      have kE : ((E : Int) == 2) = B := by cases B with | true => simp [(hXT rfl).2] | false => simp [(hXF rfl).2]
      have kD : ((d : Int) == (dp : Int)) = B := by
        rw [← hB]
        by_cases e : d = dp
        · subst e; simp
        · have : ¬ dp < d + 1 := by omega
          simp [this]; omega
      have kB : (B != B) = false := by cases B <;> rfl
      have HB := Lib.hid hB
      have HTop := Lib.hid htop
      have HI := Lib.hid hi
      clear hB hMk hf3 htop
      go_upto_if 77 with (first
        | (go_at_call 18; refine hFix.mono ?_; rintro e w4 ⟨rfl, h4, ht4⟩)
        | (go_at_call 17; refine (hMk1 _ h4).mono ?_; rintro e w5 ⟨rfl, hT5, hF5⟩)
        | (go_at_call 19; refine (hDD _ (fun hB => h4.below (hT5 hB)) (fun hB => (hF5 hB).1)).mono ?_; rintro e w6 ⟨rfl, hb6⟩))
      clear hMk1 hDD hDp1 hDp3 hFix kD kB
      go_cut [11, 12] (fun s11 s12 wx => s12 = .int .i64 0 ∧ s11 = .int .u64 ((top + 1 : Nat) : Int) ∧ ChSt w wx T M dp (top + 1) size)
      case first =>
        cases B with
        | true =>
          obtain ⟨rfl, rfl⟩ := hXT rfl
          have h6 := (h4.below (hT5 rfl)).below hb6
          have hb6w : Below w.heap.size w w6 := (((ht4.toBelow hbw hT0 hM0 hbw.size).trans ((hT5 rfl).mono (Nat.le_trans hbw.size ht4.size))).trans (hb6.mono (Nat.le_trans (Nat.le_trans hbw.size ht4.size) (hT5 rfl).size)))
          clear hXT hXF hT5 hF5
          go_wp2_with (first
            | (go_at_call 20; refine (hAl _ h6).mono ?_; rintro e w7 ⟨rfl, h7, ht7⟩)
            | (go_at_call 17; refine (hMk4 _ h7).mono ?_; rintro e w8 ⟨rfl, h8, ht8⟩))
          go_meet
          have hb7 := ht7.toBelow hb6w hT0 hM0 hb6w.size
          exact ⟨rfl, rfl, 2, _, f5, h8, by omega, C5, by omega, by omega, hf50, hwf5, ht8.toBelow hb7 hT0 hM0 hb7.size⟩
        | false =>
          obtain ⟨rfl, rfl⟩ := hXF rfl
          obtain ⟨h5, ht5⟩ := hF5 rfl
          clear hXT hXF hT5 hF5
          go_wp2_with fail
          go_meet
          have hb4 := ht4.toBelow hbw hT0 hM0 hbw.size
          have hb5 := ht5.toBelow hb4 hT0 hM0 hb4.size
          have hdd : ¬ dp < d + 1 := by have := HB.out; simpa using this
          exact ⟨rfl, rfl, d + 1, _, f3, h5.below hb6, by omega, C3, by omega, by omega, hf30, hwf3, hb5.trans (hb6.mono hb5.size)⟩
      case rest =>
        clear C3 C5 hf30 hf50 hwf3 hwf5 hAl hMk4 hXT hXF hT5 hF5 hb6 h4 ht4 hbw kE HB hd1 hd2 hn hst
        obtain ⟨rfl, rfl, hst⟩ := hcut
        obtain ⟨d', n', f', hT', hn', hC', hd1', hd2', hf0', hwf', hbw'⟩ := hst
        have hL := chain_ChI (bb := size - 1) hC' hd1' hd2' (by omega) (by omega)
        have hdp' := deep_ChI hC' hf0' hd1' hd2'
        have hLl : ((List.range d').map fun k => (top + 1 - k, size - 1)).length = d' := by simp
        have hCh := fun (W : World) (h : TabAt W T M dp (top + 1 + 1) n' f') => chain_row (id := top + 1) (b := size - 1) _ hL (by simp; omega) h hwf' (by omega) (by omega) (by omega) (by omega) (by omega)
        have hDp := fun (W : World) (h : TabAt W T M dp (top + 1 + 1) n' f') => deep_any T M dp (top + 1 + 1) n' (top + 1) f' W h hwf' (by omega) (by omega)
        rw [hLl] at hCh
        rw [hdp'] at hDp
        have hget : ∀ k, k < d' → (plcs ((List.range d').map fun k => (top + 1 - k, size - 1)))[2 * k]? = some (.int .u64 ((top + 1 - k : Nat) : Int)) ∧ (plcs ((List.range d').map fun k => (top + 1 - k, size - 1)))[2 * k + 1]? = some (.int .i64 (size - 1)) := fun k hk => by
          have h := plcs_get ((List.range d').map fun k => (top + 1 - k, size - 1)) k (by simp; omega)
          simpa using h
        generalize plcs ((List.range d').map fun k => (top + 1 - k, size - 1)) = PL at *
        have k1 : ((d' : Int) != (d' : Int)) = false := by simp
        have k2 : decide (dp < d') = false := by simp; omega
        clear hL hdp' hLl
        go_wp2_with (first
          | (go_at_call 21; refine (hCh _ hT').mono ?_; rintro e w9 ⟨g, c9, rfl, hc9, ho9, hb9⟩)
          | (go_at_call 19; refine (hDp _ (hT'.below hb9)).mono ?_; rintro e w10 ⟨rfl, hb10⟩))
        have o10 := own_below ho9 hb10
        have hT10 := (hT'.below hb9).below hb10
        have hbw10 : Below w.heap.size w w10 := hbw'.trans ((hb9.trans (hb10.mono hb9.size)).mono hbw'.size)
        have hcl : ∀ k, k < d' → w10.cell? ⟨g, k * 2, none⟩ = some (.int .u64 ((top + 1 - k : Nat) : Int)) ∧ w10.cell? ⟨g, k * 2 + 1, none⟩ = some (.int .i64 (size - 1)) := fun k hk => by
          rw [Nat.mul_comm k 2, o10.cellAt (2 * k) (by omega), o10.cellAt (2 * k + 1) (by omega)]
          exact hget k hk
        have hdc : (d' : Int) ≤ (c9 : Int) := by omega
        have HST := Lib.hid (show ChSt w w10 T M dp (top + 1) size from ⟨d', n', f', hT10, hn', hC', hd1', hd2', hf0', hwf', hbw10⟩)
        have hdt : d' ≤ top + 1 := hC'.1
        clear hget hCh hDp ho9 hb9 hb10 o10 hT10 hT' hbw'
        go_loopg [14] (d' - 1) (fun g2 s14 wx => ∃ (k q : Nat), s14 = .int .i64 (k : Nat) ∧ 1 ≤ k ∧ k ≤ d' ∧ g2 = d' - k ∧ wx = w10.drewN q)
        case atStart => exact ⟨1, 0, rfl, by omega, hd1', rfl, rfl⟩
        case round =>
          obtain ⟨k, q, rfl, hk1, hk2, rfl, rfl⟩ := hrel
          by_cases hkd : k < d'
          · obtain ⟨y0, y1⟩ := hcl k hkd
            obtain ⟨z0, _⟩ := hcl (k - 1) (by omega)
            have hge : ¬ ((top + 1 - (k - 1)) ≤ (top + 1 - k)) := by omega
            generalize top + 1 - k = P1 at *
            generalize top + 1 - (k - 1) = P0 at *
            have hge' : P1 < P0 := by omega
            clear hge
            clear hcl
            have w1' : IntKind.i64.wrap ((k : Int) - 1) = ((k - 1 : Nat) : Int) := by rw [IntWalk.i64_in _ (by omega)]; omega
            have w2' : IntKind.i64.wrap (size - 1) = size - 1 := IntWalk.i64_in _ (by omega)
            have j1 : (k : Int) < (d' : Int) := by omega
            have j2 : ((k - 1 : Nat) : Int) < (d' : Int) := by omega
            generalize k - 1 = k' at *
            go_wp2_with fail
            go_quiet (fail)
            go_wp2
            go_roundg (d' - (k + 1))
            case measure => omega
            case rel => exact ⟨k + 1, q + nq, by go_num, by omega, by omega, rfl, rfl⟩
          · have hkd' : ¬ (k : Int) < (d' : Int) := by omega
            clear hcl
            go_wp2
            go_roundg (300 - (i + 1))
            case measure => omega
            case rel =>
              have h10 := HST.out
              obtain ⟨d9, n9, f9, h91, h92, h93, h94, h95, h96, h97, h98⟩ := h10
              exact ⟨i + 1, top + 1, rfl, by go_num, by go_num, by rw [HTop.out], by omega, d9, n9, f9, h91.drewN q, h92, h93, h94, h95, h96, h97, below_drewN h98 q⟩
    · obtain ⟨_, _, _, _, _, _, _, _, _, _, hbw⟩ := hst
      go_wp2
      go_ret
      exact ⟨rfl, hbw⟩
end Go.Proofs.Ytppfjdohajomoaa
