/- The law MediumApart: its walk. -/
import Derived.Test.YtppfjdohajomoaaMr
import Derived.Test.YtppfjdohajomoaaMh
import Derived.Deep.QuietTactic
import Derived.BigQuiet
import Derived.Deep.LoopGhost
namespace Go.Proofs.Ytppfjdohajomoaa
open Go.RowKit
set_option maxHeartbeats 4000000
set_option maxRecDepth 100000

/-- acts as cells -/
def MAct.cells (x : MAct) : List Value := [.int .i64 x.op, .int .u64 (x.a : Nat), .int .i64 x.n, .int .i64 x.at_, .bool x.bare]
def acs (l : List MAct) : List Value := l.flatMap MAct.cells
theorem acs_length (l : List MAct) : (acs l).length = l.length * 5 := by
  induction l with
  | nil => rfl
  | cons p l ih => simp only [acs, List.flatMap_cons, List.length_append, List.length_cons, MAct.cells, List.length_nil] at ih ⊢; omega
theorem acs_get : ∀ (l : List MAct) (k : Nat) (h : k < l.length) (j : Nat) (_ : j < 5), (acs l)[k * 5 + j]? = (l[k].cells)[j]?
  | [], k, h, _, _ => by simp at h
  | p :: l, 0, _, j, hj => by
    have : (acs (p :: l)) = p.cells ++ acs l := by simp [acs]
    rw [this, List.getElem?_append_left (by simp [MAct.cells]; omega)]
    simp
  | p :: l, k + 1, h, j, hj => by
    have : (acs (p :: l)) = p.cells ++ acs l := by simp [acs]
    rw [this, List.getElem?_append_right (by simp [MAct.cells]; omega), show (k + 1) * 5 + j - p.cells.length = k * 5 + j by simp [MAct.cells]; omega, acs_get l k (by simpa using h) j hj]
    simp

theorem add_off (a : Addr) (i j : Nat) (hj : j ≠ 0) : a.add (i + j) = ⟨(a.add i).block, (a.add i).off + j, none⟩ := by
  have h : ∀ x : Addr, x.add j = ⟨x.block, x.off + j, none⟩ := fun x => by simp [Addr.add, hj]
  rw [← add_add', h]
theorem Rd.act {w : World} {ad : Addr} {l : List MAct} (h : ∀ j u, (acs l)[j]? = some u → w.cell? (ad.add j) = some u) (i : Nat) (hi : i < l.length) :
    w.cell? (ad.add (i * 5)) = some (.int .i64 l[i].op) ∧ w.cell? ⟨(ad.add (i * 5)).block, (ad.add (i * 5)).off + 1, none⟩ = some (.int .u64 (l[i].a : Nat)) ∧ w.cell? ⟨(ad.add (i * 5)).block, (ad.add (i * 5)).off + 2, none⟩ = some (.int .i64 l[i].n) ∧
      w.cell? ⟨(ad.add (i * 5)).block, (ad.add (i * 5)).off + 3, none⟩ = some (.int .i64 l[i].at_) ∧ w.cell? ⟨(ad.add (i * 5)).block, (ad.add (i * 5)).off + 4, none⟩ = some (.bool l[i].bare) := by
  have g := fun j u hj hu => h (i * 5 + j) u (by rw [acs_get l i hi j hj]; exact hu)
  refine ⟨g 0 _ (by omega) rfl, ?_, ?_, ?_, ?_⟩
  · rw [← add_off _ _ _ (by omega)]; exact g 1 _ (by omega) rfl
  · rw [← add_off _ _ _ (by omega)]; exact g 2 _ (by omega) rfl
  · rw [← add_off _ _ _ (by omega)]; exact g 3 _ (by omega) rfl
  · rw [← add_off _ _ _ (by omega)]; exact g 4 _ (by omega) rfl

theorem medNew_bad (depth : Int) (w : World) (h : depth < 1 ∨ 64 < depth) : Calls Try.prog 16 #[.int .i64 depth] w fun e w' => e = .returned (.tuple #[.pointer none, .int .i64 1]) ∧ w = w' := by
  have hd : (depth < 1) ∨ (¬ depth < 1 ∧ 64 < depth) := by omega
  clear h
  rcases hd with h1 | ⟨h1, h2⟩
  all_goals
    go_enter Try.func16, Try.ntmps16
    go_wp2
    go_ret2
    exact ⟨rfl, rfl⟩

/-- the table behind some acts -/
def ApSt (w wr : World) (T M depth i : Nat) (P : (Nat → Option Med) → Prop) : Prop :=
  ∃ f next n, TabAt wr T M depth next n f ∧ WFt f next ∧ 0 < next ∧ next ≤ i + 1 ∧ n ≤ i ∧ Below w.heap.size w wr ∧ P f

theorem Rd.turn2 {w w' : World} {T M : Nat} {A : Option Addr} {xs : List Value} (h : Rd w A xs) (ht : Turn2 T M w w') (hT : ∀ ad, A = some ad → ad.block ≠ T ∧ ad.block ≠ M) : Rd w' A xs := fun hn => by
  obtain ⟨ad, e, hb, hc⟩ := h hn
  refine ⟨ad, e, Nat.lt_of_lt_of_le hb ht.size, fun j u hu => ?_⟩
  obtain ⟨h1, h2⟩ := hT ad e
  rw [World.cell?_of_block (w := w) (ht.block _ (by rw [add_block]; exact hb) (by rw [add_block]; exact h1) (by rw [add_block]; exact h2))]
  exact hc j u hu

theorem chainL_len (f : Nat → Option Med) : ∀ (j : Nat) (c : Option Med) (b : Int), (chainL f j c b).length ≤ j
  | 0, _, _ => by simp [chainL]
  | _ + 1, none, _ => by simp [chainL]
  | j + 1, some x, b => by
    unfold chainL
    split
    · simp only [List.length_cons]
      split
      · simp
      · have := chainL_len f j (f x.tgt) (b + x.at_); omega
    · simp
theorem Rd.plc {w : World} {ad : Addr} {l : List (Nat × Int)} (h : ∀ j u, (plcs l)[j]? = some u → w.cell? (ad.add j) = some u) (k : Nat) (hk : k < l.length) :
    w.cell? (ad.add (k * 2)) = some (.int .u64 ((l[k].1 : Nat) : Int)) ∧ w.cell? ⟨(ad.add (k * 2)).block, (ad.add (k * 2)).off + 1, none⟩ = some (.int .i64 l[k].2) := by
  obtain ⟨h1, h2⟩ := plcs_get l k hk
  rw [Nat.mul_comm] at h1 h2
  exact ⟨h _ _ h1, by rw [← add_off _ _ _ (by omega)]; exact h _ _ h2⟩

theorem mediumApart_any (A B : Option Addr) (c d id : Nat) (depth b : Int) (l more : List MAct) (w : World) (hl : Rd w A (acs l)) (hm : Rd w B (acs more)) (hid : id < 18446744073709551616) (hb0 : -9223372036854775808 ≤ b) (hb1 : b ≤ 9223372036854775807)
    (hla : ∀ x ∈ l, x.a < 18446744073709551616) (hma : ∀ x ∈ more, x.a < 18446744073709551616) :
    Calls Try.prog 7 #[.int .i64 depth, .slice A l.length c, .int .u64 (id : Nat), .int .i64 b, .slice B more.length d] w fun e w' => e = .returned (.bool true) ∧ Below w.heap.size w w' := by
  have hlong : (100 < (l.length : Int)) ∨ (¬ 100 < (l.length : Int) ∧ 100 < (more.length : Int)) ∨ (¬ 100 < (l.length : Int) ∧ ¬ 100 < (more.length : Int)) := by omega
  rcases hlong with h1 | ⟨h1, h2⟩ | ⟨h1, h2⟩
  · go_enter Try.func7, Try.ntmps7
    go_wp2_with (go_at_call 15; refine (medKnown_any _).mono ?_; rintro e w1 ⟨rfl, hb1⟩)
    go_ret
    exact ⟨rfl, hb1⟩
  · go_enter Try.func7, Try.ntmps7
    go_wp2_with (go_at_call 15; refine (medKnown_any _).mono ?_; rintro e w1 ⟨rfl, hb1⟩)
    go_ret
    exact ⟨rfl, hb1⟩
  by_cases hdp : depth < 1 ∨ 64 < depth
  · have hnew := fun W => medNew_bad depth W hdp
    go_enter Try.func7, Try.ntmps7
    go_wp2_with (first
      | (go_at_call 15; refine (medKnown_any _).mono ?_; rintro e w1 ⟨rfl, hb1⟩)
      | (go_at_call 16; refine (hnew _).mono ?_; rintro e w2 ⟨rfl, rfl⟩))
    go_ret
    exact ⟨rfl, hb1⟩
  obtain ⟨dp, rfl⟩ : ∃ d : Nat, depth = (d : Int) := ⟨depth.toNat, by omega⟩
  have d1 : 1 ≤ dp := by omega
  have d2 : dp ≤ 64 := by omega
  have l1 : l.length ≤ 100 := by omega
  have l2 : more.length ≤ 100 := by omega
  clear hdp
  go_enter Try.func7, Try.ntmps7
  go_wp2_with (first
    | (go_at_call 15; refine (medKnown_any _).mono ?_; rintro e w1 ⟨rfl, hb1⟩)
    | (go_at_call 16; refine (medNew_any _ _ (by omega) (by omega)).mono ?_; rintro e w2 ⟨T, M, rfl, h2, hT, hM, hb2⟩))
  have hT0 : w.heap.size ≤ T := Nat.le_trans hb1.size hT
  have hM0 : w.heap.size ≤ M := Nat.le_trans hb1.size hM
  have hst : ApSt w w2 T M dp 0 fun _ => True := ⟨_, 1, 0, h2, (fun _ _ h => by cases h), by omega, by omega, by omega, hb1.trans (hb2.mono hb1.size), trivial⟩
  clear h2 hb1 hb2 hT hM
  go_loopg [13] l.length (fun g s13 wr => ∃ i : Nat, g = l.length - i ∧ s13 = .int .i64 (i : Nat) ∧ i ≤ l.length ∧ ApSt w wr T M dp i fun _ => True)
  case atStart => exact ⟨0, rfl, rfl, by omega, hst⟩
  case round =>
    obtain ⟨i, rfl, rfl, hi, hst⟩ := hrel
    by_cases hlt : i < l.length
    · obtain ⟨f, next, n, hTab, hwf, hn0, hnx, hnn, hbw, _⟩ := hst
      have hla' := hla l[i] (List.getElem_mem hlt)
      have hact := act_any T M dp next n l[i] f wr hTab hwf d2 hla' (by omega) (by omega)
      obtain ⟨ad, rfl, hadb, hcell⟩ := (hl.below hbw) (by intro e; have := acs_length l; rw [e] at this; simp at this; omega)
      obtain ⟨e0, e1, e2, e3, e4⟩ := Rd.act hcell i hlt
      clear hcell
      generalize l[i] = x at *
      obtain ⟨xo, xa, xn, xt, xb⟩ := x
      simp only at e0 e1 e2 e3 e4 hact
      go_wp2_with (go_at_call 29; refine hact.mono ?_; rintro e w3 ⟨rfl, hp⟩)
      obtain ⟨f', next', n', ha, hTab', hn', htt⟩ := hp
      obtain ⟨hwf', hx1, hx2⟩ := hwf.act hn0 ha
      go_roundg (l.length - (i + 1))
      case measure => omega
      case rel => exact ⟨i + 1, rfl, by go_num, by omega, f', next', n', hTab', hwf', by omega, by omega, by omega, htt.toBelow hbw hT0 hM0 hbw.size, trivial⟩
    · obtain ⟨f, next, n, hTab, hwf, hn0, hnx, hnn, hbw, _⟩ := hst
      have hCh := chain_any T M dp next n id b f wr hTab (hwf.wfm (by omega)) d1 d2 hid hb0 hb1
      clear hla hl
      go_wp2_with (go_at_call 21; refine hCh.mono ?_; rintro e w3 ⟨A3, c3, rfl, ho3, hb3⟩)
      have hC0l : (chainP f dp id b).length ≤ dp := chainL_len f dp (f id) b
      have hr3 := Rd.of_own ho3
      have hA3 : ∀ ad, A3 = some ad → ad.block ≠ T ∧ ad.block ≠ M := fun ad h => by
        have h1 := ((own_cap ho3).2.2 ad h).1
        have h2 := hTab.blk.lt
        have h3 := hTab.mp.lt
        exact ⟨by omega, by omega⟩
      have hbw3 := hbw.trans (hb3.mono hbw.size)
      have hst2 : ApSt w w3 T M dp (100 + 0) fun f' => chainP f dp id b ≠ [] → chainP f' dp id b = chainP f dp id b := ⟨f, next, n, hTab.below hb3, hwf, hn0, by omega, by omega, hbw3, fun _ => rfl⟩
      have hc3 := (own_cap ho3).1
      generalize chainP f dp id b = C0 at *
      clear hCh hTab hwf hnx hnn hn0 ho3 hb3 hbw hbw3 hst
      go_loopg [15] more.length (fun g s15 wr => ∃ i : Nat, g = more.length - i ∧ s15 = .int .i64 (i : Nat) ∧ i ≤ more.length ∧ (ApSt w wr T M dp (100 + i) fun f' => C0 ≠ [] → chainP f' dp id b = C0) ∧ Rd wr A3 (plcs C0))
      case atStart => exact ⟨0, rfl, rfl, by omega, hst2, hr3⟩
      case round =>
        clear hst2 hr3
        obtain ⟨wo, rfl⟩ : ∃ wo : World, wo = wr := ⟨_, rfl⟩
        obtain ⟨i2, rfl, rfl, hi2, hst, hr3⟩ := hrel
        by_cases hlt : i2 < more.length
        · obtain ⟨f2, next2, n2, hTab, hwf, hn0, hnx, hnn, hbw, hP⟩ := hst
          have hma' := hma more[i2] (List.getElem_mem hlt)
          obtain ⟨ad, rfl, hadb, hcell⟩ := (hm.below hbw) (by intro e; have := acs_length more; rw [e] at this; simp at this; omega)
          obtain ⟨e0, e1, e2, e3, e4⟩ := Rd.act hcell i2 hlt
          have hact := fun q => act_any T M dp next2 n2 more[i2] f2 (wo.drewN q) (hTab.drewN q) hwf d2 hma' (by omega) (by omega)
          clear hcell
          generalize more[i2] = x at *
          obtain ⟨xo, xa, xn, xt, xb⟩ := x
          simp only at e0 e1 e2 e3 e4 hact
          go_wp2
          go_loopg [16, 17] C0.length (fun g s16 s17 wx => ∃ k q : Nat, g = C0.length - k ∧ s17 = .int .i64 (k : Nat) ∧ s16 = .bool ((C0.take k).any fun p => p.1 == xa) ∧ k ≤ C0.length ∧ wx = wo.drewN q)
          case atStart => exact ⟨0, 0, rfl, rfl, rfl, by omega, rfl⟩
          case round =>
            obtain ⟨k, q, rfl, rfl, rfl, hk, rfl⟩ := hrel
            by_cases hkl : k < C0.length
            · obtain ⟨ad3, rfl, _, hcell3⟩ := hr3 (by intro e; have := plcs_length C0; rw [e] at this; simp at this; omega)
              obtain ⟨y0, _⟩ := Rd.plc hcell3 k hkl
              have hnext : ((C0.take (k + 1)).any fun p => p.1 == xa) = (((C0.take k).any fun p => p.1 == xa) || (C0[k].1 == xa)) := by
                rw [List.take_succ_eq_append_getElem hkl, List.any_append]
                simp
              clear hcell3
              generalize C0[k].1 = ck at *
              have Hnext := Lib.hid hnext
              clear hnext
              have j1 : (k : Int) < (C0.length : Int) := by omega
              have j2 : (i2 : Int) < (more.length : Int) := by omega
              generalize hhb : ((C0.take k).any fun p => p.1 == xa) = hb at *
              clear hhb
              cases hb with
              | true =>
                go_wp2_with fail
                go_quiet (fail)
                go_wp2
                go_roundg (C0.length - (k + 1))
                case measure => omega
                case rel => exact ⟨k + 1, q + nq, rfl, by go_num, by rw [Hnext.out]; rfl, by omega, rfl⟩
              | false =>
                have hkc : ((ck : Int) == (xa : Int)) = (ck == xa) := by
                  rw [Bool.eq_iff_iff]; simp; omega
                generalize (ck == xa) = cx at *
                go_wp2_with fail
                go_quiet (fail)
                go_wp2
                go_roundg (C0.length - (k + 1))
                case measure => omega
                case rel => exact ⟨k + 1, q + nq, rfl, by go_num, by rw [Hnext.out]; rfl, by omega, rfl⟩
            · obtain rfl : k = C0.length := by omega
              rw [List.take_length]
              have j2 : (i2 : Int) < (more.length : Int) := by omega
              have hany : (C0.any fun p => p.1 == xa) = false → ∀ p ∈ C0, p.1 ≠ xa := fun h p hp => by
                have := List.any_eq_false.1 h p hp
                simpa using this
              generalize (C0.any fun p => p.1 == xa) = hb at *
              cases hb with
              | false =>
                have HN := Lib.hid (hany rfl)
                clear hany
                go_wp2_with (go_at_call 29; refine (hact q).mono ?_; rintro e w5 ⟨rfl, hp⟩)
                go_roundg (more.length - (i2 + 1))
                case measure => omega
                case rel =>
                  obtain ⟨f', next', n', ha, hTab', hn', htt⟩ := hp
                  obtain ⟨hwf', hx1, hx2⟩ := hwf.act hn0 ha
                  refine ⟨i2 + 1, rfl, by go_num, by omega, ⟨f', next', n', hTab', hwf', by omega, by omega, by omega, htt.toBelow (below_drewN hbw q) hT0 hM0 hbw.size, fun hne => ?_⟩, (hr3.drewN q).turn2 htt hA3⟩
                  have hch := hP hne
                  rw [← hch] at hne
                  have := chain_act hwf hn0 ha (id := id) (b := b) hne (.inr (by rw [hch]; exact HN.out))
                  rw [this, hch]
              | true =>
                clear hany
                by_cases hxo : xo ≤ 2
                · go_wp2_with (go_at_call 29; refine (hact q).mono ?_; rintro e w5 ⟨rfl, hp⟩)
                  go_roundg (more.length - (i2 + 1))
                  case measure => omega
                  case rel =>
                    obtain ⟨f', next', n', ha, hTab', hn', htt⟩ := hp
                    obtain ⟨hwf', hx1, hx2⟩ := hwf.act hn0 ha
                    refine ⟨i2 + 1, rfl, by go_num, by omega, ⟨f', next', n', hTab', hwf', by omega, by omega, by omega, htt.toBelow (below_drewN hbw q) hT0 hM0 hbw.size, fun hne => ?_⟩, (hr3.drewN q).turn2 htt hA3⟩
                    have hch := hP hne
                    rw [← hch] at hne
                    have := chain_act hwf hn0 ha (id := id) (b := b) hne (.inl hxo)
                    rw [this, hch]
                · go_wp2
                  go_roundg (more.length - (i2 + 1))
                  case measure => omega
                  case rel => exact ⟨i2 + 1, rfl, by go_num, by omega, ⟨f2, next2, n2, hTab.drewN q, hwf, hn0, by omega, by omega, below_drewN hbw q, hP⟩, hr3.drewN q⟩
        · obtain rfl : i2 = more.length := by omega
          obtain ⟨f2, next2, n2, hTab, hwf, hn0, hnx, hnn, hbw, hP⟩ := hst
          have hCh := chain_any T M dp next2 n2 id b f2 wo hTab (hwf.wfm (by omega)) d1 d2 hid hb0 hb1
          by_cases hne : C0 = []
          · have k0 : ((C0.length : Int) == 0) = true := by simp [hne]
            clear hne hP
            go_wp2_with (go_at_call 21; refine hCh.mono ?_; rintro e w6 ⟨A6, c6, rfl, ho6, hb6⟩)
            go_ret
            exact ⟨rfl, hbw.trans (hb6.mono hbw.size)⟩
          · rw [hP hne] at hCh
            have k0 : ((C0.length : Int) == 0) = false := by
              have : C0.length ≠ 0 := by rw [Ne, List.length_eq_zero_iff]; exact hne
              simp; omega
            have k1 : ((C0.length : Int) != (C0.length : Int)) = false := by simp
            clear hne hP
            go_wp2_with (go_at_call 21; refine hCh.mono ?_; rintro e w6 ⟨A6, c6, rfl, ho6, hb6⟩)
            have hr36 := hr3.below hb6
            have hr66 := Rd.of_own ho6
            have hc6 := (own_cap ho6).1
            have hbw6 := hbw.trans (hb6.mono hbw.size)
            clear hTab hCh hr3 ho6 hb6 hbw
            go_loopg [19] C0.length (fun g s19 wx => ∃ k q : Nat, g = C0.length - k ∧ s19 = .int .i64 (k : Nat) ∧ k ≤ C0.length ∧ wx = w6.drewN q)
            case atStart => exact ⟨0, 0, rfl, rfl, by omega, rfl⟩
            case round =>
              obtain ⟨k, q, rfl, rfl, hk, rfl⟩ := hrel
              by_cases hkl : k < C0.length
              · obtain ⟨ad3, rfl, _, hcell3⟩ := hr36 (by intro e; have := plcs_length C0; rw [e] at this; simp at this; omega)
                obtain ⟨ad6, rfl, _, hcell6⟩ := hr66 (by intro e; have := plcs_length C0; rw [e] at this; simp at this; omega)
                obtain ⟨y0, y1⟩ := Rd.plc hcell3 k hkl
                obtain ⟨z0, z1⟩ := Rd.plc hcell6 k hkl
                clear hcell3 hcell6
                have j1 : (k : Int) < (C0.length : Int) := by omega
                generalize C0[k].1 = ck at *
                generalize C0[k].2 = cb at *
                go_wp2_with fail
                go_region
                all_goals
                  go_wp2
                  go_roundg (C0.length - (k + 1))
                  case measure => omega
                  case rel => exact ⟨k + 1, q + 1, rfl, by go_num, by omega, rfl⟩
              · go_wp2
                go_ret
                exact ⟨rfl, below_drewN hbw6 q⟩
end Go.Proofs.Ytppfjdohajomoaa
