/- The law FrameBack: its walk. -/
import Derived.Test.YtppfjdohajomoaaGv
import Derived.Test.YtppfjdohajomoaaFq
import Derived.Test.YtppfjdohajomoaaFu
import Derived.Test.YtppfjdohajomoaaFz
import Derived.Test.YtppfjdohajomoaaPf
import Derived.Deep.DeepCutAuto
import Derived.Deep.QuietTactic
import Derived.BigQuiet
import Derived.Deep.RegionLaw
namespace Go.Proofs.Ytppfjdohajomoaa
open Go.RowKit
set_option maxHeartbeats 100000000
set_option maxRecDepth 100000

theorem frameBack_any (A B : Option Addr) (c d v s1 : Nat) (size r1 h1 z1 : Int) (x b : List UInt8) (w : World) (hx : Rd w A (byts x)) (hxc : x.length ≤ c) (hb : Rd w B (byts b)) (hbd : b.length ≤ d) (hv : v < 18446744073709551616) (hs1 : s1 < 18446744073709551616) :
    Calls Try.prog 12 #[.int .u64 v, .slice A x.length c, .int .i64 size, .agg #[.int .u64 s1, .int .i64 r1, .int .i64 h1, .int .i64 z1], .slice B b.length d] w
      fun e w' => e = .returned (.bool true) ∧ Below w.heap.size w w' := by
  by_cases hlx : 65536 < x.length
  · have g1 : (65536 : Int) < (x.length : Int) := by omega
    clear hlx
    go_enter Try.func12, Try.ntmps12
    go_wp2_with (go_at_call 22; refine (known_any _).mono ?_; rintro e w1 ⟨rfl, hb1⟩; obtain ⟨hbw1, B1⟩ := one_blk hb1; clear hb1)
    go_ret
    exact ⟨rfl, hbw1⟩
  by_cases hlb : 65536 < b.length
  · have g1 : (65536 : Int) < (b.length : Int) := by omega
    have g2 : ¬ (65536 : Int) < (x.length : Int) := by omega
    clear hlb hlx
    go_enter Try.func12, Try.ntmps12
    go_wp2_with (go_at_call 22; refine (known_any _).mono ?_; rintro e w1 ⟨rfl, hb1⟩; obtain ⟨hbw1, B1⟩ := one_blk hb1; clear hb1)
    go_ret
    exact ⟨rfl, hbw1⟩
  have g1 : ¬ (65536 : Int) < (x.length : Int) := by omega
  have g2 : ¬ (65536 : Int) < (b.length : Int) := by omega
  have hxl : x.length ≤ 65536 := by omega
  have hbl : b.length ≤ 65536 := by omega
  clear hlx hlb
  -- the contracts
  have hRl : (recB v x).length ≤ 65600 := by
    have := (numF_length 9 x.length).1
    unfold recB numB
    simp only [List.length_append, lowB_length]
    omega
  have hR : ∀ W : World, Below w.heap.size w W → Calls Try.prog 33 #[.int .u64 v, .slice A x.length c] W fun e w' => ∃ A'' c'', e = .returned (.slice A'' (recB v x).length c'') ∧ Rd w' A'' (byts (recB v x)) ∧ (recB v x).length ≤ c'' ∧ Below W.heap.size W w' := fun W hW =>
    (record_any A c v x W (hx.below hW) (by omega) hxc hv).mono fun e w' h => by
      obtain ⟨A'', c'', out, he, rfl, ho, hb⟩ := h
      exact ⟨A'', c'', he, Rd.of_own ho, (own_cap ho).1, hb⟩
  have hRD : ∀ (W : World) (A' : Option Addr) (c' : Nat), Rd W A' (byts (recB v x ++ b)) → (recB v x).length + b.length ≤ c' → Calls Try.prog 54 #[.slice A' ((recB v x).length + b.length) c'] W fun e w' => ∃ A'' c'', e = .returned (.tuple #[.int .u64 (v : Nat), .slice A'' x.length c'', .int .i64 ((recB v x).length : Nat), .int .i64 0]) ∧ Rd w' A'' (byts x) ∧ Below W.heap.size W w' := fun W A' c' h1 h2 => by
    have h := readRecord_any A' c' (recB v x ++ b) W h1 (by rw [List.length_append]; omega) (by rw [List.length_append]; omega)
    rw [show rdRec (recB v x ++ b) = (v, x, (recB v x).length, 0) from rdRec_recB v hv x b hxl, List.length_append] at h
    exact h.mono fun e w' h => by
      obtain ⟨A'', c'', out, he, rfl, ho, hb⟩ := h
      exact ⟨A'', c'', he, Rd.of_own ho, hb⟩
  generalize recB v x = R at *
  have hP : ∀ W : World, Below w.heap.size w W → Calls Try.prog 26 #[.int .i64 size, .agg #[.int .u64 s1, .int .i64 r1, .int .i64 h1, .int .i64 z1], .slice A x.length c] W fun e w' => ∃ A'' c'', e = .returned (.tuple #[.slice A'' (pageR size r1 h1 s1 x).1.length c'', .int .i64 ((pageR size r1 h1 s1 x).2 : Nat)]) ∧ Rd w' A'' (byts (pageR size r1 h1 s1 x).1) ∧ (pageR size r1 h1 s1 x).1.length ≤ c'' ∧ Below W.heap.size W w' := fun W hW =>
    (page_any A c s1 size r1 h1 z1 x W (hx.below hW) hxc hs1).mono fun e w' h => by
      obtain ⟨A'', c'', out, he, rfl, ho, hb⟩ := h
      exact ⟨A'', c'', he, Rd.of_own ho, (own_cap ho).1, hb⟩
  have hPok : (pageR size r1 h1 s1 x).2 = 0 → ((pageR size r1 h1 s1 x).1.length : Int) = size ∧ ∃ rn hn : Nat, r1 = (rn : Int) ∧ h1 = (hn : Int) ∧ rdPage (roomN ((pageR size r1 h1 s1 x).1.length : Nat)) (pageR size r1 h1 s1 x).1 = ((s1, rn, hn, x.length), x, 0) := by
    intro h
    unfold pageR at h ⊢
    by_cases h3 : roomN size = 0 ∨ r1 < 0 ∨ 1073741824 < r1 ∨ h1 < 0 ∨ 255 < h1
    · rw [if_pos h3] at h; simp at h
    rw [if_neg h3] at h ⊢
    by_cases h4 : roomN size < (x.length : Int)
    · rw [if_pos h4] at h; simp at h
    rw [if_neg h4]
    have h5 : 32 ≤ size ∧ size ≤ 65536 ∧ roomN size = size - 19 := by
      unfold roomN at h3 ⊢
      by_cases a : size < 32
      · rw [if_pos a] at h3; simp at h3
      · rw [if_neg a] at h3 ⊢
        by_cases a' : 65536 < size
        · rw [if_pos a'] at h3; simp at h3
        · rw [if_neg a']; omega
    have hl : (pageB s1 r1.toNat h1.toNat x size.toNat).length = size.toNat := pageB_length _ _ _ _ _ (by omega)
    refine ⟨by simp only [hl]; omega, r1.toNat, h1.toNat, by omega, by omega, ?_⟩
    simp only [hl]
    rw [show ((size.toNat : Nat) : Int) = size by omega]
    exact rdPage_pageB _ _ _ _ _ _ (by omega) (by omega) (by omega) (by omega) hs1 (by omega) (by omega)
  generalize pageR size r1 h1 s1 x = PR at *
  obtain ⟨PG, k⟩ := PR
  simp only at hP hPok
  have hRP : k = 0 → ∀ (W : World) (A'' : Option Addr) (c'' : Nat), Rd W A'' (byts PG) → PG.length ≤ c'' → Calls Try.prog 56 #[.slice A'' PG.length c''] W fun e w' => ∃ A' c', e = .returned (.tuple #[.agg #[.int .u64 (s1 : Nat), .int .i64 r1, .int .i64 h1, .int .i64 (x.length : Nat)], .slice A' x.length c', .int .i64 0]) ∧ Rd w' A' (byts x) ∧ Below W.heap.size W w' := fun hk W A'' c'' h2 h3 => by
    have h := readPage_any A'' c'' PG W h2 h3
    obtain ⟨_, rn, hn, e1, e2, e3⟩ := hPok hk
    rw [e3] at h
    subst e1 e2
    exact h.mono fun e w' h => by
      obtain ⟨A'', c'', out, he, rfl, ho, hb⟩ := h
      exact ⟨A'', c'', he, Rd.of_own ho, hb⟩
  have hPl : k = 0 → (PG.length : Int) = size := fun h => (hPok h).1
  clear hPok
  have hRPb : ∀ W : World, Below w.heap.size w W → Calls Try.prog 56 #[.slice B b.length d] W (RdPagePost W (rdPage (roomN b.length) b)) := fun W hW => readPage_any B d b W (hb.below hW) hbd
  have hPb : (rdPage (roomN b.length) b).2.2 = 0 → ∀ (W : World) (A' : Option Addr) (c' : Nat) (z : Int), Rd W A' (byts (rdPage (roomN b.length) b).2.1) → (rdPage (roomN b.length) b).2.1.length ≤ c' →
      Calls Try.prog 26 #[.int .i64 (b.length : Nat), .agg #[.int .u64 ((rdPage (roomN b.length) b).1.1 : Nat), .int .i64 ((rdPage (roomN b.length) b).1.2.1 : Nat), .int .i64 ((rdPage (roomN b.length) b).1.2.2.1 : Nat), .int .i64 z], .slice A' (rdPage (roomN b.length) b).2.1.length c'] W fun e w' =>
        ∃ A'' c'', e = .returned (.tuple #[.slice A'' b.length c'', .int .i64 0]) ∧ Rd w' A'' (byts b) ∧ Below W.heap.size W w' := fun hk W A' c' z h2 h3 => by
    have hroom0 : roomN b.length ≠ 0 := by
      intro h0
      rw [h0] at hk
      unfold rdPage at hk
      simp at hk
    have h5 : 32 ≤ b.length ∧ roomN b.length = (b.length : Int) - 19 := by
      unfold roomN at hroom0 ⊢
      by_cases a : (b.length : Int) < 32
      · rw [if_pos a] at hroom0; simp at hroom0
      · rw [if_neg a] at hroom0 ⊢
        rw [if_neg (by omega)]; omega
    obtain ⟨b1, b2, b3, b4, b5, b6, b7⟩ := rdPage_back h5.2 (by omega) hk
    have h := page_any A' c' (rdPage (roomN b.length) b).1.1 (b.length : Nat) ((rdPage (roomN b.length) b).1.2.1 : Nat) ((rdPage (roomN b.length) b).1.2.2.1 : Nat) z (rdPage (roomN b.length) b).2.1 W h2 h3 b1
    rw [show pageR (b.length : Nat) ((rdPage (roomN b.length) b).1.2.1 : Nat) ((rdPage (roomN b.length) b).1.2.2.1 : Nat) (rdPage (roomN b.length) b).1.1 (rdPage (roomN b.length) b).2.1 = (b, 0) from by
      unfold pageR
      rw [if_neg (by omega), if_neg (by omega)]
      simp only [Int.toNat_natCast]
      rw [b7]] at h
    exact h.mono fun e w' h => by
      obtain ⟨A'', c'', out, he, rfl, ho, hb⟩ := h
      exact ⟨A'', c'', he, Rd.of_own ho, hb⟩
  generalize rdPage (roomN b.length) b = PB at *
  obtain ⟨⟨k1', k2, k3, k4⟩, Y, kb⟩ := PB
  unfold RdPagePost at hRPb
  simp only at hRPb hPb
  have hC : ∀ W : World, Below w.heap.size w W → Calls Try.prog 54 #[.slice B b.length d] W (RecPost W (rdRec b)) := fun W hW => readRecord_any B d b W (hb.below hW) (by omega) hbd
  have hCb : (rdRec b).2.2.2 = 0 → (rdRec b).2.2.1 ≤ b.length ∧ ∀ (W : World) (A' : Option Addr) (c' : Nat), Rd W A' (byts (rdRec b).2.1) → (rdRec b).2.1.length ≤ c' → Calls Try.prog 33 #[.int .u64 ((rdRec b).1 : Nat), .slice A' (rdRec b).2.1.length c'] W fun e w' =>
      ∃ A'' c'', e = .returned (.slice A'' (b.take (rdRec b).2.2.1).length c'') ∧ Rd w' A'' (byts (b.take (rdRec b).2.2.1)) ∧ Below W.heap.size W w' := fun hk => by
    obtain ⟨b1, b2, b3, b4⟩ := rdRec_back hk
    refine ⟨b3, fun W A' c' h2 h3 => ?_⟩
    have h := record_any A' c' (rdRec b).1 (rdRec b).2.1 W h2 (by omega) h3 b2
    rw [show recB (rdRec b).1 (rdRec b).2.1 = b.take (rdRec b).2.2.1 from b4] at h
    exact h.mono fun e w' h => by
      obtain ⟨A'', c'', out, he, rfl, ho, hb⟩ := h
      exact ⟨A'', c'', he, Rd.of_own ho, hb⟩
  generalize rdRec b = RC at *
  obtain ⟨n6, X2, n7, n8⟩ := RC
  unfold RecPost at hC
  simp only at hC hCb
  have hN : ∀ W : World, Below w.heap.size w W → Calls Try.prog 50 #[.slice B b.length d] W fun e w' => e = .returned (.tuple #[.int .u64 ((rdNum b).1 : Nat), .int .i64 ((rdNum b).2.1 : Nat), .int .i64 ((rdNum b).2.2 : Nat)]) ∧ W = w' := fun W hW => readNumber_any B d b W (hb.below hW) (by omega)
  have hNb : (rdNum b).2.2 = 0 → (rdNum b).2.1 ≤ b.length ∧ ∀ (W : World), Calls Try.prog 28 #[.slice none 0 0, .int .u64 ((rdNum b).1 : Nat)] W fun e w' =>
      ∃ A'' c'', e = .returned (.slice A'' (b.take (rdNum b).2.1).length c'') ∧ Rd w' A'' (byts (b.take (rdNum b).2.1)) ∧ Below W.heap.size W w' := fun hk => by
    obtain ⟨b1, b2, b3, b4⟩ := rdNum_ok hk
    refine ⟨b2, fun W => ?_⟩
    have h := number_any none 0 (rdNum b).1 [] W Rd.none_ (by simp) (by simp) b4
    rw [List.nil_append, rdNum_back hk] at h
    exact h.mono fun e w' h => by
      obtain ⟨A'', c'', he, ho, hb⟩ := h
      exact ⟨A'', c'', he, Rd.of_own ho, hb⟩
  generalize rdNum b = RN at *
  obtain ⟨m1, m2, m3⟩ := RN
  simp only at hN hNb
  have hsm : ∀ (X : List UInt8) (W : World) (A' B' : Option Addr) (c' d' : Nat), Rd W A' (byts X) → Rd W B' (byts X) → Calls Try.prog 27 #[.slice A' X.length c', .slice B' X.length d'] W fun e w' => e = .returned (.bool true) ∧ W = w' := fun X W A' B' c' d' h1 h2 => by
    have := same_any A' B' c' d' X X W h1 h2
    rwa [show (X == X) = true from by simp] at this
  have q1 : ((v : Int) != (v : Int)) = false := by simp
  have HXL := Lib.hid (byts_length x)
  have HRLb := Lib.hid (byts_length R)
  have HBL := Lib.hid (byts_length b)
  go_enter Try.func12, Try.ntmps12
  go_upto_region 9 with (first
    | (go_at_call 22; refine (known_any _).mono ?_; rintro e w1 ⟨rfl, hb1⟩; obtain ⟨hbw1, B1⟩ := one_blk hb1; clear hb1)
    | (go_at_call 27; refine (hsm x _ _ _ _ _ hr5 (hx.below hbw5)).mono ?_; rintro e w' ⟨rfl, rfl⟩)
    | (go_at_call 54; refine (hRD _ _ _ hr4 hc4).mono ?_; rintro e w5 ⟨A5, c5, rfl, hr5, hb5⟩; have hbw5 := hbw4.trans (hb5.mono hbw4.size); have B5 := B1.below' (hb24.trans (hb5.mono hb24.size)))
    | (at_builtin; have _h := hb3; refine wpList_app _ rfl _ _ rfl slB w2.heap.size (.slice A3 R.length c3) R.length (byts R) rfl ho3 B b.length d (byts b) rfl (by rw [HBL.out, Nat.mul_one]) (hb.below hbw3) (byts_one b) (by unfold maxLen; omega) (by omega) hb3.size ?_; intro A4 c4 w4 ho4 hg4; have hc4 := (own_cap ho4).1; have hr4 := Rd.of_own ho4; rw [← byts_append] at hr4; have hb4 := hg4.toBelow hb3.size (fun g hg => (ho3.lt g hg).1); have hb24 : Below w2.heap.size w2 w4 := hb3.trans hb4; have hbw4 := hbw2.trans (hb24.mono hbw2.size))
    | (at_builtin; refine wpList_app _ rfl _ _ rfl slB w2.heap.size (.slice (some ⟨w2.heap.size, 0, none⟩) 0 0) 0 [] rfl (World.ownsRow_made w2 #[] 0 (Nat.le_refl _) (by unfold maxLen; omega) rfl) A2 R.length c2 (byts R) rfl (by rw [HRLb.out, Nat.mul_one]) (hr2.alloc _) (byts_one R) (by unfold maxLen; omega) (by omega) (by simp) ?_; intro A3 c3 w3 ho3' hg3; obtain ⟨ho3, hb3, hr3, hc3, hz3⟩ := app_empty ho3' hg3; have hbw3 := hbw2.trans (hb3.mono hbw2.size); clear ho3' hg3)
    | (go_at_call 33; refine (hR _ hbw1).mono ?_; rintro e w2 ⟨A2, c2, rfl, hr2, hc2, hb2⟩; have hbw2 := hbw1.trans (hb2.mono hbw1.size); have B1 := B1.below' hb2))
  have hz5 : w.heap.size < w5.heap.size := by have := B5.lt; omega
  go_upto_if 74 with (first
    | ((with_reducible show wpList _ _ _ (Oper.mk _ (Op.load _ _) _ _ _ _ :: _) _ _); refine wpList_ld rfl 46 _ rfl stHead' w.heap.size rfl _ _ B5 rfl ?_)
    | (go_at_call 26; refine (hP _ hbw5).mono ?_; rintro e w6 ⟨A6, c6, rfl, hr6, hc6, hb6⟩; have hbw6 := hbw5.trans (hb6.mono hbw5.size); have B6 := B5.below' hb6))
  clear hR hRD hP
  go_cut [] (fun wx => Below w.heap.size w wx)
  case first =>
    by_cases hk : k = 0
    · have k1 : ((k : Int) == 0) = true := by simp [hk]
      have hRPk := hRP hk
      have k2 : ((PG.length : Int) != size) = false := by simp [hPl hk]
      clear hRP hPl hk
      go_wp2_with (first
        | (go_at_call 27; refine (hsm x _ _ _ _ _ (hr7.alloc _) (hx.below hbw7a)).mono ?_; rintro e w' ⟨rfl, rfl⟩)
        | (go_at_call 56; refine (hRPk _ _ _ hr6 hc6).mono ?_; rintro e w7 ⟨A7, c7, rfl, hr7, hb7⟩; have hbw7 := hbw6.trans (hb7.mono hbw6.size); have B7 := B6.below' hb7; have hz7 : w.heap.size < w7.heap.size := B7.lt; have e0 : w7.cell? ⟨w.heap.size, 0, none⟩ = some (.int .u64 (s1 : Nat)) := B7.cell 0; have e1 : w7.cell? ⟨w.heap.size, 1, none⟩ = some (.int .i64 r1) := B7.cell 1; have e2 : w7.cell? ⟨w.heap.size, 2, none⟩ = some (.int .i64 h1) := B7.cell 2; have hbw7a := hbw7.alloc hbw7.size (.cells #[.int .u64 (s1 : Nat), .int .i64 r1, .int .i64 h1, .int .i64 (x.length : Nat)] 46)))
      go_meet
      exact hbw7a
    · have k1 : ((k : Int) == 0) = false := by simp [hk]
      clear hRP hPl hk
      go_wp2_with fail
      go_meet
      exact hbw6
  case rest =>
  clear hb5 B5 hr5 hbw5 hz5
  have hsm2 := hsm b
  have hsm3 := hsm (b.take n7)
  have hsm4 := hsm (b.take m2)
  clear hsm
  have hbc := hcut
  clear hcut
  have hrc := hb.below hbc
  clear hPl hRP
  go_upto_if 115 with (first
    | (go_at_call 56; refine (hRPb _ hbc).mono ?_; rintro e w8 ⟨A8, c8, o8, rfl, rfl, ho8, hb8⟩; have hbw8 := hbc.trans (hb8.mono hbc.size); have hc8 := (own_cap ho8).1))
  go_cut [] (fun wx => Below w.heap.size w wx)
  case first =>
    have hr8 := Rd.of_own ho8
    by_cases hk : kb = 0
    · have k1 : ((kb : Int) == 0) = true := by simp [hk]
      have hPbk := hPb hk
      have hbw8a := hbw8.alloc hbw8.size (.cells #[.int .u64 (k1' : Nat), .int .i64 (k2 : Nat), .int .i64 (k3 : Nat), .int .i64 (k4 : Nat)] 46)
      have B8 := Blk.new w8 46 #[.int .u64 (k1' : Nat), .int .i64 (k2 : Nat), .int .i64 (k3 : Nat), .int .i64 (k4 : Nat)]
      clear hPb hk
      go_wp2_with (first
        | ((with_reducible show wpList _ _ _ (Oper.mk _ (Op.load _ _) _ _ _ _ :: _) _ _); refine wpList_ld rfl 46 _ rfl stHead' w8.heap.size rfl _ _ B8 rfl ?_)
        | (go_at_call 27; refine (hsm2 _ _ _ _ _ hr9 (hb.below hbw9)).mono ?_; rintro e w' ⟨rfl, rfl⟩)
        | (go_at_call 26; refine (hPbk _ _ _ _ (hr8.alloc _) hc8).mono ?_; rintro e w9 ⟨A9, c9, rfl, hr9, hb9⟩; have hbw9 := hbw8a.trans (hb9.mono hbw8a.size)))
      go_meet
      exact hbw9
    · have k1 : ((kb : Int) == 0) = false := by simp [hk]
      clear hPb hk
      go_wp2_with fail
      go_meet
      exact hbw8.alloc hbw8.size _
  case rest =>
  clear hbc hrc
  have hbc := hcut
  clear hcut hPb
  have hrc := hb.below hbc
  go_upto_region 20 with (first
    | (go_at_call 54; refine (hC _ hbc).mono ?_; rintro e w10 ⟨A10, c10, o10, rfl, rfl, ho10, hb10⟩; have hbw10 := hbc.trans (hb10.mono hbc.size); have hc10 := (own_cap ho10).1))
  go_cut [150] (fun s wx => s = .bool false ∧ Below w.heap.size w wx)
  case first =>
    rename_i K1 c1 K2 c2 J K' c3 c4
    have H3 := Lib.hid c3
    have H4 := Lib.hid c4
    clear c1 c2 c3 c4
    have hr10 := (Rd.of_own ho10).drew
    have hbw10' := hbw10.drew
    by_cases hk : n8 = 0
    · obtain ⟨hle, hCbk⟩ := hCb hk
      subst hk
      have hTl : (b.take n7).length = n7 := by rw [List.length_take]; omega
      have hTr := hb.take n7
      have hTr' : Rd w B (byts (b.take n7)) := by simpa [byts] using hTr
      clear hTr
      generalize b.take n7 = T at *
      simp only [hTl] at hCbk hsm3
      have hnd : (n7 : Int) ≤ (d : Int) := by omega
      clear hCb hTl hN hNb
      go_region_law (first
        | (go_simp; go_at_call 33; (refine (hCbk w10.drew _ _ hr10 hc10).mono ?_); rintro e w11 ⟨A11, c11, rfl, hr11, hb11⟩; have hbw11 := hbw10'.trans (hb11.mono hbw10'.size))
        | (go_simp; go_at_call 27; (refine (hsm3 _ _ _ _ _ hr11 (hTr'.below hbw11)).mono ?_); rintro e w' ⟨rfl, rfl⟩))
      all_goals (have c3 := H3.out; have c4 := H4.out; clear H3 H4; (simp only [List.getElem_toArray, List.getElem_cons_succ, List.getElem_cons_zero]); go_simp; go_wp2_with fail; go_meet; exact ⟨rfl, hbw11⟩)
    · have k1 : ((n8 : Int) == 0) = false := by simp [hk]
      clear hCb hk hN hNb
      go_quiet (fail)
      have c3 := H3.out
      have c4 := H4.out
      clear H3 H4
      go_wp2_with fail
      go_meet
      exact ⟨rfl, below_drewN hbw10 _⟩
  case rest =>
  clear hbc hrc
  obtain ⟨rfl, hbc⟩ := hcut
  clear hCb hC hsm3
  have hrc := hb.below hbc
  go_upto_region 23 with (first
    | (go_at_call 50; refine (hN _ hbc).mono ?_; rintro e w12 ⟨rfl, rfl⟩))
  go_cut [10] (fun s wx => s = .bool true ∧ Below w.heap.size w wx)
  case first =>
    rename_i K2 c2 J K' c3 c4
    have H3 := Lib.hid c3
    have H4 := Lib.hid c4
    clear c2 c3 c4
    have hbc' := hbc.drew
    by_cases hk : m3 = 0
    · obtain ⟨hle, hNbk⟩ := hNb hk
      subst hk
      have hTl : (b.take m2).length = m2 := by rw [List.length_take]; omega
      have hTr := hb.take m2
      have hTr' : Rd w B (byts (b.take m2)) := by simpa [byts] using hTr
      clear hTr
      generalize b.take m2 = T at *
      simp only [hTl] at hNbk hsm4
      have hnd : (m2 : Int) ≤ (d : Int) := by omega
      clear hNb hTl hN
      go_region_law (first
        | (go_simp; go_at_call 28; (refine (hNbk wc.drew).mono ?_); rintro e w11 ⟨A11, c11, rfl, hr11, hb11⟩; have hbw11 := hbc'.trans (hb11.mono hbc'.size))
        | (go_simp; go_at_call 27; (refine (hsm4 _ _ _ _ _ hr11 (hTr'.below hbw11)).mono ?_); rintro e w' ⟨rfl, rfl⟩))
      all_goals (have c3 := H3.out; have c4 := H4.out; clear H3 H4; (simp only [List.getElem_toArray, List.getElem_cons_succ, List.getElem_cons_zero]); go_simp; go_wp2_with fail; go_meet; exact ⟨rfl, hbw11⟩)
    · have k1 : ((m3 : Int) != 0) = true := by simp [hk]
      clear hNb hk hN
      go_quiet (fail)
      have c3 := H3.out
      have c4 := H4.out
      clear H3 H4
      go_wp2_with fail
      go_meet
      exact ⟨rfl, below_drewN hbc _⟩
  case rest =>
  obtain ⟨rfl, hbc2⟩ := hcut
  go_wp2
  go_ret
  exact ⟨rfl, hbc2⟩
end Go.Proofs.Ytppfjdohajomoaa
