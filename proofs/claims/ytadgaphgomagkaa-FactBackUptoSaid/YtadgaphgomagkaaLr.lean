/- FactBits: the walk. -/
import Derived.Test.YtadgaphgomagkaaLq
import Derived.Test.YtadgaphgomagkaaLi
import Derived.Test.YtadgaphgomagkaaKr
namespace Go.Proofs.Ytadgaphgomagkaa
open Go.RowKit
set_option maxHeartbeats 8000000
set_option maxRecDepth 100000

theorem flipF : ∀ (o : Fin 256) (r : Fin 8), (bits .xor .u8 (o.val : Int) (2 ^ r.val % 256) == ((o.val ^^^ 2 ^ r.val : Nat) : Int) && decide (o.val ^^^ 2 ^ r.val < 256) && (o.val ^^^ 2 ^ r.val != o.val)) = true := by decide +kernel
theorem flip8 (old : UInt8) (r : Nat) (hr : r < 8) : ∃ y : UInt8, bits .xor .u8 (old.toNat : Int) (2 ^ r % 256) = (y.toNat : Int) ∧ old ≠ y := by
  have h := flipF ⟨old.toNat, old.toNat_lt⟩ ⟨r, hr⟩
  simp only [Bool.and_eq_true, beq_iff_eq, decide_eq_true_eq, bne_iff_ne] at h
  refine ⟨UInt8.ofNat (old.toNat ^^^ 2 ^ r), ?_, fun e => h.2 ?_⟩
  · rw [h.1.1, UInt8.toNat_ofNat', Nat.mod_eq_of_lt h.1.2]
  · rw [← Nat.mod_eq_of_lt h.1.2, ← UInt8.toNat_ofNat', ← e]
theorem bld_le (block : Nat) : ∀ (l : List FM) (now : List UInt8) (fst : ByteArray) (out ix : List UInt8), (∀ f ∈ l, f.k.size ≤ 1024) → fst.size ≤ 1024 →
    (bld block l now fst out ix).1.length + (bld block l now fst out ix).2.length ≤ out.length + now.length + ix.length + (l.map fun f => (encF f).length).sum + l.length * 1100
  | [], now, fst, out, ix, _, _ => by
    simp only [bld, List.map_nil, List.sum_nil, List.length_nil]
    omega
  | f :: r, now, fst, out, ix, h, hf => by
    have h1 : (if now = [] then f.k else fst).size ≤ 1024 := by
      split
      · exact h f (by simp)
      · exact hf
    have h2 : ∀ g ∈ r, g.k.size ≤ 1024 := fun g hg => h g (by simp [hg])
    unfold bld
    split
    · have ih := bld_le block r [] (if now = [] then f.k else fst) (out ++ sumB (now ++ encF f)) (ix ++ (lenB (strB (if now = [] then f.k else fst)) ++ numB ((now ++ encF f).length + 4))) h2 h1
      have h3 := lenB_le (strB (if now = [] then f.k else fst))
      have h4 := (numF_length 9 ((now ++ encF f).length + 4)).1
      have h5 := sumB_length (now ++ encF f)
      rw [strB_length] at h3
      have h6 : (numB ((now ++ encF f).length + 4)).length = (numF 9 ((now ++ encF f).length + 4)).length := rfl
      simp only [List.length_append, List.length_nil, List.map_cons, List.sum_cons, List.length_cons] at ih h4 h5 h6 ⊢
      omega
    · have ih := bld_le block r (now ++ encF f) (if now = [] then f.k else fst) out ix h2 h1
      simp only [List.length_append, List.map_cons, List.sum_cons, List.length_cons] at ih ⊢
      omega
theorem encs_le (l : List FM) : (l.map fun f => (encF f).length).sum ≤ sizeF l + l.length * 40 := by
  induction l with
  | nil => simp
  | cons f r ih =>
    have := encF_le f
    simp only [sizeF, List.map_cons, List.sum_cons, List.length_cons] at ih ⊢
    omega
/-- a table's size -/
theorem buildR_le (l : List FM) (block : Int) (most : Nat) (h : fewF l (most : Int) = true) (h4 : most ≤ 400) : (buildR l block).1.length ≤ 1000000 := by
  simp only [fewF, Bool.and_eq_true, decide_eq_true_eq] at h
  obtain ⟨h1, h2⟩ := h
  unfold buildR
  split
  · simp
  · split
    · simp
    · split
      · simp
      · rename_i hlo
        have hk : ∀ f ∈ l, f.k.size ≤ 1024 := fun f hf => by
          have h0 : ¬ longF f = true := fun h => hlo (List.any_eq_true.2 ⟨f, hf, h⟩)
          simp only [longF, Bool.or_eq_true, decide_eq_true_eq, not_or] at h0
          omega
        have h3 := bld_le block.toNat l [] ⟨#[]⟩ [] [] hk (by decide)
        have h5 := encs_le l
        have h6 := sumB_length (bld block.toNat l [] ⟨#[]⟩ [] []).2
        simp only [tabB, List.length_append, footB, lowB_length, List.length_nil] at h3 ⊢
        omega
theorem buildR_pos (l : List FM) (block : Int) (h : (buildR l block).2 = 0) : 12 ≤ (buildR l block).1.length := by
  unfold buildR at h ⊢
  split
  · rename_i h1; rw [if_pos h1] at h; cases h
  · rename_i h1
    rw [if_neg h1] at h
    split
    · rename_i h2; rw [if_pos h2] at h; cases h
    · rename_i h2
      rw [if_neg h2] at h
      split
      · rename_i h3; rw [if_pos h3] at h; cases h
      · simp only [tabB, List.length_append, footB, lowB_length]
        omega
theorem factBits_any (w : World) (A : Option Addr) (c : Nat) (l : List FM) (block at_ : Int) (cut : Bool) (hr : Rd w A (fcells l)) (hok : ∀ f ∈ l, f.ok w) (hl : l.length ≤ 1048576) (hat : -9223372036854775808 ≤ at_ ∧ at_ ≤ 9223372036854775807) :
    Calls Try.prog 6 #[.slice A l.length c, .int .i64 block, .int .i64 at_, .bool cut] w fun e w' => e = .returned (.bool true) ∧ Below w.heap.size w w' := by
  go_enter Try.func6, Try.ntmps6
  go_wp2_with fail
  refine (known11_any w).mono ?_
  rintro e w1 ⟨rfl, hb1⟩
  have hr1 := hr.below hb1
  have hok1 := fun f hf => (hok f hf).below hb1
  have hfew := few_any A c l 60 w1 hr1 hok1 hl
  have hbl := fun h => buildR_le l block 60 h (by decide)
  rw [show ((60 : Nat) : Int) = 60 from rfl] at hbl
  generalize fewF l 60 = fw at *
  go_wp2_with fail
  refine hfew.mono ?_
  rintro e w2 ⟨rfl, hb2⟩
  clear hfew
  have hb02 := hb1.trans (hb2.mono hb1.size)
  have hr2 := hr1.below hb2
  have hok2 := fun f hf => (hok1 f hf).below hb2
  clear hr hok hr1 hok1 hb1 hb2
  cases fw with
  | false =>
    go_wp2_with fail
    go_ret
    exact ⟨rfl, hb02⟩
  | true =>
    replace hbl := hbl rfl
    have hri := refRight_any A c l w2 hr2 hl
    generalize rightF l = rf at *
    go_wp2_with fail
    refine hri.mono ?_
    rintro e w3 ⟨rfl, hb3⟩
    clear hri
    have hb03 := hb02.trans (hb3.mono hb02.size)
    have hr3 := hr2.below hb3
    have hok3 := fun f hf => (hok2 f hf).below hb3
    clear hr2 hok2 hb02 hb3
    cases rf with
    | false =>
      go_wp2_with fail
      go_ret
      exact ⟨rfl, hb03⟩
    | true =>
      by_cases hblk : block < 1 ∨ 1048576 < block
      · rcases hblk with h1 | h1
        · go_wp2_with fail
          go_ret
          exact ⟨rfl, hb03⟩
        · have h2 : ¬ block < 1 := by omega
          go_wp2_with fail
          go_ret
          exact ⟨rfl, hb03⟩
      · have h1 : ¬ block < 1 := by omega
        have h2 : ¬ 1048576 < block := by omega
        have hbu := fbuild_any A c l block w3 hr3 hok3 hl
        have hbp := buildR_pos l block
        clear hblk
        generalize buildR l block = R at *
        obtain ⟨b, er⟩ := R
        simp only at hbl hbp
        go_wp2_with fail
        refine hbu.mono ?_
        rintro e w4 ⟨A4, c4, rfl, ho4, hb4⟩
        clear hbu
        have hb04 := hb03.trans (hb4.mono hb03.size)
        have hb03' := hb03
        simp only at ho4 ⊢
        by_cases her : er = 0
        · subst her
          replace hbp := hbp rfl
          obtain ⟨g, cap, hv, hg1, hg2⟩ := ho4.form (by omega)
          injection hv with e1 _ e2
          subst e1 e2
          have hc4 := (own_cap ho4).1
          clear hr3 hok3 hb03 h1 h2
          generalize hbn : b.length = n at *
          go_upto_region 8 with fail
          go_cut [2] (fun s2 wx => ∃ T : Int, s2 = .int .i64 T ∧ -(8 * (n : Int)) < T ∧ T < 8 * (n : Int) ∧ w4 = wx)
          case first =>
            by_cases hneg : 0 ≤ at_
            · obtain ⟨a, rfl⟩ : ∃ a : Nat, at_ = (a : Int) := ⟨at_.toNat, by omega⟩
              obtain ⟨i, hi⟩ : ∃ i, a % (8 * n) = i := ⟨_, rfl⟩
              have hin : i < 8 * n := by rw [← hi]; exact Nat.mod_lt _ (by omega)
              have hi' : (a : Int) % (8 * (n : Int)) = (i : Int) := by rw [← hi]; push_cast; rfl
              clear hi
              go_wp2_with fail
              go_meet
              exact ⟨i, rfl, by omega, by omega, rfl⟩
            · obtain ⟨a, ha⟩ : ∃ a : Nat, at_ = -(a : Int) := ⟨(-at_).toNat, by omega⟩
              subst ha
              obtain ⟨i, hi⟩ : ∃ i, a % (8 * n) = i := ⟨_, rfl⟩
              have hin : i < 8 * n := by rw [← hi]; exact Nat.mod_lt _ (by omega)
              have hi' : (-(a : Int)).tmod (8 * (n : Int)) = -(i : Int) := by
                rw [Int.neg_tmod, Int.tmod_eq_emod_of_nonneg (by omega), ← hi]
                push_cast
                rfl
              have hw : IntKind.i64.wrap (-(i : Int)) = -(i : Int) := IntWalk.i64_in _ (by omega)
              clear hi
              go_wp2_with fail
              go_meet
              exact ⟨-(i : Int), rfl, by omega, by omega, rfl⟩
          case rest =>
          obtain ⟨T, rfl, hT1, hT2, rfl⟩ := hcut
          go_upto_if 47 with fail
          go_cut [2] (fun s2 wx => ∃ i : Nat, s2 = .int .i64 (i : Nat) ∧ i < 8 * n ∧ w4 = wx)
          case first =>
            by_cases hneg : T < 0
            · obtain ⟨i, hi⟩ : ∃ i : Nat, T + 8 * (n : Int) = (i : Int) := ⟨(T + 8 * (n : Int)).toNat, by omega⟩
              have hw2 : IntKind.i64.wrap (T + 8 * (n : Int)) = (i : Int) := by rw [IntWalk.i64_in _ (by omega)]; exact hi
              go_wp2_with fail
              go_meet
              exact ⟨i, rfl, by omega, rfl⟩
            · obtain ⟨i, rfl⟩ : ∃ i : Nat, T = (i : Int) := ⟨T.toNat, by omega⟩
              go_wp2_with fail
              go_meet
              exact ⟨i, rfl, by omega, rfl⟩
          case rest =>
          obtain ⟨i, rfl, hin, rfl⟩ := hcut
          obtain ⟨j, hj⟩ : ∃ j, i / 8 = j := ⟨_, rfl⟩
          have hjn : j < n := by omega
          have hj' : (i : Int) / 8 = (j : Int) := by omega
          clear hj
          go_upto_if 53 with fail
          go_cut [9] (fun s9 wx => ∃ b2 : List UInt8, s9 = .slice (some ⟨g, 0, none⟩) b2.length c4 ∧ Rd wx (some ⟨g, 0, none⟩) (byts b2) ∧ b2.length ≤ n ∧ Below w.heap.size w wx ∧ g < wx.heap.size)
          case first =>
            cases cut with
            | true =>
              have hjc : (j : Int) ≤ (c4 : Int) := by omega
              go_wp2_with fail
              go_meet
              have hlt : (b.take j).length = j := by rw [List.length_take]; omega
              refine ⟨b.take j, by rw [hlt], ?_, by omega, hb04, hg2⟩
              have := (Rd.of_own ho4).take j
              simpa [byts, List.map_take] using this
            | false =>
              have hcell : w4.cell? ⟨g, j, none⟩ = some (byt (b[j]'(by omega))) := by
                rw [ho4.cellAt j (by omega), byts_get _ _ (by omega)]
              have hfro : w4.frozen? ⟨g, j, none⟩ = false := ho4.frozenAt j
              unfold byt at hcell
              have hb8 : (b[j]'(by omega)).toNat < 256 := UInt8.toNat_lt _
              generalize hold : b[j]'(by omega) = old at *
              obtain ⟨y, hy, hne⟩ := flip8 old (i % 8) (Nat.mod_lt _ (by omega))
              clear hne hold
              go_wp2_with fail
              go_meet
              have hs := ho4.stored j (byt y)
              rw [show (byts b).set j (byt y) = byts (b.set j y) from (List.map_set ..).symm] at hs
              refine ⟨b.set j y, by rw [List.length_set, hbn], Rd.of_own hs.1, by rw [List.length_set, hbn]; exact Nat.le_refl _, hb04.setCell (Nat.le_trans hb03'.size hg1) _, by simpa [World.setCell] using hg2⟩
          case rest =>
          obtain ⟨b2, rfl, hr5, hb2n, hb05, hg5⟩ := hcut
          have hro := refOpen_any (some ⟨g, 0, none⟩) c4 b2 wc hr5 (by omega) (by omega) fun ad h => by injection h with h; subst h; exact hg5
          have hpo := fun W (hW : Below wc.heap.size wc W) => open_any (some ⟨g, 0, none⟩) c4 b2 W (hr5.below hW) (by omega) (by omega) fun ad h => by injection h with h; subst h; exact Nat.lt_of_lt_of_le hg5 hW.size
          have hok := refOpenP_ok b2
          clear hr5 ho4 hbp
          generalize refOpenP b2 = RR at *
          generalize openP b2 = RP at *
          obtain ⟨e1, L1⟩ := RR
          go_wp2_with fail
          refine hro.mono ?_
          rintro e w6 ⟨hb6, x6, rfl⟩
          have hpo := hpo w6 hb6
          have hb06 := hb05.trans (hb6.mono hb05.size)
          clear hro hb6
          simp only at hok ⊢
          go_wp2_with fail
          refine hpo.mono ?_
          rintro e w7 ⟨hb7, h7⟩
          have hb07 := hb06.trans (hb7.mono hb06.size)
          clear hpo
          rcases h7 with ⟨hne, rfl⟩ | ⟨h0, gt, At, ct, Lt, rfl, _⟩
          · have k1 : ((RP.1 : Int) != 0) = true := by simpa using hne
            by_cases he1 : e1 = 0
            · subst he1
              go_wp2_with fail
              go_ret
              exact ⟨rfl, hb07⟩
            · have k2 : ((e1 : Int) == 0) = false := by simpa using he1
              go_wp2_with fail
              go_ret
              exact ⟨rfl, hb07⟩
          · obtain rfl : e1 = 0 := hok h0
            go_wp2_with fail
            go_ret
            exact ⟨rfl, hb07⟩
        · have k1 : ((er : Int) != 0) = true := by simpa using her
          go_wp2_with fail
          go_ret
          exact ⟨rfl, hb04⟩
end Go.Proofs.Ytadgaphgomagkaa
