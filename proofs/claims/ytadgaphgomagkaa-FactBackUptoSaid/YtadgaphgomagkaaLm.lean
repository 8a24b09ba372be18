/- The reference: a block's facts. -/
import Derived.Test.YtadgaphgomagkaaLl
import Derived.Deep.DeepCutAuto
namespace Go.Proofs.Ytadgaphgomagkaa
open Go.RowKit
set_option maxHeartbeats 8000000
set_option maxRecDepth 100000

/-- where a slice begins, p places on -/
def dropA (A : Option Addr) (c p : Nat) : Option Addr := if c = p then A else A.map (·.add p)
theorem dropA_eq {A : Option Addr} {n c p : Nat} (h : c = p) : Value.slice A (n - p) 0 = .slice (dropA A c p) (n - p) (c - p) := by
  rw [dropA, if_pos h, show c - p = 0 by omega]
theorem dropA_ne {A : Option Addr} {n c p : Nat} (h : ¬ c = p) : Value.slice (A.map (·.add p)) (n - p) (c - p) = .slice (dropA A c p) (n - p) (c - p) := by
  rw [dropA, if_neg h]
theorem dropA_lt {A : Option Addr} {c p B : Nat} (h : ∀ ad, A = some ad → ad.block < B) : ∀ ad, dropA A c p = some ad → ad.block < B := by
  intro ad e
  unfold dropA at e
  split at e
  · exact h ad e
  · cases A with
    | none => simp at e
    | some a =>
      simp only [Option.map_some, Option.some.injEq] at e
      subst e
      rw [add_block]
      exact h a rfl
theorem Rd.dropA {w : World} {A : Option Addr} {l : List UInt8} {c p : Nat} (h : Rd w A (byts l)) (hc : l.length ≤ c) : Rd w (dropA A c p) (byts (l.drop p)) := by
  have := h.drop p c (by rw [byts_length]; exact hc)
  rw [show (byts l).drop p = byts (l.drop p) by simp [byts]] at this
  exact this
def RFactsPost (w : World) (R : List FV × Bool) (e : Ending) (w' : World) : Prop :=
  Below w.heap.size w w' ∧ ((R.2 = true ∨ R.1 = []) ∧ (∃ x, e = .returned (.tuple #[x, .bool false])) ∨ R.2 = false ∧ R.1 ≠ [] ∧ ∃ A' c' L, e = .returned (.tuple #[.slice A' L.length c', .bool true]) ∧ L.map FM.fv = R.1 ∧ Facts w' w.heap.size A' c' L)
theorem refFacts_any (A : Option Addr) (c : Nat) (l : List UInt8) (w : World) (hr : Rd w A (byts l)) (hc : l.length ≤ c) (hl : l.length ≤ 1099511627776) (hA : ∀ ad, A = some ad → ad.block < w.heap.size) :
    Calls Try.prog 76 #[.slice A l.length c] w (RFactsPost w (facP l)) := by
  have hst := facR_start l
  generalize facP l = R at *
  go_enter Try.func76, Try.ntmps76
  go_wp2_with fail
  go_loopg [0, 4, 5, 6, 7, 8, 9] l.length (fun m s0 s4 s5 s6 s7 s8 s9 wr => ∃ (lr : List UInt8) (A1 : Option Addr) (c1 : Nat) (L : List FM) (oA : Option Addr) (oc : Nat), m = lr.length ∧ s0 = .slice A1 lr.length c1 ∧ s4 = .slice oA L.length oc ∧ Rd wr A1 (byts lr) ∧ lr.length ≤ c1 ∧ (∀ ad, A1 = some ad → ad.block < w.heap.size) ∧ Facts wr w.heap.size oA oc L ∧ Below w.heap.size w wr ∧ facR (L.map FM.fv) lr false R ∧ L.length + lr.length ≤ l.length)
  case atStart => exact ⟨l, A, c, [], none, 0, rfl, rfl, rfl, hr, hc, hA, Facts.nil _ _, Below.refl _ _, hst, by simp⟩
  case round =>
    clear hst hr hc hA
    obtain ⟨lr, A1, c1, L, oA, oc, rfl, rfl, rfl, hr, hc, hA, hF, hb, hrr, hlen⟩ := hrel
    by_cases hlt : lr = []
    · subst hlt
      have hE := facR_end hrr (.inl rfl)
      subst hE
      clear hrr hlen
      by_cases h0 : L = []
      · subst h0
        go_wp2_with fail
        go_ret2
        exact ⟨hb, .inl ⟨.inr rfl, _, rfl⟩⟩
      · have k0 : decide (0 < L.length) = true := by have := List.length_pos_iff.2 h0; simpa using this
        go_wp2_with fail
        go_ret2
        exact ⟨hb, .inr ⟨rfl, by simpa using h0, oA, oc, L, rfl, rfl, hF⟩⟩
    · have d0 : (0 : Int) < (lr.length : Int) := by have := List.length_pos_iff.2 hlt; omega
      obtain ⟨f, r, b, hf⟩ := fac1_eta lr
      have hrr := facR_step hrr hlt hf
      have hll := fac1_less lr
      rw [hf] at hll
      simp only at hll
      have h1 := refReadBytes_any A1 c1 lr 1024 wr hr (by omega) hc (by decide) (by decide)
      have hp1 := rdBytes_le 1024 lr
      have hk1 := rdBytes_most 1024 lr
      rw [show ((1024 : Nat) : Int) = 1024 from rfl] at hk1
      obtain ⟨hf1, hfx⟩ := Prod.mk.inj (show ((⟨(rdBytes 1024 lr).1, (rdNum (lr.drop (rdBytes 1024 lr).2.1)).1, (rdBytes 1048576 ((lr.drop (rdBytes 1024 lr).2.1).drop (rdNum (lr.drop (rdBytes 1024 lr).2.1)).2.1)).1⟩ : FV), _) = (f, (r, b)) from hf)
      obtain ⟨hf2, hf3⟩ := Prod.mk.inj hfx
      clear hf hfx
      generalize rdBytes 1024 lr = N1 at *
      obtain ⟨k, p1, e1⟩ := N1
      simp only at *
      go_wp2_with fail
      refine h1.mono ?_
      rintro e w1 ⟨kA, kc, k', rfl, rfl, hk, rfl⟩
      clear h1
      by_cases he1 : e1 = 0
      · subst he1
        go_upto_region 6 with fail
        go_cut [0] (fun s0 wx => s0 = .slice (dropA A1 c1 p1) (lr.length - p1) (c1 - p1) ∧ wr = wx)
        case first =>
          go_wp2_with fail
          · go_meet
            exact ⟨dropA_eq (by assumption), rfl⟩
          · go_meet
            exact ⟨dropA_ne (by assumption), rfl⟩
        case rest =>
        obtain ⟨rfl, rfl⟩ := hcut
        have hr2 := Rd.dropA (p := p1) hr hc
        have hA2 := dropA_lt (c := c1) (p := p1) hA
        have hl2 : (lr.drop p1).length = lr.length - p1 := List.length_drop
        have hc2 : (lr.drop p1).length ≤ c1 - p1 := by omega
        have hbd2 : (lr.drop p1).length ≤ 1099511627776 := by omega
        rw [← hl2]
        have HL2 := Lib.hid hl2
        clear hl2
        generalize dropA A1 c1 p1 = A2 at *
        generalize c1 - p1 = c2 at *
        have h2 := refReadNumber_any A2 c2 (lr.drop p1) wr hr2 (Nat.le_trans hbd2 (by decide))
        have hp2 := rdNum_le (lr.drop p1)
        have hs1 := rdNum_lt (lr.drop p1)
        generalize lr.drop p1 = l2 at *
        generalize rdNum l2 = N2 at *
        obtain ⟨s, p2, e2⟩ := N2
        simp only at *
        clear hr hA
        go_wp2_with fail
        refine h2.mono ?_
        rintro e w1 ⟨rfl, rfl⟩
        clear h2
        by_cases he2 : e2 = 0
        · subst he2
          go_upto_region 10 with fail
          go_cut [0] (fun s0 wx => s0 = .slice (dropA A2 c2 p2) (l2.length - p2) (c2 - p2) ∧ wr = wx)
          case first =>
            go_wp2_with fail
            · go_meet
              exact ⟨dropA_eq (by assumption), rfl⟩
            · go_meet
              exact ⟨dropA_ne (by assumption), rfl⟩
          case rest =>
          obtain ⟨rfl, rfl⟩ := hcut
          have hr3 := Rd.dropA (p := p2) hr2 hc2
          have hA3 := dropA_lt (c := c2) (p := p2) hA2
          have hl3 : (l2.drop p2).length = l2.length - p2 := List.length_drop
          have hc3 : (l2.drop p2).length ≤ c2 - p2 := by omega
          have hbd3 : (l2.drop p2).length ≤ 1099511627776 := by omega
          rw [← hl3]
          have HL3 := Lib.hid hl3
          clear hl3
          generalize dropA A2 c2 p2 = A3 at *
          generalize c2 - p2 = c3 at *
          have h3 := refReadBytes_any A3 c3 (l2.drop p2) 1048576 wr hr3 (Nat.le_trans hbd3 (by decide)) hc3 (by decide) (by decide)
          have hp3 := rdBytes_le 1048576 (l2.drop p2)
          have hv1 := rdBytes_most 1048576 (l2.drop p2)
          rw [show ((1048576 : Nat) : Int) = 1048576 from rfl] at hv1
          generalize l2.drop p2 = l3 at *
          generalize rdBytes 1048576 l3 = N3 at *
          obtain ⟨v, p3, e3⟩ := N3
          simp only at *
          clear hr2 hA2
          go_wp2_with fail
          refine h3.mono ?_
          rintro e w1 ⟨vA, vc, v', rfl, rfl, hv, rfl⟩
          clear h3
          by_cases he3 : e3 = 0
          · subst he3
            go_upto_region 14 with fail
            go_cut [0] (fun s0 wx => s0 = .slice (dropA A3 c3 p3) (l3.length - p3) (c3 - p3) ∧ wr = wx)
            case first =>
              go_wp2_with fail
              · go_meet
                exact ⟨dropA_eq (by assumption), rfl⟩
              · go_meet
                exact ⟨dropA_ne (by assumption), rfl⟩
            case rest =>
            obtain ⟨rfl, rfl⟩ := hcut
            have hr4 := Rd.dropA (p := p3) hr3 hc3
            have hA4 := dropA_lt (c := c3) (p := p3) hA3
            have hl4 : (l3.drop p3).length = l3.length - p3 := List.length_drop
            have hc4 : (l3.drop p3).length ≤ c3 - p3 := by omega
            have hbd4 : (l3.drop p3).length ≤ 1099511627776 := by omega
            rw [← hl4]
            have HL4 := Lib.hid hl4
            clear hl4
            generalize dropA A3 c3 p3 = A4 at *
            generalize c3 - p3 = c4 at *
            generalize l3.drop p3 = l4 at *
            subst hf1 hf2
            have hb0 : b = false := by rw [← hf3]; rfl
            subst hb0
            replace hll := hll rfl
            have HRR := Lib.hid hrr
            clear hrr hf3 hr3 hA3
            go_wp2_with fail
            refine regRfacts15 hF.drew hb.size hk hv (by omega) (by show k'.length ≤ 1048576; omega) hs1 hv1 ?_
            intro w2 _ _ _ _ _ _ _ _ _ _ A9 c9 f9 hf9 hF9 hb9
            have hr9 := hr4.under hb9 hA4
            go_wp2_with fail
            go_roundg l4.length
            case measure => exact hll
            case rel =>
              refine ⟨l4, A4, c4, L ++ [f9], A9, c9, rfl, rfl, by rw [List.length_append]; rfl, hr9, hc4, hA4, hF9, hb.trans hb9, ?_, ?_⟩
              · rw [List.map_append, List.map_cons, List.map_nil, hf9]; exact HRR.out
              · rw [List.length_append]; simp only [List.length_singleton]; omega
          · have hb0 : b = true := by rw [← hf3]; simp [he3]
            subst hb0
            have hE := facR_end hrr (.inr rfl)
            have k1 : ((e3 : Int) != 0) = true := by simpa using he3
            clear hrr hf3
            go_wp2_with fail
            go_ret2
            subst hE
            exact ⟨hb, .inl ⟨.inl rfl, _, rfl⟩⟩
        · have hb0 : b = true := by rw [← hf3]; simp [he2]
          subst hb0
          have hE := facR_end hrr (.inr rfl)
          have k1 : ((e2 : Int) != 0) = true := by simpa using he2
          clear hrr hf3
          go_wp2_with fail
          go_ret2
          subst hE
          exact ⟨hb, .inl ⟨.inl rfl, _, rfl⟩⟩
      · have hb0 : b = true := by rw [← hf3]; simp [he1]
        subst hb0
        have hE := facR_end hrr (.inr rfl)
        have k1 : ((e1 : Int) != 0) = true := by simpa using he1
        clear hrr hf3
        go_wp2_with fail
        go_ret2
        subst hE
        exact ⟨hb, .inl ⟨.inl rfl, _, rfl⟩⟩
end Go.Proofs.Ytadgaphgomagkaa
