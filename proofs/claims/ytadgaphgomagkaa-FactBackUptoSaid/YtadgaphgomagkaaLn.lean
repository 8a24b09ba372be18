/- The reference: an index parts bytes. -/
import Derived.Test.YtadgaphgomagkaaLm
namespace Go.Proofs.Ytadgaphgomagkaa
open Go.RowKit
set_option maxHeartbeats 8000000
set_option maxRecDepth 100000

theorem slIP : SlT Try.prog 117 121 (.agg #[.int .i64 0, .int .i64 0, .string ⟨#[]⟩]) 3 32 := ⟨Try.underlying117, by kernel_rfl, rfl, by decide⟩
/-- a part: where it begins, its bytes' number, its first key -/
structure IP where
  a : Nat
  n : Nat
  k : ByteArray
def IP.cells (f : IP) : List Value := [.int .i64 (f.a : Nat), .int .i64 (f.n : Nat), .string f.k]
def IP.pv (b : List UInt8) (f : IP) : List UInt8 × List UInt8 := (strB f.k, (b.drop f.a).take f.n)
def icells (l : List IP) : List Value := l.flatMap IP.cells
theorem icells_append (a b : List IP) : icells (a ++ b) = icells a ++ icells b := by simp [icells]
/-- parts that are long enough -/
def longP (X : List (List UInt8 × List UInt8)) : Prop := ∀ p ∈ X, 5 ≤ p.2.length
theorem parR_short {L : List (List UInt8 × List UInt8)} {ix b k r : List UInt8} {s : Nat} {R : Option (List (List UInt8 × List UInt8))} (h : parR L ix b R) (hn : ix ≠ []) (hf : par1 ix = ((k, s), r, false)) (hs : s < 5) : ∀ X, R = some X → ¬ longP X := by
  intro X hX hl
  by_cases hb : s ≤ b.length
  · obtain ⟨n, _, e⟩ := parR_step h hn hf hb
    rw [hX] at e
    obtain ⟨Y, _, rfl⟩ := Option.map_eq_some_iff.1 e.symm
    have := hl (k, b.take s) (by simp)
    simp only [List.length_take] at this
    omega
  · have := parR_none h hn hf (.inr (by omega))
    rw [this] at hX
    cases hX
def IdxPost (b : List UInt8) (w : World) (R : Option (List (List UInt8 × List UInt8))) (e : Ending) (w' : World) : Prop :=
  Below w.heap.size w w' ∧ ((∀ X, R = some X → ¬ longP X) ∧ (∃ x, e = .returned (.tuple #[x, .bool false])) ∨ ∃ X, R = some X ∧ longP X ∧ ∃ A' c' L, e = .returned (.tuple #[.slice A' L.length c', .bool true]) ∧ L.map (IP.pv b) = X ∧
    w'.ownsRow w.heap.size 121 3 (.slice A' L.length c') L.length (icells L) ∧ ∀ f ∈ L, f.a + f.n ≤ b.length)
theorem refIndex_any (A : Option Addr) (c n : Nat) (l b : List UInt8) (w : World) (hr : Rd w A (byts l)) (hc : l.length ≤ c) (hl : l.length ≤ 1099511627776) (hA : ∀ ad, A = some ad → ad.block < w.heap.size) (hn : b.length = n) (hbl : n ≤ 1099511627776) :
    Calls Try.prog 75 #[.slice A l.length c, .int .i64 (n : Nat)] w (IdxPost b w (parP l b)) := by
  have hst := parR_start l b
  generalize parP l b = R at *
  go_enter Try.func75, Try.ntmps75
  go_wp2_with fail
  go_loopg [0, 6, 7, 8, 9, 10, 11] l.length (fun m s0 s6 s7 s8 s9 s10 s11 wr => ∃ (lr : List UInt8) (A1 : Option Addr) (c1 : Nat) (L : List IP) (oA : Option Addr) (oc a : Nat), m = lr.length ∧ s0 = .slice A1 lr.length c1 ∧ s6 = .slice oA L.length oc ∧ s7 = .int .i64 (a : Nat) ∧ Rd wr A1 (byts lr) ∧ lr.length ≤ c1 ∧ (∀ ad, A1 = some ad → ad.block < w.heap.size) ∧
    wr.ownsRow w.heap.size 121 3 (.slice oA L.length oc) L.length (icells L) ∧ Below w.heap.size w wr ∧ parR (L.map (IP.pv b)) lr (b.drop a) R ∧ longP (L.map (IP.pv b)) ∧ (∀ f ∈ L, f.a + f.n ≤ n) ∧ a ≤ n ∧ L.length + lr.length ≤ l.length)
  case atStart => exact ⟨l, A, c, [], none, 0, 0, rfl, rfl, rfl, rfl, hr, hc, hA, World.ownsRow_nil _ _ _ _, Below.refl _ _, hst, by simp [longP], by simp, by omega, by simp⟩
  case round =>
    clear hst hr hc hA
    obtain ⟨lr, A1, c1, L, oA, oc, a, rfl, rfl, rfl, rfl, hr, hc, hA, hO, hb, hrr, hlo, hfit, han, hlen⟩ := hrel
    by_cases hlt : lr = []
    · subst hlt
      have hE := parR_end hrr
      clear hrr
      by_cases h0 : a = n
      · have hd : b.drop a = [] := List.drop_eq_nil_of_le (by omega)
        rw [if_pos hd] at hE
        subst hE h0
        go_wp2_with fail
        go_ret2
        exact ⟨hb, .inr ⟨_, rfl, hlo, oA, oc, L, rfl, rfl, hO, by rw [hn]; exact hfit⟩⟩
      · have hd : ¬ b.drop a = [] := by rw [List.drop_eq_nil_iff]; omega
        rw [if_neg hd] at hE
        subst hE
        have k0 : ((a : Int) == (n : Int)) = false := by simp; omega
        go_wp2_with fail
        go_ret2
        exact ⟨hb, .inl ⟨by simp, _, rfl⟩⟩
    · have d0 : (0 : Int) < (lr.length : Int) := by have := List.length_pos_iff.2 hlt; omega
      obtain ⟨k, s, r, bad, hf⟩ := par1_eta lr
      have hrn := fun h => parR_none hrr hlt hf h
      have hrs := fun (h1 : bad = false) h2 => parR_step hrr hlt (show par1 lr = ((k, s), r, false) by rw [hf, h1]) h2
      have hrq := fun (h1 : bad = false) h2 => parR_short hrr hlt (show par1 lr = ((k, s), r, false) by rw [hf, h1]) h2
      have hll := par1_less lr
      rw [hf] at hll
      simp only at hll
      have h1 := refReadBytes_any A1 c1 lr 1024 wr hr (by omega) hc (by decide) (by decide)
      have hp1 := rdBytes_le 1024 lr
      obtain ⟨hfx, hfy⟩ := Prod.mk.inj (show (((rdBytes 1024 lr).1, (rdNum (lr.drop (rdBytes 1024 lr).2.1)).1), _) = ((k, s), (r, bad)) from hf)
      obtain ⟨hf1, hf2⟩ := Prod.mk.inj hfx
      obtain ⟨hf3, hf4⟩ := Prod.mk.inj hfy
      clear hf hfx hfy hrr
      generalize rdBytes 1024 lr = N1 at *
      obtain ⟨k1, p1, e1⟩ := N1
      simp only at *
      subst hf1
      go_wp2_with fail
      refine h1.mono ?_
      rintro e w1 ⟨kA, kc, k', rfl, rfl, hk, rfl⟩
      clear h1
      by_cases he1 : e1 = 0
      · subst he1
        go_upto_region 7 with fail
        go_cut [0] (fun s0 wx => s0 = .slice (dropA A1 c1 p1) (lr.length - p1) (c1 - p1) ∧ wr = wx)
        case first =>
          go_wp2_with fail
          · go_meet
            exact ⟨dropA_eq (by assumption), rfl⟩
          · go_meet
            exact ⟨dropA_ne (by assumption), rfl⟩
        case rest =>
        obtain ⟨rfl, rfl⟩ := hcut
        have hr2 := Rd.dropA (p := p1) hr hc
        have hA2 := dropA_lt (c := c1) (p := p1) hA
        have hl2 : (lr.drop p1).length = lr.length - p1 := List.length_drop
        have hc2 : (lr.drop p1).length ≤ c1 - p1 := by omega
        have hbd2 : (lr.drop p1).length ≤ 1099511627776 := by omega
        rw [← hl2]
        clear hl2
        generalize dropA A1 c1 p1 = A2 at *
        generalize c1 - p1 = c2 at *
        have h2 := refReadNumber_any A2 c2 (lr.drop p1) wr hr2 (Nat.le_trans hbd2 (by decide))
        have hp2 := rdNum_le (lr.drop p1)
        generalize lr.drop p1 = l2 at *
        generalize rdNum l2 = N2 at *
        obtain ⟨s2, p2, e2⟩ := N2
        simp only at *
        subst hf2
        clear hr hA
        go_wp2_with fail
        refine h2.mono ?_
        rintro e w1 ⟨rfl, rfl⟩
        clear h2
        have hq : (b.drop a).length = n - a := by rw [List.length_drop, hn]
        obtain ⟨q, hq2⟩ : ∃ q, n - a = q := ⟨_, rfl⟩
        have w0 : IntKind.i64.wrap ((n : Int) - (a : Int)) = (q : Int) := by rw [IntWalk.i64_in _ (by omega)]; omega
        by_cases he2 : e2 = 0
        · subst he2
          have hb0 : bad = false := by rw [← hf4]; rfl
          subst hb0
          by_cases hsl : s2 ≤ q
          · have k2 : ¬ ((q : Int) < (s2 : Int)) := by omega
            by_cases hs5 : s2 < 5
            · have hE := hrq rfl hs5
              have k3 : ((s2 : Int) < 5) := by omega
              clear hrn hrs hrq hf4 hfit hlo
              go_wp2_with fail
              go_ret2
              exact ⟨hb, .inl ⟨hE, _, rfl⟩⟩
            · replace hrs := hrs rfl (by rw [hq, hq2]; exact hsl)
              replace hll := hll rfl
              have k3 : ¬ ((s2 : Int) < 5) := by omega
              subst hf3
              have HRS := Lib.hid hrs
              clear hrn hrq hf4 hrs
              go_upto_region 11 with fail
              go_cut [0] (fun s0 wx => s0 = .slice (dropA A2 c2 p2) (l2.length - p2) (c2 - p2) ∧ wr = wx)
              case first =>
                go_wp2_with fail
                · go_meet
                  exact ⟨dropA_eq (by assumption), rfl⟩
                · go_meet
                  exact ⟨dropA_ne (by assumption), rfl⟩
              case rest =>
              obtain ⟨rfl, rfl⟩ := hcut
              have hr3 := Rd.dropA (p := p2) hr2 hc2
              have hA3 := dropA_lt (c := c2) (p := p2) hA2
              have hl3 : (l2.drop p2).length = l2.length - p2 := List.length_drop
              have hc3 : (l2.drop p2).length ≤ c2 - p2 := by omega
              rw [← hl3]
              clear hl3
              generalize dropA A2 c2 p2 = A3 at *
              generalize c2 - p2 = c3 at *
              generalize l2.drop p2 = l3 at *
              have w1 : IntKind.i64.wrap (s2 : Int) = (s2 : Int) := IntWalk.i64_in _ (by omega)
              have w2 : IntKind.i64.wrap ((a : Int) + (s2 : Int)) = (a : Int) + (s2 : Int) := IntWalk.i64_in _ (by omega)
              have hcv := conv_bytes wr kA kc k' hk
              have hx := (Below.refl wr.heap.size wr).alloc (Nat.le_refl _) (.cells #[.int .i64 (a : Nat), .int .i64 (s2 : Nat), .string ⟨k'.toArray⟩] 121)
              have hO3 := hO.alloc (.cells #[.int .i64 (a : Nat), .int .i64 (s2 : Nat), .string ⟨k'.toArray⟩] 121)
              have hb3 := hb.trans (hx.mono hb.size)
              have hr4 := hr3.alloc (.cells #[.int .i64 (a : Nat), .int .i64 (s2 : Nat), .string ⟨k'.toArray⟩] 121)
              have HQ := Lib.hid hq2
              clear hr3 hr2 hA2 hq2 hO hx
              go_wp2_with (at_builtin; refine wpList_app _ rfl _ _ rfl slIP w.heap.size (.slice oA L.length oc) L.length (icells L) rfl hO3 _ 1 1 [.int .i64 (a : Nat), .int .i64 (s2 : Nat), .string ⟨k'.toArray⟩] rfl rfl (Rd.many _ _ _) (by simp [Value.oneCell']) (by unfold maxLen; omega) (by omega) hb3.size ?_; intro A9 c9 w9 ho9 hg9)
              have hu9 : Below w.heap.size _ w9 := hg9.under hO3 (Nat.le_refl _) hb3.size
              have hr9 := hr4.under hu9 hA3
              have hlx : (L.map (IP.pv b) ++ [(k', (b.drop a).take s2)]) = (L ++ [(⟨a, s2, ⟨k'.toArray⟩⟩ : IP)]).map (IP.pv b) := by simp [IP.pv, strB]
              go_roundg l3.length
              case measure => exact hll
              case rel =>
                refine ⟨l3, A3, c3, L ++ [⟨a, s2, ⟨k'.toArray⟩⟩], A9, c9, a + s2, rfl, rfl, by rw [List.length_append]; rfl, by rw [Int.natCast_add], hr9, hc3, hA3, ?_, hb3.trans hu9, ?_, ?_, ?_, by have := HQ.out; omega, ?_⟩
                · rw [icells_append, List.length_append]
                  exact ho9
                · rw [← hlx, ← List.drop_drop]
                  exact HRS.out
                · rw [← hlx]
                  intro p hp
                  rcases List.mem_append.1 hp with h | h
                  · exact hlo p h
                  · rw [List.mem_singleton.1 h]
                    have := HQ.out
                    simp only [List.length_take, List.length_drop]
                    omega
                · intro f hf
                  rcases List.mem_append.1 hf with h | h
                  · exact hfit f h
                  · rw [List.mem_singleton.1 h]
                    have := HQ.out
                    simp only
                    omega
                · rw [List.length_append]; simp only [List.length_singleton]; omega
          · have hE := hrn (.inr (by omega))
            have k2 : ((q : Int) < (s2 : Int)) := by omega
            clear hrn hrs hrq hf4 hfit hlo
            go_wp2_with fail
            go_ret2
            subst hE
            exact ⟨hb, .inl ⟨by simp, _, rfl⟩⟩
        · have hb0 : bad = true := by rw [← hf4]; simp [he2]
          have hE := hrn (.inl hb0)
          have k1 : ((e2 : Int) != 0) = true := by simpa using he2
          clear hrn hrs hrq hf4 hfit hlo
          go_wp2_with fail
          go_ret2
          subst hE
          exact ⟨hb, .inl ⟨by simp, _, rfl⟩⟩
      · have hb0 : bad = true := by rw [← hf4]; simp [he1]
        have hE := hrn (.inl hb0)
        have k1 : ((e1 : Int) != 0) = true := by simpa using he1
        clear hrn hrs hrq hf4 hfit hlo
        go_wp2_with fail
        go_ret2
        subst hE
        exact ⟨hb, .inl ⟨by simp, _, rfl⟩⟩
end Go.Proofs.Ytadgaphgomagkaa
