/- The law's own check of two fixed tables. -/
import Derived.Test.YtadgaphgomagkaaLf
import Derived.Lib.SlBytesConst
namespace Go.Proofs.Ytadgaphgomagkaa
open Go.RowKit
set_option maxHeartbeats 4000000
set_option maxRecDepth 100000

theorem bE_len : (buildR [] 10).1.length = 16 := by decide +kernel
theorem bE_ok : (buildR [] 10).2 = 0 := by decide +kernel
theorem bE_open : openP (buildR [] 10).1 = (0, []) := by decide +kernel
def kf (A : Option Addr) (c : Nat) : FM := ⟨⟨#[107]⟩, 3, A, c, [118]⟩
theorem bK_same (A : Option Addr) (c : Nat) : buildR [kf A c] 10 = buildR [kf none 0] 10 := by kernel_rfl
theorem bK_ok : (buildR [kf none 0] 10).2 = 0 := by decide +kernel
theorem bK_len : (buildR [kf none 0] 10).1.length ≤ 1000 := by decide +kernel
theorem bK_open : openP (buildR [kf none 0] 10).1 = (0, [⟨[107], 3, [118]⟩]) := by decide +kernel
theorem getK (A : Option Addr) (c : Nat) : getF [kf A c] ⟨#[107]⟩ = some (kf A c) := by kernel_rfl
theorem getL (A : Option Addr) (c : Nat) : getF [kf A c] ⟨#[108]⟩ = none := by kernel_rfl
theorem kf_of {L : List FM} (h : L.map FM.fv = [⟨[107], 3, [118]⟩]) : ∃ A c, L = [kf A c] := by
  rcases L with _ | ⟨f, _ | ⟨f2, L⟩⟩
  · simp at h
  · simp only [List.map_cons, List.map_nil, List.cons.injEq, and_true, FM.fv, FV.mk.injEq] at h
    obtain ⟨h1, h2, h3⟩ := h
    obtain ⟨⟨⟨k⟩⟩, s, A, c, l⟩ := f
    simp only [strB] at h1 h2 h3
    subst h1 h2 h3
    exact ⟨A, c, rfl⟩
  · simp at h
theorem conv_same (w : World) (C : Array Value) (n c g : Nat) (hg : g = w.heap.size) : (convert 35 35 (.slice (some ⟨g, 0, none⟩) n c)).run Try.prog (w.alloc (.cells C 5)) = .ok (.slice (some ⟨g, 0, none⟩) n c) (w.alloc (.cells C 5 (C.size, C.size + 1))) :=
  hg ▸ Go.Lib.run_convert_bytes_const w _ _ C n c Try.underlying35 Try.underlying5
theorem Rd.lit (w : World) (cs : List Value) (t : TypeId) (fr : Nat × Nat) : Rd (w.alloc (.cells cs.toArray t fr)) (some ⟨w.heap.size, 0, none⟩) cs := by
  have h := Rd.of_block (w := w.alloc (.cells cs.toArray t fr)) (g := w.heap.size) (cs := cs.toArray) (t := t) (fr := fr) (heap_alloc_new w _)
  simpa using h
theorem known11_any (w : World) : Calls Try.prog 31 #[] w fun e w' => e = .returned (.bool true) ∧ Below w.heap.size w w' := by
  have hbc := fbuild_any none 0 [] 10 w (fun h => absurd rfl h) (by simp) (by simp)
  go_enter Try.func31, Try.ntmps31
  go_wp2_with fail
  refine hbc.mono ?_
  rintro e w1 ⟨A1, c1, rfl, ho1, hb1⟩
  clear hbc
  have hq0 := bE_len
  have hq1 := bE_ok
  have hq2 := bE_open
  generalize buildR [] 10 = R1 at *
  obtain ⟨b1, e1⟩ := R1
  simp only at hq0 hq1 hq2 ho1
  subst hq1
  have ho := open_any A1 c1 b1 w1 (Rd.of_own ho1) (own_cap ho1).1 (by omega) fun ad h => ((own_cap ho1).2.2 ad h).2
  rw [hq2, hq0] at ho
  rw [hq0]
  go_wp2_with fail
  refine ho.mono ?_
  rintro e w2 ⟨hb2, h2 | ⟨_, g2, A2, c2, L2, rfl, hL2, hB2, hg2, hF2⟩⟩
  · exact absurd rfl h2.1
  obtain rfl : L2 = [] := by simpa using hL2
  have hb02 := hb1.trans (hb2.mono hb1.size)
  clear ho hb1 hb2 ho1 hq0 hq2 hL2
  have hcv := conv_same
  go_wp2_with fail
  have hba := (Below.refl w2.heap.size w2).alloc (Nat.le_refl _) (.cells #[.int .u8 118] 5 (1, 2))
  have hra : Rd (w2.alloc (.cells #[.int .u8 118] 5 (1, 2))) (some ⟨w2.heap.size, 0, none⟩) (byts [118]) := Rd.lit w2 [.int .u8 118] _ (1, 2)
  have hbb := hba.alloc hba.size (.cells #[.string ⟨#[107]⟩, .int .u64 3, .slice (some ⟨w2.heap.size, 0, none⟩) 1 1] 71)
  have hrb := hra.alloc (.cells #[.string ⟨#[107]⟩, .int .u64 3, .slice (some ⟨w2.heap.size, 0, none⟩) 1 1] 71)
  have hrc : Rd ((w2.alloc (.cells #[.int .u8 118] 5 (1, 2))).alloc (.cells #[.string ⟨#[107]⟩, .int .u64 3, .slice (some ⟨w2.heap.size, 0, none⟩) 1 1] 71)) (some ⟨w2.heap.size + 1, 0, none⟩) (fcells [kf (some ⟨w2.heap.size, 0, none⟩) 1]) := by
    have := Rd.many (w2.alloc (.cells #[.int .u8 118] 5 (1, 2))) [.string ⟨#[107]⟩, .int .u64 3, .slice (some ⟨w2.heap.size, 0, none⟩) 1 1] 71
    rw [World.size_alloc] at this
    exact this
  have hbc := fbuild_any (some ⟨w2.heap.size + 1, 0, none⟩) 1 [kf (some ⟨w2.heap.size, 0, none⟩) 1] 10 _ hrc (fun f hf => by rw [List.mem_singleton.1 hf]; exact ⟨hrb, Nat.le_refl 1, (by decide : 1 ≤ 1048576), (by decide : 3 < 18446744073709551616), (by decide : 1 ≤ 1048576)⟩) (by simp)
  rw [bK_same] at hbc
  clear hra hrb hrc hba
  refine hbc.mono ?_
  rintro e w3 ⟨A3, c3, rfl, ho3, hb3⟩
  clear hbc
  have hq1 := bK_ok
  have hq2 := bK_open
  have hq3 := bK_len
  generalize buildR [kf none 0] 10 = R3 at *
  obtain ⟨b3, e3⟩ := R3
  simp only at hq1 hq2 hq3 ho3
  subst hq1
  have ho := open_any A3 c3 b3 w3 (Rd.of_own ho3) (own_cap ho3).1 (by omega) fun ad h => ((own_cap ho3).2.2 ad h).2
  rw [hq2] at ho
  have hb23 : Below w2.heap.size w2 w3 := hbb.trans (hb3.mono hbb.size)
  have hb03 := hb02.trans (hb23.mono hb02.size)
  have hB3 := hB2.below' hb23
  have hF3 := hF2.below hb23
  clear hb3 hbb hq2 hq3 hb23 hB2 hF2
  go_wp2_with fail
  refine ho.mono ?_
  rintro e w4 ⟨hb4, h2 | ⟨_, g4, A4, c4, L4, rfl, hL4, hB4, hg4, hF4⟩⟩
  · exact absurd rfl h2.1
  obtain ⟨AK, cK, rfl⟩ := kf_of hL4
  have hB34 := hB3.below' hb4
  have hF34 := hF3.below hb4
  have hb04 := hb03.trans (hb4.mono hb03.size)
  have hT4 : TblAt w4 g4 A4 [kf AK cK] c4 := ⟨hB4, Rd.of_own hF4.own, (own_cap hF4.own).1⟩
  have hg1 := get_any g4 A4 c4 [kf AK cK] ⟨#[107]⟩ w4 hT4 hF4.ok (by simp)
  rw [getK] at hg1
  have hg1 : Calls Try.prog 38 #[.pointer (some ⟨g4, 0, none⟩), .string ⟨#[107]⟩] w4 fun e w' => Below w4.heap.size w4 w' ∧ ∃ A' c', e = .returned (.tuple #[.agg #[.string ⟨#[107]⟩, .int .u64 3, .slice A' 1 c'], .bool true]) ∧ w'.ownsRow w4.heap.size 5 1 (.slice A' 1 c') 1 (byts [118]) := hg1
  clear ho hb4 hB3 hF3 ho3 hL4
  go_wp2_with fail
  refine hg1.mono ?_
  rintro e w5 ⟨hb5, A5, c5, rfl, ho5⟩
  clear hg1
  have hx5 := (Below.refl w5.heap.size w5).alloc (Nat.le_refl _) (.cells #[.string ⟨#[107]⟩, .int .u64 3, .slice A5 1 c5] 71)
  have hBx := Blk.new w5 71 #[.string ⟨#[107]⟩, .int .u64 3, .slice A5 1 c5]
  have hb45 : Below w4.heap.size w4 (w5.alloc (.cells #[.string ⟨#[107]⟩, .int .u64 3, .slice A5 1 c5] 71)) := hb5.trans (hx5.mono hb5.size)
  have ho6 := own_below ho5 hx5
  have hT6 : TblAt _ g4 A4 [kf AK cK] c4 := ⟨hT4.blk.below' hb45, hT4.rd.below hb45, hT4.cap⟩
  have hg2 := get_any g4 A4 c4 [kf AK cK] ⟨#[108]⟩ _ hT6 (fun f hf => (hF4.ok f hf).below hb45) (by simp)
  rw [getL] at hg2
  go_wp2_with fail
  refine hg2.mono ?_
  rintro e w7 ⟨hb7, rfl⟩
  clear hg2
  have hx7 := (Below.refl w7.heap.size w7).alloc (Nat.le_refl _) (.cells #[.string ⟨#[]⟩, .int .u64 0, .slice none 0 0] 71)
  have hb8 := hb7.trans (hx7.mono hb7.size)
  have hBx8 := hBx.below' hb8
  have ho8 := own_below ho6 hb8
  have hst := conv_bytes _ A5 c5 [118] (Rd.of_own ho8)
  have z1 := hBx8.cell 1
  have z2 := hBx8.cell 2
  have hT8 : TblAt (w7.alloc (.cells #[.string ⟨#[]⟩, .int .u64 0, .slice none 0 0] 71)) g2 A2 [] c2 := ⟨(hB34.below' hb45).below' hb8, fun h => absurd rfl h, Nat.zero_le _⟩
  have hle := len_any g2 A2 [] c2 _ hT8
  have hfin := hb04.trans ((hb45.trans (hb8.mono hb45.size)).mono hb04.size)
  simp only [List.length_cons, List.length_nil, Nat.zero_add] at hst
  go_wp2_with (go_at_call 58; refine hle.mono ?_; rintro e w9 ⟨rfl, rfl⟩)
  go_ret
  exact ⟨rfl, hfin⟩
end Go.Proofs.Ytadgaphgomagkaa
