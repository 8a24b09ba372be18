/- The log's device with its power: writes that are done or refused; the power armed; negative counts. -/
import Derived.Test.YtadgaphgomagkaaRb
namespace Go.Proofs.Ytadgaphgomagkaa
open Go.RowKit
set_option maxHeartbeats 2000000
set_option maxRecDepth 100000

section
variable {w w1 : World} {B D P R G m : Nat} {off : Bool} {armed : Nat} {picks : List Int} {kept : List UInt8} {L : List (Nat × UInt8)}
theorem within_neg (w : World) (B D P G : Nat) (bs : List UInt8) (us : List Un) (uA : Option Addr) (uc : Nat) (h : NvAt w B D P G bs us uA uc) (a n : Int) (hn : n < 0) :
    Calls Try.prog 52 #[.pointer (some ⟨D, 0, none⟩), .int .i64 a, .int .i64 n] w fun e w' => e = .returned (.bool (fitsB bs.length a n)) ∧ w = w' := by
  have c1 := h.c1
  have e : fitsB bs.length a n = false := by unfold fitsB; simp; omega
  rw [e]
  have hn' : ¬ 0 ≤ n := by omega
  by_cases h1 : 0 ≤ a
  · go_enter Try.func52, Try.ntmps52
    go_wp2
    go_ret
    exact ⟨rfl, rfl⟩
  · go_enter Try.func52, Try.ntmps52
    go_wp2
    go_ret
    exact ⟨rfl, rfl⟩
theorem within_all (w : World) (B D P G : Nat) (bs : List UInt8) (us : List Un) (uA : Option Addr) (uc : Nat) (h : NvAt w B D P G bs us uA uc) (hbl : bs.length ≤ 67108864) (a n : Int) :
    Calls Try.prog 52 #[.pointer (some ⟨D, 0, none⟩), .int .i64 a, .int .i64 n] w fun e w' => e = .returned (.bool (fitsB bs.length a n)) ∧ w = w' := by
  by_cases hn : 0 ≤ n
  · exact within_any w B D P G bs us uA uc h hbl a n hn
  · exact within_neg w B D P G bs us uA uc h a n (by omega)
theorem fits_all (w : World) (B R G : Nat) (kept : List UInt8) (L : List (Nat × UInt8)) (kA : Option Addr) (kc : Nat) (lA : Option Addr) (lc : Nat) (h : RfAt w B R G kept L kA kc lA lc) (hbl : kept.length ≤ 67108864) (a n : Int) :
    Calls Try.prog 18 #[.pointer (some ⟨R, 0, none⟩), .int .i64 a, .int .i64 n] w fun e w' => e = .returned (.bool (fitsB kept.length a n)) ∧ w = w' := by
  by_cases hn : 0 ≤ n
  · exact fits_any w B R G kept L kA kc lA lc h hbl a n hn
  have e : fitsB kept.length a n = false := by unfold fitsB; simp; omega
  rw [e]
  have hn' : ¬ 0 ≤ n := hn
  clear hn
  by_cases h1 : 0 ≤ a
  · go_enter Try.func18, Try.ntmps18
    go_wp2
    go_ret
    exact ⟨rfl, rfl⟩
  · go_enter Try.func18, Try.ntmps18
    go_wp2
    go_ret
    exact ⟨rfl, rfl⟩
theorem p_read_arg (h : NvP w B D P G kept L false armed picks m) (a n : Int) (hf : fitsB kept.length a n = false) :
    Calls Try.prog 25 #[.pointer (some ⟨D, 0, none⟩), .int .i64 a, .int .i64 n] w fun e w' => e = .returned (.tuple #[.slice none 0 0, .int .i64 1]) ∧ w = w' := by
  have hof := p_off h
  obtain ⟨us, uA, uc, h1, h2, h3, h4, h5⟩ := h
  have c0 := h1.c0
  have hwi := within_all w B D P G _ us uA uc h1 (by rw [app_length]; exact h5) a n
  rw [app_length, hf] at hwi
  go_enter Try.func25, Try.ntmps25
  go_wp2_with (first
    | (go_at_call 29; refine hof.mono ?_; rintro e w1 ⟨rfl, rfl⟩)
    | (go_at_call 52; refine hwi.mono ?_; rintro e w1 ⟨rfl, rfl⟩))
  go_ret2
  exact ⟨rfl, rfl⟩
theorem p_write (h : NvP w B D P G kept L false armed picks m) (ha : armed ≠ 1) (ha2 : armed ≤ 9223372036854775807) (hm : m ≤ 4611686018427387904) (a : Nat) (A : Option Addr) (c : Nat) (ps : List Sb) (hr : Rd w A (ps.map Sb.val)) (hpl : ps.length ≤ 1000) (hok : ∀ s ∈ ps, s.ok w) (hfit : a + (flat ps).length ≤ kept.length) (hL : L.length + (flat ps).length ≤ 2000000) :
    Calls Try.prog 19 #[.pointer (some ⟨D, 0, none⟩), .int .i64 (a : Nat), .slice A ps.length c] w fun e w' => e = .returned (.int .i64 0) ∧ NvP w' B D P G kept (L ++ puts a (flat ps)) false (armed - 1) picks (m + 1) ∧ ChgN B G w w' := by
  obtain ⟨us, uA, uc, h1, h2, h3, h4, h5⟩ := h
  obtain ⟨pA, pc, dA, dc, hp1, _⟩ := h3.at_
  refine (nvWrite_ok w B D P G kept L us uA uc h1 h2 h5 armed m _ _ hp1 ha ha2 hm h3.low h4 a A c ps hr hpl hok hfit hL).mono ?_
  rintro e w' ⟨rfl, us', uA', uc', k1, k2, k3, k4⟩
  exact ⟨rfl, ⟨us', uA', uc', k1, k2, h3.afterN hp1 h1.bys.has k4 k3, Nat.le_trans h4 k4.size, h5⟩, k4⟩
theorem p_write_off (h : NvP w B D P G kept L true armed picks m) (a : Int) (A : Option Addr) (c : Nat) (ps : List Sb) (hr : Rd w A (ps.map Sb.val)) (hpl : ps.length ≤ 1000) (hok : ∀ s ∈ ps, s.ok w) (hf : (flat ps).length ≤ 2000000000) :
    Calls Try.prog 19 #[.pointer (some ⟨D, 0, none⟩), .int .i64 a, .slice A ps.length c] w fun e w' => e = .returned (.int .i64 8) ∧ Below w.heap.size w w' := by
  have hC := Blk.new w 25 #[.pointer (some ⟨D, 0, none⟩)]
  have hC2 := hC.alloc (.cells #[.int .i64 a] 3)
  have hb2 : Below w.heap.size w ((w.alloc (.cells #[.pointer (some ⟨D, 0, none⟩)] 25)).alloc (.cells #[.int .i64 a] 3)) := ((Below.refl _ _).alloc (Nat.le_refl _) _).alloc (by simp) _
  have hcc := concat_any A c ps _ (hr.below hb2) hpl (fun s hs => Sb.ok_below (hok s hs) hb2) (by omega)
  go_enter Try.func19, Try.ntmps19
  go_wp2_with fail
  refine hcc.mono ?_
  rintro e w3 ⟨A3, c3, rfl, ho3, hb3⟩
  have hb23 := hb2.trans (hb3.mono hb2.size)
  have h3 := h.below hb23
  have hof := p_off h3
  obtain ⟨us, uA, uc, h1, _⟩ := h3
  have c0 := h1.c0
  have C0 : w3.cell? ⟨w.heap.size, 0, none⟩ = some (.pointer (some ⟨D, 0, none⟩)) := (hC2.below' hb3).cell 0
  clear hcc hC hC2 hr hok ho3 h1
  go_wp2_with (go_at_call 29; refine hof.mono ?_; rintro e w4 ⟨rfl, rfl⟩)
  go_ret
  exact ⟨rfl, hb23⟩
theorem p_write_arg (h : NvP w B D P G kept L false armed picks m) (a : Int) (A : Option Addr) (c : Nat) (ps : List Sb) (hr : Rd w A (ps.map Sb.val)) (hpl : ps.length ≤ 1000) (hok : ∀ s ∈ ps, s.ok w) (hf : (flat ps).length ≤ 2000000000) (hfit : fitsB kept.length a ((flat ps).length : Nat) = false) :
    Calls Try.prog 19 #[.pointer (some ⟨D, 0, none⟩), .int .i64 a, .slice A ps.length c] w fun e w' => e = .returned (.int .i64 1) ∧ Below w.heap.size w w' := by
  have hC := Blk.new w 25 #[.pointer (some ⟨D, 0, none⟩)]
  have hT := Blk.new (w.alloc (.cells #[.pointer (some ⟨D, 0, none⟩)] 25)) 3 #[.int .i64 a]
  have hC2 := hC.alloc (.cells #[.int .i64 a] 3)
  have hb2 : Below w.heap.size w ((w.alloc (.cells #[.pointer (some ⟨D, 0, none⟩)] 25)).alloc (.cells #[.int .i64 a] 3)) := ((Below.refl _ _).alloc (Nat.le_refl _) _).alloc (by simp) _
  have hcc := concat_any A c ps _ (hr.below hb2) hpl (fun s hs => Sb.ok_below (hok s hs) hb2) (by omega)
  simp only [World.size_alloc] at hT
  go_enter Try.func19, Try.ntmps19
  go_wp2_with fail
  refine hcc.mono ?_
  rintro e w3 ⟨A3, c3, rfl, ho3, hb3⟩
  have hb23 := hb2.trans (hb3.mono hb2.size)
  have h3 := h.below hb23
  have hof := p_off h3
  obtain ⟨us, uA, uc, h1, h2, h4, h5, h6⟩ := h3
  have hwi := within_any w3 B D P G _ us uA uc h1 (by rw [app_length]; exact h6) a ((flat ps).length : Nat) (by omega)
  rw [app_length, hfit] at hwi
  have c0 := h1.c0
  have C0 : w3.cell? ⟨w.heap.size, 0, none⟩ = some (.pointer (some ⟨D, 0, none⟩)) := (hC2.below' hb3).cell 0
  have T0 : w3.cell? ⟨w.heap.size + 1, 0, none⟩ = some (.int .i64 a) := (hT.below' hb3).cell 0
  clear hcc hC hC2 hT hr hok ho3 h1 h2 h4 hfit
  generalize flat ps = bl at *
  go_wp2_with (first
    | (go_at_call 29; refine hof.mono ?_; rintro e w4 ⟨rfl, rfl⟩)
    | (go_at_call 52; refine hwi.mono ?_; rintro e w4 ⟨rfl, rfl⟩))
  go_ret
  exact ⟨rfl, hb23⟩
theorem p_write_down (h : NvP w B D P G kept L false 1 picks m) (hL : L.length ≤ 2000000) (a : Int) (A : Option Addr) (c : Nat) (ps : List Sb) (hr : Rd w A (ps.map Sb.val)) (hpl : ps.length ≤ 1000) (hok : ∀ s ∈ ps, s.ok w) (hf : (flat ps).length ≤ 2000000000) (hfit : fitsB kept.length a ((flat ps).length : Nat) = true) :
    Calls Try.prog 19 #[.pointer (some ⟨D, 0, none⟩), .int .i64 a, .slice A ps.length c] w fun e w' => e = .returned (.int .i64 8) ∧ NvP w' B D P G (app kept (L.take (keptW picks L.length))) [] true 0 picks m ∧ ChgN B G w w' := by
  have hC := Blk.new w 25 #[.pointer (some ⟨D, 0, none⟩)]
  have hT := Blk.new (w.alloc (.cells #[.pointer (some ⟨D, 0, none⟩)] 25)) 3 #[.int .i64 a]
  have hC2 := hC.alloc (.cells #[.int .i64 a] 3)
  have hb2 : Below w.heap.size w ((w.alloc (.cells #[.pointer (some ⟨D, 0, none⟩)] 25)).alloc (.cells #[.int .i64 a] 3)) := ((Below.refl _ _).alloc (Nat.le_refl _) _).alloc (by simp) _
  have hcc := concat_any A c ps _ (hr.below hb2) hpl (fun s hs => Sb.ok_below (hok s hs) hb2) (by omega)
  simp only [World.size_alloc] at hT
  go_enter Try.func19, Try.ntmps19
  go_wp2_with fail
  refine hcc.mono ?_
  rintro e w3 ⟨A3, c3, rfl, ho3, hb3⟩
  have hb23 := hb2.trans (hb3.mono hb2.size)
  have h3 := h.below hb23
  have hof := p_off h3
  have hdn := p_down h3 hL
  obtain ⟨us, uA, uc, h1, h2, h4, h5, h6⟩ := h3
  have hwi := within_any w3 B D P G _ us uA uc h1 (by rw [app_length]; exact h6) a ((flat ps).length : Nat) (by omega)
  rw [app_length, hfit] at hwi
  have c0 := h1.c0
  have C0 : w3.cell? ⟨w.heap.size, 0, none⟩ = some (.pointer (some ⟨D, 0, none⟩)) := (hC2.below' hb3).cell 0
  have T0 : w3.cell? ⟨w.heap.size + 1, 0, none⟩ = some (.int .i64 a) := (hT.below' hb3).cell 0
  clear hcc hC hC2 hT hr hok ho3 h1 h2 h4 hfit h
  generalize flat ps = bl at *
  go_wp2_with (first
    | (go_at_call 29; refine hof.mono ?_; rintro e w4 ⟨rfl, rfl⟩)
    | (go_at_call 52; refine hwi.mono ?_; rintro e w4 ⟨rfl, rfl⟩)
    | (go_at_call 53; refine hdn.mono ?_; rintro e w4 ⟨rfl, hd4, hc4⟩))
  go_ret
  exact ⟨rfl, hd4, (ChgN.of_below hb23).trans hc4⟩
end
end Go.Proofs.Ytadgaphgomagkaa
