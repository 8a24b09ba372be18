/- The log's device by its value: kept bytes and the writes since; the power is on and not armed. -/
import Derived.Test.YtadgaphgomagkaaVl
namespace Go.Proofs.Ytadgaphgomagkaa
open Go.RowKit
set_option maxHeartbeats 4000000
set_option maxRecDepth 100000

def NvS (w : World) (B D P G : Nat) (kept : List UInt8) (L : List (Nat × UInt8)) (m : Nat) : Prop :=
  ∃ us uA uc picks devs, NvAt w B D P G (app kept L) us uA uc ∧ Link kept L us ∧ PwAt w P false 0 picks m devs ∧ B ≤ P ∧ B ≤ w.heap.size ∧ kept.length ≤ 67108864
section
variable {w w1 : World} {B D P R G m : Nat} {kept : List UInt8} {L : List (Nat × UInt8)}
theorem NvS.below (h : NvS w B D P G kept L m) (hb : Below w.heap.size w w1) : NvS w1 B D P G kept L m := by
  obtain ⟨us, uA, uc, picks, devs, h1, h2, h3, h4, h5, h6⟩ := h
  exact ⟨us, uA, uc, picks, devs, h1.below hb, h2, h3.below hb, h4, Nat.le_trans h5 hb.size, h6⟩
theorem NvS.keepR (h : NvS w B D P G kept L m) (hc : ChgR B w w1) : NvS w1 B D P G kept L m := by
  obtain ⟨us, uA, uc, picks, devs, h1, h2, h3, h4, h5, h6⟩ := h
  exact ⟨us, uA, uc, picks, devs, h1.keepR hc, h2, h3.keepR hc, h4, Nat.le_trans h5 hc.size, h6⟩
theorem NvS.lt (h : NvS w B D P G kept L m) : ∀ p ∈ L, p.1 < kept.length := by
  obtain ⟨us, uA, uc, picks, devs, h1, h2, _⟩ := h
  exact h2.lt
theorem NvS.base (h : NvS w B D P G kept L m) : B ≤ w.heap.size := by
  obtain ⟨us, uA, uc, picks, devs, h1, h2, h3, h4, h5, _⟩ := h
  exact h5
theorem NvS.hasG (h : NvS w B D P G kept L m) : Has w G 5 := by
  obtain ⟨us, uA, uc, picks, devs, h1, h2, _⟩ := h
  exact h1.bys.has
theorem s_write (h : NvS w B D P G kept L m) (hm : m ≤ 4611686018427387904) (a : Nat) (A PA : Option Addr) (c : Nat) (l : List UInt8) (hr : Rd w PA [.slice A l.length c]) (hl : Rd w A (byts l)) (hlc : l.length ≤ c) (hfit : a + l.length ≤ kept.length) (hL : L.length + l.length ≤ 2000000) :
    Calls Try.prog 19 #[.pointer (some ⟨D, 0, none⟩), .int .i64 (a : Nat), .slice PA 1 1] w fun e w' => e = .returned (.int .i64 0) ∧ NvS w' B D P G kept (L ++ puts a l) (m + 1) ∧ ChgN B G w w' := by
  obtain ⟨us, uA, uc, picks, devs, h1, h2, h3, h4, h5, h6⟩ := h
  have hf : flat [(⟨A, c, l⟩ : Sb)] = l := by simp [flat]
  have := nvWrite_ok w B D P G kept L us uA uc h1 h2 h6 0 m picks devs h3 (by decide) (by decide) hm h4 h5 a PA 1 [⟨A, c, l⟩] hr (by simp) (fun s hs => by rw [List.mem_singleton.1 hs]; exact ⟨hl, hlc, by simp only; omega⟩) (by rw [hf]; exact hfit) (by rw [hf]; exact hL)
  rw [hf] at this
  refine this.mono ?_
  rintro e w' ⟨rfl, us', uA', uc', k1, k2, k3, k4⟩
  exact ⟨rfl, ⟨us', uA', uc', picks, devs, k1, k2, k3, h4, Nat.le_trans h5 k4.size, h6⟩, k4⟩
theorem s_persist (h : NvS w B D P G kept L m) (hm : m ≤ 4611686018427387904) :
    Calls Try.prog 21 #[.pointer (some ⟨D, 0, none⟩)] w fun e w' => e = .returned (.int .i64 0) ∧ NvS w' B D P G (app kept L) [] (m + 1) ∧ ChgN B G w w' := by
  obtain ⟨us, uA, uc, picks, devs, h1, h2, h3, h4, h5, h6⟩ := h
  refine (persist_ok w B D P G _ us uA uc h1 0 m picks devs h3 (by decide) (by decide) hm h4).mono ?_
  rintro e w' ⟨rfl, k1, k2, k3⟩
  exact ⟨rfl, ⟨[], none, 0, picks, devs, k1, ⟨rfl, by simp, fun k h => by simp at h, fun k h => by simp at h⟩, k2, h4, Nat.le_trans h5 k3.size, by rw [app_length]; exact h6⟩, k3⟩
theorem s_pending (h : NvS w B D P G kept L m) :
    Calls Try.prog 23 #[.pointer (some ⟨D, 0, none⟩)] w fun e w' => e = .returned (.int .i64 (L.length : Nat)) ∧ w = w' := by
  obtain ⟨us, uA, uc, picks, devs, h1, h2, h3, h4, h5, h6⟩ := h
  rw [← h2.len]
  exact pending_any w B D P G _ us uA uc h1
theorem s_size (h : NvS w B D P G kept L m) :
    Calls Try.prog 49 #[.pointer (some ⟨D, 0, none⟩)] w fun e w' => e = .returned (.int .i64 (kept.length : Nat)) ∧ w = w' := by
  obtain ⟨us, uA, uc, picks, devs, h1, h2, h3, h4, h5, h6⟩ := h
  have := size_any w B D P G _ us uA uc h1
  rwa [app_length] at this
theorem s_cut (h : NvS w B D P G kept L m) (hL : L.length ≤ 2000000) (A : Option Addr) (c : Nat) (p : List Int) (hp : Rd w A (ints p)) (hpx : ∀ x ∈ p, x ≤ 9223372036854775807) :
    Calls Try.prog 24 #[.pointer (some ⟨D, 0, none⟩), .slice A p.length c] w fun e w' => e = .returned (.tuple #[]) ∧ NvS w' B D P G (app kept (L.take (keptW p L.length))) [] m ∧ ChgN B G w w' := by
  obtain ⟨us, uA, uc, picks, devs, h1, h2, h3, h4, h5, h6⟩ := h
  refine (cut_any w B D P G kept L us uA uc h1 h2 h6 hL A c p hp hpx).mono ?_
  rintro e w' ⟨rfl, k1, k2⟩
  have hN : ChgN B G w w' := ChgN.of k2 fun k _ hk => by
    rcases hk with rfl | rfl
    · exact ⟨h1.low.2, .inl rfl⟩
    · exact ⟨h1.low.1, .inr ⟨_, .inr (.inl rfl), h1.dev.has⟩⟩
  have hP : PwAt w' P false 0 picks m devs := ⟨h3.blk.keep k2 fun hh => by
    rcases hh with e | e
    · exact h3.blk.has.ne h1.bys.has (by decide) e
    · exact h3.blk.has.ne h1.dev.has (by decide) e⟩
  exact ⟨rfl, ⟨[], none, 0, picks, devs, k1, ⟨rfl, by simp, fun k h => by simp at h, fun k h => by simp at h⟩, hP, h4, Nat.le_trans h5 k2.size, by rw [app_length]; exact h6⟩, hN⟩
theorem s_read (h : NvS w B D P G kept L m) (a n : Nat) (ht : a + n ≤ kept.length) :
    Calls Try.prog 25 #[.pointer (some ⟨D, 0, none⟩), .int .i64 (a : Nat), .int .i64 (n : Nat)] w fun e w' => ∃ A' c', e = .returned (.tuple #[.slice A' n c', .int .i64 0]) ∧ w'.ownsRow w.heap.size 5 1 (.slice A' n c') n (byts (((app kept L).drop a).take n)) ∧ Below w.heap.size w w' := by
  obtain ⟨us, uA, uc, picks, devs, h1, h2, h3, h4, h5, h6⟩ := h
  exact read_ok w B D P G _ us uA uc h1 (by rw [app_length]; exact h6) 0 m picks devs h3 a n (by rw [app_length]; exact ht)
end
end Go.Proofs.Ytadgaphgomagkaa
