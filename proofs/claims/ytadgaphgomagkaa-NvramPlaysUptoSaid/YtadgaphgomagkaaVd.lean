/- The log's device in memory: its bytes, and what takes its writes back. -/
import Derived.Test.YtadgaphgomagkaaVb
import Derived.Test.YtadgaphgomagkaaVc
import Derived.Test.YtadgaphgomagkaaNa
namespace Go.Proofs.Ytadgaphgomagkaa
open Go.RowKit
set_option maxHeartbeats 2000000
set_option maxRecDepth 100000

/-- what takes a byte back: the blocks that the closure has caught, and what they hold -/
structure Un where
  W : Nat
  C : Nat
  T : Nat
  I : Nat
  at_ : Nat
  i : Nat
  was : UInt8
def Un.val (u : Un) : Value := .func (.func 54) #[] #[.pointer (some ⟨u.W, 0, none⟩), .pointer (some ⟨u.C, 0, none⟩), .pointer (some ⟨u.T, 0, none⟩), .pointer (some ⟨u.I, 0, none⟩)]
structure Un.ok (u : Un) (w : World) (D G : Nat) : Prop where
  was : Blk w u.W 5 #[byt u.was]
  dev : Blk w u.C 25 #[.pointer (some ⟨D, 0, none⟩)]
  atb : Blk w u.T 3 #[.int .i64 (u.at_ : Nat)]
  idx : Blk w u.I 3 #[.int .i64 (u.i : Nat)]
  ne : u.W ≠ G
structure NvAt (w : World) (B D P G : Nat) (bs : List UInt8) (us : List Un) (uA : Option Addr) (uc : Nat) : Prop where
  dev : Blk w D 94 #[.pointer (some ⟨P, 0, none⟩), .slice (some ⟨G, 0, none⟩) bs.length bs.length, .slice uA us.length uc]
  bys : Blk w G 5 (byts bs).toArray
  row : w.ownsRow B 1 1 (.slice uA us.length uc) us.length (us.map Un.val)
  ok : ∀ u ∈ us, u.ok w D G
  low : B ≤ D ∧ B ≤ G
theorem slF : SlT Try.prog 92 1 .nilFunc 1 8 := ⟨Try.underlying92, by kernel_rfl, rfl, by decide⟩
section
variable {w w1 : World} {B D P G : Nat} {bs : List UInt8} {us : List Un} {uA : Option Addr} {uc : Nat} {S : Nat → Prop}
theorem Un.ok.keep {u : Un} (h : u.ok w D G) (hG : Has w G 5) (hc : Chg S w w1) (hS : ∀ k, S k → k = G ∨ ∃ t, Has w k t ∧ t ≠ 5 ∧ t ≠ 25 ∧ t ≠ 3) : u.ok w1 D G := by
  have no : ∀ k t, Has w k t → k ≠ G → (t = 5 ∨ t = 25 ∨ t = 3) → ¬ S k := by
    intro k t ht hk hT hs
    rcases hS k hs with e | ⟨t', h', n1, n2, n3⟩
    · exact hk e
    · refine (ht.ne h' fun e => ?_) rfl
      subst e
      rcases hT with e | e | e
      · exact n1 e
      · exact n2 e
      · exact n3 e
  exact ⟨h.was.keep hc (no _ _ h.was.has h.ne (.inl rfl)), h.dev.keep hc (no _ _ h.dev.has (h.dev.has.ne hG (by decide)) (.inr (.inl rfl))), h.atb.keep hc (no _ _ h.atb.has (h.atb.has.ne hG (by decide)) (.inr (.inr rfl))), h.idx.keep hc (no _ _ h.idx.has (h.idx.has.ne hG (by decide)) (.inr (.inr rfl))), h.ne⟩
/-- a turn of blocks of other types leaves a device -/
theorem NvAt.keep (h : NvAt w B D P G bs us uA uc) (hc : Chg S w w1) (hS : ∀ k, S k → ∃ t, Has w k t ∧ t ≠ 5 ∧ t ≠ 25 ∧ t ≠ 3 ∧ t ≠ 94 ∧ t ≠ 1) : NvAt w1 B D P G bs us uA uc := by
  have no : ∀ k t, Has w k t → (t = 5 ∨ t = 94 ∨ t = 1) → ¬ S k := by
    intro k t ht hT hs
    obtain ⟨t', h', n1, n2, n3, n4, n5⟩ := hS k hs
    refine (ht.ne h' fun e => ?_) rfl
    subst e
    rcases hT with e | e | e
    · exact n1 e
    · exact n4 e
    · exact n5 e
  refine ⟨h.dev.keep hc (no _ _ h.dev.has (.inr (.inl rfl))), h.bys.keep hc (no _ _ h.bys.has (.inl rfl)), own_keepC h.row hc fun g hg => ?_, fun u hu => (h.ok u hu).keep h.bys.has hc fun k hk => ?_, h.low⟩
  · cases hA : uA with
    | none => simp [hA, Value.ownBlock] at hg
    | some ad =>
      simp [hA, Value.ownBlock] at hg
      rw [← hg]
      exact no _ _ (own_has h.row ad hA) (.inr (.inr rfl))
  · obtain ⟨t, h1, n1, n2, n3, _⟩ := hS k hk
    exact .inr ⟨t, h1, n1, n2, n3⟩
theorem NvAt.below (h : NvAt w B D P G bs us uA uc) (hb : Below w.heap.size w w1) : NvAt w1 B D P G bs us uA uc := h.keep (S := fun _ => False) (.of_below hb) (fun _ h => h.elim)
theorem NvAt.alloc (h : NvAt w B D P G bs us uA uc) (o : Obj) : NvAt (w.alloc o) B D P G bs us uA uc := h.below ((Below.refl _ _).alloc (Nat.le_refl _) o)
theorem NvAt.drew (h : NvAt w B D P G bs us uA uc) : NvAt w.drew B D P G bs us uA uc := h.below (Below.refl _ _).drew
theorem NvAt.c0 (h : NvAt w B D P G bs us uA uc) : w.cell? ⟨D, 0, none⟩ = some (.pointer (some ⟨P, 0, none⟩)) := h.dev.cell 0
theorem NvAt.c1 (h : NvAt w B D P G bs us uA uc) : w.cell? ⟨D, 1, none⟩ = some (.slice (some ⟨G, 0, none⟩) bs.length bs.length) := h.dev.cell 1
theorem NvAt.c2 (h : NvAt w B D P G bs us uA uc) : w.cell? ⟨D, 2, none⟩ = some (.slice uA us.length uc) := h.dev.cell 2
theorem NvAt.cb (h : NvAt w B D P G bs us uA uc) (i : Nat) (hi : i < bs.length) : w.cell? ⟨G, i, none⟩ = some (byt bs[i]) := by
  rw [h.bys.cell]; simp [byts, hi]

/-- a byte is laid -/
theorem NvAt.poke (h : NvAt w B D P G bs us uA uc) (i : Nat) (b : UInt8) : NvAt (w.setCell ⟨G, i, none⟩ (byt b)) B D P G (bs.set i b) us uA uc := by
  have hc : Chg (fun k => k = G) w (w.setCell ⟨G, i, none⟩ (byt b)) := Chg.set (S := fun k => k = G) (Chg.refl _ _) rfl _ _
  refine ⟨?_, ?_, own_keepC h.row hc fun g hg => ?_, fun u hu => (h.ok u hu).keep h.bys.has hc fun k hk => .inl hk, h.low⟩
  · have := h.dev.keep hc (h.dev.has.ne h.bys.has (by decide))
    simpa using this
  · have := h.bys.set i (byt b)
    simpa [byts, List.map_set] using this
  · cases hA : uA with
    | none => simp [hA, Value.ownBlock] at hg
    | some ad =>
      simp [hA, Value.ownBlock] at hg
      rw [← hg]
      exact (own_has h.row ad hA).ne h.bys.has (by decide)
/-- one more is taken back -/
theorem NvAt.push (h : NvAt w B D P G bs us uA uc) {u : Un} (hu : u.ok w D G) {A' : Option Addr} {c' : Nat} (ho : w1.ownsRow B 1 1 (.slice A' (us.length + 1) c') (us.length + 1) (us.map Un.val ++ [u.val]))
    (hc : Chg (fun k => ∃ ad, uA = some ad ∧ k = ad.block) w w1) : NvAt (w1.setCell ⟨D, 2, none⟩ (.slice A' (us.length + 1) c')) B D P G bs (us ++ [u]) A' c' := by
  have hF : ∀ k, (∃ ad, uA = some ad ∧ k = ad.block) → Has w k 1 := by
    rintro k ⟨ad, e, rfl⟩
    exact own_has h.row ad e
  have hD1 : Blk w1 D 94 _ := h.dev.keep hc fun hh => ((hF _ hh).ne h.dev.has (by decide)) rfl
  have hG1 : Blk w1 G 5 _ := h.bys.keep hc fun hh => ((hF _ hh).ne h.bys.has (by decide)) rfl
  have hcD : Chg (fun k => k = D) w1 (w1.setCell ⟨D, 2, none⟩ (.slice A' (us.length + 1) c')) := Chg.set (S := fun k => k = D) (Chg.refl _ _) rfl _ _
  have hk : ∀ v : Un, v.ok w D G → v.ok (w1.setCell ⟨D, 2, none⟩ (.slice A' (us.length + 1) c')) D G := fun v hv =>
    (hv.keep h.bys.has hc fun k hk => .inr ⟨_, hF k hk, by decide, by decide, by decide⟩).keep hG1.has hcD fun k hk => .inr ⟨94, (by rw [show k = D from hk]; exact hD1.has), by decide, by decide, by decide⟩
  refine ⟨?_, hG1.keep hcD (hG1.has.ne hD1.has (by decide)), own_keepC (w := w1) (by simpa using ho) hcD fun g hg => ?_, fun v hv => ?_, h.low⟩
  · have := hD1.set 2 (.slice A' (us.length + 1) c')
    simpa using this
  · cases hA : A' with
    | none => simp [hA, Value.ownBlock] at hg
    | some ad =>
      simp [hA, Value.ownBlock] at hg
      rw [← hg]
      exact (own_has ho ad hA).ne hD1.has (by decide)
  · rcases List.mem_append.1 hv with h1 | h1
    · exact hk v (h.ok v h1)
    · rw [List.mem_singleton.1 h1]; exact hk u hu
/-- nothing is taken back any more -/
theorem NvAt.wipe (h : NvAt w B D P G bs us uA uc) : NvAt (w.setCell ⟨D, 2, none⟩ (.slice none 0 0)) B D P G bs [] none 0 := by
  have hcD : Chg (fun k => k = D) w (w.setCell ⟨D, 2, none⟩ (.slice none 0 0)) := Chg.set (S := fun k => k = D) (Chg.refl _ _) rfl _ _
  refine ⟨?_, h.bys.keep hcD (h.bys.has.ne h.dev.has (by decide)), World.ownsRow_nil _ _ _ _, fun v hv => by simp at hv, h.low⟩
  have := h.dev.set 2 (.slice none 0 0)
  simpa using this
end

/-- what a device's acts may turn -/
def TN (t : TypeId) : Prop := t = 98 ∨ t = 94 ∨ t = 1
def SN (B G : Nat) (w : World) (k : Nat) : Prop := B ≤ k ∧ (k = G ∨ ∃ t, TN t ∧ Has w k t)
def ChgN (B G : Nat) (w w' : World) : Prop := Chg (SN B G w) w w'
section
variable {w w1 w2 : World} {B G : Nat}
theorem ChgN.refl : ChgN B G w w := Chg.refl _ _
theorem ChgN.of {S : Nat → Prop} (h : Chg S w w1) (hS : ∀ k, k < w.heap.size → S k → SN B G w k) : ChgN B G w w1 := h.mono hS
theorem ChgN.of_below (h : Below w.heap.size w w1) : ChgN B G w w1 := Chg.of_below h
theorem ChgN.trans (h : ChgN B G w w1) (k : ChgN B G w1 w2) : ChgN B G w w2 := by
  refine Chg.trans' h k fun i hi ⟨hB, hs⟩ => ⟨hB, ?_⟩
  rcases hs with e | ⟨t, ht, hh⟩
  · exact .inl e
  · refine Classical.byContradiction fun hn => hn ?_
    by_cases hS : SN B G w i
    · exact hS.2
    · refine .inr ⟨t, ht, ?_⟩
      obtain ⟨cs, fr, e⟩ := hh
      exact ⟨cs, fr, (h.block i hi hS).symm.trans e⟩
theorem ChgN.below (h : ChgN B G w w1) (k : Below w1.heap.size w1 w2) : ChgN B G w w2 := h.trans (.of_below k)
theorem ChgN.after {w0 : World} (h : ChgN B G w w1) (hb : Below B w0 w) (hB : B ≤ w.heap.size) : Below B w0 w1 := Chg.toBelow h hb (fun _ hk => hk.1) hB
theorem SN.not {k : Nat} {t : TypeId} (h : Has w k t) (ht : ¬ TN t) (hk : k ≠ G) : ¬ SN B G w k := by
  rintro ⟨_, e | ⟨t', h1, h2⟩⟩
  · exact hk e
  · refine (h.ne h2 fun e => ?_) rfl
    subst e
    exact ht h1
end
end Go.Proofs.Ytadgaphgomagkaa
