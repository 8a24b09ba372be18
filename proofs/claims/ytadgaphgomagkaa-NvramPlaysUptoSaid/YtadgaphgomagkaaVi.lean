/- The reference's device in memory; both devices made. -/
import Derived.Test.YtadgaphgomagkaaVd
import Derived.Test.YtadgaphgomagkaaVe
import Derived.Deep.RegionLaw
namespace Go.Proofs.Ytadgaphgomagkaa
open Go.RowKit
set_option maxHeartbeats 4000000
set_option maxRecDepth 100000

def putCells (L : List (Nat × UInt8)) : List Value := L.flatMap fun p => [.int .i64 (p.1 : Nat), byt p.2]
theorem putCells_length (L : List (Nat × UInt8)) : (putCells L).length = L.length * 2 := by
  induction L with
  | nil => rfl
  | cons p L ih => simp [putCells] at ih ⊢; omega
theorem putCells_append (L M : List (Nat × UInt8)) : putCells (L ++ M) = putCells L ++ putCells M := by simp [putCells]
theorem putCells_get (L : List (Nat × UInt8)) (i : Nat) (h : i < L.length) : (putCells L)[i * 2]? = some (.int .i64 (L[i].1 : Nat)) ∧ (putCells L)[i * 2 + 1]? = some (byt L[i].2) := by
  induction L generalizing i with
  | nil => simp at h
  | cons p L ih =>
    have e : putCells (p :: L) = .int .i64 (p.1 : Nat) :: byt p.2 :: putCells L := rfl
    cases i with
    | zero => simp [e]
    | succ i =>
      rw [e, show (i + 1) * 2 = i * 2 + 1 + 1 by omega]
      simpa using ih i (by simpa using h)
structure RfAt (w : World) (B R G : Nat) (kept : List UInt8) (L : List (Nat × UInt8)) (kA : Option Addr) (kc : Nat) (lA : Option Addr) (lc : Nat) : Prop where
  dev : Blk w R 48 #[.slice kA kept.length kc, .slice lA L.length lc]
  kep : Rd w kA (byts kept)
  kcl : kept.length ≤ kc
  has : ∀ ad, kA = some ad → Has w ad.block 5 ∧ ad.block ≠ G
  row : w.ownsRow B 50 2 (.slice lA L.length lc) L.length (putCells L)
  low : B ≤ R
def TR (t : TypeId) : Prop := t = 48 ∨ t = 50
def SR (B : Nat) (w : World) (k : Nat) : Prop := B ≤ k ∧ ∃ t, TR t ∧ Has w k t
def ChgR (B : Nat) (w w' : World) : Prop := Chg (SR B w) w w'
section
variable {w w1 w2 : World} {B D P R G : Nat} {kept : List UInt8} {L : List (Nat × UInt8)} {kA lA : Option Addr} {kc lc : Nat} {S : Nat → Prop}
theorem ChgR.refl : ChgR B w w := Chg.refl _ _
theorem ChgR.of (h : Chg S w w1) (hS : ∀ k, k < w.heap.size → S k → SR B w k) : ChgR B w w1 := h.mono hS
theorem ChgR.of_below (h : Below w.heap.size w w1) : ChgR B w w1 := Chg.of_below h
theorem ChgR.trans (h : ChgR B w w1) (k : ChgR B w1 w2) : ChgR B w w2 := by
  refine Chg.trans' h k fun i hi ⟨hB, t, ht, hh⟩ => ⟨hB, ?_⟩
  refine Classical.byContradiction fun hn => hn ?_
  by_cases hS : SR B w i
  · exact hS.2
  · obtain ⟨cs, fr, e⟩ := hh
    exact ⟨t, ht, cs, fr, (h.block i hi hS).symm.trans e⟩
theorem ChgR.below (h : ChgR B w w1) (k : Below w1.heap.size w1 w2) : ChgR B w w2 := h.trans (.of_below k)
theorem ChgR.after {w0 : World} (h : ChgR B w w1) (hb : Below B w0 w) (hB : B ≤ w.heap.size) : Below B w0 w1 := Chg.toBelow h hb (fun _ hk => hk.1) hB
/-- the reference stays through the device's acts -/
theorem RfAt.keepN (h : RfAt w B R G kept L kA kc lA lc) (hG : Has w G 5) (hc : ChgN B G w w1) : RfAt w1 B R G kept L kA kc lA lc := by
  have hTd : ¬ TN 48 := by rintro (e | e | e) <;> exact absurd e (by decide)
  have hTp : ¬ TN 50 := by rintro (e | e | e) <;> exact absurd e (by decide)
  have hT8 : ¬ TN 5 := by rintro (e | e | e) <;> exact absurd e (by decide)
  refine ⟨h.dev.keep hc (SN.not h.dev.has hTd (h.dev.has.ne hG (by decide))), h.kep.keepC hc fun ad e => SN.not (h.has ad e).1 hT8 (h.has ad e).2, h.kcl, fun ad e => ⟨(h.has ad e).1.keep hc (SN.not (h.has ad e).1 hT8 (h.has ad e).2), (h.has ad e).2⟩, own_keepC h.row hc fun g hg => ?_, h.low⟩
  cases hA : lA with
  | none => simp [hA, Value.ownBlock] at hg
  | some ad =>
    simp [hA, Value.ownBlock] at hg
    rw [← hg]
    have := own_has h.row ad hA
    exact SN.not this hTp (this.ne hG (by decide))
theorem RfAt.below (h : RfAt w B R G kept L kA kc lA lc) (hb : Below w.heap.size w w1) : RfAt w1 B R G kept L kA kc lA lc := by
  have hc : Chg (fun _ => False) w w1 := .of_below hb
  exact ⟨h.dev.below' hb, h.kep.below hb, h.kcl, fun ad e => ⟨(h.has ad e).1.keep hc (fun h => h), (h.has ad e).2⟩, own_keepC h.row hc (fun _ _ h => h), h.low⟩
/-- the device stays through the reference's acts -/
theorem NvAt.keepR {bs : List UInt8} {us : List Un} {uA : Option Addr} {uc : Nat} (h : NvAt w B D P G bs us uA uc) (hc : ChgR B w w1) : NvAt w1 B D P G bs us uA uc :=
  h.keep hc fun k hk => by
    obtain ⟨_, t, ht, hh⟩ := hk
    refine ⟨t, hh, ?_⟩
    rcases ht with rfl | rfl <;> exact ⟨by decide, by decide, by decide, by decide, by decide⟩
theorem SR.not {k : Nat} {t : TypeId} (h : Has w k t) (ht : ¬ TR t) : ¬ SR B w k := by
  rintro ⟨_, t', h1, h2⟩
  refine (h.ne h2 fun e => ?_) rfl
  subst e
  exact ht h1
theorem PwAt.keepR {off : Bool} {armed writes : Nat} {picks devs : Value} (h : PwAt w P off armed picks writes devs) (hc : ChgR B w w1) : PwAt w1 P off armed picks writes devs :=
  ⟨h.blk.keep hc (SR.not h.blk.has (by rintro (e | e) <;> exact absurd e (by decide)))⟩
end
theorem run_mkb (n : Nat) (hn : n ≤ 67108864) (W : World) : (Instr.makeSlice 35 (.int .i64 (n : Nat)) (.int .i64 (n : Nat))).run Try.prog W = .ok (.slice (some ⟨W.heap.size, 0, none⟩) n n) (W.alloc (.cells (byts (List.replicate n 0)).toArray 5)) := by
  have := run_mk slB rfl .i64 .i64 n n (Nat.le_refl _) (by omega) (by omega) W
  rw [show byts (List.replicate n 0) = List.replicate n (.int .u8 0) from by simp [byts, byt]]
  exact this
theorem refNew_ok (w : World) (B G n : Nat) (h1 : 64 ≤ n) (h2 : n ≤ 67108864) (hB : B ≤ w.heap.size) (hG : G < w.heap.size) :
    Calls Try.prog 17 #[.int .i64 (n : Nat)] w fun e w' => ∃ R, e = .returned (.tuple #[.pointer (some ⟨R, 0, none⟩), .int .i64 0]) ∧ (∃ kA kc lA lc, RfAt w' B R G (List.replicate n 0) [] kA kc lA lc) ∧ Below w.heap.size w w' := by
  have hmk := run_mkb n h2
  have k1 : ¬ (n : Int) < 64 := by omega
  have k2 : ¬ 67108864 < (n : Int) := by omega
  have hf : RfAt ((w.alloc (.cells (byts (List.replicate n 0)).toArray 5)).alloc (.cells #[.slice (some ⟨w.heap.size, 0, none⟩) n n, .slice none 0 0] 48)) B (w.heap.size + 1) G (List.replicate n 0) [] (some ⟨w.heap.size, 0, none⟩) n none 0 := by
    have hb := Blk.new (w.alloc (.cells (byts (List.replicate n 0)).toArray 5)) 48 #[.slice (some ⟨w.heap.size, 0, none⟩) n n, .slice none 0 0]
    have hk := (Blk.new w 5 (byts (List.replicate n 0)).toArray).alloc (.cells #[.slice (some ⟨w.heap.size, 0, none⟩) n n, .slice none 0 0] 48)
    refine ⟨by simpa using hb, ?_, by simp, fun ad e => ?_, World.ownsRow_nil _ _ _ _, by omega⟩
    · have := Rd.of_block hk
      simpa using this
    · injection e with e
      subst e
      exact ⟨hk.has, by simp; omega⟩
  generalize byts (List.replicate n 0) = zb at *
  go_enter Try.func17, Try.ntmps17
  go_wp2
  go_ret2
  exact ⟨w.heap.size + 1, rfl, ⟨_, _, _, _, hf⟩, ((Below.refl _ _).alloc (Nat.le_refl _) _).alloc (by simp) _⟩
theorem nvNew_ok (w : World) (B P n : Nat) (h1 : 64 ≤ n) (h2 : n ≤ 67108864) (hB : B ≤ w.heap.size) (off : Bool) (armed writes : Nat) (picks : Value) (hp : PwAt w P off armed picks writes (.slice none 0 0)) :
    Calls Try.prog 15 #[.pointer (some ⟨P, 0, none⟩), .int .i64 (n : Nat)] w fun e w' => ∃ D G, e = .returned (.tuple #[.pointer (some ⟨D, 0, none⟩), .int .i64 0]) ∧ NvAt w' B D P G (List.replicate n 0) [] none 0 ∧ (∃ A c, PwAt w' P off armed picks writes (.slice A 1 c) ∧ w'.ownsRow w.heap.size 146 1 (.slice A 1 c) 1 [devV D]) ∧ w.heap.size ≤ G ∧ Chg (fun k => k = P) w w' := by
  have hmk := run_mkb n h2
  have k1 : ¬ (n : Int) < 64 := by omega
  have k2 : ¬ 67108864 < (n : Int) := by omega
  have hd : NvAt ((w.alloc (.cells (byts (List.replicate n 0)).toArray 5)).alloc (.cells #[.pointer (some ⟨P, 0, none⟩), .slice (some ⟨w.heap.size, 0, none⟩) n n, .slice none 0 0] 94)) B (w.heap.size + 1) P w.heap.size (List.replicate n 0) [] none 0 := by
    have hb := Blk.new (w.alloc (.cells (byts (List.replicate n 0)).toArray 5)) 94 #[.pointer (some ⟨P, 0, none⟩), .slice (some ⟨w.heap.size, 0, none⟩) n n, .slice none 0 0]
    have hk := (Blk.new w 5 (byts (List.replicate n 0)).toArray).alloc (.cells #[.pointer (some ⟨P, 0, none⟩), .slice (some ⟨w.heap.size, 0, none⟩) n n, .slice none 0 0] 94)
    exact ⟨by simpa using hb, hk, World.ownsRow_nil _ _ _ _, fun u hu => by simp at hu, by omega, hB⟩
  have hb1 : Below w.heap.size w ((w.alloc (.cells (byts (List.replicate n 0)).toArray 5)).alloc (.cells #[.pointer (some ⟨P, 0, none⟩), .slice (some ⟨w.heap.size, 0, none⟩) n n, .slice none 0 0] 94)) := ((Below.refl _ _).alloc (Nat.le_refl _) _).alloc (by simp) _
  have hat := attach_any _ P (w.heap.size + 1) off armed writes picks (hp.below hb1)
  have hPh := (hp.below hb1).blk.has
  generalize byts (List.replicate n 0) = zb at *
  unfold devV at hat
  go_enter Try.func15, Try.ntmps15
  go_wp2_with (go_at_call 50; refine hat.mono ?_; rintro e w3 ⟨rfl, A, c, hp3, ho3, hc3⟩)
  go_ret2
  exact ⟨w.heap.size + 1, w.heap.size, rfl, hd.keepP hPh hc3, ⟨A, c, hp3, own_mono ho3 hb1.size⟩, Nat.le_refl _, Chg.trans (Chg.of_below hb1) hc3⟩
theorem fits_any (w : World) (B R G : Nat) (kept : List UInt8) (L : List (Nat × UInt8)) (kA : Option Addr) (kc : Nat) (lA : Option Addr) (lc : Nat) (h : RfAt w B R G kept L kA kc lA lc) (hbl : kept.length ≤ 67108864) (a m : Int) (hm : 0 ≤ m) :
    Calls Try.prog 18 #[.pointer (some ⟨R, 0, none⟩), .int .i64 a, .int .i64 m] w fun e w' => e = .returned (.bool (fitsB kept.length a m)) ∧ w = w' := by
  have c1 : w.cell? ⟨R, 0, none⟩ = some (.slice kA kept.length kc) := h.dev.cell 0
  unfold fitsB
  by_cases h1 : 0 ≤ a
  · by_cases h2 : a ≤ (kept.length : Int)
    · have h4 : wrap64 ((kept.length : Int) - a) = (kept.length : Int) - a := IntWalk.wrap64_in _ (by omega)
      go_enter Try.func18, Try.ntmps18
      go_wp2
      go_ret
      exact ⟨by simp [h1, h2, hm], rfl⟩
    · go_enter Try.func18, Try.ntmps18
      go_wp2
      go_ret
      exact ⟨by simp; omega, rfl⟩
  · go_enter Try.func18, Try.ntmps18
    go_wp2
    go_ret
    exact ⟨by simp; omega, rfl⟩
end Go.Proofs.Ytadgaphgomagkaa
