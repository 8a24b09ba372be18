/- Mediums: plain words; the table; New, Deep. -/
import Derived.Test.YtppfjdohajomoaaMa
import Derived.Test.YtppfjdohajomoaaFa
import Derived.Deep.LoopGhost
import Derived.Deep.RegionWith
import Derived.Outline
import Derived.Deep.DeepCutAuto
namespace Go.Proofs.Ytppfjdohajomoaa
open Go.RowKit
set_option maxHeartbeats 1000000
set_option maxRecDepth 100000

/-- mediums are within their bounds -/
def WFm (f : Nat → Option Med) : Prop := ∀ i m, f i = some m → m.id < 18446744073709551616 ∧ m.tgt < 18446744073709551616 ∧ 0 ≤ m.at_ ∧ m.at_ ≤ 1048576 ∧ 1 ≤ m.size ∧ m.size ≤ 1048576

/-- the table T, its map in block M -/
structure TabAt (w : World) (T M depth next n : Nat) (f : Nat → Option Med) : Prop where
  blk : Blk w T 128 #[.int .i64 (depth : Nat), .int .u64 (next : Nat), .map (some M)]
  mp : MpOf w M n f
  ne : T ≠ M
section
variable {w w' : World} {T M depth next n : Nat} {f : Nat → Option Med}
theorem TabAt.drew (h : TabAt w T M depth next n f) : TabAt w.drew T M depth next n f := ⟨h.blk, h.mp, h.ne⟩
theorem TabAt.drewN (h : TabAt w T M depth next n f) (k : Nat) : TabAt (w.drewN k) T M depth next n f := ⟨h.blk, h.mp, h.ne⟩
theorem TabAt.below (h : TabAt w T M depth next n f) (hb : Below w.heap.size w w') : TabAt w' T M depth next n f := ⟨h.blk.below' hb, h.mp.below hb h.mp.lt, h.ne⟩
theorem TabAt.alloc (h : TabAt w T M depth next n f) (o : Obj) : TabAt (w.alloc o) T M depth next n f := ⟨h.blk.alloc o, h.mp.alloc o, h.ne⟩
theorem TabAt.c0 (h : TabAt w T M depth next n f) : w.cell? ⟨T, 0, none⟩ = some (.int .i64 (depth : Nat)) := h.blk.cell 0
theorem TabAt.c1 (h : TabAt w T M depth next n f) : w.cell? ⟨T, 1, none⟩ = some (.int .u64 (next : Nat)) := h.blk.cell 1
theorem TabAt.c2 (h : TabAt w T M depth next n f) : w.cell? ⟨T, 2, none⟩ = some (.map (some M)) := h.blk.cell 2
end

/-- how many mediums are gone through -/
def deepL (f : Nat → Option Med) (depth : Nat) : Nat → Option Med → Nat → Nat
  | 0, _, k => k
  | _ + 1, none, k => k
  | j + 1, some x, k => if k ≤ depth then deepL f depth j (f x.tgt) (k + 1) else k
def deepP (f : Nat → Option Med) (depth id : Nat) : Nat := deepL f depth (depth + 1) (f id) 0

def Med.cells (m : Med) : Array Value := #[.int .u64 (m.id : Nat), .int .u64 (m.tgt : Nat), .int .i64 m.at_, .int .i64 m.size, .bool m.fixed]
theorem Med.val_eq (m : Med) : m.val = .agg m.cells := rfl
theorem blk_set5 {w : World} {g : Nat} {t : TypeId} {z0 z1 z2 z3 z4 : Value} (h : Blk w g t #[z0, z1, z2, z3, z4]) (a b c d e : Value) :
    Blk (((((w.setCell ⟨g, 0, none⟩ a).setCell ⟨g, 1, none⟩ b).setCell ⟨g, 2, none⟩ c).setCell ⟨g, 3, none⟩ d).setCell ⟨g, 4, none⟩ e) g t #[a, b, c, d, e] := by
  have := ((((h.set 0 a).set 1 b).set 2 c).set 3 d).set 4 e
  simpa using this
theorem below_set5 {B : Nat} {w0 w : World} (h : Below B w0 w) {g : Nat} (hg : B ≤ g) (a b c d e : Value) :
    Below B w0 (((((w.setCell ⟨g, 0, none⟩ a).setCell ⟨g, 1, none⟩ b).setCell ⟨g, 2, none⟩ c).setCell ⟨g, 3, none⟩ d).setCell ⟨g, 4, none⟩ e) :=
  ((((h.setCell hg _).setCell hg _).setCell hg _).setCell hg _).setCell hg _

theorem stMed : StT Try.prog 130 5 := ⟨⟨_, Try.underlying130⟩, by kernel_rfl⟩

theorem medNew_any (depth : Int) (w : World) (h1 : 1 ≤ depth) (h2 : depth ≤ 64) :
    Calls Try.prog 16 #[.int .i64 depth] w fun e w' => ∃ T M, e = .returned (.tuple #[.pointer (some ⟨T, 0, none⟩), .int .i64 0]) ∧ TabAt w' T M depth.toNat 1 0 (fun _ => none) ∧ w.heap.size ≤ T ∧ w.heap.size ≤ M ∧ Below w.heap.size w w' := by
  have hmm := @run_makeMap Try.prog
  obtain ⟨d, rfl⟩ : ∃ d : Nat, depth = (d : Int) := ⟨depth.toNat, by omega⟩
  go_enter Try.func16, Try.ntmps16
  go_wp2
  go_ret2
  refine ⟨w.heap.size + 1, w.heap.size, rfl, ⟨?_, (MpOf.made w).alloc _, by omega⟩, by omega, by omega, ((Below.refl _ _).alloc (Nat.le_refl _) _).alloc (by simp) _⟩
  have := Blk.new (w.alloc (.map #[] 0)) 128 #[.int .i64 (d : Nat), .int .u64 1, .map (some w.heap.size)]
  simpa using this

theorem deep_any (T M depth next n id : Nat) (f : Nat → Option Med) (w : World) (h : TabAt w T M depth next n f) (hf : WFm f) (hd : depth ≤ 64) (hid : id < 18446744073709551616) :
    Calls Try.prog 19 #[.pointer (some ⟨T, 0, none⟩), .int .u64 (id : Nat)] w fun e w' => e = .returned (.int .i64 (deepP f depth id : Nat)) ∧ Below w.heap.size w w' := by
  have hc2 := h.c2
  have hlk := h.mp.look hid
  unfold deepP
  generalize hR : deepL f depth (depth + 1) (f id) 0 = R
  have HR := Lib.hid hR
  clear hR
  generalize hcur : f id = cur at *
  have hct : ∀ m, cur = some m → m.tgt < 18446744073709551616 := fun m hm => (hf id m (hcur ▸ hm)).2.1
  clear hcur
  unfold Med.val at hlk
  have hz : Blk (w.alloc (.cells (cur.getD Med.zero).cells 130)) w.heap.size 130 (cur.getD Med.zero).cells := Blk.new _ _ _
  have hb0 : Below w.heap.size w (w.alloc (.cells (cur.getD Med.zero).cells 130)) := (Below.refl _ _).alloc (Nat.le_refl _) _
  go_enter Try.func19, Try.ntmps19
  go_wp2
  clear hlk hc2
  go_loopw [5, 6, 7] (fun s5 s6 s7 wr => ∃ (k : Nat) (c : Option Med) (g : Nat), s5 = .int .i64 (k : Nat) ∧ k ≤ depth + 1 ∧ s6 = .pointer (some ⟨g, 0, none⟩) ∧ s7 = .bool c.isSome ∧ Blk wr g 130 (c.getD Med.zero).cells ∧ w.heap.size ≤ g ∧ (∀ m, c = some m → m.tgt < 18446744073709551616) ∧ Below w.heap.size w wr ∧ deepL f depth (depth + 1 - k) c k = R)
    (fun s5 _ _ _ => depth + 1 - (intOf s5).toNat)
  case atStart => exact ⟨0, cur, w.heap.size, rfl, by omega, rfl, rfl, hz, Nat.le_refl _, hct, hb0, HR.out⟩
  case round =>
    obtain ⟨k, c, g, rfl, hk, rfl, rfl, hB, hg, hct, hbw, hR⟩ := hrel
    clear HR hz hb0
    have hT := h.below hbw
    cases c with
    | none =>
      have hRk : R = k := by rw [← hR]; cases (depth + 1 - k) <;> rfl
      subst hRk
      clear hR
      go_wp2
      go_ret
      exact ⟨rfl, hbw⟩
    | some x =>
      obtain ⟨xi, xt, xa, xs, xf⟩ := x
      have hxt : xt < 18446744073709551616 := hct _ rfl
      by_cases hkd : k ≤ depth
      · obtain ⟨j, hj⟩ : ∃ j, depth + 1 - k = j + 1 := ⟨depth - k, by omega⟩
        have hj' : depth + 1 - (k + 1) = j := by omega
        rw [hj, deepL, if_pos hkd] at hR
        have HR := Lib.hid hR
        have Hj := Lib.hid hj
        have Hj' := Lib.hid hj'
        clear hR hj hj'
        have hkd' : (k : Int) ≤ (depth : Int) := by omega
        have hc0 := hT.c0
        simp only [Option.getD_some, Med.cells] at hB
        go_upto_region 4 with ((with_reducible show wpList _ _ _ (Oper.mk _ (Op.load _ _) _ _ _ _ :: _) _ _); refine wpList_ld rfl 130 _ rfl stMed g rfl _ _ hB rfl ?_)
        have hTa := hT.alloc (.cells #[.int .u64 (xi : Nat), .int .u64 (xt : Nat), .int .i64 xa, .int .i64 xs, .bool xf] 130)
        have hB1 := Blk.new wr 130 #[.int .u64 (xi : Nat), .int .u64 (xt : Nat), .int .i64 xa, .int .i64 xs, .bool xf]
        have hbV : Below w.heap.size w (wr.alloc (.cells #[.int .u64 (xi : Nat), .int .u64 (xt : Nat), .int .i64 xa, .int .i64 xs, .bool xf] 130)) := hbw.alloc hbw.size _
        have hgg : w.heap.size ≤ wr.heap.size := hbw.size
        generalize wr.alloc (.cells #[.int .u64 (xi : Nat), .int .u64 (xt : Nat), .int .i64 xa, .int .i64 xs, .bool xf] 130) = V at *
        generalize wr.heap.size = g2 at *
        have hl := hTa.drew.mp.look hxt
        have hc2 := hTa.c2
        have hct' : ∀ m, f xt = some m → m.tgt < 18446744073709551616 := fun m hm => (hf xt m hm).2.1
        generalize f xt = c' at *
        unfold Med.val at hl
        have x0 : V.cell? ⟨g2, 0, none⟩ = some (.int .u64 (xi : Nat)) := hB1.cell 0
        have x1 : V.cell? ⟨g2, 1, none⟩ = some (.int .u64 (xt : Nat)) := hB1.cell 1
        have x2 : V.cell? ⟨g2, 2, none⟩ = some (.int .i64 xa) := hB1.cell 2
        have x3 : V.cell? ⟨g2, 3, none⟩ = some (.int .i64 xs) := hB1.cell 3
        have x4 : V.cell? ⟨g2, 4, none⟩ = some (.bool xf) := hB1.cell 4
        have z0 : V.frozen? ⟨g2, 0, none⟩ = false := hB1.frozen 0
        have z1 : V.frozen? ⟨g2, 1, none⟩ = false := hB1.frozen 1
        have z2 : V.frozen? ⟨g2, 2, none⟩ = false := hB1.frozen 2
        have z3 : V.frozen? ⟨g2, 3, none⟩ = false := hB1.frozen 3
        have z4 : V.frozen? ⟨g2, 4, none⟩ = false := hB1.frozen 4
        go_region
        all_goals
          go_wp2
          go_roundw
          case rel => exact ⟨k + 1, c', g2, by go_num, by omega, rfl, rfl, (blk_set5 hB1 _ _ _ _ _).drew, hgg, hct', (below_set5 hbV hgg _ _ _ _ _).drew, by rw [Hj'.out]; exact HR.out⟩
          case measure => simp [intOf]; omega
      · have hRk : R = k := by
          obtain rfl : k = depth + 1 := by omega
          rw [← hR, Nat.sub_self]
          rfl
        subst hRk
        have hkd' : ¬ (R : Int) ≤ (depth : Int) := by omega
        have hc0 := hT.c0
        clear hR hkd
        go_wp2
        go_ret
        exact ⟨rfl, hbw⟩
end Go.Proofs.Ytppfjdohajomoaa
