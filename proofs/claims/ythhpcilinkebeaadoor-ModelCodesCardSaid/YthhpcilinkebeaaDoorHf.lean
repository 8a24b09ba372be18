/- The abstract array in memory; all sizes; blocks within a volume. -/
import Derived.Test.YthhpcilinkebeaaDoorHc
namespace Go.Proofs.YthhpcilinkebeaaDoor
open Go.RowKit Go.Maps
set_option maxHeartbeats 4000000
set_option maxRecDepth 100000

/-- a volume in memory -/
structure VM where
  name : Bts
  V : Nat
  Bm : Nat
  size : Nat
  snap : Bool
  g : Int → Option Sb
def VM.vv (m : VM) : VV := ⟨m.size, m.snap, fun i => (m.g i).map Sb.l⟩
def VM.cells (m : VM) : Array Value := #[.int .i64 (m.size : Nat), .bool m.snap, .map (some m.Bm)]
def VM.ptr (m : VM) : Value := .pointer (some ⟨m.V, 0, none⟩)
def PgB (w : World) (block : Nat) (s : Sb) : Prop := Rd w s.A (byts s.l) ∧ s.l.length = block ∧ block ≤ s.c ∧ ∀ ad, s.A = some ad → Has w ad.block 5
structure VolAt (w : World) (block : Nat) (m : VM) : Prop where
  blk : Blk w m.V 95 m.cells
  mp : ∃ n, MpX kInt w m.Bm n (fun i => (m.g i).map Sb.val)
  ok : ∀ i s, m.g i = some s → PgB w block s
  dom : ∀ i s, m.g i = some s → 0 ≤ i ∧ i < m.size
  few : m.size ≤ 1048576
def getM (ms : List VM) (s : Bts) : Option VM := match ms with
  | [] => none
  | m :: r => if m.name = s then some m else getM r s
def MpF (ms : List VM) (s : Bts) : Option Value := (getM ms s).map VM.ptr
def usedM (ms : List VM) : Nat := (ms.map VM.size).sum
structure ArrAt (w : World) (A M block quota : Nat) (ms : List VM) : Prop where
  blk : Blk w A 80 #[.int .i64 (block : Nat), .int .i64 (quota : Nat), .map (some M)]
  mp : ∃ n, MpX kStr w M n (MpF ms)
  vol : ∀ m ∈ ms, VolAt w block m
  sorted : (ms.map VM.name).Pairwise (· < ·)
  vs : ∀ m ∈ ms, ∀ m' ∈ ms, m.V = m'.V → m.name = m'.name
  bs : ∀ m ∈ ms, ∀ m' ∈ ms, m.Bm = m'.Bm → m.name = m'.name
  bm : ∀ m ∈ ms, m.Bm ≠ M
  b1 : 1 ≤ block
  b2 : block ≤ 65536
  q : quota ≤ 1073741824
  few : ms.length ≤ 1024
  used : usedM ms ≤ quota
theorem PgB.below {w w' : World} {block : Nat} {s : Sb} (h : PgB w block s) (hb : Below w.heap.size w w') : PgB w' block s :=
  ⟨h.1.below hb, h.2.1, h.2.2.1, fun ad e => by obtain ⟨cs, fr, hc⟩ := h.2.2.2 ad e; exact ⟨cs, fr, (hb.block _ (Array.getElem?_eq_some_iff.1 hc).1).trans hc⟩⟩
theorem VolAt.below {w w' : World} {block : Nat} {m : VM} (h : VolAt w block m) (hb : Below w.heap.size w w') : VolAt w' block m :=
  ⟨h.blk.below' hb, let ⟨n, hn⟩ := h.mp; ⟨n, hn.below hb⟩, fun i s hi => (h.ok i s hi).below hb, h.dom, h.few⟩
theorem ArrAt.below {w w' : World} {A M block quota : Nat} {ms : List VM} (h : ArrAt w A M block quota ms) (hb : Below w.heap.size w w') : ArrAt w' A M block quota ms :=
  ⟨h.blk.below' hb, let ⟨n, hn⟩ := h.mp; ⟨n, hn.below hb⟩, fun m hm => (h.vol m hm).below hb, h.sorted, h.vs, h.bs, h.bm, h.b1, h.b2, h.q, h.few, h.used⟩
theorem ArrAt.drew {w : World} {A M block quota : Nat} {ms : List VM} (h : ArrAt w A M block quota ms) : ArrAt w.drew A M block quota ms := h.below (Below.refl _ _).drew
theorem getM_mem {ms : List VM} {s : Bts} {m : VM} (h : getM ms s = some m) : m ∈ ms ∧ m.name = s := by
  induction ms with
  | nil => cases h
  | cons x r ih =>
    rw [getM] at h
    split at h
    · rename_i e; injection h with h; subst h; exact ⟨by simp, e⟩
    · exact ⟨by simp [(ih h).1], (ih h).2⟩
theorem getM_of_mem {ms : List VM} (hs : (ms.map VM.name).Pairwise (· < ·)) {m : VM} (h : m ∈ ms) : getM ms m.name = some m := by
  induction ms with
  | nil => cases h
  | cons x r ih =>
    rw [getM]
    rw [List.map_cons, List.pairwise_cons] at hs
    rcases List.mem_cons.1 h with rfl | h1
    · rw [if_pos rfl]
    · have := hs.1 m.name (List.mem_map.2 ⟨m, h1, rfl⟩)
      rw [if_neg (fun e => by rw [e] at this; exact List.lt_irrefl _ this)]
      exact ih hs.2 h1
theorem getM_vv (ms : List VM) (s : Bts) : getV (ms.map fun m => (m.name, m.vv)) s = (getM ms s).map VM.vv := by
  induction ms with
  | nil => rfl
  | cons x r ih =>
    rw [List.map_cons, getV, getM]
    split
    · rfl
    · exact ih
theorem usedM_vv (ms : List VM) : usedV (ms.map fun m => (m.name, m.vv)) = usedM ms := by
  simp [usedV, usedM, List.map_map, Function.comp_def, VM.vv]
/-- the sizes of those that a range has told -/
def toldM (ms : List VM) (left : Bts → Bool) : Nat := ((ms.filter fun m => !left m.name).map VM.size).sum
theorem toldM_le (ms : List VM) (left : Bts → Bool) : toldM ms left ≤ usedM ms := by
  induction ms with
  | nil => simp [toldM]
  | cons x r ih =>
    unfold toldM usedM at *
    rw [List.filter_cons]
    split <;> simp only [List.map_cons, List.sum_cons] <;> omega
theorem toldM_all (ms : List VM) (left : Bts → Bool) (h : ∀ x, left x = false) : toldM ms left = usedM ms := by
  unfold toldM usedM
  rw [List.filter_eq_self.2]
  intro m _
  simp [h]
theorem toldM_step (ms : List VM) (hs : (ms.map VM.name).Pairwise (· < ·)) (left : Bts → Bool) (m : VM) (hm : m ∈ ms) (hl : left m.name = true) :
    toldM ms (fun y => left y && !decide (y = m.name)) = toldM ms left + m.size := by
  induction ms with
  | nil => cases hm
  | cons x r ih =>
    rw [List.map_cons, List.pairwise_cons] at hs
    have hne : ∀ y ∈ r, y.name ≠ x.name := fun y hy e => by
      have := hs.1 y.name (List.mem_map.2 ⟨y, hy, rfl⟩)
      rw [e] at this
      exact List.lt_irrefl _ this
    unfold toldM at *
    rcases List.mem_cons.1 hm with rfl | h1
    · have e : (r.filter fun y => !(left y.name && !decide (y.name = m.name))) = r.filter fun y => !left y.name := by
        refine List.filter_congr fun y hy => ?_
        simp [hne y hy]
      rw [List.filter_cons_of_pos (by simp), List.filter_cons_of_neg (by simp [hl]), e]
      simp only [List.map_cons, List.sum_cons]
      omega
    · have hxm : x.name ≠ m.name := fun e => hne m h1 e.symm
      have := ih hs.2 h1
      dsimp only at this
      rw [List.filter_cons, List.filter_cons]
      have e : (!(left x.name && !decide (x.name = m.name))) = !left x.name := by simp [hxm]
      rw [e]
      split
      · simp only [List.map_cons, List.sum_cons]; omega
      · exact this
theorem toldM_zero (ms : List VM) (left : Bts → Bool) (h : ∀ m ∈ ms, left m.name = true) : toldM ms left = 0 := by
  unfold toldM
  rw [List.filter_eq_nil_iff.2]
  · rfl
  · intro m hm
    simp [h m hm]

section
variable {w : World} {A M block quota : Nat} {ms : List VM}
theorem used_any (h : ArrAt w A M block quota ms) : Calls Tryd.prog 17 #[.pointer (some ⟨A, 0, none⟩)] w fun e w' => e = .returned (.int .i64 (usedM ms : Nat)) ∧ Below w.heap.size w w' := by
  have c2 := h.blk.cell 2
  obtain ⟨n, hmp⟩ := h.mp
  go_enter Tryd.func17, Tryd.ntmps17
  go_wp2_with ((with_reducible show wpList _ _ _ (Oper.mk _ (Op.range _ _) _ _ _ _ :: _) _ _); refine wpList_mxrg (κ := kStr) (e := 91) Tryd.underlying78 rfl _ rfl rfl hmp ?_; intro w1 cnt hrg hb1)
  generalize hr : w.heap.size = r at *
  have HR := Lib.hid hr
  clear hr
  go_frame
  go_loopw [3] (fun s3 wr => ∃ (left : Bts → Bool) (cnt : Nat), s3 = .int .i64 (toldM ms left : Nat) ∧ MpRX kStr wr M r n (MpF ms) left cnt ∧ Below r w wr) (fun s3 wr => wr.rangeLeft M r)
  case atStart =>
    refine ⟨_, _, ?_, hrg, hb1⟩
    rw [toldM_zero ms _ fun m hm => by rw [MpF, getM_of_mem h.sorted hm]; rfl]
    rfl
  case round =>
    obtain ⟨left, cnt', rfl, hrg', hbw⟩ := hrel
    clear hmp hrg hb1 c2
    have hA := h.below (HR.out ▸ hbw)
    have hleft := hrg'.left_eq
    have hq := h.q
    have hu := h.used
    go_wp2_with (at_next; refine wpList_mxnext (κ := kStr) rfl _ rfl rfl hrg' ?_ ?_)
    · intro hl0
      have HL := Lib.hid (toldM_all ms left hl0)
      go_wp2_with fail
      go_ret
      exact ⟨by rw [← HL.out]; rfl, HR.out ▸ hbw⟩
    · intro x v w2 cnt2 hox hfi hli hrg2 hlt hgr2 hen
      unfold MpF at hfi
      cases hgm : getM ms x with
      | none => rw [hgm] at hfi; cases hfi
      | some m =>
        rw [hgm] at hfi
        injection hfi with hfi
        subst hfi
        obtain ⟨hm, rfl⟩ := getM_mem hgm
        have hst := toldM_step ms h.sorted left m hm hli
        have hle := toldM_le ms (fun y => left y && !decide (y = m.name))
        have hbw2 : Below r w w2 := hbw.trans ⟨hgr2.os, hgr2.tape, hgr2.output, hgr2.size, fun k hk => hgr2.block k (Nat.lt_of_lt_of_le hk (HR.out ▸ hbw.size)) (by intro e; injection e with e; omega)⟩
        have c0 : w2.cell? ⟨m.V, 0, none⟩ = some (.int .i64 (m.size : Nat)) := ((h.below (HR.out ▸ hbw2)).vol m hm).blk.cell 0
        simp only [VM.ptr, kStr] at hen ⊢
        obtain ⟨tn, htn⟩ : ∃ tn, toldM ms (fun y => left y && !decide (y = m.name)) = tn := ⟨_, rfl⟩
        rw [htn] at hst hle
        have kw : IntKind.i64.wrap ((toldM ms left : Int) + (m.size : Int)) = (tn : Int) := by rw [IntWalk.i64_in _ (by omega)]; omega
        have HTN := Lib.hid htn
        clear htn hst hgm
        go_wp2_with fail
        go_roundw
        case rel => exact ⟨_, _, by rw [HTN.out], hrg2, hbw2⟩
        case measure => rw [hrg2.left_eq, hleft]; exact hlt
end
end Go.Proofs.YthhpcilinkebeaaDoor
