/- The abstract array: a block's bytes. -/
import Derived.Test.YthhpcilinkebeaaDoorHi
import Derived.Test.YthhpcilinkebeaaDoorHv
namespace Go.Proofs.YthhpcilinkebeaaDoor
open Go.RowKit Go.Maps
set_option maxHeartbeats 4000000
set_option maxRecDepth 100000

theorem run_mkb (n : Nat) (hn : n ≤ 67108864) (W : World) : (Instr.makeSlice 31 (.int .i64 (n : Nat)) (.int .i64 (n : Nat))).run Tryd.prog W = .ok (.slice (some ⟨W.heap.size, 0, none⟩) n n) (W.alloc (.cells (byts (List.replicate n 0)).toArray 5)) := by
  have := run_mk slB rfl .i64 .i64 n n (Nat.le_refl _) (by omega) (by omega) W
  rw [show byts (List.replicate n 0) = List.replicate n (.int .u8 0) from by simp [byts, byt]]
  exact this
theorem zeroRow (w : World) : (zeroValue 31).run Tryd.prog w = .ok (.slice none 0 0) w := by kernel_rfl
/-- bytes that a call has made -/
def FreshB (w w' : World) (A : Option Addr) (c : Nat) (l : Bts) : Prop := Rd w' A (byts l) ∧ l.length ≤ c ∧ ∀ ad, A = some ad → w.heap.size ≤ ad.block ∧ Has w' ad.block 5
def BlockPost (w : World) (r : Option Bts) (e : Ending) (w' : World) : Prop := Below w.heap.size w w' ∧ match r with
  | none => e = .returned (.tuple #[.slice none 0 0, .bool false])
  | some l => ∃ A c, e = .returned (.tuple #[.slice A l.length c, .bool true]) ∧ FreshB w w' A c l
def blockV (block : Nat) (v : Option VV) (i : Int) : Option Bts := match v with
  | none => none
  | some v => if 0 ≤ i ∧ i < v.size then some (bytesV block v i) else none
section
variable {w : World} {A M block quota : Nat} {ms : List VM}
theorem FreshB.of_own {w' : World} {base : Nat} {A : Option Addr} {c : Nat} {l : Bts} (h : w'.ownsRow base 5 1 (.slice A l.length c) l.length (byts l)) (hb : w.heap.size ≤ base) : FreshB w w' A c l := by
  refine ⟨Rd.of_own h, ?_, fun ad e => ?_⟩
  · rcases h.2 with ⟨h0, h1⟩ | ⟨g, cap, cur, h0, _, _, h3, _⟩
    · omega
    · injection h0 with _ _ e; omega
  · rcases h.2 with ⟨h0, h1⟩ | ⟨g, cap, cur, h0, hbg, hg, _⟩
    · injection h0 with e1; rw [e1] at e; cases e
    · injection h0 with e1
      rw [e1] at e
      injection e with e
      subst e
      exact ⟨Nat.le_trans hb hbg, cur, _, hg⟩
theorem block_any (h : ArrAt w A M block quota ms) (s : ByteArray) (hs : s.size ≤ 1048576) (i : Int) (hi : I64 i) :
    Calls Tryd.prog 15 #[.pointer (some ⟨A, 0, none⟩), .string s, .int .i64 i] w (BlockPost w (blockV block ((getM ms (strB s)).map VM.vv) i)) := by
  have a0 : w.cell? ⟨A, 0, none⟩ = some (.int .i64 (block : Nat)) := h.blk.cell 0
  have a2 : w.cell? ⟨A, 2, none⟩ = some (.map (some M)) := h.blk.cell 2
  have hlk := h.look s hs
  have hb1 := h.b1
  have hb2 := h.b2
  cases hg : getM ms (strB s) with
  | none =>
    rw [hg] at hlk
    simp only [Option.map_none, Option.getD_none, Option.isSome_none] at hlk
    clear hg
    go_enter Tryd.func15, Tryd.ntmps15
    go_wp2_with fail
    go_ret2
    exact ⟨Below.refl _ _, rfl⟩
  | some m =>
    rw [hg] at hlk
    simp only [Option.map_some, Option.getD_some, Option.isSome_some] at hlk
    obtain ⟨hmem, _⟩ := getM_mem hg
    have hv := h.vol m hmem
    unfold VM.ptr at hlk
    have v0 : w.cell? ⟨m.V, 0, none⟩ = some (.int .i64 (m.size : Nat)) := hv.blk.cell 0
    have v2 : w.cell? ⟨m.V, 2, none⟩ = some (.map (some m.Bm)) := hv.blk.cell 2
    have hf := hv.few
    clear hg
    by_cases h1 : i < 0
    · have HB : Hid (blockV block (some m.vv) i = none) := Lib.hid (by unfold blockV; simp only; rw [if_neg (by omega)])
      simp only [Option.map_some]
      rw [HB.out]
      go_enter Tryd.func15, Tryd.ntmps15
      go_wp2_with fail
      go_ret2
      exact ⟨Below.refl _ _, rfl⟩
    by_cases h2 : (m.size : Int) ≤ i
    · have HB : Hid (blockV block (some m.vv) i = none) := Lib.hid (by unfold blockV; simp only; rw [if_neg (by simp only [VM.vv]; omega)])
      simp only [Option.map_some]
      rw [HB.out]
      go_enter Tryd.func15, Tryd.ntmps15
      go_wp2_with fail
      go_ret2
      exact ⟨Below.refl _ _, rfl⟩
    have HB : Hid (blockV block (some m.vv) i = some (bytesV block m.vv i)) := Lib.hid (by unfold blockV; simp only; rw [if_pos (by simp only [VM.vv]; omega)])
    simp only [Option.map_some]
    rw [HB.out]
    clear HB
    have hmk := run_mkb block (by omega) w
    have hx := (Below.refl w.heap.size w).alloc (Nat.le_refl _) (.cells (byts (List.replicate block 0)).toArray 5)
    have v2' : (w.alloc (.cells (byts (List.replicate block 0)).toArray 5)).cell? ⟨m.V, 2, none⟩ = some (.map (some m.Bm)) := (hv.below hx).blk.cell 2
    obtain ⟨n, hmp⟩ := (hv.below hx).mp
    have hl1 := hmp.look1 (x := i) (show -9223372036854775808 ≤ i ∧ i ≤ 9223372036854775807 from hi) (t := 93) (e := 31) Tryd.underlying93 (zeroRow _)
    have ho : (w.alloc (.cells (byts (List.replicate block 0)).toArray 5)).ownsRow w.heap.size 5 1 (.slice (some ⟨w.heap.size, 0, none⟩) block block) block (byts (List.replicate block 0)) := by
      have := own_mk (w := w) 5 (.int .u8 0) block block (Nat.le_refl _) (by unfold maxLen; omega)
      rwa [show byts (List.replicate block 0) = List.replicate block (.int .u8 0) from by simp [byts, byt]]
    simp only [kInt] at hl1
    cases hgi : m.g i with
    | none =>
      rw [hgi] at hl1
      simp only [Option.map_none, Option.getD_none] at hl1
      have HV : Hid (bytesV block m.vv i = List.replicate block 0) := Lib.hid (by unfold bytesV VM.vv; simp [hgi])
      have hcp : (Builtin.copy_ #[31, 31] 3 #[.slice (some ⟨w.heap.size, 0, none⟩) block block, .slice none 0 0]).run Tryd.prog (w.alloc (.cells (byts (List.replicate block 0)).toArray 5)) = .ok (.int .i64 0) (w.alloc (.cells (byts (List.replicate block 0)).toArray 5)) := run_copy_nil (hu := Tryd.underlying31) (hs := by kernel_rfl) ..
      clear hgi hmp
      go_enter Tryd.func15, Tryd.ntmps15
      go_wp2_with fail
      go_ret2
      refine ⟨hx, ?_⟩
      rw [HV.out]
      exact ⟨some ⟨w.heap.size, 0, none⟩, block, by simp, FreshB.of_own (by simpa using ho) (Nat.le_refl _)⟩
    | some sb =>
      rw [hgi] at hl1
      simp only [Option.map_some, Option.getD_some] at hl1
      obtain ⟨q1, q2, q3, q4⟩ := hv.ok i sb hgi
      have HV : Hid (bytesV block m.vv i = sb.l) := Lib.hid (by unfold bytesV VM.vv; simp [hgi])
      have hrd := q1.below hx
      unfold Sb.val at hl1
      clear hgi hmp q1 q4
      go_enter Tryd.func15, Tryd.ntmps15
      go_wp2_with ((with_reducible show wpList _ _ _ (Oper.mk _ (Op.call (Call.mk (Callee.builtin Builtin.copy) _ _)) _ _ _ _ :: _) _ _); refine wpList_copyv rfl _ _ rfl slB w.heap.size (some ⟨w.heap.size, 0, none⟩) block block _ rfl ho sb.A block sb.c (byts sb.l) rfl (by rw [byts_length]; exact q2) hrd (byts_one _) (by omega) (by omega) ?_; intro w9 ho9 hg9)
      go_ret2
      have hb9 := hx.trans (hg9.under ho (Nat.le_refl _) (by simp))
      refine ⟨hb9, ?_⟩
      rw [HV.out]
      refine ⟨some ⟨w.heap.size, 0, none⟩, block, by rw [q2]; rfl, FreshB.of_own (base := w.heap.size) ?_ (Nat.le_refl _)⟩
      have e : (byts (List.replicate block 0)).drop block = [] := by simp [byts]
      rw [e, List.append_nil] at ho9
      rw [q2]
      exact ho9
end
end Go.Proofs.YthhpcilinkebeaaDoor
