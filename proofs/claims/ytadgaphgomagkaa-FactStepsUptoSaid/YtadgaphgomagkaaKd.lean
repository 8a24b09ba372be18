/- Facts compared; lists in order: the program's and the reference's. -/
import Derived.Test.YtadgaphgomagkaaKa
import Derived.Deep.RegionHeld3
import Derived.Deep.LoopGhost
namespace Go.Proofs.Ytadgaphgomagkaa
open Go.RowKit
set_option maxHeartbeats 4000000
set_option maxRecDepth 100000

theorem compare_any (a b : FM) (w : World) : Calls Try.prog 44 #[a.val, b.val] w fun e w' => e = .returned (.int .i64 (cmpF a b)) ∧ Below w.heap.size w w' := by
  unfold FM.val cmpF
  obtain ⟨ka, sa, aA, ac, al⟩ := a
  obtain ⟨kb, sb, bA, bc, bl⟩ := b
  simp only
  have h1 := Blk.new w 71 #[.string ka, .int .u64 (sa : Nat), .slice aA al.length ac]
  have h2 := (h1.alloc (.cells #[.string kb, .int .u64 (sb : Nat), .slice bA bl.length bc] 71)).drew
  have h3 := (Blk.new (w.alloc (.cells #[.string ka, .int .u64 (sa : Nat), .slice aA al.length ac] 71)) 71 #[.string kb, .int .u64 (sb : Nat), .slice bA bl.length bc]).drew
  have hb := ((Below.refl w.heap.size w).alloc (Nat.le_refl _) (.cells #[.string ka, .int .u64 (sa : Nat), .slice aA al.length ac] 71)).alloc (by simp) (.cells #[.string kb, .int .u64 (sb : Nat), .slice bA bl.length bc] 71)
  have hz : (w.alloc (.cells #[.string ka, .int .u64 (sa : Nat), .slice aA al.length ac] 71)).heap.size = w.heap.size + 1 := by simp
  rw [hz] at h3
  clear h1 hz
  go_enter Try.func44, Try.ntmps44
  go_wp2_with fail
  refine regCompare1 (ka := ka) (kb := kb) (sa := sa) (sb := sb) ⟨h2.cell 0, h2.cell 1, h3.cell 0, h3.cell 1⟩ ?_
  intro w2 _ _ _ _ _ _ _ _ _ _ _ _ hb2
  go_wp2_with fail
  go_ret
  exact ⟨rfl, hb.trans (hb2.mono hb.size)⟩
theorem refCompare_any (a b : FM) (w : World) : Calls Try.prog 45 #[a.val, b.val] w fun e w' => e = .returned (.int .i64 (cmpF a b)) ∧ Below w.heap.size w w' := by
  unfold FM.val cmpF orI cmpS cmpN sLt sGt
  obtain ⟨ka, sa, aA, ac, al⟩ := a
  obtain ⟨kb, sb, bA, bc, bl⟩ := b
  simp only
  have hb := ((Below.refl w.heap.size w).alloc (Nat.le_refl _) (.cells #[.string ka, .int .u64 (sa : Nat), .slice aA al.length ac] 71)).alloc (by simp) (.cells #[.string kb, .int .u64 (sb : Nat), .slice bA bl.length bc] 71)
  generalize hL : Op.bytesLess ka.toList kb.toList = L
  generalize hE : (ka.toList == kb.toList) = E
  have k1 : sb < sa ∨ ¬ sb < sa := Classical.em _
  cases L
  · cases E
    · go_enter Try.func45, Try.ntmps45
      go_wp2
      go_ret
      exact ⟨rfl, hb⟩
    · by_cases h1 : sb < sa
      · have d1 : decide (sb < sa) = true := by simpa using h1
        rw [if_pos h1]
        clear h1 k1
        go_enter Try.func45, Try.ntmps45
        go_wp2
        go_ret
        exact ⟨rfl, hb⟩
      · have d1 : decide (sb < sa) = false := by simpa using h1
        rw [if_neg h1]
        clear h1 k1
        by_cases h2 : sa < sb
        · have d2 : decide (sa < sb) = true := by simpa using h2
          rw [if_pos h2]
          clear h2
          go_enter Try.func45, Try.ntmps45
          go_wp2
          go_ret
          exact ⟨rfl, hb⟩
        · have d2 : decide (sa < sb) = false := by simpa using h2
          rw [if_neg h2]
          clear h2
          go_enter Try.func45, Try.ntmps45
          go_wp2
          go_ret
          exact ⟨rfl, hb⟩
  · go_enter Try.func45, Try.ntmps45
    go_wp2
    go_ret
    exact ⟨rfl, hb⟩
end Go.Proofs.Ytadgaphgomagkaa
/- Lists in order: the statements that draw their order. PRINTED by tools/regs_k.py. -/
namespace Go.Proofs.Ytadgaphgomagkaa
open Go.RowKit
set_option maxHeartbeats 8000000
set_option maxRecDepth 100000
def opsRight4 : Array Oper := #[{ dst := some 10, op := Op.move (Operand.tmp 0), type := 56, pos := "fact.go:29", after := #[], guard := none }, { dst := some 11, op := Op.move (Operand.tmp 3), type := 3, pos := "fact.go:29", after := #[], guard := none }, { dst := some 12, op := Op.binOp BinOp.sub 3 (Operand.tmp 11) (Operand.const (Value.int IntKind.i64 1)) 3, type := 3, pos := "fact.go:29", after := #[{ on := 1, ground := Ground.data }], guard := none }, { dst := some 13, op := Op.indexAddr 56 (Operand.tmp 10) (Operand.tmp 12), type := 0, pos := "fact.go:29", after := #[{ on := 0, ground := Ground.data }, { on := 2, ground := Ground.data }], guard := none }, { dst := some 14, op := Op.load 71 (Operand.tmp 13), type := 71, pos := "fact.go:29", after := #[{ on := 3, ground := Ground.data }], guard := none }, { dst := some 15, op := Op.move (Operand.tmp 0), type := 56, pos := "fact.go:29", after := #[], guard := none }, { dst := some 16, op := Op.move (Operand.tmp 3), type := 3, pos := "fact.go:29", after := #[], guard := none }, { dst := some 17, op := Op.indexAddr 56 (Operand.tmp 15) (Operand.tmp 16), type := 0, pos := "fact.go:29", after := #[{ on := 5, ground := Ground.data }, { on := 6, ground := Ground.data }], guard := none }, { dst := some 18, op := Op.load 71 (Operand.tmp 17), type := 71, pos := "fact.go:29", after := #[{ on := 7, ground := Ground.data }], guard := none }, { dst := some 19, op := Op.call { callee := Callee.value (Operand.func 44), args := #[Operand.tmp 14, Operand.tmp 18], argTypes := #[71, 71] }, type := 3, pos := "fact.go:29", after := #[{ on := 4, ground := Ground.data }, { on := 8, ground := Ground.data }], guard := none }, { dst := some 20, op := Op.binOp BinOp.geq 3 (Operand.tmp 19) (Operand.const (Value.int IntKind.i64 0)) 3, type := 4, pos := "fact.go:29", after := #[{ on := 9, ground := Ground.data }], guard := none }]
theorem regRight4 {u1 u2 u4 u5 u6 u7 u8 u9 u10 u11 u12 u13 u14 u15 u16 u17 u18 u19 u20 : Value} {DD : List Deferred} {Q : Exit → Act → World → Prop} {w : World} {ad : Addr} {c i : Nat} {l : List FM} (hi : i + 1 < l.length) (hl : l.length ≤ 9223372036854775807) (hr : Rd w.drew (some ad) (fcells l))
    (hend : ∀ (w2 : World) (x10 x11 x12 x13 x14 x15 x16 x17 x18 x19 : Value) (_ : Below w.heap.size w w2), Q .normal ⟨#[.slice (some ad) l.length c, u1, u2, .int .i64 ((i + 1 : Nat) : Nat), u4, u5, u6, u7, u8, u9, x10, x11, x12, x13, x14, x15, x16, x17, x18, x19, .bool (decide (0 ≤ cmpF l[i] l[i + 1]))], DD⟩ w2) :
    (Code.region 4 opsRight4 true).wp Try.prog Q ⟨#[.slice (some ad) l.length c, u1, u2, .int .i64 ((i + 1 : Nat) : Nat), u4, u5, u6, u7, u8, u9, u10, u11, u12, u13, u14, u15, u16, u17, u18, u19, u20], DD⟩ w := by
  have hb0 : Below w.heap.size w w.drew := (Below.refl _ _).drew
  refine wp_region_noPanic ?_
  refine wp_region_held_drew (S := fun W => Rd W (some ad) (fcells l)) (by kernel_rfl) (hr) (fun hHeld => ?_)
  refine wpAnyH_take (i := 0) (oi := (⟨some 10, Op.move (Operand.tmp 0), 56, "fact.go:29", #[], none⟩)) (v := .slice (some ad) l.length c) rfl (by kernel_rfl) (by kernel_rfl) (by kernel_rfl) (fun _ _ _ h => h) (Or.inl ⟨by kernel_rfl, fun _ _ => by kernel_rfl⟩) hHeld ?_
  simp only [Act.put, List.setIfInBounds_toArray, List.set_cons_zero, List.set_cons_succ]
  refine wpAnyH_take (i := 1) (oi := (⟨some 11, Op.move (Operand.tmp 3), 3, "fact.go:29", #[], none⟩)) (v := .int .i64 ((i + 1 : Nat) : Nat)) rfl (by kernel_rfl) (by kernel_rfl) (by kernel_rfl) (fun _ _ _ h => h) (Or.inl ⟨by kernel_rfl, fun _ _ => by kernel_rfl⟩) hHeld ?_
  simp only [Act.put, List.setIfInBounds_toArray, List.set_cons_zero, List.set_cons_succ]
  refine wpAnyH_take (i := 2) (oi := (⟨some 12, Op.binOp BinOp.sub 3 (Operand.tmp 11) (Operand.const (Value.int IntKind.i64 1)) 3, 3, "fact.go:29", #[{ on := 1, ground := Ground.data }], none⟩)) (v := .int .i64 (i : Nat)) rfl (by kernel_rfl) (by kernel_rfl) (by kernel_rfl) (fun _ _ _ h => h) (Or.inl ⟨by kernel_rfl, fun W _ => run_sub1_op (by kernel_rfl) (by kernel_rfl) (by omega)⟩) hHeld ?_
  simp only [Act.put, List.setIfInBounds_toArray, List.set_cons_zero, List.set_cons_succ]
  refine wpAnyH_take (i := 3) (oi := (⟨some 13, Op.indexAddr 56 (Operand.tmp 10) (Operand.tmp 12), 0, "fact.go:29", #[{ on := 0, ground := Ground.data }, { on := 2, ground := Ground.data }], none⟩)) (v := .pointer (some (ad.add (i * 3)))) rfl (by kernel_rfl) (by kernel_rfl) (by kernel_rfl) (fun _ _ _ h => h) (Or.inl ⟨by kernel_rfl, fun W hS => run_index_op (i := i) (n := l.length) (c := c) Try.underlying56 (by kernel_rfl) (by kernel_rfl) (by kernel_rfl) (by omega)⟩) hHeld ?_
  simp only [Act.put, List.setIfInBounds_toArray, List.set_cons_zero, List.set_cons_succ]
  refine wpAnyH_take (i := 4) (oi := (⟨some 14, Op.load 71 (Operand.tmp 13), 71, "fact.go:29", #[{ on := 3, ground := Ground.data }], none⟩)) (v := l[i].val) rfl (by kernel_rfl) (by kernel_rfl) (by kernel_rfl) (fun _ _ _ h => h) (Or.inl ⟨by kernel_rfl, fun W hS => run_loadS_op l[i].cells (by kernel_rfl) (by kernel_rfl) (by kernel_rfl) (facts_cells hS (i) (by omega))⟩) hHeld ?_
  simp only [Act.put, List.setIfInBounds_toArray, List.set_cons_zero, List.set_cons_succ]
  refine wpAnyH_take (i := 5) (oi := (⟨some 15, Op.move (Operand.tmp 0), 56, "fact.go:29", #[], none⟩)) (v := .slice (some ad) l.length c) rfl (by kernel_rfl) (by kernel_rfl) (by kernel_rfl) (fun _ _ _ h => h) (Or.inl ⟨by kernel_rfl, fun _ _ => by kernel_rfl⟩) hHeld ?_
  simp only [Act.put, List.setIfInBounds_toArray, List.set_cons_zero, List.set_cons_succ]
  refine wpAnyH_take (i := 6) (oi := (⟨some 16, Op.move (Operand.tmp 3), 3, "fact.go:29", #[], none⟩)) (v := .int .i64 ((i + 1 : Nat) : Nat)) rfl (by kernel_rfl) (by kernel_rfl) (by kernel_rfl) (fun _ _ _ h => h) (Or.inl ⟨by kernel_rfl, fun _ _ => by kernel_rfl⟩) hHeld ?_
  simp only [Act.put, List.setIfInBounds_toArray, List.set_cons_zero, List.set_cons_succ]
  refine wpAnyH_take (i := 7) (oi := (⟨some 17, Op.indexAddr 56 (Operand.tmp 15) (Operand.tmp 16), 0, "fact.go:29", #[{ on := 5, ground := Ground.data }, { on := 6, ground := Ground.data }], none⟩)) (v := .pointer (some (ad.add ((i + 1) * 3)))) rfl (by kernel_rfl) (by kernel_rfl) (by kernel_rfl) (fun _ _ _ h => h) (Or.inl ⟨by kernel_rfl, fun W hS => run_index_op (i := (i + 1)) (n := l.length) (c := c) Try.underlying56 (by kernel_rfl) (by kernel_rfl) (by kernel_rfl) (by omega)⟩) hHeld ?_
  simp only [Act.put, List.setIfInBounds_toArray, List.set_cons_zero, List.set_cons_succ]
  refine wpAnyH_take (i := 8) (oi := (⟨some 18, Op.load 71 (Operand.tmp 17), 71, "fact.go:29", #[{ on := 7, ground := Ground.data }], none⟩)) (v := l[(i + 1)].val) rfl (by kernel_rfl) (by kernel_rfl) (by kernel_rfl) (fun _ _ _ h => h) (Or.inl ⟨by kernel_rfl, fun W hS => run_loadS_op l[(i + 1)].cells (by kernel_rfl) (by kernel_rfl) (by kernel_rfl) (facts_cells hS ((i + 1)) (by omega))⟩) hHeld ?_
  simp only [Act.put, List.setIfInBounds_toArray, List.set_cons_zero, List.set_cons_succ]
  refine wpAnyH_ready (rs := [9]) (by kernel_rfl) (by simp) ?_
  refine AllReadyH.cons (o := (⟨some 19, Op.call { callee := Callee.value (Operand.func 44), args := #[Operand.tmp 14, Operand.tmp 18], argTypes := #[71, 71] }, 3, "fact.go:29", #[{ on := 4, ground := Ground.data }, { on := 8, ground := Ground.data }], none⟩)) rfl ?_ (AllReadyH.nil)
  · skip
    refine next_call (f := 44) (args := #[l[i].val, l[i + 1].val]) (by kernel_rfl) (by kernel_rfl) (compare_any _ _ w.drew) ?_
    rintro e w1 ⟨rfl, hb⟩
    have hbq1 := hb
    refine ⟨.int .i64 (cmpF l[i] l[i + 1]), rfl, (Rd.below) hHeld hbq1, fun hH1 => ?_⟩
    simp only [Act.put, List.setIfInBounds_toArray, List.set_cons_zero, List.set_cons_succ]
    refine wpAnyH_take (i := 10) (oi := (⟨some 20, Op.binOp BinOp.geq 3 (Operand.tmp 19) (Operand.const (Value.int IntKind.i64 0)) 3, 4, "fact.go:29", #[{ on := 9, ground := Ground.data }], none⟩)) (v := .bool (decide (0 ≤ cmpF l[i] l[i + 1]))) rfl (by kernel_rfl) (by kernel_rfl) (by kernel_rfl) (fun _ _ _ h => h) (Or.inl ⟨by kernel_rfl, fun W _ => run_geq0_op (by kernel_rfl) (by kernel_rfl)⟩) hH1 ?_
    simp only [Act.put, List.setIfInBounds_toArray, List.set_cons_zero, List.set_cons_succ]
    refine wpAnyH_done (by kernel_rfl) ?_ _
    exact NoPanic.normal (hend _ _ _ _ _ _ _ _ _ _ _ ((hb0).trans (hbq1.mono (hb0).size)))
def opsRefRight4 : Array Oper := #[{ dst := some 10, op := Op.move (Operand.tmp 0), type := 56, pos := "ref.go:45", after := #[], guard := none }, { dst := some 11, op := Op.move (Operand.tmp 3), type := 3, pos := "ref.go:45", after := #[], guard := none }, { dst := some 12, op := Op.binOp BinOp.sub 3 (Operand.tmp 11) (Operand.const (Value.int IntKind.i64 1)) 3, type := 3, pos := "ref.go:45", after := #[{ on := 1, ground := Ground.data }], guard := none }, { dst := some 13, op := Op.indexAddr 56 (Operand.tmp 10) (Operand.tmp 12), type := 0, pos := "ref.go:45", after := #[{ on := 0, ground := Ground.data }, { on := 2, ground := Ground.data }], guard := none }, { dst := some 14, op := Op.load 71 (Operand.tmp 13), type := 71, pos := "ref.go:45", after := #[{ on := 3, ground := Ground.data }], guard := none }, { dst := some 15, op := Op.move (Operand.tmp 0), type := 56, pos := "ref.go:45", after := #[], guard := none }, { dst := some 16, op := Op.move (Operand.tmp 3), type := 3, pos := "ref.go:45", after := #[], guard := none }, { dst := some 17, op := Op.indexAddr 56 (Operand.tmp 15) (Operand.tmp 16), type := 0, pos := "ref.go:45", after := #[{ on := 5, ground := Ground.data }, { on := 6, ground := Ground.data }], guard := none }, { dst := some 18, op := Op.load 71 (Operand.tmp 17), type := 71, pos := "ref.go:45", after := #[{ on := 7, ground := Ground.data }], guard := none }, { dst := some 19, op := Op.call { callee := Callee.value (Operand.func 45), args := #[Operand.tmp 14, Operand.tmp 18], argTypes := #[71, 71] }, type := 3, pos := "ref.go:45", after := #[{ on := 4, ground := Ground.data }, { on := 8, ground := Ground.data }], guard := none }, { dst := some 20, op := Op.binOp BinOp.geq 3 (Operand.tmp 19) (Operand.const (Value.int IntKind.i64 0)) 3, type := 4, pos := "ref.go:45", after := #[{ on := 9, ground := Ground.data }], guard := none }]
theorem regRefRight4 {u1 u2 u4 u5 u6 u7 u8 u9 u10 u11 u12 u13 u14 u15 u16 u17 u18 u19 u20 : Value} {DD : List Deferred} {Q : Exit → Act → World → Prop} {w : World} {ad : Addr} {c i : Nat} {l : List FM} (hi : i + 1 < l.length) (hl : l.length ≤ 9223372036854775807) (hr : Rd w.drew (some ad) (fcells l))
    (hend : ∀ (w2 : World) (x10 x11 x12 x13 x14 x15 x16 x17 x18 x19 : Value) (_ : Below w.heap.size w w2), Q .normal ⟨#[.slice (some ad) l.length c, u1, u2, .int .i64 ((i + 1 : Nat) : Nat), u4, u5, u6, u7, u8, u9, x10, x11, x12, x13, x14, x15, x16, x17, x18, x19, .bool (decide (0 ≤ cmpF l[i] l[i + 1]))], DD⟩ w2) :
    (Code.region 4 opsRefRight4 true).wp Try.prog Q ⟨#[.slice (some ad) l.length c, u1, u2, .int .i64 ((i + 1 : Nat) : Nat), u4, u5, u6, u7, u8, u9, u10, u11, u12, u13, u14, u15, u16, u17, u18, u19, u20], DD⟩ w := by
  have hb0 : Below w.heap.size w w.drew := (Below.refl _ _).drew
  refine wp_region_noPanic ?_
  refine wp_region_held_drew (S := fun W => Rd W (some ad) (fcells l)) (by kernel_rfl) (hr) (fun hHeld => ?_)
  refine wpAnyH_take (i := 0) (oi := (⟨some 10, Op.move (Operand.tmp 0), 56, "ref.go:45", #[], none⟩)) (v := .slice (some ad) l.length c) rfl (by kernel_rfl) (by kernel_rfl) (by kernel_rfl) (fun _ _ _ h => h) (Or.inl ⟨by kernel_rfl, fun _ _ => by kernel_rfl⟩) hHeld ?_
  simp only [Act.put, List.setIfInBounds_toArray, List.set_cons_zero, List.set_cons_succ]
  refine wpAnyH_take (i := 1) (oi := (⟨some 11, Op.move (Operand.tmp 3), 3, "ref.go:45", #[], none⟩)) (v := .int .i64 ((i + 1 : Nat) : Nat)) rfl (by kernel_rfl) (by kernel_rfl) (by kernel_rfl) (fun _ _ _ h => h) (Or.inl ⟨by kernel_rfl, fun _ _ => by kernel_rfl⟩) hHeld ?_
  simp only [Act.put, List.setIfInBounds_toArray, List.set_cons_zero, List.set_cons_succ]
  refine wpAnyH_take (i := 2) (oi := (⟨some 12, Op.binOp BinOp.sub 3 (Operand.tmp 11) (Operand.const (Value.int IntKind.i64 1)) 3, 3, "ref.go:45", #[{ on := 1, ground := Ground.data }], none⟩)) (v := .int .i64 (i : Nat)) rfl (by kernel_rfl) (by kernel_rfl) (by kernel_rfl) (fun _ _ _ h => h) (Or.inl ⟨by kernel_rfl, fun W _ => run_sub1_op (by kernel_rfl) (by kernel_rfl) (by omega)⟩) hHeld ?_
  simp only [Act.put, List.setIfInBounds_toArray, List.set_cons_zero, List.set_cons_succ]
  refine wpAnyH_take (i := 3) (oi := (⟨some 13, Op.indexAddr 56 (Operand.tmp 10) (Operand.tmp 12), 0, "ref.go:45", #[{ on := 0, ground := Ground.data }, { on := 2, ground := Ground.data }], none⟩)) (v := .pointer (some (ad.add (i * 3)))) rfl (by kernel_rfl) (by kernel_rfl) (by kernel_rfl) (fun _ _ _ h => h) (Or.inl ⟨by kernel_rfl, fun W hS => run_index_op (i := i) (n := l.length) (c := c) Try.underlying56 (by kernel_rfl) (by kernel_rfl) (by kernel_rfl) (by omega)⟩) hHeld ?_
  simp only [Act.put, List.setIfInBounds_toArray, List.set_cons_zero, List.set_cons_succ]
  refine wpAnyH_take (i := 4) (oi := (⟨some 14, Op.load 71 (Operand.tmp 13), 71, "ref.go:45", #[{ on := 3, ground := Ground.data }], none⟩)) (v := l[i].val) rfl (by kernel_rfl) (by kernel_rfl) (by kernel_rfl) (fun _ _ _ h => h) (Or.inl ⟨by kernel_rfl, fun W hS => run_loadS_op l[i].cells (by kernel_rfl) (by kernel_rfl) (by kernel_rfl) (facts_cells hS (i) (by omega))⟩) hHeld ?_
  simp only [Act.put, List.setIfInBounds_toArray, List.set_cons_zero, List.set_cons_succ]
  refine wpAnyH_take (i := 5) (oi := (⟨some 15, Op.move (Operand.tmp 0), 56, "ref.go:45", #[], none⟩)) (v := .slice (some ad) l.length c) rfl (by kernel_rfl) (by kernel_rfl) (by kernel_rfl) (fun _ _ _ h => h) (Or.inl ⟨by kernel_rfl, fun _ _ => by kernel_rfl⟩) hHeld ?_
  simp only [Act.put, List.setIfInBounds_toArray, List.set_cons_zero, List.set_cons_succ]
  refine wpAnyH_take (i := 6) (oi := (⟨some 16, Op.move (Operand.tmp 3), 3, "ref.go:45", #[], none⟩)) (v := .int .i64 ((i + 1 : Nat) : Nat)) rfl (by kernel_rfl) (by kernel_rfl) (by kernel_rfl) (fun _ _ _ h => h) (Or.inl ⟨by kernel_rfl, fun _ _ => by kernel_rfl⟩) hHeld ?_
  simp only [Act.put, List.setIfInBounds_toArray, List.set_cons_zero, List.set_cons_succ]
  refine wpAnyH_take (i := 7) (oi := (⟨some 17, Op.indexAddr 56 (Operand.tmp 15) (Operand.tmp 16), 0, "ref.go:45", #[{ on := 5, ground := Ground.data }, { on := 6, ground := Ground.data }], none⟩)) (v := .pointer (some (ad.add ((i + 1) * 3)))) rfl (by kernel_rfl) (by kernel_rfl) (by kernel_rfl) (fun _ _ _ h => h) (Or.inl ⟨by kernel_rfl, fun W hS => run_index_op (i := (i + 1)) (n := l.length) (c := c) Try.underlying56 (by kernel_rfl) (by kernel_rfl) (by kernel_rfl) (by omega)⟩) hHeld ?_
  simp only [Act.put, List.setIfInBounds_toArray, List.set_cons_zero, List.set_cons_succ]
  refine wpAnyH_take (i := 8) (oi := (⟨some 18, Op.load 71 (Operand.tmp 17), 71, "ref.go:45", #[{ on := 7, ground := Ground.data }], none⟩)) (v := l[(i + 1)].val) rfl (by kernel_rfl) (by kernel_rfl) (by kernel_rfl) (fun _ _ _ h => h) (Or.inl ⟨by kernel_rfl, fun W hS => run_loadS_op l[(i + 1)].cells (by kernel_rfl) (by kernel_rfl) (by kernel_rfl) (facts_cells hS ((i + 1)) (by omega))⟩) hHeld ?_
  simp only [Act.put, List.setIfInBounds_toArray, List.set_cons_zero, List.set_cons_succ]
  refine wpAnyH_ready (rs := [9]) (by kernel_rfl) (by simp) ?_
  refine AllReadyH.cons (o := (⟨some 19, Op.call { callee := Callee.value (Operand.func 45), args := #[Operand.tmp 14, Operand.tmp 18], argTypes := #[71, 71] }, 3, "ref.go:45", #[{ on := 4, ground := Ground.data }, { on := 8, ground := Ground.data }], none⟩)) rfl ?_ (AllReadyH.nil)
  · skip
    refine next_call (f := 45) (args := #[l[i].val, l[i + 1].val]) (by kernel_rfl) (by kernel_rfl) (refCompare_any _ _ w.drew) ?_
    rintro e w1 ⟨rfl, hb⟩
    have hbq1 := hb
    refine ⟨.int .i64 (cmpF l[i] l[i + 1]), rfl, (Rd.below) hHeld hbq1, fun hH1 => ?_⟩
    simp only [Act.put, List.setIfInBounds_toArray, List.set_cons_zero, List.set_cons_succ]
    refine wpAnyH_take (i := 10) (oi := (⟨some 20, Op.binOp BinOp.geq 3 (Operand.tmp 19) (Operand.const (Value.int IntKind.i64 0)) 3, 4, "ref.go:45", #[{ on := 9, ground := Ground.data }], none⟩)) (v := .bool (decide (0 ≤ cmpF l[i] l[i + 1]))) rfl (by kernel_rfl) (by kernel_rfl) (by kernel_rfl) (fun _ _ _ h => h) (Or.inl ⟨by kernel_rfl, fun W _ => run_geq0_op (by kernel_rfl) (by kernel_rfl)⟩) hH1 ?_
    simp only [Act.put, List.setIfInBounds_toArray, List.set_cons_zero, List.set_cons_succ]
    refine wpAnyH_done (by kernel_rfl) ?_ _
    exact NoPanic.normal (hend _ _ _ _ _ _ _ _ _ _ _ ((hb0).trans (hbq1.mono (hb0).size)))
end Go.Proofs.Ytadgaphgomagkaa
/- Lists in order: the program's and the reference's. -/
namespace Go.Proofs.Ytadgaphgomagkaa
open Go.RowKit
set_option maxHeartbeats 4000000
set_option maxRecDepth 100000

/-- the first so many are in order -/
def rightN (l : List FM) (n : Nat) : Prop := ∀ i, (h : i + 1 < l.length) → i + 1 < n → cmpF l[i] l[i + 1] < 0
theorem rightF_cons (a b : FM) (r : List FM) : rightF (a :: b :: r) = (decide (cmpF a b < 0) && rightF (b :: r)) := rfl
theorem rightF_iff : ∀ l : List FM, rightF l = true ↔ rightN l l.length
  | [] => ⟨fun _ i h => by simp at h, fun _ => rfl⟩
  | [a] => ⟨fun _ i h => by simp at h, fun _ => rfl⟩
  | a :: b :: r => by
    rw [rightF_cons, Bool.and_eq_true, rightF_iff (b :: r)]
    constructor
    · rintro ⟨h1, h2⟩ i hi _
      cases i with
      | zero => simpa using h1
      | succ i => exact h2 i (by simpa using hi) (by simpa using hi)
    · intro h
      refine ⟨by simpa using h 0 (by simp) (by simp), fun i hi _ => ?_⟩
      exact h (i + 1) (by simpa using hi) (by simpa using hi)
theorem rightF_false {l : List FM} {i : Nat} (h : i + 1 < l.length) (hc : 0 ≤ cmpF l[i] l[i + 1]) : rightF l = false := by
  cases e : rightF l
  · rfl
  · have := (rightF_iff l).1 e i h h
    omega
theorem right_any (A : Option Addr) (c : Nat) (l : List FM) (w : World) (hr : Rd w A (fcells l)) (hl : l.length ≤ 1048576) :
    Calls Try.prog 46 #[.slice A l.length c] w fun e w' => e = .returned (.bool (rightF l)) ∧ Below w.heap.size w w' := by
  have HT : Hid (rightN l l.length → rightF l = true) := Lib.hid (rightF_iff l).2
  have HF : Hid (∀ i, (h : i + 1 < l.length) → 0 ≤ cmpF l[i] l[i + 1] → rightF l = false) := Lib.hid fun i h hc => rightF_false h hc
  generalize rightF l = R at *
  go_enter Try.func46, Try.ntmps46
  go_wp2
  go_loopg [3] l.length (fun m s3 wr => ∃ k : Nat, m = l.length - k ∧ k ≤ l.length ∧ s3 = .int .i64 ((k + 1 : Nat) : Nat) ∧ rightN l (k + 1) ∧ Below w.heap.size w wr)
  case atStart => exact ⟨0, by omega, by omega, rfl, fun i h1 h2 => by omega, Below.refl _ _⟩
  case round =>
    obtain ⟨k, rfl, hk, rfl, hR, hb⟩ := hrel
    by_cases hlt : k + 1 < l.length
    · have r1 : ((k + 1 : Nat) : Int) < (l.length : Int) := by omega
      obtain ⟨ad, rfl, _⟩ := facts_at hr k (by omega)
      have hr1 := (hr.below hb).drew
      go_wp2_with fail
      refine regRight4 hlt (by omega) hr1 ?_
      intro w2 _ _ _ _ _ _ _ _ _ _ hb2
      have hbb := hb.trans (hb2.mono hb.size)
      by_cases hc : 0 ≤ cmpF l[k] l[k + 1]
      · have d1 : decide (0 ≤ cmpF l[k] l[k + 1]) = true := by simpa using hc
        have HR := Lib.hid (HF.out k hlt hc)
        rw [d1]
        clear d1 hc
        go_wp2_with fail
        go_ret
        exact ⟨by rw [HR.out]; rfl, hbb⟩
      · have d1 : decide (0 ≤ cmpF l[k] l[k + 1]) = false := by simpa using hc
        rw [d1]
        clear d1
        have HN : Hid (rightN l (k + 2)) := Lib.hid fun i h1 h2 => by
          by_cases e : i = k
          · subst e; omega
          · exact hR i h1 (by omega)
        clear hc hR
        go_wp2_with fail
        go_roundg (l.length - (k + 1))
        case measure => omega
        case rel => exact ⟨k + 1, rfl, by omega, by go_num, HN.out, hbb⟩
    · have r1 : ¬ ((k + 1 : Nat) : Int) < (l.length : Int) := by omega
      have HR := Lib.hid (HT.out fun i h1 h2 => hR i h1 (by omega))
      clear hlt hR
      go_wp2_with fail
      go_ret
      exact ⟨by rw [HR.out]; rfl, hb⟩
theorem refRight_any (A : Option Addr) (c : Nat) (l : List FM) (w : World) (hr : Rd w A (fcells l)) (hl : l.length ≤ 1048576) :
    Calls Try.prog 35 #[.slice A l.length c] w fun e w' => e = .returned (.bool (rightF l)) ∧ Below w.heap.size w w' := by
  have HT : Hid (rightN l l.length → rightF l = true) := Lib.hid (rightF_iff l).2
  have HF : Hid (∀ i, (h : i + 1 < l.length) → 0 ≤ cmpF l[i] l[i + 1] → rightF l = false) := Lib.hid fun i h hc => rightF_false h hc
  generalize rightF l = R at *
  go_enter Try.func35, Try.ntmps35
  go_wp2
  go_loopg [3] l.length (fun m s3 wr => ∃ k : Nat, m = l.length - k ∧ k ≤ l.length ∧ s3 = .int .i64 ((k + 1 : Nat) : Nat) ∧ rightN l (k + 1) ∧ Below w.heap.size w wr)
  case atStart => exact ⟨0, by omega, by omega, rfl, fun i h1 h2 => by omega, Below.refl _ _⟩
  case round =>
    obtain ⟨k, rfl, hk, rfl, hR, hb⟩ := hrel
    by_cases hlt : k + 1 < l.length
    · have r1 : ((k + 1 : Nat) : Int) < (l.length : Int) := by omega
      obtain ⟨ad, rfl, _⟩ := facts_at hr k (by omega)
      have hr1 := (hr.below hb).drew
      go_wp2_with fail
      refine regRefRight4 hlt (by omega) hr1 ?_
      intro w2 _ _ _ _ _ _ _ _ _ _ hb2
      have hbb := hb.trans (hb2.mono hb.size)
      by_cases hc : 0 ≤ cmpF l[k] l[k + 1]
      · have d1 : decide (0 ≤ cmpF l[k] l[k + 1]) = true := by simpa using hc
        have HR := Lib.hid (HF.out k hlt hc)
        rw [d1]
        clear d1 hc
        go_wp2_with fail
        go_ret
        exact ⟨by rw [HR.out]; rfl, hbb⟩
      · have d1 : decide (0 ≤ cmpF l[k] l[k + 1]) = false := by simpa using hc
        rw [d1]
        clear d1
        have HN : Hid (rightN l (k + 2)) := Lib.hid fun i h1 h2 => by
          by_cases e : i = k
          · subst e; omega
          · exact hR i h1 (by omega)
        clear hc hR
        go_wp2_with fail
        go_roundg (l.length - (k + 1))
        case measure => omega
        case rel => exact ⟨k + 1, rfl, by omega, by go_num, HN.out, hbb⟩
    · have r1 : ¬ ((k + 1 : Nat) : Int) < (l.length : Int) := by omega
      have HR := Lib.hid (HT.out fun i h1 h2 => hR i h1 (by omega))
      clear hlt hR
      go_wp2_with fail
      go_ret
      exact ⟨by rw [HR.out]; rfl, hb⟩
end Go.Proofs.Ytadgaphgomagkaa
