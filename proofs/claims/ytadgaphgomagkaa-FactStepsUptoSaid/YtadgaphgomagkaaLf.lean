/- Words for the search in a sorted list. -/
import Derived.Test.YtadgaphgomagkaaLe
namespace Go.Proofs.Ytadgaphgomagkaa
open Go.RowKit
set_option maxHeartbeats 2000000
set_option maxRecDepth 100000

section
variable {P : Program} {ρ : Operand → Value} {d : Option Tmp} {ty : TypeId} {pos : String} {af : Array Edge} {g : Option (Nat × Bool)} {w : World}
theorem run_lss0_op {t r : TypeId} {x y : Operand} {a : Int} (hx : ρ x = .int .i64 a) (hy : ρ y = .int .i64 0) : (execOp ρ ⟨d, .binOp .lss t x y r, ty, pos, af, g⟩).run P w = .ok (.value (.bool (decide (a < 0)))) w := by
  simp [execOp, hx, hy, eqGuard, go_sem]
theorem run_eql0_op {t r : TypeId} {x y : Operand} {a : Int} (hx : ρ x = .int .i64 a) (hy : ρ y = .int .i64 0) : (execOp ρ ⟨d, .binOp .eql t x y r, ty, pos, af, g⟩).run P w = .ok (.value (.bool (decide (a = 0)))) w := by
  simp only [execOp, hx, hy]
  simp [eqGuard, go_sem]
  by_cases h : a = 0
  · subst h; simp
  · simp [h]
theorem run_lss_nat {t r : TypeId} {x y : Operand} {a b : Nat} (hx : ρ x = .int .i64 (a : Nat)) (hy : ρ y = .int .i64 (b : Nat)) : (execOp ρ ⟨d, .binOp .lss t x y r, ty, pos, af, g⟩).run P w = .ok (.value (.bool (decide (a < b)))) w := by
  simp only [execOp, hx, hy]
  simp [eqGuard, go_sem]
theorem run_lss_true {t r : TypeId} {x y : Operand} {a b : Nat} (hx : ρ x = .int .i64 (a : Nat)) (hy : ρ y = .int .i64 (b : Nat)) (h : a < b) : (execOp ρ ⟨d, .binOp .lss t x y r, ty, pos, af, g⟩).run P w = .ok (.value (.bool true)) w := by
  rw [run_lss_nat hx hy, decide_eq_true h]
end
theorem facts_cells' {W : World} {ad : Addr} {l : List FM} {f : FM} {h : Nat} (hr : Rd W (some ad) (fcells l)) (hf : l[h]? = some f) : ∀ j v, f.cells[j]? = some v → W.cell? ((ad.add (h * 3)).add j) = some v := by
  obtain ⟨hh, rfl⟩ := List.getElem?_eq_some_iff.1 hf
  exact facts_cells hr h hh
theorem blk_cells {W : World} {g : Nat} {t : TypeId} {cs : List Value} (hT : Blk W g t cs.toArray) : ∀ j v, cs[j]? = some v → W.cell? ((⟨g, 0, none⟩ : Addr).add j) = some v := by
  intro j v h
  have := hT.cell j
  rw [show (⟨g, 0, none⟩ : Addr).add j = ⟨g, j, none⟩ by by_cases h0 : j = 0 <;> simp [Addr.add, h0]]
  rw [this]
  simpa using h
/-- the search -/
def bsF (p : Nat → Bool) : Nat → Nat → Nat → Nat
  | 0, i, _ => i
  | n + 1, i, j => if i < j then (if p ((i + j) / 2) = true then bsF p n ((i + j) / 2 + 1) j else bsF p n i ((i + j) / 2)) else i
theorem bsF_count (p : Nat → Bool) (m : Nat) : ∀ (n i j : Nat), j - i ≤ n → i ≤ m → m ≤ j → (∀ h, i ≤ h → h < j → (p h = true ↔ h < m)) → bsF p n i j = m
  | 0, i, j, hn, h1, h2, _ => by simp [bsF]; omega
  | n + 1, i, j, hn, h1, h2, hp => by
    unfold bsF
    split
    · rename_i hlt
      have hm := hp ((i + j) / 2) (by omega) (by omega)
      split
      · rename_i h
        exact bsF_count p m n _ _ (by omega) (by have := hm.1 h; omega) h2 fun h a b => hp h (by omega) b
      · rename_i h
        exact bsF_count p m n _ _ (by omega) h1 (by have : ¬ (i + j) / 2 < m := fun h3 => h (hm.2 h3); omega) fun h a b => hp h a (by omega)
    · omega
end Go.Proofs.Ytadgaphgomagkaa
/- The search in a sorted list: the statements that draw their order. PRINTED by tools/regs_l.py. -/
namespace Go.Proofs.Ytadgaphgomagkaa
open Go.RowKit
set_option maxHeartbeats 8000000
set_option maxRecDepth 100000
def opsBs5 : Array Oper := #[{ dst := some 24, op := Op.move (Operand.tmp 2), type := 86, pos := "sort.go:160", after := #[], guard := none }, { dst := some 25, op := Op.move (Operand.tmp 0), type := 56, pos := "sort.go:160", after := #[], guard := none }, { dst := some 26, op := Op.move (Operand.tmp 11), type := 3, pos := "sort.go:160", after := #[], guard := none }, { dst := some 27, op := Op.indexAddr 56 (Operand.tmp 25) (Operand.tmp 26), type := 0, pos := "sort.go:160", after := #[{ on := 1, ground := Ground.data }, { on := 2, ground := Ground.data }], guard := none }, { dst := some 28, op := Op.load 71 (Operand.tmp 27), type := 71, pos := "sort.go:160", after := #[{ on := 3, ground := Ground.data }], guard := none }, { dst := some 29, op := Op.load 71 (Operand.tmp 4), type := 71, pos := "sort.go:160", after := #[], guard := none }, { dst := some 30, op := Op.call { callee := Callee.value (Operand.tmp 24), args := #[Operand.tmp 28, Operand.tmp 29], argTypes := #[71, 71] }, type := 3, pos := "sort.go:160", after := #[{ on := 0, ground := Ground.data }, { on := 4, ground := Ground.data }, { on := 5, ground := Ground.data }], guard := none }, { dst := some 31, op := Op.binOp BinOp.lss 3 (Operand.tmp 30) (Operand.const (Value.int IntKind.i64 0)) 3, type := 4, pos := "sort.go:160", after := #[{ on := 6, ground := Ground.data }], guard := none }]
theorem regBs5 {u1 u3 u5 u6 u7 u8 u9 u10 u12 u13 u14 u15 u16 u17 u18 u19 u20 u21 u22 u23 u24 u25 u26 u27 u28 u29 u30 u31 u32 u33 u34 u35 u36 u37 u38 u39 u40 u41 u42 u43 u44 u45 u46 u47 u48 : Value} {DD : List Deferred} {Q : Exit → Act → World → Prop} {w : World} {ad : Addr} {n c g h : Nat} {l : List FM} {f t : FM} (hr : Rd w.drew (some ad) (fcells l)) (hT : Blk w.drew g 71 t.cells.toArray) (hf : l[h]? = some f) (hh : h < n)
    (hend : ∀ (w2 : World) (x24 x25 x26 x27 x28 x29 x30 : Value) (_ : Below w.heap.size w w2), Q .normal ⟨#[.slice (some ad) n c, u1, .func (.func 44) #[] #[], u3, .pointer (some ⟨g, 0, none⟩), u5, u6, u7, u8, u9, u10, .int .i64 (h : Nat), u12, u13, u14, u15, u16, u17, u18, u19, u20, u21, u22, u23, x24, x25, x26, x27, x28, x29, x30, .bool (decide (cmpF f t < 0)), u32, u33, u34, u35, u36, u37, u38, u39, u40, u41, u42, u43, u44, u45, u46, u47, u48], DD⟩ w2) :
    (Code.region 5 opsBs5 true).wp Try.prog Q ⟨#[.slice (some ad) n c, u1, .func (.func 44) #[] #[], u3, .pointer (some ⟨g, 0, none⟩), u5, u6, u7, u8, u9, u10, .int .i64 (h : Nat), u12, u13, u14, u15, u16, u17, u18, u19, u20, u21, u22, u23, u24, u25, u26, u27, u28, u29, u30, u31, u32, u33, u34, u35, u36, u37, u38, u39, u40, u41, u42, u43, u44, u45, u46, u47, u48], DD⟩ w := by
  refine wp_region_noPanic ?_
  refine wp_region_held_drew (S := fun _ => True) (by kernel_rfl) trivial (fun _ => ?_)
  refine wpAnyH_take (i := 0) (oi := (⟨some 24, Op.move (Operand.tmp 2), 86, "sort.go:160", #[], none⟩)) (v := .func (.func 44) #[] #[]) rfl (by kernel_rfl) (by kernel_rfl) (by kernel_rfl) (fun _ _ _ h => h) (Or.inl ⟨by kernel_rfl, fun _ _ => by kernel_rfl⟩) trivial ?_
  simp only [Act.put, List.setIfInBounds_toArray, List.set_cons_zero, List.set_cons_succ]
  refine wpAnyH_take (i := 1) (oi := (⟨some 25, Op.move (Operand.tmp 0), 56, "sort.go:160", #[], none⟩)) (v := .slice (some ad) n c) rfl (by kernel_rfl) (by kernel_rfl) (by kernel_rfl) (fun _ _ _ h => h) (Or.inl ⟨by kernel_rfl, fun _ _ => by kernel_rfl⟩) trivial ?_
  simp only [Act.put, List.setIfInBounds_toArray, List.set_cons_zero, List.set_cons_succ]
  refine wpAnyH_take (i := 2) (oi := (⟨some 26, Op.move (Operand.tmp 11), 3, "sort.go:160", #[], none⟩)) (v := .int .i64 (h : Nat)) rfl (by kernel_rfl) (by kernel_rfl) (by kernel_rfl) (fun _ _ _ h => h) (Or.inl ⟨by kernel_rfl, fun _ _ => by kernel_rfl⟩) trivial ?_
  simp only [Act.put, List.setIfInBounds_toArray, List.set_cons_zero, List.set_cons_succ]
  refine wpAnyH_take (i := 3) (oi := (⟨some 27, Op.indexAddr 56 (Operand.tmp 25) (Operand.tmp 26), 0, "sort.go:160", #[{ on := 1, ground := Ground.data }, { on := 2, ground := Ground.data }], none⟩)) (v := .pointer (some (ad.add (h * 3)))) rfl (by kernel_rfl) (by kernel_rfl) (by kernel_rfl) (fun _ _ _ h => h) (Or.inl ⟨by kernel_rfl, fun W _ => run_index_op (size := 3) (i := h) (n := n) (c := c) Try.underlying56 (by kernel_rfl) rfl rfl hh⟩) trivial ?_
  simp only [Act.put, List.setIfInBounds_toArray, List.set_cons_zero, List.set_cons_succ]
  refine wpAnyH_ready (rs := [4, 5]) (by kernel_rfl) (by simp) ?_
  refine AllReadyH.cons (o := (⟨some 28, Op.load 71 (Operand.tmp 27), 71, "sort.go:160", #[{ on := 3, ground := Ground.data }], none⟩)) rfl ?_ (AllReadyH.cons (o := (⟨some 29, Op.load 71 (Operand.tmp 4), 71, "sort.go:160", #[], none⟩)) rfl ?_ (AllReadyH.nil))
  · skip
    refine next_op (v := f.val) (by kernel_rfl) (run_loadS_op f.cells (by kernel_rfl) (by kernel_rfl) rfl (facts_cells' hr hf)) trivial (fun _ => ?_)
    simp only [Act.put, List.setIfInBounds_toArray, List.set_cons_zero, List.set_cons_succ]
    refine wpAnyH_ready (rs := [5]) (by kernel_rfl) (by simp) ?_
    refine AllReadyH.cons (o := (⟨some 29, Op.load 71 (Operand.tmp 4), 71, "sort.go:160", #[], none⟩)) rfl ?_ (AllReadyH.nil)
    · skip
      refine next_op (v := t.val) (by kernel_rfl) (run_loadS_op t.cells (by kernel_rfl) (by kernel_rfl) rfl (blk_cells hT)) trivial (fun _ => ?_)
      simp only [Act.put, List.setIfInBounds_toArray, List.set_cons_zero, List.set_cons_succ]
      refine wpAnyH_ready (rs := [6]) (by kernel_rfl) (by simp) ?_
      refine AllReadyH.cons (o := (⟨some 30, Op.call { callee := Callee.value (Operand.tmp 24), args := #[Operand.tmp 28, Operand.tmp 29], argTypes := #[71, 71] }, 3, "sort.go:160", #[{ on := 0, ground := Ground.data }, { on := 4, ground := Ground.data }, { on := 5, ground := Ground.data }], none⟩)) rfl ?_ (AllReadyH.nil)
      · skip
        refine next_call (f := 44) (args := #[f.val, t.val]) (by kernel_rfl) (by kernel_rfl) (compare_any f t w.drew) ?_
        rintro e wy3 ⟨rfl, hb⟩
        refine ⟨.int .i64 (cmpF f t), rfl, trivial, fun _ => ?_⟩
        simp only [Act.put, List.setIfInBounds_toArray, List.set_cons_zero, List.set_cons_succ]
        refine wpAnyH_take (i := 7) (oi := (⟨some 31, Op.binOp BinOp.lss 3 (Operand.tmp 30) (Operand.const (Value.int IntKind.i64 0)) 3, 4, "sort.go:160", #[{ on := 6, ground := Ground.data }], none⟩)) (v := .bool (decide (cmpF f t < 0))) rfl (by kernel_rfl) (by kernel_rfl) (by kernel_rfl) (fun _ _ _ h => h) (Or.inl ⟨by kernel_rfl, fun W _ => run_lss0_op rfl rfl⟩) trivial ?_
        simp only [Act.put, List.setIfInBounds_toArray, List.set_cons_zero, List.set_cons_succ]
        refine wpAnyH_done (by kernel_rfl) ?_ _
        exact NoPanic.normal (hend wy3 _ _ _ _ _ _ _ ((Below.refl _ _).drew.trans (hb.mono (Nat.le_refl _))))
  · skip
    refine next_op (v := t.val) (by kernel_rfl) (run_loadS_op t.cells (by kernel_rfl) (by kernel_rfl) rfl (blk_cells hT)) trivial (fun _ => ?_)
    simp only [Act.put, List.setIfInBounds_toArray, List.set_cons_zero, List.set_cons_succ]
    refine wpAnyH_ready (rs := [4]) (by kernel_rfl) (by simp) ?_
    refine AllReadyH.cons (o := (⟨some 28, Op.load 71 (Operand.tmp 27), 71, "sort.go:160", #[{ on := 3, ground := Ground.data }], none⟩)) rfl ?_ (AllReadyH.nil)
    · skip
      refine next_op (v := f.val) (by kernel_rfl) (run_loadS_op f.cells (by kernel_rfl) (by kernel_rfl) rfl (facts_cells' hr hf)) trivial (fun _ => ?_)
      simp only [Act.put, List.setIfInBounds_toArray, List.set_cons_zero, List.set_cons_succ]
      refine wpAnyH_ready (rs := [6]) (by kernel_rfl) (by simp) ?_
      refine AllReadyH.cons (o := (⟨some 30, Op.call { callee := Callee.value (Operand.tmp 24), args := #[Operand.tmp 28, Operand.tmp 29], argTypes := #[71, 71] }, 3, "sort.go:160", #[{ on := 0, ground := Ground.data }, { on := 4, ground := Ground.data }, { on := 5, ground := Ground.data }], none⟩)) rfl ?_ (AllReadyH.nil)
      · skip
        refine next_call (f := 44) (args := #[f.val, t.val]) (by kernel_rfl) (by kernel_rfl) (compare_any f t w.drew) ?_
        rintro e wy6 ⟨rfl, hb⟩
        refine ⟨.int .i64 (cmpF f t), rfl, trivial, fun _ => ?_⟩
        simp only [Act.put, List.setIfInBounds_toArray, List.set_cons_zero, List.set_cons_succ]
        refine wpAnyH_take (i := 7) (oi := (⟨some 31, Op.binOp BinOp.lss 3 (Operand.tmp 30) (Operand.const (Value.int IntKind.i64 0)) 3, 4, "sort.go:160", #[{ on := 6, ground := Ground.data }], none⟩)) (v := .bool (decide (cmpF f t < 0))) rfl (by kernel_rfl) (by kernel_rfl) (by kernel_rfl) (fun _ _ _ h => h) (Or.inl ⟨by kernel_rfl, fun W _ => run_lss0_op rfl rfl⟩) trivial ?_
        simp only [Act.put, List.setIfInBounds_toArray, List.set_cons_zero, List.set_cons_succ]
        refine wpAnyH_done (by kernel_rfl) ?_ _
        exact NoPanic.normal (hend wy6 _ _ _ _ _ _ _ ((Below.refl _ _).drew.trans (hb.mono (Nat.le_refl _))))
def opsBs8 : Array Oper := #[{ dst := some 35, op := Op.move (Operand.tmp 9), type := 3, pos := "sort.go:167", after := #[], guard := none }, { dst := some 36, op := Op.move (Operand.tmp 9), type := 3, pos := "sort.go:167", after := #[], guard := none }, { dst := some 37, op := Op.move (Operand.tmp 8), type := 3, pos := "sort.go:167", after := #[], guard := none }, { dst := some 38, op := Op.binOp BinOp.lss 3 (Operand.tmp 36) (Operand.tmp 37) 3, type := 4, pos := "sort.go:167", after := #[{ on := 1, ground := Ground.data }, { on := 2, ground := Ground.data }], guard := none }, { dst := some 39, op := Op.move (Operand.tmp 38), type := 4, pos := "sort.go:167", after := #[{ on := 3, ground := Ground.data }], guard := none }, { dst := some 40, op := Op.move (Operand.tmp 2), type := 86, pos := "sort.go:167", after := #[{ on := 4, ground := Ground.guard }], guard := some (4, true) }, { dst := some 41, op := Op.move (Operand.tmp 0), type := 56, pos := "sort.go:167", after := #[{ on := 4, ground := Ground.guard }], guard := some (4, true) }, { dst := some 42, op := Op.move (Operand.tmp 9), type := 3, pos := "sort.go:167", after := #[{ on := 4, ground := Ground.guard }], guard := some (4, true) }, { dst := some 43, op := Op.indexAddr 56 (Operand.tmp 41) (Operand.tmp 42), type := 0, pos := "sort.go:167", after := #[{ on := 6, ground := Ground.data }, { on := 7, ground := Ground.data }, { on := 4, ground := Ground.guard }], guard := some (4, true) }, { dst := some 44, op := Op.load 71 (Operand.tmp 43), type := 71, pos := "sort.go:167", after := #[{ on := 8, ground := Ground.data }, { on := 4, ground := Ground.guard }], guard := some (4, true) }, { dst := some 45, op := Op.load 71 (Operand.tmp 4), type := 71, pos := "sort.go:167", after := #[{ on := 4, ground := Ground.guard }], guard := some (4, true) }, { dst := some 46, op := Op.call { callee := Callee.value (Operand.tmp 40), args := #[Operand.tmp 44, Operand.tmp 45], argTypes := #[71, 71] }, type := 3, pos := "sort.go:167", after := #[{ on := 5, ground := Ground.data }, { on := 9, ground := Ground.data }, { on := 10, ground := Ground.data }, { on := 4, ground := Ground.chain }, { on := 4, ground := Ground.guard }], guard := some (4, true) }, { dst := some 47, op := Op.binOp BinOp.eql 3 (Operand.tmp 46) (Operand.const (Value.int IntKind.i64 0)) 3, type := 4, pos := "sort.go:167", after := #[{ on := 11, ground := Ground.data }, { on := 4, ground := Ground.guard }, { on := 14, ground := Ground.gcOnly Departure.lateStores }], guard := some (4, true) }, { dst := some 48, op := Op.pick (Operand.tmp 39) (Operand.tmp 47) (Operand.const (Value.bool false)), type := 4, pos := "sort.go:167", after := #[{ on := 4, ground := Ground.data }, { on := 12, ground := Ground.data }, { on := 14, ground := Ground.gcOnly Departure.lateStores }], guard := none }, { dst := some 6, op := Op.assign (Operand.tmp 35), type := 3, pos := "sort.go:167", after := #[{ on := 0, ground := Ground.data }, { on := 11, ground := Ground.chain }, { on := 0, ground := Ground.phase }, { on := 1, ground := Ground.textOnly Departure.lateStores }, { on := 2, ground := Ground.textOnly Departure.lateStores }, { on := 3, ground := Ground.textOnly Departure.lateStores }, { on := 4, ground := Ground.textOnly Departure.lateStores }, { on := 5, ground := Ground.textOnly Departure.lateStores }, { on := 6, ground := Ground.textOnly Departure.lateStores }, { on := 7, ground := Ground.textOnly Departure.lateStores }, { on := 8, ground := Ground.textOnly Departure.lateStores }, { on := 9, ground := Ground.textOnly Departure.lateStores }, { on := 10, ground := Ground.textOnly Departure.lateStores }, { on := 11, ground := Ground.textOnly Departure.lateStoresUnsure }, { on := 12, ground := Ground.textOnly Departure.lateStores }, { on := 13, ground := Ground.textOnly Departure.lateStores }], guard := none }, { dst := some 7, op := Op.assign (Operand.tmp 48), type := 4, pos := "sort.go:167", after := #[{ on := 13, ground := Ground.data }, { on := 14, ground := Ground.chain }, { on := 0, ground := Ground.phase }, { on := 1, ground := Ground.phase }, { on := 2, ground := Ground.phase }, { on := 3, ground := Ground.phase }, { on := 4, ground := Ground.phase }, { on := 5, ground := Ground.phase }, { on := 6, ground := Ground.phase }, { on := 7, ground := Ground.phase }, { on := 8, ground := Ground.phase }, { on := 9, ground := Ground.phase }, { on := 10, ground := Ground.phase }, { on := 11, ground := Ground.phase }, { on := 12, ground := Ground.phase }, { on := 13, ground := Ground.phase }, { on := 14, ground := Ground.phase }], guard := none }]
theorem regBs8 {u1 u3 u5 u6 u7 u10 u11 u12 u13 u14 u15 u16 u17 u18 u19 u20 u21 u22 u23 u24 u25 u26 u27 u28 u29 u30 u31 u32 u33 u34 u35 u36 u37 u38 u39 u40 u41 u42 u43 u44 u45 u46 u47 u48 : Value} {DD : List Deferred} {Q : Exit → Act → World → Prop} {w : World} {ad : Addr} {n c g h : Nat} {l : List FM} {f t : FM} (hr : Rd w.drew (some ad) (fcells l)) (hT : Blk w.drew g 71 t.cells.toArray) (hf : l[h]? = some f) (hh : h < n)
    (hend : ∀ (w2 : World) (x35 x36 x37 x38 x39 x40 x41 x42 x43 x44 x45 x46 x47 x48 : Value) (_ : Below w.heap.size w w2), Q .normal ⟨#[.slice (some ad) n c, u1, .func (.func 44) #[] #[], u3, .pointer (some ⟨g, 0, none⟩), u5, .int .i64 (h : Nat), .bool (decide (cmpF f t = 0)), .int .i64 (n : Nat), .int .i64 (h : Nat), u10, u11, u12, u13, u14, u15, u16, u17, u18, u19, u20, u21, u22, u23, u24, u25, u26, u27, u28, u29, u30, u31, u32, u33, u34, x35, x36, x37, x38, x39, x40, x41, x42, x43, x44, x45, x46, x47, x48], DD⟩ w2) :
    (Code.region 8 opsBs8 true).wp Try.prog Q ⟨#[.slice (some ad) n c, u1, .func (.func 44) #[] #[], u3, .pointer (some ⟨g, 0, none⟩), u5, u6, u7, .int .i64 (n : Nat), .int .i64 (h : Nat), u10, u11, u12, u13, u14, u15, u16, u17, u18, u19, u20, u21, u22, u23, u24, u25, u26, u27, u28, u29, u30, u31, u32, u33, u34, u35, u36, u37, u38, u39, u40, u41, u42, u43, u44, u45, u46, u47, u48], DD⟩ w := by
  refine wp_region_noPanic ?_
  refine wp_region_held_drew (S := fun _ => True) (by kernel_rfl) trivial (fun _ => ?_)
  refine wpAnyH_take (i := 0) (oi := (⟨some 35, Op.move (Operand.tmp 9), 3, "sort.go:167", #[], none⟩)) (v := .int .i64 (h : Nat)) rfl (by kernel_rfl) (by kernel_rfl) (by kernel_rfl) (fun _ _ _ h => h) (Or.inl ⟨by kernel_rfl, fun _ _ => by kernel_rfl⟩) trivial ?_
  simp only [Act.put, List.setIfInBounds_toArray, List.set_cons_zero, List.set_cons_succ]
  refine wpAnyH_take (i := 1) (oi := (⟨some 36, Op.move (Operand.tmp 9), 3, "sort.go:167", #[], none⟩)) (v := .int .i64 (h : Nat)) rfl (by kernel_rfl) (by kernel_rfl) (by kernel_rfl) (fun _ _ _ h => h) (Or.inl ⟨by kernel_rfl, fun _ _ => by kernel_rfl⟩) trivial ?_
  simp only [Act.put, List.setIfInBounds_toArray, List.set_cons_zero, List.set_cons_succ]
  refine wpAnyH_take (i := 2) (oi := (⟨some 37, Op.move (Operand.tmp 8), 3, "sort.go:167", #[], none⟩)) (v := .int .i64 (n : Nat)) rfl (by kernel_rfl) (by kernel_rfl) (by kernel_rfl) (fun _ _ _ h => h) (Or.inl ⟨by kernel_rfl, fun _ _ => by kernel_rfl⟩) trivial ?_
  simp only [Act.put, List.setIfInBounds_toArray, List.set_cons_zero, List.set_cons_succ]
  refine wpAnyH_take (i := 3) (oi := (⟨some 38, Op.binOp BinOp.lss 3 (Operand.tmp 36) (Operand.tmp 37) 3, 4, "sort.go:167", #[{ on := 1, ground := Ground.data }, { on := 2, ground := Ground.data }], none⟩)) (v := .bool true) rfl (by kernel_rfl) (by kernel_rfl) (by kernel_rfl) (fun _ _ _ h => h) (Or.inl ⟨by kernel_rfl, fun W _ => run_lss_true rfl rfl hh⟩) trivial ?_
  simp only [Act.put, List.setIfInBounds_toArray, List.set_cons_zero, List.set_cons_succ]
  refine wpAnyH_take (i := 4) (oi := (⟨some 39, Op.move (Operand.tmp 38), 4, "sort.go:167", #[{ on := 3, ground := Ground.data }], none⟩)) (v := .bool true) rfl (by kernel_rfl) (by kernel_rfl) (by kernel_rfl) (fun _ _ _ h => h) (Or.inl ⟨by kernel_rfl, fun _ _ => by kernel_rfl⟩) trivial ?_
  simp only [Act.put, List.setIfInBounds_toArray, List.set_cons_zero, List.set_cons_succ]
  refine wpAnyH_take (i := 5) (oi := (⟨some 40, Op.move (Operand.tmp 2), 86, "sort.go:167", #[{ on := 4, ground := Ground.guard }], some (4, true)⟩)) (v := .func (.func 44) #[] #[]) rfl (by kernel_rfl) (by kernel_rfl) (by kernel_rfl) (fun _ _ _ h => h) (Or.inl ⟨by kernel_rfl, fun _ _ => by kernel_rfl⟩) trivial ?_
  simp only [Act.put, List.setIfInBounds_toArray, List.set_cons_zero, List.set_cons_succ]
  refine wpAnyH_take (i := 6) (oi := (⟨some 41, Op.move (Operand.tmp 0), 56, "sort.go:167", #[{ on := 4, ground := Ground.guard }], some (4, true)⟩)) (v := .slice (some ad) n c) rfl (by kernel_rfl) (by kernel_rfl) (by kernel_rfl) (fun _ _ _ h => h) (Or.inl ⟨by kernel_rfl, fun _ _ => by kernel_rfl⟩) trivial ?_
  simp only [Act.put, List.setIfInBounds_toArray, List.set_cons_zero, List.set_cons_succ]
  refine wpAnyH_take (i := 7) (oi := (⟨some 42, Op.move (Operand.tmp 9), 3, "sort.go:167", #[{ on := 4, ground := Ground.guard }], some (4, true)⟩)) (v := .int .i64 (h : Nat)) rfl (by kernel_rfl) (by kernel_rfl) (by kernel_rfl) (fun _ _ _ h => h) (Or.inl ⟨by kernel_rfl, fun _ _ => by kernel_rfl⟩) trivial ?_
  simp only [Act.put, List.setIfInBounds_toArray, List.set_cons_zero, List.set_cons_succ]
  refine wpAnyH_take (i := 8) (oi := (⟨some 43, Op.indexAddr 56 (Operand.tmp 41) (Operand.tmp 42), 0, "sort.go:167", #[{ on := 6, ground := Ground.data }, { on := 7, ground := Ground.data }, { on := 4, ground := Ground.guard }], some (4, true)⟩)) (v := .pointer (some (ad.add (h * 3)))) rfl (by kernel_rfl) (by kernel_rfl) (by kernel_rfl) (fun _ _ _ h => h) (Or.inl ⟨by kernel_rfl, fun W _ => run_index_op (size := 3) (i := h) (n := n) (c := c) Try.underlying56 (by kernel_rfl) rfl rfl hh⟩) trivial ?_
  simp only [Act.put, List.setIfInBounds_toArray, List.set_cons_zero, List.set_cons_succ]
  refine wpAnyH_ready (rs := [9, 10]) (by kernel_rfl) (by simp) ?_
  refine AllReadyH.cons (o := (⟨some 44, Op.load 71 (Operand.tmp 43), 71, "sort.go:167", #[{ on := 8, ground := Ground.data }, { on := 4, ground := Ground.guard }], some (4, true)⟩)) rfl ?_ (AllReadyH.cons (o := (⟨some 45, Op.load 71 (Operand.tmp 4), 71, "sort.go:167", #[{ on := 4, ground := Ground.guard }], some (4, true)⟩)) rfl ?_ (AllReadyH.nil))
  · skip
    refine next_op (v := f.val) (by kernel_rfl) (run_loadS_op f.cells (by kernel_rfl) (by kernel_rfl) rfl (facts_cells' hr hf)) trivial (fun _ => ?_)
    simp only [Act.put, List.setIfInBounds_toArray, List.set_cons_zero, List.set_cons_succ]
    refine wpAnyH_ready (rs := [10]) (by kernel_rfl) (by simp) ?_
    refine AllReadyH.cons (o := (⟨some 45, Op.load 71 (Operand.tmp 4), 71, "sort.go:167", #[{ on := 4, ground := Ground.guard }], some (4, true)⟩)) rfl ?_ (AllReadyH.nil)
    · skip
      refine next_op (v := t.val) (by kernel_rfl) (run_loadS_op t.cells (by kernel_rfl) (by kernel_rfl) rfl (blk_cells hT)) trivial (fun _ => ?_)
      simp only [Act.put, List.setIfInBounds_toArray, List.set_cons_zero, List.set_cons_succ]
      refine wpAnyH_ready (rs := [11]) (by kernel_rfl) (by simp) ?_
      refine AllReadyH.cons (o := (⟨some 46, Op.call { callee := Callee.value (Operand.tmp 40), args := #[Operand.tmp 44, Operand.tmp 45], argTypes := #[71, 71] }, 3, "sort.go:167", #[{ on := 5, ground := Ground.data }, { on := 9, ground := Ground.data }, { on := 10, ground := Ground.data }, { on := 4, ground := Ground.chain }, { on := 4, ground := Ground.guard }], some (4, true)⟩)) rfl ?_ (AllReadyH.nil)
      · skip
        refine next_call (f := 44) (args := #[f.val, t.val]) (by kernel_rfl) (by kernel_rfl) (compare_any f t w.drew) ?_
        rintro e wy3 ⟨rfl, hb⟩
        refine ⟨.int .i64 (cmpF f t), rfl, trivial, fun _ => ?_⟩
        simp only [Act.put, List.setIfInBounds_toArray, List.set_cons_zero, List.set_cons_succ]
        refine wpAnyH_take (i := 12) (oi := (⟨some 47, Op.binOp BinOp.eql 3 (Operand.tmp 46) (Operand.const (Value.int IntKind.i64 0)) 3, 4, "sort.go:167", #[{ on := 11, ground := Ground.data }, { on := 4, ground := Ground.guard }, { on := 14, ground := Ground.gcOnly Departure.lateStores }], some (4, true)⟩)) (v := .bool (decide (cmpF f t = 0))) rfl (by kernel_rfl) (by kernel_rfl) (by kernel_rfl) (fun _ _ _ h => h) (Or.inl ⟨by kernel_rfl, fun W _ => run_eql0_op rfl rfl⟩) trivial ?_
        simp only [Act.put, List.setIfInBounds_toArray, List.set_cons_zero, List.set_cons_succ]
        refine wpAnyH_take (i := 13) (oi := (⟨some 48, Op.pick (Operand.tmp 39) (Operand.tmp 47) (Operand.const (Value.bool false)), 4, "sort.go:167", #[{ on := 4, ground := Ground.data }, { on := 12, ground := Ground.data }, { on := 14, ground := Ground.gcOnly Departure.lateStores }], none⟩)) (v := .bool (decide (cmpF f t = 0))) rfl (by kernel_rfl) (by kernel_rfl) (by kernel_rfl) (fun _ _ _ h => h) (Or.inl ⟨by kernel_rfl, fun _ _ => by kernel_rfl⟩) trivial ?_
        simp only [Act.put, List.setIfInBounds_toArray, List.set_cons_zero, List.set_cons_succ]
        refine wpAnyH_take (i := 14) (oi := (⟨some 6, Op.assign (Operand.tmp 35), 3, "sort.go:167", #[{ on := 0, ground := Ground.data }, { on := 11, ground := Ground.chain }, { on := 0, ground := Ground.phase }, { on := 1, ground := Ground.textOnly Departure.lateStores }, { on := 2, ground := Ground.textOnly Departure.lateStores }, { on := 3, ground := Ground.textOnly Departure.lateStores }, { on := 4, ground := Ground.textOnly Departure.lateStores }, { on := 5, ground := Ground.textOnly Departure.lateStores }, { on := 6, ground := Ground.textOnly Departure.lateStores }, { on := 7, ground := Ground.textOnly Departure.lateStores }, { on := 8, ground := Ground.textOnly Departure.lateStores }, { on := 9, ground := Ground.textOnly Departure.lateStores }, { on := 10, ground := Ground.textOnly Departure.lateStores }, { on := 11, ground := Ground.textOnly Departure.lateStoresUnsure }, { on := 12, ground := Ground.textOnly Departure.lateStores }, { on := 13, ground := Ground.textOnly Departure.lateStores }], none⟩)) (v := .int .i64 (h : Nat)) rfl (by kernel_rfl) (by kernel_rfl) (by kernel_rfl) (fun _ _ _ h => h) (Or.inl ⟨by kernel_rfl, fun _ _ => by kernel_rfl⟩) trivial ?_
        simp only [Act.put, List.setIfInBounds_toArray, List.set_cons_zero, List.set_cons_succ]
        refine wpAnyH_take (i := 15) (oi := (⟨some 7, Op.assign (Operand.tmp 48), 4, "sort.go:167", #[{ on := 13, ground := Ground.data }, { on := 14, ground := Ground.chain }, { on := 0, ground := Ground.phase }, { on := 1, ground := Ground.phase }, { on := 2, ground := Ground.phase }, { on := 3, ground := Ground.phase }, { on := 4, ground := Ground.phase }, { on := 5, ground := Ground.phase }, { on := 6, ground := Ground.phase }, { on := 7, ground := Ground.phase }, { on := 8, ground := Ground.phase }, { on := 9, ground := Ground.phase }, { on := 10, ground := Ground.phase }, { on := 11, ground := Ground.phase }, { on := 12, ground := Ground.phase }, { on := 13, ground := Ground.phase }, { on := 14, ground := Ground.phase }], none⟩)) (v := .bool (decide (cmpF f t = 0))) rfl (by kernel_rfl) (by kernel_rfl) (by kernel_rfl) (fun _ _ _ h => h) (Or.inl ⟨by kernel_rfl, fun _ _ => by kernel_rfl⟩) trivial ?_
        simp only [Act.put, List.setIfInBounds_toArray, List.set_cons_zero, List.set_cons_succ]
        refine wpAnyH_done (by kernel_rfl) ?_ _
        exact NoPanic.normal (hend wy3 _ _ _ _ _ _ _ _ _ _ _ _ _ _ ((Below.refl _ _).drew.trans (hb.mono (Nat.le_refl _))))
  · skip
    refine next_op (v := t.val) (by kernel_rfl) (run_loadS_op t.cells (by kernel_rfl) (by kernel_rfl) rfl (blk_cells hT)) trivial (fun _ => ?_)
    simp only [Act.put, List.setIfInBounds_toArray, List.set_cons_zero, List.set_cons_succ]
    refine wpAnyH_ready (rs := [9]) (by kernel_rfl) (by simp) ?_
    refine AllReadyH.cons (o := (⟨some 44, Op.load 71 (Operand.tmp 43), 71, "sort.go:167", #[{ on := 8, ground := Ground.data }, { on := 4, ground := Ground.guard }], some (4, true)⟩)) rfl ?_ (AllReadyH.nil)
    · skip
      refine next_op (v := f.val) (by kernel_rfl) (run_loadS_op f.cells (by kernel_rfl) (by kernel_rfl) rfl (facts_cells' hr hf)) trivial (fun _ => ?_)
      simp only [Act.put, List.setIfInBounds_toArray, List.set_cons_zero, List.set_cons_succ]
      refine wpAnyH_ready (rs := [11]) (by kernel_rfl) (by simp) ?_
      refine AllReadyH.cons (o := (⟨some 46, Op.call { callee := Callee.value (Operand.tmp 40), args := #[Operand.tmp 44, Operand.tmp 45], argTypes := #[71, 71] }, 3, "sort.go:167", #[{ on := 5, ground := Ground.data }, { on := 9, ground := Ground.data }, { on := 10, ground := Ground.data }, { on := 4, ground := Ground.chain }, { on := 4, ground := Ground.guard }], some (4, true)⟩)) rfl ?_ (AllReadyH.nil)
      · skip
        refine next_call (f := 44) (args := #[f.val, t.val]) (by kernel_rfl) (by kernel_rfl) (compare_any f t w.drew) ?_
        rintro e wy6 ⟨rfl, hb⟩
        refine ⟨.int .i64 (cmpF f t), rfl, trivial, fun _ => ?_⟩
        simp only [Act.put, List.setIfInBounds_toArray, List.set_cons_zero, List.set_cons_succ]
        refine wpAnyH_take (i := 12) (oi := (⟨some 47, Op.binOp BinOp.eql 3 (Operand.tmp 46) (Operand.const (Value.int IntKind.i64 0)) 3, 4, "sort.go:167", #[{ on := 11, ground := Ground.data }, { on := 4, ground := Ground.guard }, { on := 14, ground := Ground.gcOnly Departure.lateStores }], some (4, true)⟩)) (v := .bool (decide (cmpF f t = 0))) rfl (by kernel_rfl) (by kernel_rfl) (by kernel_rfl) (fun _ _ _ h => h) (Or.inl ⟨by kernel_rfl, fun W _ => run_eql0_op rfl rfl⟩) trivial ?_
        simp only [Act.put, List.setIfInBounds_toArray, List.set_cons_zero, List.set_cons_succ]
        refine wpAnyH_take (i := 13) (oi := (⟨some 48, Op.pick (Operand.tmp 39) (Operand.tmp 47) (Operand.const (Value.bool false)), 4, "sort.go:167", #[{ on := 4, ground := Ground.data }, { on := 12, ground := Ground.data }, { on := 14, ground := Ground.gcOnly Departure.lateStores }], none⟩)) (v := .bool (decide (cmpF f t = 0))) rfl (by kernel_rfl) (by kernel_rfl) (by kernel_rfl) (fun _ _ _ h => h) (Or.inl ⟨by kernel_rfl, fun _ _ => by kernel_rfl⟩) trivial ?_
        simp only [Act.put, List.setIfInBounds_toArray, List.set_cons_zero, List.set_cons_succ]
        refine wpAnyH_take (i := 14) (oi := (⟨some 6, Op.assign (Operand.tmp 35), 3, "sort.go:167", #[{ on := 0, ground := Ground.data }, { on := 11, ground := Ground.chain }, { on := 0, ground := Ground.phase }, { on := 1, ground := Ground.textOnly Departure.lateStores }, { on := 2, ground := Ground.textOnly Departure.lateStores }, { on := 3, ground := Ground.textOnly Departure.lateStores }, { on := 4, ground := Ground.textOnly Departure.lateStores }, { on := 5, ground := Ground.textOnly Departure.lateStores }, { on := 6, ground := Ground.textOnly Departure.lateStores }, { on := 7, ground := Ground.textOnly Departure.lateStores }, { on := 8, ground := Ground.textOnly Departure.lateStores }, { on := 9, ground := Ground.textOnly Departure.lateStores }, { on := 10, ground := Ground.textOnly Departure.lateStores }, { on := 11, ground := Ground.textOnly Departure.lateStoresUnsure }, { on := 12, ground := Ground.textOnly Departure.lateStores }, { on := 13, ground := Ground.textOnly Departure.lateStores }], none⟩)) (v := .int .i64 (h : Nat)) rfl (by kernel_rfl) (by kernel_rfl) (by kernel_rfl) (fun _ _ _ h => h) (Or.inl ⟨by kernel_rfl, fun _ _ => by kernel_rfl⟩) trivial ?_
        simp only [Act.put, List.setIfInBounds_toArray, List.set_cons_zero, List.set_cons_succ]
        refine wpAnyH_take (i := 15) (oi := (⟨some 7, Op.assign (Operand.tmp 48), 4, "sort.go:167", #[{ on := 13, ground := Ground.data }, { on := 14, ground := Ground.chain }, { on := 0, ground := Ground.phase }, { on := 1, ground := Ground.phase }, { on := 2, ground := Ground.phase }, { on := 3, ground := Ground.phase }, { on := 4, ground := Ground.phase }, { on := 5, ground := Ground.phase }, { on := 6, ground := Ground.phase }, { on := 7, ground := Ground.phase }, { on := 8, ground := Ground.phase }, { on := 9, ground := Ground.phase }, { on := 10, ground := Ground.phase }, { on := 11, ground := Ground.phase }, { on := 12, ground := Ground.phase }, { on := 13, ground := Ground.phase }, { on := 14, ground := Ground.phase }], none⟩)) (v := .bool (decide (cmpF f t = 0))) rfl (by kernel_rfl) (by kernel_rfl) (by kernel_rfl) (fun _ _ _ h => h) (Or.inl ⟨by kernel_rfl, fun _ _ => by kernel_rfl⟩) trivial ?_
        simp only [Act.put, List.setIfInBounds_toArray, List.set_cons_zero, List.set_cons_succ]
        refine wpAnyH_done (by kernel_rfl) ?_ _
        exact NoPanic.normal (hend wy6 _ _ _ _ _ _ _ _ _ _ _ _ _ _ ((Below.refl _ _).drew.trans (hb.mono (Nat.le_refl _))))
end Go.Proofs.Ytadgaphgomagkaa
/- The search in a sorted list; a table's place of a key; a key's newest fact. -/
namespace Go.Proofs.Ytadgaphgomagkaa
open Go.RowKit
set_option maxHeartbeats 4000000
set_option maxRecDepth 100000

def pF (l : List FM) (t : FM) (h : Nat) : Bool := match l[h]? with | some f => decide (cmpF f t < 0) | none => false
theorem pF_at {l : List FM} {t f : FM} {h : Nat} (hf : l[h]? = some f) : pF l t h = decide (cmpF f t < 0) := by simp [pF, hf]
def BsPost (w : World) (R : Nat) (e : Ending) (w' : World) : Prop := (∃ fl, e = .returned (.tuple #[.int .i64 (R : Nat), .bool fl])) ∧ Below w.heap.size w w'
theorem bsearch_any (A : Option Addr) (c : Nat) (l : List FM) (t : FM) (w : World) (hr : Rd w A (fcells l)) (hl : l.length ≤ 1048576) :
    Calls Try.prog 103 #[.slice A l.length c, t.val, .func (.func 44) #[] #[]] w (BsPost w (bsF (pF l t) l.length 0 l.length)) := by
  unfold FM.val
  have hBn := Blk.new w 71 #[.string t.k, .int .u64 (t.s : Nat), .slice t.A t.l.length t.c]
  have hbn := (Below.refl w.heap.size w).alloc (Nat.le_refl _) (.cells #[.string t.k, .int .u64 (t.s : Nat), .slice t.A t.l.length t.c] 71)
  generalize hR : bsF (pF l t) l.length 0 l.length = R at *
  have HR := Lib.hid hR
  clear hR
  go_enter Try.func103, Try.ntmps103
  go_wp2_with fail
  generalize w.alloc (.cells #[.string t.k, .int .u64 (t.s : Nat), .slice t.A t.l.length t.c] 71) = w1 at *
  generalize hg : w.heap.size = g at *
  have HG := Lib.hid hg
  clear hg
  go_loopg [9, 10] l.length (fun m s9 s10 wr => ∃ i j n : Nat, m = j - i ∧ s9 = .int .i64 (i : Nat) ∧ s10 = .int .i64 (j : Nat) ∧ i ≤ j ∧ j ≤ l.length ∧ j - i ≤ n ∧ bsF (pF l t) n i j = R ∧ Blk wr g 71 t.cells.toArray ∧ Below g w wr)
  case atStart => exact ⟨0, l.length, l.length, by omega, rfl, rfl, by omega, by omega, by omega, HR.out, hBn, hbn⟩
  case round =>
    clear hBn hbn
    obtain ⟨i, j, n, rfl, rfl, rfl, hij, hjl, hn, hbs, hB, hb⟩ := hrel
    by_cases hlt : i < j
    · obtain ⟨ad, rfl, had, _⟩ := hr (by rw [← List.length_pos_iff, fcells_length]; omega)
      rw [HG.out] at had
      have hr2 := hr.under hb (fun a e => by injection e with e; subst e; exact had)
      obtain ⟨f, hf⟩ : ∃ f, l[(i + j) / 2]? = some f := ⟨l[(i + j) / 2]'(by omega), List.getElem?_eq_getElem (by omega)⟩
      have hp := pF_at (t := t) hf
      have k1 : (i : Int) < (j : Int) := by omega
      have hh : (i + j) / 2 < l.length := by omega
      have hbs2 : n ≠ 0 ∧ bsF (pF l t) n i j = R := ⟨by omega, hbs⟩
      obtain ⟨n, rfl⟩ : ∃ q, n = q + 1 := ⟨n - 1, by omega⟩
      have e1 : IntKind.i64.wrap ((i : Int) + (j : Int)) = ((i + j : Nat) : Int) := by rw [IntWalk.i64_in _ (by omega)]; omega
      generalize hs : i + j = s at *
      have HS := Lib.hid hs
      clear hs hbs2
      rw [bsF, if_pos hlt, HS.out, hp] at hbs
      have HB := Lib.hid hbs
      clear hbs
      go_upto_region 5 with fail
      rw [show (s : Int) / 2 = ((s / 2 : Nat) : Int) by omega]
      have hh2 : i ≤ s / 2 ∧ s / 2 < j := by have := HS.out; omega
      generalize s / 2 = h at *
      refine regBs5 hr2.drew hB.drew hf hh ?_
      intro w2 _ _ _ _ _ _ _ hb2
      have hg2 : g < wr.heap.size := hB.lt
      have hB2 := hB.below' hb2
      have hbx := hb.trans (hb2.mono (Nat.le_of_lt hg2))
      clear hr2 hB hb2 hg2 hp
      cases hd : decide (cmpF f t < 0) with
      | true =>
        rw [hd] at HB
        replace HB : Hid (bsF (pF l t) n (h + 1) j = R) := HB
        clear hd
        go_wp2_with fail
        go_roundg (j - (h + 1))
        case measure => omega
        case rel => exact ⟨h + 1, j, n, rfl, by go_num, rfl, by omega, hjl, by omega, HB.out, hB2, hbx⟩
      | false =>
        rw [hd] at HB
        replace HB : Hid (bsF (pF l t) n i h = R) := HB
        clear hd
        go_wp2_with fail
        go_roundg (h - i)
        case measure => omega
        case rel => exact ⟨i, h, n, rfl, rfl, rfl, by omega, by omega, by omega, HB.out, hB2, hbx⟩
    · obtain rfl : i = j := by omega
      have k1 : ¬ (i : Int) < (i : Int) := by omega
      have hE : R = i := by rw [← hbs]; cases n <;> simp [bsF]
      subst hE
      by_cases hlen : R < l.length
      · obtain ⟨ad, rfl, had, _⟩ := hr (by rw [← List.length_pos_iff, fcells_length]; omega)
        rw [HG.out] at had
        have hr2 := hr.under hb (fun a e => by injection e with e; subst e; exact had)
        obtain ⟨f, hf⟩ : ∃ f, l[R]? = some f := ⟨l[R], List.getElem?_eq_getElem hlen⟩
        clear hbs
        go_upto_region 8 with fail
        refine regBs8 hr2.drew hB.drew hf hlen ?_
        intro w2 _ _ _ _ _ _ _ _ _ _ _ _ _ _ hb2
        have hg2 : g < wr.heap.size := hB.lt
        have hbx := hb.trans (hb2.mono (Nat.le_of_lt hg2))
        go_wp2_with fail
        go_ret2
        exact ⟨⟨_, rfl⟩, by rw [HG.out]; exact hbx⟩
      · have k2 : decide ((R : Int) < (l.length : Int)) = false := by simp; omega
        clear hbs
        go_wp2_with fail
        go_quiet (fail)
        go_wp2_with fail
        go_ret2
        exact ⟨⟨_, rfl⟩, by rw [HG.out]; exact hb.trans ⟨rfl, rfl, rfl, Nat.le_refl _, fun _ _ => rfl⟩⟩
/-- the place of a key in a table -/
def plF (l : List FM) (key : ByteArray) : Nat := bsF (pF l ⟨key, 18446744073709551615, none, 0, []⟩) l.length 0 l.length
theorem place_any (g : Nat) (A : Option Addr) (c : Nat) (l : List FM) (key : ByteArray) (w : World) (h : TblAt w g A l c) (hl : l.length ≤ 1048576) :
    Calls Try.prog 81 #[.pointer (some ⟨g, 0, none⟩), .string key] w fun e w' => e = .returned (.int .i64 (plF l key : Nat)) ∧ Below w.heap.size w w' := by
  have x0 : w.cell? ⟨g, 0, none⟩ = some (.slice A l.length c) := h.blk.cell 0
  have hb := bsearch_any A c l ⟨key, 18446744073709551615, none, 0, []⟩ w h.rd hl
  simp only [FM.val, List.length_nil] at hb
  unfold plF
  generalize bsF (pF l ⟨key, 18446744073709551615, none, 0, []⟩) l.length 0 l.length = R at *
  clear h
  go_enter Try.func81, Try.ntmps81
  go_wp2_with fail
  refine hb.mono ?_
  rintro e w1 ⟨⟨fl, rfl⟩, hb1⟩
  clear hb
  go_wp2_with fail
  go_ret
  exact ⟨rfl, hb1⟩
theorem results_cellrow_tmp {P : Program} {fn : Func} {p u : Tmp} {ty : TypeId} (h : fn.results = #[.cell p ty, .tmp u]) (tmps : Array Value) (w : World) (g : Nat) (t : TypeId) (cs : Array Value) (fr : Nat × Nat) (d : TypeDesc)
    (hp : tmps.getD p undef = .pointer (some ⟨g, 0, none⟩)) (hg : w.heap[g]? = some (.cells cs t fr))
    (hu : P.underlying ty = some d) (hd : (match d with | .struct _ | .array _ _ => true | _ => false) = true) (hi : (P.info? ty).map (·.size) = some cs.size) :
    (results fn tmps).run P w = .ok (.tuple #[.agg cs, tmps.getD u undef]) w := by
  have hp' : tmps[p]?.getD undef = .pointer (some ⟨g, 0, none⟩) := by simpa using hp
  simp [results, h, hp', asAddr, run_loadVar_row w g t ty cs fr d hg hu hd hi]
/-- a key's newest fact -/
def getF (l : List FM) (key : ByteArray) : Option FM := match l[plF l key]? with | some f => if f.k = key then some f else none | none => none
def GetPost (w : World) (R : Option FM) (e : Ending) (w' : World) : Prop := Below w.heap.size w w' ∧ match R with
  | some f => ∃ A' c', e = .returned (.tuple #[FM.val ⟨f.k, f.s, A', c', f.l⟩, .bool true]) ∧ w'.ownsRow w.heap.size 5 1 (.slice A' f.l.length c') f.l.length (byts f.l)
  | none => e = .returned (.tuple #[.agg #[.string ⟨#[]⟩, .int .u64 0, .slice none 0 0], .bool false])
theorem get_any (g : Nat) (A : Option Addr) (c : Nat) (l : List FM) (key : ByteArray) (w : World) (h : TblAt w g A l c) (hok : ∀ f ∈ l, f.ok w) (hl : l.length ≤ 1048576) :
    Calls Try.prog 38 #[.pointer (some ⟨g, 0, none⟩), .string key] w (GetPost w (getF l key)) := by
  have hBz := Blk.new w 71 #[.string ⟨#[]⟩, .int .u64 0, .slice none 0 0]
  have hb0 := (Below.refl w.heap.size w).alloc (Nat.le_refl _) (.cells #[.string ⟨#[]⟩, .int .u64 0, .slice none 0 0] 71)
  have h1 : TblAt (w.alloc (.cells #[.string ⟨#[]⟩, .int .u64 0, .slice none 0 0] 71)) g A l c := ⟨h.blk.below' hb0, h.rd.below hb0, h.cap⟩
  have hpl := place_any g A c l key _ h1 hl
  have hgw : g < w.heap.size := h.blk.lt
  have hG : Hid (getF l key = match l[plF l key]? with | some f => if f.k = key then some f else none | none => none) := Lib.hid rfl
  generalize getF l key = G at *
  generalize plF l key = i at *
  go_enter Try.func38, Try.ntmps38
  go_wp2_with fail
  generalize w.alloc (.cells #[.string ⟨#[]⟩, .int .u64 0, .slice none 0 0] 71) = w1 at *
  generalize hgR : w.heap.size = gR at *
  have HGR := Lib.hid hgR
  clear hgR
  refine hpl.mono ?_
  rintro e w2 ⟨rfl, hb2⟩
  clear hpl
  have hb02 : Below gR w w2 := hb0.trans (hb2.mono (Nat.le_of_lt hBz.lt))
  have hb02' : Below w.heap.size w w2 := by rw [HGR.out]; exact hb02
  have hBz2 := hBz.below' hb2
  have hT2 : TblAt w2 g A l c := ⟨h1.blk.below' hb2, h1.rd.below hb2, h1.cap⟩
  have x0 : w2.cell? ⟨g, 0, none⟩ = some (.slice A l.length c) := hT2.blk.cell 0
  clear h1 hb2 hBz
  have hfin : ∀ (W : World) (u1 u2 u3 : Value), Blk W gR 71 #[.string ⟨#[]⟩, .int .u64 0, .slice none 0 0] → Blk (((W.setCell ⟨gR, 0, none⟩ u1).setCell ⟨gR, 1, none⟩ u2).setCell ⟨gR, 2, none⟩ u3) gR 71 #[u1, u2, u3] := fun W u1 u2 u3 h => ((h.set 0 u1).set 1 u2).set 2 u3
  have hset : ∀ (W : World) (u1 u2 u3 : Value), Below gR w W → Below gR w (((W.setCell ⟨gR, 0, none⟩ u1).setCell ⟨gR, 1, none⟩ u2).setCell ⟨gR, 2, none⟩ u3) := fun W u1 u2 u3 h => ((h.setCell (p := ⟨gR, 0, none⟩) (Nat.le_refl _) u1).setCell (p := ⟨gR, 1, none⟩) (Nat.le_refl _) u2).setCell (p := ⟨gR, 2, none⟩) (Nat.le_refl _) u3
  have y0 := hBz2.frozen 0
  have y1 := hBz2.frozen 1
  have y2 := hBz2.frozen 2
  have c0' := hBz2.cell 0
  have c1' := hBz2.cell 1
  have c2' := hBz2.cell 2
  cases hli : l[i]? with
  | none =>
    have hG2 := Lib.hid (show G = none by rw [hG.out, hli])
    have k1 : ¬ (i : Int) < (l.length : Int) := by have := List.getElem?_eq_none_iff.1 hli; omega
    clear hG hli
    go_wp2_with fail
    refine bodyPost_ret (results_cellrow_tmp rfl _ _ gR 71 _ (0, 0) _ rfl (hfin w2 _ _ _ hBz2) Try.underlying71 rfl (by kernel_rfl)) rfl ?_
    rw [hG2.out]
    exact ⟨by rw [HGR.out]; exact hset w2 _ _ _ hb02, rfl⟩
  | some f =>
    obtain ⟨hi, hif⟩ := List.getElem?_eq_some_iff.1 hli
    obtain ⟨ad, rfl, z0, z1, z2⟩ := facts_at hT2.rd i hi
    rw [hif] at z0 z1 z2
    have hfok := (hok f (hif ▸ List.getElem_mem hi)).below hb02'
    have hap := apart_any f w2 hfok
    simp only [FM.val] at hap
    have k1 : (i : Int) < (l.length : Int) := by omega
    have hkq := key_eq f.k key
    by_cases hq : strB f.k = strB key
    · have hkk : f.k = key := by
        have : f.k.data = key.data := Array.toList_inj.1 hq
        cases hf : f.k; cases hk : key
        rw [hf, hk] at this
        simpa using this
      have hG2 := Lib.hid (show G = some f by rw [hG.out, hli]; simp [hkk])
      rw [decide_eq_true hq] at hkq
      clear hG hli hif hfok hq hkk
      go_wp2_with fail
      refine hap.mono ?_
      rintro e w3 ⟨A3, c3, rfl, ho3, hb3⟩
      clear hap
      have hBz3 := hBz2.below' hb3
      have hgR2 : gR < w2.heap.size := hBz2.lt
      have hb03 : Below gR w w3 := hb02.trans (hb3.mono (Nat.le_of_lt hgR2))
      have v0 := hBz3.frozen 0
      have v1 := hBz3.frozen 1
      have v2 := hBz3.frozen 2
      have d0 := hBz3.cell 0
      have d1 := hBz3.cell 1
      have d2 := hBz3.cell 2
      clear c0' c1' c2' y0 y1 y2 z0 z1 z2
      go_wp2_with fail
      refine bodyPost_ret (results_cellrow_tmp rfl _ _ gR 71 _ (0, 0) _ rfl (hfin w3 _ _ _ hBz3) Try.underlying71 rfl (by kernel_rfl)) rfl ?_
      rw [hG2.out]
      refine ⟨by rw [HGR.out]; exact hset w3 _ _ _ hb03, A3, c3, rfl, ?_⟩
      have ho4 := own_but (own_but (own_but ho3 (But.set gR 0 _ (.string f.k)) hgR2) (But.set gR 1 _ (.int .u64 (f.s : Nat))) hgR2) (But.set gR 2 _ (.slice A3 f.l.length c3)) hgR2
      exact own_mono ho4 (by rw [HGR.out]; omega)
    · have hkk : ¬ f.k = key := fun h => hq (by rw [h])
      have hG2 := Lib.hid (show G = none by rw [hG.out, hli]; simp [hkk])
      rw [decide_eq_false hq] at hkq
      clear hG hli hif hfok hq hkk hap
      go_wp2_with fail
      refine bodyPost_ret (results_cellrow_tmp rfl _ _ gR 71 _ (0, 0) _ rfl (hfin w2 _ _ _ hBz2) Try.underlying71 rfl (by kernel_rfl)) rfl ?_
      rw [hG2.out]
      exact ⟨by rw [HGR.out]; exact hset w2 _ _ _ hb02, rfl⟩
end Go.Proofs.Ytadgaphgomagkaa
