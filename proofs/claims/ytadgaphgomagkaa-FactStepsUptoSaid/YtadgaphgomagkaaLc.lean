/- Words for regions that draw their order: slices, differences, conversions. -/
import Derived.Test.YtadgaphgomagkaaKy
namespace Go.Proofs.Ytadgaphgomagkaa
open Go.RowKit
set_option maxHeartbeats 2000000
set_option maxRecDepth 100000

section
variable {P : Program} {ρ : Operand → Value} {d : Option Tmp} {ty : TypeId} {pos : String} {af : Array Edge} {g : Option (Nat × Bool)} {w : World}
theorem run_slice_l_op {t e : TypeId} {x lo : Operand} {A : Option Addr} {n c l s : Nat} {v : Value} (hu : P.underlying t = some (.slice e)) (hz : (sizeOf e).run P w = .ok s w) (hx : ρ x = .slice A n c) (hl : ρ lo = .int .i64 (l : Nat)) (h : l ≤ n) (hv : sliced A l n c s = v) :
    (execOp ρ ⟨d, .slice t x (some lo) none none, ty, pos, af, g⟩).run P w = .ok (.value v) w := by
  subst hv
  have he : P.elem t = e := by simp [Program.elem, hu]
  simp only [execOp, hx, hl, Option.map_some, Option.map_none]
  rw [Sem.run_bind, run_sliceAt_slice _ _ _ _ _ _ (by rw [he]; exact hu), run_slice_l w t A n c (by rw [he]; exact hu) .i64 (l : Int) (by omega) (by omega)]
  simp [he, hz]
theorem run_slice_h_op {t e : TypeId} {x hi : Operand} {A : Option Addr} {n c l s : Nat} {v : Value} (hu : P.underlying t = some (.slice e)) (hz : (sizeOf e).run P w = .ok s w) (hx : ρ x = .slice A n c) (hl : ρ hi = .int .i64 (l : Nat)) (h : l ≤ c) (hv : sliced A 0 l c s = v) :
    (execOp ρ ⟨d, .slice t x none (some hi) none, ty, pos, af, g⟩).run P w = .ok (.value v) w := by
  subst hv
  have he : P.elem t = e := by simp [Program.elem, hu]
  simp only [execOp, hx, hl, Option.map_some, Option.map_none]
  rw [Sem.run_bind, run_sliceAt_slice _ _ _ _ _ _ (by rw [he]; exact hu), run_slice_h w t A n c (by rw [he]; exact hu) .i64 (l : Int) (by omega) (by omega)]
  simp [he, hz]
theorem run_slice_lh_op {t e : TypeId} {x lo hi : Operand} {A : Option Addr} {n c l m s : Nat} {v : Value} (hu : P.underlying t = some (.slice e)) (hz : (sizeOf e).run P w = .ok s w) (hx : ρ x = .slice A n c) (hl : ρ lo = .int .i64 (l : Nat)) (hh : ρ hi = .int .i64 (m : Nat)) (h : l ≤ m) (h2 : m ≤ c) (hv : sliced A l m c s = v) :
    (execOp ρ ⟨d, .slice t x (some lo) (some hi) none, ty, pos, af, g⟩).run P w = .ok (.value v) w := by
  subst hv
  have he : P.elem t = e := by simp [Program.elem, hu]
  simp only [execOp, hx, hl, hh, Option.map_some, Option.map_none]
  rw [Sem.run_bind, run_sliceAt_slice _ _ _ _ _ _ (by rw [he]; exact hu), run_slice_lh w t A n c (by rw [he]; exact hu) .i64 .i64 (l : Int) (m : Int) (by omega) (by omega) (by omega)]
  simp [he, hz]
theorem run_sub_nat {t : TypeId} {x y : Operand} {a b : Nat} (hx : ρ x = .int .i64 ((a + b : Nat) : Nat)) (hy : ρ y = .int .i64 (b : Nat)) (h : a + b ≤ 9223372036854775807) : (execOp ρ ⟨d, .binOp .sub t x y t, ty, pos, af, g⟩).run P w = .ok (.value (.int .i64 (a : Nat))) w := by
  have e : IntKind.i64.wrap (((a + b : Nat) : Int) - (b : Int)) = (a : Int) := by rw [IntWalk.i64_in _ (by omega)]; omega
  simp only [execOp, hx, hy]
  simp [eqGuard, go_sem]
  simpa using e
theorem run_neq_nat {t : TypeId} {x y : Operand} {a b : Nat} (hx : ρ x = .int .i64 (a : Nat)) (hy : ρ y = .int .i64 (b : Nat)) : (execOp ρ ⟨d, .binOp .neq t x y t, ty, pos, af, g⟩).run P w = .ok (.value (.bool (decide (a ≠ b)))) w := by
  simp only [execOp, hx, hy]
  simp [eqGuard, go_sem]
  by_cases h : a = b
  · subst h; simp
  · simp [h]
    omega
end
theorem conv_u32_int (v : Nat) (h : v < 4294967296) (w : World) : (convert 109 3 (.int .u32 (v : Nat))).run Try.prog w = .ok (.int .i64 (v : Nat)) w := by
  have e : IntKind.i64.wrap (v : Int) = (v : Int) := IntWalk.i64_in _ (by omega)
  have hk : Try.prog.intKind 3 = .i64 := by kernel_rfl
  rw [run_convert_int w 109 3 .u32 _ (by kernel_rfl) (by kernel_rfl), hk, e]
theorem belN {B : Nat} {w W : World} (h : Below B w W) (n : Nat) : Below B w (W.drewN n) := ⟨h.os, h.tape, h.output, h.size, h.block⟩
theorem sliced_lo (ad : Addr) {l n c : Nat} (h : c ≠ l) : sliced (some ad) l n c 1 = .slice (some (ad.add l)) (n - l) (c - l) := by
  simp [sliced, h]
theorem sliced_zero (A : Option Addr) (h c s : Nat) : sliced A 0 h c s = .slice A h c := by
  have : ∀ x : Addr, x.add 0 = x := fun x => rfl
  cases A <;> simp [sliced, this]
end Go.Proofs.Ytadgaphgomagkaa
/- A table is opened: the statements that draw their order. PRINTED by tools/regs_l.py. -/
namespace Go.Proofs.Ytadgaphgomagkaa
open Go.RowKit
set_option maxHeartbeats 8000000
set_option maxRecDepth 100000
def opsOpen5 : Array Oper := #[{ dst := some 23, op := Op.move (Operand.tmp 5), type := 35, pos := "fact.go:160", after := #[], guard := none }, { dst := some 24, op := Op.call { callee := Callee.value (Operand.func 77), args := #[Operand.tmp 23], argTypes := #[35] }, type := 3, pos := "fact.go:160", after := #[{ on := 0, ground := Ground.data }], guard := none }, { dst := some 25, op := Op.move (Operand.tmp 5), type := 35, pos := "fact.go:160", after := #[], guard := none }, { dst := some 26, op := Op.slice 35 (Operand.tmp 25) (some (Operand.const (Value.int IntKind.i64 4))) none none, type := 35, pos := "fact.go:160", after := #[{ on := 2, ground := Ground.data }], guard := none }, { dst := some 27, op := Op.call { callee := Callee.value (Operand.func 77), args := #[Operand.tmp 26], argTypes := #[35] }, type := 3, pos := "fact.go:160", after := #[{ on := 3, ground := Ground.data }, { on := 1, ground := Ground.chain }], guard := none }, { dst := some 6, op := Op.assign (Operand.tmp 24), type := 3, pos := "fact.go:160", after := #[{ on := 1, ground := Ground.data }, { on := 4, ground := Ground.chain }, { on := 0, ground := Ground.phase }, { on := 1, ground := Ground.phase }, { on := 2, ground := Ground.textOnly Departure.lateStores }, { on := 3, ground := Ground.textOnly Departure.lateStoresUnsure }, { on := 4, ground := Ground.textOnly Departure.lateStoresUnsure }], guard := none }, { dst := some 7, op := Op.assign (Operand.tmp 27), type := 3, pos := "fact.go:160", after := #[{ on := 4, ground := Ground.data }, { on := 5, ground := Ground.chain }, { on := 0, ground := Ground.phase }, { on := 1, ground := Ground.phase }, { on := 2, ground := Ground.phase }, { on := 3, ground := Ground.phase }, { on := 4, ground := Ground.phase }, { on := 5, ground := Ground.phase }], guard := none }]
theorem regOpen5 {u0 u1 u2 u3 u4 u6 u7 u8 u9 u10 u11 u12 u13 u14 u15 u16 u17 u18 u19 u20 u21 u22 u23 u24 u25 u26 u27 u28 u29 u30 u31 u32 u33 u34 u35 u36 u37 u38 u39 u40 u41 u42 u43 u44 u45 u46 u47 u48 u49 u50 u51 u52 u53 u54 u55 u56 u57 u58 u59 u60 u61 u62 u63 u64 u65 u66 u67 u68 u69 u70 u71 u72 u73 u74 u75 u76 u77 u78 u79 u80 u81 u82 u83 u84 u85 u86 u87 u88 u89 u90 u91 u92 u93 u94 u95 u96 u97 u98 u99 u100 u101 u102 u103 u104 u105 u106 u107 u108 u109 u110 u111 u112 u113 u114 u115 u116 u117 u118 u119 u120 u121 u122 u123 u124 : Value} {DD : List Deferred} {Q : Exit → Act → World → Prop} {w : World} {fa : Addr} {fc : Nat} {f : List UInt8} (hr : Rd w.drew (some fa) (byts f)) (hf : f.length = 12) (hc : 12 ≤ fc)
    (hend : ∀ (w2 : World) (x23 x24 x25 x26 x27 : Value) (_ : Below w.heap.size w w2), Q .normal ⟨#[u0, u1, u2, u3, u4, .slice (some fa) 12 fc, .int .i64 (leN (f.take 4) : Nat), .int .i64 (leN ((f.drop 4).take 4) : Nat), u8, u9, u10, u11, u12, u13, u14, u15, u16, u17, u18, u19, u20, u21, u22, x23, x24, x25, x26, x27, u28, u29, u30, u31, u32, u33, u34, u35, u36, u37, u38, u39, u40, u41, u42, u43, u44, u45, u46, u47, u48, u49, u50, u51, u52, u53, u54, u55, u56, u57, u58, u59, u60, u61, u62, u63, u64, u65, u66, u67, u68, u69, u70, u71, u72, u73, u74, u75, u76, u77, u78, u79, u80, u81, u82, u83, u84, u85, u86, u87, u88, u89, u90, u91, u92, u93, u94, u95, u96, u97, u98, u99, u100, u101, u102, u103, u104, u105, u106, u107, u108, u109, u110, u111, u112, u113, u114, u115, u116, u117, u118, u119, u120, u121, u122, u123, u124], DD⟩ w2) :
    (Code.region 5 opsOpen5 true).wp Try.prog Q ⟨#[u0, u1, u2, u3, u4, .slice (some fa) 12 fc, u6, u7, u8, u9, u10, u11, u12, u13, u14, u15, u16, u17, u18, u19, u20, u21, u22, u23, u24, u25, u26, u27, u28, u29, u30, u31, u32, u33, u34, u35, u36, u37, u38, u39, u40, u41, u42, u43, u44, u45, u46, u47, u48, u49, u50, u51, u52, u53, u54, u55, u56, u57, u58, u59, u60, u61, u62, u63, u64, u65, u66, u67, u68, u69, u70, u71, u72, u73, u74, u75, u76, u77, u78, u79, u80, u81, u82, u83, u84, u85, u86, u87, u88, u89, u90, u91, u92, u93, u94, u95, u96, u97, u98, u99, u100, u101, u102, u103, u104, u105, u106, u107, u108, u109, u110, u111, u112, u113, u114, u115, u116, u117, u118, u119, u120, u121, u122, u123, u124], DD⟩ w := by
  have hd : Rd w.drew (some (fa.add 4)) (byts (f.drop 4)) := by have := hr.drop 4 fc (by rw [byts_length]; omega); rw [if_neg (by omega)] at this; simpa [byts] using this
  have hb : Below w.heap.size w w.drew := (Below.refl _ _).drew
  refine wp_region_noPanic ?_
  refine wp_region_held_drew (S := fun _ => True) (by kernel_rfl) trivial (fun _ => ?_)
  refine wpAnyH_take (i := 0) (oi := (⟨some 23, Op.move (Operand.tmp 5), 35, "fact.go:160", #[], none⟩)) (v := .slice (some fa) 12 fc) rfl (by kernel_rfl) (by kernel_rfl) (by kernel_rfl) (fun _ _ _ h => h) (Or.inl ⟨by kernel_rfl, fun _ _ => by kernel_rfl⟩) trivial ?_
  simp only [Act.put, List.setIfInBounds_toArray, List.set_cons_zero, List.set_cons_succ]
  refine wpAnyH_take (i := 2) (oi := (⟨some 25, Op.move (Operand.tmp 5), 35, "fact.go:160", #[], none⟩)) (v := .slice (some fa) 12 fc) rfl (by kernel_rfl) (by kernel_rfl) (by kernel_rfl) (fun _ _ _ h => h) (Or.inl ⟨by kernel_rfl, fun _ _ => by kernel_rfl⟩) trivial ?_
  simp only [Act.put, List.setIfInBounds_toArray, List.set_cons_zero, List.set_cons_succ]
  refine wpAnyH_take (i := 3) (oi := (⟨some 26, Op.slice 35 (Operand.tmp 25) (some (Operand.const (Value.int IntKind.i64 4))) none none, 35, "fact.go:160", #[{ on := 2, ground := Ground.data }], none⟩)) (v := .slice (some (fa.add 4)) 8 (fc - 4)) rfl (by kernel_rfl) (by kernel_rfl) (by kernel_rfl) (fun _ _ _ h => h) (Or.inl ⟨by kernel_rfl, fun W _ => run_slice_l_op (s := 1) (l := 4) Try.underlying35 (by kernel_rfl) rfl rfl (by decide) (sliced_lo fa (by omega))⟩) trivial ?_
  simp only [Act.put, List.setIfInBounds_toArray, List.set_cons_zero, List.set_cons_succ]
  refine wpAnyH_ready (rs := [1]) (by kernel_rfl) (by simp) ?_
  refine AllReadyH.cons (o := (⟨some 24, Op.call { callee := Callee.value (Operand.func 77), args := #[Operand.tmp 23], argTypes := #[35] }, 3, "fact.go:160", #[{ on := 0, ground := Ground.data }], none⟩)) rfl ?_ (AllReadyH.nil)
  · skip
    refine next_call (f := 77) (args := #[.slice (some fa) 12 fc]) (by kernel_rfl) (by kernel_rfl) (fnumber_any (some fa) fc 12 f w.drew hr hf (by decide)) ?_
    rintro e wy1 ⟨rfl, q1, hw1⟩
    refine ⟨.int .i64 (leN (f.take 4) : Nat), rfl, trivial, fun _ => ?_⟩
    simp only [Act.put, List.setIfInBounds_toArray, List.set_cons_zero, List.set_cons_succ]
    have hd : Rd wy1 (some (fa.add 4)) (byts (f.drop 4)) := hw1 ▸ hd
    have hb : Below w.heap.size w wy1 := hw1 ▸ belN hb _
    refine wpAnyH_ready (rs := [4]) (by kernel_rfl) (by simp) ?_
    refine AllReadyH.cons (o := (⟨some 27, Op.call { callee := Callee.value (Operand.func 77), args := #[Operand.tmp 26], argTypes := #[35] }, 3, "fact.go:160", #[{ on := 3, ground := Ground.data }, { on := 1, ground := Ground.chain }], none⟩)) rfl ?_ (AllReadyH.nil)
    · skip
      refine next_call (f := 77) (args := #[.slice (some (fa.add 4)) 8 (fc - 4)]) (by kernel_rfl) (by kernel_rfl) (fnumber_any (some (fa.add 4)) (fc - 4) 8 (f.drop 4) wy1 hd (by rw [List.length_drop, hf]) (by decide)) ?_
      rintro e wy2 ⟨rfl, q2, hw2⟩
      refine ⟨.int .i64 (leN ((f.drop 4).take 4) : Nat), rfl, trivial, fun _ => ?_⟩
      simp only [Act.put, List.setIfInBounds_toArray, List.set_cons_zero, List.set_cons_succ]
      have hb : Below w.heap.size w wy2 := hw2 ▸ belN hb _
      refine wpAnyH_take (i := 5) (oi := (⟨some 6, Op.assign (Operand.tmp 24), 3, "fact.go:160", #[{ on := 1, ground := Ground.data }, { on := 4, ground := Ground.chain }, { on := 0, ground := Ground.phase }, { on := 1, ground := Ground.phase }, { on := 2, ground := Ground.textOnly Departure.lateStores }, { on := 3, ground := Ground.textOnly Departure.lateStoresUnsure }, { on := 4, ground := Ground.textOnly Departure.lateStoresUnsure }], none⟩)) (v := .int .i64 (leN (f.take 4) : Nat)) rfl (by kernel_rfl) (by kernel_rfl) (by kernel_rfl) (fun _ _ _ h => h) (Or.inl ⟨by kernel_rfl, fun _ _ => by kernel_rfl⟩) trivial ?_
      simp only [Act.put, List.setIfInBounds_toArray, List.set_cons_zero, List.set_cons_succ]
      refine wpAnyH_take (i := 6) (oi := (⟨some 7, Op.assign (Operand.tmp 27), 3, "fact.go:160", #[{ on := 4, ground := Ground.data }, { on := 5, ground := Ground.chain }, { on := 0, ground := Ground.phase }, { on := 1, ground := Ground.phase }, { on := 2, ground := Ground.phase }, { on := 3, ground := Ground.phase }, { on := 4, ground := Ground.phase }, { on := 5, ground := Ground.phase }], none⟩)) (v := .int .i64 (leN ((f.drop 4).take 4) : Nat)) rfl (by kernel_rfl) (by kernel_rfl) (by kernel_rfl) (fun _ _ _ h => h) (Or.inl ⟨by kernel_rfl, fun _ _ => by kernel_rfl⟩) trivial ?_
      simp only [Act.put, List.setIfInBounds_toArray, List.set_cons_zero, List.set_cons_succ]
      refine wpAnyH_done (by kernel_rfl) ?_ _
      exact NoPanic.normal (hend wy2 _ _ _ _ _ hb)
def opsOpen6 : Array Oper := #[{ dst := some 29, op := Op.move (Operand.tmp 5), type := 35, pos := "fact.go:162", after := #[], guard := none }, { dst := some 30, op := Op.slice 35 (Operand.tmp 29) (some (Operand.const (Value.int IntKind.i64 8))) none none, type := 35, pos := "fact.go:162", after := #[{ on := 0, ground := Ground.data }], guard := none }, { dst := some 31, op := Op.call { callee := Callee.value (Operand.func 77), args := #[Operand.tmp 30], argTypes := #[35] }, type := 3, pos := "fact.go:162", after := #[{ on := 1, ground := Ground.data }], guard := none }, { dst := some 32, op := Op.move (Operand.tmp 5), type := 35, pos := "fact.go:162", after := #[], guard := none }, { dst := some 33, op := Op.slice 35 (Operand.tmp 32) none (some (Operand.const (Value.int IntKind.i64 8))) none, type := 35, pos := "fact.go:162", after := #[{ on := 3, ground := Ground.data }], guard := none }, { dst := some 34, op := Op.buildSlice 99 1 #[(0, Operand.tmp 33)], type := 99, pos := "fact.go:162", after := #[{ on := 4, ground := Ground.data }], guard := none }, { dst := some 35, op := Op.call { callee := Callee.value (Operand.func 65), args := #[Operand.tmp 34], argTypes := #[99] }, type := 109, pos := "fact.go:162", after := #[{ on := 5, ground := Ground.data }, { on := 2, ground := Ground.chain }], guard := none }, { dst := some 36, op := Op.convert 109 3 (Operand.tmp 35), type := 3, pos := "fact.go:162", after := #[{ on := 6, ground := Ground.data }], guard := none }, { dst := some 37, op := Op.binOp BinOp.neq 3 (Operand.tmp 31) (Operand.tmp 36) 3, type := 4, pos := "fact.go:162", after := #[{ on := 2, ground := Ground.data }, { on := 7, ground := Ground.data }], guard := none }, { dst := some 28, op := Op.assign (Operand.tmp 37), type := 4, pos := "fact.go:162", after := #[{ on := 8, ground := Ground.data }, { on := 6, ground := Ground.chain }], guard := none }]
theorem regOpen6 {u0 u1 u2 u3 u4 u6 u7 u8 u9 u10 u11 u12 u13 u14 u15 u16 u17 u18 u19 u20 u21 u22 u23 u24 u25 u26 u27 u28 u29 u30 u31 u32 u33 u34 u35 u36 u37 u38 u39 u40 u41 u42 u43 u44 u45 u46 u47 u48 u49 u50 u51 u52 u53 u54 u55 u56 u57 u58 u59 u60 u61 u62 u63 u64 u65 u66 u67 u68 u69 u70 u71 u72 u73 u74 u75 u76 u77 u78 u79 u80 u81 u82 u83 u84 u85 u86 u87 u88 u89 u90 u91 u92 u93 u94 u95 u96 u97 u98 u99 u100 u101 u102 u103 u104 u105 u106 u107 u108 u109 u110 u111 u112 u113 u114 u115 u116 u117 u118 u119 u120 u121 u122 u123 u124 : Value} {DD : List Deferred} {Q : Exit → Act → World → Prop} {w : World} {fa : Addr} {fc : Nat} {f : List UInt8} (hr : Rd w.drew (some fa) (byts f)) (hf : f.length = 12) (hc : 12 ≤ fc)
    (hend : ∀ (w2 : World) (x29 x30 x31 x32 x33 x34 x35 x36 x37 : Value) (_ : Below w.heap.size w w2), Q .normal ⟨#[u0, u1, u2, u3, u4, .slice (some fa) 12 fc, u6, u7, u8, u9, u10, u11, u12, u13, u14, u15, u16, u17, u18, u19, u20, u21, u22, u23, u24, u25, u26, u27, .bool (decide (leN ((f.drop 8).take 4) ≠ crcB (f.take 8))), x29, x30, x31, x32, x33, x34, x35, x36, x37, u38, u39, u40, u41, u42, u43, u44, u45, u46, u47, u48, u49, u50, u51, u52, u53, u54, u55, u56, u57, u58, u59, u60, u61, u62, u63, u64, u65, u66, u67, u68, u69, u70, u71, u72, u73, u74, u75, u76, u77, u78, u79, u80, u81, u82, u83, u84, u85, u86, u87, u88, u89, u90, u91, u92, u93, u94, u95, u96, u97, u98, u99, u100, u101, u102, u103, u104, u105, u106, u107, u108, u109, u110, u111, u112, u113, u114, u115, u116, u117, u118, u119, u120, u121, u122, u123, u124], DD⟩ w2) :
    (Code.region 6 opsOpen6 true).wp Try.prog Q ⟨#[u0, u1, u2, u3, u4, .slice (some fa) 12 fc, u6, u7, u8, u9, u10, u11, u12, u13, u14, u15, u16, u17, u18, u19, u20, u21, u22, u23, u24, u25, u26, u27, u28, u29, u30, u31, u32, u33, u34, u35, u36, u37, u38, u39, u40, u41, u42, u43, u44, u45, u46, u47, u48, u49, u50, u51, u52, u53, u54, u55, u56, u57, u58, u59, u60, u61, u62, u63, u64, u65, u66, u67, u68, u69, u70, u71, u72, u73, u74, u75, u76, u77, u78, u79, u80, u81, u82, u83, u84, u85, u86, u87, u88, u89, u90, u91, u92, u93, u94, u95, u96, u97, u98, u99, u100, u101, u102, u103, u104, u105, u106, u107, u108, u109, u110, u111, u112, u113, u114, u115, u116, u117, u118, u119, u120, u121, u122, u123, u124], DD⟩ w := by
  have hs8 : (f.take 8).length = 8 := by rw [List.length_take, hf]; rfl
  have SC := fun W g (h1 : Rd W (some fa) (byts (f.take 8))) h2 => sum1_any (some fa) fc (f.take 8) g W h1 (by omega) (by omega) h2
  rw [hs8] at SC
  have hd : Rd w.drew (some (fa.add 8)) (byts (f.drop 8)) := by have := hr.drop 8 fc (by rw [byts_length]; omega); rw [if_neg (by omega)] at this; simpa [byts] using this
  have hb : Below w.heap.size w w.drew := (Below.refl _ _).drew
  refine wp_region_noPanic ?_
  refine wp_region_held_drew (S := fun _ => True) (by kernel_rfl) trivial (fun _ => ?_)
  refine wpAnyH_take (i := 0) (oi := (⟨some 29, Op.move (Operand.tmp 5), 35, "fact.go:162", #[], none⟩)) (v := .slice (some fa) 12 fc) rfl (by kernel_rfl) (by kernel_rfl) (by kernel_rfl) (fun _ _ _ h => h) (Or.inl ⟨by kernel_rfl, fun _ _ => by kernel_rfl⟩) trivial ?_
  simp only [Act.put, List.setIfInBounds_toArray, List.set_cons_zero, List.set_cons_succ]
  refine wpAnyH_take (i := 1) (oi := (⟨some 30, Op.slice 35 (Operand.tmp 29) (some (Operand.const (Value.int IntKind.i64 8))) none none, 35, "fact.go:162", #[{ on := 0, ground := Ground.data }], none⟩)) (v := .slice (some (fa.add 8)) 4 (fc - 8)) rfl (by kernel_rfl) (by kernel_rfl) (by kernel_rfl) (fun _ _ _ h => h) (Or.inl ⟨by kernel_rfl, fun W _ => run_slice_l_op (s := 1) (l := 8) Try.underlying35 (by kernel_rfl) rfl rfl (by decide) (sliced_lo fa (by omega))⟩) trivial ?_
  simp only [Act.put, List.setIfInBounds_toArray, List.set_cons_zero, List.set_cons_succ]
  refine wpAnyH_take (i := 3) (oi := (⟨some 32, Op.move (Operand.tmp 5), 35, "fact.go:162", #[], none⟩)) (v := .slice (some fa) 12 fc) rfl (by kernel_rfl) (by kernel_rfl) (by kernel_rfl) (fun _ _ _ h => h) (Or.inl ⟨by kernel_rfl, fun _ _ => by kernel_rfl⟩) trivial ?_
  simp only [Act.put, List.setIfInBounds_toArray, List.set_cons_zero, List.set_cons_succ]
  refine wpAnyH_take (i := 4) (oi := (⟨some 33, Op.slice 35 (Operand.tmp 32) none (some (Operand.const (Value.int IntKind.i64 8))) none, 35, "fact.go:162", #[{ on := 3, ground := Ground.data }], none⟩)) (v := .slice (some fa) 8 fc) rfl (by kernel_rfl) (by kernel_rfl) (by kernel_rfl) (fun _ _ _ h => h) (Or.inl ⟨by kernel_rfl, fun W _ => run_slice_h_op (s := 1) (l := 8) Try.underlying35 (by kernel_rfl) rfl rfl (by omega) (sliced_zero _ _ _ _)⟩) trivial ?_
  simp only [Act.put, List.setIfInBounds_toArray, List.set_cons_zero, List.set_cons_succ]
  refine wpAnyH_ready (rs := [2, 5]) (by kernel_rfl) (by simp) ?_
  refine AllReadyH.cons (o := (⟨some 31, Op.call { callee := Callee.value (Operand.func 77), args := #[Operand.tmp 30], argTypes := #[35] }, 3, "fact.go:162", #[{ on := 1, ground := Ground.data }], none⟩)) rfl ?_ (AllReadyH.cons (o := (⟨some 34, Op.buildSlice 99 1 #[(0, Operand.tmp 33)], 99, "fact.go:162", #[{ on := 4, ground := Ground.data }], none⟩)) rfl ?_ (AllReadyH.nil))
  · skip
    refine next_call (f := 77) (args := #[.slice (some (fa.add 8)) 4 (fc - 8)]) (by kernel_rfl) (by kernel_rfl) (fnumber_any (some (fa.add 8)) (fc - 8) 4 (f.drop 8) w.drew hd (by rw [List.length_drop, hf]) (by decide)) ?_
    rintro e wy1 ⟨rfl, q1, hw1⟩
    refine ⟨.int .i64 (leN ((f.drop 8).take 4) : Nat), rfl, trivial, fun _ => ?_⟩
    simp only [Act.put, List.setIfInBounds_toArray, List.set_cons_zero, List.set_cons_succ]
    have hbx : Below (w.drew).heap.size w.drew wy1 := hw1 ▸ belN (Below.refl _ _) _
    have hb := hb.trans (hbx.mono hb.size)
    have hr := hr.below hbx
    have hd := hd.below hbx
    try replace hrn := hrn.below hbx
    refine wpAnyH_ready (rs := [5]) (by kernel_rfl) (by simp) ?_
    refine AllReadyH.cons (o := (⟨some 34, Op.buildSlice 99 1 #[(0, Operand.tmp 33)], 99, "fact.go:162", #[{ on := 4, ground := Ground.data }], none⟩)) rfl ?_ (AllReadyH.nil)
    · skip
      have hbq := (Below.refl (wy1).heap.size (wy1)).alloc (Nat.le_refl _) (.cells #[.slice (some fa) 8 fc] 35)
      refine next_op (v := .slice (some ⟨wy1.heap.size, 0, none⟩) 1 1) (by kernel_rfl) (run_buildSlice_op (size := 1) #[.slice (some fa) 8 fc] (.slice none 0 0) Try.underlying99 (by kernel_rfl) (by decide) (by decide) (by kernel_rfl)) trivial (fun _ => ?_)
      simp only [Act.put, List.setIfInBounds_toArray, List.set_cons_zero, List.set_cons_succ]
      have hrn := Rd.one (wy1) (.slice (some fa) 8 fc) 35
      have hb := hb.trans (hbq.mono hb.size)
      have hr := hr.below hbq
      have hd := hd.below hbq
      refine wpAnyH_ready (rs := [6]) (by kernel_rfl) (by simp) ?_
      refine AllReadyH.cons (o := (⟨some 35, Op.call { callee := Callee.value (Operand.func 65), args := #[Operand.tmp 34], argTypes := #[99] }, 109, "fact.go:162", #[{ on := 5, ground := Ground.data }, { on := 2, ground := Ground.chain }], none⟩)) rfl ?_ (AllReadyH.nil)
      · skip
        have ht : Rd ((wy1).alloc (.cells #[.slice (some fa) 8 fc] 35)) (some fa) (byts (f.take 8)) := by have := hr.take 8; simpa [byts, List.map_take] using this
        refine next_call (f := 65) (args := #[(.slice (some ⟨wy1.heap.size, 0, none⟩) 1 1)]) (by kernel_rfl) (by kernel_rfl) (SC ((wy1).alloc (.cells #[.slice (some fa) 8 fc] 35)) _ ht hrn) ?_
        rintro e wy3 ⟨rfl, hb3⟩
        refine ⟨.int .u32 (crcB (f.take 8) : Nat), rfl, trivial, fun _ => ?_⟩
        simp only [Act.put, List.setIfInBounds_toArray, List.set_cons_zero, List.set_cons_succ]
        have hb := hb.trans (hb3.mono hb.size)
        refine wpAnyH_take (i := 7) (oi := (⟨some 36, Op.convert 109 3 (Operand.tmp 35), 3, "fact.go:162", #[{ on := 6, ground := Ground.data }], none⟩)) (v := .int .i64 (crcB (f.take 8) : Nat)) rfl (by kernel_rfl) (by kernel_rfl) (by kernel_rfl) (fun _ _ _ h => h) (Or.inl ⟨by kernel_rfl, fun W _ => run_convert_op rfl (conv_u32_int _ (crcB_lt _) W)⟩) trivial ?_
        simp only [Act.put, List.setIfInBounds_toArray, List.set_cons_zero, List.set_cons_succ]
        refine wpAnyH_take (i := 8) (oi := (⟨some 37, Op.binOp BinOp.neq 3 (Operand.tmp 31) (Operand.tmp 36) 3, 4, "fact.go:162", #[{ on := 2, ground := Ground.data }, { on := 7, ground := Ground.data }], none⟩)) (v := .bool (decide (leN ((f.drop 8).take 4) ≠ crcB (f.take 8)))) rfl (by kernel_rfl) (by kernel_rfl) (by kernel_rfl) (fun _ _ _ h => h) (Or.inl ⟨by kernel_rfl, fun W _ => run_neq_nat rfl rfl⟩) trivial ?_
        simp only [Act.put, List.setIfInBounds_toArray, List.set_cons_zero, List.set_cons_succ]
        refine wpAnyH_take (i := 9) (oi := (⟨some 28, Op.assign (Operand.tmp 37), 4, "fact.go:162", #[{ on := 8, ground := Ground.data }, { on := 6, ground := Ground.chain }], none⟩)) (v := .bool (decide (leN ((f.drop 8).take 4) ≠ crcB (f.take 8)))) rfl (by kernel_rfl) (by kernel_rfl) (by kernel_rfl) (fun _ _ _ h => h) (Or.inl ⟨by kernel_rfl, fun _ _ => by kernel_rfl⟩) trivial ?_
        simp only [Act.put, List.setIfInBounds_toArray, List.set_cons_zero, List.set_cons_succ]
        refine wpAnyH_done (by kernel_rfl) ?_ _
        exact NoPanic.normal (hend wy3 _ _ _ _ _ _ _ _ _ hb)
  · skip
    have hbq := (Below.refl (w.drew).heap.size (w.drew)).alloc (Nat.le_refl _) (.cells #[.slice (some fa) 8 fc] 35)
    refine next_op (v := .slice (some ⟨w.drew.heap.size, 0, none⟩) 1 1) (by kernel_rfl) (run_buildSlice_op (size := 1) #[.slice (some fa) 8 fc] (.slice none 0 0) Try.underlying99 (by kernel_rfl) (by decide) (by decide) (by kernel_rfl)) trivial (fun _ => ?_)
    simp only [Act.put, List.setIfInBounds_toArray, List.set_cons_zero, List.set_cons_succ]
    have hrn := Rd.one (w.drew) (.slice (some fa) 8 fc) 35
    have hb := hb.trans (hbq.mono hb.size)
    have hr := hr.below hbq
    have hd := hd.below hbq
    refine wpAnyH_ready (rs := [2]) (by kernel_rfl) (by simp) ?_
    refine AllReadyH.cons (o := (⟨some 31, Op.call { callee := Callee.value (Operand.func 77), args := #[Operand.tmp 30], argTypes := #[35] }, 3, "fact.go:162", #[{ on := 1, ground := Ground.data }], none⟩)) rfl ?_ (AllReadyH.nil)
    · skip
      refine next_call (f := 77) (args := #[.slice (some (fa.add 8)) 4 (fc - 8)]) (by kernel_rfl) (by kernel_rfl) (fnumber_any (some (fa.add 8)) (fc - 8) 4 (f.drop 8) ((w.drew).alloc (.cells #[.slice (some fa) 8 fc] 35)) hd (by rw [List.length_drop, hf]) (by decide)) ?_
      rintro e wy5 ⟨rfl, q5, hw5⟩
      refine ⟨.int .i64 (leN ((f.drop 8).take 4) : Nat), rfl, trivial, fun _ => ?_⟩
      simp only [Act.put, List.setIfInBounds_toArray, List.set_cons_zero, List.set_cons_succ]
      have hbx : Below (((w.drew).alloc (.cells #[.slice (some fa) 8 fc] 35))).heap.size ((w.drew).alloc (.cells #[.slice (some fa) 8 fc] 35)) wy5 := hw5 ▸ belN (Below.refl _ _) _
      have hb := hb.trans (hbx.mono hb.size)
      have hr := hr.below hbx
      have hd := hd.below hbx
      try replace hrn := hrn.below hbx
      refine wpAnyH_ready (rs := [6]) (by kernel_rfl) (by simp) ?_
      refine AllReadyH.cons (o := (⟨some 35, Op.call { callee := Callee.value (Operand.func 65), args := #[Operand.tmp 34], argTypes := #[99] }, 109, "fact.go:162", #[{ on := 5, ground := Ground.data }, { on := 2, ground := Ground.chain }], none⟩)) rfl ?_ (AllReadyH.nil)
      · skip
        have ht : Rd wy5 (some fa) (byts (f.take 8)) := by have := hr.take 8; simpa [byts, List.map_take] using this
        refine next_call (f := 65) (args := #[(.slice (some ⟨w.drew.heap.size, 0, none⟩) 1 1)]) (by kernel_rfl) (by kernel_rfl) (SC wy5 _ ht hrn) ?_
        rintro e wy6 ⟨rfl, hb6⟩
        refine ⟨.int .u32 (crcB (f.take 8) : Nat), rfl, trivial, fun _ => ?_⟩
        simp only [Act.put, List.setIfInBounds_toArray, List.set_cons_zero, List.set_cons_succ]
        have hb := hb.trans (hb6.mono hb.size)
        refine wpAnyH_take (i := 7) (oi := (⟨some 36, Op.convert 109 3 (Operand.tmp 35), 3, "fact.go:162", #[{ on := 6, ground := Ground.data }], none⟩)) (v := .int .i64 (crcB (f.take 8) : Nat)) rfl (by kernel_rfl) (by kernel_rfl) (by kernel_rfl) (fun _ _ _ h => h) (Or.inl ⟨by kernel_rfl, fun W _ => run_convert_op rfl (conv_u32_int _ (crcB_lt _) W)⟩) trivial ?_
        simp only [Act.put, List.setIfInBounds_toArray, List.set_cons_zero, List.set_cons_succ]
        refine wpAnyH_take (i := 8) (oi := (⟨some 37, Op.binOp BinOp.neq 3 (Operand.tmp 31) (Operand.tmp 36) 3, 4, "fact.go:162", #[{ on := 2, ground := Ground.data }, { on := 7, ground := Ground.data }], none⟩)) (v := .bool (decide (leN ((f.drop 8).take 4) ≠ crcB (f.take 8)))) rfl (by kernel_rfl) (by kernel_rfl) (by kernel_rfl) (fun _ _ _ h => h) (Or.inl ⟨by kernel_rfl, fun W _ => run_neq_nat rfl rfl⟩) trivial ?_
        simp only [Act.put, List.setIfInBounds_toArray, List.set_cons_zero, List.set_cons_succ]
        refine wpAnyH_take (i := 9) (oi := (⟨some 28, Op.assign (Operand.tmp 37), 4, "fact.go:162", #[{ on := 8, ground := Ground.data }, { on := 6, ground := Ground.chain }], none⟩)) (v := .bool (decide (leN ((f.drop 8).take 4) ≠ crcB (f.take 8)))) rfl (by kernel_rfl) (by kernel_rfl) (by kernel_rfl) (fun _ _ _ h => h) (Or.inl ⟨by kernel_rfl, fun _ _ => by kernel_rfl⟩) trivial ?_
        simp only [Act.put, List.setIfInBounds_toArray, List.set_cons_zero, List.set_cons_succ]
        refine wpAnyH_done (by kernel_rfl) ?_ _
        exact NoPanic.normal (hend wy6 _ _ _ _ _ _ _ _ _ hb)
def opsOpen12 : Array Oper := #[{ dst := some 52, op := Op.move (Operand.tmp 0), type := 35, pos := "fact.go:169", after := #[], guard := none }, { dst := some 53, op := Op.move (Operand.tmp 4), type := 3, pos := "fact.go:169", after := #[], guard := none }, { dst := some 54, op := Op.move (Operand.tmp 6), type := 3, pos := "fact.go:169", after := #[], guard := none }, { dst := some 55, op := Op.binOp BinOp.sub 3 (Operand.tmp 53) (Operand.tmp 54) 3, type := 3, pos := "fact.go:169", after := #[{ on := 1, ground := Ground.data }, { on := 2, ground := Ground.data }], guard := none }, { dst := some 56, op := Op.binOp BinOp.add 3 (Operand.tmp 55) (Operand.const (Value.int IntKind.i64 4)) 3, type := 3, pos := "fact.go:169", after := #[{ on := 3, ground := Ground.data }], guard := none }, { dst := some 57, op := Op.move (Operand.tmp 4), type := 3, pos := "fact.go:169", after := #[], guard := none }, { dst := some 58, op := Op.slice 35 (Operand.tmp 52) (some (Operand.tmp 56)) (some (Operand.tmp 57)) none, type := 35, pos := "fact.go:169", after := #[{ on := 0, ground := Ground.data }, { on := 4, ground := Ground.data }, { on := 5, ground := Ground.data }], guard := none }, { dst := some 59, op := Op.move (Operand.tmp 0), type := 35, pos := "fact.go:169", after := #[], guard := none }, { dst := some 60, op := Op.move (Operand.tmp 4), type := 3, pos := "fact.go:169", after := #[], guard := none }, { dst := some 61, op := Op.move (Operand.tmp 6), type := 3, pos := "fact.go:169", after := #[], guard := none }, { dst := some 62, op := Op.binOp BinOp.sub 3 (Operand.tmp 60) (Operand.tmp 61) 3, type := 3, pos := "fact.go:169", after := #[{ on := 8, ground := Ground.data }, { on := 9, ground := Ground.data }], guard := none }, { dst := some 63, op := Op.slice 35 (Operand.tmp 59) none (some (Operand.tmp 62)) none, type := 35, pos := "fact.go:169", after := #[{ on := 7, ground := Ground.data }, { on := 10, ground := Ground.data }], guard := none }, { dst := some 64, op := Op.call { callee := Callee.value (Operand.func 79), args := #[Operand.tmp 58, Operand.tmp 63], argTypes := #[35, 35] }, type := 126, pos := "fact.go:169", after := #[{ on := 6, ground := Ground.data }, { on := 11, ground := Ground.data }], guard := none }, { dst := some 51, op := Op.move (Operand.tmp 64), type := 126, pos := "fact.go:169", after := #[{ on := 12, ground := Ground.data }], guard := none }, { dst := some 65, op := Op.extract (Operand.tmp 51) 0, type := 125, pos := "fact.go:169", after := #[{ on := 13, ground := Ground.data }], guard := none }, { dst := some 66, op := Op.extract (Operand.tmp 51) 1, type := 4, pos := "fact.go:169", after := #[{ on := 13, ground := Ground.data }, { on := 16, ground := Ground.gcOnly Departure.lateStores }], guard := none }, { dst := some 8, op := Op.assign (Operand.tmp 65), type := 125, pos := "fact.go:169", after := #[{ on := 14, ground := Ground.data }, { on := 12, ground := Ground.chain }, { on := 0, ground := Ground.phase }, { on := 1, ground := Ground.phase }, { on := 2, ground := Ground.phase }, { on := 3, ground := Ground.phase }, { on := 4, ground := Ground.phase }, { on := 5, ground := Ground.phase }, { on := 6, ground := Ground.phase }, { on := 7, ground := Ground.phase }, { on := 8, ground := Ground.phase }, { on := 9, ground := Ground.phase }, { on := 10, ground := Ground.phase }, { on := 11, ground := Ground.phase }, { on := 12, ground := Ground.phase }, { on := 13, ground := Ground.phase }, { on := 14, ground := Ground.phase }, { on := 15, ground := Ground.textOnly Departure.lateStores }], guard := none }, { dst := some 9, op := Op.assign (Operand.tmp 66), type := 4, pos := "fact.go:169", after := #[{ on := 15, ground := Ground.data }, { on := 16, ground := Ground.chain }, { on := 0, ground := Ground.phase }, { on := 1, ground := Ground.phase }, { on := 2, ground := Ground.phase }, { on := 3, ground := Ground.phase }, { on := 4, ground := Ground.phase }, { on := 5, ground := Ground.phase }, { on := 6, ground := Ground.phase }, { on := 7, ground := Ground.phase }, { on := 8, ground := Ground.phase }, { on := 9, ground := Ground.phase }, { on := 10, ground := Ground.phase }, { on := 11, ground := Ground.phase }, { on := 12, ground := Ground.phase }, { on := 13, ground := Ground.phase }, { on := 14, ground := Ground.phase }, { on := 15, ground := Ground.phase }, { on := 16, ground := Ground.phase }], guard := none }]
theorem regOpen12 {u1 u2 u3 u5 u7 u8 u9 u10 u11 u12 u13 u14 u15 u16 u17 u18 u19 u20 u21 u22 u23 u24 u25 u26 u27 u28 u29 u30 u31 u32 u33 u34 u35 u36 u37 u38 u39 u40 u41 u42 u43 u44 u45 u46 u47 u48 u49 u50 u51 u52 u53 u54 u55 u56 u57 u58 u59 u60 u61 u62 u63 u64 u65 u66 u67 u68 u69 u70 u71 u72 u73 u74 u75 u76 u77 u78 u79 u80 u81 u82 u83 u84 u85 u86 u87 u88 u89 u90 u91 u92 u93 u94 u95 u96 u97 u98 u99 u100 u101 u102 u103 u104 u105 u106 u107 u108 u109 u110 u111 u112 u113 u114 u115 u116 u117 u118 u119 u120 u121 u122 u123 u124 : Value} {DD : List Deferred} {Q : Exit → Act → World → Prop} {w : World} {ad : Addr} {n c e m : Nat} {PP : World → Value → Bool → World → Prop} (he : 4 ≤ m) (hem : e + m + 12 = n) (hc : n ≤ c) (hl : n ≤ 9223372036854775807)
    (hpt : ∀ W, Below w.heap.size w W → Calls Try.prog 79 #[.slice (some (ad.add (e + 4))) (e + m - (e + 4)) (c - (e + 4)), .slice (some ad) e c] W fun e w' => ∃ x ok, e = .returned (.tuple #[x, .bool ok]) ∧ PP W x ok w')
    (hend : ∀ (w2 : World) (x51 x52 x53 x54 x55 x56 x57 x58 x59 x60 x61 x62 x63 x64 x65 x66 : Value) (x : Value) (ok : Bool) (W : World) (_ : Below w.heap.size w W) (_ : PP W x ok w2), Q .normal ⟨#[.slice (some ad) n c, u1, u2, u3, .int .i64 ((e : Int) + (m : Int)), u5, .int .i64 (m : Nat), u7, x, .bool ok, u10, u11, u12, u13, u14, u15, u16, u17, u18, u19, u20, u21, u22, u23, u24, u25, u26, u27, u28, u29, u30, u31, u32, u33, u34, u35, u36, u37, u38, u39, u40, u41, u42, u43, u44, u45, u46, u47, u48, u49, u50, x51, x52, x53, x54, x55, x56, x57, x58, x59, x60, x61, x62, x63, x64, x65, x66, u67, u68, u69, u70, u71, u72, u73, u74, u75, u76, u77, u78, u79, u80, u81, u82, u83, u84, u85, u86, u87, u88, u89, u90, u91, u92, u93, u94, u95, u96, u97, u98, u99, u100, u101, u102, u103, u104, u105, u106, u107, u108, u109, u110, u111, u112, u113, u114, u115, u116, u117, u118, u119, u120, u121, u122, u123, u124], DD⟩ w2) :
    (Code.region 12 opsOpen12 true).wp Try.prog Q ⟨#[.slice (some ad) n c, u1, u2, u3, .int .i64 ((e : Int) + (m : Int)), u5, .int .i64 (m : Nat), u7, u8, u9, u10, u11, u12, u13, u14, u15, u16, u17, u18, u19, u20, u21, u22, u23, u24, u25, u26, u27, u28, u29, u30, u31, u32, u33, u34, u35, u36, u37, u38, u39, u40, u41, u42, u43, u44, u45, u46, u47, u48, u49, u50, u51, u52, u53, u54, u55, u56, u57, u58, u59, u60, u61, u62, u63, u64, u65, u66, u67, u68, u69, u70, u71, u72, u73, u74, u75, u76, u77, u78, u79, u80, u81, u82, u83, u84, u85, u86, u87, u88, u89, u90, u91, u92, u93, u94, u95, u96, u97, u98, u99, u100, u101, u102, u103, u104, u105, u106, u107, u108, u109, u110, u111, u112, u113, u114, u115, u116, u117, u118, u119, u120, u121, u122, u123, u124], DD⟩ w := by
  have hbw : Below w.heap.size w w.drew := (Below.refl _ _).drew
  refine wp_region_noPanic ?_
  refine wp_region_held_drew (S := fun _ => True) (by kernel_rfl) trivial (fun _ => ?_)
  refine wpAnyH_take (i := 0) (oi := (⟨some 52, Op.move (Operand.tmp 0), 35, "fact.go:169", #[], none⟩)) (v := .slice (some ad) n c) rfl (by kernel_rfl) (by kernel_rfl) (by kernel_rfl) (fun _ _ _ h => h) (Or.inl ⟨by kernel_rfl, fun _ _ => by kernel_rfl⟩) trivial ?_
  simp only [Act.put, List.setIfInBounds_toArray, List.set_cons_zero, List.set_cons_succ]
  refine wpAnyH_take (i := 1) (oi := (⟨some 53, Op.move (Operand.tmp 4), 3, "fact.go:169", #[], none⟩)) (v := .int .i64 ((e : Int) + (m : Int))) rfl (by kernel_rfl) (by kernel_rfl) (by kernel_rfl) (fun _ _ _ h => h) (Or.inl ⟨by kernel_rfl, fun _ _ => by kernel_rfl⟩) trivial ?_
  simp only [Act.put, List.setIfInBounds_toArray, List.set_cons_zero, List.set_cons_succ]
  refine wpAnyH_take (i := 2) (oi := (⟨some 54, Op.move (Operand.tmp 6), 3, "fact.go:169", #[], none⟩)) (v := .int .i64 (m : Nat)) rfl (by kernel_rfl) (by kernel_rfl) (by kernel_rfl) (fun _ _ _ h => h) (Or.inl ⟨by kernel_rfl, fun _ _ => by kernel_rfl⟩) trivial ?_
  simp only [Act.put, List.setIfInBounds_toArray, List.set_cons_zero, List.set_cons_succ]
  refine wpAnyH_take (i := 3) (oi := (⟨some 55, Op.binOp BinOp.sub 3 (Operand.tmp 53) (Operand.tmp 54) 3, 3, "fact.go:169", #[{ on := 1, ground := Ground.data }, { on := 2, ground := Ground.data }], none⟩)) (v := .int .i64 (e : Nat)) rfl (by kernel_rfl) (by kernel_rfl) (by kernel_rfl) (fun _ _ _ h => h) (Or.inl ⟨by kernel_rfl, fun W _ => run_sub_nat (a := e) (b := m) rfl rfl (by omega)⟩) trivial ?_
  simp only [Act.put, List.setIfInBounds_toArray, List.set_cons_zero, List.set_cons_succ]
  refine wpAnyH_take (i := 4) (oi := (⟨some 56, Op.binOp BinOp.add 3 (Operand.tmp 55) (Operand.const (Value.int IntKind.i64 4)) 3, 3, "fact.go:169", #[{ on := 3, ground := Ground.data }], none⟩)) (v := .int .i64 ((e + 4 : Nat) : Nat)) rfl (by kernel_rfl) (by kernel_rfl) (by kernel_rfl) (fun _ _ _ h => h) (Or.inl ⟨by kernel_rfl, fun W _ => run_add_nat (a := e) (b := 4) rfl rfl (by omega)⟩) trivial ?_
  simp only [Act.put, List.setIfInBounds_toArray, List.set_cons_zero, List.set_cons_succ]
  refine wpAnyH_take (i := 5) (oi := (⟨some 57, Op.move (Operand.tmp 4), 3, "fact.go:169", #[], none⟩)) (v := .int .i64 ((e : Int) + (m : Int))) rfl (by kernel_rfl) (by kernel_rfl) (by kernel_rfl) (fun _ _ _ h => h) (Or.inl ⟨by kernel_rfl, fun _ _ => by kernel_rfl⟩) trivial ?_
  simp only [Act.put, List.setIfInBounds_toArray, List.set_cons_zero, List.set_cons_succ]
  refine wpAnyH_take (i := 6) (oi := (⟨some 58, Op.slice 35 (Operand.tmp 52) (some (Operand.tmp 56)) (some (Operand.tmp 57)) none, 35, "fact.go:169", #[{ on := 0, ground := Ground.data }, { on := 4, ground := Ground.data }, { on := 5, ground := Ground.data }], none⟩)) (v := .slice (some (ad.add (e + 4))) (e + m - (e + 4)) (c - (e + 4))) rfl (by kernel_rfl) (by kernel_rfl) (by kernel_rfl) (fun _ _ _ h => h) (Or.inl ⟨by kernel_rfl, fun W _ => run_slice_lh_op (s := 1) (l := e + 4) (m := e + m) Try.underlying35 (by kernel_rfl) rfl rfl rfl (by omega) (by omega) (sliced_lo ad (by omega))⟩) trivial ?_
  simp only [Act.put, List.setIfInBounds_toArray, List.set_cons_zero, List.set_cons_succ]
  refine wpAnyH_take (i := 7) (oi := (⟨some 59, Op.move (Operand.tmp 0), 35, "fact.go:169", #[], none⟩)) (v := .slice (some ad) n c) rfl (by kernel_rfl) (by kernel_rfl) (by kernel_rfl) (fun _ _ _ h => h) (Or.inl ⟨by kernel_rfl, fun _ _ => by kernel_rfl⟩) trivial ?_
  simp only [Act.put, List.setIfInBounds_toArray, List.set_cons_zero, List.set_cons_succ]
  refine wpAnyH_take (i := 8) (oi := (⟨some 60, Op.move (Operand.tmp 4), 3, "fact.go:169", #[], none⟩)) (v := .int .i64 ((e : Int) + (m : Int))) rfl (by kernel_rfl) (by kernel_rfl) (by kernel_rfl) (fun _ _ _ h => h) (Or.inl ⟨by kernel_rfl, fun _ _ => by kernel_rfl⟩) trivial ?_
  simp only [Act.put, List.setIfInBounds_toArray, List.set_cons_zero, List.set_cons_succ]
  refine wpAnyH_take (i := 9) (oi := (⟨some 61, Op.move (Operand.tmp 6), 3, "fact.go:169", #[], none⟩)) (v := .int .i64 (m : Nat)) rfl (by kernel_rfl) (by kernel_rfl) (by kernel_rfl) (fun _ _ _ h => h) (Or.inl ⟨by kernel_rfl, fun _ _ => by kernel_rfl⟩) trivial ?_
  simp only [Act.put, List.setIfInBounds_toArray, List.set_cons_zero, List.set_cons_succ]
  refine wpAnyH_take (i := 10) (oi := (⟨some 62, Op.binOp BinOp.sub 3 (Operand.tmp 60) (Operand.tmp 61) 3, 3, "fact.go:169", #[{ on := 8, ground := Ground.data }, { on := 9, ground := Ground.data }], none⟩)) (v := .int .i64 (e : Nat)) rfl (by kernel_rfl) (by kernel_rfl) (by kernel_rfl) (fun _ _ _ h => h) (Or.inl ⟨by kernel_rfl, fun W _ => run_sub_nat (a := e) (b := m) rfl rfl (by omega)⟩) trivial ?_
  simp only [Act.put, List.setIfInBounds_toArray, List.set_cons_zero, List.set_cons_succ]
  refine wpAnyH_take (i := 11) (oi := (⟨some 63, Op.slice 35 (Operand.tmp 59) none (some (Operand.tmp 62)) none, 35, "fact.go:169", #[{ on := 7, ground := Ground.data }, { on := 10, ground := Ground.data }], none⟩)) (v := .slice (some ad) e c) rfl (by kernel_rfl) (by kernel_rfl) (by kernel_rfl) (fun _ _ _ h => h) (Or.inl ⟨by kernel_rfl, fun W _ => run_slice_h_op (s := 1) (l := e) Try.underlying35 (by kernel_rfl) rfl rfl (by omega) (sliced_zero _ _ _ _)⟩) trivial ?_
  simp only [Act.put, List.setIfInBounds_toArray, List.set_cons_zero, List.set_cons_succ]
  refine wpAnyH_ready (rs := [12]) (by kernel_rfl) (by simp) ?_
  refine AllReadyH.cons (o := (⟨some 64, Op.call { callee := Callee.value (Operand.func 79), args := #[Operand.tmp 58, Operand.tmp 63], argTypes := #[35, 35] }, 126, "fact.go:169", #[{ on := 6, ground := Ground.data }, { on := 11, ground := Ground.data }], none⟩)) rfl ?_ (AllReadyH.nil)
  · skip
    refine next_call (f := 79) (args := #[.slice (some (ad.add (e + 4))) (e + m - (e + 4)) (c - (e + 4)), .slice (some ad) e c]) (by kernel_rfl) (by kernel_rfl) (hpt w.drew (by first | exact hbw | exact hbw.drew)) ?_
    rintro e wy1 ⟨x, ok, rfl, hpp⟩
    refine ⟨.tuple #[x, .bool ok], rfl, trivial, fun _ => ?_⟩
    simp only [Act.put, List.setIfInBounds_toArray, List.set_cons_zero, List.set_cons_succ]
    refine wpAnyH_take (i := 13) (oi := (⟨some 51, Op.move (Operand.tmp 64), 126, "fact.go:169", #[{ on := 12, ground := Ground.data }], none⟩)) (v := .tuple #[x, .bool ok]) rfl (by kernel_rfl) (by kernel_rfl) (by kernel_rfl) (fun _ _ _ h => h) (Or.inl ⟨by kernel_rfl, fun _ _ => by kernel_rfl⟩) trivial ?_
    simp only [Act.put, List.setIfInBounds_toArray, List.set_cons_zero, List.set_cons_succ]
    refine wpAnyH_take (i := 14) (oi := (⟨some 65, Op.extract (Operand.tmp 51) 0, 125, "fact.go:169", #[{ on := 13, ground := Ground.data }], none⟩)) (v := x) rfl (by kernel_rfl) (by kernel_rfl) (by kernel_rfl) (fun _ _ _ h => h) (Or.inl ⟨by kernel_rfl, fun _ _ => by kernel_rfl⟩) trivial ?_
    simp only [Act.put, List.setIfInBounds_toArray, List.set_cons_zero, List.set_cons_succ]
    refine wpAnyH_take (i := 15) (oi := (⟨some 66, Op.extract (Operand.tmp 51) 1, 4, "fact.go:169", #[{ on := 13, ground := Ground.data }, { on := 16, ground := Ground.gcOnly Departure.lateStores }], none⟩)) (v := .bool ok) rfl (by kernel_rfl) (by kernel_rfl) (by kernel_rfl) (fun _ _ _ h => h) (Or.inl ⟨by kernel_rfl, fun _ _ => by kernel_rfl⟩) trivial ?_
    simp only [Act.put, List.setIfInBounds_toArray, List.set_cons_zero, List.set_cons_succ]
    refine wpAnyH_take (i := 16) (oi := (⟨some 8, Op.assign (Operand.tmp 65), 125, "fact.go:169", #[{ on := 14, ground := Ground.data }, { on := 12, ground := Ground.chain }, { on := 0, ground := Ground.phase }, { on := 1, ground := Ground.phase }, { on := 2, ground := Ground.phase }, { on := 3, ground := Ground.phase }, { on := 4, ground := Ground.phase }, { on := 5, ground := Ground.phase }, { on := 6, ground := Ground.phase }, { on := 7, ground := Ground.phase }, { on := 8, ground := Ground.phase }, { on := 9, ground := Ground.phase }, { on := 10, ground := Ground.phase }, { on := 11, ground := Ground.phase }, { on := 12, ground := Ground.phase }, { on := 13, ground := Ground.phase }, { on := 14, ground := Ground.phase }, { on := 15, ground := Ground.textOnly Departure.lateStores }], none⟩)) (v := x) rfl (by kernel_rfl) (by kernel_rfl) (by kernel_rfl) (fun _ _ _ h => h) (Or.inl ⟨by kernel_rfl, fun _ _ => by kernel_rfl⟩) trivial ?_
    simp only [Act.put, List.setIfInBounds_toArray, List.set_cons_zero, List.set_cons_succ]
    refine wpAnyH_take (i := 17) (oi := (⟨some 9, Op.assign (Operand.tmp 66), 4, "fact.go:169", #[{ on := 15, ground := Ground.data }, { on := 16, ground := Ground.chain }, { on := 0, ground := Ground.phase }, { on := 1, ground := Ground.phase }, { on := 2, ground := Ground.phase }, { on := 3, ground := Ground.phase }, { on := 4, ground := Ground.phase }, { on := 5, ground := Ground.phase }, { on := 6, ground := Ground.phase }, { on := 7, ground := Ground.phase }, { on := 8, ground := Ground.phase }, { on := 9, ground := Ground.phase }, { on := 10, ground := Ground.phase }, { on := 11, ground := Ground.phase }, { on := 12, ground := Ground.phase }, { on := 13, ground := Ground.phase }, { on := 14, ground := Ground.phase }, { on := 15, ground := Ground.phase }, { on := 16, ground := Ground.phase }], none⟩)) (v := .bool ok) rfl (by kernel_rfl) (by kernel_rfl) (by kernel_rfl) (fun _ _ _ h => h) (Or.inl ⟨by kernel_rfl, fun _ _ => by kernel_rfl⟩) trivial ?_
    simp only [Act.put, List.setIfInBounds_toArray, List.set_cons_zero, List.set_cons_succ]
    refine wpAnyH_done (by kernel_rfl) ?_ _
    exact NoPanic.normal (hend wy1 _ _ _ _ _ _ _ _ _ _ _ _ _ _ _ _ _ _ _ hbw hpp)
end Go.Proofs.Ytadgaphgomagkaa
