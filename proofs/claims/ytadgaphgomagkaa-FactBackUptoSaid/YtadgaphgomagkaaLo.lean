/- The reference's Open: the foot's sum. PRINTED by tools/regs_l.py. -/
import Derived.Test.YtadgaphgomagkaaLp
namespace Go.Proofs.Ytadgaphgomagkaa
open Go.RowKit
set_option maxHeartbeats 8000000
set_option maxRecDepth 100000
def opsRopen4 : Array Oper := #[{ dst := some 24, op := Op.move (Operand.tmp 4), type := 35, pos := "ref.go:198", after := #[], guard := none }, { dst := some 25, op := Op.slice 35 (Operand.tmp 24) none (some (Operand.const (Value.int IntKind.i64 8))) none, type := 35, pos := "ref.go:198", after := #[{ on := 0, ground := Ground.data }], guard := none }, { dst := some 26, op := Op.call { callee := Callee.value (Operand.func 71), args := #[Operand.tmp 25], argTypes := #[35] }, type := 109, pos := "ref.go:198", after := #[{ on := 1, ground := Ground.data }], guard := none }, { dst := some 27, op := Op.move (Operand.tmp 4), type := 35, pos := "ref.go:198", after := #[], guard := none }, { dst := some 28, op := Op.slice 35 (Operand.tmp 27) (some (Operand.const (Value.int IntKind.i64 8))) none none, type := 35, pos := "ref.go:198", after := #[{ on := 3, ground := Ground.data }], guard := none }, { dst := some 29, op := Op.call { callee := Callee.value (Operand.func 72), args := #[Operand.tmp 28], argTypes := #[35] }, type := 109, pos := "ref.go:198", after := #[{ on := 4, ground := Ground.data }, { on := 2, ground := Ground.chain }], guard := none }, { dst := some 30, op := Op.binOp BinOp.neq 109 (Operand.tmp 26) (Operand.tmp 29) 109, type := 4, pos := "ref.go:198", after := #[{ on := 2, ground := Ground.data }, { on := 5, ground := Ground.data }], guard := none }]
theorem regRopen4 {u0 u1 u2 u3 u5 u6 u7 u8 u9 u10 u11 u12 u13 u14 u15 u16 u17 u18 u19 u20 u21 u22 u23 u24 u25 u26 u27 u28 u29 u30 u31 u32 u33 u34 u35 u36 u37 u38 u39 u40 u41 u42 u43 u44 u45 u46 u47 u48 u49 u50 u51 u52 u53 u54 u55 u56 u57 u58 u59 u60 u61 u62 u63 u64 u65 u66 u67 u68 u69 u70 u71 u72 u73 u74 u75 u76 u77 u78 u79 u80 u81 u82 u83 u84 u85 u86 u87 u88 u89 u90 u91 u92 u93 u94 u95 u96 u97 u98 u99 u100 u101 u102 u103 u104 u105 u106 u107 u108 u109 u110 u111 u112 u113 u114 u115 u116 u117 u118 u119 u120 u121 u122 u123 u124 u125 u126 : Value} {DD : List Deferred} {Q : Exit → Act → World → Prop} {w : World} {fa : Addr} {fc : Nat} {f : List UInt8} (hr : Rd w.drew (some fa) (byts f)) (hf : f.length = 12) (hc : 12 ≤ fc)
    (hend : ∀ (w2 : World) (x24 x25 x26 x27 x28 x29 : Value) (_ : Below w.heap.size w w2), Q .normal ⟨#[u0, u1, u2, u3, .slice (some fa) 12 fc, u5, u6, u7, u8, u9, u10, u11, u12, u13, u14, u15, u16, u17, u18, u19, u20, u21, u22, u23, x24, x25, x26, x27, x28, x29, .bool (decide (crcB (f.take 8) ≠ leN ((f.drop 8).take 4))), u31, u32, u33, u34, u35, u36, u37, u38, u39, u40, u41, u42, u43, u44, u45, u46, u47, u48, u49, u50, u51, u52, u53, u54, u55, u56, u57, u58, u59, u60, u61, u62, u63, u64, u65, u66, u67, u68, u69, u70, u71, u72, u73, u74, u75, u76, u77, u78, u79, u80, u81, u82, u83, u84, u85, u86, u87, u88, u89, u90, u91, u92, u93, u94, u95, u96, u97, u98, u99, u100, u101, u102, u103, u104, u105, u106, u107, u108, u109, u110, u111, u112, u113, u114, u115, u116, u117, u118, u119, u120, u121, u122, u123, u124, u125, u126], DD⟩ w2) :
    (Code.region 4 opsRopen4 true).wp Try.prog Q ⟨#[u0, u1, u2, u3, .slice (some fa) 12 fc, u5, u6, u7, u8, u9, u10, u11, u12, u13, u14, u15, u16, u17, u18, u19, u20, u21, u22, u23, u24, u25, u26, u27, u28, u29, u30, u31, u32, u33, u34, u35, u36, u37, u38, u39, u40, u41, u42, u43, u44, u45, u46, u47, u48, u49, u50, u51, u52, u53, u54, u55, u56, u57, u58, u59, u60, u61, u62, u63, u64, u65, u66, u67, u68, u69, u70, u71, u72, u73, u74, u75, u76, u77, u78, u79, u80, u81, u82, u83, u84, u85, u86, u87, u88, u89, u90, u91, u92, u93, u94, u95, u96, u97, u98, u99, u100, u101, u102, u103, u104, u105, u106, u107, u108, u109, u110, u111, u112, u113, u114, u115, u116, u117, u118, u119, u120, u121, u122, u123, u124, u125, u126], DD⟩ w := by
  have hs8 : (f.take 8).length = 8 := by rw [List.length_take, hf]; rfl
  have SC := fun W (h1 : Rd W (some fa) (byts (f.take 8))) => refSum_any (some fa) fc (f.take 8) W h1 (by omega)
  rw [← crc_eq, hs8] at SC
  have hd4 : (f.drop 8).length = 4 := by rw [List.length_drop, hf]
  have FC := fun W (h1 : Rd W (some (fa.add 8)) (byts (f.drop 8))) => readFour_any (some (fa.add 8)) (fc - 8) (f.drop 8) W h1 (by omega)
  rw [hd4] at FC
  have hd : Rd w.drew (some (fa.add 8)) (byts (f.drop 8)) := by have := hr.drop 8 fc (by rw [byts_length]; omega); rw [if_neg (by omega)] at this; simpa [byts] using this
  have hb : Below w.heap.size w w.drew := (Below.refl _ _).drew
  have ht : Rd w.drew (some fa) (byts (f.take 8)) := by have := hr.take 8; simpa [byts, List.map_take] using this
  refine wp_region_noPanic ?_
  refine wp_region_held_drew (S := fun _ => True) (by kernel_rfl) trivial (fun _ => ?_)
  refine wpAnyH_take (i := 0) (oi := (⟨some 24, Op.move (Operand.tmp 4), 35, "ref.go:198", #[], none⟩)) (v := .slice (some fa) 12 fc) rfl (by kernel_rfl) (by kernel_rfl) (by kernel_rfl) (fun _ _ _ h => h) (Or.inl ⟨by kernel_rfl, fun _ _ => by kernel_rfl⟩) trivial ?_
  simp only [Act.put, List.setIfInBounds_toArray, List.set_cons_zero, List.set_cons_succ]
  refine wpAnyH_take (i := 1) (oi := (⟨some 25, Op.slice 35 (Operand.tmp 24) none (some (Operand.const (Value.int IntKind.i64 8))) none, 35, "ref.go:198", #[{ on := 0, ground := Ground.data }], none⟩)) (v := .slice (some fa) 8 fc) rfl (by kernel_rfl) (by kernel_rfl) (by kernel_rfl) (fun _ _ _ h => h) (Or.inl ⟨by kernel_rfl, fun W _ => run_slice_h_op (s := 1) (l := 8) Try.underlying35 (by kernel_rfl) rfl rfl (by omega) (sliced_zero _ _ _ _)⟩) trivial ?_
  simp only [Act.put, List.setIfInBounds_toArray, List.set_cons_zero, List.set_cons_succ]
  refine wpAnyH_take (i := 3) (oi := (⟨some 27, Op.move (Operand.tmp 4), 35, "ref.go:198", #[], none⟩)) (v := .slice (some fa) 12 fc) rfl (by kernel_rfl) (by kernel_rfl) (by kernel_rfl) (fun _ _ _ h => h) (Or.inl ⟨by kernel_rfl, fun _ _ => by kernel_rfl⟩) trivial ?_
  simp only [Act.put, List.setIfInBounds_toArray, List.set_cons_zero, List.set_cons_succ]
  refine wpAnyH_take (i := 4) (oi := (⟨some 28, Op.slice 35 (Operand.tmp 27) (some (Operand.const (Value.int IntKind.i64 8))) none none, 35, "ref.go:198", #[{ on := 3, ground := Ground.data }], none⟩)) (v := .slice (some (fa.add 8)) 4 (fc - 8)) rfl (by kernel_rfl) (by kernel_rfl) (by kernel_rfl) (fun _ _ _ h => h) (Or.inl ⟨by kernel_rfl, fun W _ => run_slice_l_op (s := 1) (l := 8) Try.underlying35 (by kernel_rfl) rfl rfl (by decide) (sliced_lo fa (by omega))⟩) trivial ?_
  simp only [Act.put, List.setIfInBounds_toArray, List.set_cons_zero, List.set_cons_succ]
  refine wpAnyH_ready (rs := [2]) (by kernel_rfl) (by simp) ?_
  refine AllReadyH.cons (o := (⟨some 26, Op.call { callee := Callee.value (Operand.func 71), args := #[Operand.tmp 25], argTypes := #[35] }, 109, "ref.go:198", #[{ on := 1, ground := Ground.data }], none⟩)) rfl ?_ (AllReadyH.nil)
  · skip
    refine next_call (f := 71) (args := #[.slice (some fa) 8 fc]) (by kernel_rfl) (by kernel_rfl) (SC w.drew (by first | exact ht | exact hbw ▸ ht | exact ht.below hbx)) ?_
    rintro e wq1 ⟨rfl, rfl⟩
    refine ⟨.int .u32 (crcB (f.take 8) : Nat), rfl, trivial, fun _ => ?_⟩
    simp only [Act.put, List.setIfInBounds_toArray, List.set_cons_zero, List.set_cons_succ]
    refine wpAnyH_ready (rs := [5]) (by kernel_rfl) (by simp) ?_
    refine AllReadyH.cons (o := (⟨some 29, Op.call { callee := Callee.value (Operand.func 72), args := #[Operand.tmp 28], argTypes := #[35] }, 109, "ref.go:198", #[{ on := 4, ground := Ground.data }, { on := 2, ground := Ground.chain }], none⟩)) rfl ?_ (AllReadyH.nil)
    · skip
      refine next_call (f := 72) (args := #[.slice (some (fa.add 8)) 4 (fc - 8)]) (by kernel_rfl) (by kernel_rfl) (FC w.drew hd) ?_
      rintro e wy2 ⟨rfl, q2, hw2⟩
      refine ⟨.int .u32 (leN ((f.drop 8).take 4) : Nat), rfl, trivial, fun _ => ?_⟩
      simp only [Act.put, List.setIfInBounds_toArray, List.set_cons_zero, List.set_cons_succ]
      have hbx : Below (w.drew).heap.size w.drew wy2 := hw2 ▸ belN (Below.refl _ _) _
      have hb := hb.trans (hbx.mono hb.size)
      refine wpAnyH_take (i := 6) (oi := (⟨some 30, Op.binOp BinOp.neq 109 (Operand.tmp 26) (Operand.tmp 29) 109, 4, "ref.go:198", #[{ on := 2, ground := Ground.data }, { on := 5, ground := Ground.data }], none⟩)) (v := .bool (decide (crcB (f.take 8) ≠ leN ((f.drop 8).take 4)))) rfl (by kernel_rfl) (by kernel_rfl) (by kernel_rfl) (fun _ _ _ h => h) (Or.inl ⟨by kernel_rfl, fun W _ => run_neq_u32 rfl rfl⟩) trivial ?_
      simp only [Act.put, List.setIfInBounds_toArray, List.set_cons_zero, List.set_cons_succ]
      refine wpAnyH_done (by kernel_rfl) ?_ _
      exact NoPanic.normal (hend wy2 _ _ _ _ _ _ hb)
end Go.Proofs.Ytadgaphgomagkaa
