/- Facts and parts are read: the statements that draw their order. PRINTED by tools/regs_l.py. -/
import Derived.Test.YtadgaphgomagkaaKr
import Derived.Deep.QuietTactic
import Derived.BigQuiet
import Derived.Deep.LoopGhost
namespace Go.Proofs.Ytadgaphgomagkaa
open Go.RowKit
set_option maxHeartbeats 8000000
set_option maxRecDepth 100000
def opsFacts4 : Array Oper := #[{ dst := some 22, op := Op.move (Operand.tmp 5), type := 56, pos := "fact.go:145", after := #[], guard := none }, { dst := some 23, op := Op.move (Operand.tmp 4), type := 155, pos := "fact.go:145", after := #[], guard := none }, { dst := some 24, op := Op.call { callee := Callee.value (Operand.func 101), args := #[Operand.tmp 23, Operand.const (Value.int IntKind.i64 1024)], argTypes := #[155, 3] }, type := 35, pos := "fact.go:145", after := #[{ on := 1, ground := Ground.data }], guard := none }, { dst := some 25, op := Op.convert 35 9 (Operand.tmp 24), type := 9, pos := "fact.go:145", after := #[{ on := 2, ground := Ground.data }], guard := none }, { dst := some 26, op := Op.move (Operand.tmp 4), type := 155, pos := "fact.go:145", after := #[], guard := none }, { dst := some 27, op := Op.call { callee := Callee.value (Operand.func 102), args := #[Operand.tmp 26], argTypes := #[155] }, type := 69, pos := "fact.go:145", after := #[{ on := 4, ground := Ground.data }, { on := 2, ground := Ground.chain }], guard := none }, { dst := some 28, op := Op.move (Operand.tmp 4), type := 155, pos := "fact.go:145", after := #[], guard := none }, { dst := some 29, op := Op.call { callee := Callee.value (Operand.func 101), args := #[Operand.tmp 28, Operand.const (Value.int IntKind.i64 1048576)], argTypes := #[155, 3] }, type := 35, pos := "fact.go:145", after := #[{ on := 6, ground := Ground.data }, { on := 5, ground := Ground.chain }], guard := none }, { dst := some 30, op := Op.build 71 #[(0, Operand.tmp 25), (1, Operand.tmp 27), (2, Operand.tmp 29)], type := 71, pos := "fact.go:145", after := #[{ on := 3, ground := Ground.data }, { on := 5, ground := Ground.data }, { on := 7, ground := Ground.data }], guard := none }, { dst := some 31, op := Op.buildSlice 56 1 #[(0, Operand.tmp 30)], type := 56, pos := "fact.go:145", after := #[{ on := 8, ground := Ground.data }], guard := none }, { dst := some 32, op := Op.call { callee := Callee.builtin Builtin.append, args := #[Operand.tmp 22, Operand.tmp 31], argTypes := #[56, 56] }, type := 56, pos := "fact.go:145", after := #[{ on := 0, ground := Ground.data }, { on := 9, ground := Ground.data }, { on := 7, ground := Ground.chain }], guard := none }, { dst := some 5, op := Op.assign (Operand.tmp 32), type := 56, pos := "fact.go:145", after := #[{ on := 10, ground := Ground.data }, { on := 10, ground := Ground.chain }, { on := 0, ground := Ground.phase }, { on := 1, ground := Ground.phase }, { on := 2, ground := Ground.phase }, { on := 3, ground := Ground.phase }, { on := 4, ground := Ground.phase }, { on := 5, ground := Ground.phase }, { on := 6, ground := Ground.phase }, { on := 7, ground := Ground.phase }, { on := 8, ground := Ground.phase }, { on := 9, ground := Ground.phase }, { on := 10, ground := Ground.phase }], guard := none }]
theorem regFacts4 {u0 u1 u2 u3 u6 u7 u8 u9 u10 u11 u12 u13 u14 u15 u16 u17 u18 u19 u20 u21 u22 u23 u24 u25 u26 u27 u28 u29 u30 u31 u32 u33 u34 u35 u36 u37 u38 u39 u40 u41 u42 u43 : Value} {DD : List Deferred} {Q : Exit → Act → World → Prop} {w : World} {g c oc : Nat} {A oA : Option Addr} {l k v : List UInt8} {L : List FM} {s p1 e1 p2 e2 p3 e3 : Nat} (hR : RdrAt w.drew g A l c false) (hF : Facts w.drew (g + 1) oA oc L) (hl : l.length ≤ 1099511627776) (hL : L.length ≤ 1099511627776)
    (hk : rdBytes 1024 l = (k, p1, e1)) (hs : rdNum (l.drop p1) = (s, p2, e2)) (hv : rdBytes 1048576 ((l.drop p1).drop p2) = (v, p3, e3))
    (hend : ∀ (w2 : World) (x22 x23 x24 x25 x26 x27 x28 x29 x30 x31 x32 : Value) (A' : Option Addr) (c' : Nat) (A2 : Option Addr) (c2 : Nat) (f : FM) (_ : f.fv = ⟨k, s, v⟩) (_ : RdrAt w2 g A2 (((l.drop p1).drop p2).drop p3) c2 (((false || decide (e1 ≠ 0)) || decide (e2 ≠ 0)) || decide (e3 ≠ 0)))
      (_ : Facts w2 (g + 1) A' c' (L ++ [f])) (_ : Below g w w2), Q .normal ⟨#[u0, u1, u2, u3, .pointer (some ⟨g, 0, none⟩), .slice A' (L.length + 1) c', u6, u7, u8, u9, u10, u11, u12, u13, u14, u15, u16, u17, u18, u19, u20, u21, x22, x23, x24, x25, x26, x27, x28, x29, x30, x31, x32, u33, u34, u35, u36, u37, u38, u39, u40, u41, u42, u43], DD⟩ w2) :
    (Code.region 4 opsFacts4 true).wp Try.prog Q ⟨#[u0, u1, u2, u3, .pointer (some ⟨g, 0, none⟩), .slice oA L.length oc, u6, u7, u8, u9, u10, u11, u12, u13, u14, u15, u16, u17, u18, u19, u20, u21, u22, u23, u24, u25, u26, u27, u28, u29, u30, u31, u32, u33, u34, u35, u36, u37, u38, u39, u40, u41, u42, u43], DD⟩ w := by
  have hg0 : g < w.heap.size := hR.blk.lt
  have hbt : But g w w.drew := ⟨rfl, rfl, rfl, Nat.le_refl _, fun _ _ _ => rfl⟩
  have hk1 : (⟨k.toArray⟩ : ByteArray).size ≤ 1048576 := by have := rdBytes_most 1024 l; rw [show ((1024 : Nat) : Int) = 1024 from rfl, hk] at this; show k.toArray.size ≤ _; simp at this ⊢; omega
  have hv1 : v.length ≤ 1048576 := by have := rdBytes_most 1048576 ((l.drop p1).drop p2); rw [show ((1048576 : Nat) : Int) = 1048576 from rfl, hv] at this; exact this
  have hs1 : s < 18446744073709551616 := by have := rdNum_lt (l.drop p1); rw [hs] at this; exact this
  have hd1 : (l.drop p1).length ≤ 1099511627776 := by rw [List.length_drop]; omega
  have hd2 : ((l.drop p1).drop p2).length ≤ 1099511627776 := by rw [List.length_drop]; omega
  have C1 := fun W (h : RdrAt W g A l c false) => bytes_rd g A l c false 1024 W h (by omega) (by decide) (by decide)
  simp only [hk] at C1
  have C2 := fun W A c bad (h : RdrAt W g A (l.drop p1) c bad) => number_rd g A (l.drop p1) c bad W h (by omega) (rdNum_le _)
  simp only [hs] at C2
  have C3 := fun W A c bad (h : RdrAt W g A ((l.drop p1).drop p2) c bad) => bytes_rd g A ((l.drop p1).drop p2) c bad 1048576 W h (by omega) (by decide) (by decide)
  simp only [hv] at C3
  refine wp_region_noPanic ?_
  refine wp_region_held_drew (S := fun _ => True) (by kernel_rfl) trivial (fun _ => ?_)
  refine wpAnyH_take (i := 0) (oi := (⟨some 22, Op.move (Operand.tmp 5), 56, "fact.go:145", #[], none⟩)) (v := .slice oA L.length oc) rfl (by kernel_rfl) (by kernel_rfl) (by kernel_rfl) (fun _ _ _ h => h) (Or.inl ⟨by kernel_rfl, fun _ _ => by kernel_rfl⟩) trivial ?_
  simp only [Act.put, List.setIfInBounds_toArray, List.set_cons_zero, List.set_cons_succ]
  refine wpAnyH_take (i := 1) (oi := (⟨some 23, Op.move (Operand.tmp 4), 155, "fact.go:145", #[], none⟩)) (v := .pointer (some ⟨g, 0, none⟩)) rfl (by kernel_rfl) (by kernel_rfl) (by kernel_rfl) (fun _ _ _ h => h) (Or.inl ⟨by kernel_rfl, fun _ _ => by kernel_rfl⟩) trivial ?_
  simp only [Act.put, List.setIfInBounds_toArray, List.set_cons_zero, List.set_cons_succ]
  refine wpAnyH_take (i := 4) (oi := (⟨some 26, Op.move (Operand.tmp 4), 155, "fact.go:145", #[], none⟩)) (v := .pointer (some ⟨g, 0, none⟩)) rfl (by kernel_rfl) (by kernel_rfl) (by kernel_rfl) (fun _ _ _ h => h) (Or.inl ⟨by kernel_rfl, fun _ _ => by kernel_rfl⟩) trivial ?_
  simp only [Act.put, List.setIfInBounds_toArray, List.set_cons_zero, List.set_cons_succ]
  refine wpAnyH_take (i := 6) (oi := (⟨some 28, Op.move (Operand.tmp 4), 155, "fact.go:145", #[], none⟩)) (v := .pointer (some ⟨g, 0, none⟩)) rfl (by kernel_rfl) (by kernel_rfl) (by kernel_rfl) (fun _ _ _ h => h) (Or.inl ⟨by kernel_rfl, fun _ _ => by kernel_rfl⟩) trivial ?_
  simp only [Act.put, List.setIfInBounds_toArray, List.set_cons_zero, List.set_cons_succ]
  refine wpAnyH_ready (rs := [2]) (by kernel_rfl) (by simp) ?_
  refine AllReadyH.cons (o := (⟨some 24, Op.call { callee := Callee.value (Operand.func 101), args := #[Operand.tmp 23, Operand.const (Value.int IntKind.i64 1024)], argTypes := #[155, 3] }, 35, "fact.go:145", #[{ on := 1, ground := Ground.data }], none⟩)) rfl ?_ (AllReadyH.nil)
  · skip
    refine next_call (f := 101) (args := #[.pointer (some ⟨g, 0, none⟩), .int .i64 1024]) (by kernel_rfl) (by kernel_rfl) (C1 w.drew hR) ?_
    rintro e wy1 ⟨AK, BK, dK, rfl, hoK, hR, hb1⟩
    refine ⟨.slice BK k.length dK, rfl, trivial, fun _ => ?_⟩
    simp only [Act.put, List.setIfInBounds_toArray, List.set_cons_zero, List.set_cons_succ]
    have hF := hF.but hb1 (Nat.lt_succ_self g)
    have hbt := hbt.trans hb1
    refine wpAnyH_ready (rs := [3, 5]) (by kernel_rfl) (by simp) ?_
    refine AllReadyH.cons (o := (⟨some 25, Op.convert 35 9 (Operand.tmp 24), 9, "fact.go:145", #[{ on := 2, ground := Ground.data }], none⟩)) rfl ?_ (AllReadyH.cons (o := (⟨some 27, Op.call { callee := Callee.value (Operand.func 102), args := #[Operand.tmp 26], argTypes := #[155] }, 69, "fact.go:145", #[{ on := 4, ground := Ground.data }, { on := 2, ground := Ground.chain }], none⟩)) rfl ?_ (AllReadyH.nil))
    · skip
      refine next_op (v := .string ⟨k.toArray⟩) (by kernel_rfl) (run_convert_op rfl (conv_bytes wy1 BK dK k (Rd.of_own hoK))) trivial (fun _ => ?_)
      simp only [Act.put, List.setIfInBounds_toArray, List.set_cons_zero, List.set_cons_succ]
      refine wpAnyH_ready (rs := [5]) (by kernel_rfl) (by simp) ?_
      refine AllReadyH.cons (o := (⟨some 27, Op.call { callee := Callee.value (Operand.func 102), args := #[Operand.tmp 26], argTypes := #[155] }, 69, "fact.go:145", #[{ on := 4, ground := Ground.data }, { on := 2, ground := Ground.chain }], none⟩)) rfl ?_ (AllReadyH.nil)
      · skip
        refine next_call (f := 102) (args := #[.pointer (some ⟨g, 0, none⟩)]) (by kernel_rfl) (by kernel_rfl) (C2 wy1 _ _ _ hR) ?_
        rintro e wy3 ⟨AN, rfl, hR, hb3⟩
        refine ⟨.int .u64 (s : Nat), rfl, trivial, fun _ => ?_⟩
        simp only [Act.put, List.setIfInBounds_toArray, List.set_cons_zero, List.set_cons_succ]
        have hF := hF.but hb3 (Nat.lt_succ_self g)
        have hoK := own_but hoK hb3 hg0
        have hbt := hbt.trans hb3
        refine wpAnyH_ready (rs := [7]) (by kernel_rfl) (by simp) ?_
        refine AllReadyH.cons (o := (⟨some 29, Op.call { callee := Callee.value (Operand.func 101), args := #[Operand.tmp 28, Operand.const (Value.int IntKind.i64 1048576)], argTypes := #[155, 3] }, 35, "fact.go:145", #[{ on := 6, ground := Ground.data }, { on := 5, ground := Ground.chain }], none⟩)) rfl ?_ (AllReadyH.nil)
        · skip
          have hsz := hbt.size
          refine next_call (f := 101) (args := #[.pointer (some ⟨g, 0, none⟩), .int .i64 1048576]) (by kernel_rfl) (by kernel_rfl) (C3 wy3 _ _ _ hR) ?_
          rintro e wy4 ⟨AV, BV, dV, rfl, hoV, hR, hb4⟩
          refine ⟨.slice BV v.length dV, rfl, trivial, fun _ => ?_⟩
          simp only [Act.put, List.setIfInBounds_toArray, List.set_cons_zero, List.set_cons_succ]
          have hAV : ∀ ad, BV = some ad → (Value.slice oA L.length oc).ownBlock ≠ some ad.block := fun ad e e2 => by have h1 := (hF.own.lt _ e2).2; have h2 := ((own_cap hoV).2.2 ad e).1; omega
          have hoV := own_mono hoV (show g + 1 ≤ _ by omega)
          have hF := hF.but hb4 (Nat.lt_succ_self g)
          have hoK := own_but hoK hb4 hg0
          have hbt := hbt.trans hb4
          refine wpAnyH_take (i := 8) (oi := (⟨some 30, Op.build 71 #[(0, Operand.tmp 25), (1, Operand.tmp 27), (2, Operand.tmp 29)], 71, "fact.go:145", #[{ on := 3, ground := Ground.data }, { on := 5, ground := Ground.data }, { on := 7, ground := Ground.data }], none⟩)) (v := .agg #[.string ⟨k.toArray⟩, .int .u64 (s : Nat), .slice BV v.length dV]) rfl (by kernel_rfl) (by kernel_rfl) (by kernel_rfl) (fun _ _ _ h => h) (Or.inl ⟨by kernel_rfl, fun _ _ => by kernel_rfl⟩) trivial ?_
          simp only [Act.put, List.setIfInBounds_toArray, List.set_cons_zero, List.set_cons_succ]
          refine wpAnyH_ready (rs := [9]) (by kernel_rfl) (by simp) ?_
          refine AllReadyH.cons (o := (⟨some 31, Op.buildSlice 56 1 #[(0, Operand.tmp 30)], 56, "fact.go:145", #[{ on := 8, ground := Ground.data }], none⟩)) rfl ?_ (AllReadyH.nil)
          · skip
            have hbq := (Below.refl (wy4).heap.size (wy4)).alloc (Nat.le_refl _) (.cells #[.string ⟨k.toArray⟩, .int .u64 (s : Nat), .slice BV v.length dV] 71)
            refine next_op (v := .slice (some ⟨wy4.heap.size, 0, none⟩) 1 1) (by kernel_rfl) (run_buildSlice_op (size := 3) #[.string ⟨k.toArray⟩, .int .u64 (s : Nat), .slice BV v.length dV] (.agg #[.string ⟨#[]⟩, .int .u64 0, .slice none 0 0]) Try.underlying56 (by kernel_rfl) (by decide) (by decide) (by kernel_rfl)) trivial (fun _ => ?_)
            simp only [Act.put, List.setIfInBounds_toArray, List.set_cons_zero, List.set_cons_succ]
            have hrn := Rd.many (wy4) [.string ⟨k.toArray⟩, .int .u64 (s : Nat), .slice BV v.length dV] 71
            have hF := hF.below hbq
            have hoV := own_below hoV hbq
            have hR := hR.below hbq
            have hbt := hbt.trans (But.below hbq)
            refine wpAnyH_ready (rs := [10]) (by kernel_rfl) (by simp) ?_
            refine AllReadyH.cons (o := (⟨some 32, Op.call { callee := Callee.builtin Builtin.append, args := #[Operand.tmp 22, Operand.tmp 31], argTypes := #[56, 56] }, 56, "fact.go:145", #[{ on := 0, ground := Ground.data }, { on := 9, ground := Ground.data }, { on := 7, ground := Ground.chain }], none⟩)) rfl ?_ (AllReadyH.nil)
            · skip
              obtain ⟨A', c', wA, hrun, hoA, hgA⟩ := run_app (P := Try.prog) ((wy4).alloc (.cells #[.string ⟨k.toArray⟩, .int .u64 (s : Nat), .slice BV v.length dV] 71)) slF 56 (g + 1) (.slice oA L.length oc) L.length (fcells L) hF.own _ 1 1 [.string ⟨k.toArray⟩, .int .u64 (s : Nat), .slice BV v.length dV] rfl hrn (by simp [Value.oneCell']) (by unfold maxLen; omega) (by omega) (by have := hbt.size; omega)
              refine next_op (v := .slice A' (L.length + 1) c') (by kernel_rfl) (run_app_op rfl rfl hrun) trivial (fun _ => ?_)
              simp only [Act.put, List.setIfInBounds_toArray, List.set_cons_zero, List.set_cons_succ]
              have hR := hR.grew hgA fun j e => by have := (hF.own.lt j e).1; omega
              have hB := (hbt.below_of (Nat.le_of_lt hg0)).trans ((hgA.under hF.own (Nat.le_refl _) (by have := hbt.size; omega)).mono (Nat.le_succ g))
              have hF := hF.app (M := [⟨⟨k.toArray⟩, s, BV, dV, v⟩]) (fun f hf => by rw [List.mem_singleton.1 hf]; exact ⟨Rd.of_own hoV, (own_cap hoV).1, hv1, hs1, hk1⟩) (fun f hf => by rw [List.mem_singleton.1 hf]; exact (own_cap hoV).2.2) (fun f hf => by rw [List.mem_singleton.1 hf]; exact hAV) hoA hgA
              refine wpAnyH_take (i := 11) (oi := (⟨some 5, Op.assign (Operand.tmp 32), 56, "fact.go:145", #[{ on := 10, ground := Ground.data }, { on := 10, ground := Ground.chain }, { on := 0, ground := Ground.phase }, { on := 1, ground := Ground.phase }, { on := 2, ground := Ground.phase }, { on := 3, ground := Ground.phase }, { on := 4, ground := Ground.phase }, { on := 5, ground := Ground.phase }, { on := 6, ground := Ground.phase }, { on := 7, ground := Ground.phase }, { on := 8, ground := Ground.phase }, { on := 9, ground := Ground.phase }, { on := 10, ground := Ground.phase }], none⟩)) (v := .slice A' (L.length + 1) c') rfl (by kernel_rfl) (by kernel_rfl) (by kernel_rfl) (fun _ _ _ h => h) (Or.inl ⟨by kernel_rfl, fun _ _ => by kernel_rfl⟩) trivial ?_
              simp only [Act.put, List.setIfInBounds_toArray, List.set_cons_zero, List.set_cons_succ]
              refine wpAnyH_done (by kernel_rfl) ?_ _
              exact NoPanic.normal (hend wA _ _ _ _ _ _ _ _ _ _ _ _ _ _ _ _ rfl hR hF hB)
    · skip
      refine next_call (f := 102) (args := #[.pointer (some ⟨g, 0, none⟩)]) (by kernel_rfl) (by kernel_rfl) (C2 wy1 _ _ _ hR) ?_
      rintro e wy7 ⟨AN, rfl, hR, hb7⟩
      refine ⟨.int .u64 (s : Nat), rfl, trivial, fun _ => ?_⟩
      simp only [Act.put, List.setIfInBounds_toArray, List.set_cons_zero, List.set_cons_succ]
      have hF := hF.but hb7 (Nat.lt_succ_self g)
      have hoK := own_but hoK hb7 hg0
      have hbt := hbt.trans hb7
      refine wpAnyH_ready (rs := [3, 7]) (by kernel_rfl) (by simp) ?_
      refine AllReadyH.cons (o := (⟨some 25, Op.convert 35 9 (Operand.tmp 24), 9, "fact.go:145", #[{ on := 2, ground := Ground.data }], none⟩)) rfl ?_ (AllReadyH.cons (o := (⟨some 29, Op.call { callee := Callee.value (Operand.func 101), args := #[Operand.tmp 28, Operand.const (Value.int IntKind.i64 1048576)], argTypes := #[155, 3] }, 35, "fact.go:145", #[{ on := 6, ground := Ground.data }, { on := 5, ground := Ground.chain }], none⟩)) rfl ?_ (AllReadyH.nil))
      · skip
        refine next_op (v := .string ⟨k.toArray⟩) (by kernel_rfl) (run_convert_op rfl (conv_bytes wy7 BK dK k (Rd.of_own hoK))) trivial (fun _ => ?_)
        simp only [Act.put, List.setIfInBounds_toArray, List.set_cons_zero, List.set_cons_succ]
        refine wpAnyH_ready (rs := [7]) (by kernel_rfl) (by simp) ?_
        refine AllReadyH.cons (o := (⟨some 29, Op.call { callee := Callee.value (Operand.func 101), args := #[Operand.tmp 28, Operand.const (Value.int IntKind.i64 1048576)], argTypes := #[155, 3] }, 35, "fact.go:145", #[{ on := 6, ground := Ground.data }, { on := 5, ground := Ground.chain }], none⟩)) rfl ?_ (AllReadyH.nil)
        · skip
          have hsz := hbt.size
          refine next_call (f := 101) (args := #[.pointer (some ⟨g, 0, none⟩), .int .i64 1048576]) (by kernel_rfl) (by kernel_rfl) (C3 wy7 _ _ _ hR) ?_
          rintro e wy9 ⟨AV, BV, dV, rfl, hoV, hR, hb9⟩
          refine ⟨.slice BV v.length dV, rfl, trivial, fun _ => ?_⟩
          simp only [Act.put, List.setIfInBounds_toArray, List.set_cons_zero, List.set_cons_succ]
          have hAV : ∀ ad, BV = some ad → (Value.slice oA L.length oc).ownBlock ≠ some ad.block := fun ad e e2 => by have h1 := (hF.own.lt _ e2).2; have h2 := ((own_cap hoV).2.2 ad e).1; omega
          have hoV := own_mono hoV (show g + 1 ≤ _ by omega)
          have hF := hF.but hb9 (Nat.lt_succ_self g)
          have hoK := own_but hoK hb9 hg0
          have hbt := hbt.trans hb9
          refine wpAnyH_take (i := 8) (oi := (⟨some 30, Op.build 71 #[(0, Operand.tmp 25), (1, Operand.tmp 27), (2, Operand.tmp 29)], 71, "fact.go:145", #[{ on := 3, ground := Ground.data }, { on := 5, ground := Ground.data }, { on := 7, ground := Ground.data }], none⟩)) (v := .agg #[.string ⟨k.toArray⟩, .int .u64 (s : Nat), .slice BV v.length dV]) rfl (by kernel_rfl) (by kernel_rfl) (by kernel_rfl) (fun _ _ _ h => h) (Or.inl ⟨by kernel_rfl, fun _ _ => by kernel_rfl⟩) trivial ?_
          simp only [Act.put, List.setIfInBounds_toArray, List.set_cons_zero, List.set_cons_succ]
          refine wpAnyH_ready (rs := [9]) (by kernel_rfl) (by simp) ?_
          refine AllReadyH.cons (o := (⟨some 31, Op.buildSlice 56 1 #[(0, Operand.tmp 30)], 56, "fact.go:145", #[{ on := 8, ground := Ground.data }], none⟩)) rfl ?_ (AllReadyH.nil)
          · skip
            have hbq := (Below.refl (wy9).heap.size (wy9)).alloc (Nat.le_refl _) (.cells #[.string ⟨k.toArray⟩, .int .u64 (s : Nat), .slice BV v.length dV] 71)
            refine next_op (v := .slice (some ⟨wy9.heap.size, 0, none⟩) 1 1) (by kernel_rfl) (run_buildSlice_op (size := 3) #[.string ⟨k.toArray⟩, .int .u64 (s : Nat), .slice BV v.length dV] (.agg #[.string ⟨#[]⟩, .int .u64 0, .slice none 0 0]) Try.underlying56 (by kernel_rfl) (by decide) (by decide) (by kernel_rfl)) trivial (fun _ => ?_)
            simp only [Act.put, List.setIfInBounds_toArray, List.set_cons_zero, List.set_cons_succ]
            have hrn := Rd.many (wy9) [.string ⟨k.toArray⟩, .int .u64 (s : Nat), .slice BV v.length dV] 71
            have hF := hF.below hbq
            have hoV := own_below hoV hbq
            have hR := hR.below hbq
            have hbt := hbt.trans (But.below hbq)
            refine wpAnyH_ready (rs := [10]) (by kernel_rfl) (by simp) ?_
            refine AllReadyH.cons (o := (⟨some 32, Op.call { callee := Callee.builtin Builtin.append, args := #[Operand.tmp 22, Operand.tmp 31], argTypes := #[56, 56] }, 56, "fact.go:145", #[{ on := 0, ground := Ground.data }, { on := 9, ground := Ground.data }, { on := 7, ground := Ground.chain }], none⟩)) rfl ?_ (AllReadyH.nil)
            · skip
              obtain ⟨A', c', wA, hrun, hoA, hgA⟩ := run_app (P := Try.prog) ((wy9).alloc (.cells #[.string ⟨k.toArray⟩, .int .u64 (s : Nat), .slice BV v.length dV] 71)) slF 56 (g + 1) (.slice oA L.length oc) L.length (fcells L) hF.own _ 1 1 [.string ⟨k.toArray⟩, .int .u64 (s : Nat), .slice BV v.length dV] rfl hrn (by simp [Value.oneCell']) (by unfold maxLen; omega) (by omega) (by have := hbt.size; omega)
              refine next_op (v := .slice A' (L.length + 1) c') (by kernel_rfl) (run_app_op rfl rfl hrun) trivial (fun _ => ?_)
              simp only [Act.put, List.setIfInBounds_toArray, List.set_cons_zero, List.set_cons_succ]
              have hR := hR.grew hgA fun j e => by have := (hF.own.lt j e).1; omega
              have hB := (hbt.below_of (Nat.le_of_lt hg0)).trans ((hgA.under hF.own (Nat.le_refl _) (by have := hbt.size; omega)).mono (Nat.le_succ g))
              have hF := hF.app (M := [⟨⟨k.toArray⟩, s, BV, dV, v⟩]) (fun f hf => by rw [List.mem_singleton.1 hf]; exact ⟨Rd.of_own hoV, (own_cap hoV).1, hv1, hs1, hk1⟩) (fun f hf => by rw [List.mem_singleton.1 hf]; exact (own_cap hoV).2.2) (fun f hf => by rw [List.mem_singleton.1 hf]; exact hAV) hoA hgA
              refine wpAnyH_take (i := 11) (oi := (⟨some 5, Op.assign (Operand.tmp 32), 56, "fact.go:145", #[{ on := 10, ground := Ground.data }, { on := 10, ground := Ground.chain }, { on := 0, ground := Ground.phase }, { on := 1, ground := Ground.phase }, { on := 2, ground := Ground.phase }, { on := 3, ground := Ground.phase }, { on := 4, ground := Ground.phase }, { on := 5, ground := Ground.phase }, { on := 6, ground := Ground.phase }, { on := 7, ground := Ground.phase }, { on := 8, ground := Ground.phase }, { on := 9, ground := Ground.phase }, { on := 10, ground := Ground.phase }], none⟩)) (v := .slice A' (L.length + 1) c') rfl (by kernel_rfl) (by kernel_rfl) (by kernel_rfl) (fun _ _ _ h => h) (Or.inl ⟨by kernel_rfl, fun _ _ => by kernel_rfl⟩) trivial ?_
              simp only [Act.put, List.setIfInBounds_toArray, List.set_cons_zero, List.set_cons_succ]
              refine wpAnyH_done (by kernel_rfl) ?_ _
              exact NoPanic.normal (hend wA _ _ _ _ _ _ _ _ _ _ _ _ _ _ _ _ rfl hR hF hB)
      · skip
        have hsz := hbt.size
        refine next_call (f := 101) (args := #[.pointer (some ⟨g, 0, none⟩), .int .i64 1048576]) (by kernel_rfl) (by kernel_rfl) (C3 wy7 _ _ _ hR) ?_
        rintro e wy12 ⟨AV, BV, dV, rfl, hoV, hR, hb12⟩
        refine ⟨.slice BV v.length dV, rfl, trivial, fun _ => ?_⟩
        simp only [Act.put, List.setIfInBounds_toArray, List.set_cons_zero, List.set_cons_succ]
        have hAV : ∀ ad, BV = some ad → (Value.slice oA L.length oc).ownBlock ≠ some ad.block := fun ad e e2 => by have h1 := (hF.own.lt _ e2).2; have h2 := ((own_cap hoV).2.2 ad e).1; omega
        have hoV := own_mono hoV (show g + 1 ≤ _ by omega)
        have hF := hF.but hb12 (Nat.lt_succ_self g)
        have hoK := own_but hoK hb12 hg0
        have hbt := hbt.trans hb12
        refine wpAnyH_ready (rs := [3]) (by kernel_rfl) (by simp) ?_
        refine AllReadyH.cons (o := (⟨some 25, Op.convert 35 9 (Operand.tmp 24), 9, "fact.go:145", #[{ on := 2, ground := Ground.data }], none⟩)) rfl ?_ (AllReadyH.nil)
        · skip
          refine next_op (v := .string ⟨k.toArray⟩) (by kernel_rfl) (run_convert_op rfl (conv_bytes wy12 BK dK k (Rd.of_own hoK))) trivial (fun _ => ?_)
          simp only [Act.put, List.setIfInBounds_toArray, List.set_cons_zero, List.set_cons_succ]
          refine wpAnyH_take (i := 8) (oi := (⟨some 30, Op.build 71 #[(0, Operand.tmp 25), (1, Operand.tmp 27), (2, Operand.tmp 29)], 71, "fact.go:145", #[{ on := 3, ground := Ground.data }, { on := 5, ground := Ground.data }, { on := 7, ground := Ground.data }], none⟩)) (v := .agg #[.string ⟨k.toArray⟩, .int .u64 (s : Nat), .slice BV v.length dV]) rfl (by kernel_rfl) (by kernel_rfl) (by kernel_rfl) (fun _ _ _ h => h) (Or.inl ⟨by kernel_rfl, fun _ _ => by kernel_rfl⟩) trivial ?_
          simp only [Act.put, List.setIfInBounds_toArray, List.set_cons_zero, List.set_cons_succ]
          refine wpAnyH_ready (rs := [9]) (by kernel_rfl) (by simp) ?_
          refine AllReadyH.cons (o := (⟨some 31, Op.buildSlice 56 1 #[(0, Operand.tmp 30)], 56, "fact.go:145", #[{ on := 8, ground := Ground.data }], none⟩)) rfl ?_ (AllReadyH.nil)
          · skip
            have hbq := (Below.refl (wy12).heap.size (wy12)).alloc (Nat.le_refl _) (.cells #[.string ⟨k.toArray⟩, .int .u64 (s : Nat), .slice BV v.length dV] 71)
            refine next_op (v := .slice (some ⟨wy12.heap.size, 0, none⟩) 1 1) (by kernel_rfl) (run_buildSlice_op (size := 3) #[.string ⟨k.toArray⟩, .int .u64 (s : Nat), .slice BV v.length dV] (.agg #[.string ⟨#[]⟩, .int .u64 0, .slice none 0 0]) Try.underlying56 (by kernel_rfl) (by decide) (by decide) (by kernel_rfl)) trivial (fun _ => ?_)
            simp only [Act.put, List.setIfInBounds_toArray, List.set_cons_zero, List.set_cons_succ]
            have hrn := Rd.many (wy12) [.string ⟨k.toArray⟩, .int .u64 (s : Nat), .slice BV v.length dV] 71
            have hF := hF.below hbq
            have hoV := own_below hoV hbq
            have hR := hR.below hbq
            have hbt := hbt.trans (But.below hbq)
            refine wpAnyH_ready (rs := [10]) (by kernel_rfl) (by simp) ?_
            refine AllReadyH.cons (o := (⟨some 32, Op.call { callee := Callee.builtin Builtin.append, args := #[Operand.tmp 22, Operand.tmp 31], argTypes := #[56, 56] }, 56, "fact.go:145", #[{ on := 0, ground := Ground.data }, { on := 9, ground := Ground.data }, { on := 7, ground := Ground.chain }], none⟩)) rfl ?_ (AllReadyH.nil)
            · skip
              obtain ⟨A', c', wA, hrun, hoA, hgA⟩ := run_app (P := Try.prog) ((wy12).alloc (.cells #[.string ⟨k.toArray⟩, .int .u64 (s : Nat), .slice BV v.length dV] 71)) slF 56 (g + 1) (.slice oA L.length oc) L.length (fcells L) hF.own _ 1 1 [.string ⟨k.toArray⟩, .int .u64 (s : Nat), .slice BV v.length dV] rfl hrn (by simp [Value.oneCell']) (by unfold maxLen; omega) (by omega) (by have := hbt.size; omega)
              refine next_op (v := .slice A' (L.length + 1) c') (by kernel_rfl) (run_app_op rfl rfl hrun) trivial (fun _ => ?_)
              simp only [Act.put, List.setIfInBounds_toArray, List.set_cons_zero, List.set_cons_succ]
              have hR := hR.grew hgA fun j e => by have := (hF.own.lt j e).1; omega
              have hB := (hbt.below_of (Nat.le_of_lt hg0)).trans ((hgA.under hF.own (Nat.le_refl _) (by have := hbt.size; omega)).mono (Nat.le_succ g))
              have hF := hF.app (M := [⟨⟨k.toArray⟩, s, BV, dV, v⟩]) (fun f hf => by rw [List.mem_singleton.1 hf]; exact ⟨Rd.of_own hoV, (own_cap hoV).1, hv1, hs1, hk1⟩) (fun f hf => by rw [List.mem_singleton.1 hf]; exact (own_cap hoV).2.2) (fun f hf => by rw [List.mem_singleton.1 hf]; exact hAV) hoA hgA
              refine wpAnyH_take (i := 11) (oi := (⟨some 5, Op.assign (Operand.tmp 32), 56, "fact.go:145", #[{ on := 10, ground := Ground.data }, { on := 10, ground := Ground.chain }, { on := 0, ground := Ground.phase }, { on := 1, ground := Ground.phase }, { on := 2, ground := Ground.phase }, { on := 3, ground := Ground.phase }, { on := 4, ground := Ground.phase }, { on := 5, ground := Ground.phase }, { on := 6, ground := Ground.phase }, { on := 7, ground := Ground.phase }, { on := 8, ground := Ground.phase }, { on := 9, ground := Ground.phase }, { on := 10, ground := Ground.phase }], none⟩)) (v := .slice A' (L.length + 1) c') rfl (by kernel_rfl) (by kernel_rfl) (by kernel_rfl) (fun _ _ _ h => h) (Or.inl ⟨by kernel_rfl, fun _ _ => by kernel_rfl⟩) trivial ?_
              simp only [Act.put, List.setIfInBounds_toArray, List.set_cons_zero, List.set_cons_succ]
              refine wpAnyH_done (by kernel_rfl) ?_ _
              exact NoPanic.normal (hend wA _ _ _ _ _ _ _ _ _ _ _ _ _ _ _ _ rfl hR hF hB)
def opsParts4 : Array Oper := #[{ dst := some 19, op := Op.move (Operand.tmp 6), type := 155, pos := "fact.go:130", after := #[], guard := none }, { dst := some 20, op := Op.call { callee := Callee.value (Operand.func 101), args := #[Operand.tmp 19, Operand.const (Value.int IntKind.i64 1024)], argTypes := #[155, 3] }, type := 35, pos := "fact.go:130", after := #[{ on := 0, ground := Ground.data }], guard := none }, { dst := some 21, op := Op.convert 35 9 (Operand.tmp 20), type := 9, pos := "fact.go:130", after := #[{ on := 1, ground := Ground.data }], guard := none }, { dst := some 22, op := Op.move (Operand.tmp 6), type := 155, pos := "fact.go:130", after := #[], guard := none }, { dst := some 23, op := Op.call { callee := Callee.value (Operand.func 102), args := #[Operand.tmp 22], argTypes := #[155] }, type := 69, pos := "fact.go:130", after := #[{ on := 3, ground := Ground.data }, { on := 1, ground := Ground.chain }], guard := none }, { dst := some 8, op := Op.assign (Operand.tmp 21), type := 9, pos := "fact.go:130", after := #[{ on := 2, ground := Ground.data }, { on := 4, ground := Ground.chain }, { on := 0, ground := Ground.phase }, { on := 1, ground := Ground.phase }, { on := 2, ground := Ground.phase }, { on := 3, ground := Ground.textOnly Departure.lateStores }, { on := 4, ground := Ground.textOnly Departure.lateStoresUnsure }], guard := none }, { dst := some 9, op := Op.assign (Operand.tmp 23), type := 69, pos := "fact.go:130", after := #[{ on := 4, ground := Ground.data }, { on := 5, ground := Ground.chain }, { on := 0, ground := Ground.phase }, { on := 1, ground := Ground.phase }, { on := 2, ground := Ground.phase }, { on := 3, ground := Ground.phase }, { on := 4, ground := Ground.phase }, { on := 5, ground := Ground.phase }], guard := none }]
theorem regParts4 {u0 u1 u2 u3 u4 u5 u7 u8 u9 u10 u11 u12 u13 u14 u15 u16 u17 u18 u19 u20 u21 u22 u23 u24 u25 u26 u27 u28 u29 u30 u31 u32 u33 u34 u35 u36 u37 u38 u39 u40 u41 u42 u43 u44 u45 u46 u47 u48 u49 u50 : Value} {DD : List Deferred} {Q : Exit → Act → World → Prop} {w : World} {g c : Nat} {A : Option Addr} {l k : List UInt8} {s p1 e1 p2 e2 : Nat} (hR : RdrAt w.drew g A l c false) (hl : l.length ≤ 1099511627776)
    (hk : rdBytes 1024 l = (k, p1, e1)) (hs : rdNum (l.drop p1) = (s, p2, e2))
    (hend : ∀ (w2 : World) (x19 x20 x21 x22 x23 : Value) (A2 : Option Addr) (c2 : Nat) (_ : RdrAt w2 g A2 ((l.drop p1).drop p2) c2 ((false || decide (e1 ≠ 0)) || decide (e2 ≠ 0))) (_ : But g w w2), Q .normal ⟨#[u0, u1, u2, u3, u4, u5, .pointer (some ⟨g, 0, none⟩), u7, .string ⟨k.toArray⟩, .int .u64 (s : Nat), u10, u11, u12, u13, u14, u15, u16, u17, u18, x19, x20, x21, x22, x23, u24, u25, u26, u27, u28, u29, u30, u31, u32, u33, u34, u35, u36, u37, u38, u39, u40, u41, u42, u43, u44, u45, u46, u47, u48, u49, u50], DD⟩ w2) :
    (Code.region 4 opsParts4 true).wp Try.prog Q ⟨#[u0, u1, u2, u3, u4, u5, .pointer (some ⟨g, 0, none⟩), u7, u8, u9, u10, u11, u12, u13, u14, u15, u16, u17, u18, u19, u20, u21, u22, u23, u24, u25, u26, u27, u28, u29, u30, u31, u32, u33, u34, u35, u36, u37, u38, u39, u40, u41, u42, u43, u44, u45, u46, u47, u48, u49, u50], DD⟩ w := by
  have hg0 : g < w.heap.size := hR.blk.lt
  have hbt : But g w w.drew := ⟨rfl, rfl, rfl, Nat.le_refl _, fun _ _ _ => rfl⟩
  have hd1 : (l.drop p1).length ≤ 1099511627776 := by rw [List.length_drop]; omega
  have C1 := fun W (h : RdrAt W g A l c false) => bytes_rd g A l c false 1024 W h (by omega) (by decide) (by decide)
  simp only [hk] at C1
  have C2 := fun W A c bad (h : RdrAt W g A (l.drop p1) c bad) => number_rd g A (l.drop p1) c bad W h (by omega) (rdNum_le _)
  simp only [hs] at C2
  refine wp_region_noPanic ?_
  refine wp_region_held_drew (S := fun _ => True) (by kernel_rfl) trivial (fun _ => ?_)
  refine wpAnyH_take (i := 0) (oi := (⟨some 19, Op.move (Operand.tmp 6), 155, "fact.go:130", #[], none⟩)) (v := .pointer (some ⟨g, 0, none⟩)) rfl (by kernel_rfl) (by kernel_rfl) (by kernel_rfl) (fun _ _ _ h => h) (Or.inl ⟨by kernel_rfl, fun _ _ => by kernel_rfl⟩) trivial ?_
  simp only [Act.put, List.setIfInBounds_toArray, List.set_cons_zero, List.set_cons_succ]
  refine wpAnyH_take (i := 3) (oi := (⟨some 22, Op.move (Operand.tmp 6), 155, "fact.go:130", #[], none⟩)) (v := .pointer (some ⟨g, 0, none⟩)) rfl (by kernel_rfl) (by kernel_rfl) (by kernel_rfl) (fun _ _ _ h => h) (Or.inl ⟨by kernel_rfl, fun _ _ => by kernel_rfl⟩) trivial ?_
  simp only [Act.put, List.setIfInBounds_toArray, List.set_cons_zero, List.set_cons_succ]
  refine wpAnyH_ready (rs := [1]) (by kernel_rfl) (by simp) ?_
  refine AllReadyH.cons (o := (⟨some 20, Op.call { callee := Callee.value (Operand.func 101), args := #[Operand.tmp 19, Operand.const (Value.int IntKind.i64 1024)], argTypes := #[155, 3] }, 35, "fact.go:130", #[{ on := 0, ground := Ground.data }], none⟩)) rfl ?_ (AllReadyH.nil)
  · skip
    refine next_call (f := 101) (args := #[.pointer (some ⟨g, 0, none⟩), .int .i64 1024]) (by kernel_rfl) (by kernel_rfl) (C1 w.drew hR) ?_
    rintro e wy1 ⟨AK, BK, dK, rfl, hoK, hR, hb1⟩
    refine ⟨.slice BK k.length dK, rfl, trivial, fun _ => ?_⟩
    simp only [Act.put, List.setIfInBounds_toArray, List.set_cons_zero, List.set_cons_succ]
    have hbt := hbt.trans hb1
    refine wpAnyH_ready (rs := [2, 4]) (by kernel_rfl) (by simp) ?_
    refine AllReadyH.cons (o := (⟨some 21, Op.convert 35 9 (Operand.tmp 20), 9, "fact.go:130", #[{ on := 1, ground := Ground.data }], none⟩)) rfl ?_ (AllReadyH.cons (o := (⟨some 23, Op.call { callee := Callee.value (Operand.func 102), args := #[Operand.tmp 22], argTypes := #[155] }, 69, "fact.go:130", #[{ on := 3, ground := Ground.data }, { on := 1, ground := Ground.chain }], none⟩)) rfl ?_ (AllReadyH.nil))
    · skip
      refine next_op (v := .string ⟨k.toArray⟩) (by kernel_rfl) (run_convert_op rfl (conv_bytes wy1 BK dK k (Rd.of_own hoK))) trivial (fun _ => ?_)
      simp only [Act.put, List.setIfInBounds_toArray, List.set_cons_zero, List.set_cons_succ]
      refine wpAnyH_ready (rs := [4]) (by kernel_rfl) (by simp) ?_
      refine AllReadyH.cons (o := (⟨some 23, Op.call { callee := Callee.value (Operand.func 102), args := #[Operand.tmp 22], argTypes := #[155] }, 69, "fact.go:130", #[{ on := 3, ground := Ground.data }, { on := 1, ground := Ground.chain }], none⟩)) rfl ?_ (AllReadyH.nil)
      · skip
        refine next_call (f := 102) (args := #[.pointer (some ⟨g, 0, none⟩)]) (by kernel_rfl) (by kernel_rfl) (C2 wy1 _ _ _ hR) ?_
        rintro e wy3 ⟨AN, rfl, hR, hb3⟩
        refine ⟨.int .u64 (s : Nat), rfl, trivial, fun _ => ?_⟩
        simp only [Act.put, List.setIfInBounds_toArray, List.set_cons_zero, List.set_cons_succ]
        have hoK := own_but hoK hb3 hg0
        have hbt := hbt.trans hb3
        refine wpAnyH_take (i := 5) (oi := (⟨some 8, Op.assign (Operand.tmp 21), 9, "fact.go:130", #[{ on := 2, ground := Ground.data }, { on := 4, ground := Ground.chain }, { on := 0, ground := Ground.phase }, { on := 1, ground := Ground.phase }, { on := 2, ground := Ground.phase }, { on := 3, ground := Ground.textOnly Departure.lateStores }, { on := 4, ground := Ground.textOnly Departure.lateStoresUnsure }], none⟩)) (v := .string ⟨k.toArray⟩) rfl (by kernel_rfl) (by kernel_rfl) (by kernel_rfl) (fun _ _ _ h => h) (Or.inl ⟨by kernel_rfl, fun _ _ => by kernel_rfl⟩) trivial ?_
        simp only [Act.put, List.setIfInBounds_toArray, List.set_cons_zero, List.set_cons_succ]
        refine wpAnyH_take (i := 6) (oi := (⟨some 9, Op.assign (Operand.tmp 23), 69, "fact.go:130", #[{ on := 4, ground := Ground.data }, { on := 5, ground := Ground.chain }, { on := 0, ground := Ground.phase }, { on := 1, ground := Ground.phase }, { on := 2, ground := Ground.phase }, { on := 3, ground := Ground.phase }, { on := 4, ground := Ground.phase }, { on := 5, ground := Ground.phase }], none⟩)) (v := .int .u64 (s : Nat)) rfl (by kernel_rfl) (by kernel_rfl) (by kernel_rfl) (fun _ _ _ h => h) (Or.inl ⟨by kernel_rfl, fun _ _ => by kernel_rfl⟩) trivial ?_
        simp only [Act.put, List.setIfInBounds_toArray, List.set_cons_zero, List.set_cons_succ]
        refine wpAnyH_done (by kernel_rfl) ?_ _
        exact NoPanic.normal (hend wy3 _ _ _ _ _ _ _ hR hbt)
    · skip
      refine next_call (f := 102) (args := #[.pointer (some ⟨g, 0, none⟩)]) (by kernel_rfl) (by kernel_rfl) (C2 wy1 _ _ _ hR) ?_
      rintro e wy4 ⟨AN, rfl, hR, hb4⟩
      refine ⟨.int .u64 (s : Nat), rfl, trivial, fun _ => ?_⟩
      simp only [Act.put, List.setIfInBounds_toArray, List.set_cons_zero, List.set_cons_succ]
      have hoK := own_but hoK hb4 hg0
      have hbt := hbt.trans hb4
      refine wpAnyH_ready (rs := [2]) (by kernel_rfl) (by simp) ?_
      refine AllReadyH.cons (o := (⟨some 21, Op.convert 35 9 (Operand.tmp 20), 9, "fact.go:130", #[{ on := 1, ground := Ground.data }], none⟩)) rfl ?_ (AllReadyH.nil)
      · skip
        refine next_op (v := .string ⟨k.toArray⟩) (by kernel_rfl) (run_convert_op rfl (conv_bytes wy4 BK dK k (Rd.of_own hoK))) trivial (fun _ => ?_)
        simp only [Act.put, List.setIfInBounds_toArray, List.set_cons_zero, List.set_cons_succ]
        refine wpAnyH_take (i := 5) (oi := (⟨some 8, Op.assign (Operand.tmp 21), 9, "fact.go:130", #[{ on := 2, ground := Ground.data }, { on := 4, ground := Ground.chain }, { on := 0, ground := Ground.phase }, { on := 1, ground := Ground.phase }, { on := 2, ground := Ground.phase }, { on := 3, ground := Ground.textOnly Departure.lateStores }, { on := 4, ground := Ground.textOnly Departure.lateStoresUnsure }], none⟩)) (v := .string ⟨k.toArray⟩) rfl (by kernel_rfl) (by kernel_rfl) (by kernel_rfl) (fun _ _ _ h => h) (Or.inl ⟨by kernel_rfl, fun _ _ => by kernel_rfl⟩) trivial ?_
        simp only [Act.put, List.setIfInBounds_toArray, List.set_cons_zero, List.set_cons_succ]
        refine wpAnyH_take (i := 6) (oi := (⟨some 9, Op.assign (Operand.tmp 23), 69, "fact.go:130", #[{ on := 4, ground := Ground.data }, { on := 5, ground := Ground.chain }, { on := 0, ground := Ground.phase }, { on := 1, ground := Ground.phase }, { on := 2, ground := Ground.phase }, { on := 3, ground := Ground.phase }, { on := 4, ground := Ground.phase }, { on := 5, ground := Ground.phase }], none⟩)) (v := .int .u64 (s : Nat)) rfl (by kernel_rfl) (by kernel_rfl) (by kernel_rfl) (fun _ _ _ h => h) (Or.inl ⟨by kernel_rfl, fun _ _ => by kernel_rfl⟩) trivial ?_
        simp only [Act.put, List.setIfInBounds_toArray, List.set_cons_zero, List.set_cons_succ]
        refine wpAnyH_done (by kernel_rfl) ?_ _
        exact NoPanic.normal (hend wy4 _ _ _ _ _ _ _ hR hbt)
end Go.Proofs.Ytadgaphgomagkaa
/- A block's facts are read. -/
namespace Go.Proofs.Ytadgaphgomagkaa
open Go.RowKit
set_option maxHeartbeats 8000000
set_option maxRecDepth 100000

theorem fac1_eta (l : List UInt8) : ∃ f r b, fac1 l = (f, r, b) := ⟨_, _, _, rfl⟩
/-- where the loop stands: facts that were read, what is left -/
def facR (L : List FV) (lr : List UInt8) (bad : Bool) (R : List FV × Bool) : Prop :=
  if bad = true then R = (L, true) else ∃ n, lr.length ≤ n ∧ R = (L ++ (facN n lr).1, (facN n lr).2)
theorem facR_start (l : List UInt8) : facR [] l false (facP l) := by
  simp only [facR]
  exact ⟨l.length, Nat.le_refl _, rfl⟩
theorem facR_step {L : List FV} {lr r : List UInt8} {f : FV} {b : Bool} {R : List FV × Bool} (h : facR L lr false R) (hn : lr ≠ []) (hf : fac1 lr = (f, r, b)) : facR (L ++ [f]) r b R := by
  simp only [facR] at h ⊢
  obtain ⟨n, hl, rfl⟩ := h
  have hlt := fac1_less lr
  rw [hf] at hlt
  rcases n with _ | n
  · exact absurd (List.eq_nil_of_length_eq_zero (by omega)) hn
  · cases b with
    | true => simp [facN, hn, hf]
    | false =>
      have := hlt rfl
      simp only [Bool.false_eq_true, if_false]
      exact ⟨n, by simp only at this; omega, by simp [facN, hn, hf]⟩
theorem facR_end {L : List FV} {bad : Bool} {R : List FV × Bool} {lr : List UInt8} (h : facR L lr bad R) (he : lr = [] ∨ bad = true) : R = (L, bad) := by
  cases bad with
  | true => simpa [facR] using h
  | false =>
    obtain rfl : lr = [] := by simpa using he
    simp only [facR] at h
    obtain ⟨n, _, rfl⟩ := h
    cases n <;> simp [facN]
theorem regFacts4f {u0 u1 u2 u3 u6 u7 u8 u9 u10 u11 u12 u13 u14 u15 u16 u17 u18 u19 u20 u21 u22 u23 u24 u25 u26 u27 u28 u29 u30 u31 u32 u33 u34 u35 u36 u37 u38 u39 u40 u41 u42 u43 : Value} {DD : List Deferred} {Q : Exit → Act → World → Prop} {w : World} {g c oc : Nat} {A oA : Option Addr} {l r : List UInt8} {L : List FM} {b : Bool} {v : FV}
    (hR : RdrAt w.drew g A l c false) (hF : Facts w.drew (g + 1) oA oc L) (hl : l.length ≤ 1099511627776) (hL : L.length ≤ 1099511627776) (hf : fac1 l = (v, r, b))
    (hend : ∀ (w2 : World) (x22 x23 x24 x25 x26 x27 x28 x29 x30 x31 x32 : Value) (A' : Option Addr) (c' : Nat) (A2 : Option Addr) (c2 : Nat) (f : FM) (_ : f.fv = v) (_ : RdrAt w2 g A2 r c2 b)
      (_ : Facts w2 (g + 1) A' c' (L ++ [f])) (_ : Below g w w2), Q .normal ⟨#[u0, u1, u2, u3, .pointer (some ⟨g, 0, none⟩), .slice A' (L.length + 1) c', u6, u7, u8, u9, u10, u11, u12, u13, u14, u15, u16, u17, u18, u19, u20, u21, x22, x23, x24, x25, x26, x27, x28, x29, x30, x31, x32, u33, u34, u35, u36, u37, u38, u39, u40, u41, u42, u43], DD⟩ w2) :
    (Code.region 4 opsFacts4 true).wp Try.prog Q ⟨#[u0, u1, u2, u3, .pointer (some ⟨g, 0, none⟩), .slice oA L.length oc, u6, u7, u8, u9, u10, u11, u12, u13, u14, u15, u16, u17, u18, u19, u20, u21, u22, u23, u24, u25, u26, u27, u28, u29, u30, u31, u32, u33, u34, u35, u36, u37, u38, u39, u40, u41, u42, u43], DD⟩ w := by
  obtain ⟨rfl, rfl, rfl⟩ : (fac1 l).1 = v ∧ (fac1 l).2.1 = r ∧ (fac1 l).2.2 = b := by rw [hf]; exact ⟨rfl, rfl, rfl⟩
  refine regFacts4 hR hF hl hL rfl rfl rfl ?_
  intro w2 x22 x23 x24 x25 x26 x27 x28 x29 x30 x31 x32 A' c' A2 c2 f h1 h2 h3 h4
  exact hend w2 x22 x23 x24 x25 x26 x27 x28 x29 x30 x31 x32 A' c' A2 c2 f h1 h2 h3 h4
theorem RdrAt.drew {w : World} {g : Nat} {A : Option Addr} {l : List UInt8} {c : Nat} {bad : Bool} (h : RdrAt w g A l c bad) : RdrAt w.drew g A l c bad := ⟨h.blk, h.rd, h.cap, h.ap⟩
theorem Facts.drew {w : World} {B : Nat} {A : Option Addr} {c : Nat} {L : List FM} (h : Facts w B A c L) : Facts w.drew B A c L := ⟨h.own, fun f hf => ⟨(h.ok f hf).rd, (h.ok f hf).cap, (h.ok f hf).few, (h.ok f hf).seq, (h.ok f hf).key⟩, h.lo, h.ap⟩
def FactsPost (w : World) (R : List FV × Bool) (e : Ending) (w' : World) : Prop :=
  ∃ A' c' L, e = .returned (.tuple #[.slice A' L.length c', .bool (!R.2 && decide (0 < L.length))]) ∧ L.map FM.fv = R.1 ∧ Facts w' w.heap.size A' c' L ∧ Below w.heap.size w w'
theorem facts_any (A : Option Addr) (c n : Nat) (l : List UInt8) (w : World) (hr : Rd w A (byts l)) (hn : l.length = n) (hc : n ≤ c) (hl : n ≤ 1099511627776) (hA : ∀ ad, A = some ad → ad.block < w.heap.size) :
    Calls Try.prog 80 #[.slice A n c] w (FactsPost w (facP l)) := by
  subst hn
  have hst := facR_start l
  generalize facP l = R at *
  have hBn := Blk.new w 157 #[.slice A l.length c, .bool false]
  have hbn := (Below.refl w.heap.size w).alloc (Nat.le_refl _) (.cells #[.slice A l.length c, .bool false] 157)
  have hR0 : RdrAt _ w.heap.size A l c false := ⟨hBn, hr.below hbn, hc, hA⟩
  clear hBn hr
  go_enter Try.func80, Try.ntmps80
  go_wp2_with fail
  generalize w.alloc (.cells #[.slice A l.length c, .bool false] 157) = w1 at *
  generalize hg0 : w.heap.size = g at *
  have HG := Lib.hid hg0
  clear hg0
  go_loopg [5] (l.length + 1) (fun m s5 wr => ∃ (lr : List UInt8) (A1 : Option Addr) (c1 : Nat) (bad : Bool) (L : List FM) (oA : Option Addr) (oc : Nat), m = lr.length + (if bad = true then 0 else 1) ∧ s5 = .slice oA L.length oc ∧ RdrAt wr g A1 lr c1 bad ∧ Facts wr (g + 1) oA oc L ∧ Below g w wr ∧ facR (L.map FM.fv) lr bad R ∧ (bad = false → L.length + lr.length ≤ l.length) ∧ lr.length ≤ l.length)
  case atStart => exact ⟨l, A, c, false, [], none, 0, rfl, rfl, hR0, Facts.nil _ _, hbn, hst, by simp, Nat.le_refl _⟩
  case round =>
    clear hR0 hst hbn
    obtain ⟨lr, A1, c1, bad, L, oA, oc, rfl, rfl, hR, hF, hb, hrr, hlen, hlr⟩ := hrel
    have x0 := hR.blk.cell 0
    have x1 := hR.blk.cell 1
    by_cases hlt : lr = []
    · subst hlt
      obtain hE := facR_end hrr (.inl rfl)
      subst hE
      clear hrr hlen hlr
      have hb0 : 0 < L.length ∨ L.length = 0 := by omega
      cases bad with
      | true =>
        go_wp2_with fail
        go_ret2
        exact ⟨oA, oc, L, rfl, rfl, hF.mono (by rw [HG.out]; exact Nat.le_succ g), by rw [HG.out]; exact hb⟩
      | false =>
        have hd : decide ((0 : Int) < (L.length : Int)) = decide (0 < L.length) := by simp
        go_wp2_with fail
        go_ret2
        refine ⟨oA, oc, L, ?_, rfl, hF.mono (by rw [HG.out]; exact Nat.le_succ g), by rw [HG.out]; exact hb⟩
        simp
    · have d0 : (0 : Int) < (lr.length : Int) := by have := List.length_pos_iff.2 hlt; omega
      cases bad with
      | true =>
        obtain hE := facR_end hrr (.inr rfl)
        subst hE
        clear hrr hlen hlr hlt
        go_wp2_with fail
        go_ret2
        exact ⟨oA, oc, L, rfl, rfl, hF.mono (by rw [HG.out]; exact Nat.le_succ g), by rw [HG.out]; exact hb⟩
      | false =>
        obtain ⟨f, r, b, hf⟩ := fac1_eta lr
        have hrr := facR_step hrr hlt hf
        have hll := fac1_less lr
        have hll2 : r.length ≤ lr.length := by
          have : r = (fac1 lr).2.1 := by rw [hf]
          rw [this]
          simp only [fac1, List.length_drop]
          omega
        rw [hf] at hll
        simp only at hll
        have hlen := hlen rfl
        have hp := List.length_pos_iff.2 hlt
        clear hlt
        go_wp2_with fail
        refine regFacts4f hR.drew hF.drew (by omega) (by omega) hf ?_
        intro w2 _ _ _ _ _ _ _ _ _ _ _ A' c' A2 c2 f2 hfv hR2 hF2 hb2
        go_wp2_with fail
        go_roundg (r.length + (if b = true then 0 else 1))
        case measure =>
          cases b with
          | true => simp; omega
          | false => have := hll rfl; simp; omega
        case rel =>
          refine ⟨r, A2, c2, b, L ++ [f2], A', c', rfl, by rw [List.length_append]; rfl, hR2, hF2, hb.trans hb2, ?_, ?_, by omega⟩
          · rw [List.map_append, List.map_cons, List.map_nil, hfv]; exact hrr
          · intro e
            have := hll e
            rw [List.length_append]
            simp only [List.length_singleton]
            omega
end Go.Proofs.Ytadgaphgomagkaa
/- An index parts bytes into blocks. -/
namespace Go.Proofs.Ytadgaphgomagkaa
open Go.RowKit
set_option maxHeartbeats 8000000
set_option maxRecDepth 100000

theorem slPt : SlT Try.prog 125 131 (.agg #[.string ⟨#[]⟩, .slice none 0 0]) 2 40 := ⟨Try.underlying125, by kernel_rfl, rfl, by decide⟩
/-- a part in memory -/
structure PM where
  k : ByteArray
  A : Option Addr
  l : List UInt8
def PM.cells (f : PM) : List Value := [.string f.k, .slice f.A f.l.length f.l.length]
def PM.pv (f : PM) : List UInt8 × List UInt8 := (strB f.k, f.l)
def pcells (l : List PM) : List Value := l.flatMap PM.cells
theorem pcells_append (a b : List PM) : pcells (a ++ b) = pcells a ++ pcells b := by simp [pcells]
/-- what an index says at its front, what is left, whether something was bad -/
def par1 (l : List UInt8) : (List UInt8 × Nat) × List UInt8 × Bool :=
  (((rdBytes 1024 l).1, (rdNum (l.drop (rdBytes 1024 l).2.1)).1), (l.drop (rdBytes 1024 l).2.1).drop (rdNum (l.drop (rdBytes 1024 l).2.1)).2.1,
   decide ((rdBytes 1024 l).2.2 ≠ 0) || decide ((rdNum (l.drop (rdBytes 1024 l).2.1)).2.2 ≠ 0))
theorem par1_eta (l : List UInt8) : ∃ k s r b, par1 l = ((k, s), r, b) := ⟨_, _, _, _, rfl⟩
def parN : Nat → List UInt8 → List UInt8 → Option (List (List UInt8 × List UInt8))
  | 0, _, b => if b = [] then some [] else none
  | n + 1, ix, b => if ix = [] then (if b = [] then some [] else none) else if (par1 ix).2.2 = true ∨ b.length < (par1 ix).1.2 then none
    else (parN n (par1 ix).2.1 (b.drop (par1 ix).1.2)).map (((par1 ix).1.1, b.take (par1 ix).1.2) :: ·)
def parP (ix b : List UInt8) : Option (List (List UInt8 × List UInt8)) := parN ix.length ix b
theorem par1_less (l : List UInt8) (h : (par1 l).2.2 = false) : (par1 l).2.1.length < l.length := by
  simp only [par1, Bool.or_eq_false_iff, decide_eq_false_iff_not, Decidable.not_not] at h
  have hn := rdNum_ok h.2
  simp only [par1, List.length_drop] at hn ⊢
  omega
def parR (L : List (List UInt8 × List UInt8)) (ix b : List UInt8) (R : Option (List (List UInt8 × List UInt8))) : Prop :=
  ∃ n, ix.length ≤ n ∧ R = (parN n ix b).map (L ++ ·)
theorem parR_start (ix b : List UInt8) : parR [] ix b (parP ix b) := ⟨ix.length, Nat.le_refl _, by simp [parP]⟩
theorem parR_none {L : List (List UInt8 × List UInt8)} {ix b k r : List UInt8} {s : Nat} {bad : Bool} {R : Option (List (List UInt8 × List UInt8))} (h : parR L ix b R) (hn : ix ≠ []) (hf : par1 ix = ((k, s), r, bad)) (hb : bad = true ∨ b.length < s) : R = none := by
  obtain ⟨n, hl, rfl⟩ := h
  rcases n with _ | n
  · exact absurd (List.eq_nil_of_length_eq_zero (by omega)) hn
  · simp [parN, hn, hf, hb]
theorem parR_step {L : List (List UInt8 × List UInt8)} {ix b k r : List UInt8} {s : Nat} {R : Option (List (List UInt8 × List UInt8))} (h : parR L ix b R) (hn : ix ≠ []) (hf : par1 ix = ((k, s), r, false)) (hb : s ≤ b.length) : parR (L ++ [(k, b.take s)]) r (b.drop s) R := by
  obtain ⟨n, hl, rfl⟩ := h
  have hlt := par1_less ix
  rw [hf] at hlt
  have := hlt rfl
  rcases n with _ | n
  · exact absurd (List.eq_nil_of_length_eq_zero (by omega)) hn
  · refine ⟨n, by simp only at this; omega, ?_⟩
    have h2 : ¬ b.length < s := by omega
    simp [parN, hn, hf, h2, Option.map_map, Function.comp_def]
theorem parR_end {L : List (List UInt8 × List UInt8)} {b : List UInt8} {R : Option (List (List UInt8 × List UInt8))} (h : parR L [] b R) : R = if b = [] then some L else none := by
  obtain ⟨n, _, rfl⟩ := h
  cases n <;> simp only [parN, if_true] <;> split <;> simp
theorem regParts4f {u0 u1 u2 u3 u4 u5 u7 u8 u9 u10 u11 u12 u13 u14 u15 u16 u17 u18 u19 u20 u21 u22 u23 u24 u25 u26 u27 u28 u29 u30 u31 u32 u33 u34 u35 u36 u37 u38 u39 u40 u41 u42 u43 u44 u45 u46 u47 u48 u49 u50 : Value} {DD : List Deferred} {Q : Exit → Act → World → Prop} {w : World} {g c : Nat} {A : Option Addr} {l k r : List UInt8} {s : Nat} {b : Bool}
    (hR : RdrAt w.drew g A l c false) (hl : l.length ≤ 1099511627776) (hf : par1 l = ((k, s), r, b))
    (hend : ∀ (w2 : World) (x19 x20 x21 x22 x23 : Value) (A2 : Option Addr) (c2 : Nat) (_ : RdrAt w2 g A2 r c2 b) (_ : But g w w2), Q .normal ⟨#[u0, u1, u2, u3, u4, u5, .pointer (some ⟨g, 0, none⟩), u7, .string ⟨k.toArray⟩, .int .u64 (s : Nat), u10, u11, u12, u13, u14, u15, u16, u17, u18, x19, x20, x21, x22, x23, u24, u25, u26, u27, u28, u29, u30, u31, u32, u33, u34, u35, u36, u37, u38, u39, u40, u41, u42, u43, u44, u45, u46, u47, u48, u49, u50], DD⟩ w2) :
    (Code.region 4 opsParts4 true).wp Try.prog Q ⟨#[u0, u1, u2, u3, u4, u5, .pointer (some ⟨g, 0, none⟩), u7, u8, u9, u10, u11, u12, u13, u14, u15, u16, u17, u18, u19, u20, u21, u22, u23, u24, u25, u26, u27, u28, u29, u30, u31, u32, u33, u34, u35, u36, u37, u38, u39, u40, u41, u42, u43, u44, u45, u46, u47, u48, u49, u50], DD⟩ w := by
  obtain ⟨rfl, rfl, rfl, rfl⟩ : (par1 l).1.1 = k ∧ (par1 l).1.2 = s ∧ (par1 l).2.1 = r ∧ (par1 l).2.2 = b := by rw [hf]; exact ⟨rfl, rfl, rfl, rfl⟩
  refine regParts4 hR hl rfl rfl ?_
  intro w2 x19 x20 x21 x22 x23 A2 c2 h1 h2
  exact hend w2 x19 x20 x21 x22 x23 A2 c2 h1 h2
/-- parts that a call owns; their bytes lie below B -/
structure Parts (w : World) (B : Nat) (A : Option Addr) (c : Nat) (L : List PM) : Prop where
  own : w.ownsRow B 131 2 (.slice A L.length c) L.length (pcells L)
  rd : ∀ f ∈ L, Rd w f.A (byts f.l)
  lo : ∀ f ∈ L, ∀ ad, f.A = some ad → ad.block < B
theorem Parts.but {w w' : World} {B g : Nat} {A : Option Addr} {c : Nat} {L : List PM} (h : Parts w B A c L) (hb : But g w w') (hg : g < B) (hlo : ∀ f ∈ L, ∀ ad, f.A = some ad → ad.block < g) : Parts w' B A c L :=
  ⟨own_but h.own hb hg, fun f hf => (h.rd f hf).but hb fun ad e => Nat.ne_of_lt (hlo f hf ad e), h.lo⟩
theorem Parts.below {w w' : World} {B : Nat} {A : Option Addr} {c : Nat} {L : List PM} (h : Parts w B A c L) (hb : Below w.heap.size w w') : Parts w' B A c L := ⟨own_below h.own hb, fun f hf => (h.rd f hf).below hb, h.lo⟩
theorem Rd.under {w w' : World} {A : Option Addr} {xs : List Value} {B : Nat} (h : Rd w A xs) (hb : Below B w w') (hA : ∀ ad, A = some ad → ad.block < B) : Rd w' A xs := fun hn => by
  obtain ⟨ad, e, hlt, hc⟩ := h hn
  refine ⟨ad, e, Nat.lt_of_lt_of_le hlt hb.size, fun j u hu => ?_⟩
  rw [World.cell?_of_block (w := w) (hb.block _ (by rw [add_block]; exact hA ad e))]
  exact hc j u hu
theorem RdrAt.under {w w' : World} {g : Nat} {A : Option Addr} {l : List UInt8} {c : Nat} {bad : Bool} (h : RdrAt w g A l c bad) (hb : Below (g + 1) w w') : RdrAt w' g A l c bad :=
  ⟨h.blk.below hb (Nat.lt_succ_self g), h.rd.under hb fun ad e => Nat.lt_succ_of_lt (h.ap ad e), h.cap, h.ap⟩
def PartsPost (w : World) (R : Option (List (List UInt8 × List UInt8))) (e : Ending) (w' : World) : Prop :=
  Below w.heap.size w w' ∧ match R with
  | none => ∃ x, e = .returned (.tuple #[x, .bool false])
  | some X => ∃ A' c' L, e = .returned (.tuple #[.slice A' L.length c', .bool true]) ∧ L.map PM.pv = X ∧ w'.ownsRow w.heap.size 131 2 (.slice A' L.length c') L.length (pcells L) ∧ ∀ f ∈ L, Rd w' f.A (byts f.l) ∧ ∀ ad, f.A = some ad → ad.block < w.heap.size
theorem parts_any (A bA : Option Addr) (c bc : Nat) (l lb : List UInt8) (w : World) (hr : Rd w A (byts l)) (hc : l.length ≤ c) (hl : l.length ≤ 1099511627776) (hA : ∀ ad, A = some ad → ad.block < w.heap.size)
    (hbr : Rd w bA (byts lb)) (hbc : lb.length ≤ bc) (hbl : lb.length ≤ 1099511627776) (hbA : ∀ ad, bA = some ad → ad.block < w.heap.size) :
    Calls Try.prog 79 #[.slice A l.length c, .slice bA lb.length bc] w (PartsPost w (parP l lb)) := by
  have hst := parR_start l lb
  generalize parP l lb = R at *
  have hBn := Blk.new w 157 #[.slice A l.length c, .bool false]
  have hbn := (Below.refl w.heap.size w).alloc (Nat.le_refl _) (.cells #[.slice A l.length c, .bool false] 157)
  have hR0 : RdrAt _ w.heap.size A l c false := ⟨hBn, hr.below hbn, hc, hA⟩
  have hbr0 := hbr.below hbn
  clear hBn hr hbr
  go_enter Try.func79, Try.ntmps79
  go_wp2_with fail
  generalize w.alloc (.cells #[.slice A l.length c, .bool false] 157) = w1 at *
  generalize hg0 : w.heap.size = g at *
  have HG := Lib.hid hg0
  clear hg0
  go_loopg [1, 7, 8, 9] l.length (fun m s1 s7 s8 s9 wr => ∃ (lr : List UInt8) (A1 : Option Addr) (c1 : Nat) (L : List PM) (oA : Option Addr) (oc : Nat) (lb1 : List UInt8) (bA1 : Option Addr) (bc1 : Nat), m = lr.length ∧ s1 = .slice bA1 lb1.length bc1 ∧ s7 = .slice oA L.length oc ∧ RdrAt wr g A1 lr c1 false ∧
    wr.ownsRow (g + 1) 131 2 (.slice oA L.length oc) L.length (pcells L) ∧ (∀ f ∈ L, Rd wr f.A (byts f.l) ∧ ∀ ad, f.A = some ad → ad.block < g) ∧ Rd wr bA1 (byts lb1) ∧ lb1.length ≤ bc1 ∧ lb1.length ≤ 1099511627776 ∧ (∀ ad, bA1 = some ad → ad.block < g) ∧ Below g w wr ∧ parR (L.map PM.pv) lr lb1 R ∧ L.length + lr.length ≤ l.length)
  case atStart => exact ⟨l, A, c, [], none, 0, lb, bA, bc, rfl, rfl, rfl, hR0, World.ownsRow_nil _ _ _ _, by simp, hbr0, hbc, hbl, hbA, hbn, hst, by simp⟩
  case round =>
    clear hR0 hst hbn hbr0 hbc hbl hbA
    obtain ⟨lr, A1, c1, L, oA, oc, lb1, bA1, bc1, rfl, rfl, rfl, hR, hO, hE, hbr, hbc, hbl, hbA, hb, hrr, hlen⟩ := hrel
    have x0 := hR.blk.cell 0
    by_cases hlt : lr = []
    · subst hlt
      have hE2 := parR_end hrr
      clear hrr
      by_cases hl0 : lb1 = []
      · rw [if_pos hl0] at hE2
        subst hl0
        go_wp2_with fail
        go_ret2
        subst hE2
        refine ⟨by rw [HG.out]; exact hb, oA, oc, L, rfl, rfl, own_mono hO (by rw [HG.out]; exact Nat.le_succ g), by rw [HG.out]; exact hE⟩
      · rw [if_neg hl0] at hE2
        have k0 : ((lb1.length : Int) == 0) = false := by have := List.length_pos_iff.2 hl0; simp; omega
        clear hl0
        go_wp2_with fail
        go_ret2
        subst hE2
        exact ⟨by rw [HG.out]; exact hb, _, rfl⟩
    · have d0 : (0 : Int) < (lr.length : Int) := by have := List.length_pos_iff.2 hlt; omega
      obtain ⟨k, s, r, bad, hf⟩ := par1_eta lr
      have hrn := fun h => parR_none hrr hlt hf h
      have hrs := fun (h1 : bad = false) h2 => parR_step hrr hlt (show par1 lr = ((k, s), r, false) by rw [hf, h1]) h2
      have hll := par1_less lr
      rw [hf] at hll
      simp only at hll
      have hs64 : s < 18446744073709551616 := by
        have := rdNum_lt (lr.drop (rdBytes 1024 lr).2.1)
        rw [show s = (par1 lr).1.2 by rw [hf]]
        exact this
      have hg : g < wr.heap.size := hR.blk.lt
      go_wp2_with fail
      refine regParts4f hR.drew (by omega) hf ?_
      intro w2 _ _ _ _ _ A2 c2 hR2 hb2
      have hb2b := hb.trans (hb2.below_of (by omega))
      have hO2 := own_but hO hb2 (Nat.lt_succ_self g)
      have hE2 : ∀ f ∈ L, Rd w2 f.A (byts f.l) ∧ ∀ ad, f.A = some ad → ad.block < g := fun f hf => ⟨(hE f hf).1.but hb2 fun ad e => Nat.ne_of_lt ((hE f hf).2 ad e), (hE f hf).2⟩
      have hbr2 := hbr.but hb2 fun ad e => Nat.ne_of_lt (hbA ad e)
      have y0 := hR2.blk.cell 0
      have y1 := hR2.blk.cell 1
      have hg2 : g < w2.heap.size := hR2.blk.lt
      clear hR x0 hO hE hb hb2 hrr hbr d0 hlt hg
      cases bad with
      | true =>
        have hE3 := hrn (.inl rfl)
        clear hrn hrs
        go_wp2_with fail
        go_ret2
        subst hE3
        exact ⟨by rw [HG.out]; exact hb2b, _, rfl⟩
      | false =>
        replace hll := hll rfl
        by_cases hsl : s ≤ lb1.length
        · replace hrs := hrs rfl hsl
          have k1 : ¬ ((lb1.length : Int) < (s : Int)) := by omega
          have k2 : (s : Int) ≤ (lb1.length : Int) := by omega
          clear hrn
          have hlt2 : (lb1.take s).length = s := by rw [List.length_take]; omega
          have hld : (lb1.drop s).length = lb1.length - s := List.length_drop
          have hR3 := hR2.below ((Below.refl w2.heap.size w2).alloc (Nat.le_refl _) (.cells #[.string ⟨k.toArray⟩, .slice bA1 s s] 131))
          have hO3 := hO2.alloc (.cells #[.string ⟨k.toArray⟩, .slice bA1 s s] 131)
          have hb3 := hb2b.trans (((Below.refl w2.heap.size w2).alloc (Nat.le_refl _) (.cells #[.string ⟨k.toArray⟩, .slice bA1 s s] 131)).mono (Nat.le_of_lt hg2))
          have hE3 : ∀ f ∈ L, Rd (w2.alloc (.cells #[.string ⟨k.toArray⟩, .slice bA1 s s] 131)) f.A (byts f.l) ∧ ∀ ad, f.A = some ad → ad.block < g := fun f hf => ⟨(hE2 f hf).1.alloc _, (hE2 f hf).2⟩
          have hbr3 := hbr2.alloc (.cells #[.string ⟨k.toArray⟩, .slice bA1 s s] 131)
          clear hR2 hO2 hb2b hE2 hbr2 y0
          replace hll := Lib.hid hll
          replace hrs := Lib.hid hrs
          go_wp2_with (at_builtin; refine wpList_app _ rfl _ _ rfl slPt (g + 1) (.slice oA L.length oc) L.length (pcells L) rfl hO3 _ 1 1 [.string ⟨k.toArray⟩, .slice bA1 s s] rfl rfl (Rd.many _ _ _) (by simp [Value.oneCell']) (by unfold maxLen; omega) (by omega) (by simp; omega) ?_; intro A4 c4 w4 ho4 hg4)
          all_goals
            have hu4 : Below (g + 1) _ w4 := hg4.under hO3 (Nat.le_refl _) (by simp; omega)
            have hb4 := hb3.trans (hu4.mono (Nat.le_succ g))
            have hR4 := hR3.under hu4
            have hE4 : ∀ f ∈ L ++ [(⟨⟨k.toArray⟩, bA1, lb1.take s⟩ : PM)], Rd w4 f.A (byts f.l) ∧ ∀ ad, f.A = some ad → ad.block < g := by
              intro f hf
              rcases List.mem_append.1 hf with h1 | h1
              · exact ⟨(hE3 f h1).1.under hu4 fun ad e => Nat.lt_succ_of_lt ((hE3 f h1).2 ad e), (hE3 f h1).2⟩
              · rw [List.mem_singleton.1 h1]
                refine ⟨?_, hbA⟩
                have := (hbr3.under hu4 fun ad e => Nat.lt_succ_of_lt (hbA ad e)).take s
                simpa [byts, List.map_take] using this
            have hbr4 := (hbr3.under hu4 fun ad e => Nat.lt_succ_of_lt (hbA ad e)).drop s bc1 (by rw [byts_length]; exact hbc)
            rw [show (byts lb1).drop s = byts (lb1.drop s) by simp [byts]] at hbr4
            have hpc : pcells (L ++ [(⟨⟨k.toArray⟩, bA1, lb1.take s⟩ : PM)]) = pcells L ++ [.string ⟨k.toArray⟩, .slice bA1 s s] := by
              rw [pcells_append]
              simp only [pcells, List.flatMap_cons, List.flatMap_nil, PM.cells, hlt2, List.append_nil]
            have hO5 : w4.ownsRow (g + 1) 131 2 (.slice A4 (L ++ [(⟨⟨k.toArray⟩, bA1, lb1.take s⟩ : PM)]).length c4) (L ++ [(⟨⟨k.toArray⟩, bA1, lb1.take s⟩ : PM)]).length (pcells (L ++ [(⟨⟨k.toArray⟩, bA1, lb1.take s⟩ : PM)])) := by
              rw [hpc, List.length_append]
              exact ho4
            have hl5 : (L ++ [(⟨⟨k.toArray⟩, bA1, lb1.take s⟩ : PM)]).length = L.length + 1 := by simp
            have hrs := hrs.out
            have hll := hll.out
            have hmap : (L ++ [(⟨⟨k.toArray⟩, bA1, lb1.take s⟩ : PM)]).map PM.pv = L.map PM.pv ++ [(k, lb1.take s)] := by
              simp [PM.pv, strB]
            rw [← hmap] at hrs
            generalize L ++ [(⟨⟨k.toArray⟩, bA1, lb1.take s⟩ : PM)] = L5 at *
            clear hR3 hO3 hb3 hE3 hbr3 hu4 hg4 hpc ho4 hmap
          · have h0 : lb1.length - s = 0 := by omega
            have h1 : lb1.drop s = [] := List.drop_eq_nil_of_le (by omega)
            rw [h1] at hbr4 hrs
            go_roundg r.length
            case measure => exact hll
            case rel =>
              exact ⟨r, A2, c2, L5, A4, c4, [], bA1, 0, rfl, by rw [h0]; rfl, by rw [hl5], hR4, hO5, hE4, fun h => absurd rfl h, Nat.le_refl _, by simp, hbA, hb4, hrs, by omega⟩
          · have hne : ¬ bc1 = s := by assumption
            rw [if_neg hne] at hbr4
            go_roundg r.length
            case measure => exact hll
            case rel =>
              refine ⟨r, A2, c2, L5, A4, c4, lb1.drop s, Option.map (fun x => x.add s) bA1, bc1 - s, rfl, by rw [hld], by rw [hl5], hR4, hO5, hE4, hbr4, by omega, by omega, fun ad e => ?_, hb4, hrs, by omega⟩
              cases bA1 with
              | none => simp at e
              | some a =>
                simp at e
                subst e
                rw [add_block]
                exact hbA a rfl
        · have hE3 := hrn (.inr (by omega))
          have k1 : ((lb1.length : Int) < (s : Int)) := by omega
          clear hrn hrs
          go_wp2_with fail
          go_ret2
          subst hE3
          exact ⟨by rw [HG.out]; exact hb2b, _, rfl⟩
end Go.Proofs.Ytadgaphgomagkaa
