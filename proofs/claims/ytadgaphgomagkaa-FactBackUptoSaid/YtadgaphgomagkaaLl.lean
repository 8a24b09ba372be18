/- The reference's facts: the statement that draws its order. PRINTED by tools/regs_l.py. -/
import Derived.Test.YtadgaphgomagkaaLk
namespace Go.Proofs.Ytadgaphgomagkaa
open Go.RowKit
set_option maxHeartbeats 8000000
set_option maxRecDepth 100000
def opsRfacts15 : Array Oper := #[{ dst := some 46, op := Op.move (Operand.tmp 4), type := 56, pos := "ref.go:184", after := #[], guard := none }, { dst := some 47, op := Op.move (Operand.tmp 5), type := 35, pos := "ref.go:184", after := #[], guard := none }, { dst := some 48, op := Op.convert 35 9 (Operand.tmp 47), type := 9, pos := "ref.go:184", after := #[{ on := 1, ground := Ground.data }], guard := none }, { dst := some 49, op := Op.move (Operand.tmp 8), type := 69, pos := "ref.go:184", after := #[], guard := none }, { dst := some 50, op := Op.buildSlice 35 0 #[], type := 35, pos := "ref.go:184", after := #[], guard := none }, { dst := some 51, op := Op.move (Operand.tmp 9), type := 35, pos := "ref.go:184", after := #[], guard := none }, { dst := some 52, op := Op.call { callee := Callee.builtin Builtin.append, args := #[Operand.tmp 50, Operand.tmp 51], argTypes := #[35, 35] }, type := 35, pos := "ref.go:184", after := #[{ on := 4, ground := Ground.data }, { on := 5, ground := Ground.data }], guard := none }, { dst := some 53, op := Op.build 71 #[(0, Operand.tmp 48), (1, Operand.tmp 49), (2, Operand.tmp 52)], type := 71, pos := "ref.go:184", after := #[{ on := 2, ground := Ground.data }, { on := 3, ground := Ground.data }, { on := 6, ground := Ground.data }], guard := none }, { dst := some 54, op := Op.buildSlice 56 1 #[(0, Operand.tmp 53)], type := 56, pos := "ref.go:184", after := #[{ on := 7, ground := Ground.data }], guard := none }, { dst := some 55, op := Op.call { callee := Callee.builtin Builtin.append, args := #[Operand.tmp 46, Operand.tmp 54], argTypes := #[56, 56] }, type := 56, pos := "ref.go:184", after := #[{ on := 0, ground := Ground.data }, { on := 8, ground := Ground.data }, { on := 6, ground := Ground.chain }], guard := none }, { dst := some 4, op := Op.assign (Operand.tmp 55), type := 56, pos := "ref.go:184", after := #[{ on := 9, ground := Ground.data }, { on := 9, ground := Ground.chain }, { on := 0, ground := Ground.phase }, { on := 1, ground := Ground.phase }, { on := 2, ground := Ground.phase }, { on := 3, ground := Ground.phase }, { on := 4, ground := Ground.phase }, { on := 5, ground := Ground.phase }, { on := 6, ground := Ground.phase }, { on := 7, ground := Ground.phase }, { on := 8, ground := Ground.phase }, { on := 9, ground := Ground.phase }], guard := none }]
theorem regRfacts15 {u0 u1 u2 u3 u6 u7 u10 u11 u12 u13 u14 u15 u16 u17 u18 u19 u20 u21 u22 u23 u24 u25 u26 u27 u28 u29 u30 u31 u32 u33 u34 u35 u36 u37 u38 u39 u40 u41 u42 u43 u44 u45 u46 u47 u48 u49 u50 u51 u52 u53 u54 u55 u56 u57 u58 u59 : Value} {DD : List Deferred} {Q : Exit → Act → World → Prop} {w : World} {B oc kc vc s : Nat} {oA kA vA : Option Addr} {k v : List UInt8} {L : List FM} (hF : Facts w.drew B oA oc L) (hB : B ≤ w.drew.heap.size) (hk : Rd w.drew kA (byts k)) (hv : Rd w.drew vA (byts v)) (hL : L.length ≤ 1099511627776) (hk1 : (⟨k.toArray⟩ : ByteArray).size ≤ 1048576) (hs1 : s < 18446744073709551616) (hv1 : v.length ≤ 1048576)
    (hend : ∀ (w2 : World) (x46 x47 x48 x49 x50 x51 x52 x53 x54 x55 : Value) (A' : Option Addr) (c' : Nat) (f : FM) (_ : f.fv = ⟨k, s, v⟩) (_ : Facts w2 B A' c' (L ++ [f])) (_ : Below B w w2), Q .normal ⟨#[u0, u1, u2, u3, .slice A' (L.length + 1) c', .slice kA k.length kc, u6, u7, .int .u64 (s : Nat), .slice vA v.length vc, u10, u11, u12, u13, u14, u15, u16, u17, u18, u19, u20, u21, u22, u23, u24, u25, u26, u27, u28, u29, u30, u31, u32, u33, u34, u35, u36, u37, u38, u39, u40, u41, u42, u43, u44, u45, x46, x47, x48, x49, x50, x51, x52, x53, x54, x55, u56, u57, u58, u59], DD⟩ w2) :
    (Code.region 15 opsRfacts15 true).wp Try.prog Q ⟨#[u0, u1, u2, u3, .slice oA L.length oc, .slice kA k.length kc, u6, u7, .int .u64 (s : Nat), .slice vA v.length vc, u10, u11, u12, u13, u14, u15, u16, u17, u18, u19, u20, u21, u22, u23, u24, u25, u26, u27, u28, u29, u30, u31, u32, u33, u34, u35, u36, u37, u38, u39, u40, u41, u42, u43, u44, u45, u46, u47, u48, u49, u50, u51, u52, u53, u54, u55, u56, u57, u58, u59], DD⟩ w := by
  have hF0 := hF
  have hb00 : Below B w w.drew := ⟨rfl, rfl, rfl, Nat.le_refl _, fun _ _ => rfl⟩
  have hbt := Below.refl w.drew.heap.size w.drew
  refine wp_region_noPanic ?_
  refine wp_region_held_drew (S := fun _ => True) (by kernel_rfl) trivial (fun _ => ?_)
  refine wpAnyH_take (i := 0) (oi := (⟨some 46, Op.move (Operand.tmp 4), 56, "ref.go:184", #[], none⟩)) (v := .slice oA L.length oc) rfl (by kernel_rfl) (by kernel_rfl) (by kernel_rfl) (fun _ _ _ h => h) (Or.inl ⟨by kernel_rfl, fun _ _ => by kernel_rfl⟩) trivial ?_
  simp only [Act.put, List.setIfInBounds_toArray, List.set_cons_zero, List.set_cons_succ]
  refine wpAnyH_take (i := 1) (oi := (⟨some 47, Op.move (Operand.tmp 5), 35, "ref.go:184", #[], none⟩)) (v := .slice kA k.length kc) rfl (by kernel_rfl) (by kernel_rfl) (by kernel_rfl) (fun _ _ _ h => h) (Or.inl ⟨by kernel_rfl, fun _ _ => by kernel_rfl⟩) trivial ?_
  simp only [Act.put, List.setIfInBounds_toArray, List.set_cons_zero, List.set_cons_succ]
  refine wpAnyH_take (i := 3) (oi := (⟨some 49, Op.move (Operand.tmp 8), 69, "ref.go:184", #[], none⟩)) (v := .int .u64 (s : Nat)) rfl (by kernel_rfl) (by kernel_rfl) (by kernel_rfl) (fun _ _ _ h => h) (Or.inl ⟨by kernel_rfl, fun _ _ => by kernel_rfl⟩) trivial ?_
  simp only [Act.put, List.setIfInBounds_toArray, List.set_cons_zero, List.set_cons_succ]
  refine wpAnyH_take (i := 5) (oi := (⟨some 51, Op.move (Operand.tmp 9), 35, "ref.go:184", #[], none⟩)) (v := .slice vA v.length vc) rfl (by kernel_rfl) (by kernel_rfl) (by kernel_rfl) (fun _ _ _ h => h) (Or.inl ⟨by kernel_rfl, fun _ _ => by kernel_rfl⟩) trivial ?_
  simp only [Act.put, List.setIfInBounds_toArray, List.set_cons_zero, List.set_cons_succ]
  refine wpAnyH_ready (rs := [2, 4]) (by kernel_rfl) (by simp) ?_
  refine AllReadyH.cons (o := (⟨some 48, Op.convert 35 9 (Operand.tmp 47), 9, "ref.go:184", #[{ on := 1, ground := Ground.data }], none⟩)) rfl ?_ (AllReadyH.cons (o := (⟨some 50, Op.buildSlice 35 0 #[], 35, "ref.go:184", #[], none⟩)) rfl ?_ (AllReadyH.nil))
  · skip
    refine next_op (v := .string ⟨k.toArray⟩) (by kernel_rfl) (run_convert_op rfl (conv_bytes w.drew kA kc k (hk.below hbt))) trivial (fun _ => ?_)
    simp only [Act.put, List.setIfInBounds_toArray, List.set_cons_zero, List.set_cons_succ]
    refine wpAnyH_ready (rs := [4]) (by kernel_rfl) (by simp) ?_
    refine AllReadyH.cons (o := (⟨some 50, Op.buildSlice 35 0 #[], 35, "ref.go:184", #[], none⟩)) rfl ?_ (AllReadyH.nil)
    · skip
      have hbq := (Below.refl (w.drew).heap.size (w.drew)).alloc (Nat.le_refl _) (.cells #[] 5)
      refine next_op (v := .slice (some ⟨w.drew.heap.size, 0, none⟩) 0 0) (by kernel_rfl) (run_buildSlice0_op Try.underlying35 (by kernel_rfl)) trivial (fun _ => ?_)
      simp only [Act.put, List.setIfInBounds_toArray, List.set_cons_zero, List.set_cons_succ]
      have hoZ : World.ownsRow ((w.drew).alloc (.cells #[] 5)) w.drew.heap.size 5 1 (.slice (some ⟨_, 0, none⟩) 0 0) 0 [] := own_mono (World.ownsRow_made (w.drew) #[] 0 (Nat.le_refl _) (by unfold maxLen; omega) rfl) hbt.size
      have hbt := hbt.trans (hbq.mono hbt.size)
      refine wpAnyH_ready (rs := [6]) (by kernel_rfl) (by simp) ?_
      refine AllReadyH.cons (o := (⟨some 52, Op.call { callee := Callee.builtin Builtin.append, args := #[Operand.tmp 50, Operand.tmp 51], argTypes := #[35, 35] }, 35, "ref.go:184", #[{ on := 4, ground := Ground.data }, { on := 5, ground := Ground.data }], none⟩)) rfl ?_ (AllReadyH.nil)
      · skip
        obtain ⟨AV, cV, wV, hrunV, hoV, hgV⟩ := run_app (P := Try.prog) ((w.drew).alloc (.cells #[] 5)) slB 35 w.drew.heap.size _ 0 [] hoZ vA v.length vc (byts v) (by rw [byts_length, Nat.mul_one]) (hv.below hbt) (byts_one v) (by unfold maxLen; omega) (by omega) hbt.size
        simp only [Nat.zero_add, List.nil_append] at hrunV hoV hgV
        refine next_op (v := .slice AV v.length cV) (by kernel_rfl) (run_app_op rfl rfl hrunV) trivial (fun _ => ?_)
        simp only [Act.put, List.setIfInBounds_toArray, List.set_cons_zero, List.set_cons_succ]
        have hbt := hbt.trans (hgV.toBelow hbt.size fun g e => (hoZ.lt g e).1)
        refine wpAnyH_take (i := 7) (oi := (⟨some 53, Op.build 71 #[(0, Operand.tmp 48), (1, Operand.tmp 49), (2, Operand.tmp 52)], 71, "ref.go:184", #[{ on := 2, ground := Ground.data }, { on := 3, ground := Ground.data }, { on := 6, ground := Ground.data }], none⟩)) (v := .agg #[.string ⟨k.toArray⟩, .int .u64 (s : Nat), .slice AV v.length cV]) rfl (by kernel_rfl) (by kernel_rfl) (by kernel_rfl) (fun _ _ _ h => h) (Or.inl ⟨by kernel_rfl, fun _ _ => by kernel_rfl⟩) trivial ?_
        simp only [Act.put, List.setIfInBounds_toArray, List.set_cons_zero, List.set_cons_succ]
        refine wpAnyH_ready (rs := [8]) (by kernel_rfl) (by simp) ?_
        refine AllReadyH.cons (o := (⟨some 54, Op.buildSlice 56 1 #[(0, Operand.tmp 53)], 56, "ref.go:184", #[{ on := 7, ground := Ground.data }], none⟩)) rfl ?_ (AllReadyH.nil)
        · skip
          have hbq := (Below.refl (wV).heap.size (wV)).alloc (Nat.le_refl _) (.cells #[.string ⟨k.toArray⟩, .int .u64 (s : Nat), .slice AV v.length cV] 71)
          refine next_op (v := .slice (some ⟨wV.heap.size, 0, none⟩) 1 1) (by kernel_rfl) (run_buildSlice_op (size := 3) #[.string ⟨k.toArray⟩, .int .u64 (s : Nat), .slice AV v.length cV] (.agg #[.string ⟨#[]⟩, .int .u64 0, .slice none 0 0]) Try.underlying56 (by kernel_rfl) (by decide) (by decide) (by kernel_rfl)) trivial (fun _ => ?_)
          simp only [Act.put, List.setIfInBounds_toArray, List.set_cons_zero, List.set_cons_succ]
          have hrn := Rd.many (wV) [.string ⟨k.toArray⟩, .int .u64 (s : Nat), .slice AV v.length cV] 71
          have hoV := own_below hoV hbq
          have hbt := hbt.trans (hbq.mono hbt.size)
          refine wpAnyH_ready (rs := [9]) (by kernel_rfl) (by simp) ?_
          refine AllReadyH.cons (o := (⟨some 55, Op.call { callee := Callee.builtin Builtin.append, args := #[Operand.tmp 46, Operand.tmp 54], argTypes := #[56, 56] }, 56, "ref.go:184", #[{ on := 0, ground := Ground.data }, { on := 8, ground := Ground.data }, { on := 6, ground := Ground.chain }], none⟩)) rfl ?_ (AllReadyH.nil)
          · skip
            have hF := hF.below hbt
            obtain ⟨A', c', wA, hrun, hoA, hgA⟩ := run_app (P := Try.prog) ((wV).alloc (.cells #[.string ⟨k.toArray⟩, .int .u64 (s : Nat), .slice AV v.length cV] 71)) slF 56 B (.slice oA L.length oc) L.length (fcells L) hF.own _ 1 1 [.string ⟨k.toArray⟩, .int .u64 (s : Nat), .slice AV v.length cV] rfl hrn (by simp [Value.oneCell']) (by unfold maxLen; omega) (by omega) (Nat.le_trans hB hbt.size)
            refine next_op (v := .slice A' (L.length + 1) c') (by kernel_rfl) (run_app_op rfl rfl hrun) trivial (fun _ => ?_)
            simp only [Act.put, List.setIfInBounds_toArray, List.set_cons_zero, List.set_cons_succ]
            have hBB : Below B w wA := (hb00.trans (hbt.mono hB)).trans (hgA.under hF.own (Nat.le_refl _) (Nat.le_trans hB hbt.size))
            have hF := hF.app (M := [⟨⟨k.toArray⟩, s, AV, cV, v⟩]) (fun f hf => by rw [List.mem_singleton.1 hf]; exact ⟨Rd.of_own hoV, (own_cap hoV).1, hv1, hs1, hk1⟩) (fun f hf ad e => by rw [List.mem_singleton.1 hf] at e; have := (own_cap hoV).2.2 ad e; exact ⟨Nat.le_trans hB this.1, this.2⟩) (fun f hf ad e e2 => by rw [List.mem_singleton.1 hf] at e; have h1 := (hF0.own.lt _ e2).2; have h2 := ((own_cap hoV).2.2 ad e).1; omega) hoA hgA
            refine wpAnyH_take (i := 10) (oi := (⟨some 4, Op.assign (Operand.tmp 55), 56, "ref.go:184", #[{ on := 9, ground := Ground.data }, { on := 9, ground := Ground.chain }, { on := 0, ground := Ground.phase }, { on := 1, ground := Ground.phase }, { on := 2, ground := Ground.phase }, { on := 3, ground := Ground.phase }, { on := 4, ground := Ground.phase }, { on := 5, ground := Ground.phase }, { on := 6, ground := Ground.phase }, { on := 7, ground := Ground.phase }, { on := 8, ground := Ground.phase }, { on := 9, ground := Ground.phase }], none⟩)) (v := .slice A' (L.length + 1) c') rfl (by kernel_rfl) (by kernel_rfl) (by kernel_rfl) (fun _ _ _ h => h) (Or.inl ⟨by kernel_rfl, fun _ _ => by kernel_rfl⟩) trivial ?_
            simp only [Act.put, List.setIfInBounds_toArray, List.set_cons_zero, List.set_cons_succ]
            refine wpAnyH_done (by kernel_rfl) ?_ _
            exact NoPanic.normal (hend wA _ _ _ _ _ _ _ _ _ _ _ _ _ rfl hF hBB)
  · skip
    have hbq := (Below.refl (w.drew).heap.size (w.drew)).alloc (Nat.le_refl _) (.cells #[] 5)
    refine next_op (v := .slice (some ⟨w.drew.heap.size, 0, none⟩) 0 0) (by kernel_rfl) (run_buildSlice0_op Try.underlying35 (by kernel_rfl)) trivial (fun _ => ?_)
    simp only [Act.put, List.setIfInBounds_toArray, List.set_cons_zero, List.set_cons_succ]
    have hoZ : World.ownsRow ((w.drew).alloc (.cells #[] 5)) w.drew.heap.size 5 1 (.slice (some ⟨_, 0, none⟩) 0 0) 0 [] := own_mono (World.ownsRow_made (w.drew) #[] 0 (Nat.le_refl _) (by unfold maxLen; omega) rfl) hbt.size
    have hbt := hbt.trans (hbq.mono hbt.size)
    refine wpAnyH_ready (rs := [2, 6]) (by kernel_rfl) (by simp) ?_
    refine AllReadyH.cons (o := (⟨some 48, Op.convert 35 9 (Operand.tmp 47), 9, "ref.go:184", #[{ on := 1, ground := Ground.data }], none⟩)) rfl ?_ (AllReadyH.cons (o := (⟨some 52, Op.call { callee := Callee.builtin Builtin.append, args := #[Operand.tmp 50, Operand.tmp 51], argTypes := #[35, 35] }, 35, "ref.go:184", #[{ on := 4, ground := Ground.data }, { on := 5, ground := Ground.data }], none⟩)) rfl ?_ (AllReadyH.nil))
    · skip
      refine next_op (v := .string ⟨k.toArray⟩) (by kernel_rfl) (run_convert_op rfl (conv_bytes ((w.drew).alloc (.cells #[] 5)) kA kc k (hk.below hbt))) trivial (fun _ => ?_)
      simp only [Act.put, List.setIfInBounds_toArray, List.set_cons_zero, List.set_cons_succ]
      refine wpAnyH_ready (rs := [6]) (by kernel_rfl) (by simp) ?_
      refine AllReadyH.cons (o := (⟨some 52, Op.call { callee := Callee.builtin Builtin.append, args := #[Operand.tmp 50, Operand.tmp 51], argTypes := #[35, 35] }, 35, "ref.go:184", #[{ on := 4, ground := Ground.data }, { on := 5, ground := Ground.data }], none⟩)) rfl ?_ (AllReadyH.nil)
      · skip
        obtain ⟨AV, cV, wV, hrunV, hoV, hgV⟩ := run_app (P := Try.prog) ((w.drew).alloc (.cells #[] 5)) slB 35 w.drew.heap.size _ 0 [] hoZ vA v.length vc (byts v) (by rw [byts_length, Nat.mul_one]) (hv.below hbt) (byts_one v) (by unfold maxLen; omega) (by omega) hbt.size
        simp only [Nat.zero_add, List.nil_append] at hrunV hoV hgV
        refine next_op (v := .slice AV v.length cV) (by kernel_rfl) (run_app_op rfl rfl hrunV) trivial (fun _ => ?_)
        simp only [Act.put, List.setIfInBounds_toArray, List.set_cons_zero, List.set_cons_succ]
        have hbt := hbt.trans (hgV.toBelow hbt.size fun g e => (hoZ.lt g e).1)
        refine wpAnyH_take (i := 7) (oi := (⟨some 53, Op.build 71 #[(0, Operand.tmp 48), (1, Operand.tmp 49), (2, Operand.tmp 52)], 71, "ref.go:184", #[{ on := 2, ground := Ground.data }, { on := 3, ground := Ground.data }, { on := 6, ground := Ground.data }], none⟩)) (v := .agg #[.string ⟨k.toArray⟩, .int .u64 (s : Nat), .slice AV v.length cV]) rfl (by kernel_rfl) (by kernel_rfl) (by kernel_rfl) (fun _ _ _ h => h) (Or.inl ⟨by kernel_rfl, fun _ _ => by kernel_rfl⟩) trivial ?_
        simp only [Act.put, List.setIfInBounds_toArray, List.set_cons_zero, List.set_cons_succ]
        refine wpAnyH_ready (rs := [8]) (by kernel_rfl) (by simp) ?_
        refine AllReadyH.cons (o := (⟨some 54, Op.buildSlice 56 1 #[(0, Operand.tmp 53)], 56, "ref.go:184", #[{ on := 7, ground := Ground.data }], none⟩)) rfl ?_ (AllReadyH.nil)
        · skip
          have hbq := (Below.refl (wV).heap.size (wV)).alloc (Nat.le_refl _) (.cells #[.string ⟨k.toArray⟩, .int .u64 (s : Nat), .slice AV v.length cV] 71)
          refine next_op (v := .slice (some ⟨wV.heap.size, 0, none⟩) 1 1) (by kernel_rfl) (run_buildSlice_op (size := 3) #[.string ⟨k.toArray⟩, .int .u64 (s : Nat), .slice AV v.length cV] (.agg #[.string ⟨#[]⟩, .int .u64 0, .slice none 0 0]) Try.underlying56 (by kernel_rfl) (by decide) (by decide) (by kernel_rfl)) trivial (fun _ => ?_)
          simp only [Act.put, List.setIfInBounds_toArray, List.set_cons_zero, List.set_cons_succ]
          have hrn := Rd.many (wV) [.string ⟨k.toArray⟩, .int .u64 (s : Nat), .slice AV v.length cV] 71
          have hoV := own_below hoV hbq
          have hbt := hbt.trans (hbq.mono hbt.size)
          refine wpAnyH_ready (rs := [9]) (by kernel_rfl) (by simp) ?_
          refine AllReadyH.cons (o := (⟨some 55, Op.call { callee := Callee.builtin Builtin.append, args := #[Operand.tmp 46, Operand.tmp 54], argTypes := #[56, 56] }, 56, "ref.go:184", #[{ on := 0, ground := Ground.data }, { on := 8, ground := Ground.data }, { on := 6, ground := Ground.chain }], none⟩)) rfl ?_ (AllReadyH.nil)
          · skip
            have hF := hF.below hbt
            obtain ⟨A', c', wA, hrun, hoA, hgA⟩ := run_app (P := Try.prog) ((wV).alloc (.cells #[.string ⟨k.toArray⟩, .int .u64 (s : Nat), .slice AV v.length cV] 71)) slF 56 B (.slice oA L.length oc) L.length (fcells L) hF.own _ 1 1 [.string ⟨k.toArray⟩, .int .u64 (s : Nat), .slice AV v.length cV] rfl hrn (by simp [Value.oneCell']) (by unfold maxLen; omega) (by omega) (Nat.le_trans hB hbt.size)
            refine next_op (v := .slice A' (L.length + 1) c') (by kernel_rfl) (run_app_op rfl rfl hrun) trivial (fun _ => ?_)
            simp only [Act.put, List.setIfInBounds_toArray, List.set_cons_zero, List.set_cons_succ]
            have hBB : Below B w wA := (hb00.trans (hbt.mono hB)).trans (hgA.under hF.own (Nat.le_refl _) (Nat.le_trans hB hbt.size))
            have hF := hF.app (M := [⟨⟨k.toArray⟩, s, AV, cV, v⟩]) (fun f hf => by rw [List.mem_singleton.1 hf]; exact ⟨Rd.of_own hoV, (own_cap hoV).1, hv1, hs1, hk1⟩) (fun f hf ad e => by rw [List.mem_singleton.1 hf] at e; have := (own_cap hoV).2.2 ad e; exact ⟨Nat.le_trans hB this.1, this.2⟩) (fun f hf ad e e2 => by rw [List.mem_singleton.1 hf] at e; have h1 := (hF0.own.lt _ e2).2; have h2 := ((own_cap hoV).2.2 ad e).1; omega) hoA hgA
            refine wpAnyH_take (i := 10) (oi := (⟨some 4, Op.assign (Operand.tmp 55), 56, "ref.go:184", #[{ on := 9, ground := Ground.data }, { on := 9, ground := Ground.chain }, { on := 0, ground := Ground.phase }, { on := 1, ground := Ground.phase }, { on := 2, ground := Ground.phase }, { on := 3, ground := Ground.phase }, { on := 4, ground := Ground.phase }, { on := 5, ground := Ground.phase }, { on := 6, ground := Ground.phase }, { on := 7, ground := Ground.phase }, { on := 8, ground := Ground.phase }, { on := 9, ground := Ground.phase }], none⟩)) (v := .slice A' (L.length + 1) c') rfl (by kernel_rfl) (by kernel_rfl) (by kernel_rfl) (fun _ _ _ h => h) (Or.inl ⟨by kernel_rfl, fun _ _ => by kernel_rfl⟩) trivial ?_
            simp only [Act.put, List.setIfInBounds_toArray, List.set_cons_zero, List.set_cons_succ]
            refine wpAnyH_done (by kernel_rfl) ?_ _
            exact NoPanic.normal (hend wA _ _ _ _ _ _ _ _ _ _ _ _ _ rfl hF hBB)
    · skip
      obtain ⟨AV, cV, wV, hrunV, hoV, hgV⟩ := run_app (P := Try.prog) ((w.drew).alloc (.cells #[] 5)) slB 35 w.drew.heap.size _ 0 [] hoZ vA v.length vc (byts v) (by rw [byts_length, Nat.mul_one]) (hv.below hbt) (byts_one v) (by unfold maxLen; omega) (by omega) hbt.size
      simp only [Nat.zero_add, List.nil_append] at hrunV hoV hgV
      refine next_op (v := .slice AV v.length cV) (by kernel_rfl) (run_app_op rfl rfl hrunV) trivial (fun _ => ?_)
      simp only [Act.put, List.setIfInBounds_toArray, List.set_cons_zero, List.set_cons_succ]
      have hbt := hbt.trans (hgV.toBelow hbt.size fun g e => (hoZ.lt g e).1)
      refine wpAnyH_ready (rs := [2]) (by kernel_rfl) (by simp) ?_
      refine AllReadyH.cons (o := (⟨some 48, Op.convert 35 9 (Operand.tmp 47), 9, "ref.go:184", #[{ on := 1, ground := Ground.data }], none⟩)) rfl ?_ (AllReadyH.nil)
      · skip
        refine next_op (v := .string ⟨k.toArray⟩) (by kernel_rfl) (run_convert_op rfl (conv_bytes wV kA kc k (hk.below hbt))) trivial (fun _ => ?_)
        simp only [Act.put, List.setIfInBounds_toArray, List.set_cons_zero, List.set_cons_succ]
        refine wpAnyH_take (i := 7) (oi := (⟨some 53, Op.build 71 #[(0, Operand.tmp 48), (1, Operand.tmp 49), (2, Operand.tmp 52)], 71, "ref.go:184", #[{ on := 2, ground := Ground.data }, { on := 3, ground := Ground.data }, { on := 6, ground := Ground.data }], none⟩)) (v := .agg #[.string ⟨k.toArray⟩, .int .u64 (s : Nat), .slice AV v.length cV]) rfl (by kernel_rfl) (by kernel_rfl) (by kernel_rfl) (fun _ _ _ h => h) (Or.inl ⟨by kernel_rfl, fun _ _ => by kernel_rfl⟩) trivial ?_
        simp only [Act.put, List.setIfInBounds_toArray, List.set_cons_zero, List.set_cons_succ]
        refine wpAnyH_ready (rs := [8]) (by kernel_rfl) (by simp) ?_
        refine AllReadyH.cons (o := (⟨some 54, Op.buildSlice 56 1 #[(0, Operand.tmp 53)], 56, "ref.go:184", #[{ on := 7, ground := Ground.data }], none⟩)) rfl ?_ (AllReadyH.nil)
        · skip
          have hbq := (Below.refl (wV).heap.size (wV)).alloc (Nat.le_refl _) (.cells #[.string ⟨k.toArray⟩, .int .u64 (s : Nat), .slice AV v.length cV] 71)
          refine next_op (v := .slice (some ⟨wV.heap.size, 0, none⟩) 1 1) (by kernel_rfl) (run_buildSlice_op (size := 3) #[.string ⟨k.toArray⟩, .int .u64 (s : Nat), .slice AV v.length cV] (.agg #[.string ⟨#[]⟩, .int .u64 0, .slice none 0 0]) Try.underlying56 (by kernel_rfl) (by decide) (by decide) (by kernel_rfl)) trivial (fun _ => ?_)
          simp only [Act.put, List.setIfInBounds_toArray, List.set_cons_zero, List.set_cons_succ]
          have hrn := Rd.many (wV) [.string ⟨k.toArray⟩, .int .u64 (s : Nat), .slice AV v.length cV] 71
          have hoV := own_below hoV hbq
          have hbt := hbt.trans (hbq.mono hbt.size)
          refine wpAnyH_ready (rs := [9]) (by kernel_rfl) (by simp) ?_
          refine AllReadyH.cons (o := (⟨some 55, Op.call { callee := Callee.builtin Builtin.append, args := #[Operand.tmp 46, Operand.tmp 54], argTypes := #[56, 56] }, 56, "ref.go:184", #[{ on := 0, ground := Ground.data }, { on := 8, ground := Ground.data }, { on := 6, ground := Ground.chain }], none⟩)) rfl ?_ (AllReadyH.nil)
          · skip
            have hF := hF.below hbt
            obtain ⟨A', c', wA, hrun, hoA, hgA⟩ := run_app (P := Try.prog) ((wV).alloc (.cells #[.string ⟨k.toArray⟩, .int .u64 (s : Nat), .slice AV v.length cV] 71)) slF 56 B (.slice oA L.length oc) L.length (fcells L) hF.own _ 1 1 [.string ⟨k.toArray⟩, .int .u64 (s : Nat), .slice AV v.length cV] rfl hrn (by simp [Value.oneCell']) (by unfold maxLen; omega) (by omega) (Nat.le_trans hB hbt.size)
            refine next_op (v := .slice A' (L.length + 1) c') (by kernel_rfl) (run_app_op rfl rfl hrun) trivial (fun _ => ?_)
            simp only [Act.put, List.setIfInBounds_toArray, List.set_cons_zero, List.set_cons_succ]
            have hBB : Below B w wA := (hb00.trans (hbt.mono hB)).trans (hgA.under hF.own (Nat.le_refl _) (Nat.le_trans hB hbt.size))
            have hF := hF.app (M := [⟨⟨k.toArray⟩, s, AV, cV, v⟩]) (fun f hf => by rw [List.mem_singleton.1 hf]; exact ⟨Rd.of_own hoV, (own_cap hoV).1, hv1, hs1, hk1⟩) (fun f hf ad e => by rw [List.mem_singleton.1 hf] at e; have := (own_cap hoV).2.2 ad e; exact ⟨Nat.le_trans hB this.1, this.2⟩) (fun f hf ad e e2 => by rw [List.mem_singleton.1 hf] at e; have h1 := (hF0.own.lt _ e2).2; have h2 := ((own_cap hoV).2.2 ad e).1; omega) hoA hgA
            refine wpAnyH_take (i := 10) (oi := (⟨some 4, Op.assign (Operand.tmp 55), 56, "ref.go:184", #[{ on := 9, ground := Ground.data }, { on := 9, ground := Ground.chain }, { on := 0, ground := Ground.phase }, { on := 1, ground := Ground.phase }, { on := 2, ground := Ground.phase }, { on := 3, ground := Ground.phase }, { on := 4, ground := Ground.phase }, { on := 5, ground := Ground.phase }, { on := 6, ground := Ground.phase }, { on := 7, ground := Ground.phase }, { on := 8, ground := Ground.phase }, { on := 9, ground := Ground.phase }], none⟩)) (v := .slice A' (L.length + 1) c') rfl (by kernel_rfl) (by kernel_rfl) (by kernel_rfl) (fun _ _ _ h => h) (Or.inl ⟨by kernel_rfl, fun _ _ => by kernel_rfl⟩) trivial ?_
            simp only [Act.put, List.setIfInBounds_toArray, List.set_cons_zero, List.set_cons_succ]
            refine wpAnyH_done (by kernel_rfl) ?_ _
            exact NoPanic.normal (hend wA _ _ _ _ _ _ _ _ _ _ _ _ _ rfl hF hBB)
end Go.Proofs.Ytadgaphgomagkaa
