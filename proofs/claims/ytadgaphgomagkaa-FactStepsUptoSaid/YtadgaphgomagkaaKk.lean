/- Tables are built: a fact is laid into its block. PRINTED by tools/regs_k.py. -/
import Derived.Test.YtadgaphgomagkaaKg
import Derived.Test.YtadgaphgomagkaaWc
import Derived.Deep.LoopGhost
import Derived.Laws.MakeOwn
import Derived.Deep.CutBlock
import Derived.Deep.DeepCutAuto
namespace Go.Proofs.Ytadgaphgomagkaa
open Go.RowKit
set_option maxHeartbeats 8000000
set_option maxRecDepth 100000
/-- a fact's variable can be read -/
structure FactS (g : Nat) (f : FM) (W : World) : Prop where
  c0 : W.cell? ⟨g, 0, none⟩ = some (.string f.k)
  c1 : W.cell? ⟨g, 1, none⟩ = some (.int .u64 (f.s : Nat))
  c2 : W.cell? ⟨g, 2, none⟩ = some (.slice f.A f.l.length f.c)
theorem FactS.keep {g : Nat} {f : FM} {W W2 : World} (k : FactS g f W) (hb : Below W.heap.size W W2) : FactS g f W2 := ⟨cell_below k.c0 hb, cell_below k.c1 hb, cell_below k.c2 hb⟩
theorem enc_cat (l : List UInt8) (f : FM) : l ++ encF f = l ++ lenB (strB f.k) ++ numB f.s ++ lenB f.l := by simp [encF, List.append_assoc]
theorem bytesEnc_any (A : Option Addr) (c : Nat) (l : List UInt8) (f : FM) (g : Nat) (w : World) (hr : Rd w A (byts (l ++ lenB (strB f.k) ++ numB f.s))) (hl : (l ++ lenB (strB f.k) ++ numB f.s).length ≤ c) (hx : Rd w f.A (byts f.l)) (hxc : f.l.length ≤ f.c) (hg : Rd w (some ⟨g, 0, none⟩) [.slice f.A f.l.length f.c]) (hsum : (l ++ lenB (strB f.k) ++ numB f.s).length + 10 + f.l.length ≤ 140737488351232) :
    Calls Try.prog 61 #[.slice A (l ++ lenB (strB f.k) ++ numB f.s).length c, .slice (some ⟨g, 0, none⟩) 1 1] w fun e w' => ∃ A' c', e = .returned (.slice A' (l ++ encF f).length c') ∧ Rd w' A' (byts (l ++ encF f)) ∧ (l ++ encF f).length ≤ c' ∧ Below w.heap.size w w' := by
  rw [enc_cat]
  exact bytes1_any A c _ f.A f.c f.l g w hr hl hx hxc hg hsum
def opsBuild14 : Array Oper := #[{ dst := some 44, op := Op.move (Operand.tmp 7), type := 35, pos := "fact.go:87", after := #[], guard := none }, { dst := some 45, op := Op.fieldAddr 71 (Operand.tmp 11) 0, type := 0, pos := "fact.go:87", after := #[], guard := none }, { dst := some 46, op := Op.load 9 (Operand.tmp 45), type := 9, pos := "fact.go:87", after := #[{ on := 1, ground := Ground.data }], guard := none }, { dst := some 47, op := Op.convert 9 35 (Operand.tmp 46), type := 35, pos := "fact.go:87", after := #[{ on := 2, ground := Ground.data }], guard := none }, { dst := some 48, op := Op.buildSlice 99 1 #[(0, Operand.tmp 47)], type := 99, pos := "fact.go:87", after := #[{ on := 3, ground := Ground.data }], guard := none }, { dst := some 49, op := Op.call { callee := Callee.value (Operand.func 61), args := #[Operand.tmp 44, Operand.tmp 48], argTypes := #[35, 99] }, type := 35, pos := "fact.go:87", after := #[{ on := 0, ground := Ground.data }, { on := 4, ground := Ground.data }], guard := none }, { dst := some 50, op := Op.fieldAddr 71 (Operand.tmp 11) 1, type := 0, pos := "fact.go:87", after := #[], guard := none }, { dst := some 51, op := Op.load 69 (Operand.tmp 50), type := 69, pos := "fact.go:87", after := #[{ on := 6, ground := Ground.data }], guard := none }, { dst := some 52, op := Op.call { callee := Callee.value (Operand.func 62), args := #[Operand.tmp 49, Operand.tmp 51], argTypes := #[35, 69] }, type := 35, pos := "fact.go:87", after := #[{ on := 5, ground := Ground.data }, { on := 7, ground := Ground.data }, { on := 5, ground := Ground.chain }], guard := none }, { dst := some 53, op := Op.fieldAddr 71 (Operand.tmp 11) 2, type := 0, pos := "fact.go:87", after := #[], guard := none }, { dst := some 54, op := Op.load 35 (Operand.tmp 53), type := 35, pos := "fact.go:87", after := #[{ on := 9, ground := Ground.data }], guard := none }, { dst := some 55, op := Op.buildSlice 99 1 #[(0, Operand.tmp 54)], type := 99, pos := "fact.go:87", after := #[{ on := 10, ground := Ground.data }], guard := none }, { dst := some 56, op := Op.call { callee := Callee.value (Operand.func 61), args := #[Operand.tmp 52, Operand.tmp 55], argTypes := #[35, 99] }, type := 35, pos := "fact.go:87", after := #[{ on := 8, ground := Ground.data }, { on := 11, ground := Ground.data }, { on := 8, ground := Ground.chain }], guard := none }, { dst := some 7, op := Op.assign (Operand.tmp 56), type := 35, pos := "fact.go:87", after := #[{ on := 12, ground := Ground.data }, { on := 12, ground := Ground.chain }, { on := 0, ground := Ground.phase }, { on := 1, ground := Ground.phase }, { on := 2, ground := Ground.phase }, { on := 3, ground := Ground.phase }, { on := 4, ground := Ground.phase }, { on := 5, ground := Ground.phase }, { on := 6, ground := Ground.phase }, { on := 7, ground := Ground.phase }, { on := 8, ground := Ground.phase }, { on := 9, ground := Ground.phase }, { on := 10, ground := Ground.phase }, { on := 11, ground := Ground.phase }, { on := 12, ground := Ground.phase }], guard := none }]
theorem regBuild14 {u0 u1 u2 u3 u4 u5 u6 u8 u9 u10 u12 u13 u14 u15 u16 u17 u18 u19 u20 u21 u22 u23 u24 u25 u26 u27 u28 u29 u30 u31 u32 u33 u34 u35 u36 u37 u38 u39 u40 u41 u42 u43 u44 u45 u46 u47 u48 u49 u50 u51 u52 u53 u54 u55 u56 u57 u58 u59 u60 u61 u62 u63 u64 u65 u66 u67 u68 u69 u70 u71 u72 u73 u74 u75 u76 u77 u78 u79 u80 u81 u82 u83 u84 u85 u86 u87 u88 u89 u90 u91 u92 u93 u94 u95 u96 u97 u98 u99 u100 : Value} {DD : List Deferred} {Q : Exit → Act → World → Prop} {w : World} {A : Option Addr} {c g : Nat} {l : List UInt8} {f : FM} (hS : FactS g f w.drew) (hr : Rd w A (byts l)) (hc : l.length ≤ c) (hv : Rd w f.A (byts f.l)) (hvc : f.l.length ≤ f.c) (hs : f.s < 18446744073709551616) (hsum : l.length + 100 + f.k.size + f.l.length ≤ 70368744177664)
    (hend : ∀ (w2 : World) (x44 x45 x46 x47 x48 x49 x50 x51 x52 x53 x54 x55 x56 : Value) (A2 : Option Addr) (c2 : Nat) (_ : Rd w2 A2 (byts (l ++ encF f))) (_ : (l ++ encF f).length ≤ c2) (_ : Below w.heap.size w w2), Q .normal ⟨#[u0, u1, u2, u3, u4, u5, u6, .slice A2 (l ++ encF f).length c2, u8, u9, u10, .pointer (some ⟨g, 0, none⟩), u12, u13, u14, u15, u16, u17, u18, u19, u20, u21, u22, u23, u24, u25, u26, u27, u28, u29, u30, u31, u32, u33, u34, u35, u36, u37, u38, u39, u40, u41, u42, u43, x44, x45, x46, x47, x48, x49, x50, x51, x52, x53, x54, x55, x56, u57, u58, u59, u60, u61, u62, u63, u64, u65, u66, u67, u68, u69, u70, u71, u72, u73, u74, u75, u76, u77, u78, u79, u80, u81, u82, u83, u84, u85, u86, u87, u88, u89, u90, u91, u92, u93, u94, u95, u96, u97, u98, u99, u100], DD⟩ w2) :
    (Code.region 14 opsBuild14 true).wp Try.prog Q ⟨#[u0, u1, u2, u3, u4, u5, u6, .slice A l.length c, u8, u9, u10, .pointer (some ⟨g, 0, none⟩), u12, u13, u14, u15, u16, u17, u18, u19, u20, u21, u22, u23, u24, u25, u26, u27, u28, u29, u30, u31, u32, u33, u34, u35, u36, u37, u38, u39, u40, u41, u42, u43, u44, u45, u46, u47, u48, u49, u50, u51, u52, u53, u54, u55, u56, u57, u58, u59, u60, u61, u62, u63, u64, u65, u66, u67, u68, u69, u70, u71, u72, u73, u74, u75, u76, u77, u78, u79, u80, u81, u82, u83, u84, u85, u86, u87, u88, u89, u90, u91, u92, u93, u94, u95, u96, u97, u98, u99, u100], DD⟩ w := by
  have hk5 := lenB_le (strB f.k)
  rw [strB_length] at hk5
  have hl5 : (l ++ lenB (strB f.k)).length ≤ 140737488351232 := by rw [List.length_append]; omega
  have hn8 : (numB f.s).length ≤ 10 := (numF_length 9 f.s).1
  have hl8 : (l ++ lenB (strB f.k) ++ numB f.s).length + 10 + f.l.length ≤ 140737488351232 := by rw [List.length_append, List.length_append]; omega
  have hb0 : Below w.heap.size w w.drew := (Below.refl _ _).drew
  have hrl := hr.below hb0
  have hrv := hv.below hb0
  refine wp_region_noPanic ?_
  refine wp_region_held_drew (S := FactS g f) (by kernel_rfl) (hS) (fun hHeld => ?_)
  refine wpAnyH_take (i := 0) (oi := (⟨some 44, Op.move (Operand.tmp 7), 35, "fact.go:87", #[], none⟩)) (v := .slice A l.length c) rfl (by kernel_rfl) (by kernel_rfl) (by kernel_rfl) (fun _ _ _ h => h) (Or.inl ⟨by kernel_rfl, fun _ _ => by kernel_rfl⟩) hHeld ?_
  simp only [Act.put, List.setIfInBounds_toArray, List.set_cons_zero, List.set_cons_succ]
  refine wpAnyH_take (i := 1) (oi := (⟨some 45, Op.fieldAddr 71 (Operand.tmp 11) 0, 0, "fact.go:87", #[], none⟩)) (v := .pointer (some ⟨g, 0, none⟩)) rfl (by kernel_rfl) (by kernel_rfl) (by kernel_rfl) (fun _ _ _ h => h) (Or.inl ⟨by kernel_rfl, fun _ _ => by kernel_rfl⟩) hHeld ?_
  simp only [Act.put, List.setIfInBounds_toArray, List.set_cons_zero, List.set_cons_succ]
  refine wpAnyH_take (i := 2) (oi := (⟨some 46, Op.load 9 (Operand.tmp 45), 9, "fact.go:87", #[{ on := 1, ground := Ground.data }], none⟩)) (v := .string f.k) rfl (by kernel_rfl) (by kernel_rfl) (by kernel_rfl) (fun _ _ _ h => h) (Or.inl ⟨by kernel_rfl, fun W hS => run_load1_op (by kernel_rfl) (by kernel_rfl) hS.c0⟩) hHeld ?_
  simp only [Act.put, List.setIfInBounds_toArray, List.set_cons_zero, List.set_cons_succ]
  refine wpAnyH_take (i := 6) (oi := (⟨some 50, Op.fieldAddr 71 (Operand.tmp 11) 1, 0, "fact.go:87", #[], none⟩)) (v := .pointer (some ⟨g, 1, none⟩)) rfl (by kernel_rfl) (by kernel_rfl) (by kernel_rfl) (fun _ _ _ h => h) (Or.inl ⟨by kernel_rfl, fun _ _ => by kernel_rfl⟩) hHeld ?_
  simp only [Act.put, List.setIfInBounds_toArray, List.set_cons_zero, List.set_cons_succ]
  refine wpAnyH_take (i := 7) (oi := (⟨some 51, Op.load 69 (Operand.tmp 50), 69, "fact.go:87", #[{ on := 6, ground := Ground.data }], none⟩)) (v := .int .u64 (f.s : Nat)) rfl (by kernel_rfl) (by kernel_rfl) (by kernel_rfl) (fun _ _ _ h => h) (Or.inl ⟨by kernel_rfl, fun W hS => run_load1_op (by kernel_rfl) (by kernel_rfl) hS.c1⟩) hHeld ?_
  simp only [Act.put, List.setIfInBounds_toArray, List.set_cons_zero, List.set_cons_succ]
  refine wpAnyH_take (i := 9) (oi := (⟨some 53, Op.fieldAddr 71 (Operand.tmp 11) 2, 0, "fact.go:87", #[], none⟩)) (v := .pointer (some ⟨g, 2, none⟩)) rfl (by kernel_rfl) (by kernel_rfl) (by kernel_rfl) (fun _ _ _ h => h) (Or.inl ⟨by kernel_rfl, fun _ _ => by kernel_rfl⟩) hHeld ?_
  simp only [Act.put, List.setIfInBounds_toArray, List.set_cons_zero, List.set_cons_succ]
  refine wpAnyH_take (i := 10) (oi := (⟨some 54, Op.load 35 (Operand.tmp 53), 35, "fact.go:87", #[{ on := 9, ground := Ground.data }], none⟩)) (v := .slice f.A f.l.length f.c) rfl (by kernel_rfl) (by kernel_rfl) (by kernel_rfl) (fun _ _ _ h => h) (Or.inl ⟨by kernel_rfl, fun W hS => run_load1_op (by kernel_rfl) (by kernel_rfl) hS.c2⟩) hHeld ?_
  simp only [Act.put, List.setIfInBounds_toArray, List.set_cons_zero, List.set_cons_succ]
  refine wpAnyH_ready (rs := [3, 11]) (by kernel_rfl) (by simp) ?_
  refine AllReadyH.cons (o := (⟨some 47, Op.convert 9 35 (Operand.tmp 46), 35, "fact.go:87", #[{ on := 2, ground := Ground.data }], none⟩)) rfl ?_ (AllReadyH.cons (o := (⟨some 55, Op.buildSlice 99 1 #[(0, Operand.tmp 54)], 99, "fact.go:87", #[{ on := 10, ground := Ground.data }], none⟩)) rfl ?_ (AllReadyH.nil))
  · skip
    obtain ⟨ck, w1, he1, hrk, hck, hbq1⟩ := conv_str w.drew f.k
    refine next_op (v := .slice (some ⟨w.drew.heap.size, 0, none⟩) f.k.size ck) (by kernel_rfl) (run_conv2_op (by kernel_rfl) he1) ((FactS.keep) hHeld hbq1) (fun hH1 => ?_)
    simp only [Act.put, List.setIfInBounds_toArray, List.set_cons_zero, List.set_cons_succ]
    have hrl := (hrl).below hbq1
    have hrv := (hrv).below hbq1
    refine wpAnyH_ready (rs := [4, 11]) (by kernel_rfl) (by simp) ?_
    refine AllReadyH.cons (o := (⟨some 48, Op.buildSlice 99 1 #[(0, Operand.tmp 47)], 99, "fact.go:87", #[{ on := 3, ground := Ground.data }], none⟩)) rfl ?_ (AllReadyH.cons (o := (⟨some 55, Op.buildSlice 99 1 #[(0, Operand.tmp 54)], 99, "fact.go:87", #[{ on := 10, ground := Ground.data }], none⟩)) rfl ?_ (AllReadyH.nil))
    · skip
      have hbq2 := (Below.refl (w1).heap.size (w1)).alloc (Nat.le_refl _) (.cells #[.slice (some ⟨w.drew.heap.size, 0, none⟩) f.k.size ck] 35)
      refine next_op (v := .slice (some ⟨w1.heap.size, 0, none⟩) 1 1) (by kernel_rfl) (run_buildSlice_op (size := 1) _ (.slice none 0 0) Try.underlying99 (by kernel_rfl) (by decide) (by decide) (by kernel_rfl)) ((FactS.keep) hH1 hbq2) (fun hH2 => ?_)
      simp only [Act.put, List.setIfInBounds_toArray, List.set_cons_zero, List.set_cons_succ]
      have hrl := (hrl).below hbq2
      have hrv := (hrv).below hbq2
      have hrk := (hrk).below hbq2
      have hgk := Rd.one (w1) (.slice (some ⟨w.drew.heap.size, 0, none⟩) f.k.size ck) 35
      refine wpAnyH_ready (rs := [5, 11]) (by kernel_rfl) (by simp) ?_
      refine AllReadyH.cons (o := (⟨some 49, Op.call { callee := Callee.value (Operand.func 61), args := #[Operand.tmp 44, Operand.tmp 48], argTypes := #[35, 99] }, 35, "fact.go:87", #[{ on := 0, ground := Ground.data }, { on := 4, ground := Ground.data }], none⟩)) rfl ?_ (AllReadyH.cons (o := (⟨some 55, Op.buildSlice 99 1 #[(0, Operand.tmp 54)], 99, "fact.go:87", #[{ on := 10, ground := Ground.data }], none⟩)) rfl ?_ (AllReadyH.nil))
      · skip
        refine next_call (f := 61) (args := #[.slice A l.length c, .slice (some ⟨w1.heap.size, 0, none⟩) 1 1]) (by kernel_rfl) (by kernel_rfl) (bytes1_any A c l _ ck (strB f.k) _ ((w1).alloc (.cells #[.slice (some ⟨w.drew.heap.size, 0, none⟩) f.k.size ck] 35)) hrl hc hrk hck hgk (by rw [strB_length]; omega)) ?_
        rintro e w3 ⟨A5, c5, rfl, hr5, hc5, hb5⟩
        have hbq3 := hb5
        refine ⟨.slice A5 (l ++ lenB (strB f.k)).length c5, rfl, (FactS.keep) hH2 hbq3, fun hH3 => ?_⟩
        simp only [Act.put, List.setIfInBounds_toArray, List.set_cons_zero, List.set_cons_succ]
        have hrl := (hrl).below hbq3
        have hrv := (hrv).below hbq3
        have hrk := (hrk).below hbq3
        have hgk := (hgk).below hbq3
        refine wpAnyH_ready (rs := [8, 11]) (by kernel_rfl) (by simp) ?_
        refine AllReadyH.cons (o := (⟨some 52, Op.call { callee := Callee.value (Operand.func 62), args := #[Operand.tmp 49, Operand.tmp 51], argTypes := #[35, 69] }, 35, "fact.go:87", #[{ on := 5, ground := Ground.data }, { on := 7, ground := Ground.data }, { on := 5, ground := Ground.chain }], none⟩)) rfl ?_ (AllReadyH.cons (o := (⟨some 55, Op.buildSlice 99 1 #[(0, Operand.tmp 54)], 99, "fact.go:87", #[{ on := 10, ground := Ground.data }], none⟩)) rfl ?_ (AllReadyH.nil))
        · skip
          refine next_call (f := 62) (args := #[.slice A5 (l ++ lenB (strB f.k)).length c5, .int .u64 (f.s : Nat)]) (by kernel_rfl) (by kernel_rfl) (num1_any A5 c5 f.s _ w3 hr5 hc5 hl5 hs) ?_
          rintro e w4 ⟨A8, c8, rfl, hr8, hc8, hb8⟩
          have hbq4 := hb8
          refine ⟨.slice A8 (l ++ lenB (strB f.k) ++ numB f.s).length c8, rfl, (FactS.keep) hH3 hbq4, fun hH4 => ?_⟩
          simp only [Act.put, List.setIfInBounds_toArray, List.set_cons_zero, List.set_cons_succ]
          have hrl := (hrl).below hbq4
          have hrv := (hrv).below hbq4
          have hrk := (hrk).below hbq4
          have hgk := (hgk).below hbq4
          have hr5 := (hr5).below hbq4
          refine wpAnyH_ready (rs := [11]) (by kernel_rfl) (by simp) ?_
          refine AllReadyH.cons (o := (⟨some 55, Op.buildSlice 99 1 #[(0, Operand.tmp 54)], 99, "fact.go:87", #[{ on := 10, ground := Ground.data }], none⟩)) rfl ?_ (AllReadyH.nil)
          · skip
            have hbq5 := (Below.refl (w4).heap.size (w4)).alloc (Nat.le_refl _) (.cells #[.slice f.A f.l.length f.c] 35)
            refine next_op (v := .slice (some ⟨w4.heap.size, 0, none⟩) 1 1) (by kernel_rfl) (run_buildSlice_op (size := 1) _ (.slice none 0 0) Try.underlying99 (by kernel_rfl) (by decide) (by decide) (by kernel_rfl)) ((FactS.keep) hH4 hbq5) (fun hH5 => ?_)
            simp only [Act.put, List.setIfInBounds_toArray, List.set_cons_zero, List.set_cons_succ]
            have hrl := (hrl).below hbq5
            have hrv := (hrv).below hbq5
            have hrk := (hrk).below hbq5
            have hgk := (hgk).below hbq5
            have hr5 := (hr5).below hbq5
            have hr8 := (hr8).below hbq5
            have hgv := Rd.one (w4) (.slice f.A f.l.length f.c) 35
            refine wpAnyH_ready (rs := [12]) (by kernel_rfl) (by simp) ?_
            refine AllReadyH.cons (o := (⟨some 56, Op.call { callee := Callee.value (Operand.func 61), args := #[Operand.tmp 52, Operand.tmp 55], argTypes := #[35, 99] }, 35, "fact.go:87", #[{ on := 8, ground := Ground.data }, { on := 11, ground := Ground.data }, { on := 8, ground := Ground.chain }], none⟩)) rfl ?_ (AllReadyH.nil)
            · skip
              refine next_call (f := 61) (args := #[.slice A8 (l ++ lenB (strB f.k) ++ numB f.s).length c8, .slice (some ⟨w4.heap.size, 0, none⟩) 1 1]) (by kernel_rfl) (by kernel_rfl) (bytesEnc_any A8 c8 l f _ ((w4).alloc (.cells #[.slice f.A f.l.length f.c] 35)) hr8 hc8 hrv hvc hgv hl8) ?_
              rintro e w6 ⟨A12, c12, rfl, hr12, hc12, hb12⟩
              have hbq6 := hb12
              refine ⟨.slice A12 (l ++ encF f).length c12, rfl, (FactS.keep) hH5 hbq6, fun hH6 => ?_⟩
              simp only [Act.put, List.setIfInBounds_toArray, List.set_cons_zero, List.set_cons_succ]
              have hrl := (hrl).below hbq6
              have hrv := (hrv).below hbq6
              have hrk := (hrk).below hbq6
              have hgk := (hgk).below hbq6
              have hr5 := (hr5).below hbq6
              have hr8 := (hr8).below hbq6
              have hgv := (hgv).below hbq6
              refine wpAnyH_take (i := 13) (oi := (⟨some 7, Op.assign (Operand.tmp 56), 35, "fact.go:87", #[{ on := 12, ground := Ground.data }, { on := 12, ground := Ground.chain }, { on := 0, ground := Ground.phase }, { on := 1, ground := Ground.phase }, { on := 2, ground := Ground.phase }, { on := 3, ground := Ground.phase }, { on := 4, ground := Ground.phase }, { on := 5, ground := Ground.phase }, { on := 6, ground := Ground.phase }, { on := 7, ground := Ground.phase }, { on := 8, ground := Ground.phase }, { on := 9, ground := Ground.phase }, { on := 10, ground := Ground.phase }, { on := 11, ground := Ground.phase }, { on := 12, ground := Ground.phase }], none⟩)) (v := .slice A12 (l ++ encF f).length c12) rfl (by kernel_rfl) (by kernel_rfl) (by kernel_rfl) (fun _ _ _ h => h) (Or.inl ⟨by kernel_rfl, fun _ _ => by kernel_rfl⟩) hH6 ?_
              simp only [Act.put, List.setIfInBounds_toArray, List.set_cons_zero, List.set_cons_succ]
              refine wpAnyH_done (by kernel_rfl) ?_ _
              exact NoPanic.normal (hend _ _ _ _ _ _ _ _ _ _ _ _ _ _ A12 c12 hr12 hc12 (((((((hb0).trans (hbq1.mono (hb0).size)).trans (hbq2.mono ((hb0).trans (hbq1.mono (hb0).size)).size)).trans (hbq3.mono (((hb0).trans (hbq1.mono (hb0).size)).trans (hbq2.mono ((hb0).trans (hbq1.mono (hb0).size)).size)).size)).trans (hbq4.mono ((((hb0).trans (hbq1.mono (hb0).size)).trans (hbq2.mono ((hb0).trans (hbq1.mono (hb0).size)).size)).trans (hbq3.mono (((hb0).trans (hbq1.mono (hb0).size)).trans (hbq2.mono ((hb0).trans (hbq1.mono (hb0).size)).size)).size)).size)).trans (hbq5.mono (((((hb0).trans (hbq1.mono (hb0).size)).trans (hbq2.mono ((hb0).trans (hbq1.mono (hb0).size)).size)).trans (hbq3.mono (((hb0).trans (hbq1.mono (hb0).size)).trans (hbq2.mono ((hb0).trans (hbq1.mono (hb0).size)).size)).size)).trans (hbq4.mono ((((hb0).trans (hbq1.mono (hb0).size)).trans (hbq2.mono ((hb0).trans (hbq1.mono (hb0).size)).size)).trans (hbq3.mono (((hb0).trans (hbq1.mono (hb0).size)).trans (hbq2.mono ((hb0).trans (hbq1.mono (hb0).size)).size)).size)).size)).size)).trans (hbq6.mono ((((((hb0).trans (hbq1.mono (hb0).size)).trans (hbq2.mono ((hb0).trans (hbq1.mono (hb0).size)).size)).trans (hbq3.mono (((hb0).trans (hbq1.mono (hb0).size)).trans (hbq2.mono ((hb0).trans (hbq1.mono (hb0).size)).size)).size)).trans (hbq4.mono ((((hb0).trans (hbq1.mono (hb0).size)).trans (hbq2.mono ((hb0).trans (hbq1.mono (hb0).size)).size)).trans (hbq3.mono (((hb0).trans (hbq1.mono (hb0).size)).trans (hbq2.mono ((hb0).trans (hbq1.mono (hb0).size)).size)).size)).size)).trans (hbq5.mono (((((hb0).trans (hbq1.mono (hb0).size)).trans (hbq2.mono ((hb0).trans (hbq1.mono (hb0).size)).size)).trans (hbq3.mono (((hb0).trans (hbq1.mono (hb0).size)).trans (hbq2.mono ((hb0).trans (hbq1.mono (hb0).size)).size)).size)).trans (hbq4.mono ((((hb0).trans (hbq1.mono (hb0).size)).trans (hbq2.mono ((hb0).trans (hbq1.mono (hb0).size)).size)).trans (hbq3.mono (((hb0).trans (hbq1.mono (hb0).size)).trans (hbq2.mono ((hb0).trans (hbq1.mono (hb0).size)).size)).size)).size)).size)).size)))
        · skip
          have hbq7 := (Below.refl (w3).heap.size (w3)).alloc (Nat.le_refl _) (.cells #[.slice f.A f.l.length f.c] 35)
          refine next_op (v := .slice (some ⟨w3.heap.size, 0, none⟩) 1 1) (by kernel_rfl) (run_buildSlice_op (size := 1) _ (.slice none 0 0) Try.underlying99 (by kernel_rfl) (by decide) (by decide) (by kernel_rfl)) ((FactS.keep) hH3 hbq7) (fun hH7 => ?_)
          simp only [Act.put, List.setIfInBounds_toArray, List.set_cons_zero, List.set_cons_succ]
          have hrl := (hrl).below hbq7
          have hrv := (hrv).below hbq7
          have hrk := (hrk).below hbq7
          have hgk := (hgk).below hbq7
          have hr5 := (hr5).below hbq7
          have hgv := Rd.one (w3) (.slice f.A f.l.length f.c) 35
          refine wpAnyH_ready (rs := [8]) (by kernel_rfl) (by simp) ?_
          refine AllReadyH.cons (o := (⟨some 52, Op.call { callee := Callee.value (Operand.func 62), args := #[Operand.tmp 49, Operand.tmp 51], argTypes := #[35, 69] }, 35, "fact.go:87", #[{ on := 5, ground := Ground.data }, { on := 7, ground := Ground.data }, { on := 5, ground := Ground.chain }], none⟩)) rfl ?_ (AllReadyH.nil)
          · skip
            refine next_call (f := 62) (args := #[.slice A5 (l ++ lenB (strB f.k)).length c5, .int .u64 (f.s : Nat)]) (by kernel_rfl) (by kernel_rfl) (num1_any A5 c5 f.s _ ((w3).alloc (.cells #[.slice f.A f.l.length f.c] 35)) hr5 hc5 hl5 hs) ?_
            rintro e w8 ⟨A8, c8, rfl, hr8, hc8, hb8⟩
            have hbq8 := hb8
            refine ⟨.slice A8 (l ++ lenB (strB f.k) ++ numB f.s).length c8, rfl, (FactS.keep) hH7 hbq8, fun hH8 => ?_⟩
            simp only [Act.put, List.setIfInBounds_toArray, List.set_cons_zero, List.set_cons_succ]
            have hrl := (hrl).below hbq8
            have hrv := (hrv).below hbq8
            have hrk := (hrk).below hbq8
            have hgk := (hgk).below hbq8
            have hr5 := (hr5).below hbq8
            have hgv := (hgv).below hbq8
            refine wpAnyH_ready (rs := [12]) (by kernel_rfl) (by simp) ?_
            refine AllReadyH.cons (o := (⟨some 56, Op.call { callee := Callee.value (Operand.func 61), args := #[Operand.tmp 52, Operand.tmp 55], argTypes := #[35, 99] }, 35, "fact.go:87", #[{ on := 8, ground := Ground.data }, { on := 11, ground := Ground.data }, { on := 8, ground := Ground.chain }], none⟩)) rfl ?_ (AllReadyH.nil)
            · skip
              refine next_call (f := 61) (args := #[.slice A8 (l ++ lenB (strB f.k) ++ numB f.s).length c8, .slice (some ⟨w3.heap.size, 0, none⟩) 1 1]) (by kernel_rfl) (by kernel_rfl) (bytesEnc_any A8 c8 l f _ w8 hr8 hc8 hrv hvc hgv hl8) ?_
              rintro e w9 ⟨A12, c12, rfl, hr12, hc12, hb12⟩
              have hbq9 := hb12
              refine ⟨.slice A12 (l ++ encF f).length c12, rfl, (FactS.keep) hH8 hbq9, fun hH9 => ?_⟩
              simp only [Act.put, List.setIfInBounds_toArray, List.set_cons_zero, List.set_cons_succ]
              have hrl := (hrl).below hbq9
              have hrv := (hrv).below hbq9
              have hrk := (hrk).below hbq9
              have hgk := (hgk).below hbq9
              have hr5 := (hr5).below hbq9
              have hgv := (hgv).below hbq9
              have hr8 := (hr8).below hbq9
              refine wpAnyH_take (i := 13) (oi := (⟨some 7, Op.assign (Operand.tmp 56), 35, "fact.go:87", #[{ on := 12, ground := Ground.data }, { on := 12, ground := Ground.chain }, { on := 0, ground := Ground.phase }, { on := 1, ground := Ground.phase }, { on := 2, ground := Ground.phase }, { on := 3, ground := Ground.phase }, { on := 4, ground := Ground.phase }, { on := 5, ground := Ground.phase }, { on := 6, ground := Ground.phase }, { on := 7, ground := Ground.phase }, { on := 8, ground := Ground.phase }, { on := 9, ground := Ground.phase }, { on := 10, ground := Ground.phase }, { on := 11, ground := Ground.phase }, { on := 12, ground := Ground.phase }], none⟩)) (v := .slice A12 (l ++ encF f).length c12) rfl (by kernel_rfl) (by kernel_rfl) (by kernel_rfl) (fun _ _ _ h => h) (Or.inl ⟨by kernel_rfl, fun _ _ => by kernel_rfl⟩) hH9 ?_
              simp only [Act.put, List.setIfInBounds_toArray, List.set_cons_zero, List.set_cons_succ]
              refine wpAnyH_done (by kernel_rfl) ?_ _
              exact NoPanic.normal (hend _ _ _ _ _ _ _ _ _ _ _ _ _ _ A12 c12 hr12 hc12 (((((((hb0).trans (hbq1.mono (hb0).size)).trans (hbq2.mono ((hb0).trans (hbq1.mono (hb0).size)).size)).trans (hbq3.mono (((hb0).trans (hbq1.mono (hb0).size)).trans (hbq2.mono ((hb0).trans (hbq1.mono (hb0).size)).size)).size)).trans (hbq7.mono ((((hb0).trans (hbq1.mono (hb0).size)).trans (hbq2.mono ((hb0).trans (hbq1.mono (hb0).size)).size)).trans (hbq3.mono (((hb0).trans (hbq1.mono (hb0).size)).trans (hbq2.mono ((hb0).trans (hbq1.mono (hb0).size)).size)).size)).size)).trans (hbq8.mono (((((hb0).trans (hbq1.mono (hb0).size)).trans (hbq2.mono ((hb0).trans (hbq1.mono (hb0).size)).size)).trans (hbq3.mono (((hb0).trans (hbq1.mono (hb0).size)).trans (hbq2.mono ((hb0).trans (hbq1.mono (hb0).size)).size)).size)).trans (hbq7.mono ((((hb0).trans (hbq1.mono (hb0).size)).trans (hbq2.mono ((hb0).trans (hbq1.mono (hb0).size)).size)).trans (hbq3.mono (((hb0).trans (hbq1.mono (hb0).size)).trans (hbq2.mono ((hb0).trans (hbq1.mono (hb0).size)).size)).size)).size)).size)).trans (hbq9.mono ((((((hb0).trans (hbq1.mono (hb0).size)).trans (hbq2.mono ((hb0).trans (hbq1.mono (hb0).size)).size)).trans (hbq3.mono (((hb0).trans (hbq1.mono (hb0).size)).trans (hbq2.mono ((hb0).trans (hbq1.mono (hb0).size)).size)).size)).trans (hbq7.mono ((((hb0).trans (hbq1.mono (hb0).size)).trans (hbq2.mono ((hb0).trans (hbq1.mono (hb0).size)).size)).trans (hbq3.mono (((hb0).trans (hbq1.mono (hb0).size)).trans (hbq2.mono ((hb0).trans (hbq1.mono (hb0).size)).size)).size)).size)).trans (hbq8.mono (((((hb0).trans (hbq1.mono (hb0).size)).trans (hbq2.mono ((hb0).trans (hbq1.mono (hb0).size)).size)).trans (hbq3.mono (((hb0).trans (hbq1.mono (hb0).size)).trans (hbq2.mono ((hb0).trans (hbq1.mono (hb0).size)).size)).size)).trans (hbq7.mono ((((hb0).trans (hbq1.mono (hb0).size)).trans (hbq2.mono ((hb0).trans (hbq1.mono (hb0).size)).size)).trans (hbq3.mono (((hb0).trans (hbq1.mono (hb0).size)).trans (hbq2.mono ((hb0).trans (hbq1.mono (hb0).size)).size)).size)).size)).size)).size)))
      · skip
        have hbq10 := (Below.refl ((w1).alloc (.cells #[.slice (some ⟨w.drew.heap.size, 0, none⟩) f.k.size ck] 35)).heap.size ((w1).alloc (.cells #[.slice (some ⟨w.drew.heap.size, 0, none⟩) f.k.size ck] 35))).alloc (Nat.le_refl _) (.cells #[.slice f.A f.l.length f.c] 35)
        refine next_op (v := .slice (some ⟨((w1).alloc (.cells #[.slice (some ⟨w.drew.heap.size, 0, none⟩) f.k.size ck] 35)).heap.size, 0, none⟩) 1 1) (by kernel_rfl) (run_buildSlice_op (size := 1) _ (.slice none 0 0) Try.underlying99 (by kernel_rfl) (by decide) (by decide) (by kernel_rfl)) ((FactS.keep) hH2 hbq10) (fun hH10 => ?_)
        simp only [Act.put, List.setIfInBounds_toArray, List.set_cons_zero, List.set_cons_succ]
        have hrl := (hrl).below hbq10
        have hrv := (hrv).below hbq10
        have hrk := (hrk).below hbq10
        have hgk := (hgk).below hbq10
        have hgv := Rd.one ((w1).alloc (.cells #[.slice (some ⟨w.drew.heap.size, 0, none⟩) f.k.size ck] 35)) (.slice f.A f.l.length f.c) 35
        refine wpAnyH_ready (rs := [5]) (by kernel_rfl) (by simp) ?_
        refine AllReadyH.cons (o := (⟨some 49, Op.call { callee := Callee.value (Operand.func 61), args := #[Operand.tmp 44, Operand.tmp 48], argTypes := #[35, 99] }, 35, "fact.go:87", #[{ on := 0, ground := Ground.data }, { on := 4, ground := Ground.data }], none⟩)) rfl ?_ (AllReadyH.nil)
        · skip
          refine next_call (f := 61) (args := #[.slice A l.length c, .slice (some ⟨w1.heap.size, 0, none⟩) 1 1]) (by kernel_rfl) (by kernel_rfl) (bytes1_any A c l _ ck (strB f.k) _ (((w1).alloc (.cells #[.slice (some ⟨w.drew.heap.size, 0, none⟩) f.k.size ck] 35)).alloc (.cells #[.slice f.A f.l.length f.c] 35)) hrl hc hrk hck hgk (by rw [strB_length]; omega)) ?_
          rintro e w11 ⟨A5, c5, rfl, hr5, hc5, hb5⟩
          have hbq11 := hb5
          refine ⟨.slice A5 (l ++ lenB (strB f.k)).length c5, rfl, (FactS.keep) hH10 hbq11, fun hH11 => ?_⟩
          simp only [Act.put, List.setIfInBounds_toArray, List.set_cons_zero, List.set_cons_succ]
          have hrl := (hrl).below hbq11
          have hrv := (hrv).below hbq11
          have hrk := (hrk).below hbq11
          have hgk := (hgk).below hbq11
          have hgv := (hgv).below hbq11
          refine wpAnyH_ready (rs := [8]) (by kernel_rfl) (by simp) ?_
          refine AllReadyH.cons (o := (⟨some 52, Op.call { callee := Callee.value (Operand.func 62), args := #[Operand.tmp 49, Operand.tmp 51], argTypes := #[35, 69] }, 35, "fact.go:87", #[{ on := 5, ground := Ground.data }, { on := 7, ground := Ground.data }, { on := 5, ground := Ground.chain }], none⟩)) rfl ?_ (AllReadyH.nil)
          · skip
            refine next_call (f := 62) (args := #[.slice A5 (l ++ lenB (strB f.k)).length c5, .int .u64 (f.s : Nat)]) (by kernel_rfl) (by kernel_rfl) (num1_any A5 c5 f.s _ w11 hr5 hc5 hl5 hs) ?_
            rintro e w12 ⟨A8, c8, rfl, hr8, hc8, hb8⟩
            have hbq12 := hb8
            refine ⟨.slice A8 (l ++ lenB (strB f.k) ++ numB f.s).length c8, rfl, (FactS.keep) hH11 hbq12, fun hH12 => ?_⟩
            simp only [Act.put, List.setIfInBounds_toArray, List.set_cons_zero, List.set_cons_succ]
            have hrl := (hrl).below hbq12
            have hrv := (hrv).below hbq12
            have hrk := (hrk).below hbq12
            have hgk := (hgk).below hbq12
            have hgv := (hgv).below hbq12
            have hr5 := (hr5).below hbq12
            refine wpAnyH_ready (rs := [12]) (by kernel_rfl) (by simp) ?_
            refine AllReadyH.cons (o := (⟨some 56, Op.call { callee := Callee.value (Operand.func 61), args := #[Operand.tmp 52, Operand.tmp 55], argTypes := #[35, 99] }, 35, "fact.go:87", #[{ on := 8, ground := Ground.data }, { on := 11, ground := Ground.data }, { on := 8, ground := Ground.chain }], none⟩)) rfl ?_ (AllReadyH.nil)
            · skip
              refine next_call (f := 61) (args := #[.slice A8 (l ++ lenB (strB f.k) ++ numB f.s).length c8, .slice (some ⟨((w1).alloc (.cells #[.slice (some ⟨w.drew.heap.size, 0, none⟩) f.k.size ck] 35)).heap.size, 0, none⟩) 1 1]) (by kernel_rfl) (by kernel_rfl) (bytesEnc_any A8 c8 l f _ w12 hr8 hc8 hrv hvc hgv hl8) ?_
              rintro e w13 ⟨A12, c12, rfl, hr12, hc12, hb12⟩
              have hbq13 := hb12
              refine ⟨.slice A12 (l ++ encF f).length c12, rfl, (FactS.keep) hH12 hbq13, fun hH13 => ?_⟩
              simp only [Act.put, List.setIfInBounds_toArray, List.set_cons_zero, List.set_cons_succ]
              have hrl := (hrl).below hbq13
              have hrv := (hrv).below hbq13
              have hrk := (hrk).below hbq13
              have hgk := (hgk).below hbq13
              have hgv := (hgv).below hbq13
              have hr5 := (hr5).below hbq13
              have hr8 := (hr8).below hbq13
              refine wpAnyH_take (i := 13) (oi := (⟨some 7, Op.assign (Operand.tmp 56), 35, "fact.go:87", #[{ on := 12, ground := Ground.data }, { on := 12, ground := Ground.chain }, { on := 0, ground := Ground.phase }, { on := 1, ground := Ground.phase }, { on := 2, ground := Ground.phase }, { on := 3, ground := Ground.phase }, { on := 4, ground := Ground.phase }, { on := 5, ground := Ground.phase }, { on := 6, ground := Ground.phase }, { on := 7, ground := Ground.phase }, { on := 8, ground := Ground.phase }, { on := 9, ground := Ground.phase }, { on := 10, ground := Ground.phase }, { on := 11, ground := Ground.phase }, { on := 12, ground := Ground.phase }], none⟩)) (v := .slice A12 (l ++ encF f).length c12) rfl (by kernel_rfl) (by kernel_rfl) (by kernel_rfl) (fun _ _ _ h => h) (Or.inl ⟨by kernel_rfl, fun _ _ => by kernel_rfl⟩) hH13 ?_
              simp only [Act.put, List.setIfInBounds_toArray, List.set_cons_zero, List.set_cons_succ]
              refine wpAnyH_done (by kernel_rfl) ?_ _
              exact NoPanic.normal (hend _ _ _ _ _ _ _ _ _ _ _ _ _ _ A12 c12 hr12 hc12 (((((((hb0).trans (hbq1.mono (hb0).size)).trans (hbq2.mono ((hb0).trans (hbq1.mono (hb0).size)).size)).trans (hbq10.mono (((hb0).trans (hbq1.mono (hb0).size)).trans (hbq2.mono ((hb0).trans (hbq1.mono (hb0).size)).size)).size)).trans (hbq11.mono ((((hb0).trans (hbq1.mono (hb0).size)).trans (hbq2.mono ((hb0).trans (hbq1.mono (hb0).size)).size)).trans (hbq10.mono (((hb0).trans (hbq1.mono (hb0).size)).trans (hbq2.mono ((hb0).trans (hbq1.mono (hb0).size)).size)).size)).size)).trans (hbq12.mono (((((hb0).trans (hbq1.mono (hb0).size)).trans (hbq2.mono ((hb0).trans (hbq1.mono (hb0).size)).size)).trans (hbq10.mono (((hb0).trans (hbq1.mono (hb0).size)).trans (hbq2.mono ((hb0).trans (hbq1.mono (hb0).size)).size)).size)).trans (hbq11.mono ((((hb0).trans (hbq1.mono (hb0).size)).trans (hbq2.mono ((hb0).trans (hbq1.mono (hb0).size)).size)).trans (hbq10.mono (((hb0).trans (hbq1.mono (hb0).size)).trans (hbq2.mono ((hb0).trans (hbq1.mono (hb0).size)).size)).size)).size)).size)).trans (hbq13.mono ((((((hb0).trans (hbq1.mono (hb0).size)).trans (hbq2.mono ((hb0).trans (hbq1.mono (hb0).size)).size)).trans (hbq10.mono (((hb0).trans (hbq1.mono (hb0).size)).trans (hbq2.mono ((hb0).trans (hbq1.mono (hb0).size)).size)).size)).trans (hbq11.mono ((((hb0).trans (hbq1.mono (hb0).size)).trans (hbq2.mono ((hb0).trans (hbq1.mono (hb0).size)).size)).trans (hbq10.mono (((hb0).trans (hbq1.mono (hb0).size)).trans (hbq2.mono ((hb0).trans (hbq1.mono (hb0).size)).size)).size)).size)).trans (hbq12.mono (((((hb0).trans (hbq1.mono (hb0).size)).trans (hbq2.mono ((hb0).trans (hbq1.mono (hb0).size)).size)).trans (hbq10.mono (((hb0).trans (hbq1.mono (hb0).size)).trans (hbq2.mono ((hb0).trans (hbq1.mono (hb0).size)).size)).size)).trans (hbq11.mono ((((hb0).trans (hbq1.mono (hb0).size)).trans (hbq2.mono ((hb0).trans (hbq1.mono (hb0).size)).size)).trans (hbq10.mono (((hb0).trans (hbq1.mono (hb0).size)).trans (hbq2.mono ((hb0).trans (hbq1.mono (hb0).size)).size)).size)).size)).size)).size)))
    · skip
      have hbq14 := (Below.refl (w1).heap.size (w1)).alloc (Nat.le_refl _) (.cells #[.slice f.A f.l.length f.c] 35)
      refine next_op (v := .slice (some ⟨w1.heap.size, 0, none⟩) 1 1) (by kernel_rfl) (run_buildSlice_op (size := 1) _ (.slice none 0 0) Try.underlying99 (by kernel_rfl) (by decide) (by decide) (by kernel_rfl)) ((FactS.keep) hH1 hbq14) (fun hH14 => ?_)
      simp only [Act.put, List.setIfInBounds_toArray, List.set_cons_zero, List.set_cons_succ]
      have hrl := (hrl).below hbq14
      have hrv := (hrv).below hbq14
      have hrk := (hrk).below hbq14
      have hgv := Rd.one (w1) (.slice f.A f.l.length f.c) 35
      refine wpAnyH_ready (rs := [4]) (by kernel_rfl) (by simp) ?_
      refine AllReadyH.cons (o := (⟨some 48, Op.buildSlice 99 1 #[(0, Operand.tmp 47)], 99, "fact.go:87", #[{ on := 3, ground := Ground.data }], none⟩)) rfl ?_ (AllReadyH.nil)
      · skip
        have hbq15 := (Below.refl ((w1).alloc (.cells #[.slice f.A f.l.length f.c] 35)).heap.size ((w1).alloc (.cells #[.slice f.A f.l.length f.c] 35))).alloc (Nat.le_refl _) (.cells #[.slice (some ⟨w.drew.heap.size, 0, none⟩) f.k.size ck] 35)
        refine next_op (v := .slice (some ⟨((w1).alloc (.cells #[.slice f.A f.l.length f.c] 35)).heap.size, 0, none⟩) 1 1) (by kernel_rfl) (run_buildSlice_op (size := 1) _ (.slice none 0 0) Try.underlying99 (by kernel_rfl) (by decide) (by decide) (by kernel_rfl)) ((FactS.keep) hH14 hbq15) (fun hH15 => ?_)
        simp only [Act.put, List.setIfInBounds_toArray, List.set_cons_zero, List.set_cons_succ]
        have hrl := (hrl).below hbq15
        have hrv := (hrv).below hbq15
        have hrk := (hrk).below hbq15
        have hgv := (hgv).below hbq15
        have hgk := Rd.one ((w1).alloc (.cells #[.slice f.A f.l.length f.c] 35)) (.slice (some ⟨w.drew.heap.size, 0, none⟩) f.k.size ck) 35
        refine wpAnyH_ready (rs := [5]) (by kernel_rfl) (by simp) ?_
        refine AllReadyH.cons (o := (⟨some 49, Op.call { callee := Callee.value (Operand.func 61), args := #[Operand.tmp 44, Operand.tmp 48], argTypes := #[35, 99] }, 35, "fact.go:87", #[{ on := 0, ground := Ground.data }, { on := 4, ground := Ground.data }], none⟩)) rfl ?_ (AllReadyH.nil)
        · skip
          refine next_call (f := 61) (args := #[.slice A l.length c, .slice (some ⟨((w1).alloc (.cells #[.slice f.A f.l.length f.c] 35)).heap.size, 0, none⟩) 1 1]) (by kernel_rfl) (by kernel_rfl) (bytes1_any A c l _ ck (strB f.k) _ (((w1).alloc (.cells #[.slice f.A f.l.length f.c] 35)).alloc (.cells #[.slice (some ⟨w.drew.heap.size, 0, none⟩) f.k.size ck] 35)) hrl hc hrk hck hgk (by rw [strB_length]; omega)) ?_
          rintro e w16 ⟨A5, c5, rfl, hr5, hc5, hb5⟩
          have hbq16 := hb5
          refine ⟨.slice A5 (l ++ lenB (strB f.k)).length c5, rfl, (FactS.keep) hH15 hbq16, fun hH16 => ?_⟩
          simp only [Act.put, List.setIfInBounds_toArray, List.set_cons_zero, List.set_cons_succ]
          have hrl := (hrl).below hbq16
          have hrv := (hrv).below hbq16
          have hrk := (hrk).below hbq16
          have hgv := (hgv).below hbq16
          have hgk := (hgk).below hbq16
          refine wpAnyH_ready (rs := [8]) (by kernel_rfl) (by simp) ?_
          refine AllReadyH.cons (o := (⟨some 52, Op.call { callee := Callee.value (Operand.func 62), args := #[Operand.tmp 49, Operand.tmp 51], argTypes := #[35, 69] }, 35, "fact.go:87", #[{ on := 5, ground := Ground.data }, { on := 7, ground := Ground.data }, { on := 5, ground := Ground.chain }], none⟩)) rfl ?_ (AllReadyH.nil)
          · skip
            refine next_call (f := 62) (args := #[.slice A5 (l ++ lenB (strB f.k)).length c5, .int .u64 (f.s : Nat)]) (by kernel_rfl) (by kernel_rfl) (num1_any A5 c5 f.s _ w16 hr5 hc5 hl5 hs) ?_
            rintro e w17 ⟨A8, c8, rfl, hr8, hc8, hb8⟩
            have hbq17 := hb8
            refine ⟨.slice A8 (l ++ lenB (strB f.k) ++ numB f.s).length c8, rfl, (FactS.keep) hH16 hbq17, fun hH17 => ?_⟩
            simp only [Act.put, List.setIfInBounds_toArray, List.set_cons_zero, List.set_cons_succ]
            have hrl := (hrl).below hbq17
            have hrv := (hrv).below hbq17
            have hrk := (hrk).below hbq17
            have hgv := (hgv).below hbq17
            have hgk := (hgk).below hbq17
            have hr5 := (hr5).below hbq17
            refine wpAnyH_ready (rs := [12]) (by kernel_rfl) (by simp) ?_
            refine AllReadyH.cons (o := (⟨some 56, Op.call { callee := Callee.value (Operand.func 61), args := #[Operand.tmp 52, Operand.tmp 55], argTypes := #[35, 99] }, 35, "fact.go:87", #[{ on := 8, ground := Ground.data }, { on := 11, ground := Ground.data }, { on := 8, ground := Ground.chain }], none⟩)) rfl ?_ (AllReadyH.nil)
            · skip
              refine next_call (f := 61) (args := #[.slice A8 (l ++ lenB (strB f.k) ++ numB f.s).length c8, .slice (some ⟨w1.heap.size, 0, none⟩) 1 1]) (by kernel_rfl) (by kernel_rfl) (bytesEnc_any A8 c8 l f _ w17 hr8 hc8 hrv hvc hgv hl8) ?_
              rintro e w18 ⟨A12, c12, rfl, hr12, hc12, hb12⟩
              have hbq18 := hb12
              refine ⟨.slice A12 (l ++ encF f).length c12, rfl, (FactS.keep) hH17 hbq18, fun hH18 => ?_⟩
              simp only [Act.put, List.setIfInBounds_toArray, List.set_cons_zero, List.set_cons_succ]
              have hrl := (hrl).below hbq18
              have hrv := (hrv).below hbq18
              have hrk := (hrk).below hbq18
              have hgv := (hgv).below hbq18
              have hgk := (hgk).below hbq18
              have hr5 := (hr5).below hbq18
              have hr8 := (hr8).below hbq18
              refine wpAnyH_take (i := 13) (oi := (⟨some 7, Op.assign (Operand.tmp 56), 35, "fact.go:87", #[{ on := 12, ground := Ground.data }, { on := 12, ground := Ground.chain }, { on := 0, ground := Ground.phase }, { on := 1, ground := Ground.phase }, { on := 2, ground := Ground.phase }, { on := 3, ground := Ground.phase }, { on := 4, ground := Ground.phase }, { on := 5, ground := Ground.phase }, { on := 6, ground := Ground.phase }, { on := 7, ground := Ground.phase }, { on := 8, ground := Ground.phase }, { on := 9, ground := Ground.phase }, { on := 10, ground := Ground.phase }, { on := 11, ground := Ground.phase }, { on := 12, ground := Ground.phase }], none⟩)) (v := .slice A12 (l ++ encF f).length c12) rfl (by kernel_rfl) (by kernel_rfl) (by kernel_rfl) (fun _ _ _ h => h) (Or.inl ⟨by kernel_rfl, fun _ _ => by kernel_rfl⟩) hH18 ?_
              simp only [Act.put, List.setIfInBounds_toArray, List.set_cons_zero, List.set_cons_succ]
              refine wpAnyH_done (by kernel_rfl) ?_ _
              exact NoPanic.normal (hend _ _ _ _ _ _ _ _ _ _ _ _ _ _ A12 c12 hr12 hc12 (((((((hb0).trans (hbq1.mono (hb0).size)).trans (hbq14.mono ((hb0).trans (hbq1.mono (hb0).size)).size)).trans (hbq15.mono (((hb0).trans (hbq1.mono (hb0).size)).trans (hbq14.mono ((hb0).trans (hbq1.mono (hb0).size)).size)).size)).trans (hbq16.mono ((((hb0).trans (hbq1.mono (hb0).size)).trans (hbq14.mono ((hb0).trans (hbq1.mono (hb0).size)).size)).trans (hbq15.mono (((hb0).trans (hbq1.mono (hb0).size)).trans (hbq14.mono ((hb0).trans (hbq1.mono (hb0).size)).size)).size)).size)).trans (hbq17.mono (((((hb0).trans (hbq1.mono (hb0).size)).trans (hbq14.mono ((hb0).trans (hbq1.mono (hb0).size)).size)).trans (hbq15.mono (((hb0).trans (hbq1.mono (hb0).size)).trans (hbq14.mono ((hb0).trans (hbq1.mono (hb0).size)).size)).size)).trans (hbq16.mono ((((hb0).trans (hbq1.mono (hb0).size)).trans (hbq14.mono ((hb0).trans (hbq1.mono (hb0).size)).size)).trans (hbq15.mono (((hb0).trans (hbq1.mono (hb0).size)).trans (hbq14.mono ((hb0).trans (hbq1.mono (hb0).size)).size)).size)).size)).size)).trans (hbq18.mono ((((((hb0).trans (hbq1.mono (hb0).size)).trans (hbq14.mono ((hb0).trans (hbq1.mono (hb0).size)).size)).trans (hbq15.mono (((hb0).trans (hbq1.mono (hb0).size)).trans (hbq14.mono ((hb0).trans (hbq1.mono (hb0).size)).size)).size)).trans (hbq16.mono ((((hb0).trans (hbq1.mono (hb0).size)).trans (hbq14.mono ((hb0).trans (hbq1.mono (hb0).size)).size)).trans (hbq15.mono (((hb0).trans (hbq1.mono (hb0).size)).trans (hbq14.mono ((hb0).trans (hbq1.mono (hb0).size)).size)).size)).size)).trans (hbq17.mono (((((hb0).trans (hbq1.mono (hb0).size)).trans (hbq14.mono ((hb0).trans (hbq1.mono (hb0).size)).size)).trans (hbq15.mono (((hb0).trans (hbq1.mono (hb0).size)).trans (hbq14.mono ((hb0).trans (hbq1.mono (hb0).size)).size)).size)).trans (hbq16.mono ((((hb0).trans (hbq1.mono (hb0).size)).trans (hbq14.mono ((hb0).trans (hbq1.mono (hb0).size)).size)).trans (hbq15.mono (((hb0).trans (hbq1.mono (hb0).size)).trans (hbq14.mono ((hb0).trans (hbq1.mono (hb0).size)).size)).size)).size)).size)).size)))
  · skip
    have hbq19 := (Below.refl (w.drew).heap.size (w.drew)).alloc (Nat.le_refl _) (.cells #[.slice f.A f.l.length f.c] 35)
    refine next_op (v := .slice (some ⟨w.drew.heap.size, 0, none⟩) 1 1) (by kernel_rfl) (run_buildSlice_op (size := 1) _ (.slice none 0 0) Try.underlying99 (by kernel_rfl) (by decide) (by decide) (by kernel_rfl)) ((FactS.keep) hHeld hbq19) (fun hH19 => ?_)
    simp only [Act.put, List.setIfInBounds_toArray, List.set_cons_zero, List.set_cons_succ]
    have hrl := (hrl).below hbq19
    have hrv := (hrv).below hbq19
    have hgv := Rd.one (w.drew) (.slice f.A f.l.length f.c) 35
    refine wpAnyH_ready (rs := [3]) (by kernel_rfl) (by simp) ?_
    refine AllReadyH.cons (o := (⟨some 47, Op.convert 9 35 (Operand.tmp 46), 35, "fact.go:87", #[{ on := 2, ground := Ground.data }], none⟩)) rfl ?_ (AllReadyH.nil)
    · skip
      obtain ⟨ck, w20, he20, hrk, hck, hbq20⟩ := conv_str ((w.drew).alloc (.cells #[.slice f.A f.l.length f.c] 35)) f.k
      refine next_op (v := .slice (some ⟨((w.drew).alloc (.cells #[.slice f.A f.l.length f.c] 35)).heap.size, 0, none⟩) f.k.size ck) (by kernel_rfl) (run_conv2_op (by kernel_rfl) he20) ((FactS.keep) hH19 hbq20) (fun hH20 => ?_)
      simp only [Act.put, List.setIfInBounds_toArray, List.set_cons_zero, List.set_cons_succ]
      have hrl := (hrl).below hbq20
      have hrv := (hrv).below hbq20
      have hgv := (hgv).below hbq20
      refine wpAnyH_ready (rs := [4]) (by kernel_rfl) (by simp) ?_
      refine AllReadyH.cons (o := (⟨some 48, Op.buildSlice 99 1 #[(0, Operand.tmp 47)], 99, "fact.go:87", #[{ on := 3, ground := Ground.data }], none⟩)) rfl ?_ (AllReadyH.nil)
      · skip
        have hbq21 := (Below.refl (w20).heap.size (w20)).alloc (Nat.le_refl _) (.cells #[.slice (some ⟨((w.drew).alloc (.cells #[.slice f.A f.l.length f.c] 35)).heap.size, 0, none⟩) f.k.size ck] 35)
        refine next_op (v := .slice (some ⟨w20.heap.size, 0, none⟩) 1 1) (by kernel_rfl) (run_buildSlice_op (size := 1) _ (.slice none 0 0) Try.underlying99 (by kernel_rfl) (by decide) (by decide) (by kernel_rfl)) ((FactS.keep) hH20 hbq21) (fun hH21 => ?_)
        simp only [Act.put, List.setIfInBounds_toArray, List.set_cons_zero, List.set_cons_succ]
        have hrl := (hrl).below hbq21
        have hrv := (hrv).below hbq21
        have hgv := (hgv).below hbq21
        have hrk := (hrk).below hbq21
        have hgk := Rd.one (w20) (.slice (some ⟨((w.drew).alloc (.cells #[.slice f.A f.l.length f.c] 35)).heap.size, 0, none⟩) f.k.size ck) 35
        refine wpAnyH_ready (rs := [5]) (by kernel_rfl) (by simp) ?_
        refine AllReadyH.cons (o := (⟨some 49, Op.call { callee := Callee.value (Operand.func 61), args := #[Operand.tmp 44, Operand.tmp 48], argTypes := #[35, 99] }, 35, "fact.go:87", #[{ on := 0, ground := Ground.data }, { on := 4, ground := Ground.data }], none⟩)) rfl ?_ (AllReadyH.nil)
        · skip
          refine next_call (f := 61) (args := #[.slice A l.length c, .slice (some ⟨w20.heap.size, 0, none⟩) 1 1]) (by kernel_rfl) (by kernel_rfl) (bytes1_any A c l _ ck (strB f.k) _ ((w20).alloc (.cells #[.slice (some ⟨((w.drew).alloc (.cells #[.slice f.A f.l.length f.c] 35)).heap.size, 0, none⟩) f.k.size ck] 35)) hrl hc hrk hck hgk (by rw [strB_length]; omega)) ?_
          rintro e w22 ⟨A5, c5, rfl, hr5, hc5, hb5⟩
          have hbq22 := hb5
          refine ⟨.slice A5 (l ++ lenB (strB f.k)).length c5, rfl, (FactS.keep) hH21 hbq22, fun hH22 => ?_⟩
          simp only [Act.put, List.setIfInBounds_toArray, List.set_cons_zero, List.set_cons_succ]
          have hrl := (hrl).below hbq22
          have hrv := (hrv).below hbq22
          have hgv := (hgv).below hbq22
          have hrk := (hrk).below hbq22
          have hgk := (hgk).below hbq22
          refine wpAnyH_ready (rs := [8]) (by kernel_rfl) (by simp) ?_
          refine AllReadyH.cons (o := (⟨some 52, Op.call { callee := Callee.value (Operand.func 62), args := #[Operand.tmp 49, Operand.tmp 51], argTypes := #[35, 69] }, 35, "fact.go:87", #[{ on := 5, ground := Ground.data }, { on := 7, ground := Ground.data }, { on := 5, ground := Ground.chain }], none⟩)) rfl ?_ (AllReadyH.nil)
          · skip
            refine next_call (f := 62) (args := #[.slice A5 (l ++ lenB (strB f.k)).length c5, .int .u64 (f.s : Nat)]) (by kernel_rfl) (by kernel_rfl) (num1_any A5 c5 f.s _ w22 hr5 hc5 hl5 hs) ?_
            rintro e w23 ⟨A8, c8, rfl, hr8, hc8, hb8⟩
            have hbq23 := hb8
            refine ⟨.slice A8 (l ++ lenB (strB f.k) ++ numB f.s).length c8, rfl, (FactS.keep) hH22 hbq23, fun hH23 => ?_⟩
            simp only [Act.put, List.setIfInBounds_toArray, List.set_cons_zero, List.set_cons_succ]
            have hrl := (hrl).below hbq23
            have hrv := (hrv).below hbq23
            have hgv := (hgv).below hbq23
            have hrk := (hrk).below hbq23
            have hgk := (hgk).below hbq23
            have hr5 := (hr5).below hbq23
            refine wpAnyH_ready (rs := [12]) (by kernel_rfl) (by simp) ?_
            refine AllReadyH.cons (o := (⟨some 56, Op.call { callee := Callee.value (Operand.func 61), args := #[Operand.tmp 52, Operand.tmp 55], argTypes := #[35, 99] }, 35, "fact.go:87", #[{ on := 8, ground := Ground.data }, { on := 11, ground := Ground.data }, { on := 8, ground := Ground.chain }], none⟩)) rfl ?_ (AllReadyH.nil)
            · skip
              refine next_call (f := 61) (args := #[.slice A8 (l ++ lenB (strB f.k) ++ numB f.s).length c8, .slice (some ⟨w.drew.heap.size, 0, none⟩) 1 1]) (by kernel_rfl) (by kernel_rfl) (bytesEnc_any A8 c8 l f _ w23 hr8 hc8 hrv hvc hgv hl8) ?_
              rintro e w24 ⟨A12, c12, rfl, hr12, hc12, hb12⟩
              have hbq24 := hb12
              refine ⟨.slice A12 (l ++ encF f).length c12, rfl, (FactS.keep) hH23 hbq24, fun hH24 => ?_⟩
              simp only [Act.put, List.setIfInBounds_toArray, List.set_cons_zero, List.set_cons_succ]
              have hrl := (hrl).below hbq24
              have hrv := (hrv).below hbq24
              have hgv := (hgv).below hbq24
              have hrk := (hrk).below hbq24
              have hgk := (hgk).below hbq24
              have hr5 := (hr5).below hbq24
              have hr8 := (hr8).below hbq24
              refine wpAnyH_take (i := 13) (oi := (⟨some 7, Op.assign (Operand.tmp 56), 35, "fact.go:87", #[{ on := 12, ground := Ground.data }, { on := 12, ground := Ground.chain }, { on := 0, ground := Ground.phase }, { on := 1, ground := Ground.phase }, { on := 2, ground := Ground.phase }, { on := 3, ground := Ground.phase }, { on := 4, ground := Ground.phase }, { on := 5, ground := Ground.phase }, { on := 6, ground := Ground.phase }, { on := 7, ground := Ground.phase }, { on := 8, ground := Ground.phase }, { on := 9, ground := Ground.phase }, { on := 10, ground := Ground.phase }, { on := 11, ground := Ground.phase }, { on := 12, ground := Ground.phase }], none⟩)) (v := .slice A12 (l ++ encF f).length c12) rfl (by kernel_rfl) (by kernel_rfl) (by kernel_rfl) (fun _ _ _ h => h) (Or.inl ⟨by kernel_rfl, fun _ _ => by kernel_rfl⟩) hH24 ?_
              simp only [Act.put, List.setIfInBounds_toArray, List.set_cons_zero, List.set_cons_succ]
              refine wpAnyH_done (by kernel_rfl) ?_ _
              exact NoPanic.normal (hend _ _ _ _ _ _ _ _ _ _ _ _ _ _ A12 c12 hr12 hc12 (((((((hb0).trans (hbq19.mono (hb0).size)).trans (hbq20.mono ((hb0).trans (hbq19.mono (hb0).size)).size)).trans (hbq21.mono (((hb0).trans (hbq19.mono (hb0).size)).trans (hbq20.mono ((hb0).trans (hbq19.mono (hb0).size)).size)).size)).trans (hbq22.mono ((((hb0).trans (hbq19.mono (hb0).size)).trans (hbq20.mono ((hb0).trans (hbq19.mono (hb0).size)).size)).trans (hbq21.mono (((hb0).trans (hbq19.mono (hb0).size)).trans (hbq20.mono ((hb0).trans (hbq19.mono (hb0).size)).size)).size)).size)).trans (hbq23.mono (((((hb0).trans (hbq19.mono (hb0).size)).trans (hbq20.mono ((hb0).trans (hbq19.mono (hb0).size)).size)).trans (hbq21.mono (((hb0).trans (hbq19.mono (hb0).size)).trans (hbq20.mono ((hb0).trans (hbq19.mono (hb0).size)).size)).size)).trans (hbq22.mono ((((hb0).trans (hbq19.mono (hb0).size)).trans (hbq20.mono ((hb0).trans (hbq19.mono (hb0).size)).size)).trans (hbq21.mono (((hb0).trans (hbq19.mono (hb0).size)).trans (hbq20.mono ((hb0).trans (hbq19.mono (hb0).size)).size)).size)).size)).size)).trans (hbq24.mono ((((((hb0).trans (hbq19.mono (hb0).size)).trans (hbq20.mono ((hb0).trans (hbq19.mono (hb0).size)).size)).trans (hbq21.mono (((hb0).trans (hbq19.mono (hb0).size)).trans (hbq20.mono ((hb0).trans (hbq19.mono (hb0).size)).size)).size)).trans (hbq22.mono ((((hb0).trans (hbq19.mono (hb0).size)).trans (hbq20.mono ((hb0).trans (hbq19.mono (hb0).size)).size)).trans (hbq21.mono (((hb0).trans (hbq19.mono (hb0).size)).trans (hbq20.mono ((hb0).trans (hbq19.mono (hb0).size)).size)).size)).size)).trans (hbq23.mono (((((hb0).trans (hbq19.mono (hb0).size)).trans (hbq20.mono ((hb0).trans (hbq19.mono (hb0).size)).size)).trans (hbq21.mono (((hb0).trans (hbq19.mono (hb0).size)).trans (hbq20.mono ((hb0).trans (hbq19.mono (hb0).size)).size)).size)).trans (hbq22.mono ((((hb0).trans (hbq19.mono (hb0).size)).trans (hbq20.mono ((hb0).trans (hbq19.mono (hb0).size)).size)).trans (hbq21.mono (((hb0).trans (hbq19.mono (hb0).size)).trans (hbq20.mono ((hb0).trans (hbq19.mono (hb0).size)).size)).size)).size)).size)).size)))
end Go.Proofs.Ytadgaphgomagkaa
/- slices.Grow, slices.Concat of bytes. -/
namespace Go.Proofs.Ytadgaphgomagkaa
open Go.RowKit
set_option maxHeartbeats 2000000
set_option maxRecDepth 100000

theorem own_take {w : World} {base : Nat} {e : TypeId} {n c m : Nat} {A : Option Addr} {xs : List Value} (h : w.ownsRow base e 1 (.slice A n c) n xs) (hm : m ≤ n) : w.ownsRow base e 1 (.slice A m c) m (xs.take m) := by
  obtain ⟨h1, h2⟩ := h
  refine ⟨by rw [List.length_take, h1]; simp; omega, ?_⟩
  rcases h2 with ⟨h0, hn⟩ | ⟨g, cap, cur, h0, hg1, hg2, hg3, hg4, hg5, hg6⟩
  · injection h0 with e1 e2 e3
    subst e1 e3
    have : m = 0 := by omega
    subst this
    exact .inl ⟨rfl, rfl⟩
  · injection h0 with e1 e2 e3
    subst e1 e3
    refine .inr ⟨g, c, cur, rfl, hg1, hg2, by omega, hg4, hg5, ?_⟩
    rw [← hg6, List.take_take]
    congr 1
    omega
theorem grow_any (n : Nat) (w : World) (hn : n ≤ 140737488355328) :
    Calls Try.prog 94 #[.slice none 0 0, .int .i64 (n : Nat)] w fun e w' => ∃ A' c', e = .returned (.slice A' 0 c') ∧ w'.ownsRow w.heap.size 5 1 (.slice A' 0 c') 0 [] ∧ Below w.heap.size w w' := by
  by_cases h0 : n = 0
  · subst h0
    go_enter Try.func94, Try.ntmps94
    go_wp2
    go_ret
    exact ⟨none, 0, rfl, World.ownsRow_nil _ _ _ _, Below.refl _ _⟩
  · have h1 : (0 : Int) < (n : Int) := by omega
    have hs : 0 ≤ n := by omega
    go_enter Try.func94, Try.ntmps94
    go_wp2_with (at_builtin; refine wpList_appz _ rfl _ _ rfl slB rfl rfl .i64 .i64 Try.underlying3 w.heap.size (.slice none 0 0) 0 [] rfl (World.ownsRow_nil _ _ _ _) n rfl (by unfold maxLen; omega) (by omega) (Nat.le_refl _) ?_; intro A2 c2 w2 ho2 hg2)
    go_ret
    refine ⟨A2, c2, rfl, ?_, hg2.fresh⟩
    have := own_take ho2 (m := 0) (by omega)
    simpa using this

theorem concat_any (A : Option Addr) (c : Nat) (ps : List Sb) (w : World) (hr : Rd w A (ps.map Sb.val)) (hl : ps.length ≤ 1000) (hok : ∀ s ∈ ps, s.ok w) (hf : (flat ps).length ≤ 140737488355328) :
    Calls Try.prog 51 #[.slice A ps.length c] w fun e w' => ∃ A' c', e = .returned (.slice A' (flat ps).length c') ∧ w'.ownsRow w.heap.size 5 1 (.slice A' (flat ps).length c') (flat ps).length (byts (flat ps)) ∧ Below w.heap.size w w' := by
  have hg := grow_any (flat ps).length w hf
  have hfl : ∀ k (hk : k < ps.length), (flat (ps.take k)).length + ps[k].l.length = (flat (ps.take (k + 1))).length ∧ (flat (ps.take (k + 1))).length ≤ (flat ps).length := by
    intro k hk
    have e1 := flat_take ps k hk
    have e2 : flat ps = flat (ps.take (k + 1)) ++ flat (ps.drop (k + 1)) := by unfold flat; rw [← List.flatMap_append, List.take_append_drop]
    refine ⟨by rw [e1, List.length_append], by rw [e2, List.length_append]; omega⟩
  go_enter Try.func51, Try.ntmps51
  go_wp2
  go_loop [3, 11] (fun a i => ∃ k : Nat, k ≤ ps.length ∧ i = .int .i64 k ∧ a = .int .i64 ((flat (ps.take k)).length : Nat)) (fun _ i => ps.length - (intOf i).toNat)
  case atStart => exact ⟨0, by omega, rfl, rfl⟩
  case round =>
    obtain ⟨k, hk, rfl, rfl⟩ := hrel
    by_cases hlt : k < ps.length
    · obtain ⟨ad, rfl, hb, hcell⟩ := hr.at_ (k := k) (by simpa using hlt)
      have hc1 : w.cell? (ad.add k) = some (ps[k]).val := by rw [hcell]; simp
      obtain ⟨f1, f2⟩ := hfl k hlt
      generalize ps[k] = p at *
      obtain ⟨Ap, cp, lp⟩ := p
      simp only [Sb.val] at *
      have r1 : (k : Int) < (ps.length : Int) := by omega
      generalize (flat (ps.take k)).length = y at *
      generalize hy2 : (flat (ps.take (k + 1))).length = y2 at *
      have r2 : ¬ (y : Int) + (lp.length : Int) < 0 := by omega
      clear hcell hg hfl hr hok
      go_wp2
      refine ⟨⟨k + 1, by omega, by go_num, ?_⟩, by simp only [intOf]; omega⟩
      rw [hy2, ← f1]
      go_num
    · obtain rfl : k = ps.length := by omega
      have r1 : ¬ (ps.length : Int) < (ps.length : Int) := by omega
      rw [List.take_length]
      go_wp2_with fail
      refine hg.mono ?_
      rintro e w1 ⟨A1, c1, rfl, ho1, hb1⟩
      clear hg
      go_wp2_with fail
      go_loopg [6, 27] ps.length (fun m s6 s27 wr => ∃ (k : Nat) (A' : Option Addr) (c' : Nat), m = ps.length - k ∧ k ≤ ps.length ∧ s27 = .int .i64 (k : Nat) ∧ s6 = .slice A' (flat (ps.take k)).length c' ∧ wr.ownsRow w.heap.size 5 1 (.slice A' (flat (ps.take k)).length c') (flat (ps.take k)).length (byts (flat (ps.take k))) ∧ Below w.heap.size w wr)
      case atStart => exact ⟨0, A1, c1, rfl, by omega, rfl, rfl, ho1, hb1⟩
      case round =>
        clear ho1 hb1
        obtain ⟨k, A', c', rfl, hk, rfl, rfl, ho, hb⟩ := hrel
        by_cases hlt : k < ps.length
        · obtain ⟨ad, rfl, hbl, hcell⟩ := (hr.below hb).at_ (k := k) (by simpa using hlt)
          have hc1 : wr.cell? (ad.add k) = some (ps[k]).val := by rw [hcell]; simp
          obtain ⟨f1, f2⟩ := hfl k hlt
          have hft := flat_take ps k hlt
          obtain ⟨hp1, hp2, hp3⟩ := Sb.ok_below (hok _ (List.getElem_mem hlt)) hb
          generalize ps[k] = p at *
          obtain ⟨Ap, cp, lp⟩ := p
          simp only [Sb.val] at *
          have r1 : (k : Int) < (ps.length : Int) := by omega
          have HY := Lib.hid hft
          generalize flat (ps.take k) = y at *
          generalize hy2 : flat (ps.take (k + 1)) = y2 at *
          have HY2 := Lib.hid hy2
          clear hy2
          clear hcell hft hfl
          have hsz := hb.size
          have HBL := Lib.hid (byts_length lp)
          go_wp2_with (at_builtin; refine wpList_app _ rfl _ _ rfl slB w.heap.size (.slice A' y.length c') y.length (byts y) rfl ho Ap lp.length cp (byts lp) rfl (by rw [HBL.out, Nat.mul_one]) hp1 (byts_one lp) (by unfold maxLen; omega) (by omega) hsz ?_; intro A4 c4 w4 ho4 hg4)
          go_roundg (ps.length - (k + 1))
          case measure => omega
          case rel =>
            refine ⟨k + 1, A4, c4, rfl, by omega, by go_num, by rw [HY2.out], ?_, hg4.under ho (Nat.le_refl _) hsz |> fun h => hb.trans h⟩
            rw [HY2.out, HY.out, byts_append, List.length_append]
            exact ho4
        · obtain rfl : k = ps.length := by omega
          rw [List.take_length] at ho ⊢
          go_wp2_with fail
          go_ret
          exact ⟨A', c', rfl, ho, hb⟩
end Go.Proofs.Ytadgaphgomagkaa
/- Tables are built: the plain law; the program's loop. -/
namespace Go.Proofs.Ytadgaphgomagkaa
open Go.RowKit
set_option maxHeartbeats 8000000
set_option maxRecDepth 100000

/-- blocks and the index -/
def bld (block : Nat) : List FM → List UInt8 → ByteArray → List UInt8 → List UInt8 → List UInt8 × List UInt8
  | [], _, _, out, ix => (out, ix)
  | f :: r, now, first, out, ix =>
    if block ≤ (now ++ encF f).length ∨ r = [] then
      bld block r [] (if now = [] then f.k else first) (out ++ sumB (now ++ encF f)) (ix ++ (lenB (strB (if now = [] then f.k else first)) ++ numB ((now ++ encF f).length + 4)))
    else bld block r (now ++ encF f) (if now = [] then f.k else first) out ix
/-- the foot -/
def footB (n m : Nat) : List UInt8 := lowB n 4 ++ lowB m 4 ++ lowB (crcB (lowB n 4 ++ lowB m 4)) 4
def tabB (l : List FM) (block : Nat) : List UInt8 :=
  (bld block l [] ⟨#[]⟩ [] []).1 ++ (sumB (bld block l [] ⟨#[]⟩ [] []).2 ++ footB (sumB (bld block l [] ⟨#[]⟩ [] []).2).length l.length)
/-- what Build answers -/
def buildR (l : List FM) (block : Int) : List UInt8 × Nat :=
  if block < 1 ∨ 1048576 < block then ([], 1) else if rightF l = false then ([], 25) else if l.any longF = true then ([], 3) else (tabB l block.toNat, 0)

/-- the loop's state in memory -/
structure BldS (w0 w : World) (oA nA xA : Option Addr) (oc nc xc : Nat) (out now ix : List UInt8) : Prop where
  bel : Below w0.heap.size w0 w
  ro : w.ownsRow w0.heap.size 5 1 (.slice oA out.length oc) out.length (byts out)
  rn : Rd w nA (byts now)
  rnc : now.length ≤ nc
  rx : Rd w xA (byts ix)
  rxc : ix.length ≤ xc
  ap : ∀ ad, xA = some ad → (Value.slice oA out.length oc).ownBlock ≠ some ad.block
theorem BldS.next {w0 w w1 : World} {oA nA xA : Option Addr} {oc nc xc : Nat} {out now ix : List UInt8} (h : BldS w0 w oA nA xA oc nc xc out now ix) (hb : Below w.heap.size w w1) : BldS w0 w1 oA nA xA oc nc xc out now ix :=
  ⟨h.bel.trans (hb.mono h.bel.size), own_below h.ro hb, h.rn.below hb, h.rnc, h.rx.below hb, h.rxc, h.ap⟩
theorem encF_pos (f : FM) : 1 ≤ (encF f).length := by
  have : 1 ≤ (numB (strB f.k).length).length := (numF_length 9 _).2
  simp only [encF, lenB, List.length_append]
  omega
theorem fbuild_loop (w : World) (A : Option Addr) (c : Nat) (l : List FM) (block : Nat) (hr : Rd w A (fcells l)) (hok : ∀ f ∈ l, f.ok w) (hl : l.length ≤ 1048576) (hb : 1 ≤ block ∧ block ≤ 1048576) (hri : rightF l = true) (hlo : l.any longF = false) :
    Calls Try.prog 33 #[.slice A l.length c, .int .i64 (block : Nat)] w fun e w' => ∃ A' c', e = .returned (.tuple #[.slice A' (tabB l block).length c', .int .i64 0]) ∧ w'.ownsRow w.heap.size 5 1 (.slice A' (tabB l block).length c') (tabB l block).length (byts (tabB l block)) ∧ Below w.heap.size w w' := by
  have hrc := fun W h => right_any A c l W h hl
  have hlc := fun W h => anyLong_any A c l W h hl
  rw [hri] at hrc
  rw [hlo] at hlc
  have HT : Hid (tabB l block = (bld block l [] ⟨#[]⟩ [] []).1 ++ (sumB (bld block l [] ⟨#[]⟩ [] []).2 ++ footB (sumB (bld block l [] ⟨#[]⟩ [] []).2).length l.length)) := Lib.hid rfl
  generalize tabB l block = T at *
  generalize hbl : bld block l [] ⟨#[]⟩ [] [] = R at *
  have HB := Lib.hid hbl
  clear hbl hri hlo
  have b1 : ¬ (block : Int) < 1 := by omega
  have b2 : ¬ (1048576 : Int) < (block : Int) := by omega
  have b3 : ¬ (1048576 : Int) < (l.length : Int) := by omega
  go_enter Try.func33, Try.ntmps33
  go_wp2_with fail
  refine (hrc _ hr).mono ?_
  rintro e w1 ⟨rfl, hb1⟩
  clear hrc
  have hr1 := hr.below hb1
  go_wp2_with fail
  refine (hlc _ hr1).mono ?_
  rintro e w2 ⟨rfl, hb2⟩
  clear hlc
  have hb02 := hb1.trans (hb2.mono hb1.size)
  have hr2 := hr.below hb02
  have hok2 : ∀ f ∈ l, f.ok w2 := fun f hf => (hok f hf).below hb02
  clear hr1 hb1 hb2 b1 b2 b3 hok
  go_wp2_with fail
  go_loopg [6, 7, 8, 9, 34] l.length (fun m s6 s7 s8 s9 s34 wr => ∃ (k : Nat) (out now ix : List UInt8) (fst : ByteArray) (oA nA xA : Option Addr) (oc nc xc : Nat), m = l.length - k ∧ k ≤ l.length ∧ s34 = .int .i64 (k : Nat) ∧ s6 = .slice oA out.length oc ∧ s7 = .slice nA now.length nc ∧ s8 = .slice xA ix.length xc ∧ s9 = .string fst ∧
    bld block (l.drop k) now fst out ix = R ∧ fst.size ≤ 1048576 ∧ out.length + now.length ≤ k * 4194304 ∧ ix.length ≤ k * 4194304 ∧ BldS w2 wr oA nA xA oc nc xc out now ix)
  case atStart => exact ⟨0, [], [], [], ⟨#[]⟩, none, none, none, 0, 0, 0, by omega, by omega, rfl, rfl, rfl, rfl, rfl, HB.out, by decide, by simp, by simp, ⟨Below.refl _ _, World.ownsRow_nil _ _ _ _, (fun h => absurd rfl h), by simp, (fun h => absurd rfl h), by simp, (fun _ h => by cases h)⟩⟩
  case round =>
    clear HB
    obtain ⟨k, out, now, ix, fst, oA, nA, xA, oc, nc, xc, rfl, hk, rfl, rfl, rfl, rfl, rfl, hR, hfst, hs1, hs2, hS⟩ := hrel
    by_cases hlt : k < l.length
    · have r1 : (k : Int) < (l.length : Int) := by omega
      obtain ⟨ad, rfl, c0, c1, c2⟩ := facts_at (hr2.below hS.bel) k hlt
      have hfo := (hok2 _ (List.getElem_mem hlt)).below hS.bel
      have hd : l.drop k = l[k] :: l.drop (k + 1) := List.drop_eq_getElem_cons hlt
      rw [hd] at hR
      have hrest : (l.drop (k + 1) = []) ↔ k + 1 = l.length := by rw [List.drop_eq_nil_iff]; omega
      have hef := encF_le l[k]
      have hep := encF_pos l[k]
      generalize l[k] = f at *
      have HR := Lib.hid hR
      have HE := Lib.hid hrest
      clear hR hd hrest
      generalize hre : l.drop (k + 1) = rest at *
      have HRE := Lib.hid hre
      clear hre
      go_upto_if 41 with fail
      have hX := Blk.new wr 71 #[.string f.k, .int .u64 (f.s : Nat), .slice f.A f.l.length f.c]
      have hbX := (Below.refl wr.heap.size wr).alloc (Nat.le_refl _) (.cells #[.string f.k, .int .u64 (f.s : Nat), .slice f.A f.l.length f.c] 71)
      have hS5 := hS.next hbX
      have hfo5 := hfo.below hbX
      clear hS hfo hbX c0 c1 c2
      generalize wr.alloc (.cells #[.string f.k, .int .u64 (f.s : Nat), .slice f.A f.l.length f.c] 71) = w5 at *
      generalize wr.heap.size = X at *
      have HR2 : Hid ((if block ≤ (now ++ encF f).length ∨ rest = [] then
        bld block rest [] (if now = [] then f.k else fst) (out ++ sumB (now ++ encF f)) (ix ++ (lenB (strB (if now = [] then f.k else fst)) ++ numB ((now ++ encF f).length + 4)))
        else bld block rest (now ++ encF f) (if now = [] then f.k else fst) out ix) = R) := Lib.hid (by rw [← HR.out, bld])
      have hfk : (if now = [] then f.k else fst).size ≤ 1048576 := by
        split
        · exact hfo5.key
        · exact hfst
      generalize hF : (if now = [] then f.k else fst) = ft at *
      have HF := Lib.hid hF
      clear hF HR
      go_cut [9] (fun s9 wx => s9 = .string ft ∧ w5 = wx)
      case first =>
        have x0 : w5.cell? ⟨X, 0, none⟩ = some (.string f.k) := hX.cell 0
        by_cases hn : now = []
        · have HF2 := Lib.hid (show f.k = ft by rw [← HF.out, if_pos hn])
          have k1 : ((now.length : Int) == 0) = true := by simp [hn]
          clear hn HF
          go_wp2_with fail
          go_meet
          exact ⟨by rw [HF2.out], rfl⟩
        · have HF2 := Lib.hid (show fst = ft by rw [← HF.out, if_neg hn])
          have k1 : ((now.length : Int) == 0) = false := by simp [hn]
          clear hn HF
          go_wp2_with fail
          go_meet
          exact ⟨by rw [HF2.out], rfl⟩
      case rest =>
      obtain ⟨rfl, rfl⟩ := hcut
      clear HF hfst
      go_wp2_with fail
      refine regBuild14 ⟨hX.drew.cell 0, hX.drew.cell 1, hX.drew.cell 2⟩ hS5.rn hS5.rnc hfo5.rd hfo5.cap hfo5.seq ?_ ?_
      · have := hfo5.few; have := hfo5.key; omega
      intro w6 _ _ _ _ _ _ _ _ _ _ _ _ _ A6 c6 hr6 hc6 hb6
      have hS6 := hS5.next hb6
      have hl6 : (now ++ encF f).length = now.length + (encF f).length := List.length_append
      have hk2 := hfo5.key
      have hk3 := hfo5.few
      clear hS5 hfo5 hX
      generalize hnw : now ++ encF f = nw at *
      have HN := Lib.hid hnw
      have HL6 := Lib.hid hl6
      have hl7 : nw.length ≤ now.length + (encF f).length := by omega
      have hl8 : 1 ≤ nw.length := by omega
      have hz1 : out.length + nw.length ≤ (k + 1) * 4194304 - 100 := by omega
      have hz2 : ix.length + 100 + ft.size ≤ (k + 1) * 4194304 := by omega
      have hz3 : (k + 1) * 4194304 ≤ 1048576 * 4194304 := Nat.mul_le_mul_right _ (by omega)
      clear hnw hl6
      go_upto_region 15 with fail
      go_cut [67] (fun s67 wx => s67 = .bool (decide (block ≤ nw.length ∨ rest = [])) ∧ w6 = wx)
      case first =>
        by_cases hc1 : block ≤ nw.length
        · have HC := Lib.hid (show decide (block ≤ nw.length ∨ rest = []) = true by simp [hc1])
          have d1 : decide (block ≤ nw.length) = true := by simpa using hc1
          clear hc1
          go_wp2_with fail
          go_meet
          exact ⟨by rw [HC.out]; try rfl, rfl⟩
        · have d1 : decide (block ≤ nw.length) = false := by simpa using hc1
          by_cases hc2 : rest = []
          · have HC := Lib.hid (show decide (block ≤ nw.length ∨ rest = []) = true by simp [hc2])
            have d2 : ((k : Int) == (l.length : Int) - 1) = true := by have := HE.out.1 hc2; simp; omega
            clear hc1 hc2
            go_wp2_with fail
            go_meet
            exact ⟨by rw [HC.out]; try rfl, rfl⟩
          · have HC := Lib.hid (show decide (block ≤ nw.length ∨ rest = []) = false by simp [hc1, hc2])
            have d2 : ((k : Int) == (l.length : Int) - 1) = false := by have := mt HE.out.2 hc2; simp; omega
            clear hc1 hc2
            go_wp2_with fail
            go_meet
            exact ⟨by rw [HC.out]; try rfl, rfl⟩
      case rest =>
      obtain ⟨rfl, rfl⟩ := hcut
      by_cases hc : block ≤ nw.length ∨ rest = []
      · have HC := Lib.hid (show decide (block ≤ nw.length ∨ rest = []) = true by simp [hc])
        have HR3 := HR2.out
        rw [if_pos hc] at HR3
        rw [HC.out]
        have HR3 := Lib.hid HR3
        clear hc HC HR2
        go_wp2_with fail
        refine (fsummed_any A6 c6 nw w6 hr6 hc6 (by omega)).mono ?_
        rintro e w7 ⟨A7, c7, rfl, ho7, hb7⟩
        have hS7 := hS6.next hb7
        have hr7 := Rd.of_own ho7
        have hsl := Lib.hid (show (byts (sumB nw)).length = (nw.length + 4) * 1 by rw [byts_length, sumB_length, Nat.mul_one])
        go_upto_region 17 with (at_builtin; refine wpList_app _ rfl _ _ rfl slB w2.heap.size (.slice oA out.length oc) _ _ rfl hS7.ro A7 (nw.length + 4) c7 (byts (sumB nw)) rfl hsl.out hr7 (byts_one _) (by unfold maxLen; omega) (by omega) hS7.bel.size ?_; intro A8 c8 w8 ho8 hg8)
        have hb8 : Below w2.heap.size w7 w8 := hg8.under hS7.ro (Nat.le_refl _) hS7.bel.size
        have hbel8 := hS7.bel.trans hb8
        have hx8 : Rd w8 xA (byts ix) := hS7.rx.grew hg8 hS7.ap
        have hxc := hS7.rxc
        have HO8 := Lib.hid (show byts out ++ byts (sumB nw) = byts (out ++ sumB nw) by simp [byts])
        rw [HO8.out] at ho8
        have HOL := Lib.hid (show (out ++ sumB nw).length = out.length + (nw.length + 4) by rw [List.length_append, sumB_length])
        obtain ⟨ck, w9, he9, hr9, hck, hb9⟩ := conv_str w8 ft
        have hb9a := hb9.trans ((Below.refl w9.heap.size w9).alloc (Nat.le_refl _) (.cells #[.slice (some ⟨w8.heap.size, 0, none⟩) ft.size ck] 35) |>.mono hb9.size)
        have hg9 := Rd.one w9 (.slice (some ⟨w8.heap.size, 0, none⟩) ft.size ck) 35
        have hr9a := hr9.below ((Below.refl w9.heap.size w9).alloc (Nat.le_refl _) (.cells #[.slice (some ⟨w8.heap.size, 0, none⟩) ft.size ck] 35))
        have hby := bytes1_any xA xc ix _ ck (strB ft) _ _ (hx8.below hb9a) hxc hr9a hck hg9 (by rw [strB_length]; omega)
        have hll := lenB_le (strB ft)
        rw [strB_length] at hll
        have hix : (ix ++ lenB (strB ft)).length ≤ ix.length + 10 + ft.size := by rw [List.length_append]; omega
        generalize hi2 : ix ++ lenB (strB ft) = ix2 at *
        have HI2 := Lib.hid hi2
        have hn5 : (numB (nw.length + 4)).length ≤ 10 := (numF_length 9 _).1
        have hi3l : (ix2 ++ numB (nw.length + 4)).length ≤ ix2.length + 10 := by rw [List.length_append]; omega
        have hnu0 := fun A10 c10 W h1 h2 => num1x_any A10 c10 (nw.length + 4) ix2 W h1 h2 (by omega) (by omega)
        rw [show ((nw.length + 4 : Nat) : Int) = (nw.length : Int) + 4 from by omega] at hnu0
        generalize hi3 : ix2 ++ numB (nw.length + 4) = ix3 at *
        have HI3 := Lib.hid hi3
        have HIX := Lib.hid (show ix ++ (lenB (strB ft) ++ numB (nw.length + 4)) = ix3 by rw [← hi3, ← hi2, List.append_assoc])
        clear hS6 hS7 hg8 hx8 hr7 hr6 hc6 hi2 hi3
        go_wp2_with fail
        refine hby.mono ?_
        rintro e w10 ⟨A10, c10, rfl, hr10, hc10, hb10⟩
        have hnu := hnu0 A10 c10 w10 hr10 hc10
        have hb810 : Below w8.heap.size w8 w10 := hb9a.trans (hb10.mono hb9a.size)
        clear hby he9 hr9 hg9 hr9a hnu0
        go_wp2_with fail
        refine hnu.mono ?_
        rintro e w11 ⟨A11, c11, rfl, hr11, hc11, hfr11, hb11⟩
        have hb811 : Below w8.heap.size w8 w11 := hb810.trans (hb11.mono hb810.size)
        clear hnu
        have hz4 : ix3.length ≤ (k + 1) * 4194304 := by omega
        have hz5 : out.length + (nw.length + 4) ≤ (k + 1) * 4194304 := by omega
        go_wp2_with fail
        go_roundg (l.length - (k + 1))
        case measure => omega
        case rel =>
          refine ⟨k + 1, out ++ sumB nw, [], ix3, ft, A8, none, A11, c8, 0, c11, rfl, by omega, by go_num, by rw [HOL.out], rfl, rfl, rfl, ?_, hfk, ?_, hz4, ⟨hbel8.trans (hb811.mono hbel8.size), ?_, (fun h => absurd rfl h), by simp, hr11, hc11, ?_⟩⟩
          · rw [HRE.out, ← HIX.out]; exact HR3.out
          · rw [HOL.out]; simpa using hz5
          · rw [HOL.out]; exact own_below ho8 hb811
          · intro ad' e1 e2
            rw [HOL.out] at e2
            have h1 := (ho8.lt _ e2).2
            have h2 := hfr11 ad' e1
            have h3 := hb810.size
            omega
      · have HC := Lib.hid (show decide (block ≤ nw.length ∨ rest = []) = false by simp [hc])
        have HR3 := HR2.out
        rw [if_neg hc] at HR3
        rw [HC.out]
        have HR3 := Lib.hid HR3
        clear hc HC HR2
        go_wp2_with fail
        have hz4 : out.length + nw.length ≤ (k + 1) * 4194304 := Nat.le_trans hz1 (Nat.sub_le _ _)
        have hz5 : ix.length ≤ (k + 1) * 4194304 := Nat.le_trans (by rw [Nat.add_assoc]; exact Nat.le_add_right _ _) hz2
        go_roundg (l.length - (k + 1))
        case measure => omega
        case rel => exact ⟨k + 1, out, nw, ix, ft, oA, A6, xA, oc, c6, xc, rfl, by omega, by go_num, rfl, rfl, rfl, rfl, by rw [HRE.out]; exact HR3.out, hfk, hz4, hz5, ⟨hS6.bel, hS6.ro, hr6, hc6, hS6.rx, hS6.rxc, hS6.ap⟩⟩
    · obtain rfl : k = l.length := by omega
      have r1 : ¬ (l.length : Int) < (l.length : Int) := by omega
      rw [List.drop_length] at hR
      have hR1 : R = (out, ix) := by rw [← hR, bld]
      have HT2 := Lib.hid (show T = out ++ (sumB ix ++ footB (sumB ix).length l.length) by rw [HT.out, hR1])
      have hz3 : l.length * 4194304 ≤ 1048576 * 4194304 := Nat.mul_le_mul_right _ hl
      have hsm := fsummed_any xA xc ix wr hS.rx hS.rxc (by omega)
      have hsl := sumB_length ix
      rw [← hsl] at hsm
      have hsz : (sumB ix).length ≤ 4398046511108 := by omega
      have hro := Rd.of_own hS.ro
      have hroc := (own_cap hS.ro).1
      have hbel := hS.bel
      clear hR hR1 HT hlt hsl
      generalize sumB ix = sx at *
      go_wp2_with fail
      refine hsm.mono ?_
      rintro e w3 ⟨A3, c3, rfl, ho3, hb3⟩
      clear hsm hS
      have hf1 := ffour2_any none 0 sx.length 0 w3.heap.size [] w3 (World.ownsRow_nil _ _ _ _) (Nat.le_refl _) (by omega) (by omega)
      go_wp2_with fail
      refine hf1.mono ?_
      rintro e w4 ⟨A4, c4, rfl, ho4, hg4⟩
      have hb4 : Below w3.heap.size w3 w4 := hg4.toBelow (Nat.le_refl _) (by simp [Value.ownBlock])
      have ho34 := own_below ho3 hb4
      simp only [Nat.zero_add, List.nil_append] at ho4
      clear hf1 hg4
      have hf2 := ffour2_any A4 c4 l.length 4 w3.heap.size (byts (lowB sx.length 4)) w4 ho4 hb4.size (by omega) (by omega)
      go_wp2_with fail
      refine hf2.mono ?_
      rintro e w5 ⟨A5, c5, rfl, ho5, hg5⟩
      have hb5 : Below w3.heap.size w3 w5 := hb4.trans (hg5.under ho4 (Nat.le_refl _) hb4.size)
      have hb3a : Below wr.heap.size wr w5 := hb3.trans (hb5.mono hb3.size)
      have hro5 := hro.below hb3a
      have hrx5 := (Rd.of_own ho3).below hb5
      have hxc3 := (own_cap ho3).1
      have hr5 := Rd.of_own ho5
      have hc5 := (own_cap ho5).1
      have hfo : lowB sx.length 4 ++ lowB l.length 4 ++ lowB (crcB (lowB sx.length 4 ++ lowB l.length 4)) 4 = footB sx.length l.length := rfl
      rw [show byts (lowB sx.length 4) ++ byts (lowB l.length 4) = byts (lowB sx.length 4 ++ lowB l.length 4) by simp [byts]] at hr5
      have he8 : (lowB sx.length 4 ++ lowB l.length 4).length = 8 := by simp [lowB_length]
      generalize lowB sx.length 4 ++ lowB l.length 4 = e8 at *
      have HFO := Lib.hid hfo
      have HE8 := Lib.hid he8
      have hba := (Below.refl w5.heap.size w5).alloc (Nat.le_refl _) (.cells #[.slice A5 8 c5] 35)
      have hg5a := Rd.one w5 (.slice A5 8 c5) 35
      have hsu := sum1_any A5 c5 e8 _ _ (hr5.below hba) (by omega) (by omega) (by rw [he8]; exact hg5a)
      have hcr := crcB_lt e8
      generalize crcB e8 = q at *
      clear hf2 hg5 hfo he8 ho3 ho4 ho5 ho34 hro hg5a
      go_wp2_with fail
      refine hsu.mono ?_
      rintro e w6 ⟨rfl, hb6⟩
      have hb56 : Below w5.heap.size w5 w6 := hba.trans (hb6.mono hba.size)
      have hf3 := ffour_any none 0 q 0 w6.heap.size [] w6 (World.ownsRow_nil _ _ _ _) (Nat.le_refl _) (by omega) hcr
      clear hsu hba hb6
      go_wp2_with fail
      refine hf3.mono ?_
      rintro e w7 ⟨A7, c7, rfl, ho7, hg7⟩
      have hb7 : Below w6.heap.size w6 w7 := hg7.toBelow (Nat.le_refl _) (by simp [Value.ownBlock])
      have hb57 : Below w5.heap.size w5 w7 := hb56.trans (hb7.mono hb56.size)
      simp only [Nat.zero_add, List.nil_append] at ho7
      have hc7 := (own_cap ho7).1
      have hr7 := Rd.of_own ho7
      clear hf3 hg7 ho7
      have hbb := (Below.refl w7.heap.size w7).alloc (Nat.le_refl _) (.cells #[.slice oA out.length oc, .slice A3 sx.length c3, .slice A5 8 c5, .slice A7 4 c7] 35)
      have hb57b : Below w5.heap.size w5 _ := hb57.trans (hbb.mono hb57.size)
      have hl4 : (lowB q 4).length = 4 := lowB_length _ _
      have hcat := concat_any (some ⟨w7.heap.size, 0, none⟩) 4 [⟨oA, oc, out⟩, ⟨A3, c3, sx⟩, ⟨A5, c5, e8⟩, ⟨A7, c7, lowB q 4⟩] _ (by
        have := Rd.many w7 [.slice oA out.length oc, .slice A3 sx.length c3, .slice A5 8 c5, .slice A7 4 c7] 35
        simpa [Sb.val, HE8.out, hl4] using this) (by simp) (by
        intro s hs
        simp only [List.mem_cons, List.not_mem_nil, or_false] at hs
        rcases hs with rfl | rfl | rfl | rfl
        · exact ⟨hro5.below hb57b, hroc, by simp only; omega⟩
        · exact ⟨hrx5.below hb57b, hxc3, by simp only; omega⟩
        · exact ⟨hr5.below hb57b, by simp only; have := HE8.out; omega, by simp only; have := HE8.out; omega⟩
        · exact ⟨hr7.below hbb, by simp only; omega, by simp only; omega⟩) (by simp [flat, hl4, HE8.out]; omega)
      have hflat : flat [(⟨oA, oc, out⟩ : Sb), ⟨A3, c3, sx⟩, ⟨A5, c5, e8⟩, ⟨A7, c7, lowB q 4⟩] = T := by
        rw [HT2.out, ← HFO.out]
        simp [flat]
      rw [hflat] at hcat
      have hbF : Below w.heap.size w _ := hb02.trans (((hbel.trans (hb3a.mono hbel.size)).trans (hb57b.mono (Nat.le_trans hbel.size hb3a.size))).mono hb02.size)
      clear hflat hl4
      go_wp2_with fail
      refine hcat.mono ?_
      rintro e w8 ⟨A8, c8, rfl, ho8, hb8⟩
      clear hcat
      go_wp2_with fail
      go_ret2
      exact ⟨A8, c8, rfl, own_mono ho8 hbF.size, hbF.trans (hb8.mono hbF.size)⟩
end Go.Proofs.Ytadgaphgomagkaa
/- Tables are built: all ways. -/
namespace Go.Proofs.Ytadgaphgomagkaa
open Go.RowKit
set_option maxHeartbeats 8000000
set_option maxRecDepth 100000

def BuildPost (w : World) (R : List UInt8 × Nat) (e : Ending) (w' : World) : Prop :=
  ∃ A' c', e = .returned (.tuple #[.slice A' R.1.length c', .int .i64 (R.2 : Nat)]) ∧ w'.ownsRow w.heap.size 5 1 (.slice A' R.1.length c') R.1.length (byts R.1) ∧ Below w.heap.size w w'
theorem BuildPost.err {w w' : World} {n : Nat} (h : Below w.heap.size w w') : BuildPost w ([], n) (.returned (.tuple #[.slice none 0 0, .int .i64 (n : Nat)])) w' := ⟨none, 0, rfl, World.ownsRow_nil _ _ _ _, h⟩
theorem fbuild_any (A : Option Addr) (c : Nat) (l : List FM) (block : Int) (w : World) (hr : Rd w A (fcells l)) (hok : ∀ f ∈ l, f.ok w) (hl : l.length ≤ 1048576) :
    Calls Try.prog 33 #[.slice A l.length c, .int .i64 block] w (BuildPost w (buildR l block)) := by
  have HB : Hid (buildR l block = if block < 1 ∨ 1048576 < block then ([], 1) else if rightF l = false then ([], 25) else if l.any longF = true then ([], 3) else (tabB l block.toNat, 0)) := Lib.hid rfl
  generalize buildR l block = R at *
  by_cases h1 : block < 1
  · have HR := Lib.hid (show R = ([], 1) by rw [HB.out, if_pos (.inl h1)])
    clear HB
    go_enter Try.func33, Try.ntmps33
    go_wp2
    go_ret2
    rw [HR.out]
    exact BuildPost.err (Below.refl _ _)
  by_cases h2 : 1048576 < block
  · have HR := Lib.hid (show R = ([], 1) by rw [HB.out, if_pos (.inr h2)])
    clear HB
    go_enter Try.func33, Try.ntmps33
    go_wp2
    go_ret2
    rw [HR.out]
    exact BuildPost.err (Below.refl _ _)
  have hrc := right_any A c l w hr hl
  cases hri : rightF l with
  | false =>
    have HR := Lib.hid (show R = ([], 25) by rw [HB.out, if_neg (by omega), if_pos hri])
    rw [hri] at hrc
    clear HB hri
    go_enter Try.func33, Try.ntmps33
    go_wp2_with fail
    refine hrc.mono ?_
    rintro e w1 ⟨rfl, hb1⟩
    clear hrc
    go_wp2_with fail
    go_ret2
    rw [HR.out]
    exact BuildPost.err hb1
  | true =>
    cases hlo : l.any longF with
    | true =>
      have hlc := fun W h => anyLong_any A c l W h hl
      have HR := Lib.hid (show R = ([], 3) by rw [HB.out, if_neg (by omega), if_neg (by simp [hri]), if_pos hlo])
      rw [hri] at hrc
      rw [hlo] at hlc
      clear HB hri hlo
      have b3 : ¬ (1048576 : Int) < (l.length : Int) := by omega
      go_enter Try.func33, Try.ntmps33
      go_wp2_with fail
      refine hrc.mono ?_
      rintro e w1 ⟨rfl, hb1⟩
      clear hrc
      have hr1 := hr.below hb1
      go_wp2_with fail
      refine (hlc _ hr1).mono ?_
      rintro e w2 ⟨rfl, hb2⟩
      clear hlc
      go_wp2_with fail
      go_ret2
      rw [HR.out]
      exact BuildPost.err (hb1.trans (hb2.mono hb1.size))
    | false =>
      obtain ⟨b, rfl⟩ : ∃ b : Nat, block = (b : Int) := ⟨block.toNat, by omega⟩
      have hR : R = (tabB l b, 0) := by rw [HB.out, if_neg (by omega), if_neg (by simp [hri]), if_neg (by simp [hlo])]; simp
      refine (fbuild_loop w A c l b hr hok hl (by omega) hri hlo).mono ?_
      rintro e w' ⟨A', c', rfl, ho, hb⟩
      rw [hR]
      exact ⟨A', c', rfl, ho, hb⟩
end Go.Proofs.Ytadgaphgomagkaa
