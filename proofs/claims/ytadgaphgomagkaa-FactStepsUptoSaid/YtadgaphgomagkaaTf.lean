/- Words for FactRanges' statements. -/
import Derived.Test.YtadgaphgomagkaaTd
import Derived.Test.YtadgaphgomagkaaTa
import Derived.Test.YtadgaphgomagkaaLz
namespace Go.Proofs.Ytadgaphgomagkaa
open Go.RowKit
set_option maxHeartbeats 1000000
set_option maxRecDepth 100000

section
variable {P : Program} {ρ : Operand → Value} {d : Option Tmp} {ty : TypeId} {pos : String} {af : Array Edge} {g : Option (Nat × Bool)} {w : World}
theorem run_add_str {t r : TypeId} {x y : Operand} {a b v : ByteArray} (hx : ρ x = .string a) (hy : ρ y = .string b) (h : a.size + b.size ≤ 9223372036854775807) (hv : a ++ b = v) : (execOp ρ ⟨d, .binOp .add t x y r, ty, pos, af, g⟩).run P w = .ok (.value (.string v)) w := by
  subst hv
  simp [execOp, hx, hy, eqGuard, binOp, Op.stringOp, go_sem]
  omega
theorem run_len_op {t e : TypeId} {x : Operand} {A : Option Addr} {n c : Nat} (hu : P.underlying t = some (.slice e)) (hx : ρ x = .slice A n c) : (execOp ρ ⟨d, .call { callee := .builtin .len, args := #[x], argTypes := #[t] }, ty, pos, af, g⟩).run P w = .ok (.value (.int .i64 (n : Nat))) w := by
  have he : P.elem t = e := by simp [Program.elem, hu]
  have h := run_len_slice (P := P) w t ty A n c (by rw [he]; exact hu)
  unfold execOp
  simp only [resolve, invoke, builtin, Sem.run_bind, Sem.run_pure, Result.andThen_ok, List.map_toArray, List.map_cons, List.map_nil, hx, h]
  rfl
theorem run_lss_false {t r : TypeId} {x y : Operand} {a b : Nat} (hx : ρ x = .int .i64 (a : Nat)) (hy : ρ y = .int .i64 (b : Nat)) (h : ¬ a < b) : (execOp ρ ⟨d, .binOp .lss t x y r, ty, pos, af, g⟩).run P w = .ok (.value (.bool false)) w := by
  rw [run_lss_nat hx hy, decide_eq_false h]
end
end Go.Proofs.Ytadgaphgomagkaa
/- FactRanges: a statement that draws its order. PRINTED by tools/regs_l.py. -/
namespace Go.Proofs.Ytadgaphgomagkaa
open Go.RowKit
set_option maxHeartbeats 8000000
set_option maxRecDepth 100000
def opsFr26 : Array Oper := #[{ dst := some 111, op := Op.move (Operand.tmp 9), type := 65, pos := "more.go:57", after := #[], guard := none }, { dst := some 112, op := Op.move (Operand.tmp 0), type := 56, pos := "more.go:57", after := #[], guard := none }, { dst := some 113, op := Op.move (Operand.tmp 14), type := 3, pos := "more.go:57", after := #[], guard := none }, { dst := some 114, op := Op.indexAddr 56 (Operand.tmp 112) (Operand.tmp 113), type := 0, pos := "more.go:57", after := #[{ on := 1, ground := Ground.data }, { on := 2, ground := Ground.data }], guard := none }, { dst := some 115, op := Op.fieldAddr 71 (Operand.tmp 114) 0, type := 0, pos := "more.go:57", after := #[{ on := 3, ground := Ground.data }], guard := none }, { dst := some 116, op := Op.load 9 (Operand.tmp 115), type := 9, pos := "more.go:57", after := #[{ on := 4, ground := Ground.data }], guard := none }, { dst := some 117, op := Op.move (Operand.tmp 0), type := 56, pos := "more.go:57", after := #[], guard := none }, { dst := some 118, op := Op.move (Operand.tmp 14), type := 3, pos := "more.go:57", after := #[], guard := none }, { dst := some 119, op := Op.indexAddr 56 (Operand.tmp 117) (Operand.tmp 118), type := 0, pos := "more.go:57", after := #[{ on := 6, ground := Ground.data }, { on := 7, ground := Ground.data }], guard := none }, { dst := some 120, op := Op.fieldAddr 71 (Operand.tmp 119) 0, type := 0, pos := "more.go:57", after := #[{ on := 8, ground := Ground.data }], guard := none }, { dst := some 121, op := Op.load 9 (Operand.tmp 120), type := 9, pos := "more.go:57", after := #[{ on := 9, ground := Ground.data }], guard := none }, { dst := some 122, op := Op.binOp BinOp.add 9 (Operand.tmp 121) (Operand.const (Value.string { data := #[0] })) 9, type := 9, pos := "more.go:57", after := #[{ on := 10, ground := Ground.data }], guard := none }, { dst := some 123, op := Op.call { callee := Callee.value (Operand.func 41), args := #[Operand.tmp 111, Operand.tmp 116, Operand.tmp 122], argTypes := #[65, 9, 9] }, type := 56, pos := "more.go:57", after := #[{ on := 0, ground := Ground.data }, { on := 5, ground := Ground.data }, { on := 11, ground := Ground.data }], guard := none }, { dst := some 15, op := Op.assign (Operand.tmp 123), type := 56, pos := "more.go:57", after := #[{ on := 12, ground := Ground.data }, { on := 12, ground := Ground.chain }, { on := 0, ground := Ground.phase }, { on := 1, ground := Ground.phase }, { on := 2, ground := Ground.phase }, { on := 3, ground := Ground.phase }, { on := 4, ground := Ground.phase }, { on := 5, ground := Ground.phase }, { on := 6, ground := Ground.phase }, { on := 7, ground := Ground.phase }, { on := 8, ground := Ground.phase }, { on := 9, ground := Ground.phase }, { on := 10, ground := Ground.phase }, { on := 11, ground := Ground.phase }, { on := 12, ground := Ground.phase }], guard := none }]
theorem regFr26 {u1 u2 u3 u4 u5 u6 u7 u8 u10 u11 u12 u13 u15 u16 u17 u18 u19 u20 u21 u22 u23 u24 u25 u26 u27 u28 u29 u30 u31 u32 u33 u34 u35 u36 u37 u38 u39 u40 u41 u42 u43 u44 u45 u46 u47 u48 u49 u50 u51 u52 u53 u54 u55 u56 u57 u58 u59 u60 u61 u62 u63 u64 u65 u66 u67 u68 u69 u70 u71 u72 u73 u74 u75 u76 u77 u78 u79 u80 u81 u82 u83 u84 u85 u86 u87 u88 u89 u90 u91 u92 u93 u94 u95 u96 u97 u98 u99 u100 u101 u102 u103 u104 u105 u106 u107 u108 u109 u110 u111 u112 u113 u114 u115 u116 u117 u118 u119 u120 u121 u122 u123 u124 u125 u126 u127 u128 u129 u130 u131 u132 u133 u134 u135 u136 u137 u138 u139 u140 u141 u142 u143 u144 u145 u146 u147 u148 u149 u150 u151 u152 u153 u154 u155 u156 u157 u158 u159 u160 u161 u162 u163 u164 u165 u166 u167 u168 u169 u170 u171 u172 u173 u174 u175 u176 u177 u178 : Value} {DD : List Deferred} {Q : Exit → Act → World → Prop} {w : World} {la : Addr} {n lc g h c : Nat} {A : Option Addr} {l L : List FM} {f : FM} {k1 : ByteArray} (hl : Rd w.drew (some la) (fcells l)) (hf : l[h]? = some f) (hn : h < n) (hT : TblAt w.drew g A L c) (hA : ∀ ad, A = some ad → ad.block < w.drew.heap.size) (hok : ∀ f ∈ L, f.ok w.drew) (hlo : ∀ f ∈ L, ∀ ad, f.A = some ad → ad.block < w.drew.heap.size) (hlL : L.length ≤ 1048576) (hks : f.k.size ≤ 1048576) (hk1 : f.k ++ ⟨#[0]⟩ = k1)
    (hend : ∀ (w2 : World) (x111 x112 x113 x114 x115 x116 x117 x118 x119 x120 x121 x122 x123 : Value) (A1 : Option Addr) (c1 : Nat) (xs : List FM) (_ : xs.map FM.fv = (rngF L f.k k1).map FM.fv) (_ : Facts w2 w.heap.size A1 c1 xs) (_ : Below w.heap.size w w2), Q .normal ⟨#[.slice (some la) n lc, u1, u2, u3, u4, u5, u6, u7, u8, .pointer (some ⟨g, 0, none⟩), u10, u11, u12, u13, .int .i64 (h : Nat), .slice A1 xs.length c1, u16, u17, u18, u19, u20, u21, u22, u23, u24, u25, u26, u27, u28, u29, u30, u31, u32, u33, u34, u35, u36, u37, u38, u39, u40, u41, u42, u43, u44, u45, u46, u47, u48, u49, u50, u51, u52, u53, u54, u55, u56, u57, u58, u59, u60, u61, u62, u63, u64, u65, u66, u67, u68, u69, u70, u71, u72, u73, u74, u75, u76, u77, u78, u79, u80, u81, u82, u83, u84, u85, u86, u87, u88, u89, u90, u91, u92, u93, u94, u95, u96, u97, u98, u99, u100, u101, u102, u103, u104, u105, u106, u107, u108, u109, u110, x111, x112, x113, x114, x115, x116, x117, x118, x119, x120, x121, x122, x123, u124, u125, u126, u127, u128, u129, u130, u131, u132, u133, u134, u135, u136, u137, u138, u139, u140, u141, u142, u143, u144, u145, u146, u147, u148, u149, u150, u151, u152, u153, u154, u155, u156, u157, u158, u159, u160, u161, u162, u163, u164, u165, u166, u167, u168, u169, u170, u171, u172, u173, u174, u175, u176, u177, u178], DD⟩ w2) :
    (Code.region 26 opsFr26 true).wp Try.prog Q ⟨#[.slice (some la) n lc, u1, u2, u3, u4, u5, u6, u7, u8, .pointer (some ⟨g, 0, none⟩), u10, u11, u12, u13, .int .i64 (h : Nat), u15, u16, u17, u18, u19, u20, u21, u22, u23, u24, u25, u26, u27, u28, u29, u30, u31, u32, u33, u34, u35, u36, u37, u38, u39, u40, u41, u42, u43, u44, u45, u46, u47, u48, u49, u50, u51, u52, u53, u54, u55, u56, u57, u58, u59, u60, u61, u62, u63, u64, u65, u66, u67, u68, u69, u70, u71, u72, u73, u74, u75, u76, u77, u78, u79, u80, u81, u82, u83, u84, u85, u86, u87, u88, u89, u90, u91, u92, u93, u94, u95, u96, u97, u98, u99, u100, u101, u102, u103, u104, u105, u106, u107, u108, u109, u110, u111, u112, u113, u114, u115, u116, u117, u118, u119, u120, u121, u122, u123, u124, u125, u126, u127, u128, u129, u130, u131, u132, u133, u134, u135, u136, u137, u138, u139, u140, u141, u142, u143, u144, u145, u146, u147, u148, u149, u150, u151, u152, u153, u154, u155, u156, u157, u158, u159, u160, u161, u162, u163, u164, u165, u166, u167, u168, u169, u170, u171, u172, u173, u174, u175, u176, u177, u178], DD⟩ w := by
  have KF : ∀ W, Rd W (some la) (fcells l) → W.cell? (la.add (h * 3)) = some (.string f.k) := fun W hW => facts_cells' hW hf 0 _ rfl
  have HS : f.k.size + (⟨#[0]⟩ : ByteArray).size ≤ 9223372036854775807 := by have : (⟨#[0]⟩ : ByteArray).size = 1 := rfl; omega
  have SC := lawStretch_any g A c L f.k k1 w.drew hT hA hok hlo hlL
  refine wp_region_noPanic ?_
  refine wp_region_held_drew (S := fun _ => True) (by kernel_rfl) trivial (fun _ => ?_)
  refine wpAnyH_take (i := 0) (oi := (⟨some 111, Op.move (Operand.tmp 9), 65, "more.go:57", #[], none⟩)) (v := .pointer (some ⟨g, 0, none⟩)) rfl (by kernel_rfl) (by kernel_rfl) (by kernel_rfl) (fun _ _ _ h => h) (Or.inl ⟨by kernel_rfl, fun _ _ => by kernel_rfl⟩) trivial ?_
  simp only [Act.put, List.setIfInBounds_toArray, List.set_cons_zero, List.set_cons_succ]
  refine wpAnyH_take (i := 1) (oi := (⟨some 112, Op.move (Operand.tmp 0), 56, "more.go:57", #[], none⟩)) (v := .slice (some la) n lc) rfl (by kernel_rfl) (by kernel_rfl) (by kernel_rfl) (fun _ _ _ h => h) (Or.inl ⟨by kernel_rfl, fun _ _ => by kernel_rfl⟩) trivial ?_
  simp only [Act.put, List.setIfInBounds_toArray, List.set_cons_zero, List.set_cons_succ]
  refine wpAnyH_take (i := 2) (oi := (⟨some 113, Op.move (Operand.tmp 14), 3, "more.go:57", #[], none⟩)) (v := .int .i64 (h : Nat)) rfl (by kernel_rfl) (by kernel_rfl) (by kernel_rfl) (fun _ _ _ h => h) (Or.inl ⟨by kernel_rfl, fun _ _ => by kernel_rfl⟩) trivial ?_
  simp only [Act.put, List.setIfInBounds_toArray, List.set_cons_zero, List.set_cons_succ]
  refine wpAnyH_take (i := 3) (oi := (⟨some 114, Op.indexAddr 56 (Operand.tmp 112) (Operand.tmp 113), 0, "more.go:57", #[{ on := 1, ground := Ground.data }, { on := 2, ground := Ground.data }], none⟩)) (v := .pointer (some (la.add (h * 3)))) rfl (by kernel_rfl) (by kernel_rfl) (by kernel_rfl) (fun _ _ _ h => h) (Or.inl ⟨by kernel_rfl, fun W _ => run_index_op (size := 3) (i := h) (n := n) (c := lc) Try.underlying56 (by kernel_rfl) rfl rfl hn⟩) trivial ?_
  simp only [Act.put, List.setIfInBounds_toArray, List.set_cons_zero, List.set_cons_succ]
  refine wpAnyH_take (i := 4) (oi := (⟨some 115, Op.fieldAddr 71 (Operand.tmp 114) 0, 0, "more.go:57", #[{ on := 3, ground := Ground.data }], none⟩)) (v := .pointer (some (la.add (h * 3)))) rfl (by kernel_rfl) (by kernel_rfl) (by kernel_rfl) (fun _ _ _ h => h) (Or.inl ⟨by kernel_rfl, fun _ _ => by kernel_rfl⟩) trivial ?_
  simp only [Act.put, List.setIfInBounds_toArray, List.set_cons_zero, List.set_cons_succ]
  refine wpAnyH_take (i := 6) (oi := (⟨some 117, Op.move (Operand.tmp 0), 56, "more.go:57", #[], none⟩)) (v := .slice (some la) n lc) rfl (by kernel_rfl) (by kernel_rfl) (by kernel_rfl) (fun _ _ _ h => h) (Or.inl ⟨by kernel_rfl, fun _ _ => by kernel_rfl⟩) trivial ?_
  simp only [Act.put, List.setIfInBounds_toArray, List.set_cons_zero, List.set_cons_succ]
  refine wpAnyH_take (i := 7) (oi := (⟨some 118, Op.move (Operand.tmp 14), 3, "more.go:57", #[], none⟩)) (v := .int .i64 (h : Nat)) rfl (by kernel_rfl) (by kernel_rfl) (by kernel_rfl) (fun _ _ _ h => h) (Or.inl ⟨by kernel_rfl, fun _ _ => by kernel_rfl⟩) trivial ?_
  simp only [Act.put, List.setIfInBounds_toArray, List.set_cons_zero, List.set_cons_succ]
  refine wpAnyH_take (i := 8) (oi := (⟨some 119, Op.indexAddr 56 (Operand.tmp 117) (Operand.tmp 118), 0, "more.go:57", #[{ on := 6, ground := Ground.data }, { on := 7, ground := Ground.data }], none⟩)) (v := .pointer (some (la.add (h * 3)))) rfl (by kernel_rfl) (by kernel_rfl) (by kernel_rfl) (fun _ _ _ h => h) (Or.inl ⟨by kernel_rfl, fun W _ => run_index_op (size := 3) (i := h) (n := n) (c := lc) Try.underlying56 (by kernel_rfl) rfl rfl hn⟩) trivial ?_
  simp only [Act.put, List.setIfInBounds_toArray, List.set_cons_zero, List.set_cons_succ]
  refine wpAnyH_take (i := 9) (oi := (⟨some 120, Op.fieldAddr 71 (Operand.tmp 119) 0, 0, "more.go:57", #[{ on := 8, ground := Ground.data }], none⟩)) (v := .pointer (some (la.add (h * 3)))) rfl (by kernel_rfl) (by kernel_rfl) (by kernel_rfl) (fun _ _ _ h => h) (Or.inl ⟨by kernel_rfl, fun _ _ => by kernel_rfl⟩) trivial ?_
  simp only [Act.put, List.setIfInBounds_toArray, List.set_cons_zero, List.set_cons_succ]
  refine wpAnyH_ready (rs := [5, 10]) (by kernel_rfl) (by simp) ?_
  refine AllReadyH.cons (o := (⟨some 116, Op.load 9 (Operand.tmp 115), 9, "more.go:57", #[{ on := 4, ground := Ground.data }], none⟩)) rfl ?_ (AllReadyH.cons (o := (⟨some 121, Op.load 9 (Operand.tmp 120), 9, "more.go:57", #[{ on := 9, ground := Ground.data }], none⟩)) rfl ?_ (AllReadyH.nil))
  · skip
    refine next_op (v := .string f.k) (by kernel_rfl) (run_load1_op (by kernel_rfl) (by kernel_rfl) (KF w.drew hl)) trivial (fun _ => ?_)
    simp only [Act.put, List.setIfInBounds_toArray, List.set_cons_zero, List.set_cons_succ]
    refine wpAnyH_ready (rs := [10]) (by kernel_rfl) (by simp) ?_
    refine AllReadyH.cons (o := (⟨some 121, Op.load 9 (Operand.tmp 120), 9, "more.go:57", #[{ on := 9, ground := Ground.data }], none⟩)) rfl ?_ (AllReadyH.nil)
    · skip
      refine next_op (v := .string f.k) (by kernel_rfl) (run_load1_op (by kernel_rfl) (by kernel_rfl) (KF w.drew hl)) trivial (fun _ => ?_)
      simp only [Act.put, List.setIfInBounds_toArray, List.set_cons_zero, List.set_cons_succ]
      refine wpAnyH_take (i := 11) (oi := (⟨some 122, Op.binOp BinOp.add 9 (Operand.tmp 121) (Operand.const (Value.string { data := #[0] })) 9, 9, "more.go:57", #[{ on := 10, ground := Ground.data }], none⟩)) (v := .string k1) rfl (by kernel_rfl) (by kernel_rfl) (by kernel_rfl) (fun _ _ _ h => h) (Or.inl ⟨by kernel_rfl, fun W _ => run_add_str rfl rfl HS hk1⟩) trivial ?_
      simp only [Act.put, List.setIfInBounds_toArray, List.set_cons_zero, List.set_cons_succ]
      refine wpAnyH_ready (rs := [12]) (by kernel_rfl) (by simp) ?_
      refine AllReadyH.cons (o := (⟨some 123, Op.call { callee := Callee.value (Operand.func 41), args := #[Operand.tmp 111, Operand.tmp 116, Operand.tmp 122], argTypes := #[65, 9, 9] }, 56, "more.go:57", #[{ on := 0, ground := Ground.data }, { on := 5, ground := Ground.data }, { on := 11, ground := Ground.data }], none⟩)) rfl ?_ (AllReadyH.nil)
      · skip
        refine next_call (f := 41) (args := #[.pointer (some ⟨g, 0, none⟩), .string f.k, .string k1]) (by kernel_rfl) (by kernel_rfl) (SC) ?_
        rintro e wy3 ⟨A1, c1, xs, rfl, hxs, hF, hb⟩
        refine ⟨.slice A1 xs.length c1, rfl, trivial, fun _ => ?_⟩
        simp only [Act.put, List.setIfInBounds_toArray, List.set_cons_zero, List.set_cons_succ]
        refine wpAnyH_take (i := 13) (oi := (⟨some 15, Op.assign (Operand.tmp 123), 56, "more.go:57", #[{ on := 12, ground := Ground.data }, { on := 12, ground := Ground.chain }, { on := 0, ground := Ground.phase }, { on := 1, ground := Ground.phase }, { on := 2, ground := Ground.phase }, { on := 3, ground := Ground.phase }, { on := 4, ground := Ground.phase }, { on := 5, ground := Ground.phase }, { on := 6, ground := Ground.phase }, { on := 7, ground := Ground.phase }, { on := 8, ground := Ground.phase }, { on := 9, ground := Ground.phase }, { on := 10, ground := Ground.phase }, { on := 11, ground := Ground.phase }, { on := 12, ground := Ground.phase }], none⟩)) (v := .slice A1 xs.length c1) rfl (by kernel_rfl) (by kernel_rfl) (by kernel_rfl) (fun _ _ _ h => h) (Or.inl ⟨by kernel_rfl, fun _ _ => by kernel_rfl⟩) trivial ?_
        simp only [Act.put, List.setIfInBounds_toArray, List.set_cons_zero, List.set_cons_succ]
        refine wpAnyH_done (by kernel_rfl) ?_ _
        exact NoPanic.normal (hend wy3 _ _ _ _ _ _ _ _ _ _ _ _ _ _ _ _ hxs hF ((Below.refl _ _).drew.trans hb))
  · skip
    refine next_op (v := .string f.k) (by kernel_rfl) (run_load1_op (by kernel_rfl) (by kernel_rfl) (KF w.drew hl)) trivial (fun _ => ?_)
    simp only [Act.put, List.setIfInBounds_toArray, List.set_cons_zero, List.set_cons_succ]
    refine wpAnyH_take (i := 11) (oi := (⟨some 122, Op.binOp BinOp.add 9 (Operand.tmp 121) (Operand.const (Value.string { data := #[0] })) 9, 9, "more.go:57", #[{ on := 10, ground := Ground.data }], none⟩)) (v := .string k1) rfl (by kernel_rfl) (by kernel_rfl) (by kernel_rfl) (fun _ _ _ h => h) (Or.inl ⟨by kernel_rfl, fun W _ => run_add_str rfl rfl HS hk1⟩) trivial ?_
    simp only [Act.put, List.setIfInBounds_toArray, List.set_cons_zero, List.set_cons_succ]
    refine wpAnyH_ready (rs := [5]) (by kernel_rfl) (by simp) ?_
    refine AllReadyH.cons (o := (⟨some 116, Op.load 9 (Operand.tmp 115), 9, "more.go:57", #[{ on := 4, ground := Ground.data }], none⟩)) rfl ?_ (AllReadyH.nil)
    · skip
      refine next_op (v := .string f.k) (by kernel_rfl) (run_load1_op (by kernel_rfl) (by kernel_rfl) (KF w.drew hl)) trivial (fun _ => ?_)
      simp only [Act.put, List.setIfInBounds_toArray, List.set_cons_zero, List.set_cons_succ]
      refine wpAnyH_ready (rs := [12]) (by kernel_rfl) (by simp) ?_
      refine AllReadyH.cons (o := (⟨some 123, Op.call { callee := Callee.value (Operand.func 41), args := #[Operand.tmp 111, Operand.tmp 116, Operand.tmp 122], argTypes := #[65, 9, 9] }, 56, "more.go:57", #[{ on := 0, ground := Ground.data }, { on := 5, ground := Ground.data }, { on := 11, ground := Ground.data }], none⟩)) rfl ?_ (AllReadyH.nil)
      · skip
        refine next_call (f := 41) (args := #[.pointer (some ⟨g, 0, none⟩), .string f.k, .string k1]) (by kernel_rfl) (by kernel_rfl) (SC) ?_
        rintro e wy6 ⟨A1, c1, xs, rfl, hxs, hF, hb⟩
        refine ⟨.slice A1 xs.length c1, rfl, trivial, fun _ => ?_⟩
        simp only [Act.put, List.setIfInBounds_toArray, List.set_cons_zero, List.set_cons_succ]
        refine wpAnyH_take (i := 13) (oi := (⟨some 15, Op.assign (Operand.tmp 123), 56, "more.go:57", #[{ on := 12, ground := Ground.data }, { on := 12, ground := Ground.chain }, { on := 0, ground := Ground.phase }, { on := 1, ground := Ground.phase }, { on := 2, ground := Ground.phase }, { on := 3, ground := Ground.phase }, { on := 4, ground := Ground.phase }, { on := 5, ground := Ground.phase }, { on := 6, ground := Ground.phase }, { on := 7, ground := Ground.phase }, { on := 8, ground := Ground.phase }, { on := 9, ground := Ground.phase }, { on := 10, ground := Ground.phase }, { on := 11, ground := Ground.phase }, { on := 12, ground := Ground.phase }], none⟩)) (v := .slice A1 xs.length c1) rfl (by kernel_rfl) (by kernel_rfl) (by kernel_rfl) (fun _ _ _ h => h) (Or.inl ⟨by kernel_rfl, fun _ _ => by kernel_rfl⟩) trivial ?_
        simp only [Act.put, List.setIfInBounds_toArray, List.set_cons_zero, List.set_cons_succ]
        refine wpAnyH_done (by kernel_rfl) ?_ _
        exact NoPanic.normal (hend wy6 _ _ _ _ _ _ _ _ _ _ _ _ _ _ _ _ hxs hF ((Below.refl _ _).drew.trans hb))
end Go.Proofs.Ytadgaphgomagkaa
