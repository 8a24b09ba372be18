/- What a table's facts say of it: the plain law of 'looks'. -/
import Derived.Test.YtadgaphgomagkaaTd
import Derived.Test.YtadgaphgomagkaaJb
import Derived.Test.YtadgaphgomagkaaTa
import Derived.Test.YtadgaphgomagkaaTf
import Derived.Test.YtadgaphgomagkaaWi
namespace Go.Proofs.Ytadgaphgomagkaa
open Go.RowKit
set_option maxHeartbeats 1000000
set_option maxRecDepth 100000

/-- a stretch's facts among the first i -/
def someV (X : List FV) (p q i : Nat) : List FV := (X.take (min i q)).drop p
theorem someV_zero (X : List FV) (p q : Nat) : someV X p q 0 = [] := by simp [someV]
theorem someV_in (X : List FV) (p q i : Nat) (h : i < X.length) (hp : p ≤ i) (hq : i < q) : someV X p q (i + 1) = someV X p q i ++ [X[i]] := by
  unfold someV
  rw [Nat.min_eq_left (by omega), Nat.min_eq_left (by omega), List.take_succ_eq_append_getElem h, List.drop_append_of_le_length (by rw [List.length_take]; omega)]
theorem someV_out (X : List FV) (p q i : Nat) (h : i < p ∨ q ≤ i) (hpq : p ≤ q) : someV X p q (i + 1) = someV X p q i := by
  unfold someV
  rcases h with h | h
  · rw [List.drop_eq_nil_of_le (by rw [List.length_take]; omega), List.drop_eq_nil_of_le (by rw [List.length_take]; omega)]
  · rw [Nat.min_eq_right (by omega), Nat.min_eq_right (by omega)]
theorem someV_all (X : List FV) (p q : Nat) : someV X p q X.length = (X.drop p).take (q - p) := by
  unfold someV
  rw [← List.drop_take]
  congr 1
  rcases Nat.le_total q X.length with h | h
  · rw [Nat.min_eq_right h]
  · rw [Nat.min_eq_left h, List.take_of_length_le (Nat.le_refl _), List.take_of_length_le h]
theorem rngF_fv (L : List FM) (lo hi : ByteArray) : (rngF L lo hi).map FM.fv = someV (L.map FM.fv) (plF L lo) (max (plF L lo) (plF L hi)) (L.map FM.fv).length := by
  rw [someV_all, rngF, List.map_take, List.map_drop]
theorem plF_first (L : List FM) (hr : rightF L = true) (hs : ∀ f ∈ L, f.s < 18446744073709551616) (i : Nat) (hi : i < L.length) (h0 : ∀ h : 0 < i, (L[i - 1]'(by omega)).k ≠ L[i].k) : plF L L[i].k = i := by
  have h1 := plF_iff L L[i].k hr hs i hi
  have h2 : ¬ i < plF L L[i].k := fun h => bl_irrefl _ (h1.2 h)
  rcases Nat.lt_or_ge (plF L L[i].k) i with h3 | h3
  · have hp : 0 < i := by omega
    have h4 : ¬ bl (strB (L[i - 1]'(by omega)).k) (strB L[i].k) := fun h => by have := (plF_iff L L[i].k hr hs (i - 1) (by omega)).1 h; omega
    have h5 := right_mono L hr i (i - 1) hi (by omega)
    exact absurd (strB_inj (bl_tri h4 h5)) (h0 hp)
  · omega
theorem getF_first (L : List FM) (hr : rightF L = true) (hs : ∀ f ∈ L, f.s < 18446744073709551616) (i : Nat) (hi : i < L.length) (h0 : ∀ h : 0 < i, (L[i - 1]'(by omega)).k ≠ L[i].k) : getF L L[i].k = some L[i] :=
  getF_at L L[i].k L[i] (by rw [plF_first L hr hs i hi h0]; exact List.getElem?_eq_getElem hi) rfl
/-- does a row begin with a key? -/
def firstK (S : List FM) (lo : ByteArray) : Bool := match S with | [] => false | f :: _ => f.k.toList == lo.toList
/-- the least number among the first i, as the law reckons it -/
def lstF (l : List FM) (i : Nat) : Nat := if i = 0 then 0 else mnF (match l[0]? with | some f => f.s | none => 0) ((l.take i).map FM.s)
theorem lstF_one (l : List FM) (h : 0 < l.length) : lstF l 1 = l[0].s := by
  have h0 : l[0]? = some l[0] := List.getElem?_eq_getElem h
  simp [lstF, h0, mnF, List.take_one, List.head?_eq_getElem?]
theorem lstF_succ (l : List FM) (i : Nat) (h : i < l.length) (hi : 0 < i) : lstF l (i + 1) = min (lstF l i) l[i].s := by
  have h0 : i ≠ 0 := by omega
  simp only [lstF, h0, Nat.succ_ne_zero, if_false]
  rw [List.take_succ_eq_append_getElem h, List.map_append]
  exact mnF_snoc _ _ _
def mstF (l : List FM) (i : Nat) : Nat := mxF ((l.take i).map FM.s)
theorem mstF_succ (l : List FM) (i : Nat) (h : i < l.length) : mstF l (i + 1) = max (mstF l i) l[i].s := by
  unfold mstF
  rw [List.take_succ_eq_append_getElem h, List.map_append]
  exact mxF_snoc _ _
/-- what Bounds tells hangs on the facts' values alone -/
theorem bndF_looks {L l : List FM} (h : L.map FM.fv = l.map FM.fv) (hl : 0 < l.length) : bndF L = .tuple #[.string l[0].k, .string (l[l.length - 1]'(by omega)).k, .int .u64 (lstF l l.length : Nat), .int .u64 (mstF l l.length : Nat), .bool true] := by
  have hlen : L.length = l.length := by have := congrArg List.length h; simpa using this
  obtain ⟨h0, hk0, hv0⟩ := keys_same h 0 (by omega)
  obtain ⟨hz, hkz, _⟩ := keys_same h (L.length - 1) (by omega)
  have hs : L.map FM.s = l.map FM.s := by
    have := congrArg (List.map FV.s) h
    simpa [List.map_map, Function.comp_def, FM.fv] using this
  have e0 : L[0]? = some (L[0]'(by omega)) := List.getElem?_eq_getElem (by omega)
  have e1 : L[L.length - 1]? = some (L[L.length - 1]'(by omega)) := List.getElem?_eq_getElem (by omega)
  have e2 : l[0]? = some l[0] := List.getElem?_eq_getElem hl
  have hs0 : (L[0]'(by omega)).s = l[0].s := congrArg FV.s hv0
  unfold bndF
  rw [e0, e1]
  simp only [lstF, mstF, e2, if_neg (show ¬ l.length = 0 by omega), List.take_length]
  rw [hs, hs0, strB_inj hk0, strB_inj hkz]
  simp only [hlen]
theorem bndF_nil {L l : List FM} (h : L.map FM.fv = l.map FM.fv) (hl : l.length = 0) : bndF L = .tuple #[.string ⟨#[]⟩, .string ⟨#[]⟩, .int .u64 0, .int .u64 0, .bool false] := by
  have hlen : L.length = l.length := by have := congrArg List.length h; simpa using this
  have : L = [] := List.eq_nil_of_length_eq_zero (by omega)
  subst this
  rfl
/-- a key's newest fact stands at the front of its stretch -/
theorem getF_some (L : List FM) (hr : rightF L = true) (hs : ∀ f ∈ L, f.s < 18446744073709551616) (lo hi : ByteArray) (hb : bl (strB lo) (strB hi)) (f : FM) (hg : getF L lo = some f) :
    ∃ r, someV (L.map FM.fv) (plF L lo) (max (plF L lo) (plF L hi)) (L.map FM.fv).length = f.fv :: r ∧ f.k = lo := by
  unfold getF at hg
  split at hg
  · rename_i f2 hf2
    split at hg
    · rename_i hk
      injection hg with hg
      subst hg
      obtain ⟨hlt, hfe⟩ := List.getElem?_eq_some_iff.1 hf2
      have h1 := (plF_iff L hi hr hs (plF L lo) hlt).1 (by rw [hfe, hk]; exact hb)
      rw [someV_all]
      refine ⟨((L.map FM.fv).drop (plF L lo + 1)).take (max (plF L lo) (plF L hi) - plF L lo - 1), ?_, hk⟩
      rw [List.drop_eq_getElem_cons (by simpa using hlt), show max (plF L lo) (plF L hi) - plF L lo = (max (plF L lo) (plF L hi) - plF L lo - 1) + 1 by omega, List.take_succ_cons]
      simp [hfe]
    · cases hg
  · cases hg
theorem getF_none (L : List FM) (lo hi : ByteArray) (hg : getF L lo = none) (v : FV) (r : List FV) (h : someV (L.map FM.fv) (plF L lo) (max (plF L lo) (plF L hi)) (L.map FM.fv).length = v :: r) : v.k ≠ strB lo := by
  rw [someV_all] at h
  have h0 : (((L.map FM.fv).drop (plF L lo)).take (max (plF L lo) (plF L hi) - plF L lo))[0]? = some v := by rw [h]; rfl
  rw [List.getElem?_take] at h0
  split at h0
  · rw [List.getElem?_drop, Nat.add_zero, List.getElem?_map] at h0
    obtain ⟨f, hf, rfl⟩ := Option.map_eq_some_iff.1 h0
    unfold getF at hg
    rw [hf] at hg
    simp only at hg
    split at hg
    · cases hg
    · rename_i hk
      exact fun e => hk (strB_inj e)
  · cases h0
end Go.Proofs.Ytadgaphgomagkaa
/- The law's looks: statements that draw their order. PRINTED by tools/regs_u.py. -/
namespace Go.Proofs.Ytadgaphgomagkaa
open Go.RowKit
set_option maxHeartbeats 8000000
set_option maxRecDepth 100000
def opsLk17 : Array Oper := #[{ dst := some 117, op := Op.move (Operand.tmp 14), type := 4, pos := "law.go:148", after := #[], guard := none }, { dst := some 118, op := Op.unOp UnOp.not 4 (Operand.tmp 117), type := 4, pos := "law.go:148", after := #[{ on := 0, ground := Ground.data }], guard := none }, { dst := some 119, op := Op.move (Operand.tmp 118), type := 4, pos := "law.go:148", after := #[{ on := 1, ground := Ground.data }], guard := none }, { dst := some 120, op := Op.load 71 (Operand.tmp 13), type := 71, pos := "law.go:148", after := #[{ on := 2, ground := Ground.guard }], guard := some (2, false) }, { dst := some 121, op := Op.move (Operand.tmp 1), type := 56, pos := "law.go:148", after := #[{ on := 2, ground := Ground.guard }], guard := some (2, false) }, { dst := some 122, op := Op.move (Operand.tmp 12), type := 3, pos := "law.go:148", after := #[{ on := 2, ground := Ground.guard }], guard := some (2, false) }, { dst := some 123, op := Op.indexAddr 56 (Operand.tmp 121) (Operand.tmp 122), type := 0, pos := "law.go:148", after := #[{ on := 4, ground := Ground.data }, { on := 5, ground := Ground.data }, { on := 2, ground := Ground.guard }], guard := some (2, false) }, { dst := some 124, op := Op.load 71 (Operand.tmp 123), type := 71, pos := "law.go:148", after := #[{ on := 6, ground := Ground.data }, { on := 2, ground := Ground.guard }], guard := some (2, false) }, { dst := some 125, op := Op.call { callee := Callee.value (Operand.func 40), args := #[Operand.tmp 120, Operand.tmp 124], argTypes := #[71, 71] }, type := 4, pos := "law.go:148", after := #[{ on := 3, ground := Ground.data }, { on := 7, ground := Ground.data }, { on := 2, ground := Ground.chain }, { on := 2, ground := Ground.guard }], guard := some (2, false) }, { dst := some 126, op := Op.unOp UnOp.not 4 (Operand.tmp 125), type := 4, pos := "law.go:148", after := #[{ on := 8, ground := Ground.data }, { on := 2, ground := Ground.guard }], guard := some (2, false) }, { dst := some 127, op := Op.pick (Operand.tmp 119) (Operand.const (Value.bool true)) (Operand.tmp 126), type := 4, pos := "law.go:148", after := #[{ on := 2, ground := Ground.data }, { on := 9, ground := Ground.data }], guard := none }]
theorem regLk17 {u0 u2 u3 u4 u5 u6 u7 u8 u9 u10 u11 u15 u16 u17 u18 u19 u20 u21 u22 u23 u24 u25 u26 u27 u28 u29 u30 u31 u32 u33 u34 u35 u36 u37 u38 u39 u40 u41 u42 u43 u44 u45 u46 u47 u48 u49 u50 u51 u52 u53 u54 u55 u56 u57 u58 u59 u60 u61 u62 u63 u64 u65 u66 u67 u68 u69 u70 u71 u72 u73 u74 u75 u76 u77 u78 u79 u80 u81 u82 u83 u84 u85 u86 u87 u88 u89 u90 u91 u92 u93 u94 u95 u96 u97 u98 u99 u100 u101 u102 u103 u104 u105 u106 u107 u108 u109 u110 u111 u112 u113 u114 u115 u116 u117 u118 u119 u120 u121 u122 u123 u124 u125 u126 u127 u128 u129 u130 u131 u132 u133 u134 u135 u136 u137 u138 u139 u140 u141 u142 u143 u144 u145 u146 u147 u148 u149 u150 u151 u152 u153 u154 u155 u156 u157 u158 u159 u160 u161 u162 u163 u164 u165 u166 u167 u168 u169 u170 u171 u172 u173 u174 u175 u176 u177 u178 u179 u180 u181 u182 u183 u184 u185 u186 u187 u188 u189 u190 u191 u192 u193 u194 u195 u196 u197 u198 u199 u200 u201 u202 u203 u204 u205 u206 u207 u208 u209 u210 u211 u212 u213 u214 u215 u216 u217 u218 u219 u220 u221 u222 u223 u224 u225 u226 : Value} {DD : List Deferred} {Q : Exit → Act → World → Prop} {w : World} {la : Addr} {n lc gx h : Nat} {l : List FM} {f x : FM} (hl : Rd w.drew (some la) (fcells l)) (hf : l[h]? = some f) (hn : h < n) (hX : Blk w.drew gx 71 x.cells.toArray)
    (hxo : x.ok w.drew) (hyo : f.ok w.drew) (hxy : x.fv = f.fv)
    (hend : ∀ (w2 : World) (x117 x118 x119 x120 x121 x122 x123 x124 x125 x126 : Value) (_ : Below w.heap.size w w2), Q .normal ⟨#[u0, .slice (some la) n lc, u2, u3, u4, u5, u6, u7, u8, u9, u10, u11, .int .i64 (h : Nat), .pointer (some ⟨gx, 0, none⟩), .bool true, u15, u16, u17, u18, u19, u20, u21, u22, u23, u24, u25, u26, u27, u28, u29, u30, u31, u32, u33, u34, u35, u36, u37, u38, u39, u40, u41, u42, u43, u44, u45, u46, u47, u48, u49, u50, u51, u52, u53, u54, u55, u56, u57, u58, u59, u60, u61, u62, u63, u64, u65, u66, u67, u68, u69, u70, u71, u72, u73, u74, u75, u76, u77, u78, u79, u80, u81, u82, u83, u84, u85, u86, u87, u88, u89, u90, u91, u92, u93, u94, u95, u96, u97, u98, u99, u100, u101, u102, u103, u104, u105, u106, u107, u108, u109, u110, u111, u112, u113, u114, u115, u116, x117, x118, x119, x120, x121, x122, x123, x124, x125, x126, .bool false, u128, u129, u130, u131, u132, u133, u134, u135, u136, u137, u138, u139, u140, u141, u142, u143, u144, u145, u146, u147, u148, u149, u150, u151, u152, u153, u154, u155, u156, u157, u158, u159, u160, u161, u162, u163, u164, u165, u166, u167, u168, u169, u170, u171, u172, u173, u174, u175, u176, u177, u178, u179, u180, u181, u182, u183, u184, u185, u186, u187, u188, u189, u190, u191, u192, u193, u194, u195, u196, u197, u198, u199, u200, u201, u202, u203, u204, u205, u206, u207, u208, u209, u210, u211, u212, u213, u214, u215, u216, u217, u218, u219, u220, u221, u222, u223, u224, u225, u226], DD⟩ w2) :
    (Code.region 17 opsLk17 true).wp Try.prog Q ⟨#[u0, .slice (some la) n lc, u2, u3, u4, u5, u6, u7, u8, u9, u10, u11, .int .i64 (h : Nat), .pointer (some ⟨gx, 0, none⟩), .bool true, u15, u16, u17, u18, u19, u20, u21, u22, u23, u24, u25, u26, u27, u28, u29, u30, u31, u32, u33, u34, u35, u36, u37, u38, u39, u40, u41, u42, u43, u44, u45, u46, u47, u48, u49, u50, u51, u52, u53, u54, u55, u56, u57, u58, u59, u60, u61, u62, u63, u64, u65, u66, u67, u68, u69, u70, u71, u72, u73, u74, u75, u76, u77, u78, u79, u80, u81, u82, u83, u84, u85, u86, u87, u88, u89, u90, u91, u92, u93, u94, u95, u96, u97, u98, u99, u100, u101, u102, u103, u104, u105, u106, u107, u108, u109, u110, u111, u112, u113, u114, u115, u116, u117, u118, u119, u120, u121, u122, u123, u124, u125, u126, u127, u128, u129, u130, u131, u132, u133, u134, u135, u136, u137, u138, u139, u140, u141, u142, u143, u144, u145, u146, u147, u148, u149, u150, u151, u152, u153, u154, u155, u156, u157, u158, u159, u160, u161, u162, u163, u164, u165, u166, u167, u168, u169, u170, u171, u172, u173, u174, u175, u176, u177, u178, u179, u180, u181, u182, u183, u184, u185, u186, u187, u188, u189, u190, u191, u192, u193, u194, u195, u196, u197, u198, u199, u200, u201, u202, u203, u204, u205, u206, u207, u208, u209, u210, u211, u212, u213, u214, u215, u216, u217, u218, u219, u220, u221, u222, u223, u224, u225, u226], DD⟩ w := by
  have SC := lawSame_any x f w.drew hxo hyo
  rw [decide_eq_true hxy] at SC
  refine wp_region_noPanic ?_
  refine wp_region_held_drew (S := fun _ => True) (by kernel_rfl) trivial (fun _ => ?_)
  refine wpAnyH_take (i := 0) (oi := (⟨some 117, Op.move (Operand.tmp 14), 4, "law.go:148", #[], none⟩)) (v := .bool true) rfl (by kernel_rfl) (by kernel_rfl) (by kernel_rfl) (fun _ _ _ h => h) (Or.inl ⟨by kernel_rfl, fun _ _ => by kernel_rfl⟩) trivial ?_
  simp only [Act.put, List.setIfInBounds_toArray, List.set_cons_zero, List.set_cons_succ]
  refine wpAnyH_take (i := 1) (oi := (⟨some 118, Op.unOp UnOp.not 4 (Operand.tmp 117), 4, "law.go:148", #[{ on := 0, ground := Ground.data }], none⟩)) (v := .bool false) rfl (by kernel_rfl) (by kernel_rfl) (by kernel_rfl) (fun _ _ _ h => h) (Or.inl ⟨by kernel_rfl, fun _ _ => by kernel_rfl⟩) trivial ?_
  simp only [Act.put, List.setIfInBounds_toArray, List.set_cons_zero, List.set_cons_succ]
  refine wpAnyH_take (i := 2) (oi := (⟨some 119, Op.move (Operand.tmp 118), 4, "law.go:148", #[{ on := 1, ground := Ground.data }], none⟩)) (v := .bool false) rfl (by kernel_rfl) (by kernel_rfl) (by kernel_rfl) (fun _ _ _ h => h) (Or.inl ⟨by kernel_rfl, fun _ _ => by kernel_rfl⟩) trivial ?_
  simp only [Act.put, List.setIfInBounds_toArray, List.set_cons_zero, List.set_cons_succ]
  refine wpAnyH_take (i := 4) (oi := (⟨some 121, Op.move (Operand.tmp 1), 56, "law.go:148", #[{ on := 2, ground := Ground.guard }], some (2, false)⟩)) (v := .slice (some la) n lc) rfl (by kernel_rfl) (by kernel_rfl) (by kernel_rfl) (fun _ _ _ h => h) (Or.inl ⟨by kernel_rfl, fun _ _ => by kernel_rfl⟩) trivial ?_
  simp only [Act.put, List.setIfInBounds_toArray, List.set_cons_zero, List.set_cons_succ]
  refine wpAnyH_take (i := 5) (oi := (⟨some 122, Op.move (Operand.tmp 12), 3, "law.go:148", #[{ on := 2, ground := Ground.guard }], some (2, false)⟩)) (v := .int .i64 (h : Nat)) rfl (by kernel_rfl) (by kernel_rfl) (by kernel_rfl) (fun _ _ _ h => h) (Or.inl ⟨by kernel_rfl, fun _ _ => by kernel_rfl⟩) trivial ?_
  simp only [Act.put, List.setIfInBounds_toArray, List.set_cons_zero, List.set_cons_succ]
  refine wpAnyH_take (i := 6) (oi := (⟨some 123, Op.indexAddr 56 (Operand.tmp 121) (Operand.tmp 122), 0, "law.go:148", #[{ on := 4, ground := Ground.data }, { on := 5, ground := Ground.data }, { on := 2, ground := Ground.guard }], some (2, false)⟩)) (v := .pointer (some (la.add (h * 3)))) rfl (by kernel_rfl) (by kernel_rfl) (by kernel_rfl) (fun _ _ _ h => h) (Or.inl ⟨by kernel_rfl, fun W _ => run_index_op (size := 3) (i := h) (n := n) (c := lc) Try.underlying56 (by kernel_rfl) rfl rfl hn⟩) trivial ?_
  simp only [Act.put, List.setIfInBounds_toArray, List.set_cons_zero, List.set_cons_succ]
  refine wpAnyH_ready (rs := [3, 7]) (by kernel_rfl) (by simp) ?_
  refine AllReadyH.cons (o := (⟨some 120, Op.load 71 (Operand.tmp 13), 71, "law.go:148", #[{ on := 2, ground := Ground.guard }], some (2, false)⟩)) rfl ?_ (AllReadyH.cons (o := (⟨some 124, Op.load 71 (Operand.tmp 123), 71, "law.go:148", #[{ on := 6, ground := Ground.data }, { on := 2, ground := Ground.guard }], some (2, false)⟩)) rfl ?_ (AllReadyH.nil))
  · skip
    refine next_op (v := x.val) (by kernel_rfl) (run_loadS_op x.cells (by kernel_rfl) (by kernel_rfl) rfl (blk_cells hX)) trivial (fun _ => ?_)
    simp only [Act.put, List.setIfInBounds_toArray, List.set_cons_zero, List.set_cons_succ]
    refine wpAnyH_ready (rs := [7]) (by kernel_rfl) (by simp) ?_
    refine AllReadyH.cons (o := (⟨some 124, Op.load 71 (Operand.tmp 123), 71, "law.go:148", #[{ on := 6, ground := Ground.data }, { on := 2, ground := Ground.guard }], some (2, false)⟩)) rfl ?_ (AllReadyH.nil)
    · skip
      refine next_op (v := f.val) (by kernel_rfl) (run_loadS_op f.cells (by kernel_rfl) (by kernel_rfl) rfl (facts_cells' hl hf)) trivial (fun _ => ?_)
      simp only [Act.put, List.setIfInBounds_toArray, List.set_cons_zero, List.set_cons_succ]
      refine wpAnyH_ready (rs := [8]) (by kernel_rfl) (by simp) ?_
      refine AllReadyH.cons (o := (⟨some 125, Op.call { callee := Callee.value (Operand.func 40), args := #[Operand.tmp 120, Operand.tmp 124], argTypes := #[71, 71] }, 4, "law.go:148", #[{ on := 3, ground := Ground.data }, { on := 7, ground := Ground.data }, { on := 2, ground := Ground.chain }, { on := 2, ground := Ground.guard }], some (2, false)⟩)) rfl ?_ (AllReadyH.nil)
      · skip
        refine next_call (f := 40) (args := #[x.val, f.val]) (by kernel_rfl) (by kernel_rfl) (SC) ?_
        rintro e wy3 ⟨rfl, hb⟩
        refine ⟨.bool true, rfl, trivial, fun _ => ?_⟩
        simp only [Act.put, List.setIfInBounds_toArray, List.set_cons_zero, List.set_cons_succ]
        refine wpAnyH_take (i := 9) (oi := (⟨some 126, Op.unOp UnOp.not 4 (Operand.tmp 125), 4, "law.go:148", #[{ on := 8, ground := Ground.data }, { on := 2, ground := Ground.guard }], some (2, false)⟩)) (v := .bool false) rfl (by kernel_rfl) (by kernel_rfl) (by kernel_rfl) (fun _ _ _ h => h) (Or.inl ⟨by kernel_rfl, fun _ _ => by kernel_rfl⟩) trivial ?_
        simp only [Act.put, List.setIfInBounds_toArray, List.set_cons_zero, List.set_cons_succ]
        refine wpAnyH_take (i := 10) (oi := (⟨some 127, Op.pick (Operand.tmp 119) (Operand.const (Value.bool true)) (Operand.tmp 126), 4, "law.go:148", #[{ on := 2, ground := Ground.data }, { on := 9, ground := Ground.data }], none⟩)) (v := .bool false) rfl (by kernel_rfl) (by kernel_rfl) (by kernel_rfl) (fun _ _ _ h => h) (Or.inl ⟨by kernel_rfl, fun _ _ => by kernel_rfl⟩) trivial ?_
        simp only [Act.put, List.setIfInBounds_toArray, List.set_cons_zero, List.set_cons_succ]
        refine wpAnyH_done (by kernel_rfl) ?_ _
        exact NoPanic.normal (hend wy3 _ _ _ _ _ _ _ _ _ _ ((Below.refl _ _).drew.trans hb))
  · skip
    refine next_op (v := f.val) (by kernel_rfl) (run_loadS_op f.cells (by kernel_rfl) (by kernel_rfl) rfl (facts_cells' hl hf)) trivial (fun _ => ?_)
    simp only [Act.put, List.setIfInBounds_toArray, List.set_cons_zero, List.set_cons_succ]
    refine wpAnyH_ready (rs := [3]) (by kernel_rfl) (by simp) ?_
    refine AllReadyH.cons (o := (⟨some 120, Op.load 71 (Operand.tmp 13), 71, "law.go:148", #[{ on := 2, ground := Ground.guard }], some (2, false)⟩)) rfl ?_ (AllReadyH.nil)
    · skip
      refine next_op (v := x.val) (by kernel_rfl) (run_loadS_op x.cells (by kernel_rfl) (by kernel_rfl) rfl (blk_cells hX)) trivial (fun _ => ?_)
      simp only [Act.put, List.setIfInBounds_toArray, List.set_cons_zero, List.set_cons_succ]
      refine wpAnyH_ready (rs := [8]) (by kernel_rfl) (by simp) ?_
      refine AllReadyH.cons (o := (⟨some 125, Op.call { callee := Callee.value (Operand.func 40), args := #[Operand.tmp 120, Operand.tmp 124], argTypes := #[71, 71] }, 4, "law.go:148", #[{ on := 3, ground := Ground.data }, { on := 7, ground := Ground.data }, { on := 2, ground := Ground.chain }, { on := 2, ground := Ground.guard }], some (2, false)⟩)) rfl ?_ (AllReadyH.nil)
      · skip
        refine next_call (f := 40) (args := #[x.val, f.val]) (by kernel_rfl) (by kernel_rfl) (SC) ?_
        rintro e wy6 ⟨rfl, hb⟩
        refine ⟨.bool true, rfl, trivial, fun _ => ?_⟩
        simp only [Act.put, List.setIfInBounds_toArray, List.set_cons_zero, List.set_cons_succ]
        refine wpAnyH_take (i := 9) (oi := (⟨some 126, Op.unOp UnOp.not 4 (Operand.tmp 125), 4, "law.go:148", #[{ on := 8, ground := Ground.data }, { on := 2, ground := Ground.guard }], some (2, false)⟩)) (v := .bool false) rfl (by kernel_rfl) (by kernel_rfl) (by kernel_rfl) (fun _ _ _ h => h) (Or.inl ⟨by kernel_rfl, fun _ _ => by kernel_rfl⟩) trivial ?_
        simp only [Act.put, List.setIfInBounds_toArray, List.set_cons_zero, List.set_cons_succ]
        refine wpAnyH_take (i := 10) (oi := (⟨some 127, Op.pick (Operand.tmp 119) (Operand.const (Value.bool true)) (Operand.tmp 126), 4, "law.go:148", #[{ on := 2, ground := Ground.data }, { on := 9, ground := Ground.data }], none⟩)) (v := .bool false) rfl (by kernel_rfl) (by kernel_rfl) (by kernel_rfl) (fun _ _ _ h => h) (Or.inl ⟨by kernel_rfl, fun _ _ => by kernel_rfl⟩) trivial ?_
        simp only [Act.put, List.setIfInBounds_toArray, List.set_cons_zero, List.set_cons_succ]
        refine wpAnyH_done (by kernel_rfl) ?_ _
        exact NoPanic.normal (hend wy6 _ _ _ _ _ _ _ _ _ _ ((Below.refl _ _).drew.trans hb))
def opsLk24 : Array Oper := #[{ dst := some 202, op := Op.move (Operand.tmp 2), type := 9, pos := "law.go:159", after := #[], guard := none }, { dst := some 203, op := Op.move (Operand.tmp 3), type := 9, pos := "law.go:159", after := #[], guard := none }, { dst := some 204, op := Op.binOp BinOp.lss 9 (Operand.tmp 202) (Operand.tmp 203) 9, type := 4, pos := "law.go:159", after := #[{ on := 0, ground := Ground.data }, { on := 1, ground := Ground.data }], guard := none }, { dst := some 205, op := Op.move (Operand.tmp 204), type := 4, pos := "law.go:159", after := #[{ on := 2, ground := Ground.data }], guard := none }, { dst := some 206, op := Op.move (Operand.tmp 19), type := 4, pos := "law.go:159", after := #[{ on := 3, ground := Ground.guard }], guard := some (3, true) }, { dst := some 207, op := Op.move (Operand.tmp 21), type := 4, pos := "law.go:159", after := #[{ on := 3, ground := Ground.guard }], guard := some (3, true) }, { dst := some 208, op := Op.binOp BinOp.neq 4 (Operand.tmp 206) (Operand.tmp 207) 4, type := 4, pos := "law.go:159", after := #[{ on := 4, ground := Ground.data }, { on := 5, ground := Ground.data }, { on := 3, ground := Ground.guard }], guard := some (3, true) }, { dst := some 209, op := Op.move (Operand.tmp 208), type := 4, pos := "law.go:159", after := #[{ on := 6, ground := Ground.data }, { on := 3, ground := Ground.chain }, { on := 3, ground := Ground.guard }], guard := some (3, true) }, { dst := some 210, op := Op.move (Operand.tmp 19), type := 4, pos := "law.go:159", after := #[{ on := 7, ground := Ground.guard }], guard := some (7, false) }, { dst := some 211, op := Op.move (Operand.tmp 210), type := 4, pos := "law.go:159", after := #[{ on := 8, ground := Ground.data }, { on := 7, ground := Ground.chain }, { on := 7, ground := Ground.guard }], guard := some (7, false) }, { dst := some 212, op := Op.load 71 (Operand.tmp 20), type := 71, pos := "law.go:159", after := #[{ on := 9, ground := Ground.guard }], guard := some (9, true) }, { dst := some 213, op := Op.move (Operand.tmp 9), type := 56, pos := "law.go:159", after := #[{ on := 9, ground := Ground.guard }], guard := some (9, true) }, { dst := some 214, op := Op.indexAddr 56 (Operand.tmp 213) (Operand.const (Value.int IntKind.i64 0)), type := 0, pos := "law.go:159", after := #[{ on := 11, ground := Ground.data }, { on := 9, ground := Ground.guard }], guard := some (9, true) }, { dst := some 215, op := Op.load 71 (Operand.tmp 214), type := 71, pos := "law.go:159", after := #[{ on := 12, ground := Ground.data }, { on := 9, ground := Ground.guard }], guard := some (9, true) }, { dst := some 216, op := Op.call { callee := Callee.value (Operand.func 40), args := #[Operand.tmp 212, Operand.tmp 215], argTypes := #[71, 71] }, type := 4, pos := "law.go:159", after := #[{ on := 10, ground := Ground.data }, { on := 13, ground := Ground.data }, { on := 9, ground := Ground.chain }, { on := 9, ground := Ground.guard }], guard := some (9, true) }, { dst := some 217, op := Op.unOp UnOp.not 4 (Operand.tmp 216), type := 4, pos := "law.go:159", after := #[{ on := 14, ground := Ground.data }, { on := 9, ground := Ground.guard }], guard := some (9, true) }, { dst := some 218, op := Op.pick (Operand.tmp 211) (Operand.tmp 217) (Operand.const (Value.bool false)), type := 4, pos := "law.go:159", after := #[{ on := 9, ground := Ground.data }, { on := 15, ground := Ground.data }, { on := 7, ground := Ground.guard }], guard := some (7, false) }, { dst := some 219, op := Op.pick (Operand.tmp 209) (Operand.const (Value.bool true)) (Operand.tmp 218), type := 4, pos := "law.go:159", after := #[{ on := 7, ground := Ground.data }, { on := 16, ground := Ground.data }, { on := 3, ground := Ground.guard }], guard := some (3, true) }, { dst := some 220, op := Op.pick (Operand.tmp 205) (Operand.tmp 219) (Operand.const (Value.bool false)), type := 4, pos := "law.go:159", after := #[{ on := 3, ground := Ground.data }, { on := 17, ground := Ground.data }], guard := none }]
theorem run_lss_str_true {P : Program} {ρ : Operand → Value} {d : Option Tmp} {ty : TypeId} {pos : String} {af : Array Edge} {g : Option (Nat × Bool)} {w : World} {t : TypeId} {x y : Operand} {s r : ByteArray} (hx : ρ x = .string s) (hy : ρ y = .string r) (h : Op.bytesLess s.toList r.toList = true) : (execOp ρ ⟨d, .binOp .lss t x y t, ty, pos, af, g⟩).run P w = .ok (.value (.bool true)) w := by
  simp [execOp, hx, hy, eqGuard, binOp, Op.stringOp, go_sem, h]
theorem regLk24 {u0 u1 u4 u5 u6 u7 u8 u10 u11 u12 u13 u14 u15 u16 u17 u18 u22 u23 u24 u25 u26 u27 u28 u29 u30 u31 u32 u33 u34 u35 u36 u37 u38 u39 u40 u41 u42 u43 u44 u45 u46 u47 u48 u49 u50 u51 u52 u53 u54 u55 u56 u57 u58 u59 u60 u61 u62 u63 u64 u65 u66 u67 u68 u69 u70 u71 u72 u73 u74 u75 u76 u77 u78 u79 u80 u81 u82 u83 u84 u85 u86 u87 u88 u89 u90 u91 u92 u93 u94 u95 u96 u97 u98 u99 u100 u101 u102 u103 u104 u105 u106 u107 u108 u109 u110 u111 u112 u113 u114 u115 u116 u117 u118 u119 u120 u121 u122 u123 u124 u125 u126 u127 u128 u129 u130 u131 u132 u133 u134 u135 u136 u137 u138 u139 u140 u141 u142 u143 u144 u145 u146 u147 u148 u149 u150 u151 u152 u153 u154 u155 u156 u157 u158 u159 u160 u161 u162 u163 u164 u165 u166 u167 u168 u169 u170 u171 u172 u173 u174 u175 u176 u177 u178 u179 u180 u181 u182 u183 u184 u185 u186 u187 u188 u189 u190 u191 u192 u193 u194 u195 u196 u197 u198 u199 u200 u201 u202 u203 u204 u205 u206 u207 u208 u209 u210 u211 u212 u213 u214 u215 u216 u217 u218 u219 u220 u221 u222 u223 u224 u225 u226 : Value} {DD : List Deferred} {Q : Exit → Act → World → Prop} {w : World} {la : Addr} {n lc gx : Nat} {l : List FM} {f x : FM} {lo hi : ByteArray} (hl : Rd w.drew (some la) (fcells l)) (hf : l[0]? = some f) (hlh : Op.bytesLess lo.toList hi.toList = true) (hX : Blk w.drew gx 71 x.cells.toArray)
    (hxo : x.ok w.drew) (hyo : f.ok w.drew) (hxy : x.fv = f.fv)
    (hend : ∀ (w2 : World) (x202 x203 x204 x205 x206 x207 x208 x209 x210 x211 x212 x213 x214 x215 x216 x217 x218 x219 : Value) (_ : Below w.heap.size w w2), Q .normal ⟨#[u0, u1, .string lo, .string hi, u4, u5, u6, u7, u8, .slice (some la) (n + 1) lc, u10, u11, u12, u13, u14, u15, u16, u17, u18, .bool true, .pointer (some ⟨gx, 0, none⟩), .bool true, u22, u23, u24, u25, u26, u27, u28, u29, u30, u31, u32, u33, u34, u35, u36, u37, u38, u39, u40, u41, u42, u43, u44, u45, u46, u47, u48, u49, u50, u51, u52, u53, u54, u55, u56, u57, u58, u59, u60, u61, u62, u63, u64, u65, u66, u67, u68, u69, u70, u71, u72, u73, u74, u75, u76, u77, u78, u79, u80, u81, u82, u83, u84, u85, u86, u87, u88, u89, u90, u91, u92, u93, u94, u95, u96, u97, u98, u99, u100, u101, u102, u103, u104, u105, u106, u107, u108, u109, u110, u111, u112, u113, u114, u115, u116, u117, u118, u119, u120, u121, u122, u123, u124, u125, u126, u127, u128, u129, u130, u131, u132, u133, u134, u135, u136, u137, u138, u139, u140, u141, u142, u143, u144, u145, u146, u147, u148, u149, u150, u151, u152, u153, u154, u155, u156, u157, u158, u159, u160, u161, u162, u163, u164, u165, u166, u167, u168, u169, u170, u171, u172, u173, u174, u175, u176, u177, u178, u179, u180, u181, u182, u183, u184, u185, u186, u187, u188, u189, u190, u191, u192, u193, u194, u195, u196, u197, u198, u199, u200, u201, x202, x203, x204, x205, x206, x207, x208, x209, x210, x211, x212, x213, x214, x215, x216, x217, x218, x219, .bool false, u221, u222, u223, u224, u225, u226], DD⟩ w2) :
    (Code.region 24 opsLk24 true).wp Try.prog Q ⟨#[u0, u1, .string lo, .string hi, u4, u5, u6, u7, u8, .slice (some la) (n + 1) lc, u10, u11, u12, u13, u14, u15, u16, u17, u18, .bool true, .pointer (some ⟨gx, 0, none⟩), .bool true, u22, u23, u24, u25, u26, u27, u28, u29, u30, u31, u32, u33, u34, u35, u36, u37, u38, u39, u40, u41, u42, u43, u44, u45, u46, u47, u48, u49, u50, u51, u52, u53, u54, u55, u56, u57, u58, u59, u60, u61, u62, u63, u64, u65, u66, u67, u68, u69, u70, u71, u72, u73, u74, u75, u76, u77, u78, u79, u80, u81, u82, u83, u84, u85, u86, u87, u88, u89, u90, u91, u92, u93, u94, u95, u96, u97, u98, u99, u100, u101, u102, u103, u104, u105, u106, u107, u108, u109, u110, u111, u112, u113, u114, u115, u116, u117, u118, u119, u120, u121, u122, u123, u124, u125, u126, u127, u128, u129, u130, u131, u132, u133, u134, u135, u136, u137, u138, u139, u140, u141, u142, u143, u144, u145, u146, u147, u148, u149, u150, u151, u152, u153, u154, u155, u156, u157, u158, u159, u160, u161, u162, u163, u164, u165, u166, u167, u168, u169, u170, u171, u172, u173, u174, u175, u176, u177, u178, u179, u180, u181, u182, u183, u184, u185, u186, u187, u188, u189, u190, u191, u192, u193, u194, u195, u196, u197, u198, u199, u200, u201, u202, u203, u204, u205, u206, u207, u208, u209, u210, u211, u212, u213, u214, u215, u216, u217, u218, u219, u220, u221, u222, u223, u224, u225, u226], DD⟩ w := by
  have SC := lawSame_any x f w.drew hxo hyo
  rw [decide_eq_true hxy] at SC
  refine wp_region_noPanic ?_
  refine wp_region_held_drew (S := fun _ => True) (by kernel_rfl) trivial (fun _ => ?_)
  refine wpAnyH_take (i := 0) (oi := (⟨some 202, Op.move (Operand.tmp 2), 9, "law.go:159", #[], none⟩)) (v := .string lo) rfl (by kernel_rfl) (by kernel_rfl) (by kernel_rfl) (fun _ _ _ h => h) (Or.inl ⟨by kernel_rfl, fun _ _ => by kernel_rfl⟩) trivial ?_
  simp only [Act.put, List.setIfInBounds_toArray, List.set_cons_zero, List.set_cons_succ]
  refine wpAnyH_take (i := 1) (oi := (⟨some 203, Op.move (Operand.tmp 3), 9, "law.go:159", #[], none⟩)) (v := .string hi) rfl (by kernel_rfl) (by kernel_rfl) (by kernel_rfl) (fun _ _ _ h => h) (Or.inl ⟨by kernel_rfl, fun _ _ => by kernel_rfl⟩) trivial ?_
  simp only [Act.put, List.setIfInBounds_toArray, List.set_cons_zero, List.set_cons_succ]
  refine wpAnyH_take (i := 2) (oi := (⟨some 204, Op.binOp BinOp.lss 9 (Operand.tmp 202) (Operand.tmp 203) 9, 4, "law.go:159", #[{ on := 0, ground := Ground.data }, { on := 1, ground := Ground.data }], none⟩)) (v := .bool true) rfl (by kernel_rfl) (by kernel_rfl) (by kernel_rfl) (fun _ _ _ h => h) (Or.inl ⟨by kernel_rfl, fun W _ => run_lss_str_true rfl rfl hlh⟩) trivial ?_
  simp only [Act.put, List.setIfInBounds_toArray, List.set_cons_zero, List.set_cons_succ]
  refine wpAnyH_take (i := 3) (oi := (⟨some 205, Op.move (Operand.tmp 204), 4, "law.go:159", #[{ on := 2, ground := Ground.data }], none⟩)) (v := .bool true) rfl (by kernel_rfl) (by kernel_rfl) (by kernel_rfl) (fun _ _ _ h => h) (Or.inl ⟨by kernel_rfl, fun _ _ => by kernel_rfl⟩) trivial ?_
  simp only [Act.put, List.setIfInBounds_toArray, List.set_cons_zero, List.set_cons_succ]
  refine wpAnyH_take (i := 4) (oi := (⟨some 206, Op.move (Operand.tmp 19), 4, "law.go:159", #[{ on := 3, ground := Ground.guard }], some (3, true)⟩)) (v := .bool true) rfl (by kernel_rfl) (by kernel_rfl) (by kernel_rfl) (fun _ _ _ h => h) (Or.inl ⟨by kernel_rfl, fun _ _ => by kernel_rfl⟩) trivial ?_
  simp only [Act.put, List.setIfInBounds_toArray, List.set_cons_zero, List.set_cons_succ]
  refine wpAnyH_take (i := 5) (oi := (⟨some 207, Op.move (Operand.tmp 21), 4, "law.go:159", #[{ on := 3, ground := Ground.guard }], some (3, true)⟩)) (v := .bool true) rfl (by kernel_rfl) (by kernel_rfl) (by kernel_rfl) (fun _ _ _ h => h) (Or.inl ⟨by kernel_rfl, fun _ _ => by kernel_rfl⟩) trivial ?_
  simp only [Act.put, List.setIfInBounds_toArray, List.set_cons_zero, List.set_cons_succ]
  refine wpAnyH_take (i := 6) (oi := (⟨some 208, Op.binOp BinOp.neq 4 (Operand.tmp 206) (Operand.tmp 207) 4, 4, "law.go:159", #[{ on := 4, ground := Ground.data }, { on := 5, ground := Ground.data }, { on := 3, ground := Ground.guard }], some (3, true)⟩)) (v := .bool false) rfl (by kernel_rfl) (by kernel_rfl) (by kernel_rfl) (fun _ _ _ h => h) (Or.inl ⟨by kernel_rfl, fun _ _ => by kernel_rfl⟩) trivial ?_
  simp only [Act.put, List.setIfInBounds_toArray, List.set_cons_zero, List.set_cons_succ]
  refine wpAnyH_take (i := 7) (oi := (⟨some 209, Op.move (Operand.tmp 208), 4, "law.go:159", #[{ on := 6, ground := Ground.data }, { on := 3, ground := Ground.chain }, { on := 3, ground := Ground.guard }], some (3, true)⟩)) (v := .bool false) rfl (by kernel_rfl) (by kernel_rfl) (by kernel_rfl) (fun _ _ _ h => h) (Or.inl ⟨by kernel_rfl, fun _ _ => by kernel_rfl⟩) trivial ?_
  simp only [Act.put, List.setIfInBounds_toArray, List.set_cons_zero, List.set_cons_succ]
  refine wpAnyH_take (i := 8) (oi := (⟨some 210, Op.move (Operand.tmp 19), 4, "law.go:159", #[{ on := 7, ground := Ground.guard }], some (7, false)⟩)) (v := .bool true) rfl (by kernel_rfl) (by kernel_rfl) (by kernel_rfl) (fun _ _ _ h => h) (Or.inl ⟨by kernel_rfl, fun _ _ => by kernel_rfl⟩) trivial ?_
  simp only [Act.put, List.setIfInBounds_toArray, List.set_cons_zero, List.set_cons_succ]
  refine wpAnyH_take (i := 9) (oi := (⟨some 211, Op.move (Operand.tmp 210), 4, "law.go:159", #[{ on := 8, ground := Ground.data }, { on := 7, ground := Ground.chain }, { on := 7, ground := Ground.guard }], some (7, false)⟩)) (v := .bool true) rfl (by kernel_rfl) (by kernel_rfl) (by kernel_rfl) (fun _ _ _ h => h) (Or.inl ⟨by kernel_rfl, fun _ _ => by kernel_rfl⟩) trivial ?_
  simp only [Act.put, List.setIfInBounds_toArray, List.set_cons_zero, List.set_cons_succ]
  refine wpAnyH_take (i := 11) (oi := (⟨some 213, Op.move (Operand.tmp 9), 56, "law.go:159", #[{ on := 9, ground := Ground.guard }], some (9, true)⟩)) (v := .slice (some la) (n + 1) lc) rfl (by kernel_rfl) (by kernel_rfl) (by kernel_rfl) (fun _ _ _ h => h) (Or.inl ⟨by kernel_rfl, fun _ _ => by kernel_rfl⟩) trivial ?_
  simp only [Act.put, List.setIfInBounds_toArray, List.set_cons_zero, List.set_cons_succ]
  refine wpAnyH_take (i := 12) (oi := (⟨some 214, Op.indexAddr 56 (Operand.tmp 213) (Operand.const (Value.int IntKind.i64 0)), 0, "law.go:159", #[{ on := 11, ground := Ground.data }, { on := 9, ground := Ground.guard }], some (9, true)⟩)) (v := .pointer (some (la.add (0 * 3)))) rfl (by kernel_rfl) (by kernel_rfl) (by kernel_rfl) (fun _ _ _ h => h) (Or.inl ⟨by kernel_rfl, fun W _ => run_index_op (size := 3) (i := 0) (n := n + 1) (c := lc) Try.underlying56 (by kernel_rfl) rfl rfl (by omega)⟩) trivial ?_
  simp only [Act.put, List.setIfInBounds_toArray, List.set_cons_zero, List.set_cons_succ]
  refine wpAnyH_ready (rs := [10, 13]) (by kernel_rfl) (by simp) ?_
  refine AllReadyH.cons (o := (⟨some 212, Op.load 71 (Operand.tmp 20), 71, "law.go:159", #[{ on := 9, ground := Ground.guard }], some (9, true)⟩)) rfl ?_ (AllReadyH.cons (o := (⟨some 215, Op.load 71 (Operand.tmp 214), 71, "law.go:159", #[{ on := 12, ground := Ground.data }, { on := 9, ground := Ground.guard }], some (9, true)⟩)) rfl ?_ (AllReadyH.nil))
  · skip
    refine next_op (v := x.val) (by kernel_rfl) (run_loadS_op x.cells (by kernel_rfl) (by kernel_rfl) rfl (blk_cells hX)) trivial (fun _ => ?_)
    simp only [Act.put, List.setIfInBounds_toArray, List.set_cons_zero, List.set_cons_succ]
    refine wpAnyH_ready (rs := [13]) (by kernel_rfl) (by simp) ?_
    refine AllReadyH.cons (o := (⟨some 215, Op.load 71 (Operand.tmp 214), 71, "law.go:159", #[{ on := 12, ground := Ground.data }, { on := 9, ground := Ground.guard }], some (9, true)⟩)) rfl ?_ (AllReadyH.nil)
    · skip
      refine next_op (v := f.val) (by kernel_rfl) (run_loadS_op f.cells (by kernel_rfl) (by kernel_rfl) rfl (facts_cells' hl hf)) trivial (fun _ => ?_)
      simp only [Act.put, List.setIfInBounds_toArray, List.set_cons_zero, List.set_cons_succ]
      refine wpAnyH_ready (rs := [14]) (by kernel_rfl) (by simp) ?_
      refine AllReadyH.cons (o := (⟨some 216, Op.call { callee := Callee.value (Operand.func 40), args := #[Operand.tmp 212, Operand.tmp 215], argTypes := #[71, 71] }, 4, "law.go:159", #[{ on := 10, ground := Ground.data }, { on := 13, ground := Ground.data }, { on := 9, ground := Ground.chain }, { on := 9, ground := Ground.guard }], some (9, true)⟩)) rfl ?_ (AllReadyH.nil)
      · skip
        refine next_call (f := 40) (args := #[x.val, f.val]) (by kernel_rfl) (by kernel_rfl) (SC) ?_
        rintro e wy3 ⟨rfl, hb⟩
        refine ⟨.bool true, rfl, trivial, fun _ => ?_⟩
        simp only [Act.put, List.setIfInBounds_toArray, List.set_cons_zero, List.set_cons_succ]
        refine wpAnyH_take (i := 15) (oi := (⟨some 217, Op.unOp UnOp.not 4 (Operand.tmp 216), 4, "law.go:159", #[{ on := 14, ground := Ground.data }, { on := 9, ground := Ground.guard }], some (9, true)⟩)) (v := .bool false) rfl (by kernel_rfl) (by kernel_rfl) (by kernel_rfl) (fun _ _ _ h => h) (Or.inl ⟨by kernel_rfl, fun _ _ => by kernel_rfl⟩) trivial ?_
        simp only [Act.put, List.setIfInBounds_toArray, List.set_cons_zero, List.set_cons_succ]
        refine wpAnyH_take (i := 16) (oi := (⟨some 218, Op.pick (Operand.tmp 211) (Operand.tmp 217) (Operand.const (Value.bool false)), 4, "law.go:159", #[{ on := 9, ground := Ground.data }, { on := 15, ground := Ground.data }, { on := 7, ground := Ground.guard }], some (7, false)⟩)) (v := .bool false) rfl (by kernel_rfl) (by kernel_rfl) (by kernel_rfl) (fun _ _ _ h => h) (Or.inl ⟨by kernel_rfl, fun _ _ => by kernel_rfl⟩) trivial ?_
        simp only [Act.put, List.setIfInBounds_toArray, List.set_cons_zero, List.set_cons_succ]
        refine wpAnyH_take (i := 17) (oi := (⟨some 219, Op.pick (Operand.tmp 209) (Operand.const (Value.bool true)) (Operand.tmp 218), 4, "law.go:159", #[{ on := 7, ground := Ground.data }, { on := 16, ground := Ground.data }, { on := 3, ground := Ground.guard }], some (3, true)⟩)) (v := .bool false) rfl (by kernel_rfl) (by kernel_rfl) (by kernel_rfl) (fun _ _ _ h => h) (Or.inl ⟨by kernel_rfl, fun _ _ => by kernel_rfl⟩) trivial ?_
        simp only [Act.put, List.setIfInBounds_toArray, List.set_cons_zero, List.set_cons_succ]
        refine wpAnyH_take (i := 18) (oi := (⟨some 220, Op.pick (Operand.tmp 205) (Operand.tmp 219) (Operand.const (Value.bool false)), 4, "law.go:159", #[{ on := 3, ground := Ground.data }, { on := 17, ground := Ground.data }], none⟩)) (v := .bool false) rfl (by kernel_rfl) (by kernel_rfl) (by kernel_rfl) (fun _ _ _ h => h) (Or.inl ⟨by kernel_rfl, fun _ _ => by kernel_rfl⟩) trivial ?_
        simp only [Act.put, List.setIfInBounds_toArray, List.set_cons_zero, List.set_cons_succ]
        refine wpAnyH_done (by kernel_rfl) ?_ _
        exact NoPanic.normal (hend wy3 _ _ _ _ _ _ _ _ _ _ _ _ _ _ _ _ _ _ ((Below.refl _ _).drew.trans hb))
  · skip
    refine next_op (v := f.val) (by kernel_rfl) (run_loadS_op f.cells (by kernel_rfl) (by kernel_rfl) rfl (facts_cells' hl hf)) trivial (fun _ => ?_)
    simp only [Act.put, List.setIfInBounds_toArray, List.set_cons_zero, List.set_cons_succ]
    refine wpAnyH_ready (rs := [10]) (by kernel_rfl) (by simp) ?_
    refine AllReadyH.cons (o := (⟨some 212, Op.load 71 (Operand.tmp 20), 71, "law.go:159", #[{ on := 9, ground := Ground.guard }], some (9, true)⟩)) rfl ?_ (AllReadyH.nil)
    · skip
      refine next_op (v := x.val) (by kernel_rfl) (run_loadS_op x.cells (by kernel_rfl) (by kernel_rfl) rfl (blk_cells hX)) trivial (fun _ => ?_)
      simp only [Act.put, List.setIfInBounds_toArray, List.set_cons_zero, List.set_cons_succ]
      refine wpAnyH_ready (rs := [14]) (by kernel_rfl) (by simp) ?_
      refine AllReadyH.cons (o := (⟨some 216, Op.call { callee := Callee.value (Operand.func 40), args := #[Operand.tmp 212, Operand.tmp 215], argTypes := #[71, 71] }, 4, "law.go:159", #[{ on := 10, ground := Ground.data }, { on := 13, ground := Ground.data }, { on := 9, ground := Ground.chain }, { on := 9, ground := Ground.guard }], some (9, true)⟩)) rfl ?_ (AllReadyH.nil)
      · skip
        refine next_call (f := 40) (args := #[x.val, f.val]) (by kernel_rfl) (by kernel_rfl) (SC) ?_
        rintro e wy6 ⟨rfl, hb⟩
        refine ⟨.bool true, rfl, trivial, fun _ => ?_⟩
        simp only [Act.put, List.setIfInBounds_toArray, List.set_cons_zero, List.set_cons_succ]
        refine wpAnyH_take (i := 15) (oi := (⟨some 217, Op.unOp UnOp.not 4 (Operand.tmp 216), 4, "law.go:159", #[{ on := 14, ground := Ground.data }, { on := 9, ground := Ground.guard }], some (9, true)⟩)) (v := .bool false) rfl (by kernel_rfl) (by kernel_rfl) (by kernel_rfl) (fun _ _ _ h => h) (Or.inl ⟨by kernel_rfl, fun _ _ => by kernel_rfl⟩) trivial ?_
        simp only [Act.put, List.setIfInBounds_toArray, List.set_cons_zero, List.set_cons_succ]
        refine wpAnyH_take (i := 16) (oi := (⟨some 218, Op.pick (Operand.tmp 211) (Operand.tmp 217) (Operand.const (Value.bool false)), 4, "law.go:159", #[{ on := 9, ground := Ground.data }, { on := 15, ground := Ground.data }, { on := 7, ground := Ground.guard }], some (7, false)⟩)) (v := .bool false) rfl (by kernel_rfl) (by kernel_rfl) (by kernel_rfl) (fun _ _ _ h => h) (Or.inl ⟨by kernel_rfl, fun _ _ => by kernel_rfl⟩) trivial ?_
        simp only [Act.put, List.setIfInBounds_toArray, List.set_cons_zero, List.set_cons_succ]
        refine wpAnyH_take (i := 17) (oi := (⟨some 219, Op.pick (Operand.tmp 209) (Operand.const (Value.bool true)) (Operand.tmp 218), 4, "law.go:159", #[{ on := 7, ground := Ground.data }, { on := 16, ground := Ground.data }, { on := 3, ground := Ground.guard }], some (3, true)⟩)) (v := .bool false) rfl (by kernel_rfl) (by kernel_rfl) (by kernel_rfl) (fun _ _ _ h => h) (Or.inl ⟨by kernel_rfl, fun _ _ => by kernel_rfl⟩) trivial ?_
        simp only [Act.put, List.setIfInBounds_toArray, List.set_cons_zero, List.set_cons_succ]
        refine wpAnyH_take (i := 18) (oi := (⟨some 220, Op.pick (Operand.tmp 205) (Operand.tmp 219) (Operand.const (Value.bool false)), 4, "law.go:159", #[{ on := 3, ground := Ground.data }, { on := 17, ground := Ground.data }], none⟩)) (v := .bool false) rfl (by kernel_rfl) (by kernel_rfl) (by kernel_rfl) (fun _ _ _ h => h) (Or.inl ⟨by kernel_rfl, fun _ _ => by kernel_rfl⟩) trivial ?_
        simp only [Act.put, List.setIfInBounds_toArray, List.set_cons_zero, List.set_cons_succ]
        refine wpAnyH_done (by kernel_rfl) ?_ _
        exact NoPanic.normal (hend wy6 _ _ _ _ _ _ _ _ _ _ _ _ _ _ _ _ _ _ ((Below.refl _ _).drew.trans hb))
end Go.Proofs.Ytadgaphgomagkaa
