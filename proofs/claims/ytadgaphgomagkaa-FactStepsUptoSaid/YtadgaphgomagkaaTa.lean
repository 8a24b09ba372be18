/- Are two facts the same, rows of facts? -/
import Derived.Test.YtadgaphgomagkaaLf
namespace Go.Proofs.Ytadgaphgomagkaa
open Go.RowKit
set_option maxHeartbeats 4000000
set_option maxRecDepth 100000

section
variable {P : Program} {ρ : Operand → Value} {d : Option Tmp} {ty : TypeId} {pos : String} {af : Array Edge} {g : Option (Nat × Bool)} {w : World}
theorem run_not_op {t : TypeId} {x : Operand} {b : Bool} (hx : ρ x = .bool b) : (execOp ρ ⟨d, .unOp .not t x, ty, pos, af, g⟩).run P w = .ok (.value (.bool (!b))) w := by
  simp [execOp, hx, go_sem]
end
theorem strB_inj {a b : ByteArray} (h : strB a = strB b) : a = b := by
  have h2 : a.data = b.data := Array.toList_inj.1 h
  cases a; cases b
  simpa using h2
theorem lawSame_any (x y : FM) (w : World) (hx : x.ok w) (hy : y.ok w) :
    Calls Try.prog 40 #[x.val, y.val] w fun e w' => e = .returned (.bool (decide (x.fv = y.fv))) ∧ Below w.heap.size w w' := by
  obtain ⟨xk, xs, xA, xc, xl⟩ := x
  obtain ⟨yk, ys, yA, yc, yl⟩ := y
  have hD : decide ((⟨xk, xs, xA, xc, xl⟩ : FM).fv = (⟨yk, ys, yA, yc, yl⟩ : FM).fv) = (decide (strB xk = strB yk) && (decide (xs = ys) && decide (xl = yl))) := by
    simp [FM.fv]
  rw [hD]
  simp only [FM.val]
  have h1 := Blk.new w 71 #[.string xk, .int .u64 (xs : Nat), .slice xA xl.length xc]
  have h2 := h1.alloc (.cells #[.string yk, .int .u64 (ys : Nat), .slice yA yl.length yc] 71)
  have h3 := Blk.new (w.alloc (.cells #[.string xk, .int .u64 (xs : Nat), .slice xA xl.length xc] 71)) 71 #[.string yk, .int .u64 (ys : Nat), .slice yA yl.length yc]
  have hb := ((Below.refl w.heap.size w).alloc (Nat.le_refl _) (.cells #[.string xk, .int .u64 (xs : Nat), .slice xA xl.length xc] 71)).alloc (by simp) (.cells #[.string yk, .int .u64 (ys : Nat), .slice yA yl.length yc] 71)
  have c1 := conv_bytes _ xA xc xl (hx.rd.below hb)
  have c2 := conv_bytes _ yA yc yl (hy.rd.below hb)
  have hk := key_eq xk yk
  have hs : ((xs : Int) == (ys : Int)) = decide (xs = ys) := by
    by_cases h : xs = ys
    · subst h; simp
    · rw [decide_eq_false h]; simp; omega
  have hl : (xl == yl) = decide (xl = yl) := by
    by_cases h : xl = yl
    · subst h; simp
    · rw [decide_eq_false h]; simpa using h
  rw [← hk, ← hs, ← hl]
  clear hk hs hl hx hy hD h1
  cases hk : (xk.toList == yk.toList) with
  | false =>
    go_enter Try.func40, Try.ntmps40
    go_wp2_with fail
    go_ret
    exact ⟨rfl, hb⟩
  | true =>
    cases hs : ((xs : Int) == (ys : Int)) with
    | false =>
      go_enter Try.func40, Try.ntmps40
      go_wp2_with fail
      go_ret
      exact ⟨rfl, hb⟩
    | true =>
      go_enter Try.func40, Try.ntmps40
      go_wp2_with fail
      go_ret
      exact ⟨rfl, hb⟩
end Go.Proofs.Ytadgaphgomagkaa
/- Rows of facts, the same? The statement that draws its order. PRINTED by tools/regs_l.py. -/
namespace Go.Proofs.Ytadgaphgomagkaa
open Go.RowKit
set_option maxHeartbeats 8000000
set_option maxRecDepth 100000
def opsSr6 : Array Oper := #[{ dst := some 17, op := Op.move (Operand.tmp 0), type := 56, pos := "law.go:38", after := #[], guard := none }, { dst := some 18, op := Op.move (Operand.tmp 5), type := 3, pos := "law.go:38", after := #[], guard := none }, { dst := some 19, op := Op.indexAddr 56 (Operand.tmp 17) (Operand.tmp 18), type := 0, pos := "law.go:38", after := #[{ on := 0, ground := Ground.data }, { on := 1, ground := Ground.data }], guard := none }, { dst := some 20, op := Op.load 71 (Operand.tmp 19), type := 71, pos := "law.go:38", after := #[{ on := 2, ground := Ground.data }], guard := none }, { dst := some 21, op := Op.move (Operand.tmp 1), type := 56, pos := "law.go:38", after := #[], guard := none }, { dst := some 22, op := Op.move (Operand.tmp 5), type := 3, pos := "law.go:38", after := #[], guard := none }, { dst := some 23, op := Op.indexAddr 56 (Operand.tmp 21) (Operand.tmp 22), type := 0, pos := "law.go:38", after := #[{ on := 4, ground := Ground.data }, { on := 5, ground := Ground.data }], guard := none }, { dst := some 24, op := Op.load 71 (Operand.tmp 23), type := 71, pos := "law.go:38", after := #[{ on := 6, ground := Ground.data }], guard := none }, { dst := some 25, op := Op.call { callee := Callee.value (Operand.func 40), args := #[Operand.tmp 20, Operand.tmp 24], argTypes := #[71, 71] }, type := 4, pos := "law.go:38", after := #[{ on := 3, ground := Ground.data }, { on := 7, ground := Ground.data }], guard := none }, { dst := some 26, op := Op.unOp UnOp.not 4 (Operand.tmp 25), type := 4, pos := "law.go:38", after := #[{ on := 8, ground := Ground.data }], guard := none }]
theorem regSr6 {u2 u3 u4 u6 u7 u8 u9 u10 u11 u12 u13 u14 u15 u16 u17 u18 u19 u20 u21 u22 u23 u24 u25 u26 : Value} {DD : List Deferred} {Q : Exit → Act → World → Prop} {w : World} {aa ab : Addr} {n m ca cb h : Nat} {a b : List FM} {x y : FM} (ha : Rd w.drew (some aa) (fcells a)) (hb : Rd w.drew (some ab) (fcells b)) (hx : a[h]? = some x) (hy : b[h]? = some y) (hn : h < n) (hm : h < m) (hxo : x.ok w.drew) (hyo : y.ok w.drew)
    (hend : ∀ (w2 : World) (x17 x18 x19 x20 x21 x22 x23 x24 x25 : Value) (_ : Below w.heap.size w w2), Q .normal ⟨#[.slice (some aa) n ca, .slice (some ab) m cb, u2, u3, u4, .int .i64 (h : Nat), u6, u7, u8, u9, u10, u11, u12, u13, u14, u15, u16, x17, x18, x19, x20, x21, x22, x23, x24, x25, .bool (!decide (x.fv = y.fv))], DD⟩ w2) :
    (Code.region 6 opsSr6 true).wp Try.prog Q ⟨#[.slice (some aa) n ca, .slice (some ab) m cb, u2, u3, u4, .int .i64 (h : Nat), u6, u7, u8, u9, u10, u11, u12, u13, u14, u15, u16, u17, u18, u19, u20, u21, u22, u23, u24, u25, u26], DD⟩ w := by
  refine wp_region_noPanic ?_
  refine wp_region_held_drew (S := fun _ => True) (by kernel_rfl) trivial (fun _ => ?_)
  refine wpAnyH_take (i := 0) (oi := (⟨some 17, Op.move (Operand.tmp 0), 56, "law.go:38", #[], none⟩)) (v := .slice (some aa) n ca) rfl (by kernel_rfl) (by kernel_rfl) (by kernel_rfl) (fun _ _ _ h => h) (Or.inl ⟨by kernel_rfl, fun _ _ => by kernel_rfl⟩) trivial ?_
  simp only [Act.put, List.setIfInBounds_toArray, List.set_cons_zero, List.set_cons_succ]
  refine wpAnyH_take (i := 1) (oi := (⟨some 18, Op.move (Operand.tmp 5), 3, "law.go:38", #[], none⟩)) (v := .int .i64 (h : Nat)) rfl (by kernel_rfl) (by kernel_rfl) (by kernel_rfl) (fun _ _ _ h => h) (Or.inl ⟨by kernel_rfl, fun _ _ => by kernel_rfl⟩) trivial ?_
  simp only [Act.put, List.setIfInBounds_toArray, List.set_cons_zero, List.set_cons_succ]
  refine wpAnyH_take (i := 2) (oi := (⟨some 19, Op.indexAddr 56 (Operand.tmp 17) (Operand.tmp 18), 0, "law.go:38", #[{ on := 0, ground := Ground.data }, { on := 1, ground := Ground.data }], none⟩)) (v := .pointer (some (aa.add (h * 3)))) rfl (by kernel_rfl) (by kernel_rfl) (by kernel_rfl) (fun _ _ _ h => h) (Or.inl ⟨by kernel_rfl, fun W _ => run_index_op (size := 3) (i := h) (n := n) (c := ca) Try.underlying56 (by kernel_rfl) rfl rfl hn⟩) trivial ?_
  simp only [Act.put, List.setIfInBounds_toArray, List.set_cons_zero, List.set_cons_succ]
  refine wpAnyH_take (i := 4) (oi := (⟨some 21, Op.move (Operand.tmp 1), 56, "law.go:38", #[], none⟩)) (v := .slice (some ab) m cb) rfl (by kernel_rfl) (by kernel_rfl) (by kernel_rfl) (fun _ _ _ h => h) (Or.inl ⟨by kernel_rfl, fun _ _ => by kernel_rfl⟩) trivial ?_
  simp only [Act.put, List.setIfInBounds_toArray, List.set_cons_zero, List.set_cons_succ]
  refine wpAnyH_take (i := 5) (oi := (⟨some 22, Op.move (Operand.tmp 5), 3, "law.go:38", #[], none⟩)) (v := .int .i64 (h : Nat)) rfl (by kernel_rfl) (by kernel_rfl) (by kernel_rfl) (fun _ _ _ h => h) (Or.inl ⟨by kernel_rfl, fun _ _ => by kernel_rfl⟩) trivial ?_
  simp only [Act.put, List.setIfInBounds_toArray, List.set_cons_zero, List.set_cons_succ]
  refine wpAnyH_take (i := 6) (oi := (⟨some 23, Op.indexAddr 56 (Operand.tmp 21) (Operand.tmp 22), 0, "law.go:38", #[{ on := 4, ground := Ground.data }, { on := 5, ground := Ground.data }], none⟩)) (v := .pointer (some (ab.add (h * 3)))) rfl (by kernel_rfl) (by kernel_rfl) (by kernel_rfl) (fun _ _ _ h => h) (Or.inl ⟨by kernel_rfl, fun W _ => run_index_op (size := 3) (i := h) (n := m) (c := cb) Try.underlying56 (by kernel_rfl) rfl rfl hm⟩) trivial ?_
  simp only [Act.put, List.setIfInBounds_toArray, List.set_cons_zero, List.set_cons_succ]
  refine wpAnyH_ready (rs := [3, 7]) (by kernel_rfl) (by simp) ?_
  refine AllReadyH.cons (o := (⟨some 20, Op.load 71 (Operand.tmp 19), 71, "law.go:38", #[{ on := 2, ground := Ground.data }], none⟩)) rfl ?_ (AllReadyH.cons (o := (⟨some 24, Op.load 71 (Operand.tmp 23), 71, "law.go:38", #[{ on := 6, ground := Ground.data }], none⟩)) rfl ?_ (AllReadyH.nil))
  · skip
    refine next_op (v := x.val) (by kernel_rfl) (run_loadS_op x.cells (by kernel_rfl) (by kernel_rfl) rfl (facts_cells' ha hx)) trivial (fun _ => ?_)
    simp only [Act.put, List.setIfInBounds_toArray, List.set_cons_zero, List.set_cons_succ]
    refine wpAnyH_ready (rs := [7]) (by kernel_rfl) (by simp) ?_
    refine AllReadyH.cons (o := (⟨some 24, Op.load 71 (Operand.tmp 23), 71, "law.go:38", #[{ on := 6, ground := Ground.data }], none⟩)) rfl ?_ (AllReadyH.nil)
    · skip
      refine next_op (v := y.val) (by kernel_rfl) (run_loadS_op y.cells (by kernel_rfl) (by kernel_rfl) rfl (facts_cells' hb hy)) trivial (fun _ => ?_)
      simp only [Act.put, List.setIfInBounds_toArray, List.set_cons_zero, List.set_cons_succ]
      refine wpAnyH_ready (rs := [8]) (by kernel_rfl) (by simp) ?_
      refine AllReadyH.cons (o := (⟨some 25, Op.call { callee := Callee.value (Operand.func 40), args := #[Operand.tmp 20, Operand.tmp 24], argTypes := #[71, 71] }, 4, "law.go:38", #[{ on := 3, ground := Ground.data }, { on := 7, ground := Ground.data }], none⟩)) rfl ?_ (AllReadyH.nil)
      · skip
        refine next_call (f := 40) (args := #[x.val, y.val]) (by kernel_rfl) (by kernel_rfl) (lawSame_any x y w.drew hxo hyo) ?_
        rintro e wy3 ⟨rfl, hbb⟩
        refine ⟨.bool (decide (x.fv = y.fv)), rfl, trivial, fun _ => ?_⟩
        simp only [Act.put, List.setIfInBounds_toArray, List.set_cons_zero, List.set_cons_succ]
        refine wpAnyH_take (i := 9) (oi := (⟨some 26, Op.unOp UnOp.not 4 (Operand.tmp 25), 4, "law.go:38", #[{ on := 8, ground := Ground.data }], none⟩)) (v := .bool (!decide (x.fv = y.fv))) rfl (by kernel_rfl) (by kernel_rfl) (by kernel_rfl) (fun _ _ _ h => h) (Or.inl ⟨by kernel_rfl, fun W _ => run_not_op rfl⟩) trivial ?_
        simp only [Act.put, List.setIfInBounds_toArray, List.set_cons_zero, List.set_cons_succ]
        refine wpAnyH_done (by kernel_rfl) ?_ _
        exact NoPanic.normal (hend wy3 _ _ _ _ _ _ _ _ _ ((Below.refl _ _).drew.trans (hbb.mono (Nat.le_refl _))))
  · skip
    refine next_op (v := y.val) (by kernel_rfl) (run_loadS_op y.cells (by kernel_rfl) (by kernel_rfl) rfl (facts_cells' hb hy)) trivial (fun _ => ?_)
    simp only [Act.put, List.setIfInBounds_toArray, List.set_cons_zero, List.set_cons_succ]
    refine wpAnyH_ready (rs := [3]) (by kernel_rfl) (by simp) ?_
    refine AllReadyH.cons (o := (⟨some 20, Op.load 71 (Operand.tmp 19), 71, "law.go:38", #[{ on := 2, ground := Ground.data }], none⟩)) rfl ?_ (AllReadyH.nil)
    · skip
      refine next_op (v := x.val) (by kernel_rfl) (run_loadS_op x.cells (by kernel_rfl) (by kernel_rfl) rfl (facts_cells' ha hx)) trivial (fun _ => ?_)
      simp only [Act.put, List.setIfInBounds_toArray, List.set_cons_zero, List.set_cons_succ]
      refine wpAnyH_ready (rs := [8]) (by kernel_rfl) (by simp) ?_
      refine AllReadyH.cons (o := (⟨some 25, Op.call { callee := Callee.value (Operand.func 40), args := #[Operand.tmp 20, Operand.tmp 24], argTypes := #[71, 71] }, 4, "law.go:38", #[{ on := 3, ground := Ground.data }, { on := 7, ground := Ground.data }], none⟩)) rfl ?_ (AllReadyH.nil)
      · skip
        refine next_call (f := 40) (args := #[x.val, y.val]) (by kernel_rfl) (by kernel_rfl) (lawSame_any x y w.drew hxo hyo) ?_
        rintro e wy6 ⟨rfl, hbb⟩
        refine ⟨.bool (decide (x.fv = y.fv)), rfl, trivial, fun _ => ?_⟩
        simp only [Act.put, List.setIfInBounds_toArray, List.set_cons_zero, List.set_cons_succ]
        refine wpAnyH_take (i := 9) (oi := (⟨some 26, Op.unOp UnOp.not 4 (Operand.tmp 25), 4, "law.go:38", #[{ on := 8, ground := Ground.data }], none⟩)) (v := .bool (!decide (x.fv = y.fv))) rfl (by kernel_rfl) (by kernel_rfl) (by kernel_rfl) (fun _ _ _ h => h) (Or.inl ⟨by kernel_rfl, fun W _ => run_not_op rfl⟩) trivial ?_
        simp only [Act.put, List.setIfInBounds_toArray, List.set_cons_zero, List.set_cons_succ]
        refine wpAnyH_done (by kernel_rfl) ?_ _
        exact NoPanic.normal (hend wy6 _ _ _ _ _ _ _ _ _ ((Below.refl _ _).drew.trans (hbb.mono (Nat.le_refl _))))
end Go.Proofs.Ytadgaphgomagkaa
/- Rows of facts, the same? -/
namespace Go.Proofs.Ytadgaphgomagkaa
open Go.RowKit
set_option maxHeartbeats 4000000
set_option maxRecDepth 100000

theorem sameRows_any (A B : Option Addr) (c d : Nat) (a b : List FM) (w : World) (ha : Rd w A (fcells a)) (hb : Rd w B (fcells b)) (hao : ∀ f ∈ a, f.ok w) (hbo : ∀ f ∈ b, f.ok w) (hl : a.length ≤ 1048576) :
    Calls Try.prog 42 #[.slice A a.length c, .slice B b.length d] w fun e w' => e = .returned (.bool (decide (a.map FM.fv = b.map FM.fv))) ∧ Below w.heap.size w w' := by
  generalize hR : decide (a.map FM.fv = b.map FM.fv) = R at *
  by_cases hlen : a.length = b.length
  · have HR : Hid (decide (a.map FM.fv = b.map FM.fv) = R) := Lib.hid hR
    clear hR
    have hk : ((a.length : Int) != (b.length : Int)) = false := by simp [hlen]
    rw [← hlen]
    have hk2 : ((a.length : Int) != (a.length : Int)) = false := by simp
    clear hk
    go_enter Try.func42, Try.ntmps42
    go_wp2_with fail
    go_loopg [5] a.length (fun m s5 wr => ∃ k : Nat, m = a.length - k ∧ k ≤ a.length ∧ s5 = .int .i64 (k : Nat) ∧ (a.map FM.fv).take k = (b.map FM.fv).take k ∧ Below w.heap.size w wr)
    case atStart => exact ⟨0, by omega, by omega, rfl, by simp, Below.refl _ _⟩
    case round =>
      obtain ⟨k, rfl, hk, rfl, htk, hbw⟩ := hrel
      by_cases hlt : k < a.length
      · have r1 : (k : Int) < (a.length : Int) := by omega
        obtain ⟨aa, rfl, _, _⟩ := (ha.below hbw) (by rw [← List.length_pos_iff, fcells_length]; omega)
        obtain ⟨ab, rfl, _, _⟩ := (hb.below hbw) (by rw [← List.length_pos_iff, fcells_length]; omega)
        obtain ⟨x, hx⟩ : ∃ x, a[k]? = some x := ⟨a[k], List.getElem?_eq_getElem hlt⟩
        obtain ⟨y, hy⟩ : ∃ y, b[k]? = some y := ⟨b[k]'(by omega), List.getElem?_eq_getElem (by omega)⟩
        have hxo := (hao x (List.mem_of_getElem? hx)).below hbw
        have hyo := (hbo y (List.mem_of_getElem? hy)).below hbw
        have hxd : x.ok wr.drew := ⟨hxo.rd, hxo.cap, hxo.few, hxo.seq, hxo.key⟩
        have hyd : y.ok wr.drew := ⟨hyo.rd, hyo.cap, hyo.few, hyo.seq, hyo.key⟩
        have hst : (a.map FM.fv).take (k + 1) = (a.map FM.fv).take k ++ [x.fv] := by
          rw [List.take_add_one]
          simp [hx]
        have hst2 : (b.map FM.fv).take (k + 1) = (b.map FM.fv).take k ++ [y.fv] := by
          rw [List.take_add_one]
          simp [hy]
        have hgx : (a.map FM.fv)[k]? = some x.fv := by simp [hx]
        have hgy : (b.map FM.fv)[k]? = some y.fv := by simp [hy]
        go_upto_region 6 with fail
        refine regSr6 (ha.below hbw).drew (hb.below hbw).drew hx hy hlt hlt hxd hyd ?_
        intro w2 _ _ _ _ _ _ _ _ _ hb2
        have hbw2 := hbw.trans (hb2.mono hbw.size)
        by_cases hxy : x.fv = y.fv
        · rw [decide_eq_true hxy]
          have HX := Lib.hid hxy
          clear hxy
          go_wp2_with fail
          go_roundg (a.length - (k + 1))
          case measure => omega
          case rel => exact ⟨k + 1, rfl, by omega, by go_num, by rw [hst, hst2, htk, HX.out], hbw2⟩
        · rw [decide_eq_false hxy]
          have hRf : R = false := by
            rw [← HR.out]
            refine decide_eq_false fun e => hxy ?_
            rw [e, hgy] at hgx
            exact (Option.some.inj hgx).symm
          subst hRf
          clear hxy
          go_wp2_with fail
          go_ret
          exact ⟨rfl, hbw2⟩
      · obtain rfl : k = a.length := by omega
        have r1 : ¬ (a.length : Int) < (a.length : Int) := by omega
        have hRt : R = true := by
          rw [← HR.out]
          refine decide_eq_true ?_
          rw [List.take_of_length_le (by simp), List.take_of_length_le (by simp; omega)] at htk
          exact htk
        subst hRt
        go_wp2_with fail
        go_ret
        exact ⟨rfl, hbw⟩
  · have hRf : R = false := by
      rw [← hR]
      refine decide_eq_false fun e => hlen ?_
      have := congrArg List.length e
      simpa using this
    subst hRf
    have hk : ((a.length : Int) != (b.length : Int)) = true := by simp; omega
    go_enter Try.func42, Try.ntmps42
    go_wp2_with fail
    go_ret
    exact ⟨rfl, Below.refl _ _⟩
end Go.Proofs.Ytadgaphgomagkaa
