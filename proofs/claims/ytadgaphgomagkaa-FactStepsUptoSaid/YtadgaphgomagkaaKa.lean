/- Facts as values; their order. -/
import Derived.Test.YtadgaphgomagkaaWi
import Derived.Test.YtadgaphgomagkaaProg
import Derived.Outline
namespace Go.Proofs.Ytadgaphgomagkaa
open Go.RowKit
set_option maxHeartbeats 1000000
set_option maxRecDepth 100000

/-- a fact in memory: its key, its number, its value's slice and bytes -/
structure FM where
  k : ByteArray
  s : Nat
  A : Option Addr
  c : Nat
  l : List UInt8
def FM.cells (f : FM) : List Value := [.string f.k, .int .u64 (f.s : Nat), .slice f.A f.l.length f.c]
def FM.val (f : FM) : Value := .agg #[.string f.k, .int .u64 (f.s : Nat), .slice f.A f.l.length f.c]
structure FM.ok (f : FM) (w : World) : Prop where
  rd : Rd w f.A (byts f.l)
  cap : f.l.length ≤ f.c
  few : f.l.length ≤ 1048576
  seq : f.s < 18446744073709551616
  key : f.k.size ≤ 1048576
theorem FM.ok.below {f : FM} {w w1 : World} (h : f.ok w) (hb : Below w.heap.size w w1) : f.ok w1 := ⟨h.rd.below hb, h.cap, h.few, h.seq, h.key⟩
def fcells (l : List FM) : List Value := l.flatMap FM.cells
theorem fcells_length (l : List FM) : (fcells l).length = l.length * 3 := by
  induction l with
  | nil => rfl
  | cons p L ih => simp [fcells, FM.cells] at ih ⊢; omega
theorem fcells_get (l : List FM) (i j : Nat) (h : i < l.length) (hj : j < 3) : (fcells l)[i * 3 + j]? = (l[i].cells)[j]? := by
  induction l generalizing i with
  | nil => simp at h
  | cons p L ih =>
    have e : fcells (p :: L) = p.cells ++ fcells L := rfl
    have hp : p.cells.length = 3 := rfl
    cases i with
    | zero =>
      rw [e, List.getElem?_append_left (by omega)]
      simp
    | succ i =>
      rw [e, List.getElem?_append_right (by omega), hp, show (i + 1) * 3 + j - 3 = i * 3 + j by omega]
      simpa using ih i (by simpa using h)
theorem add_off (a : Addr) (i j : Nat) (hj : j ≠ 0) : a.add (i + j) = ⟨(a.add i).block, (a.add i).off + j, none⟩ := by
  have h : ∀ x : Addr, x.add j = ⟨x.block, x.off + j, none⟩ := fun x => by simp [Addr.add, hj]
  rw [← add_add', h]
/-- a fact's cells, as the walk spells them -/
theorem facts_at {w : World} {A : Option Addr} {l : List FM} (hr : Rd w A (fcells l)) (i : Nat) (h : i < l.length) : ∃ ad, A = some ad ∧ w.cell? (ad.add (i * 3)) = some (.string l[i].k) ∧ w.cell? ⟨(ad.add (i * 3)).block, (ad.add (i * 3)).off + 1, none⟩ = some (.int .u64 (l[i].s : Nat)) ∧
    w.cell? ⟨(ad.add (i * 3)).block, (ad.add (i * 3)).off + 2, none⟩ = some (.slice l[i].A l[i].l.length l[i].c) := by
  have hl := fcells_length l
  obtain ⟨ad, e, _, hc⟩ := hr (by intro h0; rw [h0] at hl; simp at hl; omega)
  have g := fun j u hj hu => hc (i * 3 + j) u (by rw [fcells_get l i j h hj]; exact hu)
  refine ⟨ad, e, g 0 _ (by omega) rfl, ?_, ?_⟩
  · rw [← add_off _ _ _ (by omega)]; exact g 1 _ (by omega) rfl
  · rw [← add_off _ _ _ (by omega)]; exact g 2 _ (by omega) rfl

theorem facts_cells {w : World} {ad : Addr} {l : List FM} (hr : Rd w (some ad) (fcells l)) (i : Nat) (h : i < l.length) : ∀ j v, (l[i].cells)[j]? = some v → w.cell? ((ad.add (i * 3)).add j) = some v := by
  have hl := fcells_length l
  obtain ⟨ad', e, _, hc⟩ := hr (by intro h0; rw [h0] at hl; simp at hl; omega)
  injection e with e
  subst e
  intro j v hv
  have hj : j < 3 := (List.getElem?_eq_some_iff.1 hv).1
  have := hc (i * 3 + j) v (by rw [fcells_get l i j h hj]; exact hv)
  rwa [← add_add'] at this
/-- texts, numbers, facts compared -/
def sLt (a b : ByteArray) : Bool := Op.bytesLess a.toList b.toList
def sGt (a b : ByteArray) : Bool := !(Op.bytesLess a.toList b.toList || a.toList == b.toList)
def cmpS (a b : ByteArray) : Int := if sLt a b = true then -1 else if sGt a b = true then 1 else 0
def cmpN (a b : Nat) : Int := if a < b then -1 else if b < a then 1 else 0
def orI (a b : Int) : Int := if a = 0 then b else a
def cmpF (a b : FM) : Int := orI (cmpS a.k b.k) (cmpN b.s a.s)
def rightF : List FM → Bool
  | a :: b :: r => decide (cmpF a b < 0) && rightF (b :: r)
  | _ => true
end Go.Proofs.Ytadgaphgomagkaa
/- Facts compared: the small functions. -/
namespace Go.Proofs.Ytadgaphgomagkaa
open Go.RowKit
set_option maxHeartbeats 1000000
set_option maxRecDepth 100000

theorem isNaNs_any (a : ByteArray) (w : World) : Calls Try.prog 105 #[.string a] w fun e w' => e = .returned (.bool false) ∧ w = w' := by
  go_enter Try.func105, Try.ntmps105
  go_wp2
  go_ret
  exact ⟨rfl, rfl⟩
theorem isNaNu_any (a : Int) (w : World) : Calls Try.prog 106 #[.int .u64 a] w fun e w' => e = .returned (.bool false) ∧ w = w' := by
  go_enter Try.func106, Try.ntmps106
  go_wp2
  go_ret
  exact ⟨rfl, rfl⟩
theorem cmpStr_any (a b : ByteArray) (w : World) : Calls Try.prog 88 #[.string a, .string b] w fun e w' => e = .returned (.int .i64 (cmpS a b)) ∧ w = w' := by
  unfold cmpS
  have h1 : sLt a b = Op.bytesLess a.toList b.toList := rfl
  have h2 : sGt a b = !(Op.bytesLess a.toList b.toList || a.toList == b.toList) := rfl
  rw [h1, h2]
  generalize hL : Op.bytesLess a.toList b.toList = L at *
  generalize hE : (a.toList == b.toList) = E at *
  clear h1 h2
  cases L <;> cases E
  all_goals
    go_enter Try.func88, Try.ntmps88
    go_wp2_with (go_at_call 105; refine (isNaNs_any _ _).mono ?_; rintro e w1 ⟨rfl, rfl⟩)
    go_ret
    exact ⟨rfl, rfl⟩
theorem cmpNum_any (a b : Nat) (w : World) : Calls Try.prog 89 #[.int .u64 (a : Nat), .int .u64 (b : Nat)] w fun e w' => e = .returned (.int .i64 (cmpN a b)) ∧ w = w' := by
  unfold cmpN
  by_cases h1 : a < b
  · rw [if_pos h1]
    have k1 : decide (a < b) = true := by simpa using h1
    clear h1
    go_enter Try.func89, Try.ntmps89
    go_wp2_with (go_at_call 106; refine (isNaNu_any _ _).mono ?_; rintro e w1 ⟨rfl, rfl⟩)
    go_ret
    exact ⟨rfl, rfl⟩
  · rw [if_neg h1]
    have k1 : decide (a < b) = false := by simpa using h1
    clear h1
    by_cases h2 : b < a
    · rw [if_pos h2]
      have k2 : decide (b < a) = true := by simpa using h2
      clear h2
      go_enter Try.func89, Try.ntmps89
      go_wp2_with (go_at_call 106; refine (isNaNu_any _ _).mono ?_; rintro e w1 ⟨rfl, rfl⟩)
      go_ret
      exact ⟨rfl, rfl⟩
    · rw [if_neg h2]
      have k2 : decide (b < a) = false := by simpa using h2
      clear h2
      go_enter Try.func89, Try.ntmps89
      go_wp2_with (go_at_call 106; refine (isNaNu_any _ _).mono ?_; rintro e w1 ⟨rfl, rfl⟩)
      go_ret
      exact ⟨rfl, rfl⟩
theorem or2_any (a b : Int) (g : Nat) (w : World) (hr : Rd w (some ⟨g, 0, none⟩) [.int .i64 a, .int .i64 b]) : Calls Try.prog 87 #[.slice (some ⟨g, 0, none⟩) 2 2] w fun e w' => e = .returned (.int .i64 (orI a b)) ∧ w = w' := by
  obtain ⟨ad, e, _, hc⟩ := hr (by simp)
  injection e with e
  subst e
  have c0 : w.cell? ⟨g, 0, none⟩ = some (.int .i64 a) := hc 0 _ rfl
  have c1 : w.cell? ⟨g, 1, none⟩ = some (.int .i64 b) := hc 1 _ rfl
  clear hc
  have HO : Hid (orI a b = if a = 0 then b else a) := Lib.hid rfl
  generalize orI a b = R at *
  by_cases ha : a = 0
  · have HR := Lib.hid (show R = b by rw [HO.out, if_pos ha])
    subst ha
    clear HO
    go_enter Try.func87, Try.ntmps87
    go_wp2
    go_loop [8] (fun i => ∃ k : Nat, i = .int .i64 (k : Nat) ∧ (k = 0 ∨ k = 1 ∨ k = 2 ∧ b = 0)) (fun i => 2 - (intOf i).toNat)
    case atStart => exact ⟨0, rfl, .inl rfl⟩
    case round =>
      obtain ⟨k, rfl, rfl | rfl | ⟨rfl, hb⟩⟩ := hrel
      · go_wp2
        go_round
        case rel => exact ⟨1, rfl, .inr (.inl rfl)⟩
        case measure => simp [intOf]
      · by_cases hb : b = 0
        · have k1 : (b != 0) = false := by simp [hb]
          have HB := Lib.hid hb
          clear hb
          go_wp2
          go_round
          case rel => exact ⟨2, rfl, .inr (.inr ⟨rfl, HB.out⟩)⟩
          case measure => simp [intOf]
        · have k1 : (b != 0) = true := by simpa using hb
          clear hb
          go_wp2
          go_ret
          exact ⟨by rw [HR.out]; rfl, rfl⟩
      · have HB := Lib.hid hb
        clear hb
        go_wp2
        go_ret
        exact ⟨by rw [HR.out, HB.out]; rfl, rfl⟩
  · have HR := Lib.hid (show R = a by rw [HO.out, if_neg ha])
    have k1 : (a != 0) = true := by simpa using ha
    clear HO ha
    go_enter Try.func87, Try.ntmps87
    go_wp2
    go_loop [8] (fun i => i = .int .i64 0) (fun i => 2 - (intOf i).toNat)
    case atStart => exact rfl
    case round =>
      obtain rfl := hrel
      go_wp2
      go_ret
      exact ⟨by rw [HR.out]; rfl, rfl⟩
end Go.Proofs.Ytadgaphgomagkaa
/- Facts compared: the statement that draws its order. PRINTED by tools/regs_k.py. -/
namespace Go.Proofs.Ytadgaphgomagkaa
open Go.RowKit
set_option maxHeartbeats 8000000
set_option maxRecDepth 100000
/-- two facts' keys and numbers can be read -/
structure CmpS (g h : Nat) (ka kb : ByteArray) (sa sb : Nat) (W : World) : Prop where
  a0 : W.cell? ⟨g, 0, none⟩ = some (.string ka)
  a1 : W.cell? ⟨g, 1, none⟩ = some (.int .u64 (sa : Nat))
  b0 : W.cell? ⟨h, 0, none⟩ = some (.string kb)
  b1 : W.cell? ⟨h, 1, none⟩ = some (.int .u64 (sb : Nat))
theorem cell_below {W W2 : World} {p : Addr} {v : Value} (h : W.cell? p = some v) (hb : Below W.heap.size W W2) : W2.cell? p = some v := by
  rw [hb.cell (World.block_lt_of_cell? W p h)]; exact h
theorem CmpS.keep {g h : Nat} {ka kb : ByteArray} {sa sb : Nat} {W W2 : World} (k : CmpS g h ka kb sa sb W) (hb : Below W.heap.size W W2) : CmpS g h ka kb sa sb W2 :=
  ⟨cell_below k.a0 hb, cell_below k.a1 hb, cell_below k.b0 hb, cell_below k.b1 hb⟩
def opsCompare1 : Array Oper := #[{ dst := some 5, op := Op.fieldAddr 71 (Operand.tmp 2) 0, type := 0, pos := "fact.go:23", after := #[], guard := none }, { dst := some 6, op := Op.load 9 (Operand.tmp 5), type := 9, pos := "fact.go:23", after := #[{ on := 0, ground := Ground.data }], guard := none }, { dst := some 7, op := Op.fieldAddr 71 (Operand.tmp 3) 0, type := 0, pos := "fact.go:23", after := #[], guard := none }, { dst := some 8, op := Op.load 9 (Operand.tmp 7), type := 9, pos := "fact.go:23", after := #[{ on := 2, ground := Ground.data }], guard := none }, { dst := some 9, op := Op.call { callee := Callee.value (Operand.func 88), args := #[Operand.tmp 6, Operand.tmp 8], argTypes := #[9, 9] }, type := 3, pos := "fact.go:23", after := #[{ on := 1, ground := Ground.data }, { on := 3, ground := Ground.data }], guard := none }, { dst := some 10, op := Op.fieldAddr 71 (Operand.tmp 3) 1, type := 0, pos := "fact.go:23", after := #[], guard := none }, { dst := some 11, op := Op.load 69 (Operand.tmp 10), type := 69, pos := "fact.go:23", after := #[{ on := 5, ground := Ground.data }], guard := none }, { dst := some 12, op := Op.fieldAddr 71 (Operand.tmp 2) 1, type := 0, pos := "fact.go:23", after := #[], guard := none }, { dst := some 13, op := Op.load 69 (Operand.tmp 12), type := 69, pos := "fact.go:23", after := #[{ on := 7, ground := Ground.data }], guard := none }, { dst := some 14, op := Op.call { callee := Callee.value (Operand.func 89), args := #[Operand.tmp 11, Operand.tmp 13], argTypes := #[69, 69] }, type := 3, pos := "fact.go:23", after := #[{ on := 6, ground := Ground.data }, { on := 8, ground := Ground.data }, { on := 4, ground := Ground.chain }], guard := none }, { dst := some 15, op := Op.buildSlice 36 2 #[(0, Operand.tmp 9), (1, Operand.tmp 14)], type := 36, pos := "fact.go:23", after := #[{ on := 4, ground := Ground.data }, { on := 9, ground := Ground.data }], guard := none }, { dst := some 16, op := Op.call { callee := Callee.value (Operand.func 87), args := #[Operand.tmp 15], argTypes := #[36] }, type := 3, pos := "fact.go:23", after := #[{ on := 10, ground := Ground.data }, { on := 9, ground := Ground.chain }], guard := none }, { dst := some 4, op := Op.assign (Operand.tmp 16), type := 3, pos := "fact.go:23", after := #[{ on := 11, ground := Ground.data }, { on := 11, ground := Ground.chain }, { on := 0, ground := Ground.phase }, { on := 1, ground := Ground.phase }, { on := 2, ground := Ground.phase }, { on := 3, ground := Ground.phase }, { on := 4, ground := Ground.phase }, { on := 5, ground := Ground.phase }, { on := 6, ground := Ground.phase }, { on := 7, ground := Ground.phase }, { on := 8, ground := Ground.phase }, { on := 9, ground := Ground.phase }, { on := 10, ground := Ground.phase }, { on := 11, ground := Ground.phase }], guard := none }]
theorem regCompare1 {u0 u1 u4 u5 u6 u7 u8 u9 u10 u11 u12 u13 u14 u15 u16 : Value} {DD : List Deferred} {Q : Exit → Act → World → Prop} {w : World} {g h : Nat} {ka kb : ByteArray} {sa sb : Nat} (hS : CmpS g h ka kb sa sb w.drew)
    (hend : ∀ (w2 : World) (x5 x6 x7 x8 x9 x10 x11 x12 x13 x14 x15 x16 : Value) (_ : Below w.heap.size w w2), Q .normal ⟨#[u0, u1, .pointer (some ⟨g, 0, none⟩), .pointer (some ⟨h, 0, none⟩), .int .i64 (orI (cmpS ka kb) (cmpN sb sa)), x5, x6, x7, x8, x9, x10, x11, x12, x13, x14, x15, x16], DD⟩ w2) :
    (Code.region 1 opsCompare1 true).wp Try.prog Q ⟨#[u0, u1, .pointer (some ⟨g, 0, none⟩), .pointer (some ⟨h, 0, none⟩), u4, u5, u6, u7, u8, u9, u10, u11, u12, u13, u14, u15, u16], DD⟩ w := by
  have hb0 : Below w.heap.size w w.drew := (Below.refl _ _).drew
  refine wp_region_noPanic ?_
  refine wp_region_held_drew (S := CmpS g h ka kb sa sb) (by kernel_rfl) (hS) (fun hHeld => ?_)
  refine wpAnyH_take (i := 0) (oi := (⟨some 5, Op.fieldAddr 71 (Operand.tmp 2) 0, 0, "fact.go:23", #[], none⟩)) (v := .pointer (some ⟨g, 0, none⟩)) rfl (by kernel_rfl) (by kernel_rfl) (by kernel_rfl) (fun _ _ _ h => h) (Or.inl ⟨by kernel_rfl, fun _ _ => by kernel_rfl⟩) hHeld ?_
  simp only [Act.put, List.setIfInBounds_toArray, List.set_cons_zero, List.set_cons_succ]
  refine wpAnyH_take (i := 1) (oi := (⟨some 6, Op.load 9 (Operand.tmp 5), 9, "fact.go:23", #[{ on := 0, ground := Ground.data }], none⟩)) (v := .string ka) rfl (by kernel_rfl) (by kernel_rfl) (by kernel_rfl) (fun _ _ _ h => h) (Or.inl ⟨by kernel_rfl, fun W hS => run_load1_op (by kernel_rfl) (by kernel_rfl) hS.a0⟩) hHeld ?_
  simp only [Act.put, List.setIfInBounds_toArray, List.set_cons_zero, List.set_cons_succ]
  refine wpAnyH_take (i := 2) (oi := (⟨some 7, Op.fieldAddr 71 (Operand.tmp 3) 0, 0, "fact.go:23", #[], none⟩)) (v := .pointer (some ⟨h, 0, none⟩)) rfl (by kernel_rfl) (by kernel_rfl) (by kernel_rfl) (fun _ _ _ h => h) (Or.inl ⟨by kernel_rfl, fun _ _ => by kernel_rfl⟩) hHeld ?_
  simp only [Act.put, List.setIfInBounds_toArray, List.set_cons_zero, List.set_cons_succ]
  refine wpAnyH_take (i := 3) (oi := (⟨some 8, Op.load 9 (Operand.tmp 7), 9, "fact.go:23", #[{ on := 2, ground := Ground.data }], none⟩)) (v := .string kb) rfl (by kernel_rfl) (by kernel_rfl) (by kernel_rfl) (fun _ _ _ h => h) (Or.inl ⟨by kernel_rfl, fun W hS => run_load1_op (by kernel_rfl) (by kernel_rfl) hS.b0⟩) hHeld ?_
  simp only [Act.put, List.setIfInBounds_toArray, List.set_cons_zero, List.set_cons_succ]
  refine wpAnyH_take (i := 5) (oi := (⟨some 10, Op.fieldAddr 71 (Operand.tmp 3) 1, 0, "fact.go:23", #[], none⟩)) (v := .pointer (some ⟨h, 1, none⟩)) rfl (by kernel_rfl) (by kernel_rfl) (by kernel_rfl) (fun _ _ _ h => h) (Or.inl ⟨by kernel_rfl, fun _ _ => by kernel_rfl⟩) hHeld ?_
  simp only [Act.put, List.setIfInBounds_toArray, List.set_cons_zero, List.set_cons_succ]
  refine wpAnyH_take (i := 6) (oi := (⟨some 11, Op.load 69 (Operand.tmp 10), 69, "fact.go:23", #[{ on := 5, ground := Ground.data }], none⟩)) (v := .int .u64 (sb : Nat)) rfl (by kernel_rfl) (by kernel_rfl) (by kernel_rfl) (fun _ _ _ h => h) (Or.inl ⟨by kernel_rfl, fun W hS => run_load1_op (by kernel_rfl) (by kernel_rfl) hS.b1⟩) hHeld ?_
  simp only [Act.put, List.setIfInBounds_toArray, List.set_cons_zero, List.set_cons_succ]
  refine wpAnyH_take (i := 7) (oi := (⟨some 12, Op.fieldAddr 71 (Operand.tmp 2) 1, 0, "fact.go:23", #[], none⟩)) (v := .pointer (some ⟨g, 1, none⟩)) rfl (by kernel_rfl) (by kernel_rfl) (by kernel_rfl) (fun _ _ _ h => h) (Or.inl ⟨by kernel_rfl, fun _ _ => by kernel_rfl⟩) hHeld ?_
  simp only [Act.put, List.setIfInBounds_toArray, List.set_cons_zero, List.set_cons_succ]
  refine wpAnyH_take (i := 8) (oi := (⟨some 13, Op.load 69 (Operand.tmp 12), 69, "fact.go:23", #[{ on := 7, ground := Ground.data }], none⟩)) (v := .int .u64 (sa : Nat)) rfl (by kernel_rfl) (by kernel_rfl) (by kernel_rfl) (fun _ _ _ h => h) (Or.inl ⟨by kernel_rfl, fun W hS => run_load1_op (by kernel_rfl) (by kernel_rfl) hS.a1⟩) hHeld ?_
  simp only [Act.put, List.setIfInBounds_toArray, List.set_cons_zero, List.set_cons_succ]
  refine wpAnyH_ready (rs := [4]) (by kernel_rfl) (by simp) ?_
  refine AllReadyH.cons (o := (⟨some 9, Op.call { callee := Callee.value (Operand.func 88), args := #[Operand.tmp 6, Operand.tmp 8], argTypes := #[9, 9] }, 3, "fact.go:23", #[{ on := 1, ground := Ground.data }, { on := 3, ground := Ground.data }], none⟩)) rfl ?_ (AllReadyH.nil)
  · skip
    refine next_call (f := 88) (args := #[.string ka, .string kb]) (by kernel_rfl) (by kernel_rfl) (cmpStr_any ka kb w.drew) ?_
    rintro e w1 ⟨rfl, rfl⟩
    refine ⟨.int .i64 (cmpS ka kb), rfl, hHeld, fun hH1 => ?_⟩
    simp only [Act.put, List.setIfInBounds_toArray, List.set_cons_zero, List.set_cons_succ]
    refine wpAnyH_ready (rs := [9]) (by kernel_rfl) (by simp) ?_
    refine AllReadyH.cons (o := (⟨some 14, Op.call { callee := Callee.value (Operand.func 89), args := #[Operand.tmp 11, Operand.tmp 13], argTypes := #[69, 69] }, 3, "fact.go:23", #[{ on := 6, ground := Ground.data }, { on := 8, ground := Ground.data }, { on := 4, ground := Ground.chain }], none⟩)) rfl ?_ (AllReadyH.nil)
    · skip
      refine next_call (f := 89) (args := #[.int .u64 (sb : Nat), .int .u64 (sa : Nat)]) (by kernel_rfl) (by kernel_rfl) (cmpNum_any sb sa w.drew) ?_
      rintro e w2 ⟨rfl, rfl⟩
      refine ⟨.int .i64 (cmpN sb sa), rfl, hH1, fun hH2 => ?_⟩
      simp only [Act.put, List.setIfInBounds_toArray, List.set_cons_zero, List.set_cons_succ]
      refine wpAnyH_ready (rs := [10]) (by kernel_rfl) (by simp) ?_
      refine AllReadyH.cons (o := (⟨some 15, Op.buildSlice 36 2 #[(0, Operand.tmp 9), (1, Operand.tmp 14)], 36, "fact.go:23", #[{ on := 4, ground := Ground.data }, { on := 9, ground := Ground.data }], none⟩)) rfl ?_ (AllReadyH.nil)
      · skip
        have hbq3 := (Below.refl (w.drew).heap.size (w.drew)).alloc (Nat.le_refl _) (.cells #[.int .i64 (cmpS ka kb), .int .i64 (cmpN sb sa)] 3)
        refine next_op (v := .slice (some ⟨w.drew.heap.size, 0, none⟩) 2 2) (by kernel_rfl) (run_buildSlice_op (size := 1) _ (.int .i64 0) Try.underlying36 (by kernel_rfl) (by decide) (by decide) (by kernel_rfl)) ((CmpS.keep) hH2 hbq3) (fun hH3 => ?_)
        simp only [Act.put, List.setIfInBounds_toArray, List.set_cons_zero, List.set_cons_succ]
        have hr := Rd.many (w.drew) [.int .i64 (cmpS ka kb), .int .i64 (cmpN sb sa)] 3
        refine wpAnyH_ready (rs := [11]) (by kernel_rfl) (by simp) ?_
        refine AllReadyH.cons (o := (⟨some 16, Op.call { callee := Callee.value (Operand.func 87), args := #[Operand.tmp 15], argTypes := #[36] }, 3, "fact.go:23", #[{ on := 10, ground := Ground.data }, { on := 9, ground := Ground.chain }], none⟩)) rfl ?_ (AllReadyH.nil)
        · skip
          refine next_call (f := 87) (args := #[.slice (some ⟨w.drew.heap.size, 0, none⟩) 2 2]) (by kernel_rfl) (by kernel_rfl) (or2_any _ _ _ ((w.drew).alloc (.cells #[.int .i64 (cmpS ka kb), .int .i64 (cmpN sb sa)] 3)) hr) ?_
          rintro e w4 ⟨rfl, rfl⟩
          refine ⟨.int .i64 (orI (cmpS ka kb) (cmpN sb sa)), rfl, hH3, fun hH4 => ?_⟩
          simp only [Act.put, List.setIfInBounds_toArray, List.set_cons_zero, List.set_cons_succ]
          refine wpAnyH_take (i := 12) (oi := (⟨some 4, Op.assign (Operand.tmp 16), 3, "fact.go:23", #[{ on := 11, ground := Ground.data }, { on := 11, ground := Ground.chain }, { on := 0, ground := Ground.phase }, { on := 1, ground := Ground.phase }, { on := 2, ground := Ground.phase }, { on := 3, ground := Ground.phase }, { on := 4, ground := Ground.phase }, { on := 5, ground := Ground.phase }, { on := 6, ground := Ground.phase }, { on := 7, ground := Ground.phase }, { on := 8, ground := Ground.phase }, { on := 9, ground := Ground.phase }, { on := 10, ground := Ground.phase }, { on := 11, ground := Ground.phase }], none⟩)) (v := .int .i64 (orI (cmpS ka kb) (cmpN sb sa))) rfl (by kernel_rfl) (by kernel_rfl) (by kernel_rfl) (fun _ _ _ h => h) (Or.inl ⟨by kernel_rfl, fun _ _ => by kernel_rfl⟩) hH4 ?_
          simp only [Act.put, List.setIfInBounds_toArray, List.set_cons_zero, List.set_cons_succ]
          refine wpAnyH_done (by kernel_rfl) ?_ _
          exact NoPanic.normal (hend _ _ _ _ _ _ _ _ _ _ _ _ _ ((hb0).trans (hbq3.mono (hb0).size)))
end Go.Proofs.Ytadgaphgomagkaa
