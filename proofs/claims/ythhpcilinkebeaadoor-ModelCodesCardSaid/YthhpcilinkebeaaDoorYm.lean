/- ModelCodes: Decode's drawn region. PRINTED by tools/regs_y.py. -/
import Derived.Test.YthhpcilinkebeaaDoorYf
import Derived.Test.YthhpcilinkebeaaDoorIj
import Derived.Deep.DeepCutAuto
import Derived.Test.YthhpcilinkebeaaDoorIm
namespace Go.Proofs.YthhpcilinkebeaaDoor
open Go.RowKit
set_option maxHeartbeats 4000000
set_option maxRecDepth 100000

theorem run_callv_op {P : Program} {ρ : Operand → Value} {d : Option Tmp} {ty : TypeId} {pos : String} {af : Array Edge} {g : Option (Nat × Bool)} {w : World} {x : Operand} {f : FuncId} {caps : Array Value} {xs : Array Operand} {ts : Array TypeId} {vs : Array Value} (hx : ρ x = .func (.func f) #[] caps) (h : xs.map ρ = vs) (hc : (callFunc f (vs ++ caps)).run P w = .ok (.enter f (vs ++ caps)) w) :
    (execOp ρ ⟨d, .call { callee := .value x, args := xs, argTypes := ts }, ty, pos, af, g⟩).run P w = .ok (.enter f (vs ++ caps)) w := by
  simp [execOp, resolve, invoke, Deferred.ofValue, h, hx, hc]
theorem run_storeT_op {P : Program} {ρ : Operand → Value} {d : Option Tmp} {ty : TypeId} {pos : String} {af : Array Edge} {g : Option (Nat × Bool)} {w : World} {t : TypeId} {x y : Operand} {ad : Addr} {s : ByteArray} {u : Value} (hz : (sizeOf t).run P w = .ok 1 w) (hx : ρ x = .pointer (some ad)) (hy : ρ y = .string s) (hc : w.cell? ad = some u) (hf : w.frozen? ad = false) :
    (execOp ρ ⟨d, .store t x y, ty, pos, af, g⟩).run P w = .ok .skip (w.setCell ad (.string s)) := by
  simp [execOp, hx, hy, Instr.storeAt, Instr.sureAddr, storeVar, hz, hc, hf, go_sem]
theorem GivesR.skip {P : Program} {S : World → Prop} {R : Nat → Value → World → Prop} {i : Nat} {d : Option Tmp} {w w' : World} {r : Result Next} (h : r = .ok .skip w') (hd : d = none) (hS : S w') (hk : Keeps R w w') : GivesR P S R i d w r := by subst h; exact ⟨hd, hS, hk⟩
def strV (x : Bts) : ByteArray := ⟨x.toArray⟩
/-- Decode's memory while the two texts are read -/
structure DecS (W0 : World) (Rk Bd O7 : Nat) (kd : Int) (r : Bts) (D : Nat → Bool) (W : World) : Prop where
  rest : Rest W Rk Bd (if D 1 = false then r else if D 4 = false then (textD 1024 r).2 else (textD 1024 (textD 1024 r).2).2)
  op : Blk W O7 33 #[.int .i64 kd, .string (if D 7 = true then strV (textD 1024 r).1 else ⟨#[]⟩), .string (if D 9 = true then strV (textD 1024 (textD 1024 r).2).1 else ⟨#[]⟩), .int .i64 0, .int .i64 0, .slice none 0 0]
  chg : Chg (fun k => k = Rk ∨ k = O7) W0 W
theorem mark_self (D : Nat → Bool) (i : Nat) : mark D i i = true := by simp [mark]
theorem mark_ne (D : Nat → Bool) {i k : Nat} (h : k ≠ i) : mark D i k = D k := by simp [mark, h]
/-- an operation that turns none of it -/
theorem DecS.same {W0 W : World} {Rk Bd O7 : Nat} {kd : Int} {r : Bts} {D : Nat → Bool} (h : DecS W0 Rk Bd O7 kd r D W) (i : Nat) (h1 : i ≠ 1) (h4 : i ≠ 4) (h7 : i ≠ 7) (h9 : i ≠ 9) : DecS W0 Rk Bd O7 kd r (mark D i) W := by
  obtain ⟨a, b, c⟩ := h
  refine ⟨?_, ?_, c⟩
  · rw [mark_ne D (Ne.symm h1), mark_ne D (Ne.symm h4)]; exact a
  · rw [mark_ne D (Ne.symm h7), mark_ne D (Ne.symm h9)]; exact b
def opsDc5 : Array Oper := #[(⟨some 14, Op.move (Operand.tmp 6), 125, "model.go:324", #[], none⟩ : Oper), (⟨some 15, Op.call { callee := Callee.value (Operand.tmp 14), args := #[Operand.const (Value.int IntKind.i64 1024)], argTypes := #[3] }, 31, "model.go:324", #[{ on := 0, ground := Ground.data }], none⟩ : Oper), (⟨some 16, Op.convert 31 9 (Operand.tmp 15), 9, "model.go:324", #[{ on := 1, ground := Ground.data }], none⟩ : Oper), (⟨some 17, Op.move (Operand.tmp 6), 125, "model.go:324", #[], none⟩ : Oper), (⟨some 18, Op.call { callee := Callee.value (Operand.tmp 17), args := #[Operand.const (Value.int IntKind.i64 1024)], argTypes := #[3] }, 31, "model.go:324", #[{ on := 3, ground := Ground.data }, { on := 1, ground := Ground.chain }], none⟩ : Oper), (⟨some 19, Op.convert 31 9 (Operand.tmp 18), 9, "model.go:324", #[{ on := 4, ground := Ground.data }, { on := 7, ground := Ground.gcOnly Departure.lateStores }], none⟩ : Oper), (⟨some 20, Op.fieldAddr 33 (Operand.tmp 7) 1, 0, "model.go:324", #[{ on := 0, ground := Ground.phase }, { on := 1, ground := Ground.phase }, { on := 2, ground := Ground.phase }, { on := 3, ground := Ground.textOnly Departure.lateStores }, { on := 4, ground := Ground.textOnly Departure.lateStoresUnsure }, { on := 5, ground := Ground.textOnly Departure.lateStores }], none⟩ : Oper), (⟨none, Op.store 9 (Operand.tmp 20) (Operand.tmp 16), 0, "model.go:324", #[{ on := 6, ground := Ground.data }, { on := 2, ground := Ground.data }, { on := 4, ground := Ground.chain }, { on := 0, ground := Ground.phase }, { on := 1, ground := Ground.phase }, { on := 2, ground := Ground.phase }, { on := 3, ground := Ground.textOnly Departure.lateStores }, { on := 4, ground := Ground.textOnly Departure.lateStoresUnsure }, { on := 5, ground := Ground.textOnly Departure.lateStores }], none⟩ : Oper), (⟨some 21, Op.fieldAddr 33 (Operand.tmp 7) 2, 0, "model.go:324", #[{ on := 0, ground := Ground.phase }, { on := 1, ground := Ground.phase }, { on := 2, ground := Ground.phase }, { on := 3, ground := Ground.phase }, { on := 4, ground := Ground.phase }, { on := 5, ground := Ground.phase }, { on := 6, ground := Ground.phase }, { on := 7, ground := Ground.phase }], none⟩ : Oper), (⟨none, Op.store 9 (Operand.tmp 21) (Operand.tmp 19), 0, "model.go:324", #[{ on := 8, ground := Ground.data }, { on := 5, ground := Ground.data }, { on := 7, ground := Ground.chain }, { on := 0, ground := Ground.phase }, { on := 1, ground := Ground.phase }, { on := 2, ground := Ground.phase }, { on := 3, ground := Ground.phase }, { on := 4, ground := Ground.phase }, { on := 5, ground := Ground.phase }, { on := 6, ground := Ground.phase }, { on := 7, ground := Ground.phase }], none⟩ : Oper)]
def regDc5R (_ : World) (Rk _ O7 : Nat) (_ : Int) (r : Bts) (i : Nat) (v : Value) (W : World) : Prop := match i with
  | 0 => v = .func (.func 69) #[] #[.pointer (some ⟨Rk, 0, none⟩)]
  | 1 => ∃ (B : Option Addr) (c2 : Nat), v = .slice B ((textD 1024 r).1).length c2 ∧ Rd W B (byts ((textD 1024 r).1)) ∧ ∀ ad, B = some ad → ¬ (ad.block = Rk ∨ ad.block = O7)
  | 2 => v = .string (strV (textD 1024 r).1)
  | 3 => v = .func (.func 69) #[] #[.pointer (some ⟨Rk, 0, none⟩)]
  | 4 => ∃ (B : Option Addr) (c2 : Nat), v = .slice B ((textD 1024 (textD 1024 r).2).1).length c2 ∧ Rd W B (byts ((textD 1024 (textD 1024 r).2).1)) ∧ ∀ ad, B = some ad → ¬ (ad.block = Rk ∨ ad.block = O7)
  | 5 => v = .string (strV (textD 1024 (textD 1024 r).2).1)
  | 6 => v = .pointer (some ⟨O7, 1, none⟩)
  | 7 => True
  | 8 => v = .pointer (some ⟨O7, 2, none⟩)
  | 9 => True
  | _ => True
theorem regDc5K (W0 : World) (Rk Bd O7 : Nat) (kd : Int) (r : Bts) {W W' : World} (hb : Chg (fun k => k = Rk ∨ k = O7) W W') : Keeps (regDc5R W0 Rk Bd O7 kd r) W W' := fun i v h => by
  match i, h with
  | 0, h => exact h
  | 1, h => exact by obtain ⟨B, c2, h1, h2, h3⟩ := h; exact ⟨B, c2, h1, h2.keepC hb h3, h3⟩
  | 2, h => exact h
  | 3, h => exact h
  | 4, h => exact by obtain ⟨B, c2, h1, h2, h3⟩ := h; exact ⟨B, c2, h1, h2.keepC hb h3, h3⟩
  | 5, h => exact h
  | 6, h => exact h
  | 7, h => exact h
  | 8, h => exact h
  | 9, h => exact h
  | n + 10, h => exact trivial
theorem regDc5_0 {u0 u1 u2 u3 u4 u5 u8 u9 u10 u11 u12 u13 u14 u15 u16 u17 u18 u19 u20 u21 u22 u23 u24 u25 u26 u27 u28 u29 u30 u31 u32 u33 u34 u35 u36 u37 u38 u39 u40 u41 u42 : Value} {DD : List Deferred} (W0 : World) (Rk Bd O7 : Nat) (kd : Int) (r : Bts) (_ : O7 ≠ Rk) (_ : Bd ≤ O7) : ObR Tryd.prog opsDc5 ⟨#[u0, u1, u2, u3, u4, u5, .func (.func 69) #[] #[.pointer (some ⟨Rk, 0, none⟩)], .pointer (some ⟨O7, 0, none⟩), u8, u9, u10, u11, u12, u13, u14, u15, u16, u17, u18, u19, u20, u21, u22, u23, u24, u25, u26, u27, u28, u29, u30, u31, u32, u33, u34, u35, u36, u37, u38, u39, u40, u41, u42], DD⟩ (DecS W0 Rk Bd O7 kd r) (regDc5R W0 Rk Bd O7 kd r) 0 (⟨some 14, Op.move (Operand.tmp 6), 125, "model.go:324", #[], none⟩ : Oper) := by
  intro done a w hun hpr hsh hS hout hpre
  have o6 := ev ((hout 6 (by kernel_rfl)).trans (show _ = some (.func (.func 69) #[] #[.pointer (some ⟨Rk, 0, none⟩)]) from rfl))
  refine .inl ⟨by kernel_rfl, ?_⟩
  exact GivesR.same (run_move_op o6) (hS.same 0 (by decide) (by decide) (by decide) (by decide)) rfl
theorem regDc5_1 {u0 u1 u2 u3 u4 u5 u8 u9 u10 u11 u12 u13 u14 u15 u16 u17 u18 u19 u20 u21 u22 u23 u24 u25 u26 u27 u28 u29 u30 u31 u32 u33 u34 u35 u36 u37 u38 u39 u40 u41 u42 : Value} {DD : List Deferred} (W0 : World) (Rk Bd O7 : Nat) (kd : Int) (r : Bts) (hne : O7 ≠ Rk) (_ : Bd ≤ O7) : ObR Tryd.prog opsDc5 ⟨#[u0, u1, u2, u3, u4, u5, .func (.func 69) #[] #[.pointer (some ⟨Rk, 0, none⟩)], .pointer (some ⟨O7, 0, none⟩), u8, u9, u10, u11, u12, u13, u14, u15, u16, u17, u18, u19, u20, u21, u22, u23, u24, u25, u26, u27, u28, u29, u30, u31, u32, u33, u34, u35, u36, u37, u38, u39, u40, u41, u42], DD⟩ (DecS W0 Rk Bd O7 kd r) (regDc5R W0 Rk Bd O7 kd r) 1 (⟨some 15, Op.call { callee := Callee.value (Operand.tmp 14), args := #[Operand.const (Value.int IntKind.i64 1024)], argTypes := #[3] }, 31, "model.go:324", #[{ on := 0, ground := Ground.data }], none⟩ : Oper) := by
  intro done a w hun hpr hsh hS hout hpre
  obtain ⟨v0, e0, r0⟩ := hpre ⟨0, Ground.data⟩ (by simp) rfl (⟨some 14, Op.move (Operand.tmp 6), 125, "model.go:324", #[], none⟩ : Oper) 14 rfl rfl
  replace e0 := ev e0
  change regDc5R W0 Rk Bd O7 kd r 0 v0 w at r0
  simp only [regDc5R] at r0
  refine .inl ⟨by kernel_rfl, ?_⟩
  subst r0
  have hrest : Rest w Rk Bd (r) := by have := hS.rest; simpa [hun] using this
  have d4 : done 4 = false := by
    rcases hc : done 4 with _ | _
    · rfl
    · have := hsh 4 (⟨some 18, Op.call { callee := Callee.value (Operand.tmp 17), args := #[Operand.const (Value.int IntKind.i64 1024)], argTypes := #[3] }, 31, "model.go:324", #[{ on := 3, ground := Ground.data }, { on := 1, ground := Ground.chain }], none⟩ : Oper) rfl hc ⟨1, Ground.chain⟩ (by simp) rfl
      rw [hun] at this; cases this
  have hcall := text_clo w Rk Bd (r) hrest 1024 (by decide)
  refine GivesR.call (run_callv_op (vs := #[.int .i64 1024]) e0 (by simp [Act.eval]) (by kernel_rfl)) (hcall.mono ?_)
  rintro e w2 ⟨B, c2, rfl, h1, h2, h3, h4, h5, h6⟩
  have hO7 := hS.op.lt
  have hRk := hrest.lt
  refine ⟨_, rfl, ⟨?_, ?_, hS.chg.trans (h6.mono fun _ _ e => .inl e)⟩, regDc5K _ _ _ _ _ _ (h6.mono fun _ _ e => .inl e), B, c2, rfl, h1, fun ad e => ?_⟩
  · rw [mark_self, mark_ne done (show 4 ≠ 1 by decide)]; simpa [d4] using h5
  · rw [mark_ne done (show 7 ≠ 1 by decide), mark_ne done (show 9 ≠ 1 by decide)]; exact hS.op.keep h6 hne
  · have := h3 ad e; omega
theorem regDc5_2 {u0 u1 u2 u3 u4 u5 u8 u9 u10 u11 u12 u13 u14 u15 u16 u17 u18 u19 u20 u21 u22 u23 u24 u25 u26 u27 u28 u29 u30 u31 u32 u33 u34 u35 u36 u37 u38 u39 u40 u41 u42 : Value} {DD : List Deferred} (W0 : World) (Rk Bd O7 : Nat) (kd : Int) (r : Bts) (_ : O7 ≠ Rk) (_ : Bd ≤ O7) : ObR Tryd.prog opsDc5 ⟨#[u0, u1, u2, u3, u4, u5, .func (.func 69) #[] #[.pointer (some ⟨Rk, 0, none⟩)], .pointer (some ⟨O7, 0, none⟩), u8, u9, u10, u11, u12, u13, u14, u15, u16, u17, u18, u19, u20, u21, u22, u23, u24, u25, u26, u27, u28, u29, u30, u31, u32, u33, u34, u35, u36, u37, u38, u39, u40, u41, u42], DD⟩ (DecS W0 Rk Bd O7 kd r) (regDc5R W0 Rk Bd O7 kd r) 2 (⟨some 16, Op.convert 31 9 (Operand.tmp 15), 9, "model.go:324", #[{ on := 1, ground := Ground.data }], none⟩ : Oper) := by
  intro done a w hun hpr hsh hS hout hpre
  obtain ⟨v1, e1, r1⟩ := hpre ⟨1, Ground.data⟩ (by simp) rfl (⟨some 15, Op.call { callee := Callee.value (Operand.tmp 14), args := #[Operand.const (Value.int IntKind.i64 1024)], argTypes := #[3] }, 31, "model.go:324", #[{ on := 0, ground := Ground.data }], none⟩ : Oper) 15 rfl rfl
  replace e1 := ev e1
  change regDc5R W0 Rk Bd O7 kd r 1 v1 w at r1
  simp only [regDc5R] at r1
  refine .inl ⟨by kernel_rfl, ?_⟩
  obtain ⟨B, c2, rfl, h1, h2⟩ := r1
  exact GivesR.same (run_conv2_op e1 (conv_bytes w B c2 _ h1)) (hS.same 2 (by decide) (by decide) (by decide) (by decide)) rfl
theorem regDc5_3 {u0 u1 u2 u3 u4 u5 u8 u9 u10 u11 u12 u13 u14 u15 u16 u17 u18 u19 u20 u21 u22 u23 u24 u25 u26 u27 u28 u29 u30 u31 u32 u33 u34 u35 u36 u37 u38 u39 u40 u41 u42 : Value} {DD : List Deferred} (W0 : World) (Rk Bd O7 : Nat) (kd : Int) (r : Bts) (_ : O7 ≠ Rk) (_ : Bd ≤ O7) : ObR Tryd.prog opsDc5 ⟨#[u0, u1, u2, u3, u4, u5, .func (.func 69) #[] #[.pointer (some ⟨Rk, 0, none⟩)], .pointer (some ⟨O7, 0, none⟩), u8, u9, u10, u11, u12, u13, u14, u15, u16, u17, u18, u19, u20, u21, u22, u23, u24, u25, u26, u27, u28, u29, u30, u31, u32, u33, u34, u35, u36, u37, u38, u39, u40, u41, u42], DD⟩ (DecS W0 Rk Bd O7 kd r) (regDc5R W0 Rk Bd O7 kd r) 3 (⟨some 17, Op.move (Operand.tmp 6), 125, "model.go:324", #[], none⟩ : Oper) := by
  intro done a w hun hpr hsh hS hout hpre
  have o6 := ev ((hout 6 (by kernel_rfl)).trans (show _ = some (.func (.func 69) #[] #[.pointer (some ⟨Rk, 0, none⟩)]) from rfl))
  refine .inl ⟨by kernel_rfl, ?_⟩
  exact GivesR.same (run_move_op o6) (hS.same 3 (by decide) (by decide) (by decide) (by decide)) rfl
theorem regDc5_4 {u0 u1 u2 u3 u4 u5 u8 u9 u10 u11 u12 u13 u14 u15 u16 u17 u18 u19 u20 u21 u22 u23 u24 u25 u26 u27 u28 u29 u30 u31 u32 u33 u34 u35 u36 u37 u38 u39 u40 u41 u42 : Value} {DD : List Deferred} (W0 : World) (Rk Bd O7 : Nat) (kd : Int) (r : Bts) (hne : O7 ≠ Rk) (_ : Bd ≤ O7) : ObR Tryd.prog opsDc5 ⟨#[u0, u1, u2, u3, u4, u5, .func (.func 69) #[] #[.pointer (some ⟨Rk, 0, none⟩)], .pointer (some ⟨O7, 0, none⟩), u8, u9, u10, u11, u12, u13, u14, u15, u16, u17, u18, u19, u20, u21, u22, u23, u24, u25, u26, u27, u28, u29, u30, u31, u32, u33, u34, u35, u36, u37, u38, u39, u40, u41, u42], DD⟩ (DecS W0 Rk Bd O7 kd r) (regDc5R W0 Rk Bd O7 kd r) 4 (⟨some 18, Op.call { callee := Callee.value (Operand.tmp 17), args := #[Operand.const (Value.int IntKind.i64 1024)], argTypes := #[3] }, 31, "model.go:324", #[{ on := 3, ground := Ground.data }, { on := 1, ground := Ground.chain }], none⟩ : Oper) := by
  intro done a w hun hpr hsh hS hout hpre
  obtain ⟨v3, e3, r3⟩ := hpre ⟨3, Ground.data⟩ (by simp) rfl (⟨some 17, Op.move (Operand.tmp 6), 125, "model.go:324", #[], none⟩ : Oper) 17 rfl rfl
  replace e3 := ev e3
  change regDc5R W0 Rk Bd O7 kd r 3 v3 w at r3
  simp only [regDc5R] at r3
  refine .inl ⟨by kernel_rfl, ?_⟩
  subst r3
  have d1 : done 1 = true := hpr ⟨1, Ground.chain⟩ (by simp) rfl
  have hrest : Rest w Rk Bd ((textD 1024 r).2) := by have := hS.rest; simpa [hun, d1] using this
  have hcall := text_clo w Rk Bd ((textD 1024 r).2) hrest 1024 (by decide)
  refine GivesR.call (run_callv_op (vs := #[.int .i64 1024]) e3 (by simp [Act.eval]) (by kernel_rfl)) (hcall.mono ?_)
  rintro e w2 ⟨B, c2, rfl, h1, h2, h3, h4, h5, h6⟩
  have hO7 := hS.op.lt
  have hRk := hrest.lt
  refine ⟨_, rfl, ⟨?_, ?_, hS.chg.trans (h6.mono fun _ _ e => .inl e)⟩, regDc5K _ _ _ _ _ _ (h6.mono fun _ _ e => .inl e), B, c2, rfl, h1, fun ad e => ?_⟩
  · rw [mark_self, mark_ne done (show 1 ≠ 4 by decide)]; simpa [d1] using h5
  · rw [mark_ne done (show 7 ≠ 4 by decide), mark_ne done (show 9 ≠ 4 by decide)]; exact hS.op.keep h6 hne
  · have := h3 ad e; omega
theorem regDc5_5 {u0 u1 u2 u3 u4 u5 u8 u9 u10 u11 u12 u13 u14 u15 u16 u17 u18 u19 u20 u21 u22 u23 u24 u25 u26 u27 u28 u29 u30 u31 u32 u33 u34 u35 u36 u37 u38 u39 u40 u41 u42 : Value} {DD : List Deferred} (W0 : World) (Rk Bd O7 : Nat) (kd : Int) (r : Bts) (_ : O7 ≠ Rk) (_ : Bd ≤ O7) : ObR Tryd.prog opsDc5 ⟨#[u0, u1, u2, u3, u4, u5, .func (.func 69) #[] #[.pointer (some ⟨Rk, 0, none⟩)], .pointer (some ⟨O7, 0, none⟩), u8, u9, u10, u11, u12, u13, u14, u15, u16, u17, u18, u19, u20, u21, u22, u23, u24, u25, u26, u27, u28, u29, u30, u31, u32, u33, u34, u35, u36, u37, u38, u39, u40, u41, u42], DD⟩ (DecS W0 Rk Bd O7 kd r) (regDc5R W0 Rk Bd O7 kd r) 5 (⟨some 19, Op.convert 31 9 (Operand.tmp 18), 9, "model.go:324", #[{ on := 4, ground := Ground.data }, { on := 7, ground := Ground.gcOnly Departure.lateStores }], none⟩ : Oper) := by
  intro done a w hun hpr hsh hS hout hpre
  obtain ⟨v4, e4, r4⟩ := hpre ⟨4, Ground.data⟩ (by simp) rfl (⟨some 18, Op.call { callee := Callee.value (Operand.tmp 17), args := #[Operand.const (Value.int IntKind.i64 1024)], argTypes := #[3] }, 31, "model.go:324", #[{ on := 3, ground := Ground.data }, { on := 1, ground := Ground.chain }], none⟩ : Oper) 18 rfl rfl
  replace e4 := ev e4
  change regDc5R W0 Rk Bd O7 kd r 4 v4 w at r4
  simp only [regDc5R] at r4
  refine .inl ⟨by kernel_rfl, ?_⟩
  obtain ⟨B, c2, rfl, h1, h2⟩ := r4
  exact GivesR.same (run_conv2_op e4 (conv_bytes w B c2 _ h1)) (hS.same 5 (by decide) (by decide) (by decide) (by decide)) rfl
theorem regDc5_6 {u0 u1 u2 u3 u4 u5 u8 u9 u10 u11 u12 u13 u14 u15 u16 u17 u18 u19 u20 u21 u22 u23 u24 u25 u26 u27 u28 u29 u30 u31 u32 u33 u34 u35 u36 u37 u38 u39 u40 u41 u42 : Value} {DD : List Deferred} (W0 : World) (Rk Bd O7 : Nat) (kd : Int) (r : Bts) (_ : O7 ≠ Rk) (_ : Bd ≤ O7) : ObR Tryd.prog opsDc5 ⟨#[u0, u1, u2, u3, u4, u5, .func (.func 69) #[] #[.pointer (some ⟨Rk, 0, none⟩)], .pointer (some ⟨O7, 0, none⟩), u8, u9, u10, u11, u12, u13, u14, u15, u16, u17, u18, u19, u20, u21, u22, u23, u24, u25, u26, u27, u28, u29, u30, u31, u32, u33, u34, u35, u36, u37, u38, u39, u40, u41, u42], DD⟩ (DecS W0 Rk Bd O7 kd r) (regDc5R W0 Rk Bd O7 kd r) 6 (⟨some 20, Op.fieldAddr 33 (Operand.tmp 7) 1, 0, "model.go:324", #[{ on := 0, ground := Ground.phase }, { on := 1, ground := Ground.phase }, { on := 2, ground := Ground.phase }, { on := 3, ground := Ground.textOnly Departure.lateStores }, { on := 4, ground := Ground.textOnly Departure.lateStoresUnsure }, { on := 5, ground := Ground.textOnly Departure.lateStores }], none⟩ : Oper) := by
  intro done a w hun hpr hsh hS hout hpre
  have o7 := ev ((hout 7 (by kernel_rfl)).trans (show _ = some (.pointer (some ⟨O7, 0, none⟩)) from rfl))
  refine .inl ⟨by kernel_rfl, ?_⟩
  exact GivesR.same (run_fieldAddr_op o7 (by kernel_rfl)) (hS.same 6 (by decide) (by decide) (by decide) (by decide)) rfl
theorem regDc5_7 {u0 u1 u2 u3 u4 u5 u8 u9 u10 u11 u12 u13 u14 u15 u16 u17 u18 u19 u20 u21 u22 u23 u24 u25 u26 u27 u28 u29 u30 u31 u32 u33 u34 u35 u36 u37 u38 u39 u40 u41 u42 : Value} {DD : List Deferred} (W0 : World) (Rk Bd O7 : Nat) (kd : Int) (r : Bts) (hne : O7 ≠ Rk) (_ : Bd ≤ O7) : ObR Tryd.prog opsDc5 ⟨#[u0, u1, u2, u3, u4, u5, .func (.func 69) #[] #[.pointer (some ⟨Rk, 0, none⟩)], .pointer (some ⟨O7, 0, none⟩), u8, u9, u10, u11, u12, u13, u14, u15, u16, u17, u18, u19, u20, u21, u22, u23, u24, u25, u26, u27, u28, u29, u30, u31, u32, u33, u34, u35, u36, u37, u38, u39, u40, u41, u42], DD⟩ (DecS W0 Rk Bd O7 kd r) (regDc5R W0 Rk Bd O7 kd r) 7 (⟨none, Op.store 9 (Operand.tmp 20) (Operand.tmp 16), 0, "model.go:324", #[{ on := 6, ground := Ground.data }, { on := 2, ground := Ground.data }, { on := 4, ground := Ground.chain }, { on := 0, ground := Ground.phase }, { on := 1, ground := Ground.phase }, { on := 2, ground := Ground.phase }, { on := 3, ground := Ground.textOnly Departure.lateStores }, { on := 4, ground := Ground.textOnly Departure.lateStoresUnsure }, { on := 5, ground := Ground.textOnly Departure.lateStores }], none⟩ : Oper) := by
  intro done a w hun hpr hsh hS hout hpre
  obtain ⟨v6, e6, r6⟩ := hpre ⟨6, Ground.data⟩ (by simp) rfl (⟨some 20, Op.fieldAddr 33 (Operand.tmp 7) 1, 0, "model.go:324", #[{ on := 0, ground := Ground.phase }, { on := 1, ground := Ground.phase }, { on := 2, ground := Ground.phase }, { on := 3, ground := Ground.textOnly Departure.lateStores }, { on := 4, ground := Ground.textOnly Departure.lateStoresUnsure }, { on := 5, ground := Ground.textOnly Departure.lateStores }], none⟩ : Oper) 20 rfl rfl
  replace e6 := ev e6
  change regDc5R W0 Rk Bd O7 kd r 6 v6 w at r6
  simp only [regDc5R] at r6
  obtain ⟨v2, e2, r2⟩ := hpre ⟨2, Ground.data⟩ (by simp) rfl (⟨some 16, Op.convert 31 9 (Operand.tmp 15), 9, "model.go:324", #[{ on := 1, ground := Ground.data }], none⟩ : Oper) 16 rfl rfl
  replace e2 := ev e2
  change regDc5R W0 Rk Bd O7 kd r 2 v2 w at r2
  simp only [regDc5R] at r2
  refine .inl ⟨by kernel_rfl, ?_⟩
  subst r6
  subst r2
  have hc := hS.op.cell 1
  have hcg := (Chg.refl (fun k => k = Rk ∨ k = O7) w).set (g := O7) (.inr rfl) 1 (.string (strV (textD 1024 r).1))
  have hcg7 := (Chg.refl (fun k => k = O7) w).set (g := O7) rfl 1 (.string (strV (textD 1024 r).1))
  refine GivesR.skip (run_storeT_op (by kernel_rfl) e6 e2 hc (hS.op.frozen 1)) rfl ⟨?_, ?_, hS.chg.trans hcg⟩ (regDc5K _ _ _ _ _ _ hcg)
  · rw [mark_ne done (show 1 ≠ 7 by decide), mark_ne done (show 4 ≠ 7 by decide)]; exact hS.rest.keep hcg7 (fun e => hne e.symm) (fun k e => by omega)
  · rw [mark_self, mark_ne done (show 9 ≠ 7 by decide)]; exact hS.op.set 1 _
theorem regDc5_8 {u0 u1 u2 u3 u4 u5 u8 u9 u10 u11 u12 u13 u14 u15 u16 u17 u18 u19 u20 u21 u22 u23 u24 u25 u26 u27 u28 u29 u30 u31 u32 u33 u34 u35 u36 u37 u38 u39 u40 u41 u42 : Value} {DD : List Deferred} (W0 : World) (Rk Bd O7 : Nat) (kd : Int) (r : Bts) (_ : O7 ≠ Rk) (_ : Bd ≤ O7) : ObR Tryd.prog opsDc5 ⟨#[u0, u1, u2, u3, u4, u5, .func (.func 69) #[] #[.pointer (some ⟨Rk, 0, none⟩)], .pointer (some ⟨O7, 0, none⟩), u8, u9, u10, u11, u12, u13, u14, u15, u16, u17, u18, u19, u20, u21, u22, u23, u24, u25, u26, u27, u28, u29, u30, u31, u32, u33, u34, u35, u36, u37, u38, u39, u40, u41, u42], DD⟩ (DecS W0 Rk Bd O7 kd r) (regDc5R W0 Rk Bd O7 kd r) 8 (⟨some 21, Op.fieldAddr 33 (Operand.tmp 7) 2, 0, "model.go:324", #[{ on := 0, ground := Ground.phase }, { on := 1, ground := Ground.phase }, { on := 2, ground := Ground.phase }, { on := 3, ground := Ground.phase }, { on := 4, ground := Ground.phase }, { on := 5, ground := Ground.phase }, { on := 6, ground := Ground.phase }, { on := 7, ground := Ground.phase }], none⟩ : Oper) := by
  intro done a w hun hpr hsh hS hout hpre
  have o7 := ev ((hout 7 (by kernel_rfl)).trans (show _ = some (.pointer (some ⟨O7, 0, none⟩)) from rfl))
  refine .inl ⟨by kernel_rfl, ?_⟩
  exact GivesR.same (run_fieldAddr_op o7 (by kernel_rfl)) (hS.same 8 (by decide) (by decide) (by decide) (by decide)) rfl
theorem regDc5_9 {u0 u1 u2 u3 u4 u5 u8 u9 u10 u11 u12 u13 u14 u15 u16 u17 u18 u19 u20 u21 u22 u23 u24 u25 u26 u27 u28 u29 u30 u31 u32 u33 u34 u35 u36 u37 u38 u39 u40 u41 u42 : Value} {DD : List Deferred} (W0 : World) (Rk Bd O7 : Nat) (kd : Int) (r : Bts) (hne : O7 ≠ Rk) (_ : Bd ≤ O7) : ObR Tryd.prog opsDc5 ⟨#[u0, u1, u2, u3, u4, u5, .func (.func 69) #[] #[.pointer (some ⟨Rk, 0, none⟩)], .pointer (some ⟨O7, 0, none⟩), u8, u9, u10, u11, u12, u13, u14, u15, u16, u17, u18, u19, u20, u21, u22, u23, u24, u25, u26, u27, u28, u29, u30, u31, u32, u33, u34, u35, u36, u37, u38, u39, u40, u41, u42], DD⟩ (DecS W0 Rk Bd O7 kd r) (regDc5R W0 Rk Bd O7 kd r) 9 (⟨none, Op.store 9 (Operand.tmp 21) (Operand.tmp 19), 0, "model.go:324", #[{ on := 8, ground := Ground.data }, { on := 5, ground := Ground.data }, { on := 7, ground := Ground.chain }, { on := 0, ground := Ground.phase }, { on := 1, ground := Ground.phase }, { on := 2, ground := Ground.phase }, { on := 3, ground := Ground.phase }, { on := 4, ground := Ground.phase }, { on := 5, ground := Ground.phase }, { on := 6, ground := Ground.phase }, { on := 7, ground := Ground.phase }], none⟩ : Oper) := by
  intro done a w hun hpr hsh hS hout hpre
  obtain ⟨v8, e8, r8⟩ := hpre ⟨8, Ground.data⟩ (by simp) rfl (⟨some 21, Op.fieldAddr 33 (Operand.tmp 7) 2, 0, "model.go:324", #[{ on := 0, ground := Ground.phase }, { on := 1, ground := Ground.phase }, { on := 2, ground := Ground.phase }, { on := 3, ground := Ground.phase }, { on := 4, ground := Ground.phase }, { on := 5, ground := Ground.phase }, { on := 6, ground := Ground.phase }, { on := 7, ground := Ground.phase }], none⟩ : Oper) 21 rfl rfl
  replace e8 := ev e8
  change regDc5R W0 Rk Bd O7 kd r 8 v8 w at r8
  simp only [regDc5R] at r8
  obtain ⟨v5, e5, r5⟩ := hpre ⟨5, Ground.data⟩ (by simp) rfl (⟨some 19, Op.convert 31 9 (Operand.tmp 18), 9, "model.go:324", #[{ on := 4, ground := Ground.data }, { on := 7, ground := Ground.gcOnly Departure.lateStores }], none⟩ : Oper) 19 rfl rfl
  replace e5 := ev e5
  change regDc5R W0 Rk Bd O7 kd r 5 v5 w at r5
  simp only [regDc5R] at r5
  refine .inl ⟨by kernel_rfl, ?_⟩
  subst r8
  subst r5
  have hc := hS.op.cell 2
  have hcg := (Chg.refl (fun k => k = Rk ∨ k = O7) w).set (g := O7) (.inr rfl) 2 (.string (strV (textD 1024 (textD 1024 r).2).1))
  have hcg7 := (Chg.refl (fun k => k = O7) w).set (g := O7) rfl 2 (.string (strV (textD 1024 (textD 1024 r).2).1))
  refine GivesR.skip (run_storeT_op (by kernel_rfl) e8 e5 hc (hS.op.frozen 2)) rfl ⟨?_, ?_, hS.chg.trans hcg⟩ (regDc5K _ _ _ _ _ _ hcg)
  · rw [mark_ne done (show 1 ≠ 9 by decide), mark_ne done (show 4 ≠ 9 by decide)]; exact hS.rest.keep hcg7 (fun e => hne e.symm) (fun k e => by omega)
  · rw [mark_self, mark_ne done (show 7 ≠ 9 by decide)]; exact hS.op.set 2 _
theorem regDc5 {u0 u1 u2 u3 u4 u5 u8 u9 u10 u11 u12 u13 u14 u15 u16 u17 u18 u19 u20 u21 u22 u23 u24 u25 u26 u27 u28 u29 u30 u31 u32 u33 u34 u35 u36 u37 u38 u39 u40 u41 u42 : Value} {DD : List Deferred} (W0 : World) (Rk Bd O7 : Nat) (kd : Int) (r : Bts) (hne : O7 ≠ Rk) (hlo : Bd ≤ O7) {Q : Exit → Act → World → Prop} {w : World} (hS : (DecS W0 Rk Bd O7 kd r) (fun _ => false) w.drew)
    (hend : ∀ (v : Nat → Value) (w2 : World), (DecS W0 Rk Bd O7 kd r) (fun k => decide (k < 10)) w2 → (∀ i, i < 10 → regDc5R W0 Rk Bd O7 kd r i (v i) w2) → Q .normal ⟨#[u0, u1, u2, u3, u4, u5, .func (.func 69) #[] #[.pointer (some ⟨Rk, 0, none⟩)], .pointer (some ⟨O7, 0, none⟩), u8, u9, u10, u11, u12, u13, v 0, v 1, v 2, v 3, v 4, v 5, v 6, v 8, u22, u23, u24, u25, u26, u27, u28, u29, u30, u31, u32, u33, u34, u35, u36, u37, u38, u39, u40, u41, u42], DD⟩ w2) :
    (Code.region 5 opsDc5 true).wp Tryd.prog Q ⟨#[u0, u1, u2, u3, u4, u5, .func (.func 69) #[] #[.pointer (some ⟨Rk, 0, none⟩)], .pointer (some ⟨O7, 0, none⟩), u8, u9, u10, u11, u12, u13, u14, u15, u16, u17, u18, u19, u20, u21, u22, u23, u24, u25, u26, u27, u28, u29, u30, u31, u32, u33, u34, u35, u36, u37, u38, u39, u40, u41, u42], DD⟩ w := by
  refine wp_region_flow (S := DecS W0 Rk Bd O7 kd r) (R := regDc5R W0 Rk Bd O7 kd r) (by kernel_rfl) (by kernel_rfl) hS ?_ ?_
  · intro i o hi
    match i, hi with
    | 0, hi => injection hi with hi; subst hi; exact regDc5_0 (u0 := u0) (u1 := u1) (u2 := u2) (u3 := u3) (u4 := u4) (u5 := u5) (u8 := u8) (u9 := u9) (u10 := u10) (u11 := u11) (u12 := u12) (u13 := u13) (u14 := u14) (u15 := u15) (u16 := u16) (u17 := u17) (u18 := u18) (u19 := u19) (u20 := u20) (u21 := u21) (u22 := u22) (u23 := u23) (u24 := u24) (u25 := u25) (u26 := u26) (u27 := u27) (u28 := u28) (u29 := u29) (u30 := u30) (u31 := u31) (u32 := u32) (u33 := u33) (u34 := u34) (u35 := u35) (u36 := u36) (u37 := u37) (u38 := u38) (u39 := u39) (u40 := u40) (u41 := u41) (u42 := u42) (DD := DD) W0 Rk Bd O7 kd r hne hlo
    | 1, hi => injection hi with hi; subst hi; exact regDc5_1 (u0 := u0) (u1 := u1) (u2 := u2) (u3 := u3) (u4 := u4) (u5 := u5) (u8 := u8) (u9 := u9) (u10 := u10) (u11 := u11) (u12 := u12) (u13 := u13) (u14 := u14) (u15 := u15) (u16 := u16) (u17 := u17) (u18 := u18) (u19 := u19) (u20 := u20) (u21 := u21) (u22 := u22) (u23 := u23) (u24 := u24) (u25 := u25) (u26 := u26) (u27 := u27) (u28 := u28) (u29 := u29) (u30 := u30) (u31 := u31) (u32 := u32) (u33 := u33) (u34 := u34) (u35 := u35) (u36 := u36) (u37 := u37) (u38 := u38) (u39 := u39) (u40 := u40) (u41 := u41) (u42 := u42) (DD := DD) W0 Rk Bd O7 kd r hne hlo
    | 2, hi => injection hi with hi; subst hi; exact regDc5_2 (u0 := u0) (u1 := u1) (u2 := u2) (u3 := u3) (u4 := u4) (u5 := u5) (u8 := u8) (u9 := u9) (u10 := u10) (u11 := u11) (u12 := u12) (u13 := u13) (u14 := u14) (u15 := u15) (u16 := u16) (u17 := u17) (u18 := u18) (u19 := u19) (u20 := u20) (u21 := u21) (u22 := u22) (u23 := u23) (u24 := u24) (u25 := u25) (u26 := u26) (u27 := u27) (u28 := u28) (u29 := u29) (u30 := u30) (u31 := u31) (u32 := u32) (u33 := u33) (u34 := u34) (u35 := u35) (u36 := u36) (u37 := u37) (u38 := u38) (u39 := u39) (u40 := u40) (u41 := u41) (u42 := u42) (DD := DD) W0 Rk Bd O7 kd r hne hlo
    | 3, hi => injection hi with hi; subst hi; exact regDc5_3 (u0 := u0) (u1 := u1) (u2 := u2) (u3 := u3) (u4 := u4) (u5 := u5) (u8 := u8) (u9 := u9) (u10 := u10) (u11 := u11) (u12 := u12) (u13 := u13) (u14 := u14) (u15 := u15) (u16 := u16) (u17 := u17) (u18 := u18) (u19 := u19) (u20 := u20) (u21 := u21) (u22 := u22) (u23 := u23) (u24 := u24) (u25 := u25) (u26 := u26) (u27 := u27) (u28 := u28) (u29 := u29) (u30 := u30) (u31 := u31) (u32 := u32) (u33 := u33) (u34 := u34) (u35 := u35) (u36 := u36) (u37 := u37) (u38 := u38) (u39 := u39) (u40 := u40) (u41 := u41) (u42 := u42) (DD := DD) W0 Rk Bd O7 kd r hne hlo
    | 4, hi => injection hi with hi; subst hi; exact regDc5_4 (u0 := u0) (u1 := u1) (u2 := u2) (u3 := u3) (u4 := u4) (u5 := u5) (u8 := u8) (u9 := u9) (u10 := u10) (u11 := u11) (u12 := u12) (u13 := u13) (u14 := u14) (u15 := u15) (u16 := u16) (u17 := u17) (u18 := u18) (u19 := u19) (u20 := u20) (u21 := u21) (u22 := u22) (u23 := u23) (u24 := u24) (u25 := u25) (u26 := u26) (u27 := u27) (u28 := u28) (u29 := u29) (u30 := u30) (u31 := u31) (u32 := u32) (u33 := u33) (u34 := u34) (u35 := u35) (u36 := u36) (u37 := u37) (u38 := u38) (u39 := u39) (u40 := u40) (u41 := u41) (u42 := u42) (DD := DD) W0 Rk Bd O7 kd r hne hlo
    | 5, hi => injection hi with hi; subst hi; exact regDc5_5 (u0 := u0) (u1 := u1) (u2 := u2) (u3 := u3) (u4 := u4) (u5 := u5) (u8 := u8) (u9 := u9) (u10 := u10) (u11 := u11) (u12 := u12) (u13 := u13) (u14 := u14) (u15 := u15) (u16 := u16) (u17 := u17) (u18 := u18) (u19 := u19) (u20 := u20) (u21 := u21) (u22 := u22) (u23 := u23) (u24 := u24) (u25 := u25) (u26 := u26) (u27 := u27) (u28 := u28) (u29 := u29) (u30 := u30) (u31 := u31) (u32 := u32) (u33 := u33) (u34 := u34) (u35 := u35) (u36 := u36) (u37 := u37) (u38 := u38) (u39 := u39) (u40 := u40) (u41 := u41) (u42 := u42) (DD := DD) W0 Rk Bd O7 kd r hne hlo
    | 6, hi => injection hi with hi; subst hi; exact regDc5_6 (u0 := u0) (u1 := u1) (u2 := u2) (u3 := u3) (u4 := u4) (u5 := u5) (u8 := u8) (u9 := u9) (u10 := u10) (u11 := u11) (u12 := u12) (u13 := u13) (u14 := u14) (u15 := u15) (u16 := u16) (u17 := u17) (u18 := u18) (u19 := u19) (u20 := u20) (u21 := u21) (u22 := u22) (u23 := u23) (u24 := u24) (u25 := u25) (u26 := u26) (u27 := u27) (u28 := u28) (u29 := u29) (u30 := u30) (u31 := u31) (u32 := u32) (u33 := u33) (u34 := u34) (u35 := u35) (u36 := u36) (u37 := u37) (u38 := u38) (u39 := u39) (u40 := u40) (u41 := u41) (u42 := u42) (DD := DD) W0 Rk Bd O7 kd r hne hlo
    | 7, hi => injection hi with hi; subst hi; exact regDc5_7 (u0 := u0) (u1 := u1) (u2 := u2) (u3 := u3) (u4 := u4) (u5 := u5) (u8 := u8) (u9 := u9) (u10 := u10) (u11 := u11) (u12 := u12) (u13 := u13) (u14 := u14) (u15 := u15) (u16 := u16) (u17 := u17) (u18 := u18) (u19 := u19) (u20 := u20) (u21 := u21) (u22 := u22) (u23 := u23) (u24 := u24) (u25 := u25) (u26 := u26) (u27 := u27) (u28 := u28) (u29 := u29) (u30 := u30) (u31 := u31) (u32 := u32) (u33 := u33) (u34 := u34) (u35 := u35) (u36 := u36) (u37 := u37) (u38 := u38) (u39 := u39) (u40 := u40) (u41 := u41) (u42 := u42) (DD := DD) W0 Rk Bd O7 kd r hne hlo
    | 8, hi => injection hi with hi; subst hi; exact regDc5_8 (u0 := u0) (u1 := u1) (u2 := u2) (u3 := u3) (u4 := u4) (u5 := u5) (u8 := u8) (u9 := u9) (u10 := u10) (u11 := u11) (u12 := u12) (u13 := u13) (u14 := u14) (u15 := u15) (u16 := u16) (u17 := u17) (u18 := u18) (u19 := u19) (u20 := u20) (u21 := u21) (u22 := u22) (u23 := u23) (u24 := u24) (u25 := u25) (u26 := u26) (u27 := u27) (u28 := u28) (u29 := u29) (u30 := u30) (u31 := u31) (u32 := u32) (u33 := u33) (u34 := u34) (u35 := u35) (u36 := u36) (u37 := u37) (u38 := u38) (u39 := u39) (u40 := u40) (u41 := u41) (u42 := u42) (DD := DD) W0 Rk Bd O7 kd r hne hlo
    | 9, hi => injection hi with hi; subst hi; exact regDc5_9 (u0 := u0) (u1 := u1) (u2 := u2) (u3 := u3) (u4 := u4) (u5 := u5) (u8 := u8) (u9 := u9) (u10 := u10) (u11 := u11) (u12 := u12) (u13 := u13) (u14 := u14) (u15 := u15) (u16 := u16) (u17 := u17) (u18 := u18) (u19 := u19) (u20 := u20) (u21 := u21) (u22 := u22) (u23 := u23) (u24 := u24) (u25 := u25) (u26 := u26) (u27 := u27) (u28 := u28) (u29 := u29) (u30 := u30) (u31 := u31) (u32 := u32) (u33 := u33) (u34 := u34) (u35 := u35) (u36 := u36) (u37 := u37) (u38 := u38) (u39 := u39) (u40 := u40) (u41 := u41) (u42 := u42) (DD := DD) W0 Rk Bd O7 kd r hne hlo
    | n + 10, hi => exact absurd (Array.getElem?_eq_some_iff.1 hi).1 (by show ¬ n + 10 < 10; omega)
  · intro v w2 h1 h2
    have hp : puts opsDc5 ⟨#[u0, u1, u2, u3, u4, u5, .func (.func 69) #[] #[.pointer (some ⟨Rk, 0, none⟩)], .pointer (some ⟨O7, 0, none⟩), u8, u9, u10, u11, u12, u13, u14, u15, u16, u17, u18, u19, u20, u21, u22, u23, u24, u25, u26, u27, u28, u29, u30, u31, u32, u33, u34, u35, u36, u37, u38, u39, u40, u41, u42], DD⟩ v = ⟨#[u0, u1, u2, u3, u4, u5, .func (.func 69) #[] #[.pointer (some ⟨Rk, 0, none⟩)], .pointer (some ⟨O7, 0, none⟩), u8, u9, u10, u11, u12, u13, v 0, v 1, v 2, v 3, v 4, v 5, v 6, v 8, u22, u23, u24, u25, u26, u27, u28, u29, u30, u31, u32, u33, u34, u35, u36, u37, u38, u39, u40, u41, u42], DD⟩ := by kernel_rfl
    rw [hp]
    refine hend v w2 h1 fun i hi => ?_
    match i, hi with
    | 0, _ => exact h2 0 _ _ rfl rfl
    | 1, _ => exact h2 1 _ _ rfl rfl
    | 2, _ => exact h2 2 _ _ rfl rfl
    | 3, _ => exact h2 3 _ _ rfl rfl
    | 4, _ => exact h2 4 _ _ rfl rfl
    | 5, _ => exact h2 5 _ _ rfl rfl
    | 6, _ => exact h2 6 _ _ rfl rfl
    | 7, _ => exact trivial
    | 8, _ => exact h2 8 _ _ rfl rfl
    | 9, _ => exact trivial
    | n + 10, hi => omega

end Go.Proofs.YthhpcilinkebeaaDoor
/- ModelCodes: an operation is read out of bytes. -/
namespace Go.Proofs.YthhpcilinkebeaaDoor
open Go.RowKit Go.Maps
set_option maxHeartbeats 8000000
set_option maxRecDepth 100000

theorem results_cell_tmp1 {P : Program} {fn : Func} {p t1 : Tmp} {ty : TypeId} (h : fn.results = #[.cell p ty, .tmp t1]) (tmps : Array Value) (w : World) (g : Nat) (t : TypeId) (cs : Array Value) (fr : Nat × Nat) (d : TypeDesc)
    (hp : tmps.getD p undef = .pointer (some ⟨g, 0, none⟩)) (hg : w.heap[g]? = some (.cells cs t fr))
    (hu : P.underlying ty = some d) (hd : (match d with | .struct _ | .array _ _ => true | _ => false) = true) (hi : (P.info? ty).map (·.size) = some cs.size) :
    (results fn tmps).run P w = .ok (.tuple #[.agg cs, tmps.getD t1 undef]) w := by
  have hp' : tmps[p]?.getD undef = .pointer (some ⟨g, 0, none⟩) := by simpa using hp
  simp [results, h, hp', asAddr, run_loadVar_row w g t ty cs fr d hg hu hd hi]
theorem op_end {fn : Func} (hfn : fn.results = #[.cell 2 33, .tmp 3]) {tmps : Array Value} {X : Nat} {cs : Array Value} {er : Int} {post : Ending → World → Prop} {W : World} (hp : tmps.getD 2 undef = .pointer (some ⟨X, 0, none⟩)) (h3 : tmps.getD 3 undef = .int .i64 er) (hB : Blk W X 33 cs) (hs : cs.size = 6)
    (h : post (.returned (.tuple #[.agg cs, .int .i64 er])) W) : bodyPost Tryd.prog fn post .ret ⟨tmps, []⟩ W :=
  bodyPost_ret ((results_cell_tmp1 hfn _ _ X 33 cs (0, 0) _ hp hB Tryd.underlying33 rfl (by rw [hs]; kernel_rfl)).trans (by rw [h3])) rfl h
theorem op_facts {w : World} {X : Nat} {x0 x1 x2 x3 x4 x5 : Value} (h : Blk w X 33 #[x0, x1, x2, x3, x4, x5]) : (w.cell? ⟨X, 0, none⟩ = some x0 ∧ w.cell? ⟨X, 1, none⟩ = some x1 ∧ w.cell? ⟨X, 2, none⟩ = some x2 ∧ w.cell? ⟨X, 3, none⟩ = some x3 ∧ w.cell? ⟨X, 4, none⟩ = some x4 ∧ w.cell? ⟨X, 5, none⟩ = some x5) ∧
    w.frozen? ⟨X, 0, none⟩ = false ∧ w.frozen? ⟨X, 1, none⟩ = false ∧ w.frozen? ⟨X, 2, none⟩ = false ∧ w.frozen? ⟨X, 3, none⟩ = false ∧ w.frozen? ⟨X, 4, none⟩ = false ∧ w.frozen? ⟨X, 5, none⟩ = false :=
  ⟨⟨h.cell 0, h.cell 1, h.cell 2, h.cell 3, h.cell 4, h.cell 5⟩, h.frozen 0, h.frozen 1, h.frozen 2, h.frozen 3, h.frozen 4, h.frozen 5⟩
/-- six cells stored -/
def setO (w : World) (X : Nat) (a b c d e f : Value) : World := (((((w.setCell ⟨X, 0, none⟩ a).setCell ⟨X, 1, none⟩ b).setCell ⟨X, 2, none⟩ c).setCell ⟨X, 3, none⟩ d).setCell ⟨X, 4, none⟩ e).setCell ⟨X, 5, none⟩ f
theorem Blk.setO {w : World} {X : Nat} {x0 x1 x2 x3 x4 x5 : Value} (h : Blk w X 33 #[x0, x1, x2, x3, x4, x5]) (a b c d e f : Value) : Blk (setO w X a b c d e f) X 33 #[a, b, c, d, e, f] := (((((h.set 0 a).set 1 b).set 2 c).set 3 d).set 4 e).set 5 f
theorem chg_setO (w : World) (X : Nat) (a b c d e f : Value) : Chg (fun k => k = X) w (setO w X a b c d e f) :=
  ((((((Chg.refl (fun k => k = X) w).set (g := X) rfl 0 a).set (g := X) rfl 1 b).set (g := X) rfl 2 c).set (g := X) rfl 3 d).set (g := X) rfl 4 e).set (g := X) rfl 5 f
theorem textD_le (most : Int) (r : Bts) : (textD most r).1.length ≤ r.length ∧ (textD most r).2.length ≤ r.length := by
  refine ⟨?_, by unfold textD; simp only [List.length_drop]; omega⟩
  unfold textD rdBytes
  dsimp only
  split
  · exact Nat.zero_le _
  · split
    · exact Nat.zero_le _
    · split
      · exact Nat.zero_le _
      · simp only [List.length_take, List.length_drop]; omega
theorem numD_le (r : Bts) : (numD r).2.length ≤ r.length ∧ I64 (numD r).1 := by
  refine ⟨by unfold numD; simp only [List.length_drop]; omega, ?_⟩
  have := rdNum_lt r
  unfold numD i64V I64
  dsimp only
  split <;> omega
def zOp : Array Value := #[.int .i64 0, .string ⟨#[]⟩, .string ⟨#[]⟩, .int .i64 0, .int .i64 0, .slice none 0 0]
def DecPost (w : World) (b : Bts) (e : Ending) (w' : World) : Prop := ∃ (o : OM), o.ov = decV b ∧ o.ok w' ∧ Below w.heap.size w w' ∧
  ((rightV o.ov = true ∧ encV o.ov = b ∧ e = .returned (.tuple #[o.val, .int .i64 0])) ∨ (¬ (rightV o.ov = true ∧ encV o.ov = b) ∧ e = .returned (.tuple #[.agg zOp, .int .i64 24])))
theorem decode_any (w : World) (A : Option Addr) (c : Nat) (b : Bts) (hr : Rd w A (byts b)) (hc : b.length ≤ c) (hl : b.length ≤ 1048576) :
    Calls Tryd.prog 36 #[.slice A b.length c] w (DecPost w b) := by
  have hb0 := (Below.refl w.heap.size w).alloc (Nat.le_refl _) (.cells zOp 33)
  have hb1 := hb0.alloc hb0.size (.cells #[.slice A b.length c] 31)
  have hX := (Blk.new w 33 zOp).alloc (.cells #[.slice A b.length c] 31)
  have hR := Blk.new (w.alloc (.cells zOp 33)) 31 #[.slice A b.length c]
  have hsz : (w.alloc (.cells zOp 33)).heap.size = w.heap.size + 1 := by simp
  rw [hsz] at hR
  have hA : b ≠ [] → ∀ ad, A = some ad → ad.block < w.heap.size := fun hne ad e => by
    obtain ⟨a', e', h1, _⟩ := hr (by simpa [byts] using hne)
    rw [e] at e'
    injection e' with e'
    subst e'
    exact h1
  clear hsz
  go_enter Tryd.func36, Tryd.ntmps36
  go_upto_region 4 with fail
  change Code.wp _ _ _ _ ((w.alloc (.cells zOp 33)).alloc (.cells #[.slice A b.length c] 31))
  have hrest : Rest ((w.alloc (.cells zOp 33)).alloc (.cells #[.slice A b.length c] 31)) (w.heap.size + 1) w.heap.size b := ⟨⟨A, c, hR, hr.below hb1, hc, hA⟩, hl, by omega⟩
  have hxl := hX.lt
  generalize (w.alloc (.cells zOp 33)).alloc (.cells #[.slice A b.length c] 31) = w1 at *
  clear hR hb0
  have hnum := num_clo w1 (w.heap.size + 1) w.heap.size b hrest
  go_wp2_with fail
  refine hnum.mono ?_
  rintro e w2 ⟨rfl, hr2, hc2⟩
  clear hnum hrest
  have hX2 := hX.keep hc2 (by omega)
  have hb2 := hc2.toBelow hb1 (fun k e => by omega) hb1.size
  go_upto_region 5 with fail
  change Code.wp _ _ _ _ (w2.alloc (.cells #[.int .i64 (numD b).1, .string ⟨#[]⟩, .string ⟨#[]⟩, .int .i64 0, .int .i64 0, .slice none 0 0] 33))
  have hB3 := Blk.new w2 33 #[.int .i64 (numD b).1, .string ⟨#[]⟩, .string ⟨#[]⟩, .int .i64 0, .int .i64 0, .slice none 0 0]
  have hx3 := (Below.refl w2.heap.size w2).alloc (Nat.le_refl _) (.cells #[.int .i64 (numD b).1, .string ⟨#[]⟩, .string ⟨#[]⟩, .int .i64 0, .int .i64 0, .slice none 0 0] 33)
  have hr3 := hr2.keep (Chg.of_below (S := fun _ => False) hx3) (fun h => h) (fun k h => h.elim)
  have hX3 := hX2.below' hx3
  have hb3 := hb2.trans (hx3.mono hb2.size)
  have hlt2 := hX2.lt
  have hrl := hr2.lt
  generalize w2.alloc (.cells #[.int .i64 (numD b).1, .string ⟨#[]⟩, .string ⟨#[]⟩, .int .i64 0, .int .i64 0, .slice none 0 0] 33) = w3 at *
  obtain ⟨O7, hO7⟩ : ∃ O7, O7 = w2.heap.size := ⟨_, rfl⟩
  rw [← hO7] at hB3 ⊢
  have hne : O7 ≠ w.heap.size + 1 := by omega
  have hlo : w.heap.size ≤ O7 := by have := hb2.size; omega
  have hOX : O7 ≠ w.heap.size := by omega
  clear hx3 hX2 hr2 hO7 hb2 hc2
  refine regDc5 w3 (w.heap.size + 1) w.heap.size O7 (numD b).1 (numD b).2 hne hlo ⟨by simpa using hr3.keep (Chg.refl (fun _ => False) w3).drew (fun h => h) (fun k h => h.elim), hB3, (Chg.refl _ _).drew⟩ ?_
  intro v w4 hS4 hR4
  have hr4 := hS4.rest
  have hB4 := hS4.op
  have hc4 := hS4.chg
  clear hR4 hS4 hr3 hB3
  simp only [show decide (1 < 10) = true from rfl, show decide (4 < 10) = true from rfl, show decide (7 < 10) = true from rfl, show decide (9 < 10) = true from rfl, if_true, Bool.true_eq_false, if_false] at hr4 hB4
  have hX4 := hX3.keep hc4 (fun h => by omega)
  have hb4 := hc4.toBelow hb3 (fun k e => by omega) hb3.size
  clear hX3 hb3 hc4
  generalize hq1 : textD 1024 (numD b).2 = q1 at *
  generalize hq2 : textD 1024 q1.2 = q2 at *
  have hnum := num_clo w4 (w.heap.size + 1) w.heap.size q2.2 hr4
  go_wp2_with fail
  refine hnum.mono ?_
  rintro e w5 ⟨rfl, hr5, hc5⟩
  clear hnum
  have hX5 := hX4.keep hc5 (by omega)
  have hB5 := hB4.keep hc5 hne
  have hb5 := hc5.toBelow hb4 (fun k e => by omega) hb4.size
  generalize hq3 : numD q2.2 = q3 at *
  have hnum := num_clo w5 (w.heap.size + 1) w.heap.size q3.2 hr5
  clear hX4 hB4 hb4 hc5 hr4
  go_wp2_with fail
  refine hnum.mono ?_
  rintro e w6 ⟨rfl, hr6, hc6⟩
  clear hnum
  have hX6 := hX5.keep hc6 (by omega)
  have hB6 := hB5.keep hc6 hne
  have hb6 := hc6.toBelow hb5 (fun k e => by omega) hb5.size
  generalize hq4 : numD q3.2 = q4 at *
  have htx := text_clo w6 (w.heap.size + 1) w.heap.size q4.2 hr6 2097152 (by decide)
  clear hX5 hB5 hb5 hc6 hr5
  go_wp2_with fail
  refine htx.mono ?_
  rintro e w7 ⟨B, c7, rfl, hd7, hcp7, hB7n, hl7, hr7, hc7⟩
  clear htx
  have hX7 := hX6.keep hc7 (by omega)
  have hB7 := hB6.keep hc7 hne
  have hb7 := hc7.toBelow hb6 (fun k e => by omega) hb6.size
  generalize hq5 : textD ((2097152 : Nat) : Int) q4.2 = q5 at *
  have hO6 := hB6.lt
  have hw6 := hX6.lt
  clear hX6 hB6 hb6 hc7 hr6
  have f3 := hB7.frozen 3
  have f4 := hB7.frozen 4
  have f5 := hB7.frozen 5
  have g3 : w7.cell? ⟨O7, 3, none⟩ = some (.int .i64 0) := hB7.cell 3
  have g4 : w7.cell? ⟨O7, 4, none⟩ = some (.int .i64 0) := hB7.cell 4
  have g5 : w7.cell? ⟨O7, 5, none⟩ = some (.slice none 0 0) := hB7.cell 5
  have hB8 := ((hB7.set 3 (.int .i64 q3.1)).set 4 (.int .i64 q4.1)).set 5 (.slice B q5.1.length c7)
  have hc8 := (((Chg.refl (fun k => k = O7) w7).set (g := O7) rfl 3 (.int .i64 q3.1)).set (g := O7) rfl 4 (.int .i64 q4.1)).set (g := O7) rfl 5 (.slice B q5.1.length c7)
  have hX8 := hX7.keep hc8 (fun e => hOX e.symm)
  have hb8 := hc8.toBelow hb7 (fun k e => by omega) hb7.size
  have hd8 := hd7.keepC hc8 (fun ad e e2 => by have := hB7n ad e; omega)
  go_upto_region 7 with fail
  generalize ((w7.setCell ⟨O7, 3, none⟩ (.int .i64 q3.1)).setCell ⟨O7, 4, none⟩ (.int .i64 q4.1)).setCell ⟨O7, 5, none⟩ (.slice B q5.1.length c7) = w8 at *
  clear f3 f4 f5 g3 g4 g5 hB7 hX7 hb7 hd7 hc8 hr7
  have n1 := numD_le b
  have n2 := textD_le 1024 (numD b).2
  have n3 := textD_le 1024 q1.2
  have n4 := numD_le q2.2
  have n5 := numD_le q3.2
  rw [hq1] at n2
  rw [hq2] at n3
  rw [hq3] at n4
  rw [hq4] at n5
  obtain ⟨o, ho⟩ : ∃ o : OM, o = ⟨(numD b).1, strV q1.1, strV q2.1, q3.1, q4.1, B, q5.1, c7⟩ := ⟨_, rfl⟩
  have hov : o.ov = decV b := by
    rw [ho]
    unfold decV
    rw [hq1, hq2, hq3, hq4, show textD 2097152 q4.2 = q5 from hq5]
    rfl
  have hcells : o.cells.toArray = #[.int .i64 (numD b).1, .string (strV q1.1), .string (strV q2.1), .int .i64 q3.1, .int .i64 q4.1, .slice B q5.1.length c7] := by rw [ho]; rfl
  have hok : o.ok w8 := by
    rw [ho]
    exact ⟨hd8, hcp7, by show q5.1.length ≤ _; omega, by show q1.1.length ≤ _; omega, by show q2.1.length ≤ _; omega, n1.2, n4.2, n5.2⟩
  have hB9 : Blk w8 O7 33 o.cells.toArray := by rw [hcells]; exact hB8
  clear hB8 hcells hd8 hcp7 hl7
  have HO := Lib.hid ho
  have HOV := Lib.hid hov
  clear ho hov
  have d0 : w8.cell? ⟨O7, 0, none⟩ = some (.int .i64 o.kind) := hB9.cell 0
  have d1 : w8.cell? ⟨O7, 1, none⟩ = some (.string o.name) := hB9.cell 1
  have d2 : w8.cell? ⟨O7, 2, none⟩ = some (.string o.dst) := hB9.cell 2
  have d3 : w8.cell? ⟨O7, 3, none⟩ = some (.int .i64 o.at_) := hB9.cell 3
  have d4 : w8.cell? ⟨O7, 4, none⟩ = some (.int .i64 o.n) := hB9.cell 4
  have d5 : w8.cell? ⟨O7, 5, none⟩ = some (.slice o.A o.l.length o.c) := hB9.cell 5
  have hoA : ∀ ad, o.A = some ad → w.heap.size < ad.block := by rw [HO.out]; intro ad e; have := hB7n ad e; omega
  have hl5 : o.l.length ≤ 2097152 := by rw [HO.out]; have := textD_le ((2097152 : Nat) : Int) q4.2; rw [hq5] at this; show q5.1.length ≤ _; omega
  obtain ⟨Rr, hRr⟩ : ∃ Rr, rightV o.ov = Rr := ⟨_, rfl⟩
  have hri := right_at o w8 hRr
  clear hq1 hq2 hq3 hq4 hq5 n1 n2 n3 n4 n5
  go_wp2_with fail
  refine hri.mono ?_
  rintro e w9 ⟨rfl, hb9⟩
  clear hri
  have hX9 := hX8.below' hb9
  have hB10 := hB9.below' hb9
  have hok9 := hok.below hb9
  have hb09 := hb8.trans (hb9.mono hb8.size)
  clear d0 d1 d2 d3 d4 d5 hX8 hB9 hok hb8 hb9
  clear hB7n hO6 hw6
  cases Rr with
  | false =>
    obtain ⟨⟨x0, x1, x2, x3, x4, x5⟩, f0, f1, f2, f3, f4, f5⟩ := op_facts hX9
    have hcg := chg_setO w9 w.heap.size (.int .i64 0) (.string ⟨#[]⟩) (.string ⟨#[]⟩) (.int .i64 0) (.int .i64 0) (.slice none 0 0)
    have hBl := Blk.setO hX9 (.int .i64 0) (.string ⟨#[]⟩) (.string ⟨#[]⟩) (.int .i64 0) (.int .i64 0) (.slice none 0 0)
    have hokF : o.ok _ := ⟨hok9.rd.keepC hcg (fun ad e e2 => by have := hoA ad e; omega), hok9.cap, hok9.few, hok9.name, hok9.dst, hok9.kind, hok9.at_, hok9.n⟩
    have hbF := hcg.toBelow hb09 (fun k e => by omega) hb09.size
    clear hcg
    go_wp2_with fail
    exact op_end rfl rfl rfl hBl rfl ⟨o, HOV.out, hokF, hbF, .inr ⟨(fun h => by rw [hRr] at h; exact absurd h.1 (by decide)), rfl⟩⟩
  | true =>
  have henc := encode_any o w9 hok9 hok9.name hok9.dst hl5
  obtain ⟨⟨y0, y1, y2, y3, y4, y5⟩, -⟩ := op_facts (x0 := .int .i64 o.kind) (x1 := .string o.name) (x2 := .string o.dst) (x3 := .int .i64 o.at_) (x4 := .int .i64 o.n) (x5 := .slice o.A o.l.length o.c) hB10
  go_wp2_with fail
  refine henc.mono ?_
  rintro e w10 ⟨EA, ec, rfl, her, hec, hb10⟩
  clear henc y0 y1 y2 y3 y4 y5
  have heq := equal_any EA A ec c (encV o.ov) b w10 her (hr.below (hb09.trans (hb10.mono hb09.size)))
  go_wp2_with fail
  refine heq.mono ?_
  rintro e w11 ⟨rfl, hb11⟩
  clear heq her
  have hb911 := hb10.trans (hb11.mono hb10.size)
  have hX11 := hX9.below' hb911
  have hB11 := hB10.below' hb911
  have hok11 := hok9.below hb911
  have hb011 := hb09.trans (hb911.mono hb09.size)
  clear hb10 hb11 hb911 hX9 hB10 hok9 hb09
  obtain ⟨⟨x0, x1, x2, x3, x4, x5⟩, f0, f1, f2, f3, f4, f5⟩ := op_facts hX11
  by_cases hE : encV o.ov = b
  case neg =>
    have k1 : decide (encV o.ov = b) = false := decide_eq_false hE
    have hcg := chg_setO w11 w.heap.size (.int .i64 0) (.string ⟨#[]⟩) (.string ⟨#[]⟩) (.int .i64 0) (.int .i64 0) (.slice none 0 0)
    have hBl := Blk.setO hX11 (.int .i64 0) (.string ⟨#[]⟩) (.string ⟨#[]⟩) (.int .i64 0) (.int .i64 0) (.slice none 0 0)
    have hokF : o.ok _ := ⟨hok11.rd.keepC hcg (fun ad e e2 => by have := hoA ad e; omega), hok11.cap, hok11.few, hok11.name, hok11.dst, hok11.kind, hok11.at_, hok11.n⟩
    have hbF := hcg.toBelow hb011 (fun k e => by omega) hb011.size
    have HE := Lib.hid hE
    clear hcg hE
    go_wp2_with fail
    exact op_end rfl rfl rfl hBl rfl ⟨o, HOV.out, hokF, hbF, .inr ⟨fun h => HE.out h.2, rfl⟩⟩
  have k1 : decide (encV o.ov = b) = true := decide_eq_true hE
  obtain ⟨⟨y0, y1, y2, y3, y4, y5⟩, -⟩ := op_facts (x0 := .int .i64 o.kind) (x1 := .string o.name) (x2 := .string o.dst) (x3 := .int .i64 o.at_) (x4 := .int .i64 o.n) (x5 := .slice o.A o.l.length o.c) hB11
  have hcg := chg_setO w11 w.heap.size (.int .i64 o.kind) (.string o.name) (.string o.dst) (.int .i64 o.at_) (.int .i64 o.n) (.slice o.A o.l.length o.c)
  have hBl := Blk.setO hX11 (.int .i64 o.kind) (.string o.name) (.string o.dst) (.int .i64 o.at_) (.int .i64 o.n) (.slice o.A o.l.length o.c)
  have hokF : o.ok _ := ⟨hok11.rd.keepC hcg (fun ad e e2 => by have := hoA ad e; omega), hok11.cap, hok11.few, hok11.name, hok11.dst, hok11.kind, hok11.at_, hok11.n⟩
  have hbF := hcg.toBelow hb011 (fun k e => by omega) hb011.size
  have HE := Lib.hid hE
  clear hcg hE
  go_wp2_with fail
  exact op_end rfl rfl rfl hBl rfl ⟨o, HOV.out, hokF, hbF, .inl ⟨hRr, HE.out, rfl⟩⟩
end Go.Proofs.YthhpcilinkebeaaDoor
/- ModelCodes: the reference's Right. -/
namespace Go.Proofs.YthhpcilinkebeaaDoor
open Go.RowKit Go.Maps
set_option maxHeartbeats 8000000
set_option maxRecDepth 100000

theorem refRight_any (o : OM) (w : World) : Calls Tryd.prog 23 #[o.val] w fun x w' => x = .returned (.bool (rightV o.ov)) ∧ Below w.heap.size w w' := by
  have hb := (Below.refl w.heap.size w).alloc (Nat.le_refl _) (.cells o.cells.toArray 33)
  have hB := Blk.new w 33 o.cells.toArray
  obtain ⟨k, nm, ds, at_, n, A, l, c⟩ := o
  simp only [OM.val, OM.cells] at *
  obtain ⟨⟨c0, c1, c2, c3, c4, c5⟩, -⟩ := op_facts hB
  clear hB
  have hl : (0 < l.length) ↔ l ≠ [] := List.length_pos_iff
  have hcase : ∀ j : Int, k = j → (∀ W : World, True) → True := fun _ _ _ => trivial
  clear hcase
  rcases kinds k with h | h | h | h | h | h | h | h | h | ⟨h1, h2, h3, h4, h5, h6, h7, h8, h9⟩
  case inr.inr.inr.inr.inr.inr.inr.inr.inr =>
    have b1 : (k == 1) = false := by simp [h1]
    have b2 : (k == 2) = false := by simp [h2]
    have b3 : (k == 3) = false := by simp [h3]
    have b4 : (k == 4) = false := by simp [h4]
    have b5 : (k == 5) = false := by simp [h5]
    have b6 : (k == 6) = false := by simp [h6]
    have b7 : (k == 7) = false := by simp [h7]
    have b8 : (k == 8) = false := by simp [h8]
    have b9 : (k == 9) = false := by simp [h9]
    have HV : Hid (rightV (OM.ov ⟨k, nm, ds, at_, n, A, l, c⟩) = false) := Lib.hid (by simp [rightV, OM.ov, h1, h2, h3, h4, h5, h6, h7, h8, h9])
    clear h1 h2 h3 h4 h5 h6 h7 h8 h9 hl
    go_enter Tryd.func23, Tryd.ntmps23
    go_wp2_with fail
    all_goals
      go_ret
      exact ⟨by rw [HV.out]; rfl, (Below.refl _ w).alloc (Nat.le_refl _) _⟩
  all_goals
    subst h
    go_enter Tryd.func23, Tryd.ntmps23
    go_wp2_with fail
    all_goals
      go_ret
      refine ⟨?_, (Below.refl _ w).alloc (Nat.le_refl _) _⟩
      clear hb c0 c1 c2 c3 c4 c5
      show Ending.returned (Value.bool _) = Ending.returned (Value.bool _)
      congr 2
      rw [Bool.eq_iff_iff]
      simp_all [rightV, onlyV, OM.ov, strB, Lib.toList_data]
end Go.Proofs.YthhpcilinkebeaaDoor
/- ModelCodes: the law's drawn region. PRINTED by tools/regs_y.py. -/
namespace Go.Proofs.YthhpcilinkebeaaDoor
open Go.RowKit
set_option maxHeartbeats 4000000
set_option maxRecDepth 100000

theorem blk_cells {w : World} {X : Nat} {t : TypeId} {cs : List Value} (h : Blk w X t cs.toArray) : ∀ j v, cs[j]? = some v → w.cell? ((⟨X, 0, none⟩ : Addr).add j) = some v := fun j v hv => by
  have e : (⟨X, 0, none⟩ : Addr).add j = ⟨X, j, none⟩ := by
    by_cases h0 : j = 0
    · subst h0; rfl
    · simp [Addr.add, h0]
  rw [e, h.cell j]
  simpa using hv
section
variable {P : Program} {ρ : Operand → Value} {d : Option Tmp} {ty : TypeId} {pos : String} {af : Array Edge} {g : Option (Nat × Bool)} {w : World}
theorem run_eqls_op {t r : TypeId} {x y : Operand} {s : ByteArray} (hx : ρ x = .string s) (hy : ρ y = .string s) : (execOp ρ ⟨d, .binOp .eql t x y r, ty, pos, af, g⟩).run P w = .ok (.value (.bool true)) w := by
  simp only [execOp, hx, hy]
  simp [eqGuard, go_sem]
theorem run_pickT_op {c x y : Operand} {v : Value} (hc : ρ c = .bool true) (hx : ρ x = v) : (execOp ρ ⟨d, .pick c x y, ty, pos, af, g⟩).run P w = .ok (.value v) w := by
  simp [execOp, hc, hx, asBool, go_sem]
end
def opsMc : Array Oper := #[(⟨some 95, Op.load 33 (Operand.tmp 7), 33, "law.go:195", #[], none⟩ : Oper), (⟨some 96, Op.call { callee := Callee.value (Operand.func 23), args := #[Operand.tmp 95], argTypes := #[33] }, 4, "law.go:195", #[{ on := 0, ground := Ground.data }], none⟩ : Oper), (⟨some 97, Op.move (Operand.tmp 96), 4, "law.go:195", #[{ on := 1, ground := Ground.data }, { on := 1, ground := Ground.chain }], none⟩ : Oper), (⟨some 98, Op.load 33 (Operand.tmp 7), 33, "law.go:195", #[{ on := 2, ground := Ground.guard }], some (2, true)⟩ : Oper), (⟨some 99, Op.call { callee := Callee.value (Operand.func 37), args := #[Operand.tmp 98], argTypes := #[33] }, 31, "law.go:195", #[{ on := 3, ground := Ground.data }, { on := 2, ground := Ground.chain }, { on := 2, ground := Ground.guard }], some (2, true)⟩ : Oper), (⟨some 100, Op.convert 31 9 (Operand.tmp 99), 9, "law.go:195", #[{ on := 4, ground := Ground.data }, { on := 2, ground := Ground.guard }], some (2, true)⟩ : Oper), (⟨some 101, Op.move (Operand.tmp 1), 31, "law.go:195", #[{ on := 2, ground := Ground.guard }], some (2, true)⟩ : Oper), (⟨some 102, Op.convert 31 9 (Operand.tmp 101), 9, "law.go:195", #[{ on := 6, ground := Ground.data }, { on := 2, ground := Ground.guard }], some (2, true)⟩ : Oper), (⟨some 103, Op.binOp BinOp.eql 9 (Operand.tmp 100) (Operand.tmp 102) 9, 4, "law.go:195", #[{ on := 5, ground := Ground.data }, { on := 7, ground := Ground.data }, { on := 2, ground := Ground.guard }], some (2, true)⟩ : Oper), (⟨some 104, Op.pick (Operand.tmp 97) (Operand.tmp 103) (Operand.const (Value.bool false)), 4, "law.go:195", #[{ on := 2, ground := Ground.data }, { on := 8, ground := Ground.data }], none⟩ : Oper), (⟨some 4, Op.assign (Operand.tmp 104), 4, "law.go:195", #[{ on := 9, ground := Ground.data }, { on := 4, ground := Ground.chain }, { on := 0, ground := Ground.phase }, { on := 1, ground := Ground.phase }, { on := 2, ground := Ground.phase }, { on := 3, ground := Ground.phase }, { on := 4, ground := Ground.phase }, { on := 5, ground := Ground.phase }, { on := 6, ground := Ground.phase }, { on := 7, ground := Ground.phase }, { on := 8, ground := Ground.phase }, { on := 9, ground := Ground.phase }], none⟩ : Oper)]
def regMcR (_ : World) (_ : Nat) (o : OM) (Ab : Option Addr) (cb : Nat) (b : Bts) (i : Nat) (v : Value) (W : World) : Prop := match i with
  | 0 => v = .agg o.cells.toArray
  | 1 => v = .bool true
  | 2 => v = .bool true
  | 3 => v = .agg o.cells.toArray
  | 4 => ∃ (B : Option Addr) (c2 : Nat), v = .slice B (b).length c2 ∧ Rd W B (byts (b)) ∧ (b).length ≤ c2
  | 5 => v = .string (strV b)
  | 6 => v = .slice Ab b.length cb
  | 7 => v = .string (strV b)
  | 8 => v = .bool true
  | 9 => v = .bool true
  | 10 => v = .bool true
  | _ => True
theorem regMcK (W0 : World) (O7 : Nat) (o : OM) (Ab : Option Addr) (cb : Nat) (b : Bts) {W W' : World} (hb : Below W.heap.size W W') : Keeps (regMcR W0 O7 o Ab cb b) W W' := fun i v h => by
  match i, h with
  | 0, h => exact h
  | 1, h => exact h
  | 2, h => exact h
  | 3, h => exact h
  | 4, h => exact by obtain ⟨B, c2, h1, h2, h3⟩ := h; exact ⟨B, c2, h1, h2.below hb, h3⟩
  | 5, h => exact h
  | 6, h => exact h
  | 7, h => exact h
  | 8, h => exact h
  | 9, h => exact h
  | 10, h => exact h
  | n + 11, h => exact trivial
theorem regMc_0 {u0 u2 u3 u4 u5 u6 u8 u9 u10 u11 u12 u13 u14 u15 u16 u17 u18 u19 u20 u21 u22 u23 u24 u25 u26 u27 u28 u29 u30 u31 u32 u33 u34 u35 u36 u37 u38 u39 u40 u41 u42 u43 u44 u45 u46 u47 u48 u49 u50 u51 u52 u53 u54 u55 u56 u57 u58 u59 u60 u61 u62 u63 u64 u65 u66 u67 u68 u69 u70 u71 u72 u73 u74 u75 u76 u77 u78 u79 u80 u81 u82 u83 u84 u85 u86 u87 u88 u89 u90 u91 u92 u93 u94 u95 u96 u97 u98 u99 u100 u101 u102 u103 u104 : Value} {DD : List Deferred} (W0 : World) (O7 : Nat) (o : OM) (Ab : Option Addr) (cb : Nat) (b : Bts) (hO : Blk W0 O7 33 o.cells.toArray) (_ : o.ok W0) (_ : o.l.length ≤ 2097152) (_ : rightV o.ov = true) (_ : encV o.ov = b) (_ : Rd W0 Ab (byts b)) : ObR Tryd.prog opsMc ⟨#[u0, .slice Ab b.length cb, u2, u3, u4, u5, u6, .pointer (some ⟨O7, 0, none⟩), u8, u9, u10, u11, u12, u13, u14, u15, u16, u17, u18, u19, u20, u21, u22, u23, u24, u25, u26, u27, u28, u29, u30, u31, u32, u33, u34, u35, u36, u37, u38, u39, u40, u41, u42, u43, u44, u45, u46, u47, u48, u49, u50, u51, u52, u53, u54, u55, u56, u57, u58, u59, u60, u61, u62, u63, u64, u65, u66, u67, u68, u69, u70, u71, u72, u73, u74, u75, u76, u77, u78, u79, u80, u81, u82, u83, u84, u85, u86, u87, u88, u89, u90, u91, u92, u93, u94, u95, u96, u97, u98, u99, u100, u101, u102, u103, u104], DD⟩ (fun (_ : Nat → Bool) (W : World) => Below W0.heap.size W0 W) (regMcR W0 O7 o Ab cb b) 0 (⟨some 95, Op.load 33 (Operand.tmp 7), 33, "law.go:195", #[], none⟩ : Oper) := by
  intro done a w hun hpr hsh hS hout hpre
  have o7 := ev ((hout 7 (by kernel_rfl)).trans (show _ = some (.pointer (some ⟨O7, 0, none⟩)) from rfl))
  refine .inl ⟨by kernel_rfl, ?_⟩
  exact GivesR.same (run_loadS_op o.cells (by kernel_rfl) (by kernel_rfl) o7 (blk_cells (hO.below' hS))) hS rfl
theorem regMc_1 {u0 u2 u3 u4 u5 u6 u8 u9 u10 u11 u12 u13 u14 u15 u16 u17 u18 u19 u20 u21 u22 u23 u24 u25 u26 u27 u28 u29 u30 u31 u32 u33 u34 u35 u36 u37 u38 u39 u40 u41 u42 u43 u44 u45 u46 u47 u48 u49 u50 u51 u52 u53 u54 u55 u56 u57 u58 u59 u60 u61 u62 u63 u64 u65 u66 u67 u68 u69 u70 u71 u72 u73 u74 u75 u76 u77 u78 u79 u80 u81 u82 u83 u84 u85 u86 u87 u88 u89 u90 u91 u92 u93 u94 u95 u96 u97 u98 u99 u100 u101 u102 u103 u104 : Value} {DD : List Deferred} (W0 : World) (O7 : Nat) (o : OM) (Ab : Option Addr) (cb : Nat) (b : Bts) (_ : Blk W0 O7 33 o.cells.toArray) (_ : o.ok W0) (_ : o.l.length ≤ 2097152) (hri : rightV o.ov = true) (_ : encV o.ov = b) (_ : Rd W0 Ab (byts b)) : ObR Tryd.prog opsMc ⟨#[u0, .slice Ab b.length cb, u2, u3, u4, u5, u6, .pointer (some ⟨O7, 0, none⟩), u8, u9, u10, u11, u12, u13, u14, u15, u16, u17, u18, u19, u20, u21, u22, u23, u24, u25, u26, u27, u28, u29, u30, u31, u32, u33, u34, u35, u36, u37, u38, u39, u40, u41, u42, u43, u44, u45, u46, u47, u48, u49, u50, u51, u52, u53, u54, u55, u56, u57, u58, u59, u60, u61, u62, u63, u64, u65, u66, u67, u68, u69, u70, u71, u72, u73, u74, u75, u76, u77, u78, u79, u80, u81, u82, u83, u84, u85, u86, u87, u88, u89, u90, u91, u92, u93, u94, u95, u96, u97, u98, u99, u100, u101, u102, u103, u104], DD⟩ (fun (_ : Nat → Bool) (W : World) => Below W0.heap.size W0 W) (regMcR W0 O7 o Ab cb b) 1 (⟨some 96, Op.call { callee := Callee.value (Operand.func 23), args := #[Operand.tmp 95], argTypes := #[33] }, 4, "law.go:195", #[{ on := 0, ground := Ground.data }], none⟩ : Oper) := by
  intro done a w hun hpr hsh hS hout hpre
  obtain ⟨v0, e0, r0⟩ := hpre ⟨0, Ground.data⟩ (by simp) rfl (⟨some 95, Op.load 33 (Operand.tmp 7), 33, "law.go:195", #[], none⟩ : Oper) 95 rfl rfl
  replace e0 := ev e0
  change regMcR W0 O7 o Ab cb b 0 v0 w at r0
  simp only [regMcR] at r0
  refine .inl ⟨by kernel_rfl, ?_⟩
  subst r0
  refine GivesR.call (run_call_op (vs := #[o.val]) (by simp [e0]; rfl) rfl (by kernel_rfl)) ((refRight_any o w).mono ?_)
  rintro e w2 ⟨rfl, h6⟩
  exact ⟨_, rfl, hS.trans (h6.mono hS.size), regMcK _ _ _ _ _ _ h6, by show _ = _; rw [hri]⟩
theorem regMc_2 {u0 u2 u3 u4 u5 u6 u8 u9 u10 u11 u12 u13 u14 u15 u16 u17 u18 u19 u20 u21 u22 u23 u24 u25 u26 u27 u28 u29 u30 u31 u32 u33 u34 u35 u36 u37 u38 u39 u40 u41 u42 u43 u44 u45 u46 u47 u48 u49 u50 u51 u52 u53 u54 u55 u56 u57 u58 u59 u60 u61 u62 u63 u64 u65 u66 u67 u68 u69 u70 u71 u72 u73 u74 u75 u76 u77 u78 u79 u80 u81 u82 u83 u84 u85 u86 u87 u88 u89 u90 u91 u92 u93 u94 u95 u96 u97 u98 u99 u100 u101 u102 u103 u104 : Value} {DD : List Deferred} (W0 : World) (O7 : Nat) (o : OM) (Ab : Option Addr) (cb : Nat) (b : Bts) (_ : Blk W0 O7 33 o.cells.toArray) (_ : o.ok W0) (_ : o.l.length ≤ 2097152) (_ : rightV o.ov = true) (_ : encV o.ov = b) (_ : Rd W0 Ab (byts b)) : ObR Tryd.prog opsMc ⟨#[u0, .slice Ab b.length cb, u2, u3, u4, u5, u6, .pointer (some ⟨O7, 0, none⟩), u8, u9, u10, u11, u12, u13, u14, u15, u16, u17, u18, u19, u20, u21, u22, u23, u24, u25, u26, u27, u28, u29, u30, u31, u32, u33, u34, u35, u36, u37, u38, u39, u40, u41, u42, u43, u44, u45, u46, u47, u48, u49, u50, u51, u52, u53, u54, u55, u56, u57, u58, u59, u60, u61, u62, u63, u64, u65, u66, u67, u68, u69, u70, u71, u72, u73, u74, u75, u76, u77, u78, u79, u80, u81, u82, u83, u84, u85, u86, u87, u88, u89, u90, u91, u92, u93, u94, u95, u96, u97, u98, u99, u100, u101, u102, u103, u104], DD⟩ (fun (_ : Nat → Bool) (W : World) => Below W0.heap.size W0 W) (regMcR W0 O7 o Ab cb b) 2 (⟨some 97, Op.move (Operand.tmp 96), 4, "law.go:195", #[{ on := 1, ground := Ground.data }, { on := 1, ground := Ground.chain }], none⟩ : Oper) := by
  intro done a w hun hpr hsh hS hout hpre
  obtain ⟨v1, e1, r1⟩ := hpre ⟨1, Ground.data⟩ (by simp) rfl (⟨some 96, Op.call { callee := Callee.value (Operand.func 23), args := #[Operand.tmp 95], argTypes := #[33] }, 4, "law.go:195", #[{ on := 0, ground := Ground.data }], none⟩ : Oper) 96 rfl rfl
  replace e1 := ev e1
  change regMcR W0 O7 o Ab cb b 1 v1 w at r1
  simp only [regMcR] at r1
  refine .inl ⟨by kernel_rfl, ?_⟩
  subst r1
  exact GivesR.same (run_move_op e1) hS rfl
theorem regMc_3 {u0 u2 u3 u4 u5 u6 u8 u9 u10 u11 u12 u13 u14 u15 u16 u17 u18 u19 u20 u21 u22 u23 u24 u25 u26 u27 u28 u29 u30 u31 u32 u33 u34 u35 u36 u37 u38 u39 u40 u41 u42 u43 u44 u45 u46 u47 u48 u49 u50 u51 u52 u53 u54 u55 u56 u57 u58 u59 u60 u61 u62 u63 u64 u65 u66 u67 u68 u69 u70 u71 u72 u73 u74 u75 u76 u77 u78 u79 u80 u81 u82 u83 u84 u85 u86 u87 u88 u89 u90 u91 u92 u93 u94 u95 u96 u97 u98 u99 u100 u101 u102 u103 u104 : Value} {DD : List Deferred} (W0 : World) (O7 : Nat) (o : OM) (Ab : Option Addr) (cb : Nat) (b : Bts) (hO : Blk W0 O7 33 o.cells.toArray) (_ : o.ok W0) (_ : o.l.length ≤ 2097152) (_ : rightV o.ov = true) (_ : encV o.ov = b) (_ : Rd W0 Ab (byts b)) : ObR Tryd.prog opsMc ⟨#[u0, .slice Ab b.length cb, u2, u3, u4, u5, u6, .pointer (some ⟨O7, 0, none⟩), u8, u9, u10, u11, u12, u13, u14, u15, u16, u17, u18, u19, u20, u21, u22, u23, u24, u25, u26, u27, u28, u29, u30, u31, u32, u33, u34, u35, u36, u37, u38, u39, u40, u41, u42, u43, u44, u45, u46, u47, u48, u49, u50, u51, u52, u53, u54, u55, u56, u57, u58, u59, u60, u61, u62, u63, u64, u65, u66, u67, u68, u69, u70, u71, u72, u73, u74, u75, u76, u77, u78, u79, u80, u81, u82, u83, u84, u85, u86, u87, u88, u89, u90, u91, u92, u93, u94, u95, u96, u97, u98, u99, u100, u101, u102, u103, u104], DD⟩ (fun (_ : Nat → Bool) (W : World) => Below W0.heap.size W0 W) (regMcR W0 O7 o Ab cb b) 3 (⟨some 98, Op.load 33 (Operand.tmp 7), 33, "law.go:195", #[{ on := 2, ground := Ground.guard }], some (2, true)⟩ : Oper) := by
  intro done a w hun hpr hsh hS hout hpre
  have o7 := ev ((hout 7 (by kernel_rfl)).trans (show _ = some (.pointer (some ⟨O7, 0, none⟩)) from rfl))
  obtain ⟨vg, eg, rg⟩ := hpre ⟨2, Ground.guard⟩ (by simp) rfl (⟨some 97, Op.move (Operand.tmp 96), 4, "law.go:195", #[{ on := 1, ground := Ground.data }, { on := 1, ground := Ground.chain }], none⟩ : Oper) 97 rfl rfl
  change regMcR W0 O7 o Ab cb b 2 vg w at rg
  simp only [regMcR] at rg
  subst rg
  refine .inl ⟨by show (yielded opsMc a.tmps 2 == some true) = true; unfold yielded; rw [show ((opsMc[2]?).bind (·.dst)).bind (a.tmps[·]?) = a.tmps[(97 : Nat)]? from rfl, eg]; rfl, ?_⟩
  exact GivesR.same (run_loadS_op o.cells (by kernel_rfl) (by kernel_rfl) o7 (blk_cells (hO.below' hS))) hS rfl
theorem regMc_4 {u0 u2 u3 u4 u5 u6 u8 u9 u10 u11 u12 u13 u14 u15 u16 u17 u18 u19 u20 u21 u22 u23 u24 u25 u26 u27 u28 u29 u30 u31 u32 u33 u34 u35 u36 u37 u38 u39 u40 u41 u42 u43 u44 u45 u46 u47 u48 u49 u50 u51 u52 u53 u54 u55 u56 u57 u58 u59 u60 u61 u62 u63 u64 u65 u66 u67 u68 u69 u70 u71 u72 u73 u74 u75 u76 u77 u78 u79 u80 u81 u82 u83 u84 u85 u86 u87 u88 u89 u90 u91 u92 u93 u94 u95 u96 u97 u98 u99 u100 u101 u102 u103 u104 : Value} {DD : List Deferred} (W0 : World) (O7 : Nat) (o : OM) (Ab : Option Addr) (cb : Nat) (b : Bts) (_ : Blk W0 O7 33 o.cells.toArray) (hok : o.ok W0) (hx : o.l.length ≤ 2097152) (_ : rightV o.ov = true) (hen : encV o.ov = b) (_ : Rd W0 Ab (byts b)) : ObR Tryd.prog opsMc ⟨#[u0, .slice Ab b.length cb, u2, u3, u4, u5, u6, .pointer (some ⟨O7, 0, none⟩), u8, u9, u10, u11, u12, u13, u14, u15, u16, u17, u18, u19, u20, u21, u22, u23, u24, u25, u26, u27, u28, u29, u30, u31, u32, u33, u34, u35, u36, u37, u38, u39, u40, u41, u42, u43, u44, u45, u46, u47, u48, u49, u50, u51, u52, u53, u54, u55, u56, u57, u58, u59, u60, u61, u62, u63, u64, u65, u66, u67, u68, u69, u70, u71, u72, u73, u74, u75, u76, u77, u78, u79, u80, u81, u82, u83, u84, u85, u86, u87, u88, u89, u90, u91, u92, u93, u94, u95, u96, u97, u98, u99, u100, u101, u102, u103, u104], DD⟩ (fun (_ : Nat → Bool) (W : World) => Below W0.heap.size W0 W) (regMcR W0 O7 o Ab cb b) 4 (⟨some 99, Op.call { callee := Callee.value (Operand.func 37), args := #[Operand.tmp 98], argTypes := #[33] }, 31, "law.go:195", #[{ on := 3, ground := Ground.data }, { on := 2, ground := Ground.chain }, { on := 2, ground := Ground.guard }], some (2, true)⟩ : Oper) := by
  intro done a w hun hpr hsh hS hout hpre
  obtain ⟨v3, e3, r3⟩ := hpre ⟨3, Ground.data⟩ (by simp) rfl (⟨some 98, Op.load 33 (Operand.tmp 7), 33, "law.go:195", #[{ on := 2, ground := Ground.guard }], some (2, true)⟩ : Oper) 98 rfl rfl
  replace e3 := ev e3
  change regMcR W0 O7 o Ab cb b 3 v3 w at r3
  simp only [regMcR] at r3
  obtain ⟨vg, eg, rg⟩ := hpre ⟨2, Ground.guard⟩ (by simp) rfl (⟨some 97, Op.move (Operand.tmp 96), 4, "law.go:195", #[{ on := 1, ground := Ground.data }, { on := 1, ground := Ground.chain }], none⟩ : Oper) 97 rfl rfl
  change regMcR W0 O7 o Ab cb b 2 vg w at rg
  simp only [regMcR] at rg
  subst rg
  refine .inl ⟨by show (yielded opsMc a.tmps 2 == some true) = true; unfold yielded; rw [show ((opsMc[2]?).bind (·.dst)).bind (a.tmps[·]?) = a.tmps[(97 : Nat)]? from rfl, eg]; rfl, ?_⟩
  subst r3
  have hcall := encode_any o w (hok.below hS) hok.name hok.dst hx
  refine GivesR.call (run_call_op (vs := #[o.val]) (by simp [e3]; rfl) rfl (by kernel_rfl)) (hcall.mono ?_)
  rintro e w2 ⟨A2, c3, rfl, h4, h5, h6⟩
  rw [hen] at h4 h5
  exact ⟨_, rfl, hS.trans (h6.mono hS.size), regMcK _ _ _ _ _ _ h6, A2, c3, by rw [hen], h4, h5⟩
theorem regMc_5 {u0 u2 u3 u4 u5 u6 u8 u9 u10 u11 u12 u13 u14 u15 u16 u17 u18 u19 u20 u21 u22 u23 u24 u25 u26 u27 u28 u29 u30 u31 u32 u33 u34 u35 u36 u37 u38 u39 u40 u41 u42 u43 u44 u45 u46 u47 u48 u49 u50 u51 u52 u53 u54 u55 u56 u57 u58 u59 u60 u61 u62 u63 u64 u65 u66 u67 u68 u69 u70 u71 u72 u73 u74 u75 u76 u77 u78 u79 u80 u81 u82 u83 u84 u85 u86 u87 u88 u89 u90 u91 u92 u93 u94 u95 u96 u97 u98 u99 u100 u101 u102 u103 u104 : Value} {DD : List Deferred} (W0 : World) (O7 : Nat) (o : OM) (Ab : Option Addr) (cb : Nat) (b : Bts) (_ : Blk W0 O7 33 o.cells.toArray) (_ : o.ok W0) (_ : o.l.length ≤ 2097152) (_ : rightV o.ov = true) (_ : encV o.ov = b) (_ : Rd W0 Ab (byts b)) : ObR Tryd.prog opsMc ⟨#[u0, .slice Ab b.length cb, u2, u3, u4, u5, u6, .pointer (some ⟨O7, 0, none⟩), u8, u9, u10, u11, u12, u13, u14, u15, u16, u17, u18, u19, u20, u21, u22, u23, u24, u25, u26, u27, u28, u29, u30, u31, u32, u33, u34, u35, u36, u37, u38, u39, u40, u41, u42, u43, u44, u45, u46, u47, u48, u49, u50, u51, u52, u53, u54, u55, u56, u57, u58, u59, u60, u61, u62, u63, u64, u65, u66, u67, u68, u69, u70, u71, u72, u73, u74, u75, u76, u77, u78, u79, u80, u81, u82, u83, u84, u85, u86, u87, u88, u89, u90, u91, u92, u93, u94, u95, u96, u97, u98, u99, u100, u101, u102, u103, u104], DD⟩ (fun (_ : Nat → Bool) (W : World) => Below W0.heap.size W0 W) (regMcR W0 O7 o Ab cb b) 5 (⟨some 100, Op.convert 31 9 (Operand.tmp 99), 9, "law.go:195", #[{ on := 4, ground := Ground.data }, { on := 2, ground := Ground.guard }], some (2, true)⟩ : Oper) := by
  intro done a w hun hpr hsh hS hout hpre
  obtain ⟨v4, e4, r4⟩ := hpre ⟨4, Ground.data⟩ (by simp) rfl (⟨some 99, Op.call { callee := Callee.value (Operand.func 37), args := #[Operand.tmp 98], argTypes := #[33] }, 31, "law.go:195", #[{ on := 3, ground := Ground.data }, { on := 2, ground := Ground.chain }, { on := 2, ground := Ground.guard }], some (2, true)⟩ : Oper) 99 rfl rfl
  replace e4 := ev e4
  change regMcR W0 O7 o Ab cb b 4 v4 w at r4
  simp only [regMcR] at r4
  obtain ⟨vg, eg, rg⟩ := hpre ⟨2, Ground.guard⟩ (by simp) rfl (⟨some 97, Op.move (Operand.tmp 96), 4, "law.go:195", #[{ on := 1, ground := Ground.data }, { on := 1, ground := Ground.chain }], none⟩ : Oper) 97 rfl rfl
  change regMcR W0 O7 o Ab cb b 2 vg w at rg
  simp only [regMcR] at rg
  subst rg
  refine .inl ⟨by show (yielded opsMc a.tmps 2 == some true) = true; unfold yielded; rw [show ((opsMc[2]?).bind (·.dst)).bind (a.tmps[·]?) = a.tmps[(97 : Nat)]? from rfl, eg]; rfl, ?_⟩
  obtain ⟨B, c2, rfl, h1, h2⟩ := r4
  exact GivesR.same (run_conv2_op e4 (conv_bytes w B c2 _ h1)) hS rfl
theorem regMc_6 {u0 u2 u3 u4 u5 u6 u8 u9 u10 u11 u12 u13 u14 u15 u16 u17 u18 u19 u20 u21 u22 u23 u24 u25 u26 u27 u28 u29 u30 u31 u32 u33 u34 u35 u36 u37 u38 u39 u40 u41 u42 u43 u44 u45 u46 u47 u48 u49 u50 u51 u52 u53 u54 u55 u56 u57 u58 u59 u60 u61 u62 u63 u64 u65 u66 u67 u68 u69 u70 u71 u72 u73 u74 u75 u76 u77 u78 u79 u80 u81 u82 u83 u84 u85 u86 u87 u88 u89 u90 u91 u92 u93 u94 u95 u96 u97 u98 u99 u100 u101 u102 u103 u104 : Value} {DD : List Deferred} (W0 : World) (O7 : Nat) (o : OM) (Ab : Option Addr) (cb : Nat) (b : Bts) (_ : Blk W0 O7 33 o.cells.toArray) (_ : o.ok W0) (_ : o.l.length ≤ 2097152) (_ : rightV o.ov = true) (_ : encV o.ov = b) (_ : Rd W0 Ab (byts b)) : ObR Tryd.prog opsMc ⟨#[u0, .slice Ab b.length cb, u2, u3, u4, u5, u6, .pointer (some ⟨O7, 0, none⟩), u8, u9, u10, u11, u12, u13, u14, u15, u16, u17, u18, u19, u20, u21, u22, u23, u24, u25, u26, u27, u28, u29, u30, u31, u32, u33, u34, u35, u36, u37, u38, u39, u40, u41, u42, u43, u44, u45, u46, u47, u48, u49, u50, u51, u52, u53, u54, u55, u56, u57, u58, u59, u60, u61, u62, u63, u64, u65, u66, u67, u68, u69, u70, u71, u72, u73, u74, u75, u76, u77, u78, u79, u80, u81, u82, u83, u84, u85, u86, u87, u88, u89, u90, u91, u92, u93, u94, u95, u96, u97, u98, u99, u100, u101, u102, u103, u104], DD⟩ (fun (_ : Nat → Bool) (W : World) => Below W0.heap.size W0 W) (regMcR W0 O7 o Ab cb b) 6 (⟨some 101, Op.move (Operand.tmp 1), 31, "law.go:195", #[{ on := 2, ground := Ground.guard }], some (2, true)⟩ : Oper) := by
  intro done a w hun hpr hsh hS hout hpre
  have o1 := ev ((hout 1 (by kernel_rfl)).trans (show _ = some (.slice Ab b.length cb) from rfl))
  obtain ⟨vg, eg, rg⟩ := hpre ⟨2, Ground.guard⟩ (by simp) rfl (⟨some 97, Op.move (Operand.tmp 96), 4, "law.go:195", #[{ on := 1, ground := Ground.data }, { on := 1, ground := Ground.chain }], none⟩ : Oper) 97 rfl rfl
  change regMcR W0 O7 o Ab cb b 2 vg w at rg
  simp only [regMcR] at rg
  subst rg
  refine .inl ⟨by show (yielded opsMc a.tmps 2 == some true) = true; unfold yielded; rw [show ((opsMc[2]?).bind (·.dst)).bind (a.tmps[·]?) = a.tmps[(97 : Nat)]? from rfl, eg]; rfl, ?_⟩
  exact GivesR.same (run_move_op o1) hS rfl
theorem regMc_7 {u0 u2 u3 u4 u5 u6 u8 u9 u10 u11 u12 u13 u14 u15 u16 u17 u18 u19 u20 u21 u22 u23 u24 u25 u26 u27 u28 u29 u30 u31 u32 u33 u34 u35 u36 u37 u38 u39 u40 u41 u42 u43 u44 u45 u46 u47 u48 u49 u50 u51 u52 u53 u54 u55 u56 u57 u58 u59 u60 u61 u62 u63 u64 u65 u66 u67 u68 u69 u70 u71 u72 u73 u74 u75 u76 u77 u78 u79 u80 u81 u82 u83 u84 u85 u86 u87 u88 u89 u90 u91 u92 u93 u94 u95 u96 u97 u98 u99 u100 u101 u102 u103 u104 : Value} {DD : List Deferred} (W0 : World) (O7 : Nat) (o : OM) (Ab : Option Addr) (cb : Nat) (b : Bts) (_ : Blk W0 O7 33 o.cells.toArray) (_ : o.ok W0) (_ : o.l.length ≤ 2097152) (_ : rightV o.ov = true) (_ : encV o.ov = b) (hrb : Rd W0 Ab (byts b)) : ObR Tryd.prog opsMc ⟨#[u0, .slice Ab b.length cb, u2, u3, u4, u5, u6, .pointer (some ⟨O7, 0, none⟩), u8, u9, u10, u11, u12, u13, u14, u15, u16, u17, u18, u19, u20, u21, u22, u23, u24, u25, u26, u27, u28, u29, u30, u31, u32, u33, u34, u35, u36, u37, u38, u39, u40, u41, u42, u43, u44, u45, u46, u47, u48, u49, u50, u51, u52, u53, u54, u55, u56, u57, u58, u59, u60, u61, u62, u63, u64, u65, u66, u67, u68, u69, u70, u71, u72, u73, u74, u75, u76, u77, u78, u79, u80, u81, u82, u83, u84, u85, u86, u87, u88, u89, u90, u91, u92, u93, u94, u95, u96, u97, u98, u99, u100, u101, u102, u103, u104], DD⟩ (fun (_ : Nat → Bool) (W : World) => Below W0.heap.size W0 W) (regMcR W0 O7 o Ab cb b) 7 (⟨some 102, Op.convert 31 9 (Operand.tmp 101), 9, "law.go:195", #[{ on := 6, ground := Ground.data }, { on := 2, ground := Ground.guard }], some (2, true)⟩ : Oper) := by
  intro done a w hun hpr hsh hS hout hpre
  obtain ⟨v6, e6, r6⟩ := hpre ⟨6, Ground.data⟩ (by simp) rfl (⟨some 101, Op.move (Operand.tmp 1), 31, "law.go:195", #[{ on := 2, ground := Ground.guard }], some (2, true)⟩ : Oper) 101 rfl rfl
  replace e6 := ev e6
  change regMcR W0 O7 o Ab cb b 6 v6 w at r6
  simp only [regMcR] at r6
  obtain ⟨vg, eg, rg⟩ := hpre ⟨2, Ground.guard⟩ (by simp) rfl (⟨some 97, Op.move (Operand.tmp 96), 4, "law.go:195", #[{ on := 1, ground := Ground.data }, { on := 1, ground := Ground.chain }], none⟩ : Oper) 97 rfl rfl
  change regMcR W0 O7 o Ab cb b 2 vg w at rg
  simp only [regMcR] at rg
  subst rg
  refine .inl ⟨by show (yielded opsMc a.tmps 2 == some true) = true; unfold yielded; rw [show ((opsMc[2]?).bind (·.dst)).bind (a.tmps[·]?) = a.tmps[(97 : Nat)]? from rfl, eg]; rfl, ?_⟩
  subst r6
  exact GivesR.same (run_conv2_op e6 (conv_bytes w Ab cb _ (hrb.below hS))) hS rfl
theorem regMc_8 {u0 u2 u3 u4 u5 u6 u8 u9 u10 u11 u12 u13 u14 u15 u16 u17 u18 u19 u20 u21 u22 u23 u24 u25 u26 u27 u28 u29 u30 u31 u32 u33 u34 u35 u36 u37 u38 u39 u40 u41 u42 u43 u44 u45 u46 u47 u48 u49 u50 u51 u52 u53 u54 u55 u56 u57 u58 u59 u60 u61 u62 u63 u64 u65 u66 u67 u68 u69 u70 u71 u72 u73 u74 u75 u76 u77 u78 u79 u80 u81 u82 u83 u84 u85 u86 u87 u88 u89 u90 u91 u92 u93 u94 u95 u96 u97 u98 u99 u100 u101 u102 u103 u104 : Value} {DD : List Deferred} (W0 : World) (O7 : Nat) (o : OM) (Ab : Option Addr) (cb : Nat) (b : Bts) (_ : Blk W0 O7 33 o.cells.toArray) (_ : o.ok W0) (_ : o.l.length ≤ 2097152) (_ : rightV o.ov = true) (_ : encV o.ov = b) (_ : Rd W0 Ab (byts b)) : ObR Tryd.prog opsMc ⟨#[u0, .slice Ab b.length cb, u2, u3, u4, u5, u6, .pointer (some ⟨O7, 0, none⟩), u8, u9, u10, u11, u12, u13, u14, u15, u16, u17, u18, u19, u20, u21, u22, u23, u24, u25, u26, u27, u28, u29, u30, u31, u32, u33, u34, u35, u36, u37, u38, u39, u40, u41, u42, u43, u44, u45, u46, u47, u48, u49, u50, u51, u52, u53, u54, u55, u56, u57, u58, u59, u60, u61, u62, u63, u64, u65, u66, u67, u68, u69, u70, u71, u72, u73, u74, u75, u76, u77, u78, u79, u80, u81, u82, u83, u84, u85, u86, u87, u88, u89, u90, u91, u92, u93, u94, u95, u96, u97, u98, u99, u100, u101, u102, u103, u104], DD⟩ (fun (_ : Nat → Bool) (W : World) => Below W0.heap.size W0 W) (regMcR W0 O7 o Ab cb b) 8 (⟨some 103, Op.binOp BinOp.eql 9 (Operand.tmp 100) (Operand.tmp 102) 9, 4, "law.go:195", #[{ on := 5, ground := Ground.data }, { on := 7, ground := Ground.data }, { on := 2, ground := Ground.guard }], some (2, true)⟩ : Oper) := by
  intro done a w hun hpr hsh hS hout hpre
  obtain ⟨v5, e5, r5⟩ := hpre ⟨5, Ground.data⟩ (by simp) rfl (⟨some 100, Op.convert 31 9 (Operand.tmp 99), 9, "law.go:195", #[{ on := 4, ground := Ground.data }, { on := 2, ground := Ground.guard }], some (2, true)⟩ : Oper) 100 rfl rfl
  replace e5 := ev e5
  change regMcR W0 O7 o Ab cb b 5 v5 w at r5
  simp only [regMcR] at r5
  obtain ⟨v7, e7, r7⟩ := hpre ⟨7, Ground.data⟩ (by simp) rfl (⟨some 102, Op.convert 31 9 (Operand.tmp 101), 9, "law.go:195", #[{ on := 6, ground := Ground.data }, { on := 2, ground := Ground.guard }], some (2, true)⟩ : Oper) 102 rfl rfl
  replace e7 := ev e7
  change regMcR W0 O7 o Ab cb b 7 v7 w at r7
  simp only [regMcR] at r7
  obtain ⟨vg, eg, rg⟩ := hpre ⟨2, Ground.guard⟩ (by simp) rfl (⟨some 97, Op.move (Operand.tmp 96), 4, "law.go:195", #[{ on := 1, ground := Ground.data }, { on := 1, ground := Ground.chain }], none⟩ : Oper) 97 rfl rfl
  change regMcR W0 O7 o Ab cb b 2 vg w at rg
  simp only [regMcR] at rg
  subst rg
  refine .inl ⟨by show (yielded opsMc a.tmps 2 == some true) = true; unfold yielded; rw [show ((opsMc[2]?).bind (·.dst)).bind (a.tmps[·]?) = a.tmps[(97 : Nat)]? from rfl, eg]; rfl, ?_⟩
  subst r5
  subst r7
  exact GivesR.same (run_eqls_op e5 e7) hS rfl
theorem regMc_9 {u0 u2 u3 u4 u5 u6 u8 u9 u10 u11 u12 u13 u14 u15 u16 u17 u18 u19 u20 u21 u22 u23 u24 u25 u26 u27 u28 u29 u30 u31 u32 u33 u34 u35 u36 u37 u38 u39 u40 u41 u42 u43 u44 u45 u46 u47 u48 u49 u50 u51 u52 u53 u54 u55 u56 u57 u58 u59 u60 u61 u62 u63 u64 u65 u66 u67 u68 u69 u70 u71 u72 u73 u74 u75 u76 u77 u78 u79 u80 u81 u82 u83 u84 u85 u86 u87 u88 u89 u90 u91 u92 u93 u94 u95 u96 u97 u98 u99 u100 u101 u102 u103 u104 : Value} {DD : List Deferred} (W0 : World) (O7 : Nat) (o : OM) (Ab : Option Addr) (cb : Nat) (b : Bts) (_ : Blk W0 O7 33 o.cells.toArray) (_ : o.ok W0) (_ : o.l.length ≤ 2097152) (_ : rightV o.ov = true) (_ : encV o.ov = b) (_ : Rd W0 Ab (byts b)) : ObR Tryd.prog opsMc ⟨#[u0, .slice Ab b.length cb, u2, u3, u4, u5, u6, .pointer (some ⟨O7, 0, none⟩), u8, u9, u10, u11, u12, u13, u14, u15, u16, u17, u18, u19, u20, u21, u22, u23, u24, u25, u26, u27, u28, u29, u30, u31, u32, u33, u34, u35, u36, u37, u38, u39, u40, u41, u42, u43, u44, u45, u46, u47, u48, u49, u50, u51, u52, u53, u54, u55, u56, u57, u58, u59, u60, u61, u62, u63, u64, u65, u66, u67, u68, u69, u70, u71, u72, u73, u74, u75, u76, u77, u78, u79, u80, u81, u82, u83, u84, u85, u86, u87, u88, u89, u90, u91, u92, u93, u94, u95, u96, u97, u98, u99, u100, u101, u102, u103, u104], DD⟩ (fun (_ : Nat → Bool) (W : World) => Below W0.heap.size W0 W) (regMcR W0 O7 o Ab cb b) 9 (⟨some 104, Op.pick (Operand.tmp 97) (Operand.tmp 103) (Operand.const (Value.bool false)), 4, "law.go:195", #[{ on := 2, ground := Ground.data }, { on := 8, ground := Ground.data }], none⟩ : Oper) := by
  intro done a w hun hpr hsh hS hout hpre
  obtain ⟨v2, e2, r2⟩ := hpre ⟨2, Ground.data⟩ (by simp) rfl (⟨some 97, Op.move (Operand.tmp 96), 4, "law.go:195", #[{ on := 1, ground := Ground.data }, { on := 1, ground := Ground.chain }], none⟩ : Oper) 97 rfl rfl
  replace e2 := ev e2
  change regMcR W0 O7 o Ab cb b 2 v2 w at r2
  simp only [regMcR] at r2
  obtain ⟨v8, e8, r8⟩ := hpre ⟨8, Ground.data⟩ (by simp) rfl (⟨some 103, Op.binOp BinOp.eql 9 (Operand.tmp 100) (Operand.tmp 102) 9, 4, "law.go:195", #[{ on := 5, ground := Ground.data }, { on := 7, ground := Ground.data }, { on := 2, ground := Ground.guard }], some (2, true)⟩ : Oper) 103 rfl rfl
  replace e8 := ev e8
  change regMcR W0 O7 o Ab cb b 8 v8 w at r8
  simp only [regMcR] at r8
  refine .inl ⟨by kernel_rfl, ?_⟩
  subst r2
  subst r8
  exact GivesR.same (run_pickT_op e2 e8) hS rfl
theorem regMc_10 {u0 u2 u3 u4 u5 u6 u8 u9 u10 u11 u12 u13 u14 u15 u16 u17 u18 u19 u20 u21 u22 u23 u24 u25 u26 u27 u28 u29 u30 u31 u32 u33 u34 u35 u36 u37 u38 u39 u40 u41 u42 u43 u44 u45 u46 u47 u48 u49 u50 u51 u52 u53 u54 u55 u56 u57 u58 u59 u60 u61 u62 u63 u64 u65 u66 u67 u68 u69 u70 u71 u72 u73 u74 u75 u76 u77 u78 u79 u80 u81 u82 u83 u84 u85 u86 u87 u88 u89 u90 u91 u92 u93 u94 u95 u96 u97 u98 u99 u100 u101 u102 u103 u104 : Value} {DD : List Deferred} (W0 : World) (O7 : Nat) (o : OM) (Ab : Option Addr) (cb : Nat) (b : Bts) (_ : Blk W0 O7 33 o.cells.toArray) (_ : o.ok W0) (_ : o.l.length ≤ 2097152) (_ : rightV o.ov = true) (_ : encV o.ov = b) (_ : Rd W0 Ab (byts b)) : ObR Tryd.prog opsMc ⟨#[u0, .slice Ab b.length cb, u2, u3, u4, u5, u6, .pointer (some ⟨O7, 0, none⟩), u8, u9, u10, u11, u12, u13, u14, u15, u16, u17, u18, u19, u20, u21, u22, u23, u24, u25, u26, u27, u28, u29, u30, u31, u32, u33, u34, u35, u36, u37, u38, u39, u40, u41, u42, u43, u44, u45, u46, u47, u48, u49, u50, u51, u52, u53, u54, u55, u56, u57, u58, u59, u60, u61, u62, u63, u64, u65, u66, u67, u68, u69, u70, u71, u72, u73, u74, u75, u76, u77, u78, u79, u80, u81, u82, u83, u84, u85, u86, u87, u88, u89, u90, u91, u92, u93, u94, u95, u96, u97, u98, u99, u100, u101, u102, u103, u104], DD⟩ (fun (_ : Nat → Bool) (W : World) => Below W0.heap.size W0 W) (regMcR W0 O7 o Ab cb b) 10 (⟨some 4, Op.assign (Operand.tmp 104), 4, "law.go:195", #[{ on := 9, ground := Ground.data }, { on := 4, ground := Ground.chain }, { on := 0, ground := Ground.phase }, { on := 1, ground := Ground.phase }, { on := 2, ground := Ground.phase }, { on := 3, ground := Ground.phase }, { on := 4, ground := Ground.phase }, { on := 5, ground := Ground.phase }, { on := 6, ground := Ground.phase }, { on := 7, ground := Ground.phase }, { on := 8, ground := Ground.phase }, { on := 9, ground := Ground.phase }], none⟩ : Oper) := by
  intro done a w hun hpr hsh hS hout hpre
  obtain ⟨v9, e9, r9⟩ := hpre ⟨9, Ground.data⟩ (by simp) rfl (⟨some 104, Op.pick (Operand.tmp 97) (Operand.tmp 103) (Operand.const (Value.bool false)), 4, "law.go:195", #[{ on := 2, ground := Ground.data }, { on := 8, ground := Ground.data }], none⟩ : Oper) 104 rfl rfl
  replace e9 := ev e9
  change regMcR W0 O7 o Ab cb b 9 v9 w at r9
  simp only [regMcR] at r9
  refine .inl ⟨by kernel_rfl, ?_⟩
  subst r9
  exact GivesR.same (run_assign_op e9) hS rfl
theorem regMc {u0 u2 u3 u4 u5 u6 u8 u9 u10 u11 u12 u13 u14 u15 u16 u17 u18 u19 u20 u21 u22 u23 u24 u25 u26 u27 u28 u29 u30 u31 u32 u33 u34 u35 u36 u37 u38 u39 u40 u41 u42 u43 u44 u45 u46 u47 u48 u49 u50 u51 u52 u53 u54 u55 u56 u57 u58 u59 u60 u61 u62 u63 u64 u65 u66 u67 u68 u69 u70 u71 u72 u73 u74 u75 u76 u77 u78 u79 u80 u81 u82 u83 u84 u85 u86 u87 u88 u89 u90 u91 u92 u93 u94 u95 u96 u97 u98 u99 u100 u101 u102 u103 u104 : Value} {DD : List Deferred} (W0 : World) (O7 : Nat) (o : OM) (Ab : Option Addr) (cb : Nat) (b : Bts) (hO : Blk W0 O7 33 o.cells.toArray) (hok : o.ok W0) (hx : o.l.length ≤ 2097152) (hri : rightV o.ov = true) (hen : encV o.ov = b) (hrb : Rd W0 Ab (byts b)) {Q : Exit → Act → World → Prop} {w : World} (hS : (fun (_ : Nat → Bool) (W : World) => Below W0.heap.size W0 W) (fun _ => false) w.drew)
    (hend : ∀ (v : Nat → Value) (w2 : World), (fun (_ : Nat → Bool) (W : World) => Below W0.heap.size W0 W) (fun k => decide (k < 11)) w2 → (∀ i, i < 11 → regMcR W0 O7 o Ab cb b i (v i) w2) → Q .normal ⟨#[u0, .slice Ab b.length cb, u2, u3, v 10, u5, u6, .pointer (some ⟨O7, 0, none⟩), u8, u9, u10, u11, u12, u13, u14, u15, u16, u17, u18, u19, u20, u21, u22, u23, u24, u25, u26, u27, u28, u29, u30, u31, u32, u33, u34, u35, u36, u37, u38, u39, u40, u41, u42, u43, u44, u45, u46, u47, u48, u49, u50, u51, u52, u53, u54, u55, u56, u57, u58, u59, u60, u61, u62, u63, u64, u65, u66, u67, u68, u69, u70, u71, u72, u73, u74, u75, u76, u77, u78, u79, u80, u81, u82, u83, u84, u85, u86, u87, u88, u89, u90, u91, u92, u93, u94, v 0, v 1, v 2, v 3, v 4, v 5, v 6, v 7, v 8, v 9], DD⟩ w2) :
    (Code.region 12 opsMc true).wp Tryd.prog Q ⟨#[u0, .slice Ab b.length cb, u2, u3, u4, u5, u6, .pointer (some ⟨O7, 0, none⟩), u8, u9, u10, u11, u12, u13, u14, u15, u16, u17, u18, u19, u20, u21, u22, u23, u24, u25, u26, u27, u28, u29, u30, u31, u32, u33, u34, u35, u36, u37, u38, u39, u40, u41, u42, u43, u44, u45, u46, u47, u48, u49, u50, u51, u52, u53, u54, u55, u56, u57, u58, u59, u60, u61, u62, u63, u64, u65, u66, u67, u68, u69, u70, u71, u72, u73, u74, u75, u76, u77, u78, u79, u80, u81, u82, u83, u84, u85, u86, u87, u88, u89, u90, u91, u92, u93, u94, u95, u96, u97, u98, u99, u100, u101, u102, u103, u104], DD⟩ w := by
  refine wp_region_flow (S := fun (_ : Nat → Bool) (W : World) => Below W0.heap.size W0 W) (R := regMcR W0 O7 o Ab cb b) (by kernel_rfl) (by kernel_rfl) hS ?_ ?_
  · intro i o hi
    match i, hi with
    | 0, hi => injection hi with hi; subst hi; exact regMc_0 (u0 := u0) (u2 := u2) (u3 := u3) (u4 := u4) (u5 := u5) (u6 := u6) (u8 := u8) (u9 := u9) (u10 := u10) (u11 := u11) (u12 := u12) (u13 := u13) (u14 := u14) (u15 := u15) (u16 := u16) (u17 := u17) (u18 := u18) (u19 := u19) (u20 := u20) (u21 := u21) (u22 := u22) (u23 := u23) (u24 := u24) (u25 := u25) (u26 := u26) (u27 := u27) (u28 := u28) (u29 := u29) (u30 := u30) (u31 := u31) (u32 := u32) (u33 := u33) (u34 := u34) (u35 := u35) (u36 := u36) (u37 := u37) (u38 := u38) (u39 := u39) (u40 := u40) (u41 := u41) (u42 := u42) (u43 := u43) (u44 := u44) (u45 := u45) (u46 := u46) (u47 := u47) (u48 := u48) (u49 := u49) (u50 := u50) (u51 := u51) (u52 := u52) (u53 := u53) (u54 := u54) (u55 := u55) (u56 := u56) (u57 := u57) (u58 := u58) (u59 := u59) (u60 := u60) (u61 := u61) (u62 := u62) (u63 := u63) (u64 := u64) (u65 := u65) (u66 := u66) (u67 := u67) (u68 := u68) (u69 := u69) (u70 := u70) (u71 := u71) (u72 := u72) (u73 := u73) (u74 := u74) (u75 := u75) (u76 := u76) (u77 := u77) (u78 := u78) (u79 := u79) (u80 := u80) (u81 := u81) (u82 := u82) (u83 := u83) (u84 := u84) (u85 := u85) (u86 := u86) (u87 := u87) (u88 := u88) (u89 := u89) (u90 := u90) (u91 := u91) (u92 := u92) (u93 := u93) (u94 := u94) (u95 := u95) (u96 := u96) (u97 := u97) (u98 := u98) (u99 := u99) (u100 := u100) (u101 := u101) (u102 := u102) (u103 := u103) (u104 := u104) (DD := DD) W0 O7 o Ab cb b hO hok hx hri hen hrb
    | 1, hi => injection hi with hi; subst hi; exact regMc_1 (u0 := u0) (u2 := u2) (u3 := u3) (u4 := u4) (u5 := u5) (u6 := u6) (u8 := u8) (u9 := u9) (u10 := u10) (u11 := u11) (u12 := u12) (u13 := u13) (u14 := u14) (u15 := u15) (u16 := u16) (u17 := u17) (u18 := u18) (u19 := u19) (u20 := u20) (u21 := u21) (u22 := u22) (u23 := u23) (u24 := u24) (u25 := u25) (u26 := u26) (u27 := u27) (u28 := u28) (u29 := u29) (u30 := u30) (u31 := u31) (u32 := u32) (u33 := u33) (u34 := u34) (u35 := u35) (u36 := u36) (u37 := u37) (u38 := u38) (u39 := u39) (u40 := u40) (u41 := u41) (u42 := u42) (u43 := u43) (u44 := u44) (u45 := u45) (u46 := u46) (u47 := u47) (u48 := u48) (u49 := u49) (u50 := u50) (u51 := u51) (u52 := u52) (u53 := u53) (u54 := u54) (u55 := u55) (u56 := u56) (u57 := u57) (u58 := u58) (u59 := u59) (u60 := u60) (u61 := u61) (u62 := u62) (u63 := u63) (u64 := u64) (u65 := u65) (u66 := u66) (u67 := u67) (u68 := u68) (u69 := u69) (u70 := u70) (u71 := u71) (u72 := u72) (u73 := u73) (u74 := u74) (u75 := u75) (u76 := u76) (u77 := u77) (u78 := u78) (u79 := u79) (u80 := u80) (u81 := u81) (u82 := u82) (u83 := u83) (u84 := u84) (u85 := u85) (u86 := u86) (u87 := u87) (u88 := u88) (u89 := u89) (u90 := u90) (u91 := u91) (u92 := u92) (u93 := u93) (u94 := u94) (u95 := u95) (u96 := u96) (u97 := u97) (u98 := u98) (u99 := u99) (u100 := u100) (u101 := u101) (u102 := u102) (u103 := u103) (u104 := u104) (DD := DD) W0 O7 o Ab cb b hO hok hx hri hen hrb
    | 2, hi => injection hi with hi; subst hi; exact regMc_2 (u0 := u0) (u2 := u2) (u3 := u3) (u4 := u4) (u5 := u5) (u6 := u6) (u8 := u8) (u9 := u9) (u10 := u10) (u11 := u11) (u12 := u12) (u13 := u13) (u14 := u14) (u15 := u15) (u16 := u16) (u17 := u17) (u18 := u18) (u19 := u19) (u20 := u20) (u21 := u21) (u22 := u22) (u23 := u23) (u24 := u24) (u25 := u25) (u26 := u26) (u27 := u27) (u28 := u28) (u29 := u29) (u30 := u30) (u31 := u31) (u32 := u32) (u33 := u33) (u34 := u34) (u35 := u35) (u36 := u36) (u37 := u37) (u38 := u38) (u39 := u39) (u40 := u40) (u41 := u41) (u42 := u42) (u43 := u43) (u44 := u44) (u45 := u45) (u46 := u46) (u47 := u47) (u48 := u48) (u49 := u49) (u50 := u50) (u51 := u51) (u52 := u52) (u53 := u53) (u54 := u54) (u55 := u55) (u56 := u56) (u57 := u57) (u58 := u58) (u59 := u59) (u60 := u60) (u61 := u61) (u62 := u62) (u63 := u63) (u64 := u64) (u65 := u65) (u66 := u66) (u67 := u67) (u68 := u68) (u69 := u69) (u70 := u70) (u71 := u71) (u72 := u72) (u73 := u73) (u74 := u74) (u75 := u75) (u76 := u76) (u77 := u77) (u78 := u78) (u79 := u79) (u80 := u80) (u81 := u81) (u82 := u82) (u83 := u83) (u84 := u84) (u85 := u85) (u86 := u86) (u87 := u87) (u88 := u88) (u89 := u89) (u90 := u90) (u91 := u91) (u92 := u92) (u93 := u93) (u94 := u94) (u95 := u95) (u96 := u96) (u97 := u97) (u98 := u98) (u99 := u99) (u100 := u100) (u101 := u101) (u102 := u102) (u103 := u103) (u104 := u104) (DD := DD) W0 O7 o Ab cb b hO hok hx hri hen hrb
    | 3, hi => injection hi with hi; subst hi; exact regMc_3 (u0 := u0) (u2 := u2) (u3 := u3) (u4 := u4) (u5 := u5) (u6 := u6) (u8 := u8) (u9 := u9) (u10 := u10) (u11 := u11) (u12 := u12) (u13 := u13) (u14 := u14) (u15 := u15) (u16 := u16) (u17 := u17) (u18 := u18) (u19 := u19) (u20 := u20) (u21 := u21) (u22 := u22) (u23 := u23) (u24 := u24) (u25 := u25) (u26 := u26) (u27 := u27) (u28 := u28) (u29 := u29) (u30 := u30) (u31 := u31) (u32 := u32) (u33 := u33) (u34 := u34) (u35 := u35) (u36 := u36) (u37 := u37) (u38 := u38) (u39 := u39) (u40 := u40) (u41 := u41) (u42 := u42) (u43 := u43) (u44 := u44) (u45 := u45) (u46 := u46) (u47 := u47) (u48 := u48) (u49 := u49) (u50 := u50) (u51 := u51) (u52 := u52) (u53 := u53) (u54 := u54) (u55 := u55) (u56 := u56) (u57 := u57) (u58 := u58) (u59 := u59) (u60 := u60) (u61 := u61) (u62 := u62) (u63 := u63) (u64 := u64) (u65 := u65) (u66 := u66) (u67 := u67) (u68 := u68) (u69 := u69) (u70 := u70) (u71 := u71) (u72 := u72) (u73 := u73) (u74 := u74) (u75 := u75) (u76 := u76) (u77 := u77) (u78 := u78) (u79 := u79) (u80 := u80) (u81 := u81) (u82 := u82) (u83 := u83) (u84 := u84) (u85 := u85) (u86 := u86) (u87 := u87) (u88 := u88) (u89 := u89) (u90 := u90) (u91 := u91) (u92 := u92) (u93 := u93) (u94 := u94) (u95 := u95) (u96 := u96) (u97 := u97) (u98 := u98) (u99 := u99) (u100 := u100) (u101 := u101) (u102 := u102) (u103 := u103) (u104 := u104) (DD := DD) W0 O7 o Ab cb b hO hok hx hri hen hrb
    | 4, hi => injection hi with hi; subst hi; exact regMc_4 (u0 := u0) (u2 := u2) (u3 := u3) (u4 := u4) (u5 := u5) (u6 := u6) (u8 := u8) (u9 := u9) (u10 := u10) (u11 := u11) (u12 := u12) (u13 := u13) (u14 := u14) (u15 := u15) (u16 := u16) (u17 := u17) (u18 := u18) (u19 := u19) (u20 := u20) (u21 := u21) (u22 := u22) (u23 := u23) (u24 := u24) (u25 := u25) (u26 := u26) (u27 := u27) (u28 := u28) (u29 := u29) (u30 := u30) (u31 := u31) (u32 := u32) (u33 := u33) (u34 := u34) (u35 := u35) (u36 := u36) (u37 := u37) (u38 := u38) (u39 := u39) (u40 := u40) (u41 := u41) (u42 := u42) (u43 := u43) (u44 := u44) (u45 := u45) (u46 := u46) (u47 := u47) (u48 := u48) (u49 := u49) (u50 := u50) (u51 := u51) (u52 := u52) (u53 := u53) (u54 := u54) (u55 := u55) (u56 := u56) (u57 := u57) (u58 := u58) (u59 := u59) (u60 := u60) (u61 := u61) (u62 := u62) (u63 := u63) (u64 := u64) (u65 := u65) (u66 := u66) (u67 := u67) (u68 := u68) (u69 := u69) (u70 := u70) (u71 := u71) (u72 := u72) (u73 := u73) (u74 := u74) (u75 := u75) (u76 := u76) (u77 := u77) (u78 := u78) (u79 := u79) (u80 := u80) (u81 := u81) (u82 := u82) (u83 := u83) (u84 := u84) (u85 := u85) (u86 := u86) (u87 := u87) (u88 := u88) (u89 := u89) (u90 := u90) (u91 := u91) (u92 := u92) (u93 := u93) (u94 := u94) (u95 := u95) (u96 := u96) (u97 := u97) (u98 := u98) (u99 := u99) (u100 := u100) (u101 := u101) (u102 := u102) (u103 := u103) (u104 := u104) (DD := DD) W0 O7 o Ab cb b hO hok hx hri hen hrb
    | 5, hi => injection hi with hi; subst hi; exact regMc_5 (u0 := u0) (u2 := u2) (u3 := u3) (u4 := u4) (u5 := u5) (u6 := u6) (u8 := u8) (u9 := u9) (u10 := u10) (u11 := u11) (u12 := u12) (u13 := u13) (u14 := u14) (u15 := u15) (u16 := u16) (u17 := u17) (u18 := u18) (u19 := u19) (u20 := u20) (u21 := u21) (u22 := u22) (u23 := u23) (u24 := u24) (u25 := u25) (u26 := u26) (u27 := u27) (u28 := u28) (u29 := u29) (u30 := u30) (u31 := u31) (u32 := u32) (u33 := u33) (u34 := u34) (u35 := u35) (u36 := u36) (u37 := u37) (u38 := u38) (u39 := u39) (u40 := u40) (u41 := u41) (u42 := u42) (u43 := u43) (u44 := u44) (u45 := u45) (u46 := u46) (u47 := u47) (u48 := u48) (u49 := u49) (u50 := u50) (u51 := u51) (u52 := u52) (u53 := u53) (u54 := u54) (u55 := u55) (u56 := u56) (u57 := u57) (u58 := u58) (u59 := u59) (u60 := u60) (u61 := u61) (u62 := u62) (u63 := u63) (u64 := u64) (u65 := u65) (u66 := u66) (u67 := u67) (u68 := u68) (u69 := u69) (u70 := u70) (u71 := u71) (u72 := u72) (u73 := u73) (u74 := u74) (u75 := u75) (u76 := u76) (u77 := u77) (u78 := u78) (u79 := u79) (u80 := u80) (u81 := u81) (u82 := u82) (u83 := u83) (u84 := u84) (u85 := u85) (u86 := u86) (u87 := u87) (u88 := u88) (u89 := u89) (u90 := u90) (u91 := u91) (u92 := u92) (u93 := u93) (u94 := u94) (u95 := u95) (u96 := u96) (u97 := u97) (u98 := u98) (u99 := u99) (u100 := u100) (u101 := u101) (u102 := u102) (u103 := u103) (u104 := u104) (DD := DD) W0 O7 o Ab cb b hO hok hx hri hen hrb
    | 6, hi => injection hi with hi; subst hi; exact regMc_6 (u0 := u0) (u2 := u2) (u3 := u3) (u4 := u4) (u5 := u5) (u6 := u6) (u8 := u8) (u9 := u9) (u10 := u10) (u11 := u11) (u12 := u12) (u13 := u13) (u14 := u14) (u15 := u15) (u16 := u16) (u17 := u17) (u18 := u18) (u19 := u19) (u20 := u20) (u21 := u21) (u22 := u22) (u23 := u23) (u24 := u24) (u25 := u25) (u26 := u26) (u27 := u27) (u28 := u28) (u29 := u29) (u30 := u30) (u31 := u31) (u32 := u32) (u33 := u33) (u34 := u34) (u35 := u35) (u36 := u36) (u37 := u37) (u38 := u38) (u39 := u39) (u40 := u40) (u41 := u41) (u42 := u42) (u43 := u43) (u44 := u44) (u45 := u45) (u46 := u46) (u47 := u47) (u48 := u48) (u49 := u49) (u50 := u50) (u51 := u51) (u52 := u52) (u53 := u53) (u54 := u54) (u55 := u55) (u56 := u56) (u57 := u57) (u58 := u58) (u59 := u59) (u60 := u60) (u61 := u61) (u62 := u62) (u63 := u63) (u64 := u64) (u65 := u65) (u66 := u66) (u67 := u67) (u68 := u68) (u69 := u69) (u70 := u70) (u71 := u71) (u72 := u72) (u73 := u73) (u74 := u74) (u75 := u75) (u76 := u76) (u77 := u77) (u78 := u78) (u79 := u79) (u80 := u80) (u81 := u81) (u82 := u82) (u83 := u83) (u84 := u84) (u85 := u85) (u86 := u86) (u87 := u87) (u88 := u88) (u89 := u89) (u90 := u90) (u91 := u91) (u92 := u92) (u93 := u93) (u94 := u94) (u95 := u95) (u96 := u96) (u97 := u97) (u98 := u98) (u99 := u99) (u100 := u100) (u101 := u101) (u102 := u102) (u103 := u103) (u104 := u104) (DD := DD) W0 O7 o Ab cb b hO hok hx hri hen hrb
    | 7, hi => injection hi with hi; subst hi; exact regMc_7 (u0 := u0) (u2 := u2) (u3 := u3) (u4 := u4) (u5 := u5) (u6 := u6) (u8 := u8) (u9 := u9) (u10 := u10) (u11 := u11) (u12 := u12) (u13 := u13) (u14 := u14) (u15 := u15) (u16 := u16) (u17 := u17) (u18 := u18) (u19 := u19) (u20 := u20) (u21 := u21) (u22 := u22) (u23 := u23) (u24 := u24) (u25 := u25) (u26 := u26) (u27 := u27) (u28 := u28) (u29 := u29) (u30 := u30) (u31 := u31) (u32 := u32) (u33 := u33) (u34 := u34) (u35 := u35) (u36 := u36) (u37 := u37) (u38 := u38) (u39 := u39) (u40 := u40) (u41 := u41) (u42 := u42) (u43 := u43) (u44 := u44) (u45 := u45) (u46 := u46) (u47 := u47) (u48 := u48) (u49 := u49) (u50 := u50) (u51 := u51) (u52 := u52) (u53 := u53) (u54 := u54) (u55 := u55) (u56 := u56) (u57 := u57) (u58 := u58) (u59 := u59) (u60 := u60) (u61 := u61) (u62 := u62) (u63 := u63) (u64 := u64) (u65 := u65) (u66 := u66) (u67 := u67) (u68 := u68) (u69 := u69) (u70 := u70) (u71 := u71) (u72 := u72) (u73 := u73) (u74 := u74) (u75 := u75) (u76 := u76) (u77 := u77) (u78 := u78) (u79 := u79) (u80 := u80) (u81 := u81) (u82 := u82) (u83 := u83) (u84 := u84) (u85 := u85) (u86 := u86) (u87 := u87) (u88 := u88) (u89 := u89) (u90 := u90) (u91 := u91) (u92 := u92) (u93 := u93) (u94 := u94) (u95 := u95) (u96 := u96) (u97 := u97) (u98 := u98) (u99 := u99) (u100 := u100) (u101 := u101) (u102 := u102) (u103 := u103) (u104 := u104) (DD := DD) W0 O7 o Ab cb b hO hok hx hri hen hrb
    | 8, hi => injection hi with hi; subst hi; exact regMc_8 (u0 := u0) (u2 := u2) (u3 := u3) (u4 := u4) (u5 := u5) (u6 := u6) (u8 := u8) (u9 := u9) (u10 := u10) (u11 := u11) (u12 := u12) (u13 := u13) (u14 := u14) (u15 := u15) (u16 := u16) (u17 := u17) (u18 := u18) (u19 := u19) (u20 := u20) (u21 := u21) (u22 := u22) (u23 := u23) (u24 := u24) (u25 := u25) (u26 := u26) (u27 := u27) (u28 := u28) (u29 := u29) (u30 := u30) (u31 := u31) (u32 := u32) (u33 := u33) (u34 := u34) (u35 := u35) (u36 := u36) (u37 := u37) (u38 := u38) (u39 := u39) (u40 := u40) (u41 := u41) (u42 := u42) (u43 := u43) (u44 := u44) (u45 := u45) (u46 := u46) (u47 := u47) (u48 := u48) (u49 := u49) (u50 := u50) (u51 := u51) (u52 := u52) (u53 := u53) (u54 := u54) (u55 := u55) (u56 := u56) (u57 := u57) (u58 := u58) (u59 := u59) (u60 := u60) (u61 := u61) (u62 := u62) (u63 := u63) (u64 := u64) (u65 := u65) (u66 := u66) (u67 := u67) (u68 := u68) (u69 := u69) (u70 := u70) (u71 := u71) (u72 := u72) (u73 := u73) (u74 := u74) (u75 := u75) (u76 := u76) (u77 := u77) (u78 := u78) (u79 := u79) (u80 := u80) (u81 := u81) (u82 := u82) (u83 := u83) (u84 := u84) (u85 := u85) (u86 := u86) (u87 := u87) (u88 := u88) (u89 := u89) (u90 := u90) (u91 := u91) (u92 := u92) (u93 := u93) (u94 := u94) (u95 := u95) (u96 := u96) (u97 := u97) (u98 := u98) (u99 := u99) (u100 := u100) (u101 := u101) (u102 := u102) (u103 := u103) (u104 := u104) (DD := DD) W0 O7 o Ab cb b hO hok hx hri hen hrb
    | 9, hi => injection hi with hi; subst hi; exact regMc_9 (u0 := u0) (u2 := u2) (u3 := u3) (u4 := u4) (u5 := u5) (u6 := u6) (u8 := u8) (u9 := u9) (u10 := u10) (u11 := u11) (u12 := u12) (u13 := u13) (u14 := u14) (u15 := u15) (u16 := u16) (u17 := u17) (u18 := u18) (u19 := u19) (u20 := u20) (u21 := u21) (u22 := u22) (u23 := u23) (u24 := u24) (u25 := u25) (u26 := u26) (u27 := u27) (u28 := u28) (u29 := u29) (u30 := u30) (u31 := u31) (u32 := u32) (u33 := u33) (u34 := u34) (u35 := u35) (u36 := u36) (u37 := u37) (u38 := u38) (u39 := u39) (u40 := u40) (u41 := u41) (u42 := u42) (u43 := u43) (u44 := u44) (u45 := u45) (u46 := u46) (u47 := u47) (u48 := u48) (u49 := u49) (u50 := u50) (u51 := u51) (u52 := u52) (u53 := u53) (u54 := u54) (u55 := u55) (u56 := u56) (u57 := u57) (u58 := u58) (u59 := u59) (u60 := u60) (u61 := u61) (u62 := u62) (u63 := u63) (u64 := u64) (u65 := u65) (u66 := u66) (u67 := u67) (u68 := u68) (u69 := u69) (u70 := u70) (u71 := u71) (u72 := u72) (u73 := u73) (u74 := u74) (u75 := u75) (u76 := u76) (u77 := u77) (u78 := u78) (u79 := u79) (u80 := u80) (u81 := u81) (u82 := u82) (u83 := u83) (u84 := u84) (u85 := u85) (u86 := u86) (u87 := u87) (u88 := u88) (u89 := u89) (u90 := u90) (u91 := u91) (u92 := u92) (u93 := u93) (u94 := u94) (u95 := u95) (u96 := u96) (u97 := u97) (u98 := u98) (u99 := u99) (u100 := u100) (u101 := u101) (u102 := u102) (u103 := u103) (u104 := u104) (DD := DD) W0 O7 o Ab cb b hO hok hx hri hen hrb
    | 10, hi => injection hi with hi; subst hi; exact regMc_10 (u0 := u0) (u2 := u2) (u3 := u3) (u4 := u4) (u5 := u5) (u6 := u6) (u8 := u8) (u9 := u9) (u10 := u10) (u11 := u11) (u12 := u12) (u13 := u13) (u14 := u14) (u15 := u15) (u16 := u16) (u17 := u17) (u18 := u18) (u19 := u19) (u20 := u20) (u21 := u21) (u22 := u22) (u23 := u23) (u24 := u24) (u25 := u25) (u26 := u26) (u27 := u27) (u28 := u28) (u29 := u29) (u30 := u30) (u31 := u31) (u32 := u32) (u33 := u33) (u34 := u34) (u35 := u35) (u36 := u36) (u37 := u37) (u38 := u38) (u39 := u39) (u40 := u40) (u41 := u41) (u42 := u42) (u43 := u43) (u44 := u44) (u45 := u45) (u46 := u46) (u47 := u47) (u48 := u48) (u49 := u49) (u50 := u50) (u51 := u51) (u52 := u52) (u53 := u53) (u54 := u54) (u55 := u55) (u56 := u56) (u57 := u57) (u58 := u58) (u59 := u59) (u60 := u60) (u61 := u61) (u62 := u62) (u63 := u63) (u64 := u64) (u65 := u65) (u66 := u66) (u67 := u67) (u68 := u68) (u69 := u69) (u70 := u70) (u71 := u71) (u72 := u72) (u73 := u73) (u74 := u74) (u75 := u75) (u76 := u76) (u77 := u77) (u78 := u78) (u79 := u79) (u80 := u80) (u81 := u81) (u82 := u82) (u83 := u83) (u84 := u84) (u85 := u85) (u86 := u86) (u87 := u87) (u88 := u88) (u89 := u89) (u90 := u90) (u91 := u91) (u92 := u92) (u93 := u93) (u94 := u94) (u95 := u95) (u96 := u96) (u97 := u97) (u98 := u98) (u99 := u99) (u100 := u100) (u101 := u101) (u102 := u102) (u103 := u103) (u104 := u104) (DD := DD) W0 O7 o Ab cb b hO hok hx hri hen hrb
    | n + 11, hi => exact absurd (Array.getElem?_eq_some_iff.1 hi).1 (by show ¬ n + 11 < 11; omega)
  · intro v w2 h1 h2
    have hp : puts opsMc ⟨#[u0, .slice Ab b.length cb, u2, u3, u4, u5, u6, .pointer (some ⟨O7, 0, none⟩), u8, u9, u10, u11, u12, u13, u14, u15, u16, u17, u18, u19, u20, u21, u22, u23, u24, u25, u26, u27, u28, u29, u30, u31, u32, u33, u34, u35, u36, u37, u38, u39, u40, u41, u42, u43, u44, u45, u46, u47, u48, u49, u50, u51, u52, u53, u54, u55, u56, u57, u58, u59, u60, u61, u62, u63, u64, u65, u66, u67, u68, u69, u70, u71, u72, u73, u74, u75, u76, u77, u78, u79, u80, u81, u82, u83, u84, u85, u86, u87, u88, u89, u90, u91, u92, u93, u94, u95, u96, u97, u98, u99, u100, u101, u102, u103, u104], DD⟩ v = ⟨#[u0, .slice Ab b.length cb, u2, u3, v 10, u5, u6, .pointer (some ⟨O7, 0, none⟩), u8, u9, u10, u11, u12, u13, u14, u15, u16, u17, u18, u19, u20, u21, u22, u23, u24, u25, u26, u27, u28, u29, u30, u31, u32, u33, u34, u35, u36, u37, u38, u39, u40, u41, u42, u43, u44, u45, u46, u47, u48, u49, u50, u51, u52, u53, u54, u55, u56, u57, u58, u59, u60, u61, u62, u63, u64, u65, u66, u67, u68, u69, u70, u71, u72, u73, u74, u75, u76, u77, u78, u79, u80, u81, u82, u83, u84, u85, u86, u87, u88, u89, u90, u91, u92, u93, u94, v 0, v 1, v 2, v 3, v 4, v 5, v 6, v 7, v 8, v 9], DD⟩ := by kernel_rfl
    rw [hp]
    refine hend v w2 h1 fun i hi => ?_
    match i, hi with
    | 0, _ => exact h2 0 _ _ rfl rfl
    | 1, _ => exact h2 1 _ _ rfl rfl
    | 2, _ => exact h2 2 _ _ rfl rfl
    | 3, _ => exact h2 3 _ _ rfl rfl
    | 4, _ => exact h2 4 _ _ rfl rfl
    | 5, _ => exact h2 5 _ _ rfl rfl
    | 6, _ => exact h2 6 _ _ rfl rfl
    | 7, _ => exact h2 7 _ _ rfl rfl
    | 8, _ => exact h2 8 _ _ rfl rfl
    | 9, _ => exact h2 9 _ _ rfl rfl
    | 10, _ => exact h2 10 _ _ rfl rfl
    | n + 11, hi => omega

end Go.Proofs.YthhpcilinkebeaaDoor
/- ModelCodes: its walk. -/
namespace Go.Proofs.YthhpcilinkebeaaDoor
open Go.RowKit Go.Maps
set_option maxHeartbeats 8000000
set_option maxRecDepth 100000

theorem ba_eq {s t : ByteArray} (h : strB s = strB t) : s = t := by
  have h1 : s.data.toList = t.data.toList := h
  cases s; cases t
  simp only at h1
  congr 1
  exact Array.toList_inj.1 h1
/-- what is read back is what was written -/
theorem dec_post {w : World} {o : OM} (hk : I64 o.kind) (ha : I64 o.at_) (hn : I64 o.n) (hnm : o.name.size ≤ 1024) (hds : o.dst.size ≤ 1024) (hx : o.l.length ≤ 65536) (hr : rightV o.ov = true) {e : Ending} {w' : World} (h : DecPost w (encV o.ov) e w') :
    ∃ A c, e = .returned (.tuple #[.agg #[.int .i64 o.kind, .string o.name, .string o.dst, .int .i64 o.at_, .int .i64 o.n, .slice A o.l.length c], .int .i64 0]) ∧ OM.ok ⟨o.kind, o.name, o.dst, o.at_, o.n, A, o.l, c⟩ w' ∧ Below w.heap.size w w' := by
  have hde : decV (encV o.ov) = o.ov := dec_enc hk.1 hk.2 ha.1 ha.2 hn.1 hn.2 hnm hds (by show o.l.length ≤ _; omega)
  obtain ⟨p, h1, h2, h3, h4⟩ := h
  rw [hde] at h1
  obtain ⟨k, nm, ds, at_, n, A, l, c⟩ := p
  unfold OM.ov at h1
  injection h1 with e1 e2 e3 e4 e5 e6
  have n2 : nm = o.name := ba_eq e2
  have n3 : ds = o.dst := ba_eq e3
  clear e2 e3
  have n1 : k = o.kind := e1
  have n4 : at_ = o.at_ := e4
  have n5 : n = o.n := e5
  have n6 : l = o.l := e6
  clear e1 e4 e5 e6
  subst n1 n2 n3 n4 n5 n6
  rcases h4 with ⟨_, _, rfl⟩ | ⟨hno, _⟩
  · exact ⟨A, c, rfl, h2, h3⟩
  · exact absurd ⟨hr, rfl⟩ hno
theorem modelCodes_any {w0 : World} (hT : Tabs w0) {o : OM} (hrd : Rd w0 o.A (byts o.l)) (hcap : o.l.length ≤ o.c) (hI : I64 o.kind ∧ I64 o.at_ ∧ I64 o.n)
    {Ab : Option Addr} {cb : Nat} {b : Bts} (hrb : Rd w0 Ab (byts b)) (hbc : b.length ≤ cb) :
    Calls Tryd.prog 9 #[o.val, .slice Ab b.length cb] w0 fun e w' => e = .returned (.bool true) ∧ Below w0.heap.size w0 w' := by
  have hov : o.val = .agg o.cells.toArray := rfl
  rw [hov]
  have hb0 := (Below.refl w0.heap.size w0).alloc (Nat.le_refl _) (.cells o.cells.toArray 33)
  have hO := Blk.new w0 33 o.cells.toArray
  have hkn := known_any (w0.alloc (.cells o.cells.toArray 33)) (nameC.keep _ _ hT hb0)
  go_enter Tryd.func9, Tryd.ntmps9
  go_wp2_with fail
  refine hkn.mono ?_
  rintro e w1 ⟨rfl, hb1⟩
  clear hkn
  have hO1 := hO.below' hb1
  have hb01 := hb0.trans (hb1.mono hb0.size)
  obtain ⟨⟨d0, d1, d2, d3, d4, d5⟩, -⟩ := op_facts (x0 := .int .i64 o.kind) (x1 := .string o.name) (x2 := .string o.dst) (x3 := .int .i64 o.at_) (x4 := .int .i64 o.n) (x5 := .slice o.A o.l.length o.c) hO1
  clear hO hb0 hb1 hov
  by_cases g1 : (1024 : Int) < (o.name.size : Int)
  · go_wp2_with fail
    go_ret
    exact ⟨rfl, hb01⟩
  by_cases g2 : (1024 : Int) < (o.dst.size : Int)
  · go_wp2_with fail
    go_ret
    exact ⟨rfl, hb01⟩
  by_cases g3 : (65536 : Int) < (o.l.length : Int)
  · go_wp2_with fail
    go_ret
    exact ⟨rfl, hb01⟩
  by_cases g4 : (65536 : Int) < (b.length : Int)
  · go_wp2_with fail
    go_ret
    exact ⟨rfl, hb01⟩
  have hok1 : o.ok w1 := ⟨hrd.below hb01, hcap, by omega, by omega, by omega, hI.1, hI.2.1, hI.2.2⟩
  obtain ⟨Rr, hRr⟩ : ∃ Rr, rightV o.ov = Rr := ⟨_, rfl⟩
  have hri := refRight_any o w1
  rw [hRr] at hri
  go_wp2_with fail
  refine hri.mono ?_
  rintro e w2 ⟨rfl, hb2⟩
  clear hri d0 d1 d2 d3 d4 d5
  have hO2 := hO1.below' hb2
  have hok2 := hok1.below hb2
  have hb02 := hb01.trans (hb2.mono hb01.size)
  clear hO1 hok1 hb01 hb2
  go_upto_if 33 with fail
  go_cut [5, 6] (fun s5 s6 wx => Below w0.heap.size w0 wx)
  case first =>
    cases Rr with
    | false =>
      go_wp2_with fail
      go_meet
      exact hb02
    | true =>
    obtain ⟨⟨d0, d1, d2, d3, d4, d5⟩, -⟩ := op_facts (x0 := .int .i64 o.kind) (x1 := .string o.name) (x2 := .string o.dst) (x3 := .int .i64 o.at_) (x4 := .int .i64 o.n) (x5 := .slice o.A o.l.length o.c) hO2
    have henc := encode_any o w2 hok2 (by omega) (by omega) (by omega)
    go_wp2_with fail
    refine henc.mono ?_
    rintro e w3 ⟨EA, ec, rfl, her, hec, hb3⟩
    clear henc d0 d1 d2 d3 d4 d5
    have hle : (encV o.ov).length ≤ 1048576 := by
      have a1 := numB_le (u64V o.ov.kind)
      have a2 := textB_le o.ov.name
      have a3 := textB_le o.ov.dst
      have a4 := numB_le (u64V o.ov.at_)
      have a5 := numB_le (u64V o.ov.n)
      have a6 := textB_le o.ov.data
      have b1 : o.ov.name.length = o.name.size := rfl
      have b2 : o.ov.dst.length = o.dst.size := rfl
      have b3 : o.ov.data.length = o.l.length := rfl
      unfold encV
      simp only [List.length_append]
      omega
    have hdec := decode_any w3 EA ec (encV o.ov) her hec hle
    go_wp2_with fail
    refine hdec.mono ?_
    intro e w4 hp
    obtain ⟨A4, c4, rfl, hok4, hb4⟩ := dec_post hI.1 hI.2.1 hI.2.2 (by omega) (by omega) (by omega) hRr hp
    clear hdec hp her
    have hO4 := hO2.below' (hb3.trans (hb4.mono hb3.size))
    have hb04 := hb02.trans ((hb3.trans (hb4.mono hb3.size)).mono hb02.size)
    have hrd4 := hok2.rd.below (hb3.trans (hb4.mono hb3.size))
    go_upto_region 7 with fail
    change Code.wp _ _ _ _ (w4.alloc (.cells #[.int .i64 o.kind, .string o.name, .string o.dst, .int .i64 o.at_, .int .i64 o.n, .slice A4 o.l.length c4] 33))
    have hx5 := (Below.refl w4.heap.size w4).alloc (Nat.le_refl _) (.cells #[.int .i64 o.kind, .string o.name, .string o.dst, .int .i64 o.at_, .int .i64 o.n, .slice A4 o.l.length c4] 33)
    have hP5 := Blk.new w4 33 #[.int .i64 o.kind, .string o.name, .string o.dst, .int .i64 o.at_, .int .i64 o.n, .slice A4 o.l.length c4]
    generalize w4.alloc (.cells #[.int .i64 o.kind, .string o.name, .string o.dst, .int .i64 o.at_, .int .i64 o.n, .slice A4 o.l.length c4] 33) = w5 at *
    have hO5 := hO4.below' hx5
    have hb05 := hb04.trans (hx5.mono hb04.size)
    have v1 := conv_bytes w5 A4 c4 o.l (hok4.rd.below hx5)
    have v2 := conv_bytes w5 o.A o.c o.l (hrd4.below hx5)
    obtain ⟨⟨d0, d1, d2, d3, d4, d5⟩, -⟩ := op_facts (x0 := .int .i64 o.kind) (x1 := .string o.name) (x2 := .string o.dst) (x3 := .int .i64 o.at_) (x4 := .int .i64 o.n) (x5 := .slice o.A o.l.length o.c) hO5
    obtain ⟨⟨y0, y1, y2, y3, y4, y5⟩, -⟩ := op_facts hP5
    clear hO4 hb04 hrd4 hok4 hx5 hP5
    go_wp2_with fail
    go_meet
    exact hb05
  case rest =>
  clear hO2 hok2 hb02
  have hb2 := hcut
  have hdec := decode_any wc Ab cb b (hrb.below hb2) hbc (by omega)
  go_wp2_with fail
  refine hdec.mono ?_
  rintro e w4 ⟨p, hp1, hp2, hb4, hp3⟩
  clear hdec
  have hb04 := hb2.trans (hb4.mono hb2.size)
  rcases hp3 with ⟨hpr, hpe, rfl⟩ | ⟨-, rfl⟩
  case inr =>
    rw [show zOp = #[.int .i64 0, .string ⟨#[]⟩, .string ⟨#[]⟩, .int .i64 0, .int .i64 0, .slice none 0 0] from rfl]
    go_wp2_with fail
    go_ret
    exact ⟨rfl, hb04.alloc hb04.size _⟩
  have hpv : p.val = .agg #[.int .i64 p.kind, .string p.name, .string p.dst, .int .i64 p.at_, .int .i64 p.n, .slice p.A p.l.length p.c] := rfl
  rw [hpv]
  have hpl : p.l.length ≤ 2097152 := by
    have h1 := hpe
    have : (encV p.ov).length = b.length := by rw [h1]
    have h2 : p.l.length ≤ (encV p.ov).length := by
      unfold encV textB
      simp only [List.length_append]
      have : p.ov.data.length = p.l.length := rfl
      omega
    omega
  clear hpv hp1
  go_upto_region 12 with fail
  change Code.wp _ _ _ _ (w4.alloc (.cells p.cells.toArray 33))
  have hx5 := (Below.refl w4.heap.size w4).alloc (Nat.le_refl _) (.cells p.cells.toArray 33)
  have hP5 := Blk.new w4 33 p.cells.toArray
  have hok5 := hp2.below hx5
  have hb05 := hb04.trans (hx5.mono hb04.size)
  have hrb5 := hrb.below hb05
  generalize w4.alloc (.cells p.cells.toArray 33) = w5 at *
  refine regMc w5.drew w4.heap.size p Ab cb b hP5 (hok5.below ((Below.refl _ _).drew)) hpl hpr hpe (hrb5.drew) (Below.refl _ _) ?_
  intro v w6 hS6 hR6
  have h10 := hR6 10 (by omega)
  replace h10 : v 10 = .bool true := h10
  rw [h10]
  have hb06 := hb05.trans (((Below.refl _ w5).drew).trans hS6 |>.mono hb05.size)
  go_wp2_with fail
  go_ret
  exact ⟨rfl, hb06⟩
end Go.Proofs.YthhpcilinkebeaaDoor
/- Openers: an operation that is an argument. -/
namespace Go.Proofs.YthhpcilinkebeaaDoor
open Go.ChangeShapes Go.WideShapes Go.ChangeAt Go.RowKit Go.Deep
set_option maxRecDepth 100000
section
variable {H : Type} {enc : TypeId × Value → H} {W : World}
theorem open_rowN {sp : Nat → Bool} {held : Bool} {fuel : Nat} {v : Value} {d : DataW H} {ps : List MemPlace} (h : DataW.trod enc Tryd.prog W 0 sp held fuel 31 [v] = some (d, ps)) :
    ∃ A l c, v = .slice A l.length c ∧ Rd W A (byts l) ∧ l.length ≤ c := by
  rcases open_ints Tryd.underlying31 Tryd.underlying5 Tryd.cells8 h with ⟨hv, _⟩ | ⟨a, len, cap, zs, hv, _, hlc, _, hz, hd, hc, hwf⟩
  · simp only [List.cons.injEq, and_true] at hv
    exact ⟨none, [], 0, by simpa using hv, Rd.none_, Nat.le_refl _⟩
  · simp only [List.cons.injEq, and_true] at hv
    have hle : len ≤ zs.length := by rw [hz]; split <;> omega
    obtain ⟨l, hl, hb⟩ := bytes_of_ints (zs.take len) fun n hn => hwf n (List.mem_of_mem_take hn)
    have hl' : l.length = len := by rw [hl, List.length_take]; omega
    refine ⟨some a, l, cap, by rw [hl']; exact hv, fun hn => ⟨a, rfl, ?_, fun j u hu => ?_⟩, by omega⟩
    · have h0 : 0 < zs.length := by
        rcases Nat.eq_zero_or_pos zs.length with e | e
        · exfalso; apply hn; rw [← hb, List.eq_nil_of_length_eq_zero e]; simp
        · exact e
      have := cell_block (hc 0 h0)
      rwa [add_block] at this
    · rw [← hb, List.getElem?_map] at hu
      obtain ⟨z, hz1, rfl⟩ := Option.map_eq_some_iff.1 hu
      rw [List.getElem?_take] at hz1
      split at hz1
      · have hj : j < zs.length := (List.getElem?_eq_some_iff.1 hz1).1
        rw [hc j hj, List.getD, hz1]
        rfl
      · cases hz1
theorem open_opN {sp : Nat → Bool} {held : Bool} {fuel : Nat} {cs : List Value} {x : DataW H × List MemPlace} (h : DataW.trod enc Tryd.prog W 0 sp held fuel 33 cs = some x) : ∃ m : OM, cs = m.cells ∧ Rd W m.A (byts m.l) ∧ m.l.length ≤ m.c ∧ I64 m.kind ∧ I64 m.at_ ∧ I64 m.n := by
  obtain ⟨f0, f1, f2, f3, f4, f5, hu, t0, t1, t2, t3, t4, t5⟩ := Tryd.opFields
  simp only [Prod.mk.injEq] at t0 t1 t2 t3 t4 t5
  obtain ⟨xs, n, _, hx, hl, hxl, hf⟩ := DataW.trod_struct hu h
  rw [Tryd.cellsOp] at hl
  match cs, hl with
  | [c0, c1, c2, c3, c4, c5], _ =>
    match xs, hxl with
    | [y0, y1, y2, y3, y4, y5], _ =>
      have g0 := hf 0 f0 rfl
      have g1 := hf 1 f1 rfl
      have g2 := hf 2 f2 rfl
      have g3 := hf 3 f3 rfl
      have g4 := hf 4 f4 rfl
      have g5 := hf 5 f5 rfl
      rw [t0.1, t0.2, Tryd.cellsInt] at g0
      rw [t1.1, t1.2, Tryd.cellsStr] at g1
      rw [t2.1, t2.2, Tryd.cellsStr] at g2
      rw [t3.1, t3.2, Tryd.cellsInt] at g3
      rw [t4.1, t4.2, Tryd.cellsInt] at g4
      rw [t5.1, t5.2, Tryd.cellsRow] at g5
      simp only [List.drop_zero, List.drop_succ_cons, List.take_succ_cons, List.take_zero, List.getElem?_cons_zero, List.getElem?_cons_succ] at g0 g1 g2 g3 g4 g5
      subst hx
      obtain ⟨z0, e0, _, w0⟩ := DataW.trod_int Tryd.underlying3 g0
      obtain ⟨z1, e1, d1, _⟩ := DataW.trod_string Tryd.underlying9 g1
      obtain ⟨z2, e2, d2, _⟩ := DataW.trod_string Tryd.underlying9 g2
      obtain ⟨z3, e3, _, w3⟩ := DataW.trod_int Tryd.underlying3 g3
      obtain ⟨z4, e4, _, w4⟩ := DataW.trod_int Tryd.underlying3 g4
      obtain ⟨A, l, c, rfl, r1, r2⟩ := open_rowN g5
      simp only [List.cons.injEq, and_true] at e0 e1 e2 e3 e4
      subst e0 e1 e2 e3 e4
      exact ⟨⟨z0, z1, z2, z3, z4, A, l, c⟩, rfl, r1, r2, wf_i64 w0, wf_i64 w3, wf_i64 w4⟩
theorem open_opA {sp : Nat → Bool} {held : Bool} {r : Reach} {b0 : Nat} {v : Value} {d : DataW H} {p : List MemPlace} (hv : Value.okWide Tryd.prog W r b0 33 v) (h : DataW.Trod enc Tryd.prog W 0 sp held 33 v d p) :
    ∃ m : OM, v = m.val ∧ Rd W m.A (byts m.l) ∧ m.l.length ≤ m.c ∧ I64 m.kind ∧ I64 m.at_ ∧ I64 m.n := by
  obtain ⟨f0, f1, f2, f3, f4, f5, hu, _⟩ := Tryd.opFields
  obtain ⟨cs, rfl, _⟩ := okWide_struct hu hv
  obtain ⟨fuel, h1⟩ := h
  obtain ⟨m, hm, h2⟩ := open_opN h1
  refine ⟨m, ?_, h2⟩
  have : cs = m.cells.toArray := by
    have h3 : cs.toList = m.cells := hm
    rw [← h3]
  rw [this]; rfl
theorem open_rowNA {sp : Nat → Bool} {held : Bool} {r : Reach} {b0 : Nat} {v : Value} {d : DataW H} {p : List MemPlace} (hv : Value.okWide Tryd.prog W r b0 31 v) (h : DataW.Trod enc Tryd.prog W 0 sp held 31 v d p) :
    ∃ A l c, v = .slice A l.length c ∧ Rd W A (byts l) ∧ l.length ≤ c := by
  obtain ⟨a0, l0, c0, rfl⟩ := okWide_slice Tryd.underlying31 hv
  obtain ⟨fuel, h1⟩ := h
  exact open_rowN h1
end
end Go.Proofs.YthhpcilinkebeaaDoor
