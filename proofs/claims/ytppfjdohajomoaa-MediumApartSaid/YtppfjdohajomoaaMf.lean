/- Mediums: Drop. -/
import Derived.Test.YtppfjdohajomoaaMe
namespace Go.Proofs.Ytppfjdohajomoaa
open Go.RowKit Go.Maps
set_option maxHeartbeats 2000000
set_option maxRecDepth 100000

/-- the map M is gone through by r: which are left, how many -/
def MpRg (w : World) (M r n : Nat) (f : Nat → Option Med) (left : Nat → Bool) (cnt : Nat) : Prop :=
  ∃ (D : DataW Unit) (L : Lit → Bool), w.ranges Try.prog 27 medR M r n D L cnt ∧ (∀ i, has D (uk i) = (f i).isSome) ∧ (∀ i m, f i = some m → ∀ z, D.atKey (uk i) z = m.dat) ∧ ∀ i, L (uk i) = left i
section
variable {w w' : World} {M r n cnt : Nat} {f : Nat → Option Med} {left : Nat → Bool}
theorem MpRg.mp (h : MpRg w M r n f left cnt) : MpOf w M n f := let ⟨D, _, h1, h2, h3, _⟩ := h; ⟨D, h1.owns, h2, h3⟩
theorem MpRg.left_eq (h : MpRg w M r n f left cnt) : w.rangeLeft M r = cnt := let ⟨_, _, h1, _⟩ := h; h1.left_eq
theorem MpRg.alloc (h : MpRg w M r n f left cnt) (o : Obj) : MpRg (w.alloc o) M r n f left cnt := let ⟨D, L, h1, h2⟩ := h; ⟨D, L, h1.alloc o, h2⟩
theorem MpOf.range (h : MpOf w M n f) : ∃ w' cnt, (Instr.range 126 (.map (some M))).run Try.prog w = .ok (.pointer (some ⟨w.heap.size, 0, none⟩)) w' ∧ MpRg w' M w.heap.size n f (fun i => (f i).isSome) cnt ∧ w.grownBy w' none := by
  obtain ⟨D, h1, h2, h3⟩ := h
  obtain ⟨w', hrun, r1, r2, r3⟩ := h1.range Try.keyU64 Try.underlying126
  exact ⟨w', _, hrun, ⟨D, _, r1, h2, h3, h2⟩, r2⟩
theorem wpList_mprg {w : World} {ops : Array Oper} {rest : List Oper} {o : Oper} {a : Act} {Q : Exit → Act → World → Prop} (hg : o.guard = none) (m : Operand) (hop : o.op = Op.range 126 m) (hm : a.eval m = .map (some M)) (h : MpOf w M n f)
    (hK : ∀ w' cnt, MpRg w' M w.heap.size n f (fun i => (f i).isSome) cnt → Below w.heap.size w w' → wpList Try.prog ops Q rest (a.put o.dst (.pointer (some ⟨w.heap.size, 0, none⟩))) w') : wpList Try.prog ops Q (o :: rest) a w := by
  refine wpList_plain hg fun K' hK' => ?_
  obtain ⟨w', cnt, hrun, r1, r2⟩ := h.range
  unfold Oper.wp
  simp [execOp, hop, hm, hrun, Result.andThen]
  exact hK' _ _ (hK w' cnt r1 ⟨r2.os, r2.tape, r2.output, r2.size, fun k hk => r2.block k hk (by simp)⟩)
theorem wpList_mpnext {w : World} {ops : Array Oper} {rest : List Oper} {o : Oper} {a : Act} {Q : Exit → Act → World → Prop} (hg : o.guard = none) (it : Operand) (hop : o.op = Op.next it false) (hit : a.eval it = .pointer (some ⟨r, 0, none⟩)) (h : MpRg w M r n f left cnt)
    (hDone : (∀ i, left i = false) → wpList Try.prog ops Q rest (a.put o.dst (.tuple #[.bool false])) w)
    (hMore : ∀ (i : Nat) (m : Med) (w' : World) (cnt' : Nat), f i = some m → left i = true → MpRg w' M r n f (fun j => left j && decide (j ≠ i)) cnt' → cnt' < cnt → w.grownBy w' (some r) →
      (Instr.entry (.pointer (some ⟨r, 0, none⟩))).run Try.prog w' = .ok (.tuple #[.int .u64 (i : Nat), m.val]) w' → wpList Try.prog ops Q rest (a.put o.dst (.tuple #[.bool true, .int .u64 (i : Nat), m.val])) w') : wpList Try.prog ops Q (o :: rest) a w := by
  refine wpList_plain hg fun K' hK' => ?_
  obtain ⟨D, L, h1, h2, h3, h4⟩ := h
  unfold Oper.wp
  rcases h1.next Try.keyU64 o.type with ⟨h0, hl, hrun⟩ | ⟨key, v, kl, y, w', cnt', hkey, hlk, hv, hat, hrun, hrg, hlt, hgr, hsz, hen⟩
  · simp [execOp, hop, hit, hrun, Result.andThen]
    exact hK' _ _ (hDone fun i => by rw [← h4]; exact hl _)
  · obtain ⟨x, rfl, rfl, hwf⟩ := Maps.keyOf_int_inv Try.underlying27 hkey
    have hx0 : 0 ≤ x := by
      simp [Lit.wf, IntKind.min, IntKind.max, IntKind.signed, IntKind.bits] at hwf
      omega
    obtain ⟨i, rfl⟩ : ∃ i : Nat, x = (i : Int) := ⟨x.toNat, by omega⟩
    have hh : has D (uk i) = true := has_true_of_atKey hat
    rw [h2] at hh
    obtain ⟨m, hm⟩ := Option.isSome_iff_exists.1 hh
    have hy : y.1 = m.dat := by rw [← hat (.lit (.bool true)), ← h3 i m hm]; rfl
    have hve : v = m.val := medR_inv (ps := y.2) (by rw [hv, ← hy])
    subst hve
    simp [execOp, hop, hit, hrun, Result.andThen]
    refine hK' _ _ (hMore i m w' cnt' hm ?_ ⟨D, _, hrg, h2, h3, fun j => ?_⟩ hlt hgr hen)
    · rw [← h4]; exact hlk
    · simp only
      rw [h4]
      by_cases e : j = i
      · subst e
        rw [show (uk j).sameKey (Lit.int .u64 (j : Int)) = true from WideAt.sameKey_self (uk_lit j)]
        simp
      · rw [show (uk j).sameKey (Lit.int .u64 (i : Int)) = false from sameKey_ne (fun e' => e (uk_inj e'))]
        simp [e]
end

theorem wpList_mpdel {w : World} {ops : Array Oper} {rest : List Oper} {o : Oper} {a : Act} {Q : Exit → Act → World → Prop} (hg : o.guard = none) (m x : Operand) (hop : o.op = Op.call { callee := Callee.builtin Builtin.delete, args := #[m, x], argTypes := #[126, 27] })
    {M n : Nat} {f : Nat → Option Med} (hm : a.eval m = .map (some M)) (h : MpOf w M n f) (i : Nat) (hi : i < 18446744073709551616) (hx : a.eval x = .int .u64 (i : Nat))
    (hK : ∀ w', MpOf w' M n (upd f i none) → w.mapTurned w' M → wpList Try.prog ops Q rest (a.put o.dst (.tuple #[])) w') : wpList Try.prog ops Q (o :: rest) a w := by
  refine wpList_plain hg fun K' hK' => ?_
  obtain ⟨w', hrun, r1, r2⟩ := h.drop hi o.type
  unfold Oper.wp
  simp [execOp, hop, resolve, invoke, builtin, hm, hx, hrun, Result.andThen]
  exact hK' _ _ (hK w' r1 r2)

/-- what Drop gives -/
def dropE (f : Nat → Option Med) (id : Nat) (E : Nat) : Prop :=
  (f id = none ∧ E = 4) ∨ (f id ≠ none ∧ (∃ i m, f i = some m ∧ m.tgt = id) ∧ E = 9) ∨ (f id ≠ none ∧ (∀ i m, f i = some m → m.tgt ≠ id) ∧ E = 0)
def DropPost (w : World) (T M depth next n id : Nat) (f : Nat → Option Med) (e : Ending) (w' : World) : Prop :=
  ∃ E, dropE f id E ∧ e = .returned (.int .i64 (E : Nat)) ∧ (E ≠ 0 → Below w.heap.size w w') ∧ (E = 0 → TabAt w' T M depth next n (upd f id none) ∧ Turn2 T M w w')

theorem drop_any (T M depth next n id : Nat) (f : Nat → Option Med) (w : World) (h : TabAt w T M depth next n f) (hid : id < 18446744073709551616) :
    Calls Try.prog 73 #[.pointer (some ⟨T, 0, none⟩), .int .u64 (id : Nat)] w (DropPost w T M depth next n id f) := by
  have hc2 := h.c2
  have hlk := h.mp.look hid
  cases hcur : f id with
  | none =>
    rw [hcur] at hlk
    unfold Med.val at hlk
    simp only [Option.getD_none, Option.isSome_none] at hlk
    go_enter Try.func73, Try.ntmps73
    go_wp2
    go_ret
    exact ⟨4, .inl ⟨hcur, rfl⟩, rfl, fun _ => (Below.refl _ _).alloc (Nat.le_refl _) _, fun h => by simp at h⟩
  | some x =>
    rw [hcur] at hlk
    obtain ⟨xi, xt, xa, xs, xf⟩ := x
    unfold Med.val at hlk
    simp only [Option.getD_some, Option.isSome_some] at hlk
    have Hcur := Lib.hid (show f id ≠ none from by rw [hcur]; simp)
    clear hcur
    have hbz : Below w.heap.size w (w.alloc (.cells #[.int .u64 (xi : Nat), .int .u64 (xt : Nat), .int .i64 xa, .int .i64 xs, .bool xf] 130)) := (Below.refl _ _).alloc (Nat.le_refl _) _
    go_enter Try.func73, Try.ntmps73
    go_upto_region 4 with fail
    generalize (w.alloc _) = V at *
    have hTV := h.below hbz
    have hc2 := hTV.c2
    go_wp2_with ((with_reducible show wpList _ _ _ (Oper.mk _ (Op.range _ _) _ _ _ _ :: _) _ _); refine wpList_mprg rfl _ rfl rfl hTV.mp ?_; intro w1 cnt hrg hb1)
    have hbw1 : Below w.heap.size w w1 := hbz.trans (hb1.mono hbz.size)
    have hrv : w.heap.size ≤ V.heap.size := hbz.size
    generalize V.heap.size = r at *
    go_frame
    go_loopw [] (fun wr => ∃ (left : Nat → Bool) (cnt : Nat), MpRg wr M r n f left cnt ∧ (∀ i m, f i = some m → left i = false → m.tgt ≠ id) ∧ Below w.heap.size w wr) (fun wr => wr.rangeLeft M r)
    case atStart => exact ⟨_, _, hrg, fun i m hm hl => by simp [hm] at hl, hbw1⟩
    case round =>
      obtain ⟨left, cnt', hrg', hno, hbw⟩ := hrel
      clear hc2 hTV hrg hbw1 hbz hb1 hlk
      have hT := h.below hbw
      go_wp2_with (at_next; refine wpList_mpnext rfl _ rfl rfl hrg' ?_ ?_)
      · intro hl0
        have hd2 := hT.c2
        go_wp2_with (at_delete; refine wpList_mpdel rfl _ _ rfl rfl hT.mp id hid rfl ?_; intro w3 hm3 ht3)
        go_ret
        refine ⟨0, .inr (.inr ⟨Hcur.out, fun i m hm => hno i m hm (hl0 i), rfl⟩), rfl, fun h => absurd rfl h, fun _ => ⟨⟨hT.blk.grown ht3.grown (by intro e; injection e with e; exact h.ne e), hm3, h.ne⟩, (Turn2.of_below hbw).trans (.of_map ht3)⟩⟩
      · intro i m w2 cnt2 hfi hli hrg2 hlt hgr2 hen
        obtain ⟨yi, yt, ya, ys, yf⟩ := m
        simp only [Med.val] at hen ⊢
        have hbw2 : Below w.heap.size w w2 := hbw.trans ⟨hgr2.os, hgr2.tape, hgr2.output, hgr2.size, fun k hk => hgr2.block k (Nat.lt_of_lt_of_le hk hbw.size) (by intro e; injection e with e; omega)⟩
        have hyt : yt = id ∨ yt ≠ id := by omega
        have hleft := hrg'.left_eq
        rcases hyt with hyt | hyt
        · have k1 : ((yt : Int) == (id : Int)) = true := by simp [hyt]
          have Hyt := Lib.hid hyt
          clear hyt
          go_wp2
          go_ret
          exact ⟨9, .inr (.inl ⟨Hcur.out, ⟨i, _, hfi, Hyt.out⟩, rfl⟩), rfl, fun _ => hbw2.alloc hbw2.size _, fun h => by simp at h⟩
        · have k1 : ((yt : Int) == (id : Int)) = false := by simp; omega
          have Hyt := Lib.hid hyt
          clear hyt
          go_wp2
          go_roundw
          case rel =>
            refine ⟨_, _, hrg2.alloc _, fun j x hx hl => ?_, hbw2.alloc hbw2.size _⟩
            by_cases e : j = i
            · subst e
              rw [hfi] at hx
              injection hx with hx
              subst hx
              exact Hyt.out
            · refine hno j x hx ?_
              simpa [e] using hl
          case measure =>
            have := (hrg2.alloc (.cells #[.int .u64 (yi : Nat), .int .u64 (yt : Nat), .int .i64 ya, .int .i64 ys, .bool yf] 130)).left_eq
            rw [this, hleft]
            exact hlt
end Go.Proofs.Ytppfjdohajomoaa
