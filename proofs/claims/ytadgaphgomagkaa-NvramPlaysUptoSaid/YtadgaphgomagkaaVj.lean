/- The reference's device: bytes written. -/
import Derived.Test.YtadgaphgomagkaaVi
namespace Go.Proofs.Ytadgaphgomagkaa
open Go.RowKit
set_option maxHeartbeats 8000000
set_option maxRecDepth 100000

theorem slPut : SlT Try.prog 46 50 (.agg #[.int .i64 0, .int .u8 0]) 2 16 := ⟨Try.underlying46, by kernel_rfl, rfl, by decide⟩
theorem refWrite_ok (w : World) (B R G : Nat) (kept : List UInt8) (L : List (Nat × UInt8)) (kA : Option Addr) (kc : Nat) (lA : Option Addr) (lc : Nat) (h : RfAt w B R G kept L kA kc lA lc) (hB : B ≤ w.heap.size) (a : Nat) (A : Option Addr) (c : Nat) (b : List UInt8) (hr : Rd w A (byts b)) (hA0 : b ≠ [] → ∀ ad, A = some ad → ad.block < B) (hL : L.length + b.length ≤ 2000000) (ha : a ≤ 67108864) :
    Calls Try.prog 20 #[.pointer (some ⟨R, 0, none⟩), .int .i64 (a : Nat), .slice A b.length c] w fun e w' => e = .returned (.tuple #[]) ∧ (∃ lA' lc', RfAt w' B R G kept (L ++ puts a b) kA kc lA' lc') ∧ ChgR B w w' := by
  have hGlt : R < w.heap.size := h.dev.lt
  go_enter Try.func20, Try.ntmps20
  go_wp2
  go_loopg [6] b.length (fun m s6 wr => ∃ (k : Nat) (lA : Option Addr) (lc : Nat), m = b.length - k ∧ k ≤ b.length ∧ s6 = .int .i64 (k : Nat) ∧ RfAt wr B R G kept (L ++ puts a (b.take k)) kA kc lA lc ∧ ChgR B w wr)
  case atStart => exact ⟨0, lA, lc, rfl, by omega, rfl, by simpa [puts] using h, ChgR.refl⟩
  case round =>
    clear h
    obtain ⟨k, lA, lc, rfl, hk, rfl, h, hch⟩ := hrel
    by_cases hlt : k < b.length
    · have r1 : (k : Int) < (b.length : Int) := by omega
      have hA : ∀ ad, A = some ad → ad.block < B := hA0 (by rintro rfl; simp at hlt)
      have hrw : Rd wr A (byts b) := hr.keepC hch fun ad e hs => by have := hA ad e; have := hs.1; omega
      obtain ⟨ad, rfl, _, hcell⟩ := hrw.at_ (k := k) (by simpa [byts] using hlt)
      clear hcell
      have hcW : ∀ W', Rd W' (some ad) (byts b) → W'.cell? (ad.add k) = some (.int .u8 (b[k].toNat : Nat)) := fun W' hW => by
        obtain ⟨ad2, e2, _, hc2⟩ := hW.at_ (k := k) (by simpa [byts] using hlt)
        injection e2 with e2
        subst e2
        simpa [byts, byt] using hc2
      have hsn := puts_snoc a b k hlt
      have hpl2 : (puts a (b.take k)).length = k := by rw [puts_length, List.length_take]; omega
      have hsL : L ++ puts a (b.take (k + 1)) = (L ++ puts a (b.take k)) ++ [(a + k, b[k])] := by rw [hsn, List.append_assoc]
      have hLk : (L ++ puts a (b.take k)).length ≤ 2000000 := by rw [List.length_append, hpl2]; omega
      clear hsn hpl2
      generalize L ++ puts a (b.take k) = Lk at *
      generalize b[k] = u at *
      have HS := Lib.hid hsL
      clear hsL
      have hBz : B ≤ wr.heap.size := Nat.le_trans hB hch.size
      have hF : ∀ j, (∃ ad, lA = some ad ∧ j = ad.block) → Has wr j 50 := by
        rintro j ⟨ad, e, rfl⟩
        exact own_has h.row ad e
      have facts : ∀ W', Chg (fun j => ∃ ad, lA = some ad ∧ j = ad.block) wr W' → W'.cell? ⟨R, 1, none⟩ = some (.slice lA Lk.length lc) ∧ W'.frozen? ⟨R, 1, none⟩ = false ∧ W'.cell? (ad.add k) = some (.int .u8 (u.toNat : Nat)) := fun W' hW => by
        have hD' := h.dev.keep hW fun hh => ((hF _ hh).ne h.dev.has (by decide)) rfl
        have hrW : Rd W' (some ad) (byts b) := hrw.keepC hW fun ad' e hs => by
          have h1 := hA ad' e
          obtain ⟨ad2, e2, e3⟩ := hs
          have := ((own_cap h.row).2.2 ad2 e2).1
          omega
        exact ⟨hD'.cell 1, hD'.frozen 1, hcW _ hrW⟩
      have hrow := h.row
      have HW := Lib.hid hcW
      have hwe : IntKind.i64.wrap ((a : Int) + (k : Int)) = ((a + k : Nat) : Int) := by rw [IntWalk.i64_in _ (by omega)]; omega
      have hwk : IntKind.i64.wrap ((k : Int) + 1) = ((k + 1 : Nat) : Int) := by rw [IntWalk.i64_in _ (by omega)]; omega
      generalize a + k = q at *
      have hfin : ∀ A7 c7 w7, w7.ownsRow B 50 2 (.slice A7 (Lk.length + 1) c7) (Lk.length + 1) (putCells Lk ++ [.int .i64 (q : Nat), .int .u8 (u.toNat : Nat)]) → Chg (fun j => ∃ ad, lA = some ad ∧ j = ad.block) wr w7 →
          RfAt (w7.setCell ⟨R, 1, none⟩ (.slice A7 (Lk.length + 1) c7)) B R G kept (L ++ puts a (b.take (k + 1))) kA kc A7 c7 ∧ ChgR B w (w7.setCell ⟨R, 1, none⟩ (.slice A7 (Lk.length + 1) c7)) := by
        intro A7 c7 w7 ho7 hc7
        have hcS : Chg (fun j => j = R ∨ ∃ ad, lA = some ad ∧ j = ad.block) wr (w7.setCell ⟨R, 1, none⟩ (.slice A7 (Lk.length + 1) c7)) := Chg.set (S := fun j => j = R ∨ ∃ ad, lA = some ad ∧ j = ad.block) (hc7.mono fun j _ hj => .inr hj) (.inl rfl) _ _
        have hcR : Chg (fun j => j = R) w7 (w7.setCell ⟨R, 1, none⟩ (.slice A7 (Lk.length + 1) c7)) := Chg.set (S := fun j => j = R) (Chg.refl _ _) rfl _ _
        have hD' := h.dev.keep hc7 fun hh => ((hF _ hh).ne h.dev.has (by decide)) rfl
        have no8 : ∀ j, Has wr j 5 → ¬ (j = R ∨ ∃ ad, lA = some ad ∧ j = ad.block) := by
          rintro j hj (rfl | hh)
          · exact (hj.ne h.dev.has (by decide)) rfl
          · exact (hj.ne (hF _ hh) (by decide)) rfl
        rw [HS.out]
        refine ⟨⟨?_, h.kep.keepC hcS fun ad' e => no8 _ (h.has ad' e).1, h.kcl, fun ad' e => ⟨(h.has ad' e).1.keep hcS (no8 _ (h.has ad' e).1), (h.has ad' e).2⟩, ?_, h.low⟩, hch.trans (ChgR.of hcS fun j _ hj => ?_)⟩
        · have := hD'.set 1 (.slice A7 (Lk.length + 1) c7)
          simpa using this
        · have h1 : w7.ownsRow B 50 2 (.slice A7 (Lk ++ [(q, u)]).length c7) (Lk ++ [(q, u)]).length (putCells (Lk ++ [(q, u)])) := by
            rw [putCells_append]
            simpa [putCells, byt] using ho7
          refine own_keepC h1 hcR fun g hg => ?_
          cases hA7 : A7 with
          | none => simp [hA7, Value.ownBlock] at hg
          | some ad7 =>
            simp [hA7, Value.ownBlock] at hg
            rw [← hg]
            exact (own_has ho7 ad7 hA7).ne hD'.has (by decide)
        · rcases hj with rfl | hh
          · exact ⟨h.low, _, .inl rfl, h.dev.has⟩
          · obtain ⟨ad2, e2, rfl⟩ := hh
            exact ⟨((own_cap h.row).2.2 ad2 e2).1, _, .inr rfl, hF _ ⟨ad2, e2, rfl⟩⟩
      have hrd : ∀ W : World, Rd (W.alloc (.cells #[.int .i64 (q : Nat), .int .u8 (u.toNat : Nat)] 50)) (some ⟨W.heap.size, 0, none⟩) [.int .i64 (q : Nat), .int .u8 (u.toNat : Nat)] := fun W => Rd.many W [.int .i64 (q : Nat), .int .u8 (u.toNat : Nat)] _
      obtain ⟨x1, x2, x3⟩ := facts wr.drew (Chg.drew (Chg.refl _ _))
      obtain ⟨y1, y2, y3⟩ := facts (wr.alloc (.cells #[.int .i64 (q : Nat), .int .u8 (u.toNat : Nat)] 50)).drew (Chg.drew (Chg.alloc (Chg.refl _ _) _))
      have hcA : Chg (fun j => ∃ ad, lA = some ad ∧ j = ad.block) wr (wr.alloc (.cells #[.int .i64 (q : Nat), .int .u8 (u.toNat : Nat)] 50)) := Chg.alloc (Chg.refl _ _) _
      have hgr : ∀ (w7 : World), w7.os = wr.os → w7.tape = wr.tape → w7.output = wr.output → (wr.alloc (.cells #[.int .i64 (q : Nat), .int .u8 (u.toNat : Nat)] 50)).heap.size ≤ w7.heap.size → (∀ j, j < (wr.alloc (.cells #[.int .i64 (q : Nat), .int .u8 (u.toNat : Nat)] 50)).heap.size → some j ≠ (Value.slice lA Lk.length lc).ownBlock → w7.heap[j]? = (wr.alloc (.cells #[.int .i64 (q : Nat), .int .u8 (u.toNat : Nat)] 50)).heap[j]?) → Chg (fun j => ∃ ad, lA = some ad ∧ j = ad.block) wr w7 := by
        intro w7 h1 h2 h3 h4 h5
        rw [World.size_alloc] at h4 h5
        refine ⟨h1, h2, h3, by omega, fun j hj hn => ?_⟩
        rw [h5 j (by omega) fun e => hn ?_]
        · exact (hcA.block j hj hn)
        · cases hlA : lA with
          | none => rw [hlA] at e; simp [Value.ownBlock] at e
          | some ad2 => rw [hlA] at e; simp [Value.ownBlock] at e; exact ⟨ad2, rfl, e⟩
      clear hcW h hch hF hrw HS hr hA
      go_upto_region 3 with fail
      go_region_law (refine step_app _ rfl _ _ rfl slPut B (.slice lA Lk.length lc) Lk.length (putCells Lk) rfl (hrow.alloc _) (some ⟨wr.heap.size, 0, none⟩) 1 1 [.int .i64 (q : Nat), .int .u8 (u.toNat : Nat)] rfl rfl (hrd wr) (by simp [Value.oneCell']) (by unfold maxLen; omega) (by omega) (by simp; omega) ?_; intro A7 c7 w7 ho7 hg7; obtain ⟨v1, v2, v3⟩ := facts w7 (hgr w7 hg7.grown.os hg7.grown.tape hg7.grown.output hg7.grown.size hg7.grown.block))
      all_goals (go_wp2_with fail; go_roundg (b.length - (k + 1)); (case measure => omega); (case rel =>
        obtain ⟨f1, f2⟩ := hfin A7 c7 w7 ho7 (hgr w7 hg7.grown.os hg7.grown.tape hg7.grown.output hg7.grown.size hg7.grown.block)
        first
          | exact ⟨k + 1, A7, c7, rfl, by omega, by go_num, f1, f2⟩
          | exact ⟨k + 1, A7, c7, rfl, by omega, by go_num, f1.below (Below.refl _ _).drew, f2.below (Below.refl _ _).drew⟩))
    · obtain rfl : k = b.length := by omega
      have r1 : ¬ (b.length : Int) < (b.length : Int) := by omega
      rw [List.take_length] at h
      go_wp2_with fail
      go_end0
      exact ⟨rfl, ⟨lA, lc, h⟩, hch⟩
end Go.Proofs.Ytadgaphgomagkaa
