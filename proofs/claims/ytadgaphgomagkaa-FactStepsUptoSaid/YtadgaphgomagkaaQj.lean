/- CompactFunc over facts: the row without doubles. -/
import Derived.Test.YtadgaphgomagkaaQi
namespace Go.Proofs.Ytadgaphgomagkaa
open Go.RowKit
set_option maxHeartbeats 8000000
set_option maxRecDepth 100000

theorem Blk.setCells {g : Nat} {t : TypeId} : ∀ (L : List Value) (o : Nat) (W : World) (cur : Array Value), Blk W g t cur → ∃ cur', Blk (W.setCells g o L) g t cur' ∧ cur'.size = cur.size ∧ (∀ j, j < o → cur'[j]? = cur[j]?) ∧ But g W (W.setCells g o L)
  | [], o, W, cur, h => ⟨cur, h, rfl, fun _ _ => rfl, But.refl _ _⟩
  | v :: r, o, W, cur, h => by
    obtain ⟨cur', h1, h2, h3, h4⟩ := Blk.setCells r (o + 1) (W.setCell ⟨g, o, none⟩ v) _ (h.set o v)
    refine ⟨cur', h1, by rw [h2]; simp, fun j hj => ?_, (But.set g o W v).trans h4⟩
    rw [h3 j (by omega), Array.getElem?_setIfInBounds]
    rw [if_neg (by omega)]
/-- a row's tail is cleared: its front stands -/
theorem Arr.front {W : World} {g N n k : Nat} {f : Nat → FM} (h : Arr W g N n f) (hk : k ≤ n) : Arr W g N k f := by
  obtain ⟨cur, h1, h2, h3, h4⟩ := h.ex
  refine ⟨cur, h1, h2, by omega, ?_⟩
  have e : cur.toList.take (k * 3) = (cur.toList.take (n * 3)).take (k * 3) := by rw [List.take_take, Nat.min_eq_left (by omega)]
  rw [e, h4, show n = k + (n - k) by omega, Lf_add]
  have e2 : fcells (Lf f 0 k ++ Lf f (0 + k) (n - k)) = fcells (Lf f 0 k) ++ fcells (Lf f (0 + k) (n - k)) := by simp [fcells]
  rw [e2, List.take_append_of_le_length (by rw [fcells_length, Lf_length]; omega), List.take_of_length_le (by rw [fcells_length, Lf_length]; omega)]
theorem Arr.tail {W : World} {g N k o : Nat} {f : Nat → FM} (h : Arr W g N k f) (ho : k * 3 ≤ o) (L : List Value) : Arr (W.setCells g o L) g N k f ∧ But g W (W.setCells g o L) := by
  obtain ⟨cur, h1, h2, h3, h4⟩ := h.ex
  obtain ⟨cur', c1, c2, c3, c4⟩ := Blk.setCells L o W cur h1
  refine ⟨⟨cur', c1, by rw [c2, h2], h3, ?_⟩, c4⟩
  rw [← h4]
  apply List.ext_getElem?
  intro j
  rw [List.getElem?_take, List.getElem?_take]
  split
  · rw [Array.getElem?_toList, Array.getElem?_toList, c3 j (by omega)]
  · rfl
def zeroF : List Value := [.string ⟨#[]⟩, .int .u64 0, .slice none 0 0]
theorem clear_facts {W : World} {g N n k c : Nat} {f : Nat → FM} (h : Arr W g N n f) (hk : k < n) (ty : TypeId) :
    ∃ L, (Builtin.clear_ #[56] ty #[.slice (some ⟨g, k * 3, none⟩) (n - k) c]).run Try.prog W = .ok (.tuple #[]) (W.setCells g (k * 3) L) := by
  obtain ⟨cur, hb, hs, hn, _⟩ := h.ex
  have hz : ∀ w, (zeroValue 71).run Try.prog w = .ok (.agg #[.string ⟨#[]⟩, .int .u64 0, .slice none 0 0]) w := fun w => by kernel_rfl
  obtain ⟨L, hL⟩ : ∃ L, (Builtin.zeroCells #[.string ⟨#[]⟩, .int .u64 0, .slice none 0 0] (n - k)).toList = L := ⟨_, rfl⟩
  have hlen : L.length = (n - k) * 3 := by rw [← hL]; simp [Builtin.zeroCells]
  have hone : ∀ v ∈ L, v.oneCell' = true := fun v hv => by
    rw [← hL] at hv
    obtain ⟨i, hi, rfl⟩ := List.mem_iff_getElem.1 hv
    simp only [Builtin.zeroCells, Array.getElem_toList, Array.getElem_map, Array.getElem_range]
    have : i % 3 = 0 ∨ i % 3 = 1 ∨ i % 3 = 2 := by omega
    rcases this with e | e | e <;> simp [e, Value.oneCell']
  have hst := run_storeCells_cells (P := Try.prog) g (k * 3) L 0 W (fun j hj => by
    rw [Nat.add_zero, hb.cell, Array.getElem?_eq_getElem (by omega)]; rfl) (fun j _ => hb.frozen _) hone
  rw [Nat.add_zero] at hst
  refine ⟨L, ?_⟩
  obtain ⟨m, hm⟩ : ∃ m, n - k = m + 1 := ⟨n - k - 1, by omega⟩
  rw [hm] at hL ⊢
  simp [Builtin.clear_, run_underlying Try.underlying56, hz, Value.cells, hL, hst]
theorem compact_any (g N n c : Nat) (f : Nat → FM) (w : World) (hA : Arr w g N n f) (hnc : n ≤ c) (hn : n ≤ 1099511627776) :
    Calls Try.prog 91 #[.slice (some ⟨g, 0, none⟩) n c, .func (.func 92) #[] #[]] w fun e w' => e = .returned (.slice (some ⟨g, 0, none⟩) (cpt f n).length c) ∧ (∃ h, Arr w' g N (cpt f n).length h ∧ Lf h 0 (cpt f n).length = cpt f n) ∧ But g w w' := by
  go_enter Try.func91, Try.ntmps91
  by_cases h2 : n < 2
  · have r1 : (n : Int) < 2 := by omega
    have hall : cpt f n = Lf f 0 n := cpt_all f n fun i hi => by
      have : i = 0 := by omega
      subst this
      rfl
    have hln : (cpt f n).length = n := by rw [hall, Lf_length]
    have HL := Lib.hid hln
    clear hln h2
    go_wp2_with fail
    go_ret
    rw [HL.out]
    exact ⟨rfl, ⟨f, hA, hall.symm⟩, But.refl _ _⟩
  · have r1 : ¬ (n : Int) < 2 := by omega
    go_wp2_with fail
    go_loopg [5, 6, 7] (n - 1) (fun m s5 s6 s7 wr => ∃ k : Nat, m = n - (k + 1) ∧ k + 1 ≤ n ∧ s5 = .int .i64 ((k + 1 : Nat) : Nat) ∧ Arr wr g N n f ∧ (∀ i, i < k + 1 → keepAt f i = true) ∧ But g w wr)
    case atStart => exact ⟨0, rfl, by omega, rfl, hA, (fun i hi => by
      obtain rfl : i = 0 := by omega
      rfl), But.refl _ _⟩
    case round =>
      obtain ⟨k, rfl, hk, rfl, hAk, hkp, hbt⟩ := hrel
      by_cases hlt : k + 1 < n
      · have r2 : (((k + 1 : Nat) : Int)) < (n : Int) := by omega
        go_wp2_with fail
        refine regCf6 hAk.drew hlt hn ?_
        intro w2 _ _ _ _ _ _ _ _ _ _ hb2
        have hA2 := hAk.below hb2
        have hbt2 := hbt.trans (But.below hb2)
        cases hc : eqF (f (k + 1)) (f k) with
        | false =>
          go_wp2_with fail
          go_roundg (n - (k + 1 + 1))
          case measure => omega
          case rel => exact ⟨k + 1, rfl, by omega, by go_num, hA2, fun i hi => by
            rcases Nat.lt_or_ge i (k + 1) with h | h
            · exact hkp i h
            · obtain rfl : i = k + 1 := by omega
              unfold keepAt
              rw [Nat.add_sub_cancel, hc]
              simp, hbt2⟩
        | true =>
          have hcp : cpt f (k + 2) = Lf f 0 (k + 1) := by
            rw [cpt, cpt_all f (k + 1) hkp, if_neg (by unfold keepAt; rw [Nat.add_sub_cancel, hc]; simp), List.append_nil]
          clear hAk hbt hb2 hkp hc
          generalize hK : k + 1 = K at *
          have HC := Lib.hid hcp
          have hk2 : k + 2 = K + 1 := by omega
          rw [hk2] at HC
          clear hcp hk2 r2
          go_wp2_with fail
          generalize w2 = w0 at *
          go_loopg [5, 7] (n - K - 1) (fun m s5 s7 wr => ∃ (t o : Nat) (h : Nat → FM), m = n - K - (t + 1) ∧ K + (t + 1) ≤ n ∧ s5 = .int .i64 (o : Nat) ∧ s7 = .int .i64 ((t + 1 : Nat) : Nat) ∧ Arr wr g N n h ∧ Lf h 0 o = cpt f (K + (t + 1)) ∧ o ≤ K + t ∧ (∀ i, o ≤ i → i < n → h i = f i) ∧ But g w wr)
          case atStart => exact ⟨0, K, f, by omega, by omega, rfl, rfl, hA2, HC.out.symm, by omega, fun _ _ _ => rfl, hbt2⟩
          case round =>
            obtain ⟨t, o, h, rfl, htn, rfl, rfl, hAh, hout, hot, hrest, hbt⟩ := hrel
            by_cases hlt2 : t + 1 < n - K
            · have r3 : (((t + 1 : Nat) : Int)) < ((n - K : Nat) : Int) := by omega
              go_wp2_with fail
              refine regCf11 (q := K) (m := n - K) (c := c - K) hAh.drew hlt2 (by omega) hn ?_
              intro w3 _ _ _ _ _ _ _ _ _ _ _ hb3
              have hA3 := hAh.below hb3
              have hbt3 := hbt.trans (But.below hb3)
              rw [hrest (K + (t + 1)) (by omega) (by omega), hrest (K + t) (by omega) (by omega)]
              cases hc : eqF (f (K + (t + 1))) (f (K + t)) with
              | true =>
                have hkeep : cpt f (K + (t + 1 + 1)) = cpt f (K + (t + 1)) := by
                  rw [show K + (t + 1 + 1) = K + (t + 1) + 1 by omega, cpt, if_neg (by unfold keepAt; rw [show K + (t + 1) - 1 = K + t by omega, hc]; simp), List.append_nil]
                simp only [Bool.not_true]
                go_wp2_with fail
                go_roundg (n - K - (t + 1 + 1))
                case measure => omega
                case rel => exact ⟨t + 1, o, h, rfl, by omega, rfl, by go_num, hA3, by rw [hkeep]; exact hout, by omega, hrest, hbt3⟩
              | false =>
                have hkeep : cpt f (K + (t + 1 + 1)) = cpt f (K + (t + 1)) ++ [f (K + (t + 1))] := by
                  rw [show K + (t + 1 + 1) = K + (t + 1) + 1 by omega, cpt, if_pos (by unfold keepAt; rw [show K + (t + 1) - 1 = K + t by omega, hc]; simp)]
                simp only [Bool.not_false]
                have hcl := hA3.cells (K + (t + 1)) (by omega)
                have hco := hA3.cells o (by omega)
                have hput := hA3.put o (by omega) (f (K + (t + 1)))
                rw [hrest (K + (t + 1)) (by omega) (by omega)] at hcl
                have hout2 : Lf (upd h o (f (K + (t + 1)))) 0 (o + 1) = cpt f (K + (t + 1 + 1)) := by
                  rw [hkeep, ← hout, Lf_add]
                  congr 1
                  · exact Lf_congr fun k hk => by unfold upd; rw [if_neg (by omega)]
                  · simp [Lf, upd]
                have hrest2 : ∀ i, o + 1 ≤ i → i < n → upd h o (f (K + (t + 1))) i = f i := fun i h1 h2 => by
                  unfold upd
                  rw [if_neg (by omega)]
                  exact hrest i (by omega) h2
                generalize f (K + (t + 1)) = F at *
                generalize h o = G at *
                have a0 : ∀ (j v), F.cells[j]? = some v → w3.cell? ⟨g, K * 3 + (t + 1) * 3 + j, none⟩ = some v := fun j v hv => by
                  have := hcl j v hv
                  have e : (⟨g, (K + (t + 1)) * 3, none⟩ : Addr).add j = ⟨g, K * 3 + (t + 1) * 3 + j, none⟩ := by
                    have : (K + (t + 1)) * 3 + j = K * 3 + (t + 1) * 3 + j := by omega
                    unfold Addr.add
                    split
                    · rename_i h0; subst h0; simp only [Addr.mk.injEq, and_true, true_and]; exact this
                    · simp only [Addr.mk.injEq, and_true, true_and]; exact this
                  rwa [e] at this
                have l0 := a0 0 _ rfl
                have l1 := a0 1 _ rfl
                have l2 := a0 2 _ rfl
                rw [Nat.add_zero] at l0
                have s0 : w3.cell? ⟨g, o * 3, none⟩ = some (.string G.k) := by simpa [Addr.add] using hco 0 _ rfl
                have s1 : w3.cell? ⟨g, o * 3 + 1, none⟩ = some (.int .u64 (G.s : Nat)) := by simpa [Addr.add] using hco 1 _ rfl
                have s2 : w3.cell? ⟨g, o * 3 + 2, none⟩ = some (.slice G.A G.l.length G.c) := by simpa [Addr.add] using hco 2 _ rfl
                obtain ⟨cur, hbk, _⟩ := hA3.ex
                have z0 := hbk.frozen (o * 3)
                have z1 := hbk.frozen (o * 3 + 1)
                have z2 := hbk.frozen (o * 3 + 2)
                have ew : w3.setCells g (o * 3) F.cells = ((w3.setCell ⟨g, o * 3, none⟩ (.string F.k)).setCell ⟨g, o * 3 + 1, none⟩ (.int .u64 (F.s : Nat))).setCell ⟨g, o * 3 + 2, none⟩ (.slice F.A F.l.length F.c) := rfl
                rw [ew] at hput
                have r4 : (o : Int) < (n : Int) := by omega
                have r5 : (0 : Int) ≤ (o : Int) := by omega
                have e9 : IntKind.i64.wrap ((o : Int) + 1) = ((o + 1 : Nat) : Int) := by rw [IntWalk.i64_in _ (by omega)]; omega
                clear hcl hco a0 ew hbk hkeep
                go_wp2_with fail
                go_roundg (n - K - (t + 1 + 1))
                case measure => omega
                case rel => exact ⟨t + 1, o + 1, _, rfl, by omega, by go_num, by go_num, hput.1, hout2, by omega, hrest2, hbt3.trans hput.2⟩
            · have r3 : ¬ (((t + 1 : Nat) : Int)) < ((n - K : Nat) : Int) := by omega
              have hP : K + (t + 1) = n := by omega
              rw [hP] at hout
              have hln : (cpt f n).length = o := by rw [← hout, Lf_length]
              obtain ⟨L, hclr⟩ : ∃ L, ∀ ty, (Builtin.clear_ #[56] ty #[.slice (some ⟨g, o * 3, none⟩) (n - o) (c - o)]).run Try.prog wr = .ok (.tuple #[]) (wr.setCells g (o * 3) L) := by
                obtain ⟨L, hL⟩ := clear_facts (c := c - o) hAh (show o < n by omega) 0
                exact ⟨L, fun ty => by rw [← hL]; rfl⟩
              have htl := (hAh.front (show o ≤ n by omega)).tail (Nat.le_refl _) L
              have HL := Lib.hid hln
              clear hln
              have r4 : (o : Int) ≤ (n : Int) := by omega
              have r5 : (0 : Int) ≤ (o : Int) := by omega
              go_wp2_with fail
              go_ret
              rw [HL.out]
              exact ⟨rfl, ⟨h, htl.1, hout⟩, hbt.trans htl.2⟩
      · have r2 : ¬ (((k + 1 : Nat) : Int)) < (n : Int) := by omega
        obtain rfl : n = k + 1 := by omega
        have hall : cpt f (k + 1) = Lf f 0 (k + 1) := cpt_all f (k + 1) hkp
        have hln : (cpt f (k + 1)).length = k + 1 := by rw [hall, Lf_length]
        have HL := Lib.hid hln
        have HA := Lib.hid hall
        clear hln h2 hall
        go_wp2_with fail
        go_ret
        rw [HL.out]
        exact ⟨rfl, ⟨f, hAk, HA.out.symm⟩, hbt⟩
end Go.Proofs.Ytadgaphgomagkaa
