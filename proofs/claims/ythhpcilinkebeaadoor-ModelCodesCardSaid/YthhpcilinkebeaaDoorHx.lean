/- The abstract array: volumes made, dropped, grown, copied, trimmed. PRINTED by tools/hx.py. -/
import Derived.Test.YthhpcilinkebeaaDoorHw
namespace Go.Proofs.YthhpcilinkebeaaDoor
open Go.RowKit Go.Maps
set_option maxHeartbeats 4000000
set_option maxRecDepth 100000

section
variable {w : World} {A M block quota : Nat} {ms : List VM}
theorem make_any (h : ArrAt w A M block quota ms) (o : OM) (hok : o.ok w) {n : Nat} (hn : o.n = (n : Int)) (hn2 : n ≤ 1048576) (hnew : getM ms (strB o.name) = none) (hlen : ms.length + 1 ≤ 1024) (hq : usedM ms + n ≤ quota) :
    Calls Tryd.prog 40 #[.pointer (some ⟨A, 0, none⟩), o.val] w fun e w' => e = .returned (.agg zAns) ∧ TurnP w w' A M block quota ms (putV (volsM ms) (strB o.name) ⟨n, false, fun _ => none⟩) := by
  have hb0 := (Below.refl w.heap.size w).alloc (Nat.le_refl _) (.cells o.cells.toArray 33)
  have hb1 := hb0.alloc hb0.size (.cells zAns 36)
  have hO := (Blk.new w 33 o.cells.toArray).alloc (.cells zAns 36)
  have hR := Blk.new (w.alloc (.cells o.cells.toArray 33)) 36 zAns
  have h1 := h.below hb1
  have hok1 := hok.below hb1
  have hsz : (w.alloc (.cells o.cells.toArray 33)).heap.size = w.heap.size + 1 := by simp
  rw [hsz] at hR
  clear hsz
  have hov : o.val = .agg o.cells.toArray := rfl
  rw [hov]
  go_enter Tryd.func40, Tryd.ntmps40
  go_upto_region 1 with fail
  refine regMk1 h1 hO hok1 hn hn2 hnew hlen hq ?_
  intro w2 _ _ _ _ _ _ _ _ _ _ _ ⟨V, Bm, hA2, hV, hB⟩ hc2
  have hcF : Chg (Foot M ms) _ w2 := hc2.mono fun k _ e => .inl e
  have hvol := putM_vv ms ⟨strB o.name, V, Bm, n, false, fun _ => none⟩
  have hfoot : ∀ k, Foot M (putM ms ⟨strB o.name, V, Bm, n, false, fun _ => none⟩) k → Foot M ms k ∨ w.heap.size ≤ k := fun k hk => (Foot.put h.sorted hk).imp id fun e => by
    have := hb1.size
    rcases e with e | e <;> (rw [e]; first | exact Nat.le_trans this hV | exact Nat.le_trans this hB)
  have hnR : ¬ Foot M ms (w.heap.size + 1) := h1.not hR.has (by decide)
  have hR2 : Blk w2 (w.heap.size + 1) 36 #[.int .i64 0, .slice none 0 0, .slice none 0 0] := hR.keep hcF hnR
  have r0 := hR2.cell 0
  have r1 := hR2.cell 1
  have r2 := hR2.cell 2
  have f0 := hR2.frozen 0
  have f1 := hR2.frozen 1
  have f2 := hR2.frozen 2
  have hA3 := hA2.answer ((Chg.of_below hb1).trans hcF) hR2 (Nat.le_succ _) (.int .i64 0) (.slice none 0 0) (.slice none 0 0)
  clear hc2
  go_wp2_with fail
  exact ans_end rfl rfl (Blk.setA hR2 _ _ _) ⟨rfl, _, ⟨hA3.1, hvol, hA3.2, hfoot⟩⟩
theorem drop_any (h : ArrAt w A M block quota ms) (o : OM) (hok : o.ok w)  :
    Calls Tryd.prog 41 #[.pointer (some ⟨A, 0, none⟩), o.val] w fun e w' => e = .returned (.agg zAns) ∧ TurnP w w' A M block quota ms (delV (volsM ms) (strB o.name)) := by
  have hb0 := (Below.refl w.heap.size w).alloc (Nat.le_refl _) (.cells o.cells.toArray 33)
  have hb1 := hb0.alloc hb0.size (.cells zAns 36)
  have hO := (Blk.new w 33 o.cells.toArray).alloc (.cells zAns 36)
  have hR := Blk.new (w.alloc (.cells o.cells.toArray 33)) 36 zAns
  have h1 := h.below hb1
  have hok1 := hok.below hb1
  have hsz : (w.alloc (.cells o.cells.toArray 33)).heap.size = w.heap.size + 1 := by simp
  rw [hsz] at hR
  clear hsz
  have hov : o.val = .agg o.cells.toArray := rfl
  rw [hov]
  go_enter Tryd.func41, Tryd.ntmps41
  go_upto_region 1 with fail
  refine regDr1 h1 hO hok1 ?_
  intro w2 _ _ _ _ _ _ hA2 hc2
  have hcF : Chg (Foot M ms) _ w2 := hc2.mono fun k _ e => .inl e
  have hvol := delM_vv ms (strB o.name)
  have hfoot : ∀ k, Foot M (delM ms (strB o.name)) k → Foot M ms k ∨ w.heap.size ≤ k := fun k hk => .inl (Foot.del hk)
  have hnR : ¬ Foot M ms (w.heap.size + 1) := h1.not hR.has (by decide)
  have hR2 : Blk w2 (w.heap.size + 1) 36 #[.int .i64 0, .slice none 0 0, .slice none 0 0] := hR.keep hcF hnR
  have r0 := hR2.cell 0
  have r1 := hR2.cell 1
  have r2 := hR2.cell 2
  have f0 := hR2.frozen 0
  have f1 := hR2.frozen 1
  have f2 := hR2.frozen 2
  have hA3 := hA2.answer ((Chg.of_below hb1).trans hcF) hR2 (Nat.le_succ _) (.int .i64 0) (.slice none 0 0) (.slice none 0 0)
  clear hc2
  go_wp2_with fail
  exact ans_end rfl rfl (Blk.setA hR2 _ _ _) ⟨rfl, _, ⟨hA3.1, hvol, hA3.2, hfoot⟩⟩
theorem grow_any (h : ArrAt w A M block quota ms) (o : OM) (hok : o.ok w) {m : VM} {n : Nat} (hm : getM ms (strB o.name) = some m) (hn : o.n = (n : Int)) (h1n : m.size ≤ n) (hn2 : n ≤ 1048576) (hq : usedM ms + n ≤ quota + m.size) :
    Calls Tryd.prog 46 #[.pointer (some ⟨A, 0, none⟩), o.val] w fun e w' => e = .returned (.agg zAns) ∧ TurnP w w' A M block quota ms (putV (volsM ms) (strB o.name) { m.vv with size := n }) := by
  have hb0 := (Below.refl w.heap.size w).alloc (Nat.le_refl _) (.cells o.cells.toArray 33)
  have hb1 := hb0.alloc hb0.size (.cells zAns 36)
  have hO := (Blk.new w 33 o.cells.toArray).alloc (.cells zAns 36)
  have hR := Blk.new (w.alloc (.cells o.cells.toArray 33)) 36 zAns
  have h1 := h.below hb1
  have hok1 := hok.below hb1
  have hsz : (w.alloc (.cells o.cells.toArray 33)).heap.size = w.heap.size + 1 := by simp
  rw [hsz] at hR
  clear hsz
  have hov : o.val = .agg o.cells.toArray := rfl
  rw [hov]
  go_enter Tryd.func46, Tryd.ntmps46
  go_upto_region 1 with fail
  refine regGr1 h1 hO hok1 hm hn h1n hn2 hq ?_
  intro w2 _ _ _ _ _ _ _ _ _ _ _ hA2 hc2
  obtain ⟨hmem, hnm⟩ := getM_mem hm
  have hcF : Chg (Foot M ms) _ w2 := hc2.mono fun k _ e => .inr ⟨m, hmem, .inl e⟩
  have hvol := putM_vv ms { m with size := n }
  have hfoot : ∀ k, Foot M (putM ms { m with size := n }) k → Foot M ms k ∨ w.heap.size ≤ k := fun k hk => .inl ((Foot.put h.sorted hk).elim id fun e => .inr ⟨m, hmem, e⟩)
  replace hvol := Eq.trans hvol (congrArg (fun s => putV (volsM ms) s { m.vv with size := n }) hnm)
  have hnR : ¬ Foot M ms (w.heap.size + 1) := h1.not hR.has (by decide)
  have hR2 : Blk w2 (w.heap.size + 1) 36 #[.int .i64 0, .slice none 0 0, .slice none 0 0] := hR.keep hcF hnR
  have r0 := hR2.cell 0
  have r1 := hR2.cell 1
  have r2 := hR2.cell 2
  have f0 := hR2.frozen 0
  have f1 := hR2.frozen 1
  have f2 := hR2.frozen 2
  have hA3 := hA2.answer ((Chg.of_below hb1).trans hcF) hR2 (Nat.le_succ _) (.int .i64 0) (.slice none 0 0) (.slice none 0 0)
  clear hc2
  go_wp2_with fail
  exact ans_end rfl rfl (Blk.setA hR2 _ _ _) ⟨rfl, _, ⟨hA3.1, hvol, hA3.2, hfoot⟩⟩
theorem trim_any (h : ArrAt w A M block quota ms) (o : OM) (hok : o.ok w) {m : VM} (hm : getM ms (strB o.name) = some m) (h0 : 0 ≤ o.at_) (hn : 0 ≤ o.n) (hs : o.at_ + o.n ≤ 9223372036854775807) :
    Calls Tryd.prog 44 #[.pointer (some ⟨A, 0, none⟩), o.val] w fun e w' => e = .returned (.agg zAns) ∧ TurnP w w' A M block quota ms (putV (volsM ms) (strB o.name) { m.vv with cells := fun i => if o.at_ ≤ i ∧ i < o.at_ + o.n then none else m.vv.cells i }) := by
  have hb0 := (Below.refl w.heap.size w).alloc (Nat.le_refl _) (.cells o.cells.toArray 33)
  have hb1 := hb0.alloc hb0.size (.cells zAns 36)
  have hO := (Blk.new w 33 o.cells.toArray).alloc (.cells zAns 36)
  have hR := Blk.new (w.alloc (.cells o.cells.toArray 33)) 36 zAns
  have h1 := h.below hb1
  have hok1 := hok.below hb1
  have hsz : (w.alloc (.cells o.cells.toArray 33)).heap.size = w.heap.size + 1 := by simp
  rw [hsz] at hR
  clear hsz
  have hov : o.val = .agg o.cells.toArray := rfl
  rw [hov]
  go_enter Tryd.func44, Tryd.ntmps44
  go_upto_region 1 with fail
  refine regTr1 h1 hO hok1 hm h0 hn hs ?_
  intro w2 _ _ _ _ _ _ _ _ _ _ _ _ hA2 hc2
  obtain ⟨hmem, hnm⟩ := getM_mem hm
  have hcF : Chg (Foot M ms) _ w2 := hc2.mono fun k _ e => .inr ⟨m, hmem, .inr e⟩
  have hvol := putM_vv ms { m with g := fun i => if inT o i then none else m.g i }
  have hfoot : ∀ k, Foot M (putM ms { m with g := fun i => if inT o i then none else m.g i }) k → Foot M ms k ∨ w.heap.size ≤ k := fun k hk => .inl ((Foot.put h.sorted hk).elim id fun e => .inr ⟨m, hmem, e⟩)
  have hce : (VM.vv { m with g := fun i => if inT o i then none else m.g i }) = { m.vv with cells := fun i => if o.at_ ≤ i ∧ i < o.at_ + o.n then none else m.vv.cells i } := by
    unfold VM.vv
    congr 1
    funext i
    unfold inT
    by_cases hi : o.at_ ≤ i ∧ i < o.at_ + o.n <;> simp [hi]
  rw [hce] at hvol
  replace hvol := Eq.trans hvol (congrArg (fun s => putV (volsM ms) s { m.vv with cells := fun i => if o.at_ ≤ i ∧ i < o.at_ + o.n then none else m.vv.cells i }) hnm)
  have hnR : ¬ Foot M ms (w.heap.size + 1) := h1.not hR.has (by decide)
  have hR2 : Blk w2 (w.heap.size + 1) 36 #[.int .i64 0, .slice none 0 0, .slice none 0 0] := hR.keep hcF hnR
  have r0 := hR2.cell 0
  have r1 := hR2.cell 1
  have r2 := hR2.cell 2
  have f0 := hR2.frozen 0
  have f1 := hR2.frozen 1
  have f2 := hR2.frozen 2
  have hA3 := hA2.answer ((Chg.of_below hb1).trans hcF) hR2 (Nat.le_succ _) (.int .i64 0) (.slice none 0 0) (.slice none 0 0)
  clear hc2
  go_wp2_with fail
  exact ans_end rfl rfl (Blk.setA hR2 _ _ _) ⟨rfl, _, ⟨hA3.1, hvol, hA3.2, hfoot⟩⟩
theorem copy_any (h : ArrAt w A M block quota ms) (o : OM) (hok : o.ok w) {m : VM} (hm : getM ms (strB o.name) = some m) (hnew : getM ms (strB o.dst) = none) (hlen : ms.length + 1 ≤ 1024) (hq : usedM ms + m.size ≤ quota) :
    Calls Tryd.prog 45 #[.pointer (some ⟨A, 0, none⟩), o.val] w fun e w' => e = .returned (.agg zAns) ∧ TurnP w w' A M block quota ms (putV (volsM ms) (strB o.dst) { m.vv with snap := decide (o.kind = 6) }) := by
  have hb0 := (Below.refl w.heap.size w).alloc (Nat.le_refl _) (.cells o.cells.toArray 33)
  have hb1 := hb0.alloc hb0.size (.cells zAns 36)
  have hO := (Blk.new w 33 o.cells.toArray).alloc (.cells zAns 36)
  have hR := Blk.new (w.alloc (.cells o.cells.toArray 33)) 36 zAns
  have h1 := h.below hb1
  have hok1 := hok.below hb1
  have hsz : (w.alloc (.cells o.cells.toArray 33)).heap.size = w.heap.size + 1 := by simp
  rw [hsz] at hR
  clear hsz
  have hov : o.val = .agg o.cells.toArray := rfl
  rw [hov]
  go_enter Tryd.func45, Tryd.ntmps45
  obtain ⟨hmem, hnm⟩ := getM_mem hm
  go_upto_region 1 with fail
  refine regCp1 h1 hO hok1 hm ?_
  intro wd _ _ _ _ _ _ _ hwd
  subst hwd
  have hbd := (Below.refl ((w.alloc (.cells o.cells.toArray 33)).alloc (.cells zAns 36)).heap.size ((w.alloc (.cells o.cells.toArray 33)).alloc (.cells zAns 36))).drew
  have h1d := h1.below hbd
  have hOd := hO.below' hbd
  have hokd := hok1.below hbd
  go_upto_region 2 with fail
  refine regCp2 h1d hOd hokd hmem rfl hnew hlen hq ?_
  intro w2 _ _ _ _ _ _ _ _ _ _ _ _ _ _ _ _ _ _ _ _ ⟨V, Bm, hA2, hV, hB⟩ hc2
  have hcF : Chg (Foot M ms) _ w2 := ((Chg.refl (Foot M ms) _).drew).trans (hc2.mono fun k _ e => .inl e)
  have hvol := putM_vv ms ⟨strB o.dst, V, Bm, m.size, decide (o.kind = 6), m.g⟩
  have hfoot : ∀ k, Foot M (putM ms ⟨strB o.dst, V, Bm, m.size, decide (o.kind = 6), m.g⟩) k → Foot M ms k ∨ w.heap.size ≤ k := fun k hk => (Foot.put h.sorted hk).imp id fun e => by
    have := hb1.size
    rcases e with e | e <;> (rw [e]; first | exact Nat.le_trans this hV | exact Nat.le_trans this hB)
  have hnR : ¬ Foot M ms (w.heap.size + 1) := h1.not hR.has (by decide)
  have hR2 : Blk w2 (w.heap.size + 1) 36 #[.int .i64 0, .slice none 0 0, .slice none 0 0] := hR.keep hcF hnR
  have r0 := hR2.cell 0
  have r1 := hR2.cell 1
  have r2 := hR2.cell 2
  have f0 := hR2.frozen 0
  have f1 := hR2.frozen 1
  have f2 := hR2.frozen 2
  have hA3 := hA2.answer ((Chg.of_below hb1).trans hcF) hR2 (Nat.le_succ _) (.int .i64 0) (.slice none 0 0) (.slice none 0 0)
  clear hc2
  go_wp2_with fail
  exact ans_end rfl rfl (Blk.setA hR2 _ _ _) ⟨rfl, _, ⟨hA3.1, hvol, hA3.2, hfoot⟩⟩
end
end Go.Proofs.YthhpcilinkebeaaDoor
