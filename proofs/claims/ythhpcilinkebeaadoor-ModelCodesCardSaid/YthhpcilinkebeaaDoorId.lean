/- The abstract array: each operation by what the value model says. -/
import Derived.Test.YthhpcilinkebeaaDoorIc
import Derived.Test.YthhpcilinkebeaaDoorHx
import Derived.Test.YthhpcilinkebeaaDoorHz
import Derived.Test.YthhpcilinkebeaaDoorIa
import Derived.Test.YthhpcilinkebeaaDoorHm
namespace Go.Proofs.YthhpcilinkebeaaDoor
open Go.RowKit Go.Maps
set_option maxHeartbeats 4000000
set_option maxRecDepth 100000

/-- an answer in memory -/
def AnsAt (w w' : World) (v : Value) (a : AnV) : Prop := ∃ B c D c2, v = .agg #[.int .i64 (a.err : Nat), .slice B a.data.length c, .slice D a.vols.length c2] ∧ FreshB w w' B c a.data ∧ w'.ownsRow w.heap.size 47 4 (.slice D a.vols.length c2) a.vols.length (a.vols.flatMap volC)
def DoPost (w : World) (A M block quota : Nat) (ms : List VM) (r : AnV × AV) (e : Ending) (w' : World) : Prop := ∃ v, e = .returned v ∧ AnsAt w w' v r.1 ∧ TurnP w w' A M block quota ms r.2.vols
theorem ansZ (w w' : World) (e : Nat) : AnsAt w w' (.agg #[.int .i64 (e : Nat), .slice none 0 0, .slice none 0 0]) ⟨e, [], []⟩ :=
  ⟨none, 0, none, 0, rfl, ⟨fun h => absurd rfl h, Nat.le_refl _, fun _ h => by cases h⟩, World.ownsRow_nil _ _ _ _⟩
theorem fv0 {l : List Nat} (h : firstV l = 0) : ∀ x ∈ l, x = 0 := by
  induction l with
  | nil => simp
  | cons a r ih =>
    rw [firstV] at h
    split at h
    · rename_i e
      intro x hx
      rcases List.mem_cons.1 hx with rfl | hx
      · exact e
      · exact ih h x hx
    · rename_i e; exact absurd h e
theorem wh0 {b : Bool} {e : Nat} (h : whenV b e = 0) (he : e ≠ 0) : b = false := by
  cases b
  · rfl
  · exact absurd h he
def methF (k : Int) : Nat := if k = 1 then 40 else if k = 2 then 41 else if k = 3 then 42 else if k = 4 then 43 else if k = 5 then 44
  else if k = 6 then 45 else if k = 7 then 45 else if k = 8 then 46 else 38
theorem check_right {nameE : Bts → Nat} {av : AV} {o : OV} (h : checkV nameE av o = 0) : rightV o = true := by
  cases hr : rightV o with
  | true => rfl
  | false => unfold checkV at h; rw [if_pos hr] at h; cases h
theorem right_kind {o : OV} (h : rightV o = true) : o.kind = 1 ∨ o.kind = 2 ∨ o.kind = 3 ∨ o.kind = 4 ∨ o.kind = 5 ∨ o.kind = 6 ∨ o.kind = 7 ∨ o.kind = 8 ∨ o.kind = 9 := by
  rcases kinds o.kind with h1 | h1 | h1 | h1 | h1 | h1 | h1 | h1 | h1 | ⟨h1, h2, h3, h4, h5, h6, h7, h8, h9⟩
  case inr.inr.inr.inr.inr.inr.inr.inr.inr => simp [rightV, h1, h2, h3, h4, h5, h6, h7, h8, h9] at h
  all_goals simp [h1]
section
variable {w w' : World} {A M block quota : Nat} {ms : List VM}
theorem Turn.of_below (h : ArrAt w A M block quota ms) (hb : Below w.heap.size w w') : TurnP w w' A M block quota ms (volsM ms) :=
  ⟨ms, ⟨h.below hb, rfl, Chg.of_below hb, fun _ hk => .inl hk⟩⟩
theorem doV_ok {nameE : Bts → Nat} {av : AV} {o : OV} (h : checkV nameE av o = 0) : doV nameE av o =
  (let v := (getV av.vols o.name).getD nilV
  if o.kind = 1 then (⟨0, [], []⟩, setV av (putV av.vols o.name ⟨o.n.toNat, false, fun _ => none⟩))
  else if o.kind = 2 then (⟨0, [], []⟩, setV av (delV av.vols o.name))
  else if o.kind = 3 then (⟨0, readV av.block v o.at_ o.n.toNat, []⟩, av)
  else if o.kind = 4 then (⟨0, [], []⟩, setV av (putV av.vols o.name { v with cells := layV av.block v.cells o.at_ o.data }))
  else if o.kind = 5 then (⟨0, [], []⟩, setV av (putV av.vols o.name { v with cells := fun i => if o.at_ ≤ i ∧ i < o.at_ + o.n then none else v.cells i }))
  else if o.kind = 6 ∨ o.kind = 7 then (⟨0, [], []⟩, setV av (putV av.vols o.dst { v with snap := decide (o.kind = 6) }))
  else if o.kind = 8 then (⟨0, [], []⟩, setV av (putV av.vols o.name { v with size := o.n.toNat }))
  else (⟨0, [], volsV av.vols⟩, av)) := by
  unfold doV
  rw [if_neg (by rw [h]; simp)]
theorem within0 {size : Nat} {a n : Int} (h : withinV size a n = 0) : 0 ≤ a ∧ 1 ≤ n ∧ a + n ≤ size := by
  have := wh0 h (by decide)
  rw [decide_eq_false_iff_not] at this
  omega
theorem fresh0 {s : Bts} {x : Int} (h : freshV (avM block quota ms) s x = 0) : getM ms s = none ∧ ms.length + 1 ≤ 1024 ∧ (usedM ms : Int) + x ≤ quota := by
  rw [freshV_M] at h
  have h0 := fv0 h
  have h1 := wh0 (h0 (whenV (getM ms s).isSome 9) (by simp)) (by decide)
  have h2 := wh0 (h0 (whenV (decide (1024 ≤ ms.length)) 2) (by simp)) (by decide)
  have h3 := wh0 (h0 (whenV (decide ((quota : Int) - usedM ms < x)) 10) (by simp)) (by decide)
  rw [decide_eq_false_iff_not] at h2 h3
  refine ⟨?_, by omega, by omega⟩
  cases hg : getM ms s with
  | none => rfl
  | some m => rw [hg] at h1; cases h1
theorem is0 {s : Bts} (h : whenV (!(getM ms s).isSome) 4 = 0) : ∃ m, getM ms s = some m := by
  have := wh0 h (by decide)
  cases hg : getM ms s with
  | none => rw [hg] at this; cases this
  | some m => exact ⟨m, rfl⟩
theorem meth_any (h : ArrAt w A M block quota ms) (o : OM) (hok : o.ok w) {nameE : Bts → Nat} (hc : checkV nameE (avM block quota ms) o.ov = 0) :
    Calls Tryd.prog (methF o.kind) #[.pointer (some ⟨A, 0, none⟩), o.val] w (DoPost w A M block quota ms (doV nameE (avM block quota ms) o.ov)) := by
  have hr := check_right hc
  rw [doV_ok hc]
  have hcv := checkV_at (nameE := nameE) (block := block) (quota := quota) (ms := ms) (o := o) rfl rfl hr
  rw [hcv] at hc
  have hgv : getV (avM block quota ms).vols o.ov.name = (getM ms (strB o.name)).map VM.vv := getM_vv ms _
  rw [hgv]
  clear hcv hgv
  have hb1 := h.b1
  have hkk : o.ov.kind = o.kind := rfl
  have hlen := hok.few
  rcases right_kind hr with hk | hk | hk | hk | hk | hk | hk | hk | hk <;> rw [hkk] at hk ⊢ <;> clear hr hkk
  · rw [hk, if_pos rfl] at hc
    have h0 := fv0 hc
    have h2 := wh0 (h0 (whenV (decide (o.n < 1 ∨ 1048576 < o.n)) 1) (by simp)) (by decide)
    rw [decide_eq_false_iff_not] at h2
    obtain ⟨f1, f2, f3⟩ := fresh0 (h0 (freshV (avM block quota ms) (strB o.name) o.n) (by simp))
    have hn : o.n = (o.n.toNat : Int) := by omega
    rw [hk, show methF 1 = 40 from rfl]
    simp only [if_pos]
    refine (make_any h o hok hn (by omega) f1 f2 (by omega)).mono ?_
    rintro e w2 ⟨rfl, ht⟩
    exact ⟨_, rfl, ansZ _ _ 0, ht⟩
  · rw [hk, show methF 2 = 41 from rfl]
    rw [if_neg (show ¬ (2 : Int) = 1 by decide), if_pos rfl]
    refine (drop_any h o hok).mono ?_
    rintro e w2 ⟨rfl, ht⟩
    exact ⟨_, rfl, ansZ _ _ 0, ht⟩
  · rw [hk, if_neg (show ¬ (3 : Int) = 1 by decide), if_neg (show ¬ (3 : Int) = 2 by decide), if_pos rfl] at hc
    have h0 := fv0 hc
    obtain ⟨m, hm⟩ := is0 (h0 (whenV (!(getM ms (strB o.name)).isSome) 4) (by simp))
    rw [hm] at h0 ⊢
    simp only [Option.map_some, Option.getD_some] at h0 ⊢
    obtain ⟨a0, a1, a2⟩ := within0 (h0 (withinV m.vv.size o.at_ o.n) (by simp))
    have h2 := wh0 (h0 (whenV (decide (((1048576 / block : Nat) : Int) < o.n)) 3) (by simp)) (by decide)
    rw [decide_eq_false_iff_not] at h2
    have hn : o.n = (o.n.toNat : Int) := by omega
    have hle : o.n.toNat ≤ 1048576 / block := by omega
    have hmul : o.n.toNat * block ≤ 1048576 := Nat.le_trans (Nat.mul_le_mul_right block hle) (Nat.div_mul_le_self _ _)
    rw [hk, show methF 3 = 42 from rfl]
    rw [if_neg (show ¬ (3 : Int) = 1 by decide), if_neg (show ¬ (3 : Int) = 2 by decide), if_pos rfl]
    refine (read_any h o hok hm hn a0 a2 hmul).mono ?_
    rintro e w2 ⟨⟨B, c, rfl, hf⟩, hb⟩
    exact ⟨_, rfl, ⟨B, c, none, 0, rfl, hf, World.ownsRow_nil _ _ _ _⟩, Turn.of_below h hb⟩
  · rw [hk, if_neg (show ¬ (4 : Int) = 1 by decide), if_neg (show ¬ (4 : Int) = 2 by decide), if_neg (show ¬ (4 : Int) = 3 by decide), if_pos rfl] at hc
    have h0 := fv0 hc
    obtain ⟨m, hm⟩ := is0 (h0 (whenV (!(getM ms (strB o.name)).isSome) 4) (by simp))
    rw [hm] at h0 ⊢
    simp only [Option.map_some, Option.getD_some] at h0 ⊢
    obtain ⟨a0, a1, a2⟩ := within0 (h0 (withinV m.vv.size o.at_ ((o.l.length / block : Nat) : Int)) (by simp))
    have h2 := wh0 (h0 (whenV (decide ((1048576 : Int) < (o.l.length : Int))) 3) (by simp)) (by decide)
    have h3 := wh0 (h0 (whenV (decide (((o.l.length % block : Nat) : Int) ≠ 0)) 1) (by simp)) (by decide)
    rw [decide_eq_false_iff_not] at h2 h3
    have hmod : o.l.length % block = 0 := by omega
    have hne : o.l ≠ [] := fun e => by rw [e] at a1; simp at a1
    rw [hk, show methF 4 = 43 from rfl]
    rw [if_neg (show ¬ (4 : Int) = 1 by decide), if_neg (show ¬ (4 : Int) = 2 by decide), if_neg (show ¬ (4 : Int) = 3 by decide), if_pos rfl]
    refine (write_any h o hok hm a0 a2 hmod hne (by omega)).mono ?_
    rintro e w2 ⟨rfl, ht⟩
    exact ⟨_, rfl, ansZ _ _ 0, ht⟩
  · rw [hk, if_neg (show ¬ (5 : Int) = 1 by decide), if_neg (show ¬ (5 : Int) = 2 by decide), if_neg (show ¬ (5 : Int) = 3 by decide), if_neg (show ¬ (5 : Int) = 4 by decide), if_pos rfl] at hc
    have h0 := fv0 hc
    obtain ⟨m, hm⟩ := is0 (h0 (whenV (!(getM ms (strB o.name)).isSome) 4) (by simp))
    rw [hm] at h0 ⊢
    simp only [Option.map_some, Option.getD_some] at h0 ⊢
    obtain ⟨a0, a1, a2⟩ := within0 (h0 (withinV m.vv.size o.at_ o.n) (by simp))
    have hf : m.size ≤ 1048576 := (h.vol m (getM_mem hm).1).few
    have a3 : o.at_ + o.n ≤ m.size := a2
    rw [hk, show methF 5 = 44 from rfl]
    rw [if_neg (show ¬ (5 : Int) = 1 by decide), if_neg (show ¬ (5 : Int) = 2 by decide), if_neg (show ¬ (5 : Int) = 3 by decide), if_neg (show ¬ (5 : Int) = 4 by decide), if_pos rfl]
    refine (trim_any h o hok hm a0 (by omega) (by omega)).mono ?_
    rintro e w2 ⟨rfl, ht⟩
    exact ⟨_, rfl, ansZ _ _ 0, ht⟩
  · rw [hk, if_neg (show ¬ (6 : Int) = 1 by decide), if_neg (show ¬ (6 : Int) = 2 by decide), if_neg (show ¬ (6 : Int) = 3 by decide), if_neg (show ¬ (6 : Int) = 4 by decide), if_neg (show ¬ (6 : Int) = 5 by decide), if_pos rfl] at hc
    have h0 := fv0 hc
    obtain ⟨m, hm⟩ := is0 (h0 (whenV (!(getM ms (strB o.name)).isSome) 4) (by simp))
    rw [hm] at h0 ⊢
    simp only [Option.map_some, Option.getD_some] at h0 ⊢
    obtain ⟨f1, f2, f3⟩ := fresh0 (h0 (freshV (avM block quota ms) (strB o.dst) (m.vv.size : Int)) (by simp))
    have f4 : (usedM ms : Int) + (m.size : Int) ≤ quota := f3
    rw [hk, show methF 6 = 45 from rfl]
    rw [if_neg (show ¬ (6 : Int) = 1 by decide), if_neg (show ¬ (6 : Int) = 2 by decide), if_neg (show ¬ (6 : Int) = 3 by decide), if_neg (show ¬ (6 : Int) = 4 by decide), if_neg (show ¬ (6 : Int) = 5 by decide), if_pos (.inl rfl)]
    refine (copy_any h o hok hm f1 f2 (by omega)).mono ?_
    rintro e w2 ⟨rfl, ht⟩
    rw [hk] at ht
    exact ⟨_, rfl, ansZ _ _ 0, ht⟩
  · rw [hk, if_neg (show ¬ (7 : Int) = 1 by decide), if_neg (show ¬ (7 : Int) = 2 by decide), if_neg (show ¬ (7 : Int) = 3 by decide), if_neg (show ¬ (7 : Int) = 4 by decide), if_neg (show ¬ (7 : Int) = 5 by decide), if_neg (show ¬ (7 : Int) = 6 by decide), if_pos rfl] at hc
    have h0 := fv0 hc
    obtain ⟨m, hm⟩ := is0 (h0 (whenV (!(getM ms (strB o.name)).isSome) 4) (by simp))
    rw [hm] at h0 ⊢
    simp only [Option.map_some, Option.getD_some] at h0 ⊢
    obtain ⟨f1, f2, f3⟩ := fresh0 (h0 (freshV (avM block quota ms) (strB o.dst) (m.vv.size : Int)) (by simp))
    have f4 : (usedM ms : Int) + (m.size : Int) ≤ quota := f3
    rw [hk, show methF 7 = 45 from rfl]
    rw [if_neg (show ¬ (7 : Int) = 1 by decide), if_neg (show ¬ (7 : Int) = 2 by decide), if_neg (show ¬ (7 : Int) = 3 by decide), if_neg (show ¬ (7 : Int) = 4 by decide), if_neg (show ¬ (7 : Int) = 5 by decide), if_pos (.inr rfl)]
    refine (copy_any h o hok hm f1 f2 (by omega)).mono ?_
    rintro e w2 ⟨rfl, ht⟩
    rw [hk] at ht
    exact ⟨_, rfl, ansZ _ _ 0, ht⟩
  · rw [hk, if_neg (show ¬ (8 : Int) = 1 by decide), if_neg (show ¬ (8 : Int) = 2 by decide), if_neg (show ¬ (8 : Int) = 3 by decide), if_neg (show ¬ (8 : Int) = 4 by decide), if_neg (show ¬ (8 : Int) = 5 by decide), if_neg (show ¬ (8 : Int) = 6 by decide), if_neg (show ¬ (8 : Int) = 7 by decide), if_pos rfl] at hc
    have h0 := fv0 hc
    obtain ⟨m, hm⟩ := is0 (h0 (whenV (!(getM ms (strB o.name)).isSome) 4) (by simp))
    rw [hm] at h0 ⊢
    simp only [Option.map_some, Option.getD_some] at h0 ⊢
    have h2 := wh0 (h0 (whenV (decide (o.n < (m.vv.size : Int) ∨ 1048576 < o.n)) 1) (by simp)) (by decide)
    have h3 := wh0 (h0 (whenV (decide ((quota : Int) - usedM ms < o.n - (m.vv.size : Int))) 10) (by simp)) (by decide)
    rw [decide_eq_false_iff_not] at h2 h3
    have hvs : m.vv.size = m.size := rfl
    rw [hvs] at h2 h3
    have hn : o.n = (o.n.toNat : Int) := by omega
    rw [hk, show methF 8 = 46 from rfl]
    rw [if_neg (show ¬ (8 : Int) = 1 by decide), if_neg (show ¬ (8 : Int) = 2 by decide), if_neg (show ¬ (8 : Int) = 3 by decide), if_neg (show ¬ (8 : Int) = 4 by decide), if_neg (show ¬ (8 : Int) = 5 by decide), if_neg (show ¬ ((8 : Int) = 6 ∨ (8 : Int) = 7) by decide), if_pos rfl]
    refine (grow_any h o hok hm hn (by omega) (by omega) (by omega)).mono ?_
    rintro e w2 ⟨rfl, ht⟩
    exact ⟨_, rfl, ansZ _ _ 0, ht⟩
  · rw [hk, show methF 9 = 38 from rfl]
    rw [if_neg (show ¬ (9 : Int) = 1 by decide), if_neg (show ¬ (9 : Int) = 2 by decide), if_neg (show ¬ (9 : Int) = 3 by decide), if_neg (show ¬ (9 : Int) = 4 by decide), if_neg (show ¬ (9 : Int) = 5 by decide), if_neg (show ¬ ((9 : Int) = 6 ∨ (9 : Int) = 7) by decide), if_neg (show ¬ (9 : Int) = 8 by decide)]
    refine (list_any h o).mono ?_
    rintro e w2 ⟨⟨D, c2, rfl, ho⟩, hb⟩
    have hl : (volsV (volsM ms)).length = ms.length := by simp [volsV, volsM]
    refine ⟨_, rfl, ⟨none, 0, D, c2, ?_, ⟨fun h => absurd rfl h, Nat.le_refl _, fun _ h => by cases h⟩, ?_⟩, Turn.of_below h hb⟩
    · show _ = Value.agg #[.int .i64 0, .slice none 0 0, .slice D (volsV (volsM ms)).length c2]
      rw [hl]
    · show w2.ownsRow _ _ _ (.slice D (volsV (volsM ms)).length c2) (volsV (volsM ms)).length ((volsV (volsM ms)).flatMap volC)
      rw [hl, ← volM_V]
      exact ho
end
end Go.Proofs.YthhpcilinkebeaaDoor
