/- The abstract array: are operations few? -/
import Derived.Test.YthhpcilinkebeaaDoorIh
import Derived.BigQuiet
namespace Go.Proofs.YthhpcilinkebeaaDoor
open Go.RowKit Go.Maps
set_option maxHeartbeats 4000000
set_option maxRecDepth 100000

def OM.sz (o : OM) : Nat := o.name.size + o.dst.size + o.l.length
def szsum (l : List OM) : Nat := (l.map OM.sz).sum
theorem szsum_take (l : List OM) (k : Nat) (hk : k < l.length) : szsum (l.take (k + 1)) = szsum (l.take k) + l[k].sz := by
  unfold szsum
  rw [List.take_succ_eq_append_getElem hk, List.map_append, List.sum_append]
  simp
theorem szsum_le (l : List OM) (b : Nat) (h : ∀ o ∈ l, o.sz ≤ b) : szsum l ≤ l.length * b := by
  induction l with
  | nil => simp [szsum]
  | cons o r ih =>
    have h1 := h o (by simp)
    have h2 := ih fun x hx => h x (by simp [hx])
    unfold szsum at *
    simp only [List.map_cons, List.sum_cons, List.length_cons, Nat.succ_mul]
    omega
theorem sz_mem {l : List OM} {o : OM} (h : o ∈ l) : o.sz ≤ szsum l := by
  induction l with
  | nil => cases h
  | cons x r ih =>
    unfold szsum at *
    simp only [List.map_cons, List.sum_cons]
    rcases List.mem_cons.1 h with rfl | h
    · omega
    · have := ih h; omega
def FewPost (l : List OM) (w : World) (e : Ending) (w' : World) : Prop := ∃ b : Bool, e = .returned (.bool b) ∧ (b = true → l.length ≤ 200 ∧ szsum l ≤ 32768) ∧ Below w.heap.size w w'
theorem few_any (w : World) (A : Option Addr) (c : Nat) (l : List OM) (blk : Int) (hr : Rd w A (ocells l)) (hok : ∀ o ∈ l, o.name.size ≤ 281474976710656 ∧ o.dst.size ≤ 281474976710656 ∧ o.l.length ≤ 281474976710656) (hl : l.length ≤ 281474976710656) :
    Calls Tryd.prog 11 #[.slice A l.length c, .int .i64 blk] w (FewPost l w) := by
  have hbd : ∀ o ∈ l, o.sz ≤ 844424930131968 := fun o ho => by have := hok o ho; unfold OM.sz; omega
  go_enter Tryd.func11, Tryd.ntmps11
  go_wp2_with fail
  go_loopg [5, 6] l.length (fun m s5 s6 wr => ∃ (k : Nat) (x : Int), m = l.length - k ∧ k ≤ l.length ∧ s6 = .int .i64 (k : Nat) ∧ s5 = .int .i64 x ∧ (l.length ≤ 200 → x = (szsum (l.take k) : Nat)) ∧ Below w.heap.size w wr)
  case atStart => exact ⟨0, 0, rfl, by omega, rfl, rfl, fun _ => rfl, Below.refl _ _⟩
  case round =>
    obtain ⟨k, x, rfl, hk, rfl, rfl, hx, hb⟩ := hrel
    by_cases hlt : k < l.length
    · have r1 : (k : Int) < (l.length : Int) := by omega
      obtain ⟨ad, rfl, hadb, d0, d1, d2, d3, d4, d5⟩ := ops_at (hr.below hb) k hlt
      have hst := szsum_take l k hlt
      have hz := hok _ (List.getElem_mem hlt)
      have hle := szsum_le (l.take k) _ fun o ho => hbd o (List.mem_of_mem_take ho)
      rw [List.length_take, Nat.min_eq_left (by omega)] at hle
      have HX : Hid (l.length ≤ 200 → wrap64 (wrap64 (wrap64 (x + (l[k].name.size : Int)) + (l[k].dst.size : Int)) + (l[k].l.length : Int)) = (szsum (l.take (k + 1)) : Nat)) := Lib.hid (fun h2 => by
        have hx2 := hx h2
        have hm : k * 844424930131968 ≤ 200 * 844424930131968 := Nat.mul_le_mul_right _ (by omega)
        unfold OM.sz at hst
        have e1 : wrap64 (x + (l[k].name.size : Int)) = (x + (l[k].name.size : Int)) := by unfold wrap64; omega
        have e2 : wrap64 (x + (l[k].name.size : Int) + (l[k].dst.size : Int)) = (x + (l[k].name.size : Int) + (l[k].dst.size : Int)) := by unfold wrap64; omega
        have e3 : wrap64 (x + (l[k].name.size : Int) + (l[k].dst.size : Int) + (l[k].l.length : Int)) = (x + (l[k].name.size : Int) + (l[k].dst.size : Int) + (l[k].l.length : Int)) := by unfold wrap64; omega
        rw [e1, e2, e3]
        omega)
      generalize l[k] = o at *
      clear hst hz hle hx hok hbd
      by_cases hk3 : o.kind = 3
      · have q1 : (o.kind == 3) = true := by simp [hk3]
        clear hk3
        by_cases hn1 : (64 : Int) < o.n
        · by_cases hn2 : o.n ≤ 1048576
          · clear HX
            go_wp2_with fail
            go_quiet (fail)
            go_wp2_with fail
            go_ret
            exact ⟨false, rfl, fun h => (by cases h), below_drewN hb _⟩
          · go_wp2_with fail
            go_quiet (fail)
            go_wp2_with fail
            go_roundg (l.length - (k + 1))
            case measure => omega
            case rel => exact ⟨k + 1, _, rfl, hlt, by go_num, rfl, HX.out, below_drewN hb _⟩
        · go_wp2_with fail
          go_quiet (fail)
          go_wp2_with fail
          go_roundg (l.length - (k + 1))
          case measure => omega
          case rel => exact ⟨k + 1, _, rfl, hlt, by go_num, rfl, HX.out, below_drewN hb _⟩
      · have q1 : (o.kind == 3) = false := by simp [hk3]
        clear hk3
        go_wp2_with fail
        go_quiet (fail)
        go_wp2_with fail
        go_roundg (l.length - (k + 1))
        case measure => omega
        case rel => exact ⟨k + 1, _, rfl, hlt, by go_num, rfl, HX.out, below_drewN hb _⟩
    · obtain rfl : k = l.length := by omega
      have r1 : ¬ (l.length : Int) < (l.length : Int) := by omega
      by_cases h3 : l.length ≤ 200
      · have r2 : (l.length : Int) ≤ 200 := by omega
        have hx2 := hx h3
        rw [List.take_length] at hx2
        have HX := Lib.hid hx2
        clear hx2 hx
        by_cases h4 : x ≤ 32768
        · by_cases h5 : blk ≤ 8192
          · go_wp2_with fail
            go_ret
            exact ⟨_, rfl, fun _ => ⟨h3, by have := HX.out; omega⟩, hb⟩
          · go_wp2_with fail
            go_ret
            exact ⟨_, rfl, fun h => by simp at h, hb⟩
        · go_wp2_with fail
          go_ret
          exact ⟨_, rfl, fun h => by simp at h, hb⟩
      · have r2 : ¬ (l.length : Int) ≤ 200 := by omega
        clear h3 hx
        go_wp2_with fail
        go_ret
        exact ⟨_, rfl, fun h => by simp at h, hb⟩
end Go.Proofs.YthhpcilinkebeaaDoor
