/- Pages are read: every row; both. -/
import Derived.Test.YtppfjdohajomoaaGu
namespace Go.Proofs.Ytppfjdohajomoaa
open Go.RowKit
set_option maxHeartbeats 2000000
set_option maxRecDepth 100000

theorem readPage_any (A : Option Addr) (c : Nat) (l : List UInt8) (w : World) (hr : Rd w A (byts l)) (hlc : l.length ≤ c) :
    Calls Try.prog 56 #[.slice A l.length c] w (RdPagePost w (rdPage (roomN l.length) l)) := by
  by_cases h : 32 ≤ l.length ∧ l.length ≤ 65536
  · rw [show roomN (l.length : Int) = (l.length : Int) - 19 from by unfold roomN; rw [if_neg (by omega), if_neg (by omega)]]
    exact readPage_big A c l w hr h.1 h.2 hlc
  · have h0 : roomN (l.length : Int) = 0 := by
      unfold roomN
      by_cases a : (l.length : Int) < 32
      · rw [if_pos a]
      · rw [if_neg a, if_pos (by omega)]
    have hroom := fun W => room_any l.length W
    rw [h0] at hroom
    rw [h0, show rdPage 0 l = ((0, 0, 0, 0), [], 1) from by unfold rdPage; rw [if_pos rfl]]
    have hBz := Blk.new w 46 #[.int .u64 0, .int .i64 0, .int .i64 0, .int .i64 0]
    have hbz : Below w.heap.size w (w.alloc (.cells #[.int .u64 0, .int .i64 0, .int .i64 0, .int .i64 0] 46)) := (Below.refl _ _).alloc (Nat.le_refl _) _
    clear h h0
    go_enter Try.func56, Try.ntmps56
    go_wp2_with (first
      | (go_at_call 35; refine (hroom _).mono ?_; rintro e w1 ⟨rfl, rfl⟩)
      | ((with_reducible show wpList _ _ _ (Oper.mk _ (Op.store _ _ _) _ _ _ _ :: _) _ _); refine wpList_st rfl 46 _ _ rfl stHead w.heap.size rfl #[.int .u64 0, .int .i64 0, .int .i64 0, .int .i64 0] rfl 46 _ hBz rfl rfl (oneHead 0 0 0 0) ?_))
    refine bodyPost_ret (results_cell_tmp2 rfl _ _ w.heap.size 46 _ (0, 0) _ rfl (hBz.setRow _) Try.underlying46 rfl (by kernel_rfl)) rfl ?_
    exact RdPagePost.bad _ 1 _ (below_setRow' hbz (Nat.le_refl _) _)
theorem refReadPage_any (A : Option Addr) (c : Nat) (l : List UInt8) (w : World) (hr : Rd w A (byts l)) (hlc : l.length ≤ c) :
    Calls Try.prog 57 #[.slice A l.length c] w (RdPagePost w (rdPage (roomN l.length) l)) := by
  by_cases h : 32 ≤ l.length ∧ l.length ≤ 65536
  · rw [show roomN (l.length : Int) = (l.length : Int) - 19 from by unfold roomN; rw [if_neg (by omega), if_neg (by omega)]]
    exact refReadPage_big A c l w hr h.1 h.2 hlc
  · have h0 : roomN (l.length : Int) = 0 := by
      unfold roomN
      by_cases a : (l.length : Int) < 32
      · rw [if_pos a]
      · rw [if_neg a, if_pos (by omega)]
    have hroom := fun W => refRoom_any l.length W
    rw [h0] at hroom
    rw [h0, show rdPage 0 l = ((0, 0, 0, 0), [], 1) from by unfold rdPage; rw [if_pos rfl]]
    have hBz := Blk.new w 64 #[.int .u64 0, .int .i64 0, .int .i64 0, .int .i64 0]
    have hbz : Below w.heap.size w (w.alloc (.cells #[.int .u64 0, .int .i64 0, .int .i64 0, .int .i64 0] 64)) := (Below.refl _ _).alloc (Nat.le_refl _) _
    clear h h0
    go_enter Try.func57, Try.ntmps57
    go_wp2_with (first
      | (go_at_call 36; refine (hroom _).mono ?_; rintro e w1 ⟨rfl, rfl⟩)
      | ((with_reducible show wpList _ _ _ (Oper.mk _ (Op.store _ _ _) _ _ _ _ :: _) _ _); refine wpList_st rfl 64 _ _ rfl stHeadR w.heap.size rfl #[.int .u64 0, .int .i64 0, .int .i64 0, .int .i64 0] rfl 64 _ hBz rfl rfl (oneHead 0 0 0 0) ?_))
    refine bodyPost_ret (results_cell_tmp2 rfl _ _ w.heap.size 64 _ (0, 0) _ rfl (hBz.setRow _) Try.underlying64 rfl (by kernel_rfl)) rfl ?_
    exact RdPagePost.bad _ 1 _ (below_setRow' hbz (Nat.le_refl _) _)
end Go.Proofs.Ytppfjdohajomoaa
