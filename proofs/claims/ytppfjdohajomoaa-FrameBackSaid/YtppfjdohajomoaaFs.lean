/- Pages are written: all ways; the reference's. -/
import Derived.Test.YtppfjdohajomoaaFr
import Derived.Test.YtppfjdohajomoaaFk
namespace Go.Proofs.Ytppfjdohajomoaa
open Go.RowKit
set_option maxHeartbeats 2000000
set_option maxRecDepth 100000

/-- what Page gives -/
def pageR (size row sh : Int) (seg : Nat) (x : List UInt8) : List UInt8 × Nat :=
  if roomN size = 0 ∨ row < 0 ∨ 1073741824 < row ∨ sh < 0 ∨ 255 < sh then ([], 1)
  else if roomN size < (x.length : Int) then ([], 3)
  else (pageB seg row.toNat sh.toNat x size.toNat, 0)
def PagePost (w : World) (R : List UInt8 × Nat) (e : Ending) (w' : World) : Prop :=
  ∃ A' c' out, e = .returned (.tuple #[.slice A' out.length c', .int .i64 (R.2 : Nat)]) ∧ out = R.1 ∧
      w'.ownsRow w.heap.size 5 1 (.slice A' out.length c') out.length (byts out) ∧ Below w.heap.size w w'
theorem PagePost.bad (w : World) (k : Nat) (w' : World) (hb : Below w.heap.size w w') : PagePost w ([], k) (.returned (.tuple #[.slice none 0 0, .int .i64 (k : Nat)])) w' :=
  ⟨none, 0, [], rfl, rfl, World.ownsRow_nil _ _ _ _, hb⟩

theorem page_any (A : Option Addr) (c seg : Nat) (size row sh sz : Int) (x : List UInt8) (w : World) (hr : Rd w A (byts x)) (hxc : x.length ≤ c) (hseg : seg < 18446744073709551616) :
    Calls Try.prog 26 #[.int .i64 size, .agg #[.int .u64 seg, .int .i64 row, .int .i64 sh, .int .i64 sz], .slice A x.length c] w (PagePost w (pageR size row sh seg x)) := by
  have hroom := fun W => room_any size W
  by_cases hbad : roomN size = 0 ∨ row < 0 ∨ 1073741824 < row ∨ sh < 0 ∨ 255 < sh
  · have hR : pageR size row sh seg x = ([], 1) := by simp only [pageR, if_pos hbad]
    rw [hR]
    clear hR
    generalize roomN size = r at *
    have hd : (r = 0) ∨ (r ≠ 0 ∧ row < 0) ∨ (r ≠ 0 ∧ ¬ row < 0 ∧ 1073741824 < row) ∨ (r ≠ 0 ∧ ¬ row < 0 ∧ ¬ 1073741824 < row ∧ sh < 0) ∨ (r ≠ 0 ∧ ¬ row < 0 ∧ ¬ 1073741824 < row ∧ ¬ sh < 0 ∧ 255 < sh) := by omega
    clear hbad
    rcases hd with rfl | ⟨h0, h1⟩ | ⟨h0, h1, h2⟩ | ⟨h0, h1, h2, h3⟩ | ⟨h0, h1, h2, h3, h4⟩
    · go_enter Try.func26, Try.ntmps26
      go_wp2_with (go_at_call 35; refine (hroom _).mono ?_; rintro e w1 ⟨rfl, rfl⟩)
      go_ret2
      exact PagePost.bad _ 1 _ ((Below.refl _ _).alloc (Nat.le_refl _) _)
    all_goals
      have h0' : (r == 0) = false := by simp [h0]
      clear h0
      go_enter Try.func26, Try.ntmps26
      go_wp2_with (go_at_call 35; refine (hroom _).mono ?_; rintro e w1 ⟨rfl, rfl⟩)
      go_ret2
      exact PagePost.bad _ 1 _ ((Below.refl _ _).alloc (Nat.le_refl _) _)
  · by_cases hlong : roomN size < (x.length : Int)
    · have hR : pageR size row sh seg x = ([], 3) := by simp only [pageR, if_neg hbad, if_pos hlong]
      rw [hR]
      clear hR
      generalize roomN size = r at *
      have h0 : (r == 0) = false := by simp; omega
      have h1 : ¬ row < 0 := by omega
      have h2 : ¬ 1073741824 < row := by omega
      have h3 : ¬ sh < 0 := by omega
      have h4 : ¬ 255 < sh := by omega
      clear hbad
      go_enter Try.func26, Try.ntmps26
      go_wp2_with (go_at_call 35; refine (hroom _).mono ?_; rintro e w1 ⟨rfl, rfl⟩)
      go_ret2
      exact PagePost.bad _ 3 _ ((Below.refl _ _).alloc (Nat.le_refl _) _)
    · have hR : pageR size row sh seg x = (pageB seg row.toNat sh.toNat x size.toNat, 0) := by simp only [pageR, if_neg hbad, if_neg hlong]
      rw [hR]
      have hs : 32 ≤ size ∧ size ≤ 65536 ∧ roomN size = size - 19 := by
        unfold roomN at hbad ⊢
        by_cases a : size < 32
        · simp [a] at hbad
        · by_cases b : 65536 < size
          · simp [b] at hbad
          · simp [a, b]; omega
      obtain ⟨hs1, hs2, hs3⟩ := hs
      obtain ⟨s, rfl⟩ := Int.eq_ofNat_of_zero_le (show 0 ≤ size by omega)
      obtain ⟨r, rfl⟩ := Int.eq_ofNat_of_zero_le (show 0 ≤ row by omega)
      obtain ⟨q, rfl⟩ := Int.eq_ofNat_of_zero_le (show 0 ≤ sh by omega)
      simp only [Int.toNat_natCast]
      refine (page_good A c s seg r q sz x w hr (by omega) (by omega) (by omega) hxc (by omega) (by omega) hseg).mono ?_
      rintro e w' ⟨A', c', rfl, ho, hb⟩
      have hl := pageB_length seg r q x s (by omega)
      exact ⟨A', c', _, by rw [hl]; rfl, rfl, by rw [hl]; exact ho, hb⟩

def lenV : Value → Nat
  | .slice _ n _ => n
  | _ => 0
theorem refPage_good (A : Option Addr) (c s seg row sh : Nat) (sz : Int) (x : List UInt8) (w : World) (hr : Rd w A (byts x)) (hs0 : 32 ≤ s) (hs1 : s ≤ 65536) (hx : 19 + x.length ≤ s) (hrow : row ≤ 1073741824) (hsh : sh ≤ 255) :
    Calls Try.prog 37 #[.int .i64 s, .agg #[.int .u64 seg, .int .i64 row, .int .i64 sh, .int .i64 sz], .slice A x.length c] w fun e w' => ∃ A' c', e = .returned (.tuple #[.slice A' s c', .int .i64 0]) ∧
      w'.ownsRow w.heap.size 5 1 (.slice A' s c') s (byts (pageB seg row sh x s)) ∧ Below w.heap.size w w' := by
  have hroom : ∀ W, Calls Try.prog 36 #[.int .i64 s] W fun e w' => e = .returned (.int .i64 ((s : Int) - 19)) ∧ W = w' := fun W => by
    have := refRoom_any s W
    rw [show roomN (s : Int) = (s : Int) - 19 from by unfold roomN; rw [if_neg (by omega), if_neg (by omega)]] at this
    exact this
  have f0 : ((s : Int) - 19 == 0) = false := by simp; omega
  have f1 : ¬ ((s : Int) - 19 < (x.length : Int)) := by omega
  have hbx : Blk (w.alloc (.cells #[.int .u64 seg, .int .i64 row, .int .i64 sh, .int .i64 sz] 64)) w.heap.size 64 #[.int .u64 seg, .int .i64 row, .int .i64 sh, .int .i64 sz] := Blk.new _ _ _
  have hb0 : Below w.heap.size w (w.alloc (.cells #[.int .u64 seg, .int .i64 row, .int .i64 sh, .int .i64 sz] 64)) := (Below.refl _ _).alloc (Nat.le_refl _) _
  have hlow := fun (W : World) => Low_any none 0 seg 8 W.heap.size [] 0 W (World.ownsRow_nil _ _ _ _) (Nat.le_refl _) (by omega) (by omega)
  simp only [Nat.zero_add, List.nil_append] at hlow
  go_enter Try.func37, Try.ntmps37
  go_wp2_with (first
    | (go_at_call 36; refine (hroom _).mono ?_; rintro e w1 ⟨rfl, rfl⟩))
  have hszz : w.heap.size + 1 = (w.alloc (.cells #[.int .u64 seg, .int .i64 row, .int .i64 sh, .int .i64 sz] 64)).heap.size := by simp
  generalize w.alloc (.cells #[.int .u64 seg, .int .i64 row, .int .i64 sh, .int .i64 sz] 64) = W at *
  generalize hg : w.heap.size = g at *
  have HG := Lib.hid hg
  have hlt : g < W.heap.size := by omega
  have hHs : ∀ k, k ≤ s - 19 - x.length → (lowB seg 8 ++ lowB row 4 ++ lowB sh 1 ++ lowB x.length 2 ++ x ++ List.replicate k (0 : UInt8)).length = 15 + x.length + k := by intro k _; simp [lowB_length]; omega
  have eT : ∀ k, k = s - 19 - x.length → lowB seg 8 ++ lowB row 4 ++ lowB sh 1 ++ lowB x.length 2 ++ x ++ List.replicate k (0 : UInt8) = pageT seg row sh x s := by intro k hk; rw [hk]; rfl
  have esh : byts (lowB sh 1) = [.int .u8 (sh : Int)] := by simp [lowB, byts, byt]; omega
  have HE := Lib.hid esh
  have HT := Lib.hid eT
  have HHs := Lib.hid hHs
  clear hg hszz esh eT hHs
  go_wp2_with (first
    | (go_at_call_of 74 (Value.int IntKind.u64 (seg : Int)); refine (hlow _).mono ?_; rintro e w1 ⟨A1, d1, rfl, ho1, hg1⟩
       have hb1 := hg1.fresh
       have hk1 := hbx.below' hb1
       have e1 := hk1.cell 1
       have e2 := hk1.cell 2
       simp only [List.getElem?_toArray, List.getElem?_cons_succ, List.getElem?_cons_zero] at e1 e2)
    | (go_at_call_of 74 (Value.int IntKind.u64 (row : Int)); refine (Low_any _ _ row 4 W.heap.size (byts (lowB seg 8)) _ _ ho1 hb1.size (by omega) (by omega)).mono ?_; rintro e w2 ⟨A2, d2, rfl, ho2, hg2⟩
       have hb2 := hb1.trans (hg2.under ho1 (Nat.le_refl _) hb1.size)
       have hk2 := hbx.below' hb2
       have e2' := hk2.cell 2
       simp only [List.getElem?_toArray, List.getElem?_cons_succ, List.getElem?_cons_zero] at e2')
    | (at_builtin; refine wpList_app _ rfl (.tmp 45) (.tmp 49) rfl slB W.heap.size (.slice A2 (8 + 4) d2) (8 + 4) (byts (lowB seg 8) ++ byts (lowB row 4)) rfl (ho2.alloc _) _ _ _ _ rfl rfl (Rd.one _ _ _) (by simp [Value.oneCell']) (by unfold maxLen; omega) (by omega) (by have := hb2.size; simp; omega) ?_
       intro A3 d3 w3 ho3 hg3
       have hb3 := hb2.trans (((Below.refl _ _).alloc hb2.size _).trans (hg3.under (ho2.alloc _) (Nat.le_refl _) (by have := hb2.size; simp; omega))))
    | (go_at_call_of 74 (Value.int IntKind.u64 (x.length : Int)); refine (Low_any _ _ x.length 2 W.heap.size _ _ _ ho3 hb3.size (by omega) (by omega)).mono ?_; rintro e w4 ⟨A4, d4, rfl, ho4, hg4⟩
       have hb4 := hb3.trans (hg4.under ho3 (Nat.le_refl _) hb3.size)
       have hrx4 : Rd w4 A (byts x) := hr.below (by rw [HG.out]; exact hb0.trans (hb4.mono (by omega))))
    | (at_builtin; refine wpList_app _ rfl (.tmp 56) (.tmp 57) rfl slB W.heap.size (.slice A4 (8 + 4 + 1 + 2) d4) (8 + 4 + 1 + 2) _ rfl ho4 A x.length c (byts x) rfl (by rw [byts_length, Nat.mul_one]) hrx4 (byts_one _) (by unfold maxLen; omega) (by omega) hb4.size ?_
       intro A5 d5 w5 ho5 hg5
       have hb5 := hb4.trans (hg5.under ho4 (Nat.le_refl _) hb4.size)))
  have hX5 : byts (lowB seg 8) ++ byts (lowB row 4) ++ [Value.int .u8 (sh : Int)] ++ byts (lowB x.length 2) ++ byts x = byts (lowB seg 8 ++ lowB row 4 ++ lowB sh 1 ++ lowB x.length 2 ++ x) := by
    rw [← HE.out]
    simp [byts]
  have ho5' : w5.ownsRow W.heap.size 5 1 (.slice A5 (15 + x.length) d5) (15 + x.length) (byts (lowB seg 8 ++ lowB row 4 ++ lowB sh 1 ++ lowB x.length 2 ++ x)) := by
    rw [← hX5]
    exact ho5
  clear ho5 hX5
  generalize lowB seg 8 ++ lowB row 4 ++ lowB sh 1 ++ lowB x.length 2 ++ x = H at *
  go_loopw [8] (fun b wr => ∃ (k : Nat) (A' : Option Addr) (c' : Nat), k ≤ s - 19 - x.length ∧ b = .slice A' (15 + x.length + k) c' ∧
      wr.ownsRow W.heap.size 5 1 (.slice A' (15 + x.length + k) c') (15 + x.length + k) (byts (H ++ List.replicate k 0)) ∧ Below W.heap.size W wr) (fun b _ => s - lenV b)
  case atStart => exact ⟨0, A5, d5, by omega, rfl, by simpa using ho5', hb5⟩
  case round =>
    obtain ⟨k, A', c', hk, rfl, ho, hb⟩ := hrel
    have hsz := hb.size
    by_cases hkl : k < s - 19 - x.length
    · have t1 : ((15 : Int) + (x.length : Int) + (k : Int)) < (s : Int) - 4 := by omega
      go_wp2_with (first | (at_builtin; refine wpList_app _ rfl _ _ rfl slB W.heap.size (.slice A' (15 + x.length + k) c') (15 + x.length + k) _ rfl (ho.alloc _) _ _ _ _ rfl rfl (Rd.one _ _ _) (by simp [Value.oneCell']) (by unfold maxLen; omega) (by omega) (by simp; omega) ?_; intro A6 d6 w6 ho6 hg6))
      go_roundw
      case rel =>
        refine ⟨k + 1, A6, d6, by omega, rfl, ?_, hb.trans (((Below.refl _ _).alloc hsz _).trans (hg6.under (ho.alloc _) (Nat.le_refl _) (by simp; omega)))⟩
        have e : byts (H ++ List.replicate (k + 1) 0) = byts (H ++ List.replicate k 0) ++ [Value.int .u8 0] := by
          rw [List.replicate_succ', ← List.append_assoc]
          simp [byts, byt]
        rw [e]
        exact ho6
      case measure => simp [lenV]; omega
    · have hkk : k = s - 19 - x.length := by omega
      have hT := HT.out k hkk
      have hlen : 15 + x.length + k = s - 4 := by omega
      have hTl := HHs.out k (by omega)
      rw [hT] at ho hTl
      rw [hlen] at ho hTl ⊢
      have t1 : ¬ (((s - 4 : Nat) : Int) < (s : Int) - 4) := by omega
      have hPB : pageB seg row sh x s = lowB (crcB (pageT seg row sh x s)) 4 ++ pageT seg row sh x s := rfl
      have hcrc := crc_eq (pageT seg row sh x s)
      have hCl := crcB_lt (pageT seg row sh x s)
      generalize pageT seg row sh x s = T at *
      generalize hPBe : pageB seg row sh x s = PB at *
      have HPBe := Lib.hid hPBe
      have HPB := Lib.hid hPB
      have hsum := refSum_any A' c' T wr (Rd.of_own ho) (by omega)
      rw [hTl, ← hcrc] at hsum
      have HTl := Lib.hid hTl
      generalize crcB T = C at *
      clear hPB hPBe hcrc hT hlen hTl hkk hkl hk
      have hfour := four_any none 0 C 0 wr.heap.size [] wr (World.ownsRow_nil _ _ _ _) (Nat.le_refl _) (by omega) hCl
      simp only [Nat.zero_add, List.nil_append] at hfour
      obtain ⟨n4, hn4⟩ : ∃ n4, n4 = s - 4 := ⟨_, rfl⟩
      rw [← hn4] at hsum ho t1 HTl ⊢
      have HN4 := Lib.hid hn4
      have hn4s : n4 ≤ 65536 := by omega
      clear hn4
      go_wp2_with (first
        | (go_at_call 25; refine hsum.mono ?_; rintro e w7 ⟨rfl, rfl⟩)
        | (go_at_call 75; refine hfour.mono ?_; rintro e w7 ⟨A7, d7, rfl, ho7, hg7⟩
           have hb7 := hg7.fresh
           have hr7 := (Rd.of_own ho).below hb7)
        | (at_builtin; refine wpList_app _ rfl (.tmp 69) (.tmp 70) rfl slB wr.heap.size (.slice A7 4 d7) 4 _ rfl ho7 A' n4 c' (byts T) rfl (by rw [byts_length, HTl.out, Nat.mul_one]) hr7 (byts_one _) (by unfold maxLen; omega) (by omega) hb7.size ?_
           intro A8 d8 w8 ho8 hg8
           have hb8 := hb7.trans (hg8.under ho7 (Nat.le_refl _) hb7.size)))
      go_ret2
      have e4 : 4 + n4 = s := by have := HN4.out; omega
      rw [e4] at ho8
      refine ⟨A8, d8, by rw [e4]; rfl, ?_, by rw [HG.out]; exact hb0.trans ((hb.trans (hb8.mono hsz)).mono (by omega))⟩
      rw [HPBe.out, HPB.out, HG.out, byts_append]
      exact own_mono ho8 (by omega)
theorem refPage_any (A : Option Addr) (c seg : Nat) (size row sh sz : Int) (x : List UInt8) (w : World) (hr : Rd w A (byts x)) :
    Calls Try.prog 37 #[.int .i64 size, .agg #[.int .u64 seg, .int .i64 row, .int .i64 sh, .int .i64 sz], .slice A x.length c] w (PagePost w (pageR size row sh seg x)) := by
  have hroom := fun W => refRoom_any size W
  by_cases hbad : roomN size = 0 ∨ row < 0 ∨ 1073741824 < row ∨ sh < 0 ∨ 255 < sh
  · have hR : pageR size row sh seg x = ([], 1) := by simp only [pageR, if_pos hbad]
    rw [hR]
    clear hR
    generalize roomN size = r at *
    have hd : (r = 0) ∨ (r ≠ 0 ∧ row < 0) ∨ (r ≠ 0 ∧ ¬ row < 0 ∧ 1073741824 < row) ∨ (r ≠ 0 ∧ ¬ row < 0 ∧ ¬ 1073741824 < row ∧ sh < 0) ∨ (r ≠ 0 ∧ ¬ row < 0 ∧ ¬ 1073741824 < row ∧ ¬ sh < 0 ∧ 255 < sh) := by omega
    clear hbad
    rcases hd with rfl | ⟨h0, h1⟩ | ⟨h0, h1, h2⟩ | ⟨h0, h1, h2, h3⟩ | ⟨h0, h1, h2, h3, h4⟩
    · go_enter Try.func37, Try.ntmps37
      go_wp2_with (go_at_call 36; refine (hroom _).mono ?_; rintro e w1 ⟨rfl, rfl⟩)
      go_ret2
      exact PagePost.bad _ 1 _ ((Below.refl _ _).alloc (Nat.le_refl _) _)
    all_goals
      have h0' : (r == 0) = false := by simp [h0]
      clear h0
      go_enter Try.func37, Try.ntmps37
      go_wp2_with (go_at_call 36; refine (hroom _).mono ?_; rintro e w1 ⟨rfl, rfl⟩)
      go_ret2
      exact PagePost.bad _ 1 _ ((Below.refl _ _).alloc (Nat.le_refl _) _)
  · by_cases hlong : roomN size < (x.length : Int)
    · have hR : pageR size row sh seg x = ([], 3) := by simp only [pageR, if_neg hbad, if_pos hlong]
      rw [hR]
      clear hR
      generalize roomN size = r at *
      have h0 : (r == 0) = false := by simp; omega
      have h1 : ¬ row < 0 := by omega
      have h2 : ¬ 1073741824 < row := by omega
      have h3 : ¬ sh < 0 := by omega
      have h4 : ¬ 255 < sh := by omega
      clear hbad
      go_enter Try.func37, Try.ntmps37
      go_wp2_with (go_at_call 36; refine (hroom _).mono ?_; rintro e w1 ⟨rfl, rfl⟩)
      go_ret2
      exact PagePost.bad _ 3 _ ((Below.refl _ _).alloc (Nat.le_refl _) _)
    · have hR : pageR size row sh seg x = (pageB seg row.toNat sh.toNat x size.toNat, 0) := by simp only [pageR, if_neg hbad, if_neg hlong]
      rw [hR]
      have hs : 32 ≤ size ∧ size ≤ 65536 ∧ roomN size = size - 19 := by
        unfold roomN at hbad ⊢
        by_cases a : size < 32
        · simp [a] at hbad
        · by_cases b : 65536 < size
          · simp [b] at hbad
          · simp [a, b]; omega
      obtain ⟨hs1, hs2, hs3⟩ := hs
      obtain ⟨s, rfl⟩ := Int.eq_ofNat_of_zero_le (show 0 ≤ size by omega)
      obtain ⟨r, rfl⟩ := Int.eq_ofNat_of_zero_le (show 0 ≤ row by omega)
      obtain ⟨q, rfl⟩ := Int.eq_ofNat_of_zero_le (show 0 ≤ sh by omega)
      simp only [Int.toNat_natCast]
      refine (refPage_good A c s seg r q sz x w hr (by omega) (by omega) (by omega) (by omega) (by omega)).mono ?_
      rintro e w' ⟨A', c', rfl, ho, hb⟩
      have hl := pageB_length seg r q x s (by omega)
      exact ⟨A', c', _, by rw [hl]; rfl, rfl, by rw [hl]; exact ho, hb⟩

end Go.Proofs.Ytppfjdohajomoaa
