/- The checksum: the program's and the reference's. -/
import Derived.Test.YtadgaphgomagkaaFa
namespace Go.Proofs.Ytadgaphgomagkaa
open Go.RowKit
set_option maxHeartbeats 1000000
set_option maxRecDepth 100000

theorem xor32 (x y : Nat) (hx : x < 4294967296) (hy : y < 4294967296) : bits .xor .u32 (x : Int) (y : Int) = ((x ^^^ y : Nat) : Int) := u32_xor_nat x y hx hy
theorem and32_1 (x : Nat) (hx : x < 4294967296) : bits .and .u32 (x : Int) 1 = ((x % 2 : Nat) : Int) := by
  have := u32_and_nat x 1 hx (by decide)
  rw [nat_mask1] at this
  exact this
theorem and32_15 (x : Nat) (hx : x < 4294967296) : bits .and .u32 (x : Int) 15 = ((x % 16 : Nat) : Int) := by
  have := u32_and_nat x 15 hx (by decide)
  rw [nat_mask4] at this
  exact this

theorem step_any (c : Nat) (x : UInt8) (w : World) (hc : c < 4294967296) :
    Calls Try.prog 98 #[.int .u32 c, byt x] w fun e w' => e = .returned (.int .u32 (refStep c x : Nat)) ∧ w = w' := by
  have hx := xor32 c x.toNat hc (by have := x.toNat_lt; omega)
  have hd := xorb_lt hc x
  have hx8 : x.toNat < 256 := x.toNat_lt
  unfold refStep
  generalize c ^^^ x.toNat = d at *
  have H := Lib.hid hx
  unfold byt
  go_enter Try.func98, Try.ntmps98
  go_wp2
  clear hx
  go_loop [0, 5] (fun a i => ∃ k : Nat, k ≤ 8 ∧ i = .int .i64 k ∧ a = .int .u32 (bitN k d : Nat)) (fun _ i => 8 - (intOf i).toNat)
  case atStart => exact ⟨0, by omega, rfl, rfl⟩
  case round =>
    obtain ⟨k, hk, rfl, rfl⟩ := hrel
    by_cases hlt : k < 8
    · have hb := bitN_lt k hd
      have hs : bitN (k + 1) d = bit1 (bitN k d) := rfl
      generalize bitN k d = y at *
      have ha := and32_1 y hb
      by_cases h1 : y % 2 = 1
      · have hbb : (bits .and .u32 (y : Int) 1 == 1) = true := by rw [ha, h1]; rfl
        have hxx := xor32 (y / 2) 2197175160 (by omega) (by decide)
        have hn : bit1 y = (y / 2) ^^^ 2197175160 := by simp [bit1, h1]
        have HH := Lib.hid (hs.trans hn)
        have HX := Lib.hid hxx
        clear hs ha hn hxx h1
        go_wp2
        go_round
        case rel => exact ⟨k + 1, by omega, by go_num, by rw [HH.out, ← HX.out]; rfl⟩
        case measure => simp [intOf]; omega
      · have hbb : (bits .and .u32 (y : Int) 1 == 1) = false := by rw [ha]; simp; omega
        have hn : bit1 y = y / 2 := by simp [bit1, h1]
        have HH := Lib.hid (hs.trans hn)
        clear hs ha hn h1
        go_wp2
        go_round
        case rel => exact ⟨k + 1, by omega, by go_num, by rw [HH.out]; rfl⟩
        case measure => simp [intOf]; omega
    · obtain rfl : k = 8 := by omega
      go_wp2
      go_ret
      exact ⟨rfl, rfl⟩

theorem refSum_any (A : Option Addr) (c : Nat) (l : List UInt8) (w : World) (hr : Rd w A (byts l)) (hl : l.length ≤ 140737488351232) :
    Calls Try.prog 71 #[.slice A l.length c] w fun e w' => e = .returned (.int .u32 (refB l : Nat)) ∧ w = w' := by
  go_enter Try.func71, Try.ntmps71
  go_wp2
  go_loop [3, 4] (fun a i => ∃ k : Nat, k ≤ l.length ∧ i = .int .i64 k ∧ a = .int .u32 ((l.take k).foldl refStep 4294967295 : Nat)) (fun _ i => l.length - (intOf i).toNat)
  case atStart => exact ⟨0, by omega, rfl, rfl⟩
  case round =>
    obtain ⟨k, hk, rfl, rfl⟩ := hrel
    have hd := refFold_lt (l.take k) (c := 4294967295) (by omega)
    by_cases hlt : k < l.length
    · obtain ⟨ad, rfl, hb, hcell⟩ := hr.at_ (k := k) (by rw [byts_length]; exact hlt)
      have hs : (l.take (k + 1)).foldl refStep 4294967295 = refStep ((l.take k).foldl refStep 4294967295) l[k] := by rw [List.take_succ_eq_append_getElem hlt, List.foldl_append]; rfl
      have hc1 : w.cell? (ad.add k) = some (byt l[k]) := by rw [hcell]; simp [byts]
      generalize (l.take k).foldl refStep 4294967295 = y at *
      generalize l[k] = b at *
      have HH := Lib.hid hs
      unfold byt at hc1
      clear hs hcell
      go_wp2_with (go_at_call 98; refine (step_any y b _ hd).mono ?_; rintro e w' ⟨rfl, rfl⟩)
      go_round
      case rel => exact ⟨k + 1, by omega, by go_num, by rw [HH.out]⟩
      case measure => simp [intOf]; omega
    · obtain rfl : k = l.length := by omega
      have hx := xor32 _ 4294967295 hd (by decide)
      have hB : refB l = ((l.take l.length).foldl refStep 4294967295) ^^^ 4294967295 := by rw [List.take_length]; rfl
      rw [← hB] at hx
      generalize (l.take l.length).foldl refStep 4294967295 = y at *
      have HX := Lib.hid hx
      clear hx hB
      go_wp2
      go_ret
      exact ⟨by rw [← HX.out]; rfl, rfl⟩

/-- the table's first k cells -/
def tabC (k : Nat) : Array Value := ((List.range 16).map fun j => Value.int .u32 ((if j < k then tabT j else 0 : Nat) : Int)).toArray
theorem tabC_size (k : Nat) : (tabC k).size = 16 := by simp [tabC]
theorem tabC_set (k : Nat) : (tabC k).setIfInBounds k (.int .u32 (tabT k : Nat)) = tabC (k + 1) := by
  apply Array.ext
  · simp [tabC]
  · intro i h1 h2
    simp only [tabC, Array.size_setIfInBounds, List.size_toArray, List.length_map, List.length_range] at h1
    rw [Array.getElem_setIfInBounds (by simpa [tabC] using h1)]
    by_cases h : k = i
    · subst h; simp [tabC]
    · simp only [if_neg h, tabC, List.getElem_toArray, List.getElem_map, List.getElem_range]
      by_cases h' : i < k
      · simp [h', show i < k + 1 by omega]
      · simp [h', show ¬ i < k + 1 by omega]
theorem tabC_get (i : Nat) (hi : i < 16) : (tabC 16)[i]? = some (.int .u32 (tabT i : Nat)) := by simp [tabC, hi]
theorem tabC_one (k : Nat) : (tabC k).all (·.oneCell') = true := by
  rw [Array.all_eq_true_iff_forall_mem]
  intro x hx
  simp only [tabC, List.mem_toArray, List.mem_map] at hx
  obtain ⟨_, _, rfl⟩ := hx
  rfl

theorem table_any (w : World) :
    Calls Try.prog 97 #[] w fun e w' => e = .returned (.agg (tabC 16)) ∧ Below w.heap.size w w' := by
  have hnew : Blk (w.alloc (.cells (tabC 0) 148)) w.heap.size 148 (tabC 0) := Blk.new _ _ _
  have h0 : tabC 0 = #[.int .u32 0, .int .u32 0, .int .u32 0, .int .u32 0, .int .u32 0, .int .u32 0, .int .u32 0, .int .u32 0, .int .u32 0, .int .u32 0, .int .u32 0, .int .u32 0, .int .u32 0, .int .u32 0, .int .u32 0, .int .u32 0] := by rfl
  rw [h0] at hnew
  have H0 := Lib.hid h0
  clear h0
  go_enter Try.func97, Try.ntmps97
  go_wp2
  go_loopw [1, 2, 3, 4, 9] (fun _ _ _ i _ wr => ∃ k : Nat, k ≤ 16 ∧ i = .int .i64 k ∧ Blk wr w.heap.size 148 (tabC k) ∧ Below w.heap.size w wr) (fun _ _ _ i _ _ => 16 - (intOf i).toNat)
  case atStart => exact ⟨0, by omega, rfl, by rw [H0.out]; exact hnew, (Below.refl _ _).alloc (Nat.le_refl _) _⟩
  case round =>
    obtain ⟨k, hk, rfl, hB, hbel⟩ := hrel
    clear hnew H0
    by_cases hlt : k < 16
    · have hlt' : (k : Int) < 16 := by omega
      go_wp2
      go_loop [2, 3, 9] (fun a _ i => ∃ j : Nat, j ≤ 4 ∧ i = .int .i64 j ∧ a = .int .u32 (bitN j k : Nat)) (fun _ _ i => 4 - (intOf i).toNat)
      case atStart => exact ⟨0, by omega, rfl, rfl⟩
      case round =>
        obtain ⟨j, hj, rfl, rfl⟩ := hrel
        by_cases hjl : j < 4
        · have hb : bitN j k < 4294967296 := bitN_lt j (by omega)
          have hs : bitN (j + 1) k = bit1 (bitN j k) := rfl
          generalize bitN j k = y at *
          have ha := and32_1 y hb
          by_cases h1 : y % 2 = 1
          · have hbb : (bits .and .u32 (y : Int) 1 == 1) = true := by rw [ha, h1]; rfl
            have hxx := xor32 (y / 2) 2197175160 (by omega) (by decide)
            have hn : bit1 y = (y / 2) ^^^ 2197175160 := by simp [bit1, h1]
            have HH := Lib.hid (hs.trans hn)
            have HX := Lib.hid hxx
            clear hs ha hn hxx h1
            go_wp2
            go_round
            case rel => exact ⟨j + 1, by omega, by go_num, by rw [HH.out, ← HX.out]; rfl⟩
            case measure => simp [intOf]; omega
          · have hbb : (bits .and .u32 (y : Int) 1 == 1) = false := by rw [ha]; simp; omega
            have hn : bit1 y = y / 2 := by simp [bit1, h1]
            have HH := Lib.hid (hs.trans hn)
            clear hs ha hn h1
            go_wp2
            go_round
            case rel => exact ⟨j + 1, by omega, by go_num, by rw [HH.out]; rfl⟩
            case measure => simp [intOf]; omega
        · obtain rfl : j = 4 := by omega
          have hT : bitN 4 k = tabT k := rfl
          rw [hT]
          have hcell := hB.cellAt k (by rw [tabC_size]; exact hlt)
          have hf := hB.frozen k
          have hset := hB.set k (.int .u32 (tabT k : Nat))
          rw [tabC_set k] at hset
          generalize (tabC k)[k]'(by rw [tabC_size]; exact hlt) = z at *
          generalize tabT k = t at *
          clear hT
          go_wp2
          go_roundw
          case rel => exact ⟨k + 1, by omega, by go_num, hset, hbel.setCell (by simp) _⟩
          case measure => simp [intOf]; omega
    · obtain rfl : k = 16 := by omega
      have hsz : (Try.prog.info? 148).map (·.size) = some (tabC 16).size := by rw [tabC_size]; kernel_rfl
      have hone := Lib.hid (tabC_one 16)
      generalize hTT : tabC 16 = TT at *
      have HT := Lib.hid hTT
      clear hTT
      have HS := Lib.hid hsz
      clear hsz
      go_wp2_with (first
        | ((with_reducible show wpList _ _ _ (Oper.mk _ (Op.load _ _) _ _ _ _ :: _) _ _); refine wpList_load_row rfl 148 _ rfl w.heap.size rfl 148 _ _ _ hB Try.underlying148 rfl HS.out ?_)
        | ((with_reducible show wpList _ _ _ (Oper.mk _ (Op.store _ _ _) _ _ _ _ :: _) _ _); refine wpList_plain rfl fun K hK => ?_; refine wp_store_row 148 _ _ rfl w.heap.size TT rfl rfl 148 _ hB HS.out rfl hone.out ?_; refine hK _ _ ?_))
      refine bodyPost_ret (results_cell_row rfl _ _ w.heap.size 148 TT (0, 0) _ rfl (hB.setRow TT) Try.underlying148 rfl HS.out) rfl ?_
      exact ⟨by rw [HT.out], below_setRow' hbel (Nat.le_refl _) _⟩

/-- parts: slices of bytes that can be read, and the headers that stand for them -/
structure Sb where
  A : Option Addr
  c : Nat
  l : List UInt8
def Sb.val (s : Sb) : Value := .slice s.A s.l.length s.c
def Sb.ok (w : World) (s : Sb) : Prop := Rd w s.A (byts s.l) ∧ s.l.length ≤ s.c ∧ s.l.length ≤ 140737488351232
theorem Sb.ok_below {w w' : World} {s : Sb} (h : s.ok w) (hb : Below w.heap.size w w') : s.ok w' := ⟨h.1.below hb, h.2⟩
def flat (ps : List Sb) : List UInt8 := ps.flatMap (·.l)

theorem take_foldl {α β : Type} (f : β → α → β) (l : List α) (k : Nat) (hk : k < l.length) (x : β) : (l.take (k + 1)).foldl f x = f ((l.take k).foldl f x) l[k] := by
  rw [List.take_succ_eq_append_getElem hk, List.foldl_append]; rfl
theorem flat_take (ps : List Sb) (k : Nat) (hk : k < ps.length) : flat (ps.take (k + 1)) = flat (ps.take k) ++ ps[k].l := by
  rw [List.take_succ_eq_append_getElem hk]; unfold flat; rw [List.flatMap_append]; simp

theorem sum_any (A : Option Addr) (c : Nat) (ps : List Sb) (w : World) (hr : Rd w A (ps.map Sb.val)) (hl : ps.length ≤ 5864062014806) (hok : ∀ s ∈ ps, s.ok w) :
    Calls Try.prog 65 #[.slice A ps.length c] w fun e w' => e = .returned (.int .u32 (crcB (flat ps) : Nat)) ∧ Below w.heap.size w w' := by
  go_enter Try.func65, Try.ntmps65
  have hsz : (Try.prog.info? 148).map (·.size) = some (tabC 16).size := by rw [tabC_size]; kernel_rfl
  have hone := Lib.hid (tabC_one 16)
  have hget := tabC_get
  have hz : 16 = (tabC 16).size := by rw [tabC_size]
  have ht := table_any w
  generalize tabC 16 = TT at *
  have HS := Lib.hid hsz
  have HG := Lib.hid hget
  have HZ := Lib.hid hz
  clear hsz hget hz
  go_wp2_with (first
    | (go_at_call 97; refine ht.mono ?_; rintro e w1 ⟨rfl, hb1⟩)
    | ((with_reducible show wpList _ _ _ (Oper.mk _ (Op.store _ _ _) _ _ _ _ :: _) _ _); refine wpList_plain rfl fun K hK => ?_; refine wp_store_row 148 _ _ rfl w1.heap.size TT rfl rfl 148 _ (Blk.new _ _ _) HS.out HZ.out hone.out ?_; refine hK _ _ ?_))
  generalize hW : World.setRow _ _ TT = W
  have hB : Blk W w1.heap.size 148 TT := by rw [← hW]; exact (Blk.new _ _ _).setRow TT
  have hbW : Below w.heap.size w W := by rw [← hW]; exact below_setRow' (hb1.alloc hb1.size _) hb1.size TT
  clear hW ht hone HS hK
  generalize w1.heap.size = g at *
  have hrW := hr.below hbW
  have hokW : ∀ s ∈ ps, s.ok W := fun s hs => Sb.ok_below (hok s hs) hbW
  clear hr hok
  go_loop [4, 12] (fun a i => ∃ k : Nat, k ≤ ps.length ∧ i = .int .i64 k ∧ a = .int .u32 ((flat (ps.take k)).foldl crcStep 4294967295 : Nat)) (fun _ i => ps.length - (intOf i).toNat)
  case atStart => exact ⟨0, by omega, rfl, rfl⟩
  case round =>
    obtain ⟨k, hk, rfl, rfl⟩ := hrel
    have hd := crcFold_lt (flat (ps.take k)) (c := 4294967295) (by omega)
    by_cases hlt : k < ps.length
    · obtain ⟨ad, rfl, hb, hcell⟩ := hrW.at_ (k := k) (by simpa using hlt)
      have hs : (flat (ps.take (k + 1))).foldl crcStep 4294967295 = (ps[k].l).foldl crcStep ((flat (ps.take k)).foldl crcStep 4294967295) := by rw [flat_take _ _ hlt, List.foldl_append]
      have hc1 : W.cell? (ad.add k) = some (ps[k]).val := by rw [hcell]; simp
      obtain ⟨hpr, hpl, hpc⟩ := hokW _ (List.getElem_mem hlt)
      generalize ps[k] = p at *
      obtain ⟨Ap, cp, lp⟩ := p
      simp only [Sb.val] at *
      generalize (flat (ps.take k)).foldl crcStep 4294967295 = y at *
      have HH := Lib.hid hs
      clear hs hcell
      go_wp2
      go_loop [4, 18] (fun a i => ∃ j : Nat, j ≤ lp.length ∧ i = .int .i64 j ∧ a = .int .u32 ((lp.take j).foldl crcStep y : Nat)) (fun _ i => lp.length - (intOf i).toNat)
      case atStart => exact ⟨0, by omega, rfl, rfl⟩
      case round =>
        obtain ⟨j, hj, rfl, rfl⟩ := hrel
        have hd2 := crcFold_lt (lp.take j) hd
        by_cases hjl : j < lp.length
        · obtain ⟨ap, rfl, hbp, hcellp⟩ := hpr.at_ (k := j) (by rw [byts_length]; exact hjl)
          have hs2 := take_foldl crcStep lp j hjl y
          have hc2 : W.cell? (ap.add j) = some (.int .u8 (lp[j].toNat : Int)) := by rw [hcellp]; simp [byts, byt]
          generalize (lp.take j).foldl crcStep y = z at *
          generalize lp[j] = b at *
          have hb8 : b.toNat < 256 := b.toNat_lt
          clear hcellp
          have e1 := xor32 z b.toNat hd2 (by omega)
          have l1 := xorb_lt hd2 b
          have hst : crcStep z b = nib (nib (z ^^^ b.toNat)) := rfl
          generalize z ^^^ b.toNat = z1 at *
          have e2 := and32_15 z1 l1
          have l2 : z1 % 16 < 16 := Nat.mod_lt _ (by omega)
          have t2 := HG.out _ l2
          have e3 := xor32 (z1 / 16) (tabT (z1 % 16)) (by omega) (bitN_lt 4 (by omega))
          have n1 : (z1 / 16) ^^^ tabT (z1 % 16) = nib z1 := rfl
          have l3 := nib_lt l1
          rw [n1] at e3
          generalize nib z1 = z2 at *
          have e4 := and32_15 z2 l3
          have l4 : z2 % 16 < 16 := Nat.mod_lt _ (by omega)
          have t4 := HG.out _ l4
          have e5 := xor32 (z2 / 16) (tabT (z2 % 16)) (by omega) (bitN_lt 4 (by omega))
          have n2 : (z2 / 16) ^^^ tabT (z2 % 16) = nib z2 := rfl
          rw [n2] at e5
          have hs3 := Lib.hid (hs2.trans hst)
          clear hs2 hst n1 n2
          generalize tabT (z1 % 16) = t1 at *
          generalize tabT (z2 % 16) = t3 at *
          generalize z1 % 16 = i1 at *
          generalize z2 % 16 = i2 at *
          have c1 := hB.cell i1
          have c2 := hB.cell i2
          rw [t2] at c1
          rw [t4] at c2
          clear t2 t4
          push_cast at e3 e5
          go_wp2
          go_round
          case rel => exact ⟨j + 1, by omega, by go_num, by rw [hs3.out]⟩
          case measure => simp [intOf]; omega
        · obtain rfl : j = lp.length := by omega
          rw [List.take_length]
          rw [List.take_length] at hd2
          rw [← HH.out]
          go_wp2
          go_round
          case rel => exact ⟨k + 1, by omega, by go_num, rfl⟩
          case measure => simp [intOf]; omega
    · obtain rfl : k = ps.length := by omega
      have hx := xor32 4294967295 _ (by decide) hd
      have hC : crcB (flat ps) = ((flat (ps.take ps.length)).foldl crcStep 4294967295) ^^^ 4294967295 := by rw [List.take_length]; rfl
      rw [Nat.xor_comm, ← hC] at hx
      generalize (flat (ps.take ps.length)).foldl crcStep 4294967295 = y at *
      have HX := Lib.hid hx
      clear hx hC
      go_wp2
      go_ret
      exact ⟨by rw [← HX.out]; rfl, hbW⟩
end Go.Proofs.Ytadgaphgomagkaa
