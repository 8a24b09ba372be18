/- Names: runes, what may be a name. -/
import Derived.Test.YthhpcilinkebeaaDoorHn
import Derived.Test.YthhpcilinkebeaaDoorHj
import Derived.Lib.OthersKept
import Derived.Lib.Strings
namespace Go.Proofs.YthhpcilinkebeaaDoor
open Go.RowKit Go.Maps
set_option maxHeartbeats 4000000
set_option maxRecDepth 100000

def Tabs (w : World) : Prop := Lib.Utf8Tabs (Tryd.laysValid_ren.g 3) (Tryd.laysValid_ren.g 4) w
theorem valid_any (s : ByteArray) (w : World) (hs : s.size ≤ 9223372036854775807) (hT : Tabs w) : Calls Tryd.prog 89 #[.string s] w fun e w' => e = .returned (.bool (Lib.validD s.data.toList)) ∧ Below w.heap.size w w' :=
  Any.utf8_ValidString Tryd.laysValid s w hs hT
def runesFrom (s : ByteArray) : Nat → Nat → List Int
  | 0, _ => []
  | fuel + 1, pos => if pos < s.size then ((Utf8.decode s pos).1 : Int) :: runesFrom s fuel (pos + (Utf8.decode s pos).2) else []
def runesV (s : ByteArray) : List Int := runesFrom s s.size 0
def i32s (l : List Int) : List Value := l.map (.int .i32)
theorem slI32 : SlT Tryd.prog 135 21 (.int .i32 0) 1 4 := ⟨Tryd.underlying135, by kernel_rfl, rfl, by decide⟩
theorem width_pos (s : ByteArray) (pos : Nat) (h : pos < s.size) : 1 ≤ (Utf8.decode s pos).2 := by
  by_cases ha : (s[pos]'h).toNat < 128
  · rw [decode_ascii s pos h ha]
    exact Nat.le_refl _
  · exact (decode_high s pos h (by omega)).2
theorem runesFrom_end (s : ByteArray) (fuel pos : Nat) (h : ¬ pos < s.size) : runesFrom s fuel pos = [] := by
  cases fuel with
  | zero => rfl
  | succ f => simp [runesFrom, h]
def RunesPost (s : ByteArray) (w : World) (e : Ending) (w' : World) : Prop := Below w.heap.size w w' ∧
  if Lib.validD s.data.toList = true then ∃ A c, e = .returned (.tuple #[.slice A (runesV s).length c, .bool true]) ∧ Rd w' A (i32s (runesV s)) else e = .returned (.tuple #[.slice none 0 0, .bool false])
theorem runes_any (s : ByteArray) (w : World) (hs : s.size ≤ 1048576) (hT : Tabs w) : Calls Tryd.prog 79 #[.string s] w (RunesPost s w) := by
  have hv := valid_any s w (by omega) hT
  cases hval : Lib.validD s.data.toList with
  | false =>
    rw [hval] at hv
    have HV := Lib.hid hval
    clear hval
    go_enter Tryd.func79, Tryd.ntmps79
    go_wp2_with fail
    refine hv.mono ?_
    rintro e w1 ⟨rfl, hb1⟩
    clear hv
    go_wp2_with fail
    go_ret2
    exact ⟨hb1, by rw [HV.out]; rfl⟩
  | true =>
    rw [hval] at hv
    have HV := Lib.hid hval
    clear hval
    go_enter Tryd.func79, Tryd.ntmps79
    go_wp2_with fail
    refine hv.mono ?_
    rintro e w1 ⟨rfl, hb1⟩
    clear hv
    go_wp2_with fail
    go_loopw [4] (fun s4 wr => ∃ (pos fuel : Nat) (acc : List Int) (A : Option Addr) (c : Nat), s4 = .slice A acc.length c ∧ wr.ownsRow (w1.heap.size + 1) 21 1 (.slice A acc.length c) acc.length (i32s acc) ∧ wr.heap[w1.heap.size]? = some (.stringIter s pos) ∧ Below w1.heap.size w1 wr ∧ acc ++ runesFrom s fuel pos = runesV s ∧ s.size ≤ pos + fuel ∧ acc.length ≤ pos) (fun s4 wr => s.size - wr.iterPos w1.heap.size)
    case atStart =>
      refine ⟨0, s.size, [], none, 0, rfl, ⟨rfl, .inl ⟨rfl, rfl⟩⟩, ?_, (Below.refl _ w1).alloc (Nat.le_refl _) _, rfl, by omega, by simp⟩
      have := World.iter_heap w1 s 0
      simpa using this
    case round =>
      obtain ⟨pos, fuel, acc, A, c, rfl, hown, hit, hbw, hacc, hfu, hal⟩ := hrel
      have hsz : w1.heap.size < wr.heap.size := (Array.getElem?_eq_some_iff.1 hit).1
      generalize hI : w1.heap.size = I at *
      have HI := Lib.hid hI
      clear hI
      by_cases hp : pos < s.size
      · have hnx : ∀ ty, (Instr.next (.pointer (some ⟨I, 0, none⟩)) true ty).run Tryd.prog wr = _ := fun ty => Lib.run_next_any_at wr I s pos ty hit hp
        have hwd := width_pos s pos hp
        have hd1 := decode_le s pos
        have hit2 := Lib.iterAt_heap wr I s pos (pos + (Utf8.decode s pos).2) hit
        have hbw2 := Lib.below_iterAt hbw (k := I) (Nat.le_refl _) s (pos + (Utf8.decode s pos).2)
        obtain ⟨f, rfl⟩ : ∃ f, fuel = f + 1 := ⟨fuel - 1, by omega⟩
        have hrf : runesFrom s (f + 1) pos = ((Utf8.decode s pos).1 : Int) :: runesFrom s f (pos + (Utf8.decode s pos).2) := by simp [runesFrom, hp]
        rw [hrf] at hacc
        have HA := Lib.hid hacc
        clear hacc hrf
        have hch : Chg (fun k => k = I) wr (wr.iterAt I s (pos + (Utf8.decode s pos).2)) := ⟨rfl, rfl, rfl, by rw [Lib.iterAt_size]; exact Nat.le_refl _, fun k _ hk => Lib.iterAt_other wr I k s _ hk⟩
        have hown2 := own_keepC hown hch fun g hg => by have := (hown.lt g hg).1; omega
        have hsz2 : I + 1 ≤ (wr.iterAt I s (pos + (Utf8.decode s pos).2)).heap.size := by rw [Lib.iterAt_size]; omega
        have hx := (Below.refl (wr.iterAt I s (pos + (Utf8.decode s pos).2)).heap.size (wr.iterAt I s (pos + (Utf8.decode s pos).2))).alloc (Nat.le_refl _) (.cells #[.int .i32 ((Utf8.decode s pos).1 : Int)] 21)
        have hown3 := own_below hown2 hx
        have hit3 := (hx.block I (by omega)).trans hit2
        have hbw3 := hbw2.trans (hx.mono (by omega))
        have hsz3 : I + 1 ≤ ((wr.iterAt I s (pos + (Utf8.decode s pos).2)).alloc (.cells #[.int .i32 ((Utf8.decode s pos).1 : Int)] 21)).heap.size := Nat.le_trans hsz2 hx.size
        have hitp : wr.iterPos I = pos := by simp only [World.iterPos, hit]
        clear hown hit hbw hch hown2 hit2 hbw2 hsz2 hx
        generalize (Utf8.decode s pos).2 = wd at *
        generalize (Utf8.decode s pos).1 = rn at *
        go_wp2_with (at_builtin; refine wpList_app _ rfl _ _ rfl slI32 (I + 1) (.slice A acc.length c) acc.length (i32s acc) rfl hown3 _ 1 1 [.int .i32 (rn : Int)] rfl rfl (Rd.many _ _ _) (by simp [Value.oneCell']) (by unfold maxLen; omega) (by omega) hsz3 ?_; intro A7 c7 w7 ho7 hg7)
        have hb7 := hg7.under hown3 (Nat.le_refl _) hsz3
        have hit7 := (hb7.block I (by omega)).trans hit3
        go_roundw
        case rel =>
          refine ⟨pos + wd, f, acc ++ [(rn : Int)], A7, c7, by simp, ?_, hit7, hbw3.trans (hb7.mono (by omega)), by rw [← HA.out]; simp, by omega, by simp; omega⟩
          · have : i32s (acc ++ [(rn : Int)]) = i32s acc ++ [.int .i32 (rn : Int)] := by simp [i32s]
            rw [this, List.length_append]
            exact ho7
        case measure =>
          have h7 : w7.iterPos I = pos + wd := by simp only [World.iterPos, hit7]
          rw [h7, hitp]
          omega
      · have hnx : ∀ ty, (Instr.next (.pointer (some ⟨I, 0, none⟩)) true ty).run Tryd.prog wr = _ := fun ty => Lib.run_next_end_at wr I s pos ty hit hp
        rw [runesFrom_end s fuel pos hp, List.append_nil] at hacc
        have HA := Lib.hid hacc
        clear hacc
        go_wp2_with fail
        go_ret2
        refine ⟨?_, ?_⟩
        · exact hb1.trans (hbw.mono (HI.out ▸ hb1.size))
        · rw [HV.out]
          exact ⟨A, c, by rw [← HA.out]; rfl, by rw [← HA.out]; exact Rd.of_own hown⟩
def badR (r : Int) : Bool := decide (r ≤ 32) || (decide (127 ≤ r) && decide (r ≤ 159)) || decide (r = 47) || decide (r = 34) || decide (r = 92) || decide (r = 65533)
def nameB (s : ByteArray) : Nat := if Lib.validD s.data.toList = false then 1 else if (runesV s).length < 1 ∨ 32 < (runesV s).length ∨ 64 < s.size then 1 else if (runesV s).any badR then 1 else 0
def nameE (l : Bts) : Nat := nameB ⟨l.toArray⟩
theorem any_drop (l : List Int) (i : Nat) (h : i < l.length) : (l.drop i).any badR = (badR l[i] || (l.drop (i + 1)).any badR) := by
  rw [List.drop_eq_getElem_cons h, List.any_cons]
theorem name_at (s : ByteArray) (w : World) (hs : s.size ≤ 1048576) (hT : Tabs w) : Calls Tryd.prog 51 #[.string s] w fun e w' => e = .returned (.int .i64 (nameB s : Nat)) ∧ Below w.heap.size w w' := by
  have hr := runes_any s w hs hT
  unfold RunesPost at hr
  have HB : Hid (nameB s = if Lib.validD s.data.toList = false then 1 else if (runesV s).length < 1 ∨ 32 < (runesV s).length ∨ 64 < s.size then 1 else if (runesV s).any badR then 1 else 0) := Lib.hid rfl
  generalize nameB s = R at *
  generalize runesV s = l at *
  cases hv : Lib.validD s.data.toList with
  | false =>
    rw [hv] at hr HB
    clear hv
    go_enter Tryd.func51, Tryd.ntmps51
    go_wp2_with fail
    refine hr.mono ?_
    rintro e w1 ⟨hb1, rfl⟩
    clear hr
    go_wp2_with fail
    go_ret
    exact ⟨by rw [HB.out]; rfl, hb1⟩
  | true =>
    rw [hv] at hr HB
    clear hv
    simp only [if_true] at hr
    replace HB := Lib.hid (HB.out.trans (if_neg (by simp)))
    go_enter Tryd.func51, Tryd.ntmps51
    go_wp2_with fail
    refine hr.mono ?_
    rintro e w1 ⟨hb1, A, c, rfl, hrd⟩
    clear hr
    by_cases h1 : l.length < 1
    · have q1 : (l.length : Int) < 1 := by omega
      replace HB := Lib.hid (HB.out.trans (if_pos (.inl h1)))
      clear h1
      go_wp2_with fail
      go_ret
      exact ⟨by rw [HB.out]; rfl, hb1⟩
    have q1 : ¬ (l.length : Int) < 1 := by omega
    by_cases h2 : 32 < l.length
    · have q2 : (32 : Int) < (l.length : Int) := by omega
      replace HB := Lib.hid (HB.out.trans (if_pos (.inr (.inl h2))))
      clear h1 h2
      go_wp2_with fail
      go_ret
      exact ⟨by rw [HB.out]; rfl, hb1⟩
    have q2 : ¬ (32 : Int) < (l.length : Int) := by omega
    by_cases h3 : 64 < s.size
    · have q3 : (64 : Int) < (s.size : Int) := by omega
      replace HB := Lib.hid (HB.out.trans (if_pos (.inr (.inr h3))))
      clear h1 h2 h3
      go_wp2_with fail
      go_ret
      exact ⟨by rw [HB.out]; rfl, hb1⟩
    have q3 : ¬ (64 : Int) < (s.size : Int) := by omega
    replace HB := Lib.hid (HB.out.trans (if_neg (by omega)))
    clear h1 h2 h3
    go_wp2_with fail
    go_loopg [6, 31] l.length (fun m s6 s31 wr => ∃ i : Nat, m = l.length - i ∧ i ≤ l.length ∧ s31 = .int .i64 (i : Nat) ∧ (l.any badR = (l.drop i).any badR) ∧ Below w.heap.size w wr ∧ Below w1.heap.size w1 wr)
    case atStart => exact ⟨0, by omega, by omega, rfl, rfl, hb1, Below.refl _ _⟩
    case round =>
      clear hb1
      obtain ⟨i, rfl, hi, rfl, hany, hb, hbw⟩ := hrel
      have HA := Lib.hid hany
      clear hany
      by_cases hlt : i < l.length
      · have r1 : (i : Int) < (l.length : Int) := by omega
        obtain ⟨ad, rfl, hadb, hcell0⟩ := hrd.at_ (k := i) (by simpa [i32s] using hlt)
        have hcell : wr.cell? (ad.add i) = some (.int .i32 l[i]) := by
          rw [hbw.cell (p := ad.add i) (by rw [add_block]; exact hadb), hcell0]
          simp [i32s]
        have hfd := any_drop l i hlt
        generalize l[i] = r at *
        clear hcell0
        go_upto_region 7 with fail
        go_cut [6, 60] (fun s6 s60 wx => s6 = .int .i32 r ∧ s60 = .bool (badR r) ∧ wr = wx)
        case first =>
          as_aux_lemma =>
          clear HA HB hfd hrd hb hbw hadb r1 hi hlt hs hT q1 q2 q3 hcell
          go_wp2_with fail
          all_goals (go_meet; exact ⟨by simp [*], by unfold badR; first | (simp [*]; done) | (refine congrArg Value.bool ?_; rw [Bool.eq_iff_iff]; simp only [Bool.or_eq_true, Bool.and_eq_true, decide_eq_true_iff, beq_iff_eq]; omega), rfl⟩)
        case rest =>
        obtain ⟨rfl, rfl, rfl⟩ := hcut
        cases hbr : badR r with
        | true =>
          rw [hbr, Bool.true_or] at hfd
          replace HB := Lib.hid (HB.out.trans (if_pos (by rw [HA.out, hfd])))
          clear hfd hbr
          go_wp2_with fail
          go_ret
          exact ⟨by rw [HB.out]; rfl, hb⟩
        | false =>
          rw [hbr, Bool.false_or] at hfd
          have HD := Lib.hid hfd
          clear hfd hbr
          go_wp2_with fail
          go_roundg (l.length - (i + 1))
          case measure => omega
          case rel => exact ⟨i + 1, rfl, hlt, by go_num, HA.out.trans HD.out, hb, hbw⟩
      · have r1 : ¬ (i : Int) < (l.length : Int) := by omega
        have hil : i = l.length := by omega
        subst hil
        have hAf : l.any badR = false := by rw [HA.out, List.drop_length]; rfl
        replace HB := Lib.hid (HB.out.trans (if_neg (by rw [hAf]; simp)))
        clear hAf
        go_wp2_with fail
        go_ret
        exact ⟨by rw [HB.out]; rfl, hb⟩
theorem nameC : NameC nameE Tabs where
  call s W hs hT := by
    have := name_at s W hs hT
    have e : nameE (strB s) = nameB s := by unfold nameE; rw [bts_str]
    rw [e]
    exact this
  keep W W' hT hb := Utf8Tabs_below hT hb
end Go.Proofs.YthhpcilinkebeaaDoor
