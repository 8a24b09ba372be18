/- FactSteps: the walk. -/
import Derived.Test.YtadgaphgomagkaaQr
namespace Go.Proofs.Ytadgaphgomagkaa
open Go.RowKit
set_option maxHeartbeats 8000000
set_option maxRecDepth 100000

def StepP (w : World) (ll : List LM) (e : Ending) (w' : World) : Prop := ∃ A c R, e = .returned (.tuple #[.slice A R.length c, .int .i64 0]) ∧ LM.ok ⟨A, c, R⟩ w' ∧ rightF R = true ∧ Norm ltV (catV ll) (R.map FM.fv) ∧ R.length ≤ (catF ll).length ∧ Below w.heap.size w w'
theorem mergeNew (w : World) (ll : List LM) (hok : ∀ m ∈ ll, m.ok w) (hR : rightL ll = true) (hn : (catF ll).length ≤ 1048576) (hll : ll.length ≤ 1048576) :
    Calls Try.prog 47 #[.slice (some ⟨w.heap.size, 0, none⟩) ll.length ll.length] (w.alloc (.cells (ll.map LM.val).toArray 56)) (StepP w ll) := by
  have hb := (Below.refl w.heap.size w).alloc (Nat.le_refl _) (.cells (ll.map LM.val).toArray 56)
  refine (merge_any (some ⟨w.heap.size, 0, none⟩) ll.length ll _ (Rd.many _ _ _) (fun m hm => (hok m hm).below hb) hn hll).mono fun e w' hpost => ?_
  obtain ⟨h1, h2⟩ := hpost
  rw [if_pos hR] at h2
  obtain ⟨A, c, R, rfl, h3, h4, h5, h6⟩ := h2
  exact ⟨A, c, R, rfl, ⟨h3, h4⟩, str_rightF _ (Str.fv.2 h5.str), h5, h6, hb.trans (h1.mono hb.size)⟩
theorem mergeNew2 (w : World) (a b : LM) (ha : a.ok w) (hb : b.ok w) (hra : rightF a.L = true) (hrb : rightF b.L = true) (hn : a.L.length + b.L.length ≤ 1048576) :
    Calls Try.prog 47 #[.slice (some ⟨w.heap.size, 0, none⟩) 2 2] (w.alloc (.cells #[.slice a.A a.L.length a.c, .slice b.A b.L.length b.c] 56)) (StepP w [a, b]) :=
  mergeNew w [a, b] (by simp [ha, hb]) (by simp [rightL, hra, hrb]) (by simp [catF]; omega) (by simp)
theorem mergeNew3 (w : World) (a b c : LM) (ha : a.ok w) (hb : b.ok w) (hc : c.ok w) (hra : rightF a.L = true) (hrb : rightF b.L = true) (hrc : rightF c.L = true) (hn : a.L.length + b.L.length + c.L.length ≤ 1048576) :
    Calls Try.prog 47 #[.slice (some ⟨w.heap.size, 0, none⟩) 3 3] (w.alloc (.cells #[.slice a.A a.L.length a.c, .slice b.A b.L.length b.c, .slice c.A c.L.length c.c] 56)) (StepP w [a, b, c]) :=
  mergeNew w [a, b, c] (by simp [ha, hb, hc]) (by simp [rightL, hra, hrb, hrc]) (by simp [catF]; omega) (by simp)
theorem catV2 (a b : LM) : catV [a, b] = a.L.map FM.fv ++ b.L.map FM.fv := by simp [catV, catF]
theorem catV3 (a b c : LM) : catV [a, b, c] = a.L.map FM.fv ++ (b.L.map FM.fv ++ c.L.map FM.fv) := by simp [catV, catF]
theorem steps_left {a b c m : LM} {R R2 : List FV} (h1 : Norm ltV (catV [a, b]) (m.L.map FM.fv)) (h2 : Norm ltV (catV [m, c]) R2) (h3 : Norm ltV (catV [a, b, c]) R) : R = R2 := by
  rw [catV2] at h1 h2
  rw [catV3, ← List.append_assoc] at h3
  exact h3.uniq ltV_wk (h1.left h2)
theorem steps_right {a b c m : LM} {R R2 : List FV} (h1 : Norm ltV (catV [b, c]) (m.L.map FM.fv)) (h2 : Norm ltV (catV [a, m]) R2) (h3 : Norm ltV (catV [a, b, c]) R) : R = R2 := by
  rw [catV2] at h1 h2
  rw [catV3] at h3
  exact h3.uniq ltV_wk (h1.right h2)
theorem fewF_len {l : List FM} (h : fewF l 400 = true) : l.length ≤ 400 := by simp only [fewF, Bool.and_eq_true, decide_eq_true_eq] at h; omega
theorem factSteps_any (w : World) (A1 A2 A3 : Option Addr) (c1 c2 c3 : Nat) (l1 l2 l3 : List FM) (ha : LM.ok ⟨A1, c1, l1⟩ w) (hb : LM.ok ⟨A2, c2, l2⟩ w) (hc : LM.ok ⟨A3, c3, l3⟩ w) (n1 : l1.length ≤ 1048576) (n2 : l2.length ≤ 1048576) (n3 : l3.length ≤ 1048576) :
    Calls Try.prog 12 #[.slice A1 l1.length c1, .slice A2 l2.length c2, .slice A3 l3.length c3] w fun e w' => e = .returned (.bool true) ∧ Below w.heap.size w w' := by
  have F1 := fun (W : World) (h : LM.ok ⟨A1, c1, l1⟩ W) => few_any A1 c1 l1 400 W h.1 h.2 n1
  have F2 := fun (W : World) (h : LM.ok ⟨A2, c2, l2⟩ W) => few_any A2 c2 l2 400 W h.1 h.2 n2
  have F3 := fun (W : World) (h : LM.ok ⟨A3, c3, l3⟩ W) => few_any A3 c3 l3 400 W h.1 h.2 n3
  have R1 := fun (W : World) (h : LM.ok ⟨A1, c1, l1⟩ W) => refRight_any A1 c1 l1 W h.1 n1
  have R2 := fun (W : World) (h : LM.ok ⟨A2, c2, l2⟩ W) => refRight_any A2 c2 l2 W h.1 n2
  have R3 := fun (W : World) (h : LM.ok ⟨A3, c3, l3⟩ W) => refRight_any A3 c3 l3 W h.1 n3
  have HL1 := Lib.hid (fewF_len (l := l1))
  have HL2 := Lib.hid (fewF_len (l := l2))
  have HL3 := Lib.hid (fewF_len (l := l3))
  obtain ⟨f1, hf1⟩ : ∃ f1, fewF l1 400 = f1 := ⟨_, rfl⟩
  obtain ⟨f2, hf2⟩ : ∃ f2, fewF l2 400 = f2 := ⟨_, rfl⟩
  obtain ⟨f3, hf3⟩ : ∃ f3, fewF l3 400 = f3 := ⟨_, rfl⟩
  obtain ⟨r1, hr1⟩ : ∃ r1, rightF l1 = r1 := ⟨_, rfl⟩
  obtain ⟨r2, hr2⟩ : ∃ r2, rightF l2 = r2 := ⟨_, rfl⟩
  obtain ⟨r3, hr3⟩ : ∃ r3, rightF l3 = r3 := ⟨_, rfl⟩
  rw [hf1] at F1 HL1
  rw [hf2] at F2 HL2
  rw [hf3] at F3 HL3
  rw [hr1] at R1
  rw [hr2] at R2
  rw [hr3] at R3
  have HR1 := Lib.hid hr1
  have HR2 := Lib.hid hr2
  have HR3 := Lib.hid hr3
  clear hf1 hf2 hf3 hr1 hr2 hr3 n1 n2 n3
  go_enter Try.func12, Try.ntmps12
  go_wp2_with fail
  refine (known11_any _).mono ?_
  rintro e w1 ⟨rfl, hb1⟩
  replace ha := ha.below hb1
  replace hb := hb.below hb1
  replace hc := hc.below hb1
  go_wp2_with fail
  refine (F1 _ ha).mono ?_
  rintro e w2 ⟨rfl, hb2⟩
  replace ha := ha.below hb2
  replace hb := hb.below hb2
  replace hc := hc.below hb2
  have hbt := hb1.trans (hb2.mono hb1.size)
  clear hb1 hb2 F1
  cases f1 with
  | false => go_wp2_with fail; go_ret; exact ⟨rfl, hbt⟩
  | true =>
  go_wp2_with fail
  refine (F2 _ hb).mono ?_
  rintro e w3 ⟨rfl, hb2⟩
  replace ha := ha.below hb2
  replace hb := hb.below hb2
  replace hc := hc.below hb2
  replace hbt := hbt.trans (hb2.mono hbt.size)
  clear hb2 F2
  cases f2 with
  | false => go_wp2_with fail; go_ret; exact ⟨rfl, hbt⟩
  | true =>
  go_wp2_with fail
  refine (F3 _ hc).mono ?_
  rintro e w4 ⟨rfl, hb2⟩
  replace ha := ha.below hb2
  replace hb := hb.below hb2
  replace hc := hc.below hb2
  replace hbt := hbt.trans (hb2.mono hbt.size)
  clear hb2 F3
  cases f3 with
  | false => go_wp2_with fail; go_ret; exact ⟨rfl, hbt⟩
  | true =>
  go_wp2_with fail
  refine (R1 _ ha).mono ?_
  rintro e w5 ⟨rfl, hb2⟩
  replace ha := ha.below hb2
  replace hb := hb.below hb2
  replace hc := hc.below hb2
  replace hbt := hbt.trans (hb2.mono hbt.size)
  clear hb2 R1
  cases r1 with
  | false => go_wp2_with fail; go_ret; exact ⟨rfl, hbt⟩
  | true =>
  go_wp2_with fail
  refine (R2 _ hb).mono ?_
  rintro e w6 ⟨rfl, hb2⟩
  replace ha := ha.below hb2
  replace hb := hb.below hb2
  replace hc := hc.below hb2
  replace hbt := hbt.trans (hb2.mono hbt.size)
  clear hb2 R2
  cases r2 with
  | false => go_wp2_with fail; go_ret; exact ⟨rfl, hbt⟩
  | true =>
  go_wp2_with fail
  refine (R3 _ hc).mono ?_
  rintro e w7 ⟨rfl, hb2⟩
  replace ha := ha.below hb2
  replace hb := hb.below hb2
  replace hc := hc.below hb2
  replace hbt := hbt.trans (hb2.mono hbt.size)
  clear hb2 R3
  cases r3 with
  | false => go_wp2_with fail; go_ret; exact ⟨rfl, hbt⟩
  | true =>
  have k1 := HL1.out (by simp)
  have k2 := HL2.out (by simp)
  have k3 := HL3.out (by simp)
  go_wp2_with fail
  refine (mergeNew3 w7 ⟨A1, c1, l1⟩ ⟨A2, c2, l2⟩ ⟨A3, c3, l3⟩ ha hb hc HR1.out HR2.out HR3.out (by simp only; omega)).mono ?_
  rintro e w8 ⟨Aa, ca, La, rfl, ka, ra, Na, sa, hb2⟩
  replace ha := ha.below hb2
  replace hb := hb.below hb2
  replace hc := hc.below hb2
  replace hbt := hbt.trans (hb2.mono hbt.size)
  clear hb2
  simp only [catF, List.flatMap_cons, List.flatMap_nil, List.append_nil, List.length_append] at sa
  go_wp2_with fail
  refine (mergeNew2 w8 ⟨A1, c1, l1⟩ ⟨A2, c2, l2⟩ ha hb HR1.out HR2.out (by simp only; omega)).mono ?_
  rintro e w9 ⟨Ab, cb, Lb, rfl, kb, rb, Nb, sb, hb2⟩
  replace ha := ha.below hb2
  replace hb := hb.below hb2
  replace hc := hc.below hb2
  replace ka := ka.below hb2
  replace hbt := hbt.trans (hb2.mono hbt.size)
  clear hb2
  simp only [catF, List.flatMap_cons, List.flatMap_nil, List.append_nil, List.length_append] at sb
  go_wp2_with fail
  refine (mergeNew2 w9 ⟨Ab, cb, Lb⟩ ⟨A3, c3, l3⟩ kb hc rb HR3.out (by simp only; omega)).mono ?_
  rintro e w10 ⟨Ac, cc, Lc, rfl, kc, rc, Nc, sc, hb2⟩
  replace ha := ha.below hb2
  replace hb := hb.below hb2
  replace hc := hc.below hb2
  replace ka := ka.below hb2
  replace hbt := hbt.trans (hb2.mono hbt.size)
  clear hb2
  have E1 := Lib.hid (steps_left Nb Nc Na)
  clear Nb Nc sc sb kb rb rc
  go_wp2_with fail
  refine (mergeNew2 w10 ⟨A2, c2, l2⟩ ⟨A3, c3, l3⟩ hb hc HR2.out HR3.out (by simp only; omega)).mono ?_
  rintro e w11 ⟨Ad, cd, Ld, rfl, kd, rd, Nd, sd, hb2⟩
  replace ha := ha.below hb2
  replace ka := ka.below hb2
  replace kc := kc.below hb2
  replace hbt := hbt.trans (hb2.mono hbt.size)
  clear hb2 hb hc
  simp only [catF, List.flatMap_cons, List.flatMap_nil, List.append_nil, List.length_append] at sd
  go_wp2_with fail
  refine (mergeNew2 w11 ⟨A1, c1, l1⟩ ⟨Ad, cd, Ld⟩ ha kd HR1.out rd (by simp only; omega)).mono ?_
  rintro e w12 ⟨Ae, ce, Le, rfl, ke, re, Ne, se, hb2⟩
  replace ka := ka.below hb2
  replace kc := kc.below hb2
  replace hbt := hbt.trans (hb2.mono hbt.size)
  have E2 := Lib.hid (steps_right Nd Ne Na)
  clear hb2 ha Nd Ne Na kd rd re se sd
  have S1 := sameRows_any Aa Ac ca cc La Lc w12 ka.1 kc.1 ka.2 kc.2 (by omega)
  rw [decide_eq_true E1.out] at S1
  go_wp2_with fail
  refine S1.mono ?_
  rintro e w13 ⟨rfl, hb2⟩
  replace ka := ka.below hb2
  replace ke := ke.below hb2
  replace hbt := hbt.trans (hb2.mono hbt.size)
  clear hb2 S1 kc
  have S2 := sameRows_any Aa Ae ca ce La Le w13 ka.1 ke.1 ka.2 ke.2 (by omega)
  rw [decide_eq_true E2.out] at S2
  go_wp2_with fail
  refine S2.mono ?_
  rintro e w14 ⟨rfl, hb2⟩
  replace ka := ka.below hb2
  replace hbt := hbt.trans (hb2.mono hbt.size)
  clear hb2 S2 ke
  have S3 := right_any Aa ca La w14 ka.1 (by omega)
  rw [ra] at S3
  go_wp2_with fail
  refine S3.mono ?_
  rintro e w15 ⟨rfl, hb2⟩
  replace hbt := hbt.trans (hb2.mono hbt.size)
  go_wp2_with fail
  go_ret
  exact ⟨rfl, hbt⟩
end Go.Proofs.Ytadgaphgomagkaa
