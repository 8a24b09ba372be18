/- flintlaw3.ZoneFronts returns true at every row of zones, every flush and every row of picks, and they read afterwards as before. No condition beyond the form's own reach. -/
import Derived.Test.YtppfjdohajomoaaZw
import Derived.Test.YtppfjdohajomoaaOe
namespace Go.Proofs.Ytppfjdohajomoaa
open Go.ChangeShapes Go.WideShapes Go.ChangeAt Go.RowKit Go.Deep

set_option maxRecDepth 100000 in
theorem zoneFronts_lifted (os : Os) (started : os.Started) (H : Type) (enc : TypeId × Value → H) :
    ReturnsInHanded {} Try.checked os 10 .any (Rows.zoneFrontsSpec.pre6 enc Try.prog Try.f10 Rows.zoneFrontsRow.domain false) (Rows.zoneFrontsSpec.post enc Try.prog Try.f10 false true false false) := by
  refine returnsInHanded_of_change_sized (C := Try.checked) Try.own started (by kernel_rfl) Try.func10
    (ChangeSpec.witness6 (enc := enc) (C := Try.checked) false ⟨#[], #[.slice none 0 0, .int .i64 0, .slice none 0 0], []⟩ 8 (by kernel_rfl) (by kernel_rfl) (by kernel_rfl) (by kernel_rfl)) ?_
  intro W base args ds gs before hval0 hW hcnd hsz0 _
  have hval : ∀ (j : Nat) t v, Try.f10.params[j]? = some t → args[j]? = some v → Value.okWide Try.prog W .any base t v := hval0
  have hW' := hW
  obtain ⟨p, q, hA0, hV, rfl, hfz, hnd⟩ := hW
  have hA : DataW.TrodAll enc Try.prog W 0 (fun _ => true) true Try.f10.params.toList args.toList ds p := hA0
  rw [Try.params10] at hA hval
  obtain ⟨v0, v1, v2, d0, d1, d2, p0, p1, p2, rfl, rfl, rfl, h0, h1, h2⟩ := trodAll_three hA
  obtain ⟨rfl, rfl⟩ := trodVars_none hV
  have hsz : (DataW.weightsEach Try.prog [66, 3, 66] [d0, d1, d2]).all (fun x => decide (x ≤ reachBytes)) = true := hsz0
  obtain ⟨A, l, c, rfl, hl, hx, hlc, hll⟩ := open_intRowA (hval 0 66 v0 rfl rfl) h0 (sized_at hsz (j := 0) rfl rfl)
  obtain ⟨n, rfl, _, _, ws⟩ := open_int Try.underlying3 (hval 1 3 v1 rfl rfl) h1
  obtain ⟨A2, p9, c2, rfl, hp, hpx, hpc, hpl⟩ := open_intRowA (hval 2 66 v2 rfl rfl) h2 (sized_at hsz (j := 2) rfl rfl)
  refine (zoneFronts_any W A A2 c c2 l p9 n hl hx hp hpc hpx).mono fun e W' ⟨he, hb⟩ => ?_
  subst he
  exact ⟨_, rfl, post_law hW' rfl ⟨rfl, rfl, rfl⟩ (by kernel_rfl) (by kernel_rfl) hb⟩

theorem zoneFronts_holds : Rows.ZoneFrontsSaid :=
  OpenClaim.holds_of_wide 10 Try.f10 rfl rfl rfl rfl rfl rfl rfl ⟨rfl, rfl, rfl, rfl, rfl⟩ rfl rfl rfl rfl rfl (by kernel_rfl) Try.func10 (by kernel_rfl)
    (of_decide_eq_true (by kernel_rfl)) (by unfold Func.isWrapper; first | (rw [if_pos (by decide +kernel)]; kernel_rfl) | (rw [if_neg (by decide +kernel)]; exact ⟨rfl, rfl⟩))
    (fun os started H enc _ => zoneFronts_lifted os started H enc)
#print axioms zoneFronts_holds
end Go.Proofs.Ytppfjdohajomoaa
