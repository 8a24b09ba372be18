/- flintlaw1.FrameBits returns true at every row of bytes, every size and every place, and they read afterwards as before. No condition beyond the form's own reach. -/
import Derived.Test.YtppfjdohajomoaaGy
import Derived.Test.YtppfjdohajomoaaOc
namespace Go.Proofs.Ytppfjdohajomoaa
open Go.ChangeShapes Go.WideShapes Go.ChangeAt Go.RowKit Go.Deep

set_option maxRecDepth 100000 in
theorem frameBits_lifted (os : Os) (started : os.Started) (H : Type) (enc : TypeId × Value → H) :
    ReturnsInHanded {} Try.checked os 13 .any (Rows.frameBitsSpec.pre6 enc Try.prog Try.f13 Rows.frameBitsRow.domain false) (Rows.frameBitsSpec.post enc Try.prog Try.f13 false true false false) := by
  refine returnsInHanded_of_change_sized (C := Try.checked) Try.own started (by kernel_rfl) Try.func13
    (ChangeSpec.witness6 (enc := enc) (C := Try.checked) false ⟨#[], #[.slice none 0 0, .int .i64 0, .int .i64 0], []⟩ 8 (by kernel_rfl) (by kernel_rfl) (by kernel_rfl) (by kernel_rfl)) ?_
  intro W base args ds gs before hval0 hW hcnd hsz0 _
  have hval : ∀ (j : Nat) t v, Try.f13.params[j]? = some t → args[j]? = some v → Value.okWide Try.prog W .any base t v := hval0
  have hW' := hW
  obtain ⟨p, q, hA0, hV, rfl, hfz, hnd⟩ := hW
  have hA : DataW.TrodAll enc Try.prog W 0 (fun _ => true) true Try.f13.params.toList args.toList ds p := hA0
  rw [Try.params13] at hA hval
  obtain ⟨v0, v1, v2, d0, d1, d2, p0, p1, p2, rfl, rfl, rfl, h0, h1, h2⟩ := trodAll_three hA
  obtain ⟨rfl, rfl⟩ := trodVars_none hV
  have hsz : (DataW.weightsEach Try.prog [38, 3, 3] [d0, d1, d2]).all (fun x => decide (x ≤ reachBytes)) = true := hsz0
  obtain ⟨A, x, c, rfl, hx, hxc, hxl⟩ := open_rowA (hval 0 38 v0 rfl rfl) h0 (sized_at hsz (j := 0) rfl rfl)
  obtain ⟨size, rfl, _, _, ws⟩ := open_int Try.underlying3 (hval 1 3 v1 rfl rfl) h1
  obtain ⟨at_, rfl, _, _, wt⟩ := open_int Try.underlying3 (hval 2 3 v2 rfl rfl) h2
  refine (frameBits_any A c size at_ x W hx hxc hxl).mono fun e W' ⟨he, hb⟩ => ?_
  subst he
  exact ⟨_, rfl, post_law hW' rfl ⟨rfl, rfl, rfl⟩ (by kernel_rfl) (by kernel_rfl) hb⟩

theorem frameBits_holds : Rows.FrameBitsSaid :=
  OpenClaim.holds_of_wide 13 Try.f13 rfl rfl rfl rfl rfl rfl rfl ⟨rfl, rfl, rfl, rfl, rfl⟩ rfl rfl rfl rfl rfl (by kernel_rfl) Try.func13 (by kernel_rfl)
    (of_decide_eq_true (by kernel_rfl)) (by unfold Func.isWrapper; first | (rw [if_pos (by decide +kernel)]; kernel_rfl) | (rw [if_neg (by decide +kernel)]; exact ⟨rfl, rfl⟩))
    (fun os started H enc _ => frameBits_lifted os started H enc)
#print axioms frameBits_holds
end Go.Proofs.Ytppfjdohajomoaa
