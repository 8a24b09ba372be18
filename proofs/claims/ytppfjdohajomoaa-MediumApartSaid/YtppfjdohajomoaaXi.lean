/- flintlaw14.MediumApart returns true at every depth, two rows of acts, every medium and block. No condition beyond the form's own reach. -/
import Derived.Test.YtppfjdohajomoaaMs
import Derived.Test.YtppfjdohajomoaaOd
namespace Go.Proofs.Ytppfjdohajomoaa
open Go.ChangeShapes Go.WideShapes Go.ChangeAt Go.RowKit Go.Deep

set_option maxRecDepth 100000 in
theorem mediumApart_lifted (os : Os) (started : os.Started) (H : Type) (enc : TypeId × Value → H) :
    ReturnsInHanded {} Try.checked os 7 .any (Rows.mediumApartSpec.pre6 enc Try.prog Try.f7 Rows.mediumApartRow.domain false) (Rows.mediumApartSpec.post enc Try.prog Try.f7 false true false false) := by
  refine returnsInHanded_of_change_sized (C := Try.checked) Try.own started (by kernel_rfl) Try.func7
    (ChangeSpec.witness6 (enc := enc) (C := Try.checked) false ⟨#[], #[.int .i64 0, .slice none 0 0, .int .u64 0, .int .i64 0, .slice none 0 0], []⟩ 8 (by kernel_rfl) (by kernel_rfl) (by kernel_rfl) (by kernel_rfl)) ?_
  intro W base args ds gs before hval0 hW hcnd hsz0 _
  have hval : ∀ (j : Nat) t v, Try.f7.params[j]? = some t → args[j]? = some v → Value.okWide Try.prog W .any base t v := hval0
  have hW' := hW
  obtain ⟨p, q, hA0, hV, rfl, hfz, hnd⟩ := hW
  have hA : DataW.TrodAll enc Try.prog W 0 (fun _ => true) true Try.f7.params.toList args.toList ds p := hA0
  rw [Try.params7] at hA hval
  obtain ⟨v0, v1, v2, v3, v4, d0, d1, d2, d3, d4, p0, p1, p2, p3, p4, rfl, rfl, h0, h1, h2, h3, h4⟩ := trodAll_five hA
  obtain ⟨rfl, rfl⟩ := trodVars_none hV
  obtain ⟨depth, rfl, _, _, _⟩ := open_int Try.underlying3 (hval 0 3 v0 rfl rfl) h0
  obtain ⟨A, l, c, rfl, hl, hla⟩ := open_actsA (hval 1 53 v1 rfl rfl) h1
  obtain ⟨id, rfl, _, _, wi⟩ := open_int Try.underlying27 (hval 2 27 v2 rfl rfl) h2
  obtain ⟨idn, rfl, hid⟩ := wf_u64 wi
  obtain ⟨b, rfl, _, _, wb⟩ := open_int Try.underlying3 (hval 3 3 v3 rfl rfl) h3
  have wbb := wf_i64 wb
  obtain ⟨B, more, d, rfl, hm, hma⟩ := open_actsA (hval 4 53 v4 rfl rfl) h4
  refine (mediumApart_any A B c d idn depth b l more W hl hm hid wbb.1 wbb.2 hla hma).mono fun e W' ⟨he, hb⟩ => ?_
  subst he
  exact ⟨_, rfl, post_law hW' rfl ⟨rfl, rfl, rfl⟩ (by kernel_rfl) (by kernel_rfl) hb⟩

theorem mediumApart_holds : Rows.MediumApartSaid :=
  OpenClaim.holds_of_wide 7 Try.f7 rfl rfl rfl rfl rfl rfl rfl ⟨rfl, rfl, rfl, rfl, rfl⟩ rfl rfl rfl rfl rfl (by kernel_rfl) Try.func7 (by kernel_rfl)
    (of_decide_eq_true (by kernel_rfl)) (by unfold Func.isWrapper; first | (rw [if_pos (by decide +kernel)]; kernel_rfl) | (rw [if_neg (by decide +kernel)]; exact ⟨rfl, rfl⟩))
    (fun os started H enc _ => mediumApart_lifted os started H enc)
#print axioms mediumApart_holds
end Go.Proofs.Ytppfjdohajomoaa
