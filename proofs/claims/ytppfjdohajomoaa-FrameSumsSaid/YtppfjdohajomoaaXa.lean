/- flintlaw1.FrameSums returns true at every slice of byte slices, and its argument reads afterwards as before. No condition beyond the form's own reach. -/
import Derived.Test.YtppfjdohajomoaaFv
import Derived.Test.YtppfjdohajomoaaOa
namespace Go.Proofs.Ytppfjdohajomoaa
open Go.ChangeShapes Go.WideShapes Go.ChangeAt Go.RowKit Go.Deep

set_option maxRecDepth 100000 in
theorem frameSums_lifted (os : Os) (started : os.Started) (H : Type) (enc : TypeId × Value → H) :
    ReturnsInHanded {} Try.checked os 4 .any (Rows.frameSumsSpec.pre6 enc Try.prog Try.f4 Rows.frameSumsRow.domain false) (Rows.frameSumsSpec.post enc Try.prog Try.f4 false true false false) := by
  refine returnsInHanded_of_change_sized (C := Try.checked) Try.own started (by kernel_rfl) Try.func4
    (ChangeSpec.witness6 (enc := enc) (C := Try.checked) false ⟨#[], #[.slice none 0 0], []⟩ 8 (by kernel_rfl) (by kernel_rfl) (by kernel_rfl) (by kernel_rfl)) ?_
  intro W base args ds gs before hval0 hW hcnd hsz0 _
  have hval : ∀ (j : Nat) t v, Try.f4.params[j]? = some t → args[j]? = some v → Value.okWide Try.prog W .any base t v := hval0
  have hW' := hW
  obtain ⟨p, q, hA0, hV, rfl, hfz, hnd⟩ := hW
  have hA : DataW.TrodAll enc Try.prog W 0 (fun _ => true) true Try.f4.params.toList args.toList ds p := hA0
  rw [Try.params4] at hA hval
  obtain ⟨v0, d0, rfl, rfl, h0⟩ := trodAll_one hA
  obtain ⟨rfl, rfl⟩ := trodVars_none hV
  have hsz : (DataW.weightsEach Try.prog [37] [d0]).all (fun x => decide (x ≤ reachBytes)) = true := hsz0
  obtain ⟨a0, l0, c0, rfl⟩ := okWide_slice Try.underlying37 (hval 0 37 v0 rfl rfl)
  obtain ⟨fuel, h1⟩ := h0
  obtain ⟨A, c, bs, hv, hr, hl, hok, hc⟩ := open_rows h1 (fun n hn => by simpa using List.all_eq_true.1 hsz n (DataW.weights_mem_each (j := 0) rfl rfl n hn))
  rw [hv]
  refine (frameSums_any A c bs W hr hl hok).mono fun e W' ⟨he, hb⟩ => ?_
  subst he
  rw [hv] at hW'
  exact ⟨_, rfl, post_law hW' rfl ⟨rfl, rfl, rfl⟩ (by kernel_rfl) (by kernel_rfl) hb⟩

theorem frameSums_holds : Rows.FrameSumsSaid :=
  OpenClaim.holds_of_wide 4 Try.f4 rfl rfl rfl rfl rfl rfl rfl ⟨rfl, rfl, rfl, rfl, rfl⟩ rfl rfl rfl rfl rfl (by kernel_rfl) Try.func4 (by kernel_rfl)
    (of_decide_eq_true (by kernel_rfl)) (by unfold Func.isWrapper; first | (rw [if_pos (by decide +kernel)]; kernel_rfl) | (rw [if_neg (by decide +kernel)]; exact ⟨rfl, rfl⟩))
    (fun os started H enc _ => frameSums_lifted os started H enc)
#print axioms frameSums_holds
end Go.Proofs.Ytppfjdohajomoaa
