/- flintlaw4.NvramFronts returns true at every two rows of acts and every pick, and they read afterwards as before. Conditions: what is read is of bulk at most 1048576 (the given statement's own). -/
import Derived.Test.YtadgaphgomagkaaVp
import Derived.Test.YtadgaphgomagkaaOf
import Derived.OpenShut
import Derived.JoinedCond
namespace Go.Proofs.Ytadgaphgomagkaa
open Go.ChangeShapes Go.WideShapes Go.ChangeAt Go.RowKit Go.Deep

set_option maxRecDepth 100000 in
theorem nvramFronts_contract (H : Type) (enc : TypeId × Value → H) (W : World) (base : Nat) (args : Array Value) (ds gs : List (DataW H)) (before : List MemPlace)
    (hval0 : ∀ (j : Nat) t v, Try.f3.params[j]? = some t → args[j]? = some v → Value.okWide Try.prog W .any base t v)
    (hW : DataW.Whole enc Try.prog Try.f3.params.toList Rows.nvramFrontsSpec.vars false W args.toList ds gs before) (hk : Rows.uptoSmall H (ds ++ gs) = true) :
    Calls Try.prog 3 args W fun e W' => ∃ v, e = .returned v ∧ Rows.nvramFrontsSpec.post enc Try.prog Try.f3 false true false false W args v W' := by
  have hval : ∀ (j : Nat) t v, Try.f3.params[j]? = some t → args[j]? = some v → Value.okWide Try.prog W .any base t v := hval0
  have hW' := hW
  obtain ⟨p, q, hA0, hV, rfl, hfz, hnd⟩ := hW
  have hA : DataW.TrodAll enc Try.prog W 0 (fun _ => true) true Try.f3.params.toList args.toList ds p := hA0
  rw [Try.params3] at hA hval
  obtain ⟨v0, v1, v2, d0, d1, d2, p0, p1, p2, rfl, rfl, rfl, h0, h1, h2⟩ := trodAll_three hA
  obtain ⟨rfl, rfl⟩ := trodVars_none hV
  have hbk := bulk_bound hk
  simp only [List.append_nil, Rows.uptoBulkAll] at hbk
  obtain ⟨A1, l1, c1, rfl, r1, k1, n1⟩ := open_nactsA (hval 0 22 v0 rfl rfl) h0 (by omega)
  obtain ⟨A2, l2, c2, rfl, r2, k2, n2⟩ := open_nactsA (hval 1 22 v1 rfl rfl) h1 (by omega)
  obtain ⟨n, rfl, _, _, ws⟩ := open_int Try.underlying3 (hval 2 3 v2 rfl rfl) h2
  have wm := wf_i64 ws
  refine (nvramFronts_any W A1 A2 c1 c2 l1 l2 n r1 k1 n1 r2 k2 n2 wm.2).mono fun e W' ⟨he, hb⟩ => ?_
  subst he
  exact ⟨_, rfl, post_law hW' rfl ⟨rfl, rfl, rfl⟩ (by kernel_rfl) (by kernel_rfl) hb⟩

set_option maxRecDepth 100000 in
theorem nvramFronts_lifted (os : Os) (started : os.Started) (H : Type) (enc : TypeId × Value → H) (F : Stop.Interp) :
    ReturnsInHanded {} Try.checked os 3 .any ((Rows.OpenSpec.upto Rows.nvramFrontsSpec).pre6 enc Try.prog Try.f3 Rows.nvramFrontsUptoRow.domain false) (((Rows.OpenSpec.upto Rows.nvramFrontsSpec).at F).post enc Try.prog Try.f3 false true false false) := by
  refine returnsInHanded_of_cond (C := Try.checked) (s := Rows.OpenSpec.upto Rows.nvramFrontsSpec) (k := Rows.uptoSmall) rfl Try.own started (by kernel_rfl) Try.func3
    (OpenSpec.witness (enc := enc) (C := Try.checked) (s := Rows.OpenSpec.upto Rows.nvramFrontsSpec) (k := Rows.uptoSmall) rfl false ⟨#[], #[.slice none 0 0, .slice none 0 0, .int .i64 0], []⟩ 8 (by kernel_rfl) (by kernel_rfl) (by kernel_rfl)
      (x := ([.nil, .nil, .lit (.int .i64 0)], [], [])) (by kernel_rfl) rfl (by kernel_rfl)) ?_
  intro W base args ds gs before hval hW _ hk _
  exact nvramFronts_contract H enc W base args ds gs before hval hW hk

theorem nvramFronts_holds : Rows.NvramFrontsUptoSaid :=
  OpenClaim.holds_of_cond 3 Try.f3 rfl rfl rfl rfl rfl rfl rfl ⟨rfl, rfl, rfl, rfl, rfl⟩ rfl rfl rfl rfl rfl (by kernel_rfl) Try.func3 (by kernel_rfl)
    (of_decide_eq_true (by kernel_rfl)) (by unfold Func.isWrapper; first | (rw [if_pos (by decide +kernel)]; kernel_rfl) | (rw [if_neg (by decide +kernel)]; exact ⟨rfl, rfl⟩))
    (fun os started H enc _ F => nvramFronts_lifted os started H enc F)
#print axioms nvramFronts_holds
end Go.Proofs.Ytadgaphgomagkaa
