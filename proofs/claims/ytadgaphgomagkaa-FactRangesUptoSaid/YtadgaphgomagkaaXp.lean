/- flintlaw11.FactRanges returns true at every list of facts, every block's size and every row of cuts, and they read afterwards as before. Conditions: what is read is of bulk at most 1048576 (the given statement's own). -/
import Derived.Test.YtadgaphgomagkaaTi
import Derived.Test.YtadgaphgomagkaaOh
import Derived.OpenShut
import Derived.JoinedCond
namespace Go.Proofs.Ytadgaphgomagkaa
open Go.ChangeShapes Go.WideShapes Go.ChangeAt Go.RowKit Go.Deep

set_option maxRecDepth 100000 in
theorem open_texts {H : Type} {enc : TypeId × Value → H} {W : World} {sp : Nat → Bool} {held : Bool} {fuel : Nat} {v : Value} {d : DataW H} {ps : List MemPlace} (h : DataW.trod enc Try.prog W 0 sp held fuel 78 [v] = some (d, ps)) :
    ∃ A l c, v = .slice A l.length c ∧ Rd W A (scells l) := by
  rcases open_slice Try.underlying78 h with ⟨hv, _⟩ | ⟨a, len, cap, m, n, D, Pl, hv, _, hlc, _, hm, hd, hx⟩
  · simp only [List.cons.injEq, and_true] at hv
    exact ⟨none, [], 0, by simpa using hv, Rd.none_⟩
  · simp only [List.cons.injEq, and_true] at hv
    have hle : len ≤ m := by rw [hm]; split <;> omega
    rw [Try.cellsStr] at hx
    have hall : ∀ i, i < len → ∃ x : ByteArray, W.cell? (a.add i) = some (.string x) := fun i hi => by
      obtain ⟨cs', hc, ht⟩ := hx i (by omega)
      obtain ⟨z, e, _, _⟩ := DataW.trod_string Try.underlying9 ht
      subst e
      obtain ⟨_, _, hat⟩ := World.cells?_some hc
      have h2 := hat 0 (by omega)
      rw [add_add', Nat.mul_one, Nat.add_zero] at h2
      exact ⟨z, h2⟩
    haveI : Inhabited ByteArray := ⟨⟨#[]⟩⟩
    obtain ⟨S, hS⟩ := choose_lt hall
    have hlen : ((List.range len).map S).length = len := by simp
    refine ⟨some a, (List.range len).map S, cap, by rw [hlen]; exact hv, fun hn => ⟨a, rfl, ?_, fun j u hu => ?_⟩⟩
    · have h0 : 0 < len := by
        rcases Nat.eq_zero_or_pos len with e | e
        · exfalso; apply hn; subst e; simp [scells]
        · exact e
      have := cell_block (hS 0 h0)
      rwa [add_block] at this
    · have hj : j < len := by
        have := (List.getElem?_eq_some_iff.1 hu).1
        simpa [scells] using this
      rw [hS j hj, ← hu]
      simp [scells, hj]

set_option maxRecDepth 100000 in
theorem factRanges_contract (H : Type) (enc : TypeId × Value → H) (W : World) (base : Nat) (args : Array Value) (ds gs : List (DataW H)) (before : List MemPlace)
    (hval0 : ∀ (j : Nat) t v, Try.f8.params[j]? = some t → args[j]? = some v → Value.okWide Try.prog W .any base t v)
    (hW : DataW.Whole enc Try.prog Try.f8.params.toList Rows.factRangesSpec.vars false W args.toList ds gs before) (hk : Rows.uptoSmall H (ds ++ gs) = true) :
    Calls Try.prog 8 args W fun e W' => ∃ v, e = .returned v ∧ Rows.factRangesSpec.post enc Try.prog Try.f8 false true false false W args v W' := by
  have hval : ∀ (j : Nat) t v, Try.f8.params[j]? = some t → args[j]? = some v → Value.okWide Try.prog W .any base t v := hval0
  have hW' := hW
  obtain ⟨p, q, hA0, hV, rfl, hfz, hnd⟩ := hW
  have hA : DataW.TrodAll enc Try.prog W 0 (fun _ => true) true Try.f8.params.toList args.toList ds p := hA0
  rw [Try.params8] at hA hval
  obtain ⟨v0, v1, v2, d0, d1, d2, p0, p1, p2, rfl, rfl, rfl, h0, h1, h2⟩ := trodAll_three hA
  obtain ⟨rfl, rfl⟩ := trodVars_none hV
  have hbk := bulk_bound hk
  simp only [List.append_nil, Rows.uptoBulkAll] at hbk
  obtain ⟨A, l, c, rfl, r1, k1, n1, _⟩ := open_factsB (hval 0 56 v0 rfl rfl) h0 (by omega)
  obtain ⟨b, rfl, _, _, wb⟩ := open_int Try.underlying3 (hval 1 3 v1 rfl rfl) h1
  obtain ⟨_, _, _, rfl⟩ := okWide_slice Try.underlying78 (hval 2 78 v2 rfl rfl)
  obtain ⟨fuel, h2⟩ := h2
  obtain ⟨C, cuts, cc, e2, r2⟩ := open_texts h2
  rw [e2] at hW' ⊢
  refine (factRanges_any W A C c cc l cuts b r1 k1 n1 r2).mono fun e W' ⟨he, hb⟩ => ?_
  subst he
  exact ⟨_, rfl, post_law hW' rfl ⟨rfl, rfl, rfl⟩ (by kernel_rfl) (by kernel_rfl) hb⟩

set_option maxRecDepth 100000 in
theorem factRanges_lifted (os : Os) (started : os.Started) (H : Type) (enc : TypeId × Value → H) (F : Stop.Interp) :
    ReturnsInHanded {} Try.checked os 8 .any ((Rows.OpenSpec.upto Rows.factRangesSpec).pre6 enc Try.prog Try.f8 Rows.factRangesUptoRow.domain false) (((Rows.OpenSpec.upto Rows.factRangesSpec).at F).post enc Try.prog Try.f8 false true false false) := by
  refine returnsInHanded_of_cond (C := Try.checked) (s := Rows.OpenSpec.upto Rows.factRangesSpec) (k := Rows.uptoSmall) rfl Try.own started (by kernel_rfl) Try.func8
    (OpenSpec.witness (enc := enc) (C := Try.checked) (s := Rows.OpenSpec.upto Rows.factRangesSpec) (k := Rows.uptoSmall) rfl false ⟨#[], #[.slice none 0 0, .int .i64 0, .slice none 0 0], []⟩ 8 (by kernel_rfl) (by kernel_rfl) (by kernel_rfl)
      (x := ([.nil, .lit (.int .i64 0), .nil], [], [])) (by kernel_rfl) rfl (by kernel_rfl)) ?_
  intro W base args ds gs before hval hW _ hk _
  exact factRanges_contract H enc W base args ds gs before hval hW hk

theorem factRanges_holds : Rows.FactRangesUptoSaid :=
  OpenClaim.holds_of_cond 8 Try.f8 rfl rfl rfl rfl rfl rfl rfl ⟨rfl, rfl, rfl, rfl, rfl⟩ rfl rfl rfl rfl rfl (by kernel_rfl) Try.func8 (by kernel_rfl)
    (of_decide_eq_true (by kernel_rfl)) (by unfold Func.isWrapper; first | (rw [if_pos (by decide +kernel)]; kernel_rfl) | (rw [if_neg (by decide +kernel)]; exact ⟨rfl, rfl⟩))
    (fun os started H enc _ F => factRanges_lifted os started H enc F)
#print axioms factRanges_holds
end Go.Proofs.Ytadgaphgomagkaa
