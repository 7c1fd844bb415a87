/- The statement RupImplies: whatever the input, the call returns true and the arguments read as they did. No condition. -/
import Derived.Test.YtneibkemhmneoaaLd
import Derived.Test.YtneibkemhmneoaaOp
namespace Go.Proofs.Ytneibkemhmneoaa
set_option linter.unusedVariables false
set_option linter.unusedSimpArgs false
open Go.ChangeShapes Go.WideShapes Go.ChangeAt Go.RowKit

set_option maxRecDepth 100000 in
theorem rupImplies_lifted (os : Os) (started : os.Started) (H : Type) (enc : TypeId × Value → H) :
    ReturnsInHanded {} Try.checked os 8 .any (Rows.rupImpliesSpec.pre6 enc Try.prog Try.f8 Rows.rupImpliesRow.domain false) (Rows.rupImpliesSpec.post enc Try.prog Try.f8 false true false false) := by
  refine returnsInHanded_of_change_sized (C := Try.checked) Try.own started (by kernel_rfl) Try.func8
    (ChangeSpec.witness6 (enc := enc) (C := Try.checked) false ⟨#[], #[.int .u8 0, .slice none 0 0, .slice none 0 0], []⟩ 8 (by kernel_rfl) (by kernel_rfl) (by kernel_rfl) (by kernel_rfl)) ?_
  intro W base args ds gs before hval0 hW hcnd hreach _
  have hval : ∀ (j : Nat) t v, Try.f8.params[j]? = some t → args[j]? = some v → Value.okWide Try.prog W .any base t v := hval0
  have hW' := hW
  obtain ⟨p, q, hA0, hV, rfl, hfz, hnd⟩ := hW
  have hA : DataW.TrodAll enc Try.prog W 0 (fun _ => true) true Try.f8.params.toList args.toList ds p := hA0
  have hwt : ∀ (j : Nat) t d, Try.f8.params.toList[j]? = some t → ds[j]? = some d → ∀ n ∈ d.weights Try.prog t, n ≤ reachBytes := by
    intro j t d ht hd n hn
    have h1 : (Try.f8.params.toList ++ Rows.rupImpliesSpec.plain.varTypes Try.prog)[j]? = some t := by
      rw [List.getElem?_append_left (List.getElem?_eq_some_iff.1 ht).1]; exact ht
    have h2 : (ds ++ gs)[j]? = some d := by
      rw [List.getElem?_append_left (List.getElem?_eq_some_iff.1 hd).1]; exact hd
    have := List.all_eq_true.1 hreach n (DataW.weights_mem_each h1 h2 n hn)
    simpa using this
  rw [Try.params8] at hA hval hwt
  obtain ⟨v0, vs0, d0, ds0, p0, q0, hargs, rfl, rfl, h0, r0⟩ := trodAll_cons hA
  obtain ⟨v1, vs1, d1, ds1, p1, q1, rfl, rfl, rfl, h1, r1⟩ := trodAll_cons r0
  obtain ⟨v2, vs2, d2, ds2, p2, q2, rfl, rfl, rfl, h2, r2⟩ := trodAll_cons r1
  obtain ⟨rfl, rfl, rfl⟩ := trodAll_nil r2
  obtain rfl : args = #[v0, v1, v2] := by cases args; simp_all
  obtain ⟨rfl, rfl⟩ := trodVars_none hV
  obtain ⟨a0, rfl, rfl, rfl, w0⟩ := open_int Try.underlying5 (hval 0 5 v0 rfl rfl) h0
  obtain ⟨a1, len1, cap1, rfl⟩ := okWide_slice Try.underlying22 (hval 1 22 v1 rfl rfl)
  obtain ⟨a2, len2, cap2, rfl⟩ := okWide_slice Try.underlying29 (hval 2 29 v2 rfl rfl)
  have k1 := h1
  have k2 := h2
  have lt1 : ∀ x ∈ p1, x.block < W.heap.size := by obtain ⟨m, hm⟩ := k1; exact DataW.trod_lt m _ _ _ hm
  have lt2 : ∀ x ∈ p2, x.block < W.heap.size := by obtain ⟨m, hm⟩ := k2; exact DataW.trod_lt m _ _ _ hm
  obtain ⟨css, hcss, hcwf, hcl⟩ : ∃ css, RdK .i8 W (.slice a1 len1 cap1) css ∧ (∀ c ∈ css, ∀ n ∈ c, (Lit.int .i8 n).wf = true) ∧ (css.length ≤ reachBytes ∧ ∀ c ∈ css, c.length ≤ reachBytes) := by
    obtain ⟨fuel, hf⟩ := h1
    obtain ⟨v, css, hv, g1, g2, g3⟩ := rd_rows Try.underlying22 Try.underlying56 Try.underlying57 (by kernel_rfl) (by kernel_rfl) (of_decide_eq_true (by kernel_rfl)) (of_decide_eq_true (by kernel_rfl)) hf
    simp [Value.cells] at hv
    subst hv
    exact ⟨css, g1, g2, g3 (hwt 1 22 _ rfl rfl)⟩
  obtain ⟨asm, hasm, hawf⟩ : ∃ c, Rd W (.slice a2 len2 cap2) (kints .i64 c) ∧ (∀ n ∈ c, (Lit.int .i64 n).wf = true) := by
    obtain ⟨fuel, hf⟩ := h2
    obtain ⟨v, c, hv, g1, g2, _⟩ := rd_ints Try.underlying29 Try.underlying3 (by kernel_rfl) (of_decide_eq_true (by kernel_rfl)) hf
    simp [Value.cells] at hv
    subst hv
    exact ⟨c, g1, g2⟩
  clear hA0 hval0
  have bd := bounds_u8 w0
  refine (rupImplies_any a0 _ _ css asm W (by omega) (by omega) hcss.rdB (rdI_of hasm) (fun c hc => reach_le (hcl.2 c hc)) (fun c hc x hx => i8_of (hcwf c hc x hx)) (reach_le hcl.1) (fun x hx => i64_of (hawf x hx))).mono fun e W' ⟨he, bel⟩ => ?_
  subst he
  exact ⟨_, rfl, _, _, _, [], _, [], hW', trodAll_mk1 (shut_bool Try.underlying4 _), (trodAll_cons_mk (shut_int Try.underlying5 w0) (trodAll_cons_mk (Below.trod Try.laidOut (by kernel_rfl) (of_decide_eq_true (by kernel_rfl)) k1 bel lt1) (trodAll_cons_mk (Below.trod Try.laidOut (by kernel_rfl) (of_decide_eq_true (by kernel_rfl)) k2 bel lt2) trodAll_mk0))), rfl, bel.frame _, fun h => by cases h⟩

theorem rupImplies_over : Rows.rupImpliesRow.holds Try.pinned (OpenSpec.ofChange Rows.rupImpliesSpec) :=
  OpenClaim.holds_of_wide 8 Try.f8 rfl rfl rfl rfl rfl rfl rfl ⟨rfl, rfl, rfl, rfl, rfl⟩ rfl rfl rfl rfl rfl (by kernel_rfl) Try.func8 (by kernel_rfl)
    (of_decide_eq_true (by kernel_rfl)) (by unfold Func.isWrapper; first | (rw [if_pos (by decide +kernel)]; kernel_rfl) | (rw [if_neg (by decide +kernel)]; exact ⟨rfl, rfl⟩))
    (fun os started H enc _ => rupImplies_lifted os started H enc)

/-- The given statement. -/
theorem rupImplies_holds : Rows.RupImpliesSaid := rupImplies_over
#print axioms rupImplies_holds
end Go.Proofs.Ytneibkemhmneoaa
