/- The statement RupOdd: whatever the input, the call returns true and the arguments read as they did. No condition. -/
import Derived.Test.YtneibkemhmneoaaLe
import Derived.Test.YtneibkemhmneoaaOp
import Derived.Lib.SmallJoins
namespace Go.Proofs.Ytneibkemhmneoaa
set_option linter.unusedVariables false
set_option linter.unusedSimpArgs false
open Go.ChangeShapes Go.WideShapes Go.ChangeAt Go.RowKit

theorem Try.cells25 : Try.prog.cellsOf 25 = 2 := by kernel_rfl

set_option maxRecDepth 100000 in
theorem rupOdd_lifted (os : Os) (started : os.Started) (H : Type) (enc : TypeId × Value → H) :
    ReturnsInHanded {} Try.checked os 9 .any (Rows.rupOddSpec.pre6 enc Try.prog Try.f9 Rows.rupOddRow.domain false) (Rows.rupOddSpec.post enc Try.prog Try.f9 false true false false) := by
  refine returnsInHanded_of_change_sized (C := Try.checked) Try.own started (by kernel_rfl) Try.func9
    (ChangeSpec.witness6 (enc := enc) (C := Try.checked) false ⟨#[], #[.agg #[.int .i64 0, .slice none 0 0], .slice none 0 0], []⟩ 8 (by kernel_rfl) (by kernel_rfl) (by kernel_rfl) (by kernel_rfl)) ?_
  intro W base args ds gs before hval0 hW hcnd hreach _
  have hval : ∀ (j : Nat) t v, Try.f9.params[j]? = some t → args[j]? = some v → Value.okWide Try.prog W .any base t v := hval0
  have hW' := hW
  obtain ⟨p, q, hA0, hV, rfl, hfz, hnd⟩ := hW
  have hA : DataW.TrodAll enc Try.prog W 0 (fun _ => true) true Try.f9.params.toList args.toList ds p := hA0
  have hwt : ∀ (j : Nat) t d, Try.f9.params.toList[j]? = some t → ds[j]? = some d → ∀ n ∈ d.weights Try.prog t, n ≤ reachBytes := by
    intro j t d ht hd n hn
    have h1 : (Try.f9.params.toList ++ Rows.rupOddSpec.plain.varTypes Try.prog)[j]? = some t := by
      rw [List.getElem?_append_left (List.getElem?_eq_some_iff.1 ht).1]; exact ht
    have h2 : (ds ++ gs)[j]? = some d := by
      rw [List.getElem?_append_left (List.getElem?_eq_some_iff.1 hd).1]; exact hd
    have := List.all_eq_true.1 hreach n (DataW.weights_mem_each h1 h2 n hn)
    simpa using this
  rw [Try.params9] at hA hval hwt
  obtain ⟨v0, vs0, d0, ds0, p0, q0, hargs, rfl, rfl, h0, r0⟩ := trodAll_cons hA
  obtain ⟨v1, vs1, d1, ds1, p1, q1, rfl, rfl, rfl, h1, r1⟩ := trodAll_cons r0
  obtain ⟨rfl, rfl, rfl⟩ := trodAll_nil r1
  obtain rfl : args = #[v0, v1] := by cases args; simp_all
  obtain ⟨rfl, rfl⟩ := trodVars_none hV
  have k0 := h0
  have k1 := h1
  have lt0 : ∀ x ∈ p0, x.block < W.heap.size := by obtain ⟨m, hm⟩ := k0; exact DataW.trod_lt m _ _ _ hm
  have lt1 : ∀ x ∈ p1, x.block < W.heap.size := by obtain ⟨m, hm⟩ := k1; exact DataW.trod_lt m _ _ _ hm
  obtain ⟨f0, f1, y0, y1, m, rfl, hy, hp0, hy0, hy1⟩ := Go.Joins.open_agg2 Try.underlying25 (by kernel_rfl) Try.cells25 (hval 0 25 v0 rfl rfl) h0
  obtain ⟨n, hf0, hd0, wn⟩ := DataW.trod_int Try.underlying3 hy0
  simp at hf0
  subst hf0
  obtain ⟨fs, hfs, hfwf, hfl⟩ : ∃ css, RdK .i64 W f1 css ∧ (∀ c ∈ css, ∀ n ∈ c, (Lit.int .i64 n).wf = true) ∧ ((∀ n ∈ y1.1.weights Try.prog 23, n ≤ reachBytes) → css.length ≤ reachBytes ∧ ∀ c ∈ css, c.length ≤ reachBytes) := by
    obtain ⟨v, css, hv, g1, g2, g3⟩ := rd_rows Try.underlying23 Try.underlying29 Try.underlying3 (by kernel_rfl) (by kernel_rfl) (of_decide_eq_true (by kernel_rfl)) (of_decide_eq_true (by kernel_rfl)) hy1
    simp at hv
    subst hv
    exact ⟨css, g1, g2, g3⟩
  have hfl2 := hfl (fun n hn => hwt 0 25 _ rfl rfl n (by
    rw [hy]
    simp only [DataW.weights, Try.underlying25]
    show n ∈ DataW.weightsEach Try.prog [3, 23] [y0.1, y1.1]
    simp only [DataW.weightsEach, List.mem_append]
    exact .inr (.inl hn)))
  obtain ⟨a1, len1, cap1, rfl⟩ := okWide_slice Try.underlying29 (hval 1 29 v1 rfl rfl)
  obtain ⟨asm, hasm, hawf⟩ : ∃ c, Rd W (.slice a1 len1 cap1) (kints .i64 c) ∧ (∀ n ∈ c, (Lit.int .i64 n).wf = true) := by
    obtain ⟨fuel, hf⟩ := h1
    obtain ⟨v, c, hv, g1, g2, _⟩ := rd_ints Try.underlying29 Try.underlying3 (by kernel_rfl) (of_decide_eq_true (by kernel_rfl)) hf
    simp [Value.cells] at hv
    subst hv
    exact ⟨c, g1, g2⟩
  clear hA0 hval0
  refine (rupOdd_any n f1 _ fs asm W hfs.rdL (rdI_of hasm) (i64_of wn) (fun c hc x hx => i64_of (hfwf c hc x hx)) (reach_le hfl2.1) (fun c hc => reach_le (hfl2.2 c hc)) (fun x hx => i64_of (hawf x hx))).mono fun e W' ⟨he, bel⟩ => ?_
  subst he
  exact ⟨_, rfl, _, _, _, [], _, [], hW', trodAll_mk1 (shut_bool Try.underlying4 _), (trodAll_cons_mk (Below.trod Try.laidOut (by kernel_rfl) (of_decide_eq_true (by kernel_rfl)) k0 bel lt0) (trodAll_cons_mk (Below.trod Try.laidOut (by kernel_rfl) (of_decide_eq_true (by kernel_rfl)) k1 bel lt1) trodAll_mk0)), rfl, bel.frame _, fun h => by cases h⟩

theorem rupOdd_over : Rows.rupOddRow.holds Try.pinned (OpenSpec.ofChange Rows.rupOddSpec) :=
  OpenClaim.holds_of_wide 9 Try.f9 rfl rfl rfl rfl rfl rfl rfl ⟨rfl, rfl, rfl, rfl, rfl⟩ rfl rfl rfl rfl rfl (by kernel_rfl) Try.func9 (by kernel_rfl)
    (of_decide_eq_true (by kernel_rfl)) (by unfold Func.isWrapper; first | (rw [if_pos (by decide +kernel)]; kernel_rfl) | (rw [if_neg (by decide +kernel)]; exact ⟨rfl, rfl⟩))
    (fun os started H enc _ => rupOdd_lifted os started H enc)

/-- The given statement. -/
theorem rupOdd_holds : Rows.RupOddSaid := rupOdd_over
#print axioms rupOdd_holds
end Go.Proofs.Ytneibkemhmneoaa
