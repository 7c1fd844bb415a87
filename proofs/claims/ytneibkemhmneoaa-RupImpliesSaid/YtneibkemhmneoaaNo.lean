/- Contracts: lit.Norm. -/
import Derived.Test.YtneibkemhmneoaaSd
namespace Go.Proofs.Ytneibkemhmneoaa
set_option linter.unusedVariables false
set_option linter.unusedSimpArgs false
open Go.RowKit

def NormEnd (c : List Int) (w : World) (e : Ending) (w' : World) : Prop :=
  (e = .returned (.tuple #[.slice none 0 0, .bool true]) ∧ (∃ x ∈ c, -x ∈ c) ∧ Below w.heap.size w w') ∨
  ∃ v' ys, e = .returned (.tuple #[v', .bool false]) ∧ SortOf c ys ∧ (∀ x ∈ ys, -x ∉ ys) ∧ St w w' [Sl 3 v' (ints ys)]

theorem first_fact {w : World} {a : Option Addr} {cap : Nat} {ys : List Int} (h : RdI w (.slice a ys.length cap) ys) (h0 : ∀ x ∈ ys, x ≠ 0) :
    (¬ (0 : Int) < (ys.length : Int)) ∨ ((0 : Int) < (ys.length : Int) ∧ ∃ b off x, a = some ⟨b, off, none⟩ ∧ w.cell? ⟨b, off, none⟩ = some (.int .i64 x) ∧ (x == 0) = false) := by
  by_cases hp : 0 < ys.length
  · obtain ⟨a', cap', he, _, hc⟩ := h.shape
    cases he
    obtain ⟨b, off, rfl, hcell⟩ := hc 0 hp
    exact .inr ⟨by omega, b, off, ys[0], rfl, hcell, by simpa using h0 _ (List.getElem_mem hp)⟩
  · exact .inl (by omega)

set_option maxHeartbeats 4000000 in
theorem norm_any (v : Value) (c : List Int) (w : World) (hv : RdI w v c) (hc : ∀ x ∈ c, In64 x ∧ x ≠ 0) (hl : c.length ≤ 1000000) : Calls Try.prog 43 #[v] w (NormEnd c w) := by
  have HS := Hd.mk (sorted_any (c.length + 1) v c w (by omega) hv (fun x hx => (hc x hx).1) hl)
  have HC := Hd.mk hc
  clear hv hc
  go_enter Try.func43, Try.ntmps43
  go_wp2_with (first | (go_at_call 67; refine HS.out.mono ?_; rintro e w2 ⟨v', ys, rfl, hso, hst⟩; obtain ⟨a, n, cap, rfl⟩ := hst.shape; obtain ⟨rfl, hcap, _⟩ := hst.rd.len; have HSO := Hd.mk hso; have HST := Hd.mk hst; have HNZ := Hd.mk (first_fact HST.out.rd (fun x hx => (HC.out x ((HSO.out.mem x).1 hx)).2)); clear hso hst; rcases HNZ.out with h0 | ⟨h0, bb, oo, x0, rfl, hc0, hx0⟩ <;> clear HNZ))
  all_goals
    have HSH := Hd.mk (RdI.shape (xs := ys) HST.out.rd)
    have HIN := Hd.mk (show ∀ x ∈ ys, In64 x ∧ x ≠ 0 from fun x hx => HC.out x ((HSO.out.mem x).1 hx))
    have hlen : (ys.length : Int) ≤ 1000000 := by have := HSO.out.len; omega
    clear h0
    try clear hc0 hx0
    go_loopw [5] (fun i wr => ∃ k : Nat, 1 ≤ k ∧ (k : Int) ≤ 1000001 ∧ i = .int .i64 k ∧ Hd (∀ (j : Nat) (hj : j + 1 < ys.length), j + 1 < k → (ys[j + 1]).natAbs ≠ (ys[j]'(by omega)).natAbs) ∧ Dr w2 wr) (fun i _ => ys.length - (intOf i).toNat)
    case atStart => exact ⟨1, by omega, by omega, rfl, ⟨fun j _ h => by omega⟩, Dr.refl _⟩
    case round =>
      obtain ⟨k, hk1, hk2, rfl, hno, hD⟩ := hrel
      by_cases hlt : k < ys.length
      · obtain ⟨a', cap', he', _, hcell⟩ := HSH.out
        cases he'
        obtain ⟨b1, o1, he1, hc1⟩ := hcell k hlt
        obtain ⟨b2, o2, he2, hc2⟩ := hcell (k - 1) (by omega)
        have he3 := he1.symm.trans he2
        cases he3
        try subst he1
        try cases he1
        have d1 := (hD.cell _).trans hc1
        have d2 := (hD.cell _).trans hc2
        obtain ⟨i1, n1⟩ := HIN.out _ (List.getElem_mem hlt)
        obtain ⟨i2, n2⟩ := HIN.out _ (List.getElem_mem (show k - 1 < ys.length by omega))
        have HEX := Hd.mk (show ys[k].natAbs = (ys[k - 1]'(by omega)).natAbs → ∃ x ∈ c, -x ∈ c from fun h => by
          obtain ⟨m, rfl⟩ : ∃ m, k = m + 1 := ⟨k - 1, by omega⟩
          have := sorted_pair HSO.out.sorted hlt h
          exact ⟨ys[m]'(by omega), (HSO.out.mem _).1 (List.getElem_mem _), by rw [← this]; exact (HSO.out.mem _).1 (List.getElem_mem _)⟩)
        have HST2 := Hd.mk (show ys[k].natAbs ≠ (ys[k - 1]'(by omega)).natAbs → ∀ (j : Nat) (hj : j + 1 < ys.length), j + 1 < k + 1 → (ys[j + 1]).natAbs ≠ (ys[j]'(by omega)).natAbs from fun h j hj hjk => by
          by_cases e : j + 1 = k
          · subst e
            exact h
          · exact hno.out j hj (by omega))
        clear hc1 hc2 hcell he2 n1 n2
        have hki : (k : Int) < (ys.length : Int) := by omega
        have hk0 : (0 : Int) ≤ (k : Int) := by omega
        have hk3 : (0 : Int) ≤ (k : Int) - 1 := by omega
        have hk4 : (k : Int) - 1 < (ys.length : Int) := by omega
        have hw : IntKind.i64.wrap ((k : Int) - 1) = (k : Int) - 1 := IntWalk.i64_in _ (by omega)
        have hw2 : ((k : Int) - 1).toNat = k - 1 := by omega
        generalize ys[k] = x at *
        generalize ys[k - 1] = y at *
        by_cases he : x.natAbs = y.natAbs
        · have hg : ((x.natAbs : Int) == (y.natAbs : Int)) = true := by simp [he]
          have HE := Hd.mk (HEX.out he)
          clear he HEX HST2
          go_wp2_with fail
          go_quiet ((go_at_call 61; exact Calls.qs (size_any _ _ (by assumption))))
          clear hw hw2
          go_wp2
          go_ret2
          exact .inl ⟨rfl, HE.out, (hD.step _).belows HST.out.below⟩
        · have hg : ((x.natAbs : Int) == (y.natAbs : Int)) = false := by simp; omega
          have HE := Hd.mk (HST2.out he)
          clear he HEX HST2
          go_wp2_with fail
          go_quiet ((go_at_call 61; exact Calls.qs (size_any _ _ (by assumption))))
          clear hw hw2
          go_wp2
          go_roundw
          case rel => exact ⟨k + 1, by omega, by omega, by go_num, HE, hD.step _⟩
          case measure => simp [intOf]; omega
      · have HNO := Hd.mk (show ∀ x ∈ ys, -x ∉ ys from fun x hx hn => by
          obtain ⟨i, hi, he⟩ := sorted_adjacent HSO.out.sorted hx hn (HIN.out x hx).2
          exact hno.out i hi (by omega) he)
        clear hno
        go_wp2
        go_ret2
        exact .inr ⟨_, ys, rfl, HSO.out, HNO.out, hD.st HST.out⟩
end Go.Proofs.Ytneibkemhmneoaa
