/- Opening the arguments of the laws: integers, slices of integers and slices of such slices, as they are read; and what the form's own reach says of their lengths. -/
import Derived.Test.YtneibkemhmneoaaFit
import Derived.Test.YtneibkemhmneoaaRows
import Derived.ProofKit
import Derived.OpenShut
import Derived.Deep.Matrix
import Derived.SizedLaws
import Derived.Carry
import Derived.ChangeOld
namespace Go.Proofs.Ytneibkemhmneoaa
set_option linter.unusedVariables false
set_option linter.unusedSimpArgs false
open Go.ChangeShapes Go.WideShapes Go.ChangeAt Go.RowKit Go.Deep

theorem Try.own : ownKnob Try.prog.godebug = none := by kernel_rfl
theorem Try.laidOut : laidOutB Try.prog = true := by kernel_rfl
theorem spotOf {w : World} {a : Addr} {x : Value} (h : w.cell? a = some x) : a.spot = none := World.cell?_spot h

/-- Values of one integer kind. -/
def kints (k : IntKind) (xs : List Int) : List Value := xs.map (.int k)

section
variable {H : Type} {enc : TypeId × Value → H} {P : Program} {w : World} {base : Nat} {held : Bool}

theorem rd_ints {t q : TypeId} {k : IntKind} {fuel : Nat} {cs : List Value} {x : DataW H × List MemPlace} (ht : P.underlying t = some (.slice q)) (hq : P.underlying q = some (.int k)) (cq : P.cellsOf q = 1) (hb : 1 ≤ P.bytesOf q)
    (h : DataW.trod enc P w base (fun _ => true) held fuel t cs = some x) :
    ∃ v zs, cs = [v] ∧ Rd w v (kints k zs) ∧ (∀ n ∈ zs, (Lit.int k n).wf = true) ∧ ((∀ n ∈ x.1.weights P t, n ≤ reachBytes) → zs.length ≤ reachBytes) := by
  rcases open_ints ht hq cq h with ⟨rfl, rfl⟩ | ⟨a, len, cap, zs, rfl, _, hl, hm, hz, rfl, hcell, hwz⟩
  · exact ⟨_, [], rfl, ⟨none, 0, rfl, Nat.le_refl _, Or.inl rfl⟩, by simp, fun _ => Nat.zero_le _⟩
  · simp only [if_true] at hz
    have e1 : (kints k (zs.take len)).length = len := by simp [kints]; omega
    refine ⟨_, zs.take len, rfl, ⟨some a, cap, by rw [e1], by rw [e1]; exact hl, ?_⟩, fun n hn => hwz n (List.mem_of_mem_take hn), fun hw => ?_⟩
    · by_cases h0 : cap = 0
      · left
        have : zs = [] := List.eq_nil_of_length_eq_zero (by omega)
        subst this
        simp [kints]
      · right
        obtain ⟨b, off, spot⟩ := a
        have hs : spot = none := by simpa [Addr.add] using spotOf (hcell 0 (by omega))
        subst hs
        refine ⟨b, off, rfl, fun j y hj => ?_⟩
        have hj2 := (List.getElem?_eq_some_iff.1 hj).1
        rw [e1] at hj2
        have hj3 : j < zs.length := by omega
        have := hcell j hj3
        rw [add_plain] at this
        rw [this, ← hj]
        simp [kints, hj2, hj3, List.getD]
    · have := hw ((lits (H := H) k (zs.take len)).length * P.bytesOf q + (lits (H := H) k (zs.drop len)).length * P.bytesOf q) (by simp [DataW.weights, ht, Nat.add_mul])
      simp [lits] at this
      have h2 : (zs.take len).length = min len zs.length := by simp
      have h3 : (zs.take len).length ≤ min len zs.length * P.bytesOf q := by rw [h2]; exact Nat.le_mul_of_pos_right _ hb
      omega

/-- Slices of slices of one integer kind. -/
def RdK (k : IntKind) (w : World) (v : Value) (css : List (List Int)) : Prop := ∃ vs, Rd w v vs ∧ vs.length = css.length ∧ ∀ (j : Nat) u c, vs[j]? = some u → css[j]? = some c → Rd w u (kints k c)

theorem weights_all {e : TypeId} : ∀ {l : List (DataW H)} {d : DataW H}, d ∈ l → ∀ n ∈ d.weights P e, n ∈ DataW.weightsAll P e l
  | x :: l, d, hd, n, hn => by
    simp only [DataW.weightsAll, List.mem_append]
    rcases List.mem_cons.1 hd with rfl | hd
    · exact Or.inl hn
    · exact Or.inr (weights_all hd n hn)

theorem rd_rows {t e q : TypeId} {k : IntKind} {fuel : Nat} {cs : List Value} {x : DataW H × List MemPlace} (ht : P.underlying t = some (.slice e)) (he : P.underlying e = some (.slice q)) (hq : P.underlying q = some (.int k))
    (ce : P.cellsOf e = 1) (cq : P.cellsOf q = 1) (hbe : 1 ≤ P.bytesOf e) (hb : 1 ≤ P.bytesOf q) (h : DataW.trod enc P w base (fun _ => true) held fuel t cs = some x) :
    ∃ v css, cs = [v] ∧ RdK k w v css ∧ (∀ c ∈ css, ∀ n ∈ c, (Lit.int k n).wf = true) ∧ ((∀ n ∈ x.1.weights P t, n ≤ reachBytes) → css.length ≤ reachBytes ∧ ∀ c ∈ css, c.length ≤ reachBytes) := by
  rcases open_slice1 ht ce h with ⟨rfl, rfl⟩ | ⟨a, len, cap, m, n, V, D, Pl, rfl, _, hl, hm, hmm, rfl, hx⟩
  · exact ⟨_, [], rfl, ⟨[], ⟨none, 0, rfl, Nat.le_refl _, Or.inl rfl⟩, rfl, by simp⟩, by simp, fun _ => ⟨Nat.zero_le _, by simp⟩⟩
  · simp only [if_true] at hmm
    obtain rfl := hmm.symm
    have each : ∀ r, r < len → ∃ zs, Rd w (V r) (kints k zs) ∧ (∀ n ∈ zs, (Lit.int k n).wf = true) ∧ ((∀ n ∈ (D r).weights P e, n ≤ reachBytes) → zs.length ≤ reachBytes) := by
      intro r hr
      obtain ⟨v, zs, hv, h1, h2, h3⟩ := rd_ints he hq cq hb (hx r (by omega)).2
      simp only [List.cons.injEq, and_true] at hv
      subst hv
      exact ⟨zs, h1, h2, h3⟩
    obtain ⟨Z, hZ⟩ := choose_lt each
    refine ⟨_, (List.range len).map Z, rfl, ⟨(List.range len).map V, ⟨some a, cap, by simp, by simpa using hl, ?_⟩, by simp, fun j u c hu hc => ?_⟩, ?_, fun hw => ⟨?_, ?_⟩⟩
    · by_cases h0 : len = 0
      · left
        simp [h0]
      · right
        obtain ⟨b, off, spot⟩ := a
        have hs : spot = none := by simpa [Addr.add] using spotOf (hx 0 (by omega)).1
        subst hs
        refine ⟨b, off, rfl, fun j y hj => ?_⟩
        have hj2 : j < len := by have := (List.getElem?_eq_some_iff.1 hj).1; simpa using this
        have := (hx j (by omega)).1
        rw [add_plain] at this
        rw [this]
        simp [hj2] at hj
        rw [hj]
    · have hj2 : j < len := by have := (List.getElem?_eq_some_iff.1 hu).1; simpa using this
      simp [hj2] at hu hc
      subst hu hc
      exact (hZ j hj2).1
    · intro c hc
      obtain ⟨r, hr, rfl⟩ := List.mem_map.1 hc
      exact (hZ r (List.mem_range.1 hr)).2.1
    · have := hw ((len + (cap - len)) * P.bytesOf e) (by simp [DataW.weights, ht])
      have h3 : len + (cap - len) ≤ (len + (cap - len)) * P.bytesOf e := Nat.le_mul_of_pos_right _ hbe
      simp
      omega
    · intro c hc
      obtain ⟨r, hr, rfl⟩ := List.mem_map.1 hc
      have hr2 := List.mem_range.1 hr
      refine (hZ r hr2).2.2 fun n hn => hw n ?_
      simp only [DataW.weights, ht, List.mem_cons, List.mem_append]
      exact Or.inr (Or.inl (weights_all (List.mem_map.2 ⟨r, hr, rfl⟩) n hn))
end

theorem reach_le {n : Nat} (h : n ≤ reachBytes) : (n : Int) ≤ 140737488355328 := by
  have : reachBytes < 2 ^ 47 := reachBytes_lt
  omega
theorem RdK.rdL {w : World} {v : Value} {css : List (List Int)} (h : RdK .i64 w v css) : RdL w v css := h
theorem RdK.rdB {w : World} {v : Value} {css : List (List Int)} (h : RdK .i8 w v css) : RdB w v css := h
theorem rdI_of {w : World} {v : Value} {c : List Int} (h : Rd w v (kints .i64 c)) : RdI w v c := h
theorem i8_of {n : Int} (h : (Lit.int .i8 n).wf = true) : -128 ≤ n ∧ n ≤ 127 := by
  have := bounds_i8 h
  omega
theorem i64_of {n : Int} (h : (Lit.int .i64 n).wf = true) : In64 n := by
  have := bounds_i64 h
  exact ⟨by omega, by omega⟩
end Go.Proofs.Ytneibkemhmneoaa
