/- Units as a value: the program's and the reference's come to the same; the same for Implied. -/
import Derived.Test.YtneibkemhmneoaaUh
import Derived.Test.YtneibkemhmneoaaRu
namespace Go.Proofs.Ytneibkemhmneoaa
set_option linter.unusedVariables false
set_option linter.unusedSimpArgs false
open Go.RowKit Go.Conc

theorem sorted_unique : ∀ {xs ys : List Int}, SortedL xs → SortedL ys → (∀ y, y ∈ xs ↔ y ∈ ys) → xs = ys
  | [], [], _, _, _ => rfl
  | [], y :: ys, _, _, h => by have := (h y).2 (by simp); cases this
  | x :: xs, [], _, _, h => by have := (h x).1 (by simp); cases this
  | x :: xs, y :: ys, hx, hy, h => by
    obtain ⟨hx1, hx2⟩ := List.pairwise_cons.1 hx
    obtain ⟨hy1, hy2⟩ := List.pairwise_cons.1 hy
    have e : x = y := by
      refine Classical.byContradiction fun hne => ?_
      have h1 : x ∈ ys := by
        rcases List.mem_cons.1 ((h x).1 (by simp)) with e | e
        · exact absurd e hne
        · exact e
      have h2 : y ∈ xs := by
        rcases List.mem_cons.1 ((h y).2 (by simp)) with e | e
        · exact absurd e.symm hne
        · exact e
      have h3 := lessB_trans (hx1 y h2) (hy1 x h1)
      rw [lessB_irrefl] at h3
      cases h3
    subst e
    have hnx : x ∉ xs := fun hm => by have := hx1 x hm; rw [lessB_irrefl] at this; cases this
    have hny : x ∉ ys := fun hm => by have := hy1 x hm; rw [lessB_irrefl] at this; cases this
    rw [sorted_unique hx2 hy2 (fun z => by
      constructor
      · intro hz
        rcases List.mem_cons.1 ((h z).1 (List.mem_cons_of_mem _ hz)) with e | e
        · exact absurd (e ▸ hz) hnx
        · exact e
      · intro hz
        rcases List.mem_cons.1 ((h z).2 (List.mem_cons_of_mem _ hz)) with e | e
        · exact absurd (e ▸ hz) hny
        · exact e)]

open Classical in
/-- The literals that follow, in order. -/
noncomputable def derL (fs : List (List Int)) (asm : List Int) : List Int := if h : ∃ ys, SortedL ys ∧ ∀ y, y ∈ ys ↔ Der fs asm y then h.choose else []
theorem derL_eq {fs : List (List Int)} {asm ys : List Int} (h1 : SortedL ys) (h2 : ∀ y, y ∈ ys ↔ Der fs asm y) : derL fs asm = ys := by
  have h : ∃ ys, SortedL ys ∧ ∀ y, y ∈ ys ↔ Der fs asm y := ⟨ys, h1, h2⟩
  unfold derL
  rw [dif_pos h]
  exact sorted_unique h.choose_spec.1 h1 (fun y => (h.choose_spec.2 y).trans (h2 y).symm)

open Classical in
noncomputable def uRes (n : Int) (fs : List (List Int)) (asm : List Int) : List Int × Bool × Int :=
  if cnfCheck n fs ≠ 0 then ([], false, cnfCheck n fs) else if ∃ a ∈ asm, a = 0 ∨ n < a ∨ a < -n then ([], false, 3) else if Bad fs asm then ([], true, 0) else (derL fs asm, false, 0)

/-- What Units comes to, as a value. -/
def UVal (n : Int) (fs : List (List Int)) (asm : List Int) (w : World) (e : Ending) (w' : World) : Prop :=
  ∃ a nn c, e = .returned (.tuple #[.slice a nn c, .bool (uRes n fs asm).2.1, .int .i64 (uRes n fs asm).2.2]) ∧ St w w' [Sl 3 (.slice a nn c) (ints (uRes n fs asm).1)]

theorem st_of_below {w w' : World} (h : Below w.heap.size w w') : St w w' [Sl 3 (.slice none 0 0) (ints [])] := ((St.refl w).quiet h).sl_nil 3
theorem UnitsEnd.val {n : Int} {fs : List (List Int)} {asm : List Int} {w w' : World} {e : Ending} (h : UnitsEnd n fs asm w e w') : UVal n fs asm w e w' := by
  rcases h with ⟨h1, rfl, hb⟩ | ⟨h1, h2, rfl, hb⟩ | ⟨h1, h2, h3⟩
  · have hr : uRes n fs asm = ([], false, cnfCheck n fs) := by unfold uRes; rw [if_pos h1]
    exact ⟨none, 0, 0, by rw [hr], by rw [hr]; exact st_of_below hb⟩
  · have hr : uRes n fs asm = ([], false, 3) := by unfold uRes; rw [if_neg (by simp [h1]), if_pos h2]
    exact ⟨none, 0, 0, by rw [hr], by rw [hr]; exact st_of_below hb⟩
  · have hn : ¬ ∃ a ∈ asm, a = 0 ∨ n < a ∨ a < -n := by
      rintro ⟨a, ha, h4⟩
      have := h2 a ha
      omega
    rcases h3 with ⟨rfl, hbad, hb⟩ | ⟨a, nn, c, ys, rfl, hnb, hso, hmem, hst⟩
    · have hr : uRes n fs asm = ([], true, 0) := by unfold uRes; rw [if_neg (by simp [h1]), if_neg hn, if_pos hbad]
      exact ⟨none, 0, 0, by rw [hr], by rw [hr]; exact st_of_below hb⟩
    · have hr : uRes n fs asm = (ys, false, 0) := by unfold uRes; rw [if_neg (by simp [h1]), if_neg hn, if_neg hnb, derL_eq hso hmem]
      exact ⟨a, nn, c, by rw [hr], by rw [hr]; exact hst⟩

section
variable (n : Int) (v u : Value) (fs : List (List Int)) (asm : List Int) (w : World)
theorem units_val (hv : RdL w v fs) (hu : RdI w u asm) (hn : In64 n) (hif : InL fs) (hia : ∀ y ∈ asm, In64 y) (hmf : (fs.length : Int) ≤ 140737488355328) (hma : (asm.length : Int) ≤ 1000000) : Calls Try.prog 17 #[.agg #[.int .i64 n, v], u] w (UVal n fs asm w) :=
  (units_any n v u fs asm w hv hu hn hif hia hmf hma).mono fun _ _ h => h.val
theorem runits_val (hv : RdL w v fs) (hu : RdI w u asm) (hn : In64 n) (hif : InL fs) (hia : ∀ y ∈ asm, In64 y) (hmf : (fs.length : Int) ≤ 140737488355328) (hma : (asm.length : Int) ≤ 1000000) : Calls Try.prog 19 #[.agg #[.int .i64 n, v], u] w (UVal n fs asm w) :=
  (runits_any n v u fs asm w hv hu hn hif hia hmf hma).mono fun _ _ h => h.val
end

/-- Implied, as a value. -/
noncomputable def iRes (n : Int) (fs : List (List Int)) (c : List Int) : Bool × Int :=
  if cnfCheck n fs ≠ 0 then (false, cnfCheck n fs) else if litCheck n c ≠ 0 then (false, litCheck n c) else (badB fs (c.map (- ·)), 0)

theorem uRes_neg {n : Int} {fs : List (List Int)} {c : List Int} (h1 : cnfCheck n fs = 0) (h2 : litCheck n c = 0) : (uRes n fs (c.map (- ·))).2 = (badB fs (c.map (- ·)), 0) := by
  obtain ⟨_, _, _, h3⟩ := litCheck_ok h2
  have hn : ¬ ∃ a ∈ c.map (- ·), a = 0 ∨ n < a ∨ a < -n := by
    rintro ⟨a, ha, h4⟩
    obtain ⟨b, hb, rfl⟩ := List.mem_map.1 ha
    have := h3 b hb
    omega
  unfold uRes
  rw [if_neg (by simp [h1]), if_neg hn]
  by_cases hb : Bad fs (c.map (- ·))
  · rw [if_pos hb, badB_true hb]
  · rw [if_neg hb, badB_false hb]
end Go.Proofs.Ytneibkemhmneoaa
