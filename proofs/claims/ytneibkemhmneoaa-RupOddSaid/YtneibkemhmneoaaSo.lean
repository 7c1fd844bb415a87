/- The plain law of sorting with 'lessB', each element once. No program. -/
import Derived.Below
namespace Go.Proofs.Ytneibkemhmneoaa
set_option linter.unusedVariables false
set_option linter.unusedSimpArgs false

/-- lit.Less. -/
def lessB (a b : Int) : Bool := if a.natAbs ≠ b.natAbs then decide (a.natAbs < b.natAbs) else decide (a > b)

theorem lessB_iff {a b : Int} : lessB a b = true ↔ a.natAbs < b.natAbs ∨ a.natAbs = b.natAbs ∧ a > b := by
  unfold lessB
  by_cases h : a.natAbs = b.natAbs
  · simp [h]
  · simp [h]
theorem lessB_trans {a b c : Int} (h1 : lessB a b = true) (h2 : lessB b c = true) : lessB a c = true := by
  rw [lessB_iff] at *; omega
theorem lessB_tri {a b : Int} (h1 : lessB a b = false) (h2 : lessB b a = false) : a = b := by
  have h1' : ¬ lessB a b = true := by simp [h1]
  have h2' : ¬ lessB b a = true := by simp [h2]
  rw [lessB_iff] at *; omega
theorem lessB_irrefl (a : Int) : lessB a a = false := by
  cases h : lessB a a with
  | false => rfl
  | true => rw [lessB_iff] at h; omega

def mrg : List Int → List Int → List Int
  | [], bs => bs
  | a :: as, [] => a :: as
  | a :: as, b :: bs => if lessB a b = true then a :: mrg as (b :: bs) else if lessB b a = true then b :: mrg (a :: as) bs else mrg as (b :: bs)
termination_by as bs => as.length + bs.length

def SortedL (l : List Int) : Prop := l.Pairwise (fun a b => lessB a b = true)

theorem mrg_mem : ∀ (as bs : List Int) (x : Int), x ∈ mrg as bs ↔ x ∈ as ∨ x ∈ bs
  | [], bs, x => by simp [mrg]
  | a :: as, [], x => by simp [mrg]
  | a :: as, b :: bs, x => by
    rw [mrg]
    split
    · rw [List.mem_cons, mrg_mem as (b :: bs) x, List.mem_cons (l := as), or_assoc]
    · split
      · rw [List.mem_cons, mrg_mem (a :: as) bs x, List.mem_cons (l := bs)]
        constructor
        · rintro (h | h | h)
          · exact .inr (.inl h)
          · exact .inl h
          · exact .inr (.inr h)
        · rintro (h | h | h)
          · exact .inr (.inl h)
          · exact .inl h
          · exact .inr (.inr h)
      · rename_i h1 h2
        have e : a = b := lessB_tri (by simpa using h1) (by simpa using h2)
        rw [mrg_mem as (b :: bs) x, List.mem_cons (l := as), List.mem_cons, e]
        constructor
        · rintro (h | h | h)
          · exact .inl (.inr h)
          · exact .inl (.inl h)
          · exact .inr (.inr h)
        · rintro ((h | h) | h | h)
          · exact .inr (.inl h)
          · exact .inl h
          · exact .inr (.inl h)
          · exact .inr (.inr h)
termination_by as bs => as.length + bs.length

theorem mrg_sorted : ∀ (as bs : List Int), SortedL as → SortedL bs → SortedL (mrg as bs)
  | [], bs, _, h => by simpa [mrg] using h
  | a :: as, [], h, _ => by simpa [mrg] using h
  | a :: as, b :: bs, h1, h2 => by
    obtain ⟨ha, has⟩ := List.pairwise_cons.1 h1
    obtain ⟨hb, hbs⟩ := List.pairwise_cons.1 h2
    rw [mrg]
    split
    · rename_i hl
      refine List.pairwise_cons.2 ⟨fun x hx => ?_, mrg_sorted as (b :: bs) has h2⟩
      rcases (mrg_mem _ _ _).1 hx with hx | hx
      · exact ha x hx
      · rcases List.mem_cons.1 hx with rfl | hx
        · exact hl
        · exact lessB_trans hl (hb x hx)
    · split
      · rename_i hl
        refine List.pairwise_cons.2 ⟨fun x hx => ?_, mrg_sorted (a :: as) bs h1 hbs⟩
        rcases (mrg_mem _ _ _).1 hx with hx | hx
        · rcases List.mem_cons.1 hx with rfl | hx
          · exact hl
          · exact lessB_trans hl (ha x hx)
        · exact hb x hx
      · exact mrg_sorted as (b :: bs) has h2
termination_by as bs => as.length + bs.length

theorem mrg_length : ∀ (as bs : List Int), (mrg as bs).length ≤ as.length + bs.length
  | [], bs => by simp [mrg]
  | a :: as, [] => by simp [mrg]
  | a :: as, b :: bs => by
    rw [mrg]
    split
    · have := mrg_length as (b :: bs)
      simp only [List.length_cons] at *
      omega
    · split
      · have := mrg_length (a :: as) bs
        simp only [List.length_cons] at *
        omega
      · have := mrg_length as (b :: bs)
        simp only [List.length_cons] at *
        omega
termination_by as bs => as.length + bs.length

/-- What 'sorted' gives. -/
structure SortOf (c ys : List Int) : Prop where
  mem : ∀ x, x ∈ ys ↔ x ∈ c
  sorted : SortedL ys
  len : ys.length ≤ c.length

theorem SortOf.small {c : List Int} (h : c.length < 2) : SortOf c c := by
  refine ⟨fun _ => Iff.rfl, ?_, Nat.le_refl _⟩
  match c, h with
  | [], _ => exact List.Pairwise.nil
  | [x], _ => simp [SortedL]

theorem SortOf.merge {c as bs : List Int} {k : Nat} (h1 : SortOf (c.take k) as) (h2 : SortOf (c.drop k) bs) : SortOf c (mrg as bs) := by
  refine ⟨fun x => ?_, mrg_sorted _ _ h1.sorted h2.sorted, ?_⟩
  · rw [mrg_mem, h1.mem, h2.mem, ← List.mem_append, List.take_append_drop]
  · have := mrg_length as bs
    have := h1.len
    have := h2.len
    simp only [List.length_take, List.length_drop] at *
    omega

/-- Two of one size: one behind the other. -/
theorem sorted_adjacent {ys : List Int} (h : SortedL ys) {x : Int} (hx : x ∈ ys) (hn : -x ∈ ys) (h0 : x ≠ 0) : ∃ (i : Nat) (hi : i + 1 < ys.length), (ys[i + 1]).natAbs = (ys[i]'(by omega)).natAbs := by
  have key : ∀ (ys : List Int), SortedL ys → ∀ p, 0 < p → p ∈ ys → -p ∈ ys → ∃ (i : Nat) (hi : i + 1 < ys.length), (ys[i + 1]).natAbs = (ys[i]'(by omega)).natAbs := by
    intro ys
    induction ys with
    | nil => intro _ p _ hp; cases hp
    | cons y ys ih =>
      intro hs p hp0 hp hq
      obtain ⟨hy, hys⟩ := List.pairwise_cons.1 hs
      have hy' : ∀ z ∈ ys, lessB y z = true := hy
      by_cases e : y = p
      · subst e
        have hq' : -y ∈ ys := by
          rcases List.mem_cons.1 hq with h | h
          · omega
          · exact h
        cases ys with
        | nil => cases hq'
        | cons z zs =>
          refine ⟨0, by simp, ?_⟩
          have h1 := lessB_iff.1 (hy' z List.mem_cons_self)
          rcases List.mem_cons.1 hq' with h | h
          · simp [← h]
          · have h2 := lessB_iff.1 ((List.pairwise_cons.1 hys).1 _ h)
            simp
            omega
      · have hp' : p ∈ ys := (List.mem_cons.1 hp).resolve_left (fun e' => e e'.symm)
        have hq' : -p ∈ ys := by
          rcases List.mem_cons.1 hq with h | h
          · have h1 := lessB_iff.1 (hy' p hp')
            omega
          · exact h
        obtain ⟨i, hi, he⟩ := ih hys p hp0 hp' hq'
        exact ⟨i + 1, by simp; omega, by simpa using he⟩
  by_cases hp : 0 < x
  · exact key ys h x hp hx hn
  · exact key ys h (-x) (by omega) hn (by rw [Int.neg_neg]; exact hx)

theorem sorted_pair {ys : List Int} (h : SortedL ys) {i : Nat} (hi : i + 1 < ys.length) (he : (ys[i + 1]).natAbs = (ys[i]'(by omega)).natAbs) : ys[i + 1] = -(ys[i]'(by omega)) := by
  have h1 : lessB (ys[i]'(by omega)) ys[i + 1] = true := List.pairwise_iff_getElem.1 h i (i + 1) (by omega) hi (by omega)
  have := lessB_iff.1 h1
  omega

end Go.Proofs.Ytneibkemhmneoaa
