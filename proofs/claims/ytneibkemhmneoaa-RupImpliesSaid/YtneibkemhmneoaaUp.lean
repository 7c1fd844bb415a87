/- The plain law of unit propagation: what is derived, when it fails; the reference's look at one clause. No program. -/
import Derived.Below
namespace Go.Proofs.Ytneibkemhmneoaa
set_option linter.unusedVariables false
set_option linter.unusedSimpArgs false

/-- What unit propagation derives. -/
inductive Der (cls : List (List Int)) (asm : List Int) : Int → Prop
  | asm {a : Int} : a ∈ asm → Der cls asm a
  | unit {c : List Int} {x : Int} : c ∈ cls → x ∈ c → (∀ y ∈ c, y ≠ x → Der cls asm (-y)) → Der cls asm x

/-- Unit propagation fails. -/
def Bad (cls : List (List Int)) (asm : List Int) : Prop := (∃ x, Der cls asm x ∧ Der cls asm (-x)) ∨ ∃ c ∈ cls, ∀ y ∈ c, Der cls asm (-y)

open Classical in
noncomputable def badB (cls : List (List Int)) (asm : List Int) : Bool := decide (Bad cls asm)
theorem badB_true {cls : List (List Int)} {asm : List Int} (h : Bad cls asm) : badB cls asm = true := by simp [badB, h]
theorem badB_false {cls : List (List Int)} {asm : List Int} (h : ¬ Bad cls asm) : badB cls asm = false := by simp [badB, h]

/-- A set that is closed, consistent, and leaves no clause false. -/
structure Closed (cls : List (List Int)) (asm : List Int) (S : Int → Prop) : Prop where
  asm : ∀ a ∈ asm, S a
  cons : ∀ x, S x → ¬ S (-x)
  unit : ∀ c ∈ cls, ∀ x ∈ c, (∀ y ∈ c, y ≠ x → S (-y)) → S x
  safe : ∀ c ∈ cls, ∃ y ∈ c, ¬ S (-y)

theorem Der.sub {cls : List (List Int)} {asm : List Int} {S : Int → Prop} (h : Closed cls asm S) {x : Int} (d : Der cls asm x) : S x := by
  induction d with
  | asm ha => exact h.asm _ ha
  | unit hc hx _ ih => exact h.unit _ hc _ hx ih

theorem Closed.not_bad {cls : List (List Int)} {asm : List Int} {S : Int → Prop} (h : Closed cls asm S) : ¬ Bad cls asm := by
  rintro (⟨x, h1, h2⟩ | ⟨c, hc, hy⟩)
  · exact h.cons x (h1.sub h) (h2.sub h)
  · obtain ⟨y, hy1, hy2⟩ := h.safe c hc
    exact hy2 ((hy y hy1).sub h)

theorem Der.mono {cls cls' : List (List Int)} {asm asm' : List Int} (h1 : ∀ c ∈ cls, c ∈ cls') (h2 : ∀ a ∈ asm, a ∈ asm') {x : Int} (d : Der cls asm x) : Der cls' asm' x := by
  induction d with
  | asm ha => exact .asm (h2 _ ha)
  | unit hc hx _ ih => exact .unit (h1 _ hc) hx ih
theorem Bad.mono {cls cls' : List (List Int)} {asm asm' : List Int} (h1 : ∀ c ∈ cls, c ∈ cls') (h2 : ∀ a ∈ asm, a ∈ asm') (h : Bad cls asm) : Bad cls' asm' := by
  rcases h with ⟨x, a, b⟩ | ⟨c, hc, hy⟩
  · exact .inl ⟨x, a.mono h1 h2, b.mono h1 h2⟩
  · exact .inr ⟨c, h1 c hc, fun y hy' => (hy y hy').mono h1 h2⟩

/-- The reference's look at a clause. -/
def refUnit (k : Int → Bool) : List Int → Int → Int × Bool
  | [], last => (last, last != 0)
  | a :: c, last => if k (-a) = true ∨ a = last then refUnit k c last else if k a = true ∨ last ≠ 0 then (0, true) else refUnit k c a

theorem refUnit_last {k : Int → Bool} : ∀ (c : List Int) (last : Int), last ≠ 0 → refUnit k c last = (last, true) ∧ (∀ a ∈ c, a ≠ last → k (-a) = true) ∨ refUnit k c last = (0, true) ∧ ∃ a ∈ c, a ≠ last ∧ k (-a) = false
  | [], last, h => .inl ⟨by simp [refUnit, h], by simp⟩
  | a :: c, last, h => by
    by_cases h1 : k (-a) = true ∨ a = last
    · rcases refUnit_last c last h with ⟨e, h2⟩ | ⟨e, b, hb, h2⟩
      · refine .inl ⟨by rw [refUnit, if_pos h1, e], fun b hb hne => ?_⟩
        rcases List.mem_cons.1 hb with rfl | hb
        · exact h1.resolve_right hne
        · exact h2 b hb hne
      · exact .inr ⟨by rw [refUnit, if_pos h1, e], b, List.mem_cons_of_mem _ hb, h2⟩
    · refine .inr ⟨by rw [refUnit, if_neg h1, if_pos (.inr h)], a, List.mem_cons_self, fun e => h1 (.inr e), ?_⟩
      cases hk : k (-a) with
      | false => rfl
      | true => exact absurd (.inl hk) h1

/-- What the look tells: all false; one literal left, which is not known; else one that is known, or two that are not false. -/
theorem refUnit_spec {k : Int → Bool} : ∀ (c : List Int), (0 : Int) ∉ c →
    (refUnit k c 0 = (0, false) ∧ ∀ a ∈ c, k (-a) = true) ∨
    (∃ l ∈ c, l ≠ 0 ∧ refUnit k c 0 = (l, true) ∧ k l = false ∧ k (-l) = false ∧ ∀ a ∈ c, a ≠ l → k (-a) = true) ∨
    (refUnit k c 0 = (0, true) ∧ ((∃ a ∈ c, k a = true ∧ k (-a) = false) ∨ ∃ a ∈ c, ∃ b ∈ c, a ≠ b ∧ k (-a) = false ∧ k (-b) = false))
  | [], _ => .inl ⟨by simp [refUnit], by simp⟩
  | a :: c, h => by
    have ha : a ≠ 0 := fun e => h (by simp [e])
    have hc : (0 : Int) ∉ c := fun e => h (List.mem_cons_of_mem _ e)
    by_cases h1 : k (-a) = true
    · have e : refUnit k (a :: c) 0 = refUnit k c 0 := by rw [refUnit, if_pos (.inl h1)]
      rw [e]
      rcases refUnit_spec c hc with ⟨h2, h3⟩ | ⟨l, hl, h2, h3, h4, h5, h6⟩ | ⟨h2, h3⟩
      · exact .inl ⟨h2, fun b hb => (List.mem_cons.1 hb).elim (fun e => e ▸ h1) (h3 b)⟩
      · exact .inr (.inl ⟨l, List.mem_cons_of_mem _ hl, h2, h3, h4, h5, fun b hb hne => (List.mem_cons.1 hb).elim (fun e => e ▸ h1) (fun hb => h6 b hb hne)⟩)
      · refine .inr (.inr ⟨h2, ?_⟩)
        rcases h3 with ⟨b, hb, h4⟩ | ⟨b, hb, d, hd, h4⟩
        · exact .inl ⟨b, List.mem_cons_of_mem _ hb, h4⟩
        · exact .inr ⟨b, List.mem_cons_of_mem _ hb, d, List.mem_cons_of_mem _ hd, h4⟩
    · have h1' : k (-a) = false := by simpa using h1
      by_cases h2 : k a = true
      · refine .inr (.inr ⟨by rw [refUnit, if_neg (by simp [h1', ha]), if_pos (.inl h2)], .inl ⟨a, List.mem_cons_self, h2, h1'⟩⟩)
      · have h2' : k a = false := by simpa using h2
        have e : refUnit k (a :: c) 0 = refUnit k c a := by rw [refUnit, if_neg (by simp [h1', ha]), if_neg (by simp [h2'])]
        rw [e]
        rcases refUnit_last (k := k) c a ha with ⟨h3, h4⟩ | ⟨h3, b, hb, h4, h5⟩
        · exact .inr (.inl ⟨a, List.mem_cons_self, ha, h3, h2', h1', fun b hb hne => (List.mem_cons.1 hb).elim (fun e => absurd e hne) (fun hb => h4 b hb hne)⟩)
        · exact .inr (.inr ⟨h3, .inr ⟨a, List.mem_cons_self, b, List.mem_cons_of_mem _ hb, fun e => h4 e.symm, h1', h5⟩⟩)

/-- A set is closed where the look finds nothing at any clause. -/
theorem closed_of_look {cls : List (List Int)} {asm : List Int} {S : Int → Bool} (h0 : ∀ c ∈ cls, (0 : Int) ∉ c) (ha : ∀ a ∈ asm, S a = true) (hcons : ∀ x, S x = true → S (-x) = false)
    (hl : ∀ c ∈ cls, refUnit S c 0 = (0, true)) : Closed cls asm (fun x => S x = true) where
  asm := ha
  cons x h := by rw [hcons x h]; simp
  unit c hc x hx hy := by
    rcases refUnit_spec (k := S) c (h0 c hc) with ⟨h1, _⟩ | ⟨l, _, h1, h2, _⟩ | ⟨_, h2⟩
    · rw [hl c hc] at h1; simp at h1
    · rw [hl c hc] at h2; simp at h2; exact absurd h2.symm h1
    · rcases h2 with ⟨a, ha, h3, h4⟩ | ⟨a, ha, b, hb, h3, h4, h5⟩
      · by_cases e : a = x
        · rw [← e]; exact h3
        · have := hy a ha e; rw [h4] at this; cases this
      · by_cases e : a = x
        · have := hy b hb (fun e' => h3 (e.trans e'.symm)); rw [h5] at this; cases this
        · have := hy a ha e; rw [h4] at this; cases this
  safe c hc := by
    rcases refUnit_spec (k := S) c (h0 c hc) with ⟨h1, _⟩ | ⟨l, _, h1, h2, _⟩ | ⟨_, h2⟩
    · rw [hl c hc] at h1; simp at h1
    · rw [hl c hc] at h2; simp at h2; exact absurd h2.symm h1
    · rcases h2 with ⟨a, ha, _, h4⟩ | ⟨a, ha, _, _, _, h4, _⟩
      · exact ⟨a, ha, by rw [h4]; simp⟩
      · exact ⟨a, ha, by rw [h4]; simp⟩

/-- A step of the walk over one clause. -/
theorem refUnit_drop {k : Int → Bool} {c : List Int} {i : Nat} (hi : i < c.length) (last : Int) :
    refUnit k (c.drop i) last = if k (-c[i]) = true ∨ c[i] = last then refUnit k (c.drop (i + 1)) last else if k c[i] = true ∨ last ≠ 0 then (0, true) else refUnit k (c.drop (i + 1)) c[i] := by
  rw [List.drop_eq_getElem_cons hi, refUnit]

/-- Two lists of keys without doubles: one in the other, equally long: the same. -/
theorem nodup_eq : ∀ {l l' : List Int}, l.Nodup → (∀ x ∈ l, x ∈ l') → l'.length ≤ l.length → ∀ x ∈ l', x ∈ l
  | [], l', _, _, h2, x, hx => by
    have : l' = [] := List.eq_nil_of_length_eq_zero (by simpa using h2)
    rw [this] at hx
    cases hx
  | a :: l, l', hn, h1, h2, x, hx => by
    obtain ⟨hn1, hn2⟩ := List.nodup_cons.1 hn
    have ha : a ∈ l' := h1 a List.mem_cons_self
    by_cases e : x = a
    · rw [e]; exact List.mem_cons_self
    · have h3 : x ∈ l := nodup_eq (l := l) (l' := l'.erase a) hn2 (fun y hy => (List.mem_erase_of_ne (fun (e : y = a) => hn1 (by rw [← e]; exact hy))).2 (h1 y (List.mem_cons_of_mem _ hy)))
        (by rw [List.length_erase_of_mem ha]; simp at h2; omega) x ((List.mem_erase_of_ne e).2 hx)
      exact List.mem_cons_of_mem _ h3
theorem nodup_le : ∀ {l l' : List Int}, l.Nodup → (∀ x ∈ l, x ∈ l') → l.length ≤ l'.length
  | [], _, _, _ => by simp
  | a :: l, l', hn, h1 => by
    obtain ⟨hn1, hn2⟩ := List.nodup_cons.1 hn
    have ha : a ∈ l' := h1 a List.mem_cons_self
    have := nodup_le (l := l) (l' := l'.erase a) hn2 (fun y hy => (List.mem_erase_of_ne (fun (e : y = a) => hn1 (by rw [← e]; exact hy))).2 (h1 y (List.mem_cons_of_mem _ hy)))
    rw [List.length_erase_of_mem ha] at this
    have := List.length_pos_of_mem ha
    simp only [List.length_cons]
    omega

end Go.Proofs.Ytneibkemhmneoaa
