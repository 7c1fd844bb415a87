/- The plain law of unit propagation by counting: the invariant, one clause looked at, the end. -/
import Derived.Test.YtneibkemhmneoaaPu
namespace Go.Proofs.Ytneibkemhmneoaa
set_option linter.unusedVariables false
set_option linter.unusedSimpArgs false

/-- How many literals of a clause are not false under what was looked at. -/
def opn1 (F c : List Int) : Nat := (c.filter (fun y => decide (-y ∉ F))).length

theorem opn1_step {F c : List Int} {a : Int} (hn : c.Nodup) (hb : -a ∈ c) (ha : a ∉ F) : opn1 (F ++ [a]) c + 1 = opn1 F c := by
  unfold opn1
  have hm : -a ∈ c.filter (fun y => decide (-y ∉ F)) := List.mem_filter.2 ⟨hb, by simpa using ha⟩
  have h2 : c.filter (fun y => decide (-y ∉ F ++ [a])) = (c.filter (fun y => decide (-y ∉ F))).erase (-a) := by
    rw [List.Nodup.erase_eq_filter (hn.filter _), List.filter_filter]
    refine List.filter_congr (fun y _ => ?_)
    have e : (-y = a) ↔ (y = -a) := by omega
    by_cases h1 : -y ∈ F <;> by_cases h3 : y = -a <;> simp [h1, h3, e]
  rw [h2, List.length_erase_of_mem hm]
  have := List.length_pos_of_mem hm
  omega
theorem opn1_same {F c : List Int} {a : Int} (hb : -a ∉ c) : opn1 (F ++ [a]) c = opn1 F c := by
  unfold opn1
  congr 1
  refine List.filter_congr (fun y hy => ?_)
  have e : -y ≠ a := fun e => hb (by rw [← e]; simpa using hy)
  simp [e]
theorem opn1_le {F c : List Int} {x : Int} (hn : c.Nodup) (h : ∀ y ∈ c, y ≠ x → -y ∈ F) : opn1 F c ≤ 1 := by
  unfold opn1
  refine Nat.le_trans (nodup_le (l' := [x]) (hn.filter _) (fun y hy => ?_)) (by simp)
  obtain ⟨h1, h2⟩ := List.mem_filter.1 hy
  by_cases e : y = x
  · simp [e]
  · exact absurd (h y h1 e) (by simpa using h2)
theorem opn1_two {F c : List Int} {x y : Int} (h : opn1 F c ≤ 1) (hx : x ∈ c) (hxF : -x ∉ F) (hy : y ∈ c) (hne : y ≠ x) : -y ∈ F := by
  refine Classical.byContradiction fun hn => ?_
  have h2 := nodup_le (l := [x, y]) (l' := c.filter (fun y => decide (-y ∉ F))) (by simp; exact fun e => hne e.symm) (fun z hz => by
    simp at hz
    rcases hz with rfl | rfl
    · exact List.mem_filter.2 ⟨hx, by simpa using hxF⟩
    · exact List.mem_filter.2 ⟨hy, by simpa using hn⟩)
  simp [opn1] at h h2
  omega

/-- What does not turn. -/
structure CI (orig css : List (List Int)) (wl : Int → List Int) (n : Int) : Prop where
  nn : 0 ≤ n ∧ n ≤ 1048576
  nodup : ∀ c ∈ css, c.Nodup
  lit : ∀ c ∈ css, ∀ y ∈ c, (-n ≤ y ∧ y ≤ n) ∧ y ≠ 0
  rep : ∀ c ∈ css, ∃ o ∈ orig, ∀ y, y ∈ c ↔ y ∈ o
  wl : ∀ l, (wl l).Nodup ∧ ∀ i, i ∈ wl l ↔ 0 ≤ i ∧ ∃ c, css[i.toNat]? = some c ∧ l ∈ c
  len : css.length ≤ 1000000000 ∧ ∀ c ∈ css, c.length ≤ 1000000000

/-- The invariant: F says what each clause's count has taken in. -/
structure RI (orig : List (List Int)) (asm : List Int) (css : List (List Int)) (n : Int) (tr opn : List Int) (F : Nat → List Int) : Prop where
  trl : Trl tr
  rng : ∀ x ∈ tr, -n ≤ x ∧ x ≤ n
  der : ∀ x ∈ tr, Der orig asm x
  sub : ∀ i, ∀ y ∈ F i, y ∈ tr
  len : opn.length = css.length
  cnt : ∀ (i : Nat) c, css[i]? = some c → opn[i]? = some (opn1 (F i) c : Int)
  unit : ∀ (i : Nat) c, css[i]? = some c → opn1 (F i) c ≤ 1 → ∃ y ∈ c, y ∈ tr

theorem trl_len {tr : List Int} {n : Int} (h : Trl tr) (hn : 0 ≤ n) (hr : ∀ x ∈ tr, -n ≤ x ∧ x ≤ n) : (tr.length : Int) ≤ n := by
  have h1 : (tr.map Int.natAbs).Nodup := by
    have hc := h.cons
    have hd := h.nodup
    clear hr h
    induction tr with
    | nil => simp
    | cons a t ih =>
      obtain ⟨g1, g2⟩ := List.nodup_cons.1 hd
      refine List.nodup_cons.2 ⟨fun hm => ?_, ih (fun x hx hx2 => hc x (List.mem_cons_of_mem _ hx) (List.mem_cons_of_mem _ hx2)) g2⟩
      obtain ⟨b, hb, e⟩ := List.mem_map.1 hm
      rcases (by omega : b = a ∨ b = -a) with rfl | rfl
      · exact g1 hb
      · exact hc a List.mem_cons_self (List.mem_cons_of_mem _ hb)
  have h2 : (tr.map Int.natAbs).length ≤ n.toNat := by
    have h3 : ∀ x ∈ (tr.map Int.natAbs).map (fun z => z - 1), x < n.toNat := by
      intro x hx
      obtain ⟨y, hy, rfl⟩ := List.mem_map.1 hx
      obtain ⟨z, hz, rfl⟩ := List.mem_map.1 hy
      have := hr z hz
      have := (h.lit z hz).2
      omega
    have h4 : ((tr.map Int.natAbs).map (fun z => z - 1)).Nodup := by
      refine List.Pairwise.map _ (R := fun a b => a ≠ b ∧ 1 ≤ a ∧ 1 ≤ b) (fun a b hab => by omega) ?_
      refine List.Pairwise.imp_of_mem (R := fun a b => a ≠ b) ?_ h1
      intro a b ha hb hab
      obtain ⟨z, hz, rfl⟩ := List.mem_map.1 ha
      obtain ⟨z2, hz2, rfl⟩ := List.mem_map.1 hb
      have := (h.lit z hz).2
      have := (h.lit z2 hz2).2
      exact ⟨hab, by omega, by omega⟩
    simpa using nodup_lt n.toNat _ h4 h3
  simp at h2
  omega

section
variable {orig css : List (List Int)} {asm : List Int} {wl : Int → List Int} {n : Int} {tr opn : List Int} {F : Nat → List Int}

theorem RI.congrF {G : Nat → List Int} (h : RI orig asm css n tr opn F) (hs : ∀ i, ∀ y ∈ G i, y ∈ tr) (hg : ∀ (i : Nat) c, css[i]? = some c → opn1 (G i) c = opn1 (F i) c) : RI orig asm css n tr opn G where
  trl := h.trl
  rng := h.rng
  der := h.der
  sub := hs
  len := h.len
  cnt i c hc := by rw [hg i c hc]; exact h.cnt i c hc
  unit i c hc hl := h.unit i c hc (by rw [← hg i c hc]; exact hl)

theorem der_of_open (hC : CI orig css wl n) (hd : ∀ x ∈ tr, Der orig asm x) {c P : List Int} (hc : c ∈ css) (hP : ∀ y ∈ P, y ∈ tr) {y : Int} (hy : y ∈ c) (hny : -y ∉ tr) (ho : opn1 P c ≤ 1) : Der orig asm y := by
  obtain ⟨o, ho2, he⟩ := hC.rep c hc
  exact .unit ho2 ((he y).1 hy) (fun z hz hne => hd _ (hP _ (opn1_two ho hy (fun h => hny (hP _ h)) ((he z).2 hz) hne)))

/-- One clause is counted down. -/
theorem RI.step (hC : CI orig css wl n) (h : RI orig asm css n tr opn F) {i : Nat} {c : List Int} {a : Int} (hc : css[i]? = some c) (hb : -a ∈ c) (ha : a ∉ F i) (hat : a ∈ tr) :
    ∃ m : Nat, opn[i]? = some ((m : Int) + 1) ∧ m ≤ 1000000000 ∧
      (1 < m → RI orig asm css n tr (opn.set i m) (fun k => if k = i then F i ++ [a] else F k)) ∧
      (m ≤ 1 → ((pUnit tr c).1 = true → RI orig asm css n (pUnit tr c).2 (opn.set i m) (fun k => if k = i then F i ++ [a] else F k) ∧ ∃ z, (pUnit tr c).2 = addL tr z) ∧ ((pUnit tr c).1 = false → Bad orig asm)) := by
  have hcm := List.mem_of_getElem? hc
  have hi := (List.getElem?_eq_some_iff.1 hc).1
  have hs := opn1_step (hC.nodup c hcm) hb ha
  have hcnt := h.cnt i c hc
  have hsubP : ∀ y ∈ F i ++ [a], y ∈ tr := fun y hy => (List.mem_append.1 hy).elim (h.sub i y) (fun e => by simp at e; exact e ▸ hat)
  have key : ∀ tr2 : List Int, (∀ x ∈ tr, x ∈ tr2) → Trl tr2 → (∀ x ∈ tr2, -n ≤ x ∧ x ≤ n) → (∀ x ∈ tr2, Der orig asm x) → (opn1 (F i ++ [a]) c ≤ 1 → ∃ y ∈ c, y ∈ tr2) →
      RI orig asm css n tr2 (opn.set i (opn1 (F i ++ [a]) c : Int)) (fun k => if k = i then F i ++ [a] else F k) := by
    intro tr2 hsub h1 h2 h3 h4
    refine ⟨h1, h2, h3, fun k y hy => ?_, by simpa using h.len, fun k d hd => ?_, fun k d hd hl => ?_⟩
    · by_cases e : k = i
      · simp only [e, if_true] at hy
        exact hsub _ (hsubP y hy)
      · simp only [e, if_false] at hy
        exact hsub _ (h.sub k y hy)
    · by_cases e : k = i
      · subst e
        rw [hc] at hd
        cases hd
        simp only [if_true]
        rw [List.getElem?_set_self (by rw [h.len]; exact hi)]
      · simp only [e, if_false]
        rw [List.getElem?_set_ne (by omega)]
        exact h.cnt k d hd
    · by_cases e : k = i
      · subst e
        rw [hc] at hd
        cases hd
        simp only [if_true] at hl
        exact h4 hl
      · simp only [e, if_false] at hl
        obtain ⟨y, hy, hy2⟩ := h.unit k d hd hl
        exact ⟨y, hy, hsub _ hy2⟩
  refine ⟨opn1 (F i ++ [a]) c, by rw [hcnt, ← hs]; simp, ?_, fun hm => key tr (fun _ h => h) h.trl h.rng h.der (fun hl => by omega), fun hm => ?_⟩
  · have : opn1 (F i ++ [a]) c ≤ c.length := List.length_filter_le _ _
    have := hC.len.2 c hcm
    omega
  · rcases pUnit_spec (tr := tr) c with ⟨e, hall⟩ | ⟨z, hz, hnz, e⟩
    · refine ⟨fun h2 => (by rw [e] at h2; cases h2), fun _ => ?_⟩
      obtain ⟨o, ho, he⟩ := hC.rep c hcm
      exact .inr ⟨o, ho, fun y hy => h.der _ (hall y ((he y).2 hy))⟩
    · refine ⟨fun _ => ?_, fun h2 => (by rw [e] at h2; cases h2)⟩
      refine ⟨?_, z, by rw [e]⟩
      rw [e]
      by_cases h2 : z ∈ tr
      · rw [addL_old h2]
        exact key tr (fun _ h => h) h.trl h.rng h.der (fun _ => ⟨z, hz, h2⟩)
      · rw [addL_new hnz h2]
        have hl := hC.lit c hcm z hz
        have hnn := hC.nn
        have hdz := der_of_open hC h.der hcm hsubP hz hnz hm
        refine key _ (fun x hx => List.mem_append_left _ hx) (h.trl.add ⟨⟨by omega, by omega⟩, hl.2⟩ h2 hnz) (fun x hx => ?_) (fun x hx => ?_) (fun _ => ⟨z, hz, by simp⟩)
        · rcases List.mem_append.1 hx with hx | hx
          · exact h.rng x hx
          · simp at hx; subst hx; exact hl.1
        · rcases List.mem_append.1 hx with hx | hx
          · exact h.der x hx
          · simp at hx; subst hx; exact hdz

/-- All original clauses are looked after. -/
def FullC (orig css : List (List Int)) : Prop := ∀ o ∈ orig, (∃ z ∈ o, -z ∈ o) ∨ ∃ c ∈ css, ∀ y, y ∈ c ↔ y ∈ o

/-- At the end. -/
theorem RI.closed (hC : CI orig css wl n) (h : RI orig asm css n tr opn (fun _ => tr)) (hf : FullC orig css) (h0 : ∀ o ∈ orig, (0 : Int) ∉ o) (ha : ∀ x ∈ asm, x ∈ tr) : Closed orig asm (fun x => x ∈ tr) where
  asm := ha
  cons := h.trl.cons
  unit o ho x hx hall := by
    rcases hf o ho with ⟨z, hz, hnz⟩ | ⟨c, hc, he⟩
    · have hz0 : z ≠ 0 := fun e => h0 o ho (e ▸ hz)
      by_cases e : z = x
      · have := hall (-z) hnz (by omega)
        rw [← e]
        simpa using this
      · have h1 := hall z hz e
        by_cases e2 : -z = x
        · rw [← e2]; exact h1
        · have h2 := hall (-z) hnz e2
          exact absurd h2 (h.trl.cons _ h1)
    · obtain ⟨i, hi, rfl⟩ := List.getElem_of_mem hc
      obtain ⟨y, hy, hyt⟩ := h.unit i _ (List.getElem?_eq_getElem hi) (opn1_le (x := x) (hC.nodup _ hc) (fun y hy hne => hall y ((he y).1 hy) hne))
      by_cases e : y = x
      · exact e ▸ hyt
      · exact absurd (hall y ((he y).1 hy) e) (h.trl.cons _ hyt)
  safe o ho := by
    rcases hf o ho with ⟨z, hz, hnz⟩ | ⟨c, hc, he⟩
    · by_cases h1 : -z ∈ tr
      · exact ⟨-z, hnz, h.trl.cons _ h1⟩
      · exact ⟨z, hz, h1⟩
    · refine Classical.byContradiction fun hn => ?_
      have hall : ∀ y ∈ o, -y ∈ tr := fun y hy => Classical.byContradiction fun h2 => hn ⟨y, hy, h2⟩
      obtain ⟨i, hi, rfl⟩ := List.getElem_of_mem hc
      obtain ⟨y, hy, hyt⟩ := h.unit i _ (List.getElem?_eq_getElem hi) (opn1_le (x := 0) (hC.nodup _ hc) (fun y hy _ => hall y ((he y).1 hy)))
      exact absurd (hall y ((he y).1 hy)) (h.trl.cons _ hyt)
end
end Go.Proofs.Ytneibkemhmneoaa
