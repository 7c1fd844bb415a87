/- The plain law of the watched literals: a clause is added. No program. -/
import Derived.Test.YtneibkemhmneoaaWb
namespace Go.Proofs.Ytneibkemhmneoaa
set_option linter.unusedVariables false
set_option linter.unusedSimpArgs false

theorem SortOf.nodup {c ys : List Int} (h : SortOf c ys) : ys.Nodup := by
  refine List.Pairwise.imp ?_ h.sorted
  intro a b hab e
  subst e
  rw [lessB_irrefl] at hab
  cases hab

/-- What the loop over the clause's literals keeps: the first o are not false; where o is below 2 the others so far are. -/
structure Part (tr ls : List Int) (o j : Nat) : Prop where
  oj : o ≤ j
  o2 : o ≤ 2
  jl : j ≤ ls.length
  nf : ∀ (i : Nat) y, i < o → ls[i]? = some y → -y ∉ tr
  fl : o < 2 → ∀ (i : Nat) y, o ≤ i → i < j → ls[i]? = some y → -y ∈ tr

section
variable {tr ls : List Int} {o j : Nat}
theorem Part.start : Part tr ls 0 0 := ⟨Nat.le_refl _, by omega, Nat.zero_le _, fun i y h => by omega, fun _ i y _ h => by omega⟩
theorem Part.skip (h : Part tr ls o j) {y : Int} (hy : ls[j]? = some y) (hf : -y ∈ tr) : Part tr ls o (j + 1) where
  oj := Nat.le_succ_of_le h.oj
  o2 := h.o2
  jl := (List.getElem?_eq_some_iff.1 hy).1
  nf := h.nf
  fl h2 i z hi hij hz := by
    by_cases e : i = j
    · subst e; rw [hy] at hz; cases hz; exact hf
    · exact h.fl h2 i z hi (by omega) hz
theorem Part.full (h : Part tr ls o j) {y : Int} (hy : ls[j]? = some y) (h2 : ¬ o < 2) : Part tr ls o (j + 1) where
  oj := Nat.le_succ_of_le h.oj
  o2 := h.o2
  jl := (List.getElem?_eq_some_iff.1 hy).1
  nf := h.nf
  fl h3 := absurd h3 h2
theorem Part.swap (h : Part tr ls o j) {x y : Int} (hx : ls[o]? = some x) (hy : ls[j]? = some y) (hn : -y ∉ tr) (h2 : o < 2) : Part tr ((ls.set o y).set j x) (o + 1) (j + 1) where
  oj := by have := h.oj; omega
  o2 := by omega
  jl := by simp only [List.length_set]; exact (List.getElem?_eq_some_iff.1 hy).1
  nf i z hi hz := by
    have ho := (List.getElem?_eq_some_iff.1 hx).1
    have hj := (List.getElem?_eq_some_iff.1 hy).1
    rw [List.getElem?_set] at hz
    split at hz
    · rename_i e
      subst e
      simp at hz
      obtain ⟨_, rfl⟩ := hz
      have : j = o := by have := h.oj; omega
      subst this
      rw [hx] at hy
      cases hy
      exact hn
    · rw [List.getElem?_set] at hz
      split at hz
      · simp at hz; obtain ⟨_, rfl⟩ := hz; exact hn
      · exact h.nf i z (by omega) hz
  fl h3 i z hi hij hz := by
    rw [List.getElem?_set] at hz
    split at hz
    · rename_i e
      subst e
      simp at hz
      obtain ⟨_, rfl⟩ := hz
      exact h.fl h2 o x (Nat.le_refl _) (by omega) hx
    · rw [List.getElem?_set_ne (by omega)] at hz
      exact h.fl h2 i z (by omega) (by omega) hz

theorem swap_perm {x y : Int} (hx : ls[o]? = some x) (hy : ls[j]? = some y) : ((ls.set o y).set j x).Perm ls := by
  obtain ⟨ho, rfl⟩ := List.getElem?_eq_some_iff.1 hx
  obtain ⟨hj, rfl⟩ := List.getElem?_eq_some_iff.1 hy
  have := Array.swap_perm (xs := ls.toArray) (i := o) (j := j) (by simpa using ho) (by simpa using hj)
  simpa [Array.perm_iff_toList_perm] using this
end

section
variable {orig : List (List Int)} {css : List (List Int)} {wl : Int → List Int} {tr tr' c ls : List Int} {a b : Int} {t : List Int}

theorem watch_add (h : Watch css wl) {wl1 wl2 : Int → List Int} (hab : a ≠ b) (h1 : wl1 = fun y => if y = a then wl a ++ [(css.length : Int)] else wl y) (h2 : wl2 = fun y => if y = b then wl1 b ++ [(css.length : Int)] else wl1 y) : Watch (css ++ [a :: b :: t]) wl2 := by
  have hnot : ∀ l, (css.length : Int) ∉ wl l := fun l hm => by
    obtain ⟨_, c, hc, _⟩ := ((h l).2 _).1 hm
    have := (List.getElem?_eq_some_iff.1 hc).1
    simp at this
  have hold : ∀ l i, Wat (css ++ [a :: b :: t]) i l ↔ Wat css i l ∨ (i = css.length ∧ (l = a ∨ l = b)) := by
    intro l i
    unfold Wat
    constructor
    · rintro ⟨h0, c, hc, hl⟩
      by_cases e : i.toNat < css.length
      · rw [List.getElem?_append_left e] at hc
        exact .inl ⟨h0, c, hc, hl⟩
      · rw [List.getElem?_append_right (by omega)] at hc
        have e2 : i.toNat - css.length = 0 := by
          cases hk : i.toNat - css.length with
          | zero => rfl
          | succ m => rw [hk] at hc; simp at hc
        rw [e2] at hc
        simp at hc
        subst hc
        refine .inr ⟨by omega, ?_⟩
        simpa [eq_comm] using hl
    · rintro (⟨h0, c, hc, hl⟩ | ⟨rfl, hl⟩)
      · exact ⟨h0, c, by rw [List.getElem?_append_left (List.getElem?_eq_some_iff.1 hc).1]; exact hc, hl⟩
      · exact ⟨by omega, a :: b :: t, by simp, by simpa [eq_comm] using hl⟩
  have hwl : ∀ l, wl2 l = if l = a ∨ l = b then wl l ++ [(css.length : Int)] else wl l := by
    intro l
    subst h2
    subst h1
    by_cases e1 : l = b
    · subst e1
      simp [Ne.symm hab]
    · by_cases e2 : l = a
      · subst e2; simp [hab]
      · simp [e1, e2]
  intro l
  rw [hwl]
  by_cases e : l = a ∨ l = b
  · rw [if_pos e]
    refine ⟨List.nodup_append.2 ⟨(h l).1, by simp, by rintro x hx y hy rfl; simp at hy; exact hnot l (hy ▸ hx)⟩, fun i => ?_⟩
    rw [List.mem_append, List.mem_singleton, hold, (h l).2 i]
    exact or_congr_right ⟨fun hi => ⟨hi, e⟩, fun hi => hi.1⟩
  · rw [if_neg e]
    refine ⟨(h l).1, fun i => ?_⟩
    rw [hold, (h l).2 i]
    exact ⟨.inl, fun hh => hh.elim id (fun hh => absurd hh.2 e)⟩

/-- What the checker keeps between two clauses. -/
structure BOk (orig css : List (List Int)) (wl : Int → List Int) (tr : List Int) : Prop where
  wb : WB orig [] [] css wl tr
  ok : WOk css tr tr (fun _ _ => False)
  full : Full orig css tr
  lit : ∀ o ∈ orig, ∀ x ∈ o, Lt40 x ∧ x ≠ 0

theorem wok_nil {css : List (List Int)} {P : Int → Nat → Prop} : WOk css [] [] P := fun i c x y _ _ h => by cases h

theorem WB.more {p : List Int} (h : WB orig [] p css wl tr) (c : List Int) : WB (orig ++ [c]) [] p css wl tr where
  cls := h.cls
  watch := h.watch
  trl := h.trl
  wp := h.wp
  der x hx := (h.der x hx).mono (fun d hd => List.mem_append_left _ hd) (fun _ h => h)
  rep d hd := by obtain ⟨o, ho, he⟩ := h.rep d hd; exact ⟨o, List.mem_append_left _ ho, he⟩
  psub := h.psub

theorem Full.add1 (h : Full orig css tr) (hc : (∃ z ∈ c, -z ∈ c) ∨ (∃ d ∈ css, ∀ x, x ∈ d ↔ x ∈ c) ∨ ∃ u ∈ tr, ∀ x, x ∈ c ↔ x = u) : Full (orig ++ [c]) css tr := fun o ho => by
  rcases List.mem_append.1 ho with ho | ho
  · exact h o ho
  · rw [List.mem_singleton.1 ho]; exact hc

/-- The new clause's literals, in the order found: what they give. -/
structure NewC (orig : List (List Int)) (css : List (List Int)) (wl : Int → List Int) (tr c ls : List Int) (o : Nat) : Prop where
  bok : BOk orig css wl tr
  lit : ∀ x ∈ c, Lt40 x ∧ x ≠ 0
  len : c.length ≤ 4096
  mem : ∀ x, x ∈ ls ↔ x ∈ c
  nodup : ls.Nodup
  cons : ∀ x ∈ ls, -x ∉ ls
  lenl : ls.length ≤ c.length
  part : Part tr ls o ls.length

theorem NewC.bad (h : NewC orig css wl tr c ls 0) : Bad (orig ++ [c]) [] := by
  refine .inr ⟨c, by simp, fun y hy => ?_⟩
  obtain ⟨i, hi, he⟩ := List.getElem_of_mem ((h.mem y).2 hy)
  have hf := h.part.fl (by omega) i y (Nat.zero_le _) hi (by rw [List.getElem?_eq_getElem hi, he])
  exact ((h.bok.wb.more c).der _ hf)

/-- One literal is left: it is derived. -/
theorem NewC.der (h : NewC orig css wl tr c (a :: t) 1) : Der (orig ++ [c]) [] a := by
  refine .unit (c := c) (by simp) ((h.mem a).1 List.mem_cons_self) (fun y hy hne => ?_)
  have hyl := (h.mem y).2 hy
  rcases List.mem_cons.1 hyl with e | hyt
  · exact absurd e hne
  · obtain ⟨i, hi, he⟩ := List.getElem_of_mem hyt
    have hf := h.part.fl (by omega) (i + 1) y (by omega) (by simpa using hi) (by simp [List.getElem?_eq_getElem hi, he])
    exact (h.bok.wb.more c).der _ hf

theorem NewC.lt {o : Nat} (h : NewC orig css wl tr c ls o) {x : Int} (hx : x ∈ ls) : Lt40 x ∧ x ≠ 0 := h.lit x ((h.mem x).1 hx)

/-- The trail behind: as it was, or with the one literal that is left. -/
def NewTr (tr ls : List Int) (o : Nat) (tr' : List Int) : Prop := (o = 2 ∧ tr' = tr) ∨ ∃ a t, ls = a :: t ∧ o = 1 ∧ ((a ∈ tr ∧ tr' = tr) ∨ (a ∉ tr ∧ -a ∉ tr ∧ tr' = tr ++ [a]))

theorem NewC.trail {o : Nat} (h : NewC orig css wl tr c ls o) (ht : NewTr tr ls o tr') : WB (orig ++ [c]) [] [] css wl tr' ∧ (∀ x ∈ tr, x ∈ tr') ∧ tr'.take tr.length = tr ∧ (o = 1 → ∃ a t, ls = a :: t ∧ a ∈ tr') := by
  rcases ht with ⟨rfl, rfl⟩ | ⟨a, t, rfl, rfl, ⟨ha, rfl⟩ | ⟨h1, h2, rfl⟩⟩
  · exact ⟨h.bok.wb.more c, fun _ h => h, List.take_length, fun e => by omega⟩
  · exact ⟨h.bok.wb.more c, fun _ h => h, List.take_length, fun _ => ⟨a, t, rfl, ha⟩⟩
  · exact ⟨(h.bok.wb.more c).add h.der (h.lt List.mem_cons_self) h1 h2, fun x hx => List.mem_append_left _ hx, by simp, fun _ => ⟨a, t, rfl, by simp⟩⟩

theorem wok_old (h : WOk css tr tr (fun _ _ => False)) (hs : ∀ x ∈ tr, x ∈ tr') (ht : tr'.take tr.length = tr) : WOk css (tr'.take tr.length) tr' (fun _ _ => False) := by
  rw [ht]
  exact h.mono hs (fun _ _ h => h)

/-- A unit clause. -/
theorem NewC.unit (h : NewC orig css wl tr c [a] 1) (ht : NewTr tr [a] 1 tr') :
    WB (orig ++ [c]) [] [] css wl tr' ∧ WOk css (tr'.take tr.length) tr' (fun _ _ => False) ∧ Full (orig ++ [c]) css tr' := by
  obtain ⟨h1, h2, h3, h4⟩ := h.trail ht
  obtain ⟨a', t, he, ha⟩ := h4 rfl
  cases he
  exact ⟨h1, wok_old h.bok.ok h2 h3, (h.bok.full.mono h2).add1 (.inr (.inr ⟨a, ha, fun x => by rw [← h.mem x]; simp⟩))⟩

/-- A clause of two literals or more. -/
theorem NewC.clause {o : Nat} {wl1 wl2 : Int → List Int} (h : NewC orig css wl tr c (a :: b :: t) o) (ho : 0 < o) (ht : NewTr tr (a :: b :: t) o tr') (hw1 : wl1 = fun y => if y = a then wl a ++ [(css.length : Int)] else wl y) (hw2 : wl2 = fun y => if y = b then wl1 b ++ [(css.length : Int)] else wl1 y) :
    WB (orig ++ [c]) [] [] (css ++ [a :: b :: t]) wl2 tr' ∧ WOk (css ++ [a :: b :: t]) (tr'.take tr.length) tr' (fun _ _ => False) ∧ Full (orig ++ [c]) (css ++ [a :: b :: t]) tr' := by
  obtain ⟨h1, h2, h3, h4⟩ := h.trail ht
  have hab : a ≠ b := by
    have := h.nodup
    intro e
    subst e
    simp at this
  have hcls : Cls (css ++ [a :: b :: t]) := by
    have hm : ∀ d ∈ css ++ [a :: b :: t], d ∈ css ∨ d = a :: b :: t := fun d hd => by simpa using hd
    constructor
    · intro d hd; rcases hm d hd with hd | rfl
      · exact h1.cls.two d hd
      · simp
    · intro d hd; rcases hm d hd with hd | rfl
      · exact h1.cls.len d hd
      · exact Nat.le_trans h.lenl h.len
    · intro d hd; rcases hm d hd with hd | rfl
      · exact h1.cls.nodup d hd
      · exact h.nodup
    · intro d hd; rcases hm d hd with hd | rfl
      · exact h1.cls.lit d hd
      · exact fun x hx => h.lt hx
    · intro d hd; rcases hm d hd with hd | rfl
      · exact h1.cls.cons d hd
      · exact h.cons
  refine ⟨⟨hcls, watch_add h1.watch hab hw1 hw2, h1.trl, wok_nil, h1.der, fun d hd => ?_, fun _ h => by cases h⟩, ?_, ?_⟩
  · rcases List.mem_append.1 hd with hd | hd
    · exact h1.rep d hd
    · rw [List.mem_singleton.1 hd]
      exact ⟨c, by simp, h.mem⟩
  · rw [h3]
    intro i d x y hd hxy hf _
    by_cases hi : i < css.length
    · rw [List.getElem?_append_left hi] at hd
      exact h2 _ (h.bok.ok i d x y hd hxy hf (fun h => h))
    · rw [List.getElem?_append_right (by omega)] at hd
      have e2 : i - css.length = 0 := by
        cases hk : i - css.length with
        | zero => rfl
        | succ m => rw [hk] at hd; simp at hd
      rw [e2] at hd
      simp at hd
      subst hd
      simp only [List.getElem?_cons_zero, List.getElem?_cons_succ, Option.some.injEq] at hxy
      have hna := h.part.nf 0 a ho (by simp)
      rcases hxy with ⟨rfl, rfl⟩ | ⟨rfl, rfl⟩
      · exact absurd hf hna
      · by_cases ho1 : o = 1
        · obtain ⟨a', t', he, ha⟩ := h4 ho1
          cases he
          exact ha
        · exact absurd hf (h.part.nf 1 b (by omega) (by simp))
  · refine Full.add1 (fun o ho => ?_) (.inr (.inl ⟨_, by simp, h.mem⟩))
    rcases h.bok.full o ho with h5 | ⟨d, hd, he⟩ | ⟨u, hu, he⟩
    · exact .inl h5
    · exact .inr (.inl ⟨d, List.mem_append_left _ hd, he⟩)
    · exact .inr (.inr ⟨u, h2 u hu, he⟩)

/-- A clause that always holds. -/
theorem BOk.taut (h : BOk orig css wl tr) (hl : ∀ x ∈ c, Lt40 x ∧ x ≠ 0) (ht : ∃ x ∈ c, -x ∈ c) : BOk (orig ++ [c]) css wl tr :=
  ⟨h.wb.more c, h.ok, h.full.add1 (.inl ht), fun o ho => by
    rcases List.mem_append.1 ho with ho | ho
    · exact h.lit o ho
    · rw [List.mem_singleton.1 ho]; exact hl⟩

theorem BOk.notBad (h : BOk orig css wl tr) : ¬ Bad orig [] := (h.wb.closed h.ok h.full (fun o ho x hx => (h.lit o ho x hx).2) (fun a ha => by cases ha)).not_bad
end
end Go.Proofs.Ytneibkemhmneoaa
