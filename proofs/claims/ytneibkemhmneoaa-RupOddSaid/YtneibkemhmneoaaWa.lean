/- The plain law of the watched literals: what the checker of proofs keeps, and what its steps do to it. No program. -/
import Derived.Test.YtneibkemhmneoaaWM
namespace Go.Proofs.Ytneibkemhmneoaa
set_option linter.unusedVariables false
set_option linter.unusedSimpArgs false
open Go.RowKit

/-- The same clauses, up to the order inside each. -/
def SameC (a b : List (List Int)) : Prop := a.length = b.length ∧ ∀ (i : Nat) (c : List Int), a[i]? = some c → ∃ d, b[i]? = some d ∧ c.Perm d

theorem SameC.refl (a : List (List Int)) : SameC a a := ⟨rfl, fun i c h => ⟨c, h, .refl _⟩⟩
theorem SameC.trans {a b c : List (List Int)} (h : SameC a b) (k : SameC b c) : SameC a c :=
  ⟨h.1.trans k.1, fun i x hx => let ⟨y, hy, p⟩ := h.2 i x hx; let ⟨z, hz, q⟩ := k.2 i y hy; ⟨z, hz, p.trans q⟩⟩
theorem SameC.symm {a b : List (List Int)} (h : SameC a b) : SameC b a := ⟨h.1.symm, fun i d hd => by
  have hi : i < a.length := by rw [h.1]; exact (List.getElem?_eq_some_iff.1 hd).1
  obtain ⟨d', hd', p⟩ := h.2 i a[i] (List.getElem?_eq_getElem hi)
  rw [hd] at hd'
  cases hd'
  exact ⟨a[i], List.getElem?_eq_getElem hi, p.symm⟩⟩
theorem SameC.mem {a b : List (List Int)} (h : SameC a b) {c : List Int} (hc : c ∈ a) : ∃ d ∈ b, c.Perm d := by
  obtain ⟨i, hi, rfl⟩ := List.getElem_of_mem hc
  obtain ⟨d, hd, p⟩ := h.2 i _ (List.getElem?_eq_getElem hi)
  exact ⟨d, List.mem_of_getElem? hd, p⟩
theorem SameC.set {a : List (List Int)} {n : Nat} {c d : List Int} (hc : a[n]? = some c) (p : c.Perm d) : SameC a (a.set n d) := by
  refine ⟨by simp, fun i x hx => ?_⟩
  by_cases e : i = n
  · subst e
    rw [hc] at hx
    cases hx
    exact ⟨d, by rw [List.getElem?_set_self (List.getElem?_eq_some_iff.1 hc).1], p⟩
  · exact ⟨x, by rw [List.getElem?_set_ne (fun h => e h.symm)]; exact hx, .refl _⟩

structure Cls (css : List (List Int)) : Prop where
  two : ∀ c ∈ css, 2 ≤ c.length
  len : ∀ c ∈ css, c.length ≤ 4096
  nodup : ∀ c ∈ css, c.Nodup
  lit : ∀ c ∈ css, ∀ x ∈ c, Lt40 x ∧ x ≠ 0
  cons : ∀ c ∈ css, ∀ x ∈ c, -x ∉ c

theorem Cls.same {a b : List (List Int)} (h : Cls a) (s : SameC a b) : Cls b where
  two d hd := by obtain ⟨c, hc, p⟩ := s.symm.mem hd; rw [p.length_eq]; exact h.two c hc
  len d hd := by obtain ⟨c, hc, p⟩ := s.symm.mem hd; rw [p.length_eq]; exact h.len c hc
  nodup d hd := by obtain ⟨c, hc, p⟩ := s.symm.mem hd; exact p.symm.nodup (h.nodup c hc)
  lit d hd x hx := by obtain ⟨c, hc, p⟩ := s.symm.mem hd; exact h.lit c hc x (p.mem_iff.1 hx)
  cons d hd x hx hn := by obtain ⟨c, hc, p⟩ := s.symm.mem hd; exact h.cons c hc x (p.mem_iff.1 hx) (p.mem_iff.1 hn)

/-- Clause i watches by l. -/
def Wat (css : List (List Int)) (i l : Int) : Prop := 0 ≤ i ∧ ∃ c, css[i.toNat]? = some c ∧ (c[0]? = some l ∨ c[1]? = some l)
def Watch (css : List (List Int)) (wl : Int → List Int) : Prop := ∀ l, (wl l).Nodup ∧ ∀ i, i ∈ wl l ↔ Wat css i l

structure Trl (tr : List Int) : Prop where
  nodup : tr.Nodup
  cons : ∀ x ∈ tr, -x ∉ tr
  lit : ∀ x ∈ tr, Lt40 x ∧ x ≠ 0

/-- A watch that is false has the other watch in tg. -/
def WOk (css : List (List Int)) (fal tg : List Int) (P : Int → Nat → Prop) : Prop :=
  ∀ (i : Nat) (c : List Int) (x y : Int), css[i]? = some c → (c[0]? = some x ∧ c[1]? = some y ∨ c[1]? = some x ∧ c[0]? = some y) → -x ∈ fal → ¬ P x i → y ∈ tg

structure WB (orig : List (List Int)) (asm p : List Int) (css : List (List Int)) (wl : Int → List Int) (tr : List Int) : Prop where
  cls : Cls css
  watch : Watch css wl
  trl : Trl tr
  wp : WOk css p p (fun _ _ => False)
  der : ∀ x ∈ tr, Der orig asm x
  rep : ∀ c ∈ css, ∃ o ∈ orig, ∀ x, x ∈ c ↔ x ∈ o
  psub : ∀ x ∈ p, x ∈ tr

theorem rep_same {orig a b : List (List Int)} (s : SameC a b) (h : ∀ c ∈ a, ∃ o ∈ orig, ∀ x, x ∈ c ↔ x ∈ o) : ∀ c ∈ b, ∃ o ∈ orig, ∀ x, x ∈ c ↔ x ∈ o := fun d hd => by
  obtain ⟨c, hc, p⟩ := s.symm.mem hd
  obtain ⟨o, ho, h2⟩ := h c hc
  exact ⟨o, ho, fun x => (p.mem_iff).trans (h2 x)⟩

/-! ### the two watches of one clause -/
section
variable {css : List (List Int)} {n : Nat} {c c' : List Int} {a b d : Int}

/-- c watches by a and b, in either order. -/
def Two (c : List Int) (a b : Int) : Prop := c[0]? = some a ∧ c[1]? = some b ∨ c[1]? = some a ∧ c[0]? = some b
theorem Two.symm (h : Two c a b) : Two c b a := h.elim (fun ⟨x, y⟩ => .inr ⟨y, x⟩) (fun ⟨x, y⟩ => .inl ⟨y, x⟩)
theorem Two.det {x y : Int} (h : Two c a b) (k : Two c x y) : (x = a ∧ y = b) ∨ (x = b ∧ y = a) := by
  rcases h with ⟨h1, h2⟩ | ⟨h1, h2⟩ <;> rcases k with ⟨k1, k2⟩ | ⟨k1, k2⟩ <;> rw [h1] at * <;> rw [h2] at * <;> simp_all
theorem Two.mem (h : Two c a b) : a ∈ c ∧ b ∈ c := h.elim (fun ⟨x, y⟩ => ⟨List.mem_of_getElem? x, List.mem_of_getElem? y⟩) (fun ⟨x, y⟩ => ⟨List.mem_of_getElem? x, List.mem_of_getElem? y⟩)
theorem Two.ne (h : Two c a b) (hn : c.Nodup) : a ≠ b := by
  have hlen : 2 ≤ c.length := by
    rcases h with ⟨_, h⟩ | ⟨h, _⟩ <;> have := (List.getElem?_eq_some_iff.1 h).1 <;> omega
  rcases h with ⟨h1, h2⟩ | ⟨h1, h2⟩ <;> rw [List.getElem?_eq_getElem (by omega)] at h1 h2 <;> cases h1 <;> cases h2 <;> intro e
  · exact absurd ((List.getElem_inj hn).1 e) (by omega)
  · exact absurd ((List.getElem_inj hn).1 e) (by omega)

theorem wat_two {i l : Int} : Wat css i l ↔ 0 ≤ i ∧ ∃ c, css[i.toNat]? = some c ∧ (c[0]? = some l ∨ c[1]? = some l) := Iff.rfl
theorem Two.wat (h : Two c a b) (l : Int) : (c[0]? = some l ∨ c[1]? = some l) ↔ l = a ∨ l = b := by
  rcases h with ⟨h1, h2⟩ | ⟨h1, h2⟩ <;> rw [h1, h2] <;> simp only [Option.some.injEq] <;> constructor <;> rintro (h | h) <;> simp [h]

theorem set_get {i : Nat} {x : List Int} (hc : css[n]? = some c) (h : (css.set n c')[i]? = some x) : (i = n ∧ x = c') ∨ (i ≠ n ∧ css[i]? = some x) := by
  by_cases e : i = n
  · subst e
    rw [List.getElem?_set_self (List.getElem?_eq_some_iff.1 hc).1] at h
    cases h
    exact .inl ⟨rfl, rfl⟩
  · rw [List.getElem?_set_ne (fun h => e h.symm)] at h
    exact .inr ⟨e, h⟩
theorem set_at (hc : css[n]? = some c) : (css.set n c')[n]? = some c' := by rw [List.getElem?_set_self (List.getElem?_eq_some_iff.1 hc).1]

theorem WOk.swap {fal tg : List Int} {P : Int → Nat → Prop} (h : WOk css fal tg P) (hc : css[n]? = some c) (h1 : Two c a b) (h2 : Two c' a b) : WOk (css.set n c') fal tg P := by
  intro i x u v hx huv hf hp
  rcases set_get hc hx with ⟨rfl, rfl⟩ | ⟨hne, hx⟩
  · rcases h2.det huv with ⟨rfl, rfl⟩ | ⟨rfl, rfl⟩
    · exact h _ c _ _ hc h1 hf hp
    · exact h _ c _ _ hc h1.symm hf hp
  · exact h i x u v hx huv hf hp

theorem WOk.move {fal tg : List Int} {P : Int → Nat → Prop} (h : WOk css fal tg P) (hc : css[n]? = some c) (h1 : Two c a b) (h2 : Two c' b d) (hd : -d ∉ fal) (ha : a ∉ tg) (hP : ¬ P b n) : WOk (css.set n c') fal tg P := by
  intro i x u v hx huv hf hp
  rcases set_get hc hx with ⟨rfl, rfl⟩ | ⟨hne, hx⟩
  · rcases h2.det huv with ⟨rfl, rfl⟩ | ⟨rfl, rfl⟩
    · exact absurd (h _ c _ _ hc h1.symm hf hP) ha
    · exact absurd hf hd
  · exact h i x u v hx huv hf hp

theorem WOk.mono {fal tg tg' : List Int} {P P' : Int → Nat → Prop} (h : WOk css fal tg P) (ht : ∀ x ∈ tg, x ∈ tg') (hp : ∀ x i, P x i → P' x i) : WOk css fal tg' P' :=
  fun i c x y hc hxy hf hn => ht _ (h i c x y hc hxy hf (fun k => hn (hp _ _ k)))

/-- The clause's own duty is met. -/
theorem WOk.done {fal tg : List Int} {P P' : Int → Nat → Prop} (h : WOk css fal tg P) (hc : css[n]? = some c) (h1 : Two c a b) (hb : b ∈ tg) (hn : c.Nodup) (hp : ∀ x i, P x i → P' x i ∨ (x = a ∧ i = n)) : WOk css fal tg P' := by
  intro i x u v hx huv hf hq
  by_cases e : u = a ∧ i = n
  · obtain ⟨rfl, rfl⟩ := e
    rw [hc] at hx
    cases hx
    rcases h1.det huv with ⟨_, rfl⟩ | ⟨e, _⟩
    · exact hb
    · exact absurd e (h1.ne hn)
  · exact h i x u v hx huv hf (fun k => (hp _ _ k).elim hq e)

theorem Watch.swap {wl : Int → List Int} (h : Watch css wl) (hc : css[n]? = some c) (h1 : Two c a b) (h2 : Two c' a b) : Watch (css.set n c') wl := by
  intro l
  refine ⟨(h l).1, fun i => ((h l).2 i).trans ?_⟩
  unfold Wat
  refine and_congr_right (fun hi => ?_)
  constructor
  · rintro ⟨x, hx, hl⟩
    by_cases e : i.toNat = n
    · rw [e] at hx ⊢
      rw [hc] at hx
      cases hx
      exact ⟨c', set_at hc, (h2.wat l).2 ((h1.wat l).1 hl)⟩
    · exact ⟨x, by rw [List.getElem?_set_ne (fun h => e h.symm)]; exact hx, hl⟩
  · rintro ⟨x, hx, hl⟩
    rcases set_get hc hx with ⟨e, rfl⟩ | ⟨hne, hx⟩
    · exact ⟨c, by rw [e]; exact hc, (h1.wat l).2 ((h2.wat l).1 hl)⟩
    · exact ⟨x, hx, hl⟩

/-- The watch goes from a to d. -/
theorem Watch.move {wl wl' : Int → List Int} (h : Watch css wl) (hc : css[n]? = some c) (h1 : Two c a b) (h2 : Two c' b d) (hda : d ≠ a) (hdb : d ≠ b) (hab : a ≠ b)
    (wd : wl' d = wl d ++ [(n : Int)]) (wa : (wl' a).Nodup ∧ ∀ i, i ∈ wl' a ↔ i ∈ wl a ∧ i ≠ n) (wo : ∀ y, y ≠ d → y ≠ a → wl' y = wl y) : Watch (css.set n c') wl' := by
  have hkey : ∀ l i, Wat (css.set n c') i l ↔ (i ≠ n ∧ Wat css i l) ∨ (i = n ∧ (l = b ∨ l = d)) := by
    intro l i
    unfold Wat
    constructor
    · rintro ⟨hi, x, hx, hl⟩
      rcases set_get hc hx with ⟨e, rfl⟩ | ⟨hne, hx⟩
      · exact .inr ⟨by omega, (h2.wat l).1 hl⟩
      · exact .inl ⟨by omega, hi, x, hx, hl⟩
    · rintro (⟨hne, hi, x, hx, hl⟩ | ⟨rfl, hl⟩)
      · exact ⟨hi, x, by rw [List.getElem?_set_ne (by omega)]; exact hx, hl⟩
      · exact ⟨by omega, c', by simpa using set_at hc, (h2.wat l).2 hl⟩
  have hold : ∀ l, Wat css (n : Int) l ↔ l = a ∨ l = b := by
    intro l
    unfold Wat
    constructor
    · rintro ⟨_, x, hx, hl⟩
      simp only [Int.toNat_natCast] at hx
      rw [hc] at hx
      cases hx
      exact (h1.wat l).1 hl
    · intro hl
      exact ⟨by omega, c, by simpa using hc, (h1.wat l).2 hl⟩
  intro l
  by_cases e1 : l = d
  · subst e1
    have hnot : (n : Int) ∉ wl l := fun hm => by
      rcases (hold l).1 (((h l).2 _).1 hm) with e | e
      · exact hda e
      · exact hdb e
    refine ⟨by rw [wd]; exact List.nodup_append.2 ⟨(h l).1, by simp, by rintro x hx y hy rfl; simp at hy; exact hnot (hy ▸ hx)⟩, fun i => ?_⟩
    rw [wd, List.mem_append, List.mem_singleton, hkey, (h l).2 i]
    constructor
    · rintro (hw | rfl)
      · by_cases e : i = n
        · exact .inr ⟨e, .inr rfl⟩
        · exact .inl ⟨e, hw⟩
      · exact .inr ⟨rfl, .inr rfl⟩
    · rintro (⟨_, hw⟩ | ⟨rfl, _⟩)
      · exact .inl hw
      · exact .inr rfl
  · by_cases e2 : l = a
    · subst e2
      refine ⟨wa.1, fun i => ?_⟩
      rw [wa.2 i, hkey, (h l).2 i]
      constructor
      · rintro ⟨hw, hne⟩
        exact .inl ⟨hne, hw⟩
      · rintro (⟨hne, hw⟩ | ⟨rfl, e | e⟩)
        · exact ⟨hw, hne⟩
        · exact absurd e hab
        · exact absurd e e1
    · rw [wo l e1 e2]
      refine ⟨(h l).1, fun i => ?_⟩
      rw [hkey, (h l).2 i]
      constructor
      · intro hw
        by_cases e : i = n
        · subst e
          rcases (hold l).1 hw with e | e
          · exact absurd e e2
          · exact .inr ⟨rfl, .inl e⟩
        · exact .inl ⟨e, hw⟩
      · rintro (⟨_, hw⟩ | ⟨rfl, e | e⟩)
        · exact hw
        · exact (hold l).2 (.inr e)
        · exact absurd e e1
end

theorem Trl.add {tr : List Int} (h : Trl tr) {x : Int} (hx : Lt40 x ∧ x ≠ 0) (h1 : x ∉ tr) (h2 : -x ∉ tr) : Trl (tr ++ [x]) where
  nodup := List.nodup_append.2 ⟨h.nodup, by simp, by rintro y hy z hz rfl; simp at hz; exact h1 (hz ▸ hy)⟩
  cons y hy hn := by
    simp only [List.mem_append, List.mem_singleton] at hy hn
    rcases hy with hy | rfl
    · rcases hn with hn | hn
      · exact h.cons y hy hn
      · exact h2 (by rw [← hn, Int.neg_neg]; exact hy)
    · rcases hn with hn | hn
      · exact h2 hn
      · have := hx.2; omega
  lit y hy := by
    simp only [List.mem_append, List.mem_singleton] at hy
    rcases hy with hy | rfl
    · exact h.lit y hy
    · exact hx

section
variable {orig : List (List Int)} {asm p : List Int} {css : List (List Int)} {wl wl' : Int → List Int} {tr fal : List Int} {n : Nat} {c c' : List Int} {a b d : Int} {P P' : Int → Nat → Prop}

/-- The two watches trade places. -/
theorem WB.swap (h : WB orig asm p css wl tr) (hc : css[n]? = some c) (hp : c.Perm c') (h1 : Two c a b) (h2 : Two c' a b) : WB orig asm p (css.set n c') wl tr where
  cls := h.cls.same (.set hc hp)
  watch := h.watch.swap hc h1 h2
  trl := h.trl
  wp := h.wp.swap hc h1 h2
  der := h.der
  rep := rep_same (.set hc hp) h.rep
  psub := h.psub

theorem WB.move (h : WB orig asm p css wl tr) (hc : css[n]? = some c) (hp : c.Perm c') (h1 : Two c a b) (h2 : Two c' b d) (hna : -a ∈ tr) (hnd : -d ∉ tr) (hda : d ≠ a)
    (wd : wl' d = wl d ++ [(n : Int)]) (wa : (wl' a).Nodup ∧ ∀ i, i ∈ wl' a ↔ i ∈ wl a ∧ i ≠ n) (wo : ∀ y, y ≠ d → y ≠ a → wl' y = wl y) : WB orig asm p (css.set n c') wl' tr where
  cls := h.cls.same (.set hc hp)
  watch := h.watch.move hc h1 h2 hda (Ne.symm (h2.ne (hp.nodup (h.cls.nodup c (List.mem_of_getElem? hc))))) (h1.ne (h.cls.nodup c (List.mem_of_getElem? hc))) wd wa wo
  trl := h.trl
  wp := h.wp.move hc h1 h2 (fun hm => hnd (h.psub _ hm)) (fun hm => h.trl.cons _ (h.psub _ hm) hna) (fun hf => hf)
  der := h.der
  rep := rep_same (.set hc hp) h.rep
  psub := h.psub

theorem WB.add (h : WB orig asm p css wl tr) {x : Int} (hd : Der orig asm x) (hx : Lt40 x ∧ x ≠ 0) (h1 : x ∉ tr) (h2 : -x ∉ tr) : WB orig asm p css wl (tr ++ [x]) where
  cls := h.cls
  watch := h.watch
  trl := h.trl.add hx h1 h2
  wp := h.wp
  der y hy := by
    simp only [List.mem_append, List.mem_singleton] at hy
    rcases hy with hy | rfl
    · exact h.der y hy
    · exact hd
  rep := h.rep
  psub y hy := List.mem_append_left _ (h.psub y hy)

/-- All other literals of a clause are false: the last one is derived. -/
theorem WB.unit (h : WB orig asm p css wl tr) (hc : c ∈ css) (hb : b ∈ c) (hall : ∀ y ∈ c, y ≠ b → -y ∈ tr) : Der orig asm b := by
  obtain ⟨o, ho, he⟩ := h.rep c hc
  exact .unit ho ((he b).1 hb) (fun y hy hne => h.der _ (hall y ((he y).2 hy) hne))

/-- The originals are all looked after. -/
def Full (orig : List (List Int)) (css : List (List Int)) (tr : List Int) : Prop :=
  ∀ o ∈ orig, (∃ z ∈ o, -z ∈ o) ∨ (∃ c ∈ css, ∀ x, x ∈ c ↔ x ∈ o) ∨ ∃ u ∈ tr, ∀ x, x ∈ o ↔ x = u

theorem Full.same {css' : List (List Int)} (h : Full orig css tr) (s : SameC css css') : Full orig css' tr := fun o ho => by
  rcases h o ho with h1 | ⟨c, hc, h2⟩ | h3
  · exact .inl h1
  · obtain ⟨d, hd, p⟩ := s.mem hc
    exact .inr (.inl ⟨d, hd, fun x => (p.mem_iff).symm.trans (h2 x)⟩)
  · exact .inr (.inr h3)
theorem Full.mono {tr' : List Int} (h : Full orig css tr) (s : ∀ x ∈ tr, x ∈ tr') : Full orig css tr' := fun o ho => by
  rcases h o ho with h1 | h2 | ⟨u, hu, h3⟩
  · exact .inl h1
  · exact .inr (.inl h2)
  · exact .inr (.inr ⟨u, s u hu, h3⟩)

theorem Cls.pair (h : Cls css) (hc : c ∈ css) : ∃ a b, Two c a b := by
  have := h.two c hc
  exact ⟨c[0], c[1], .inl ⟨List.getElem?_eq_getElem (by omega), List.getElem?_eq_getElem (by omega)⟩⟩

/-- AT THE END: closed. -/
theorem WB.closed (h : WB orig asm p css wl tr) (hw : WOk css tr tr (fun _ _ => False)) (hf : Full orig css tr) (h0 : ∀ o ∈ orig, ∀ x ∈ o, x ≠ 0) (ha : ∀ a ∈ asm, a ∈ tr) : Closed orig asm (fun x => x ∈ tr) where
  asm := ha
  cons x hx hn := h.trl.cons x hx hn
  unit o ho x hx hall := by
    rcases hf o ho with ⟨z, hz, hnz⟩ | ⟨c, hc, he⟩ | ⟨u, hu, he⟩
    · have hz0 := h0 o ho z hz
      by_cases e1 : x = z
      · subst e1
        have := hall (-x) hnz (by omega)
        simpa using this
      · by_cases e2 : x = -z
        · subst e2
          exact hall z hz (by omega)
        · have h1 := hall z hz (fun e => e1 e.symm)
          have h2 := hall (-z) hnz (fun e => e2 e.symm)
          exact absurd h2 (h.trl.cons _ h1)
    · obtain ⟨a, b, h2⟩ := h.cls.pair hc
      have hab := h2.ne (h.cls.nodup c hc)
      obtain ⟨i, hi, rfl⟩ := List.getElem_of_mem hc
      have hci := List.getElem?_eq_getElem hi
      by_cases ea : x = a
      · subst ea
        exact hw i _ b x hci h2.symm (hall b ((he b).1 h2.mem.2) (Ne.symm hab)) (fun h => h)
      · have h3 := hall a ((he a).1 h2.mem.1) (fun e => ea e.symm)
        have hb := hw i _ a b hci h2 h3 (fun h => h)
        by_cases eb : x = b
        · rw [eb]; exact hb
        · exact absurd (hall b ((he b).1 h2.mem.2) (fun e => eb e.symm)) (h.trl.cons _ hb)
    · rw [(he x).1 hx]; exact hu
  safe o ho := by
    rcases hf o ho with ⟨z, hz, hnz⟩ | ⟨c, hc, he⟩ | ⟨u, hu, he⟩
    · by_cases e : -z ∈ tr
      · exact ⟨-z, hnz, h.trl.cons _ e⟩
      · exact ⟨z, hz, e⟩
    · obtain ⟨a, b, h2⟩ := h.cls.pair hc
      obtain ⟨i, hi, rfl⟩ := List.getElem_of_mem hc
      by_cases e : -a ∈ tr
      · have hb := hw i _ a b (List.getElem?_eq_getElem hi) h2 e (fun h => h)
        exact ⟨b, (he b).1 h2.mem.2, h.trl.cons _ hb⟩
      · exact ⟨a, (he a).1 h2.mem.1, e⟩
    · exact ⟨u, (he u).2 rfl, h.trl.cons _ hu⟩
end

end Go.Proofs.Ytneibkemhmneoaa
