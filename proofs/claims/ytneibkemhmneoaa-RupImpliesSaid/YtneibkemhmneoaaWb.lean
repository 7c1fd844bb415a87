/- The plain law of the watched literals: the steps at one clause. No program. -/
import Derived.Test.YtneibkemhmneoaaWa
namespace Go.Proofs.Ytneibkemhmneoaa
set_option linter.unusedVariables false
set_option linter.unusedSimpArgs false

section
variable {orig : List (List Int)} {asm p : List Int} {css : List (List Int)} {wl : Int → List Int} {tr fal : List Int} {n : Nat} {c : List Int} {a b : Int} {t kp ps : List Int} {k : Int}

theorem WOk.gone {fal tg : List Int} {P P' : Int → Nat → Prop} {b d : Int} (h : WOk css fal tg P) (hc : css[n]? = some c) (h1 : Two c b d) (hb : b ≠ a) (hd : d ≠ a) (hp : ∀ x i, P x i → P' x i ∨ (x = a ∧ i = n)) : WOk css fal tg P' := by
  intro i x u v hx huv hf hq
  by_cases e : u = a ∧ i = n
  · obtain ⟨rfl, rfl⟩ := e
    rw [hc] at hx
    cases hx
    rcases h1.det huv with ⟨e, _⟩ | ⟨e, _⟩
    · exact absurd e.symm hb
    · exact absurd e.symm hd
  · exact h i x u v hx huv hf (fun k => (hp _ _ k).elim hq e)

/-- What pends at the list of a. -/
abbrev Pnd (a : Int) (ps : List Int) : Int → Nat → Prop := fun x i => x = a ∧ (i : Int) ∈ ps

theorem pnd_step {x : Int} {i : Nat} (h : Pnd a ((n : Int) :: ps) x i) : Pnd a ps x i ∨ (x = a ∧ i = n) := by
  rcases List.mem_cons.1 h.2 with e | e
  · exact .inr ⟨h.1, by omega⟩
  · exact .inl ⟨h.1, e⟩

/-- The clause at hand: its two watches. -/
def AtC (css : List (List Int)) (n : Nat) (k a b : Int) (t : List Int) : Prop := ∃ c, css[n]? = some c ∧ ((k = 0 ∧ c = a :: b :: t) ∨ (k = 1 ∧ c = b :: a :: t))

theorem Watch.here (h : Watch css wl) (hcl : Cls css) {i : Int} (hi : i ∈ wl a) : ∃ (n : Nat) (c : List Int), i = n ∧ css[n]? = some c ∧ ∃ b t, (c = a :: b :: t) ∨ (c = b :: a :: t ∧ b ≠ a) := by
  obtain ⟨h0, c, hc, hl⟩ := ((h a).2 i).1 hi
  have h2 := hcl.two c (List.mem_of_getElem? hc)
  have hnd := hcl.nodup c (List.mem_of_getElem? hc)
  refine ⟨i.toNat, c, by omega, hc, ?_⟩
  match c, h2 with
  | x :: y :: t, _ =>
    simp only [List.getElem?_cons_zero, List.getElem?_cons_succ, Option.some.injEq] at hl
    rcases hl with rfl | rfl
    · exact ⟨y, t, .inl rfl⟩
    · refine ⟨x, t, .inr ⟨rfl, fun e => ?_⟩⟩
      subst e
      simp at hnd

theorem AtC.two (h : AtC css n k a b t) : ∃ c, css[n]? = some c ∧ Two c a b ∧ c.Perm (b :: a :: t) := by
  obtain ⟨c, hc, ⟨_, rfl⟩ | ⟨_, rfl⟩⟩ := h
  · exact ⟨_, hc, .inl ⟨rfl, rfl⟩, .swap _ _ _⟩
  · exact ⟨_, hc, .inr ⟨rfl, rfl⟩, .refl _⟩
theorem two_ba : Two (b :: a :: t) a b := .inr ⟨rfl, rfl⟩

/-- The other watch is known. -/
theorem WB.stepA (h : WB orig asm p css wl tr) (hw : WOk css fal tr (Pnd a ((n : Int) :: ps))) (hat : AtC css n k a b t) (hb : b ∈ tr) :
    SameC css (css.set n (b :: a :: t)) ∧ WB orig asm p (css.set n (b :: a :: t)) wl tr ∧ WOk (css.set n (b :: a :: t)) fal tr (Pnd a ps) := by
  obtain ⟨c, hc, h2, hp⟩ := hat.two
  have hs := SameC.set hc hp
  have hnd : (b :: a :: t).Nodup := hp.nodup (h.cls.nodup c (List.mem_of_getElem? hc))
  exact ⟨hs, h.swap hc hp h2 two_ba, (hw.swap hc h2 two_ba).done (set_at hc) two_ba hb hnd (fun x i hx => pnd_step hx)⟩

/-- Another literal is watched. -/
theorem WB.stepB (h : WB orig asm p css wl tr) (hw : WOk css fal tr (Pnd a ((n : Int) :: ps))) (hat : AtC css n k a b t) (hna : -a ∈ tr) (hfal : ∀ x ∈ fal, x ∈ tr) (hwa : wl a = kp ++ (n : Int) :: ps) {t1 t2 : List Int} {d : Int} (ht : t = t1 ++ d :: t2) (hnd : -d ∉ tr) :
    SameC css (css.set n (b :: d :: (t1 ++ a :: t2))) ∧ WB orig asm p (css.set n (b :: d :: (t1 ++ a :: t2))) (fun y => if y = d then wl d ++ [(n : Int)] else if y = a then kp ++ ps else wl y) tr ∧ WOk (css.set n (b :: d :: (t1 ++ a :: t2))) fal tr (Pnd a ps) ∧ d ≠ a := by
  obtain ⟨c, hc, h2, hp⟩ := hat.two
  have hp2 : c.Perm (b :: d :: (t1 ++ a :: t2)) := by
    refine hp.trans (List.Perm.cons _ ?_)
    subst ht
    refine (List.Perm.cons a (List.perm_middle (l₁ := t1))).trans ?_
    exact (List.Perm.swap d a _).trans (List.Perm.cons d (List.perm_middle (l₁ := t1)).symm)
  have hcn := h.cls.nodup c (List.mem_of_getElem? hc)
  have h3 : Two (b :: d :: (t1 ++ a :: t2)) b d := .inl ⟨rfl, rfl⟩
  have hnn := hp2.nodup hcn
  have hda : d ≠ a := by
    rintro rfl
    exact hnd hna
  have hba : b ≠ a := Ne.symm (h2.ne hcn)
  have haw := (h.watch a).1
  rw [hwa] at haw
  refine ⟨SameC.set hc hp2, h.move hc hp2 h2 h3 hna hnd hda (by simp) ⟨?_, fun i => ?_⟩ (fun y h4 h5 => by simp [h4, h5]), ?_, hda⟩
  · simp only [if_neg (Ne.symm hda), if_true]
    exact haw.sublist (List.Sublist.append_left (List.sublist_cons_self _ _) _)
  · simp only [if_neg (Ne.symm hda), if_true]
    rw [hwa]
    obtain ⟨n1, n2, n3⟩ := List.nodup_append.1 haw
    obtain ⟨n4, n5⟩ := List.nodup_cons.1 n2
    simp only [List.mem_append, List.mem_cons]
    constructor
    · rintro (hi | hi)
      · exact ⟨.inl hi, fun e => n3 i hi n List.mem_cons_self e⟩
      · exact ⟨.inr (.inr hi), fun e => n4 (e ▸ hi)⟩
    · rintro ⟨hi | rfl | hi, hne⟩
      · exact .inl hi
      · exact absurd rfl hne
      · exact .inr hi
  · exact (hw.move hc h2 h3 (fun hm => hnd (hfal _ hm)) (fun hm => h.trl.cons a hm hna) (fun hp => hba hp.1)).gone (set_at hc) h3 hba hda (fun x i hx => pnd_step hx)

/-- All others are false. -/
theorem WB.stepDer (h : WB orig asm p css wl tr) (hat : AtC css n k a b t) (hna : -a ∈ tr) (hall : ∀ d ∈ t, -d ∈ tr) : Der orig asm b := by
  obtain ⟨c, hc, h2, hp⟩ := hat.two
  refine h.unit (List.mem_of_getElem? hc) h2.mem.2 (fun y hy hne => ?_)
  rcases List.mem_cons.1 (hp.mem_iff.1 hy) with e | hy
  · exact absurd e hne
  · rcases List.mem_cons.1 hy with rfl | hy
    · exact hna
    · exact hall y hy

theorem WB.stepC (h : WB orig asm p css wl tr) (hw : WOk css fal tr (Pnd a ((n : Int) :: ps))) (hat : AtC css n k a b t) (hna : -a ∈ tr) (hall : ∀ d ∈ t, -d ∈ tr) (hb : b ∉ tr) (hnb : -b ∉ tr) :
    SameC css (css.set n (b :: a :: t)) ∧ WB orig asm p (css.set n (b :: a :: t)) wl (tr ++ [b]) ∧ WOk (css.set n (b :: a :: t)) fal (tr ++ [b]) (Pnd a ps) := by
  obtain ⟨c, hc, h2, hp⟩ := hat.two
  have hs := SameC.set hc hp
  have hnd : (b :: a :: t).Nodup := hp.nodup (h.cls.nodup c (List.mem_of_getElem? hc))
  have hbl := h.cls.lit c (List.mem_of_getElem? hc) b h2.mem.2
  exact ⟨hs, (h.swap hc hp h2 two_ba).add (h.stepDer hat hna hall) hbl hb hnb, ((hw.swap hc h2 two_ba).mono (fun x hx => List.mem_append_left _ hx) (fun _ _ h => h)).done (set_at hc) two_ba (by simp) hnd (fun x i hx => pnd_step hx)⟩

theorem WB.stepD (h : WB orig asm p css wl tr) (hat : AtC css n k a b t) (hna : -a ∈ tr) (hall : ∀ d ∈ t, -d ∈ tr) (hnb : -b ∈ tr) :
    SameC css (css.set n (b :: a :: t)) ∧ WB orig asm p (css.set n (b :: a :: t)) wl tr ∧ Bad orig asm := by
  obtain ⟨c, hc, h2, hp⟩ := hat.two
  exact ⟨SameC.set hc hp, h.swap hc hp h2 two_ba, .inl ⟨b, h.stepDer hat hna hall, h.der _ hnb⟩⟩
end
end Go.Proofs.Ytneibkemhmneoaa
