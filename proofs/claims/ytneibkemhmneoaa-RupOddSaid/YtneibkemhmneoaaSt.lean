/- Words of this claim: heaplets, owned memory as a list of assertions that lie apart ('St'), owned slices of one-cell elements ('Sl'), slices that are read ('Rd'). They speak of no function of the program. -/
import Derived.WalkKit
import Derived.WalkSpells
import Derived.WalkLawsBesides
import Derived.Maps.AppendAt
import Derived.Deep.Draws
namespace Go.Proofs.Ytneibkemhmneoaa
set_option linter.unusedVariables false
set_option linter.unusedSimpArgs false
open Go.RowKit

/-- A fact kept from the walk. -/
structure Hd (p : Prop) : Prop where mk :: (out : p)

abbrev Hl := Nat → Option Obj
def Hl.Disj (g h : Hl) : Prop := ∀ b, g b = none ∨ h b = none
def Hl.Sub (g h : Hl) : Prop := ∀ b o, g b = some o → h b = some o
abbrev As := Hl → Prop

theorem Hl.Disj.symm {g h : Hl} (d : Hl.Disj g h) : Hl.Disj h g := fun b => (d b).symm
theorem Hl.Sub.refl (g : Hl) : Hl.Sub g g := fun _ _ h => h
theorem Hl.Sub.trans {g h k : Hl} (a : Hl.Sub g h) (b : Hl.Sub h k) : Hl.Sub g k := fun x o e => b x o (a x o e)
theorem Hl.Disj.sub {g h g' h' : Hl} (d : Hl.Disj g h) (a : Hl.Sub g' g) (b : Hl.Sub h' h) : Hl.Disj g' h' := fun x => by
  rcases d x with e | e
  · left; cases h1 : g' x with
    | none => rfl
    | some o => rw [a x o h1] at e; cases e
  · right; cases h1 : h' x with
    | none => rfl
    | some o => rw [b x o h1] at e; cases e
/-- g where it is something, else h. -/
def Hl.or (g h : Hl) : Hl := fun b => match g b with | some o => some o | none => h b
theorem Hl.sub_or_left (g h : Hl) : Hl.Sub g (Hl.or g h) := fun b o e => by simp [Hl.or, e]
theorem Hl.sub_or_right {g h : Hl} (d : Hl.Disj g h) : Hl.Sub h (Hl.or g h) := fun b o e => by
  rcases d b with e' | e'
  · simp [Hl.or, e', e]
  · rw [e'] at e; cases e
theorem Hl.or_sub {g h k : Hl} (a : Hl.Sub g k) (b : Hl.Sub h k) : Hl.Sub (Hl.or g h) k := fun x o e => by
  unfold Hl.or at e
  cases h1 : g x with
  | none => rw [h1] at e; exact b x o e
  | some o' => rw [h1] at e; cases e; exact a x _ h1
theorem Hl.disj_or {g h k : Hl} (a : Hl.Disj g k) (b : Hl.Disj h k) : Hl.Disj (Hl.or g h) k := fun x => by
  rcases a x with e | e
  · rcases b x with e' | e'
    · left; simp [Hl.or, e, e']
    · right; exact e'
  · right; exact e

def Star : List As → Hl → Prop
  | [], _ => True
  | P :: l, h => ∃ g k, P g ∧ Star l k ∧ Hl.Disj g k ∧ Hl.Sub g h ∧ Hl.Sub k h

theorem Star.mono : ∀ {l : List As} {h h' : Hl}, Star l h → Hl.Sub h h' → Star l h'
  | [], _, _, _, _ => trivial
  | _ :: _, _, _, ⟨g, k, p, s, d, a, b⟩, e => ⟨g, k, p, s, d, a.trans e, b.trans e⟩

theorem Star.swap {P Q : As} {l : List As} {h : Hl} (s : Star (P :: Q :: l) h) : Star (Q :: P :: l) h := by
  obtain ⟨g, k, p, ⟨g', k', q, s', d', a', b'⟩, d, a, b⟩ := s
  refine ⟨g', Hl.or g k', q, ⟨g, k', p, s', d.sub (Hl.Sub.refl _) b', Hl.sub_or_left _ _, Hl.sub_or_right (d.sub (Hl.Sub.refl _) b')⟩, ?_, a'.trans b, Hl.or_sub a (b'.trans b)⟩
  exact (Hl.disj_or (d.sub (Hl.Sub.refl _) a') d'.symm).symm

theorem Star.perm {l l' : List As} (hp : l.Perm l') : ∀ {h : Hl}, Star l h → Star l' h := by
  induction hp with
  | nil => exact fun h => h
  | cons x _ ih => exact fun ⟨g, k, p, s, d, a, b⟩ => ⟨g, k, p, ih s, d, a, b⟩
  | swap x y l => exact fun h => Star.swap h
  | trans _ _ ih1 ih2 => exact fun h => ih2 (ih1 h)

theorem Star.append : ∀ {l l' : List As} {h : Hl}, Star (l ++ l') h → ∃ g k, Star l g ∧ Star l' k ∧ Hl.Disj g k ∧ Hl.Sub g h ∧ Hl.Sub k h
  | [], _, h, s => ⟨fun _ => none, h, trivial, s, fun _ => .inl rfl, (fun _ _ e => by cases e), Hl.Sub.refl _⟩
  | P :: l, l', h, ⟨g, k, p, s, d, a, b⟩ => by
    obtain ⟨g', k', s1, s2, d', a', b'⟩ := Star.append s
    exact ⟨Hl.or g g', k', ⟨g, g', p, s1, d.sub (Hl.Sub.refl _) a', Hl.sub_or_left _ _, Hl.sub_or_right (d.sub (Hl.Sub.refl _) a')⟩, s2, Hl.disj_or (d.sub (Hl.Sub.refl _) b') d', Hl.or_sub a (a'.trans b), b'.trans b⟩

theorem Star.join : ∀ {l l' : List As} {g k h : Hl}, Star l g → Star l' k → Hl.Disj g k → Hl.Sub g h → Hl.Sub k h → Star (l ++ l') h
  | [], _, _, _, _, _, s, _, _, b => s.mono b
  | P :: l, l', g, k, h, ⟨g1, k1, p, s, d1, a1, b1⟩, s', d, a, b =>
    ⟨g1, Hl.or k1 k, p, Star.join s s' (d.sub b1 (Hl.Sub.refl _)) (Hl.sub_or_left _ _) (Hl.sub_or_right (d.sub b1 (Hl.Sub.refl _))),
      (Hl.disj_or d1.symm (d.sub a1 (Hl.Sub.refl _)).symm).symm, a1.trans a, Hl.or_sub (b1.trans a) b⟩

/-- Owned memory: below W's size the world w is as W was; above it, what the assertions say, each of blocks of its own. -/
structure St (W w : World) (l : List As) : Prop where
  below : Below W.heap.size W w
  own : ∃ h, Star l h ∧ ∀ b o, h b = some o → W.heap.size ≤ b ∧ w.heap[b]? = some o

section
variable {W w w' : World} {P Q : As} {l l' : List As}

theorem St.refl (W : World) : St W W [] := ⟨Below.refl _ _, fun _ => none, trivial, fun _ _ e => by cases e⟩
theorem St.perm (h : St W w l) (hp : l.Perm l') : St W w l' := let ⟨g, s, e⟩ := h.own; ⟨h.below, g, s.perm hp, e⟩
theorem St.p1 {A B : As} (h : St W w (A :: B :: l)) : St W w (B :: A :: l) := h.perm (.swap _ _ _)
theorem St.p2 {A B C : As} (h : St W w (A :: B :: C :: l)) : St W w (C :: A :: B :: l) := h.perm ((List.Perm.cons _ (.swap _ _ _)).trans (.swap _ _ _))
theorem St.p3 {A B C D : As} (h : St W w (A :: B :: C :: D :: l)) : St W w (D :: A :: B :: C :: l) := h.perm ((List.Perm.cons _ ((List.Perm.cons _ (.swap _ _ _)).trans (.swap _ _ _))).trans (.swap _ _ _))
theorem St.p4 {A B C D E : As} (h : St W w (A :: B :: C :: D :: E :: l)) : St W w (E :: A :: B :: C :: D :: l) := h.perm ((List.Perm.cons _ ((List.Perm.cons _ ((List.Perm.cons _ (.swap _ _ _)).trans (.swap _ _ _))).trans (.swap _ _ _))).trans (.swap _ _ _))
theorem St.p5 {A B C D E F : As} (h : St W w (A :: B :: C :: D :: E :: F :: l)) : St W w (F :: A :: B :: C :: D :: E :: l) := h.perm ((List.Perm.cons _ ((List.Perm.cons _ ((List.Perm.cons _ ((List.Perm.cons _ (.swap _ _ _)).trans (.swap _ _ _))).trans (.swap _ _ _))).trans (.swap _ _ _))).trans (.swap _ _ _))
/-- The head to the second, third .. place. -/
theorem St.q2 {A B C : As} (h : St W w (A :: B :: C :: l)) : St W w (B :: C :: A :: l) := h.perm ((List.Perm.swap _ _ _).trans (List.Perm.cons _ (.swap _ _ _)))
theorem St.q3 {A B C D : As} (h : St W w (A :: B :: C :: D :: l)) : St W w (B :: C :: D :: A :: l) := h.perm ((List.Perm.swap _ _ _).trans (List.Perm.cons _ ((List.Perm.swap _ _ _).trans (List.Perm.cons _ (.swap _ _ _)))))
theorem St.drop (h : St W w (P :: l)) : St W w l := let ⟨g, ⟨_, _, _, s, _, _, b⟩, e⟩ := h.own; ⟨h.below, g, s.mono b, e⟩
theorem St.imp (h : St W w (P :: l)) (hi : ∀ g, P g → Q g) : St W w (Q :: l) := let ⟨g, ⟨a, k, p, s, d, x, y⟩, e⟩ := h.own; ⟨h.below, g, ⟨a, k, hi _ p, s, d, x, y⟩, e⟩
theorem St.open {ps : List As} (h : St W w (P :: l)) (hi : ∀ g, P g → Star ps g) : St W w (ps ++ l) := by
  obtain ⟨g, ⟨a, k, p, s, d, x, y⟩, e⟩ := h.own
  exact ⟨h.below, g, Star.join (hi _ p) s d x y, e⟩
theorem St.close {ps : List As} (h : St W w (ps ++ l)) (hi : ∀ g, Star ps g → P g) : St W w (P :: l) := by
  obtain ⟨g, s, e⟩ := h.own
  obtain ⟨a, k, s1, s2, d, x, y⟩ := Star.append s
  exact ⟨h.below, g, ⟨a, k, hi _ s1, s2, d, x, y⟩, e⟩
theorem St.ex {α : Type} {R : α → As} (h : St W w ((fun g => ∃ x, R x g) :: l)) : ∃ x, St W w (R x :: l) := by
  obtain ⟨g, ⟨a, k, ⟨x, p⟩, s, d, y, z⟩, e⟩ := h.own
  exact ⟨x, h.below, g, ⟨a, k, p, s, d, y, z⟩, e⟩
theorem St.and {p : Prop} (h : St W w ((fun g => p ∧ P g) :: l)) : p ∧ St W w (P :: l) := by
  obtain ⟨g, ⟨a, k, ⟨x, q⟩, s, d, y, z⟩, e⟩ := h.own
  exact ⟨x, h.below, g, ⟨a, k, q, s, d, y, z⟩, e⟩
theorem St.get (h : St W w (P :: l)) : ∃ g, P g ∧ ∀ b o, g b = some o → W.heap.size ≤ b ∧ w.heap[b]? = some o := by
  obtain ⟨g, ⟨a, k, p, s, d, y, z⟩, e⟩ := h.own
  exact ⟨a, p, fun b o hb => e b o (y b o hb)⟩
theorem St.emp (h : St W w l) (hp : P (fun _ => none)) : St W w (P :: l) := by
  obtain ⟨g, s, e⟩ := h.own
  exact ⟨h.below, g, ⟨fun _ => none, g, hp, s, fun _ => .inl rfl, (fun _ _ e => by cases e), Hl.Sub.refl _⟩, e⟩
theorem St.size (h : St W w l) : W.heap.size ≤ w.heap.size := h.below.size

/-- The heap as it was. -/
theorem St.same (h : St W w l) (hh : w'.heap = w.heap) (ho : w'.os = w.os) (ht : w'.tape = w.tape) (hu : w'.output = w.output) : St W w' l := by
  obtain ⟨g, s, e⟩ := h.own
  refine ⟨⟨ho.trans h.below.os, ht.trans h.below.tape, hu.trans h.below.output, by rw [hh]; exact h.below.size, fun k hk => by rw [hh]; exact h.below.block k hk⟩, g, s, fun b o hb => by rw [hh]; exact e b o hb⟩
theorem St.drew (h : St W w l) : St W w.drew l := h.same rfl rfl rfl rfl
theorem St.drewN (h : St W w l) (n : Nat) : St W (w.drewN n) l := h.same rfl rfl rfl rfl

/-- THE STEP: the head's heaplet g becomes g'; g' has blocks of g and new ones; all other old blocks are as they were. -/
theorem St.update (h : St W w (P :: l)) (ho : w'.os = w.os) (ht : w'.tape = w.tape) (hu : w'.output = w.output) (hz : w.heap.size ≤ w'.heap.size)
    (step : ∀ g, P g → (∀ b o, g b = some o → W.heap.size ≤ b ∧ w.heap[b]? = some o) →
      ∃ g', Q g' ∧ (∀ b o, g' b = some o → w'.heap[b]? = some o ∧ (g b ≠ none ∨ w.heap.size ≤ b)) ∧ (∀ b, b < w.heap.size → g b = none → w'.heap[b]? = w.heap[b]?)) : St W w' (Q :: l) := by
  obtain ⟨hh, ⟨g, k, p, s, d, x, y⟩, e⟩ := h.own
  obtain ⟨g', q, hg', hold⟩ := step g p (fun b o hb => e b o (x b o hb))
  have dk : Hl.Disj g' k := fun b => by
    cases hb : g' b with
    | none => exact .inl rfl
    | some o =>
      right
      rcases (hg' b o hb).2 with h1 | h1
      · rcases d b with h2 | h2
        · exact absurd h2 h1
        · exact h2
      · cases hk : k b with
        | none => rfl
        | some o' =>
          have := (e b o' (y b o' hk)).2
          rw [Array.getElem?_eq_none h1] at this
          cases this
  refine ⟨⟨ho.trans h.below.os, ht.trans h.below.tape, hu.trans h.below.output, Nat.le_trans h.below.size hz, fun b hb => ?_⟩, Hl.or g' k, ⟨g', k, q, s, dk, Hl.sub_or_left _ _, Hl.sub_or_right dk⟩, fun b o hb => ?_⟩
  · rw [hold b (Nat.lt_of_lt_of_le hb h.below.size) (by
      cases hg : g b with
      | none => rfl
      | some o => have := (e b o (x b o hg)).1; omega)]
    exact h.below.block b hb
  · unfold Hl.or at hb
    cases h1 : g' b with
    | some o' =>
      rw [h1] at hb
      cases hb
      refine ⟨?_, (hg' b _ h1).1⟩
      rcases (hg' b _ h1).2 with h2 | h2
      · cases hg : g b with
        | none => exact absurd hg h2
        | some o' => exact (e b o' (x b o' hg)).1
      · exact Nat.le_trans h.below.size h2
    | none =>
      rw [h1] at hb
      have hk := e b o (y b o hb)
      refine ⟨hk.1, ?_⟩
      have hlt : b < w.heap.size := (Array.getElem?_eq_some_iff.1 hk.2).1
      rw [hold b hlt (by
        rcases d b with h2 | h2
        · exact h2
        · rw [h2] at hb; cases hb)]
      exact hk.2

/-- A callee that only makes memory, met from w on. -/
theorem St.call (h : St W w l) (h' : St w w' l') : St W w' (l' ++ l) := by
  obtain ⟨g, s, e⟩ := h.own
  obtain ⟨g', s', e'⟩ := h'.own
  have d : Hl.Disj g' g := fun b => by
    cases hb : g' b with
    | none => exact .inl rfl
    | some o =>
      right
      cases hk : g b with
      | none => rfl
      | some o' =>
        have h1 := (e' b o hb).1
        have h2 := (Array.getElem?_eq_some_iff.1 (e b o' hk).2).1
        omega
  refine ⟨h.below.trans (h'.below.mono h.below.size), Hl.or g' g, Star.join s' s d (Hl.sub_or_left _ _) (Hl.sub_or_right d), fun b o hb => ?_⟩
  unfold Hl.or at hb
  cases h1 : g' b with
  | some o' =>
    rw [h1] at hb
    cases hb
    exact ⟨Nat.le_trans h.below.size (e' b _ h1).1, (e' b _ h1).2⟩
  | none =>
    rw [h1] at hb
    have hk := e b o hb
    exact ⟨hk.1, by rw [h'.below.block b (Array.getElem?_eq_some_iff.1 hk.2).1]; exact hk.2⟩
theorem St.quiet (h : St W w l) (hb : Below w.heap.size w w') : St W w' l := h.call (l' := []) ⟨hb, fun _ => none, trivial, fun _ _ e => by cases e⟩

/-! ### one block -/
def Blk (b : Nat) (o : Obj) : As := fun g => g b = some o
theorem St.blk {b : Nat} {o : Obj} (h : St W w (Blk b o :: l)) : w.heap[b]? = some o := let ⟨_, p, e⟩ := h.get; (e b o p).2
theorem St.blk_base {b : Nat} {o : Obj} (h : St W w (Blk b o :: l)) : W.heap.size ≤ b := let ⟨_, p, e⟩ := h.get; (e b o p).1
theorem St.blk_lt {b : Nat} {o : Obj} (h : St W w (Blk b o :: l)) : b < w.heap.size := (Array.getElem?_eq_some_iff.1 h.blk).1
theorem St.blk_ne {b b' : Nat} {o o' : Obj} (h : St W w (Blk b o :: Blk b' o' :: l)) : b ≠ b' := by
  obtain ⟨hh, ⟨g, k, p, ⟨g', k', p', s', d', x', y'⟩, d, x, y⟩, e⟩ := h.own
  rintro rfl
  rcases d b with h1 | h1
  · rw [p] at h1; cases h1
  · rw [x' b o' p'] at h1; cases h1

theorem St.alloc (h : St W w l) (o : Obj) : St W (w.alloc o) (Blk w.heap.size o :: l) := by
  refine (h.emp (P := fun _ => True) trivial).update rfl rfl rfl (by simp) (fun g _ _ => ⟨fun b => if b = w.heap.size then some o else none, by simp [Blk], fun b o' hb => ?_, fun b hb _ => Below.heap_alloc w o b hb⟩)
  simp only at hb
  split at hb
  · rename_i hb'
    cases hb
    subst hb'
    exact ⟨by show (w.heap.push _)[w.heap.size]? = _; simp, .inr (Nat.le_refl _)⟩
  · cases hb

/-- The block's object is another one. -/
theorem St.setBlk {b : Nat} {o o' : Obj} (h : St W w (Blk b o :: l)) (ho : w'.os = w.os) (ht : w'.tape = w.tape) (hu : w'.output = w.output) (hz : w.heap.size ≤ w'.heap.size)
    (hb : w'.heap[b]? = some o') (hoth : ∀ k, k < w.heap.size → k ≠ b → w'.heap[k]? = w.heap[k]?) : St W w' (Blk b o' :: l) := by
  refine h.update ho ht hu hz (fun g p e => ⟨fun k => if k = b then some o' else none, by simp [Blk], fun k x hk => ?_, fun k hk hg => hoth k hk (fun ek => by rw [ek, p] at hg; cases hg)⟩)
  simp only at hk
  split at hk
  · rename_i hk'
    cases hk
    subst hk'
    exact ⟨hb, .inl (by rw [p]; simp)⟩
  · cases hk

theorem heap_setCell_same (w : World) (b i : Nat) (v : Value) {c : Array Value} {e : TypeId} {f : Nat × Nat} (h : w.heap[b]? = some (.cells c e f)) : (w.setCell ⟨b, i, none⟩ v).heap[b]? = some (.cells (c.setIfInBounds i v) e f) := by
  have hlt := lt_of_block h
  have h' : w.heap[b] = .cells c e f := by simpa [Array.getElem?_eq_getElem hlt] using h
  show (w.heap.modify b _)[b]? = _
  rw [Array.getElem?_eq_getElem (by simpa using hlt), Array.getElem_modify_self, h']
  rfl

theorem St.setCell {b i : Nat} {c : Array Value} {e : TypeId} {f : Nat × Nat} (h : St W w (Blk b (.cells c e f) :: l)) (v : Value) : St W (w.setCell ⟨b, i, none⟩ v) (Blk b (.cells (c.setIfInBounds i v) e f) :: l) :=
  h.setBlk rfl rfl rfl (by simp) (heap_setCell_same w b i v h.blk) (fun k _ hk => Below.heap_setCell w ⟨b, i, none⟩ v k hk)

theorem St.cell {b : Nat} {c : Array Value} {e : TypeId} {f : Nat × Nat} (h : St W w (Blk b (.cells c e f) :: l)) (i : Nat) : w.cell? ⟨b, i, none⟩ = c[i]? := by simp [World.cell?, h.blk]
theorem St.free {b : Nat} {c : Array Value} {e : TypeId} (h : St W w (Blk b (.cells c e (0, 0)) :: l)) (i : Nat) : w.frozen? ⟨b, i, none⟩ = false := by simp [World.frozen?, h.blk]

/-! ### an owned slice of one-cell elements -/
def Sl (E : TypeId) (v : Value) (xs : List Value) : As := fun g =>
  (∃ ao, v = .slice ao 0 0 ∧ xs = []) ∨ ∃ b cap cur, v = .slice (some ⟨b, 0, none⟩) xs.length cap ∧ g b = some (.cells cur E (0, 0)) ∧ xs.length ≤ cap ∧ cap ≤ maxLen ∧ cur.size = cap ∧ cur.toList.take xs.length = xs

variable {E : TypeId} {v : Value} {xs : List Value}
theorem Sl.nil (E : TypeId) (g : Hl) : Sl E (.slice none 0 0) [] g := .inl ⟨none, rfl, rfl⟩
theorem St.sl_none (h : St W w l) (E : TypeId) (ao : Option Addr) : St W w (Sl E (.slice ao 0 0) [] :: l) := h.emp (.inl ⟨ao, rfl, rfl⟩)
theorem St.sl_nil (h : St W w l) (E : TypeId) : St W w (Sl E (.slice none 0 0) [] :: l) := h.emp (Sl.nil E _)

theorem St.owns (h : St W w (Sl E v xs :: l)) (hv : ∀ ad, v = .slice (some ad) 0 0 → False) : w.ownsRow W.heap.size E 1 v xs.length xs := by
  obtain ⟨g, p, e⟩ := h.get
  refine ⟨by simp, ?_⟩
  rcases p with ⟨ao, rfl, rfl⟩ | ⟨b, cap, cur, rfl, hb, h1, h2, h3, h4⟩
  · cases ao with
    | none => exact .inl ⟨rfl, rfl⟩
    | some ad => exact (hv ad rfl).elim
  · exact .inr ⟨b, cap, cur, rfl, (e b _ hb).1, (e b _ hb).2, h1, h2, by simpa using h3, by simpa using h4⟩

theorem St.sl_of_blk {b cap : Nat} {cur : Array Value} (h : St W w (Blk b (.cells cur E (0, 0)) :: l)) (h1 : xs.length ≤ cap) (h2 : cap ≤ maxLen) (h3 : cur.size = cap) (h4 : cur.toList.take xs.length = xs) :
    St W w (Sl E (.slice (some ⟨b, 0, none⟩) xs.length cap) xs :: l) :=
  h.imp fun _ p => .inr ⟨b, cap, cur, rfl, p, h1, h2, h3, h4⟩

theorem ownsRow_sl {n : Nat} {base : Nat} (h : w.ownsRow base E 1 v n xs) (g : Hl) (hg : ∀ b, v.ownBlock = some b → g b = w.heap[b]?) : Sl E v xs g := by
  obtain ⟨h0, h1⟩ := h
  have h0' : xs.length = n := by simpa using h0
  rcases h1 with ⟨rfl, rfl⟩ | ⟨b, cap, cur, rfl, hb, hh, k1, k2, k3, k4⟩
  · exact .inl ⟨none, rfl, List.eq_nil_of_length_eq_zero h0'⟩
  · subst h0'
    exact .inr ⟨b, cap, cur, rfl, by rw [hg b rfl]; exact hh, k1, k2, by simpa using k3, by simpa using k4⟩

/-- Behind a law that ends in 'ownsRow' and 'grownBy' on the head's slice. -/
theorem St.sl_grown {v' : Value} {xs' : List Value} {n base : Nat} (h : St W w (Sl E v xs :: l)) (hv0 : ∀ ad, v = .slice (some ad) 0 0 → False) (ho : w'.ownsRow base E 1 v' n xs') (hg : w.grownBy w' v.ownBlock)
    (hat : v'.ownBlock = v.ownBlock ∨ v'.ownBlock = some w.heap.size) : St W w' (Sl E v' xs' :: l) := by
  refine h.update hg.os hg.tape hg.output hg.size (fun g p e => ⟨fun b => if v'.ownBlock = some b then w'.heap[b]? else none, ?_, fun b o hb => ?_, fun b hb hn => hg.block b hb (fun he => ?_)⟩)
  · exact ownsRow_sl ho _ (fun b hb => by simp [hb])
  · simp only at hb
    split at hb
    · rename_i hv
      refine ⟨hb, ?_⟩
      rcases hat with h1 | h1
      · left
        rw [h1] at hv
        rcases p with ⟨ao, rfl, rfl⟩ | ⟨b', cap, cur, rfl, hb', _⟩
        · cases ao with
          | none => cases hv
          | some ad => exact (hv0 ad rfl).elim
        · simp [Value.ownBlock] at hv
          subst hv
          rw [hb']
          simp
      · right
        rw [h1] at hv
        cases hv
        exact Nat.le_refl _
    · cases hb
  · rcases p with ⟨ao, rfl, rfl⟩ | ⟨b', cap, cur, rfl, hb', _⟩
    · cases ao with
      | none => cases he
      | some ad => exact (hv0 ad rfl).elim
    · simp [Value.ownBlock] at he
      subst he
      rw [hb'] at hn
      cases hn

end

theorem oneCell_of {xs : List Value} (h : ∀ u ∈ xs, u.oneCell' = true) : ∀ u ∈ xs, u.oneCell' = true := h

section
variable {P : Program} {W w : World} {E : TypeId} {v : Value} {xs : List Value} {l : List As}

/-- append, whatever is appended: at the run. -/
theorem St.append_run (h : St W w (Sl E v xs :: l)) (t ty : TypeId) (z : Value) (bytes : Nat) (ht : P.underlying t = some (.slice E)) (hinfo : (P.info? E).map (fun i => (i.zero, i.size, i.bytes)) = some (some z, 1, bytes))
    (hz : z.cells.size = 1) (hb : bytes ≤ 64) (a : Addr) (c : Nat) (news : List Value) (hnews : ∀ j u, news[j]? = some u → w.cell? (a.add j) = some u) (h1 : ∀ u ∈ news, u.oneCell' = true) (hn : xs.length + news.length ≤ 1099511627776) :
    ∃ v' w', (Builtin.append_ #[t, t] ty #[v, .slice (some a) news.length c]).run P w = .ok v' w' ∧ St W w' (Sl E v' (xs ++ news) :: l) := by
  obtain ⟨i, hi, hz0, hz1, hz2⟩ := info_parts hinfo
  have hbytes : (xs.length + news.length) * bytes ≤ 140737488355328 := by
    have := Nat.mul_le_mul hn hb
    omega
  by_cases hv : ∃ ad, v = .slice (some ad) 0 0
  · obtain ⟨ad, rfl⟩ := hv
    have hxs : xs = [] := by
      obtain ⟨g, p, e⟩ := h.get
      rcases p with ⟨_, _, h1⟩ | ⟨b, cap, cur, he, _⟩
      · exact h1
      · injection he with _ h1 _
        exact List.eq_nil_of_length_eq_zero h1.symm
    subst hxs
    by_cases hnn : news = []
    · subst hnn
      refine ⟨.slice (some ad) 0 0, w, ?_, by simpa using h⟩
      simp [Builtin.append_, run_underlying ht, sizeOf, typeInfo, hi, Builtin.lenOf, Builtin.firstCells, loadCells, loadCellsFrom, storeCells]
    · have hpos : 0 < news.length := by cases news with | nil => exact absurd rfl hnn | cons _ _ => simp
      have hr := run_append_grow (P := P) w t ty E i z ht hi hz0 ad 0 0 [] (by simp) (by intro j u hj; simp at hj) a news.length c news (by rw [hz1, Nat.mul_one]) hnews (by omega) (by simp at hn; omega) (growslice_fits (by omega) (by rw [hz2]; simpa using hbytes))
      have hge := grownCap_ge w.drew (0 + news.length) 0 E
      have hcm : grownCap w (0 + news.length) 0 E ≤ maxLen := grownCap_le_maxLen w (0 + news.length) 0 E (by unfold maxLen; simp at hn; omega)
      have hge := grownCap_ge w (0 + news.length) 0 E
      refine ⟨_, _, hr, ?_⟩
      generalize grownCap w (0 + news.length) 0 E = cap at hge hcm
      have hzs : (Builtin.zeroCells z.cells (cap - (0 + news.length))).size = cap - (0 + news.length) := by
        simp [Builtin.zeroCells, hz]
      have := (h.drop.drew.alloc (.cells (([] : List Value).toArray ++ news.toArray ++ Builtin.zeroCells z.cells (cap - (0 + news.length))) E)).sl_of_blk (cap := cap) (xs := news) (by omega) hcm (by simp only [Array.size_append, List.size_toArray, List.length_nil, hzs]; omega) (by simp)
      simpa using this
  have hv0 : ∀ ad, v = .slice (some ad) 0 0 → False := fun ad e => hv ⟨ad, e⟩
  obtain ⟨v', w', hr, h2, h3, _, h5⟩ := run_append_own_at (P := P) w W.heap.size t ty E i z 1 bytes ht hi hz0 hz1 hz2 hz (by omega) v xs.length xs (h.owns hv0) a news.length c news (by simp) hnews h1 (by unfold maxLen; omega) hbytes h.size
  exact ⟨v', w', hr, h.sl_grown hv0 h2 h3 h5⟩

/-- 'append(s, x)', x one element, laid in a new block first: at the operation. -/
theorem wpList_append1 {ops : Array Oper} {rest : List Oper} {o : Oper} {a : Act} {Q : Exit → Act → World → Prop} (hgd : o.guard = none) (s x : Operand) (t : TypeId)
    (ho : o.op = .call { callee := .builtin .append, args := #[s, x], argTypes := #[t, t] })
    (E : TypeId) (z : Value) (bytes : Nat) (ht : P.underlying t = some (.slice E)) (hinfo : (P.info? E).map (fun i => (i.zero, i.size, i.bytes)) = some (some z, 1, bytes)) (hz : z.cells.size = 1) (hb : bytes ≤ 64)
    (v : Value) (xs : List Value) (l : List As) (hs : a.eval s = v) (h : St W w (Sl E v xs :: l)) (ad : Addr) (c : Nat) (u : Value) (hx : a.eval x = .slice (some ad) 1 c) (hc : w.cell? ad = some u) (h1 : u.oneCell' = true) (hn : xs.length < 1099511627776)
    (hK : ∀ v' w', St W w' (Sl E v' (xs ++ [u]) :: l) → wpList P ops Q rest (a.put o.dst v') w') :
    wpList P ops Q (o :: rest) a w := by
  refine wpList_plain hgd fun K hK' => ?_
  obtain ⟨v', w', hr, h2⟩ := h.append_run (P := P) t o.type z bytes ht hinfo hz hb ad c [u] (fun j u' hj => by
    match j, hj with
    | 0, hj => simp at hj; subst hj; simpa [Addr.add] using hc) (by simpa using h1) (by simp; omega)
  unfold Oper.wp execOp
  simp only [List.length_cons, List.length_nil, Nat.zero_add] at hr
  simp only [ho, resolve, invoke, builtin, Sem.run_bind, Sem.run_pure, Result.andThen_ok, List.map_toArray, List.map_cons, List.map_nil, hs, hx, hr]
  exact hK' _ _ (hK v' w' h2)

end

/-! ### a slice that is read -/
def Rd (w : World) (v : Value) (xs : List Value) : Prop := ∃ a cap, v = .slice a xs.length cap ∧ xs.length ≤ cap ∧ (xs = [] ∨ ∃ b off, a = some ⟨b, off, none⟩ ∧ ∀ j u, xs[j]? = some u → w.cell? ⟨b, off + j, none⟩ = some u)

theorem Rd.below {w w' : World} {v : Value} {xs : List Value} (h : Rd w v xs) (hb : Below w.heap.size w w') : Rd w' v xs := by
  obtain ⟨a, cap, rfl, hc, h⟩ := h
  refine ⟨a, cap, rfl, hc, ?_⟩
  rcases h with h | ⟨b, off, rfl, h⟩
  · exact .inl h
  · exact .inr ⟨b, off, rfl, fun j u hj => (hb.cell (World.block_lt_of_cell? w _ (h j u hj))).trans (h j u hj)⟩

theorem Rd.st {W w : World} {v : Value} {xs : List Value} {l : List As} (h : Rd W v xs) (hs : St W w l) : Rd w v xs := h.below hs.below

theorem Rd.drew {w : World} {v : Value} {xs : List Value} (h : Rd w v xs) : Rd w.drew v xs := h
theorem Rd.drewN {w : World} {v : Value} {xs : List Value} (h : Rd w v xs) (n : Nat) : Rd (w.drewN n) v xs := h

theorem St.rd {W w : World} {E : TypeId} {v : Value} {xs : List Value} {l : List As} (h : St W w (Sl E v xs :: l)) : Rd w v xs := by
  obtain ⟨g, p, e⟩ := h.get
  rcases p with ⟨ao, rfl, rfl⟩ | ⟨b, cap, cur, rfl, hb, h1, h2, h3, h4⟩
  · exact ⟨ao, 0, rfl, by simp, .inl rfl⟩
  · refine ⟨some ⟨b, 0, none⟩, cap, rfl, h1, .inr ⟨b, 0, rfl, fun j u hj => ?_⟩⟩
    have hh := (e b _ hb).2
    simp only [World.cell?, hh, Nat.zero_add]
    rw [← h4, List.getElem?_take] at hj
    split at hj
    · simpa using hj
    · cases hj

theorem Rd.nil (w : World) : Rd w (.slice none 0 0) [] := ⟨none, 0, rfl, by simp, .inl rfl⟩

/-- At a place: the address, and the cell there. -/
theorem Rd.at {w : World} {a : Option Addr} {n cap : Nat} {xs : List Value} (h : Rd w (.slice a n cap) xs) (hne : xs ≠ []) : ∃ b off, a = some ⟨b, off, none⟩ ∧ n = xs.length ∧ ∀ j u, xs[j]? = some u → w.cell? ⟨b, off + j, none⟩ = some u := by
  obtain ⟨a', cap', he, hc, h⟩ := h
  cases he
  rcases h with h | ⟨b, off, rfl, h⟩
  · exact absurd h hne
  · exact ⟨b, off, rfl, rfl, h⟩

end Go.Proofs.Ytneibkemhmneoaa
