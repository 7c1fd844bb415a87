/- Words of this claim: an owned map[int][]int whose elements are owned slices ('WM'); some of its rows may be taken out. -/
import Derived.Test.YtneibkemhmneoaaNo
namespace Go.Proofs.Ytneibkemhmneoaa
set_option linter.unusedVariables false
set_option linter.unusedSimpArgs false
open Go.RowKit

def WM (b : Nat) (ex : Int → Bool) (wl : Int → List Int) : As := fun g => ∃ (ks : List Int) (vf : Int → Value), (ks.Nodup ∧ (∀ k, k ∉ ks → ex k = false → wl k = []) ∧ ∀ k ∈ ks, Lt40 k) ∧
  Star (Mp Try.prog b (fun k => if k ∈ ks then some (vf k) else none) :: (ks.filter (fun k => !ex k)).map (fun k => Sl 3 (vf k) (ints (wl k)))) g

theorem filter_out {ks : List Int} (hn : ks.Nodup) {k : Int} (hk : k ∈ ks) {p : Int → Bool} (hp : p k = true) : (ks.filter p).Perm (k :: ks.filter (fun y => p y && !decide (y = k))) := by
  induction ks with
  | nil => cases hk
  | cons a ks ih =>
    obtain ⟨h1, h2⟩ := List.nodup_cons.1 hn
    by_cases e : a = k
    · subst e
      have hf : ks.filter p = ks.filter (fun y => p y && !decide (y = a)) := List.filter_congr (fun y hy => by
        have : y ≠ a := fun e => h1 (e ▸ hy)
        simp [this])
      simp only [List.filter_cons, hp, if_true, decide_true, Bool.not_true, Bool.and_false, Bool.false_eq_true, if_false]
      rw [hf]
    · have hk' : k ∈ ks := (List.mem_cons.1 hk).resolve_left (fun e' => e e'.symm)
      have := ih h2 hk'
      by_cases hpa : p a = true
      · simp only [List.filter_cons, hpa, if_true, e, decide_false, Bool.not_false, Bool.and_true]
        exact (this.cons a).trans (.swap _ _ _)
      · simp only [List.filter_cons, hpa, e, Bool.false_eq_true, if_false, Bool.false_and]
        exact this

section
variable {W w : World} {b : Nat} {ex : Int → Bool} {wl : Int → List Int} {l : List As}

theorem St.wmOpen (h : St W w (WM b ex wl :: l)) : ∃ (ks : List Int) (vf : Int → Value), (ks.Nodup ∧ (∀ k, k ∉ ks → ex k = false → wl k = []) ∧ ∀ k ∈ ks, Lt40 k) ∧
    St W w (Mp Try.prog b (fun k => if k ∈ ks then some (vf k) else none) :: ((ks.filter (fun k => !ex k)).map (fun k => Sl 3 (vf k) (ints (wl k))) ++ l)) := by
  obtain ⟨ks, h⟩ := St.ex h
  obtain ⟨vf, h⟩ := St.ex h
  obtain ⟨hk, h⟩ := St.and h
  exact ⟨ks, vf, hk, h.open (fun g p => p)⟩

theorem St.wmShut {ks : List Int} {vf : Int → Value} (hk : ks.Nodup ∧ (∀ k, k ∉ ks → ex k = false → wl k = []) ∧ ∀ k ∈ ks, Lt40 k)
    (h : St W w (Mp Try.prog b (fun k => if k ∈ ks then some (vf k) else none) :: ((ks.filter (fun k => !ex k)).map (fun k => Sl 3 (vf k) (ints (wl k))) ++ l))) : St W w (WM b ex wl :: l) :=
  St.close (ps := Mp Try.prog b (fun k => if k ∈ ks then some (vf k) else none) :: (ks.filter (fun k => !ex k)).map (fun k => Sl 3 (vf k) (ints (wl k)))) h (fun g p => ⟨ks, vf, hk, p⟩)

/-- A row is looked up, and taken out. -/
theorem St.wmOut (h : St W w (WM b ex wl :: l)) {k : Int} (hk : ex k = false) (hx : Lt40 k) : ∃ u, (Instr.lookup 62 (.map (some b)) (.int .i64 k) false).run Try.prog w = .ok u w ∧
    St W w (Sl 3 u (ints (wl k)) :: WM b (fun y => decide (y = k) || ex y) wl :: l) := by
  obtain ⟨ks, vf, ⟨hn, h0, hl⟩, h⟩ := h.wmOpen
  have hlook := St.look (E := 29) h Try.underlying3 Try.underlying62 (zero29 w) (x := k) (by have := hx.1; omega) (by have := hx.2; omega)
  refine ⟨_, hlook, ?_⟩
  by_cases hm : k ∈ ks
  · simp only [hm, if_true, Option.getD_some]
    have hp : ((ks.filter (fun y => !ex y)).map (fun y => Sl 3 (vf y) (ints (wl y)))).Perm (Sl 3 (vf k) (ints (wl k)) :: (ks.filter (fun y => !(decide (y = k) || ex y))).map (fun y => Sl 3 (vf y) (ints (wl y)))) := by
      have := (filter_out hn hm (p := fun y => !ex y) (by simp [hk])).map (fun y => Sl 3 (vf y) (ints (wl y)))
      have hf : (ks.filter (fun y => !ex y && !decide (y = k))) = ks.filter (fun y => !(decide (y = k) || ex y)) := List.filter_congr (fun y _ => by cases ex y <;> cases hd : decide (y = k) <;> rfl)
      rw [hf] at this
      exact this
    have h2 := h.perm ((List.Perm.append_right l hp).cons _)
    refine St.p1 (St.wmShut (ks := ks) (vf := vf) ⟨hn, fun y hy he => h0 y hy ?_, hl⟩ ?_)
    · simp only [Bool.or_eq_false_iff] at he; exact he.2
    · exact (St.p1 h2).perm ((List.Perm.swap _ _ _).trans (List.Perm.cons _ List.perm_middle.symm))
  · simp only [hm, if_false, Option.getD_none]
    rw [h0 k hm hk]
    have hf : (ks.filter (fun y => !(decide (y = k) || ex y))) = ks.filter (fun y => !ex y) := List.filter_congr (fun y hy => by
      have : y ≠ k := fun e => hm (e ▸ hy)
      simp [this])
    refine St.sl_nil (St.wmShut (ks := ks) (vf := vf) ⟨hn, fun y hy he => h0 y hy ?_, hl⟩ ?_) 3
    · simp only [Bool.or_eq_false_iff] at he; exact he.2
    · rw [hf]; exact h

/-- A row is stored. -/
theorem St.wmIn {k : Int} {u : Value} {js : List Int} (h : St W w (Sl 3 u (ints js) :: WM b (fun y => decide (y = k) || ex y) wl :: l)) (hk : ex k = false) (hx : Lt40 k) :
    ∃ w', (Instr.mapUpdate 62 (.map (some b)) (.int .i64 k) u).run Try.prog w = .ok () w' ∧ St W w' (WM b ex (fun y => if y = k then js else wl y) :: l) := by
  obtain ⟨ks, vf, ⟨hn, h0, hl⟩, h1⟩ := h.p1.wmOpen
  obtain ⟨w', hrun, h2⟩ := h1.store (E := 29) Try.underlying3 Try.underlying62 (x := k) (by have := hx.1; omega) (by have := hx.2; omega) (fun qs hq hqs => by
    have := nodup_range (N := 1099511627776) hq (fun y hy => by
      have h3 := hqs y hy
      by_cases hy2 : y ∈ ks
      · exact hl y hy2
      · simp [hy2] at h3)
    unfold maxLen
    omega) u
  refine ⟨w', hrun, ?_⟩
  -- the rows, the new one in front
  have h3 : St W w' (Mp Try.prog b (fun y => if y = k then some u else if y ∈ ks then some (vf y) else none) :: Sl 3 u (ints js) :: ((ks.filter (fun y => !(decide (y = k) || ex y))).map (fun y => Sl 3 (vf y) (ints (wl y))) ++ l)) :=
    h2.perm (List.Perm.cons _ List.perm_middle)
  have hrows : (ks.filter (fun y => !(decide (y = k) || ex y))).map (fun y => Sl 3 (vf y) (ints (wl y))) = (ks.filter (fun y => !(decide (y = k) || ex y))).map (fun y => Sl 3 (if y = k then u else vf y) (ints (if y = k then js else wl y))) := by
    refine List.map_congr_left (fun y hy => ?_)
    have := (List.mem_filter.1 hy).2
    have hne : y ≠ k := fun e => by simp [e] at this
    simp [hne]
  rw [hrows] at h3
  by_cases hm : k ∈ ks
  · refine St.wmShut (ks := ks) (vf := fun y => if y = k then u else vf y) ⟨hn, fun y hy he => ?_, hl⟩ ?_
    · have : y ≠ k := fun e => hy (e ▸ hm)
      simp only [this, if_false]
      exact h0 y hy (by simp [this, he])
    · have hfun : (fun y => if y = k then some u else if y ∈ ks then some (vf y) else none) = (fun y => if y ∈ ks then some (if y = k then u else vf y) else none) := by
        funext y
        by_cases e : y = k
        · subst e; simp [hm]
        · simp [e]
      rw [hfun] at h3
      have hp : ((ks.filter (fun y => !ex y)).map (fun y => Sl 3 (if y = k then u else vf y) (ints (if y = k then js else wl y)))).Perm (Sl 3 u (ints js) :: (ks.filter (fun y => !(decide (y = k) || ex y))).map (fun y => Sl 3 (if y = k then u else vf y) (ints (if y = k then js else wl y)))) := by
        have := (filter_out hn hm (p := fun y => !ex y) (by simp [hk])).map (fun y => Sl 3 (if y = k then u else vf y) (ints (if y = k then js else wl y)))
        have hf : (ks.filter (fun y => !ex y && !decide (y = k))) = ks.filter (fun y => !(decide (y = k) || ex y)) := List.filter_congr (fun y _ => by cases ex y <;> cases hd : decide (y = k) <;> rfl)
        rw [hf] at this
        simpa using this
      exact h3.perm ((List.Perm.append_right l hp.symm).cons _)
  · refine St.wmShut (ks := k :: ks) (vf := fun y => if y = k then u else vf y) ⟨List.nodup_cons.2 ⟨hm, hn⟩, fun y hy he => ?_, fun y hy => ?_⟩ ?_
    · have h4 : y ≠ k := fun e => hy (e ▸ List.mem_cons_self)
      have h5 : y ∉ ks := fun e => hy (List.mem_cons_of_mem _ e)
      simp only [h4, if_false]
      exact h0 y h5 (by simp [h4, he])
    · rcases List.mem_cons.1 hy with rfl | hy
      · exact hx
      · exact hl y hy
    · have hfun : (fun y => if y = k then some u else if y ∈ ks then some (vf y) else none) = (fun y => if y ∈ k :: ks then some (if y = k then u else vf y) else none) := by
        funext y
        by_cases e : y = k
        · subst e; simp
        · simp [e]
      rw [hfun] at h3
      have hf : ((k :: ks).filter (fun y => !ex y)) = k :: ks.filter (fun y => !(decide (y = k) || ex y)) := by
        rw [List.filter_cons, if_pos (by simp [hk])]
        refine congrArg (fun t => k :: t) (List.filter_congr (fun y hy => ?_))
        have : y ≠ k := fun e => hm (e ▸ hy)
        simp [this]
      have hmap : ((k :: ks).filter (fun y => !ex y)).map (fun y => Sl 3 (if y = k then u else vf y) (ints (if y = k then js else wl y))) =
          Sl 3 u (ints js) :: (ks.filter (fun y => !(decide (y = k) || ex y))).map (fun y => Sl 3 (if y = k then u else vf y) (ints (if y = k then js else wl y))) := by
        rw [hf, List.map_cons]
        simp only [if_true]
      rw [hmap]
      exact h3

theorem St.wmMade (h : St W w (Blk b (.map #[] 0) :: l)) : St W w (WM b (fun _ => false) (fun _ => []) :: l) :=
  St.wmShut (ks := []) (vf := fun _ => .slice none 0 0) ⟨List.nodup_nil, by simp, by simp⟩ (by simpa using h.made (P := Try.prog))
end
end Go.Proofs.Ytneibkemhmneoaa
