/- Words of this claim: an owned slice of owned slices of ints ('LL'). -/
import Derived.Test.YtneibkemhmneoaaW4
namespace Go.Proofs.Ytneibkemhmneoaa
set_option linter.unusedVariables false
set_option linter.unusedSimpArgs false
open Go.RowKit

theorem Star.mem : ∀ {l : List As} {h : Hl} {P : As}, Star l h → P ∈ l → ∃ g, P g ∧ Hl.Sub g h
  | [], _, _, _, hp => by cases hp
  | Q :: l, h, P, ⟨g, k, p, s, _, a, b⟩, hp => by
    rcases List.mem_cons.1 hp with rfl | hp
    · exact ⟨g, p, a⟩
    · obtain ⟨g', p', a'⟩ := Star.mem s hp
      exact ⟨g', p', a'.trans b⟩

theorem St.getMem {W w : World} {l : List As} {P : As} (h : St W w l) (hp : P ∈ l) : ∃ g, P g ∧ ∀ b o, g b = some o → W.heap.size ≤ b ∧ w.heap[b]? = some o := by
  obtain ⟨h1, s, e⟩ := h.own
  obtain ⟨g, p, a⟩ := s.mem hp
  exact ⟨g, p, fun b o hb => e b o (a b o hb)⟩

theorem Sl.rd {w : World} {E : TypeId} {v : Value} {xs : List Value} {g : Hl} (p : Sl E v xs g) (e : ∀ b o, g b = some o → w.heap[b]? = some o) : Rd w v xs := by
  rcases p with ⟨ao, rfl, rfl⟩ | ⟨b, cap, cur, rfl, hb, h1, h2, h3, h4⟩
  · exact ⟨ao, 0, rfl, by simp, .inl rfl⟩
  · refine ⟨some ⟨b, 0, none⟩, cap, rfl, h1, .inr ⟨b, 0, rfl, fun j u hj => ?_⟩⟩
    have hh := e b _ hb
    simp only [World.cell?, hh, Nat.zero_add]
    rw [← h4, List.getElem?_take] at hj
    split at hj
    · simpa using hj
    · cases hj

theorem St.slOne {W w : World} {E : TypeId} {v : Value} {xs : List Value} {l : List As} (h : St W w (Sl E v xs :: l)) : v.oneCell' = true := by
  obtain ⟨a, cap, rfl, _⟩ := h.rd
  rfl

theorem St.shape {W w : World} {E : TypeId} {v : Value} {xs : List Value} {l : List As} (h : St W w (Sl E v xs :: l)) : ∃ a n c, v = .slice a n c := by
  obtain ⟨a, cap, rfl, _⟩ := h.rd
  exact ⟨_, _, _, rfl⟩

/-- The rows, one assertion each. -/
def rowsI : List Value → List (List Int) → List As
  | u :: vs, c :: css => Sl 3 u (ints c) :: rowsI vs css
  | _, _ => []

theorem rowsI_append : ∀ (vs : List Value) (css : List (List Int)) (u : Value) (c : List Int), vs.length = css.length → rowsI (vs ++ [u]) (css ++ [c]) = rowsI vs css ++ [Sl 3 u (ints c)]
  | [], [], _, _, _ => rfl
  | v :: vs, d :: css, u, c, h => by
    simp only [List.cons_append, rowsI]
    rw [rowsI_append vs css u c (by simpa using h)]

theorem rowsI_mem : ∀ {vs : List Value} {css : List (List Int)} {j : Nat} {u : Value} {c : List Int}, vs[j]? = some u → css[j]? = some c → Sl 3 u (ints c) ∈ rowsI vs css
  | [], _, _, _, _, h, _ => by simp at h
  | _ :: _, [], _, _, _, _, h => by simp at h
  | v :: vs, d :: css, 0, u, c, h, h' => by
    simp at h h'
    subst h; subst h'
    exact List.mem_cons_self
  | v :: vs, d :: css, j + 1, u, c, h, h' => List.mem_cons_of_mem _ (rowsI_mem (j := j) (by simpa using h) (by simpa using h'))

def LL (v : Value) (css : List (List Int)) : As := fun g => ∃ vs, vs.length = css.length ∧ Star (Sl 29 v vs :: rowsI vs css) g

section
variable {W w : World} {v : Value} {css : List (List Int)} {l : List As}

theorem St.llOpen (h : St W w (LL v css :: l)) : ∃ vs, vs.length = css.length ∧ St W w (Sl 29 v vs :: (rowsI vs css ++ l)) := by
  obtain ⟨vs, h⟩ := St.ex h
  obtain ⟨hl, h⟩ := St.and h
  exact ⟨vs, hl, h.open (fun g p => p)⟩
theorem St.llShut {vs : List Value} (hl : vs.length = css.length) (h : St W w (Sl 29 v vs :: (rowsI vs css ++ l))) : St W w (LL v css :: l) :=
  St.close (ps := Sl 29 v vs :: rowsI vs css) h (fun g p => ⟨vs, hl, p⟩)
theorem St.ll_nil (h : St W w l) : St W w (LL (.slice none 0 0) [] :: l) := St.llShut (vs := []) rfl (by simpa [rowsI] using h.sl_nil 29)

theorem St.rdL (h : St W w (LL v css :: l)) : RdL w v css := by
  obtain ⟨vs, hl, h⟩ := h.llOpen
  refine ⟨vs, h.rd, hl, fun j u c hu hc => ?_⟩
  obtain ⟨g, p, e⟩ := h.getMem (P := Sl 3 u (ints c)) (List.mem_cons_of_mem _ (List.mem_append_left _ (rowsI_mem hu hc)))
  exact Sl.rd p (fun b o hb => (e b o hb).2)

theorem St.llShape (h : St W w (LL v css :: l)) : ∃ a n c, v = .slice a n c := by
  obtain ⟨vs, _, h⟩ := h.llOpen
  exact h.shape

/-- Behind an append of a row. -/
theorem St.llAppend {vs : List Value} {v' u : Value} {c : List Int} (hl : vs.length = css.length) (h : St W w (Sl 29 v' (vs ++ [u]) :: (rowsI vs css ++ (Sl 3 u (ints c) :: l)))) : St W w (LL v' (css ++ [c]) :: l) := by
  refine St.llShut (vs := vs ++ [u]) (by simp [hl]) ?_
  rw [rowsI_append vs css u c hl]
  simpa using h

theorem St.mid {P : As} {A B : List As} (h : St W w (A ++ P :: B)) : St W w (P :: (A ++ B)) := h.perm List.perm_middle
theorem St.toMid {P : As} {A B : List As} (h : St W w (P :: (A ++ B))) : St W w (A ++ P :: B) := h.perm List.perm_middle.symm
theorem St.p1mid {P Q : As} {A B : List As} (h : St W w (Q :: (A ++ P :: B))) : St W w (P :: Q :: (A ++ B)) := h.perm ((List.Perm.cons _ List.perm_middle).trans (.swap _ _ _))
theorem St.p1toMid {P Q : As} {A B : List As} (h : St W w (P :: Q :: (A ++ B))) : St W w (Q :: (A ++ P :: B)) := h.perm ((List.Perm.swap _ _ _).trans (List.Perm.cons _ List.perm_middle.symm))
end

theorem take_succ_get {α : Type} {x : List α} {k : Nat} (hk : k < x.length) : x.take (k + 1) = x.take k ++ [x[k]] := List.take_succ_eq_append_getElem hk

set_option maxHeartbeats 1000000 in
theorem copyLists_any (v : Value) (css : List (List Int)) (w : World) (hv : RdL w v css) (hmax : (css.length : Int) ≤ 1000000000) (hmx : ∀ c ∈ css, (c.length : Int) ≤ 1000000000) :
    Calls Try.prog 12 #[v] w fun e w' => ∃ v', e = .returned v' ∧ St w w' [LL v' css] := by
  obtain ⟨a, cap, rfl, hcap, hcell⟩ := hv.shape
  have HC := Hd.mk hcell
  have HM := Hd.mk hmx
  clear hcell hcap hv hmx
  go_enter Try.func12, Try.ntmps12
  go_wp2
  go_loopw [3, 4] (fun v i wr => ∃ k : Nat, k ≤ css.length ∧ i = .int .i64 k ∧ Hd (St w wr [LL v (css.take k)])) (fun _ i _ => css.length - (intOf i).toNat)
  case atStart => exact ⟨0, Nat.zero_le _, rfl, ⟨(St.refl w).ll_nil⟩⟩
  case round =>
    obtain ⟨k, hk, rfl, hst⟩ := hrel
    by_cases hlt : k < css.length
    · obtain ⟨b, off, u, rfl, hcell0, hu0⟩ := HC.out k hlt
      have hcell := (hst.out.below.cell (World.block_lt_of_cell? w _ hcell0)).trans hcell0
      have hu := Hd.mk (hu0.below hst.out.below)
      clear hcell0 hu0
      have hlen := HM.out _ (List.getElem_mem hlt)
      have hs := Hd.mk (take_succ_get hlt)
      go_wp2_with (first
        | (go_at_call 18; refine (copyInts_any _ _ _ hu.out hlen).mono ?_; rintro e w2 ⟨v', rfl, hc⟩; obtain ⟨a2, cap2, rfl, _⟩ := hc.rd; obtain ⟨vs, hl, hst2⟩ := (hst.out.call hc).p1.llOpen; have hst2' := Hd.mk hst2; have hb1 := Hd.mk (show vs.length < 1099511627776 by rw [hl, List.length_take]; omega); have hl' := Hd.mk hl; clear hc hst2 hl)
        | (at_builtin; go_must (refine wpList_append1 rfl _ _ 23 rfl 29 (.slice none 0 0) 24 Try.underlying23 info29 rfl (by decide) _ _ _ rfl ((hst2'.out.alloc _).p1) _ _ (.slice a2 (ints css[k]).length cap2) rfl (by simp) rfl hb1.out ?_); intro v2 w1 hst1; have hst1' := Hd.mk (St.llAppend hl'.out hst1.p1.drop); clear hst1))
      go_roundw
      case rel => exact ⟨k + 1, by omega, by go_num, ⟨by rw [hs.out]; exact hst1'.out⟩⟩
      case measure => simp [intOf]; omega
    · go_wp2
      go_ret
      refine ⟨_, rfl, ?_⟩
      have h := hst.out
      rw [List.take_of_length_le (by omega)] at h
      exact h

end Go.Proofs.Ytneibkemhmneoaa
