/- Contracts: the reference's unit propagation. -/
import Derived.Test.YtneibkemhmneoaaFit
import Derived.Test.YtneibkemhmneoaaUp
namespace Go.Proofs.Ytneibkemhmneoaa
set_option linter.unusedVariables false
set_option linter.unusedSimpArgs false
open Go.RowKit

theorem zero4 (w : World) : (zeroValue 4).run Try.prog w = .ok (.bool false) w := by kernel_rfl
theorem zero29 (w : World) : (zeroValue 29).run Try.prog w = .ok (.slice none 0 0) w := by kernel_rfl

/-- A map[int]bool that holds true at the members of S, and nothing else. -/
def KB (b : Nat) (S : Int → Bool) : As := Mp Try.prog b (fun x => if S x = true then some (.bool true) else none)

/-- A number that a literal may be. -/
def Lt40 (x : Int) : Prop := -1099511627776 ≤ x ∧ x ≤ 1099511627776

section
variable {W w : World} {b : Nat} {S : Int → Bool} {l : List As}
theorem St.kbLook (h : St W w (KB b S :: l)) {x : Int} (hx : Lt40 x) {r : Bool} (hr : S x = r) : (Instr.lookup 63 (.map (some b)) (.int .i64 x) false).run Try.prog w = .ok (.bool r) w := by
  have := St.look (E := 4) h Try.underlying3 Try.underlying63 (zero4 w) (x := x) (by have := hx.1; omega) (by have := hx.2; omega)
  rw [this, ← hr]
  cases S x <;> rfl
theorem KB.congr {S' : Int → Bool} (h : St W w (KB b S :: l)) (e : ∀ x, S x = S' x) : St W w (KB b S' :: l) := by
  have : S = S' := funext e
  rw [← this]; exact h
end

def Lits (N : Int) (c : List Int) : Prop := ∀ x ∈ c, x ≠ 0 ∧ -N ≤ x ∧ x ≤ N

theorem Lt40.neg {x : Int} (h : Lt40 x) : Lt40 (-x) := ⟨by have := h.2; omega, by have := h.1; omega⟩

set_option maxHeartbeats 2000000 in
theorem runit_any (b : Nat) (S : Int → Bool) (v : Value) (c : List Int) (W w : World) (l : List As) (hst : St W w (KB b S :: l)) (hv : RdI w v c) (hN : ∀ x ∈ c, Lt40 x) (hmax : (c.length : Int) ≤ 1000000000) :
    Calls Try.prog 71 #[.map (some b), v] w fun e w' => e = .returned (.tuple #[.int .i64 (refUnit S c 0).1, .bool (refUnit S c 0).2]) ∧ w = w' := by
  obtain ⟨a, cap, rfl, hcap, hcell⟩ := hv.shape
  have HC := Hd.mk hcell
  have HN := Hd.mk hN
  have HS := Hd.mk hst
  clear hcell hcap hv hN hst
  go_enter Try.func71, Try.ntmps71
  go_wp2
  go_loop [6, 7] (fun t i => ∃ (k : Nat) (last : Int), k ≤ c.length ∧ i = .int .i64 k ∧ t = .int .i64 last ∧ Hd (refUnit S c 0 = refUnit S (c.drop k) last)) (fun _ i => c.length - (intOf i).toNat)
  case atStart => exact ⟨0, 0, Nat.zero_le _, rfl, rfl, ⟨by simp⟩⟩
  case round =>
    obtain ⟨k, last, hk, rfl, rfl, hf⟩ := hrel
    by_cases hlt : k < c.length
    · obtain ⟨bb, off, rfl, hcell⟩ := HC.out k hlt
      have hin := HN.out _ (List.getElem_mem hlt)
      have hd := Hd.mk (refUnit_drop (k := S) hlt last)
      generalize c[k] = x at *
      obtain ⟨n1, n2⟩ := hin
      by_cases h1 : S (-x) = true
      · have hl1 := HS.out.kbLook (x := -x) ⟨by omega, by omega⟩ h1
        have H1 := Hd.mk h1
        clear h1
        go_wp2
        go_round
        case rel => exact ⟨k + 1, last, by omega, by go_num, rfl, ⟨by rw [hf.out, hd.out, if_pos (.inl H1.out)]⟩⟩
        case measure => simp [intOf]; omega
      · have h1' : S (-x) = false := by simpa using h1
        have hl1 := HS.out.kbLook (x := -x) ⟨by omega, by omega⟩ h1'
        by_cases h2 : x = last
        · have hb : (x == last) = true := by simp [h2]
          have H2 := Hd.mk h2
          clear h1 h1' h2
          go_wp2
          go_round
          case rel => exact ⟨k + 1, last, by omega, by go_num, rfl, ⟨by rw [hf.out, hd.out, if_pos (.inr H2.out)]⟩⟩
          case measure => simp [intOf]; omega
        · have hb : (x == last) = false := by simp [h2]
          have hr := Hd.mk (show refUnit S c 0 = if S x = true ∨ last ≠ 0 then (0, true) else refUnit S (c.drop (k + 1)) x by rw [hf.out, hd.out, if_neg (by simp [h1', h2])])
          clear h1 h1' h2
          by_cases h3 : S x = true
          · have hl3 := HS.out.kbLook (x := x) ⟨by omega, by omega⟩ h3
            have hr2 := Hd.mk (show refUnit S c 0 = (0, true) by rw [hr.out, if_pos (.inl h3)])
            clear h3
            go_wp2
            go_ret2
            exact ⟨by rw [hr2.out]; rfl, rfl⟩
          · have h3' : S x = false := by simpa using h3
            have hl3 := HS.out.kbLook (x := x) ⟨by omega, by omega⟩ h3'
            by_cases h4 : last = 0
            · have hb4 : (last != 0) = false := by simp [h4]
              have hr2 := Hd.mk (show refUnit S c 0 = refUnit S (c.drop (k + 1)) x by rw [hr.out, if_neg (by simp [h3', h4])])
              clear h3 h3' h4
              go_wp2
              go_round
              case rel => exact ⟨k + 1, x, by omega, by go_num, rfl, hr2⟩
              case measure => simp [intOf]; omega
            · have hb4 : (last != 0) = true := by simp [h4]
              have hr2 := Hd.mk (show refUnit S c 0 = (0, true) by rw [hr.out, if_pos (.inr h4)])
              clear h3 h3' h4
              go_wp2
              go_ret2
              exact ⟨by rw [hr2.out]; rfl, rfl⟩
    · have hr := Hd.mk (show refUnit S c 0 = (last, last != 0) by rw [hf.out, show c.drop k = [] from List.drop_eq_nil_of_le (by omega)]; rfl)
      go_wp2
      go_ret2
      exact ⟨by rw [hr.out]; rfl, rfl⟩

end Go.Proofs.Ytneibkemhmneoaa
