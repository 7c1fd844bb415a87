/- Contract: unit of the propagation. -/
import Derived.Test.YtneibkemhmneoaaPs
namespace Go.Proofs.Ytneibkemhmneoaa
set_option linter.unusedVariables false
set_option linter.unusedSimpArgs false
open Go.RowKit Go.Conc

/-- The first literal that is not false is made known; false: there is none. -/
def pUnit (tr : List Int) : List Int → Bool × List Int
  | [] => (false, tr)
  | a :: c => if -a ∈ tr then pUnit tr c else (true, addL tr a)

theorem pUnit_drop {tr c : List Int} {k : Nat} (hk : k < c.length) : pUnit tr (c.drop k) = if -c[k] ∈ tr then pUnit tr (c.drop (k + 1)) else (true, addL tr c[k]) := by
  rw [List.drop_eq_getElem_cons hk, pUnit]

theorem pUnit_spec {tr : List Int} : ∀ (c : List Int), (pUnit tr c = (false, tr) ∧ ∀ a ∈ c, -a ∈ tr) ∨ (∃ a ∈ c, -a ∉ tr ∧ pUnit tr c = (true, addL tr a))
  | [] => .inl ⟨rfl, by simp⟩
  | a :: c => by
    by_cases h : -a ∈ tr
    · rcases pUnit_spec c with ⟨e, h2⟩ | ⟨x, hx, h2, e⟩
      · exact .inl ⟨by rw [pUnit, if_pos h, e], fun y hy => (List.mem_cons.1 hy).elim (fun e => e ▸ h) (h2 y)⟩
      · exact .inr ⟨x, List.mem_cons_of_mem _ hx, h2, by rw [pUnit, if_pos h, e]⟩
    · exact .inr ⟨a, List.mem_cons_self, h, by rw [pUnit, if_neg h]⟩

section
variable (x bk bc : Nat) (v0 v1 v2 : Value) (cap : Nat) (tr : List Int) (dn : Nat) (css : List (List Int)) (W w : World) (l : List As)

set_option maxHeartbeats 1000000 in
theorem punit_any (hst : St W w (PS x bk bc v0 v1 v2 cap tr dn :: LL v0 css :: l)) (n : Nat) (c : List Int) (hc : css[n]? = some c) (hlit : ∀ y ∈ c, Lt40 y) (hlt : ∀ y ∈ tr, Lt40 y) (hdn : dn ≤ tr.length) (hroom : tr.length < cap) (hcl : (c.length : Int) ≤ 1000000000) (hcs : (css.length : Int) ≤ 1000000000) :
    Calls Try.prog 68 #[.pointer (some ⟨x, 0, none⟩), .int .i64 n] w fun e w' => e = .returned (.bool (pUnit tr c).1) ∧ St W w' (PS x bk bc v0 v1 v2 cap (pUnit tr c).2 dn :: LL v0 css :: l) := by
  obtain ⟨c0, c1, c2, c3, c4, hf, hcc⟩ := hst.psCells
  obtain ⟨a0, cp0, rfl, hcap0, hrow⟩ := hst.p1.rdL.shape
  have hn := (List.getElem?_eq_some_iff.1 hc).1
  obtain ⟨b0, off0, u, rfl, hu, hru⟩ := hrow n hn
  have hcn : css[n] = c := by have := List.getElem?_eq_getElem hn; rw [hc] at this; exact (Option.some.inj this).symm
  rw [hcn] at hru
  obtain ⟨a1, cp1, rfl, hcap1, hcell⟩ := hru.shape
  have HST := Hd.mk hst
  have HC := Hd.mk hcell
  have HL := Hd.mk hlit
  have HLT := Hd.mk hlt
  have HDN := Hd.mk hdn
  have HRM := Hd.mk hroom
  have hn0 : (0 : Int) ≤ (n : Int) := by omega
  have hn1 : (n : Int) < (css.length : Int) := by omega
  clear c1 c2 c4 hf hcc hrow hru hcell hlit hlt hdn hroom hc hcn hst hcap0 hcap1 hn
  go_enter Try.func68, Try.ntmps68
  go_wp2
  go_loop [6, 15] (fun t i => ∃ k : Nat, k ≤ c.length ∧ i = .int .i64 k ∧ Hd (pUnit tr c = pUnit tr (c.drop k))) (fun _ i => c.length - (intOf i).toNat)
  case atStart => exact ⟨0, Nat.zero_le _, rfl, ⟨by simp⟩⟩
  case round =>
    obtain ⟨k, hk, rfl, hf⟩ := hrel
    by_cases hlt : k < c.length
    · obtain ⟨bb, off, rfl, hcell⟩ := HC.out k hlt
      have hin := HL.out _ (List.getElem_mem hlt)
      have hd := Hd.mk (pUnit_drop (tr := tr) hlt)
      have hki : (k : Int) < (c.length : Int) := by omega
      have hk0 : (0 : Int) ≤ (k : Int) := by omega
      generalize c[k] = y at *
      have HIN := Hd.mk hin
      obtain ⟨n1, n2⟩ := hin
      by_cases h1 : -y ∈ tr
      · have hl1 := HST.out.psKn (y := -y) HIN.out.neg (r := true) (by simpa using h1)
        have H1 := Hd.mk h1
        clear h1
        go_wp2
        go_round
        case rel => exact ⟨k + 1, by omega, by go_num, ⟨by rw [hf.out, hd.out, if_pos H1.out]⟩⟩
        case measure => simp [intOf]; omega
      · have hl1 := HST.out.psKn (y := -y) HIN.out.neg (r := false) (by simpa using h1)
        have H1 := Hd.mk h1
        have HR := Hd.mk (show pUnit tr c = (true, addL tr y) by rw [hf.out, hd.out, if_neg h1])
        clear h1
        go_wp2_with (go_at_call 42; go_must (refine (pset_any x bk bc _ v1 v2 cap tr dn y _ _ _ HST.out HIN.out HLT.out HDN.out HRM.out).mono ?_; rintro e w' ⟨rfl, hs⟩; have HS := Hd.mk hs; clear hs))
        go_ret
        exact ⟨by rw [HR.out]; simp [H1.out], by rw [HR.out]; exact HS.out⟩
    · have hr := Hd.mk (show pUnit tr c = (false, tr) by rw [hf.out, show c.drop k = [] from List.drop_eq_nil_of_le (by omega)]; rfl)
      have hki : (c.length : Int) ≤ (k : Int) := by omega
      go_wp2
      go_ret
      exact ⟨by rw [hr.out]; rfl, by rw [hr.out]; exact HST.out⟩
end
end Go.Proofs.Ytneibkemhmneoaa
