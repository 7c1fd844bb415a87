/- Contracts: copies and negatives of lists of ints; copies of lists of lists; their equality. -/
import Derived.Test.YtneibkemhmneoaaW3
namespace Go.Proofs.Ytneibkemhmneoaa
set_option linter.unusedVariables false
set_option linter.unusedSimpArgs false
open Go.RowKit

theorem ints_take_succ {x : List Int} {k : Nat} (hk : k < x.length) : ints (x.take (k + 1)) = ints (x.take k) ++ [.int .i64 x[k]] := by
  unfold ints
  rw [List.take_succ_eq_append_getElem hk, List.map_append]
  rfl

set_option maxHeartbeats 1000000 in
theorem copyInts_any (v : Value) (x : List Int) (w : World) (hv : RdI w v x) (hmax : (x.length : Int) ≤ 1000000000) :
    Calls Try.prog 18 #[v] w fun e w' => ∃ v', e = .returned v' ∧ St w w' [Sl 3 v' (ints x)] := by
  obtain ⟨a, cap, rfl, hcap, hcell⟩ := hv.shape
  have HC := Hd.mk hcell
  clear hcell hcap hv
  go_enter Try.func18, Try.ntmps18
  go_wp2
  go_loopw [3, 4] (fun v i wr => ∃ k : Nat, k ≤ x.length ∧ i = .int .i64 k ∧ Hd (St w wr [Sl 3 v (ints (x.take k))])) (fun _ i _ => x.length - (intOf i).toNat)
  case atStart => exact ⟨0, Nat.zero_le _, rfl, ⟨(St.refl w).sl_nil 3⟩⟩
  case round =>
    obtain ⟨k, hk, rfl, hst⟩ := hrel
    by_cases hlt : k < x.length
    · obtain ⟨b, off, rfl, hcell0⟩ := HC.out k hlt
      have hcell := (hst.out.below.cell (World.block_lt_of_cell? w _ hcell0)).trans hcell0
      clear hcell0
      have hs := Hd.mk (ints_take_succ hlt)
      go_wp2_with (first | (at_builtin; go_must (refine wpList_append1 rfl _ _ 29 rfl 3 (.int .i64 0) 8 Try.underlying29 info3 rfl (by decide) _ _ _ rfl ((hst.out.alloc _).p1) _ _ (.int .i64 x[k]) rfl (by simp) rfl (by simp [ints_length]; omega) ?_); intro v' w1 hst1; have hst1' := Hd.mk hst1.p1.drop; clear hst1))
      go_roundw
      case rel => exact ⟨k + 1, by omega, by go_num, ⟨by rw [hs.out]; exact hst1'.out⟩⟩
      case measure => simp [intOf]; omega
    · go_wp2
      go_ret
      refine ⟨_, rfl, ?_⟩
      have h := hst.out
      rw [List.take_of_length_le (by omega)] at h
      exact h

theorem negs_take_succ {x : List Int} {k : Nat} (hk : k < x.length) : ints ((x.take (k + 1)).map (- ·)) = ints ((x.take k).map (- ·)) ++ [.int .i64 (-x[k])] := by
  unfold ints
  rw [List.take_succ_eq_append_getElem hk, List.map_append, List.map_append]
  rfl

/-- Negation stays in range. -/
def Ng64 (x : Int) : Prop := -9223372036854775807 ≤ x ∧ x ≤ 9223372036854775807

set_option maxHeartbeats 1000000 in
theorem negatives_any (v : Value) (x : List Int) (w : World) (hv : RdI w v x) (hmax : (x.length : Int) ≤ 1000000000) (hng : ∀ a ∈ x, Ng64 a) :
    Calls Try.prog 39 #[v] w fun e w' => ∃ v', e = .returned v' ∧ St w w' [Sl 3 v' (ints (x.map (- ·)))] := by
  obtain ⟨a, cap, rfl, hcap, hcell⟩ := hv.shape
  have HC := Hd.mk hcell
  have HN := Hd.mk hng
  clear hcell hcap hv hng
  go_enter Try.func39, Try.ntmps39
  go_wp2
  go_loopw [3, 4] (fun v i wr => ∃ k : Nat, k ≤ x.length ∧ i = .int .i64 k ∧ Hd (St w wr [Sl 3 v (ints ((x.take k).map (- ·)))])) (fun _ i _ => x.length - (intOf i).toNat)
  case atStart => exact ⟨0, Nat.zero_le _, rfl, ⟨(St.refl w).sl_nil 3⟩⟩
  case round =>
    obtain ⟨k, hk, rfl, hst⟩ := hrel
    by_cases hlt : k < x.length
    · obtain ⟨b, off, rfl, hcell0⟩ := HC.out k hlt
      have hcell := (hst.out.below.cell (World.block_lt_of_cell? w _ hcell0)).trans hcell0
      clear hcell0
      have hs := Hd.mk (negs_take_succ hlt)
      obtain ⟨n1, n2⟩ := HN.out _ (List.getElem_mem hlt)
      go_wp2_with (first | (at_builtin; go_must (refine wpList_append1 rfl _ _ 29 rfl 3 (.int .i64 0) 8 Try.underlying29 info3 rfl (by decide) _ _ _ rfl ((hst.out.alloc _).p1) _ _ (.int .i64 (-x[k])) rfl (by simp) rfl (by simp [ints_length]; omega) ?_); intro v' w1 hst1; have hst1' := Hd.mk hst1.p1.drop; clear hst1))
      go_roundw
      case rel => exact ⟨k + 1, by omega, by go_num, ⟨by rw [hs.out]; exact hst1'.out⟩⟩
      case measure => simp [intOf]; omega
    · go_wp2
      go_ret
      refine ⟨_, rfl, ?_⟩
      have h := hst.out
      rw [List.take_of_length_le (by omega)] at h
      exact h

end Go.Proofs.Ytneibkemhmneoaa
