/- Contracts: the reference's check of a clause; the checks of a formula (the program's and the reference's). -/
import Derived.Test.YtneibkemhmneoaaW1
import Derived.Deep.DeepCutAuto
import Derived.Deep.QuietTactic
namespace Go.Proofs.Ytneibkemhmneoaa
set_option linter.unusedVariables false
set_option linter.unusedSimpArgs false
open Go.RowKit

set_option maxHeartbeats 1000000 in
theorem rlcheck_any (n : Int) (v : Value) (c : List Int) (w : World) (hn : In64 n) (hr : RdI w v c) (hc : ∀ x ∈ c, In64 x) : Calls Try.prog 37 #[.int .i64 n, v] w fun e w' => e = .returned (.int .i64 (litCheck n c)) ∧ w = w' := by
  obtain ⟨a, cap, rfl, hcap, hcell⟩ := hr.shape
  by_cases h1 : n < 0
  · have hR := Hd.mk (show litCheck n c = 3 by simp [litCheck, h1])
    clear hcell
    go_enter Try.func37, Try.ntmps37
    go_wp2
    go_ret
    exact ⟨by rw [hR.out]; rfl, rfl⟩
  by_cases h2 : n > 1048576
  · have hR := Hd.mk (show litCheck n c = 3 by simp [litCheck, h2])
    clear hcell
    go_enter Try.func37, Try.ntmps37
    go_wp2
    go_ret
    exact ⟨by rw [hR.out]; rfl, rfl⟩
  have h1' : 0 ≤ n := by omega
  have h2' : n ≤ 1048576 := by omega
  by_cases h3 : (c.length : Int) > 4096
  · have hR := Hd.mk (show litCheck n c = 5 by simp [litCheck, h1, h2, show c.length > 4096 by omega])
    clear hcell
    go_enter Try.func37, Try.ntmps37
    go_wp2
    go_ret
    exact ⟨by rw [hR.out]; rfl, rfl⟩
  have h3' : (c.length : Int) ≤ 4096 := by omega
  have hR := Hd.mk (show litCheck n c = if c.any (badLit n) then 3 else 0 by simp [litCheck, h1, h2, show ¬ c.length > 4096 by omega])
  have HC := Hd.mk hcell
  have HI := Hd.mk hc
  clear hcell hc h1 h2 h3 hcap
  go_enter Try.func37, Try.ntmps37
  go_wp2
  go_loop [5] (fun i => ∃ k : Nat, k ≤ c.length ∧ i = .int .i64 k ∧ Hd ((c.take k).any (badLit n) = false)) (fun i => c.length - (intOf i).toNat)
  case atStart => exact ⟨0, Nat.zero_le _, rfl, ⟨by simp⟩⟩
  case round =>
    obtain ⟨k, hk, rfl, hany⟩ := hrel
    by_cases hlt : k < c.length
    · obtain ⟨b, off, rfl, hcell⟩ := HC.out k hlt
      have hin : In64 c[k] := HI.out _ (List.getElem_mem hlt)
      have hs := Hd.mk (any_take_succ (p := badLit n) hlt)
      generalize hx : c[k] = x at *
      by_cases hz : (x == 0) = true
      · have hb := Hd.mk (show badLit n x = true by simp [badLit, hz])
        go_wp2_with (first | (go_at_call 66; refine (rsize_any _ _ hin).mono ?_; rintro e w' ⟨rfl, rfl⟩))
        go_ret
        refine ⟨?_, rfl⟩
        rw [hR.out, if_pos]
        · rfl
        · exact List.any_eq_true.2 ⟨x, by rw [← hx]; exact List.getElem_mem hlt, hb.out⟩
      · have hz' : (x == 0) = false := by simpa using hz
        clear hz
        by_cases hg : (x.natAbs : Int) > n
        · have hb := Hd.mk (show badLit n x = true by simp [badLit, hg])
          go_wp2_with (first | (go_at_call 66; refine (rsize_any _ _ hin).mono ?_; rintro e w' ⟨rfl, rfl⟩))
          go_ret
          refine ⟨?_, rfl⟩
          rw [hR.out, if_pos]
          · rfl
          · exact List.any_eq_true.2 ⟨x, by rw [← hx]; exact List.getElem_mem hlt, hb.out⟩
        · have hb := Hd.mk (show badLit n x = false by simp [badLit, hz', hg])
          have hg' : (x.natAbs : Int) ≤ n := by omega
          clear hg
          go_wp2_with (first | (go_at_call 66; refine (rsize_any _ _ hin).mono ?_; rintro e w' ⟨rfl, rfl⟩))
          go_round
          case rel => exact ⟨k + 1, by omega, by go_num, ⟨by rw [hs.out, hany.out, hb.out]; rfl⟩⟩
          case measure => simp [intOf]; omega
    · go_wp2
      go_ret
      refine ⟨?_, rfl⟩
      have : k = c.length := by omega
      subst this
      rw [hR.out, if_neg]
      · rfl
      · have := hany.out
        rw [List.take_length] at this
        rw [this]
        simp

/-- A slice of slices of ints that is read. -/
def RdL (w : World) (v : Value) (css : List (List Int)) : Prop := ∃ vs, Rd w v vs ∧ vs.length = css.length ∧ ∀ (j : Nat) u c, vs[j]? = some u → css[j]? = some c → RdI w u c
theorem RdL.below {w w' : World} {v : Value} {css : List (List Int)} (h : RdL w v css) (hb : Below w.heap.size w w') : RdL w' v css :=
  let ⟨vs, h1, h2, h3⟩ := h; ⟨vs, h1.below hb, h2, fun j u c hu hc => (h3 j u c hu hc).below hb⟩
theorem RdL.shape {w : World} {v : Value} {css : List (List Int)} (h : RdL w v css) : ∃ a cap, v = .slice a css.length cap ∧ css.length ≤ cap ∧ (∀ (k : Nat) (hk : k < css.length), ∃ b off u, a = some ⟨b, off, none⟩ ∧ w.cell? ⟨b, off + k, none⟩ = some u ∧ RdI w u css[k]) := by
  obtain ⟨vs, ⟨a, cap, rfl, hc, h⟩, hl, h3⟩ := h
  refine ⟨a, cap, by rw [hl], by rw [← hl]; exact hc, fun k hk => ?_⟩
  rcases h with h | ⟨b, off, rfl, h⟩
  · rw [h] at hl
    simp at hl
    omega
  · have hk' : k < vs.length := by omega
    have hv : vs[k]? = some vs[k] := List.getElem?_eq_getElem hk'
    exact ⟨b, off, vs[k], rfl, h k _ hv, h3 k _ _ hv (List.getElem?_eq_getElem hk)⟩

def firstErr (n : Int) : List (List Int) → Int
  | [] => 0
  | c :: r => if litCheck n c ≠ 0 then litCheck n c else firstErr n r
theorem firstErr_drop {n : Int} {css : List (List Int)} {k : Nat} (hk : k < css.length) : firstErr n (css.drop k) = if litCheck n css[k] ≠ 0 then litCheck n css[k] else firstErr n (css.drop (k + 1)) := by
  rw [List.drop_eq_getElem_cons hk, firstErr]

/-- cnf.Check. -/
def cnfCheck (n : Int) (css : List (List Int)) : Int := if n < 0 ∨ n > 1048576 then 3 else if css.length > 1048576 then 5 else firstErr n css

def InL (css : List (List Int)) : Prop := ∀ c ∈ css, ∀ x ∈ c, In64 x

/-- A frame of 32 slots, the second of which is r. -/
def Fr32 (r : Value) (a : Act) : Prop := ∃ u0 u1 u3 u4 u5 u6 u7 u8 u9 u10 u11 u12 u13 u14 u15 u16 u17 u18 u19 u20 u21 u22 u23 u24 u25 u26 u27 u28 u29 u30 u31 : Value, a = { tmps := #[u0, u1, r, u3, u4, u5, u6, u7, u8, u9, u10, u11, u12, u13, u14, u15, u16, u17, u18, u19, u20, u21, u22, u23, u24, u25, u26, u27, u28, u29, u30, u31], defers := [] }

set_option maxHeartbeats 1000000 in
theorem ccheck_any (n : Int) (v : Value) (css : List (List Int)) (w : World) (hn : In64 n) (hr : RdL w v css) (hc : InL css) :
    Calls Try.prog 29 #[.agg #[.int .i64 n, v]] w fun e w' => e = .returned (.int .i64 (cnfCheck n css)) ∧ Below w.heap.size w w' := by
  have hB := Hd.mk ((Below.refl w.heap.size w).alloc (Nat.le_refl _) (.cells #[.int .i64 n, v] 25))
  have hrb := hr.below hB.out
  obtain ⟨a, cap, rfl, hcap, hcell⟩ := hrb.shape
  have HC := Hd.mk hcell
  clear hcell hr hrb hcap
  by_cases h1 : n < 0
  · have hR := Hd.mk (show cnfCheck n css = 3 by simp [cnfCheck, h1])
    go_enter Try.func29, Try.ntmps29
    go_wp2; go_step3; go_wp2
    try rw [Exit.noGoto_ret]
    go_ret
    exact ⟨by rw [hR.out]; rfl, hB.out⟩
  by_cases h2 : n > 1048576
  · have hR := Hd.mk (show cnfCheck n css = 3 by simp [cnfCheck, h2])
    go_enter Try.func29, Try.ntmps29
    go_wp2; go_step3; go_wp2
    try rw [Exit.noGoto_ret]
    go_ret
    exact ⟨by rw [hR.out]; rfl, hB.out⟩
  have h1' : 0 ≤ n := by omega
  have h2' : n ≤ 1048576 := by omega
  by_cases h3 : (css.length : Int) > 1048576
  · have hR := Hd.mk (show cnfCheck n css = 5 by simp [cnfCheck, h1, h2, show css.length > 1048576 by omega])
    go_enter Try.func29, Try.ntmps29
    go_wp2; go_step3; go_wp2
    try rw [Exit.noGoto_ret]
    go_ret
    exact ⟨by rw [hR.out]; rfl, hB.out⟩
  have h3' : (css.length : Int) ≤ 1048576 := by omega
  have hR := Hd.mk (show cnfCheck n css = firstErr n css by simp [cnfCheck, h1, h2, show ¬ css.length > 1048576 by omega])
  have HI := Hd.mk hc
  have HN := Hd.mk hn
  clear hc h1 h2 h3 hn
  go_enter Try.func29, Try.ntmps29
  go_wp2
  refine wp_scope_jumps 0 (fun a w' => Below w.heap.size w w' ∧ Fr32 (.int .i64 (cnfCheck n css)) a) (fun _ _ => 0) rfl ?first ?pass
  case pass =>
    rintro a w' ⟨hb, u0, u1, u3, u4, u5, u6, u7, u8, u9, u10, u11, u12, u13, u14, u15, u16, u17, u18, u19, u20, u21, u22, u23, u24, u25, u26, u27, u28, u29, u30, u31, rfl⟩
    clear HC
    have hb' := Hd.mk hb
    clear hb
    go_wp2
    try go_step3
    go_wp2
    try rw [show ∀ J Q a w, Exit.jump 0 J Q .ret a w = Q .ret a w from fun _ _ _ _ => rfl]
    go_ret
    exact ⟨rfl, hb'.out⟩
  go_wp2
  go_loop [2, 20] (fun e i => ∃ k : Nat, k ≤ css.length ∧ e = .int .i64 0 ∧ i = .int .i64 k ∧ Hd (firstErr n css = firstErr n (css.drop k))) (fun _ i => css.length - (intOf i).toNat)
  case atStart => exact ⟨0, Nat.zero_le _, rfl, rfl, ⟨by simp⟩⟩
  case round =>
    obtain ⟨k, hk, rfl, rfl, hf⟩ := hrel
    by_cases hlt : k < css.length
    · obtain ⟨b, off, u, rfl, hcell, hu⟩ := HC.out k hlt
      have hin : ∀ x ∈ css[k], In64 x := HI.out _ (List.getElem_mem hlt)
      have hd := Hd.mk (firstErr_drop (n := n) hlt)
      have hu' := Hd.mk hu
      clear hu
      by_cases he : litCheck n css[k] = 0
      · have hg : (litCheck n css[k] != 0) = false := by simp [he]
        have he' := Hd.mk he
        clear he
        go_wp2_with (first | (go_at_call 30; refine (lcheck_any _ _ _ _ HN.out hu'.out hin).mono ?_; rintro e w' ⟨rfl, rfl⟩))
        go_round
        case rel => exact ⟨k + 1, by omega, congrArg _ he'.out, by go_num, ⟨by rw [hf.out, hd.out, he'.out]; simp⟩⟩
        case measure => simp [intOf]; omega
      · have hg : (litCheck n css[k] != 0) = true := by simp [he]
        have he' := Hd.mk he
        clear he
        go_wp2_with (first | (go_at_call 30; refine (lcheck_any _ _ _ _ HN.out hu'.out hin).mono ?_; rintro e w' ⟨rfl, rfl⟩))
        go_step3
        refine ⟨rfl, hB.out, ?_⟩
        rw [show cnfCheck n css = litCheck n css[k] by rw [hR.out, hf.out, hd.out, if_pos he'.out]]
        exact ⟨_, _, _, _, _, _, _, _, _, _, _, _, _, _, _, _, _, _, _, _, _, _, _, _, _, _, _, _, _, _, _, rfl⟩
    · go_wp2
      try rw [show ∀ J Q a w, Exit.jump 0 J Q .ret a w = Q .ret a w from fun _ _ _ _ => rfl]
      go_ret
      refine ⟨?_, hB.out⟩
      rw [hR.out, hf.out, show css.drop k = [] from List.drop_eq_nil_of_le (by omega)]
      rfl
end Go.Proofs.Ytneibkemhmneoaa
