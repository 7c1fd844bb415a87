/- Contracts of the small functions that only read: sizes, the order of literals, the checks of clauses and formulas. -/
import Derived.Test.YtneibkemhmneoaaProg
import Derived.Test.YtneibkemhmneoaaMp
import Derived.Test.YtneibkemhmneoaaSo
import Derived.Deep.LoopGhost
import Derived.BigQuiet
namespace Go.Proofs.Ytneibkemhmneoaa
set_option linter.unusedVariables false
set_option linter.unusedSimpArgs false
open Go.RowKit

theorem info3 : (Try.prog.info? 3).map (fun i => (i.zero, i.size, i.bytes)) = some (some (.int .i64 0), 1, 8) := by kernel_rfl
theorem info29 : (Try.prog.info? 29).map (fun i => (i.zero, i.size, i.bytes)) = some (some (.slice none 0 0), 1, 24) := by kernel_rfl

def In64 (x : Int) : Prop := -9223372036854775808 ≤ x ∧ x ≤ 9223372036854775807
def ints (xs : List Int) : List Value := xs.map (.int .i64)
theorem ints_length (xs : List Int) : (ints xs).length = xs.length := by simp [ints]
theorem ints_get {xs : List Int} {j : Nat} (h : j < xs.length) : (ints xs)[j]? = some (.int .i64 xs[j]) := by simp [ints, h]

def RdI (w : World) (v : Value) (xs : List Int) : Prop := Rd w v (ints xs)
theorem RdI.below {w w' : World} {v : Value} {xs : List Int} (h : RdI w v xs) (hb : Below w.heap.size w w') : RdI w' v xs := Rd.below h hb

/-- The value's shape, and its cells. -/
theorem RdI.shape {w : World} {v : Value} {xs : List Int} (h : RdI w v xs) : ∃ a cap, v = .slice a xs.length cap ∧ xs.length ≤ cap ∧ (∀ (k : Nat) (hk : k < xs.length), ∃ b off, a = some ⟨b, off, none⟩ ∧ w.cell? ⟨b, off + k, none⟩ = some (.int .i64 xs[k])) := by
  obtain ⟨a, cap, rfl, hc, h⟩ := h
  rw [ints_length] at *
  refine ⟨a, cap, rfl, hc, fun k hk => ?_⟩
  rcases h with h | ⟨b, off, rfl, h⟩
  · have : xs.length = 0 := by rw [← ints_length xs, h]; rfl
    omega
  · exact ⟨b, off, rfl, h k _ (ints_get hk)⟩

set_option maxHeartbeats 400000 in
theorem size_any (a : Int) (w : World) (h : In64 a) : Calls Try.prog 61 #[.int .i64 a] w fun e w' => e = .returned (.int .u64 (a.natAbs : Int)) ∧ w = w' := by
  obtain ⟨h1, h2⟩ := h
  have e1 : a < 0 → IntKind.u64.wrap (-IntKind.u64.wrap a) = (a.natAbs : Int) := by
    intro h
    simp only [IntKind.wrap, IntKind.signed, IntKind.bits]
    simp
    omega
  have e2 : 0 ≤ a → (a.natAbs : Int) = a := by intro h; omega
  have E1 := Hd.mk e1
  have E2 := Hd.mk e2
  clear e1 e2
  go_enter Try.func61, Try.ntmps61
  go_wp2
  · have hlt : a < 0 := by assumption
    go_ret
    exact ⟨by rw [show IntKind.u64.wrap (-IntKind.u64.wrap a) = (a.natAbs : Int) from E1.out hlt]; rfl, rfl⟩
  · have hge : 0 ≤ a := by assumption
    go_ret
    exact ⟨by rw [E2.out hge]; rfl, rfl⟩

set_option maxHeartbeats 400000 in
theorem rsize_any (a : Int) (w : World) (h : In64 a) : Calls Try.prog 66 #[.int .i64 a] w fun e w' => e = .returned (.int .u64 (a.natAbs : Int)) ∧ w = w' := by
  obtain ⟨h1, h2⟩ := h
  have e1 : a < 0 → IntKind.u64.wrap (-IntKind.u64.wrap a) = (a.natAbs : Int) := by
    intro h
    simp only [IntKind.wrap, IntKind.signed, IntKind.bits]
    simp
    omega
  have e2 : 0 ≤ a → (a.natAbs : Int) = a := by intro h; omega
  have E1 := Hd.mk e1
  have E2 := Hd.mk e2
  clear e1 e2
  go_enter Try.func66, Try.ntmps66
  go_wp2
  · have hlt : a < 0 := by assumption
    go_ret
    exact ⟨by rw [show IntKind.u64.wrap (-IntKind.u64.wrap a) = (a.natAbs : Int) from E1.out hlt]; rfl, rfl⟩
  · have hge : 0 ≤ a := by assumption
    go_ret
    exact ⟨by rw [E2.out hge]; rfl, rfl⟩

set_option maxHeartbeats 400000 in
theorem less_any (a b : Int) (w : World) (ha : In64 a) (hb : In64 b) : Calls Try.prog 47 #[.int .i64 a, .int .i64 b] w fun e w' => e = .returned (.bool (lessB a b)) ∧ w = w' := by
  by_cases h : a.natAbs = b.natAbs
  · have hh : ((a.natAbs : Int) != (b.natAbs : Int)) = false := by rw [h]; simp
    have hr := Hd.mk (show lessB a b = decide (a > b) by simp [lessB, h])
    clear h
    go_enter Try.func47, Try.ntmps47
    go_wp2_with (first | (go_at_call 61; refine (size_any _ _ (by assumption)).mono ?_; rintro e w' ⟨rfl, rfl⟩))
    go_ret
    exact ⟨by rw [hr.out]; rfl, rfl⟩
  · have hh : ((a.natAbs : Int) != (b.natAbs : Int)) = true := by rw [bne_iff_ne]; omega
    have hr := Hd.mk (show lessB a b = decide (a.natAbs < b.natAbs) by simp [lessB, h])
    clear h
    go_enter Try.func47, Try.ntmps47
    go_wp2_with (first | (go_at_call 61; refine (size_any _ _ (by assumption)).mono ?_; rintro e w' ⟨rfl, rfl⟩))
    go_ret
    exact ⟨by rw [hr.out]; rfl, rfl⟩

/-- lit.Check. -/
def badLit (n a : Int) : Bool := a == 0 || decide ((a.natAbs : Int) > n)
def litCheck (n : Int) (c : List Int) : Int := if n < 0 ∨ n > 1048576 then 3 else if c.length > 4096 then 5 else if c.any (badLit n) then 3 else 0

theorem any_take_succ {p : Int → Bool} {c : List Int} {k : Nat} (hk : k < c.length) : (c.take (k + 1)).any p = ((c.take k).any p || p c[k]) := by
  rw [List.take_succ_eq_append_getElem hk, List.any_append]; simp

set_option maxHeartbeats 1000000 in
theorem lcheck_any (n : Int) (v : Value) (c : List Int) (w : World) (hn : In64 n) (hr : RdI w v c) (hc : ∀ x ∈ c, In64 x) : Calls Try.prog 30 #[.int .i64 n, v] w fun e w' => e = .returned (.int .i64 (litCheck n c)) ∧ w = w' := by
  obtain ⟨a, cap, rfl, hcap, hcell⟩ := hr.shape
  by_cases h1 : n < 0
  · have hR := Hd.mk (show litCheck n c = 3 by simp [litCheck, h1])
    clear hcell
    go_enter Try.func30, Try.ntmps30
    go_wp2
    go_ret
    exact ⟨by rw [hR.out]; rfl, rfl⟩
  by_cases h2 : n > 1048576
  · have hR := Hd.mk (show litCheck n c = 3 by simp [litCheck, h2])
    clear hcell
    go_enter Try.func30, Try.ntmps30
    go_wp2
    go_ret
    exact ⟨by rw [hR.out]; rfl, rfl⟩
  have h1' : 0 ≤ n := by omega
  have h2' : n ≤ 1048576 := by omega
  by_cases h3 : (c.length : Int) > 4096
  · have hR := Hd.mk (show litCheck n c = 5 by simp [litCheck, h1, h2, show c.length > 4096 by omega])
    clear hcell
    go_enter Try.func30, Try.ntmps30
    go_wp2
    go_ret
    exact ⟨by rw [hR.out]; rfl, rfl⟩
  have h3' : (c.length : Int) ≤ 4096 := by omega
  have hR := Hd.mk (show litCheck n c = if c.any (badLit n) then 3 else 0 by simp [litCheck, h1, h2, show ¬ c.length > 4096 by omega])
  have HC := Hd.mk hcell
  have HI := Hd.mk hc
  clear hcell hc h1 h2 h3 hcap
  go_enter Try.func30, Try.ntmps30
  go_wp2
  go_loop [18] (fun i => ∃ k : Nat, k ≤ c.length ∧ i = .int .i64 k ∧ Hd ((c.take k).any (badLit n) = false)) (fun i => c.length - (intOf i).toNat)
  case atStart => exact ⟨0, Nat.zero_le _, rfl, ⟨by simp⟩⟩
  case round =>
    obtain ⟨k, hk, rfl, hany⟩ := hrel
    by_cases hlt : k < c.length
    · obtain ⟨b, off, rfl, hcell⟩ := HC.out k hlt
      have hin : In64 c[k] := HI.out _ (List.getElem_mem hlt)
      have hs := Hd.mk (any_take_succ (p := badLit n) hlt)
      generalize hx : c[k] = x at *
      by_cases hz : (x == 0) = true
      · have hb := Hd.mk (show badLit n x = true by simp [badLit, hz])
        go_wp2_with (first | (go_at_call 61; refine (size_any _ _ hin).mono ?_; rintro e w' ⟨rfl, rfl⟩))
        go_ret
        refine ⟨?_, rfl⟩
        rw [hR.out, if_pos]
        · rfl
        · exact List.any_eq_true.2 ⟨x, by rw [← hx]; exact List.getElem_mem hlt, hb.out⟩
      · have hz' : (x == 0) = false := by simpa using hz
        clear hz
        by_cases hg : (x.natAbs : Int) > n
        · have hb := Hd.mk (show badLit n x = true by simp [badLit, hg])
          go_wp2_with (first | (go_at_call 61; refine (size_any _ _ hin).mono ?_; rintro e w' ⟨rfl, rfl⟩))
          go_ret
          refine ⟨?_, rfl⟩
          rw [hR.out, if_pos]
          · rfl
          · exact List.any_eq_true.2 ⟨x, by rw [← hx]; exact List.getElem_mem hlt, hb.out⟩
        · have hb := Hd.mk (show badLit n x = false by simp [badLit, hz', hg])
          have hg' : (x.natAbs : Int) ≤ n := by omega
          clear hg
          go_wp2_with (first | (go_at_call 61; refine (size_any _ _ hin).mono ?_; rintro e w' ⟨rfl, rfl⟩))
          go_round
          case rel => exact ⟨k + 1, by omega, by go_num, ⟨by rw [hs.out, hany.out, hb.out]; rfl⟩⟩
          case measure => simp [intOf]; omega
    · go_wp2
      go_ret
      refine ⟨?_, rfl⟩
      have : k = c.length := by omega
      subst this
      rw [hR.out, if_neg]
      · rfl
      · have := hany.out
        rw [List.take_length] at this
        rw [this]
        simp
end Go.Proofs.Ytneibkemhmneoaa
