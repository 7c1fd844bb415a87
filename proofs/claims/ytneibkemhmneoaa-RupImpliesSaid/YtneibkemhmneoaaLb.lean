/- Contract: the law PropUnits. -/
import Derived.Test.YtneibkemhmneoaaUk
import Derived.Test.YtneibkemhmneoaaFit
namespace Go.Proofs.Ytneibkemhmneoaa
set_option linter.unusedVariables false
set_option linter.unusedSimpArgs false
open Go.RowKit
theorem uRes_len (n : Int) (fs : List (List Int)) (asm : List Int) : ((uRes n fs asm).1.length : Int) ≤ 140737488355328 := by
  unfold uRes
  split
  · simp
  · rename_i h1
    split
    · simp
    · rename_i h2
      split
      · simp
      · have h1' : cnfCheck n fs = 0 := Classical.byContradiction h1
        obtain ⟨hn0, hn1, _, hc⟩ := cnfCheck_ok h1'
        have ha : ∀ y ∈ asm, -n ≤ y ∧ y ≤ n := fun y hy => by
          have h3 : ¬ (y = 0 ∨ n < y ∨ y < -n) := fun h => h2 ⟨y, hy, h⟩
          omega
        unfold derL
        split
        · rename_i h
          have h4 := nodup_range (N := n.toNat) (sorted_nodup h.choose_spec.1) (fun y hy => by
            have := der_lit (P := fun y => -n ≤ y ∧ y ≤ n) (fun c hcm z hz => ((litCheck_ok (hc c hcm)).2.2.2 z hz).2) ha ((h.choose_spec.2 y).1 hy)
            omega)
          show (h.choose.length : Int) ≤ _
          omega
        · simp

set_option maxRecDepth 100000 in
set_option maxHeartbeats 4000000 in
theorem propUnits_any (a0 : Int) (v u : Value) (css : List (List Int)) (asm : List Int) (w : World) (ha : 0 ≤ a0) (ha' : a0 ≤ 255) (hv : RdB w v css) (hu : RdI w u asm) (hmx : ∀ c ∈ css, (c.length : Int) ≤ 140737488355328) (hr : ∀ c ∈ css, ∀ x ∈ c, -128 ≤ x ∧ x ≤ 127) (hmax : (css.length : Int) ≤ 140737488355328) (hia : ∀ y ∈ asm, In64 y) :
    Calls Try.prog 4 #[.int .u8 a0, v, u] w fun e w' => e = .returned (.bool true) ∧ Below w.heap.size w w' := by
  obtain ⟨a, cap, rfl, hcap, _⟩ := hu.shape
  have HF := Hd.mk (fit_any a0 v css w ha ha' hv hmx hr hmax)
  have HU := Hd.mk hu
  have HIA := Hd.mk hia
  clear hcap hu hv hmx hr hmax hia
  go_enter Try.func4, Try.ntmps4
  go_wp2_with fail
  refine HF.out.mono ?_
  rintro e w2 (⟨rfl, hb⟩ | ⟨n, v', fs, rfl, hn1, hn2, hl, hok, hst⟩)
  · have HB := Hd.mk hb
    clear hb HF
    dsimp only
    go_wp2_with (first | (go_at_call 16; refine (known4_any _).mono ?_; rintro e w3 ⟨rfl, hb3⟩; have H3 := Hd.mk hb3; clear hb3))
    go_ret
    exact ⟨rfl, (HB.out.alloc HB.out.size _).trans (H3.out.mono (by have := HB.out.size; simp; omega))⟩
  · obtain ⟨a6, n6, c6, rfl⟩ := hst.llShape
    have HST := Hd.mk (hst.alloc (.cells #[.int .i64 n, .slice a6 n6 c6] 25))
    have HOK := Hd.mk hok
    clear hst hok HF
    dsimp only
    by_cases hp : (20 : Int) < (asm.length : Int)
    · go_wp2_with (first | (go_at_call 16; refine (known4_any _).mono ?_; rintro e w3 ⟨rfl, hb3⟩; have H3 := Hd.mk hb3; clear hb3))
      go_ret
      exact ⟨rfl, HST.out.below.trans (H3.out.mono HST.out.size)⟩
    · go_wp2_with fail
      have hps : (asm.length : Int) ≤ 20 := by omega
      generalize hw3 : w2.alloc (Obj.cells #[Value.int IntKind.i64 n, Value.slice a6 n6 c6] 25) = w3 at *
      generalize w2.heap.size = b7 at *
      clear hw3
      have HNN := Hd.mk (show In64 n from ⟨by omega, by omega⟩)
      have HIF := Hd.mk (show InL fs from fun c hc x hx => by
        have h1 := (HOK.out c hc).1 x hx
        exact ⟨by have := h1.2.1; omega, by have := h1.2.2; omega⟩)
      have HFL := Hd.mk (show (fs.length : Int) ≤ 140737488355328 by omega)
      obtain ⟨rl, rb, re, hru⟩ : ∃ rl rb re, uRes n fs asm = (rl, rb, re) := ⟨_, _, _, rfl⟩
      have HRU := Hd.mk hru
      have HRL := Hd.mk (show (rl.length : Int) ≤ 140737488355328 by have := uRes_len n fs asm; rw [hru] at this; exact this)
      clear hru
      have hs0 : w3.drew.cell? ⟨b7, 0, none⟩ = some (.int .i64 n) ∧ w3.drew.cell? ⟨b7, 1, none⟩ = some (.slice a6 n6 c6) := ⟨HST.out.cell 0, HST.out.cell 1⟩
      go_region_held3 (fun w' => w'.cell? ⟨b7, 0, none⟩ = some (.int .i64 n) ∧ w'.cell? ⟨b7, 1, none⟩ = some (.slice a6 n6 c6)) (first | exact hs0 | exact hs1 | exact hs2)
        (first
          | (go_at_call 18; go_must (refine (copyInts_any _ asm _ (HU.out.below HST.out.drew.below) (by omega)).mono ?_; rintro e w4 ⟨v4, rfl, hst4⟩); obtain ⟨a4, n4, c4, rfl⟩ := hst4.shape; have H4 := Hd.mk (HST.out.drew.call hst4); have hs1 : w4.cell? ⟨b7, 0, none⟩ = some (.int .i64 n) ∧ w4.cell? ⟨b7, 1, none⟩ = some (.slice a6 n6 c6) := ⟨(H4.out.pick 1 rfl).cell 0, (H4.out.pick 1 rfl).cell 1⟩; clear hst4)
          | (go_at_call 17; go_must (refine (units_val n _ _ fs asm _ ((H4.out.pick 2 rfl).rdL) H4.out.rd HNN.out HIF.out HIA.out HFL.out (by omega)).mono ?_; rintro e w5 ⟨a8, n8, c8, rfl, hst5⟩; rw [HRU.out] at hst5 ⊢); have H5 := Hd.mk (H4.out.call hst5); have hs2 : w5.cell? ⟨b7, 0, none⟩ = some (.int .i64 n) ∧ w5.cell? ⟨b7, 1, none⟩ = some (.slice a6 n6 c6) := ⟨(H5.out.pick 2 rfl).cell 0, (H5.out.pick 2 rfl).cell 1⟩; clear hst5))
      obtain ⟨c50, c51⟩ := hs2
      clear hs0 hs1
      go_wp2_with (first
        | (go_at_call 19; go_must (refine (runits_val n _ _ fs asm _ ((H5.out.pick 3 rfl).rdL) (HU.out.below H5.out.below) HNN.out HIF.out HIA.out HFL.out (by omega)).mono ?_; rintro e w6 ⟨a9, n9, c9, rfl, hst6⟩; rw [HRU.out] at hst6 ⊢; have H6 := Hd.mk (H5.out.call hst6); clear hst6))
        | (go_at_call 20; go_must (refine (eqInts_is _ _ rl rl _ (H6.out.pick 1 rfl).rd H6.out.rd HRL.out true (by simp)).mono ?_; rintro e w7 ⟨rfl, hd⟩; have H7 := Hd.mk (hd.st H6.out); clear hd))
        | (go_at_call 16; refine (known4_any _).mono ?_; rintro e w8 ⟨rfl, hb8⟩; have H8 := Hd.mk (H7.out.quiet hb8); clear hb8))
      go_ret
      exact ⟨rfl, H8.out.below⟩
end Go.Proofs.Ytneibkemhmneoaa
