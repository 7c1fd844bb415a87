/- Contract: the law RupChecks. -/
import Derived.Test.YtneibkemhmneoaaKx
namespace Go.Proofs.Ytneibkemhmneoaa
set_option linter.unusedVariables false
set_option linter.unusedSimpArgs false
open Go.RowKit
set_option maxRecDepth 100000 in
set_option maxHeartbeats 4000000 in
theorem rupChecks_any (a0 : Int) (v u : Value) (css ps : List (List Int)) (w : World) (ha : 0 ≤ a0) (ha' : a0 ≤ 255) (hv : RdB w v css) (hu : RdL w u ps) (hmx : ∀ c ∈ css, (c.length : Int) ≤ 140737488355328) (hr : ∀ c ∈ css, ∀ x ∈ c, -128 ≤ x ∧ x ≤ 127) (hmax : (css.length : Int) ≤ 140737488355328) (hip : InL ps) :
    Calls Try.prog 3 #[.int .u8 a0, v, u] w fun e w' => e = .returned (.bool true) ∧ Below w.heap.size w w' := by
  obtain ⟨a, cap, rfl, hcap, hcell⟩ := hu.shape
  have HF := Hd.mk (fit_any a0 v css w ha ha' hv hmx hr hmax)
  have HC := Hd.mk hcell
  have HU := Hd.mk hu
  have HIP := Hd.mk hip
  clear hcell hcap hu hv hmx hr hmax hip
  go_enter Try.func3, Try.ntmps3
  go_wp2_with fail
  refine HF.out.mono ?_
  rintro e w2 (⟨rfl, hb⟩ | ⟨n, v', fs, rfl, hn1, hn2, hl, hok, hst⟩)
  · have HB := Hd.mk hb
    clear hb HF
    dsimp only
    go_wp2_with (first | (go_at_call 11; refine (known_any _).mono ?_; rintro e w3 ⟨rfl, hb3⟩; have H3 := Hd.mk hb3; clear hb3))
    go_ret
    exact ⟨rfl, (HB.out.alloc HB.out.size _).trans (H3.out.mono (by have := HB.out.size; simp; omega))⟩
  · obtain ⟨a6, n6, c6, rfl⟩ := hst.llShape
    have HST := Hd.mk (hst.alloc (.cells #[.int .i64 n, .slice a6 n6 c6] 25))
    have HRL := Hd.mk (hst.rdL)
    have HOK := Hd.mk hok
    clear hst hok HF
    dsimp only
    by_cases hp : (20 : Int) < (ps.length : Int)
    · go_wp2_with (first | (go_at_call 11; refine (known_any _).mono ?_; rintro e w3 ⟨rfl, hb3⟩; have H3 := Hd.mk hb3; clear hb3))
      go_ret
      exact ⟨rfl, HST.out.below.trans (H3.out.mono HST.out.size)⟩
    · go_wp2_with fail
      have hps : (ps.length : Int) ≤ 20 := by omega
      have HB := Hd.mk (HST.out.below)
      have c7 := HST.out.cell 0
      have c8 := HST.out.cell 1
      simp only [List.getElem?_toArray, List.getElem?_cons_zero, List.getElem?_cons_succ] at c7 c8
      generalize hw3 : w2.alloc (Obj.cells #[Value.int IntKind.i64 n, Value.slice a6 n6 c6] 25) = w3 at *
      have HW3 := Hd.mk (show Below w2.heap.size w2 w3 from by rw [← hw3]; exact (Below.refl _ _).alloc (Nat.le_refl _) _)
      generalize w2.heap.size = b7 at *
      clear hw3
      go_loop [9] (fun i => ∃ k : Nat, k ≤ ps.length ∧ i = .int .i64 k ∧ Hd (∀ (j : Nat) (hj : j < ps.length), j < k → ps[j].length ≤ 20)) (fun i => ps.length - (intOf i).toNat)
      case atStart => exact ⟨0, Nat.zero_le _, rfl, ⟨fun j hj h => by omega⟩⟩
      case round =>
        obtain ⟨k, hk, rfl, hs⟩ := hrel
        by_cases hlt : k < ps.length
        · obtain ⟨b, off, u, rfl, hcell0, hu0⟩ := HC.out k hlt
          have hcell := (HB.out.cell (World.block_lt_of_cell? w _ hcell0)).trans hcell0
          obtain ⟨a5, c5, rfl, _⟩ := hu0.shape
          have hki : (k : Int) < (ps.length : Int) := by omega
          have hk0 : (0 : Int) ≤ (k : Int) := by omega
          have HN := Hd.mk (show ps[k].length ≤ 20 → ∀ (j : Nat) (hj : j < ps.length), j < k + 1 → ps[j].length ≤ 20 from fun h j hj hjk => by
            by_cases e : j = k
            · subst e; exact h
            · exact hs.out j hj (by omega))
          clear hcell0 hu0 hs
          generalize ps[k] = c at *
          by_cases hc : (20 : Int) < (c.length : Int)
          · clear HN
            go_wp2_with (first | (go_at_call 11; refine (known_any _).mono ?_; rintro e w4 ⟨rfl, hb4⟩; have H4 := Hd.mk hb4; clear hb4))
            go_ret
            exact ⟨rfl, HB.out.trans (H4.out.mono HB.out.size)⟩
          · have HN2 := Hd.mk (HN.out (by omega))
            clear HN
            go_wp2
            go_round
            case rel => exact ⟨k + 1, by omega, by go_num, HN2⟩
            case measure => simp [intOf]; omega
        · have HS := Hd.mk (show ∀ c ∈ ps, c.length ≤ 20 from fun c hc => by
            obtain ⟨j, hj, rfl⟩ := List.getElem_of_mem hc
            exact hs.out j hj (by omega))
          have HNN := Hd.mk (show In64 n from ⟨by omega, by omega⟩)
          have HIF := Hd.mk (show InL fs from fun c hc x hx => by
            have h1 := (HOK.out c hc).1 x hx
            exact ⟨by have := h1.2.1; omega, by have := h1.2.2; omega⟩)
          have HFL := Hd.mk (show (fs.length : Int) ≤ 140737488355328 by omega)
          have HPL := Hd.mk (show (ps.length : Int) ≤ 1000000 by omega)
          have HPL2 := Hd.mk (show (ps.length : Int) ≤ 1000000000 by omega)
          have HPC := Hd.mk (show ∀ c ∈ ps, (c.length : Int) ≤ 1000000000 from fun c hc => by have := HS.out c hc; omega)
          clear hs
          go_wp2_with (first
            | (go_at_call 12; refine (copyLists_any _ ps w3 (HU.out.below HB.out) HPL2.out HPC.out).mono ?_; rintro e w4 ⟨v4, rfl, hst4⟩; obtain ⟨a4, n4, c4, rfl⟩ := hst4.llShape; have H4 := Hd.mk (HST.out.call hst4); have d7 := (H4.out.pick 1 rfl).cell 0; have d8 := (H4.out.pick 1 rfl).cell 1; simp only [List.getElem?_toArray, List.getElem?_cons_zero, List.getElem?_cons_succ] at d7 d8; clear hst4)
            | (go_at_call 13; refine (check_any n _ _ fs ps _ ((H4.out.pick 2 rfl).rdL) H4.out.rdL HNN.out HIF.out HIP.out HFL.out HPL.out).mono ?_; rintro e w5 ⟨rfl, hb5⟩; have H5 := Hd.mk (H4.out.quiet hb5); have e7 := (H5.out.pick 1 rfl).cell 0; have e8 := (H5.out.pick 1 rfl).cell 1; simp only [List.getElem?_toArray, List.getElem?_cons_zero, List.getElem?_cons_succ] at e7 e8; clear hb5)
            | (go_at_call 14; refine (rchk_any n _ _ fs ps _ ((H5.out.pick 2 rfl).rdL) (HU.out.below H5.out.below) HNN.out HIF.out HIP.out HFL.out HPL.out).mono ?_; rintro e w6 ⟨rfl, hb6⟩; have H6 := Hd.mk (H5.out.quiet hb6); clear hb6)
            | (go_at_call 15; refine (eqLists_any _ _ ps ps _ H6.out.rdL (HU.out.below H6.out.below) HPL2.out HPC.out).mono ?_; rintro e w7 ⟨rfl, hd7⟩; have H7 := Hd.mk (hd7.st H6.out); clear hd7)
            | (go_at_call 11; refine (known_any _).mono ?_; rintro e w8 ⟨rfl, hb8⟩; have H8 := Hd.mk (H7.out.quiet hb8); clear hb8))
          go_ret
          exact ⟨rfl, H8.out.below⟩
end Go.Proofs.Ytneibkemhmneoaa
