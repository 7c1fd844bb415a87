/- Contract: prop.Units. -/
import Derived.Test.YtneibkemhmneoaaUc
import Derived.Test.YtneibkemhmneoaaUe
namespace Go.Proofs.Ytneibkemhmneoaa
set_option linter.unusedVariables false
set_option linter.unusedSimpArgs false
open Go.RowKit Go.Conc

/-- While the assumptions are set. -/
structure U2 (fs : List (List Int)) (asm : List Int) (n : Int) (k : Nat) (tr : List Int) : Prop where
  trl : Trl tr
  rng : ∀ y ∈ tr, -n ≤ y ∧ y ≤ n
  der : ∀ y ∈ tr, Der fs asm y
  asm : ∀ y ∈ asm.take k, y ∈ tr
theorem U2.step {fs : List (List Int)} {asm tr : List Int} {n : Int} {k : Nat} (h : U2 fs asm n k tr) (hk : k < asm.length) (hl : asm[k] ≠ 0 ∧ -n ≤ asm[k] ∧ asm[k] ≤ n) (hn : n ≤ 1048576) (hna : -asm[k] ∉ tr) : U2 fs asm n (k + 1) (addL tr asm[k]) where
  trl := addL_trl h.trl hna ⟨⟨by omega, by omega⟩, hl.1⟩
  rng y hy := by
    rcases (addL_mem hna y).1 hy with hy | rfl
    · exact h.rng y hy
    · exact hl.2
  der y hy := by
    rcases (addL_mem hna y).1 hy with hy | rfl
    · exact h.der y hy
    · exact .asm (List.getElem_mem hk)
  asm y hy := by
    rw [take_succ_get hk] at hy
    rcases List.mem_append.1 hy with hy | hy
    · exact (addL_mem hna y).2 (.inl (h.asm y hy))
    · exact (addL_mem hna y).2 (.inr (by simpa using hy))

theorem mkChan (w : World) (C : Int) (c : Nat) (hC : C = c) (hc : c ≤ 1048577) : (Instr.makeChan 73 (.int .i64 C)).run Try.prog w = .ok (.chan (some w.heap.size)) (w.alloc (.chan c #[] false 0 0 false)) := by
  have h : (Try.prog.info? 3).map (·.bytes) = some 8 := by kernel_rfl
  obtain ⟨i, hi, hb⟩ := Option.map_eq_some_iff.1 h
  rw [hC]
  exact run_makeChan (P := Try.prog) (w := w) Try.underlying73 hi .i64 c (by omega) (by rw [hb]; omega)

theorem St.psMade {W w : World} {l : List As} {x bw bk bc cap : Nat} (h : St W w (Blk x (.cells #[.slice none 0 0, .slice none 0 0, .map (some bw), .map (some bk), .chan (some bc)] 75 (0, 0)) :: Blk bc (.chan cap #[] false 0 0 false) :: Blk bk (.map #[] 0) :: Blk bw (.map #[] 0) :: l)) :
    St W w (PS x bk bc (.slice none 0 0) (.slice none 0 0) (.map (some bw)) cap [] 0 :: WM bw (fun _ => false) (fun _ => []) :: l) := by
  have h1 := (h.pick 2 rfl).made (P := Try.prog)
  have h2 : St W w (KB bk (knO []) :: Blk x (.cells #[.slice none 0 0, .slice none 0 0, .map (some bw), .map (some bk), .chan (some bc)] 75 (0, 0)) :: Cn bc cap [] 0 :: Blk bw (.map #[] 0) :: l) := h1.imp (fun g p => by simpa [KB, knO] using p)
  have h3 := (h2.pick 3 rfl).wmMade
  -- [WM, KB, Blk x, Cn]
  have h4 : St W w (Blk x (.cells #[.slice none 0 0, .slice none 0 0, .map (some bw), .map (some bk), .chan (some bc)] 75 (0, 0)) :: KB bk (knO []) :: Cn bc cap [] 0 :: WM bw (fun _ => false) (fun _ => []) :: l) := (((h3.pick 3 rfl).pick 2 rfl).pick 3 rfl)
  exact h4.psShut

set_option maxHeartbeats 8000000 in
set_option maxRecDepth 100000 in
theorem units_any (n : Int) (v u : Value) (fs : List (List Int)) (asm : List Int) (w : World) (hv : RdL w v fs) (hu : RdI w u asm) (hn : In64 n) (hif : InL fs) (hia : ∀ y ∈ asm, In64 y) (hmf : (fs.length : Int) ≤ 140737488355328) (hma : (asm.length : Int) ≤ 1000000) :
    Calls Try.prog 17 #[.agg #[.int .i64 n, v], u] w (UnitsEnd n fs asm w) := by
  have hmm := @run_makeMap Try.prog
  obtain ⟨a, cap, rfl, hcap, _⟩ := hv.shape
  obtain ⟨a2, cap2, rfl, hcap2, hcell2⟩ := hu.shape
  have HST := Hd.mk ((St.refl w).alloc (.cells #[.int .i64 n, .slice a fs.length cap] 25))
  have HC2 := Hd.mk hcell2
  have HV := Hd.mk hv
  have HIF := Hd.mk hif
  have HIA := Hd.mk hia
  have HN := Hd.mk hn
  clear hcell2 hcap hcap2 hu hv hif hia hn
  by_cases h1 : cnfCheck n fs = 0
  · have hb : (cnfCheck n fs != 0) = false := by simp [h1]
    have H1 := Hd.mk h1
    have H2 := Hd.mk (cnfCheck_ok h1)
    obtain ⟨hn0, hn1, _, _⟩ := cnfCheck_ok h1
    clear h1
    go_enter Try.func17, Try.ntmps17
    go_wp2_with (first | (go_at_call 29; refine (ccheck_any _ _ _ _ HN.out (HV.out.below HST.out.below) HIF.out).mono ?_; rintro e w2 ⟨rfl, hb2⟩; have HST2 := Hd.mk (HST.out.quiet hb2); clear hb2; have c0 := HST2.out.cell 0; have c1 := HST2.out.cell 1; simp only [List.getElem?_toArray, List.getElem?_cons_zero, List.getElem?_cons_succ] at c0 c1))
    clear HST c1
    go_loop [31] (fun i => ∃ k : Nat, k ≤ asm.length ∧ i = .int .i64 k ∧ Hd (∀ y ∈ asm.take k, y ≠ 0 ∧ -n ≤ y ∧ y ≤ n)) (fun i => asm.length - (intOf i).toNat)
    case atStart => exact ⟨0, Nat.zero_le _, rfl, ⟨by simp⟩⟩
    case round =>
      obtain ⟨k, hk, rfl, hf⟩ := hrel
      by_cases hlt : k < asm.length
      · obtain ⟨b, off, rfl, hcell0⟩ := HC2.out k hlt
        have hcell := (HST2.out.below.cell (World.block_lt_of_cell? w _ hcell0)).trans hcell0
        have HTS := Hd.mk (take_succ_get hlt)
        have HM := Hd.mk (List.getElem_mem hlt)
        have hki : (k : Int) < (asm.length : Int) := by omega
        have hk0 : (0 : Int) ≤ (k : Int) := by omega
        clear hcell0
        generalize asm[k] = y at *
        by_cases hy0 : y = 0
        · have hb0 : (y == 0) = true := by simp [hy0]
          have HY := Hd.mk hy0
          clear hy0
          go_wp2
          go_ret3
          exact .inr (.inl ⟨H1.out, ⟨y, HM.out, .inl HY.out⟩, rfl, HST2.out.below⟩)
        · have hb0 : (y == 0) = false := by simp [hy0]
          have HY := Hd.mk hy0
          clear hy0
          by_cases hy1 : n < y
          · go_wp2
            go_ret3
            exact .inr (.inl ⟨H1.out, ⟨y, HM.out, .inr (.inl hy1)⟩, rfl, HST2.out.below⟩)
          · by_cases hy2 : y < -n
            · go_wp2
              go_ret3
              exact .inr (.inl ⟨H1.out, ⟨y, HM.out, .inr (.inr hy2)⟩, rfl, HST2.out.below⟩)
            · go_wp2
              go_round
              case rel => exact ⟨k + 1, by omega, by go_num, ⟨fun z hz => by
                rw [HTS.out] at hz
                rcases List.mem_append.1 hz with hz | hz
                · exact hf.out z hz
                · have e : z = y := by simpa using hz
                  rw [e]
                  exact ⟨HY.out, by omega, by omega⟩⟩⟩
              case measure => simp [intOf]; omega
      · have hall : ∀ y ∈ asm, y ≠ 0 ∧ -n ≤ y ∧ y ≤ n := by
          have h := hf.out
          rw [List.take_of_length_le (by omega)] at h
          exact h
        have HALL := Hd.mk hall
        have hkI : ¬ (k : Int) < (asm.length : Int) := by omega
        have hmc := fun (w : World) => mkChan w (n + 1) (n.toNat + 1) (by omega) (by omega)
        have c0M : ∀ o1 o2, ((w2.alloc o1).alloc o2).cell? ⟨w.heap.size, 0, none⟩ = some (.int .i64 n) := fun o1 o2 => (((HST2.out.alloc o1).alloc o2).pick 2 rfl).cell 0
        have HM := Hd.mk (show St w ((((w2.alloc (.map #[] 0)).alloc (.map #[] 0)).alloc (.chan (n.toNat + 1) #[] false 0 0 false)).alloc (.cells #[.slice none 0 0, .slice none 0 0, .map (some w2.heap.size), .map (some (w2.heap.size + 1)), .chan (some (w2.heap.size + 1 + 1))] 75))
            [PS (w2.heap.size + 1 + 1 + 1) (w2.heap.size + 1) (w2.heap.size + 1 + 1) (.slice none 0 0) (.slice none 0 0) (.map (some w2.heap.size)) (n.toNat + 1) [] 0, WM w2.heap.size (fun _ => false) (fun _ => []), Blk w.heap.size (.cells #[.int .i64 n, .slice a fs.length cap] 25 (0, 0))] from by
          have h := (((HST2.out.alloc (.map #[] 0)).alloc (.map #[] 0)).alloc (.chan (n.toNat + 1) #[] false 0 0 false)).alloc (.cells #[.slice none 0 0, .slice none 0 0, .map (some w2.heap.size), .map (some (w2.heap.size + 1)), .chan (some (w2.heap.size + 1 + 1))] 75)
          have h2 : St w ((((w2.alloc (.map #[] 0)).alloc (.map #[] 0)).alloc (.chan (n.toNat + 1) #[] false 0 0 false)).alloc (.cells #[.slice none 0 0, .slice none 0 0, .map (some w2.heap.size), .map (some (w2.heap.size + 1)), .chan (some (w2.heap.size + 1 + 1))] 75)) [Blk (w2.heap.size + 1 + 1 + 1) (.cells #[.slice none 0 0, .slice none 0 0, .map (some w2.heap.size), .map (some (w2.heap.size + 1)), .chan (some (w2.heap.size + 1 + 1))] 75 (0, 0)), Blk (w2.heap.size + 1 + 1) (.chan (n.toNat + 1) #[] false 0 0 false), Blk (w2.heap.size + 1) (.map #[] 0), Blk w2.heap.size (.map #[] 0), Blk w.heap.size (.cells #[.int .i64 n, .slice a fs.length cap] 25 (0, 0))] := by simpa using h
          exact h2.psMade)
        clear hf hall c0
        go_wp2_with fail
        rename_i K5 hK5 Q5
        have HT5 : Hd (∀ a w', (cR (cR (cR (cR (cR b17))))).wp Try.prog (bodyPost Try.prog Try.f17 (UnitsEnd n fs asm w)) a w' → K5 a w') := ⟨hK5⟩
        clear hK5 c0M hmc hmm hlt HST2
        generalize ((((w2.alloc (Obj.map #[] 0)).alloc (Obj.map #[] 0)).alloc (Obj.chan (n.toNat + 1) #[] false 0 0 false)).alloc (Obj.cells #[Value.slice none 0 0, Value.slice none 0 0, Value.map (some w2.heap.size), Value.map (some (w2.heap.size + 1)), Value.chan (some (w2.heap.size + 1 + 1))] 75)) = w3 at *
        generalize w2.heap.size + 1 + 1 + 1 = x at *
        generalize w2.heap.size + 1 + 1 = bc at *
        generalize w2.heap.size + 1 = bk at *
        generalize w2.heap.size = bw at *
        go_loopw [61] (fun i wr => ∃ k : Nat, k ≤ asm.length ∧ i = .int .i64 k ∧ Hd (∃ tr, U2 fs asm n k tr ∧ St w wr [PS x bk bc (.slice none 0 0) (.slice none 0 0) (.map (some bw)) (n.toNat + 1) tr 0, WM bw (fun _ => false) (fun _ => []), Blk w.heap.size (.cells #[.int .i64 n, .slice a fs.length cap] 25 (0, 0))])) (fun i _ => asm.length - (intOf i).toNat)
        case atStart => exact ⟨0, Nat.zero_le _, rfl, ⟨[], ⟨⟨List.nodup_nil, by simp, by simp⟩, by simp, by simp, by simp⟩, HM.out⟩⟩
        case round =>
          obtain ⟨k2, hk2, rfl, ⟨tr, hu2, hst⟩⟩ := hrel
          have HU2 := Hd.mk hu2
          have HS := Hd.mk hst
          clear HM
          by_cases hlt : k2 < asm.length
          · obtain ⟨b, off, rfl, hcell0⟩ := HC2.out k2 hlt
            have hcell := (hst.below.cell (World.block_lt_of_cell? w _ hcell0)).trans hcell0
            have hyy := HALL.out _ (List.getElem_mem hlt)
            have HY := Hd.mk hyy
            have HLY := Hd.mk (show Lt40 asm[k2] from ⟨by omega, by omega⟩)
            have HRM := Hd.mk (show tr.length < n.toNat + 1 from by
              have h1 := trl_len hu2.trl hn0 hu2.rng
              omega)
            have hki : (k2 : Int) < (asm.length : Int) := by omega
            have hk0 : (0 : Int) ≤ (k2 : Int) := by omega
            have HMY := Hd.mk (List.getElem_mem hlt)
            have HSTEP := Hd.mk (fun hna => hu2.step hlt hyy hn1 hna)
            clear hcell0 hu2 hst hyy
            generalize asm[k2] = y at *
            by_cases hna : -y ∈ tr
            · have HNA := Hd.mk hna
              have HD := Hd.mk (show decide (-y ∉ tr) = false by simp [hna])
              clear hna
              go_wp2_with (go_at_call 42; go_must (refine (pset_any x bk bc _ _ _ (n.toNat + 1) tr 0 y w _ _ HS.out HLY.out (fun z hz => (HU2.out.trl.lit z hz).1) (Nat.zero_le _) HRM.out).mono ?_; rintro e w' ⟨he, hs⟩; rw [HD.out] at he; subst he; have HS2 := Hd.mk hs; clear hs))
              go_ret3
              exact .inr (.inr ⟨H1.out, HALL.out, .inl ⟨rfl, .inl ⟨y, .asm HMY.out, HU2.out.der _ HNA.out⟩, HS2.out.below⟩⟩)
            · have HNA := Hd.mk hna
              have HD := Hd.mk (show decide (-y ∉ tr) = true by simp [hna])
              clear hna
              go_wp2_with (go_at_call 42; go_must (refine (pset_any x bk bc _ _ _ (n.toNat + 1) tr 0 y w _ _ HS.out HLY.out (fun z hz => (HU2.out.trl.lit z hz).1) (Nat.zero_le _) HRM.out).mono ?_; rintro e w' ⟨he, hs⟩; rw [HD.out] at he; subst he; have HS2 := Hd.mk hs; clear hs))
              go_roundw
              case rel => exact ⟨k2 + 1, by omega, by go_num, ⟨_, HSTEP.out HNA.out, HS2.out⟩⟩
              case measure => simp [intOf]; omega
          · have hkI2 : ¬ (k2 : Int) < (asm.length : Int) := by omega
            have hke : k2 = asm.length := by omega
            have HKE := Hd.mk hke
            clear hu2 hst hke
            go_wp2_with fail
            have h2 := HU2.out
            have ha2 := h2.asm
            rw [HKE.out, List.take_length] at ha2
            have h3 := trl_len h2.trl hn0 h2.rng
            refine HT5.out _ _ (Code.wp_mono (fun e a' w' hq => ?_) (units_t5 fs asm n x bk bc bw w.heap.size a cap (n.toNat + 1) tr w [] _ _ _ _ _ _ _ _ _ _ _ _ _ _ _ _ _ _ _ _ _ _ _ _ _ _ _ _ _ _ _ _ _ _ _ _ _ _ _ _ _ _ _ _ _ _ _ _ _ _ _ _ _ _ _ _ _ _ _ _ _ _ _ _ _ _ _ _ _ _ _ _ _ _ _ _ _ _ _ _ _ _ _ _ _ _ _ _ _ _ _ _ _ _ _ _ _ _ _ _ _ _ _ _ _ _ _ _ _ _ _ _ _ _ _ _ _ _ _ _ _ _ _ _ _ _ _ _ _ _ _ _ _ _ _ _ _ _ _ _ _ _ _ _ _ _ _ _ _ _ _ _ _ _ _ _ _ _ _ _ _ _ _ _ _ _ _ _ _ _ _ _ _ _ _ _ _ _ _ _ _ HV.out H2.out.2.2.2 H2.out.2.2.1 hn0 hn1 (by omega) (by omega) HS.out ⟨h2.trl, h2.rng, h2.der, ha2, fun i c hi => by omega⟩))
            exact bodyPost_mono (fun e w2 h => .inr (.inr ⟨H1.out, HALL.out, h⟩)) e a' w' hq
  · have hb : (cnfCheck n fs != 0) = true := by simp [h1]
    have H1 := Hd.mk h1
    clear h1 hmm
    go_enter Try.func17, Try.ntmps17
    go_wp2_with (first | (go_at_call 29; refine (ccheck_any _ _ _ _ HN.out (HV.out.below HST.out.below) HIF.out).mono ?_; rintro e w2 ⟨rfl, hb2⟩; have HST2 := Hd.mk (HST.out.quiet hb2); clear hb2))
    go_ret3
    exact .inl ⟨H1.out, rfl, HST2.out.below⟩
end Go.Proofs.Ytneibkemhmneoaa
