/- Contract: the reference's Units. -/
import Derived.Test.YtneibkemhmneoaaUe
import Derived.Test.YtneibkemhmneoaaRq
namespace Go.Proofs.Ytneibkemhmneoaa
set_option linter.unusedVariables false
set_option linter.unusedSimpArgs false
open Go.RowKit Go.Conc

theorem sorted_snoc {zs : List Int} {y : Int} (h : SortedL zs) (hy : ∀ z ∈ zs, lessB z y = true) : SortedL (zs ++ [y]) :=
  List.pairwise_append.2 ⟨h, by simp, fun a ha b hb => by rw [List.mem_singleton.1 hb]; exact hy a ha⟩

/-- What has been listed, of the variables below m. -/
structure Lst (S : Int → Bool) (m : Nat) (zs : List Int) : Prop where
  sorted : SortedL zs
  mem : ∀ y, y ∈ zs ↔ S y = true ∧ y.natAbs < m
theorem Lst.len {S : Int → Bool} {m : Nat} {zs : List Int} (h : Lst S m zs) : zs.length ≤ 2 * m + 1 :=
  nodup_range (sorted_nodup h.sorted) (fun y hy => by have := ((h.mem y).1 hy).2; omega)
theorem Lst.ff {S : Int → Bool} {m : Nat} {zs : List Int} (h : Lst S m zs) (h1 : S m = false) (h2 : S (-(m : Int)) = false) : Lst S (m + 1) zs where
  sorted := h.sorted
  mem y := by
    rw [h.mem]
    refine and_congr_right fun hs => ⟨fun h => by omega, fun h3 => ?_⟩
    refine Classical.byContradiction fun hn => ?_
    rcases (by omega : y = m ∨ y = -(m : Int)) with e | e
    · rw [e, h1] at hs; cases hs
    · rw [e, h2] at hs; cases hs
theorem Lst.tf {S : Int → Bool} {m : Nat} {zs : List Int} (hm : 1 ≤ m) (h : Lst S m zs) (h1 : S m = true) (h2 : S (-(m : Int)) = false) : Lst S (m + 1) (zs ++ [(m : Int)]) where
  sorted := sorted_snoc h.sorted (fun z hz => by have := ((h.mem z).1 hz).2; rw [lessB_iff]; omega)
  mem y := by
    rw [List.mem_append, h.mem, List.mem_singleton]
    constructor
    · rintro (⟨a, b⟩ | rfl)
      · exact ⟨a, by omega⟩
      · exact ⟨h1, by omega⟩
    · rintro ⟨hs, h3⟩
      by_cases hn : y.natAbs < m
      · exact .inl ⟨hs, hn⟩
      · rcases (by omega : y = m ∨ y = -(m : Int)) with e | e
        · exact .inr e
        · rw [e, h2] at hs; cases hs
theorem Lst.ft {S : Int → Bool} {m : Nat} {zs : List Int} (hm : 1 ≤ m) (h : Lst S m zs) (h1 : S m = false) (h2 : S (-(m : Int)) = true) : Lst S (m + 1) (zs ++ [-(m : Int)]) where
  sorted := sorted_snoc h.sorted (fun z hz => by have := ((h.mem z).1 hz).2; rw [lessB_iff]; omega)
  mem y := by
    rw [List.mem_append, h.mem, List.mem_singleton]
    constructor
    · rintro (⟨a, b⟩ | rfl)
      · exact ⟨a, by omega⟩
      · exact ⟨h2, by omega⟩
    · rintro ⟨hs, h3⟩
      by_cases hn : y.natAbs < m
      · exact .inl ⟨hs, hn⟩
      · rcases (by omega : y = m ∨ y = -(m : Int)) with e | e
        · rw [e, h1] at hs; cases hs
        · exact .inr e
theorem Lst.tt {S : Int → Bool} {m : Nat} {zs : List Int} (hm : 1 ≤ m) (h : Lst S m zs) (h1 : S m = true) (h2 : S (-(m : Int)) = true) : Lst S (m + 1) (zs ++ [(m : Int)] ++ [-(m : Int)]) where
  sorted := by
    refine sorted_snoc (sorted_snoc h.sorted (fun z hz => by have := ((h.mem z).1 hz).2; rw [lessB_iff]; omega)) (fun z hz => ?_)
    rcases List.mem_append.1 hz with hz | hz
    · have := ((h.mem z).1 hz).2
      rw [lessB_iff]; omega
    · rw [List.mem_singleton.1 hz, lessB_iff]; omega
  mem y := by
    rw [List.mem_append, List.mem_append, h.mem, List.mem_singleton, List.mem_singleton]
    constructor
    · rintro ((⟨a, b⟩ | rfl) | rfl)
      · exact ⟨a, by omega⟩
      · exact ⟨h1, by omega⟩
      · exact ⟨h2, by omega⟩
    · rintro ⟨hs, h3⟩
      by_cases hn : y.natAbs < m
      · exact .inl (.inl ⟨hs, hn⟩)
      · rcases (by omega : y = m ∨ y = -(m : Int)) with e | e
        · exact .inl (.inr e)
        · exact .inr e

set_option maxHeartbeats 8000000 in
set_option maxRecDepth 100000 in
theorem runits_any (n : Int) (v u : Value) (fs : List (List Int)) (asm : List Int) (w : World) (hv : RdL w v fs) (hu : RdI w u asm) (hn : In64 n) (hif : InL fs) (hia : ∀ y ∈ asm, In64 y) (hmf : (fs.length : Int) ≤ 140737488355328) (hma : (asm.length : Int) ≤ 1000000) :
    Calls Try.prog 19 #[.agg #[.int .i64 n, v], u] w (UnitsEnd n fs asm w) := by
  obtain ⟨a, cap, rfl, hcap, _⟩ := hv.shape
  obtain ⟨a2, cap2, rfl, hcap2, hcell2⟩ := hu.shape
  have HST := Hd.mk ((St.refl w).alloc (.cells #[.int .i64 n, .slice a fs.length cap] 25))
  have HC2 := Hd.mk hcell2
  have HV := Hd.mk hv
  have HU := Hd.mk hu
  have HIF := Hd.mk hif
  have HIA := Hd.mk hia
  have HN := Hd.mk hn
  clear hcell2 hcap hcap2 hu hv hif hia hn
  by_cases h1 : cnfCheck n fs = 0
  · have hb : (cnfCheck n fs != 0) = false := by simp [h1]
    have H1 := Hd.mk h1
    have H2 := Hd.mk (cnfCheck_ok h1)
    obtain ⟨hn0, hn1, _, _⟩ := cnfCheck_ok h1
    clear h1
    go_enter Try.func19, Try.ntmps19
    go_wp2_with (first | (go_at_call 36; refine (rccheck_any _ _ _ _ HN.out (HV.out.below HST.out.below) HIF.out).mono ?_; rintro e w2 ⟨rfl, hb2⟩; have HST2 := Hd.mk (HST.out.quiet hb2); clear hb2))
    have hxf : w.heap.size < w2.heap.size := HST2.out.blk_lt
    clear HST
    generalize hxe : w.heap.size = xf at *
    go_loopw [8] (fun i wr => ∃ k : Nat, k ≤ asm.length ∧ i = .int .i64 k ∧ Hd (∀ y ∈ asm.take k, y ≠ 0 ∧ -n ≤ y ∧ y ≤ n) ∧ Hd (St w wr [Blk xf (.cells #[.int .i64 n, .slice a fs.length cap] 25 (0, 0))])) (fun i _ => asm.length - (intOf i).toNat)
    case atStart => exact ⟨0, Nat.zero_le _, rfl, ⟨by simp⟩, HST2⟩
    case round =>
      obtain ⟨k, hk, rfl, hf, hs⟩ := hrel
      have c0 := hs.out.cell 0
      simp only [List.getElem?_toArray, List.getElem?_cons_zero, List.getElem?_cons_succ] at c0
      clear HST2 hxf
      by_cases hlt : k < asm.length
      · obtain ⟨b, off, rfl, hcell0⟩ := HC2.out k hlt
        have hcell := (hs.out.below.cell (World.block_lt_of_cell? w _ hcell0)).trans hcell0
        have HTS := Hd.mk (take_succ_get hlt)
        have HM := Hd.mk (List.getElem_mem hlt)
        have hki : (k : Int) < (asm.length : Int) := by omega
        have hk0 : (0 : Int) ≤ (k : Int) := by omega
        have hkb : (k : Int) ≤ 1000000 := by omega
        clear hcell0
        generalize asm[k] = y at *
        by_cases hy0 : y = 0
        · have hb0 : (y == 0) = true := by simp [hy0]
          have HY := Hd.mk hy0
          clear hy0
          go_wp2_with fail
          go_quiet (fail)
          go_wp2
          go_ret3
          exact .inr (.inl ⟨H1.out, ⟨y, HM.out, .inl HY.out⟩, rfl, hs.out.drewN _ |>.below⟩)
        · have hb0 : (y == 0) = false := by simp [hy0]
          have HY := Hd.mk hy0
          clear hy0
          by_cases hy1 : n < y
          · go_wp2_with fail
            go_quiet (fail)
            go_wp2
            go_ret3
            exact .inr (.inl ⟨H1.out, ⟨y, HM.out, .inr (.inl hy1)⟩, rfl, hs.out.drewN _ |>.below⟩)
          · have hd1 : decide (n < y) = false := by simpa using hy1
            by_cases hy2 : y < -n
            · go_wp2_with fail
              go_quiet (fail)
              go_wp2
              go_ret3
              exact .inr (.inl ⟨H1.out, ⟨y, HM.out, .inr (.inr hy2)⟩, rfl, hs.out.drewN _ |>.below⟩)
            · have hd2 : decide (y < -n) = false := by simpa using hy2
              have HOKY := Hd.mk (show y ≠ 0 ∧ -n ≤ y ∧ y ≤ n from ⟨HY.out, by omega, by omega⟩)
              go_wp2_with fail
              go_quiet (fail)
              go_wp2
              go_roundw
              case rel => exact ⟨k + 1, by omega, by go_num, ⟨fun z hz => by
                rw [HTS.out] at hz
                rcases List.mem_append.1 hz with hz | hz
                · exact hf.out z hz
                · have e : z = y := by simpa using hz
                  rw [e]
                  exact HOKY.out⟩, ⟨hs.out.drewN _⟩⟩
              case measure => simp [intOf]; omega
      · have hall : ∀ y ∈ asm, y ≠ 0 ∧ -n ≤ y ∧ y ≤ n := by
          have h := hf.out
          rw [List.take_of_length_le (by omega)] at h
          exact h
        have HALL := Hd.mk hall
        have hkI : ¬ (k : Int) < (asm.length : Int) := by omega
        have c1 := hs.out.cell 1
        simp only [List.getElem?_toArray, List.getElem?_cons_zero, List.getElem?_cons_succ] at c1
        clear hf hall
        go_wp2_with fail
        refine (propagate_any _ _ fs asm _ (HV.out.below hs.out.below) (HU.out.below hs.out.below) (by have := H2.out.2.2.1; omega) (fun c hc => by have := (litCheck_ok (H2.out.2.2.2 c hc)).2.2.1; omega) (by omega) (fun c hc => lits_of_check (H2.out.2.2.2 c hc)) (fun y hy => by have := HALL.out y hy; exact ⟨⟨by omega, by omega⟩, this.1⟩)).mono ?_
        rintro e w3 (⟨rfl, hbad, hb3⟩ | ⟨bk, S, rfl, hnb, hS, hst3⟩)
        · have HB := Hd.mk hbad
          have HB3 := Hd.mk (hs.out.quiet hb3)
          clear hbad hb3
          dsimp only
          go_wp2
          go_ret3
          exact .inr (.inr ⟨H1.out, HALL.out, .inl ⟨rfl, HB.out, HB3.out.below⟩⟩)
        · have HNB := Hd.mk hnb
          have HSS := Hd.mk hS
          have HST3 := Hd.mk (show ∃ zs, Lst S 1 zs ∧ St w w3 [Sl 3 (.slice none 0 0) (ints zs), KB bk S, Blk xf (.cells #[.int .i64 n, .slice a fs.length cap] 25 (0, 0))] from ⟨[], ⟨List.Pairwise.nil, fun y => by
            constructor
            · intro h; cases h
            · rintro ⟨h, h2⟩
              have := der_lit (P := fun y => y ≠ 0) (fun c hc y hy => (lits_of_check (H2.out.2.2.2 c hc) y hy).2) (fun y hy => (HALL.out y hy).1) ((hS y).1 h)
              omega⟩, (hs.out.call hst3).sl_nil 3⟩)
          clear hnb hS hst3 c1
          dsimp only
          go_wp2_with fail
          go_loopw [11, 12] (fun ov iv wr => ∃ ax nn cx, ∃ m : Nat, 1 ≤ m ∧ m ≤ n.toNat + 1 ∧ ov = .slice ax nn cx ∧ iv = .int .i64 m ∧ Hd (∃ zs, Lst S m zs ∧ St w wr [Sl 3 (.slice ax nn cx) (ints zs), KB bk S, Blk xf (.cells #[.int .i64 n, .slice a fs.length cap] 25 (0, 0))])) (fun _ iv _ => n.toNat + 1 - (intOf iv).toNat)
          case atStart => exact ⟨_, _, _, 1, by omega, by omega, rfl, rfl, HST3⟩
          case round =>
            obtain ⟨ax, nn, cx, m, hm1, hm2, rfl, rfl, ⟨zs, hls, hst⟩⟩ := hrel
            have HLS := Hd.mk hls
            have HS := Hd.mk hst
            have c0 := (hst.pick 2 rfl).cell 0
            simp only [List.getElem?_toArray, List.getElem?_cons_zero, List.getElem?_cons_succ] at c0
            clear HST3
            have hm3 : (m : Int) ≤ 1048577 := by omega
            have hm4 : (1 : Int) ≤ (m : Int) := by omega
            by_cases hmn : (m : Int) ≤ n
            · have HLEN := Hd.mk (show (ints zs).length < 1099511627776 from by have := hls.len; simp [ints]; omega)
              have HLEN2 := Hd.mk (show (ints zs ++ [Value.int .i64 (m : Int)]).length < 1099511627776 from by have := hls.len; simp [ints]; omega)
              have HLM := Hd.mk (show Lt40 (m : Int) from ⟨by omega, by omega⟩)
              by_cases h1 : S (m : Int) = true
              · have hl1 := (hst.p1).kbLook HLM.out h1
                by_cases h2 : S (-(m : Int)) = true
                · have HL := Hd.mk (hls.tt hm1 h1 h2)
                  have HH2 := Hd.mk h2
                  clear h1 h2 hls hst
                  go_wp2_with (first
                    | (at_builtin; refine wpList_append1 rfl _ _ 29 rfl 3 (.int .i64 0) 8 Try.underlying29 info3 rfl (by decide) _ _ _ rfl ((HST9.out.alloc _).p1) _ _ (.int .i64 (-(m : Int))) rfl (by simp) rfl HLEN2.out ?_; intro v10 w10 hst10; obtain ⟨a10, n10, c10, rfl⟩ := hst10.shape; have HST10 := Hd.mk (hst10.p1.drop); clear hst10)
                    | (at_builtin; go_must (refine wpList_append1 rfl _ _ 29 rfl 3 (.int .i64 0) 8 Try.underlying29 info3 rfl (by decide) _ _ _ rfl ((HS.out.alloc _).p1) _ _ (.int .i64 (m : Int)) rfl (by simp) rfl HLEN.out ?_); intro v9 w9 hst9; obtain ⟨a9, n9, c9, rfl⟩ := hst9.shape; have HST9 := Hd.mk (hst9.p1.drop); have hl2 := (HST9.out.p1).kbLook HLM.out.neg HH2.out; clear hst9))
                  go_roundw
                  case rel => exact ⟨_, _, _, m + 1, by omega, by omega, rfl, by go_num, ⟨_, HL.out, by
                    have h := HST10.out
                    rw [show ints (zs ++ [(m : Int)] ++ [-(m : Int)]) = ints zs ++ [.int .i64 (m : Int)] ++ [.int .i64 (-(m : Int))] by simp [ints]]
                    exact h⟩⟩
                  case measure => simp [intOf]; omega
                · have h2' : S (-(m : Int)) = false := by simpa using h2
                  have HL := Hd.mk (hls.tf hm1 h1 h2')
                  have HH2 := Hd.mk h2'
                  clear h1 h2 h2' hls hst
                  go_wp2_with (first
                    | (at_builtin; go_must (refine wpList_append1 rfl _ _ 29 rfl 3 (.int .i64 0) 8 Try.underlying29 info3 rfl (by decide) _ _ _ rfl ((HS.out.alloc _).p1) _ _ (.int .i64 (m : Int)) rfl (by simp) rfl HLEN.out ?_); intro v9 w9 hst9; obtain ⟨a9, n9, c9, rfl⟩ := hst9.shape; have HST9 := Hd.mk (hst9.p1.drop); have hl2 := (HST9.out.p1).kbLook HLM.out.neg HH2.out; clear hst9))
                  go_roundw
                  case rel => exact ⟨_, _, _, m + 1, by omega, by omega, rfl, by go_num, ⟨_, HL.out, by
                    have h := HST9.out
                    rw [show ints (zs ++ [(m : Int)]) = ints zs ++ [.int .i64 (m : Int)] by simp [ints]]
                    exact h⟩⟩
                  case measure => simp [intOf]; omega
              · have h1' : S (m : Int) = false := by simpa using h1
                have hl1 := (hst.p1).kbLook HLM.out h1'
                by_cases h2 : S (-(m : Int)) = true
                · have hl2 := (hst.p1).kbLook HLM.out.neg h2
                  have HL := Hd.mk (hls.ft hm1 h1' h2)
                  clear h1 h1' h2 hls hst
                  go_wp2_with (first
                    | (at_builtin; go_must (refine wpList_append1 rfl _ _ 29 rfl 3 (.int .i64 0) 8 Try.underlying29 info3 rfl (by decide) _ _ _ rfl ((HS.out.alloc _).p1) _ _ (.int .i64 (-(m : Int))) rfl (by simp) rfl HLEN.out ?_); intro v9 w9 hst9; obtain ⟨a9, n9, c9, rfl⟩ := hst9.shape; have HST9 := Hd.mk (hst9.p1.drop); clear hst9))
                  go_roundw
                  case rel => exact ⟨_, _, _, m + 1, by omega, by omega, rfl, by go_num, ⟨_, HL.out, by
                    have h := HST9.out
                    rw [show ints (zs ++ [-(m : Int)]) = ints zs ++ [.int .i64 (-(m : Int))] by simp [ints]]
                    exact h⟩⟩
                  case measure => simp [intOf]; omega
                · have h2' : S (-(m : Int)) = false := by simpa using h2
                  have hl2 := (hst.p1).kbLook HLM.out.neg h2'
                  have HL := Hd.mk (hls.ff h1' h2')
                  clear h1 h1' h2 h2' hls hst
                  go_wp2
                  go_roundw
                  case rel => exact ⟨_, _, _, m + 1, by omega, by omega, rfl, by go_num, ⟨_, HL.out, HS.out⟩⟩
                  case measure => simp [intOf]; omega
            · have hme : m = n.toNat + 1 := by omega
              have HF := Hd.mk (show SortedL zs ∧ ∀ y, y ∈ zs ↔ Der fs asm y from ⟨hls.sorted, fun y => by
                rw [hls.mem, HSS.out]
                refine ⟨fun h => h.1, fun h => ⟨h, ?_⟩⟩
                have := der_lit (P := fun y => -n ≤ y ∧ y ≤ n) (fun c hc y hy => ((litCheck_ok (H2.out.2.2.2 c hc)).2.2.2 y hy).2) (fun y hy => (HALL.out y hy).2) h
                omega⟩)
              clear hls hst hme
              go_wp2
              go_ret3
              exact .inr (.inr ⟨H1.out, HALL.out, .inr ⟨_, _, _, zs, rfl, HNB.out, HF.out.1, HF.out.2, HS.out.only⟩⟩)
  · have hb : (cnfCheck n fs != 0) = true := by simp [h1]
    have H1 := Hd.mk h1
    clear h1
    go_enter Try.func19, Try.ntmps19
    go_wp2_with (first | (go_at_call 36; refine (rccheck_any _ _ _ _ HN.out (HV.out.below HST.out.below) HIF.out).mono ?_; rintro e w2 ⟨rfl, hb2⟩; have HST2 := Hd.mk (HST.out.quiet hb2); clear hb2))
    go_ret3
    exact .inl ⟨H1.out, rfl, HST2.out.below⟩
end Go.Proofs.Ytneibkemhmneoaa
