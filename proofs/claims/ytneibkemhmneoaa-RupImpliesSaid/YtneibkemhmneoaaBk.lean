/- Contract: rup.Check answers as the reference's Check. -/
import Derived.Test.YtneibkemhmneoaaBj
namespace Go.Proofs.Ytneibkemhmneoaa
set_option linter.unusedVariables false
set_option linter.unusedSimpArgs false
open Go.RowKit

/-- All numbers from -N to N. -/
def rngU (N : Nat) : List Int := (List.range (2 * N + 1)).map (fun (i : Nat) => (i : Int) - (N : Int))
theorem mem_rngU {N : Nat} {x : Int} (h : -(N : Int) ≤ x ∧ x ≤ N) : x ∈ rngU N :=
  List.mem_map.2 ⟨(x + N).toNat, List.mem_range.2 (by omega), by omega⟩
theorem len_rngU (N : Nat) : (rngU N).length = 2 * N + 1 := by simp [rngU]

/-- What the checker keeps over all clauses so far: over, or a state. -/
def ChkSt (orig : List (List Int)) (x bw bk : Nat) (U : List Int) (W : World) (l : List As) (over : Bool) (w : World) : Prop :=
  (over = true ∧ Bad orig [] ∧ St W w l) ∨
  (over = false ∧ ∃ (css : List (List Int)) (wl : Int → List Int) (tr : List Int), BOk orig css wl tr ∧ css.length ≤ orig.length ∧ (∀ d ∈ css, ∀ y ∈ d, y ∈ U) ∧ (∀ y ∈ tr, y ∈ U) ∧ St W w (BM x bw bk css exO wl (knO tr) tr tr.length :: l))

theorem bok_nil : BOk [] [] (fun _ => []) [] where
  wb := ⟨⟨by simp, by simp, by simp, by simp, by simp⟩, fun l => ⟨List.nodup_nil, fun i => ⟨fun h => (by cases h), fun ⟨_, c, hc, _⟩ => (by simp at hc)⟩⟩, ⟨List.nodup_nil, by simp, by simp⟩, wok_nil, by simp, by simp, by simp⟩
  ok := wok_nil
  full := fun o ho => by cases ho
  lit := fun o ho => by cases ho

theorem St.bmMade {W w : World} {l : List As} {x bw bk : Nat} (h : St W w (Blk x (.cells #[.slice none 0 0, .map (some bw), .map (some bk), .slice none 0 0, .int .i64 0] 65 (0, 0)) :: Blk bw (.map #[] 0) :: Blk bk (.map #[] 0) :: l)) :
    St W w (BM x bw bk [] exO (fun _ => []) (knO []) [] 0 :: l) := by
  have h1 := (h.pick 2 rfl).made (P := Try.prog)
  have h2 : St W w (KB bk (knO []) :: Blk x (.cells #[.slice none 0 0, .map (some bw), .map (some bk), .slice none 0 0, .int .i64 0] 65 (0, 0)) :: Blk bw (.map #[] 0) :: l) := h1.imp (fun g p => by simpa [KB, knO] using p)
  have h3 := (h2.pick 2 rfl).wmMade
  have h4 := ((h3.sl_nil 3).ll_nil)
  -- [LL, Sl, WM, KB, Blk x]
  exact St.bmShut (((((h4.pick 1 rfl).pick 3 rfl).pick 3 rfl).pick 3 rfl).pick 4 rfl)

theorem chkPre {orig css : List (List Int)} {wl : Int → List Int} {tr c : List Int} {n : Int} {x bw bk : Nat} {v : Value} {W : World} (hb : BOk orig css wl tr) (hc : css.length ≤ orig.length) (ho : orig.length < 268435456) (hcu : ∀ d ∈ css, ∀ y ∈ d, y ∈ rngU n.toNat) (htu : ∀ y ∈ tr, y ∈ rngU n.toNat) (hl : litCheck n c = 0) (hr : RdI W v c) :
    ∀ w1 l1, St W w1 (BM x bw bk css exO wl (knO tr) tr tr.length :: l1) → AddPre orig x bw bk css wl tr (rngU n.toNat) v c W w1 l1 := fun w1 l1 hst => by
  obtain ⟨h1, h2, h3, h4⟩ := litCheck_ok hl
  exact ⟨hst, hb, hr.below hst.below, fun y hy => mem_rngU (by have := h4 y hy; omega), h3, by omega, hcu, htu, by rw [len_rngU]; omega, lits_of_check hl⟩

theorem bad_more {orig : List (List Int)} {asm : List Int} (h : Bad orig []) (more : List (List Int)) : Bad (orig ++ more) asm := h.mono (fun _ hc => List.mem_append_left _ hc) (fun _ h => by cases h)

set_option maxRecDepth 100000 in
set_option maxHeartbeats 4000000 in
theorem check_any (n : Int) (v u : Value) (fs ps : List (List Int)) (w : World) (hv : RdL w v fs) (hu : RdL w u ps) (hn : In64 n) (hif : InL fs) (hip : InL ps) (hmf : (fs.length : Int) ≤ 140737488355328) (hmp : (ps.length : Int) ≤ 1000000) :
    Calls Try.prog 13 #[.agg #[.int .i64 n, v], u] w fun e w' => e = .returned (.tuple #[.int .i64 (chkRes n fs ps).1, .int .i64 (chkRes n fs ps).2]) ∧ Below w.heap.size w w' := by
  have hmk : ∀ (fn : Fn) (first cap : Array Value) (w : World), (Instr.makeFunc fn first cap).run Try.prog w = .ok (.func fn first cap) w := fun _ _ _ _ => rfl
  have hmm := @run_makeMap Try.prog
  obtain ⟨a, cap, rfl, hcap, hcell⟩ := hv.shape
  obtain ⟨a2, cap2, rfl, hcap2, hcell2⟩ := hu.shape
  have HST := Hd.mk ((St.refl w).alloc (.cells #[.int .i64 n, .slice a fs.length cap] 25))
  have HC := Hd.mk hcell
  have HC2 := Hd.mk hcell2
  have HV := Hd.mk hv
  have HIF := Hd.mk hif
  have HIP := Hd.mk hip
  have HN := Hd.mk hn
  clear hcell hcell2 hcap hcap2 hu hv hif hip hn
  by_cases h1 : cnfCheck n fs = 0
  · have hb : (cnfCheck n fs != 0) = false := by simp [h1]
    have hr := Hd.mk (show chkRes n fs ps = if firstErr n ps ≠ 0 then (0, firstErr n ps) else (chkEnd fs ps, 0) by rw [chkRes, if_neg (by simp [h1])])
    have H1 := Hd.mk h1
    clear h1
    go_enter Try.func13, Try.ntmps13
    go_wp2_with (first | (go_at_call 29; refine (ccheck_any _ _ _ _ HN.out (HV.out.below HST.out.below) HIF.out).mono ?_; rintro e w2 ⟨rfl, hb2⟩; have HST2 := Hd.mk (HST.out.quiet hb2); clear hb2; have c0 := HST2.out.cell 0; have c1 := HST2.out.cell 1; simp only [List.getElem?_toArray, List.getElem?_cons_zero, List.getElem?_cons_succ] at c0 c1))
    have H2 := Hd.mk (cnfCheck_ok H1.out)
    clear HST hmm
    go_loop [24] (fun i => ∃ k : Nat, k ≤ ps.length ∧ i = .int .i64 k ∧ Hd (firstErr n ps = firstErr n (ps.drop k))) (fun i => ps.length - (intOf i).toNat)
    case atStart => exact ⟨0, Nat.zero_le _, rfl, ⟨by simp⟩⟩
    case round =>
      obtain ⟨k, hk, rfl, hf⟩ := hrel
      by_cases hlt : k < ps.length
      · obtain ⟨b, off, u, rfl, hcell0, hu0⟩ := HC2.out k hlt
        have hcell := (HST2.out.below.cell (World.block_lt_of_cell? w _ hcell0)).trans hcell0
        obtain ⟨a5, c5, hu5, _⟩ := hu0.shape
        have hu := Hd.mk (hu0.below HST2.out.below)
        have hin : ∀ x ∈ ps[k], In64 x := HIP.out _ (List.getElem_mem hlt)
        have HIN := Hd.mk hin
        have hd := Hd.mk (firstErr_drop (n := n) hlt)
        have hki : (k : Int) < (ps.length : Int) := by omega
        have hk0 : (0 : Int) ≤ (k : Int) := by omega
        subst hu5
        clear hcell0 hu0 hin
        by_cases he : litCheck n ps[k] = 0
        · have hg : (litCheck n ps[k] != 0) = false := by simp [he]
          have he' := Hd.mk he
          clear he
          go_wp2_with (first | (go_at_call 30; refine (lcheck_any _ _ _ _ HN.out hu.out HIN.out).mono ?_; rintro e w3 ⟨rfl, rfl⟩))
          go_round
          case rel => exact ⟨k + 1, by omega, by go_num, ⟨by rw [hf.out, hd.out, he'.out]; simp⟩⟩
          case measure => simp [intOf]; omega
        · have hg : (litCheck n ps[k] != 0) = true := by simp [he]
          have he' := Hd.mk he
          clear he
          go_wp2_with (first | (go_at_call 30; refine (lcheck_any _ _ _ _ HN.out hu.out HIN.out).mono ?_; rintro e w3 ⟨rfl, rfl⟩))
          go_ret2
          refine ⟨?_, HST2.out.below⟩
          rw [hr.out, hf.out, hd.out, if_pos he'.out, if_pos he'.out]
          rfl
      · have hf0 := Hd.mk (show firstErr n ps = 0 by rw [hf.out, show ps.drop k = [] from List.drop_eq_nil_of_le (by omega)]; rfl)
        have hr' := Hd.mk (show chkRes n fs ps = (chkEnd fs ps, 0) by rw [hr.out, hf0.out]; simp)
        have HFF := Hd.mk (Fine.of_check H2.out.2.2.2)
        have HFP := Hd.mk (Fine.of_check (firstErr_ok hf0.out))
        have HSP := Hd.mk (firstErr_ok hf0.out)
        have hmm := @run_makeMap Try.prog
        have c1M : ∀ o1 o2 o3 o4, ((((w2.alloc o1).alloc o2).alloc o3).alloc o4).cell? ⟨w.heap.size, 1, none⟩ = some (.slice a fs.length cap) := fun o1 o2 o3 o4 => (((((HST2.out.alloc o1).alloc o2).alloc o3).alloc o4).pick 4 rfl).cell 1
        have HM := Hd.mk (show St w ((((w2.alloc (.map #[] 0)).alloc (.map #[] 0)).alloc (.cells #[.slice none 0 0, .map (some w2.heap.size), .map (some (w2.heap.size + 1)), .slice none 0 0, .int .i64 0] 65)).alloc (.cells #[.pointer (some ⟨w2.heap.size + 1 + 1, 0, none⟩)] 61))
            [BM (w2.heap.size + 1 + 1) w2.heap.size (w2.heap.size + 1) [] exO (fun _ => []) (knO []) [] 0, Blk (w2.heap.size + 1 + 1 + 1) (.cells #[.pointer (some ⟨w2.heap.size + 1 + 1, 0, none⟩)] 61 (0, 0)), Blk w.heap.size (.cells #[.int .i64 n, .slice a fs.length cap] 25 (0, 0))] from by
          have h := (((HST2.out.alloc (.map #[] 0)).alloc (.map #[] 0)).alloc (.cells #[.slice none 0 0, .map (some w2.heap.size), .map (some (w2.heap.size + 1)), .slice none 0 0, .int .i64 0] 65)).alloc (.cells #[.pointer (some ⟨w2.heap.size + 1 + 1, 0, none⟩)] 61)
          have h2 : St w ((((w2.alloc (.map #[] 0)).alloc (.map #[] 0)).alloc (.cells #[.slice none 0 0, .map (some w2.heap.size), .map (some (w2.heap.size + 1)), .slice none 0 0, .int .i64 0] 65)).alloc (.cells #[.pointer (some ⟨w2.heap.size + 1 + 1, 0, none⟩)] 61)) [Blk (w2.heap.size + 1 + 1 + 1) (.cells #[.pointer (some ⟨w2.heap.size + 1 + 1, 0, none⟩)] 61 (0, 0)), Blk (w2.heap.size + 1 + 1) (.cells #[.slice none 0 0, .map (some w2.heap.size), .map (some (w2.heap.size + 1)), .slice none 0 0, .int .i64 0] 65 (0, 0)), Blk (w2.heap.size + 1) (.map #[] 0), Blk w2.heap.size (.map #[] 0), Blk w.heap.size (.cells #[.int .i64 n, .slice a fs.length cap] 25 (0, 0))] := by simpa using h
          exact (((h2.pick 2 rfl).pick 3 rfl).pick 3 rfl).bmMade)
        go_wp2_with fail
        have HBW := Hd.mk (HM.out.below)
        clear c1M hmm c0 c1
        generalize ((((w2.alloc (Obj.map #[] 0)).alloc (Obj.map #[] 0)).alloc (Obj.cells #[Value.slice none 0 0, Value.map (some w2.heap.size), Value.map (some (w2.heap.size + 1)), Value.slice none 0 0, Value.int IntKind.i64 0] 65)).alloc (Obj.cells #[Value.pointer (some ⟨w2.heap.size + 1 + 1, 0, none⟩)] 61)) = w3 at *
        generalize w2.heap.size + 1 + 1 + 1 = b10 at *
        generalize w2.heap.size + 1 + 1 = x at *
        generalize w2.heap.size + 1 = bk at *
        generalize w2.heap.size = bw at *
        clear hf HST2
        go_loopw [12, 45] (fun ov iv wr => ∃ (over : Bool) (k : Nat), k ≤ fs.length ∧ ov = .bool over ∧ iv = .int .i64 k ∧ Hd (ChkSt (fs.take k) x bw bk (rngU n.toNat) w [Blk b10 (.cells #[.pointer (some ⟨x, 0, none⟩)] 61 (0, 0)), Blk w.heap.size (.cells #[.int .i64 n, .slice a fs.length cap] 25 (0, 0))] over wr)) (fun _ iv _ => fs.length - (intOf iv).toNat)
        case atStart => exact ⟨false, 0, Nat.zero_le _, rfl, rfl, ⟨.inr ⟨rfl, [], _, [], bok_nil, by simp, by simp, by simp, HM.out⟩⟩⟩
        case round =>
          obtain ⟨over, k, hk, rfl, rfl, hs⟩ := hrel
          by_cases hlt : k < fs.length
          · obtain ⟨b, off, u, rfl, hcell0, hu0⟩ := HC.out k hlt
            have hbel : Below w.heap.size w wr := by
              rcases hs.out with ⟨_, _, h⟩ | ⟨_, _, _, _, _, _, _, _, h⟩ <;> exact h.below
            have hcell := (hbel.cell (World.block_lt_of_cell? w _ hcell0)).trans hcell0
            obtain ⟨a5, c5, hu5, _⟩ := hu0.shape
            have HU := Hd.mk hu0
            have HLC := Hd.mk (H2.out.2.2.2 _ (List.getElem_mem hlt))
            have HTS := Hd.mk (take_succ_get hlt)
            have hki : (k : Int) < (fs.length : Int) := by omega
            have hk0 : (0 : Int) ≤ (k : Int) := by omega
            have HFL := Hd.mk (show (fs.take k).length < 268435456 by have := H2.out.2.2.1; rw [List.length_take]; omega)
            have hfl : (fs.length : Int) ≤ 1048576 := by have := H2.out.2.2.1; omega
            subst hu5
            clear hcell0 hu0 hbel
            generalize fs[k] = c at *
            rcases hs with ⟨⟨rfl, hbad, hst⟩ | ⟨rfl, css, wl, tr, hbok, hcl, hcu, htu, hst⟩⟩
            · have HBAD := Hd.mk hbad
              have HST := Hd.mk hst
              clear hbad hst
              go_wp2_with fail
              go_roundw
              case rel => exact ⟨true, k + 1, by omega, rfl, by go_num, ⟨.inl ⟨rfl, by rw [HTS.out]; exact bad_more HBAD.out _, (HST.out.alloc _).drop⟩⟩⟩
              case measure => simp [intOf]; omega
            · have HPRE := Hd.mk (chkPre (x := x) (bw := bw) (bk := bk) hbok hcl HFL.out hcu htu HLC.out HU.out)
              have H3 := Hd.mk (show St w (wr.alloc (.cells #[.slice a5 c.length c5] 29)) (BM x bw bk css exO wl (knO tr) tr tr.length :: Blk b10 (.cells #[.pointer (some ⟨x, 0, none⟩)] 61 (0, 0)) :: Blk wr.heap.size (.cells #[.slice a5 c.length c5] 29 (0, 0)) :: _) from ((hst.alloc (.cells #[.slice a5 c.length c5] 29)).pick 2 rfl).pick 2 rfl)
              have HCLK := Hd.mk hcl
              clear hbok hcl hcu htu hst
              go_wp2_with (first | (go_at_call 32; refine (addf33 (fs.take k) x bw bk css wl tr (rngU n.toNat) (.slice a5 c.length c5) c w _ _ b10 wr.heap.size H3.out HPRE.out _ rfl).mono ?_; rintro e w5 ⟨rfl, L, hL, hst5⟩; have HLL := Hd.mk hL; have H5 := Hd.mk hst5; clear hL hst5))
              go_roundw
              case rel =>
                refine ⟨badB (fs.take k ++ [c]) [], k + 1, by omega, rfl, by go_num, ⟨?_⟩⟩
                rw [HTS.out]
                have h5 := H5.out
                rcases HLL.out with ⟨hr1, rfl⟩ | ⟨hr1, css', wl', tr', h6, h7, h8, h9, rfl⟩
                · rw [hr1]
                  refine .inl ⟨rfl, ?_, h5.rm 1 rfl⟩
                  apply Classical.byContradiction
                  intro hnb
                  rw [badB_false hnb] at hr1
                  cases hr1
                · rw [hr1]
                  exact .inr ⟨rfl, css', wl', tr', h6, by have := HCLK.out; simp only [List.length_append, List.length_cons, List.length_nil]; omega, h8, h9, h5.rm 2 rfl⟩
              case measure => simp [intOf]; omega
          · have hkf : k = fs.length := by omega
            subst hkf
            rw [List.take_length] at hs
            have HS := Hd.mk hs.out
            clear hs
            go_wp2_with fail
            go_loopw [12, 57] (fun ov iv wr => ∃ (over : Bool) (k : Nat), k ≤ ps.length ∧ ov = .bool over ∧ iv = .int .i64 k ∧ Hd (ChkSt (fs ++ ps.take k) x bw bk (rngU n.toNat) w [Blk b10 (.cells #[.pointer (some ⟨x, 0, none⟩)] 61 (0, 0)), Blk w.heap.size (.cells #[.int .i64 n, .slice a fs.length cap] 25 (0, 0))] over wr ∧ chkGo fs ps 0 = chkGo (fs ++ ps.take k) (ps.drop k) k)) (fun _ iv _ => ps.length - (intOf iv).toNat)
            case atStart => exact ⟨over, 0, Nat.zero_le _, rfl, rfl, ⟨by simpa using HS.out, by simp⟩⟩
            case round =>
              clear HS
              obtain ⟨over, k, hk, rfl, rfl, ⟨hs, hgo⟩⟩ := hrel
              have HGO := Hd.mk hgo
              have HBEL := Hd.mk (show Below w.heap.size w wr by
                rcases hs with ⟨_, _, h⟩ | ⟨_, _, _, _, _, _, _, _, h⟩ <;> exact h.below)
              clear hgo
              by_cases hlt : k < ps.length
              · obtain ⟨b, off, u, rfl, hcell0, hu0⟩ := HC2.out k hlt
                have hcell := (HBEL.out.cell (World.block_lt_of_cell? w _ hcell0)).trans hcell0
                obtain ⟨a5, c5, hu5, _⟩ := hu0.shape
                have HU := Hd.mk hu0
                have HLC := Hd.mk (HSP.out _ (List.getElem_mem hlt))
                have HTS := Hd.mk (take_succ_get hlt)
                have HGD := Hd.mk (chkGo_drop (cls := fs ++ ps.take k) hlt)
                have hki : (k : Int) < (ps.length : Int) := by omega
                have hk0 : (0 : Int) ≤ (k : Int) := by omega
                have HFL := Hd.mk (show (fs ++ ps.take k).length < 268435456 by have := H2.out.2.2.1; rw [List.length_append, List.length_take]; omega)
                subst hu5
                clear hcell0 hu0
                generalize ps[k] = c at *
                rcases hs with ⟨rfl, hbad, hst⟩ | ⟨rfl, css, wl, tr, hbok, hcl, hcu, htu, hst⟩
                · have HBAD := Hd.mk hbad
                  have HST := Hd.mk hst
                  clear hbad hst
                  have HGO2 := Hd.mk (show chkGo fs ps 0 = chkGo (fs ++ ps.take (k + 1)) (ps.drop (k + 1)) (k + 1) by
                    have := bad_more (asm := c.map (- ·)) HBAD.out []
                    rw [List.append_nil] at this
                    rw [HGO.out, HGD.out, if_pos (badB_true this), HTS.out, List.append_assoc])
                  go_wp2_with fail
                  go_roundw
                  case rel => exact ⟨true, k + 1, by omega, rfl, by go_num, ⟨.inl ⟨rfl, by rw [HTS.out, ← List.append_assoc]; exact bad_more HBAD.out _, (HST.out.alloc _).drop⟩, HGO2.out⟩⟩
                  case measure => simp [intOf]; omega
                · have HIP2 := Hd.mk (show ImpPre (fs ++ ps.take k) x bw bk css wl tr (rngU n.toNat) (.slice a5 c.length c5) c w from by
                    obtain ⟨q1, q2, q3, q4⟩ := litCheck_ok HLC.out
                    exact ⟨hbok, HU.out, fun y hy => mem_rngU (by have := q4 y hy; omega), q3, by have := HFL.out; omega, hcu, htu, by rw [len_rngU]; omega, lits_of_check HLC.out⟩)
                  have H3 := Hd.mk (show St w (wr.alloc (.cells #[.slice a5 c.length c5] 29)) (BM x bw bk css exO wl (knO tr) tr tr.length :: Blk b10 (.cells #[.pointer (some ⟨x, 0, none⟩)] 61 (0, 0)) :: Blk wr.heap.size (.cells #[.slice a5 c.length c5] 29 (0, 0)) :: _) from ((hst.alloc (.cells #[.slice a5 c.length c5] 29)).pick 2 rfl).pick 2 rfl)
                  have HK4 := Hd.mk (And.intro hcl (And.intro hcu htu))
                  clear hbok hcl hcu htu hst
                  by_cases hb2 : badB (fs ++ ps.take k) (c.map (- ·)) = true
                  · have HB2 := Hd.mk hb2
                    have HGO2 := Hd.mk (show chkGo fs ps 0 = chkGo (fs ++ ps.take (k + 1)) (ps.drop (k + 1)) (k + 1) by
                      rw [HGO.out, HGD.out, if_pos hb2, HTS.out, List.append_assoc])
                    clear hb2
                    go_wp2_with (first
                      | (go_at_call 31; refine (implies_any (fs ++ ps.take k) x bw bk css wl tr (rngU n.toNat) _ c w _ _ HIP2.out H3.out true HB2.out).mono ?_; rintro e w5 ⟨rfl, css5, wl5, hs5, hbok5, hst5⟩; have H5 := Hd.mk hst5; have HPRE := Hd.mk (chkPre (x := x) (bw := bw) (bk := bk) hbok5 (by rw [← hs5.1]; exact HK4.out.1) HFL.out (sameU hs5 HK4.out.2.1) HK4.out.2.2 HLC.out HU.out); have HCL5 := Hd.mk (show css5.length ≤ (fs ++ ps.take k).length by rw [← hs5.1]; exact HK4.out.1); clear hst5 hs5 hbok5)
                      | (go_at_call 32; refine (addf35 (fs ++ ps.take k) x bw bk css5 wl5 tr (rngU n.toNat) (.slice a5 c.length c5) c w _ _ b10 wr.heap.size H5.out HPRE.out _ rfl).mono ?_; rintro e w6 ⟨rfl, L, hL, hst6⟩; have HLL := Hd.mk hL; have H6 := Hd.mk hst6; clear hL hst6))
                    go_roundw
                    case rel =>
                      refine ⟨badB ((fs ++ ps.take k) ++ [c]) [], k + 1, by omega, by rw [List.append_assoc], by go_num, ⟨?_, HGO2.out⟩⟩
                      rw [HTS.out, ← List.append_assoc]
                      have h5 := H6.out
                      rcases HLL.out with ⟨hr1, rfl⟩ | ⟨hr1, css', wl', tr', h6, h7, h8, h9, rfl⟩
                      · rw [hr1]
                        refine .inl ⟨rfl, ?_, h5.rm 1 rfl⟩
                        apply Classical.byContradiction
                        intro hnb
                        rw [badB_false hnb] at hr1
                        cases hr1
                      · rw [hr1]
                        exact .inr ⟨rfl, css', wl', tr', h6, by have := HCL5.out; simp only [List.length_append, List.length_cons, List.length_nil] at *; omega, h8, h9, h5.rm 2 rfl⟩
                    case measure => simp [intOf]; omega
                  · have hb3 : badB (fs ++ ps.take k) (c.map (- ·)) = false := by simpa using hb2
                    have HB2 := Hd.mk hb3
                    have HGO2 := Hd.mk (show chkEnd fs ps = k by unfold chkEnd; rw [HGO.out, HGD.out, if_neg hb2])
                    clear hb2 hb3
                    go_wp2_with (first
                      | (go_at_call 31; refine (implies_any (fs ++ ps.take k) x bw bk css wl tr (rngU n.toNat) _ c w _ _ HIP2.out H3.out false HB2.out).mono ?_; rintro e w5 ⟨rfl, css5, wl5, hs5, hbok5, hst5⟩; have H5 := Hd.mk hst5; clear hst5 hs5 hbok5))
                    go_ret2
                    exact ⟨by rw [hr'.out, HGO2.out]; rfl, H5.out.below⟩
              · have HEND := Hd.mk (show chkEnd fs ps = if lastLen ps = 0 then -1 else (ps.length : Int) by
                  unfold chkEnd
                  rw [HGO.out, show ps.drop k = [] from List.drop_eq_nil_of_le (by omega)]
                  rfl)
                clear hs
                by_cases h0 : ps.length = 0
                · have hb0 : ¬ (0 : Int) < (ps.length : Int) := by omega
                  have HE := Hd.mk (show chkEnd fs ps = (ps.length : Int) by
                    rw [HEND.out, if_neg]
                    rw [List.eq_nil_of_length_eq_zero h0]
                    decide)
                  clear h0
                  go_wp2
                  go_ret2
                  exact ⟨by rw [hr'.out, HE.out]; rfl, HBEL.out⟩
                · have hb0 : (0 : Int) < (ps.length : Int) := by omega
                  obtain ⟨b, off, u, rfl, hcell0, hu0⟩ := HC2.out (ps.length - 1) (by omega)
                  have hcell := (HBEL.out.cell (World.block_lt_of_cell? w _ hcell0)).trans hcell0
                  obtain ⟨a5, c5, hu5, _⟩ := hu0.shape
                  have HLL := Hd.mk (lastLen_get (ps := ps) (by omega))
                  have hpos : (1 : Int) ≤ (ps.length : Int) := by omega
                  subst hu5
                  clear hcell0 hu0
                  generalize ps[ps.length - 1] = p at *
                  by_cases hp : p.length = 0
                  · have hp0 : ((p.length : Int) == 0) = true := by simp [hp]
                    have HE := Hd.mk (show chkEnd fs ps = -1 by rw [HEND.out, if_pos (by rw [HLL.out]; exact hp)])
                    clear hp h0
                    go_wp2
                    go_ret2
                    exact ⟨by rw [hr'.out, HE.out]; rfl, HBEL.out⟩
                  · have hp0 : ((p.length : Int) == 0) = false := by rw [beq_eq_false_iff_ne]; omega
                    have HE := Hd.mk (show chkEnd fs ps = (ps.length : Int) by rw [HEND.out, if_neg (by rw [HLL.out]; exact hp)])
                    clear hp h0
                    go_wp2
                    go_ret2
                    exact ⟨by rw [hr'.out, HE.out]; rfl, HBEL.out⟩
  · have hb : (cnfCheck n fs != 0) = true := by simp [h1]
    have hr := Hd.mk (show chkRes n fs ps = (0, cnfCheck n fs) by rw [chkRes, if_pos h1])
    clear h1
    go_enter Try.func13, Try.ntmps13
    go_wp2_with (first | (go_at_call 29; refine (ccheck_any _ _ _ _ HN.out (HV.out.below HST.out.below) HIF.out).mono ?_; rintro e w2 ⟨rfl, hb2⟩; have HST2 := Hd.mk (HST.out.quiet hb2); clear hb2))
    go_ret2
    exact ⟨by rw [hr.out]; rfl, HST2.out.below⟩
end Go.Proofs.Ytneibkemhmneoaa
