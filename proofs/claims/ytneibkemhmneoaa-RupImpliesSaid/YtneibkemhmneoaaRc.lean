/- Contracts: the reference's check of a proof. -/
import Derived.Test.YtneibkemhmneoaaRq
import Derived.Laws.AppendOwnNone
namespace Go.Proofs.Ytneibkemhmneoaa
set_option linter.unusedVariables false
set_option linter.unusedSimpArgs false
open Go.RowKit

theorem litCheck_ok {n : Int} {c : List Int} (h : litCheck n c = 0) : 0 ≤ n ∧ n ≤ 1048576 ∧ c.length ≤ 4096 ∧ ∀ x ∈ c, x ≠ 0 ∧ -n ≤ x ∧ x ≤ n := by
  unfold litCheck at h
  split at h
  · cases h
  · rename_i h1
    split at h
    · cases h
    · rename_i h2
      split at h
      · cases h
      · rename_i h3
        refine ⟨by omega, by omega, by omega, fun x hx => ?_⟩
        have h4 : badLit n x = false := by
          cases hb : badLit n x with
          | false => rfl
          | true => exact absurd (List.any_eq_true.2 ⟨x, hx, hb⟩) h3
        simp only [badLit, Bool.or_eq_false_iff, beq_eq_false_iff_ne, decide_eq_false_iff_not] at h4
        exact ⟨h4.1, by omega, by omega⟩

theorem firstErr_ok {n : Int} : ∀ {css : List (List Int)}, firstErr n css = 0 → ∀ c ∈ css, litCheck n c = 0
  | [], _, c, hc => by cases hc
  | d :: css, h, c, hc => by
    unfold firstErr at h
    split at h
    · rename_i h1; exact absurd h h1
    · rename_i h1
      rcases List.mem_cons.1 hc with rfl | hc
      · simpa using h1
      · exact firstErr_ok h c hc

theorem cnfCheck_ok {n : Int} {css : List (List Int)} (h : cnfCheck n css = 0) : 0 ≤ n ∧ n ≤ 1048576 ∧ css.length ≤ 1048576 ∧ ∀ c ∈ css, litCheck n c = 0 := by
  unfold cnfCheck at h
  split at h
  · cases h
  · rename_i h1
    split at h
    · cases h
    · rename_i h2
      exact ⟨by omega, by omega, by omega, firstErr_ok h⟩

theorem lits_of_check {n : Int} {c : List Int} (h : litCheck n c = 0) : ∀ x ∈ c, Lt40 x ∧ x ≠ 0 := by
  obtain ⟨h1, h2, _, h3⟩ := litCheck_ok h
  intro x hx
  obtain ⟨a, b, d⟩ := h3 x hx
  exact ⟨⟨by omega, by omega⟩, a⟩

/-- The first clause that is not implied by those before it. -/
noncomputable def chkGo (cls : List (List Int)) : List (List Int) → Nat → Option Nat
  | [], _ => none
  | p :: ps, k => if badB cls (p.map (- ·)) = true then chkGo (cls ++ [p]) ps (k + 1) else some k
def lastLen (ps : List (List Int)) : Nat := (ps.getLast?.map List.length).getD 1
noncomputable def chkEnd (fs ps : List (List Int)) : Int := match chkGo fs ps 0 with
  | some k => k
  | none => if lastLen ps = 0 then -1 else ps.length
noncomputable def chkRes (n : Int) (fs ps : List (List Int)) : Int × Int :=
  if cnfCheck n fs ≠ 0 then (0, cnfCheck n fs) else if firstErr n ps ≠ 0 then (0, firstErr n ps) else (chkEnd fs ps, 0)

theorem chkGo_drop {cls ps : List (List Int)} {k : Nat} (hk : k < ps.length) : chkGo cls (ps.drop k) k = if badB cls (ps[k].map (- ·)) = true then chkGo (cls ++ [ps[k]]) (ps.drop (k + 1)) (k + 1) else some k := by
  rw [List.drop_eq_getElem_cons hk, chkGo]

section
variable {P : Program} {W w : World} {E : TypeId} {v : Value} {xs : List Value} {l : List As}
/-- append of a slice that is read. -/
theorem St.appendRd (h : St W w (Sl E v xs :: l)) (t ty : TypeId) (z : Value) (bytes : Nat) (ht : P.underlying t = some (.slice E)) (hinfo : (P.info? E).map (fun i => (i.zero, i.size, i.bytes)) = some (some z, 1, bytes))
    (hz : z.cells.size = 1) (hb : bytes ≤ 64) (u : Value) (ys : List Value) (hu : Rd w u ys) (h1 : ∀ y ∈ ys, y.oneCell' = true) (hn : xs.length + ys.length ≤ 1099511627776) :
    ∃ v' w', (Builtin.append_ #[t, t] ty #[v, u]).run P w = .ok v' w' ∧ St W w' (Sl E v' (xs ++ ys) :: l) := by
  obtain ⟨a, cap, rfl, hc, hr⟩ := hu
  cases a with
  | some ad =>
    refine h.append_run t ty z bytes ht hinfo hz hb ad cap ys (fun j y hj => ?_) h1 hn
    rcases hr with rfl | ⟨b, off, he, hr⟩
    · simp at hj
    · cases he
      have := hr j y hj
      rw [Addr.add_lit]
      exact this
  | none =>
    rcases hr with rfl | ⟨b, off, he, _⟩
    · obtain ⟨i, hi, _⟩ := info_parts hinfo
      refine ⟨v, w, ?_, by simpa using h⟩
      obtain ⟨_, p, _⟩ := h.get
      rcases p with ⟨ao, rfl, _⟩ | ⟨g, cp, cur, rfl, _, hnc, _⟩
      · cases ao <;> simp [Builtin.append_, run_underlying ht, sizeOf, typeInfo, hi, Builtin.lenOf, Builtin.firstCells, storeCells]
      · simp [Builtin.append_, run_underlying ht, sizeOf, typeInfo, hi, Builtin.lenOf, Builtin.firstCells, hnc, storeCells]
    · cases he

theorem wpList_appendRd {ops : Array Oper} {rest : List Oper} {o : Oper} {a : Act} {Q : Exit → Act → World → Prop} (hgd : o.guard = none) (s x : Operand) (t : TypeId)
    (ho : o.op = .call { callee := .builtin .append, args := #[s, x], argTypes := #[t, t] })
    (E : TypeId) (z : Value) (bytes : Nat) (ht : P.underlying t = some (.slice E)) (hinfo : (P.info? E).map (fun i => (i.zero, i.size, i.bytes)) = some (some z, 1, bytes)) (hz : z.cells.size = 1) (hb : bytes ≤ 64)
    (v : Value) (xs : List Value) (l : List As) (hs : a.eval s = v) (h : St W w (Sl E v xs :: l)) (u : Value) (ys : List Value) (hx : a.eval x = u) (hu : Rd w u ys) (h1 : ∀ y ∈ ys, y.oneCell' = true) (hn : xs.length + ys.length ≤ 1099511627776)
    (hK : ∀ v' w', St W w' (Sl E v' (xs ++ ys) :: l) → wpList P ops Q rest (a.put o.dst v') w') :
    wpList P ops Q (o :: rest) a w := by
  refine wpList_plain hgd fun K hK' => ?_
  obtain ⟨v', w', hr, h2⟩ := h.appendRd (P := P) t o.type z bytes ht hinfo hz hb u ys hu h1 hn
  unfold Oper.wp execOp
  simp only [ho, resolve, invoke, builtin, Sem.run_bind, Sem.run_pure, Result.andThen_ok, List.map_toArray, List.map_cons, List.map_nil, hs, hx, hr]
  exact hK' _ _ (hK v' w' h2)
end

theorem Rd.one {w : World} {v : Value} {xs : List Value} (h : Rd w v xs) : ∃ a n c, v = .slice a n c := by
  obtain ⟨a, cap, rfl, _⟩ := h
  exact ⟨_, _, _, rfl⟩

/-- Rows that are read, wherever they lie. -/
def Rows3 (w : World) (vs : List Value) (css : List (List Int)) : Prop := vs.length = css.length ∧ ∀ (j : Nat) u c, vs[j]? = some u → css[j]? = some c → RdI w u c
theorem Rows3.one {w : World} {vs : List Value} {css : List (List Int)} (h : Rows3 w vs css) : ∀ y ∈ vs, y.oneCell' = true := by
  intro y hy
  obtain ⟨j, hj, rfl⟩ := List.getElem_of_mem hy
  obtain ⟨a, n, c, e⟩ := Rd.one (h.2 j _ _ (List.getElem?_eq_getElem hj) (List.getElem?_eq_getElem (by have := h.1; omega)))
  rw [e]
  rfl
theorem Rows3.below {w w' : World} {vs : List Value} {css : List (List Int)} (h : Rows3 w vs css) (hb : Below w.heap.size w w') : Rows3 w' vs css := ⟨h.1, fun j u c hu hc => (h.2 j u c hu hc).below hb⟩
theorem Rows3.snoc {w : World} {vs : List Value} {css : List (List Int)} {u : Value} {c : List Int} (h : Rows3 w vs css) (hu : RdI w u c) : Rows3 w (vs ++ [u]) (css ++ [c]) := by
  refine ⟨by simp [h.1], fun j x y hx hy => ?_⟩
  by_cases hj : j < vs.length
  · rw [List.getElem?_append_left hj] at hx
    rw [List.getElem?_append_left (by rw [← h.1]; exact hj)] at hy
    exact h.2 j x y hx hy
  · rw [List.getElem?_append_right (by omega)] at hx
    rw [List.getElem?_append_right (by rw [← h.1]; omega)] at hy
    rw [← h.1] at hy
    cases hk : j - vs.length with
    | zero =>
      rw [hk] at hx hy
      simp at hx hy
      rw [← hx, ← hy]
      exact hu
    | succ m => rw [hk] at hx; simp at hx
theorem Rows3.rdL {w : World} {v : Value} {vs : List Value} {css : List (List Int)} (h : Rows3 w vs css) (hr : Rd w v vs) : RdL w v css := ⟨vs, hr, h.1, h.2⟩
theorem RdL.rows {w : World} {v : Value} {css : List (List Int)} (h : RdL w v css) : ∃ vs, Rd w v vs ∧ Rows3 w vs css := let ⟨vs, h1, h2, h3⟩ := h; ⟨vs, h1, h2, h3⟩

theorem rfails_is (v u : Value) (css : List (List Int)) (asm : List Int) (w : World) (hv : RdL w v css) (hu : RdI w u asm) (hmax : (css.length : Int) ≤ 1000000000) (hmx : ∀ c ∈ css, (c.length : Int) ≤ 1000000000)
    (hla : (asm.length : Int) ≤ 1000000000) (hN : ∀ c ∈ css, ∀ x ∈ c, Lt40 x ∧ x ≠ 0) (hA : ∀ x ∈ asm, Lt40 x ∧ x ≠ 0) (r : Bool) (hr : badB css asm = r) :
    Calls Try.prog 38 #[v, u] w fun e w' => e = .returned (.bool r) ∧ Below w.heap.size w w' :=
  (rfails_any v u css asm w hv hu hmax hmx hla hN hA).mono fun _ _ ⟨h1, h2⟩ => ⟨by rw [h1, hr], h2⟩

theorem lastLen_get {ps : List (List Int)} (h : 0 < ps.length) : lastLen ps = (ps[ps.length - 1]'(by omega)).length := by
  unfold lastLen
  rw [List.getLast?_eq_getElem?, List.getElem?_eq_getElem (by omega)]
  rfl

/-- The clauses so far are fit for propagation. -/
structure Fine (css : List (List Int)) : Prop where
  len : ∀ c ∈ css, c.length ≤ 4096
  lit : ∀ c ∈ css, ∀ x ∈ c, Lt40 x ∧ x ≠ 0
theorem Fine.of_check {n : Int} {css : List (List Int)} (h : ∀ c ∈ css, litCheck n c = 0) : Fine css := ⟨fun c hc => (litCheck_ok (h c hc)).2.2.1, fun c hc => lits_of_check (h c hc)⟩
theorem Fine.append {a b : List (List Int)} (h : Fine a) (k : Fine b) : Fine (a ++ b) :=
  ⟨fun c hc => (List.mem_append.1 hc).elim (h.len c) (k.len c), fun c hc => (List.mem_append.1 hc).elim (h.lit c) (k.lit c)⟩
theorem Fine.take {a : List (List Int)} (h : Fine a) (k : Nat) : Fine (a.take k) := ⟨fun c hc => h.len c (List.mem_of_mem_take hc), fun c hc => h.lit c (List.mem_of_mem_take hc)⟩

set_option maxHeartbeats 4000000 in
theorem rchk_any (n : Int) (v u : Value) (fs ps : List (List Int)) (w : World) (hv : RdL w v fs) (hu : RdL w u ps) (hn : In64 n) (hif : InL fs) (hip : InL ps) (hmf : (fs.length : Int) ≤ 140737488355328) (hmp : (ps.length : Int) ≤ 1000000) :
    Calls Try.prog 14 #[.agg #[.int .i64 n, v], u] w fun e w' => e = .returned (.tuple #[.int .i64 (chkRes n fs ps).1, .int .i64 (chkRes n fs ps).2]) ∧ Below w.heap.size w w' := by
  obtain ⟨a, cap, rfl, hcap, hcell⟩ := hv.shape
  obtain ⟨a2, cap2, rfl, hcap2, hcell2⟩ := hu.shape
  have HB := Hd.mk ((Below.refl w.heap.size w).alloc (Nat.le_refl _) (.cells #[.int .i64 n, .slice a fs.length cap] 25))
  have HST := Hd.mk ((St.refl w).alloc (.cells #[.int .i64 n, .slice a fs.length cap] 25))
  have HC2 := Hd.mk hcell2
  have HV := Hd.mk hv
  have HIF := Hd.mk hif
  have HIP := Hd.mk hip
  have HN := Hd.mk hn
  clear hcell hcell2 hcap hcap2 hu hv hif hip hn
  by_cases h1 : cnfCheck n fs = 0
  · have hb : (cnfCheck n fs != 0) = false := by simp [h1]
    have hr := Hd.mk (show chkRes n fs ps = if firstErr n ps ≠ 0 then (0, firstErr n ps) else (chkEnd fs ps, 0) by rw [chkRes, if_neg (by simp [h1])])
    have H1 := Hd.mk h1
    clear h1
    go_enter Try.func14, Try.ntmps14
    go_wp2_with (first | (go_at_call 36; refine (rccheck_any _ _ _ _ HN.out (HV.out.below HB.out) HIF.out).mono ?_; rintro e w2 ⟨rfl, hb2⟩; have HST2 := Hd.mk (HST.out.quiet hb2); clear hb2; have c0 := HST2.out.cell 0; have c1 := HST2.out.cell 1; simp only [List.getElem?_toArray, List.getElem?_cons_zero, List.getElem?_cons_succ] at c0 c1))
    have H2 := Hd.mk (cnfCheck_ok H1.out)
    clear HB HST
    go_loopw [7] (fun i wr => ∃ k : Nat, k ≤ ps.length ∧ i = .int .i64 k ∧ Hd (firstErr n ps = firstErr n (ps.drop k)) ∧ Dr w2 wr) (fun i _ => ps.length - (intOf i).toNat)
    case atStart => exact ⟨0, Nat.zero_le _, rfl, ⟨by simp⟩, Dr.refl _⟩
    case round =>
      obtain ⟨k, hk, rfl, hf, hD⟩ := hrel
      have d0 := (hD.cell _).trans c0
      have d1 := (hD.cell _).trans c1
      clear c0 c1
      by_cases hlt : k < ps.length
      · obtain ⟨b, off, u, rfl, hcell0, hu0⟩ := HC2.out k hlt
        have hcell := (hD.cell _).trans ((HST2.out.below.cell (World.block_lt_of_cell? w _ hcell0)).trans hcell0)
        have hu := Hd.mk (hD.rdI (hu0.below HST2.out.below))
        have hin : ∀ x ∈ ps[k], In64 x := HIP.out _ (List.getElem_mem hlt)
        have hd := Hd.mk (firstErr_drop (n := n) hlt)
        have hki : (k : Int) < (ps.length : Int) := by omega
        have hk0 : (0 : Int) ≤ (k : Int) := by omega
        clear hcell0 hu0
        by_cases he : litCheck n ps[k] = 0
        · have hg : (litCheck n ps[k] != 0) = false := by simp [he]
          have he' := Hd.mk he
          clear he
          go_wp2_with fail
          go_quiet ((go_at_call 37; exact Calls.qs (rlcheck_any _ _ _ _ HN.out (by exact hu.out) hin)))
          go_wp2
          go_roundw
          case rel => exact ⟨k + 1, by omega, by go_num, ⟨by rw [hf.out, hd.out, he'.out]; simp⟩, hD.step _⟩
          case measure => simp [intOf]; omega
        · have hg : (litCheck n ps[k] != 0) = true := by simp [he]
          have he' := Hd.mk he
          clear he
          go_wp2_with fail
          go_quiet ((go_at_call 37; exact Calls.qs (rlcheck_any _ _ _ _ HN.out (by exact hu.out) hin)))
          go_wp2
          go_ret2
          refine ⟨?_, (hD.step _).belows HST2.out.below⟩
          rw [hr.out, hf.out, hd.out, if_pos he'.out, if_pos he'.out]
          rfl
      · have hf0 := Hd.mk (show firstErr n ps = 0 by rw [hf.out, show ps.drop k = [] from List.drop_eq_nil_of_le (by omega)]; rfl)
        have hr' := Hd.mk (show chkRes n fs ps = (chkEnd fs ps, 0) by rw [hr.out, hf0.out]; simp)
        have HFF := Hd.mk (Fine.of_check H2.out.2.2.2)
        have HFP := Hd.mk (Fine.of_check (firstErr_ok hf0.out))
        have hlf : (fs.length : Int) ≤ 1048576 := by have := H2.out.2.2.1; omega
        have HST3 := Hd.mk (hD.st HST2.out)
        have HBW := Hd.mk (hD.belows HST2.out.below)
        obtain ⟨vs, hrd, hrows⟩ := HV.out.rows
        have HRD := Hd.mk (hrd.below HST3.out.below)
        have HROWS := Hd.mk hrows
        have HLV := Hd.mk (show (([] : List Value)).length + vs.length ≤ 1099511627776 by rw [hrows.1]; simp; omega)
        clear hrd hrows HST2 hf hf0 H2 hr H1
        go_wp2_with (first | (at_builtin; go_must (refine wpList_appendRd rfl _ _ 23 rfl 29 (.slice none 0 0) 24 Try.underlying23 info29 rfl (by decide) _ [] _ rfl (HST3.out.sl_nil 29) _ vs rfl HRD.out HROWS.out.one HLV.out ?_); intro v' w1 hst1; obtain ⟨a3, n3, c3, rfl⟩ := hst1.shape; have hst1' := Hd.mk hst1; clear hst1))
        clear hD d0 d1 hlt hk
        go_loopw [9, 10] (fun t i wr => ∃ k : Nat, k ≤ ps.length ∧ i = .int .i64 k ∧ Hd (∃ vs, St w wr [Sl 29 t vs, Blk w.heap.size (.cells #[.int .i64 n, .slice a fs.length cap] 25)] ∧ Rows3 w vs (fs ++ ps.take k) ∧ chkGo fs ps 0 = chkGo (fs ++ ps.take k) (ps.drop k) k)) (fun _ i _ => ps.length - (intOf i).toNat)
        case atStart => exact ⟨0, Nat.zero_le _, rfl, ⟨vs, hst1'.out, by simpa using HROWS.out, by simp⟩⟩
        case round =>
          clear hst1' HROWS HRD HST3 HBW HLV
          obtain ⟨k, hk, rfl, ⟨vs, hst, hrows, hgo⟩⟩ := hrel
          have HST := Hd.mk hst
          have HROWS := Hd.mk hrows
          have HGO := Hd.mk hgo
          clear hst hrows hgo
          by_cases hlt : k < ps.length
          · obtain ⟨b, off, u, rfl, hcell0, hu0⟩ := HC2.out k hlt
            have hcell := (HST.out.below.cell (World.block_lt_of_cell? w _ hcell0)).trans hcell0
            obtain ⟨a5, c5, hu5, _⟩ := hu0.shape
            have hu := Hd.mk hu0
            have HFK := Hd.mk (HFF.out.append (HFP.out.take k))
            have HMEM := Hd.mk (List.getElem_mem hlt)
            have HGD := Hd.mk (chkGo_drop (cls := fs ++ ps.take k) hlt)
            have HTS := Hd.mk (take_succ_get hlt)
            have HLEN := Hd.mk (show ((fs ++ ps.take k).length : Int) ≤ 1000000000 by rw [List.length_append, List.length_take]; omega)
            subst hu5
            have hcell00 := Hd.mk hcell0
            clear hcell0 hu0
            generalize ps[k] = p at *
            have hlp : (p.length : Int) ≤ 1000000000 := by have := HFP.out.len _ HMEM.out; omega
            have HNG := Hd.mk (show ∀ x ∈ p, Ng64 x from fun x hx => by
              have := (HFP.out.lit _ HMEM.out x hx).1
              exact ⟨by have := this.1; omega, by have := this.2; omega⟩)
            have HNL := Hd.mk (show ∀ x ∈ p.map (- ·), Lt40 x ∧ x ≠ 0 from fun x hx => by
              obtain ⟨y, hy, rfl⟩ := List.mem_map.1 hx
              have := HFP.out.lit _ HMEM.out y hy
              exact ⟨this.1.neg, by have := this.2; omega⟩)
            have hlp2 := Hd.mk (show ((p.map (- ·)).length : Int) ≤ 1000000000 by rw [List.length_map]; exact hlp)
            by_cases hb : badB (fs ++ ps.take k) (p.map (- ·)) = true
            · have HB := Hd.mk hb
              have HGO2 := Hd.mk (show chkGo fs ps 0 = chkGo (fs ++ ps.take (k + 1)) (ps.drop (k + 1)) (k + 1) by rw [HGO.out, HGD.out, if_pos hb, HTS.out, List.append_assoc])
              have HR2 := Hd.mk (show Rows3 w (vs ++ [.slice a5 p.length c5]) (fs ++ ps.take (k + 1)) by rw [HTS.out, ← List.append_assoc]; exact HROWS.out.snoc hu.out)
              have HLV := Hd.mk (show vs.length < 1099511627776 by rw [HROWS.out.1]; have := HLEN.out; omega)
              clear hb
              go_wp2_with (first
                | (go_at_call 39; refine (negatives_any _ _ _ (hu.out.below HST.out.below) hlp HNG.out).mono ?_; rintro e w3 ⟨v3, rfl, hst3⟩; have HST3 := Hd.mk (HST.out.call hst3); clear hst3)
                | (go_at_call 38; refine (rfails_is _ _ _ _ _ ((HROWS.out.below HST3.out.below).rdL HST3.out.p1.rd) HST3.out.rd HLEN.out (fun c hc => by have := HFK.out.len c hc; omega) hlp2.out HFK.out.lit HNL.out _ HB.out).mono ?_; rintro e w4 ⟨rfl, hb4⟩; have HST4 := Hd.mk (HST3.out.quiet hb4).drop; clear hb4; have hcell := (HST4.out.below.cell (World.block_lt_of_cell? w _ hcell00.out)).trans hcell00.out)
                | (at_builtin; go_must (refine wpList_append1 rfl _ _ 23 rfl 29 (.slice none 0 0) 24 Try.underlying23 info29 rfl (by decide) _ _ _ rfl ((HST4.out.alloc _).p1) _ _ (.slice a5 p.length c5) rfl (by simp) rfl HLV.out ?_); intro v2 w5 hst1; have hst1' := Hd.mk hst1.p1.drop; clear hst1))
              go_roundw
              case rel => exact ⟨k + 1, by omega, by go_num, ⟨_, hst1'.out, HR2.out, HGO2.out⟩⟩
              case measure => simp [intOf]; omega
            · have hb' : badB (fs ++ ps.take k) (p.map (- ·)) = false := by simpa using hb
              have HB := Hd.mk hb'
              have HGO2 := Hd.mk (show chkEnd fs ps = k by unfold chkEnd; rw [HGO.out, HGD.out, if_neg hb])
              clear hb hb'
              go_wp2_with (first
                | (go_at_call 39; refine (negatives_any _ _ _ (hu.out.below HST.out.below) hlp HNG.out).mono ?_; rintro e w3 ⟨v3, rfl, hst3⟩; have HST3 := Hd.mk (HST.out.call hst3); clear hst3)
                | (go_at_call 38; refine (rfails_is _ _ _ _ _ ((HROWS.out.below HST3.out.below).rdL HST3.out.p1.rd) HST3.out.rd HLEN.out (fun c hc => by have := HFK.out.len c hc; omega) hlp2.out HFK.out.lit HNL.out _ HB.out).mono ?_; rintro e w4 ⟨rfl, hb4⟩; have HST4 := Hd.mk (HST3.out.quiet hb4).drop; clear hb4))
              go_ret2
              exact ⟨by rw [hr'.out, HGO2.out]; rfl, HST4.out.below⟩
          · have HEND := Hd.mk (show chkEnd fs ps = if lastLen ps = 0 then -1 else (ps.length : Int) by
              unfold chkEnd
              rw [HGO.out, show ps.drop k = [] from List.drop_eq_nil_of_le (by omega)]
              rfl)
            by_cases h0 : ps.length = 0
            · have hb0 : ((ps.length : Int) == 0) = true := by simp [h0]
              have HE := Hd.mk (show chkEnd fs ps = (ps.length : Int) by
                rw [HEND.out, if_neg]
                rw [List.eq_nil_of_length_eq_zero h0]
                decide)
              clear h0
              go_wp2
              go_ret2
              exact ⟨by rw [hr'.out, HE.out]; rfl, HST.out.below⟩
            · have hb0 : ((ps.length : Int) == 0) = false := by rw [beq_eq_false_iff_ne]; omega
              obtain ⟨b, off, u, rfl, hcell0, hu0⟩ := HC2.out (ps.length - 1) (by omega)
              have hcell := (HST.out.below.cell (World.block_lt_of_cell? w _ hcell0)).trans hcell0
              obtain ⟨a5, c5, hu5, _⟩ := hu0.shape
              have HLL := Hd.mk (lastLen_get (ps := ps) (by omega))
              have hpos : (1 : Int) ≤ (ps.length : Int) := by omega
              subst hu5
              clear hcell0 hu0
              generalize ps[ps.length - 1] = p at *
              by_cases hp : p.length = 0
              · have hp0 : ¬ (0 : Int) < (p.length : Int) := by omega
                have HE := Hd.mk (show chkEnd fs ps = -1 by rw [HEND.out, if_pos (by rw [HLL.out]; exact hp)])
                clear hp h0
                go_wp2
                go_ret2
                exact ⟨by rw [hr'.out, HE.out]; rfl, HST.out.below⟩
              · have hp0 : (0 : Int) < (p.length : Int) := by omega
                have HE := Hd.mk (show chkEnd fs ps = (ps.length : Int) by rw [HEND.out, if_neg (by rw [HLL.out]; exact hp)])
                clear hp h0
                go_wp2
                go_ret2
                exact ⟨by rw [hr'.out, HE.out]; rfl, HST.out.below⟩
  · have hb : (cnfCheck n fs != 0) = true := by simp [h1]
    have hr := Hd.mk (show chkRes n fs ps = (0, cnfCheck n fs) by rw [chkRes, if_pos h1])
    clear h1
    go_enter Try.func14, Try.ntmps14
    go_wp2_with (first | (go_at_call 36; refine (rccheck_any _ _ _ _ HN.out (HV.out.below HB.out) HIF.out).mono ?_; rintro e w2 ⟨rfl, hb2⟩; have HST2 := Hd.mk (HST.out.quiet hb2); clear hb2))
    go_ret2
    exact ⟨by rw [hr.out]; rfl, HST2.out.below⟩

end Go.Proofs.Ytneibkemhmneoaa
