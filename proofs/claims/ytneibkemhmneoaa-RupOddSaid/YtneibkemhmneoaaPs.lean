/- Words: the memory of unit propagation; contract: set. -/
import Derived.Test.YtneibkemhmneoaaCh
import Derived.Test.YtneibkemhmneoaaBm
namespace Go.Proofs.Ytneibkemhmneoaa
set_option linter.unusedVariables false
set_option linter.unusedSimpArgs false
open Go.RowKit Go.Conc

/-- The channel of literals that were not looked at. -/
def Cn (bc cap : Nat) (tr : List Int) (dn : Nat) : As := Blk bc (.chan cap (ints (tr.drop dn)).toArray false tr.length dn false)
/-- The struct, what is known, the channel. -/
def PS (x bk bc : Nat) (v0 v1 v2 : Value) (cap : Nat) (tr : List Int) (dn : Nat) : As := fun g => Star [Blk x (.cells #[v0, v1, v2, .map (some bk), .chan (some bc)] 75 (0, 0)), KB bk (knO tr), Cn bc cap tr dn] g

/-- A literal is made known. -/
def addL (tr : List Int) (a : Int) : List Int := if -a ∈ tr then tr else if a ∈ tr then tr else tr ++ [a]
theorem addL_bad {tr : List Int} {a : Int} (h : -a ∈ tr) : addL tr a = tr := by simp [addL, h]
theorem addL_old {tr : List Int} {a : Int} (h : a ∈ tr) : addL tr a = tr := by simp [addL, h]
theorem addL_new {tr : List Int} {a : Int} (h1 : -a ∉ tr) (h2 : a ∉ tr) : addL tr a = tr ++ [a] := by simp [addL, h1, h2]

section
variable {W w : World} {l : List As} {x bk bc : Nat} {v0 v1 v2 : Value} {cap : Nat} {tr : List Int} {dn : Nat}
theorem St.psOpen (h : St W w (PS x bk bc v0 v1 v2 cap tr dn :: l)) : St W w (Blk x (.cells #[v0, v1, v2, .map (some bk), .chan (some bc)] 75 (0, 0)) :: KB bk (knO tr) :: Cn bc cap tr dn :: l) := h.open (fun g p => p)
theorem St.psShut (h : St W w (Blk x (.cells #[v0, v1, v2, .map (some bk), .chan (some bc)] 75 (0, 0)) :: KB bk (knO tr) :: Cn bc cap tr dn :: l)) : St W w (PS x bk bc v0 v1 v2 cap tr dn :: l) :=
  St.close (ps := [_, _, _]) h (fun g p => p)
theorem St.psKn (h : St W w (PS x bk bc v0 v1 v2 cap tr dn :: l)) {y : Int} (hx : Lt40 y) {r : Bool} (hr : knO tr y = r) : (Instr.lookup 63 (.map (some bk)) (.int .i64 y) false).run Try.prog w = .ok (.bool r) w :=
  h.psOpen.p1.kbLook hx hr
theorem St.psCells (h : St W w (PS x bk bc v0 v1 v2 cap tr dn :: l)) : w.cell? ⟨x, 0, none⟩ = some v0 ∧ w.cell? ⟨x, 1, none⟩ = some v1 ∧ w.cell? ⟨x, 2, none⟩ = some v2 ∧ w.cell? ⟨x, 3, none⟩ = some (.map (some bk)) ∧ w.cell? ⟨x, 4, none⟩ = some (.chan (some bc)) ∧
    (∀ j, w.frozen? ⟨x, j, none⟩ = false) ∧ w.heap[bc]? = some (.chan cap (ints (tr.drop dn)).toArray false tr.length dn false) := by
  have h := h.psOpen
  refine ⟨?_, ?_, ?_, ?_, ?_, fun j => h.free j, h.p2.blk⟩ <;> rw [h.cell] <;> rfl
end

section
variable (x bk bc : Nat) (v0 v1 v2 : Value) (cap : Nat) (tr : List Int) (dn : Nat) (a : Int) (W w : World) (l : List As)

theorem pset_bad (hst : St W w (PS x bk bc v0 v1 v2 cap tr dn :: l)) (ha : Lt40 a) (h1 : -a ∈ tr) :
    Calls Try.prog 42 #[.pointer (some ⟨x, 0, none⟩), .int .i64 a] w fun e w' => e = .returned (.bool false) ∧ w' = w := by
  obtain ⟨c0, c1, c2, c3, c4, hf, hc⟩ := hst.psCells
  have hl := hst.psKn ha.neg (r := true) (by simpa using h1)
  have hn1 := ha.1
  have hn2 := ha.2
  clear c0 c1 c2 c4 hf hc hst h1 ha
  go_enter Try.func42, Try.ntmps42
  go_wp2
  go_ret
  exact ⟨rfl, rfl⟩

theorem pset_old (hst : St W w (PS x bk bc v0 v1 v2 cap tr dn :: l)) (ha : Lt40 a) (h1 : -a ∉ tr) (h2 : a ∈ tr) :
    Calls Try.prog 42 #[.pointer (some ⟨x, 0, none⟩), .int .i64 a] w fun e w' => e = .returned (.bool true) ∧ w' = w := by
  obtain ⟨c0, c1, c2, c3, c4, hf, hc⟩ := hst.psCells
  have hl := hst.psKn ha.neg (r := false) (by simpa using h1)
  have hl2 := hst.psKn ha (r := true) (by simpa using h2)
  have hn1 := ha.1
  have hn2 := ha.2
  clear c0 c1 c2 c4 hf hc hst h1 ha h2
  go_enter Try.func42, Try.ntmps42
  go_wp2
  go_ret
  exact ⟨rfl, rfl⟩

set_option maxRecDepth 8000 in
theorem pset_new (hst : St W w (PS x bk bc v0 v1 v2 cap tr dn :: l)) (ha : Lt40 a) (h1 : -a ∉ tr) (h2 : a ∉ tr) (hlt : ∀ y ∈ tr, Lt40 y) (hdn : dn ≤ tr.length) (hroom : tr.length < cap) :
    Calls Try.prog 42 #[.pointer (some ⟨x, 0, none⟩), .int .i64 a] w fun e w' => e = .returned (.bool true) ∧ St W w' (PS x bk bc v0 v1 v2 cap (tr ++ [a]) dn :: l) := by
  obtain ⟨c0, c1, c2, c3, c4, hf, hc⟩ := hst.psCells
  have hl := hst.psKn ha.neg (r := false) (by simpa using h1)
  have hl2 := hst.psKn ha (r := false) (by simpa using h2)
  have hn1 := ha.1
  have hn2 := ha.2
  have HA := Hd.mk ha
  have HLT := Hd.mk (show ∀ y, knO tr y = true → Lt40 y from fun y hy => hlt y (by simpa using hy))
  have HOP := Hd.mk hst.psOpen
  clear c0 c1 c2 c4 hf hc hst h1 ha h2 hlt
  refine calls_nw Try.func42 rfl ?_
  simp only [Try.ntmps42, List.size_toArray, List.length_cons, List.length_nil, Nat.reduceAdd, Nat.reduceSub, Array.replicate_succ, Array.replicate_zero, List.push_toArray, List.append_toArray, List.nil_append, List.cons_append]
  refine nw_seq (nw_wp ?_)
  go_wp2
  refine nw_seq (nw_wp ?_)
  go_wp2
  refine nw_seq (nw_seq (nw_wp ?_))
  go_wp2
  refine nw_cond (v := true) rfl ?_
  simp only [if_true]
  refine nw_seq (nw_wp ?_)
  go_wp2_with (at_mapUpdate; go_must (refine wpList_store_kb rfl _ _ _ rfl _ _ _ _ rfl rfl rfl HOP.out.p1 HA.out HLT.out ?_); intro w1 hst1; have HST1 := Hd.mk hst1.p1; clear hst1; have d4 := HST1.out.cell 4; simp only [List.getElem?_toArray, List.getElem?_cons_zero, List.getElem?_cons_succ] at d4)
  refine nw_region ?_
  simp only [List.size_toArray, List.length_cons, List.length_nil, Nat.reduceAdd, Nat.zero_add, List.range, List.range.loop]
  walk_nrm
  iterate 5 (refine no_value rfl rfl (by go_simp; exact ⟨rfl, rfl⟩) ?_; walk_nrm)
  refine no_send (ch := bc) (cap := cap) (buf := (ints (tr.drop dn)).toArray) (s := tr.length) (r := dn) (v := .int .i64 a) (z := .tuple #[]) (tm := false) rfl rfl (by simp [go_sem, scase]) HST1.out.p2.blk (by simp [ints]; omega) (no_end ?_)
  simp only [Exit.then]
  refine nw_wp ?_
  go_wp2
  go_ret
  refine ⟨rfl, ?_⟩
  have h2 := (HST1.out.p2.setChan cap ((ints (tr.drop dn)).toArray.push (.int .i64 a)) false (tr.length + 1) dn false).q2
  have e1 : (fun y => decide (y = a) || knO tr y) = knO (tr ++ [a]) := funext fun y => by simp [knO, Bool.or_comm, Bool.decide_or]
  have e2 : (ints (tr.drop dn)).toArray.push (.int .i64 a) = (ints ((tr ++ [a]).drop dn)).toArray := by
    rw [List.drop_append_of_le_length hdn]; simp [ints]
  have e3 : (ints (tr.drop dn) ++ [Value.int .i64 a]).toArray = (ints ((tr ++ [a]).drop dn)).toArray := by
    rw [List.drop_append_of_le_length hdn]; simp [ints]
  rw [e1, e2] at h2
  rw [e3]
  exact St.psShut (by simpa [Cn] using h2)

/-- set, whatever is known. -/
theorem pset_any (hst : St W w (PS x bk bc v0 v1 v2 cap tr dn :: l)) (ha : Lt40 a) (hlt : ∀ y ∈ tr, Lt40 y) (hdn : dn ≤ tr.length) (hroom : tr.length < cap) :
    Calls Try.prog 42 #[.pointer (some ⟨x, 0, none⟩), .int .i64 a] w fun e w' => e = .returned (.bool (decide (-a ∉ tr))) ∧ St W w' (PS x bk bc v0 v1 v2 cap (addL tr a) dn :: l) := by
  by_cases h1 : -a ∈ tr
  · exact (pset_bad x bk bc v0 v1 v2 cap tr dn a W w l hst ha h1).mono fun e w' ⟨he, hw⟩ => ⟨by simp [he, h1], by rw [hw, addL_bad h1]; exact hst⟩
  · by_cases h2 : a ∈ tr
    · exact (pset_old x bk bc v0 v1 v2 cap tr dn a W w l hst ha h1 h2).mono fun e w' ⟨he, hw⟩ => ⟨by simp [he, h1], by rw [hw, addL_old h2]; exact hst⟩
    · exact (pset_new x bk bc v0 v1 v2 cap tr dn a W w l hst ha h1 h2 hlt hdn hroom).mono fun e w' ⟨he, hw⟩ => ⟨by simp [he, h1], by rw [addL_new h1 h2]; exact hw⟩
end
end Go.Proofs.Ytneibkemhmneoaa
