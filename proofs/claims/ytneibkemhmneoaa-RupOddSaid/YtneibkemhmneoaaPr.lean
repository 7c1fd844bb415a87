/- Contract: run of the propagation. -/
import Derived.Test.YtneibkemhmneoaaPl
import Derived.Test.YtneibkemhmneoaaBl
import Derived.Deep.LoopGhost
namespace Go.Proofs.Ytneibkemhmneoaa
set_option linter.unusedVariables false
set_option linter.unusedSimpArgs false
open Go.RowKit Go.Conc

/-- A map of slices that is read: its keys and its values by name. -/
def WR (b : Nat) (ks : List Int) (vf : Int → Value) (wl : Int → List Int) : As := fun g =>
  Star (Mp Try.prog b (fun k => if k ∈ ks then some (vf k) else none) :: (ks.filter (fun k => !(fun _ => false : Int → Bool) k)).map (fun k => Sl 3 (vf k) (ints (wl k)))) g
def WRok (ks : List Int) (wl : Int → List Int) : Prop := ks.Nodup ∧ (∀ k, k ∉ ks → wl k = []) ∧ ∀ k ∈ ks, Lt40 k

section
variable {W w : World} {l : List As} {b : Nat} {ks : List Int} {vf : Int → Value} {wl : Int → List Int}
theorem St.wrOpen (h : St W w (WM b (fun _ => false) wl :: l)) : ∃ ks vf, WRok ks wl ∧ St W w (WR b ks vf wl :: l) := by
  obtain ⟨ks, vf, ⟨h1, h2, h3⟩, h⟩ := h.wmOpen
  exact ⟨ks, vf, ⟨h1, fun k hk => h2 k hk rfl, h3⟩, St.close (ps := Mp Try.prog b (fun k => if k ∈ ks then some (vf k) else none) :: (ks.filter (fun k => !(fun _ => false : Int → Bool) k)).map (fun k => Sl 3 (vf k) (ints (wl k)))) h (fun g p => p)⟩

theorem St.wrRow (h : St W w (WR b ks vf wl :: l)) (hk : WRok ks wl) {k : Int} (hx : Lt40 k) : (Instr.lookup 62 (.map (some b)) (.int .i64 k) false).run Try.prog w = .ok ((if k ∈ ks then some (vf k) else none).getD (.slice none 0 0)) w ∧ RdI w ((if k ∈ ks then some (vf k) else none).getD (.slice none 0 0)) (wl k) := by
  have h := h.open (ps := Mp Try.prog b (fun k => if k ∈ ks then some (vf k) else none) :: (ks.filter (fun k => !(fun _ => false : Int → Bool) k)).map (fun k => Sl 3 (vf k) (ints (wl k)))) (fun g p => p)
  refine ⟨St.look (E := 29) h Try.underlying3 Try.underlying62 (zero29 w) (x := k) (by have := hx.1; omega) (by have := hx.2; omega), ?_⟩
  by_cases hm : k ∈ ks
  · simp only [hm, if_true, Option.getD_some]
    obtain ⟨g, p, e⟩ := h.getMem (P := Sl 3 (vf k) (ints (wl k))) (List.mem_cons_of_mem _ (List.mem_append_left _ (List.mem_map.2 ⟨k, List.mem_filter.2 ⟨hm, rfl⟩, rfl⟩)))
    exact p.rd (fun b o e' => (e b o e').2)
  · simp only [hm, if_false, Option.getD_none]
    rw [hk.2.1 k hm]
    exact Rd.nil _
end

/-- How many were received. -/
def rcvd (bc : Nat) (w : World) : Nat := match w.heap[bc]? with
  | some (.chan _ _ _ _ r _) => r
  | _ => 0
theorem St.rcvd {W w : World} {l : List As} {x bk bc : Nat} {v0 v1 v2 : Value} {cap : Nat} {tr : List Int} {dn : Nat} (h : St W w (PS x bk bc v0 v1 v2 cap tr dn :: l)) : rcvd bc w = dn := by
  obtain ⟨_, _, _, _, _, _, hc⟩ := h.psCells
  simp [Ytneibkemhmneoaa.rcvd, hc]

theorem chan_len {w : World} {bc cap s r : Nat} {buf : Array Value} {cl : Bool} (hc : w.heap[bc]? = some (.chan cap buf cl s r false)) (ty : TypeId) : (Builtin.len_ #[73] ty #[.chan (some bc)]).run Try.prog w = .ok (.int .i64 (buf.size : Int)) w := by
  have hg : (getObj bc).run Try.prog w = .ok (.chan cap buf cl s r false) w := by simp [getObj, Sem.run, hc]
  simp [Builtin.len_, run_underlying Try.underlying73, hg, goInt, Result.andThen]

/-- Between rounds. -/
structure PRun (orig : List (List Int)) (asm : List Int) (css : List (List Int)) (wl : Int → List Int) (n : Int) (x bk bc bw : Nat) (v0 v1 : Value) (ks : List Int) (vf : Int → Value) (cap : Nat) (tr0 : List Int) (W : World) (l : List As) (tr : List Int) (dn : Nat) (opn : List Int) (w : World) : Prop where
  ri : RI orig asm css n tr opn (fun _ => tr.take dn)
  dnl : dn ≤ tr.length
  sub : ∀ y ∈ tr0, y ∈ tr
  st : St W w (PS x bk bc v0 v1 (.map (some bw)) cap tr dn :: LL v0 css :: Sl 3 v1 (ints opn) :: WR bw ks vf wl :: l)

/-- Within a round. -/
structure PIn (orig : List (List Int)) (asm : List Int) (css : List (List Int)) (wl : Int → List Int) (n : Int) (x bk bc bw : Nat) (v0 v1 : Value) (ks : List Int) (vf : Int → Value) (cap : Nat) (tr0 : List Int) (W : World) (l : List As) (a : Int) (P0 : List Int) (j : Nat) (tr opn : List Int) (w : World) : Prop where
  ri : RI orig asm css n tr opn (fun k => if (k : Int) ∈ (wl (-a)).take j then P0 ++ [a] else P0)
  pre : P0 ++ [a] <+: tr
  sub : ∀ y ∈ tr0, y ∈ tr
  st : St W w (PS x bk bc v0 v1 (.map (some bw)) cap tr (P0.length + 1) :: LL v0 css :: Sl 3 v1 (ints opn) :: WR bw ks vf wl :: l)

/-- The end. -/
def PEnd (orig : List (List Int)) (asm : List Int) (css : List (List Int)) (n : Int) (x bk bc : Nat) (v0 v1 v2 : Value) (cap : Nat) (tr0 : List Int) (W : World) (l : List As) (e : Ending) (w : World) : Prop :=
  (e = .returned (.bool false) ∧ Bad orig asm ∧ St W w l) ∨
  (e = .returned (.bool true) ∧ ∃ tr opn, RI orig asm css n tr opn (fun _ => tr) ∧ (∀ y ∈ tr0, y ∈ tr) ∧ St W w (PS x bk bc v0 v1 v2 cap tr tr.length :: l))

section
variable {orig : List (List Int)} {asm : List Int} {css : List (List Int)} {wl : Int → List Int} {n : Int} {x bk bc bw : Nat} {v0 v1 : Value} {ks : List Int} {vf : Int → Value} {cap : Nat} {tr0 : List Int} {W : World} {l : List As} {a : Int} {P0 : List Int} {j : Nat} {tr opn : List Int} {w : World}

theorem PRun.start (h : PRun orig asm css wl n x bk bc bw v0 v1 ks vf cap tr0 W l tr P0.length opn w) (ht : tr.take (P0.length + 1) = P0 ++ [a]) {w' : World}
    (hst : St W w' (PS x bk bc v0 v1 (.map (some bw)) cap tr (P0.length + 1) :: LL v0 css :: Sl 3 v1 (ints opn) :: WR bw ks vf wl :: l)) : PIn orig asm css wl n x bk bc bw v0 v1 ks vf cap tr0 W l a P0 0 tr opn w' where
  ri := by
    have e : tr.take P0.length = P0 := by
      have := congrArg (List.take P0.length) ht
      rw [List.take_take] at this
      simpa [Nat.min_eq_left] using this
    have := h.ri
    rw [e] at this
    simpa using this
  pre := by rw [← ht]; exact List.take_prefix _ _
  sub := h.sub
  st := hst

theorem PIn.notin (h : PIn orig asm css wl n x bk bc bw v0 v1 ks vf cap tr0 W l a P0 j tr opn w) : a ∉ P0 ∧ a ∈ tr := by
  obtain ⟨t, ht⟩ := h.pre
  have hn := h.ri.trl.nodup
  rw [← ht] at hn
  have h2 := (List.nodup_append.1 hn).1
  refine ⟨fun hm => ?_, by rw [← ht]; simp⟩
  exact (List.nodup_append.1 h2).2.2 a hm a (by simp) rfl

theorem PIn.last (hC : CI orig css wl n) (h : PIn orig asm css wl n x bk bc bw v0 v1 ks vf cap tr0 W l a P0 (wl (-a)).length tr opn w) : PRun orig asm css wl n x bk bc bw v0 v1 ks vf cap tr0 W l tr (P0.length + 1) opn w where
  ri := by
    have e : tr.take (P0.length + 1) = P0 ++ [a] := by
      obtain ⟨t, ht⟩ := h.pre
      rw [← ht]
      have : P0.length + 1 = (P0 ++ [a]).length := by simp
      rw [this, List.take_left]
    rw [e]
    refine h.ri.congrF (fun i y hy => ?_) (fun i c hc => ?_)
    · obtain ⟨t, ht⟩ := h.pre
      rw [← ht]
      exact List.mem_append_left _ hy
    · simp only [List.take_length]
      by_cases hm : (i : Int) ∈ wl (-a)
      · simp only [hm, if_true]
      · simp only [hm, if_false]
        refine opn1_same (fun hb => hm (((hC.wl (-a)).2 i).2 ⟨by omega, c, by simpa using hc, hb⟩))
  dnl := by
    have := h.pre.length_le
    simpa using this
  sub := h.sub
  st := h.st

theorem addL_pre (tr : List Int) (z : Int) : tr <+: addL tr z := by
  unfold addL
  split
  · exact List.prefix_refl _
  · split
    · exact List.prefix_refl _
    · exact List.prefix_append _ _

theorem CI.wlLen (hC : CI orig css wl n) (y : Int) : (wl y).length ≤ css.length := by
  have h1 : ((wl y).map Int.toNat).Nodup := by
    refine List.Pairwise.map _ (R := fun a b => a ≠ b ∧ 0 ≤ a ∧ 0 ≤ b) (fun a b hab => by omega) ?_
    refine List.Pairwise.imp_of_mem (R := fun a b => a ≠ b) ?_ (hC.wl y).1
    intro a b ha hb hab
    exact ⟨hab, (((hC.wl y).2 a).1 ha).1, (((hC.wl y).2 b).1 hb).1⟩
  have := nodup_lt css.length _ h1 (fun z hz => by
    obtain ⟨i, hi, rfl⟩ := List.mem_map.1 hz
    obtain ⟨_, c, hc, _⟩ := ((hC.wl y).2 i).1 hi
    exact (List.getElem?_eq_some_iff.1 hc).1)
  simpa using this

/-- One clause. -/
theorem PIn.step (hC : CI orig css wl n) (h : PIn orig asm css wl n x bk bc bw v0 v1 ks vf cap tr0 W l a P0 j tr opn w) (hj : j < (wl (-a)).length) :
    ∃ (i : Nat) (c : List Int) (m : Nat), (wl (-a))[j] = (i : Int) ∧ css[i]? = some c ∧ opn[i]? = some ((m : Int) + 1) ∧ m ≤ 1000000000 ∧ c.length ≤ 1000000000 ∧ (∀ y ∈ c, Lt40 y) ∧
      (∀ w', 1 < m → St W w' (PS x bk bc v0 v1 (.map (some bw)) cap tr (P0.length + 1) :: LL v0 css :: Sl 3 v1 (ints (opn.set i m)) :: WR bw ks vf wl :: l) → PIn orig asm css wl n x bk bc bw v0 v1 ks vf cap tr0 W l a P0 (j + 1) tr (opn.set i m) w') ∧
      (∀ w', m ≤ 1 → (pUnit tr c).1 = true → St W w' (PS x bk bc v0 v1 (.map (some bw)) cap (pUnit tr c).2 (P0.length + 1) :: LL v0 css :: Sl 3 v1 (ints (opn.set i m)) :: WR bw ks vf wl :: l) → PIn orig asm css wl n x bk bc bw v0 v1 ks vf cap tr0 W l a P0 (j + 1) (pUnit tr c).2 (opn.set i m) w') ∧
      (m ≤ 1 → (pUnit tr c).1 = false → Bad orig asm) := by
  obtain ⟨h0, c, hc, hb⟩ := ((hC.wl (-a)).2 _).1 (List.getElem_mem hj)
  obtain ⟨hna, hat⟩ := h.notin
  have hi : (wl (-a))[j] = (((wl (-a))[j].toNat : Nat) : Int) := by omega
  generalize (wl (-a))[j].toNat = i at *
  have hnj : (i : Int) ∉ (wl (-a)).take j := fun hm => by
    rw [← hi] at hm
    obtain ⟨k, hk, e⟩ := List.getElem_of_mem hm
    have hk2 : k < j := by simp at hk; omega
    rw [List.getElem_take] at e
    have := (List.getElem_inj (hC.wl (-a)).1).1 e
    omega
  have htk : (wl (-a)).take (j + 1) = (wl (-a)).take j ++ [(i : Int)] := by rw [take_succ_get hj, hi]
  have hF : (fun k : Nat => if k = i then (fun k : Nat => if (k : Int) ∈ (wl (-a)).take j then P0 ++ [a] else P0) i ++ [a] else (fun k : Nat => if (k : Int) ∈ (wl (-a)).take j then P0 ++ [a] else P0) k) = fun k : Nat => if (k : Int) ∈ (wl (-a)).take (j + 1) then P0 ++ [a] else P0 := by
    funext k
    rw [htk]
    by_cases e : k = i
    · subst e; simp [hnj]
    · have e2 : ¬ (k : Int) = (i : Int) := by omega
      simp [e, e2]
  obtain ⟨m, hm1, hm2, hA, hB⟩ := h.ri.step hC hc hb (by simp only [hnj, if_false]; exact hna) hat
  rw [hF] at hA hB
  have hcm := List.mem_of_getElem? hc
  have hnn := hC.nn
  refine ⟨i, c, m, hi, hc, hm1, hm2, hC.len.2 c hcm, fun y hy => (by have := (hC.lit c hcm y hy).1; exact ⟨by omega, by omega⟩), fun w' h1 hst => ⟨hA h1, h.pre, h.sub, hst⟩, fun w' h1 h2 hst => ?_, fun h1 h2 => (hB h1).2 h2⟩
  obtain ⟨hri, z, hz⟩ := (hB h1).1 h2
  have hp := addL_pre tr z
  rw [← hz] at hp
  exact ⟨hri, h.pre.trans hp, fun y hy => hp.subset (h.sub y hy), hst⟩
end


section
variable (orig : List (List Int)) (asm : List Int) (css : List (List Int)) (wl : Int → List Int) (n : Int) (x bk bc bw : Nat) (v0 v1 : Value) (ks : List Int) (vf : Int → Value) (cap : Nat) (tr0 : List Int) (W : World) (l : List As) (dn : Nat) (opn : List Int) (w : World)
set_option maxHeartbeats 4000000 in
set_option maxRecDepth 100000 in
theorem prun_wr (hC : CI orig css wl n) (hK : WRok ks wl) (hcap : n < cap) (h0 : PRun orig asm css wl n x bk bc bw v0 v1 ks vf cap tr0 W l tr0 dn opn w) :
    Calls Try.prog 44 #[.pointer (some ⟨x, 0, none⟩)] w (PEnd orig asm css n x bk bc v0 v1 (.map (some bw)) cap tr0 W l) := by
  have HC := Hd.mk hC
  have HK := Hd.mk hK
  have HCAP := Hd.mk hcap
  have H0 := Hd.mk h0
  clear hC hK hcap h0
  refine calls_nw Try.func44 rfl ?_
  simp only [Try.ntmps44, List.size_toArray, List.length_cons, List.length_nil, Nat.reduceAdd, Nat.reduceSub, Array.replicate_succ, Array.replicate_zero, List.push_toArray, List.append_toArray, List.nil_append, List.cons_append]
  refine nw_seq (nw_wp ?_)
  go_wp2
  refine nw_seq (nw_block (nw_loop (fun a' w' => ∃ u1 u2 u3 u4 u5 u6 u7 u8 u9 u10 u11 u12 u13 u14 u15 u16 u17 u18 u19 u20 u21 u22 u23 u24 u25 u26 u27 u28 u29 u30 u31 u32 u33 u34 u35 u36 u37 u38 u39 u40 u41 u42 u43 u44 u45 u46 u47 u48 u49 u50 u51 u52 : Value, a' = { tmps := #[.pointer (some ⟨x, 0, none⟩), u1, u2, u3, u4, u5, u6, u7, u8, u9, u10, u11, u12, u13, u14, u15, u16, u17, u18, u19, u20, u21, u22, u23, u24, u25, u26, u27, u28, u29, u30, u31, u32, u33, u34, u35, u36, u37, u38, u39, u40, u41, u42, u43, u44, u45, u46, u47, u48, u49, u50, u51, u52], defers := [] } ∧ Hd (∃ tr dn opn, PRun orig asm css wl n x bk bc bw v0 v1 ks vf cap tr0 W l tr dn opn w')) (fun _ w' => n.toNat + 1 - rcvd bc w') ?_ ?_))
  · repeat apply Exists.intro
    exact ⟨rfl, ⟨_, _, _, H0.out⟩⟩
  rintro a1 w1 ⟨u1, u2, u3, u4, u5, u6, u7, u8, u9, u10, u11, u12, u13, u14, u15, u16, u17, u18, u19, u20, u21, u22, u23, u24, u25, u26, u27, u28, u29, u30, u31, u32, u33, u34, u35, u36, u37, u38, u39, u40, u41, u42, u43, u44, u45, u46, u47, u48, u49, u50, u51, u52, rfl, hrel⟩
  have HREL := hrel
  obtain ⟨tr, dn, opn, hr⟩ := hrel.out
  clear hrel H0
  have HR := Hd.mk hr
  have hrc := hr.st.rcvd
  obtain ⟨c0, c1, c2, c3, c4, hf, hc⟩ := hr.st.psCells
  have hln := fun ty => chan_len hc ty
  rw [show (ints (tr.drop dn)).toArray.size = tr.length - dn by simp [ints]] at hln
  have HCH := Hd.mk hc
  have HRC := Hd.mk hrc
  have HNL := Hd.mk (trl_len hr.ri.trl HC.out.nn.1 hr.ri.rng)
  have hdl := hr.dnl
  clear c0 c1 c2 c3 hf hr hc hrc
  by_cases hlt : dn < tr.length
  · have hpos : (0 : Int) < ((tr.length - dn : Nat) : Int) := by omega
    refine nw_seq (nw_wp ?_)
    go_wp2
    refine nw_block (nw_seq (nw_region ?_))
    simp only [List.size_toArray, List.length_cons, List.length_nil, Nat.reduceAdd, Nat.zero_add, List.range, List.range.loop]
    iterate 4 (refine no_value rfl rfl (by go_simp; exact ⟨rfl, rfl⟩) ?_; walk_nrm)
    refine no_recv (ch := bc) (cap := cap) (buf := (ints (tr.drop dn)).toArray) (s := tr.length) (r := dn) (closed := false) (z := .int .i64 0) (tm := false) rfl rfl (by simp [go_sem, rcase]) HCH.out (by simp [ints]; omega) ?_
    walk_nrm
    refine no_value rfl rfl (by go_simp; exact ⟨rfl, rfl⟩) (no_end ?_)
    walk_nrm
    simp only [Exit.then]
    have hlit := List.getElem?_eq_getElem hlt
    have hb0 : (ints (tr.drop dn))[0]?.getD undef = .int .i64 tr[dn] := by simp [ints, hlit]
    have hb1 : List.take ((ints (tr.drop dn)).length - 1) (ints (tr.drop dn)).tail = ints (tr.drop (dn + 1)) := by
      have e : (ints (tr.drop dn)).tail = ints (tr.drop (dn + 1)) := by rw [List.drop_eq_getElem_cons hlt]; rfl
      rw [List.take_of_length_le (by simp), e]
    have hst2 := (HR.out.st.psOpen.p2.setChan cap (ints (tr.drop (dn + 1))).toArray false tr.length (dn + 1) false).q2
    have hst3 : St W _ (PS x bk bc v0 v1 (.map (some bw)) cap tr (dn + 1) :: LL v0 css :: Sl 3 v1 (ints opn) :: WR bw ks vf wl :: l) := St.psShut (by simpa [Cn] using hst2)
    rw [hb0, hb1]
    have hP : (tr.take dn).length = dn := by simp; omega
    have h3 : tr.take ((tr.take dn).length + 1) = tr.take dn ++ [tr[dn]] := by rw [hP]; exact take_succ_get hlt
    have HR2 := Hd.mk (show PIn orig asm css wl n x bk bc bw v0 v1 ks vf cap tr0 W l tr[dn] (tr.take dn) 0 tr opn _ from PRun.start (by rw [hP]; exact HR.out) h3 (by rw [hP]; exact hst3))
    have HP := Hd.mk hP
    have hrng := HR.out.ri.rng _ (List.getElem_mem hlt)
    have HLT := Hd.mk hlt
    clear hb0 hb1 hst2 hst3 hP h3 hlit hln HCH
    clear hpos
    generalize decide (0 < tr.length - dn) = b11
    generalize w1.setChan bc cap (ints (tr.drop (dn + 1))).toArray false tr.length (dn + 1) false = w2 at *
    have hpo := HR2.out.st.psCells
    clear HR
    generalize tr.take dn = P0 at *
    generalize tr[dn] = a at *
    have hnn := HC.out.nn
    have HLA := Hd.mk (show Lt40 (-a) from ⟨by omega, by omega⟩)
    obtain ⟨c0, c1, c2, c3, c4, hf, hc⟩ := hpo
    obtain ⟨hlk, hrd⟩ := (HR2.out.st.p3).wrRow HK.out HLA.out
    have HU := Hd.mk (show ∀ w' l', St W w' (WR bw ks vf wl :: l') → RdI w' ((if (-a) ∈ ks then some (vf (-a)) else none).getD (.slice none 0 0)) (wl (-a)) from fun w' l' h => (h.wrRow HK.out HLA.out).2)
    generalize ((if (-a) ∈ ks then some (vf (-a)) else none).getD (.slice none 0 0)) = vr at *
    obtain ⟨ar, cr, rfl, _, _⟩ := hrd.shape
    clear c0 c1 c3 c4 hf hc hrd
    have hra : -1048576 ≤ a := by obtain ⟨h1, h2⟩ := hrng; omega
    have hrb : a ≤ 1048576 := by obtain ⟨h1, h2⟩ := hrng; omega
    clear hrng hnn
    have hwl : ((wl (-a)).length : Int) ≤ 1000000000 := by have h1 := HC.out.wlLen (-a); have h2 := HC.out.len.1; omega
    refine nw_wp ?_
    go_wp2
    go_loopw [25] (fun i wr => ∃ j : Nat, j ≤ (wl (-a)).length ∧ i = .int .i64 j ∧ Hd (∃ tr opn, PIn orig asm css wl n x bk bc bw v0 v1 ks vf cap tr0 W l a P0 j tr opn wr)) (fun i _ => (wl (-a)).length - (intOf i).toNat)
    case atStart => exact ⟨0, Nat.zero_le _, rfl, ⟨_, _, HR2.out⟩⟩
    case round =>
      obtain ⟨j, hj, rfl, ⟨tr1, opn1, hpi⟩⟩ := hrel
      clear HR2 hlk c2
      by_cases hjl : j < (wl (-a)).length
      · obtain ⟨i, c, m, hji, hci, hom, hm2, hcl, hlit, hA, hB, hBad⟩ := hpi.step HC.out hjl
        have hst := hpi.st
        have hne : ints opn1 ≠ [] := by
          intro e
          have : opn1 = [] := by simpa [ints] using e
          rw [this] at hom
          simp at hom
        obtain ⟨bo, co, rfl⟩ := (hst.p2).slSome hne
        obtain ⟨hcs, hfs⟩ := (hst.p2).slCells hne
        have hel := hcs i (.int .i64 ((m : Int) + 1)) (by simp [ints, hom])
        have hfr := hfs i
        obtain ⟨c0, c1, c2, c3, c4, hf, hcc⟩ := hst.psCells
        obtain ⟨_, _, he, _, hcell⟩ := (HU.out wr _ hst.p3).shape
        obtain ⟨bb, off, hae, hcell⟩ := hcell j hjl
        rw [hji] at hcell
        injection he with he1 he2 he3
        have hae2 := he1.trans hae
        subst hae2
        have HST := Hd.mk hst
        have HA := Hd.mk hA
        have HB := Hd.mk hB
        have HBAD := Hd.mk hBad
        have HNE := Hd.mk hne
        have HCI := Hd.mk hci
        have HLIT := Hd.mk hlit
        have HPI := Hd.mk hpi
        have hjI : (j : Int) < ((wl (-a)).length : Int) := by omega
        have hj0 : (0 : Int) ≤ (j : Int) := by omega
        have hil : i < (ints opn1).length := by
          have := (List.getElem?_eq_some_iff.1 hom).1
          simpa [ints] using this
        have hiI : (i : Int) < ((ints opn1).length : Int) := by omega
        have hi0 : (0 : Int) ≤ (i : Int) := by omega
        have hmI : (m : Int) ≤ 1000000000 := by omega
        clear hji hci hom hm2 hlit hA hB hBad hpi hst hne hcs hfs hcc he2 he3 he1 hae c0 c2 c3 c4 hf
        have h3 := ((HST.out.p2).slSet i (.int .i64 m) HNE.out)
        have d2 := (h3.slCells (by intro e; exact HNE.out (by simpa using e))).1 i (.int .i64 m) (by simp [hil])
        have h4 := h3.q2
        obtain ⟨d0, d1, _, _, _, _, _⟩ := h4.psCells
        rw [show (ints opn1).set i (.int .i64 (m : Int)) = ints (opn1.set i m) by simp [ints, List.map_set]] at h4
        have H3 := Hd.mk h4
        clear h3 h4 d0 hil
        by_cases hm1 : m ≤ 1
        · have hm1I : (m : Int) ≤ 1 := by omega
          have HM1 := Hd.mk hm1
          have hrl := trl_len HPI.out.ri.trl HC.out.nn.1 HPI.out.ri.rng
          have hcap := HCAP.out
          have hroom : tr1.length < cap := by omega
          have HROOM := Hd.mk hroom
          have HCS := Hd.mk HC.out.len.1
          have HPL := Hd.mk (show P0.length + 1 ≤ tr1.length by have := HPI.out.pre.length_le; simpa using this)
          clear hm1 hrl hcap hroom
          by_cases hp : (pUnit tr1 c).1 = true
          · have HP2 := Hd.mk hp
            have hpb : (Value.bool (pUnit tr1 c).1) = .bool true := by rw [hp]
            have HPB := Hd.mk hpb
            clear hp hpb
            go_wp2_with (go_at_call 68; go_must (refine (punit_any x bk bc v0 _ _ cap tr1 _ css _ _ _ H3.out i c HCI.out HLIT.out (fun y hy => (HPI.out.ri.trl.lit y hy).1) HPL.out HROOM.out (by omega) (by have := HCS.out; omega)).mono ?_; rintro e w' ⟨he, hs⟩; rw [HPB.out] at he; subst he; have HS := Hd.mk hs; clear hs))
            go_roundw
            case rel => exact ⟨j + 1, by omega, by go_num, ⟨_, _, HB.out _ HM1.out HP2.out HS.out⟩⟩
            case measure => simp [intOf]; omega
          · have hp2 : (pUnit tr1 c).1 = false := by simpa using hp
            have HP2 := Hd.mk hp2
            have hpb : (Value.bool (pUnit tr1 c).1) = .bool false := by rw [hp2]
            have HPB := Hd.mk hpb
            clear hp hp2 hpb
            go_wp2_with (go_at_call 68; go_must (refine (punit_any x bk bc v0 _ _ cap tr1 _ css _ _ _ H3.out i c HCI.out HLIT.out (fun y hy => (HPI.out.ri.trl.lit y hy).1) HPL.out HROOM.out (by omega) (by have := HCS.out; omega)).mono ?_; rintro e w' ⟨he, hs⟩; rw [HPB.out] at he; subst he; have HS := Hd.mk hs; clear hs))
            go_ret
            exact .inl ⟨rfl, HBAD.out HM1.out HP2.out, HS.out.drop.drop.drop.drop⟩
        · have hm1I : ¬ (m : Int) ≤ 1 := by omega
          have HM1 := Hd.mk (show 1 < m by omega)
          clear hm1
          go_wp2
          go_roundw
          case rel => exact ⟨j + 1, by omega, by go_num, ⟨_, _, HA.out _ HM1.out H3.out⟩⟩
          case measure => simp [intOf]; omega
      · have hje : j = (wl (-a)).length := by omega
        have hjI : ¬ (j : Int) < ((wl (-a)).length : Int) := by omega
        have HE := Hd.mk hje
        have HPI := Hd.mk hpi
        clear hje hpi
        go_wp2
        have hpl := HE.out ▸ HPI.out
        have h5 := PIn.last HC.out hpl
        refine ⟨⟨_, _, _, h5⟩, ?_⟩
        have h6 := h5.st.rcvd
        have h7 := trl_len h5.ri.trl HC.out.nn.1 h5.ri.rng
        have h8 := h5.dnl
        have h9 := HRC.out
        have h10 := HP.out
        omega
  · have hd0 : tr.length - dn = 0 := by omega
    have hde : dn = tr.length := by omega
    rw [hd0] at hln
    have HDE := Hd.mk hde
    clear hd0 hde hdl
    refine nw_seq (nw_wp ?_)
    go_wp2
    refine nw_wp ?_
    go_wp2
    go_ret
    have hri := HR.out.ri
    have hst := HR.out.st
    rw [HDE.out, List.take_length] at hri
    rw [HDE.out] at hst
    exact .inr ⟨rfl, _, _, hri, HR.out.sub, hst.p1.drop.p1.drop.p1.drop⟩
end
end Go.Proofs.Ytneibkemhmneoaa
