/- The tail of prop.Units: unit clauses, run, the answer. -/
import Derived.Test.YtneibkemhmneoaaPr
import Derived.Test.YtneibkemhmneoaaUs
import Derived.Test.YtneibkemhmneoaaUr
import Derived.Test.YtneibkemhmneoaaSd
import Derived.Test.YtneibkemhmneoaaBc
namespace Go.Proofs.Ytneibkemhmneoaa
set_option linter.unusedVariables false
set_option linter.unusedSimpArgs false
open Go.RowKit Go.Conc

/-- Pieces of the code. -/
def cR : Code → Code
  | .seq _ y => y
  | c => c
noncomputable def b17 : Code := Try.f17.body.getD .skip

/-- What Units comes to, once its arguments are valid. -/
def UEnd (fs : List (List Int)) (asm : List Int) (W : World) (e : Ending) (w' : World) : Prop :=
  (e = .returned (.tuple #[.slice none 0 0, .bool true, .int .i64 0]) ∧ Bad fs asm ∧ Below W.heap.size W w') ∨
  (∃ a nn c ys, e = .returned (.tuple #[.slice a nn c, .bool false, .int .i64 0]) ∧ ¬ Bad fs asm ∧ SortedL ys ∧ (∀ y, y ∈ ys ↔ Der fs asm y) ∧ St W w' [Sl 3 (.slice a nn c) (ints ys)])

/-- Before run: what is known. -/
structure U5 (fs : List (List Int)) (asm : List Int) (css : List (List Int)) (n : Int) (k : Nat) (tr : List Int) : Prop where
  trl : Trl tr
  rng : ∀ y ∈ tr, -n ≤ y ∧ y ≤ n
  der : ∀ y ∈ tr, Der fs asm y
  asm : ∀ y ∈ asm, y ∈ tr
  done : ∀ (i : Nat) c, i < k → css[i]? = some c → c.length ≤ 1 → ∃ y ∈ c, y ∈ tr

/-- The map of what is known. -/
def knF (tr : List Int) : Int → Option Value := fun y => if knO tr y = true then some (.bool true) else none

theorem addL_mem {tr : List Int} {a : Int} (h : -a ∉ tr) : ∀ y, y ∈ addL tr a ↔ y ∈ tr ∨ y = a := fun y => by
  by_cases h2 : a ∈ tr
  · rw [addL_old h2]
    exact ⟨.inl, fun h => h.elim id (fun e => e ▸ h2)⟩
  · rw [addL_new h h2]
    simp
theorem addL_trl {tr : List Int} {a : Int} (ht : Trl tr) (h : -a ∉ tr) (hl : Lt40 a ∧ a ≠ 0) : Trl (addL tr a) := by
  by_cases h2 : a ∈ tr
  · rw [addL_old h2]; exact ht
  · rw [addL_new h h2]; exact ht.add hl h2 h

section
variable {fs css : List (List Int)} {asm : List Int} {wl : Int → List Int} {n : Int} {k : Nat} {tr : List Int}
theorem unit_der (hC : CI fs css wl n) {a : Int} (hc : [a] ∈ css) : Der fs asm a := by
  obtain ⟨o, ho, he⟩ := hC.rep _ hc
  exact .unit ho ((he a).1 (by simp)) (fun y hy hne => absurd (by simpa using (he y).2 hy) hne)
theorem U5.one (hC : CI fs css wl n) (h : U5 fs asm css n k tr) {a : Int} (hc : css[k]? = some [a]) (hn : -a ∉ tr) : U5 fs asm css n (k + 1) (addL tr a) where
  trl := addL_trl h.trl hn (by
    have h1 := hC.lit _ (List.mem_of_getElem? hc) a (by simp)
    have h2 := hC.nn
    exact ⟨⟨by omega, by omega⟩, h1.2⟩)
  rng y hy := by
    rcases (addL_mem hn y).1 hy with hy | rfl
    · exact h.rng y hy
    · exact (hC.lit _ (List.mem_of_getElem? hc) y (by simp)).1
  der y hy := by
    rcases (addL_mem hn y).1 hy with hy | rfl
    · exact h.der y hy
    · exact unit_der hC (List.mem_of_getElem? hc)
  asm y hy := (addL_mem hn y).2 (.inl (h.asm y hy))
  done i c hi hci hl := by
    by_cases e : i = k
    · subst e
      rw [hc] at hci
      cases hci
      exact ⟨a, by simp, (addL_mem hn a).2 (.inr rfl)⟩
    · obtain ⟨y, hy, h2⟩ := h.done i c (by omega) hci hl
      exact ⟨y, hy, (addL_mem hn y).2 (.inl h2)⟩
theorem U5.oneBad (hC : CI fs css wl n) (h : U5 fs asm css n k tr) {a : Int} (hc : css[k]? = some [a]) (hn : -a ∈ tr) : Bad fs asm := .inl ⟨a, unit_der hC (List.mem_of_getElem? hc), h.der _ hn⟩
theorem U5.zero (hC : CI fs css wl n) (hc : css[k]? = some []) : Bad fs asm := by
  obtain ⟨o, ho, he⟩ := hC.rep _ (List.mem_of_getElem? hc)
  exact .inr ⟨o, ho, fun y hy => by have := (he y).2 hy; cases this⟩
theorem U5.more (h : U5 fs asm css n k tr) {c : List Int} (hc : css[k]? = some c) (hl : 1 < c.length) : U5 fs asm css n (k + 1) tr := { h with
  done := fun i d hi hd hdl => by
    by_cases e : i = k
    · subst e
      rw [hc] at hd
      cases hd
      omega
    · exact h.done i d (by omega) hd hdl }
theorem opn1_nil (c : List Int) : opn1 [] c = c.length := by
  unfold opn1
  congr 1
  exact List.filter_eq_self.2 (fun y _ => by simp)
theorem U5.ri (hC : CI fs css wl n) (h : U5 fs asm css n css.length tr) : RI fs asm css n tr (css.map (fun c => (c.length : Int))) (fun _ => tr.take 0) where
  trl := h.trl
  rng := h.rng
  der := h.der
  sub i y hy := by simp at hy
  len := by simp
  cnt i c hc := by simp [hc, opn1_nil]
  unit i c hc hl := h.done i c (List.getElem?_eq_some_iff.1 hc).1 hc (by simpa [opn1_nil] using hl)

theorem St.only {W w : World} {P : As} {l : List As} (h : St W w (P :: l)) : St W w [P] :=
  let ⟨g, ⟨a, _, p, _, _, x, _⟩, e⟩ := h.own
  ⟨h.below, g, ⟨a, fun _ => none, p, trivial, fun _ => .inr rfl, x, fun _ _ e => by cases e⟩, e⟩

theorem sorted_nodup {ys : List Int} (h : SortedL ys) : ys.Nodup := List.Pairwise.imp (fun {a b} hab e => by rw [e, lessB_irrefl] at hab; cases hab) h
end

section
variable (fs css : List (List Int)) (asm : List Int) (wl : Int → List Int) (n : Int) (x bk bc bw : Nat) (v0 v1 : Value) (cap : Nat) (tr : List Int) (W : World) (l : List As) (w : World)
variable (u0 u1 u2 u3 u4 u5 u6 u7 u8 u9 u11 u12 u13 u14 u15 u16 u17 u18 u19 u20 u21 u22 u23 u24 u25 u26 u27 u28 u29 u30 u31 u32 u33 u34 u35 u36 u37 u38 u39 u40 u41 u42 u43 u44 u45 u46 u47 u48 u49 u50 u51 u52 u53 u54 u55 u56 u57 u58 u59 u60 u61 u62 u63 u64 u65 u66 u67 u68 u69 u70 u71 u72 u73 u74 u75 u76 u77 u78 u79 u80 u81 u82 u83 u84 u85 u86 u87 u88 u89 u90 u91 u92 u93 u94 u95 u96 u97 u98 u99 u100 u101 u102 u103 u104 u105 u106 u107 u108 u109 u110 u111 u112 u113 u114 u115 u116 u117 u118 u119 u120 u121 u122 u123 u124 u125 u126 u127 u128 u129 u130 u131 u132 u133 u134 u135 u136 u137 u138 u139 u140 u141 u142 u143 u144 u145 u146 u147 u148 u149 u150 u151 u152 u153 u154 u155 u156 u157 u158 u159 u160 u161 u162 u163 u164 u165 u166 u167 u168 u169 u170 u171 u172 u173 u174 u175 u176 u177 u178 u179 u180 u181 : Value)
set_option maxHeartbeats 8000000 in
set_option maxRecDepth 100000 in
theorem units_t6 (hst : St W w (PS x bk bc v0 v1 (.map (some bw)) cap tr 0 :: LL v0 css :: Sl 3 v1 (ints (css.map (fun c => (c.length : Int)))) :: WM bw (fun _ => false) wl :: l)) (hC : CI fs css wl n) (hF : FullC fs css) (h0 : ∀ o ∈ fs, (0 : Int) ∉ o) (hcap : n < cap) (h5 : U5 fs asm css n 0 tr) :
    (cR (cR (cR (cR (cR (cR b17)))))).wp Try.prog (bodyPost Try.prog Try.f17 (UEnd fs asm W)) { tmps := #[u0, u1, u2, u3, u4, u5, u6, u7, u8, u9, .pointer (some ⟨x, 0, none⟩), u11, u12, u13, u14, u15, u16, u17, u18, u19, u20, u21, u22, u23, u24, u25, u26, u27, u28, u29, u30, u31, u32, u33, u34, u35, u36, u37, u38, u39, u40, u41, u42, u43, u44, u45, u46, u47, u48, u49, u50, u51, u52, u53, u54, u55, u56, u57, u58, u59, u60, u61, u62, u63, u64, u65, u66, u67, u68, u69, u70, u71, u72, u73, u74, u75, u76, u77, u78, u79, u80, u81, u82, u83, u84, u85, u86, u87, u88, u89, u90, u91, u92, u93, u94, u95, u96, u97, u98, u99, u100, u101, u102, u103, u104, u105, u106, u107, u108, u109, u110, u111, u112, u113, u114, u115, u116, u117, u118, u119, u120, u121, u122, u123, u124, u125, u126, u127, u128, u129, u130, u131, u132, u133, u134, u135, u136, u137, u138, u139, u140, u141, u142, u143, u144, u145, u146, u147, u148, u149, u150, u151, u152, u153, u154, u155, u156, u157, u158, u159, u160, u161, u162, u163, u164, u165, u166, u167, u168, u169, u170, u171, u172, u173, u174, u175, u176, u177, u178, u179, u180, u181], defers := [] } w := by
  have HC := Hd.mk hC
  have HF := Hd.mk hF
  have HZ := Hd.mk h0
  have HCAP := Hd.mk hcap
  have H5 := Hd.mk h5
  have HST := Hd.mk hst
  obtain ⟨a0, c0, rfl, hcap0, hrow⟩ := hst.p1.rdL.shape
  obtain ⟨d0, d1, d2, d3, d4, hf, hcc⟩ := hst.psCells
  clear d1 d2 d3 d4 hf hcc hrow hcap0 hst hC hF h0 hcap h5
  simp only [b17, cR, Try.f17, Option.getD_some]
  go_wp2
  go_loopw [136] (fun i wr => ∃ k : Nat, k ≤ css.length ∧ i = .int .i64 k ∧ Hd (∃ tr1, U5 fs asm css n k tr1 ∧ St W wr (PS x bk bc (.slice a0 css.length c0) v1 (.map (some bw)) cap tr1 0 :: LL (.slice a0 css.length c0) css :: Sl 3 v1 (ints (css.map (fun c => (c.length : Int)))) :: WM bw (fun _ => false) wl :: l))) (fun i _ => css.length - (intOf i).toNat)
  case atStart => exact ⟨0, Nat.zero_le _, rfl, ⟨_, H5.out, HST.out⟩⟩
  case round =>
    obtain ⟨k, hk, rfl, ⟨tr1, h5, hst⟩⟩ := hrel
    have HU := Hd.mk h5
    have HS := Hd.mk hst
    clear H5 HST d0
    have hlc : (css.length : Int) ≤ 1000000000 := by have := HC.out.len.1; omega
    by_cases hlt : k < css.length
    · obtain ⟨_, _, he, _, hrow⟩ := hst.p1.rdL.shape
      obtain ⟨b, off, u, hae, hcell, hu⟩ := hrow k hlt
      injection he with he1 he2 he3
      have hae2 := he1.trans hae
      subst hae2
      have hci : css[k]? = some css[k] := List.getElem?_eq_getElem hlt
      have hki : (k : Int) < (css.length : Int) := by omega
      have hk0 : (0 : Int) ≤ (k : Int) := by omega
      obtain ⟨a5, c5, rfl, _, hcl⟩ := hu.shape
      generalize css[k] = c at *
      have HCI := Hd.mk hci
      clear he2 he3 he1 hae hrow hu h5 hst
      by_cases hc0 : c.length = 0
      · have hcn : c = [] := List.eq_nil_of_length_eq_zero hc0
        subst hcn
        clear hc0 hcl
        have hb0 : (((([] : List Int).length : Nat) : Int) == 0) = true := rfl
        go_wp2
        go_ret3
        exact .inl ⟨rfl, U5.zero HC.out HCI.out, HS.out.below⟩
      · by_cases hc1 : c.length = 1
        · obtain ⟨a, rfl⟩ : ∃ a, c = [a] := List.length_eq_one_iff.1 hc1
          obtain ⟨b5, o5, rfl, hc5⟩ := hcl 0 (by simp)
          simp only [List.getElem_cons_zero, Nat.add_zero] at hc5
          have HLA := Hd.mk (show Lt40 a from by
            have h1 := (HC.out.lit _ (List.mem_of_getElem? HCI.out) a (by simp)).1
            have h2 := HC.out.nn
            exact ⟨by omega, by omega⟩)
          have HRM := Hd.mk (show tr1.length < cap from by
            have h1 := trl_len HU.out.trl HC.out.nn.1 HU.out.rng
            have h2 := HCAP.out
            omega)
          clear hc0 hc1 hcl
          by_cases hn : -a ∈ tr1
          · have HN := Hd.mk hn
            have HD := Hd.mk (show decide (-a ∉ tr1) = false by simp [hn])
            clear hn
            go_wp2_with (go_at_call 42; go_must (refine (pset_any x bk bc _ v1 _ cap tr1 0 a W _ _ HS.out HLA.out (fun y hy => (HU.out.trl.lit y hy).1) (Nat.zero_le _) HRM.out).mono ?_; rintro e w' ⟨he, hs⟩; rw [HD.out] at he; subst he; have HS2 := Hd.mk hs; clear hs))
            go_ret3
            exact .inl ⟨rfl, HU.out.oneBad HC.out HCI.out HN.out, HS2.out.below⟩
          · have HN := Hd.mk hn
            have HD := Hd.mk (show decide (-a ∉ tr1) = true by simp [hn])
            clear hn
            go_wp2_with (go_at_call 42; go_must (refine (pset_any x bk bc _ v1 _ cap tr1 0 a W _ _ HS.out HLA.out (fun y hy => (HU.out.trl.lit y hy).1) (Nat.zero_le _) HRM.out).mono ?_; rintro e w' ⟨he, hs⟩; rw [HD.out] at he; subst he; have HS2 := Hd.mk hs; clear hs))
            go_roundw
            case rel => exact ⟨k + 1, by omega, by go_num, ⟨_, HU.out.one HC.out HCI.out HN.out, HS2.out⟩⟩
            case measure => simp [intOf]; omega
        · have hb0 : (((c.length : Nat) : Int) == 0) = false := by simp; intro e; exact hc0 (by simp [e])
          have hb1 : (((c.length : Nat) : Int) == 1) = false := by simp; omega
          have HL1 := Hd.mk (show 1 < c.length by omega)
          clear hc0 hc1 hcl
          go_wp2
          go_roundw
          case rel => exact ⟨k + 1, by omega, by go_num, ⟨_, HU.out.more HCI.out HL1.out, HS.out⟩⟩
          case measure => simp [intOf]; omega
    · have hke : k = css.length := by omega
      have hkI : ¬ (k : Int) < (css.length : Int) := by omega
      have HKE := Hd.mk hke
      clear hke h5 hst
      go_wp2_with fail
      have hU : U5 fs asm css n css.length tr1 := by have h := HU.out; rw [HKE.out] at h; exact h
      obtain ⟨ks, vf, hK, hsw⟩ := (HS.out.pick 3 rfl).wrOpen
      refine (prun_wr fs asm css wl n x bk bc bw _ v1 ks vf cap tr1 W l 0 _ wr HC.out hK HCAP.out ⟨hU.ri HC.out, Nat.zero_le _, fun _ h => h, hsw.q3⟩).mono ?_
      rintro e w2 (⟨rfl, hbad, hst2⟩ | ⟨rfl, tr2, opn2, hri, hsub, hst2⟩)
      · have HB := Hd.mk hbad
        have HB2 := Hd.mk hst2.below
        clear hU hK hsw hbad hst2
        dsimp only
        go_wp2
        go_ret3
        exact .inl ⟨rfl, HB.out, HB2.out⟩
      · dsimp only
        have hcl := hri.closed HC.out HF.out HZ.out (fun y hy => hsub y (hU.asm y hy))
        have HNB := Hd.mk hcl.not_bad
        have HDE := Hd.mk (show ∀ y, y ∈ tr2 ↔ Der fs asm y from fun y => ⟨hri.der y, fun h => h.sub hcl⟩)
        have hkb : St W w2 (Mp Try.prog bk (knF tr2) :: Blk x (.cells #[.slice a0 css.length c0, v1, .map (some bw), .map (some bk), .chan (some bc)] 75 (0, 0)) :: Cn bc cap tr2 tr2.length :: l) := hst2.psOpen.p1
        obtain ⟨ks2, hnd2, hmem2, hlen2⟩ := hkb.mlen Try.underlying3 Try.underlying63 3
        obtain ⟨e0, e1, e2, e3, e4, _, _⟩ := hst2.psCells
        have hkl : ks2.length ≤ 1048576 := by
          have h1 := nodup_le hnd2 (l' := tr2) (fun y hy => by
            have := (hmem2 y).1 hy
            by_cases h2 : y ∈ tr2
            · exact h2
            · simp [knF, knO, h2] at this)
          have h2 := trl_len hri.trl HC.out.nn.1 hri.rng
          have h3 := HC.out.nn
          omega
        have HKL := Hd.mk hkl
        have HKB := Hd.mk hkb
        have hklI : (ks2.length : Int) ≤ 1048576 := by omega
        have HTL := Hd.mk hri.trl
        have HTN := Hd.mk hri.rng
        have HRG := Hd.mk (show ∀ y ∈ tr2, In64 y from fun y hy => by have h1 := hri.rng y hy; have h2 := HC.out.nn; exact ⟨by omega, by omega⟩)
        clear hU hK hsw hcl hri hsub hst2 hkb hnd2 hmem2 e0 e1 e2 e4
        go_wp2_with (first
          | (at_make; go_must (refine wpList_make1 rfl _ _ 29 rfl 3 (.int .i64 0) 8 Try.underlying29 info3 (by decide) .i64 .i64 _ ks2.length rfl rfl rfl (by have := HKL.out; omega) _ HKB.out ?_); intro w4 hst4; have HST4 := Hd.mk hst4.p1; have k3 := (hst4.pick 2 rfl).cell 3; simp only [List.getElem?_toArray, List.getElem?_cons_zero, List.getElem?_cons_succ] at k3; clear hst4)
          | (at_range; go_must (refine wpList_range_st rfl _ 63 4 rfl Try.underlying63 bk _ _ rfl HST4.out ?_); intro w6 left cnt hleft hst6; have HST6 := Hd.mk hst6; have HLF := Hd.mk hleft; clear hst6 hleft))
        have h7 := HST6.out
        have hlf := HLF.out
        have HRL := Hd.mk (show ∀ y, (knF tr2 y).isSome = true ↔ y ∈ tr2 from fun y => by by_cases h2 : y ∈ tr2 <;> simp [knF, knO, h2])
        clear HST4 HST6 HLF HKB k3 e3 hlen2 hklI
        generalize w4.heap.size = r at *
        generalize knF tr2 = f at *
        have HS7 := Hd.mk (show ∃ zs left cnt, Coll f left zs ∧ St W w6 (RG bk r f left cnt :: Sl 3 (.slice (some ⟨w2.heap.size, 0, none⟩) 0 ks2.length) (ints zs) :: l) from ⟨[], _, _, .start hlf, h7.p2.drop.p2.drop⟩)
        clear h7 hlf
        go_frame
        go_loopw [22] (fun ov wr => ∃ a nn c, ov = .slice a nn c ∧ Hd (∃ zs left cnt, Coll f left zs ∧ St W wr (RG bk r f left cnt :: Sl 3 (.slice a nn c) (ints zs) :: l))) (fun _ wr => wr.rangeLeft bk r)
        case atStart => exact ⟨_, _, _, rfl, HS7⟩
        case round =>
          obtain ⟨a, nn, c, rfl, ⟨zs, left, cnt, hco, hst⟩⟩ := hrel
          have HCO := Hd.mk hco
          have HST := Hd.mk hst
          have HLEN := Hd.mk (show (ints zs).length < 1099511627776 from by
            have h1 := nodup_le hco.nodup (l' := tr2) (fun y hy => (HRL.out y).1 ((hco.mem y).1 hy).1)
            have h2 := trl_len HTL.out HC.out.nn.1 HTN.out
            have h3 := HC.out.nn
            simp [ints]
            omega)
          clear HS7 hco hst
          go_wp2_with (first | (at_next; go_must (refine wpList_next_st rfl _ rfl bk r f left cnt _ rfl HST.out ?_ ?_)))
          · intro hdone
            have HD := Hd.mk (show ∀ y, y ∈ zs ↔ y ∈ tr2 from fun y => (HCO.out.done hdone y).trans (HRL.out y))
            clear hdone
            go_wp2_with (first
              | (go_at_call 45; go_must (refine (sortFunc_any _ zs W _ _ HST.out.p1 (fun y hy => HRG.out y ((HD.out y).1 hy)) (by have h1 := nodup_le HCO.out.nodup (l' := tr2) (fun y hy => (HD.out y).1 hy); have h2 := trl_len HTL.out HC.out.nn.1 HTN.out; have h3 := HC.out.nn; omega) HCO.out.nodup).mono ?_; rintro e w9 ⟨rfl, ys, hp, hso, hst9⟩; have HP := Hd.mk hp; have HSO := Hd.mk hso; have HST9 := Hd.mk hst9; clear hp hso hst9)))
            go_ret3
            exact .inr ⟨_, _, _, ys, rfl, HNB.out, HSO.out, fun y => (HP.out.mem_iff.trans (HD.out y)).trans (HDE.out y), HST9.out.only⟩
          · intro y c2 w8 cnt2 hly hst8 hlt2 hen
            have HST8 := Hd.mk hst8
            have HCO2 := Hd.mk (HCO.out.step hly)
            have HLT := Hd.mk hlt2
            clear hst8 hly hlt2
            go_wp2_with (first
              | (at_builtin; go_must (refine wpList_append1 rfl _ _ 29 rfl 3 (.int .i64 0) 8 Try.underlying29 info3 rfl (by decide) _ _ _ rfl ((HST8.out.p1.alloc _).p1) _ _ (.int .i64 y) rfl (by simp) rfl HLEN.out ?_); intro v9 w9 hst9; obtain ⟨a9, n9, c9, rfl⟩ := hst9.shape; have HST9 := Hd.mk hst9; clear hst9))
            have h9 : St W w9 (RG bk r f (fun z => left z && !z.sameKey (.int .i64 y)) cnt2 :: Sl 3 (.slice a9 n9 c9) (ints (zs ++ [y])) :: l) := by
              rw [show ints (zs ++ [y]) = ints zs ++ [.int .i64 y] by simp [ints]]
              exact HST9.out.p1.drop.p1
            refine ⟨⟨_, _, _, rfl, ⟨_, _, _, HCO2.out, h9⟩⟩, ?_⟩
            rw [h9.rgLeft, HST.out.rgLeft]
            exact HLT.out
end
end Go.Proofs.Ytneibkemhmneoaa
