/- The clauses of prop.Units: each is sorted, kept, counted, and listed under its literals. -/
import Derived.Test.YtneibkemhmneoaaUt
import Derived.Test.YtneibkemhmneoaaRc
import Derived.Test.YtneibkemhmneoaaBf
import Derived.Deep.CutRange
import Derived.Deep.RegionLaw
namespace Go.Proofs.Ytneibkemhmneoaa
set_option linter.unusedVariables false
set_option linter.unusedSimpArgs false
open Go.RowKit Go.Conc

/-- A last clause, by itself, behind the others. -/
def LO (v : Value) (css : List (List Int)) (u : Value) (ys : List Int) : As := fun g => ∃ vs, vs.length = css.length ∧ Star (Sl 29 v (vs ++ [u]) :: (rowsI vs css ++ [Sl 3 u (ints ys)])) g
section
variable {W w : World} {l : List As} {v u : Value} {css : List (List Int)} {ys : List Int}
theorem St.loIn {vs : List Value} (hl : vs.length = css.length) (h : St W w (Sl 29 v (vs ++ [u]) :: (rowsI vs css ++ (Sl 3 u (ints ys) :: l)))) : St W w (LO v css u ys :: l) :=
  St.close (ps := Sl 29 v (vs ++ [u]) :: (rowsI vs css ++ [Sl 3 u (ints ys)])) (by simpa using h) (fun g p => ⟨vs, hl, p⟩)
theorem St.loOut (h : St W w (LO v css u ys :: l)) : ∃ vs, vs.length = css.length ∧ St W w (Sl 29 v (vs ++ [u]) :: (rowsI vs css ++ (Sl 3 u (ints ys) :: l))) := by
  obtain ⟨vs, h⟩ := St.ex h
  obtain ⟨hl, h⟩ := St.and h
  have := h.open (ps := Sl 29 v (vs ++ [u]) :: (rowsI vs css ++ [Sl 3 u (ints ys)])) (fun g p => p)
  exact ⟨vs, hl, by simpa using this⟩
theorem St.loShut (h : St W w (LO v css u ys :: l)) : St W w (LL v (css ++ [ys]) :: l) := by
  obtain ⟨vs, hl, h⟩ := h.loOut
  exact St.llAppend hl h
theorem St.loRd (h : St W w (LO v css u ys :: l)) : RdI w u ys := by
  obtain ⟨vs, hl, h⟩ := h.loOut
  obtain ⟨g, p, e⟩ := h.getMem (P := Sl 3 u (ints ys)) (by simp)
  exact p.rd (fun b o e' => (e b o e').2)
end

/-- The rows, as one. -/
def RWA (vs : List Value) (css : List (List Int)) : As := fun g => Star (rowsI vs css) g
section
variable {W w : World} {l : List As} {v u : Value} {css : List (List Int)} {ys : List Int}
theorem St.llOpen2 (h : St W w (LL v css :: l)) : ∃ vs, vs.length = css.length ∧ St W w (Sl 29 v vs :: RWA vs css :: l) := by
  obtain ⟨vs, hl, h⟩ := h.llOpen
  exact ⟨vs, hl, St.p1 (St.close (P := RWA vs css) (ps := rowsI vs css) (l := Sl 29 v vs :: l) (St.toMid h) (fun g p => p))⟩
theorem St.loIn2 {vs : List Value} (hl : vs.length = css.length) (h : St W w (Sl 29 v (vs ++ [u]) :: RWA vs css :: Sl 3 u (ints ys) :: l)) : St W w (LO v css u ys :: l) :=
  St.loIn hl (St.mid (St.open (P := RWA vs css) (ps := rowsI vs css) h.p1 (fun g p => p)))
end

/-- One clause more. -/
theorem CI.add {orig css : List (List Int)} {wl : Int → List Int} {n : Int} (h : CI orig css wl n) {c ys : List Int} (hc : litCheck n c = 0) (hso : SortOf c ys) (hl : css.length < 1000000000) :
    CI (orig ++ [c]) (css ++ [ys]) (fun y => if y ∈ ys then wl y ++ [(css.length : Int)] else wl y) n := by
  obtain ⟨h1, h2, h3, h4⟩ := litCheck_ok hc
  have hwl : ∀ y, ∀ i ∈ wl y, i < css.length := fun y i hi => by
    obtain ⟨h0, d, hd, _⟩ := ((h.wl y).2 i).1 hi
    have := (List.getElem?_eq_some_iff.1 hd).1
    omega
  refine ⟨h.nn, fun d hd => ?_, fun d hd => ?_, fun d hd => ?_, fun y => ?_, by simp; omega, fun d hd => ?_⟩
  · rcases List.mem_append.1 hd with hd | hd
    · exact h.nodup d hd
    · rw [List.mem_singleton.1 hd]; exact sorted_nodup hso.sorted
  · rcases List.mem_append.1 hd with hd | hd
    · exact h.lit d hd
    · rw [List.mem_singleton.1 hd]
      intro y hy
      have h5 := h4 y ((hso.mem y).1 hy)
      exact ⟨h5.2, h5.1⟩
  · rcases List.mem_append.1 hd with hd | hd
    · obtain ⟨o, ho, he⟩ := h.rep d hd
      exact ⟨o, List.mem_append_left _ ho, he⟩
    · rw [List.mem_singleton.1 hd]
      exact ⟨c, by simp, hso.mem⟩
  · have hdec : ∀ i : Int, (0 ≤ i ∧ ∃ d, (css ++ [ys])[i.toNat]? = some d ∧ y ∈ d) ↔ (0 ≤ i ∧ ∃ d, css[i.toNat]? = some d ∧ y ∈ d) ∨ (i = css.length ∧ y ∈ ys) := by
      intro i
      constructor
      · rintro ⟨h0, d, hd, hy⟩
        by_cases hi : i.toNat < css.length
        · rw [List.getElem?_append_left hi] at hd
          exact .inl ⟨h0, d, hd, hy⟩
        · rw [List.getElem?_append_right (by omega)] at hd
          have hlt := (List.getElem?_eq_some_iff.1 hd).1
          simp only [List.length_cons, List.length_nil] at hlt
          have e : i.toNat - css.length = 0 := by omega
          rw [e] at hd
          simp at hd
          subst hd
          exact .inr ⟨by omega, hy⟩
      · rintro (⟨h0, d, hd, hy⟩ | ⟨rfl, hy⟩)
        · exact ⟨h0, d, by rw [List.getElem?_append_left (List.getElem?_eq_some_iff.1 hd).1]; exact hd, hy⟩
        · exact ⟨by omega, ys, by simp, hy⟩
    by_cases hy : y ∈ ys
    · simp only [hy, if_true]
      refine ⟨List.nodup_append.2 ⟨(h.wl y).1, by simp, ?_⟩, fun i => ?_⟩
      · rintro i hi j hj rfl
        simp at hj
        have := hwl y i hi
        omega
      · rw [List.mem_append, (h.wl y).2, hdec]
        simp [hy]
    · simp only [hy, if_false]
      refine ⟨(h.wl y).1, fun i => ?_⟩
      rw [(h.wl y).2, hdec]
      simp [hy]
  · rcases List.mem_append.1 hd with hd | hd
    · exact h.len.2 d hd
    · rw [List.mem_singleton.1 hd]
      have := hso.len
      omega
theorem CI.skip {orig css : List (List Int)} {wl : Int → List Int} {n : Int} (h : CI orig css wl n) (c : List Int) : CI (orig ++ [c]) css wl n := { h with
  rep := fun d hd => let ⟨o, ho, he⟩ := h.rep d hd; ⟨o, List.mem_append_left _ ho, he⟩ }
theorem FullC.add {orig css : List (List Int)} (h : FullC orig css) {c ys : List Int} (hso : SortOf c ys) : FullC (orig ++ [c]) (css ++ [ys]) := fun o ho => by
  rcases List.mem_append.1 ho with ho | ho
  · rcases h o ho with h1 | ⟨d, hd, he⟩
    · exact .inl h1
    · exact .inr ⟨d, List.mem_append_left _ hd, he⟩
  · rw [List.mem_singleton.1 ho]
    exact .inr ⟨ys, by simp, hso.mem⟩
theorem FullC.skip {orig css : List (List Int)} (h : FullC orig css) {c : List Int} (ht : ∃ z ∈ c, -z ∈ c) : FullC (orig ++ [c]) css := fun o ho => by
  rcases List.mem_append.1 ho with ho | ho
  · exact h o ho
  · rw [List.mem_singleton.1 ho]
    exact .inl ht

theorem wlGrow {wl : Int → List Int} {ys : List Int} {j : Nat} {i : Int} (hn : ys.Nodup) (hj : j < ys.length) :
    (fun y => if y = ys[j] then (fun y => if y ∈ ys.take j then wl y ++ [i] else wl y) ys[j] ++ [i] else (fun y => if y ∈ ys.take j then wl y ++ [i] else wl y) y) = fun y => if y ∈ ys.take (j + 1) then wl y ++ [i] else wl y := by
  have hnj : ys[j] ∉ ys.take j := fun hm => by
    obtain ⟨k, hk, e⟩ := List.getElem_of_mem hm
    have hk2 : k < j := by simp at hk; omega
    rw [List.getElem_take] at e
    have := (List.getElem_inj hn).1 e
    omega
  have hmem : ∀ y, y ∈ ys.take (j + 1) ↔ y ∈ ys.take j ∨ y = ys[j] := fun y => by rw [take_succ_get hj, List.mem_append, List.mem_singleton]
  funext y
  by_cases e : y = ys[j]
  · subst e; simp only [hmem, hnj, if_true, if_false, or_true, false_or]
  · simp only [hmem, e, if_false, or_false]

/-- Between clauses. -/
structure PB (fs : List (List Int)) (n : Int) (x bk bc bw xf : Nat) (v : Value) (cap : Nat) (tr : List Int) (W : World) (l : List As) (k : Nat) (v0 v1 : Value) (css : List (List Int)) (wl : Int → List Int) (w : World) : Prop where
  ci : CI (fs.take k) css wl n
  full : FullC (fs.take k) css
  le : css.length ≤ k
  st : St W w (PS x bk bc v0 v1 (.map (some bw)) cap tr 0 :: LL v0 css :: Sl 3 v1 (ints (css.map (fun c => (c.length : Int)))) :: WM bw (fun _ => false) wl :: Blk xf (.cells #[.int .i64 n, v] 25 (0, 0)) :: l)

section
variable (fs : List (List Int)) (asm : List Int) (n : Int) (x bk bc bw xf : Nat) (a0 : Option Addr) (c0 cap : Nat) (tr : List Int) (W : World) (l : List As) (w : World)
variable (u0 u1 u3 u4 u5 u6 u7 u8 u9 u11 u12 u13 u14 u15 u16 u17 u18 u19 u20 u21 u22 u23 u24 u25 u26 u27 u28 u29 u30 u31 u32 u33 u34 u35 u36 u37 u38 u39 u40 u41 u42 u43 u44 u45 u46 u47 u48 u49 u50 u51 u52 u53 u54 u55 u56 u57 u58 u59 u60 u61 u62 u63 u64 u65 u66 u67 u68 u69 u70 u71 u72 u73 u74 u75 u76 u77 u78 u79 u80 u81 u82 u83 u84 u85 u86 u87 u88 u89 u90 u91 u92 u93 u94 u95 u96 u97 u98 u99 u100 u101 u102 u103 u104 u105 u106 u107 u108 u109 u110 u111 u112 u113 u114 u115 u116 u117 u118 u119 u120 u121 u122 u123 u124 u125 u126 u127 u128 u129 u130 u131 u132 u133 u134 u135 u136 u137 u138 u139 u140 u141 u142 u143 u144 u145 u146 u147 u148 u149 u150 u151 u152 u153 u154 u155 u156 u157 u158 u159 u160 u161 u162 u163 u164 u165 u166 u167 u168 u169 u170 u171 u172 u173 u174 u175 u176 u177 u178 u179 u180 u181 : Value)
set_option maxHeartbeats 8000000 in
set_option maxRecDepth 100000 in
theorem units_t5 (hv : RdL W (.slice a0 fs.length c0) fs) (hok : ∀ c ∈ fs, litCheck n c = 0) (hln : fs.length ≤ 1048576) (hn0 : 0 ≤ n) (hn1 : n ≤ 1048576) (hcap : n < cap) (htr : tr.length < 1000000000)
    (hst : St W w (PS x bk bc (.slice none 0 0) (.slice none 0 0) (.map (some bw)) cap tr 0 :: WM bw (fun _ => false) (fun _ => []) :: Blk xf (.cells #[.int .i64 n, .slice a0 fs.length c0] 25 (0, 0)) :: l)) (h5 : U5 fs asm [] n 0 tr) :
    (cR (cR (cR (cR (cR b17))))).wp Try.prog (bodyPost Try.prog Try.f17 (UEnd fs asm W)) { tmps := #[u0, u1, .pointer (some ⟨xf, 0, none⟩), u3, u4, u5, u6, u7, u8, u9, .pointer (some ⟨x, 0, none⟩), u11, u12, u13, u14, u15, u16, u17, u18, u19, u20, u21, u22, u23, u24, u25, u26, u27, u28, u29, u30, u31, u32, u33, u34, u35, u36, u37, u38, u39, u40, u41, u42, u43, u44, u45, u46, u47, u48, u49, u50, u51, u52, u53, u54, u55, u56, u57, u58, u59, u60, u61, u62, u63, u64, u65, u66, u67, u68, u69, u70, u71, u72, u73, u74, u75, u76, u77, u78, u79, u80, u81, u82, u83, u84, u85, u86, u87, u88, u89, u90, u91, u92, u93, u94, u95, u96, u97, u98, u99, u100, u101, u102, u103, u104, u105, u106, u107, u108, u109, u110, u111, u112, u113, u114, u115, u116, u117, u118, u119, u120, u121, u122, u123, u124, u125, u126, u127, u128, u129, u130, u131, u132, u133, u134, u135, u136, u137, u138, u139, u140, u141, u142, u143, u144, u145, u146, u147, u148, u149, u150, u151, u152, u153, u154, u155, u156, u157, u158, u159, u160, u161, u162, u163, u164, u165, u166, u167, u168, u169, u170, u171, u172, u173, u174, u175, u176, u177, u178, u179, u180, u181], defers := [] } w := by
  obtain ⟨a1, cp1, he, hcap1, hrow⟩ := hv.shape
  injection he with he1 he2 he3
  subst he1 he3
  have HROW := Hd.mk hrow
  have HOK := Hd.mk hok
  have HCAP := Hd.mk hcap
  have H5 := Hd.mk h5
  have HLN := Hd.mk hln
  have HN := Hd.mk (show 0 ≤ n ∧ n ≤ 1048576 from ⟨hn0, hn1⟩)
  have HB0 := Hd.mk (show PB fs n x bk bc bw xf (.slice a0 fs.length c0) cap tr W l 0 (.slice none 0 0) (.slice none 0 0) [] (fun _ => []) w from
    ⟨⟨⟨hn0, hn1⟩, by simp, by simp, by simp, fun y => ⟨List.nodup_nil, fun i => ⟨fun h => (by cases h), fun ⟨_, c, hc, _⟩ => (by simp at hc)⟩⟩, by simp⟩, fun o ho => (by simp at ho), Nat.le_refl _, (hst.sl_nil 3).ll_nil.p2⟩)
  have k1 := (hst.p2).cell 1
  simp only [List.getElem?_toArray, List.getElem?_cons_zero, List.getElem?_cons_succ] at k1
  clear hv hrow hok hcap h5 hst
  simp only [b17, cR, Try.f17, Option.getD_some]
  go_wp2_with fail
  rename_i K6 hK6
  have HT6 : Hd (∀ a w, (cR (cR (cR (cR (cR (cR b17)))))).wp Try.prog (bodyPost Try.prog Try.f17 (UEnd fs asm W)) a w → K6 a w) := ⟨hK6⟩
  clear hK6
  go_loopw [73] (fun i wr => ∃ k : Nat, k ≤ fs.length ∧ i = .int .i64 k ∧ Hd (∃ v0 v1 css wl, PB fs n x bk bc bw xf (.slice a0 fs.length c0) cap tr W l k v0 v1 css wl wr)) (fun i _ => fs.length - (intOf i).toNat)
  case atStart => exact ⟨0, Nat.zero_le _, rfl, ⟨_, _, _, _, HB0.out⟩⟩
  case round =>
    obtain ⟨k, hk, rfl, ⟨v0, v1, css, wl, hb⟩⟩ := hrel
    have HB := Hd.mk hb
    clear HB0 k1
    have hlnI : (fs.length : Int) ≤ 1048576 := by have := HLN.out; omega
    by_cases hlt : k < fs.length
    · obtain ⟨b, off, u, rfl, hcell0, hu0⟩ := HROW.out k hlt
      have hbel := hb.st.below
      have hcell := (hbel.cell (World.block_lt_of_cell? W _ hcell0)).trans hcell0
      obtain ⟨a5, c5, hu5, _⟩ := hu0.shape
      have HU := Hd.mk (hu0.below hbel)
      have HLC := Hd.mk (HOK.out _ (List.getElem_mem hlt))
      have HTS := Hd.mk (take_succ_get hlt)
      have hki : (k : Int) < (fs.length : Int) := by omega
      have hk0 : (0 : Int) ≤ (k : Int) := by omega
      subst hu5
      clear hcell0 hu0 hbel hb
      generalize fs[k] = c at *
      have HLT := Hd.mk (fun y hy => (lits_of_check HLC.out y hy).1)
      by_cases ht : ∃ z ∈ c, -z ∈ c
      · have HT := Hd.mk ht
        clear ht
        go_wp2_with (first | (go_at_call 43; go_must (refine (norm_taut _ c _ HU.out (fun y hy => ⟨(by have h1 := (litCheck_ok HLC.out).2.2.2 y hy; have h2 := HN.out; exact ⟨by omega, by omega⟩), (lits_of_check HLC.out y hy).2⟩) (by have := (litCheck_ok HLC.out).2.2.1; omega) HT.out).mono ?_; rintro e w2 ⟨rfl, hb2⟩; have HB2 := Hd.mk hb2; clear hb2)))
        go_roundw
        case rel => exact ⟨k + 1, by omega, by go_num, ⟨v0, v1, css, wl, by rw [HTS.out]; exact HB.out.ci.skip c, by rw [HTS.out]; exact HB.out.full.skip HT.out, by have := HB.out.le; omega, HB.out.st.quiet HB2.out⟩⟩
        case measure => simp [intOf]; omega
      · have HT := Hd.mk ht
        clear ht
        go_upto_region 22 with (first | (go_at_call 43; go_must (refine (norm_not _ c _ HU.out (fun y hy => ⟨(by have h1 := (litCheck_ok HLC.out).2.2.2 y hy; have h2 := HN.out; exact ⟨by omega, by omega⟩), (lits_of_check HLC.out y hy).2⟩) (by have := (litCheck_ok HLC.out).2.2.1; omega) HT.out).mono ?_; rintro e w2 ⟨al, nl, cp, ys, rfl, rfl, hso, hcn, hst2⟩; have HSO := Hd.mk hso; have HST2 := Hd.mk (HB.out.st.call hst2); clear hso hcn hst2)))
        have hst := HST2.out.p1.psOpen
        obtain ⟨vs, hvs, hst⟩ := (hst.pick 4 rfl).llOpen2
        have hst : St W w2 (Blk x (.cells #[v0, v1, .map (some bw), .map (some bk), .chan (some bc)] 75 (0, 0)) :: Sl 29 v0 vs :: Sl 3 v1 (ints (css.map (fun c => (c.length : Int)))) :: RWA vs css :: Sl 3 (.slice al ys.length cp) (ints ys) :: KB bk (knO tr) :: Cn bc cap tr 0 :: WM bw (fun _ => false) wl :: Blk xf (.cells #[.int .i64 n, .slice (some ⟨b, off, none⟩) fs.length c0] 25 (0, 0)) :: l) := ((((hst.pick 5 rfl).pick 2 rfl).pick 6 rfl).pick 3 rfl).pick 4 rfl
        obtain ⟨a6, c6, rfl, _, _⟩ := (HB.out.st.p1).rdL.shape
        have HVS := Hd.mk hvs
        have HVL := Hd.mk (show vs.length < 1099511627776 from by have h1 := HB.out.le; have h2 := HLN.out; omega)
        have HOL := Hd.mk (show (ints (css.map (fun c => (c.length : Int)))).length < 1099511627776 from by have h1 := HB.out.le; have h2 := HLN.out; simp [ints]; omega)
        obtain ⟨a4, n4, c4, rfl⟩ : ∃ a n c, v1 = .slice a n c := (hst.pick 2 rfl).shape
        have H5' := Hd.mk hst
        have HBC := Hd.mk HB.out.ci
        have HBF := Hd.mk HB.out.full
        have HBL := Hd.mk HB.out.le
        have e0 := hst.cell 0
        simp only [List.getElem?_toArray, List.getElem?_cons_zero, List.getElem?_cons_succ] at e0
        clear hvs hst HST2 HB hcell
        go_upto_region 23 with fail
        clear e0
        go_cut [] from 88 to 108 (fun wx => ∃ a8 n8 c8 a9 n9 c9, St W wx (Blk x (.cells #[.slice a8 n8 c8, .slice a9 n9 c9, .map (some bw), .map (some bk), .chan (some bc)] 75 (0, 0)) :: Sl 29 (.slice a8 n8 c8) (vs ++ [.slice al ys.length cp]) :: Sl 3 (.slice a9 n9 c9) (ints (css.map (fun c => (c.length : Int))) ++ [.int .i64 ys.length]) :: RWA vs css :: Sl 3 (.slice al ys.length cp) (ints ys) :: KB bk (knO tr) :: Cn bc cap tr 0 :: WM bw (fun _ => false) wl :: Blk xf (.cells #[.int .i64 n, .slice (some ⟨b, off, none⟩) fs.length c0] 25 (0, 0)) :: l))
        case first =>
          (try clear HROW); (try clear HOK); (try clear HCAP); (try clear H5); (try clear HLN); (try clear HN); (try clear HT6); (try clear HU); (try clear HLC); (try clear HTS); (try clear HLT); (try clear HT); (try clear HSO); (try clear HVS); (try clear HBC); (try clear HBF); (try clear HBL); (try clear hln); (try clear hn0); (try clear hn1); (try clear htr); (try clear hcap1); (try clear hlnI); (try clear hki); (try clear hk0); (try clear hlt); (try clear hk); (try clear hw2)
          have e00 := H5'.out.cell 0
          have e01 := H5'.out.cell 1
          have e10 := fun o => ((H5'.out.alloc o).p1).cell 0
          have e11 := fun o => ((H5'.out.alloc o).p1).cell 1
          have e20 := fun o o2 => (((H5'.out.alloc o).alloc o2).pick 2 rfl).cell 0
          have e21 := fun o o2 => (((H5'.out.alloc o).alloc o2).pick 2 rfl).cell 1
          simp only [List.getElem?_toArray, List.getElem?_cons_zero, List.getElem?_cons_succ] at e00 e01 e10 e11 e20 e21
          go_region_law (first
            | (refine step_append1 rfl _ _ 23 rfl 29 (.slice none 0 0) 24 Try.underlying23 info29 rfl (by decide) _ _ _ rfl ((H5'.out.drew.alloc _).pick 2 rfl) _ _ (.slice al ys.length cp) rfl (cellNew _ _ _) rfl HVL.out ?_; intro v8 w8 hst8; obtain ⟨a8, n8, c8, rfl⟩ := hst8.shape; have H8 := Hd.mk (hst8.rm 1 rfl); have g01 := (H8.out.pick 1 rfl).cell 1; have g11 := fun o => ((H8.out.alloc o).pick 2 rfl).cell 1; simp only [List.getElem?_toArray, List.getElem?_cons_zero, List.getElem?_cons_succ] at g01 g11; clear hst8)
            | (refine step_append1 rfl _ _ 23 rfl 29 (.slice none 0 0) 24 Try.underlying23 info29 rfl (by decide) _ _ _ rfl (((H5'.out.drew.alloc _).alloc _).pick 3 rfl) (⟨w2.heap.size + 1, 0, none⟩ : Addr) _ (.slice al ys.length cp) rfl (by simp) rfl HVL.out ?_; intro v8 w8 hst8; obtain ⟨a8, n8, c8, rfl⟩ := hst8.shape; have H8 := Hd.mk (hst8.rm 1 rfl); have g01 := (H8.out.pick 2 rfl).cell 1; have g11 := fun o => ((H8.out.alloc o).pick 3 rfl).cell 1; simp only [List.getElem?_toArray, List.getElem?_cons_zero, List.getElem?_cons_succ] at g01 g11; clear hst8)
            | (refine step_append1 rfl _ _ 23 rfl 29 (.slice none 0 0) 24 Try.underlying23 info29 rfl (by decide) _ _ _ rfl (((H5'.out.drew.alloc _).alloc _).pick 3 rfl) (⟨w2.heap.size, 0, none⟩ : Addr) _ (.slice al ys.length cp) rfl (by simp) rfl HVL.out ?_; intro v8 w8 hst8; obtain ⟨a8, n8, c8, rfl⟩ := hst8.shape; have H8 := Hd.mk (hst8.rm 2 rfl); have g01 := (H8.out.pick 2 rfl).cell 1; have g11 := fun o => ((H8.out.alloc o).pick 3 rfl).cell 1; simp only [List.getElem?_toArray, List.getElem?_cons_zero, List.getElem?_cons_succ] at g01 g11; clear hst8)
            | (refine step_append1 rfl _ _ 29 rfl 3 (.int .i64 0) 8 Try.underlying29 info3 rfl (by decide) _ _ _ rfl ((H8.out.alloc _).pick 3 rfl) _ _ (.int .i64 ys.length) rfl (cellNew _ _ _) rfl HOL.out ?_; intro v16 w16 hst16; obtain ⟨a16, n16, c16, rfl⟩ := hst16.shape; have H16 := Hd.mk (hst16.rm 1 rfl); have k0 := (H16.out.pick 2 rfl).cell 0; have k1 := (H16.out.pick 2 rfl).cell 1; have k2 := (H16.out.pick 2 rfl).free 0; have k3 := (H16.out.pick 2 rfl).free 1; simp only [List.getElem?_toArray, List.getElem?_cons_zero, List.getElem?_cons_succ] at k0 k1; clear hst16)
            | (refine step_append1 rfl _ _ 29 rfl 3 (.int .i64 0) 8 Try.underlying29 info3 rfl (by decide) _ _ _ rfl (H8.out.pick 3 rfl) _ _ (.int .i64 ys.length) rfl (by simpa using (H8.out.pick 1 rfl).cell 0) rfl HOL.out ?_; intro v16 w16 hst16; obtain ⟨a16, n16, c16, rfl⟩ := hst16.shape; have H16 := Hd.mk (hst16.rm 2 rfl); have k0 := (H16.out.pick 2 rfl).cell 0; have k1 := (H16.out.pick 2 rfl).cell 1; have k2 := (H16.out.pick 2 rfl).free 0; have k3 := (H16.out.pick 2 rfl).free 1; simp only [List.getElem?_toArray, List.getElem?_cons_zero, List.getElem?_cons_succ] at k0 k1; clear hst16))
          all_goals (
            have h10 := (((H16.out.pick 2 rfl).setCell (i := 0) (.slice a8 n8 c8)).setCell (i := 1) (.slice a16 n16 c16))
            go_wp2
            go_meet
            exact ⟨_, _, _, _, _, _, (h10.pick 2 rfl).p1⟩)
        case rest =>
          obtain ⟨a8, n8, c8, a9, n9, c9, hst9⟩ := hcut
          have hL : St W wc (PS x bk bc (.slice a8 n8 c8) (.slice a9 n9 c9) (.map (some bw)) cap tr 0 :: LO (.slice a8 n8 c8) css (.slice al ys.length cp) ys :: Sl 3 (.slice a9 n9 c9) (ints (css.map (fun c => (c.length : Int))) ++ [.int .i64 ys.length]) :: WM bw (fun _ => false) wl :: Blk xf (.cells #[.int .i64 n, .slice (some ⟨b, off, none⟩) fs.length c0] 25 (0, 0)) :: l) := (St.loIn2 HVS.out (((((((hst9.pick 6 rfl).pick 6 rfl).pick 2 rfl).psShut).pick 4 rfl).pick 4 rfl).pick 3 rfl)).p1
          have HL := Hd.mk hL
          have hyl : (ys.length : Int) ≤ 4096 := by have h1 := HSO.out.len; have h2 := (litCheck_ok HLC.out).2.2.1; omega
          have hkle : css.length ≤ 1048576 := by have h1 := HBL.out; have h2 := HLN.out; omega
          clear hst9 hL H5'
          go_wp2_with fail
          go_loopw [111] (fun i wr2 => ∃ j : Nat, j ≤ ys.length ∧ i = .int .i64 j ∧ Hd (St W wr2 (PS x bk bc (.slice a8 n8 c8) (.slice a9 n9 c9) (.map (some bw)) cap tr 0 :: LO (.slice a8 n8 c8) css (.slice al ys.length cp) ys :: Sl 3 (.slice a9 n9 c9) (ints (css.map (fun c => (c.length : Int))) ++ [.int .i64 ys.length]) :: WM bw (fun _ => false) (fun y => if y ∈ ys.take j then wl y ++ [(css.length : Int)] else wl y) :: Blk xf (.cells #[.int .i64 n, .slice (some ⟨b, off, none⟩) fs.length c0] 25 (0, 0)) :: l))) (fun i _ => ys.length - (intOf i).toNat)
          case atStart => exact ⟨0, Nat.zero_le _, rfl, ⟨by have h := HL.out; simpa using h⟩⟩
          case round =>
            obtain ⟨j, hj, rfl, hs⟩ := hrel
            have HS := hs
            clear HL
            by_cases hjl : j < ys.length
            · obtain ⟨_, _, he, _, hce⟩ := (hs.out.p1.loRd).shape
              obtain ⟨b7, o7, hae, hcj⟩ := hce j hjl
              injection he with he1 he2 he3
              have hae2 := he1.trans hae
              subst hae2
              have HWG := Hd.mk (wlGrow (wl := wl) (i := (css.length : Int)) (sorted_nodup HSO.out.sorted) hjl)
              have hyc : ys[j] ∈ c := (HSO.out.mem _).1 (List.getElem_mem hjl)
              have HLY := Hd.mk (HLT.out _ hyc)
              have hwb : ((fun y => if y ∈ ys.take j then wl y ++ [(css.length : Int)] else wl y) ys[j]).length ≤ 1048577 := by
                have h1 := HBC.out.wlLen ys[j]
                simp only
                split
                · simp; omega
                · omega
              have HWB := Hd.mk hwb
              have hjI : (j : Int) < (ys.length : Int) := by omega
              have hj0 : (0 : Int) ≤ (j : Int) := by omega
              generalize ys[j] = y at *
              generalize (fun y => if y ∈ ys.take j then wl y ++ [(css.length : Int)] else wl y) = wj at *
              clear hs he1 he2 he3 hae hce hyc hwb
              go_wp2_with fail
              obtain ⟨u7, hlk7, hst7⟩ := St.wmOut2 (HS.out.pick 3 rfl) (k := y) rfl HLY.out
              obtain ⟨a7, n7, c7, rfl⟩ := hst7.shape
              have hbw : bw < wr.heap.size := by
                obtain ⟨ks, vf, _, h'⟩ := (HS.out.pick 3 rfl).wmOpen
                obtain ⟨g, ⟨es, clock, hg, _⟩, e⟩ := h'.get
                exact (Array.getElem?_eq_some_iff.1 (e bw _ hg).2).1
              have hA : ∀ o, (Instr.lookup 62 (.map (some bw)) (.int .i64 y) false).run Try.prog (wr.alloc o).drew = .ok (.slice a7 n7 c7) (wr.alloc o).drew := fun o => hlk7 _ (Below.heap_alloc wr o bw hbw)
              have hA2 : ∀ o, (Instr.lookup 62 (.map (some bw)) (.int .i64 y) false).run Try.prog (wr.drew.alloc o) = .ok (.slice a7 n7 c7) (wr.drew.alloc o) := fun o => hlk7 _ (Below.heap_alloc wr o bw hbw)
              have hB := hlk7 wr.drew rfl
              have hs0 : wr.drew.cell? ⟨x, 2, none⟩ = some (.map (some bw)) := HS.out.psCells.2.2.1
              have hs1 : ∀ o, (wr.drew.alloc o).cell? ⟨x, 2, none⟩ = some (.map (some bw)) := fun o => ((HS.out.drew.alloc o).p1).psCells.2.2.1
              have HST7 := Hd.mk hst7
              have HWD := Hd.mk (show (ints (wj y)).length < 1099511627776 by simp only [ints, List.length_map]; have := HWB.out; omega)
              clear hlk7 hst7 hbw hcj
              go_region_held3 (fun w' => w'.cell? ⟨x, 2, none⟩ = some (.map (some bw))) (first | exact hs0 | exact hs1 _ | exact hs2 | exact hs3)
                ((go_must (refine step_append1 rfl _ _ 29 rfl 3 (.int .i64 0) 8 Try.underlying29 info3 rfl (by decide) _ _ _ rfl ((HST7.out.drew.alloc _).p1) _ _ (.int .i64 css.length) rfl (cellNew _ _ _) rfl HWD.out ?_); intro v8a w8a hst8; obtain ⟨a8a, n8a, c8a, rfl⟩ := hst8.shape; obtain ⟨w9a, hrun9, hst9⟩ := St.wmIn (js := wj y ++ [(css.length : Int)]) (by rw [show ints (wj y ++ [(css.length : Int)]) = ints (wj y) ++ [.int .i64 css.length] by simp [ints]]; exact hst8.p1.drop) rfl HLY.out; have HST9a := Hd.mk hst9; have hs2 : w8a.cell? ⟨x, 2, none⟩ = some (.map (some bw)) := (hst8.pick 3 rfl).psCells.2.2.1; have hs3 : w9a.cell? ⟨x, 2, none⟩ = some (.map (some bw)) := hst9.p1.psCells.2.2.1; clear hst8 hst9))
              all_goals (
                clear hs0 hs1 hs2 hs3 hA hA2 hB hrun9
                have H10 := HST9a.out.q3
                rw [HWG.out] at H10
                have HT10 := Hd.mk H10
                clear H10
                go_wp2_with fail
                go_roundw
                case rel => exact ⟨j + 1, by omega, by go_num, HT10⟩
                case measure => simp [intOf]; omega)
            · have hje : j = ys.length := by omega
              have hjI : ¬ (j : Int) < (ys.length : Int) := by omega
              have hs2 := hs.out
              rw [hje, List.take_length] at hs2
              have HS2 := Hd.mk hs2
              clear hs hs2 HS hje
              go_wp2_with fail
              go_roundw
              case rel =>
                exact ⟨k + 1, by omega, by go_num, ⟨.slice a8 n8 c8, .slice a9 n9 c9, css ++ [ys], fun y => if y ∈ ys then wl y ++ [(css.length : Int)] else wl y, by rw [HTS.out]; exact HBC.out.add HLC.out HSO.out (by omega), by rw [HTS.out]; exact HBF.out.add HSO.out, by have := HBL.out; simp; omega, by
                  have h := HS2.out.p1.loShut.p1
                  rw [show ints ((css ++ [ys]).map (fun c => (c.length : Int))) = ints (css.map (fun c => (c.length : Int))) ++ [.int .i64 ys.length] by simp [ints]]
                  exact h⟩⟩
              case measure => simp [intOf]; omega
    · have hke : k = fs.length := by omega
      have hkI : ¬ (k : Int) < (fs.length : Int) := by omega
      have hb2 := hb
      rw [hke] at hb2
      have HB2 := Hd.mk hb2
      clear hb hb2 HB hke
      go_wp2_with fail
      have h6 := HB2.out
      have hci := h6.ci
      have hfl := h6.full
      rw [List.take_length] at hci hfl
      exact HT6.out _ _ (units_t6 fs css asm wl n x bk bc bw v0 v1 cap tr W _ wr _ _ _ _ _ _ _ _ _ _ _ _ _ _ _ _ _ _ _ _ _ _ _ _ _ _ _ _ _ _ _ _ _ _ _ _ _ _ _ _ _ _ _ _ _ _ _ _ _ _ _ _ _ _ _ _ _ _ _ _ _ _ _ _ _ _ _ _ _ _ _ _ _ _ _ _ _ _ _ _ _ _ _ _ _ _ _ _ _ _ _ _ _ _ _ _ _ _ _ _ _ _ _ _ _ _ _ _ _ _ _ _ _ _ _ _ _ _ _ _ _ _ _ _ _ _ _ _ _ _ _ _ _ _ _ _ _ _ _ _ _ _ _ _ _ _ _ _ _ _ _ _ _ _ _ _ _ _ _ _ _ _ _ _ _ _ _ _ _ _ _ _ _ _ _ _ _ _ _ _ _ h6.st hci hfl (fun o ho h => (lits_of_check (HOK.out o ho) 0 h).2 rfl) HCAP.out ⟨H5.out.trl, H5.out.rng, H5.out.der, H5.out.asm, fun i c hi => by omega⟩)
end
end Go.Proofs.Ytneibkemhmneoaa
