/- Contract: look (a clause finds another literal to watch). -/
import Derived.Test.YtneibkemhmneoaaBm
import Derived.Deep.RegionHeld3
namespace Go.Proofs.Ytneibkemhmneoaa
set_option linter.unusedVariables false
set_option linter.unusedSimpArgs false
open Go.RowKit

section
variable {W w : World} {l : List As} {x bw bk : Nat} {css : List (List Int)} {ex : Int → Bool} {wl : Int → List Int} {kn : Int → Bool} {tr : List Int} {dn : Int}

theorem St.slCells {E : TypeId} {b m cap : Nat} {xs : List Value} (h : St W w (Sl E (.slice (some ⟨b, 0, none⟩) m cap) xs :: l)) (hne : xs ≠ [] := by simp [ints]) : (∀ j v, xs[j]? = some v → w.cell? ⟨b, j, none⟩ = some v) ∧ ∀ j, w.frozen? ⟨b, j, none⟩ = false := by
  obtain ⟨g, p, e⟩ := h.get
  rcases p with ⟨_, _, h1⟩ | ⟨b', cap', cur, he, hb, h1, h2, h3, h4⟩
  · exact absurd h1 hne
  · cases he
    refine ⟨fun j v hj => ?_, fun j => by simp [World.frozen?, (e b _ hb).2]⟩
    have hlt := (List.getElem?_eq_some_iff.1 hj).1
    rw [← h4, List.getElem?_take_of_lt hlt] at hj
    simp only [World.cell?, (e b _ hb).2]
    simpa using hj

theorem St.slSome {E : TypeId} {v : Value} {xs : List Value} (h : St W w (Sl E v xs :: l)) (hne : xs ≠ []) : ∃ b cap, v = .slice (some ⟨b, 0, none⟩) xs.length cap := by
  obtain ⟨g, p, e⟩ := h.get
  rcases p with ⟨_, _, h1⟩ | ⟨b', cap', cur, he, _⟩
  · exact absurd h1 hne
  · exact ⟨b', cap', he⟩

theorem St.bmRow {n : Nat} {c : List Int} (h : St W w (BM x bw bk css ex wl kn tr dn :: l)) (hc : css[n]? = some c) (hne : c ≠ []) : ∃ (bcl ccl br cap : Nat) (vtr : Value) (R : List As),
    w.cell? ⟨bcl, n, none⟩ = some (.slice (some ⟨br, 0, none⟩) c.length cap) ∧
    St W w (Sl 3 (.slice (some ⟨br, 0, none⟩) c.length cap) (ints c) :: Blk x (.cells #[.slice (some ⟨bcl, 0, none⟩) css.length ccl, .map (some bw), .map (some bk), vtr, .int .i64 dn] 65 (0, 0)) :: WM bw ex wl :: R) ∧
    ∀ (w' : World) (c' : List Int) (wl' : Int → List Int), St W w' (Sl 3 (.slice (some ⟨br, 0, none⟩) c.length cap) (ints c') :: Blk x (.cells #[.slice (some ⟨bcl, 0, none⟩) css.length ccl, .map (some bw), .map (some bk), vtr, .int .i64 dn] 65 (0, 0)) :: WM bw ex wl' :: R) →
      St W w' (BM x bw bk (css.set n c') ex wl' kn tr dn :: l) := by
  obtain ⟨vcl, vtr, h⟩ := h.bmOpen
  obtain ⟨vs, u, R, hl, hu, h2, hback⟩ := h.p1.llRow hc
  have hn := (List.getElem?_eq_some_iff.1 hc).1
  obtain ⟨br, cap, rfl⟩ := h2.slSome (by simpa [ints] using hne)
  obtain ⟨bcl, ccl, rfl⟩ := (h2.p1).slSome (by intro e; rw [e] at hl; simp at hl; omega)
  have hcell := ((h2.p1).slCells (by intro e; rw [e] at hl; simp at hl; omega)).1 n _ hu
  rw [show (ints c).length = c.length by simp [ints]] at *
  rw [hl] at *
  refine ⟨bcl, ccl, br, cap, vtr, Sl 29 (.slice (some ⟨bcl, 0, none⟩) css.length ccl) vs :: (R ++ (KB bk kn :: Sl 3 vtr (ints tr) :: l)), hcell, ?_, fun w' c' wl' h' => ?_⟩
  · refine h2.perm (List.Perm.cons _ ?_)
    refine (List.perm_middle (l₁ := Sl 29 _ vs :: R)).trans (List.Perm.cons _ ?_)
    exact (List.perm_middle (l₁ := Sl 29 _ vs :: R)).trans (List.Perm.cons _ (.refl _))
  · have h3 := hback w' c' (Blk x (.cells #[.slice (some ⟨bcl, 0, none⟩) css.length ccl, .map (some bw), .map (some bk), vtr, .int .i64 dn] 65 (0, 0)) :: WM bw ex wl' :: KB bk kn :: Sl 3 vtr (ints tr) :: l) (h'.perm (List.Perm.cons _ ((List.Perm.cons _ (List.perm_middle (l₁ := Sl 29 _ vs :: R)).symm).trans (List.perm_middle (l₁ := Sl 29 _ vs :: R)).symm)))
    exact h3.p1.bmShut

theorem Mp.lookAt {P : Program} {b : Nat} {f : Int → Option Value} {g : Hl} (hm : Mp P b f g) {w : World} (hb : w.heap[b]? = g b) {z : Value} {t E : TypeId} (h3 : P.underlying 3 = some (.int .i64)) (ht : P.underlying t = some (.map 3 E)) (hz : (zeroValue E).run P w = .ok z w)
    {x : Int} (h1 : -9223372036854775808 ≤ x) (h2 : x ≤ 9223372036854775807) : (Instr.lookup t (.map (some b)) (.int .i64 x) false).run P w = .ok ((f x).getD z) w := by
  obtain ⟨es, clock, hg, F, ha, hh⟩ := hm
  have hst : St { w with heap := #[] } w [Mp P b f] := ⟨⟨rfl, rfl, rfl, Nat.zero_le _, fun k hk => by simp at hk⟩, fun k => if k = b then some (.map es clock) else none,
    ⟨fun k => if k = b then some (.map es clock) else none, fun _ => none, ⟨es, clock, by simp, F, ha, hh⟩, trivial, fun _ => .inr rfl, Hl.Sub.refl _, fun _ _ e => by cases e⟩, fun k o hk => by
      simp only at hk
      split at hk
      · rename_i e
        cases hk
        subst e
        exact ⟨Nat.zero_le _, by rw [hb, hg]⟩
      · cases hk⟩
  exact hst.look h3 ht hz h1 h2

/-- A row is looked up in whatever world holds the map as this one does, and taken out. -/
theorem St.wmOut2 {b : Nat} (h : St W w (WM b ex wl :: l)) {k : Int} (hk : ex k = false) (hx : Lt40 k) : ∃ u, (∀ w' : World, w'.heap[b]? = w.heap[b]? → (Instr.lookup 62 (.map (some b)) (.int .i64 k) false).run Try.prog w' = .ok u w') ∧
    St W w (Sl 3 u (ints (wl k)) :: WM b (fun y => decide (y = k) || ex y) wl :: l) := by
  obtain ⟨ks, vf, _, h'⟩ := h.wmOpen
  obtain ⟨g, hm, e⟩ := h'.get
  obtain ⟨u, hrun, hst⟩ := h.wmOut hk hx
  have hgb : g b = w.heap[b]? := by
    obtain ⟨es, clock, hg, _⟩ := hm
    rw [hg, (e b _ hg).2]
  have h0 := hm.lookAt (w := w) hgb.symm (E := 29) Try.underlying3 Try.underlying62 (zero29 w) (x := k) (by have := hx.1; omega) (by have := hx.2; omega)
  rw [hrun] at h0
  refine ⟨u, fun w' hw => ?_, hst⟩
  have h1 := hm.lookAt (w := w') (hw.trans hgb.symm) (E := 29) Try.underlying3 Try.underlying62 (zero29 w') (x := k) (by have := hx.1; omega) (by have := hx.2; omega)
  simp only [Result.ok.injEq, and_true] at h0
  rw [h1, ← h0]
end

def LookEnd (x bw bk : Nat) (css : List (List Int)) (ex : Int → Bool) (wl : Int → List Int) (tr : List Int) (dn : Int) (l : List As) (W : World) (n : Nat) (a b : Int) (t : List Int) (e : Ending) (w' : World) : Prop :=
  (b ∈ tr ∧ e = .returned (.bool false) ∧ St W w' (BM x bw bk (css.set n (b :: a :: t)) ex wl (knO tr) tr dn :: l)) ∨
  (b ∉ tr ∧ ∃ t1 d t2, t = t1 ++ d :: t2 ∧ -d ∉ tr ∧ e = .returned (.bool true) ∧ St W w' (BM x bw bk (css.set n (b :: d :: (t1 ++ a :: t2))) ex (fun y => if y = d then wl d ++ [(n : Int)] else wl y) (knO tr) tr dn :: l)) ∨
  ((∀ d ∈ t, -d ∈ tr) ∧ b ∉ tr ∧ -b ∉ tr ∧ e = .returned (.bool false) ∧ St W w' (BM x bw bk (css.set n (b :: a :: t)) ex wl (knO (tr ++ [b])) (tr ++ [b]) dn :: l)) ∨
  ((∀ d ∈ t, -d ∈ tr) ∧ b ∉ tr ∧ -b ∈ tr ∧ e = .panicked [{ v := .iface 106 (.agg #[]), recovered := false }] ∧ St W w' (BM x bw bk (css.set n (b :: a :: t)) ex wl (knO tr) tr dn :: l))

set_option maxRecDepth 8000 in
set_option maxHeartbeats 4000000 in
theorem look_any (x bw bk : Nat) (css : List (List Int)) (ex : Int → Bool) (wl : Int → List Int) (tr : List Int) (dn : Int) (W w : World) (l : List As) (n : Nat) (k a b : Int) (t : List Int)
    (hst : St W w (BM x bw bk css ex wl (knO tr) tr dn :: l)) (c : List Int) (hc : css[n]? = some c) (hk : (k = 0 ∧ c = a :: b :: t) ∨ (k = 1 ∧ c = b :: a :: t))
    (hlit : ∀ y ∈ c, Lt40 y) (hlt : ∀ y ∈ tr, Lt40 y) (hlen : tr.length < 1099511627776) (hct : t.length ≤ 4096) (hcl : css.length ≤ 1073741824) (hex : ∀ y, ex y = true → -y ∈ tr) (hwl : ∀ y, (wl y).length < 1099511627776) :
    Calls Try.prog 83 #[.pointer (some ⟨x, 0, none⟩), .int .i64 n, .int .i64 k] w (LookEnd x bw bk css ex wl tr dn l W n a b t) := by
  have hne : c ≠ [] := by rcases hk with ⟨_, rfl⟩ | ⟨_, rfl⟩ <;> simp
  have hn := (List.getElem?_eq_some_iff.1 hc).1
  obtain ⟨bcl, ccl, br, cap, vtr, R, hcell, h1, hback⟩ := hst.bmRow hc hne
  obtain ⟨hl0, hl1, hl2, hlc⟩ : Lt40 a ∧ Lt40 b ∧ (∀ y ∈ t, Lt40 y) ∧ c.length = t.length + 2 := by
    rcases hk with ⟨_, rfl⟩ | ⟨_, rfl⟩ <;> simp_all
  have c0 := h1.p1.cell 0
  simp only [List.getElem?_toArray, List.getElem?_cons_zero, List.getElem?_cons_succ] at c0
  rw [hlc] at hcell h1 hback
  have HBK := Hd.mk hback
  have HL2 := Hd.mk hl2
  have HLT := Hd.mk hlt
  have HEX := Hd.mk hex
  have HWL := Hd.mk hwl
  have HLEN := Hd.mk hlen
  have HCT := Hd.mk hct
  have HL0 := Hd.mk hl0
  have HL1 := Hd.mk hl1
  have HLC := Hd.mk hlc
  obtain ⟨hr1, hr2⟩ := h1.slCells (by simpa [ints] using hne)
  have H1 := Hd.mk h1
  have hni : (n : Int) < (css.length : Int) := by omega
  have hn0 : (0 : Int) ≤ (n : Int) := by omega
  have hcp : (0 : Int) < (t.length : Int) + 2 := by omega
  have hcp1 : (1 : Int) < (t.length : Int) + 2 := by omega
  clear hst hlit hlt hlen hct hex hwl hback hl0 hl1 hl2 hne hn hc hlc h1 hcl
  rcases hk with ⟨rfl, rfl⟩ | ⟨rfl, rfl⟩
  case' inl =>
    have ra := hr1 0 (.int .i64 a) (by simp [ints])
    have rb := hr1 1 (.int .i64 b) (by simp [ints])
    have f0 := hr2 0
    have f1 := hr2 1
    clear hr1 hr2
    go_enter Try.func83, Try.ntmps83
    go_wp2_with fail
    go_region
    have H2 : Hd (St W ((w.setCell ⟨br, 0, none⟩ (.int .i64 b)).setCell ⟨br, 1, none⟩ (.int .i64 a)).drew (Sl 3 (.slice (some ⟨br, 0, none⟩) (t.length + 2) cap) (ints (b :: a :: t)) :: Blk x (.cells #[.slice (some ⟨bcl, 0, none⟩) css.length ccl, .map (some bw), .map (some bk), vtr, .int .i64 dn] 65 (0, 0)) :: WM bw ex wl :: R)) :=
      ⟨by simpa [ints] using ((H1.out.slSet 0 (.int .i64 b)).slSet 1 (.int .i64 a)).drew⟩
    clear c0 hcell ra rb f0 f1 H1 HLC
    generalize ((w.setCell ⟨br, 0, none⟩ (.int .i64 b)).setCell ⟨br, 1, none⟩ (.int .i64 a)).drew = w2 at *
    go_wp2_with fail
  case' inr =>
    have H2 := H1
    clear H1 hr1 hr2 HLC
    obtain ⟨w2, rfl⟩ : ∃ w2 : World, w2 = w := ⟨_, rfl⟩
    go_enter Try.func83, Try.ntmps83
    go_wp2_with fail
  all_goals (
    obtain ⟨hr1, hr2⟩ := H2.out.slCells
    have HB2 := Hd.mk (HBK.out w2 _ _ H2.out)
    obtain ⟨_, _, _, _, d0, d1, d2, d3, d4, df, _⟩ := HB2.out.bmCells
    have r0 := hr1 0 (.int .i64 b) (by simp [ints])
    have HRJ := Hd.mk hr1
    have HRF := Hd.mk hr2
    have HDF := Hd.mk df
    clear hr1 hr2 d3 d4 df
    by_cases hb : b ∈ tr
    · have hlk := fun m => (HB2.out.drewN m).bmKn HL1.out (r := true) (by simpa using hb)
      have HB := Hd.mk hb
      clear hb
      go_quiet (fail)
      clear hlk
      go_wp2
      go_ret
      exact .inl ⟨HB.out, rfl, HB2.out.drewN _⟩
    · have hlk := fun m => (HB2.out.drewN m).bmKn HL1.out (r := false) (by simpa using hb)
      have HB := Hd.mk hb
      clear hb
      go_quiet (fail)
      clear hlk
      go_wp2_with fail
      go_loopw [8] (fun j wr => ∃ m : Nat, 2 ≤ m ∧ m ≤ t.length + 2 ∧ j = .int .i64 m ∧ Hd (∀ (i : Nat) (hi : i < t.length), i + 2 < m → -t[i] ∈ tr) ∧ Dr w2 wr) (fun j _ => t.length + 2 - (intOf j).toNat)
      case atStart => exact ⟨2, Nat.le_refl _, by omega, rfl, ⟨fun i hi h => by omega⟩, Dr.refl _ |>.step _⟩
      case round =>
        obtain ⟨m, hm1, hm2, rfl, hno, hD⟩ := hrel
        have e1 := (hD.cell _).trans d1
        have e2 := (hD.cell _).trans d2
        have e0 := (hD.cell _).trans r0
        have HST := Hd.mk (hD.st HB2.out)
        by_cases hlt2 : m < t.length + 2
        · obtain ⟨i, hmi2⟩ : ∃ i, m = i + 2 := ⟨m - 2, by omega⟩
          have hi : i < t.length := by omega
          have em := (hD.cell _).trans (HRJ.out m (.int .i64 t[i]) (by rw [hmi2]; simp [ints, List.getElem?_eq_getElem hi]))
          have hd40 := HL2.out _ (List.getElem_mem hi)
          have hmi : (m : Int) < (t.length : Int) + 2 := by omega
          have hm0 : (0 : Int) ≤ (m : Int) := by omega
          have htl : (t.length : Int) ≤ 4096 := by have := HCT.out; omega
          have HMI := Hd.mk hmi2
          have HT := Hd.mk (show t = t.take i ++ t[i] :: t.drop (i + 1) by rw [← List.drop_eq_getElem_cons hi, List.take_append_drop])
          have HNO := Hd.mk (show -t[i] ∈ tr → ∀ (j : Nat) (hj : j < t.length), j + 2 < m + 1 → -t[j] ∈ tr from fun h j hj hjk => by
            by_cases e : j = i
            · subst e; exact h
            · exact hno.out j hj (by omega))
          have HTI := Hd.mk (show (t.take i).length = i by rw [List.length_take]; omega)
          clear hno hmi2
          generalize t[i] = d at *
          generalize t.take i = t1 at *
          generalize t.drop (i + 1) = t2 at *
          obtain ⟨n1, n2⟩ := hd40
          have hd40 := Hd.mk (show Lt40 d from ⟨n1, n2⟩)
          by_cases hd : -d ∈ tr
          · have hlk := fun m => (HST.out.drewN m).bmKn hd40.out.neg (r := true) (by simpa using hd)
            have HN2 := Hd.mk (HNO.out hd)
            clear hd HNO
            go_wp2_with fail
            go_quiet (fail)
            clear hlk
            go_wp2
            go_roundw
            case rel => exact ⟨m + 1, by omega, by omega, by go_num, HN2, hD.step _⟩
            case measure => simp [intOf]; omega
          · have hlk := fun m => (HST.out.drewN m).bmKn hd40.out.neg (r := false) (by simpa using hd)
            have HD := Hd.mk hd
            clear hd HNO
            go_wp2_with fail
            go_quiet (fail)
            clear hlk
            go_wp2_with fail
            have H3 := Hd.mk ((hD.st H2.out).drewN nq)
            have g1 : (wr.drewN nq).cell? ⟨x, 1, none⟩ = some (.map (some bw)) := e1
            have gm : (wr.drewN nq).cell? ⟨br, m, none⟩ = some (.int .i64 d) := em
            have gr := H3.out.slCells.1 1 (.int .i64 a) (by simp [ints])
            have gf1 := H3.out.slCells.2 1
            have gfm := H3.out.slCells.2 m
            clear e0 e1 e2 em HST hD d1 d2 r0
            generalize wr.drewN nq = w5 at *
            go_region
            have H4 : Hd (St W ((w5.setCell ⟨br, 1, none⟩ (.int .i64 d)).setCell ⟨br, m, none⟩ (.int .i64 a)).drew (Sl 3 (.slice (some ⟨br, 0, none⟩) (t.length + 2) cap) (ints (b :: d :: (t1 ++ a :: t2))) :: Blk x (.cells #[.slice (some ⟨bcl, 0, none⟩) css.length ccl, .map (some bw), .map (some bk), vtr, .int .i64 dn] 65 (0, 0)) :: WM bw ex wl :: R)) := ⟨by
              have h5 := ((H3.out.slSet 1 (.int .i64 d)).slSet m (.int .i64 a)).drew
              have : ((ints (b :: a :: t)).set 1 (.int .i64 d)).set m (.int .i64 a) = ints (b :: d :: (t1 ++ a :: t2)) := by
                rw [HT.out, HMI.out, ← HTI.out]
                simp [ints]
              rw [this] at h5
              exact h5⟩
            clear g1 gm gr gf1 gfm H3
            generalize ((w5.setCell ⟨br, 1, none⟩ (.int .i64 d)).setCell ⟨br, m, none⟩ (.int .i64 a)).drew = w6 at *
            have hexd : ex d = false := by
              cases h : ex d with
              | false => rfl
              | true => exact absurd (HEX.out d h) HD.out
            obtain ⟨u7, hlk7, hst7⟩ := St.wmOut2 (H4.out.p2) hexd hd40.out
            have HEXD := Hd.mk hexd
            obtain ⟨a7, n7, c7, rfl⟩ := hst7.shape
            have hbw : bw < w6.heap.size := by
              obtain ⟨ks, vf, _, h'⟩ := (H4.out.p2).wmOpen
              obtain ⟨g, ⟨es, clock, hg, _⟩, e⟩ := h'.get
              exact (Array.getElem?_eq_some_iff.1 (e bw _ hg).2).1
            have hA : ∀ o, (Instr.lookup 62 (.map (some bw)) (.int .i64 d) false).run Try.prog (w6.alloc o).drew = .ok (.slice a7 n7 c7) (w6.alloc o).drew := fun o => hlk7 _ (Below.heap_alloc w6 o bw hbw)
            have hA2 : ∀ o, (Instr.lookup 62 (.map (some bw)) (.int .i64 d) false).run Try.prog (w6.drew.alloc o) = .ok (.slice a7 n7 c7) (w6.drew.alloc o) := fun o => hlk7 _ (Below.heap_alloc w6 o bw hbw)
            have hB := hlk7 w6.drew rfl
            have hs0 : w6.drew.cell? ⟨x, 1, none⟩ = some (.map (some bw)) ∧ w6.drew.cell? ⟨br, 1, none⟩ = some (.int .i64 d) := ⟨H4.out.p1.cell 1, H4.out.slCells.1 1 _ (by simp [ints])⟩
            have hs1 : ∀ o, (w6.drew.alloc o).cell? ⟨x, 1, none⟩ = some (.map (some bw)) ∧ (w6.drew.alloc o).cell? ⟨br, 1, none⟩ = some (.int .i64 d) := fun o => ⟨((H4.out.drew.alloc o).p2).cell 1, ((H4.out.drew.alloc o).p1).slCells.1 1 _ (by simp [ints])⟩
            have HST7 := Hd.mk hst7
            have HWD := Hd.mk (show (ints (wl d)).length < 1099511627776 by simpa [ints] using HWL.out d)
            clear hst7 hlk7 hbw hexd
            go_wp2_with fail
            go_region_held3 (fun w' => w'.cell? ⟨x, 1, none⟩ = some (.map (some bw)) ∧ w'.cell? ⟨br, 1, none⟩ = some (.int .i64 d)) (first | exact hs0 | exact hs1 _ | exact hs2 | exact hs3)
              ((go_must (refine step_append1 rfl _ _ 29 rfl 3 (.int .i64 0) 8 Try.underlying29 info3 rfl (by decide) _ _ _ rfl ((HST7.out.drew.alloc _).p1) _ _ (.int .i64 n) rfl (cellNew _ _ _) rfl HWD.out ?_); intro v8 w8 hst8; obtain ⟨a8, n8, c8, rfl⟩ := hst8.shape; obtain ⟨w9, hrun9, hst9⟩ := St.wmIn (js := wl d ++ [(n : Int)]) (by rw [show ints (wl d ++ [(n : Int)]) = ints (wl d) ++ [.int .i64 n] by simp [ints]]; exact hst8.p1.drop) HEXD.out hd40.out; have HST9 := Hd.mk hst9; have hs2 : w8.cell? ⟨x, 1, none⟩ = some (.map (some bw)) ∧ w8.cell? ⟨br, 1, none⟩ = some (.int .i64 d) := ⟨(hst8.p4).cell 1, (hst8.p3).slCells.1 1 _ (by simp [ints])⟩; have hs3 : w9.cell? ⟨x, 1, none⟩ = some (.map (some bw)) ∧ w9.cell? ⟨br, 1, none⟩ = some (.int .i64 d) := ⟨(hst9.p2).cell 1, (hst9.p1).slCells.1 1 _ (by simp [ints])⟩; clear hst8 hst9))
            all_goals (
              go_wp2
              go_ret
              exact .inr (.inl ⟨HB.out, t1, d, t2, HT.out, HD.out, rfl, HBK.out _ _ _ HST9.out.q2⟩))
        · have HALL := Hd.mk (show ∀ d ∈ t, -d ∈ tr from fun d hd => by
            obtain ⟨i, hi, rfl⟩ := List.getElem_of_mem hd
            exact hno.out i hi (by omega))
          clear hno
          by_cases hnb : -b ∈ tr
          · have HNB := Hd.mk hnb
            clear hnb
            go_wp2_with (first | (go_at_call 63; refine (set_bad x bw bk _ ex wl tr dn b W _ l HST.out HL1.out HNB.out).mono ?_; rintro e w4 ⟨rfl, rfl⟩))
            exact ⟨rfl, .inr (.inr (.inr ⟨HALL.out, HB.out, HNB.out, rfl, HST.out⟩))⟩
          · have HNB := Hd.mk hnb
            clear hnb
            go_wp2_with (first | (go_at_call 63; refine (set_new x bw bk _ ex wl tr dn b W _ l HST.out HL1.out HNB.out HB.out HLT.out HLEN.out).mono ?_; rintro e w4 ⟨rfl, hst4⟩; have HST4 := Hd.mk hst4; clear hst4))
            go_ret
            exact .inr (.inr (.inl ⟨HALL.out, HB.out, HNB.out, rfl, HST4.out⟩)))

/-- What look asks of the state. -/
structure LookPre (x bw bk : Nat) (css : List (List Int)) (ex : Int → Bool) (wl : Int → List Int) (tr : List Int) (dn : Int) (W w : World) (l : List As) (n : Nat) (k a b : Int) (t : List Int) : Prop where
  st : St W w (BM x bw bk css ex wl (knO tr) tr dn :: l)
  row : ∃ c, css[n]? = some c ∧ ((k = 0 ∧ c = a :: b :: t) ∨ (k = 1 ∧ c = b :: a :: t)) ∧ ∀ y ∈ c, Lt40 y
  lt : ∀ y ∈ tr, Lt40 y
  len : tr.length < 1099511627776
  ct : t.length ≤ 4096
  cl : css.length ≤ 1073741824
  ex : ∀ y, ex y = true → -y ∈ tr
  wl : ∀ y, (wl y).length < 1099511627776

section
variable {x bw bk : Nat} {css : List (List Int)} {ex : Int → Bool} {wl : Int → List Int} {tr : List Int} {dn : Int} {W w : World} {l : List As} {n : Nat} {k a b : Int} {t : List Int}
theorem LookPre.look (h : LookPre x bw bk css ex wl tr dn W w l n k a b t) : Calls Try.prog 83 #[.pointer (some ⟨x, 0, none⟩), .int .i64 n, .int .i64 k] w (LookEnd x bw bk css ex wl tr dn l W n a b t) := by
  obtain ⟨c, hc, hk, hl⟩ := h.row
  exact look_any x bw bk css ex wl tr dn W w l n k a b t h.st c hc hk hl h.lt h.len h.ct h.cl h.ex h.wl

theorem lookA (h : LookPre x bw bk css ex wl tr dn W w l n k a b t) (hb : b ∈ tr) : Calls Try.prog 83 #[.pointer (some ⟨x, 0, none⟩), .int .i64 n, .int .i64 k] w fun e w' => e = .returned (.bool false) ∧ St W w' (BM x bw bk (css.set n (b :: a :: t)) ex wl (knO tr) tr dn :: l) :=
  h.look.mono (by rintro e w' (⟨_, h1, h2⟩ | ⟨h1, _⟩ | ⟨_, h1, _⟩ | ⟨_, h1, _⟩)
                  · exact ⟨h1, h2⟩
                  all_goals exact absurd hb h1)
theorem lookB (h : LookPre x bw bk css ex wl tr dn W w l n k a b t) (hb : b ∉ tr) (hd : ¬ ∀ d ∈ t, -d ∈ tr) : Calls Try.prog 83 #[.pointer (some ⟨x, 0, none⟩), .int .i64 n, .int .i64 k] w fun e w' => e = .returned (.bool true) ∧
    ∃ t1 d t2, t = t1 ++ d :: t2 ∧ -d ∉ tr ∧ St W w' (BM x bw bk (css.set n (b :: d :: (t1 ++ a :: t2))) ex (fun y => if y = d then wl d ++ [(n : Int)] else wl y) (knO tr) tr dn :: l) :=
  h.look.mono (by rintro e w' (⟨h1, _⟩ | ⟨_, t1, d, t2, h1, h2, h3, h4⟩ | ⟨h1, _⟩ | ⟨h1, _⟩)
                  · exact absurd h1 hb
                  · exact ⟨h3, t1, d, t2, h1, h2, h4⟩
                  all_goals exact absurd h1 hd)
theorem lookC (h : LookPre x bw bk css ex wl tr dn W w l n k a b t) (hb : b ∉ tr) (hd : ∀ d ∈ t, -d ∈ tr) (hnb : -b ∉ tr) : Calls Try.prog 83 #[.pointer (some ⟨x, 0, none⟩), .int .i64 n, .int .i64 k] w fun e w' => e = .returned (.bool false) ∧
    St W w' (BM x bw bk (css.set n (b :: a :: t)) ex wl (knO (tr ++ [b])) (tr ++ [b]) dn :: l) :=
  h.look.mono (by rintro e w' (⟨h1, _⟩ | ⟨_, t1, d, t2, rfl, h2, _⟩ | ⟨_, _, _, h3, h4⟩ | ⟨_, _, h1, _⟩)
                  · exact absurd h1 hb
                  · exact absurd (hd d (by simp)) h2
                  · exact ⟨h3, h4⟩
                  · exact absurd h1 hnb)
theorem lookD (h : LookPre x bw bk css ex wl tr dn W w l n k a b t) (hb : b ∉ tr) (hd : ∀ d ∈ t, -d ∈ tr) (hnb : -b ∈ tr) : Calls Try.prog 83 #[.pointer (some ⟨x, 0, none⟩), .int .i64 n, .int .i64 k] w fun e w' => e = .panicked [{ v := .iface 106 (.agg #[]), recovered := false }] ∧
    St W w' (BM x bw bk (css.set n (b :: a :: t)) ex wl (knO tr) tr dn :: l) :=
  h.look.mono (by rintro e w' (⟨h1, _⟩ | ⟨_, t1, d, t2, rfl, h2, _⟩ | ⟨_, _, h1, _⟩ | ⟨_, _, _, h3, h4⟩)
                  · exact absurd h1 hb
                  · exact absurd (hd d (by simp)) h2
                  · exact absurd hnb h1
                  · exact ⟨h3, h4⟩)
end
end Go.Proofs.Ytneibkemhmneoaa
