/- Contract: add (a clause is added, and what follows is propagated). -/
import Derived.Test.YtneibkemhmneoaaBe
import Derived.Test.YtneibkemhmneoaaWc
namespace Go.Proofs.Ytneibkemhmneoaa
set_option linter.unusedVariables false
set_option linter.unusedSimpArgs false
open Go.RowKit

/-- run, where propagation does not fail. -/
theorem run_ok (orig : List (List Int)) (asm p : List Int) (x bw bk : Nat) (css : List (List Int)) (wl : Int → List Int) (tr U : List Int) (dn : Nat) (W w : World) (l : List As)
    (hst : St W w (BM x bw bk css exO wl (knO tr) tr dn :: l)) (hwb : WB orig asm p css wl tr) (hw : WOk css (tr.take dn) tr nP) (hdn : dn ≤ tr.length) (hU1 : ∀ c ∈ css, ∀ x ∈ c, x ∈ U) (hU2 : ∀ x ∈ tr, x ∈ U) (hUl : U.length < 1073741824) (hcl : css.length ≤ 268435456) (hnb : ¬ Bad orig asm) :
    Calls Try.prog 64 #[.pointer (some ⟨x, 0, none⟩)] w fun e w' => e = .returned (.tuple #[]) ∧ ∃ (css' : List (List Int)) (wl' : Int → List Int) (tr' : List Int), SameC css css' ∧ WB orig asm p css' wl' tr' ∧ tr <+: tr' ∧ (∀ x ∈ tr', x ∈ U) ∧ WOk css' tr' tr' nP ∧ St W w' (BM x bw bk css' exO wl' (knO tr') tr' tr'.length :: l) :=
  (run64_any orig asm p x bw bk css wl tr U dn W w l hst hwb hw hdn hU1 hU2 hUl hcl).mono (by
    rintro e w' ⟨css', wl', tr', dn', h1, h2, h3, h4, h5, ⟨h6, rfl, h7⟩ | ⟨_, h6⟩⟩
    · exact ⟨h6, css', wl', tr', h1, h2, h3, h4, h7, h5⟩
    · exact absurd h6 hnb)

theorem run_bad (orig : List (List Int)) (asm p : List Int) (x bw bk : Nat) (css : List (List Int)) (wl : Int → List Int) (tr U : List Int) (dn : Nat) (W w : World) (l : List As)
    (hst : St W w (BM x bw bk css exO wl (knO tr) tr dn :: l)) (hwb : WB orig asm p css wl tr) (hw : WOk css (tr.take dn) tr nP) (hdn : dn ≤ tr.length) (hU1 : ∀ c ∈ css, ∀ x ∈ c, x ∈ U) (hU2 : ∀ x ∈ tr, x ∈ U) (hUl : U.length < 1073741824) (hcl : css.length ≤ 268435456)
    (hf : Full orig css tr) (h0 : ∀ o ∈ orig, ∀ x ∈ o, x ≠ 0) (ha : ∀ a ∈ asm, a ∈ tr) (hb : Bad orig asm) :
    Calls Try.prog 64 #[.pointer (some ⟨x, 0, none⟩)] w fun e w' => e = .panicked [failE false, failE true] ∧ ∃ (css' : List (List Int)) (wl' : Int → List Int) (tr' : List Int) (dn' : Nat), SameC css css' ∧ WB orig asm p css' wl' tr' ∧ tr <+: tr' ∧ (∀ x ∈ tr', x ∈ U) ∧ St W w' (BM x bw bk css' exO wl' (knO tr') tr' dn' :: l) :=
  (run64_any orig asm p x bw bk css wl tr U dn W w l hst hwb hw hdn hU1 hU2 hUl hcl).mono (by
    rintro e w' ⟨css', wl', tr', dn', h1, h2, h3, h4, h5, ⟨h6, rfl, h7⟩ | ⟨h6, _⟩⟩
    · exact absurd hb (h2.closed h7 ((hf.same h1).mono (fun y hy => h3.subset hy)) h0 (fun a h => h3.subset (ha a h))).not_bad
    · exact ⟨h6, css', wl', tr', dn', h1, h2, h3, h4, h5⟩)

theorem norm_taut (v : Value) (c : List Int) (w : World) (hv : RdI w v c) (hc : ∀ x ∈ c, In64 x ∧ x ≠ 0) (hl : c.length ≤ 1000000) (ht : ∃ x ∈ c, -x ∈ c) : Calls Try.prog 43 #[v] w fun e w' => e = .returned (.tuple #[.slice none 0 0, .bool true]) ∧ Below w.heap.size w w' :=
  (norm_any v c w hv hc hl).mono (by
    rintro e w' (⟨h1, _, h2⟩ | ⟨v', ys, _, h1, h2, _⟩)
    · exact ⟨h1, h2⟩
    · obtain ⟨y, hy, hn⟩ := ht
      exact absurd ((h1.mem _).2 hn) (h2 y ((h1.mem _).2 hy)))
theorem norm_not (v : Value) (c : List Int) (w : World) (hv : RdI w v c) (hc : ∀ x ∈ c, In64 x ∧ x ≠ 0) (hl : c.length ≤ 1000000) (ht : ¬ ∃ x ∈ c, -x ∈ c) : Calls Try.prog 43 #[v] w fun e w' => ∃ a n cp ys, e = .returned (.tuple #[.slice a n cp, .bool false]) ∧ n = ys.length ∧ SortOf c ys ∧ (∀ x ∈ ys, -x ∉ ys) ∧ St w w' [Sl 3 (.slice a n cp) (ints ys)] :=
  (norm_any v c w hv hc hl).mono (by
    rintro e w' (⟨_, h1, _⟩ | ⟨v', ys, h0, h1, h2, h3⟩)
    · exact absurd h1 ht
    · obtain ⟨a, cp, rfl, _⟩ := h3.rd
      exact ⟨a, _, cp, ys, h0, by simp [ints], h1, h2, h3⟩)

structure AddPre (orig : List (List Int)) (x bw bk : Nat) (css : List (List Int)) (wl : Int → List Int) (tr U : List Int) (v : Value) (c : List Int) (W w : World) (l : List As) : Prop where
  st : St W w (BM x bw bk css exO wl (knO tr) tr tr.length :: l)
  ok : BOk orig css wl tr
  rd : RdI w v c
  lit : ∀ y ∈ c, y ∈ U
  len : c.length ≤ 4096
  cl : css.length < 268435456
  cU : ∀ d ∈ css, ∀ y ∈ d, y ∈ U
  tU : ∀ y ∈ tr, y ∈ U
  lU : U.length < 1073741824
  ltU : ∀ y ∈ c, Lt40 y ∧ y ≠ 0

theorem St.addOpen {W w : World} {l : List As} {x bw bk : Nat} {css : List (List Int)} {wl : Int → List Int} {kn : Int → Bool} {tr : List Int} {dn : Int} {A : As} (h : St W w (A :: BM x bw bk css exO wl kn tr dn :: l)) :
    ∃ (vs : List Value) (acl : Option Addr) (ccl : Nat) (vtr : Value), vs.length = css.length ∧ St W w (Sl 29 (.slice acl css.length ccl) vs :: Blk x (.cells #[.slice acl css.length ccl, .map (some bw), .map (some bk), vtr, .int .i64 dn] 65 (0, 0)) :: A :: WM bw exO wl :: KB bk kn :: Sl 3 vtr (ints tr) :: (rowsI vs css ++ l)) := by
  obtain ⟨vcl, vtr, h1⟩ := h.p1.bmOpen
  obtain ⟨vs, hl, h2⟩ := (h1.p1).llOpen
  obtain ⟨acl, ccl, rfl⟩ : ∃ acl ccl, vcl = .slice acl css.length ccl := by
    obtain ⟨a, c, e, _⟩ := h2.rd
    exact ⟨a, c, by rw [← hl]; exact e⟩
  refine ⟨vs, acl, ccl, vtr, hl, h2.perm (List.Perm.cons _ ?_)⟩
  refine (List.perm_append_comm_assoc (rowsI vs css) [Blk x _, WM bw exO wl, KB bk kn, Sl 3 vtr (ints tr), A] l).trans ?_
  exact List.Perm.cons _ ((List.perm_append_comm (l₁ := [WM bw exO wl, KB bk kn, Sl 3 vtr (ints tr)]) (l₂ := [A])).append_right (rowsI vs css ++ l))

theorem St.addShut {W w : World} {l : List As} {x bw bk : Nat} {css : List (List Int)} {ls : List Int} {wl : Int → List Int} {kn : Int → Bool} {tr : List Int} {dn : Int} {u v vtr : Value} {vs : List Value} (hl : vs.length = css.length)
    (h : St W w (WM bw exO wl :: Blk x (.cells #[v, .map (some bw), .map (some bk), vtr, .int .i64 dn] 65 (0, 0)) :: Sl 29 v (vs ++ [u]) :: Sl 3 u (ints ls) :: KB bk kn :: Sl 3 vtr (ints tr) :: (rowsI vs css ++ l))) : St W w (BM x bw bk (css ++ [ls]) exO wl kn tr dn :: l) := by
  have h2 : St W w (Sl 29 v (vs ++ [u]) :: Sl 3 u (ints ls) :: WM bw exO wl :: Blk x (.cells #[v, .map (some bw), .map (some bk), vtr, .int .i64 dn] 65 (0, 0)) :: KB bk kn :: Sl 3 vtr (ints tr) :: (rowsI vs css ++ l)) := (h.pick 3 rfl).pick 3 rfl
  have h3 := St.llAppend hl (h2.perm (List.Perm.cons _ (List.perm_append_comm_assoc [Sl 3 u (ints ls), WM bw exO wl, Blk x _, KB bk kn, Sl 3 vtr (ints tr)] (rowsI vs css) l)))
  exact (h3.pick 2 rfl).bmShut

theorem BOk.ofRun {orig css css' : List (List Int)} {wl' : Int → List Int} {tr tr' : List Int} (hs : SameC css css') (hwb : WB orig [] [] css' wl' tr') (hok : WOk css' tr' tr' nP) (hf : Full orig css tr) (hp : tr <+: tr') (hl : ∀ o ∈ orig, ∀ x ∈ o, Lt40 x ∧ x ≠ 0) : BOk orig css' wl' tr' :=
  ⟨hwb, hok, (hf.same hs).mono (fun y hy => hp.subset hy), hl⟩
theorem sameU {css css' : List (List Int)} {U : List Int} (hs : SameC css css') (h : ∀ d ∈ css, ∀ y ∈ d, y ∈ U) : ∀ d ∈ css', ∀ y ∈ d, y ∈ U := fun d hd y hy => by
  obtain ⟨e, he, p⟩ := hs.symm.mem hd
  exact h e he y (p.mem_iff.1 hy)
theorem AddPre.lit' {orig : List (List Int)} {x bw bk : Nat} {css : List (List Int)} {wl : Int → List Int} {tr U : List Int} {v : Value} {c : List Int} {W w : World} {l : List As} (h : AddPre orig x bw bk css wl tr U v c W w l) : ∀ o ∈ orig ++ [c], ∀ x ∈ o, Lt40 x ∧ x ≠ 0 := fun o ho => by
  rcases List.mem_append.1 ho with ho | ho
  · exact h.ok.lit o ho
  · rw [List.mem_singleton.1 ho]; exact h.ltU

def AddEnd (orig : List (List Int)) (x bw bk : Nat) (css : List (List Int)) (U c : List Int) (W : World) (l : List As) (e : Ending) (w' : World) : Prop :=
  (¬ Bad (orig ++ [c]) [] ∧ e = .returned (.tuple #[]) ∧ ∃ css' wl' tr', BOk (orig ++ [c]) css' wl' tr' ∧ css'.length ≤ css.length + 1 ∧ (∀ d ∈ css', ∀ y ∈ d, y ∈ U) ∧ (∀ y ∈ tr', y ∈ U) ∧ St W w' (BM x bw bk css' exO wl' (knO tr') tr' tr'.length :: l)) ∨
  (Bad (orig ++ [c]) [] ∧ (∃ older, e = .panicked (failE false :: older) ∧ ∀ q ∈ older, q.goexit = false) ∧ St W w' l)

set_option maxRecDepth 100000 in
set_option maxHeartbeats 4000000 in
theorem add_any (orig : List (List Int)) (x bw bk : Nat) (css : List (List Int)) (wl : Int → List Int) (tr U : List Int) (v : Value) (c : List Int) (W w : World) (l : List As) (h : AddPre orig x bw bk css wl tr U v c W w l) :
    Calls Try.prog 34 #[.pointer (some ⟨x, 0, none⟩), v] w (AddEnd orig x bw bk css U c W l) := by
  have H := Hd.mk h
  have HIN := Hd.mk (show ∀ y ∈ c, In64 y ∧ y ≠ 0 from fun y hy => by
    have h1 := (h.ltU y hy).1
    exact ⟨⟨by have := h1.1; omega, by have := h1.2; omega⟩, (h.ltU y hy).2⟩)
  have HL := Hd.mk (show c.length ≤ 1000000 by have := h.len; omega)
  clear h
  by_cases ht : ∃ y ∈ c, -y ∈ c
  · have HT := Hd.mk ht
    clear ht
    go_enter Try.func34, Try.ntmps34
    go_wp2_with (first | (go_at_call 43; refine (norm_taut _ _ _ H.out.rd HIN.out HL.out HT.out).mono ?_; rintro e w2 ⟨rfl, hb2⟩; have H2 := Hd.mk hb2; clear hb2))
    have hbk := H.out.ok.taut H.out.ltU HT.out
    refine bodyPost_ret (results_none rfl _ _ _) rfl (.inl ⟨hbk.notBad, rfl, css, wl, tr, hbk, by omega, H.out.cU, H.out.tU, H.out.st.quiet H2.out⟩)
  · have HT := Hd.mk ht
    clear ht
    go_enter Try.func34, Try.ntmps34
    go_wp2_with (first | (go_at_call 43; refine (norm_not _ _ _ H.out.rd HIN.out HL.out HT.out).mono ?_; rintro e w2 ⟨al, nl, cp, ys, rfl, rfl, hso, hcn, hst2⟩; have HSO := Hd.mk hso; have HCN := Hd.mk hcn; have HST2 := Hd.mk (H.out.st.call hst2); clear hso hcn hst2))
    go_loopw [6, 17] (fun ov jv wr => ∃ o j : Nat, o ≤ 2 ∧ j ≤ ys.length ∧ ov = .int .i64 o ∧ jv = .int .i64 j ∧ Hd (∃ ls, ls.Perm ys ∧ Part tr ls o j ∧ St W wr (Sl 3 (.slice al ys.length cp) (ints ls) :: BM x bw bk css exO wl (knO tr) tr tr.length :: l))) (fun _ jv _ => ys.length - (intOf jv).toNat)
    case atStart => exact ⟨0, 0, by omega, Nat.zero_le _, rfl, rfl, ⟨ys, .refl _, .start, HST2.out⟩⟩
    case round =>
      obtain ⟨o, j, ho2, hj, rfl, rfl, ⟨ls, hp, hpt, hst⟩⟩ := hrel
      have HLS := Hd.mk hp
      have HPT := Hd.mk hpt
      have HST := Hd.mk hst
      have hyl : (ys.length : Int) ≤ 4096 := by have := HSO.out.len; have := H.out.len; omega
      clear HST2
      by_cases hlt : j < ys.length
      · have hll : ls.length = ys.length := hp.length_eq
        have hne : ints ls ≠ [] := by intro e; simp [ints] at e; rw [e] at hll; simp at hll; omega
        obtain ⟨bl, cl7, hvl⟩ := hst.slSome hne
        injection hvl with e1 e2 e3
        subst e1
        obtain ⟨hcs, hfs⟩ := hst.slCells hne
        have hjl : j < ls.length := by omega
        have hyj := List.getElem?_eq_getElem hjl
        have ky := hcs j (.int .i64 ls[j]) (by simp [ints, hyj])
        have hym : ls[j] ∈ c := (HSO.out.mem _).1 (hp.mem_iff.1 (List.getElem_mem hjl))
        have hlt40 := H.out.ltU _ hym
        obtain ⟨_, _, _, _, _, _, d2, _, _, _, _⟩ := hst.p1.bmCells
        generalize ls[j] = y at *
        have HYJ := Hd.mk hyj
        have HLT := Hd.mk hlt40
        obtain ⟨⟨n1, n2⟩, _⟩ := hlt40
        have hji : (j : Int) < (ys.length : Int) := by omega
        have hj0 : (0 : Int) ≤ (j : Int) := by omega
        have ho0 : (0 : Int) ≤ (o : Int) := by omega
        have ho2I : (o : Int) ≤ 2 := by omega
        by_cases hk : -y ∈ tr
        · have hlk := fun m => (hst.p1.drewN m).bmKn HLT.out.1.neg (r := true) (by simpa using hk)
          have HP2 := Hd.mk (HPT.out.skip HYJ.out hk)
          clear hk hp hpt hst hll hne e2 e3 hcs hfs hjl hyj hym
          go_wp2_with fail
          go_quiet (fail)
          clear hlk
          go_wp2_with fail
          go_roundw
          case rel => exact ⟨o, j + 1, by omega, by omega, rfl, by go_num, ⟨ls, HLS.out, HP2.out, HST.out.drewN _⟩⟩
          case measure => simp [intOf]; omega
        · have hlk := fun m => (hst.p1.drewN m).bmKn HLT.out.1.neg (r := false) (by simpa using hk)
          have HK := Hd.mk hk
          by_cases ho : o < 2
          · have hoI : (o : Int) < 2 := by omega
            have hol : o < ls.length := by have := hpt.oj; omega
            have hxo := List.getElem?_eq_getElem hol
            have ko := hcs o (.int .i64 ls[o]) (by simp [ints, hxo])
            generalize ls[o] = xo at *
            have HP2 := Hd.mk (HPT.out.swap hxo HYJ.out hk ho)
            have HPM := Hd.mk ((swap_perm hxo HYJ.out).trans HLS.out)
            have holI : (o : Int) < (ys.length : Int) := by omega
            have hfo := hfs o
            have hfj := hfs j
            have HNE := Hd.mk hne
            clear hk hp hpt hst hll hne e2 e3 hcs hfs hjl hyj hym ho hol hxo
            go_wp2_with fail
            go_quiet (fail)
            clear hlk
            go_wp2_with fail
            have H3 := Hd.mk (HST.out.drewN nq)
            have g1 : (wr.drewN nq).cell? ⟨bl, o, none⟩ = some (.int .i64 xo) := ko
            have g2 : (wr.drewN nq).cell? ⟨bl, j, none⟩ = some (.int .i64 y) := ky
            have g3 : (wr.drewN nq).frozen? ⟨bl, o, none⟩ = false := hfo
            have g4 : (wr.drewN nq).frozen? ⟨bl, j, none⟩ = false := hfj
            clear ko ky hfo hfj d2
            generalize wr.drewN nq = w5 at *
            by_cases hoj : o = j
            · subst hoj
              have hxy : xo = y := by have := g1.symm.trans g2; simpa using this
              subst hxy
              go_region
              have H4 := Hd.mk (show St W ((w5.setCell ⟨bl, o, none⟩ (.int .i64 xo)).setCell ⟨bl, o, none⟩ (.int .i64 xo)).drew (Sl 3 (.slice (some ⟨bl, 0, none⟩) ys.length cp) (ints ((ls.set o xo).set o xo)) :: BM x bw bk css exO wl (knO tr) tr tr.length :: l) from by
                have h5 := ((H3.out.slSet o (.int .i64 xo) HNE.out).slSet o (.int .i64 xo) (by intro e; exact HNE.out (by simpa using e))).drew
                rw [show ints ((ls.set o xo).set o xo) = ((ints ls).set o (.int .i64 xo)).set o (.int .i64 xo) by simp [ints, List.map_set]]
                exact h5)
              clear g1 g3
              generalize ((w5.setCell ⟨bl, o, none⟩ (.int .i64 xo)).setCell ⟨bl, o, none⟩ (.int .i64 xo)).drew = w6 at *
              go_wp2_with fail
              go_roundw
              case rel => exact ⟨o + 1, o + 1, by omega, by omega, by go_num, by go_num, ⟨_, HPM.out, HP2.out, H4.out⟩⟩
              case measure => simp [intOf]; omega
            · go_region
              have H4 := Hd.mk (show St W ((w5.setCell ⟨bl, o, none⟩ (.int .i64 y)).setCell ⟨bl, j, none⟩ (.int .i64 xo)).drew (Sl 3 (.slice (some ⟨bl, 0, none⟩) ys.length cp) (ints ((ls.set o y).set j xo)) :: BM x bw bk css exO wl (knO tr) tr tr.length :: l) from by
                have h5 := ((H3.out.slSet o (.int .i64 y) HNE.out).slSet j (.int .i64 xo) (by intro e; exact HNE.out (by simpa using e))).drew
                rw [show ints ((ls.set o y).set j xo) = ((ints ls).set o (.int .i64 y)).set j (.int .i64 xo) by simp [ints, List.map_set]]
                exact h5)
              clear g1 g3 g2 g4
              generalize ((w5.setCell ⟨bl, o, none⟩ (.int .i64 y)).setCell ⟨bl, j, none⟩ (.int .i64 xo)).drew = w6 at *
              go_wp2_with fail
              go_roundw
              case rel => exact ⟨o + 1, j + 1, by omega, by omega, by go_num, by go_num, ⟨_, HPM.out, HP2.out, H4.out⟩⟩
              case measure => simp [intOf]; omega
          · have hoI : ¬ (o : Int) < 2 := by omega
            have HP2 := Hd.mk (HPT.out.full HYJ.out ho)
            clear hk hp hpt hst hll hne e2 e3 hcs hfs hjl hyj hym
            go_wp2_with fail
            go_quiet (fail)
            clear hlk
            go_wp2_with fail
            go_roundw
            case rel => exact ⟨o, j + 1, by omega, by omega, rfl, by go_num, ⟨ls, HLS.out, HP2.out, HST.out.drewN _⟩⟩
            case measure => simp [intOf]; omega
      · have hjl : j = ys.length := by omega
        have hll : ls.length = ys.length := hp.length_eq
        have NC := Hd.mk (show NewC orig css wl tr c ls o from ⟨H.out.ok, H.out.ltU, H.out.len, fun y => hp.mem_iff.trans (HSO.out.mem y), hp.symm.nodup HSO.out.nodup, fun y hy hn => HCN.out y (hp.mem_iff.1 hy) (hp.mem_iff.1 hn), by rw [hll]; exact HSO.out.len, by rw [hll, ← hjl]; exact hpt⟩)
        rw [← hll] at hst
        have HLL := Hd.mk hll
        clear hp hpt HPT HLS HST hjl
        by_cases ho0 : o = 0
        · subst ho0
          have hb0 : ((0 : Int) == 0) = true := rfl
          go_wp2_with fail
          exact ⟨rfl, .inr ⟨NC.out.bad, ⟨[], rfl, by simp⟩, hst.drop.drop⟩⟩
        · have hne : ls ≠ [] := by
            intro e
            have := NC.out.part.oj
            rw [e] at this
            simp at this
            omega
          obtain ⟨bl, cl7, hvl⟩ := hst.slSome (by simpa [ints] using hne)
          injection hvl with e1 e2 e3
          subst e1
          obtain ⟨hcs, hfs⟩ := hst.slCells (by simpa [ints] using hne)
          have HTL := Hd.mk (show tr.length < 1099511627776 by have := nodup_le H.out.ok.wb.trl.nodup H.out.tU; have := H.out.lU; omega)
          by_cases hl1 : 1 < ls.length
          · obtain ⟨a, b, t, rfl⟩ : ∃ a b t, ls = a :: b :: t := by
              match ls, hl1 with
              | a :: b :: t, _ => exact ⟨a, b, t, rfl⟩
              | [_], h => simp at h
              | [], h => simp at h
            have ka := hcs 0 (.int .i64 a) (by simp [ints])
            have hlI : (1 : Int) < (ys.length : Int) := by have := HLL.out; simp at this; omega
            have hpI : (0 : Int) < (ys.length : Int) := by omega
            have hyne : ¬ ys = [] := by intro e; rw [e] at hpI; simp at hpI
            have hpN : 0 < ys.length := by omega
            have hlN : 1 < ys.length := by omega
            have hst' : St W wr (Sl 3 (.slice (some ⟨bl, 0, none⟩) ys.length cp) (ints (a :: b :: t)) :: BM x bw bk css exO wl (knO tr) tr tr.length :: l) := by rw [← HLL.out]; exact hst
            have HST := Hd.mk hst'
            have HA := Hd.mk (NC.out.lt (x := a) (by simp)).1
            have HB1 := Hd.mk (NC.out.lt (x := b) (by simp)).1
            have HMU := Hd.mk (show ∀ y ∈ a :: b :: t, y ∈ U from fun y hy => H.out.lit y ((NC.out.mem y).1 hy))
            have HNA := Hd.mk (NC.out.part.nf 0 a (by omega) (by simp))
            clear hst hst' hne e2 e3 hcs hfs hl1 hll
            have ho12 : o = 1 ∨ o = 2 := by omega
            rcases ho12 with rfl | rfl
            · by_cases hat : a ∈ tr
              · have HAT := Hd.mk hat
                have NT := Hd.mk (show NewTr tr (a :: b :: t) 1 tr from .inr ⟨a, b :: t, rfl, rfl, .inl ⟨hat, rfl⟩⟩)
                have HTE := Hd.mk (Nat.le_refl tr.length)
                have HTU := Hd.mk H.out.tU
                clear hat
                obtain ⟨vs, acl, ccl, vtr, hvs, hop⟩ := HST.out.addOpen
                have HVS := Hd.mk hvs
                have HVL := Hd.mk (show vs.length < 1099511627776 from hvs ▸ Nat.lt_trans H.out.cl (by decide))
                have HOP := Hd.mk hop
                have x0 := (hop.p1).cell 0
                simp only [List.getElem?_toArray, List.getElem?_cons_zero] at x0
                clear hop hvs
                go_wp2_with (first
                  | (go_at_call 63; refine (set_old x bw bk css exO wl tr tr.length a W _ _ HST.out.p1 HA.out HNA.out HAT.out).mono ?_; rintro e w6 ⟨rfl, rfl⟩)
                  | (at_builtin; go_must (refine wpList_append1 rfl _ _ 23 rfl 29 (.slice none 0 0) 24 Try.underlying23 info29 rfl (by decide) _ _ _ rfl ((HOP.out.alloc _).p1) _ _ (.slice (some ⟨bl, 0, none⟩) ys.length cp) rfl (by simp) rfl HVL.out ?_); intro v8 w8 hst8; obtain ⟨a8, n8, c8, rfl⟩ := hst8.shape; have H8 := Hd.mk hst8.p1.drop; have x08 := (hst8.pick 2 rfl).cell 0; have f08 := (hst8.pick 2 rfl).free 0; simp only [List.getElem?_toArray, List.getElem?_cons_zero] at x08; clear hst8))
                have H9 := Hd.mk ((H8.out.pick 1 rfl).setCell (i := 0) (.slice a8 n8 c8))
                clear x0 x08 f08 H8 HOP HST
                generalize w8.setCell { block := x, off := 0 } (Value.slice a8 n8 c8) = w9 at *
                have HWBa := Hd.mk (show (wl a).length < 1099511627776 by have := H.out.ok.wb.watch.len a; have := H.out.cl; omega)
                have HWBb := Hd.mk (show ((fun y => if y = a then wl a ++ [(css.length : Int)] else wl y) b).length < 1099511627776 by
                  have := H.out.ok.wb.watch.len a; have := H.out.ok.wb.watch.len b; have := H.out.cl
                  simp only
                  split
                  · simp only [List.length_append, List.length_cons, List.length_nil]; omega
                  · omega)
                obtain ⟨u7a, hlk7, hst7⟩ := St.wmOut2 (H9.out.pick 3 rfl) (k := a) rfl HA.out
                obtain ⟨a7a, n7a, c7a, rfl⟩ := hst7.shape
                have hbw : bw < w9.heap.size := by
                  obtain ⟨ks, vf, _, h'⟩ := (H9.out.pick 3 rfl).wmOpen
                  obtain ⟨g, ⟨es, clock, hg, _⟩, e⟩ := h'.get
                  exact (Array.getElem?_eq_some_iff.1 (e bw _ hg).2).1
                have hA : ∀ o, (Instr.lookup 62 (.map (some bw)) (.int .i64 a) false).run Try.prog (w9.alloc o).drew = .ok (.slice a7a n7a c7a) (w9.alloc o).drew := fun o => hlk7 _ (Below.heap_alloc w9 o bw hbw)
                have hA2 : ∀ o, (Instr.lookup 62 (.map (some bw)) (.int .i64 a) false).run Try.prog (w9.drew.alloc o) = .ok (.slice a7a n7a c7a) (w9.drew.alloc o) := fun o => hlk7 _ (Below.heap_alloc w9 o bw hbw)
                have hB := hlk7 w9.drew rfl
                have hs0 : w9.drew.cell? ⟨x, 1, none⟩ = some (.map (some bw)) ∧ w9.drew.cell? ⟨bl, 0, none⟩ = some (.int .i64 a) := ⟨H9.out.cell 1, ((H9.out.pick 2 rfl).slCells).1 0 _ (by simp [ints])⟩
                have hs1 : ∀ o, (w9.drew.alloc o).cell? ⟨x, 1, none⟩ = some (.map (some bw)) ∧ (w9.drew.alloc o).cell? ⟨bl, 0, none⟩ = some (.int .i64 a) := fun o => ⟨((H9.out.drew.alloc o).pick 1 rfl).cell 1, (((H9.out.drew.alloc o).pick 3 rfl).slCells).1 0 _ (by simp [ints])⟩
                have HST7a := Hd.mk hst7
                have HWDa := Hd.mk (show (ints (wl a)).length < 1099511627776 by simp only [ints, List.length_map]; exact HWBa.out)
                clear hlk7 hst7 hbw
                go_region_held3 (fun w' => w'.cell? ⟨x, 1, none⟩ = some (.map (some bw)) ∧ w'.cell? ⟨bl, 0, none⟩ = some (.int .i64 a)) (first | exact hs0 | exact hs1 _ | exact hs2 | exact hs3)
                  ((go_must (refine step_append1 rfl _ _ 29 rfl 3 (.int .i64 0) 8 Try.underlying29 info3 rfl (by decide) _ _ _ rfl ((HST7a.out.drew.alloc _).p1) _ _ (.int .i64 css.length) rfl (cellNew _ _ _) rfl HWDa.out ?_); intro v8a w8a hst8; obtain ⟨a8a, n8a, c8a, rfl⟩ := hst8.shape; obtain ⟨w9a, hrun9, hst9⟩ := St.wmIn (js := (wl a) ++ [(css.length : Int)]) (by rw [show ints ((wl a) ++ [(css.length : Int)]) = ints (wl a) ++ [.int .i64 css.length] by simp [ints]]; exact hst8.p1.drop) rfl HA.out; have HST9a := Hd.mk hst9; have hs2 : w8a.cell? ⟨x, 1, none⟩ = some (.map (some bw)) ∧ w8a.cell? ⟨bl, 0, none⟩ = some (.int .i64 a) := ⟨(hst8.pick 3 rfl).cell 1, ((hst8.pick 5 rfl).slCells).1 0 _ (by simp [ints])⟩; have hs3 : w9a.cell? ⟨x, 1, none⟩ = some (.map (some bw)) ∧ w9a.cell? ⟨bl, 0, none⟩ = some (.int .i64 a) := ⟨(hst9.pick 1 rfl).cell 1, ((hst9.pick 3 rfl).slCells).1 0 _ (by simp [ints])⟩; clear hst8 hst9))
                all_goals (
                  clear hs0 hs1 hs2 hs3 hA hA2 hB hrun9
                  have H10 := Hd.mk (((HST9a.out.pick 3 rfl).pick 3 rfl).pick 3 rfl)
                  go_wp2_with fail
                  obtain ⟨u7b, hlk7, hst7⟩ := St.wmOut2 (H10.out.pick 3 rfl) (k := b) rfl HB1.out
                  obtain ⟨a7b, n7b, c7b, rfl⟩ := hst7.shape
                  have hbw : bw < w9a.heap.size := by
                    obtain ⟨ks, vf, _, h'⟩ := (H10.out.pick 3 rfl).wmOpen
                    obtain ⟨g, ⟨es, clock, hg, _⟩, e⟩ := h'.get
                    exact (Array.getElem?_eq_some_iff.1 (e bw _ hg).2).1
                  have hA : ∀ o, (Instr.lookup 62 (.map (some bw)) (.int .i64 b) false).run Try.prog (w9a.alloc o).drew = .ok (.slice a7b n7b c7b) (w9a.alloc o).drew := fun o => hlk7 _ (Below.heap_alloc w9a o bw hbw)
                  have hA2 : ∀ o, (Instr.lookup 62 (.map (some bw)) (.int .i64 b) false).run Try.prog (w9a.drew.alloc o) = .ok (.slice a7b n7b c7b) (w9a.drew.alloc o) := fun o => hlk7 _ (Below.heap_alloc w9a o bw hbw)
                  have hB := hlk7 w9a.drew rfl
                  have hs0 : w9a.drew.cell? ⟨x, 1, none⟩ = some (.map (some bw)) ∧ w9a.drew.cell? ⟨bl, 1, none⟩ = some (.int .i64 b) := ⟨H10.out.cell 1, ((H10.out.pick 2 rfl).slCells).1 1 _ (by simp [ints])⟩
                  have hs1 : ∀ o, (w9a.drew.alloc o).cell? ⟨x, 1, none⟩ = some (.map (some bw)) ∧ (w9a.drew.alloc o).cell? ⟨bl, 1, none⟩ = some (.int .i64 b) := fun o => ⟨((H10.out.drew.alloc o).pick 1 rfl).cell 1, (((H10.out.drew.alloc o).pick 3 rfl).slCells).1 1 _ (by simp [ints])⟩
                  have HST7b := Hd.mk hst7
                  have HWDb := Hd.mk (show (ints ((fun y => if y = a then wl a ++ [(css.length : Int)] else wl y) b)).length < 1099511627776 by simp only [ints, List.length_map]; exact HWBb.out)
                  clear hlk7 hst7 hbw
                  go_region_held3 (fun w' => w'.cell? ⟨x, 1, none⟩ = some (.map (some bw)) ∧ w'.cell? ⟨bl, 1, none⟩ = some (.int .i64 b)) (first | exact hs0 | exact hs1 _ | exact hs2 | exact hs3)
                    ((go_must (refine step_append1 rfl _ _ 29 rfl 3 (.int .i64 0) 8 Try.underlying29 info3 rfl (by decide) _ _ _ rfl ((HST7b.out.drew.alloc _).p1) _ _ (.int .i64 css.length) rfl (cellNew _ _ _) rfl HWDb.out ?_); intro v8b w8b hst8; obtain ⟨a8b, n8b, c8b, rfl⟩ := hst8.shape; obtain ⟨w9b, hrun9, hst9⟩ := St.wmIn (js := ((fun y => if y = a then wl a ++ [(css.length : Int)] else wl y) b) ++ [(css.length : Int)]) (by rw [show ints (((fun y => if y = a then wl a ++ [(css.length : Int)] else wl y) b) ++ [(css.length : Int)]) = ints ((fun y => if y = a then wl a ++ [(css.length : Int)] else wl y) b) ++ [.int .i64 css.length] by simp [ints]]; exact hst8.p1.drop) rfl HB1.out; have HST9b := Hd.mk hst9; have hs2 : w8b.cell? ⟨x, 1, none⟩ = some (.map (some bw)) ∧ w8b.cell? ⟨bl, 1, none⟩ = some (.int .i64 b) := ⟨(hst8.pick 3 rfl).cell 1, ((hst8.pick 5 rfl).slCells).1 1 _ (by simp [ints])⟩; have hs3 : w9b.cell? ⟨x, 1, none⟩ = some (.map (some bw)) ∧ w9b.cell? ⟨bl, 1, none⟩ = some (.int .i64 b) := ⟨(hst9.pick 1 rfl).cell 1, ((hst9.pick 3 rfl).slCells).1 1 _ (by simp [ints])⟩; clear hst8 hst9))
                  all_goals (
                    clear hs0 hs1 hs2 hs3 hA hA2 hB hrun9
                    have HBM := Hd.mk (HST9b.out.addShut HVS.out)
                    have NU := Hd.mk (NC.out.clause (by omega) NT.out rfl rfl)
                    have HCU := Hd.mk (show ∀ d ∈ css ++ [a :: b :: t], ∀ y ∈ d, y ∈ U from fun d hd => by
                      rcases List.mem_append.1 hd with hd | hd
                      · exact H.out.cU d hd
                      · rw [List.mem_singleton.1 hd]; exact HMU.out)
                    have HCL2 := Hd.mk (show (css ++ [a :: b :: t]).length ≤ 268435456 by have := H.out.cl; simp; omega)
                    by_cases hb : Bad (orig ++ [c]) []
                    · have HB := Hd.mk hb
                      clear hb
                      go_wp2_with (first
                        | (go_at_call 64; refine (run_bad (orig ++ [c]) [] [] x bw bk _ _ tr U tr.length W _ _ HBM.out NU.out.1 NU.out.2.1 HTE.out HCU.out HTU.out H.out.lU HCL2.out NU.out.2.2 (fun o ho y hy => (H.out.lit' o ho y hy).2) (fun y hy => by cases hy) HB.out).mono ?_; rintro e w7 ⟨rfl, css7, wl7, tr7, dn7, _, _, _, _, hst7⟩; have HST7 := Hd.mk hst7.drop; clear hst7))
                      exact ⟨rfl, .inr ⟨HB.out, ⟨_, rfl, by simp⟩, HST7.out⟩⟩
                    · have HB := Hd.mk hb
                      clear hb
                      go_wp2_with (first
                        | (go_at_call 64; refine (run_ok (orig ++ [c]) [] [] x bw bk _ _ tr U tr.length W _ _ HBM.out NU.out.1 NU.out.2.1 HTE.out HCU.out HTU.out H.out.lU HCL2.out HB.out).mono ?_; rintro e w7 ⟨rfl, css7, wl7, tr7, hs7, hwb7, hp7, hu7, hok7, hst7⟩; have HST7 := Hd.mk hst7; have H7 := Hd.mk (show BOk (orig ++ [c]) css7 wl7 tr7 ∧ css7.length ≤ css.length + 1 ∧ (∀ d ∈ css7, ∀ y ∈ d, y ∈ U) ∧ (∀ y ∈ tr7, y ∈ U) from ⟨.ofRun hs7 hwb7 hok7 NU.out.2.2 hp7 H.out.lit', by rw [← hs7.1]; simp, sameU hs7 HCU.out, hu7⟩); clear hs7 hwb7 hp7 hu7 hok7 hst7))
                      go_end0
                      exact .inl ⟨HB.out, rfl, css7, wl7, tr7, H7.out.1, H7.out.2.1, H7.out.2.2.1, H7.out.2.2.2, HST7.out⟩))
              · have HAT := Hd.mk hat
                have NT := Hd.mk (show NewTr tr (a :: b :: t) 1 (tr ++ [a]) from .inr ⟨a, b :: t, rfl, rfl, .inr ⟨hat, HNA.out, rfl⟩⟩)
                have HTE := Hd.mk (show tr.length ≤ (tr ++ [a]).length by simp)
                have HTU := Hd.mk (show ∀ y ∈ tr ++ [a], y ∈ U from fun y hy => (List.mem_append.1 hy).elim (H.out.tU y) (fun h => by rw [List.mem_singleton.1 h]; exact HMU.out a (by simp)))
                clear hat
                go_wp2_with (first
                  | (go_at_call 63; refine (set_new x bw bk css exO wl tr tr.length a W _ _ HST.out.p1 HA.out HNA.out HAT.out (fun y hy => (H.out.ok.wb.trl.lit y hy).1) HTL.out).mono ?_; rintro e w6 ⟨rfl, hst6⟩; obtain ⟨vs, acl, ccl, vtr, hvs, hop⟩ := hst6.p1.addOpen; have HVS := Hd.mk hvs; have HVL := Hd.mk (show vs.length < 1099511627776 from hvs ▸ Nat.lt_trans H.out.cl (by decide)); have HOP := Hd.mk hop; have x0 := (hop.p1).cell 0; simp only [List.getElem?_toArray, List.getElem?_cons_zero] at x0; clear hop hvs; clear hst6)
                  | (at_builtin; go_must (refine wpList_append1 rfl _ _ 23 rfl 29 (.slice none 0 0) 24 Try.underlying23 info29 rfl (by decide) _ _ _ rfl ((HOP.out.alloc _).p1) _ _ (.slice (some ⟨bl, 0, none⟩) ys.length cp) rfl (by simp) rfl HVL.out ?_); intro v8 w8 hst8; obtain ⟨a8, n8, c8, rfl⟩ := hst8.shape; have H8 := Hd.mk hst8.p1.drop; have x08 := (hst8.pick 2 rfl).cell 0; have f08 := (hst8.pick 2 rfl).free 0; simp only [List.getElem?_toArray, List.getElem?_cons_zero] at x08; clear hst8))
                have H9 := Hd.mk ((H8.out.pick 1 rfl).setCell (i := 0) (.slice a8 n8 c8))
                clear x0 x08 f08 H8 HOP HST
                generalize w8.setCell { block := x, off := 0 } (Value.slice a8 n8 c8) = w9 at *
                have HWBa := Hd.mk (show (wl a).length < 1099511627776 by have := H.out.ok.wb.watch.len a; have := H.out.cl; omega)
                have HWBb := Hd.mk (show ((fun y => if y = a then wl a ++ [(css.length : Int)] else wl y) b).length < 1099511627776 by
                  have := H.out.ok.wb.watch.len a; have := H.out.ok.wb.watch.len b; have := H.out.cl
                  simp only
                  split
                  · simp only [List.length_append, List.length_cons, List.length_nil]; omega
                  · omega)
                obtain ⟨u7a, hlk7, hst7⟩ := St.wmOut2 (H9.out.pick 3 rfl) (k := a) rfl HA.out
                obtain ⟨a7a, n7a, c7a, rfl⟩ := hst7.shape
                have hbw : bw < w9.heap.size := by
                  obtain ⟨ks, vf, _, h'⟩ := (H9.out.pick 3 rfl).wmOpen
                  obtain ⟨g, ⟨es, clock, hg, _⟩, e⟩ := h'.get
                  exact (Array.getElem?_eq_some_iff.1 (e bw _ hg).2).1
                have hA : ∀ o, (Instr.lookup 62 (.map (some bw)) (.int .i64 a) false).run Try.prog (w9.alloc o).drew = .ok (.slice a7a n7a c7a) (w9.alloc o).drew := fun o => hlk7 _ (Below.heap_alloc w9 o bw hbw)
                have hA2 : ∀ o, (Instr.lookup 62 (.map (some bw)) (.int .i64 a) false).run Try.prog (w9.drew.alloc o) = .ok (.slice a7a n7a c7a) (w9.drew.alloc o) := fun o => hlk7 _ (Below.heap_alloc w9 o bw hbw)
                have hB := hlk7 w9.drew rfl
                have hs0 : w9.drew.cell? ⟨x, 1, none⟩ = some (.map (some bw)) ∧ w9.drew.cell? ⟨bl, 0, none⟩ = some (.int .i64 a) := ⟨H9.out.cell 1, ((H9.out.pick 2 rfl).slCells).1 0 _ (by simp [ints])⟩
                have hs1 : ∀ o, (w9.drew.alloc o).cell? ⟨x, 1, none⟩ = some (.map (some bw)) ∧ (w9.drew.alloc o).cell? ⟨bl, 0, none⟩ = some (.int .i64 a) := fun o => ⟨((H9.out.drew.alloc o).pick 1 rfl).cell 1, (((H9.out.drew.alloc o).pick 3 rfl).slCells).1 0 _ (by simp [ints])⟩
                have HST7a := Hd.mk hst7
                have HWDa := Hd.mk (show (ints (wl a)).length < 1099511627776 by simp only [ints, List.length_map]; exact HWBa.out)
                clear hlk7 hst7 hbw
                go_region_held3 (fun w' => w'.cell? ⟨x, 1, none⟩ = some (.map (some bw)) ∧ w'.cell? ⟨bl, 0, none⟩ = some (.int .i64 a)) (first | exact hs0 | exact hs1 _ | exact hs2 | exact hs3)
                  ((go_must (refine step_append1 rfl _ _ 29 rfl 3 (.int .i64 0) 8 Try.underlying29 info3 rfl (by decide) _ _ _ rfl ((HST7a.out.drew.alloc _).p1) _ _ (.int .i64 css.length) rfl (cellNew _ _ _) rfl HWDa.out ?_); intro v8a w8a hst8; obtain ⟨a8a, n8a, c8a, rfl⟩ := hst8.shape; obtain ⟨w9a, hrun9, hst9⟩ := St.wmIn (js := (wl a) ++ [(css.length : Int)]) (by rw [show ints ((wl a) ++ [(css.length : Int)]) = ints (wl a) ++ [.int .i64 css.length] by simp [ints]]; exact hst8.p1.drop) rfl HA.out; have HST9a := Hd.mk hst9; have hs2 : w8a.cell? ⟨x, 1, none⟩ = some (.map (some bw)) ∧ w8a.cell? ⟨bl, 0, none⟩ = some (.int .i64 a) := ⟨(hst8.pick 3 rfl).cell 1, ((hst8.pick 5 rfl).slCells).1 0 _ (by simp [ints])⟩; have hs3 : w9a.cell? ⟨x, 1, none⟩ = some (.map (some bw)) ∧ w9a.cell? ⟨bl, 0, none⟩ = some (.int .i64 a) := ⟨(hst9.pick 1 rfl).cell 1, ((hst9.pick 3 rfl).slCells).1 0 _ (by simp [ints])⟩; clear hst8 hst9))
                all_goals (
                  clear hs0 hs1 hs2 hs3 hA hA2 hB hrun9
                  have H10 := Hd.mk (((HST9a.out.pick 3 rfl).pick 3 rfl).pick 3 rfl)
                  go_wp2_with fail
                  obtain ⟨u7b, hlk7, hst7⟩ := St.wmOut2 (H10.out.pick 3 rfl) (k := b) rfl HB1.out
                  obtain ⟨a7b, n7b, c7b, rfl⟩ := hst7.shape
                  have hbw : bw < w9a.heap.size := by
                    obtain ⟨ks, vf, _, h'⟩ := (H10.out.pick 3 rfl).wmOpen
                    obtain ⟨g, ⟨es, clock, hg, _⟩, e⟩ := h'.get
                    exact (Array.getElem?_eq_some_iff.1 (e bw _ hg).2).1
                  have hA : ∀ o, (Instr.lookup 62 (.map (some bw)) (.int .i64 b) false).run Try.prog (w9a.alloc o).drew = .ok (.slice a7b n7b c7b) (w9a.alloc o).drew := fun o => hlk7 _ (Below.heap_alloc w9a o bw hbw)
                  have hA2 : ∀ o, (Instr.lookup 62 (.map (some bw)) (.int .i64 b) false).run Try.prog (w9a.drew.alloc o) = .ok (.slice a7b n7b c7b) (w9a.drew.alloc o) := fun o => hlk7 _ (Below.heap_alloc w9a o bw hbw)
                  have hB := hlk7 w9a.drew rfl
                  have hs0 : w9a.drew.cell? ⟨x, 1, none⟩ = some (.map (some bw)) ∧ w9a.drew.cell? ⟨bl, 1, none⟩ = some (.int .i64 b) := ⟨H10.out.cell 1, ((H10.out.pick 2 rfl).slCells).1 1 _ (by simp [ints])⟩
                  have hs1 : ∀ o, (w9a.drew.alloc o).cell? ⟨x, 1, none⟩ = some (.map (some bw)) ∧ (w9a.drew.alloc o).cell? ⟨bl, 1, none⟩ = some (.int .i64 b) := fun o => ⟨((H10.out.drew.alloc o).pick 1 rfl).cell 1, (((H10.out.drew.alloc o).pick 3 rfl).slCells).1 1 _ (by simp [ints])⟩
                  have HST7b := Hd.mk hst7
                  have HWDb := Hd.mk (show (ints ((fun y => if y = a then wl a ++ [(css.length : Int)] else wl y) b)).length < 1099511627776 by simp only [ints, List.length_map]; exact HWBb.out)
                  clear hlk7 hst7 hbw
                  go_region_held3 (fun w' => w'.cell? ⟨x, 1, none⟩ = some (.map (some bw)) ∧ w'.cell? ⟨bl, 1, none⟩ = some (.int .i64 b)) (first | exact hs0 | exact hs1 _ | exact hs2 | exact hs3)
                    ((go_must (refine step_append1 rfl _ _ 29 rfl 3 (.int .i64 0) 8 Try.underlying29 info3 rfl (by decide) _ _ _ rfl ((HST7b.out.drew.alloc _).p1) _ _ (.int .i64 css.length) rfl (cellNew _ _ _) rfl HWDb.out ?_); intro v8b w8b hst8; obtain ⟨a8b, n8b, c8b, rfl⟩ := hst8.shape; obtain ⟨w9b, hrun9, hst9⟩ := St.wmIn (js := ((fun y => if y = a then wl a ++ [(css.length : Int)] else wl y) b) ++ [(css.length : Int)]) (by rw [show ints (((fun y => if y = a then wl a ++ [(css.length : Int)] else wl y) b) ++ [(css.length : Int)]) = ints ((fun y => if y = a then wl a ++ [(css.length : Int)] else wl y) b) ++ [.int .i64 css.length] by simp [ints]]; exact hst8.p1.drop) rfl HB1.out; have HST9b := Hd.mk hst9; have hs2 : w8b.cell? ⟨x, 1, none⟩ = some (.map (some bw)) ∧ w8b.cell? ⟨bl, 1, none⟩ = some (.int .i64 b) := ⟨(hst8.pick 3 rfl).cell 1, ((hst8.pick 5 rfl).slCells).1 1 _ (by simp [ints])⟩; have hs3 : w9b.cell? ⟨x, 1, none⟩ = some (.map (some bw)) ∧ w9b.cell? ⟨bl, 1, none⟩ = some (.int .i64 b) := ⟨(hst9.pick 1 rfl).cell 1, ((hst9.pick 3 rfl).slCells).1 1 _ (by simp [ints])⟩; clear hst8 hst9))
                  all_goals (
                    clear hs0 hs1 hs2 hs3 hA hA2 hB hrun9
                    have HBM := Hd.mk (HST9b.out.addShut HVS.out)
                    have NU := Hd.mk (NC.out.clause (by omega) NT.out rfl rfl)
                    have HCU := Hd.mk (show ∀ d ∈ css ++ [a :: b :: t], ∀ y ∈ d, y ∈ U from fun d hd => by
                      rcases List.mem_append.1 hd with hd | hd
                      · exact H.out.cU d hd
                      · rw [List.mem_singleton.1 hd]; exact HMU.out)
                    have HCL2 := Hd.mk (show (css ++ [a :: b :: t]).length ≤ 268435456 by have := H.out.cl; simp; omega)
                    by_cases hb : Bad (orig ++ [c]) []
                    · have HB := Hd.mk hb
                      clear hb
                      go_wp2_with (first
                        | (go_at_call 64; refine (run_bad (orig ++ [c]) [] [] x bw bk _ _ (tr ++ [a]) U tr.length W _ _ HBM.out NU.out.1 NU.out.2.1 HTE.out HCU.out HTU.out H.out.lU HCL2.out NU.out.2.2 (fun o ho y hy => (H.out.lit' o ho y hy).2) (fun y hy => by cases hy) HB.out).mono ?_; rintro e w7 ⟨rfl, css7, wl7, tr7, dn7, _, _, _, _, hst7⟩; have HST7 := Hd.mk hst7.drop; clear hst7))
                      exact ⟨rfl, .inr ⟨HB.out, ⟨_, rfl, by simp⟩, HST7.out⟩⟩
                    · have HB := Hd.mk hb
                      clear hb
                      go_wp2_with (first
                        | (go_at_call 64; refine (run_ok (orig ++ [c]) [] [] x bw bk _ _ (tr ++ [a]) U tr.length W _ _ HBM.out NU.out.1 NU.out.2.1 HTE.out HCU.out HTU.out H.out.lU HCL2.out HB.out).mono ?_; rintro e w7 ⟨rfl, css7, wl7, tr7, hs7, hwb7, hp7, hu7, hok7, hst7⟩; have HST7 := Hd.mk hst7; have H7 := Hd.mk (show BOk (orig ++ [c]) css7 wl7 tr7 ∧ css7.length ≤ css.length + 1 ∧ (∀ d ∈ css7, ∀ y ∈ d, y ∈ U) ∧ (∀ y ∈ tr7, y ∈ U) from ⟨.ofRun hs7 hwb7 hok7 NU.out.2.2 hp7 H.out.lit', by rw [← hs7.1]; simp, sameU hs7 HCU.out, hu7⟩); clear hs7 hwb7 hp7 hu7 hok7 hst7))
                      go_end0
                      exact .inl ⟨HB.out, rfl, css7, wl7, tr7, H7.out.1, H7.out.2.1, H7.out.2.2.1, H7.out.2.2.2, HST7.out⟩))
            · have NT := Hd.mk (show NewTr tr (a :: b :: t) 2 tr from .inl ⟨rfl, rfl⟩)
              have HTE := Hd.mk (Nat.le_refl tr.length)
              have HTU := Hd.mk H.out.tU
              obtain ⟨vs, acl, ccl, vtr, hvs, hop⟩ := HST.out.addOpen
              have HVS := Hd.mk hvs
              have HVL := Hd.mk (show vs.length < 1099511627776 from hvs ▸ Nat.lt_trans H.out.cl (by decide))
              have HOP := Hd.mk hop
              have x0 := (hop.p1).cell 0
              simp only [List.getElem?_toArray, List.getElem?_cons_zero] at x0
              clear hop hvs
              go_wp2_with (first
                | (at_builtin; go_must (refine wpList_append1 rfl _ _ 23 rfl 29 (.slice none 0 0) 24 Try.underlying23 info29 rfl (by decide) _ _ _ rfl ((HOP.out.alloc _).p1) _ _ (.slice (some ⟨bl, 0, none⟩) ys.length cp) rfl (by simp) rfl HVL.out ?_); intro v8 w8 hst8; obtain ⟨a8, n8, c8, rfl⟩ := hst8.shape; have H8 := Hd.mk hst8.p1.drop; have x08 := (hst8.pick 2 rfl).cell 0; have f08 := (hst8.pick 2 rfl).free 0; simp only [List.getElem?_toArray, List.getElem?_cons_zero] at x08; clear hst8))
              have H9 := Hd.mk ((H8.out.pick 1 rfl).setCell (i := 0) (.slice a8 n8 c8))
              clear x0 x08 f08 H8 HOP HST
              generalize w8.setCell { block := x, off := 0 } (Value.slice a8 n8 c8) = w9 at *
              have HWBa := Hd.mk (show (wl a).length < 1099511627776 by have := H.out.ok.wb.watch.len a; have := H.out.cl; omega)
              have HWBb := Hd.mk (show ((fun y => if y = a then wl a ++ [(css.length : Int)] else wl y) b).length < 1099511627776 by
                have := H.out.ok.wb.watch.len a; have := H.out.ok.wb.watch.len b; have := H.out.cl
                simp only
                split
                · simp only [List.length_append, List.length_cons, List.length_nil]; omega
                · omega)
              obtain ⟨u7a, hlk7, hst7⟩ := St.wmOut2 (H9.out.pick 3 rfl) (k := a) rfl HA.out
              obtain ⟨a7a, n7a, c7a, rfl⟩ := hst7.shape
              have hbw : bw < w9.heap.size := by
                obtain ⟨ks, vf, _, h'⟩ := (H9.out.pick 3 rfl).wmOpen
                obtain ⟨g, ⟨es, clock, hg, _⟩, e⟩ := h'.get
                exact (Array.getElem?_eq_some_iff.1 (e bw _ hg).2).1
              have hA : ∀ o, (Instr.lookup 62 (.map (some bw)) (.int .i64 a) false).run Try.prog (w9.alloc o).drew = .ok (.slice a7a n7a c7a) (w9.alloc o).drew := fun o => hlk7 _ (Below.heap_alloc w9 o bw hbw)
              have hA2 : ∀ o, (Instr.lookup 62 (.map (some bw)) (.int .i64 a) false).run Try.prog (w9.drew.alloc o) = .ok (.slice a7a n7a c7a) (w9.drew.alloc o) := fun o => hlk7 _ (Below.heap_alloc w9 o bw hbw)
              have hB := hlk7 w9.drew rfl
              have hs0 : w9.drew.cell? ⟨x, 1, none⟩ = some (.map (some bw)) ∧ w9.drew.cell? ⟨bl, 0, none⟩ = some (.int .i64 a) := ⟨H9.out.cell 1, ((H9.out.pick 2 rfl).slCells).1 0 _ (by simp [ints])⟩
              have hs1 : ∀ o, (w9.drew.alloc o).cell? ⟨x, 1, none⟩ = some (.map (some bw)) ∧ (w9.drew.alloc o).cell? ⟨bl, 0, none⟩ = some (.int .i64 a) := fun o => ⟨((H9.out.drew.alloc o).pick 1 rfl).cell 1, (((H9.out.drew.alloc o).pick 3 rfl).slCells).1 0 _ (by simp [ints])⟩
              have HST7a := Hd.mk hst7
              have HWDa := Hd.mk (show (ints (wl a)).length < 1099511627776 by simp only [ints, List.length_map]; exact HWBa.out)
              clear hlk7 hst7 hbw
              go_region_held3 (fun w' => w'.cell? ⟨x, 1, none⟩ = some (.map (some bw)) ∧ w'.cell? ⟨bl, 0, none⟩ = some (.int .i64 a)) (first | exact hs0 | exact hs1 _ | exact hs2 | exact hs3)
                ((go_must (refine step_append1 rfl _ _ 29 rfl 3 (.int .i64 0) 8 Try.underlying29 info3 rfl (by decide) _ _ _ rfl ((HST7a.out.drew.alloc _).p1) _ _ (.int .i64 css.length) rfl (cellNew _ _ _) rfl HWDa.out ?_); intro v8a w8a hst8; obtain ⟨a8a, n8a, c8a, rfl⟩ := hst8.shape; obtain ⟨w9a, hrun9, hst9⟩ := St.wmIn (js := (wl a) ++ [(css.length : Int)]) (by rw [show ints ((wl a) ++ [(css.length : Int)]) = ints (wl a) ++ [.int .i64 css.length] by simp [ints]]; exact hst8.p1.drop) rfl HA.out; have HST9a := Hd.mk hst9; have hs2 : w8a.cell? ⟨x, 1, none⟩ = some (.map (some bw)) ∧ w8a.cell? ⟨bl, 0, none⟩ = some (.int .i64 a) := ⟨(hst8.pick 3 rfl).cell 1, ((hst8.pick 5 rfl).slCells).1 0 _ (by simp [ints])⟩; have hs3 : w9a.cell? ⟨x, 1, none⟩ = some (.map (some bw)) ∧ w9a.cell? ⟨bl, 0, none⟩ = some (.int .i64 a) := ⟨(hst9.pick 1 rfl).cell 1, ((hst9.pick 3 rfl).slCells).1 0 _ (by simp [ints])⟩; clear hst8 hst9))
              all_goals (
                clear hs0 hs1 hs2 hs3 hA hA2 hB hrun9
                have H10 := Hd.mk (((HST9a.out.pick 3 rfl).pick 3 rfl).pick 3 rfl)
                go_wp2_with fail
                obtain ⟨u7b, hlk7, hst7⟩ := St.wmOut2 (H10.out.pick 3 rfl) (k := b) rfl HB1.out
                obtain ⟨a7b, n7b, c7b, rfl⟩ := hst7.shape
                have hbw : bw < w9a.heap.size := by
                  obtain ⟨ks, vf, _, h'⟩ := (H10.out.pick 3 rfl).wmOpen
                  obtain ⟨g, ⟨es, clock, hg, _⟩, e⟩ := h'.get
                  exact (Array.getElem?_eq_some_iff.1 (e bw _ hg).2).1
                have hA : ∀ o, (Instr.lookup 62 (.map (some bw)) (.int .i64 b) false).run Try.prog (w9a.alloc o).drew = .ok (.slice a7b n7b c7b) (w9a.alloc o).drew := fun o => hlk7 _ (Below.heap_alloc w9a o bw hbw)
                have hA2 : ∀ o, (Instr.lookup 62 (.map (some bw)) (.int .i64 b) false).run Try.prog (w9a.drew.alloc o) = .ok (.slice a7b n7b c7b) (w9a.drew.alloc o) := fun o => hlk7 _ (Below.heap_alloc w9a o bw hbw)
                have hB := hlk7 w9a.drew rfl
                have hs0 : w9a.drew.cell? ⟨x, 1, none⟩ = some (.map (some bw)) ∧ w9a.drew.cell? ⟨bl, 1, none⟩ = some (.int .i64 b) := ⟨H10.out.cell 1, ((H10.out.pick 2 rfl).slCells).1 1 _ (by simp [ints])⟩
                have hs1 : ∀ o, (w9a.drew.alloc o).cell? ⟨x, 1, none⟩ = some (.map (some bw)) ∧ (w9a.drew.alloc o).cell? ⟨bl, 1, none⟩ = some (.int .i64 b) := fun o => ⟨((H10.out.drew.alloc o).pick 1 rfl).cell 1, (((H10.out.drew.alloc o).pick 3 rfl).slCells).1 1 _ (by simp [ints])⟩
                have HST7b := Hd.mk hst7
                have HWDb := Hd.mk (show (ints ((fun y => if y = a then wl a ++ [(css.length : Int)] else wl y) b)).length < 1099511627776 by simp only [ints, List.length_map]; exact HWBb.out)
                clear hlk7 hst7 hbw
                go_region_held3 (fun w' => w'.cell? ⟨x, 1, none⟩ = some (.map (some bw)) ∧ w'.cell? ⟨bl, 1, none⟩ = some (.int .i64 b)) (first | exact hs0 | exact hs1 _ | exact hs2 | exact hs3)
                  ((go_must (refine step_append1 rfl _ _ 29 rfl 3 (.int .i64 0) 8 Try.underlying29 info3 rfl (by decide) _ _ _ rfl ((HST7b.out.drew.alloc _).p1) _ _ (.int .i64 css.length) rfl (cellNew _ _ _) rfl HWDb.out ?_); intro v8b w8b hst8; obtain ⟨a8b, n8b, c8b, rfl⟩ := hst8.shape; obtain ⟨w9b, hrun9, hst9⟩ := St.wmIn (js := ((fun y => if y = a then wl a ++ [(css.length : Int)] else wl y) b) ++ [(css.length : Int)]) (by rw [show ints (((fun y => if y = a then wl a ++ [(css.length : Int)] else wl y) b) ++ [(css.length : Int)]) = ints ((fun y => if y = a then wl a ++ [(css.length : Int)] else wl y) b) ++ [.int .i64 css.length] by simp [ints]]; exact hst8.p1.drop) rfl HB1.out; have HST9b := Hd.mk hst9; have hs2 : w8b.cell? ⟨x, 1, none⟩ = some (.map (some bw)) ∧ w8b.cell? ⟨bl, 1, none⟩ = some (.int .i64 b) := ⟨(hst8.pick 3 rfl).cell 1, ((hst8.pick 5 rfl).slCells).1 1 _ (by simp [ints])⟩; have hs3 : w9b.cell? ⟨x, 1, none⟩ = some (.map (some bw)) ∧ w9b.cell? ⟨bl, 1, none⟩ = some (.int .i64 b) := ⟨(hst9.pick 1 rfl).cell 1, ((hst9.pick 3 rfl).slCells).1 1 _ (by simp [ints])⟩; clear hst8 hst9))
                all_goals (
                  clear hs0 hs1 hs2 hs3 hA hA2 hB hrun9
                  have HBM := Hd.mk (HST9b.out.addShut HVS.out)
                  have NU := Hd.mk (NC.out.clause (by omega) NT.out rfl rfl)
                  have HCU := Hd.mk (show ∀ d ∈ css ++ [a :: b :: t], ∀ y ∈ d, y ∈ U from fun d hd => by
                    rcases List.mem_append.1 hd with hd | hd
                    · exact H.out.cU d hd
                    · rw [List.mem_singleton.1 hd]; exact HMU.out)
                  have HCL2 := Hd.mk (show (css ++ [a :: b :: t]).length ≤ 268435456 by have := H.out.cl; simp; omega)
                  by_cases hb : Bad (orig ++ [c]) []
                  · have HB := Hd.mk hb
                    clear hb
                    go_wp2_with (first
                      | (go_at_call 64; refine (run_bad (orig ++ [c]) [] [] x bw bk _ _ tr U tr.length W _ _ HBM.out NU.out.1 NU.out.2.1 HTE.out HCU.out HTU.out H.out.lU HCL2.out NU.out.2.2 (fun o ho y hy => (H.out.lit' o ho y hy).2) (fun y hy => by cases hy) HB.out).mono ?_; rintro e w7 ⟨rfl, css7, wl7, tr7, dn7, _, _, _, _, hst7⟩; have HST7 := Hd.mk hst7.drop; clear hst7))
                    exact ⟨rfl, .inr ⟨HB.out, ⟨_, rfl, by simp⟩, HST7.out⟩⟩
                  · have HB := Hd.mk hb
                    clear hb
                    go_wp2_with (first
                      | (go_at_call 64; refine (run_ok (orig ++ [c]) [] [] x bw bk _ _ tr U tr.length W _ _ HBM.out NU.out.1 NU.out.2.1 HTE.out HCU.out HTU.out H.out.lU HCL2.out HB.out).mono ?_; rintro e w7 ⟨rfl, css7, wl7, tr7, hs7, hwb7, hp7, hu7, hok7, hst7⟩; have HST7 := Hd.mk hst7; have H7 := Hd.mk (show BOk (orig ++ [c]) css7 wl7 tr7 ∧ css7.length ≤ css.length + 1 ∧ (∀ d ∈ css7, ∀ y ∈ d, y ∈ U) ∧ (∀ y ∈ tr7, y ∈ U) from ⟨.ofRun hs7 hwb7 hok7 NU.out.2.2 hp7 H.out.lit', by rw [← hs7.1]; simp, sameU hs7 HCU.out, hu7⟩); clear hs7 hwb7 hp7 hu7 hok7 hst7))
                    go_end0
                    exact .inl ⟨HB.out, rfl, css7, wl7, tr7, H7.out.1, H7.out.2.1, H7.out.2.2.1, H7.out.2.2.2, HST7.out⟩))
          · obtain ⟨a, rfl⟩ : ∃ a, ls = [a] := by
              match ls, hne, hl1 with
              | [a], _, _ => exact ⟨a, rfl⟩
              | _ :: _ :: _, _, h => simp at h
            have ho1 : o = 1 := by have := NC.out.part.oj; simp at this; omega
            subst ho1
            have ka := hcs 0 (.int .i64 a) (by simp [ints])
            have hlI : ¬ (1 : Int) < (ys.length : Int) := by have := HLL.out; simp at this; omega
            have hpI : (0 : Int) < (ys.length : Int) := by have := HLL.out; simp at this; omega
            have HST := Hd.mk hst
            have HA := Hd.mk (NC.out.lt (x := a) (by simp)).1
            have HAU := Hd.mk (show a ∈ U from H.out.lit a ((NC.out.mem a).1 (by simp)))
            have HNA := Hd.mk (NC.out.part.nf 0 a (by omega) (by simp))
            by_cases hat : a ∈ tr
            · have HAT := Hd.mk hat
              have NU := Hd.mk (NC.out.unit (tr' := tr) (.inr ⟨a, [], rfl, rfl, .inl ⟨hat, rfl⟩⟩))
              have HTE := Hd.mk (Nat.le_refl tr.length)
              have HTU := Hd.mk H.out.tU
              clear hat hst hne e2 e3 hcs hfs hl1
              by_cases hb : Bad (orig ++ [c]) []
              · have HB := Hd.mk hb
                clear hb
                go_wp2_with (first
                  | (go_at_call 63; refine (set_old x bw bk css exO wl tr tr.length a W _ _ HST.out.p1 HA.out HNA.out HAT.out).mono ?_; rintro e w6 ⟨rfl, rfl⟩; have HST6 := HST)
                  | (go_at_call 64; refine (run_bad (orig ++ [c]) [] [] x bw bk css wl tr U tr.length W _ _ HST6.out.p1 NU.out.1 NU.out.2.1 HTE.out H.out.cU HTU.out H.out.lU (Nat.le_of_lt H.out.cl) NU.out.2.2 (fun o ho y hy => (H.out.lit' o ho y hy).2) (fun y hy => by cases hy) HB.out).mono ?_; rintro e w7 ⟨rfl, css7, wl7, tr7, dn7, _, _, _, _, hst7⟩; have HST7 := Hd.mk hst7.drop.drop; clear hst7))
                exact ⟨rfl, .inr ⟨HB.out, ⟨_, rfl, by simp⟩, HST7.out⟩⟩
              · have HB := Hd.mk hb
                clear hb
                go_wp2_with (first
                  | (go_at_call 63; refine (set_old x bw bk css exO wl tr tr.length a W _ _ HST.out.p1 HA.out HNA.out HAT.out).mono ?_; rintro e w6 ⟨rfl, rfl⟩; have HST6 := HST)
                  | (go_at_call 64; refine (run_ok (orig ++ [c]) [] [] x bw bk css wl tr U tr.length W _ _ HST6.out.p1 NU.out.1 NU.out.2.1 HTE.out H.out.cU HTU.out H.out.lU (Nat.le_of_lt H.out.cl) HB.out).mono ?_; rintro e w7 ⟨rfl, css7, wl7, tr7, hs7, hwb7, hp7, hu7, hok7, hst7⟩; have HST7 := Hd.mk (hst7.p1).drop; have H7 := Hd.mk (show BOk (orig ++ [c]) css7 wl7 tr7 ∧ css7.length ≤ css.length + 1 ∧ (∀ d ∈ css7, ∀ y ∈ d, y ∈ U) ∧ (∀ y ∈ tr7, y ∈ U) from ⟨.ofRun hs7 hwb7 hok7 NU.out.2.2 hp7 H.out.lit', by rw [← hs7.1]; omega, sameU hs7 H.out.cU, hu7⟩); clear hs7 hwb7 hp7 hu7 hok7 hst7))
                go_end0
                exact .inl ⟨HB.out, rfl, css7, wl7, tr7, H7.out.1, H7.out.2.1, H7.out.2.2.1, H7.out.2.2.2, HST7.out⟩
            · have HAT := Hd.mk hat
              have NU := Hd.mk (NC.out.unit (tr' := tr ++ [a]) (.inr ⟨a, [], rfl, rfl, .inr ⟨hat, HNA.out, rfl⟩⟩))
              have HTE := Hd.mk (show tr.length ≤ (tr ++ [a]).length by simp)
              have HTU := Hd.mk (show ∀ y ∈ tr ++ [a], y ∈ U from fun y hy => (List.mem_append.1 hy).elim (H.out.tU y) (fun h => by rw [List.mem_singleton.1 h]; exact HAU.out))
              clear hat hst hne e2 e3 hcs hfs hl1
              by_cases hb : Bad (orig ++ [c]) []
              · have HB := Hd.mk hb
                clear hb
                go_wp2_with (first
                  | (go_at_call 63; refine (set_new x bw bk css exO wl tr tr.length a W _ _ HST.out.p1 HA.out HNA.out HAT.out (fun y hy => (H.out.ok.wb.trl.lit y hy).1) HTL.out).mono ?_; rintro e w6 ⟨rfl, hst6⟩; have HST6 := Hd.mk hst6.p1; clear hst6)
                  | (go_at_call 64; refine (run_bad (orig ++ [c]) [] [] x bw bk css wl (tr ++ [a]) U tr.length W _ _ HST6.out.p1 NU.out.1 NU.out.2.1 HTE.out H.out.cU HTU.out H.out.lU (Nat.le_of_lt H.out.cl) NU.out.2.2 (fun o ho y hy => (H.out.lit' o ho y hy).2) (fun y hy => by cases hy) HB.out).mono ?_; rintro e w7 ⟨rfl, css7, wl7, tr7, dn7, _, _, _, _, hst7⟩; have HST7 := Hd.mk hst7.drop.drop; clear hst7))
                exact ⟨rfl, .inr ⟨HB.out, ⟨_, rfl, by simp⟩, HST7.out⟩⟩
              · have HB := Hd.mk hb
                clear hb
                go_wp2_with (first
                  | (go_at_call 63; refine (set_new x bw bk css exO wl tr tr.length a W _ _ HST.out.p1 HA.out HNA.out HAT.out (fun y hy => (H.out.ok.wb.trl.lit y hy).1) HTL.out).mono ?_; rintro e w6 ⟨rfl, hst6⟩; have HST6 := Hd.mk hst6.p1; clear hst6)
                  | (go_at_call 64; refine (run_ok (orig ++ [c]) [] [] x bw bk css wl (tr ++ [a]) U tr.length W _ _ HST6.out.p1 NU.out.1 NU.out.2.1 HTE.out H.out.cU HTU.out H.out.lU (Nat.le_of_lt H.out.cl) HB.out).mono ?_; rintro e w7 ⟨rfl, css7, wl7, tr7, hs7, hwb7, hp7, hu7, hok7, hst7⟩; have HST7 := Hd.mk (hst7.p1).drop; have H7 := Hd.mk (show BOk (orig ++ [c]) css7 wl7 tr7 ∧ css7.length ≤ css.length + 1 ∧ (∀ d ∈ css7, ∀ y ∈ d, y ∈ U) ∧ (∀ y ∈ tr7, y ∈ U) from ⟨.ofRun hs7 hwb7 hok7 NU.out.2.2 hp7 H.out.lit', by rw [← hs7.1]; omega, sameU hs7 H.out.cU, hu7⟩); clear hs7 hwb7 hp7 hu7 hok7 hst7))
                go_end0
                exact .inl ⟨HB.out, rfl, css7, wl7, tr7, H7.out.1, H7.out.2.1, H7.out.2.2.1, H7.out.2.2.2, HST7.out⟩
end Go.Proofs.Ytneibkemhmneoaa
