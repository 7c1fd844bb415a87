/- Contract: run (all that is known is propagated). -/
import Derived.Test.YtneibkemhmneoaaBd
namespace Go.Proofs.Ytneibkemhmneoaa
set_option linter.unusedVariables false
set_option linter.unusedSimpArgs false
open Go.RowKit

abbrev nP : Int → Nat → Prop := fun _ _ => False

theorem WOk.next {css : List (List Int)} {wl : Int → List Int} {tr : List Int} {dn : Nat} {lit : Int} (h : WOk css (tr.take dn) tr nP) (hwt : Watch css wl) (hlit : tr[dn]? = some lit) : WOk css (tr.take (dn + 1)) tr (Pnd (-lit) (wl (-lit))) := by
  intro i c x y hc hxy hf hp
  by_cases e : -x ∈ tr.take dn
  · exact h i c x y hc hxy e (fun h => h)
  · obtain ⟨hlt, hl⟩ := List.getElem?_eq_some_iff.1 hlit
    have h1 := ((mem_take_succ hlt _).1 hf).resolve_right e
    have h2 : x = -lit := by omega
    subst h2
    exact absurd ⟨rfl, ((hwt _).2 _).2 ⟨by omega, c, by simpa using hc, hxy.elim (fun h => .inl h.1) (fun h => .inr h.1)⟩⟩ hp

theorem WOk.all {css : List (List Int)} {fal tg : List Int} {a : Int} (h : WOk css fal tg (Pnd a [])) : WOk css fal tg nP := h.mono (fun _ h => h) (fun _ _ h => by cases h.2)
theorem WOk.falC {css : List (List Int)} {fal fal' tg : List Int} {P : Int → Nat → Prop} (h : WOk css fal tg P) (e : fal = fal') : WOk css fal' tg P := e ▸ h

set_option maxRecDepth 10000 in
theorem slice00 (a : Option Addr) (n c : Nat) (w : World) : (Instr.sliceAt 29 (.slice a n c) none (some (.int .i64 0)) (some (.int .i64 0))).run Try.prog w = .ok (.slice a 0 0) w := by
  have h0 : (0 : Int) ≤ (c : Int) := by omega
  obtain ⟨i, hi, _⟩ := info_parts (P := Try.prog) info3
  simp [Instr.sliceAt, Instr.slice, Instr.sliceBounds, Instr.sliceBound, run_underlying Try.underlying29, asIntOf, h0, sizeOf, typeInfo, hi]

theorem St.turn81 {W w : World} {A B C D E F G H I J : As} {l : List As} (h : St W w (A :: B :: C :: D :: E :: F :: G :: H :: I :: J :: l)) : St W w (D :: E :: F :: G :: H :: I :: J :: C :: B :: A :: l) :=
  ((((((((h.pick 1 rfl).pick 2 rfl).pick 9 rfl).pick 9 rfl).pick 9 rfl).pick 9 rfl).pick 9 rfl).pick 9 rfl).pick 9 rfl

/-- What one round of the inner loop asks. -/
structure Pre81 (orig : List (List Int)) (asm p : List Int) (x bw bk : Nat) (css : List (List Int)) (wl : Int → List Int) (tr fal : List Int) (dn a : Int) (W w : World) (l : List As) (vk vl : Value) (kp ls ps : List Int) (nn n : Nat) (k b : Int) (t : List Int) (b1 b2 b3 b4 b5 b6 b7 : Nat) : Prop where
  st : St W w (BM x bw bk css (exA a) wl (knO tr) tr dn :: runTail x a vk vl kp ls nn n k b1 b2 b3 b4 b5 b6 b7 l)
  wb : WB orig asm p css wl tr
  ok : WOk css fal tr (Pnd a ((n : Int) :: ps))
  at_ : AtC css n k a b t
  na : -a ∈ tr
  fal : ∀ x ∈ fal, x ∈ tr
  wa : wl a = kp ++ (n : Int) :: ps
  lsd : ls.drop nn = (n : Int) :: ps
  len : tr.length < 1073741824
  cl : css.length ≤ 1073741824
  kl : kp.length + ls.length ≤ 1099511627775

section
variable {orig : List (List Int)} {asm p : List Int} {x bw bk : Nat} {css : List (List Int)} {wl : Int → List Int} {tr fal : List Int} {dn a : Int} {W w : World} {l : List As} {vk vl : Value} {kp ls ps : List Int} {nn n : Nat} {k b : Int} {t : List Int} {b1 b2 b3 b4 b5 b6 b7 : Nat}
theorem Pre81.ok81 (h : Pre81 orig asm p x bw bk css wl tr fal dn a W w l vk vl kp ls ps nn n k b t b1 b2 b3 b4 b5 b6 b7) (hd : ¬ Dies tr b t) :
    Calls Try.prog 81 #[.pointer (some ⟨b4, 0, none⟩), .pointer (some ⟨b3, 0, none⟩), .pointer (some ⟨b5, 0, none⟩), .pointer (some ⟨b1, 0, none⟩), .pointer (some ⟨b2, 0, none⟩), .pointer (some ⟨b6, 0, none⟩), .pointer (some ⟨b7, 0, none⟩)] w fun e w' =>
      e = .returned (.tuple #[]) ∧ ∃ css' wl' tr' vk' kp', SameC css css' ∧ WB orig asm p css' wl' tr' ∧ WOk css' fal tr' (Pnd a ps) ∧ (tr' = tr ∨ ∃ b, tr' = tr ++ [b] ∧ ∃ c ∈ css, b ∈ c) ∧ wl' a = kp' ++ ps ∧
        St W w' (BM x bw bk css' (exA a) wl' (knO tr') tr' dn :: runTail x a vk' vl kp' ls nn n k b1 b2 b3 b4 b5 b6 b7 l) :=
  (run81_any orig asm p x bw bk css wl tr fal dn a W w l vk vl kp ls ps nn n k b t b1 b2 b3 b4 b5 b6 b7 h.st h.wb h.ok h.at_ h.na h.fal h.wa h.lsd h.len h.cl h.kl).mono (by
    rintro e w' (⟨_, css', wl', tr', vk', kp', h1, h2⟩ | ⟨h1, _⟩)
    · exact ⟨h1, css', wl', tr', vk', kp', h2⟩
    · exact absurd h1 hd)
theorem Pre81.bad81 (h : Pre81 orig asm p x bw bk css wl tr fal dn a W w l vk vl kp ls ps nn n k b t b1 b2 b3 b4 b5 b6 b7) (hd : Dies tr b t) :
    Calls Try.prog 81 #[.pointer (some ⟨b4, 0, none⟩), .pointer (some ⟨b3, 0, none⟩), .pointer (some ⟨b5, 0, none⟩), .pointer (some ⟨b1, 0, none⟩), .pointer (some ⟨b2, 0, none⟩), .pointer (some ⟨b6, 0, none⟩), .pointer (some ⟨b7, 0, none⟩)] w fun e w' =>
      e = .panicked [failE false, failE true] ∧ ∃ css', SameC css css' ∧ WB orig asm p css' wl tr ∧ Bad orig asm ∧ St W w' (BM x bw bk css' exO wl (knO tr) tr dn :: l) :=
  (run81_any orig asm p x bw bk css wl tr fal dn a W w l vk vl kp ls ps nn n k b t b1 b2 b3 b4 b5 b6 b7 h.st h.wb h.ok h.at_ h.na h.fal h.wa h.lsd h.len h.cl h.kl).mono (by
    rintro e w' (⟨h1, _⟩ | ⟨_, css', h1, h2⟩)
    · exact absurd hd h1
    · exact ⟨h1, css', h2⟩)
end

def RunEnd (orig : List (List Int)) (asm p : List Int) (x bw bk : Nat) (css : List (List Int)) (tr U : List Int) (W : World) (l : List As) (e : Ending) (w' : World) : Prop :=
  ∃ (css' : List (List Int)) (wl' : Int → List Int) (tr' : List Int) (dn' : Nat), SameC css css' ∧ WB orig asm p css' wl' tr' ∧ tr <+: tr' ∧ (∀ x ∈ tr', x ∈ U) ∧ St W w' (BM x bw bk css' exO wl' (knO tr') tr' dn' :: l) ∧
    ((e = .returned (.tuple #[]) ∧ dn' = tr'.length ∧ WOk css' tr' tr' nP) ∨ (e = .panicked [failE false, failE true] ∧ Bad orig asm))

/-- What the outer loop keeps. -/
structure Outer (orig : List (List Int)) (asm p : List Int) (x bw bk : Nat) (css : List (List Int)) (tr U : List Int) (W : World) (b1 : Nat) (l : List As) (css1 : List (List Int)) (wl1 : Int → List Int) (tr1 : List Int) (dn1 : Nat) (wr : World) : Prop where
  same : SameC css css1
  wb : WB orig asm p css1 wl1 tr1
  ok : WOk css1 (tr1.take dn1) tr1 nP
  le : dn1 ≤ tr1.length
  pre : tr <+: tr1
  sub : ∀ x ∈ tr1, x ∈ U
  st : St W wr (BM x bw bk css1 exO wl1 (knO tr1) tr1 dn1 :: Blk b1 (.cells #[.pointer (some ⟨x, 0, none⟩)] 61 (0, 0)) :: l)

/-- What the inner loop keeps. -/
structure InnerR (orig : List (List Int)) (asm p : List Int) (x bw bk : Nat) (css : List (List Int)) (tr U : List Int) (W : World) (b1 b2 b3 b4 : Nat) (l : List As) (a : Int) (vl : Value) (ls fal : List Int) (dn : Int) (css1 : List (List Int)) (wl1 : Int → List Int) (tr1 kp : List Int) (vk : Value) (m : Nat) (wr : World) : Prop where
  same : SameC css css1
  wb : WB orig asm p css1 wl1 tr1
  ok : WOk css1 fal tr1 (Pnd a (ls.drop m))
  pre : tr <+: tr1
  sub : ∀ x ∈ tr1, x ∈ U
  row : wl1 a = kp ++ ls.drop m
  st : St W wr (BM x bw bk css1 (exA a) wl1 (knO tr1) tr1 dn :: Sl 3 vk (ints kp) :: Sl 3 vl (ints ls) :: Blk b1 (.cells #[.pointer (some ⟨x, 0, none⟩)] 61 (0, 0)) :: Blk b2 (.cells #[.int .i64 a] 3 (0, 0)) :: Blk b3 (.cells #[vl] 29 (0, 0)) :: Blk b4 (.cells #[vk] 29 (0, 0)) :: l)

theorem InnerR.next {orig : List (List Int)} {asm p : List Int} {x bw bk : Nat} {css : List (List Int)} {tr U : List Int} {W : World} {b1 b2 b3 b4 b5 b6 b7 : Nat} {l : List As} {a : Int} {vl : Value} {ls fal : List Int} {dn : Int} {css1 css3 : List (List Int)} {wl1 wl3 : Int → List Int} {tr1 tr3 kp kp3 : List Int} {vk vk3 : Value} {m n : Nat} {k : Int} {wr w3 : World}
    (h : InnerR orig asm p x bw bk css tr U W b1 b2 b3 b4 l a vl ls fal dn css1 wl1 tr1 kp vk m wr) (hU : ∀ c ∈ css, ∀ x ∈ c, x ∈ U) (hs : SameC css1 css3) (hwb : WB orig asm p css3 wl3 tr3) (hok : WOk css3 fal tr3 (Pnd a (ls.drop (m + 1)))) (ht : tr3 = tr1 ∨ ∃ b, tr3 = tr1 ++ [b] ∧ ∃ c ∈ css1, b ∈ c) (hrow : wl3 a = kp3 ++ ls.drop (m + 1))
    (hst : St W w3 (BM x bw bk css3 (exA a) wl3 (knO tr3) tr3 dn :: runTail x a vk3 vl kp3 ls m n k b1 b2 b3 b4 b5 b6 b7 l)) : InnerR orig asm p x bw bk css tr U W b1 b2 b3 b4 l a vl ls fal dn css3 wl3 tr3 kp3 vk3 (m + 1) w3 where
  same := h.same.trans hs
  wb := hwb
  ok := hok
  pre := by
    rcases ht with rfl | ⟨b, rfl, _⟩
    · exact h.pre
    · exact h.pre.trans (List.prefix_append _ _)
  sub y hy := by
    rcases ht with rfl | ⟨b, rfl, c, hc, hb⟩
    · exact h.sub y hy
    · rcases List.mem_append.1 hy with hy | hy
      · exact h.sub y hy
      · rw [List.mem_singleton.1 hy]
        obtain ⟨d, hd, p⟩ := h.same.symm.mem hc
        exact hU d hd b (p.mem_iff.1 hb)
  row := hrow
  st := ((hst.rm 9 rfl).rm 8 rfl).rm 7 rfl

/-- The outer loop's measure. -/
def msr (N x : Nat) (w : World) : Nat := match w.cell? ⟨x, 4, none⟩ with
  | some (.int _ d) => N + 1 - d.toNat
  | _ => 0
theorem msr_at {N x : Nat} {w : World} {d : Nat} (h : w.cell? ⟨x, 4, none⟩ = some (.int .i64 d)) : msr N x w = N + 1 - d := by simp [msr, h]

set_option maxRecDepth 100000 in
set_option maxHeartbeats 4000000 in
theorem run64_any (orig : List (List Int)) (asm p : List Int) (x bw bk : Nat) (css : List (List Int)) (wl : Int → List Int) (tr U : List Int) (dn : Nat) (W w : World) (l : List As)
    (hst : St W w (BM x bw bk css exO wl (knO tr) tr dn :: l)) (hwb : WB orig asm p css wl tr) (hw : WOk css (tr.take dn) tr nP) (hdn : dn ≤ tr.length) (hU1 : ∀ c ∈ css, ∀ x ∈ c, x ∈ U) (hU2 : ∀ x ∈ tr, x ∈ U) (hUl : U.length < 1073741824) (hcl : css.length ≤ 268435456) :
    Calls Try.prog 64 #[.pointer (some ⟨x, 0, none⟩)] w (RunEnd orig asm p x bw bk css tr U W l) := by
  have hmf : ∀ (fn : Fn) (first cap : Array Value) (w : World), (Instr.makeFunc fn first cap).run Try.prog w = .ok (.func fn first cap) w := fun _ _ _ _ => rfl
  have H0 := Hd.mk (show Outer orig asm p x bw bk css tr U W w.heap.size l css wl tr dn (w.alloc (.cells #[.pointer (some ⟨x, 0, none⟩)] 61)) from ⟨.refl _, hwb, hw, hdn, List.prefix_refl _, hU2, (hst.alloc _).p1⟩)
  have HU1 := Hd.mk hU1
  have HUL := Hd.mk hUl
  have HCL := Hd.mk hcl
  have hb1 := Hd.mk (show w.heap.size < (w.alloc (.cells #[.pointer (some ⟨x, 0, none⟩)] 61)).heap.size by simp)
  clear hst hwb hw hdn hU1 hU2 hUl hcl
  go_enter Try.func64, Try.ntmps64
  go_wp2_with fail
  generalize w.heap.size = b1 at *
  generalize w.alloc (.cells #[.pointer (some ⟨x, 0, none⟩)] 61) = w1 at *
  go_loopw [] (fun wr => Hd (∃ css1 wl1 tr1 dn1, Outer orig asm p x bw bk css tr U W b1 l css1 wl1 tr1 dn1 wr)) (fun wr => msr U.length x wr)
  case atStart => exact ⟨_, _, _, _, H0.out⟩
  case round =>
    obtain ⟨css1, wl1, tr1, dn1, ho⟩ := hrel
    have HO := Hd.mk ho
    obtain ⟨acl, ccl, atr, ctr, c0, c1, c2, c3, c4, hf, hrd⟩ := ho.st.bmCells
    have g1 : wr.cell? ⟨b1, 0, none⟩ = some (.pointer (some ⟨x, 0, none⟩)) := (ho.st.p1).cell 0
    have HRD := Hd.mk hrd
    have HF := Hd.mk hf
    clear ho H0 c0 c2 hf hrd
    by_cases hlt : dn1 < tr1.length
    · have hltI : (dn1 : Int) < (tr1.length : Int) := by omega
      go_wp2_with fail
      go_quiet (fail)
      go_wp2_with fail
      have ho2 := HO.out.st.drewN nq
      clear g1 c1 c3 c4 HRD HF
      generalize wr.drewN nq = w2 at *
      obtain ⟨vcl, vtr, hop⟩ := ho2.bmOpen
      have hne : ints tr1 ≠ [] := by intro e; simp [ints] at e; rw [e] at hlt; simp at hlt
      obtain ⟨bt, ct, rfl⟩ := (hop.p4).slSome hne
      rw [show (ints tr1).length = tr1.length by simp [ints]] at hop
      have hlit := List.getElem?_eq_getElem hlt
      generalize tr1[dn1] = lit at hlit
      have hS0 : ∀ w', St W w' (Blk x (.cells #[vcl, .map (some bw), .map (some bk), .slice (some ⟨bt, 0, none⟩) tr1.length ct, .int .i64 dn1] 65 (0, 0)) :: LL vcl css1 :: WM bw exO wl1 :: KB bk (knO tr1) :: Sl 3 (.slice (some ⟨bt, 0, none⟩) tr1.length ct) (ints tr1) :: Blk b1 (.cells #[.pointer (some ⟨x, 0, none⟩)] 61 (0, 0)) :: l) →
          w'.cell? ⟨b1, 0, none⟩ = some (.pointer (some ⟨x, 0, none⟩)) ∧ w'.cell? ⟨x, 3, none⟩ = some (.slice (some ⟨bt, 0, none⟩) tr1.length ct) ∧ w'.cell? ⟨x, 4, none⟩ = some (.int .i64 dn1) ∧ w'.cell? ⟨bt, dn1, none⟩ = some (.int .i64 lit) := fun w' h =>
        ⟨(h.pick 5 rfl).cell 0, h.cell 3, h.cell 4, ((h.pick 4 rfl).slCells hne).1 dn1 _ (by simp [ints, hlit])⟩
      have hs0 := hS0 _ hop.drew
      have hs1 := fun o => hS0 _ ((hop.drew.alloc o).drop)
      have hs2 := fun v => hS0 _ (((hop.drew.alloc (.cells #[.int .i64 0] 3)).setCell (i := 0) v).drop)
      have H2 := Hd.mk ((hop.alloc (.cells #[.int .i64 (-lit)] 3)).drew)
      have HLIT := Hd.mk hlit
      obtain ⟨⟨nl1, nl2⟩, _⟩ := HO.out.wb.trl.lit lit (List.mem_of_getElem? hlit)
      clear hS0 hop ho2 hne hlit
      go_region_held3 (fun w' => w'.cell? ⟨b1, 0, none⟩ = some (.pointer (some ⟨x, 0, none⟩)) ∧ w'.cell? ⟨x, 3, none⟩ = some (.slice (some ⟨bt, 0, none⟩) tr1.length ct) ∧ w'.cell? ⟨x, 4, none⟩ = some (.int .i64 dn1) ∧ w'.cell? ⟨bt, dn1, none⟩ = some (.int .i64 lit)) (first | exact hs0 | exact hs1 _ | exact hs2 _) (fail)
      rw [IntWalk.i64_in (-lit) (by omega)]
      clear hs0 hs1 hs2
      have hla : Lt40 (-lit) := ⟨by omega, by omega⟩
      have HLA := Hd.mk hla
      have hna : -(-lit) ∈ tr1 := by rw [Int.neg_neg]; exact List.mem_of_getElem? HLIT.out
      have HNA := Hd.mk hna
      have HNX := Hd.mk (HO.out.ok.next HO.out.wb.watch HLIT.out)
      have hdn : (dn1 : Int) + 1 ≤ 1073741825 := by
        have := nodup_le HO.out.wb.trl.nodup HO.out.sub
        have := HUL.out
        omega
      have hltN := Hd.mk hlt
      clear hla hna HLIT nl1 nl2 hlt
      generalize -lit = a at *
      generalize w2.heap.size = b2 at *
      generalize (w2.alloc (Obj.cells #[Value.int IntKind.i64 a] 3)).drew = w3 at *
      have k1 : w3.cell? ⟨b1, 0, none⟩ = some (.pointer (some ⟨x, 0, none⟩)) := (H2.out.pick 6 rfl).cell 0
      have k4 : w3.cell? ⟨x, 4, none⟩ = some (.int .i64 dn1) := (H2.out.pick 1 rfl).cell 4
      have kf := (H2.out.pick 1 rfl).free 4
      have H3 := Hd.mk ((H2.out.pick 1 rfl).setCell (i := 4) (.int .i64 ((dn1 : Int) + 1)))
      clear H2
      go_wp2_with fail
      clear k1 k4 kf
      generalize w3.setCell { block := x, off := 4 } (Value.int IntKind.i64 ((dn1 : Int) + 1)) = w4 at *
      obtain ⟨u7, hlk7, hst7⟩ := St.wmOut2 (H3.out.pick 3 rfl) (k := a) rfl HLA.out
      obtain ⟨a7, c7, rfl⟩ : ∃ a7 c7, u7 = .slice a7 (wl1 a).length c7 := by
        obtain ⟨a7, c7, e, _⟩ := hst7.rd
        exact ⟨a7, c7, by simpa [ints] using e⟩
      have hbw : bw < w4.heap.size := by
        obtain ⟨ks, vf, _, h'⟩ := (H3.out.pick 3 rfl).wmOpen
        obtain ⟨g, ⟨es, clock, hg, _⟩, e⟩ := h'.get
        exact (Array.getElem?_eq_some_iff.1 (e bw _ hg).2).1
      have hA : ∀ o, (Instr.lookup 62 (.map (some bw)) (.int .i64 a) false).run Try.prog (w4.alloc o).drew = .ok (.slice a7 (wl1 a).length c7) (w4.alloc o).drew := fun o => hlk7 _ (Below.heap_alloc w4 o bw hbw)
      have hA2 : ∀ o, (Instr.lookup 62 (.map (some bw)) (.int .i64 a) false).run Try.prog (w4.drew.alloc o) = .ok (.slice a7 (wl1 a).length c7) (w4.drew.alloc o) := fun o => hlk7 _ (Below.heap_alloc w4 o bw hbw)
      have hB := hlk7 w4.drew rfl
      have hS0 : ∀ w', St W w' (Blk x (.cells #[vcl, .map (some bw), .map (some bk), .slice (some ⟨bt, 0, none⟩) tr1.length ct, .int .i64 ((dn1 : Int) + 1)] 65 (0, 0)) :: Blk b2 (.cells #[.int .i64 a] 3 (0, 0)) :: LL vcl css1 :: WM bw exO wl1 :: KB bk (knO tr1) :: Sl 3 (.slice (some ⟨bt, 0, none⟩) tr1.length ct) (ints tr1) :: Blk b1 (.cells #[.pointer (some ⟨x, 0, none⟩)] 61 (0, 0)) :: l) →
          w'.cell? ⟨b1, 0, none⟩ = some (.pointer (some ⟨x, 0, none⟩)) ∧ w'.cell? ⟨x, 1, none⟩ = some (.map (some bw)) ∧ w'.cell? ⟨b2, 0, none⟩ = some (.int .i64 a) := fun w' h =>
        ⟨(h.pick 6 rfl).cell 0, h.cell 1, (h.pick 1 rfl).cell 0⟩
      have hs0 := hS0 _ H3.out.drew
      have hs1 := fun o => hS0 _ ((H3.out.drew.alloc o).drop)
      have hs2 := fun v => hS0 _ (((H3.out.drew.alloc (.cells #[.slice none 0 0] 29)).setCell (i := 0) v).drop)
      have H4 := Hd.mk ((hst7.alloc (.cells #[.slice a7 (wl1 a).length c7] 29)).drew)
      clear hlk7 hst7 hbw hS0 H3
      go_region_held3 (fun w' => w'.cell? ⟨b1, 0, none⟩ = some (.pointer (some ⟨x, 0, none⟩)) ∧ w'.cell? ⟨x, 1, none⟩ = some (.map (some bw)) ∧ w'.cell? ⟨b2, 0, none⟩ = some (.int .i64 a)) (first | exact hs0 | exact hs1 _ | exact hs2 _) (fail)
      all_goals (
      clear hs0 hs1 hs2 hA hA2 hB
      generalize w4.heap.size = b3 at *
      generalize (w4.alloc (Obj.cells #[Value.slice a7 (wl1 a).length c7] 29)).drew = w5 at *
      have k3 : w5.cell? ⟨b3, 0, none⟩ = some (.slice a7 (wl1 a).length c7) := H4.out.cell 0
      have hsl : ∀ w, (Instr.sliceAt 29 (.slice a7 (wl1 a).length c7) none (some (.int .i64 0)) (some (.int .i64 0))).run Try.prog w = .ok (.slice a7 0 0) w := fun w => slice00 a7 _ c7 w
      have k33 : ∀ o, (w5.alloc o).cell? ⟨b3, 0, none⟩ = some (.slice a7 (wl1 a).length c7) := fun o => (H4.out.alloc o).p1.cell 0
      have H5 := Hd.mk (H4.out.alloc (.cells #[.slice a7 0 0] 29))
      go_wp2_with fail
      clear k3 hsl k33 H4
      generalize w5.heap.size = b4 at *
      generalize w5.alloc (Obj.cells #[Value.slice a7 0 0] 29) = w6 at *
      have H6 := Hd.mk (show InnerR orig asm p x bw bk css1 tr1 U W b1 b2 b3 b4 l a (.slice a7 (wl1 a).length c7) (wl1 a) (tr1.take (dn1 + 1)) ((dn1 : Int) + 1) css1 wl1 tr1 [] (.slice a7 0 0) 0 w6 from
        ⟨.refl _, HO.out.wb, by simpa using HNX.out, List.prefix_refl _, HO.out.sub, by simp,
          (St.sl_none (((((((((H5.out.pick 1 rfl).pick 5 rfl).pick 9 rfl).pick 4 rfl).pick 9 rfl).pick 9 rfl).pick 7 rfl).pick 9 rfl).pick 9 rfl).bmShut 3 a7).p1⟩)
      clear H5
      go_loopw [46] (fun i wr2 => ∃ m : Nat, m ≤ (wl1 a).length ∧ i = .int .i64 m ∧ Hd (∃ css2 wl2 tr2 kp vk, InnerR orig asm p x bw bk css1 tr1 U W b1 b2 b3 b4 l a (.slice a7 (wl1 a).length c7) (wl1 a) (tr1.take (dn1 + 1)) ((dn1 : Int) + 1) css2 wl2 tr2 kp vk m wr2)) (fun i _ => (wl1 a).length - (intOf i).toNat)
      case atStart => exact ⟨0, Nat.zero_le _, rfl, ⟨_, _, _, _, _, H6.out⟩⟩
      case round =>
        obtain ⟨m, hm, rfl, ⟨css2, wl2, tr2, kp, vk, hr⟩⟩ := hrel
        have HR := Hd.mk hr
        clear H6
        have hlm : (wl1 a).length ≤ 536870913 := by have := HO.out.wb.watch.len a; have := HO.out.same.1; have := HCL.out; omega
        by_cases hlt : m < (wl1 a).length
        · have hne : ints (wl1 a) ≠ [] := by intro e; simp [ints] at e; rw [e] at hlt; simp at hlt
          obtain ⟨bl, cl7, hvl⟩ := (hr.st.p2).slSome hne
          injection hvl with e1 e2 e3
          subst e1
          have kel := ((hr.st.p2).slCells hne).1 m (.int .i64 (wl1 a)[m]) (by simp [ints, List.getElem?_eq_getElem hlt])
          have hdr : (wl1 a).drop m = (wl1 a)[m] :: (wl1 a).drop (m + 1) := List.drop_eq_getElem_cons hlt
          obtain ⟨n, c, hn, hc, b, t, hct⟩ := hr.wb.watch.here hr.wb.cls (i := (wl1 a)[m]) (by rw [hr.row]; exact List.mem_append_right _ (by rw [hdr]; exact List.mem_cons_self))
          rw [hn] at kel hdr
          have HDR := Hd.mk hdr
          have HC := Hd.mk hc
          have HCT := Hd.mk hct
          have hmI : (m : Int) < ((wl1 a).length : Int) := by omega
          have hm0 : (0 : Int) ≤ (m : Int) := by omega
          have HLM := Hd.mk hlm
          have hmB : (m : Int) ≤ 536870913 := by omega
          clear e2 e3 hne hdr hc hct hr hn hlm
          go_wp2_with fail
          have H8 := Hd.mk (show St W (((wr.alloc (.cells #[.int .i64 m] 3)).alloc (.cells #[.int .i64 n] 3)).alloc (.cells #[.int .i64 1] 3)) (Blk (wr.heap.size + 1 + 1) (.cells #[.int .i64 1] 3) :: Blk (wr.heap.size + 1) (.cells #[.int .i64 n] 3) :: Blk wr.heap.size (.cells #[.int .i64 m] 3) :: BM x bw bk css2 (exA a) wl2 (knO tr2) tr2 ((dn1 : Int) + 1) :: Sl 3 vk (ints kp) :: Sl 3 (.slice (some ⟨bl, 0, none⟩) (wl1 a).length c7) (ints (wl1 a)) :: Blk b1 (.cells #[.pointer (some ⟨x, 0, none⟩)] 61 (0, 0)) :: Blk b2 (.cells #[.int .i64 a] 3 (0, 0)) :: Blk b3 (.cells #[.slice (some ⟨bl, 0, none⟩) (wl1 a).length c7] 29 (0, 0)) :: Blk b4 (.cells #[vk] 29 (0, 0)) :: l) from by
            have h := ((HR.out.st.alloc (.cells #[.int .i64 m] 3)).alloc (.cells #[.int .i64 n] 3)).alloc (.cells #[.int .i64 1] 3)
            simpa using h)
          clear kel
          generalize wr.heap.size + 1 + 1 = b7 at *
          generalize wr.heap.size + 1 = b6 at *
          generalize wr.heap.size = b5 at *
          generalize (((wr.alloc (.cells #[.int .i64 m] 3)).alloc (.cells #[.int .i64 n] 3)).alloc (.cells #[.int .i64 1] 3)) = w8 at *
          have hcne : c ≠ [] := by rcases HCT.out with rfl | ⟨rfl, _⟩ <;> simp
          obtain ⟨bcl, ccl8, br, capr, vtr8, R8, hrow8, hst8, _⟩ := (H8.out.pick 3 rfl).bmRow HC.out hcne
          have q0 := (hst8.p1).cell 0
          simp only [List.getElem?_toArray, List.getElem?_cons_zero] at q0
          have q1 : w8.cell? ⟨b1, 0, none⟩ = some (.pointer (some ⟨x, 0, none⟩)) := (H8.out.pick 6 rfl).cell 0
          have q2 : w8.cell? ⟨b2, 0, none⟩ = some (.int .i64 a) := (H8.out.pick 7 rfl).cell 0
          have q6 : w8.cell? ⟨b6, 0, none⟩ = some (.int .i64 n) := (H8.out.pick 1 rfl).cell 0
          have q7 : w8.cell? ⟨b7, 0, none⟩ = some (.int .i64 1) := H8.out.cell 0
          have f7 := H8.out.free 0
          obtain ⟨hsl8, _⟩ := hst8.slCells (by simpa [ints] using hcne)
          have hnl : (n : Int) < (css2.length : Int) := by have := (List.getElem?_eq_some_iff.1 HC.out).1; omega
          have hn0 : (0 : Int) ≤ (n : Int) := by omega
          have HTL := Hd.mk (show tr2.length < 1073741824 by have := nodup_le HR.out.wb.trl.nodup HR.out.sub; have := HUL.out; omega)
          have HC2 := Hd.mk (show css2.length ≤ 268435456 by rw [← HR.out.same.1, ← HO.out.same.1]; exact HCL.out)
          have HKP := Hd.mk (show kp.length + (wl1 a).length ≤ 1099511627775 by
            have h1 := HR.out.wb.watch.len a
            rw [HR.out.row, List.length_append] at h1
            have := HLM.out
            have := HC2.out
            omega)
          have HPRE := Hd.mk (fun (k : Int) (w9 : World) (hk : (k = 0 ∧ c = a :: b :: t) ∨ (k = 1 ∧ c = b :: a :: t)) (hst9 : St W w9 (BM x bw bk css2 (exA a) wl2 (knO tr2) tr2 ((dn1 : Int) + 1) :: runTail x a vk (.slice (some ⟨bl, 0, none⟩) (wl1 a).length c7) kp (wl1 a) m n k b1 b2 b3 b4 b5 b6 b7 l)) =>
            (show Pre81 orig asm p x bw bk css2 wl2 tr2 (tr1.take (dn1 + 1)) ((dn1 : Int) + 1) a W w9 l vk (.slice (some ⟨bl, 0, none⟩) (wl1 a).length c7) kp (wl1 a) ((wl1 a).drop (m + 1)) m n k b t b1 b2 b3 b4 b5 b6 b7 from
              ⟨hst9, HR.out.wb, by rw [← HDR.out]; exact HR.out.ok, ⟨c, HC.out, hk⟩, HR.out.pre.subset HNA.out, fun y hy => HR.out.pre.subset (List.mem_of_mem_take hy), by rw [← HDR.out]; exact HR.out.row, HDR.out, HTL.out, by have := HC2.out; omega, HKP.out⟩))
          clear hst8 hcne
          rcases HCT with ⟨rfl | ⟨rfl, hba⟩⟩
          · have qc := hsl8 0 (.int .i64 a) (by simp [ints])
            simp only [List.length_cons] at hrow8
            have hcp : (0 : Int) < (t.length : Int) + 1 + 1 := by omega
            clear hsl8
            go_quiet (fail)
            have H9 := Hd.mk (((H8.out.drewN nq).setCell (i := 0) (.int .i64 0)).turn81)
            by_cases hd : Dies tr2 b t
            · skip
              go_wp2_with (first
                | (go_at_call 81; refine ((HPRE.out 0 _ (.inl ⟨rfl, rfl⟩) H9.out).bad81 hd).mono ?_; rintro e w10 ⟨rfl, css3, hs3, hwb3, hbad3, hst3⟩; have H10 := Hd.mk hst3; have H11 := Hd.mk (show SameC css css3 ∧ WB orig asm p css3 wl2 tr2 ∧ Bad orig asm from ⟨(HO.out.same.trans HR.out.same).trans hs3, hwb3, hbad3⟩); clear hs3 hwb3 hbad3 hst3))
              exact ⟨rfl, css3, wl2, tr2, dn1 + 1, H11.out.1, H11.out.2.1, HO.out.pre.trans HR.out.pre, HR.out.sub, by rw [show ((dn1 + 1 : Nat) : Int) = (dn1 : Int) + 1 by omega]; exact H10.out, .inr ⟨rfl, H11.out.2.2⟩⟩
            · skip
              go_wp2_with (first
                | (go_at_call 81; refine ((HPRE.out 0 _ (.inl ⟨rfl, rfl⟩) H9.out).ok81 hd).mono ?_; rintro e w10 ⟨rfl, css3, wl3, tr3, vk3, kp3, hs3, hwb3, hok3, htr3, hrow3, hst3⟩; have H10 := Hd.mk (HR.out.next (fun c hc y hy => by obtain ⟨d, hd, p⟩ := HO.out.same.symm.mem hc; exact HU1.out d hd y (p.mem_iff.1 hy)) hs3 hwb3 hok3 htr3 hrow3 hst3); clear hs3 hwb3 hok3 htr3 hrow3 hst3))
              go_roundw
              case rel => exact ⟨m + 1, by omega, by go_num, ⟨_, _, _, _, _, H10.out⟩⟩
              case measure => simp [intOf]; omega
          · have qc := hsl8 0 (.int .i64 b) (by simp [ints])
            simp only [List.length_cons] at hrow8
            have hcp : (0 : Int) < (t.length : Int) + 1 + 1 := by omega
            have hbe : (b == a) = false := by simp [hba]
            clear hsl8
            go_quiet (fail)
            have H9 := Hd.mk ((H8.out.drewN nq).turn81)
            by_cases hd : Dies tr2 b t
            · skip
              go_wp2_with (first
                | (go_at_call 81; refine ((HPRE.out 1 _ (.inr ⟨rfl, rfl⟩) H9.out).bad81 hd).mono ?_; rintro e w10 ⟨rfl, css3, hs3, hwb3, hbad3, hst3⟩; have H10 := Hd.mk hst3; have H11 := Hd.mk (show SameC css css3 ∧ WB orig asm p css3 wl2 tr2 ∧ Bad orig asm from ⟨(HO.out.same.trans HR.out.same).trans hs3, hwb3, hbad3⟩); clear hs3 hwb3 hbad3 hst3))
              exact ⟨rfl, css3, wl2, tr2, dn1 + 1, H11.out.1, H11.out.2.1, HO.out.pre.trans HR.out.pre, HR.out.sub, by rw [show ((dn1 + 1 : Nat) : Int) = (dn1 : Int) + 1 by omega]; exact H10.out, .inr ⟨rfl, H11.out.2.2⟩⟩
            · skip
              go_wp2_with (first
                | (go_at_call 81; refine ((HPRE.out 1 _ (.inr ⟨rfl, rfl⟩) H9.out).ok81 hd).mono ?_; rintro e w10 ⟨rfl, css3, wl3, tr3, vk3, kp3, hs3, hwb3, hok3, htr3, hrow3, hst3⟩; have H10 := Hd.mk (HR.out.next (fun c hc y hy => by obtain ⟨d, hd, p⟩ := HO.out.same.symm.mem hc; exact HU1.out d hd y (p.mem_iff.1 hy)) hs3 hwb3 hok3 htr3 hrow3 hst3); clear hs3 hwb3 hok3 htr3 hrow3 hst3))
              go_roundw
              case rel => exact ⟨m + 1, by omega, by go_num, ⟨_, _, _, _, _, H10.out⟩⟩
              case measure => simp [intOf]; omega
        · have hm2 : m = (wl1 a).length := by omega
          obtain ⟨ak, nk, ck, rfl⟩ := (hr.st.p1).shape
          obtain ⟨vcl9, vtr9, hop9⟩ := hr.st.bmOpen
          have hrow9 := hr.row
          rw [hm2, List.drop_length, List.append_nil] at hrow9
          have HOP9 := Hd.mk (show St W wr (Sl 3 (.slice ak nk ck) (ints kp) :: WM bw (exA a) wl2 :: Blk x (.cells #[vcl9, .map (some bw), .map (some bk), vtr9, .int .i64 ((dn1 : Int) + 1)] 65 (0, 0)) :: LL vcl9 css2 :: KB bk (knO tr2) :: Sl 3 vtr9 (ints tr2) :: Sl 3 (.slice a7 (wl1 a).length c7) (ints (wl1 a)) :: Blk b1 (.cells #[.pointer (some ⟨x, 0, none⟩)] 61 (0, 0)) :: Blk b2 (.cells #[.int .i64 a] 3 (0, 0)) :: Blk b3 (.cells #[.slice a7 (wl1 a).length c7] 29 (0, 0)) :: Blk b4 (.cells #[.slice ak nk ck] 29 (0, 0)) :: l) from (hop9.pick 2 rfl).pick 5 rfl)
          obtain ⟨w9, hrun9, hst9⟩ := St.wmIn (js := kp) (HOP9.out.drew) rfl HLA.out
          have HST9 := Hd.mk hst9
          have hs0 : wr.drew.cell? ⟨b1, 0, none⟩ = some (.pointer (some ⟨x, 0, none⟩)) ∧ wr.drew.cell? ⟨x, 1, none⟩ = some (.map (some bw)) ∧ wr.drew.cell? ⟨b2, 0, none⟩ = some (.int .i64 a) ∧ wr.drew.cell? ⟨b4, 0, none⟩ = some (.slice ak nk ck) := ⟨(HOP9.out.pick 7 rfl).cell 0, (HOP9.out.pick 2 rfl).cell 1, (HOP9.out.pick 8 rfl).cell 0, (HOP9.out.pick 10 rfl).cell 0⟩
          have hs1 : w9.cell? ⟨b1, 0, none⟩ = some (.pointer (some ⟨x, 0, none⟩)) ∧ w9.cell? ⟨x, 1, none⟩ = some (.map (some bw)) ∧ w9.cell? ⟨b2, 0, none⟩ = some (.int .i64 a) ∧ w9.cell? ⟨b4, 0, none⟩ = some (.slice ak nk ck) := ⟨(hst9.pick 6 rfl).cell 0, (hst9.pick 1 rfl).cell 1, (hst9.pick 7 rfl).cell 0, (hst9.pick 9 rfl).cell 0⟩
          have HROW9 := Hd.mk hrow9
          have HM2 := Hd.mk hm2
          have hmI : ¬ (m : Int) < ((wl1 a).length : Int) := by omega
          clear hr hop9 hrow9 hst9 hm2 hlm
          go_wp2_with fail
          go_region_held3 (fun w' => w'.cell? ⟨b1, 0, none⟩ = some (.pointer (some ⟨x, 0, none⟩)) ∧ w'.cell? ⟨x, 1, none⟩ = some (.map (some bw)) ∧ w'.cell? ⟨b2, 0, none⟩ = some (.int .i64 a) ∧ w'.cell? ⟨b4, 0, none⟩ = some (.slice ak nk ck)) (first | exact hs0 | exact hs1) (fail)
          clear hs0 hs1 hrun9
          go_wp2_with fail
          have hwl : (fun y => if y = a then kp else wl2 y) = wl2 := by
            funext y
            by_cases hy : y = a
            · subst hy; rw [if_pos rfl, HROW9.out]
            · rw [if_neg hy]
          have h10 := (((HST9.out.rm 9 rfl).rm 8 rfl).rm 7 rfl).rm 5 rfl
          rw [hwl] at h10
          have h11 : St W w9 (BM x bw bk css2 exO wl2 (knO tr2) tr2 ((dn1 + 1 : Nat) : Int) :: Blk b1 (.cells #[.pointer (some ⟨x, 0, none⟩)] 61 (0, 0)) :: l) := by
            rw [show ((dn1 + 1 : Nat) : Int) = (dn1 : Int) + 1 by omega]
            exact ((h10.pick 2 rfl).pick 2 rfl).bmShut
          have hle : dn1 + 1 ≤ tr1.length := hltN.out
          have hok : WOk css2 (tr2.take (dn1 + 1)) tr2 nP := by
            have h1 := HR.out.ok
            rw [HM2.out, List.drop_length] at h1
            refine h1.all.falC ?_
            obtain ⟨r, rfl⟩ := HR.out.pre
            rw [List.take_append_of_le_length hle]
          refine ⟨⟨css2, wl2, tr2, dn1 + 1, HO.out.same.trans HR.out.same, HR.out.wb, hok, Nat.le_trans hle HR.out.pre.length_le, HO.out.pre.trans HR.out.pre, HR.out.sub, h11⟩, ?_⟩
          have hc9 : w9.cell? ⟨x, 4, none⟩ = some (.int .i64 ((dn1 + 1 : Nat) : Int)) := by
            obtain ⟨_, _, _, _, _, _, _, _, h, _⟩ := h11.bmCells
            exact h
          rw [msr_at hc9]
          obtain ⟨_, _, _, _, _, _, _, _, hc0, _⟩ := HO.out.st.bmCells
          rw [msr_at hc0]
          have := nodup_le HO.out.wb.trl.nodup HO.out.sub
          omega
      )
    · have hltI : ¬ (dn1 : Int) < (tr1.length : Int) := by omega
      go_wp2_with fail
      go_quiet (fail)
      go_wp2
      go_end0
      have hd : dn1 = tr1.length := by have := HO.out.le; omega
      exact ⟨css1, wl1, tr1, dn1, HO.out.same, HO.out.wb, HO.out.pre, HO.out.sub, ((HO.out.st.p1).drop).drewN _, .inl ⟨rfl, hd, HO.out.ok.falC (by rw [hd, List.take_length])⟩⟩
end Go.Proofs.Ytneibkemhmneoaa
