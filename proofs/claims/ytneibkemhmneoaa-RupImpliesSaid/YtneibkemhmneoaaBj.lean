/- Contracts: a clause is added under fails. -/
import Derived.Test.YtneibkemhmneoaaBi
namespace Go.Proofs.Ytneibkemhmneoaa
set_option linter.unusedVariables false
set_option linter.unusedSimpArgs false
open Go.RowKit

/-- What add leaves, where propagation does not fail. -/
def Added (orig : List (List Int)) (x bw bk : Nat) (css : List (List Int)) (U c : List Int) (l : List As) (L : List As) : Prop :=
  ∃ (css' : List (List Int)) (wl' : Int → List Int) (tr' : List Int), BOk (orig ++ [c]) css' wl' tr' ∧ css'.length ≤ css.length + 1 ∧ (∀ d ∈ css', ∀ y ∈ d, y ∈ U) ∧ (∀ y ∈ tr', y ∈ U) ∧ L = (BM x bw bk css' exO wl' (knO tr') tr' tr'.length :: l)

theorem add_ok (orig : List (List Int)) (x bw bk : Nat) (css : List (List Int)) (wl : Int → List Int) (tr U : List Int) (v : Value) (c : List Int) (W w : World) (l : List As) (h : AddPre orig x bw bk css wl tr U v c W w l) (hb : ¬ Bad (orig ++ [c]) []) :
    Calls Try.prog 34 #[.pointer (some ⟨x, 0, none⟩), v] w fun e w' => e = .returned (.tuple #[]) ∧ ∃ L, Added orig x bw bk css U c l L ∧ St W w' L :=
  (add_any orig x bw bk css wl tr U v c W w l h).mono (by
    rintro e w' (⟨_, h1, css', wl', tr', h2, h3, h4, h5, h6⟩ | ⟨h1, _⟩)
    · exact ⟨h1, _, ⟨css', wl', tr', h2, h3, h4, h5, rfl⟩, h6⟩
    · exact absurd h1 hb)
theorem add_bad (orig : List (List Int)) (x bw bk : Nat) (css : List (List Int)) (wl : Int → List Int) (tr U : List Int) (v : Value) (c : List Int) (W w : World) (l : List As) (h : AddPre orig x bw bk css wl tr U v c W w l) (hb : Bad (orig ++ [c]) []) :
    Calls Try.prog 34 #[.pointer (some ⟨x, 0, none⟩), v] w fun e w' => (∃ older, e = .panicked (failE false :: older) ∧ ∀ q ∈ older, q.goexit = false) ∧ St W w' l :=
  (add_any orig x bw bk css wl tr U v c W w l h).mono (by
    rintro e w' (⟨h1, _⟩ | ⟨_, h1, h2⟩)
    · exact absurd hb h1
    · exact ⟨h1, h2⟩)

theorem c33_ok (orig : List (List Int)) (x bw bk : Nat) (css : List (List Int)) (wl : Int → List Int) (tr U : List Int) (v : Value) (c : List Int) (W w : World) (l : List As) (p q : Nat) (h : AddPre orig x bw bk css wl tr U v c W w l) (hb : ¬ Bad (orig ++ [c]) [])
    (hp : w.cell? ⟨p, 0, none⟩ = some (.pointer (some ⟨x, 0, none⟩))) (hq : w.cell? ⟨q, 0, none⟩ = some v) :
    Calls Try.prog 33 #[.pointer (some ⟨p, 0, none⟩), .pointer (some ⟨q, 0, none⟩)] w fun e w' => e = .returned (.tuple #[]) ∧ ∃ L, Added orig x bw bk css U c l L ∧ St W w' L := by
  obtain ⟨a, cp, rfl, _, _⟩ := h.rd.shape
  have H := Hd.mk h
  have HB := Hd.mk hb
  clear h hb
  go_enter Try.func33, Try.ntmps33
  go_wp2_with (first | (go_at_call 34; refine (add_ok orig x bw bk css wl tr U _ c W _ l H.out HB.out).mono ?_; rintro e w2 ⟨rfl, L, hL, hst2⟩; have HL := Hd.mk hL; have H2 := Hd.mk hst2; clear hL hst2))
  go_end0
  exact ⟨rfl, L, HL.out, H2.out⟩
theorem c33_bad (orig : List (List Int)) (x bw bk : Nat) (css : List (List Int)) (wl : Int → List Int) (tr U : List Int) (v : Value) (c : List Int) (W w : World) (l : List As) (p q : Nat) (h : AddPre orig x bw bk css wl tr U v c W w l) (hb : Bad (orig ++ [c]) [])
    (hp : w.cell? ⟨p, 0, none⟩ = some (.pointer (some ⟨x, 0, none⟩))) (hq : w.cell? ⟨q, 0, none⟩ = some v) :
    Calls Try.prog 33 #[.pointer (some ⟨p, 0, none⟩), .pointer (some ⟨q, 0, none⟩)] w fun e w' => (∃ older, e = .panicked (failE false :: older) ∧ ∀ q ∈ older, q.goexit = false) ∧ St W w' l := by
  obtain ⟨a, cp, rfl, _, _⟩ := h.rd.shape
  have H := Hd.mk h
  have HB := Hd.mk hb
  clear h hb
  go_enter Try.func33, Try.ntmps33
  go_wp2_with (first | (go_at_call 34; refine (add_bad orig x bw bk css wl tr U _ c W _ l H.out HB.out).mono ?_; rintro e w2 ⟨⟨older, rfl, ho⟩, hst2⟩; have HO := Hd.mk ho; have H2 := Hd.mk hst2; clear ho hst2))
  exact ⟨rfl, ⟨older, rfl, HO.out⟩, H2.out⟩

/-- 'fails(func() { x.add(c) })': whether propagation fails; where it does not, what is kept. -/
theorem addf33 (orig : List (List Int)) (x bw bk : Nat) (css : List (List Int)) (wl : Int → List Int) (tr U : List Int) (v : Value) (c : List Int) (W w : World) (l : List As) (p q : Nat)
    (hst : St W w (BM x bw bk css exO wl (knO tr) tr tr.length :: Blk p (.cells #[.pointer (some ⟨x, 0, none⟩)] 61 (0, 0)) :: Blk q (.cells #[v] 29 (0, 0)) :: l))
    (hpre : ∀ w1 l1, St W w1 (BM x bw bk css exO wl (knO tr) tr tr.length :: l1) → AddPre orig x bw bk css wl tr U v c W w1 l1) (r : Bool) (hr : badB (orig ++ [c]) [] = r) :
    Calls Try.prog 32 #[.func (Fn.func 33) #[] #[.pointer (some ⟨p, 0, none⟩), .pointer (some ⟨q, 0, none⟩)]] w fun e w' => e = .returned (.bool r) ∧
      ∃ L, ((r = true ∧ L = Blk p (.cells #[.pointer (some ⟨x, 0, none⟩)] 61 (0, 0)) :: Blk q (.cells #[v] 29 (0, 0)) :: l) ∨ (r = false ∧ Added orig x bw bk css U c (Blk p (.cells #[.pointer (some ⟨x, 0, none⟩)] 61 (0, 0)) :: Blk q (.cells #[v] 29 (0, 0)) :: l) L)) ∧ St W w' L := by
  by_cases hb : Bad (orig ++ [c]) []
  · rw [badB_true hb] at hr
    subst hr
    refine fails33_bad _ _ W w _ _ hst (fun w1 hw1 => ?_)
    have hw2 := (((hw1.pick 3 rfl).pick 3 rfl).pick 3 rfl)
    refine (c33_bad orig x bw bk css wl tr U v c W w1 _ p q (hpre w1 _ hw2) hb ((hw2.pick 1 rfl).cell 0) ((hw2.pick 2 rfl).cell 0)).mono ?_
    rintro e w2 ⟨h1, h2⟩
    exact ⟨h1, _, .inl ⟨rfl, rfl⟩, h2.pick 2 rfl⟩
  · rw [badB_false hb] at hr
    subst hr
    refine fails33_ok _ _ W w _ _ hst (fun w1 hw1 => ?_)
    have hw2 := (((hw1.pick 3 rfl).pick 3 rfl).pick 3 rfl)
    refine (c33_ok orig x bw bk css wl tr U v c W w1 _ p q (hpre w1 _ hw2) hb ((hw2.pick 1 rfl).cell 0) ((hw2.pick 2 rfl).cell 0)).mono ?_
    rintro e w2 ⟨h1, L, ⟨css', wl', tr', h2, h3, h4, h5, rfl⟩, h6⟩
    exact ⟨h1, _, .inr ⟨rfl, css', wl', tr', h2, h3, h4, h5, rfl⟩, h6.pick 3 rfl⟩

theorem c35_ok (orig : List (List Int)) (x bw bk : Nat) (css : List (List Int)) (wl : Int → List Int) (tr U : List Int) (v : Value) (c : List Int) (W w : World) (l : List As) (p q : Nat) (h : AddPre orig x bw bk css wl tr U v c W w l) (hb : ¬ Bad (orig ++ [c]) [])
    (hp : w.cell? ⟨p, 0, none⟩ = some (.pointer (some ⟨x, 0, none⟩))) (hq : w.cell? ⟨q, 0, none⟩ = some v) :
    Calls Try.prog 35 #[.pointer (some ⟨p, 0, none⟩), .pointer (some ⟨q, 0, none⟩)] w fun e w' => e = .returned (.tuple #[]) ∧ ∃ L, Added orig x bw bk css U c l L ∧ St W w' L := by
  obtain ⟨a, cp, rfl, _, _⟩ := h.rd.shape
  have H := Hd.mk h
  have HB := Hd.mk hb
  clear h hb
  go_enter Try.func35, Try.ntmps35
  go_wp2_with (first | (go_at_call 34; refine (add_ok orig x bw bk css wl tr U _ c W _ l H.out HB.out).mono ?_; rintro e w2 ⟨rfl, L, hL, hst2⟩; have HL := Hd.mk hL; have H2 := Hd.mk hst2; clear hL hst2))
  go_end0
  exact ⟨rfl, L, HL.out, H2.out⟩
theorem c35_bad (orig : List (List Int)) (x bw bk : Nat) (css : List (List Int)) (wl : Int → List Int) (tr U : List Int) (v : Value) (c : List Int) (W w : World) (l : List As) (p q : Nat) (h : AddPre orig x bw bk css wl tr U v c W w l) (hb : Bad (orig ++ [c]) [])
    (hp : w.cell? ⟨p, 0, none⟩ = some (.pointer (some ⟨x, 0, none⟩))) (hq : w.cell? ⟨q, 0, none⟩ = some v) :
    Calls Try.prog 35 #[.pointer (some ⟨p, 0, none⟩), .pointer (some ⟨q, 0, none⟩)] w fun e w' => (∃ older, e = .panicked (failE false :: older) ∧ ∀ q ∈ older, q.goexit = false) ∧ St W w' l := by
  obtain ⟨a, cp, rfl, _, _⟩ := h.rd.shape
  have H := Hd.mk h
  have HB := Hd.mk hb
  clear h hb
  go_enter Try.func35, Try.ntmps35
  go_wp2_with (first | (go_at_call 34; refine (add_bad orig x bw bk css wl tr U _ c W _ l H.out HB.out).mono ?_; rintro e w2 ⟨⟨older, rfl, ho⟩, hst2⟩; have HO := Hd.mk ho; have H2 := Hd.mk hst2; clear ho hst2))
  exact ⟨rfl, ⟨older, rfl, HO.out⟩, H2.out⟩

/-- 'fails(func() { x.add(c) })': whether propagation fails; where it does not, what is kept. -/
theorem addf35 (orig : List (List Int)) (x bw bk : Nat) (css : List (List Int)) (wl : Int → List Int) (tr U : List Int) (v : Value) (c : List Int) (W w : World) (l : List As) (p q : Nat)
    (hst : St W w (BM x bw bk css exO wl (knO tr) tr tr.length :: Blk p (.cells #[.pointer (some ⟨x, 0, none⟩)] 61 (0, 0)) :: Blk q (.cells #[v] 29 (0, 0)) :: l))
    (hpre : ∀ w1 l1, St W w1 (BM x bw bk css exO wl (knO tr) tr tr.length :: l1) → AddPre orig x bw bk css wl tr U v c W w1 l1) (r : Bool) (hr : badB (orig ++ [c]) [] = r) :
    Calls Try.prog 32 #[.func (Fn.func 35) #[] #[.pointer (some ⟨p, 0, none⟩), .pointer (some ⟨q, 0, none⟩)]] w fun e w' => e = .returned (.bool r) ∧
      ∃ L, ((r = true ∧ L = Blk p (.cells #[.pointer (some ⟨x, 0, none⟩)] 61 (0, 0)) :: Blk q (.cells #[v] 29 (0, 0)) :: l) ∨ (r = false ∧ Added orig x bw bk css U c (Blk p (.cells #[.pointer (some ⟨x, 0, none⟩)] 61 (0, 0)) :: Blk q (.cells #[v] 29 (0, 0)) :: l) L)) ∧ St W w' L := by
  by_cases hb : Bad (orig ++ [c]) []
  · rw [badB_true hb] at hr
    subst hr
    refine fails35_bad _ _ W w _ _ hst (fun w1 hw1 => ?_)
    have hw2 := (((hw1.pick 3 rfl).pick 3 rfl).pick 3 rfl)
    refine (c35_bad orig x bw bk css wl tr U v c W w1 _ p q (hpre w1 _ hw2) hb ((hw2.pick 1 rfl).cell 0) ((hw2.pick 2 rfl).cell 0)).mono ?_
    rintro e w2 ⟨h1, h2⟩
    exact ⟨h1, _, .inl ⟨rfl, rfl⟩, h2.pick 2 rfl⟩
  · rw [badB_false hb] at hr
    subst hr
    refine fails35_ok _ _ W w _ _ hst (fun w1 hw1 => ?_)
    have hw2 := (((hw1.pick 3 rfl).pick 3 rfl).pick 3 rfl)
    refine (c35_ok orig x bw bk css wl tr U v c W w1 _ p q (hpre w1 _ hw2) hb ((hw2.pick 1 rfl).cell 0) ((hw2.pick 2 rfl).cell 0)).mono ?_
    rintro e w2 ⟨h1, L, ⟨css', wl', tr', h2, h3, h4, h5, rfl⟩, h6⟩
    exact ⟨h1, _, .inr ⟨rfl, css', wl', tr', h2, h3, h4, h5, rfl⟩, h6.pick 3 rfl⟩
end Go.Proofs.Ytneibkemhmneoaa
