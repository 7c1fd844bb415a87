/- Words: the memory of the checker of proofs ('BM'); contract: set. -/
import Derived.Test.YtneibkemhmneoaaWa
namespace Go.Proofs.Ytneibkemhmneoaa
set_option linter.unusedVariables false
set_option linter.unusedSimpArgs false
open Go.RowKit

theorem take_set_take {α : Type} : ∀ (l : List α) (i m : Nat) (v : α), (l.set i v).take m = (l.take m).set i v
  | [], _, _, _ => by simp
  | _ :: _, _, 0, _ => by simp
  | _ :: _, 0, _ + 1, _ => by simp
  | a :: l, i + 1, m + 1, v => by simp [take_set_take l i m v]

section
variable {W w : World} {l : List As}

theorem St.slSet {E : TypeId} {b n cap : Nat} {xs : List Value} (h : St W w (Sl E (.slice (some ⟨b, 0, none⟩) n cap) xs :: l)) (i : Nat) (v : Value) (hne : xs ≠ [] := by simp [ints]) :
    St W (w.setCell ⟨b, i, none⟩ v) (Sl E (.slice (some ⟨b, 0, none⟩) n cap) (xs.set i v) :: l) := by
  obtain ⟨g, p, e⟩ := h.get
  rcases p with ⟨_, _, h1⟩ | ⟨b', cap', cur, he, hb, h1, h2, h3, h4⟩
  · exact absurd h1 hne
  · cases he
    have hblk : St W w (Blk b (.cells cur E (0, 0)) :: l) := by
      obtain ⟨hh, ⟨g', k, p', s, d, x, y⟩, e'⟩ := h.own
      rcases p' with ⟨_, _, h1⟩ | ⟨b2, cap2, cur2, he2, hb2, _⟩
      · exact absurd h1 hne
      · cases he2
        have : cur2 = cur := by
          have h5 := (e b _ hb).2
          have h6 := (e' b _ (x b _ hb2)).2
          rw [h5] at h6
          cases h6
          rfl
        subst this
        exact ⟨h.below, hh, ⟨g', k, hb2, s, d, x, y⟩, e'⟩
    have := (hblk.setCell (i := i) v).sl_of_blk (cap := cap) (xs := xs.set i v) (by simpa using h1) h2 (by simpa using h3) (by rw [Array.toList_setIfInBounds, List.length_set, take_set_take, h4])
    simpa using this

theorem wmCongr {b : Nat} {ex : Int → Bool} {wl wl' : Int → List Int} (h : St W w (WM b ex wl :: l)) (e : ∀ y, ex y = false → wl y = wl' y) : St W w (WM b ex wl' :: l) := by
  obtain ⟨ks, vf, ⟨h1, h2, h3⟩, h⟩ := h.wmOpen
  refine St.wmShut (ks := ks) (vf := vf) ⟨h1, fun k hk he => (e k he).symm.trans (h2 k hk he), h3⟩ ?_
  have : (ks.filter (fun k => !ex k)).map (fun k => Sl 3 (vf k) (ints (wl k))) = (ks.filter (fun k => !ex k)).map (fun k => Sl 3 (vf k) (ints (wl' k))) :=
    List.map_congr_left (fun k hk => by rw [e k (by have := (List.mem_filter.1 hk).2; simpa using this)])
  rw [← this]
  exact h

theorem rowsI_out : ∀ {vs : List Value} {css : List (List Int)} {n : Nat} {u : Value} {c : List Int}, vs[n]? = some u → css[n]? = some c → (rowsI vs css).Perm (Sl 3 u (ints c) :: rowsI (vs.eraseIdx n) (css.eraseIdx n))
  | v :: vs, c :: css, 0, _, _, h1, h2 => by simp at h1 h2; subst h1; subst h2; exact .refl _
  | v :: vs, c :: css, n + 1, u, d, h1, h2 => by
    have := rowsI_out (vs := vs) (css := css) (n := n) (u := u) (c := d) (by simpa using h1) (by simpa using h2)
    exact (this.cons _).trans (.swap _ _ _)
  | [], _, _, _, _, h1, _ => by simp at h1
  | _ :: _, [], _, _, _, _, h2 => by simp at h2

/-- A clause is taken out, and put back. -/
theorem St.llRow {v : Value} {css : List (List Int)} {n : Nat} {c : List Int} (h : St W w (LL v css :: l)) (hc : css[n]? = some c) :
    ∃ (vs : List Value) (u : Value) (R : List As), vs.length = css.length ∧ vs[n]? = some u ∧ St W w (Sl 3 u (ints c) :: Sl 29 v vs :: (R ++ l)) ∧
      ∀ (w' : World) (c' : List Int) (l' : List As), St W w' (Sl 3 u (ints c') :: Sl 29 v vs :: (R ++ l')) → St W w' (LL v (css.set n c') :: l') := by
  obtain ⟨vs, hl, h⟩ := h.llOpen
  have hn := (List.getElem?_eq_some_iff.1 hc).1
  have hu := List.getElem?_eq_getElem (l := vs) (i := n) (by omega)
  refine ⟨vs, _, rowsI (vs.eraseIdx n) (css.eraseIdx n), hl, hu, (h.perm ((((rowsI_out hu hc).append_right l)).cons _)).p1, fun w' c' l' h' => St.llShut (vs := vs) (by simpa using hl) ?_⟩
  have h2 := rowsI_out (vs := vs) (css := css.set n c') hu (List.getElem?_set_self hn)
  rw [List.eraseIdx_set_eq] at h2
  exact h'.p1.perm ((((h2.symm).append_right l')).cons _)
end

/-- The memory of the checker: at block x, its watch map at bw, its known map at bk. -/
def BM (x bw bk : Nat) (css : List (List Int)) (ex : Int → Bool) (wl : Int → List Int) (kn : Int → Bool) (tr : List Int) (dn : Int) : As := fun g =>
  ∃ vcl vtr, Star [Blk x (.cells #[vcl, .map (some bw), .map (some bk), vtr, .int .i64 dn] 65 (0, 0)), LL vcl css, WM bw ex wl, KB bk kn, Sl 3 vtr (ints tr)] g

section
variable {W w : World} {l : List As} {x bw bk : Nat} {css : List (List Int)} {ex : Int → Bool} {wl : Int → List Int} {kn : Int → Bool} {tr : List Int} {dn : Int}

theorem St.bmOpen (h : St W w (BM x bw bk css ex wl kn tr dn :: l)) : ∃ vcl vtr, St W w (Blk x (.cells #[vcl, .map (some bw), .map (some bk), vtr, .int .i64 dn] 65 (0, 0)) :: LL vcl css :: WM bw ex wl :: KB bk kn :: Sl 3 vtr (ints tr) :: l) := by
  obtain ⟨vcl, h⟩ := St.ex h
  obtain ⟨vtr, h⟩ := St.ex h
  exact ⟨vcl, vtr, h.open (fun g p => p)⟩
theorem St.bmShut {vcl vtr : Value} (h : St W w (Blk x (.cells #[vcl, .map (some bw), .map (some bk), vtr, .int .i64 dn] 65 (0, 0)) :: LL vcl css :: WM bw ex wl :: KB bk kn :: Sl 3 vtr (ints tr) :: l)) : St W w (BM x bw bk css ex wl kn tr dn :: l) :=
  St.close (ps := [Blk x (.cells #[vcl, .map (some bw), .map (some bk), vtr, .int .i64 dn] 65 (0, 0)), LL vcl css, WM bw ex wl, KB bk kn, Sl 3 vtr (ints tr)]) h (fun g p => ⟨vcl, vtr, p⟩)

/-- The lookup of what is known. -/
theorem St.bmKn (h : St W w (BM x bw bk css ex wl kn tr dn :: l)) {y : Int} (hx : Lt40 y) {r : Bool} (hr : kn y = r) : (Instr.lookup 63 (.map (some bk)) (.int .i64 y) false).run Try.prog w = .ok (.bool r) w := by
  obtain ⟨vcl, vtr, h⟩ := h.bmOpen
  exact (h.p3).kbLook hx hr

/-- The struct's cells. -/
theorem St.bmCells (h : St W w (BM x bw bk css ex wl kn tr dn :: l)) : ∃ acl ccl atr ctr, w.cell? ⟨x, 0, none⟩ = some (.slice acl css.length ccl) ∧ w.cell? ⟨x, 1, none⟩ = some (.map (some bw)) ∧ w.cell? ⟨x, 2, none⟩ = some (.map (some bk)) ∧
    w.cell? ⟨x, 3, none⟩ = some (.slice atr tr.length ctr) ∧ w.cell? ⟨x, 4, none⟩ = some (.int .i64 dn) ∧ (∀ j, w.frozen? ⟨x, j, none⟩ = false) ∧ Rd w (.slice atr tr.length ctr) (ints tr) := by
  obtain ⟨vcl, vtr, h⟩ := h.bmOpen
  have hr := (h.p4).rd
  obtain ⟨atr, ctr, rfl, h2⟩ : ∃ atr ctr, vtr = .slice atr tr.length ctr ∧ True := by
    obtain ⟨a, cap, e, _⟩ := hr
    exact ⟨a, cap, by simpa [ints] using e, trivial⟩
  obtain ⟨acl, ccl, rfl, _⟩ := (h.p1).rdL.shape
  refine ⟨acl, ccl, atr, ctr, ?_, ?_, ?_, ?_, ?_, fun j => h.free j, hr⟩ <;> rw [h.cell] <;> rfl

theorem St.bmKnCongr {kn' : Int → Bool} (h : St W w (BM x bw bk css ex wl kn tr dn :: l)) (e : ∀ y, kn y = kn' y) : St W w (BM x bw bk css ex wl kn' tr dn :: l) := by
  have : kn = kn' := funext e
  rw [← this]; exact h
theorem St.bmWlCongr {wl' : Int → List Int} (h : St W w (BM x bw bk css ex wl kn tr dn :: l)) (e : ∀ y, ex y = false → wl y = wl' y) : St W w (BM x bw bk css ex wl' kn tr dn :: l) := by
  obtain ⟨vcl, vtr, h⟩ := h.bmOpen
  exact ((wmCongr (h.p2) e).q2).bmShut
end

abbrev knO (tr : List Int) : Int → Bool := fun y => decide (y ∈ tr)

/-- The panic of 'failed'. -/
def failV : Value := .iface 106 (.agg #[])

section
variable (x bw bk : Nat) (css : List (List Int)) (ex : Int → Bool) (wl : Int → List Int) (tr : List Int) (dn : Int) (a : Int) (W w : World) (l : List As)

theorem set_bad (hst : St W w (BM x bw bk css ex wl (knO tr) tr dn :: l)) (ha : Lt40 a) (h1 : -a ∈ tr) :
    Calls Try.prog 63 #[.pointer (some ⟨x, 0, none⟩), .int .i64 a] w fun e w' => e = .panicked [{ v := .iface 106 (.agg #[]), recovered := false }] ∧ w' = w := by
  obtain ⟨acl, ccl, atr, ctr, c0, c1, c2, c3, c4, hf, _⟩ := hst.bmCells
  have hl := hst.bmKn ha.neg (r := true) (by simpa using h1)
  have hn1 := ha.1
  have hn2 := ha.2
  clear c0 c1 c3 c4 hf hst h1 ha
  go_enter Try.func63, Try.ntmps63
  go_wp2
  exact ⟨rfl, rfl, rfl⟩

theorem set_old (hst : St W w (BM x bw bk css ex wl (knO tr) tr dn :: l)) (ha : Lt40 a) (h1 : -a ∉ tr) (h2 : a ∈ tr) :
    Calls Try.prog 63 #[.pointer (some ⟨x, 0, none⟩), .int .i64 a] w fun e w' => e = .returned (.tuple #[]) ∧ w' = w := by
  obtain ⟨acl, ccl, atr, ctr, c0, c1, c2, c3, c4, hf, _⟩ := hst.bmCells
  have hl := hst.bmKn ha.neg (r := false) (by simpa using h1)
  have hl2 := hst.bmKn ha (r := true) (by simpa using h2)
  have hn1 := ha.1
  have hn2 := ha.2
  clear c0 c1 c3 c4 hf hst h1 ha h2
  go_enter Try.func63, Try.ntmps63
  go_wp2
  go_end0
  exact ⟨rfl, rfl⟩

set_option maxRecDepth 8000 in
theorem set_new (hst : St W w (BM x bw bk css ex wl (knO tr) tr dn :: l)) (ha : Lt40 a) (h1 : -a ∉ tr) (h2 : a ∉ tr) (hlt : ∀ y ∈ tr, Lt40 y) (hlen : tr.length < 1099511627776) :
    Calls Try.prog 63 #[.pointer (some ⟨x, 0, none⟩), .int .i64 a] w fun e w' => e = .returned (.tuple #[]) ∧ St W w' (BM x bw bk css ex wl (knO (tr ++ [a])) (tr ++ [a]) dn :: l) := by
  obtain ⟨acl, ccl, atr, ctr, c0, c1, c2, c3, c4, hf, _⟩ := hst.bmCells
  have hl := hst.bmKn ha.neg (r := false) (by simpa using h1)
  have hl2 := hst.bmKn ha (r := false) (by simpa using h2)
  have hn1 := ha.1
  have hn2 := ha.2
  have HST := Hd.mk hst
  have HA := Hd.mk ha
  have HLT := Hd.mk (show ∀ y, knO tr y = true → Lt40 y from fun y hy => hlt y (by simpa using hy))
  have HLEN := Hd.mk (show (ints tr).length < 1099511627776 by simpa [ints] using hlen)
  obtain ⟨vcl, vtr, hop⟩ := hst.bmOpen
  have hvtr : vtr = .slice atr tr.length ctr := by
    have := hop.cell 3
    rw [c3] at this
    simpa using this.symm
  subst hvtr
  have HOP := Hd.mk hop
  clear c0 c1 c3 c4 hf hst h1 ha h2 hlt hlen hop
  go_enter Try.func63, Try.ntmps63
  go_wp2_with (first
    | (at_mapUpdate; go_must (refine wpList_store_kb rfl _ _ _ rfl _ _ _ _ rfl rfl rfl HOP.out.p3 HA.out HLT.out ?_); intro w1 hst1; have HST1 := Hd.mk hst1.p4; clear hst1; have d3 := HST1.out.p2.cell 3; have d33 := HST1.out.p2.free 3; simp only [List.getElem?_toArray, List.getElem?_cons_zero, List.getElem?_cons_succ] at d3)
    | (at_builtin; go_must (refine wpList_append1 rfl _ _ 29 rfl 3 (.int .i64 0) 8 Try.underlying29 info3 rfl (by decide) _ _ _ rfl ((HST1.out.alloc _).p1) _ _ (.int .i64 a) rfl (by simp) rfl HLEN.out ?_); intro v2 w2 hst2; obtain ⟨a3, n3, c33, rfl⟩ := hst2.shape; have HST2 := Hd.mk (hst2.p1.drop.p2); clear hst2; have e3 := HST2.out.cell 3; have e33 := HST2.out.free 3; simp only [List.getElem?_toArray, List.getElem?_cons_zero, List.getElem?_cons_succ] at e3))
  go_end0
  refine ⟨rfl, ?_⟩
  have h3 := (HST2.out.setCell (i := 3) (.slice a3 n3 c33)).perm (l' := Blk x (.cells #[vcl, .map (some bw), .map (some bk), .slice a3 n3 c33, .int .i64 dn] 65 (0, 0)) :: LL vcl css :: WM bw ex wl :: (KB bk fun y => decide (y = a) || knO tr y) :: Sl 3 (.slice a3 n3 c33) (ints (tr ++ [a])) :: l) (by
    rw [show ints (tr ++ [a]) = ints tr ++ [.int .i64 a] by simp [ints]]
    refine List.Perm.cons _ ?_
    exact ((List.perm_append_comm (l₁ := [_, _]) (l₂ := [_, _])).append_right l).trans (((List.Perm.swap _ _ _).cons _).cons _))
  exact h3.bmShut.bmKnCongr (fun y => by simp [knO, Bool.or_comm, Bool.decide_or])
end
end Go.Proofs.Ytneibkemhmneoaa
