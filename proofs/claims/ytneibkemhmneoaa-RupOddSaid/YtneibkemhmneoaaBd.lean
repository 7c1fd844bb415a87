/- Contract: one round of run's inner loop (run$1). -/
import Derived.Test.YtneibkemhmneoaaBc
import Derived.Test.YtneibkemhmneoaaWb
namespace Go.Proofs.Ytneibkemhmneoaa
set_option linter.unusedVariables false
set_option linter.unusedSimpArgs false
open Go.RowKit

abbrev exA (a : Int) : Int → Bool := fun y => decide (y = a) || false
abbrev exO : Int → Bool := fun _ => false

theorem Watch.len {css : List (List Int)} {wl : Int → List Int} (h : Watch css wl) (y : Int) : (wl y).length ≤ 2 * css.length + 1 :=
  nodup_range (h y).1 (fun i hi => by
    obtain ⟨h0, c, hc, _⟩ := ((h y).2 i).1 hi
    have := (List.getElem?_eq_some_iff.1 hc).1
    omega)

/-- What lies beside the checker's memory in run's inner loop. -/
abbrev runTail (x : Nat) (a : Int) (vk vl : Value) (kp ls : List Int) (nn n : Nat) (k : Int) (b1 b2 b3 b4 b5 b6 b7 : Nat) (l : List As) : List As :=
  Sl 3 vk (ints kp) :: Sl 3 vl (ints ls) :: Blk b1 (.cells #[.pointer (some ⟨x, 0, none⟩)] 61 (0, 0)) :: Blk b2 (.cells #[.int .i64 a] 3 (0, 0)) :: Blk b3 (.cells #[vl] 29 (0, 0)) :: Blk b4 (.cells #[vk] 29 (0, 0)) :: Blk b5 (.cells #[.int .i64 nn] 3 (0, 0)) ::
    Blk b6 (.cells #[.int .i64 n] 3 (0, 0)) :: Blk b7 (.cells #[.int .i64 k] 3 (0, 0)) :: l

/-- The look at the clause fails. -/
def Dies (tr : List Int) (b : Int) (t : List Int) : Prop := b ∉ tr ∧ (∀ d ∈ t, -d ∈ tr) ∧ -b ∈ tr

def Run81End (orig : List (List Int)) (asm p : List Int) (x bw bk : Nat) (css : List (List Int)) (wl : Int → List Int) (tr fal : List Int) (dn a : Int) (W : World) (l : List As) (vl : Value) (kp ls ps : List Int) (nn n : Nat) (k b : Int) (t : List Int) (b1 b2 b3 b4 b5 b6 b7 : Nat) (e : Ending) (w' : World) : Prop :=
  (¬ Dies tr b t ∧ ∃ css' wl' tr' vk' kp', e = .returned (.tuple #[]) ∧ SameC css css' ∧ WB orig asm p css' wl' tr' ∧ WOk css' fal tr' (Pnd a ps) ∧ (tr' = tr ∨ ∃ b, tr' = tr ++ [b] ∧ ∃ c ∈ css, b ∈ c) ∧ wl' a = kp' ++ ps ∧
    St W w' (BM x bw bk css' (exA a) wl' (knO tr') tr' dn :: runTail x a vk' vl kp' ls nn n k b1 b2 b3 b4 b5 b6 b7 l)) ∨
  (Dies tr b t ∧ ∃ css', e = .panicked [failE false, failE true] ∧ SameC css css' ∧ WB orig asm p css' wl tr ∧ Bad orig asm ∧ St W w' (BM x bw bk css' exO wl (knO tr) tr dn :: l))

set_option maxRecDepth 8000 in
set_option maxHeartbeats 4000000 in
theorem run81_any (orig : List (List Int)) (asm p : List Int) (x bw bk : Nat) (css : List (List Int)) (wl : Int → List Int) (tr fal : List Int) (dn a : Int) (W w : World) (l : List As) (vk vl : Value) (kp ls ps : List Int) (nn n : Nat) (k b : Int) (t : List Int) (b1 b2 b3 b4 b5 b6 b7 : Nat)
    (hst : St W w (BM x bw bk css (exA a) wl (knO tr) tr dn :: runTail x a vk vl kp ls nn n k b1 b2 b3 b4 b5 b6 b7 l))
    (hwb : WB orig asm p css wl tr) (hw : WOk css fal tr (Pnd a ((n : Int) :: ps))) (hat : AtC css n k a b t) (hna : -a ∈ tr) (hfal : ∀ x ∈ fal, x ∈ tr) (hwa : wl a = kp ++ (n : Int) :: ps) (hls : ls.drop nn = (n : Int) :: ps)
    (hlen : tr.length < 1073741824) (hcl : css.length ≤ 1073741824) (hkl : kp.length + ls.length ≤ 1099511627775) :
    Calls Try.prog 81 #[.pointer (some ⟨b4, 0, none⟩), .pointer (some ⟨b3, 0, none⟩), .pointer (some ⟨b5, 0, none⟩), .pointer (some ⟨b1, 0, none⟩), .pointer (some ⟨b2, 0, none⟩), .pointer (some ⟨b6, 0, none⟩), .pointer (some ⟨b7, 0, none⟩)] w
      (Run81End orig asm p x bw bk css wl tr fal dn a W l vl kp ls ps nn n k b t b1 b2 b3 b4 b5 b6 b7) := by
  have hmf : ∀ (fn : Fn) (first cap : Array Value) (w : World), (Instr.makeFunc fn first cap).run Try.prog w = .ok (.func fn first cap) w := fun _ _ _ _ => rfl
  have hat' := hat
  obtain ⟨c, hc, hkc⟩ := hat
  have hcm := List.mem_of_getElem? hc
  have hcb : b ∈ c := by rcases hkc with ⟨_, rfl⟩ | ⟨_, rfl⟩ <;> simp
  have hct : t.length ≤ 4096 := by
    have := hwb.cls.len c hcm
    rcases hkc with ⟨_, rfl⟩ | ⟨_, rfl⟩ <;> (simp at this; omega)
  have LP := Hd.mk (show LookPre x bw bk css (exA a) wl tr dn W w (runTail x a vk vl kp ls nn n k b1 b2 b3 b4 b5 b6 b7 l) n k a b t from
    ⟨hst, ⟨c, hc, hkc, fun y hy => (hwb.cls.lit c hcm y hy).1⟩, fun y hy => (hwb.trl.lit y hy).1, by omega, hct, hcl, fun y hy => by
      have : y = a := by simpa [exA] using hy
      rw [this]; exact hna, fun y => by have := hwb.watch.len y; omega⟩)
  have hal : Lt40 a := by
    have := (hwb.trl.lit _ hna).1
    exact ⟨by have := this.2; omega, by have := this.1; omega⟩
  obtain ⟨ak, nk, ck, rfl⟩ := (hst.p1).shape
  have f1 : w.cell? ⟨b1, 0, none⟩ = some (.pointer (some ⟨x, 0, none⟩)) := (hst.pick 3 rfl).cell 0
  have f6 : w.cell? ⟨b6, 0, none⟩ = some (.int .i64 n) := (hst.pick 8 rfl).cell 0
  have f7 : w.cell? ⟨b7, 0, none⟩ = some (.int .i64 k) := (hst.pick 9 rfl).cell 0
  have HKL := Hd.mk (show (ints kp).length < 1099511627776 by simp [ints]; omega)
  have HKL2 := Hd.mk (show kp.length + ls.length ≤ 1099511627776 by omega)
  have HNN := Hd.mk (show nn < ls.length by
    apply Classical.byContradiction
    intro h
    rw [List.drop_eq_nil_of_le (by omega)] at hls
    cases hls)
  have HWA := Hd.mk hwa
  have HLS := Hd.mk hls
  have HAL := Hd.mk hal
  have HCM := Hd.mk (show ∃ c ∈ css, b ∈ c from ⟨c, hcm, hcb⟩)
  by_cases hb : b ∈ tr
  · have HP := Hd.mk (hwb.stepA hw hat' hb)
    have HB := Hd.mk hb
    clear hst hwb hw hat' hna hfal hwa hls hlen hcl hkl hkc hcm hcb hct hc hb hal
    go_enter_defers Try.func81, Try.ntmps81
    go_wp2_with (first
      | (go_at_call 83; refine (lookA LP.out HB.out).mono ?_; rintro e w2 ⟨rfl, hst2⟩; have H2 := Hd.mk hst2; have g4 : w2.cell? ⟨b4, 0, none⟩ = some (.slice ak nk ck) := (hst2.pick 6 rfl).cell 0; have g6 : w2.cell? ⟨b6, 0, none⟩ = some (.int .i64 n) := (hst2.pick 8 rfl).cell 0; clear hst2)
      | (at_builtin; go_must (refine wpList_append1 rfl _ _ 29 rfl 3 (.int .i64 0) 8 Try.underlying29 info3 rfl (by decide) _ _ _ rfl ((H2.out.p1.alloc _).p1) _ _ (.int .i64 n) rfl (by simp) rfl HKL.out ?_); intro v3 w3 hst3; obtain ⟨a3, n3, c3, rfl⟩ := hst3.shape; have H3 := Hd.mk hst3.p1.drop; have e4 : w3.cell? ⟨b4, 0, none⟩ = some (.slice ak nk ck) := (hst3.pick 7 rfl).cell 0; have e44 := (hst3.pick 7 rfl).free 0; clear hst3))
    refine leaves_cons (f := 82) (args := #[.pointer (some ⟨b4, 0, none⟩), .pointer (some ⟨b3, 0, none⟩), .pointer (some ⟨b5, 0, none⟩), .pointer (some ⟨b1, 0, none⟩), .pointer (some ⟨b2, 0, none⟩)]) (by simp) (by simp [go_sem]) ?_
    refine (catch82_idle _ _ _ _ _ _).mono ?_
    rintro e u' w'' ⟨rfl, rfl, rfl⟩
    have h4 := (H3.out.pick 6 rfl).setCell (i := 0) (.slice a3 n3 c3)
    have h5 := (((((h4.pick 6 rfl).pick 6 rfl).pick 6 rfl).pick 6 rfl).pick 5 rfl).pick 6 rfl
    refine ⟨_, results_none rfl _ _ _, .inl ⟨fun h => h.1 HB.out, _, _, _, .slice a3 n3 c3, kp ++ [(n : Int)], rfl, HP.out.1, HP.out.2.1, HP.out.2.2, .inl rfl, by rw [HWA.out, List.append_assoc]; rfl, ?_⟩⟩
    rw [runTail, show ints (kp ++ [(n : Int)]) = ints kp ++ [.int .i64 n] by simp [ints]]
    exact h5
  · by_cases hd : ∀ d ∈ t, -d ∈ tr
    · by_cases hnb : -b ∈ tr
      · have HP := Hd.mk (hwb.stepD hat' hna hd hnb)
        have HB := Hd.mk hb
        have HD := Hd.mk hd
        have HNB := Hd.mk hnb
        clear hb hd hnb
        clear hst hwb hw hat' hna hfal hwa hls hlen hcl hkl hkc hcm hcb hct hc hal
        go_enter_defers Try.func81, Try.ntmps81
        go_wp2_with (first
          | (go_at_call 83; refine (lookD LP.out HB.out HD.out HNB.out).mono ?_; rintro e w2 ⟨rfl, hst2⟩; have H2 := Hd.mk hst2; clear hst2))
        refine leaves_cons (f := 82) (args := #[.pointer (some ⟨b4, 0, none⟩), .pointer (some ⟨b3, 0, none⟩), .pointer (some ⟨b5, 0, none⟩), .pointer (some ⟨b1, 0, none⟩), .pointer (some ⟨b2, 0, none⟩)]) (by simp) (by simp [go_sem]) ?_
        refine (catch82_fail x bw bk _ wl (knO tr) tr dn a W _ (Blk b6 (.cells #[.int .i64 n] 3 (0, 0)) :: Blk b7 (.cells #[.int .i64 k] 3 (0, 0)) :: l) (.slice ak nk ck) vl kp ls nn b1 b2 b3 b4 b5 [] H2.out HAL.out HNN.out HKL2.out).mono ?_
        rintro e u' w'' ⟨rfl, rfl, hst3⟩
        refine .inr ⟨⟨HB.out, HD.out, HNB.out⟩, _, rfl, HP.out.1, HP.out.2.1, HP.out.2.2, ?_⟩
        refine ((hst3.rm 1 rfl).rm 1 rfl).bmWlCongr (fun y _ => ?_)
        by_cases hy : y = a
        · subst hy
          rw [if_pos rfl, HLS.out, HWA.out]
        · rw [if_neg hy]
      · have HP := Hd.mk (hwb.stepC hw hat' hna hd hb hnb)
        have HB := Hd.mk hb
        have HD := Hd.mk hd
        have HNB := Hd.mk hnb
        clear hb hd hnb
        clear hst hwb hw hat' hna hfal hwa hls hlen hcl hkl hkc hcm hcb hct hc hal
        go_enter_defers Try.func81, Try.ntmps81
        go_wp2_with (first
          | (go_at_call 83; refine (lookC LP.out HB.out HD.out HNB.out).mono ?_; rintro e w2 ⟨rfl, hst2⟩; have H2 := Hd.mk hst2; have g4 : w2.cell? ⟨b4, 0, none⟩ = some (.slice ak nk ck) := (hst2.pick 6 rfl).cell 0; have g6 : w2.cell? ⟨b6, 0, none⟩ = some (.int .i64 n) := (hst2.pick 8 rfl).cell 0; clear hst2)
          | (at_builtin; go_must (refine wpList_append1 rfl _ _ 29 rfl 3 (.int .i64 0) 8 Try.underlying29 info3 rfl (by decide) _ _ _ rfl ((H2.out.p1.alloc _).p1) _ _ (.int .i64 n) rfl (by simp) rfl HKL.out ?_); intro v3 w3 hst3; obtain ⟨a3, n3, c3, rfl⟩ := hst3.shape; have H3 := Hd.mk hst3.p1.drop; have e4 : w3.cell? ⟨b4, 0, none⟩ = some (.slice ak nk ck) := (hst3.pick 7 rfl).cell 0; have e44 := (hst3.pick 7 rfl).free 0; clear hst3))
        refine leaves_cons (f := 82) (args := #[.pointer (some ⟨b4, 0, none⟩), .pointer (some ⟨b3, 0, none⟩), .pointer (some ⟨b5, 0, none⟩), .pointer (some ⟨b1, 0, none⟩), .pointer (some ⟨b2, 0, none⟩)]) (by simp) (by simp [go_sem]) ?_
        refine (catch82_idle _ _ _ _ _ _).mono ?_
        rintro e u' w'' ⟨rfl, rfl, rfl⟩
        have h4 := (H3.out.pick 6 rfl).setCell (i := 0) (.slice a3 n3 c3)
        have h5 := (((((h4.pick 6 rfl).pick 6 rfl).pick 6 rfl).pick 6 rfl).pick 5 rfl).pick 6 rfl
        refine ⟨_, results_none rfl _ _ _, .inl ⟨fun h => HNB.out h.2.2, _, _, _, .slice a3 n3 c3, kp ++ [(n : Int)], rfl, HP.out.1, HP.out.2.1, HP.out.2.2, .inr ⟨b, rfl, HCM.out⟩, by rw [HWA.out, List.append_assoc]; rfl, ?_⟩⟩
        rw [runTail, show ints (kp ++ [(n : Int)]) = ints kp ++ [.int .i64 n] by simp [ints]]
        exact h5
    · have HPB := Hd.mk (fun t1 d t2 (ht : t = t1 ++ d :: t2) (hnd : -d ∉ tr) => hwb.stepB hw hat' hna hfal hwa ht hnd)
      have HB := Hd.mk hb
      have HD := Hd.mk hd
      clear hb hd
      clear hst hwb hw hat' hna hfal hwa hls hlen hcl hkl hkc hcm hcb hct hc hal
      go_enter_defers Try.func81, Try.ntmps81
      go_wp2_with (first
        | (go_at_call 83; refine (lookB LP.out HB.out HD.out).mono ?_; rintro e w2 ⟨rfl, t1, d, t2, ht, hnd, hst2⟩; have H2 := Hd.mk hst2; have HP := Hd.mk (HPB.out t1 d t2 ht hnd); clear hst2 ht hnd))
      refine leaves_cons (f := 82) (args := #[.pointer (some ⟨b4, 0, none⟩), .pointer (some ⟨b3, 0, none⟩), .pointer (some ⟨b5, 0, none⟩), .pointer (some ⟨b1, 0, none⟩), .pointer (some ⟨b2, 0, none⟩)]) (by simp) (by simp [go_sem]) ?_
      refine (catch82_idle _ _ _ _ _ _).mono ?_
      rintro e u' w'' ⟨rfl, rfl, rfl⟩
      refine ⟨_, results_none rfl _ _ _, .inl ⟨fun h => HD.out h.2.1, _, _, _, .slice ak nk ck, kp, rfl, HP.out.1, HP.out.2.1, HP.out.2.2.1, .inl rfl, ?_, H2.out.bmWlCongr (fun y hy => ?_)⟩⟩
      · simp only [if_neg (Ne.symm HP.out.2.2.2), if_true]
      · have : y ≠ a := by simpa [exA] using hy
        simp only [this, if_false]
end Go.Proofs.Ytneibkemhmneoaa
