/- Contracts: implies. -/
import Derived.Test.YtneibkemhmneoaaBf
import Derived.Test.YtneibkemhmneoaaBg
namespace Go.Proofs.Ytneibkemhmneoaa
set_option linter.unusedVariables false
set_option linter.unusedSimpArgs false
open Go.RowKit

/-- The checker's state, under assumptions. -/
theorem BOk.asm {orig css : List (List Int)} {wl : Int → List Int} {tr : List Int} (h : BOk orig css wl tr) (asm : List Int) : WB orig asm tr css wl tr where
  cls := h.wb.cls
  watch := h.wb.watch
  trl := h.wb.trl
  wp := h.ok
  der x hx := (h.wb.der x hx).mono (fun _ h => h) (fun _ h => by cases h)
  rep := h.wb.rep
  psub _ h := h

structure ImpPre (orig : List (List Int)) (x bw bk : Nat) (css : List (List Int)) (wl : Int → List Int) (tr U : List Int) (v : Value) (c : List Int) (W : World) : Prop where
  ok : BOk orig css wl tr
  rd : RdI W v c
  litN : ∀ y ∈ c, -y ∈ U
  len : c.length ≤ 4096
  cl : css.length < 268435456
  cU : ∀ d ∈ css, ∀ y ∈ d, y ∈ U
  tU : ∀ y ∈ tr, y ∈ U
  lU : U.length < 1073741824
  lt : ∀ y ∈ c, Lt40 y ∧ y ≠ 0

def Imp62End (orig : List (List Int)) (asm : List Int) (x bw bk : Nat) (css : List (List Int)) (tr : List Int) (W : World) (l : List As) (e : Ending) (w' : World) : Prop :=
  ((¬ Bad orig asm ∧ e = .returned (.tuple #[])) ∨ (Bad orig asm ∧ ∃ older, e = .panicked (failE false :: older) ∧ ∀ q ∈ older, q.goexit = false)) ∧
  ∃ (css' : List (List Int)) (wl' : Int → List Int) (tr' : List Int) (dn' : Nat), SameC css css' ∧ WB orig asm tr css' wl' tr' ∧ tr <+: tr' ∧ St W w' (BM x bw bk css' exO wl' (knO tr') tr' dn' :: l)

theorem take_prefix {tr tr' : List Int} (h : tr <+: tr') : tr'.take tr.length = tr := by
  obtain ⟨r, rfl⟩ := h
  simp

set_option maxRecDepth 8000 in
set_option maxHeartbeats 2000000 in
theorem imp62_any (orig : List (List Int)) (x bw bk : Nat) (css : List (List Int)) (wl : Int → List Int) (tr U : List Int) (v : Value) (c : List Int) (W w : World) (l : List As) (bc bx : Nat) (h : ImpPre orig x bw bk css wl tr U v c W)
    (hst : St W w (BM x bw bk css exO wl (knO tr) tr tr.length :: Blk bc (.cells #[v] 29 (0, 0)) :: Blk bx (.cells #[.pointer (some ⟨x, 0, none⟩)] 61 (0, 0)) :: l)) :
    Calls Try.prog 62 #[.pointer (some ⟨bc, 0, none⟩), .pointer (some ⟨bx, 0, none⟩)] w (Imp62End orig (c.map (- ·)) x bw bk css tr W (Blk bc (.cells #[v] 29 (0, 0)) :: Blk bx (.cells #[.pointer (some ⟨x, 0, none⟩)] 61 (0, 0)) :: l)) := by
  obtain ⟨av, cv, rfl, hcap, hcell⟩ := h.rd.shape
  have H := Hd.mk h
  have HST := Hd.mk hst
  have HC := Hd.mk hcell
  have k1 : w.cell? ⟨bc, 0, none⟩ = some (.slice av c.length cv) := (hst.p1).cell 0
  have hcl : (c.length : Int) ≤ 4096 := by have := h.len; omega
  clear h hst hcell hcap
  go_enter Try.func62, Try.ntmps62
  go_wp2_with fail
  go_loopw [6] (fun i wr => ∃ k : Nat, k ≤ c.length ∧ i = .int .i64 k ∧ Hd (∃ tr1, tr <+: tr1 ∧ WB orig (c.map (- ·)) tr css wl tr1 ∧ (∀ y ∈ tr1, y ∈ U) ∧ (∀ (j : Nat) (hj : j < c.length), j < k → -c[j] ∈ tr1) ∧ St W wr (BM x bw bk css exO wl (knO tr1) tr1 tr.length :: Blk bc (.cells #[.slice av c.length cv] 29 (0, 0)) :: Blk bx (.cells #[.pointer (some ⟨x, 0, none⟩)] 61 (0, 0)) :: l))) (fun i _ => c.length - (intOf i).toNat)
  case atStart => exact ⟨0, Nat.zero_le _, rfl, ⟨tr, List.prefix_refl _, H.out.ok.asm _, H.out.tU, fun j hj h => by omega, HST.out⟩⟩
  case round =>
    obtain ⟨k, hk, rfl, ⟨tr1, hp1, hwb1, hu1, hn1, hst1⟩⟩ := hrel
    have HP1 := Hd.mk hp1
    have HWB := Hd.mk hwb1
    have HU1 := Hd.mk hu1
    have HN1 := Hd.mk hn1
    have HS1 := Hd.mk hst1
    have kx : wr.cell? ⟨bx, 0, none⟩ = some (.pointer (some ⟨x, 0, none⟩)) := (hst1.p2).cell 0
    have HLT := Hd.mk (show ∀ y ∈ tr1, Lt40 y from fun y hy => (hwb1.trl.lit y hy).1)
    have HLEN := Hd.mk (show tr1.length < 1099511627776 by have := nodup_le hwb1.trl.nodup hu1; have := H.out.lU; omega)
    clear hp1 hwb1 hu1 hn1 hst1 HST
    by_cases hlt : k < c.length
    · obtain ⟨b, off, rfl, hc0⟩ := HC.out k hlt
      have hcell := (HS1.out.below.cell (World.block_lt_of_cell? W _ hc0)).trans hc0
      have hmem := List.getElem_mem hlt
      have hN2 : ∀ tr2 : List Int, (∀ y ∈ tr1, y ∈ tr2) → -c[k] ∈ tr2 → ∀ (j : Nat) (hj : j < c.length), j < k + 1 → -c[j] ∈ tr2 := fun tr2 hs hm j hj hjk => by
        by_cases e : j = k
        · subst e; exact hm
        · exact hs _ (HN1.out j hj (by omega))
      have HN2 := Hd.mk hN2
      generalize c[k] = y at *
      have HL := Hd.mk (H.out.lt y hmem)
      have HNU := Hd.mk (H.out.litN y hmem)
      have HAS := Hd.mk (show -y ∈ c.map (- ·) from List.mem_map.2 ⟨y, hmem, rfl⟩)
      obtain ⟨⟨l1, l2⟩, _⟩ := H.out.lt y hmem
      have hki : (k : Int) < (c.length : Int) := by omega
      have hk0 : (0 : Int) ≤ (k : Int) := by omega
      clear hc0 hmem hN2
      by_cases hy : y ∈ tr1
      · have HY := Hd.mk (show -(-y) ∈ tr1 by rw [Int.neg_neg]; exact hy)
        have HB := Hd.mk (show Bad orig (c.map (- ·)) from .inl ⟨y, HWB.out.der y hy, .asm HAS.out⟩)
        clear hy
        go_wp2_with (first | (go_at_call 63; refine (set_bad x bw bk css exO wl tr1 tr.length (-y) W _ _ HS1.out HL.out.1.neg HY.out).mono ?_; rintro e w3 ⟨rfl, rfl⟩))
        exact ⟨rfl, .inr ⟨HB.out, [], rfl, by simp⟩, css, wl, tr1, tr.length, .refl _, HWB.out, HP1.out, HS1.out⟩
      · have HY := Hd.mk (show ¬ -(-y) ∈ tr1 by rw [Int.neg_neg]; exact hy)
        by_cases hny : -y ∈ tr1
        · have HNY := Hd.mk hny
          clear hy hny
          go_wp2_with (first | (go_at_call 63; refine (set_old x bw bk css exO wl tr1 tr.length (-y) W _ _ HS1.out HL.out.1.neg HY.out HNY.out).mono ?_; rintro e w3 ⟨rfl, rfl⟩))
          go_roundw
          case rel => exact ⟨k + 1, by omega, by go_num, ⟨tr1, HP1.out, HWB.out, HU1.out, HN2.out tr1 (fun _ h => h) HNY.out, HS1.out⟩⟩
          case measure => simp [intOf]; omega
        · have HNY := Hd.mk hny
          clear hy hny
          go_wp2_with (first | (go_at_call 63; refine (set_new x bw bk css exO wl tr1 tr.length (-y) W _ _ HS1.out HL.out.1.neg HY.out HNY.out HLT.out HLEN.out).mono ?_; rintro e w3 ⟨rfl, hst3⟩; have HS3 := Hd.mk hst3; clear hst3))
          go_roundw
          case rel => exact ⟨k + 1, by omega, by go_num, ⟨tr1 ++ [-y], HP1.out.trans (List.prefix_append _ _), HWB.out.add (.asm HAS.out) ⟨HL.out.1.neg, by have := HL.out.2; omega⟩ HNY.out HY.out, fun z hz => (List.mem_append.1 hz).elim (HU1.out z) (fun h => by rw [List.mem_singleton.1 h]; exact HNU.out), HN2.out _ (fun z hz => List.mem_append_left _ hz) (by simp), HS3.out⟩⟩
          case measure => simp [intOf]; omega
    · have HASM := Hd.mk (show ∀ a ∈ c.map (- ·), a ∈ tr1 from fun a ha => by
        obtain ⟨y, hy, rfl⟩ := List.mem_map.1 ha
        obtain ⟨j, hj, rfl⟩ := List.getElem_of_mem hy
        exact HN1.out j hj (by omega))
      have HW := Hd.mk (wok_old H.out.ok.ok (fun y hy => HP1.out.subset hy) (take_prefix HP1.out))
      have HF := Hd.mk (H.out.ok.full.mono (fun y hy => HP1.out.subset hy))
      by_cases hb : Bad orig (c.map (- ·))
      · have HB := Hd.mk hb
        clear hb
        go_wp2_with (first | (go_at_call 64; refine (run_bad orig (c.map (- ·)) tr x bw bk css wl tr1 U tr.length W _ _ HS1.out HWB.out HW.out HP1.out.length_le H.out.cU HU1.out H.out.lU (Nat.le_of_lt H.out.cl) HF.out (fun o ho y hy => (H.out.ok.lit o ho y hy).2) HASM.out HB.out).mono ?_; rintro e w7 ⟨rfl, css7, wl7, tr7, dn7, hs7, hwb7, hp7, hu7, hst7⟩; have H7 := Hd.mk (And.intro hs7 (And.intro hwb7 (And.intro hp7 hst7))); clear hs7 hwb7 hp7 hu7 hst7))
        exact ⟨rfl, .inr ⟨HB.out, _, rfl, by simp⟩, css7, wl7, tr7, dn7, H7.out.1, H7.out.2.1, HP1.out.trans H7.out.2.2.1, H7.out.2.2.2⟩
      · have HB := Hd.mk hb
        clear hb
        go_wp2_with (first | (go_at_call 64; refine (run_ok orig (c.map (- ·)) tr x bw bk css wl tr1 U tr.length W _ _ HS1.out HWB.out HW.out HP1.out.length_le H.out.cU HU1.out H.out.lU (Nat.le_of_lt H.out.cl) HB.out).mono ?_; rintro e w7 ⟨rfl, css7, wl7, tr7, hs7, hwb7, hp7, hu7, hok7, hst7⟩; have H7 := Hd.mk (And.intro hs7 (And.intro hwb7 (And.intro hp7 hst7))); clear hs7 hwb7 hp7 hu7 hok7 hst7))
        go_end0
        exact ⟨.inl ⟨HB.out, rfl⟩, css7, wl7, tr7, tr7.length, H7.out.1, H7.out.2.1, HP1.out.trans H7.out.2.2.1, H7.out.2.2.2⟩
end Go.Proofs.Ytneibkemhmneoaa
