/- Contracts: the closures of run: what recovers, what looks. -/
import Derived.Test.YtneibkemhmneoaaBl
import Derived.Recover
namespace Go.Proofs.Ytneibkemhmneoaa
set_option linter.unusedVariables false
set_option linter.unusedSimpArgs false
open Go.RowKit

abbrev failE (r : Bool) : PanicEntry := { v := .iface 106 (.agg #[]), recovered := r }

theorem St.pick {W w : World} {L : List As} (h : St W w L) (i : Nat) {P : As} (hi : L[i]? = some P) : St W w (P :: L.eraseIdx i) := by
  refine h.perm ?_
  clear h
  induction L generalizing i with
  | nil => simp at hi
  | cons A L ih =>
    cases i with
    | zero => simp at hi; subst hi; exact .refl _
    | succ i => exact ((ih i (by simpa using hi)).cons A).trans (.swap _ _ _)
theorem St.rm {W w : World} {L : List As} (h : St W w L) (i : Nat) {P : As} (hi : L[i]? = some P) : St W w (L.eraseIdx i) := (h.pick i hi).drop

theorem St.slCap {W w : World} {l : List As} {E : TypeId} {b m cap : Nat} {xs : List Value} (h : St W w (Sl E (.slice (some ⟨b, 0, none⟩) m cap) xs :: l)) : xs.length ≤ cap := by
  obtain ⟨g, p, e⟩ := h.get
  rcases p with ⟨_, _, h1⟩ | ⟨b', cap', cur, he, hb, h1, h2, h3, h4⟩
  · rw [h1]; exact Nat.zero_le _
  · injection he with _ _ h5
    omega

theorem step_appendN {P : Program} {W w : World} {ops : Array Oper} {o : Oper} {a : Act} {K : Act → World → Prop} {Q : Exit → Act → World → Prop} {X : Prop} (hg : o.guard = none) (s x : Operand) (t : TypeId)
    (ho : o.op = .call { callee := .builtin .append, args := #[s, x], argTypes := #[t, t] })
    (E : TypeId) (z : Value) (bytes : Nat) (ht : P.underlying t = some (.slice E)) (hinfo : (P.info? E).map (fun i => (i.zero, i.size, i.bytes)) = some (some z, 1, bytes)) (hz : z.cells.size = 1) (hb : bytes ≤ 64)
    (v : Value) (xs : List Value) (l : List As) (hs : a.eval s = v) (h : St W w (Sl E v xs :: l)) (ad : Addr) (m c : Nat) (news : List Value) (hx : a.eval x = .slice (some ad) m c) (hm : m = news.length) (hc : ∀ j u, news[j]? = some u → w.cell? (ad.add j) = some u) (h1 : ∀ u ∈ news, u.oneCell' = true) (hn : xs.length + news.length ≤ 1099511627776)
    (hK : ∀ v' w', St W w' (Sl E v' (xs ++ news) :: l) → K (a.put o.dst v') w') :
    if Region.wanted o (yielded ops a.tmps) = true then Oper.wp P o a w K Q else X := by
  have hw : Region.wanted o (yielded ops a.tmps) = true := by simp [Region.wanted, hg]
  rw [if_pos hw]
  subst hm
  obtain ⟨v', w', hr, h2⟩ := h.append_run (P := P) t o.type z bytes ht hinfo hz hb ad c news hc h1 hn
  unfold Oper.wp execOp
  simp only [ho, resolve, invoke, builtin, Sem.run_bind, Sem.run_pure, Result.andThen_ok, List.map_toArray, List.map_cons, List.map_nil, hs, hx, hr]
  exact hK v' w' h2

theorem rep15 : Array.replicate 15 undef = #[undef, undef, undef, undef, undef, undef, undef, undef, undef, undef, undef, undef, undef, undef, undef] := rfl

theorem catch82_idle (p0 p1 p2 p3 p4 : Value) (w : World) :
    CallsD Try.prog 82 #[p0, p1, p2, p3, p4] .returning w fun e u' w' => e = .returned (.tuple #[]) ∧ u' = .returning ∧ w' = w := by
  refine callsD_of_wpS Try.func82 rfl fun c₀ cs hu => ?_
  have hc : ({ c₀ with mode := .returning } : Frame) = c₀ := by rw [← hu]
  apply wpS_seq
  apply wpS_region
  simp [wpOpsS, go_sem, recoverD, hu, Try.ntmps82, Exit.thenS, rep15]
  refine wpS_of_wp ?_
  clear hu
  go_wp2
  exact ⟨rfl, .returning, by rw [hc], _, results_none rfl _ _ _, rfl, rfl, rfl⟩

set_option maxRecDepth 8000 in
set_option maxHeartbeats 2000000 in
theorem catch82_fail (x bw bk : Nat) (css : List (List Int)) (wl : Int → List Int) (kn : Int → Bool) (tr : List Int) (dn a : Int) (W w : World) (l : List As) (vk vl : Value) (kp ls : List Int) (n : Nat) (b1 b2 b3 b4 b5 : Nat) (older : List PanicEntry)
    (hst : St W w (BM x bw bk css (fun y => decide (y = a) || false) wl kn tr dn :: Sl 3 vk (ints kp) :: Sl 3 vl (ints ls) :: Blk b1 (.cells #[.pointer (some ⟨x, 0, none⟩)] 61 (0, 0)) :: Blk b2 (.cells #[.int .i64 a] 3 (0, 0)) :: Blk b3 (.cells #[vl] 29 (0, 0)) :: Blk b4 (.cells #[vk] 29 (0, 0)) :: Blk b5 (.cells #[.int .i64 n] 3 (0, 0)) :: l))
    (ha : Lt40 a) (hn : n < ls.length) (hlen : kp.length + ls.length ≤ 1099511627776) :
    CallsD Try.prog 82 #[.pointer (some ⟨b4, 0, none⟩), .pointer (some ⟨b3, 0, none⟩), .pointer (some ⟨b5, 0, none⟩), .pointer (some ⟨b1, 0, none⟩), .pointer (some ⟨b2, 0, none⟩)] (.panicking (failE false :: older)) w fun e u' w' =>
      e = .panicked [failE false] ∧ u' = .panicking (failE true :: older) ∧ St W w' (BM x bw bk css (fun _ => false) (fun y => if y = a then kp ++ ls.drop n else wl y) kn tr dn :: l) := by
  have hne : ls ≠ [] := by intro e; rw [e] at hn; simp at hn
  obtain ⟨bl, cl, rfl⟩ := (hst.p2).slSome (by simpa [ints] using hne)
  rw [show (ints ls).length = ls.length by simp [ints]] at *
  obtain ⟨ak, nk, ck, rfl⟩ := (hst.p1).shape
  obtain ⟨hls, _⟩ := (hst.p2).slCells (by simpa [ints] using hne)
  have hcap : ls.length ≤ cl := by simpa [ints] using (hst.p2).slCap
  obtain ⟨vcl, vtr, hop⟩ := hst.bmOpen
  -- [Blk x, LL, WM, KB, Sl tr, Sl vk, Sl vl, b1, b2, b3, b4, b5]
  have HOP := Hd.mk (show St W w (Sl 3 (.slice ak nk ck) (ints kp) :: WM bw (fun y => decide (y = a) || false) wl :: Blk x (.cells #[vcl, .map (some bw), .map (some bk), vtr, .int .i64 dn] 65 (0, 0)) :: Blk b1 (.cells #[.pointer (some ⟨x, 0, none⟩)] 61 (0, 0)) :: Blk b2 (.cells #[.int .i64 a] 3 (0, 0)) :: Blk b3 (.cells #[.slice (some ⟨bl, 0, none⟩) ls.length cl] 29 (0, 0)) :: Blk b4 (.cells #[.slice ak nk ck] 29 (0, 0)) :: Blk b5 (.cells #[.int .i64 n] 3 (0, 0)) :: LL vcl css :: KB bk kn :: Sl 3 vtr (ints tr) :: Sl 3 (.slice (some ⟨bl, 0, none⟩) ls.length cl) (ints ls) :: l) from
    (((((((hop.pick 11 rfl).pick 11 rfl).pick 11 rfl).pick 11 rfl).pick 11 rfl).pick 5 rfl).pick 7 rfl).pick 10 rfl)
  have HLS := Hd.mk hls
  have hni : (n : Int) ≤ (ls.length : Int) := by omega
  have hn0 : (0 : Int) ≤ (n : Int) := by omega
  have hncl : (ls.length : Int) ≤ (cl : Int) := by omega
  have hcn : ¬ cl = n := by omega
  clear hls hop hne
  have f1 : w.cell? ⟨b1, 0, none⟩ = some (.pointer (some ⟨x, 0, none⟩)) := (hst.p3).cell 0
  have f2 : w.cell? ⟨b2, 0, none⟩ = some (.int .i64 a) := (hst.p4).cell 0
  have f3 : w.cell? ⟨b3, 0, none⟩ = some (.slice (some ⟨bl, 0, none⟩) ls.length cl) := (hst.p5).cell 0
  have f4 : w.cell? ⟨b4, 0, none⟩ = some (.slice ak nk ck) := ((hst.drop.drop.drop).p3).cell 0
  have f5 : w.cell? ⟨b5, 0, none⟩ = some (.int .i64 n) := ((hst.drop.drop.drop.drop).p3).cell 0
  have f6 : w.cell? ⟨x, 1, none⟩ = some (.map (some bw)) := (HOP.out.p2).cell 1
  refine callsD_of_wpS Try.func82 rfl fun c₀ cs hu => ?_
  apply wpS_seq
  apply wpS_region
  simp [wpOpsS, go_sem, recoverD, hu, Try.ntmps82, Exit.thenS, rep15]
  refine wpS_of_wp ?_
  clear hu
  go_wp2_with fail
  have hs0 : w.drew.cell? ⟨b1, 0, none⟩ = some (.pointer (some ⟨x, 0, none⟩)) ∧ w.drew.cell? ⟨b2, 0, none⟩ = some (.int .i64 a) ∧ w.drew.cell? ⟨b3, 0, none⟩ = some (.slice (some ⟨bl, 0, none⟩) ls.length cl) ∧ w.drew.cell? ⟨b4, 0, none⟩ = some (.slice ak nk ck) ∧ w.drew.cell? ⟨b5, 0, none⟩ = some (.int .i64 n) ∧ w.drew.cell? ⟨x, 1, none⟩ = some (.map (some bw)) := ⟨f1, f2, f3, f4, f5, f6⟩
  clear f1 f2 f3 f4 f5 f6 hst
  have HDR := Hd.mk (show ∀ (j : Nat) (u : Value), (ints (ls.drop n))[j]? = some u → w.drew.cell? ((⟨bl, n, none⟩ : Addr).add j) = some u from fun j u hj => by
    have : (ints ls)[n + j]? = some u := by
      rw [← hj]
      simp [ints, List.map_drop, List.getElem?_drop]
    have h2 := HLS.out _ _ this
    by_cases hj0 : j = 0
    · subst hj0; exact h2
    · exact (show w.drew.cell? _ = _ from by simpa [Addr.add, hj0] using h2))
  have HL1 := Hd.mk (show ls.length - n = (ints (ls.drop n)).length by simp [ints])
  have HL2 := Hd.mk (show (ints kp).length + (ints (ls.drop n)).length ≤ 1099511627776 by simp [ints]; omega)
  have HONE := Hd.mk (show ∀ u ∈ ints (ls.drop n), u.oneCell' = true from ints_one _)
  go_region_held3 (fun w' => w'.cell? ⟨b1, 0, none⟩ = some (.pointer (some ⟨x, 0, none⟩)) ∧ w'.cell? ⟨b2, 0, none⟩ = some (.int .i64 a) ∧ w'.cell? ⟨b3, 0, none⟩ = some (.slice (some ⟨bl, 0, none⟩) ls.length cl) ∧ w'.cell? ⟨b4, 0, none⟩ = some (.slice ak nk ck) ∧ w'.cell? ⟨b5, 0, none⟩ = some (.int .i64 n) ∧ w'.cell? ⟨x, 1, none⟩ = some (.map (some bw))) (first | exact hs0 | exact hs1 | exact hs2)
    ((go_must (refine step_appendN rfl _ _ 29 rfl 3 (.int .i64 0) 8 Try.underlying29 info3 rfl (by decide) _ _ _ rfl HOP.out.drew ⟨bl, n, none⟩ (ls.length - n) (cl - n) _ rfl HL1.out HDR.out HONE.out HL2.out ?_); intro v8 w8 hst8; obtain ⟨a8, n8, c8, rfl⟩ := hst8.shape; obtain ⟨w9, hrun9, hst9⟩ := St.wmIn (js := kp ++ ls.drop n) (by rw [show ints (kp ++ ls.drop n) = ints kp ++ ints (ls.drop n) by simp [ints]]; exact hst8) rfl ha; have HST9 := Hd.mk hst9;
      have hs1 : w8.cell? ⟨b1, 0, none⟩ = some (.pointer (some ⟨x, 0, none⟩)) ∧ w8.cell? ⟨b2, 0, none⟩ = some (.int .i64 a) ∧ w8.cell? ⟨b3, 0, none⟩ = some (.slice (some ⟨bl, 0, none⟩) ls.length cl) ∧ w8.cell? ⟨b4, 0, none⟩ = some (.slice ak nk ck) ∧ w8.cell? ⟨b5, 0, none⟩ = some (.int .i64 n) ∧ w8.cell? ⟨x, 1, none⟩ = some (.map (some bw)) := ⟨(hst8.pick 3 rfl).cell 0, (hst8.pick 4 rfl).cell 0, (hst8.pick 5 rfl).cell 0, (hst8.pick 6 rfl).cell 0, (hst8.pick 7 rfl).cell 0, (hst8.pick 2 rfl).cell 1⟩;
      have hs2 : w9.cell? ⟨b1, 0, none⟩ = some (.pointer (some ⟨x, 0, none⟩)) ∧ w9.cell? ⟨b2, 0, none⟩ = some (.int .i64 a) ∧ w9.cell? ⟨b3, 0, none⟩ = some (.slice (some ⟨bl, 0, none⟩) ls.length cl) ∧ w9.cell? ⟨b4, 0, none⟩ = some (.slice ak nk ck) ∧ w9.cell? ⟨b5, 0, none⟩ = some (.int .i64 n) ∧ w9.cell? ⟨x, 1, none⟩ = some (.map (some bw)) := ⟨(hst9.pick 2 rfl).cell 0, (hst9.pick 3 rfl).cell 0, (hst9.pick 4 rfl).cell 0, (hst9.pick 5 rfl).cell 0, (hst9.pick 6 rfl).cell 0, (hst9.pick 1 rfl).cell 1⟩; clear hst8 hst9))
  go_wp2
  have h5 : St W w9 (WM bw (fun _ => false) (fun y => if y = a then kp ++ ls.drop n else wl y) :: Blk x (.cells #[vcl, .map (some bw), .map (some bk), vtr, .int .i64 dn] 65 (0, 0)) :: LL vcl css :: KB bk kn :: Sl 3 vtr (ints tr) :: l) := (((((HST9.out.rm 10 rfl).rm 6 rfl).rm 5 rfl).rm 4 rfl).rm 3 rfl).rm 2 rfl
  have h6 : St W w9 (BM x bw bk css (fun _ => false) (fun y => if y = a then kp ++ ls.drop n else wl y) kn tr dn :: l) := St.bmShut ((h5.pick 2 rfl).pick 2 rfl)
  exact ⟨rfl, _, rfl, rfl, rfl, h6⟩
end Go.Proofs.Ytneibkemhmneoaa
