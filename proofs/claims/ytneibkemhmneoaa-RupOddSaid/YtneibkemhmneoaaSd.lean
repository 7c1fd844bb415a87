/- Contracts: lit.sorted at the order of literals. -/
import Derived.Test.YtneibkemhmneoaaRc
import Derived.Deep.RegionLaw
namespace Go.Proofs.Ytneibkemhmneoaa
set_option linter.unusedVariables false
set_option linter.unusedSimpArgs false
open Go.RowKit

theorem size3 (w : World) : (sizeOf 3).run Try.prog w = .ok 1 w := by kernel_rfl

/-- Where v[k:] begins. -/
def offA (a : Option Addr) (cap k : Nat) : Option Addr := if cap = k then a else a.map (·.add (k * 1))

theorem RdI.dropk {w : World} {a : Option Addr} {n cap : Nat} {xs : List Int} (h : RdI w (.slice a n cap) xs) {k : Nat} (hk : k ≤ xs.length) : RdI w (.slice (offA a cap k) (xs.length - k) (cap - k)) (xs.drop k) := by
  obtain ⟨a', cap', he, hc, h⟩ := h
  cases he
  rw [ints_length] at *
  have hl : (ints (xs.drop k)).length = xs.length - k := by rw [ints_length, List.length_drop]
  refine ⟨_, _, by rw [hl], by omega, ?_⟩
  by_cases he : xs.drop k = []
  · exact .inl (by rw [he]; rfl)
  · have hlt : k < xs.length := by
      rcases Nat.lt_or_ge k xs.length with h | h
      · exact h
      · exact absurd (List.drop_eq_nil_of_le h) he
    rcases h with h | ⟨b, off, rfl, h⟩
    · have : (ints xs).length = 0 := by rw [h]; rfl
      rw [ints_length] at this
      omega
    · refine .inr ⟨b, off + k, ?_, fun j u hj => ?_⟩
      · unfold offA
        rw [if_neg (by omega)]
        simp only [Option.map_some, Nat.mul_one]
        rw [Addr.add_lit]
      · have hj2 : (ints xs)[k + j]? = some u := by
          rw [← hj]
          simp [ints, List.getElem?_drop]
        rw [Nat.add_assoc]
        exact h (k + j) u hj2

theorem RdI.takek {w : World} {a : Option Addr} {n cap : Nat} {xs : List Int} (h : RdI w (.slice a n cap) xs) {k : Nat} (hk : k ≤ xs.length) : RdI w (.slice (offA a k 0) k k) (xs.take k) := by
  obtain ⟨a', cap', he, hc, h⟩ := h
  cases he
  rw [ints_length] at *
  have hl : (ints (xs.take k)).length = k := by rw [ints_length, List.length_take]; omega
  refine ⟨_, _, by rw [hl], by omega, ?_⟩
  rcases h with h | ⟨b, off, rfl, h⟩
  · left
    have : xs.length = 0 := by rw [← ints_length, h]; rfl
    rw [List.eq_nil_of_length_eq_zero this]
    simp [ints]
  · refine .inr ⟨b, off, ?_, fun j u hj => ?_⟩
    · unfold offA
      split
      · rfl
      · simp [Addr.add]
    · refine h j u ?_
      unfold ints at *
      rw [List.map_take, List.getElem?_take] at hj
      split at hj
      · exact hj
      · cases hj

theorem run_drop (a : Option Addr) (n cap k : Nat) (i : Int) (hi : i = (k : Int)) (hk : k ≤ n) (W : World) : (Instr.slice 29 (.slice a n cap) (some (.int .i64 i)) none none).run Try.prog W = .ok (.slice (offA a cap k) (n - k) (cap - k)) W := by
  subst hi
  have h1 : (k : Int) ≤ (n : Int) := by omega
  simp [go_sem, size3, h1, offA, hk]

theorem run_take3 (a : Option Addr) (n cap k : Nat) (i : Int) (hi : i = (k : Int)) (hk : k ≤ cap) (W : World) : (Instr.slice 29 (.slice a n cap) none (some (.int .i64 i)) (some (.int .i64 i))).run Try.prog W = .ok (.slice (offA a k 0) k k) W := by
  subst hi
  have h1 : (k : Int) ≤ (cap : Int) := by omega
  simp [go_sem, size3, h1, offA, hk]

section
variable {P : Program} {W w : World}
/-- append of one element as a step of a region that draws. -/
theorem step_append1 {ops : Array Oper} {o : Oper} {a : Act} {K : Act → World → Prop} {Q : Exit → Act → World → Prop} {X : Prop} (hg : o.guard = none) (s x : Operand) (t : TypeId)
    (ho : o.op = .call { callee := .builtin .append, args := #[s, x], argTypes := #[t, t] })
    (E : TypeId) (z : Value) (bytes : Nat) (ht : P.underlying t = some (.slice E)) (hinfo : (P.info? E).map (fun i => (i.zero, i.size, i.bytes)) = some (some z, 1, bytes)) (hz : z.cells.size = 1) (hb : bytes ≤ 64)
    (v : Value) (xs : List Value) (l : List As) (hs : a.eval s = v) (h : St W w (Sl E v xs :: l)) (ad : Addr) (c : Nat) (u : Value) (hx : a.eval x = .slice (some ad) 1 c) (hc : w.cell? ad = some u) (h1 : u.oneCell' = true) (hn : xs.length < 1099511627776)
    (hK : ∀ v' w', St W w' (Sl E v' (xs ++ [u]) :: l) → K (a.put o.dst v') w') :
    if Region.wanted o (yielded ops a.tmps) = true then Oper.wp P o a w K Q else X := by
  have hw : Region.wanted o (yielded ops a.tmps) = true := by simp [Region.wanted, hg]
  rw [if_pos hw]
  obtain ⟨v', w', hr, h2⟩ := h.append_run (P := P) t o.type z bytes ht hinfo hz hb ad c [u] (fun j u' hj => by
    match j, hj with
    | 0, hj => simp at hj; subst hj; simpa [Addr.add] using hc) (by simpa using h1) (by simp; omega)
  unfold Oper.wp execOp
  simp only [List.length_cons, List.length_nil, Nat.zero_add] at hr
  simp only [ho, resolve, invoke, builtin, Sem.run_bind, Sem.run_pure, Result.andThen_ok, List.map_toArray, List.map_cons, List.map_nil, hs, hx, hr]
  exact hK v' w' h2

/-- make([]T, 0, n). -/
theorem wpList_make1 {ops : Array Oper} {rest : List Oper} {o : Oper} {a : Act} {Q : Exit → Act → World → Prop} (hg : o.guard = none) (l c : Operand) (t : TypeId) (hop : o.op = Op.makeSlice t l c)
    (E : TypeId) (z : Value) (bytes : Nat) (ht : P.underlying t = some (.slice E)) (hinfo : (P.info? E).map (fun i => (i.zero, i.size, i.bytes)) = some (some z, 1, bytes)) (hb : bytes ≤ 64)
    (kl kc : IntKind) (C : Int) (n : Nat) (hl : a.eval l = .int kl 0) (hc : a.eval c = .int kc C) (hC : C = (n : Int)) (hn : n ≤ 1099511627776) (fr : List As) (h : St W w fr)
    (hK : ∀ w', St W w' (Sl E (.slice (some ⟨w.heap.size, 0, none⟩) 0 n) [] :: fr) → wpList P ops Q rest (a.put o.dst (.slice (some ⟨w.heap.size, 0, none⟩) 0 n)) w') : wpList P ops Q (o :: rest) a w := by
  obtain ⟨i, hi, hz0, hz1, hz2⟩ := info_parts hinfo
  refine wpList_make_own w hg l c t hop W.heap.size E i z 1 ht hi hz0 hz1 kl kc C n hl hc hC ?_ (by unfold maxLen; omega) h.size (fun w' ho hgr => hK w' ((h.sl_nil E).sl_grown (fun ad e => by cases e) ho hgr (.inr rfl)))
  rw [hz2]
  have := Nat.mul_le_mul hb hn
  omega
end

theorem less_is (a b : Int) (w : World) (ha : In64 a) (hb : In64 b) (r : Bool) (hr : lessB a b = r) : Calls Try.prog 47 #[.int .i64 a, .int .i64 b] w fun e w' => e = .returned (.bool r) ∧ w = w' :=
  (less_any a b w ha hb).mono fun _ _ ⟨h1, h2⟩ => ⟨by rw [h1, hr], h2⟩

def SortEnd (c : List Int) (w : World) (e : Ending) (w' : World) : Prop := ∃ v' ys, e = .returned v' ∧ SortOf c ys ∧ St w w' [Sl 3 v' (ints ys)]

theorem ints_one (xs : List Int) : ∀ y ∈ ints xs, y.oneCell' = true := ints_oneCell .i64 xs

theorem Rd.len {w : World} {a : Option Addr} {n cap : Nat} {xs : List Int} (h : Rd w (.slice a n cap) (ints xs)) : n = xs.length ∧ n ≤ cap ∧ True := by
  obtain ⟨a', cap', he, hc, _⟩ := h
  cases he
  rw [ints_length] at *
  exact ⟨rfl, hc, trivial⟩

theorem cellNew (w : World) (u : Value) (T : TypeId) : (w.alloc (.cells #[u] T)).cell? ⟨w.heap.size, 0, none⟩ = some u := by simp

def lenOf : Value → Nat | .slice _ n _ => n | _ => 0

set_option maxRecDepth 100000 in
set_option maxHeartbeats 4000000 in
theorem sorted_step (m : Nat) (ih : ∀ (v : Value) (c : List Int) (w : World), c.length < m → RdI w v c → (∀ x ∈ c, In64 x) → c.length ≤ 1000000 → Calls Try.prog 67 #[v, .func (.func 47) #[] #[]] w (SortEnd c w))
    (v : Value) (c : List Int) (w : World) (hm : c.length ≤ m) (hv : RdI w v c) (hc : ∀ x ∈ c, In64 x) (hl : c.length ≤ 1000000) : Calls Try.prog 67 #[v, .func (.func 47) #[] #[]] w (SortEnd c w) := by
  obtain ⟨a, cap, rfl, hcap, _⟩ := hv.shape
  have HV := Hd.mk hv
  have HC := Hd.mk hc
  have IH := Hd.mk ih
  clear hv hc ih
  by_cases h2 : c.length < 2
  · have h2' : (c.length : Int) < 2 := by omega
    have HS := Hd.mk (SortOf.small h2)
    have HLN := Hd.mk (show ([] : List Value).length + (ints c).length ≤ 1099511627776 by rw [ints_length]; simp; omega)
    clear h2
    go_enter Try.func67, Try.ntmps67
    go_wp2_with (first | (at_builtin; go_must (refine wpList_appendRd rfl _ _ 29 rfl 3 (.int .i64 0) 8 Try.underlying29 info3 rfl (by decide) _ [] _ rfl ((St.refl w).sl_nil 3) _ (ints c) rfl HV.out (ints_one c) HLN.out ?_); intro v' w1 hst1; have hst1' := Hd.mk hst1; clear hst1))
    go_ret
    exact ⟨_, c, rfl, HS.out, hst1'.out⟩
  · have h2' : ¬ (c.length : Int) < 2 := by omega
    have hh1 : c.length / 2 < c.length := by omega
    have hh2 : c.length - c.length / 2 < c.length := by omega
    have hs1 := run_take3 a c.length cap (c.length / 2) ((c.length : Int) / 2) (by omega) (by omega)
    have hs2 := run_drop a c.length cap (c.length / 2) ((c.length : Int) / 2) (by omega) (by omega)
    have hk0 : (0 : Int) ≤ (c.length : Int) / 2 := by omega
    have hk1 : (c.length : Int) / 2 ≤ (c.length : Int) := by omega
    have R1 := Hd.mk (HV.out.takek (k := c.length / 2) (by omega))
    have R2 := Hd.mk (HV.out.dropk (k := c.length / 2) (by omega))
    have HM := Hd.mk (fun xs ys (h1 : SortOf (c.take (c.length / 2)) xs) (h2 : SortOf (c.drop (c.length / 2)) ys) => SortOf.merge h1 h2)
    clear h2
    go_enter Try.func67, Try.ntmps67
    go_wp2_with fail
    have tok1 : True := trivial
    go_region_with (first
      | (go_at_call 67; have tok2 := tok1; clear tok1 tok2; go_must (refine (IH.out _ (c.take (c.length / 2)) _ (by rw [List.length_take]; omega) (by exact R1.out) (fun x hx => HC.out x (List.mem_of_mem_take hx)) (by rw [List.length_take]; omega)).mono ?_); rintro e w2 ⟨va, xs, rfl, hs, hst⟩; obtain ⟨aa, na, ca, rfl⟩ := hst.shape; have HS1 := Hd.mk hs; have HST1 := Hd.mk ((St.refl w).quiet (w' := w.drew) ⟨rfl, rfl, rfl, Nat.le_refl _, fun _ _ => rfl⟩ |>.call hst); clear hs hst)
      | (go_at_call 67; go_must (refine (IH.out _ (c.drop (c.length / 2)) _ (by rw [List.length_drop]; omega) (by exact R2.out.below HST1.out.below) (fun x hx => HC.out x (List.mem_of_mem_drop hx)) (by rw [List.length_drop]; omega)).mono ?_); rintro e w3 ⟨vb, ys, rfl, hs, hst⟩; obtain ⟨ab, nb, cb, rfl⟩ := hst.shape; have HS2 := Hd.mk hs; have HST2 := Hd.mk (HST1.out.call hst); clear hs hst))
    clear R1 R2 hs1 hs2 IH
    obtain ⟨rfl, _, _⟩ := HST1.out.rd.len
    obtain ⟨rfl, _, _⟩ := HST2.out.rd.len
    have HLX := Hd.mk HS1.out.len
    have HLY := Hd.mk HS2.out.len
    have HCAP := Hd.mk (show xs.length + ys.length ≤ 1099511627776 by
      have h1 := HS1.out.len
      have h2 := HS2.out.len
      rw [List.length_take] at h1
      rw [List.length_drop] at h2
      omega)
    have hxb : (xs.length : Int) ≤ 1099511627776 := by have := HCAP.out; omega
    have hyb : (ys.length : Int) ≤ 1099511627776 := by have := HCAP.out; omega
    go_wp2_with (first | (at_make; go_must (refine wpList_make1 rfl _ _ 29 rfl 3 (.int .i64 0) 8 Try.underlying29 info3 (by decide) .i64 .i64 _ (xs.length + ys.length) rfl rfl (by simp) HCAP.out _ HST2.out ?_); intro w4 hst4; have HST4 := Hd.mk hst4; clear hst4))
    have HXI := Hd.mk (show ∀ x ∈ xs, In64 x from fun x hx => HC.out x (List.mem_of_mem_take ((HS1.out.mem x).1 hx)))
    have HYI := Hd.mk (show ∀ x ∈ ys, In64 x from fun x hx => HC.out x (List.mem_of_mem_drop ((HS2.out.mem x).1 hx)))
    have HEND := Hd.mk (HM.out _ _ HS1.out HS2.out)
    clear HST1 HST2 HS1 HS2 HM HLX HLY
    generalize hVA : Value.slice aa xs.length ca = VA at *
    generalize hVB : Value.slice ab ys.length cb = VB at *
    clear hVA hVB
    go_loopw [6, 7, 8] (fun pa pb po wr => ∃ (ps qs zs : List Int), Hd (zs ++ mrg ps qs = mrg xs ys) ∧ Hd (∀ W, RdI W VA xs → RdI W pa ps) ∧ Hd (∀ W, RdI W VB ys → RdI W pb qs) ∧ Hd ((∀ x ∈ ps, In64 x) ∧ ∀ x ∈ qs, In64 x) ∧
        Hd (St w wr [Sl 3 po (ints zs), Sl 3 VB (ints ys), Sl 3 VA (ints xs)]) ∧ zs.length + ps.length + qs.length ≤ xs.length + ys.length) (fun pa pb _ _ => lenOf pa + lenOf pb)
    case atStart => exact ⟨xs, ys, [], ⟨rfl⟩, ⟨fun _ h => h⟩, ⟨fun _ h => h⟩, ⟨HXI.out, HYI.out⟩, HST4, by simp⟩
    case round =>
      clear HST4 HXI HYI
      obtain ⟨ps, qs, zs, hm, hA, hB, hI, hst, hlen⟩ := hrel
      obtain ⟨a1, c1, rfl, hc1, hcellA⟩ := (hA.out _ hst.out.p2.rd).shape
      obtain ⟨b1, d1, rfl, hd1, hcellB⟩ := (hB.out _ hst.out.p1.rd).shape
      have HCA := Hd.mk hcellA
      have HCB := Hd.mk hcellB
      clear hcellA hcellB
      have tok1 := Hd.mk trivial
      have hex : (ps = [] ∨ qs = []) ∨ ∃ p ps' q qs', ps = p :: ps' ∧ qs = q :: qs' := by
        cases ps with
        | nil => exact .inl (.inl rfl)
        | cons p ps' =>
          cases qs with
          | nil => exact .inl (.inr rfl)
          | cons q qs' => exact .inr ⟨p, ps', q, qs', rfl, rfl⟩
      rcases hex with hex | ⟨p, ps', q, qs', rfl, rfl⟩
      · have HM2 := Hd.mk (show mrg ps qs = ps ++ qs by
          rcases hex with rfl | rfl
          · simp [mrg]
          · cases ps <;> simp [mrg])
        have HZ := Hd.mk (show (ints zs).length + (ints ps).length ≤ 1099511627776 by rw [ints_length, ints_length]; have := HCAP.out; omega)
        have HZ2 := Hd.mk (show (ints zs ++ ints ps).length + (ints qs).length ≤ 1099511627776 by rw [List.length_append, ints_length, ints_length, ints_length]; have := HCAP.out; omega)
        have htest : (decide (0 < (ps.length : Int)) && decide (0 < (qs.length : Int))) = false := by
          rcases hex with rfl | rfl <;> simp
        have HR := Hd.mk (show ints zs ++ ints ps ++ ints qs = ints (mrg xs ys) by rw [← hm.out, HM2.out]; simp [ints])
        have HPA := Hd.mk (hA.out _ hst.out.p2.rd)
        by_cases hp : 0 < (ps.length : Int)
        · have hq : ¬ 0 < (qs.length : Int) := by
            rcases hex with rfl | rfl
            · simp at hp
            · simp
          clear hex htest
          go_wp2_with (first
            | (at_builtin; have tok2 := tok1.out; clear tok1 tok2; go_must (refine wpList_appendRd rfl _ _ 29 rfl 3 (.int .i64 0) 8 Try.underlying29 info3 rfl (by decide) _ _ _ rfl hst.out _ (ints ps) rfl HPA.out (ints_one ps) HZ.out ?_); intro v5 w5 hst5; have HST5 := Hd.mk hst5; clear hst5)
            | (at_builtin; go_must (refine wpList_appendRd rfl _ _ 29 rfl 3 (.int .i64 0) 8 Try.underlying29 info3 rfl (by decide) _ _ _ rfl HST5.out _ (ints qs) rfl (hB.out _ HST5.out.p1.rd) (ints_one qs) HZ2.out ?_); intro v6 w6 hst6; have HST6 := Hd.mk hst6.p1.drop.p1.drop; clear hst6))
          go_ret
          exact ⟨_, _, rfl, HEND.out, by rw [← HR.out]; exact HST6.out⟩
        · clear hex htest
          go_wp2_with (first
            | (at_builtin; have tok2 := tok1.out; clear tok1 tok2; go_must (refine wpList_appendRd rfl _ _ 29 rfl 3 (.int .i64 0) 8 Try.underlying29 info3 rfl (by decide) _ _ _ rfl hst.out _ (ints ps) rfl HPA.out (ints_one ps) HZ.out ?_); intro v5 w5 hst5; have HST5 := Hd.mk hst5; clear hst5)
            | (at_builtin; go_must (refine wpList_appendRd rfl _ _ 29 rfl 3 (.int .i64 0) 8 Try.underlying29 info3 rfl (by decide) _ _ _ rfl HST5.out _ (ints qs) rfl (hB.out _ HST5.out.p1.rd) (ints_one qs) HZ2.out ?_); intro v6 w6 hst6; have HST6 := Hd.mk hst6.p1.drop.p1.drop; clear hst6))
          go_ret
          exact ⟨_, _, rfl, HEND.out, by rw [← HR.out]; exact HST6.out⟩
      · obtain ⟨ba, oa, rfl, hca⟩ := HCA.out 0 (by simp)
        obtain ⟨bb, ob, rfl, hcb⟩ := HCB.out 0 (by simp)
        simp only [List.getElem_cons_zero, Nat.add_zero] at hca hcb
        have hip : In64 p := hI.out.1 p List.mem_cons_self
        have hiq : In64 q := hI.out.2 q List.mem_cons_self
        have hsa := run_drop (some ⟨ba, oa, none⟩) (p :: ps').length c1 1 1 rfl (by simp)
        have hsb := run_drop (some ⟨bb, ob, none⟩) (q :: qs').length d1 1 1 rfl (by simp)
        have HZ := Hd.mk (show (ints zs).length < 1099511627776 by rw [ints_length]; have := HCAP.out; simp at hlen; omega)
        have HTA := Hd.mk (show ∀ W, RdI W VA xs → RdI W (.slice (offA (some ⟨ba, oa, none⟩) c1 1) ps'.length (c1 - 1)) ps' from fun W h => by simpa using (hA.out W h).dropk (k := 1) (by simp))
        have HTB := Hd.mk (show ∀ W, RdI W VB ys → RdI W (.slice (offA (some ⟨bb, ob, none⟩) d1 1) qs'.length (d1 - 1)) qs' from fun W h => by simpa using (hB.out W h).dropk (k := 1) (by simp))
        have HIP := Hd.mk (show ∀ x ∈ ps', In64 x from fun x hx => hI.out.1 x (List.mem_cons_of_mem _ hx))
        have HIQ := Hd.mk (show ∀ x ∈ qs', In64 x from fun x hx => hI.out.2 x (List.mem_cons_of_mem _ hx))
        simp only [List.length_cons, Nat.add_sub_cancel] at hsa hsb hlen hc1 hd1
        have hpl : (0 : Int) < ((ps'.length + 1 : Nat) : Int) := by omega
        have hql : (0 : Int) < ((qs'.length + 1 : Nat) : Int) := by omega
        clear HCA HCB
        by_cases h1 : lessB p q = true
        · have H1 := Hd.mk h1
          have HM2 := Hd.mk (show (zs ++ [p]) ++ mrg ps' (q :: qs') = mrg xs ys by rw [← hm.out, mrg, if_pos h1, List.append_assoc]; rfl)
          clear h1 hsb
          go_wp2_with fail
          go_quiet ((go_at_call 47; exact Calls.qs (less_is _ _ _ hip hiq _ H1.out)))
          have HST5 := Hd.mk (hst.out.drewN nq)
          have hca5 : (wr.drewN nq).cell? ⟨ba, oa, none⟩ = some (.int .i64 p) := hca
          clear hca hcb
          generalize wr.drewN nq = w5 at *
          go_wp2_with fail
          go_region_law (go_must (refine step_append1 rfl _ _ 29 rfl 3 (.int .i64 0) 8 Try.underlying29 info3 rfl (by decide) _ _ _ rfl ((HST5.out.drew.alloc _).p1) _ _ (.int .i64 p) rfl (cellNew _ _ _) rfl HZ.out ?_); intro v6 w6 hst6; have HST6 := Hd.mk hst6.p1.drop; clear hst6)
          simp only [List.getElem_toArray, List.getElem_cons_zero, List.getElem_cons_succ, Act.put, List.setIfInBounds_toArray, List.set_cons_zero, List.set_cons_succ]
          go_wp2
          go_roundw
          case rel => exact ⟨ps', q :: qs', zs ++ [p], HM2, HTA, hB, ⟨HIP.out, hI.out.2⟩, ⟨by rw [show ints (zs ++ [p]) = ints zs ++ [.int .i64 p] by simp [ints]]; exact HST6.out⟩, by simp; omega⟩
          case measure => simp [lenOf]
        · have h1' : lessB p q = false := by simpa using h1
          have H1 := Hd.mk h1'
          by_cases h2 : lessB q p = true
          · have H2 := Hd.mk h2
            have HM2 := Hd.mk (show (zs ++ [q]) ++ mrg (p :: ps') qs' = mrg xs ys by rw [← hm.out, mrg, if_neg h1, if_pos h2, List.append_assoc]; rfl)
            clear h1 h1' h2 hsa
            go_wp2_with fail
            go_quiet ((go_at_call 47; exact Calls.qs (less_is _ _ _ hip hiq _ H1.out)))
            have HST5 := Hd.mk (hst.out.drewN nq)
            have hca5 : (wr.drewN nq).cell? ⟨ba, oa, none⟩ = some (.int .i64 p) := hca
            have hcb5 : (wr.drewN nq).cell? ⟨bb, ob, none⟩ = some (.int .i64 q) := hcb
            clear hca hcb
            generalize wr.drewN nq = w5 at *
            go_wp2_with fail
            go_quiet ((go_at_call 47; exact Calls.qs (less_is _ _ _ hiq hip _ H2.out)))
            have HST6 := Hd.mk (HST5.out.drewN nq)
            have hcb6 : (w5.drewN nq).cell? ⟨bb, ob, none⟩ = some (.int .i64 q) := hcb5
            clear hca5 hcb5
            generalize w5.drewN nq = w6 at *
            go_wp2_with fail
            go_region_law (go_must (refine step_append1 rfl _ _ 29 rfl 3 (.int .i64 0) 8 Try.underlying29 info3 rfl (by decide) _ _ _ rfl ((HST6.out.drew.alloc _).p1) _ _ (.int .i64 q) rfl (cellNew _ _ _) rfl HZ.out ?_); intro v7 w7 hst7; have HST7 := Hd.mk hst7.p1.drop; clear hst7)
            simp only [List.getElem_toArray, List.getElem_cons_zero, List.getElem_cons_succ, Act.put, List.setIfInBounds_toArray, List.set_cons_zero, List.set_cons_succ]
            go_wp2
            go_roundw
            case rel => exact ⟨p :: ps', qs', zs ++ [q], HM2, hA, HTB, ⟨hI.out.1, HIQ.out⟩, ⟨by rw [show ints (zs ++ [q]) = ints zs ++ [.int .i64 q] by simp [ints]]; exact HST7.out⟩, by simp; omega⟩
            case measure => simp [lenOf]
          · have h2' : lessB q p = false := by simpa using h2
            have H2 := Hd.mk h2'
            have HM2 := Hd.mk (show zs ++ mrg ps' (q :: qs') = mrg xs ys by rw [← hm.out, mrg, if_neg h1, if_neg h2])
            clear h1 h1' h2 h2' hsb
            go_wp2_with fail
            go_quiet ((go_at_call 47; exact Calls.qs (less_is _ _ _ hip hiq _ H1.out)))
            have HST5 := Hd.mk (hst.out.drewN nq)
            have hca5 : (wr.drewN nq).cell? ⟨ba, oa, none⟩ = some (.int .i64 p) := hca
            have hcb5 : (wr.drewN nq).cell? ⟨bb, ob, none⟩ = some (.int .i64 q) := hcb
            clear hca hcb
            generalize wr.drewN nq = w5 at *
            go_wp2_with fail
            go_quiet ((go_at_call 47; exact Calls.qs (less_is _ _ _ hiq hip _ H2.out)))
            have HST6 := Hd.mk (HST5.out.drewN nq)
            clear hca5 hcb5
            generalize w5.drewN nq = w6 at *
            go_wp2
            go_roundw
            case rel => exact ⟨ps', q :: qs', zs, HM2, HTA, hB, ⟨HIP.out, hI.out.2⟩, HST6, by simp; omega⟩
            case measure => simp [lenOf]

theorem sorted_any : ∀ (m : Nat) (v : Value) (c : List Int) (w : World), c.length < m → RdI w v c → (∀ x ∈ c, In64 x) → c.length ≤ 1000000 → Calls Try.prog 67 #[v, .func (.func 47) #[] #[]] w (SortEnd c w)
  | 0, _, c, _, h, _, _, _ => by omega
  | m + 1, v, c, w, h, hv, hc, hl => sorted_step m (sorted_any m) v c w (by omega) hv hc hl

end Go.Proofs.Ytneibkemhmneoaa
