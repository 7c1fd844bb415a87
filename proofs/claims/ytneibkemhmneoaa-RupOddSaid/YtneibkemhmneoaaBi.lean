/- Contract: implies (a clause is looked at, and what was assumed is taken back). -/
import Derived.Test.YtneibkemhmneoaaBh
namespace Go.Proofs.Ytneibkemhmneoaa
set_option linter.unusedVariables false
set_option linter.unusedSimpArgs false
open Go.RowKit

theorem BOk.back {orig css css' : List (List Int)} {wl wl' : Int → List Int} {tr tr' asm : List Int} (h : BOk orig css wl tr) (hs : SameC css css') (hwb : WB orig asm tr css' wl' tr') : BOk orig css' wl' tr :=
  ⟨⟨hwb.cls, hwb.watch, h.wb.trl, wok_nil, h.wb.der, hwb.rep, fun _ h => by cases h⟩, hwb.wp, h.full.same hs, h.lit⟩

theorem kb_del {b : Nat} {S : Int → Bool} {x : Int} : (Mp Try.prog b (fun y => if y = x then none else if S y = true then some (.bool true) else none)) = KB b (fun y => S y && !decide (y = x)) := by
  unfold KB
  congr 1
  funext y
  by_cases h : y = x
  · simp [h]
  · simp [h]

theorem wpList_del_kb {W w : World} {ops : Array Oper} {rest : List Oper} {o : Oper} {a : Act} {Q : Exit → Act → World → Prop} (hg : o.guard = none) (m k : Operand) (hop : o.op = Op.call { callee := Callee.builtin Builtin.delete, args := #[m, k], argTypes := #[63, 3] }) (b : Nat) (S : Int → Bool) (l : List As) (x : Int)
    (hm : a.eval m = .map (some b)) (hk : a.eval k = .int .i64 x) (h : St W w (KB b S :: l)) (hx : Lt40 x)
    (hK : ∀ w', St W w' (KB b (fun y => S y && !decide (y = x)) :: l) → wpList Try.prog ops Q rest (a.put o.dst (.tuple #[])) w') : wpList Try.prog ops Q (o :: rest) a w :=
  wpList_del_mp hg m k 63 4 hop Try.underlying3 Try.underlying63 b _ l x hm hk h (by have := hx.1; omega) (by have := hx.2; omega) (fun w' hw => hK w' (by rw [← kb_del]; exact hw))

/-- What is known while the trail's tail is taken back. -/
theorem drop_del {tr : List Int} (hn : tr.Nodup) {at_ k : Nat} {x : Int} (hx : tr[at_ + k]? = some x) (y : Int) :
    ((decide (y ∈ tr.take at_) || decide (y ∈ tr.drop (at_ + k))) && !decide (y = x)) = (decide (y ∈ tr.take at_) || decide (y ∈ tr.drop (at_ + (k + 1)))) := by
  obtain ⟨hlt, hxe⟩ := List.getElem?_eq_some_iff.1 hx
  have hd : tr.drop (at_ + k) = x :: tr.drop (at_ + k + 1) := by rw [List.drop_eq_getElem_cons hlt, hxe]
  have hsplit : tr = tr.take (at_ + k) ++ x :: tr.drop (at_ + k + 1) := by rw [← hd, List.take_append_drop]
  have hn2 := hn
  rw [hsplit] at hn2
  obtain ⟨_, h2, h3⟩ := List.nodup_append.1 hn2
  obtain ⟨h4, _⟩ := List.nodup_cons.1 h2
  have hnt : x ∉ tr.take at_ := fun h => h3 x (by
    have : tr.take at_ = (tr.take (at_ + k)).take at_ := by rw [List.take_take, Nat.min_eq_left (by omega)]
    rw [this] at h
    exact List.mem_of_mem_take h) x List.mem_cons_self rfl
  rw [hd, Nat.add_assoc] at *
  by_cases e : y = x
  · subst e
    simp [hnt, h4]
  · simp [e]

theorem sl_take {W w : World} {l : List As} {a : Option Addr} {n c : Nat} {tr : List Int} {k : Nat} (hk : k ≤ tr.length) (h : St W w (Sl 3 (.slice a n c) (ints tr) :: l)) : St W w (Sl 3 (.slice a k c) (ints (tr.take k)) :: l) ∧ n = tr.length ∧ n ≤ c := by
  refine ⟨h.imp fun g p => ?_, ?_, ?_⟩
  · rcases p with ⟨ao, h1, h2⟩ | ⟨b, cap, cur, h1, h2, h3, h4, h5, h6⟩
    · injection h1 with e1 e2 e3
      have : tr = [] := by simpa [ints] using h2
      subst this
      have hk0 : k = 0 := by simpa using hk
      subst hk0
      exact .inl ⟨a, by rw [e3], by simp [ints]⟩
    · injection h1 with e1 e2 e3
      refine .inr ⟨b, cap, cur, by rw [e1, e3]; simp [ints]; omega, h2, by simp [ints] at *; omega, h4, h5, ?_⟩
      have h7 : (ints (tr.take k)) = (ints tr).take k := by simp [ints, List.map_take]
      rw [h7, List.length_take, ← h6]
      simp [ints, List.take_take]
  · obtain ⟨a', c', e, _⟩ := h.rd
    injection e with _ e2 _
    simpa [ints] using e2
  · obtain ⟨a', c', e, h2, _⟩ := h.rd
    injection e with _ e2 e3
    rw [e2, e3]
    exact h2

theorem St.trShape {W w : World} {l : List As} {v : Value} {xs : List Int} (h : St W w (Sl 3 v (ints xs) :: l)) : ∃ a c, v = .slice a xs.length c ∧ xs.length ≤ c := by
  obtain ⟨a, c, e, h2, _⟩ := h.rd
  rw [show (ints xs).length = xs.length by simp [ints]] at *
  exact ⟨a, c, e, h2⟩

set_option maxRecDepth 8000 in
set_option maxHeartbeats 4000000 in
theorem implies_any (orig : List (List Int)) (x bw bk : Nat) (css : List (List Int)) (wl : Int → List Int) (tr U : List Int) (v : Value) (c : List Int) (W w : World) (l : List As) (h : ImpPre orig x bw bk css wl tr U v c W)
    (hst : St W w (BM x bw bk css exO wl (knO tr) tr tr.length :: l)) (r : Bool) (hr : badB orig (c.map (- ·)) = r) :
    Calls Try.prog 31 #[.pointer (some ⟨x, 0, none⟩), v] w fun e w' => e = .returned (.bool r) ∧ ∃ css' wl', SameC css css' ∧ BOk orig css' wl' tr ∧ St W w' (BM x bw bk css' exO wl' (knO tr) tr tr.length :: l) := by
  have hmf : ∀ (fn : Fn) (first cap : Array Value) (w : World), (Instr.makeFunc fn first cap).run Try.prog w = .ok (.func fn first cap) w := fun _ _ _ _ => rfl
  have H := Hd.mk h
  have H1 := Hd.mk (show St W ((w.alloc (.cells #[.pointer (some ⟨x, 0, none⟩)] 61)).alloc (.cells #[v] 29)) (BM x bw bk css exO wl (knO tr) tr tr.length :: Blk (w.heap.size + 1) (.cells #[v] 29 (0, 0)) :: Blk w.heap.size (.cells #[.pointer (some ⟨x, 0, none⟩)] 61 (0, 0)) :: l) from by
    have h2 := (hst.alloc (.cells #[.pointer (some ⟨x, 0, none⟩)] 61)).alloc (.cells #[v] 29)
    have h3 := h2.pick 2 rfl
    simpa using h3)
  obtain ⟨av, cv, rfl, _, _⟩ := h.rd.shape
  obtain ⟨_, _, atr0, ctr0, _, _, _, c3, _, _, _⟩ := H1.out.bmCells
  have kx : ((w.alloc (.cells #[.pointer (some ⟨x, 0, none⟩)] 61)).alloc (.cells #[.slice av c.length cv] 29)).cell? ⟨w.heap.size, 0, none⟩ = some (.pointer (some ⟨x, 0, none⟩)) := (H1.out.pick 2 rfl).cell 0
  clear h hst
  let R : List As → Prop := fun L' => ∃ (css' : List (List Int)) (wl' : Int → List Int) (tr' : List Int) (dn' : Nat), SameC css css' ∧ WB orig (c.map (- ·)) tr css' wl' tr' ∧ tr <+: tr' ∧
    L' = (BM x bw bk css' exO wl' (knO tr') tr' dn' :: Blk (w.heap.size + 1) (.cells #[.slice av c.length cv] 29 (0, 0)) :: Blk w.heap.size (.cells #[.pointer (some ⟨x, 0, none⟩)] 61 (0, 0)) :: l)
  have HF : Hd (∀ w0, St W w0 (BM x bw bk css exO wl (knO tr) tr tr.length :: Blk (w.heap.size + 1) (.cells #[.slice av c.length cv] 29 (0, 0)) :: Blk w.heap.size (.cells #[.pointer (some ⟨x, 0, none⟩)] 61 (0, 0)) :: l) →
      Calls Try.prog 32 #[.func (Fn.func 62) #[] #[.pointer (some ⟨w.heap.size + 1, 0, none⟩), .pointer (some ⟨w.heap.size, 0, none⟩)]] w0 fun e w' => e = .returned (.bool r) ∧ ∃ L', R L' ∧ St W w' L') := ⟨by
    intro w0 hw0
    have hcall : ∀ w1, St W w1 (Blk w0.heap.size (.cells #[.bool false] 4 (0, 0)) :: BM x bw bk css exO wl (knO tr) tr tr.length :: Blk (w.heap.size + 1) (.cells #[.slice av c.length cv] 29 (0, 0)) :: Blk w.heap.size (.cells #[.pointer (some ⟨x, 0, none⟩)] 61 (0, 0)) :: l) → _ :=
      fun w1 hw1 => imp62_any orig x bw bk css wl tr U (.slice av c.length cv) c W w1 (Blk w0.heap.size (.cells #[.bool false] 4 (0, 0)) :: l) (w.heap.size + 1) w.heap.size H.out (((hw1.pick 3 rfl).pick 3 rfl).pick 3 rfl)
    by_cases hb : Bad orig (c.map (- ·))
    · rw [← hr, badB_true hb]
      refine fails62_bad _ _ W w0 _ R hw0 (fun w1 hw1 => (hcall w1 hw1).mono ?_)
      rintro e w2 ⟨⟨hnb, _⟩ | ⟨_, ho⟩, css', wl', tr', dn', hs, hwb, hp, hst2⟩
      · exact absurd hb hnb
      · exact ⟨ho, _, ⟨css', wl', tr', dn', hs, hwb, hp, rfl⟩, hst2.pick 3 rfl⟩
    · rw [← hr, badB_false hb]
      refine fails62_ok _ _ W w0 _ R hw0 (fun w1 hw1 => (hcall w1 hw1).mono ?_)
      rintro e w2 ⟨⟨_, ho⟩ | ⟨hb2, _⟩, css', wl', tr', dn', hs, hwb, hp, hst2⟩
      · exact ⟨ho, _, ⟨css', wl', tr', dn', hs, hwb, hp, rfl⟩, hst2.pick 3 rfl⟩
      · exact absurd hb2 hb⟩
  go_enter Try.func31, Try.ntmps31
  go_wp2_with (first | (go_at_call 32; refine (HF.out _ H1.out).mono ?_; rintro e w2 ⟨rfl, _, ⟨css', wl', tr', dn', hs, hwb, hp, rfl⟩, hst2⟩; have HP := Hd.mk (And.intro hs (And.intro hwb hp)); obtain ⟨vcl, vtr, hop⟩ := hst2.bmOpen; obtain ⟨atr, ctr, rfl, hctr⟩ := (hop.p4).trShape; have HOP := Hd.mk hop; have e3 := hop.cell 3; have ex : w2.cell? ⟨w.heap.size, 0, none⟩ = some (.pointer (some ⟨x, 0, none⟩)) := (hop.pick 6 rfl).cell 0; simp only [List.getElem?_toArray, List.getElem?_cons_zero, List.getElem?_cons_succ] at e3; have hle : (tr.length : Int) ≤ (tr'.length : Int) := Int.ofNat_le.2 hp.length_le; have hctrI : (tr'.length : Int) ≤ (ctr : Int) := Int.ofNat_le.2 hctr; clear hst2 hs hwb hp hop))
  all_goals (
  have HKN0 := Hd.mk (show ∀ y, knO tr' y = (decide (y ∈ tr'.take tr.length) || decide (y ∈ tr'.drop (tr.length + 0))) from fun y => by
    rw [Nat.add_zero, ← Bool.decide_or]
    refine decide_eq_decide.2 ?_
    rw [← List.mem_append, List.take_append_drop])
  have hln : (tr'.length : Int) ≤ 2199023255553 := by
    have := nodup_range (N := 1099511627776) HP.out.2.1.trl.nodup (fun y hy => (HP.out.2.1.trl.lit y hy).1)
    omega
  generalize w.heap.size = b0 at *
  have hcase : tr'.length = 0 ∨ ∃ bt, atr = some ⟨bt, 0, none⟩ := by
    by_cases he : tr' = []
    · exact .inl (by rw [he]; rfl)
    · obtain ⟨bt, ct, hv⟩ := (HOP.out.pick 4 rfl).slSome (by simpa [ints] using he)
      injection hv with e1 _ _
      exact .inr ⟨bt, e1⟩
  have hmap : ∀ (bt n : Nat), Option.map (fun x => Addr.add x n) (some (⟨bt, 0, none⟩ : Addr)) = some ⟨bt, n, none⟩ := fun bt n => by
    by_cases hn : n = 0
    · subst hn; rfl
    · simp [Addr.add, hn]
  rcases hcase with he | ⟨bt, rfl⟩
  · skip
    try simp only [hmap]
    clear hmap
    go_loopw [23] (fun i wr => ∃ k : Nat, k ≤ tr'.length - tr.length ∧ i = .int .i64 k ∧ Hd (St W wr (Blk x (.cells #[vcl, .map (some bw), .map (some bk), .slice atr tr'.length ctr, .int .i64 dn'] 65 (0, 0)) :: LL vcl css' :: WM bw exO wl' :: KB bk (fun y => decide (y ∈ tr'.take tr.length) || decide (y ∈ tr'.drop (tr.length + k))) :: Sl 3 (.slice atr tr'.length ctr) (ints tr') :: Blk (b0 + 1) (.cells #[.slice av c.length cv] 29 (0, 0)) :: Blk b0 (.cells #[.pointer (some ⟨x, 0, none⟩)] 61 (0, 0)) :: l))) (fun i _ => tr'.length - tr.length - (intOf i).toNat)
    case atStart => exact ⟨0, Nat.zero_le _, rfl, ⟨(((KB.congr (HOP.out.pick 3 rfl) HKN0.out).pick 3 rfl).pick 3 rfl).pick 3 rfl⟩⟩
    case round =>
      obtain ⟨k, hk, rfl, ⟨hst⟩⟩ := hrel
      have HST := Hd.mk hst
      by_cases hlt : k < tr'.length - tr.length
      · first
        | (exfalso; omega)
        | (have hne : ints tr' ≠ [] := by
            intro e
            simp [ints] at e
            rw [e] at hlt
            simp at hlt
           obtain ⟨bt2, ct, hv⟩ := (hst.pick 4 rfl).slSome hne
           injection hv with e1 e2 e3'
           injection e1 with e1
           injection e1 with e1
           subst e1
           have hlt2 : tr.length + k < tr'.length := by omega
           have hx := List.getElem?_eq_getElem hlt2
           generalize tr'[tr.length + k] = y at hx
           have kc := ((hst.pick 4 rfl).slCells hne).1 (tr.length + k) (.int .i64 y) (by simp [ints, hx])
           have kx : wr.cell? ⟨b0, 0, none⟩ = some (.pointer (some ⟨x, 0, none⟩)) := (hst.pick 6 rfl).cell 0
           have k2 : wr.cell? ⟨x, 2, none⟩ = some (.map (some bk)) := hst.cell 2
           have HY := Hd.mk (HP.out.2.1.trl.lit y (List.mem_of_getElem? hx)).1
           have HX := Hd.mk hx
           have hkI : (k : Int) < ((tr'.length - tr.length : Nat) : Int) := by omega
           have hk0 : (0 : Int) ≤ (k : Int) := by omega
           clear hst hne e2 e3' hx hlt2
           go_wp2_with (first | ((refine wpList_del_kb rfl _ _ rfl bk _ _ y rfl rfl (HST.out.pick 3 rfl) HY.out ?_); intro w5 hst5; have H5 := Hd.mk (KB.congr hst5 (drop_del HP.out.2.1.trl.nodup HX.out)); clear hst5))
           go_roundw
           case rel => exact ⟨k + 1, by omega, by go_num, ⟨((H5.out.pick 3 rfl).pick 3 rfl).pick 3 rfl⟩⟩
           case measure => simp [intOf]; omega)
      · have hkI : ¬ (k : Int) < ((tr'.length - tr.length : Nat) : Int) := by omega
        have kx : wr.cell? ⟨b0, 0, none⟩ = some (.pointer (some ⟨x, 0, none⟩)) := (hst.pick 6 rfl).cell 0
        have k3 : wr.cell? ⟨x, 3, none⟩ = some (.slice atr tr'.length ctr) := hst.cell 3
        have k4 : wr.cell? ⟨x, 4, none⟩ = some (.int .i64 dn') := hst.cell 4
        have f3 := hst.free 3
        have f4 := hst.free 4
        have hk2 : tr.length + k = tr'.length := by omega
        have HK2 := Hd.mk hk2
        have htc : (tr.length : Int) ≤ (ctr : Int) := by omega
        have hac : (if ctr = 0 then atr else Option.map (fun x => x.add 0) atr) = atr := by
          cases atr <;> simp [Addr.add]
        clear hst hk2
        go_wp2_with fail
        go_region
        have h6 := (((HST.out.setCell (i := 3) (.slice atr tr.length ctr)).setCell (i := 4) (.int .i64 tr.length)).drew)
        have h7 := (sl_take (k := tr.length) HP.out.2.2.length_le (h6.pick 4 rfl)).1
        rw [take_prefix HP.out.2.2] at h7
        have h8 := (h7.pick 4 rfl).rm 6 rfl
        have h9 := h8.rm 5 rfl
        have h10 := KB.congr h9 (S' := knO tr) (fun y => by
          rw [HK2.out, List.drop_length]
          simp)
        have h11 := St.bmShut (((h10.pick 4 rfl).pick 4 rfl).pick 4 rfl)
        go_wp2
        go_ret
        first | exact ⟨rfl, css', wl', HP.out.1, H.out.ok.back HP.out.1 HP.out.2.1, h11⟩ | exact ⟨css', wl', HP.out.1, H.out.ok.back HP.out.1 HP.out.2.1, h11⟩ | exact ⟨rfl, css', HP.out.1, wl', H.out.ok.back HP.out.1 HP.out.2.1, h11⟩ | exact ⟨css', HP.out.1, wl', H.out.ok.back HP.out.1 HP.out.2.1, h11⟩ | (have hcc : ctr = tr.length := (by assumption); subst hcc; exact ⟨rfl, css', HP.out.1, wl', H.out.ok.back HP.out.1 HP.out.2.1, h11⟩)
  · skip
    try simp only [hmap]
    clear hmap
    go_loopw [23] (fun i wr => ∃ k : Nat, k ≤ tr'.length - tr.length ∧ i = .int .i64 k ∧ Hd (St W wr (Blk x (.cells #[vcl, .map (some bw), .map (some bk), .slice (some ⟨bt, 0, none⟩) tr'.length ctr, .int .i64 dn'] 65 (0, 0)) :: LL vcl css' :: WM bw exO wl' :: KB bk (fun y => decide (y ∈ tr'.take tr.length) || decide (y ∈ tr'.drop (tr.length + k))) :: Sl 3 (.slice (some ⟨bt, 0, none⟩) tr'.length ctr) (ints tr') :: Blk (b0 + 1) (.cells #[.slice av c.length cv] 29 (0, 0)) :: Blk b0 (.cells #[.pointer (some ⟨x, 0, none⟩)] 61 (0, 0)) :: l))) (fun i _ => tr'.length - tr.length - (intOf i).toNat)
    case atStart => exact ⟨0, Nat.zero_le _, rfl, ⟨(((KB.congr (HOP.out.pick 3 rfl) HKN0.out).pick 3 rfl).pick 3 rfl).pick 3 rfl⟩⟩
    case round =>
      obtain ⟨k, hk, rfl, ⟨hst⟩⟩ := hrel
      have HST := Hd.mk hst
      by_cases hlt : k < tr'.length - tr.length
      · first
        | (exfalso; omega)
        | (have hne : ints tr' ≠ [] := by
            intro e
            simp [ints] at e
            rw [e] at hlt
            simp at hlt
           obtain ⟨bt2, ct, hv⟩ := (hst.pick 4 rfl).slSome hne
           injection hv with e1 e2 e3'
           injection e1 with e1
           injection e1 with e1
           subst e1
           have hlt2 : tr.length + k < tr'.length := by omega
           have hx := List.getElem?_eq_getElem hlt2
           generalize tr'[tr.length + k] = y at hx
           have kc := ((hst.pick 4 rfl).slCells hne).1 (tr.length + k) (.int .i64 y) (by simp [ints, hx])
           have kx : wr.cell? ⟨b0, 0, none⟩ = some (.pointer (some ⟨x, 0, none⟩)) := (hst.pick 6 rfl).cell 0
           have k2 : wr.cell? ⟨x, 2, none⟩ = some (.map (some bk)) := hst.cell 2
           have HY := Hd.mk (HP.out.2.1.trl.lit y (List.mem_of_getElem? hx)).1
           have HX := Hd.mk hx
           have hkI : (k : Int) < ((tr'.length - tr.length : Nat) : Int) := by omega
           have hk0 : (0 : Int) ≤ (k : Int) := by omega
           clear hst hne e2 e3' hx hlt2
           go_wp2_with (first | ((refine wpList_del_kb rfl _ _ rfl bk _ _ y rfl rfl (HST.out.pick 3 rfl) HY.out ?_); intro w5 hst5; have H5 := Hd.mk (KB.congr hst5 (drop_del HP.out.2.1.trl.nodup HX.out)); clear hst5))
           go_roundw
           case rel => exact ⟨k + 1, by omega, by go_num, ⟨((H5.out.pick 3 rfl).pick 3 rfl).pick 3 rfl⟩⟩
           case measure => simp [intOf]; omega)
      · have hkI : ¬ (k : Int) < ((tr'.length - tr.length : Nat) : Int) := by omega
        have kx : wr.cell? ⟨b0, 0, none⟩ = some (.pointer (some ⟨x, 0, none⟩)) := (hst.pick 6 rfl).cell 0
        have k3 : wr.cell? ⟨x, 3, none⟩ = some (.slice (some ⟨bt, 0, none⟩) tr'.length ctr) := hst.cell 3
        have k4 : wr.cell? ⟨x, 4, none⟩ = some (.int .i64 dn') := hst.cell 4
        have f3 := hst.free 3
        have f4 := hst.free 4
        have hk2 : tr.length + k = tr'.length := by omega
        have HK2 := Hd.mk hk2
        have htc : (tr.length : Int) ≤ (ctr : Int) := by omega
        have hac : (if ctr = 0 then (some (⟨bt, 0, none⟩ : Addr)) else Option.map (fun x => Addr.add x 0) (some (⟨bt, 0, none⟩ : Addr))) = (some (⟨bt, 0, none⟩ : Addr)) := by
          simp [Addr.add]
        clear hst hk2
        go_wp2_with fail
        go_region
        have h6 := (((HST.out.setCell (i := 3) (.slice (some ⟨bt, 0, none⟩) tr.length ctr)).setCell (i := 4) (.int .i64 tr.length)).drew)
        have h7 := (sl_take (k := tr.length) HP.out.2.2.length_le (h6.pick 4 rfl)).1
        rw [take_prefix HP.out.2.2] at h7
        have h8 := (h7.pick 4 rfl).rm 6 rfl
        have h9 := h8.rm 5 rfl
        have h10 := KB.congr h9 (S' := knO tr) (fun y => by
          rw [HK2.out, List.drop_length]
          simp)
        have h11 := St.bmShut (((h10.pick 4 rfl).pick 4 rfl).pick 4 rfl)
        go_wp2
        go_ret
        first | exact ⟨rfl, css', wl', HP.out.1, H.out.ok.back HP.out.1 HP.out.2.1, h11⟩ | exact ⟨css', wl', HP.out.1, H.out.ok.back HP.out.1 HP.out.2.1, h11⟩ | exact ⟨rfl, css', HP.out.1, wl', H.out.ok.back HP.out.1 HP.out.2.1, h11⟩ | exact ⟨css', HP.out.1, wl', H.out.ok.back HP.out.1 HP.out.2.1, h11⟩ | (have hcc : ctr = tr.length := (by assumption); subst hcc; exact ⟨rfl, css', HP.out.1, wl', H.out.ok.back HP.out.1 HP.out.2.1, h11⟩))
end Go.Proofs.Ytneibkemhmneoaa
