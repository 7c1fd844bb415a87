/- Words: a map of integer keys that is ranged over, in owned memory. They speak of no function of the program but its types. -/
import Derived.Test.YtneibkemhmneoaaMp
import Derived.Test.YtneibkemhmneoaaProg
import Derived.Maps.RangeWalk
namespace Go.Proofs.Ytneibkemhmneoaa
set_option linter.unusedVariables false
set_option linter.unusedSimpArgs false
open Go.RowKit Go.ChangeMaps Go.MapKept
open Go.WideElems (Fit rd rg pl rd_val rg_of rd_key)
open Go.Maps (Keyed int_keyed keyOf_int_mk)

/-- Block b is a map whose keys are those x of which f x is something, block r an iterator over it: left: the keys still to come. -/
def RG (b r : Nat) (f : Int → Option Value) (left : Lit → Bool) (cnt : Nat) : As := fun g =>
  ∃ om oi n D, g b = some om ∧ g r = some oi ∧ (∀ x, Maps.has D (.int .i64 x) = (f x).isSome) ∧ ∀ w : World, w.heap[b]? = some om → w.heap[r]? = some oi → w.ranges Try.prog 3 exR b r n D left cnt

theorem ranges_same {w w' : World} {b r n : Nat} {D : DataW Value} {left : Lit → Bool} {cnt : Nat} (h : w.ranges Try.prog 3 exR b r n D left cnt) (e1 : w'.heap[b]? = w.heap[b]?) (e2 : w'.heap[r]? = w.heap[r]?) : w'.ranges Try.prog 3 exR b r n D left cnt := by
  obtain ⟨es, clock, since, seen, c0, hb, F, hs, hD, hr, h1⟩ := h
  exact ⟨es, clock, since, seen, c0, e1.trans hb, F, hs, hD, e2.trans hr, h1⟩

section
variable {W w w' : World} {l : List As} {b r : Nat} {f : Int → Option Value} {left : Lit → Bool} {cnt : Nat}

theorem St.grown1 (h : St W w l) (hg : w.grownBy w' none) {o : Obj} (hr : w'.heap[w.heap.size]? = some o) : St W w' (Blk w.heap.size o :: l) := by
  refine h.call (l' := [Blk w.heap.size o]) ⟨⟨hg.os, hg.tape, hg.output, hg.size, fun k hk => hg.block k hk (by simp)⟩, fun k => if k = w.heap.size then some o else none, ?_, fun k o' e => ?_⟩
  · exact ⟨fun k => if k = w.heap.size then some o else none, fun _ => none, by simp [Blk], trivial, fun _ => .inr rfl, fun _ _ e => e, fun _ _ e => by cases e⟩
  · by_cases hk : k = w.heap.size
    · subst hk
      simp at e
      subst e
      exact ⟨Nat.le_refl _, hr⟩
    · simp [hk] at e

theorem St.rgIn {om oi : Obj} {n : Nat} {D : DataW Value} (h : St W w (Blk b om :: Blk r oi :: l)) (hD : ∀ x, Maps.has D (.int .i64 x) = (f x).isSome) (hr : w.ranges Try.prog 3 exR b r n D left cnt) : St W w (RG b r f left cnt :: l) := by
  have h1 := h.blk
  have h2 := h.p1.blk
  refine St.close (ps := [Blk b om, Blk r oi]) h (fun g p => ?_)
  obtain ⟨g1, k1, p1, ⟨g2, k2, p2, _, _, x2, _⟩, _, x1, y1⟩ := p
  exact ⟨om, oi, n, D, x1 _ _ p1, y1 _ _ (x2 _ _ p2), hD, fun w2 e1 e2 => ranges_same hr (e1.trans h1.symm) (e2.trans h2.symm)⟩

theorem St.rgOut (h : St W w (RG b r f left cnt :: l)) : ∃ om oi n D, (∀ x, Maps.has D (.int .i64 x) = (f x).isSome) ∧ w.ranges Try.prog 3 exR b r n D left cnt ∧ St W w (Blk b om :: Blk r oi :: l) := by
  obtain ⟨g0, ⟨om, oi, n, D, hb, hr, hD, hrg⟩, e0⟩ := h.get
  have hne : r ≠ b := (hrg w (e0 _ _ hb).2 (e0 _ _ hr).2).ne
  refine ⟨om, oi, n, D, hD, hrg w (e0 _ _ hb).2 (e0 _ _ hr).2, ?_⟩
  obtain ⟨hh, ⟨g, k, p, s, d, x, y⟩, e⟩ := h.own
  obtain ⟨om', oi', _, _, hb', hr', _, _⟩ := p
  have eo1 : om' = om := by
    have h1 := (e _ _ (x _ _ hb')).2
    have h2 := (e0 _ _ hb).2
    rw [h1] at h2
    exact Option.some.inj h2
  have eo2 : oi' = oi := by
    have h1 := (e _ _ (x _ _ hr')).2
    have h2 := (e0 _ _ hr).2
    rw [h1] at h2
    exact Option.some.inj h2
  subst eo1 eo2
  refine ⟨h.below, hh, ?_, e⟩
  refine ⟨fun z => if z = b then some om' else none, Hl.or (fun z => if z = r then some oi' else none) k, by simp [Blk], ⟨fun z => if z = r then some oi' else none, k, by simp [Blk], s, fun z => ?_, fun z o hz => Hl.sub_or_left _ _ _ _ hz, Hl.sub_or_right (fun z => ?_)⟩, fun z => ?_, fun z o hz => ?_, fun z o hz => ?_⟩
  · by_cases hz : z = r
    · subst hz
      rcases d z with h1 | h1
      · rw [hr'] at h1; cases h1
      · exact .inr h1
    · exact .inl (by simp [hz])
  · by_cases hz : z = r
    · subst hz
      rcases d z with h1 | h1
      · rw [hr'] at h1; cases h1
      · exact .inr h1
    · exact .inl (by simp [hz])
  · by_cases hz : z = b
    · subst hz
      refine .inr ?_
      have h1 : k z = none := by
        rcases d z with h1 | h1
        · rw [hb'] at h1; cases h1
        · exact h1
      simp [Hl.or, Ne.symm hne, h1]
    · exact .inl (by simp [hz])
  · by_cases hzb : z = b
    · subst hzb
      simp at hz
      subst hz
      exact x _ _ hb'
    · simp [hzb] at hz
  · unfold Hl.or at hz
    by_cases hzr : z = r
    · subst hzr
      simp at hz
      subst hz
      exact x _ _ hr'
    · simp [hzr] at hz
      exact y _ _ hz

theorem St.rgLeft (h : St W w (RG b r f left cnt :: l)) : w.rangeLeft b r = cnt := by
  obtain ⟨_, _, _, _, _, hr, _⟩ := h.rgOut
  exact hr.left_eq

variable {ops : Array Oper} {rest : List Oper} {o : Oper} {a : Act} {Q : Exit → Act → World → Prop}

theorem St.mpBlk (h : St W w (Mp Try.prog b f :: l)) : ∃ es clock, Fit Try.prog 3 exR es clock ∧ (∀ x, Maps.has (mapD Try.prog es) (.int .i64 x) = (f x).isSome) ∧ St W w (Blk b (.map es clock) :: l) := by
  obtain ⟨hh, ⟨g, k, ⟨es, clock, hb, F, _, hhas⟩, s, d, x, y⟩, e⟩ := h.own
  exact ⟨es, clock, F, hhas, ⟨h.below, hh, ⟨g, k, hb, s, d, x, y⟩, e⟩⟩

theorem wpList_range_st (hg : o.guard = none) (m : Operand) (t e : TypeId) (hop : o.op = Op.range t m) (ht : Try.prog.underlying t = some (.map 3 e)) (b : Nat) (f : Int → Option Value) (l : List As) (hm : a.eval m = .map (some b)) (h : St W w (Mp Try.prog b f :: l))
    (hK : ∀ w' left cnt, (∀ x, left (.int .i64 x) = (f x).isSome) → St W w' (RG b w.heap.size f left cnt :: l) → wpList Try.prog ops Q rest (a.put o.dst (.pointer (some ⟨w.heap.size, 0, none⟩))) w') : wpList Try.prog ops Q (o :: rest) a w := by
  obtain ⟨es, clock, F, hhas, hblk⟩ := h.mpBlk
  have hown : w.ownsMap Try.prog 3 exR b es.size (mapD Try.prog es) := ⟨es, clock, hblk.blk, F, Nat.le_refl _, rfl⟩
  refine wpList_range_own w hg m t hop 3 e (int_keyed Try.underlying3) ht exR b es.size (mapD Try.prog es) hm hown (fun w' hr hgr hs => ?_)
  obtain ⟨oi, hoi⟩ : ∃ oi, w'.heap[w.heap.size]? = some oi := ⟨_, Array.getElem?_eq_getElem (by omega)⟩
  exact hK w' _ _ hhas ((hblk.grown1 hgr hoi).p1.rgIn hhas hr)

theorem wpList_next_st (hg : o.guard = none) (it : Operand) (hop : o.op = Op.next it false) (b r : Nat) (f : Int → Option Value) (left : Lit → Bool) (cnt : Nat) (l : List As) (hit : a.eval it = .pointer (some ⟨r, 0, none⟩)) (h : St W w (RG b r f left cnt :: l))
    (hDone : (∀ kl, left kl = false) → wpList Try.prog ops Q rest (a.put o.dst (.tuple #[.bool false])) w)
    (hMore : ∀ (x : Int) (c : Value) (w' : World) (cnt' : Nat), left (.int .i64 x) = true → St W w' (RG b r f (fun z => left z && !z.sameKey (.int .i64 x)) cnt' :: l) → cnt' < cnt →
      (Instr.entry (.pointer (some ⟨r, 0, none⟩))).run Try.prog w' = .ok (.tuple #[.int .i64 x, c]) w' → wpList Try.prog ops Q rest (a.put o.dst (.tuple #[.bool true, .int .i64 x, c])) w') :
    wpList Try.prog ops Q (o :: rest) a w := by
  obtain ⟨om, oi, n, D, hD, hr, hst⟩ := h.rgOut
  refine wpList_next_ranges w hg it hop 3 (int_keyed Try.underlying3) exR (Value.int .i64) (fun v : Value => v) (fun key kl hkey => by obtain ⟨x, rfl, _⟩ := Maps.keyOf_int_inv Try.underlying3 hkey; exact ⟨x, rfl⟩) (fun v y _ => ⟨v, rfl⟩) b r n D left cnt hit hr (fun _ hl => hDone hl) ?_
  intro x c kl y w' cnt' hkey hlk _ _ hr' hlt hgr hsz hen
  obtain ⟨x', ex, rfl, _⟩ := Maps.keyOf_int_inv Try.underlying3 hkey
  cases ex
  have hrlt := hst.p1.blk_lt
  have hne := hr.ne
  obtain ⟨oi', hoi⟩ : ∃ oi', w'.heap[r]? = some oi' := ⟨_, Array.getElem?_eq_getElem (by omega)⟩
  have h2 : St W w' (Blk r oi' :: Blk b om :: l) := hst.p1.setBlk hgr.os hgr.tape hgr.output (by omega) hoi (fun k hk hkr => hgr.block k hk (by simpa using hkr))
  exact hMore x c w' cnt' hlk (h2.p1.rgIn hD hr') hlt hen
end

/-- What has been collected. -/
structure Coll (f : Int → Option Value) (left : Lit → Bool) (zs : List Int) : Prop where
  nodup : zs.Nodup
  mem : ∀ x, x ∈ zs ↔ (f x).isSome = true ∧ left (.int .i64 x) = false
  left : ∀ x, left (.int .i64 x) = true → (f x).isSome = true

theorem Coll.start {f : Int → Option Value} {left : Lit → Bool} (h : ∀ x, left (.int .i64 x) = (f x).isSome) : Coll f left [] where
  nodup := List.nodup_nil
  mem x := by rw [h]; cases (f x).isSome <;> simp
  left x hx := by rw [← h]; exact hx

theorem Coll.step {f : Int → Option Value} {left : Lit → Bool} {zs : List Int} (h : Coll f left zs) {x : Int} (hx : left (.int .i64 x) = true) : Coll f (fun z => left z && !z.sameKey (.int .i64 x)) (zs ++ [x]) := by
  have hs : ∀ y, (Lit.int .i64 y).sameKey (.int .i64 x) = decide (y = x) := fun y => by
    by_cases e : y = x
    · subst e; simp [Lit.sameKey]
    · simp [Lit.sameKey, e]
  refine ⟨List.nodup_append.2 ⟨h.nodup, by simp, ?_⟩, fun y => ?_, fun y hy => ?_⟩
  · rintro y hy z hz rfl
    simp at hz
    subst hz
    rw [((h.mem y).1 hy).2] at hx
    cases hx
  · rw [List.mem_append, h.mem, hs]
    by_cases e : y = x
    · subst e
      simp [h.left y hx, hx]
    · simp [e]
  · simp only [Bool.and_eq_true] at hy
    exact h.left y hy.1

theorem Coll.done {f : Int → Option Value} {left : Lit → Bool} {zs : List Int} (h : Coll f left zs) (h0 : ∀ kl, left kl = false) : ∀ x, x ∈ zs ↔ (f x).isSome = true := fun x => by rw [h.mem, h0]; simp
end Go.Proofs.Ytneibkemhmneoaa
