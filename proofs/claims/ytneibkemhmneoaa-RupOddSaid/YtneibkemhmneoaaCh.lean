/- Words: code in a frame of the normal kind ('NW'): the walk's rules, and two more: a send into a buffer with room, a receive from a buffer that holds something, by the machine of one goroutine. They speak of no function of the program. -/
import Derived.Test.YtneibkemhmneoaaSt
import Derived.Conc.LoneCalls
import Derived.WalkKit
namespace Go.Proofs.Ytneibkemhmneoaa
set_option linter.unusedVariables false
set_option linter.unusedSimpArgs false
open Go.RowKit Go.Conc

/-- What a piece of code comes to, in whatever frame of the normal kind. -/
def NW (P : Program) (c : Code) (Q : Exit → Act → World → Prop) (a : Act) (w : World) : Prop :=
  ∀ (b : Frame) (k : List Item) (cs : List Frame), b.kind = .normal → ∃ e a' w', Q e a' w' ∧ Arrives P (lone (b.at a (.code c :: k)) cs w) b k cs e a' w'
/-- The same of the operations of a region that are left. -/
def NO (P : Program) (ops : Array Oper) (Q : Exit → Act → World → Prop) (l : List Nat) (a : Act) (w : World) : Prop :=
  ∀ (b : Frame) (k : List Item) (cs : List Frame), b.kind = .normal → ∃ e a' w', Q e a' w' ∧ Arrives P (lone (b.at a (.inRegion ops l :: k)) cs w) b k cs e a' w'

section
variable {P : Program} {Q : Exit → Act → World → Prop} {a : Act} {w : World} {x y c : Code}

theorem nw_wp (h : c.wp P Q a w) : NW P c Q a w := fun b k cs _ => h b k cs

theorem passes {m : Machine} {b : Frame} {z : Item} {k : List Item} {cs : List Frame} {e : Exit} {a' : Act} {w' : World} (hz : z.plain = true) (he : e ≠ .normal) (h : Arrives P m b (z :: k) cs e a' w') : Arrives P m b k cs e a' w' :=
  h.pass hz (fun _ _ => .inl he)

theorem nw_seq (h : NW P x (Exit.then (NW P y Q) Q) a w) : NW P (.seq x y) Q a w := by
  intro b k cs hb
  obtain ⟨e, a1, w1, hq, hr⟩ := h b (.code y :: k) cs hb
  by_cases he : e = .normal
  · subst he
    obtain ⟨e2, a2, w2, hq2, hr2⟩ := hq b k cs hb
    exact ⟨e2, a2, w2, hq2, .of_steps (.head step_seq hr) hr2⟩
  · have hq' : Q e a1 w1 := by cases e <;> first | exact absurd rfl he | exact hq
    exact ⟨e, a1, w1, hq', .of_steps (.one step_seq) (passes rfl he hr)⟩

theorem nw_cond {t : Operand} {v : Bool} (ht : a.eval t = .bool v) (h : NW P (if v then x else y) Q a w) : NW P (.cond t x y) Q a w := fun b k cs hb =>
  let ⟨e, a', w', q, r⟩ := h b k cs hb
  ⟨e, a', w', q, .of_steps (.one (step_cond ht)) r⟩

theorem nw_block {id : Nat} (h : NW P c (Exit.inBlock id Q) a w) : NW P (.block id c) Q a w := by
  intro b k cs hb
  obtain ⟨e, a1, w1, hq, hr⟩ := h b (.inBlock id :: k) cs hb
  have r2 : Arrives P (lone (b.at a (.code (.block id c) :: k)) cs w) b (.inBlock id :: k) cs e a1 w1 := .of_steps (.one step_block) hr
  cases e with
  | normal => exact ⟨.normal, a1, w1, hq, Steps.trans r2 (.one step_inBlock)⟩
  | exit id' =>
    by_cases hid : id' = id
    · simp only [Exit.inBlock, hid, if_true] at hq
      exact ⟨.normal, a1, w1, hq, r2 k (by simp [exitTo, hid])⟩
    · simp only [Exit.inBlock, hid, if_false] at hq
      exact ⟨.exit id', a1, w1, hq, fun k' hk => r2 k' (by simp [exitTo, show (id == id') = false by simp; exact fun h => hid h.symm, hk])⟩
  | goto l => exact ⟨_, a1, w1, hq, fun k' hk => r2 k' (by simp [gotoIn, hk])⟩
  | ret => exact ⟨_, a1, w1, hq, r2⟩
  | panic ch => exact ⟨_, a1, w1, hq, r2⟩
  | outgrown => exact ⟨_, a1, w1, hq, r2⟩

theorem nw_loop (I : Act → World → Prop) (μ : Act → World → Nat) (h0 : I a w) (round : ∀ a w, I a w → NW P c (Exit.then (fun a' w' => I a' w' ∧ μ a' w' < μ a w) Q) a w) : NW P (.loop c) Q a w := by
  intro b k cs hb
  suffices key : ∀ n a w, μ a w = n → I a w → ∃ e a' w', Q e a' w' ∧ Arrives P (lone (b.at a (.code c :: .inLoop c :: k)) cs w) b k cs e a' w' by
    obtain ⟨e, a', w', hq, hr⟩ := key _ a w rfl h0
    exact ⟨e, a', w', hq, .of_steps (.one step_loop) hr⟩
  intro n
  induction n using Nat.strongRecOn with
  | _ n ih =>
    intro a w hn hI
    obtain ⟨e, a1, w1, hq, hr⟩ := round a w hI b (.inLoop c :: k) cs hb
    by_cases he : e = .normal
    · subst he
      obtain ⟨e2, a2, w2, hq2, hr2⟩ := ih _ (hn ▸ hq.2) a1 w1 rfl hq.1
      exact ⟨e2, a2, w2, hq2, .of_steps (Steps.trans hr (.one step_inLoop)) hr2⟩
    · have hq' : Q e a1 w1 := by cases e <;> first | exact absurd rfl he | exact hq
      exact ⟨e, a1, w1, hq', passes rfl he hr⟩

theorem calls_nw {f : FuncId} {fn : Func} {args : Array Value} {R : Ending → World → Prop} (hf : P.funcs[f]? = some fn) (hc : fn.body = some c)
    (h : NW P c (bodyPost P fn R) { tmps := args ++ Array.replicate (fn.ntmps - args.size) undef, defers := [] } w) : Calls P f args w R := by
  intro cs
  have hin : Frame.enter P f args .normal = ({ (default : Frame) with fn := f, kind := .normal }).at { tmps := args ++ Array.replicate (fn.ntmps - args.size) undef, defers := [] } [.code c] := by
    simp [Frame.enter, Frame.at, hf, hc]
  obtain ⟨e, a', w', hq, hr⟩ := h { (default : Frame) with fn := f, kind := .normal } [] cs rfl
  rw [← hin] at hr
  cases e with
  | normal =>
    obtain ⟨hd, v, hv, hR⟩ := hq
    exact ⟨.returned v, w', _, hR, Steps.trans hr (.one step_end), rfl, rfl, hd, rfl, fn, hf, hv⟩
  | ret =>
    obtain ⟨hd, v, hv, hR⟩ := hq
    obtain ⟨todo, hs⟩ := hr
    exact ⟨.returned v, w', _, hR, hs, rfl, rfl, hd, rfl, fn, hf, hv⟩
  | panic chain =>
    obtain ⟨hd, hR⟩ := hq
    obtain ⟨todo, hs⟩ := hr
    exact ⟨.panicked chain, w', _, hR, hs, rfl, rfl, hd, fn, hf⟩
  | exit id => exact hq.elim
  | goto l => exact hq.elim
  | outgrown => exact ⟨.outgrown, w', { (default : Frame) with fn := f, kind := .normal }, hq, hr.resolve_left (by simp), rfl, trivial⟩

theorem nw_region {id : Nat} {ops : Array Oper} (h : NO P ops Q (List.range ops.size) a w) : NW P (.region id ops false) Q a w := fun b k cs hb =>
  let ⟨e, a', w', q, r⟩ := h b k cs hb
  ⟨e, a', w', q, .of_steps (.one step_region) r⟩

section
variable {ops : Array Oper} {i : Nat} {rest : List Nat} {o : Oper} {w' : World} {v : Value}
theorem no_end (h : Q .normal a w) : NO P ops Q [] a w := fun b k cs _ => ⟨.normal, a, w, h, .one step_region_end⟩
theorem no_step {a' : Act} (h : ∀ (b : Frame) (k : List Item) (cs : List Frame), b.kind = .normal → step P (lone (b.at a (.inRegion ops (i :: rest) :: k)) cs w) = .next (lone (b.at a' (.inRegion ops rest :: k)) cs w'))
    (hr : NO P ops Q rest a' w') : NO P ops Q (i :: rest) a w := fun b k cs hb =>
  let ⟨e, a2, w2, q, r⟩ := hr b k cs hb
  ⟨e, a2, w2, q, .of_steps (.one (h b k cs hb)) r⟩
theorem finish_is {b : Frame} {k : List Item} (ho : ops[i]? = some o) (v : Value) : (b.at a (.inRegion ops (i :: rest) :: k)).finish v = b.at (a.put o.dst v) (.inRegion ops rest :: k) := by
  rw [Frame.finish_at, ho]
  rfl
theorem no_value (ho : ops[i]? = some o) (hw : Region.wanted o (yielded ops a.tmps) = true) (he : (execOp a.eval o).run P w = .ok (.value v) w') (hr : NO P ops Q rest (a.put o.dst v) w') : NO P ops Q (i :: rest) a w :=
  no_step (fun b k cs hb => step_lone_go (by rw [stepG_op ho hw, ← finish_is ho]; simp [stepG.apply, he])) hr
theorem no_send {ch cap s r : Nat} {buf : Array Value} {z : Value} {tm : Bool} (ho : ops[i]? = some o) (hw : Region.wanted o (yielded ops a.tmps) = true) (he : (execOp a.eval o).run P w = .ok (.comm #[scase ch v z] true .send) w)
    (hc : w.heap[ch]? = some (.chan cap buf false s r tm)) (hroom : buf.size < cap) (hr : NO P ops Q rest (a.put o.dst undef) (w.setChan ch cap (buf.push v) false (s + 1) r tm)) : NO P ops Q (i :: rest) a w :=
  no_step (fun b k cs hb => by
    rw [← finish_is ho]
    exact step_lone_send_room (stepG_comm ho hw (by simp [hb]) he) hc hroom) hr
theorem no_recv {ch cap s r : Nat} {buf : Array Value} {z : Value} {tm closed : Bool} (ho : ops[i]? = some o) (hw : Region.wanted o (yielded ops a.tmps) = true) (he : (execOp a.eval o).run P w = .ok (.comm #[rcase ch z] true (.recv false)) w)
    (hc : w.heap[ch]? = some (.chan cap buf closed s r tm)) (hsome : 0 < buf.size) (hr : NO P ops Q rest (a.put o.dst (buf.getD 0 undef)) (w.setChan ch cap (buf.extract 1 buf.size) closed s (r + 1) tm)) : NO P ops Q (i :: rest) a w :=
  no_step (fun b k cs hb => by
    rw [← finish_is ho]
    exact step_lone_recv_buf false (stepG_comm ho hw (by simp [hb]) he) hc hsome) hr
end
end

section
variable {W w : World} {l : List As}
theorem St.setChan {b cap s r : Nat} {buf : Array Value} {cl tm : Bool} (h : St W w (Blk b (.chan cap buf cl s r tm) :: l)) (cap' : Nat) (buf' : Array Value) (cl' : Bool) (s' r' : Nat) (tm' : Bool) : St W (w.setChan b cap' buf' cl' s' r' tm') (Blk b (.chan cap' buf' cl' s' r' tm') :: l) :=
  h.setBlk rfl rfl rfl (by simp [World.setChan]) (heap_setChan _ _ _ _ _ _ _ _ h.blk_lt) (fun k hk hne => by simp only [World.setChan]; rw [Array.getElem?_setIfInBounds_ne (by omega)])
end
end Go.Proofs.Ytneibkemhmneoaa
