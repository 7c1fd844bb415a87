/- Contracts: fails, for each of the three functions that it is handed. -/
import Derived.Test.YtneibkemhmneoaaBc
namespace Go.Proofs.Ytneibkemhmneoaa
set_option linter.unusedVariables false
set_option linter.unusedSimpArgs false
open Go.RowKit

theorem rep14 : Array.replicate 14 undef = #[undef, undef, undef, undef, undef, undef, undef, undef, undef, undef, undef, undef, undef, undef] := rfl

theorem catch65_idle (p0 : Value) (w : World) :
    CallsD Try.prog 65 #[p0] .returning w fun e u' w' => e = .returned (.tuple #[]) ∧ u' = .returning ∧ w' = w := by
  refine callsD_of_wpS Try.func65 rfl fun c₀ cs hu => ?_
  have hc : ({ c₀ with mode := .returning } : Frame) = c₀ := by rw [← hu]
  apply wpS_seq
  apply wpS_region
  simp [wpOpsS, go_sem, recoverD, hu, Try.ntmps65, Exit.thenS, rep14]
  refine wpS_of_wp ?_
  clear hu
  go_wp2
  exact ⟨rfl, .returning, by rw [hc], _, results_none rfl _ _ _, rfl, rfl, rfl⟩

theorem ta106 (w : World) : (Instr.typeAssert (.iface 106 (.agg #[])) 20 106 true).run Try.prog w = .ok (.tuple #[.agg #[], .bool true]) w := by kernel_rfl

set_option maxRecDepth 8000 in
theorem catch65_fail (b : Nat) (z : Bool) (W w : World) (l : List As) (older : List PanicEntry) (hst : St W w (Blk b (.cells #[.bool z] 4 (0, 0)) :: l)) :
    CallsD Try.prog 65 #[.pointer (some ⟨b, 0, none⟩)] (.panicking (failE false :: older)) w fun e u' w' => e = .returned (.tuple #[]) ∧ u' = .panicking (failE true :: older) ∧ St W w' (Blk b (.cells #[.bool true] 4 (0, 0)) :: l) := by
  refine callsD_of_wpS Try.func65 rfl fun c₀ cs hu => ?_
  apply wpS_seq
  apply wpS_region
  simp [wpOpsS, go_sem, recoverD, hu, Try.ntmps65, Exit.thenS, rep14]
  refine wpS_of_wp ?_
  clear hu
  have c0 : w.cell? ⟨b, 0, none⟩ = some (.bool z) := hst.cell 0
  have f0 := hst.free 0
  have c1 : ∀ o, (w.alloc o).cell? ⟨b, 0, none⟩ = some (.bool z) := fun o => (hst.alloc o).p1.cell 0
  have f1 : ∀ o, (w.alloc o).frozen? ⟨b, 0, none⟩ = false := fun o => (hst.alloc o).p1.free 0
  have H := Hd.mk (fun o => (((hst.alloc o).p1).setCell (i := 0) (.bool true)))
  clear hst
  have hta : ∀ w, (Instr.typeAssert (.iface 106 (.agg #[])) 20 106 true).run Try.prog w = .ok (.tuple #[.agg #[], .bool true]) w := fun w => ta106 w
  go_wp2
  exact ⟨rfl, _, rfl, _, results_none rfl _ _ _, rfl, rfl, ((H.out _).p1).drop⟩

theorem settle_fail (older : List PanicEntry) (h : ∀ q ∈ older, q.goexit = false) : settle (.panicking (failE true :: older)) = .returning := by
  have : older.dropWhile (fun q => !q.goexit) = [] := by
    induction older with
    | nil => rfl
    | cons q r ih =>
      rw [List.dropWhile_cons, if_pos (by simp [h q List.mem_cons_self])]
      exact ih (fun z hz => h z (List.mem_cons_of_mem _ hz))
  simp [settle, this]


set_option maxRecDepth 8000 in
theorem fails62_ok (p q : Value) (W w : World) (L : List As) (R : List As → Prop) (hst : St W w L)
    (hcall : ∀ w1, St W w1 (Blk w.heap.size (.cells #[.bool false] 4 (0, 0)) :: L) → Calls Try.prog 62 #[p, q] w1 fun e w2 => e = .returned (.tuple #[]) ∧ ∃ L', R L' ∧ St W w2 (Blk w.heap.size (.cells #[.bool false] 4 (0, 0)) :: L')) :
    Calls Try.prog 32 #[.func (Fn.func 62) #[] #[p, q]] w fun e w' => e = .returned (.bool false) ∧ ∃ L', R L' ∧ St W w' L' := by
  have hmf : ∀ (fn : Fn) (first cap : Array Value) (w : World), (Instr.makeFunc fn first cap).run Try.prog w = .ok (.func fn first cap) w := fun _ _ _ _ => rfl
  have H1 := Hd.mk (hst.alloc (.cells #[.bool false] 4))
  have HC := Hd.mk hcall
  clear hst hcall
  go_enter_defers Try.func32, Try.ntmps32
  go_wp2_with (first | (go_at_call 62; refine (HC.out _ H1.out).mono ?_; rintro e w2 ⟨rfl, L', hR, hst2⟩; have HR := Hd.mk hR; have H2 := Hd.mk hst2; have c0 : w2.cell? ⟨w.heap.size, 0, none⟩ = some (.bool false) := hst2.cell 0; have f0 := hst2.free 0; clear hst2 hR))
  refine leaves_cons (f := 65) (args := #[.pointer (some ⟨w.heap.size, 0, none⟩)]) (by simp) (by simp [go_sem]) ?_
  refine (catch65_idle _ _).mono ?_
  rintro e u' w'' ⟨rfl, rfl, rfl⟩
  have h3 := H2.out.setCell (i := 0) (.bool false)
  have c3 : (w2.setCell ⟨w.heap.size, 0, none⟩ (.bool false)).cell? ⟨w.heap.size, 0, none⟩ = some (.bool false) := h3.cell 0
  refine ⟨.bool false, by simp [results, Try.results32, go_sem, c3], rfl, L', HR.out, h3.drop⟩

set_option maxRecDepth 8000 in
theorem fails62_bad (p q : Value) (W w : World) (L : List As) (R : List As → Prop) (hst : St W w L)
    (hcall : ∀ w1, St W w1 (Blk w.heap.size (.cells #[.bool false] 4 (0, 0)) :: L) → Calls Try.prog 62 #[p, q] w1 fun e w2 => (∃ older, e = .panicked (failE false :: older) ∧ ∀ q ∈ older, q.goexit = false) ∧ ∃ L', R L' ∧ St W w2 (Blk w.heap.size (.cells #[.bool false] 4 (0, 0)) :: L')) :
    Calls Try.prog 32 #[.func (Fn.func 62) #[] #[p, q]] w fun e w' => e = .returned (.bool true) ∧ ∃ L', R L' ∧ St W w' L' := by
  have hmf : ∀ (fn : Fn) (first cap : Array Value) (w : World), (Instr.makeFunc fn first cap).run Try.prog w = .ok (.func fn first cap) w := fun _ _ _ _ => rfl
  have H1 := Hd.mk (hst.alloc (.cells #[.bool false] 4))
  have HC := Hd.mk hcall
  clear hst hcall
  go_enter_defers Try.func32, Try.ntmps32
  go_wp2_with (first | (go_at_call 62; refine (HC.out _ H1.out).mono ?_; rintro e w2 ⟨⟨older, rfl, hold⟩, L', hR, hst2⟩; have HR := Hd.mk hR; have H2 := Hd.mk hst2; have HO := Hd.mk hold; clear hst2 hR hold))
  refine leaves_cons (f := 65) (args := #[.pointer (some ⟨w.heap.size, 0, none⟩)]) (by simp) (by simp [go_sem]) ?_
  refine (catch65_fail w.heap.size false W w2 L' older H2.out).mono ?_
  rintro e u' w'' ⟨rfl, rfl, hst3⟩
  have c3 : w''.cell? ⟨w.heap.size, 0, none⟩ = some (.bool true) := hst3.cell 0
  show Leaves _ _ _ _ [] (settle _) w''
  rw [settle_fail older HO.out]
  exact ⟨.bool true, by simp [results, Try.results32, go_sem, c3], rfl, L', HR.out, hst3.drop⟩

set_option maxRecDepth 8000 in
theorem fails33_ok (p q : Value) (W w : World) (L : List As) (R : List As → Prop) (hst : St W w L)
    (hcall : ∀ w1, St W w1 (Blk w.heap.size (.cells #[.bool false] 4 (0, 0)) :: L) → Calls Try.prog 33 #[p, q] w1 fun e w2 => e = .returned (.tuple #[]) ∧ ∃ L', R L' ∧ St W w2 (Blk w.heap.size (.cells #[.bool false] 4 (0, 0)) :: L')) :
    Calls Try.prog 32 #[.func (Fn.func 33) #[] #[p, q]] w fun e w' => e = .returned (.bool false) ∧ ∃ L', R L' ∧ St W w' L' := by
  have hmf : ∀ (fn : Fn) (first cap : Array Value) (w : World), (Instr.makeFunc fn first cap).run Try.prog w = .ok (.func fn first cap) w := fun _ _ _ _ => rfl
  have H1 := Hd.mk (hst.alloc (.cells #[.bool false] 4))
  have HC := Hd.mk hcall
  clear hst hcall
  go_enter_defers Try.func32, Try.ntmps32
  go_wp2_with (first | (go_at_call 33; refine (HC.out _ H1.out).mono ?_; rintro e w2 ⟨rfl, L', hR, hst2⟩; have HR := Hd.mk hR; have H2 := Hd.mk hst2; have c0 : w2.cell? ⟨w.heap.size, 0, none⟩ = some (.bool false) := hst2.cell 0; have f0 := hst2.free 0; clear hst2 hR))
  refine leaves_cons (f := 65) (args := #[.pointer (some ⟨w.heap.size, 0, none⟩)]) (by simp) (by simp [go_sem]) ?_
  refine (catch65_idle _ _).mono ?_
  rintro e u' w'' ⟨rfl, rfl, rfl⟩
  have h3 := H2.out.setCell (i := 0) (.bool false)
  have c3 : (w2.setCell ⟨w.heap.size, 0, none⟩ (.bool false)).cell? ⟨w.heap.size, 0, none⟩ = some (.bool false) := h3.cell 0
  refine ⟨.bool false, by simp [results, Try.results32, go_sem, c3], rfl, L', HR.out, h3.drop⟩

set_option maxRecDepth 8000 in
theorem fails33_bad (p q : Value) (W w : World) (L : List As) (R : List As → Prop) (hst : St W w L)
    (hcall : ∀ w1, St W w1 (Blk w.heap.size (.cells #[.bool false] 4 (0, 0)) :: L) → Calls Try.prog 33 #[p, q] w1 fun e w2 => (∃ older, e = .panicked (failE false :: older) ∧ ∀ q ∈ older, q.goexit = false) ∧ ∃ L', R L' ∧ St W w2 (Blk w.heap.size (.cells #[.bool false] 4 (0, 0)) :: L')) :
    Calls Try.prog 32 #[.func (Fn.func 33) #[] #[p, q]] w fun e w' => e = .returned (.bool true) ∧ ∃ L', R L' ∧ St W w' L' := by
  have hmf : ∀ (fn : Fn) (first cap : Array Value) (w : World), (Instr.makeFunc fn first cap).run Try.prog w = .ok (.func fn first cap) w := fun _ _ _ _ => rfl
  have H1 := Hd.mk (hst.alloc (.cells #[.bool false] 4))
  have HC := Hd.mk hcall
  clear hst hcall
  go_enter_defers Try.func32, Try.ntmps32
  go_wp2_with (first | (go_at_call 33; refine (HC.out _ H1.out).mono ?_; rintro e w2 ⟨⟨older, rfl, hold⟩, L', hR, hst2⟩; have HR := Hd.mk hR; have H2 := Hd.mk hst2; have HO := Hd.mk hold; clear hst2 hR hold))
  refine leaves_cons (f := 65) (args := #[.pointer (some ⟨w.heap.size, 0, none⟩)]) (by simp) (by simp [go_sem]) ?_
  refine (catch65_fail w.heap.size false W w2 L' older H2.out).mono ?_
  rintro e u' w'' ⟨rfl, rfl, hst3⟩
  have c3 : w''.cell? ⟨w.heap.size, 0, none⟩ = some (.bool true) := hst3.cell 0
  show Leaves _ _ _ _ [] (settle _) w''
  rw [settle_fail older HO.out]
  exact ⟨.bool true, by simp [results, Try.results32, go_sem, c3], rfl, L', HR.out, hst3.drop⟩

set_option maxRecDepth 8000 in
theorem fails35_ok (p q : Value) (W w : World) (L : List As) (R : List As → Prop) (hst : St W w L)
    (hcall : ∀ w1, St W w1 (Blk w.heap.size (.cells #[.bool false] 4 (0, 0)) :: L) → Calls Try.prog 35 #[p, q] w1 fun e w2 => e = .returned (.tuple #[]) ∧ ∃ L', R L' ∧ St W w2 (Blk w.heap.size (.cells #[.bool false] 4 (0, 0)) :: L')) :
    Calls Try.prog 32 #[.func (Fn.func 35) #[] #[p, q]] w fun e w' => e = .returned (.bool false) ∧ ∃ L', R L' ∧ St W w' L' := by
  have hmf : ∀ (fn : Fn) (first cap : Array Value) (w : World), (Instr.makeFunc fn first cap).run Try.prog w = .ok (.func fn first cap) w := fun _ _ _ _ => rfl
  have H1 := Hd.mk (hst.alloc (.cells #[.bool false] 4))
  have HC := Hd.mk hcall
  clear hst hcall
  go_enter_defers Try.func32, Try.ntmps32
  go_wp2_with (first | (go_at_call 35; refine (HC.out _ H1.out).mono ?_; rintro e w2 ⟨rfl, L', hR, hst2⟩; have HR := Hd.mk hR; have H2 := Hd.mk hst2; have c0 : w2.cell? ⟨w.heap.size, 0, none⟩ = some (.bool false) := hst2.cell 0; have f0 := hst2.free 0; clear hst2 hR))
  refine leaves_cons (f := 65) (args := #[.pointer (some ⟨w.heap.size, 0, none⟩)]) (by simp) (by simp [go_sem]) ?_
  refine (catch65_idle _ _).mono ?_
  rintro e u' w'' ⟨rfl, rfl, rfl⟩
  have h3 := H2.out.setCell (i := 0) (.bool false)
  have c3 : (w2.setCell ⟨w.heap.size, 0, none⟩ (.bool false)).cell? ⟨w.heap.size, 0, none⟩ = some (.bool false) := h3.cell 0
  refine ⟨.bool false, by simp [results, Try.results32, go_sem, c3], rfl, L', HR.out, h3.drop⟩

set_option maxRecDepth 8000 in
theorem fails35_bad (p q : Value) (W w : World) (L : List As) (R : List As → Prop) (hst : St W w L)
    (hcall : ∀ w1, St W w1 (Blk w.heap.size (.cells #[.bool false] 4 (0, 0)) :: L) → Calls Try.prog 35 #[p, q] w1 fun e w2 => (∃ older, e = .panicked (failE false :: older) ∧ ∀ q ∈ older, q.goexit = false) ∧ ∃ L', R L' ∧ St W w2 (Blk w.heap.size (.cells #[.bool false] 4 (0, 0)) :: L')) :
    Calls Try.prog 32 #[.func (Fn.func 35) #[] #[p, q]] w fun e w' => e = .returned (.bool true) ∧ ∃ L', R L' ∧ St W w' L' := by
  have hmf : ∀ (fn : Fn) (first cap : Array Value) (w : World), (Instr.makeFunc fn first cap).run Try.prog w = .ok (.func fn first cap) w := fun _ _ _ _ => rfl
  have H1 := Hd.mk (hst.alloc (.cells #[.bool false] 4))
  have HC := Hd.mk hcall
  clear hst hcall
  go_enter_defers Try.func32, Try.ntmps32
  go_wp2_with (first | (go_at_call 35; refine (HC.out _ H1.out).mono ?_; rintro e w2 ⟨⟨older, rfl, hold⟩, L', hR, hst2⟩; have HR := Hd.mk hR; have H2 := Hd.mk hst2; have HO := Hd.mk hold; clear hst2 hR hold))
  refine leaves_cons (f := 65) (args := #[.pointer (some ⟨w.heap.size, 0, none⟩)]) (by simp) (by simp [go_sem]) ?_
  refine (catch65_fail w.heap.size false W w2 L' older H2.out).mono ?_
  rintro e u' w'' ⟨rfl, rfl, hst3⟩
  have c3 : w''.cell? ⟨w.heap.size, 0, none⟩ = some (.bool true) := hst3.cell 0
  show Leaves _ _ _ _ [] (settle _) w''
  rw [settle_fail older HO.out]
  exact ⟨.bool true, by simp [results, Try.results32, go_sem, c3], rfl, L', HR.out, hst3.drop⟩
end Go.Proofs.Ytneibkemhmneoaa
