/- Words of this claim: an owned map with int keys ('Mp'): which value stands at which key. They speak of no function of the program. -/
import Derived.Test.YtneibkemhmneoaaSt
import Derived.Maps.OwnSet
import Derived.Maps.Ext
namespace Go.Proofs.Ytneibkemhmneoaa
set_option linter.unusedVariables false
set_option linter.unusedSimpArgs false
open Go.RowKit
open Go.ChangeMaps Go.MapKept
open Go.WideElems (Fit rd rg pl rd_val rg_of rd_key)
open Go.Maps (Keyed int_keyed keyOf_int_mk)

/-- A map's element reads as itself. -/
def exR : Value → Option (DataW Value × List MemPlace) := fun v => some (.held v, [])

def mapD (P : Program) (es : Array MapEntry) : DataW Value := .map ((es.toList.map (rg P 3 exR)).foldr DataW.insert [])

/-- Block b is a map[int]E that holds f. -/
def Mp (P : Program) (b : Nat) (f : Int → Option Value) : As := fun g =>
  ∃ es clock, g b = some (.map es clock) ∧ Fit P 3 exR es clock ∧ (∀ x z, (mapD P es).atKey (.int .i64 x) (.held z) = .held ((f x).getD z)) ∧ (∀ x, Maps.has (mapD P es) (.int .i64 x) = (f x).isSome)

section
variable {P : Program} {W w : World} {l : List As} {b : Nat} {f : Int → Option Value}

theorem int_wf {x : Int} (h1 : -9223372036854775808 ≤ x) (h2 : x ≤ 9223372036854775807) : (Lit.int .i64 x).wf = true := by
  simp only [Lit.wf, IntKind.min, IntKind.max, IntKind.signed, IntKind.bits, Bool.and_eq_true, decide_eq_true_eq, if_true]
  omega

theorem mapD_isMap (es : Array MapEntry) : Maps.IsMap (mapD P es) := ⟨_, rfl⟩

theorem St.look {z : Value} {t E : TypeId} (h : St W w (Mp P b f :: l)) (h3 : P.underlying 3 = some (.int .i64)) (ht : P.underlying t = some (.map 3 E)) (hz : (zeroValue E).run P w = .ok z w)
    {x : Int} (h1 : -9223372036854775808 ≤ x) (h2 : x ≤ 9223372036854775807) : (Instr.lookup t (.map (some b)) (.int .i64 x) false).run P w = .ok ((f x).getD z) w := by
  obtain ⟨g, ⟨es, clock, hb, F, hat, _⟩, e⟩ := h.get
  have hk := keyOf_int_mk h3 (int_wf h1 h2)
  rcases Maps.fit_look false (int_keyed h3) ht hz (e b _ hb).2 F hk with ⟨hr, _, h0⟩ | ⟨e0, y, _, _, hr, hy, h0, _⟩
  · have := (h0 (.held z)).symm.trans (hat x z)
    injection this with this
    rw [← this]
    exact hr
  · have := (h0 (.held z)).symm.trans (hat x z)
    simp only [exR, Option.some.injEq] at hy
    subst hy
    injection this with this
    rw [← this]
    exact hr

/-- The keys: each once. -/
theorem Mp.keys {g : Hl} (h : Mp P b f g) (h3 : P.underlying 3 = some (.int .i64)) : ∃ (es : Array MapEntry) (clock : Nat) (ks : List Int), g b = some (.map es clock) ∧ Fit P 3 exR es clock ∧ ks.Nodup ∧ (∀ x : Int, x ∈ ks ↔ (f x).isSome = true) ∧ es.size = ks.length := by
  obtain ⟨es, clock, hb, F, hat, hhas⟩ := h
  let kx : MapEntry → Int := fun e => match e.key with | .int _ x => x | _ => 0
  have hkey : ∀ e ∈ es.toList, e.key = .int .i64 (kx e) ∧ (rg P 3 exR e).1 = .int .i64 (kx e) := by
    intro e he
    obtain ⟨y, hy⟩ := F.reads e he
    have h1 := rd_key hy
    rw [rg_of hy]
    simp only [keyOf, h3, mapKey] at h1
    cases hek : e.key <;> rw [hek] at h1 <;> simp at h1
    obtain ⟨⟨rfl, _⟩, h2⟩ := h1
    exact ⟨by simp [kx, hek], by rw [← h2]; simp [kx, hek]⟩
  refine ⟨es, clock, es.toList.map kx, hb, F, ?_, ?_, by simp⟩
  · have hn := Maps.fit_apart (int_keyed h3) F
    rw [List.pairwise_map] at hn
    rw [List.Nodup, List.pairwise_map]
    refine List.Pairwise.imp_of_mem ?_ hn
    intro x y hx hy hne heq
    exact hne (by rw [(hkey x hx).2, (hkey y hy).2, heq])
  · intro x
    rw [← hhas x]
    simp only [mapD, Maps.has, List.any_eq_true]
    constructor
    · intro hx
      obtain ⟨e, he, rfl⟩ := List.mem_map.1 hx
      refine ⟨rg P 3 exR e, mem_sorted.2 (List.mem_map.2 ⟨e, he, rfl⟩), ?_⟩
      rw [(hkey e he).2]
      simp [Lit.sameKey]
    · rintro ⟨p, hp, hs⟩
      obtain ⟨e, he, rfl⟩ := List.mem_map.1 (mem_sorted.1 hp)
      rw [(hkey e he).2] at hs
      simp [Lit.sameKey] at hs
      exact List.mem_map.2 ⟨e, he, hs⟩

theorem St.store {E t : TypeId} (h : St W w (Mp P b f :: l)) (h3 : P.underlying 3 = some (.int .i64)) (ht : P.underlying t = some (.map 3 E)) {x : Int} (h1 : -9223372036854775808 ≤ x) (h2 : x ≤ 9223372036854775807)
    (hroom : ∀ ks : List Int, ks.Nodup → (∀ y ∈ ks, (f y).isSome = true) → ks.length < maxLen) (v : Value) :
    ∃ w', (Instr.mapUpdate t (.map (some b)) (.int .i64 x) v).run P w = .ok () w' ∧ St W w' (Mp P b (fun y => if y = x then some v else f y) :: l) := by
  obtain ⟨g, hm, e⟩ := h.get
  obtain ⟨es0, clock0, ks, hb0, _, hnd, hks, hsz⟩ := hm.keys h3
  obtain ⟨es, clock, hb, F, hat, hhas⟩ := hm
  rw [hb] at hb0
  obtain ⟨rfl, rfl⟩ : es = es0 ∧ clock = clock0 := by cases hb0; exact ⟨rfl, rfl⟩
  have hk := keyOf_int_mk h3 (int_wf h1 h2)
  obtain ⟨es', clock', hrun, F', hput, _⟩ := Maps.fit_store (R' := exR) (int_keyed h3) ht (e b _ hb).2 F (by rw [hsz]; exact hroom ks hnd (fun y hy => (hks y).1 hy)) (fun _ _ _ _ hz => hz) hk (val := v) rfl
  have hD : mapD P es' = (mapD P es).put (.int .i64 x) (.held v) := by unfold mapD; rw [hput, DataW.put_eq]
  refine ⟨_, hrun, ?_⟩
  refine h.update rfl rfl rfl (by simp [setBlock]) (fun g1 p1 e1 => ⟨fun k => if k = b then some (.map es' clock') else none, ⟨es', clock', by simp, F', ?_, ?_⟩, fun k o hk' => ?_, fun k hk' hg => ?_⟩)
  · intro y z
    rw [hD]
    by_cases hy : y = x
    · subst hy
      rw [Maps.atKey_put_same (mapD_isMap es) ((int_keyed h3).key hk)]
      simp
    · rw [Maps.atKey_put_other (by simpa using hy), hat]
      simp [hy]
  · intro y
    rw [hD]
    by_cases hy : y = x
    · subst hy
      rw [Maps.has_put_same (mapD_isMap es) ((int_keyed h3).key hk)]
      simp
    · rw [Maps.has_put_other (by simpa using hy), hhas]
      simp [hy]
  · simp only at hk'
    split at hk'
    · rename_i hkb
      cases hk'
      subst hkb
      obtain ⟨es1, clock1, hb1, _⟩ := p1
      exact ⟨heap_setBlock_same (e1 k _ hb1).2 _, .inl (by rw [hb1]; simp)⟩
    · cases hk'
  · obtain ⟨es1, clock1, hb1, _⟩ := p1
    exact heap_setBlock_other (e1 b _ hb1).2 _ (fun ek => by rw [ek, hb1] at hg; cases hg)

theorem St.del {E t ty : TypeId} (h : St W w (Mp P b f :: l)) (h3 : P.underlying 3 = some (.int .i64)) (ht : P.underlying t = some (.map 3 E)) {x : Int} (h1 : -9223372036854775808 ≤ x) (h2 : x ≤ 9223372036854775807) :
    ∃ w', (Builtin.delete_ #[t, 3] ty #[.map (some b), .int .i64 x]).run P w = .ok (.tuple #[]) w' ∧ St W w' (Mp P b (fun y => if y = x then none else f y) :: l) := by
  obtain ⟨g, ⟨es, clock, hb, F, hat, hhas⟩, e⟩ := h.get
  have hk := keyOf_int_mk h3 (int_wf h1 h2)
  obtain ⟨es', hrun, F', _, hdel, _⟩ := Maps.fit_drop (ty := ty) (int_keyed h3) ht (e b _ hb).2 F hk
  have hD : mapD P es' = (mapD P es).del (.int .i64 x) := by unfold mapD; rw [hdel, DataW.del_eq]
  refine ⟨_, hrun, ?_⟩
  refine h.update rfl rfl rfl (by simp [setBlock]) (fun g1 p1 e1 => ⟨fun k => if k = b then some (.map es' clock) else none, ⟨es', clock, by simp, F', ?_, ?_⟩, fun k o hk' => ?_, fun k hk' hg => ?_⟩)
  · intro y z
    rw [hD]
    by_cases hy : y = x
    · subst hy
      rw [Maps.atKey_del_same]
      simp
    · rw [Maps.atKey_del_other (by simpa using hy), hat]
      simp [hy]
  · intro y
    rw [hD]
    by_cases hy : y = x
    · subst hy
      rw [Maps.has_del_same]
      simp
    · rw [Maps.has_del_other (by simpa using hy), hhas]
      simp [hy]
  · simp only at hk'
    split at hk'
    · rename_i hkb
      cases hk'
      subst hkb
      obtain ⟨es1, clock1, hb1, _⟩ := p1
      exact ⟨heap_setBlock_same (e1 k _ hb1).2 _, .inl (by rw [hb1]; simp)⟩
    · cases hk'
  · obtain ⟨es1, clock1, hb1, _⟩ := p1
    exact heap_setBlock_other (e1 b _ hb1).2 _ (fun ek => by rw [ek, hb1] at hg; cases hg)

theorem St.mlen {E t : TypeId} (h : St W w (Mp P b f :: l)) (h3 : P.underlying 3 = some (.int .i64)) (ht : P.underlying t = some (.map 3 E)) (ty : TypeId) :
    ∃ ks : List Int, ks.Nodup ∧ (∀ x : Int, x ∈ ks ↔ (f x).isSome = true) ∧ (Builtin.len_ #[t] ty #[.map (some b)]).run P w = .ok (.int .i64 ks.length) w := by
  obtain ⟨g, hm, e⟩ := h.get
  obtain ⟨es, clock, ks, hb, _, hnd, hks, hsz⟩ := hm.keys h3
  refine ⟨ks, hnd, hks, ?_⟩
  rw [← hsz]
  simp [Builtin.len_, run_underlying ht, MapKept.run_getObj_map (e b _ hb).2, goInt, Result.andThen]

theorem St.made (h : St W w (Blk b (.map #[] 0) :: l)) : St W w (Mp P b (fun _ => none) :: l) :=
  h.imp fun _ p => ⟨#[], 0, p, ⟨by simp, stamped_empty 0, by simp⟩, fun x z => by simp [mapD, DataW.atKey], fun x => by simp [mapD, Maps.has]⟩

end

theorem nodup_lt : ∀ (n : Nat) (l : List Nat), l.Nodup → (∀ x ∈ l, x < n) → l.length ≤ n
  | 0, l, _, h => by
    cases l with
    | nil => simp
    | cons a r => have := h a (by simp); omega
  | n + 1, l, hn, h => by
    by_cases hm : n ∈ l
    · have := nodup_lt n (l.erase n) (hn.erase n) (fun x hx => by
        have h1 := hn.mem_erase_iff.1 hx
        have := h x h1.2
        have := h1.1
        omega)
      rw [List.length_erase_of_mem hm] at this
      omega
    · have := nodup_lt n l hn (fun x hx => by
        have := h x hx
        have : x ≠ n := fun e => hm (e ▸ hx)
        omega)
      omega

/-- Keys in a range: there is room. -/
theorem nodup_range {N : Nat} {ks : List Int} (hn : ks.Nodup) (h : ∀ y ∈ ks, -(N : Int) ≤ y ∧ y ≤ N) : ks.length ≤ 2 * N + 1 := by
  have hm : (ks.map fun y : Int => (y + (N : Int)).toNat).Nodup := by
    rw [List.Nodup, List.pairwise_map]
    refine List.Pairwise.imp_of_mem ?_ hn
    intro a b ha hb hne he
    have := h a ha
    have := h b hb
    omega
  have := nodup_lt (2 * N + 1) _ hm (by
    intro a ha
    obtain ⟨y, hy, rfl⟩ := List.mem_map.1 ha
    have := h y hy
    omega)
  simpa using this

section
variable {P : Program} {W w : World} {l : List As} {b : Nat} {f : Int → Option Value} {ops : Array Oper} {rest : List Oper} {o : Oper} {a : Act} {Q : Exit → Act → World → Prop}

theorem wpList_store_mp (hg : o.guard = none) (m k v : Operand) (t E : TypeId) (hop : o.op = Op.mapUpdate t m k v) (h3 : P.underlying 3 = some (.int .i64)) (ht : P.underlying t = some (.map 3 E)) (b : Nat) (f : Int → Option Value) (l : List As) (x : Int) (u : Value)
    (hm : a.eval m = .map (some b)) (hk : a.eval k = .int .i64 x) (hv : a.eval v = u) (h : St W w (Mp P b f :: l)) (h1 : -9223372036854775808 ≤ x) (h2 : x ≤ 9223372036854775807)
    (hroom : ∀ ks : List Int, ks.Nodup → (∀ y ∈ ks, (f y).isSome = true) → ks.length < maxLen)
    (hK : ∀ w', St W w' (Mp P b (fun y => if y = x then some u else f y) :: l) → wpList P ops Q rest (a.put o.dst undef) w') : wpList P ops Q (o :: rest) a w := by
  refine wpList_plain hg fun K hK' => ?_
  obtain ⟨w', hrun, r⟩ := h.store h3 ht h1 h2 hroom u
  unfold Oper.wp
  simp [execOp, hop, hm, hk, hv, hrun, Result.andThen]
  exact hK' _ _ (hK w' r)

theorem wpList_del_mp (hg : o.guard = none) (m k : Operand) (t E : TypeId) (hop : o.op = Op.call { callee := Callee.builtin Builtin.delete, args := #[m, k], argTypes := #[t, 3] }) (h3 : P.underlying 3 = some (.int .i64)) (ht : P.underlying t = some (.map 3 E)) (b : Nat) (f : Int → Option Value) (l : List As) (x : Int)
    (hm : a.eval m = .map (some b)) (hk : a.eval k = .int .i64 x) (h : St W w (Mp P b f :: l)) (h1 : -9223372036854775808 ≤ x) (h2 : x ≤ 9223372036854775807)
    (hK : ∀ w', St W w' (Mp P b (fun y => if y = x then none else f y) :: l) → wpList P ops Q rest (a.put o.dst (.tuple #[])) w') : wpList P ops Q (o :: rest) a w := by
  refine wpList_plain hg fun K hK' => ?_
  obtain ⟨w', hrun, r⟩ := h.del (ty := o.type) h3 ht h1 h2
  unfold Oper.wp
  simp [execOp, hop, resolve, invoke, builtin, hm, hk, hrun, Result.andThen]
  exact hK' _ _ (hK w' r)

end

end Go.Proofs.Ytneibkemhmneoaa
