/- The library's sort at this program (the laying: plain text printed by the kit's own tool), and the contract of slices.SortFunc under the order of literals. -/
import Derived.Test.YtneibkemhmneoaaBl
import Derived.Shelf.SlSortCmp.NoneTotal
namespace Go.Proofs
open Go.Shelf
def Try.sortL_ren : Go.Shelf.Ren := ⟨fun | 6 => 45 | 15 => 70 | 14 => 69 | 28 => 92 | 29 => 93 | 20 => 84 | 21 => 85 | 22 => 86 | 23 => 87 | 24 => 88 | 25 => 89 | 26 => 90 | 27 => 91 | 46 => 98 | 47 => 99 | 48 => 100 | 49 => 101 | 50 => 102 | 57 => 103 | n => n, fun | 22 => 29 | 24 => 3 | 25 => 81 | 3 => 3 | 39 => 111 | 0 => 0 | 53 => 132 | 55 => 103 | 4 => 4 | 46 => 126 | 45 => 125 | 50 => 112 | 5 => 5 | 9 => 9 | 66 => 134 | 70 => 138 | 76 => 142 | 77 => 143 | n => n, fun | n => n⟩
theorem Try.sortL : Go.Proofs.SlLaysF.n6 Try.prog Try.sortL_ren := {
  mixed := by kernel_rfl
  f6 := ⟨Try.f45.name, by decide, Try.func45.trans (congrArg some (by kernel_rfl))⟩
  f14 := ⟨Try.f69.name, by decide, Try.func69.trans (congrArg some (by kernel_rfl))⟩
  f15 := Try.func70.trans (congrArg some (by kernel_rfl))
  f20 := ⟨Try.f84.name, by decide, Try.func84.trans (congrArg some (by kernel_rfl))⟩
  f21 := ⟨Try.f85.name, by decide, Try.func85.trans (congrArg some (by kernel_rfl))⟩
  f22 := ⟨Try.f86.name, by decide, Try.func86.trans (congrArg some (by kernel_rfl))⟩
  f23 := ⟨Try.f87.name, by decide, Try.func87.trans (congrArg some (by kernel_rfl))⟩
  f24 := ⟨Try.f88.name, by decide, Try.func88.trans (congrArg some (by kernel_rfl))⟩
  f25 := ⟨Try.f89.name, by decide, Try.func89.trans (congrArg some (by kernel_rfl))⟩
  f26 := ⟨Try.f90.name, by decide, Try.func90.trans (congrArg some (by kernel_rfl))⟩
  f27 := ⟨Try.f91.name, by decide, Try.func91.trans (congrArg some (by kernel_rfl))⟩
  f28 := Try.func92.trans (congrArg some (by kernel_rfl))
  f29 := Try.func93.trans (congrArg some (by kernel_rfl))
  f46 := ⟨Try.f98.name, by decide, Try.func98.trans (congrArg some (by kernel_rfl))⟩
  f47 := Try.func99.trans (congrArg some (by kernel_rfl))
  f48 := Try.func100.trans (congrArg some (by kernel_rfl))
  f49 := ⟨Try.f101.name, by decide, Try.func101.trans (congrArg some (by kernel_rfl))⟩
  f50 := ⟨Try.f102.name, by decide, Try.func102.trans (congrArg some (by kernel_rfl))⟩
  f57 := ⟨Try.f103.name, by decide, Try.func103.trans (congrArg some (by kernel_rfl))⟩
  t0 := Try.underlying0
  a0 := Try.isAgg0
  z0 := Try.sizeOf0
  v0 := Try.zeroValue0
  t3 := Try.underlying3
  a3 := Try.isAgg3
  z3 := Try.sizeOf3
  v3 := Try.zeroValue3
  t4 := Try.underlying4
  a4 := Try.isAgg4
  z4 := Try.sizeOf4
  v4 := Try.zeroValue4
  t5 := Try.underlying5
  a5 := Try.isAgg5
  z5 := Try.sizeOf5
  v5 := Try.zeroValue5
  t9 := Try.underlying9
  a9 := Try.isAgg9
  z9 := Try.sizeOf9
  v9 := Try.zeroValue9
  t22 := Try.underlying29
  a22 := Try.isAgg29
  z22 := Try.sizeOf29
  v22 := Try.zeroValue29
  a24 := Try.isAgg3
  z24 := Try.sizeOf3
  t25 := Try.underlying81
  a25 := Try.isAgg81
  z25 := Try.sizeOf81
  v25 := Try.zeroValue81
  t39 := Try.underlying111
  a39 := Try.isAgg111
  z39 := Try.sizeOf111
  v39 := Try.zeroValue111
  t45 := Try.underlying125
  a45 := Try.isAgg125
  z45 := Try.sizeOf125
  v45 := Try.zeroValue125
  t46 := Try.underlying126
  a46 := Try.isAgg126
  z46 := Try.sizeOf126
  v46 := Try.zeroValue126
  t50 := Try.underlying112
  a50 := Try.isAgg112
  z50 := Try.sizeOf112
  v50 := Try.zeroValue112
  t53 := Try.underlying132
  a53 := Try.isAgg132
  z53 := Try.sizeOf132
  v53 := Try.zeroValue132
  t55 := Try.underlying103
  a55 := Try.isAgg103
  z55 := Try.sizeOf103
  v55 := Try.zeroValue103
  t66 := Try.underlying134
  a66 := Try.isAgg134
  z66 := Try.sizeOf134
  v66 := Try.zeroValue134
  t70 := Try.underlying138
  a70 := Try.isAgg138
  z70 := Try.sizeOf138
  v70 := Try.zeroValue138
  t76 := Try.underlying142
  a76 := Try.isAgg142
  z76 := Try.sizeOf142
  v76 := Try.zeroValue142
  t77 := Try.underlying143
  a77 := Try.isAgg143
  z77 := Try.sizeOf143
  v77 := Try.zeroValue143 }
end Go.Proofs
namespace Go.Proofs.Ytneibkemhmneoaa
set_option linter.unusedVariables false
set_option linter.unusedSimpArgs false
open Go.RowKit Go.Shelf Go.Sort

/-- Numbers of 64 bits. -/
abbrev I64 : Type := { x : Int // In64 x }
instance : Inhabited I64 := ⟨⟨0, by unfold In64; omega⟩⟩
def encI (x : I64) : Value := .int .i64 x.1
def cfI (x y : I64) : Int := if lessB x.1 y.1 = true then -1 else 1
theorem ltI (x y : I64) : ltOf cfI x y = lessB x.1 y.1 := by
  unfold ltOf cfI
  cases h : lessB x.1 y.1 <;> simp
theorem lessB_ntrans {a b c : Int} (h1 : lessB a b = false) (h2 : lessB b c = false) : lessB a c = false := by
  have h1' : ¬ lessB a b = true := by simp [h1]
  have h2' : ¬ lessB b c = true := by simp [h2]
  cases h : lessB a c with
  | false => rfl
  | true => rw [lessB_iff] at *; omega
theorem swoI : SWO (ltOf cfI) where
  irrefl x := by rw [ltI]; exact lessB_irrefl _
  trans x y z h1 h2 := by rw [ltI] at *; exact lessB_trans h1 h2
  ntrans x y z h1 h2 := by rw [ltI] at *; exact lessB_ntrans h1 h2

theorem closure46 (x y : I64) (W : World) : Calls Try.prog 46 #[encI x, encI y] W fun e w' => e = .returned (.int .i64 (cfI x y)) ∧ w' = W := by
  unfold encI cfI
  cases hl : lessB x.1 y.1
  · have H := Hd.mk (less_is x.1 y.1 W x.2 y.2 false hl)
    clear hl
    simp only [Bool.false_eq_true, if_false]
    go_enter Try.func46, Try.ntmps46
    go_wp2_with (go_at_call 47; refine H.out.mono ?_; rintro e w' ⟨rfl, rfl⟩)
    go_ret
    exact ⟨rfl, rfl⟩
  · have H := Hd.mk (less_is x.1 y.1 W x.2 y.2 true hl)
    clear hl
    simp only [if_true]
    go_enter Try.func46, Try.ntmps46
    go_wp2_with (go_at_call 47; refine H.out.mono ?_; rintro e w' ⟨rfl, rfl⟩)
    go_ret
    exact ⟨rfl, rfl⟩

theorem St.slBlk {W w : World} {l : List As} {E : TypeId} {v : Value} {xs : List Value} (h : St W w (Sl E v xs :: l)) (hne : xs ≠ []) :
    ∃ b cap cur, v = .slice (some ⟨b, 0, none⟩) xs.length cap ∧ xs.length ≤ cap ∧ cap ≤ maxLen ∧ cur.size = cap ∧ cur.toList.take xs.length = xs ∧ St W w (Blk b (.cells cur E (0, 0)) :: l) := by
  obtain ⟨hh, ⟨g, k, p, s, d, x, y⟩, e⟩ := h.own
  rcases p with ⟨_, _, h1⟩ | ⟨b, cap, cur, he, hb, h1, h2, h3, h4⟩
  · exact absurd h1 hne
  · exact ⟨b, cap, cur, he, h1, h2, h3, h4, ⟨h.below, hh, ⟨g, k, hb, s, d, x, y⟩, e⟩⟩

theorem heap_sortWorld (w : World) (b m : Nat) (d : Array I64) (os : Array Obj) : (sortWorld encI w b 0 m d os).heap = w.heap.modify b (onCells (putCells encI 0 d)) ++ os := rfl

theorem putCells_take (d : Array I64) (cur : Array Value) (h : d.size ≤ cur.size) : (putCells encI 0 d cur).toList.take d.size = d.toList.map encI := by
  apply List.ext_getElem?
  intro k
  by_cases hk : k < d.size
  · simp [putCells, hk, show k < cur.size by omega, List.getElem?_take]
  · simp [hk, List.getElem?_take]

theorem St.sorted {W w : World} {l : List As} {b n cap : Nat} {zs : List Value} (h : St W w (Sl 3 (.slice (some ⟨b, 0, none⟩) n cap) zs :: l)) (hne : zs ≠ []) (m : Nat) (d : Array I64) (os : Array Obj) (hd : d.size = zs.length) :
    St W (sortWorld encI w b 0 m d os) (Sl 3 (.slice (some ⟨b, 0, none⟩) n cap) (d.toList.map encI) :: l) := by
  obtain ⟨b', cap', cur, he, h1, h2, h3, h4, hst⟩ := h.slBlk hne
  injection he with e1 e2 e3
  injection e1 with e1
  injection e1 with e1
  subst e1 e2 e3
  have hb := hst.blk
  have hlt := hst.blk_lt
  have hs : St W (sortWorld encI w b 0 m d os) (Blk b (.cells (putCells encI 0 d cur) 3 (0, 0)) :: l) := by
    refine hst.setBlk rfl rfl rfl (by rw [heap_sortWorld]; simp) ?_ (fun k hk hkb => ?_)
    · rw [heap_sortWorld, Array.getElem?_append_left (by simpa using hlt), Array.getElem?_modify]
      simp [hb, onCells]
    · rw [heap_sortWorld, Array.getElem?_append_left (by simpa using hk), Array.getElem?_modify]
      simp [Ne.symm hkb]
  have := hs.sl_of_blk (cap := cap) (xs := d.toList.map encI) (by simp; omega) h2 (by simp [putCells]; exact h3) (by
    have := putCells_take d cur (by omega)
    simpa using this)
  simpa [hd] using this

/-- slices.SortFunc under the order of literals. -/
theorem sortFunc_any (v : Value) (zs : List Int) (W w : World) (l : List As) (hst : St W w (Sl 3 v (ints zs) :: l)) (hz : ∀ x ∈ zs, In64 x) (hl : zs.length ≤ 1000000000) (hnd : zs.Nodup) :
    Calls Try.prog 45 #[v, .func (.func 46) #[] #[]] w fun e w' => e = .returned (.tuple #[]) ∧ ∃ ys, ys.Perm zs ∧ SortedL ys ∧ St W w' (Sl 3 v (ints ys) :: l) := by
  by_cases hne : zs = []
  · subst hne
    obtain ⟨g, p, _⟩ := hst.get
    obtain ⟨p0, cap, rfl⟩ : ∃ p0 cap, v = .slice p0 0 cap := by
      rcases p with ⟨ao, rfl, _⟩ | ⟨b, cap, cur, rfl, _⟩
      · exact ⟨_, _, rfl⟩
      · exact ⟨_, _, rfl⟩
    have hS := AnyF.slices_SortFunc_none (P := Try.prog) (ρ := Try.sortL_ren) { Try.sortL with } p0 cap (.func (.func 46) #[] #[]) w
    exact hS.mono fun e w' ⟨he, hw⟩ => ⟨he, [], .refl _, List.Pairwise.nil, by rw [hw]; exact hst⟩
  · have hne2 : ints zs ≠ [] := by intro e; exact hne (by simpa [ints] using e)
    obtain ⟨b, cap, cur, rfl, h1, h2, h3, h4, hblk⟩ := hst.slBlk hne2
    have eg : ∀ args w, (callFunc 46 args).run Try.prog w = .ok (.enter 46 args) w := enters_of Try.func46 (by kernel_rfl) rfl
    obtain ⟨d, hd⟩ : ∃ d : Array I64, d.toList.map (fun z : I64 => z.1) = zs := ⟨(zs.attach.map (fun z => (⟨z.1, hz z.1 z.2⟩ : I64))).toArray, by
      show List.map (fun z : I64 => z.1) (List.map (fun z : { x // x ∈ zs } => (⟨z.1, hz z.1 z.2⟩ : I64)) zs.attach) = zs
      rw [List.map_map]
      exact List.attach_map_subtype_val zs⟩
    have hsz : d.size = zs.length := by rw [← hd]; simp
    have hlen : (ints zs).length = zs.length := by simp [ints]
    have hH : Holds encI w b 0 d := by
      intro j hj
      obtain ⟨hc, hf⟩ := hst.slCells hne2
      refine ⟨?_, by simpa using hf (0 + j)⟩
      have hj2 : j < zs.length := by omega
      have e2 : encI d[j]! = .int .i64 zs[j] := by
        rw [getElem!_pos d j hj]
        have : (d.toList.map (fun z : I64 => z.1))[j]? = zs[j]? := by rw [hd]
        simp [hj, hj2] at this
        simp [encI, this]
      rw [e2]
      simpa using hc j (.int .i64 zs[j]) (by simp [ints, hj2])
    have hS := Any.slices_SortFunc Try.sortL encI (fun _ => rfl) cfI swoI 46 #[] b 0 cap d w eg (CmpReads.lays fun m os dk hk x y => (closure46 x y _).mono fun e w' ⟨he, hw⟩ => ⟨he, 0, hw⟩) hH hblk.blk_lt (by omega)
    rw [hlen]
    rw [hsz] at hS
    refine hS.mono fun e w' ⟨he, d', m, os, hp, hs, hw⟩ => ⟨he, d'.toList.map (fun z : I64 => z.1), ?_, ?_, ?_⟩
    · have h5 := hp.2.2
      rw [← hsz] at h5
      have e1 : d.extract 0 d.size = d := by simp
      have e2 : d'.extract 0 d.size = d' := by rw [← hp.1]; simp
      rw [e1, e2] at h5
      rw [← hd]
      exact h5.map _
    · have h5 := hp.2.2
      rw [← hsz] at h5
      have e1 : d.extract 0 d.size = d := by simp
      have e2 : d'.extract 0 d.size = d' := by rw [← hp.1]; simp
      rw [e1, e2] at h5
      have hnd2 : (d'.toList.map (fun z : I64 => z.1)).Nodup := (hd ▸ h5.map (fun z : I64 => z.1)).symm.nodup hnd
      refine List.pairwise_iff_getElem.2 fun i j hi hj hij => ?_
      have hi2 : i < d'.size := by simpa using hi
      have hj2 : j < d'.size := by simpa using hj
      have h6 := hs i j (Nat.zero_le _) hij (by have := hp.1; omega)
      rw [ltI, getElem!_pos d' i hi2, getElem!_pos d' j hj2] at h6
      simp only [List.getElem_map, Array.getElem_toList]
      cases h7 : lessB d'[i].1 d'[j].1 with
      | true => rfl
      | false =>
        have h8 := lessB_tri h7 h6
        have h9 := (List.getElem_inj hnd2 (i := i) (j := j) (h₀ := hi) (h₁ := hj)).1 (by simpa using h8)
        omega
    · rw [hw]
      have h6 := hst.sorted hne2 m d' os (by rw [hlen, ← hsz]; exact hp.1)
      rw [hlen] at h6
      have e3 : d'.toList.map encI = ints (d'.toList.map (fun z : I64 => z.1)) := by simp [ints, encI, Function.comp_def]
      rw [← e3]
      exact h6
end Go.Proofs.Ytneibkemhmneoaa
