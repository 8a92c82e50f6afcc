/- The deeds that are handed in: from the machine's memory. -/
import Derived.Test.YtdafdampodbobaaSeatPlayed
import Derived.Test.YtdafdampodbobaaSeatTab
import Derived.Test.YtdafdampodbobaaSeatTabs
import Derived.Deep.Slices
namespace Go.Proofs.Ytdafdampodbobaa
set_option linter.unusedSimpArgs false
set_option linter.unusedVariables false
open Go.ChangeShapes Go.WideShapes Go.ChangeAt Go.RowKit Go.Eng

theorem Try.cells3 : Try.prog.cellsOf 3 = 1 := by kernel_rfl
theorem Try.cells4 : Try.prog.cellsOf 4 = 1 := by kernel_rfl
theorem Try.cells44 : Try.prog.cellsOf 44 = 4 := by kernel_rfl

theorem deed_cells {H : Type} {enc : TypeId × Value → H} {W : World} {base n : Nat} {sp : Nat → Bool} {held : Bool} {cs : List Value} {x : DataW H × List MemPlace} (h : DataW.trod enc Try.prog W base sp held n 44 cs = some x) : ∃ d : Deed, cs = d.cells := by
  obtain ⟨xs, k, _, _, hl, hxl, hf⟩ := DataW.trod_struct Try.underlying44 h
  rw [Try.cells44] at hl
  match cs, hl, xs, hxl with
  | [v0, v1, v2, v3], _, [y0, y1, y2, y3], _ =>
    have g0 := hf 0 _ rfl
    have g1 := hf 1 _ rfl
    have g2 := hf 2 _ rfl
    have g3 := hf 3 _ rfl
    simp only [Try.cells3, Try.cells4, List.drop_zero, List.drop_succ_cons, List.take_succ_cons, List.take_zero, List.getElem?_cons_zero, List.getElem?_cons_succ] at g0 g1 g2 g3
    obtain ⟨n0, h0, _⟩ := DataW.trod_int Try.underlying3 g0
    obtain ⟨n1, h1, _⟩ := DataW.trod_int Try.underlying3 g1
    obtain ⟨n2, h2, _⟩ := DataW.trod_int Try.underlying3 g2
    obtain ⟨b3, h3, _⟩ := DataW.trod_bool Try.underlying4 g3
    cases h0
    cases h1
    cases h2
    cases h3
    exact ⟨⟨n0, n1, n2, b3⟩, rfl⟩

/-- A heap with one block that may not be written. -/
def lent (c : List Value) : Hp := ⟨T.leaf.set 0 (.cells c 4 false), 1, []⟩
def lentRho (p : Pl) : Rho := fun b => if b = 0 then some p else none

theorem lent_rel {W : World} {c : List Value} {p : Pl} (hb : p.blk < W.heap.size) (hl : Live (· < W.heap.size) (lentRho p) c 4 false p W) : HRel (· < W.heap.size) W (lentRho p) (lent c) W := by
  have hr : ∀ b q, lentRho p b = some q → b = 0 ∧ q = p := fun b q h => by
    unfold lentRho at h
    split at h
    · cases h; exact ⟨by assumption, rfl⟩
    · cases h
  have hg : ∀ b, (lent c).t.get b = if b = 0 then some (.cells c 4 false) else none := fun b => by
    unfold lent
    simp only
    rw [T.get_set]
    split
    · rfl
    · exact T.get_leaf b
  refine ⟨⟨rfl, rfl, rfl, Nat.le_refl _, fun _ _ => rfl⟩, fun _ h => h, fun b q h => ?_, fun b h => ?_, fun b c' sz own q h1 h2 => ?_, fun b b' c1 sz1 c2 sz2 own q q' hne h1 h2 r1 r2 => ?_⟩
  · obtain ⟨rfl, rfl⟩ := hr b q h
    exact ⟨Nat.lt_succ_self 0, hb⟩
  · rw [hg, if_neg]
    rintro rfl
    exact absurd h (Nat.not_succ_le_self 0)
  · obtain ⟨rfl, rfl⟩ := hr b q h2
    rw [hg, if_pos rfl] at h1
    cases h1
    exact hl
  · obtain ⟨rfl, rfl⟩ := hr b q r1
    obtain ⟨rfl, rfl⟩ := hr b' q' r2
    exact absurd rfl hne

instance : Inhabited Deed := ⟨⟨0, 0, 0, false⟩⟩

theorem deedCells_len (l : List Deed) : (deedCells l).length = l.length * 4 := by
  induction l with
  | nil => rfl
  | cons x l ih => rw [show deedCells (x :: l) = x.cells ++ deedCells l by simp [deedCells], List.length_append, ih, List.length_cons]; simp [Deed.cells]; omega

theorem deedCells_get (ds : List Deed) (i : Nat) (v : Value) (h : (deedCells ds)[i]? = some v) : ∃ d, ds[i / 4]? = some d ∧ d.cells[i % 4]? = some v := by
  have hi := (List.getElem?_eq_some_iff.1 h).1
  rw [deedCells_len] at hi
  have hq : i / 4 < ds.length := by omega
  have hd := List.getElem?_eq_getElem hq
  refine ⟨ds[i / 4], hd, ?_⟩
  obtain ⟨q1, _⟩ := deedCells_at ds (i / 4) _ hd
  rw [← q1, List.getElem?_take, if_pos (by omega), List.getElem?_drop, show i / 4 * 4 + i % 4 = i by omega]
  exact h

theorem deed_rel {ρ : Rho} {d : Deed} {j : Nat} {v : Value} (h : d.cells[j]? = some v) : VRel ρ v v := by
  match j with
  | 0 => cases h; exact .int _ _
  | 1 => cases h; exact .int _ _
  | 2 => cases h; exact .int _ _
  | 3 => cases h; exact .bool _
  | j + 4 => simp [Deed.cells] at h

theorem deeds_open {H : Type} {enc : TypeId × Value → H} {W : World} {base : Nat} {v : Value} {d : DataW H} {ps : List MemPlace} (hval : Value.okWide Try.prog W .any base 22 v) (hd : DataW.Trod enc Try.prog W 0 (fun _ => true) true 22 v d ps) :
    ∃ (ds : List Deed) (av : Value) (h : Hp) (ρ : Rho), ArgAt h av ds ∧ h.fz = [] ∧ HRel (· < W.heap.size) W ρ h W ∧ VRel ρ av v := by
  obtain ⟨a0, len, cap, rfl⟩ := okWide_slice Try.underlying22 hval
  obtain ⟨fuel, hf⟩ := hd
  rcases Deep.open_slice Try.underlying22 hf with ⟨hc, _⟩ | ⟨a, len', cap', m, n, D, Pl', hc, _, hle, _, hm, _, hx⟩
  · cases hc
    exact ⟨[], _, ⟨.leaf, 0, []⟩, fun _ => none, .inl ⟨rfl, rfl⟩, rfl, rel_start W 0, .nils⟩
  · cases hc
    obtain ⟨hle', _, hhas⟩ : len ≤ cap ∧ (cap : Int) ≤ IntKind.i64.max ∧ W.has Try.prog .any base a 44 cap := by
      simp only [Value.okWide, Try.underlying22, Cell.okWide, Cell.ok] at hval
      exact hval
    obtain ⟨_, hsp, row, cells, hsh, _⟩ := hhas
    obtain ⟨blk, off, spot⟩ := a
    simp only at hsp
    subst hsp
    have hblk : ∃ C el fr, W.heap[blk]? = some (.cells C el fr) := by
      simp only [World.shape?] at hsh
      split at hsh
      · rename_i c el fr hg
        exact ⟨c, el, fr, hg⟩
      · cases hsh
    obtain ⟨C, el, fr, hC⟩ := hblk
    have hbs : blk < W.heap.size := (Array.getElem?_eq_some_iff.1 hC).1
    have hm' : m = cap := by rw [hm]; rfl
    subst hm'
    -- each deed
    have each : ∀ i, i < m → ∃ d : Deed, ∀ j v, d.cells[j]? = some v → C[off + (i * 4 + j)]? = some v := by
      intro i hi
      obtain ⟨cs', h1, h2⟩ := hx i hi
      rw [Try.cells44] at h1
      obtain ⟨d, rfl⟩ := deed_cells h2
      obtain ⟨_, _, hcell⟩ := World.cells?_some h1
      refine ⟨d, fun j v hj => ?_⟩
      have hj4 : j < 4 := (List.getElem?_eq_some_iff.1 hj).1
      have := hcell j hj4
      rw [Deep.add_add, add_plain, hj] at this
      simp only [World.cell?, hC] at this
      simpa using this
    obtain ⟨f, hf'⟩ := Deep.choose_lt (α := Deed) (p := fun i d => ∀ j v, d.cells[j]? = some v → C[off + (i * 4 + j)]? = some v) each
    by_cases hm0 : m = 0
    · subst hm0
      obtain rfl : len = 0 := by omega
      refine ⟨[], sl 0 0 0 1, lent [], lentRho ⟨blk, 0, 0, 0, 4⟩, .inr ⟨0, 1, rfl, Nat.lt_succ_self 0, by unfold lent; simp only; rw [T.get_set_self]; rfl⟩, rfl, lent_rel hbs ⟨rfl, rfl, ⟨C, el, fr, hC, by simp, fun i v hv => by simp at hv, fun h => by cases h⟩, fun h => by cases h⟩, ?_⟩
      refine .slice 0 0 0 1 _ _ 0 rfl ⟨Nat.le_refl _, by simp, (fun h => by cases h), fun k hk => ?_, .inr (.inl rfl)⟩
      obtain rfl : k = 0 := by omega
      exact ⟨rfl, by simp⟩
    · have hlast : off + m * 4 ≤ C.size := by
        obtain ⟨d, hd⟩ := each (m - 1) (by omega)
        have := (Array.getElem?_eq_some_iff.1 (hd 3 _ rfl)).1
        omega
      -- the list of deeds
      have hds : ∃ ds : List Deed, ds.length = len ∧ ∀ i d, ds[i]? = some d → ∀ j v, d.cells[j]? = some v → C[off + (i * 4 + j)]? = some v := by
        refine ⟨(List.range len).map f, by simp, fun i d hi => ?_⟩
        rw [List.getElem?_map] at hi
        have hil : i < len := by
          by_cases h : i < len
          · exact h
          · rw [List.getElem?_eq_none (by simp; omega)] at hi; cases hi
        rw [List.getElem?_range hil] at hi
        cases hi
        exact hf' i (by omega)
      obtain ⟨ds, hdl, hdc⟩ := hds
      refine ⟨ds, sl 0 0 len 0, lent (deedCells ds), lentRho ⟨blk, off, len * 4, m * 4, 4⟩, .inr ⟨0, 0, by rw [hdl], Nat.lt_succ_self 0, by unfold lent; simp only; rw [T.get_set_self]⟩, rfl, lent_rel hbs ⟨rfl, ?_, ⟨C, el, fr, hC, by simp only; omega, fun i v hv => ?_, fun h => by cases h⟩, fun h => by cases h⟩, ?_⟩
      · rw [deedCells_len, hdl]
      · obtain ⟨d, h1, h2⟩ := deedCells_get ds i v hv
        refine ⟨v, ?_, deed_rel h2⟩
        have := hdc _ _ h1 _ _ h2
        rw [show i / 4 * 4 + i % 4 = i by omega] at this
        exact this
      · exact .slice 0 0 len 0 _ _ m rfl ⟨hle', by simp, fun _ => ⟨by simp only; omega, by simp only; omega⟩, (fun k hk => by cases hk), .inl rfl⟩
/-- From the rules to the machine: a law of a screen and deeds. -/
theorem law_any {f : FuncId} {r c : Int} {v : Value} {W : World} {base : Nat} {H : Type} {enc : TypeId × Value → H} {d : DataW H} {ps : List MemPlace}
    (hlaw : ∀ (h : Hp) (av : Value) (ds : List Deed), FzLt h → ArgAt h av ds → Eng.Call tab known f [i64 r, i64 c, av] h fun x _ => x = .bool true)
    (hval : Value.okWide Try.prog W .any base 22 v) (hd : DataW.Trod enc Try.prog W 0 (fun _ => true) true 22 v d ps) :
    Calls Try.prog f #[.int .i64 r, .int .i64 c, v] W fun e W' => e = .returned (.bool true) ∧ Below W.heap.size W W' := by
  obtain ⟨ds, av, h, ρ, ha, hfz, hR, hv⟩ := deeds_open hval hd
  obtain ⟨m, x, h', h1, rfl⟩ := (hlaw h av ds (fun b hb => by rw [hfz] at hb; cases hb) ha).out
  exact calls_below known_sound ρ h1 hR (LRel.cons (.int _ _) (LRel.cons (.int _ _) (LRel.cons hv .nil))) rfl

end Go.Proofs.Ytdafdampodbobaa
