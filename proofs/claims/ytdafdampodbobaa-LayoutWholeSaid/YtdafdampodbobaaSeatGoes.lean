/- The law of going on: what it walks through. -/
import Derived.Test.YtdafdampodbobaaSeatPlayed
namespace Go.Eng
set_option linter.unusedSimpArgs false
set_option linter.unusedVariables false

theorem winsOf_ids (l : List Wn) : (winsOf l).map Wn.id = l.map Wn.id := by
  unfold winsOf
  split
  · rw [List.map_map]
    rfl
  · rfl
theorem winsOf_len (l : List Wn) : (winsOf l).length = l.length := by unfold winsOf; split <;> simp
theorem winsOf_idAt (l : List Wn) (i : Nat) : idAt (winsOf l) i = idAt l i := by
  by_cases hi : i < l.length
  · have h1 := idAt_ids (winsOf l) i (by rw [winsOf_len]; exact hi)
    have h2 := idAt_ids l i hi
    rw [winsOf_ids, h2] at h1
    exact (Option.some.inj h1).symm
  · unfold idAt
    rw [List.getElem?_eq_none (by rw [winsOf_len]; omega), List.getElem?_eq_none (by omega)]

theorem idAt_inj {S : LS} (hn : (ids S.tree).Nodup) {i j : Nat} (hi : i < (area S).length) (hj : j < (area S).length) (h : idAt (area S) i = idAt (area S) j) : i = j := by
  have h1 := idAt_ids (area S) i hi
  have h2 := idAt_ids (area S) j hj
  rw [area_ids] at h1 h2
  have hi' : i < (ids S.tree).length := (List.getElem?_eq_some_iff.1 h1).1
  have hj' : j < (ids S.tree).length := (List.getElem?_eq_some_iff.1 h2).1
  have he : (ids S.tree)[i] = (ids S.tree)[j] := by rw [(List.getElem?_eq_some_iff.1 h1).2, (List.getElem?_eq_some_iff.1 h2).2, h]
  have hp := List.pairwise_iff_getElem.1 hn
  rcases Nat.lt_trichotomy i j with hlt | heq | hgt
  · exact absurd he (hp i j hi' hj' hlt)
  · exact heq
  · exact absurd he.symm (hp j i hj' hi' hgt)

theorem idx_at {S : LS} (hn : (ids S.tree).Nodup) {j : Nat} (hj : j < (area S).length) : idxId (area S) (idAt (area S) j) = j := by
  obtain ⟨k, h1, h2, h3⟩ := idxId_in (idAt_mem hj)
  rw [h1, idAt_inj hn h2 hj h3]

theorem goI_mod {n : Nat} {a b : Int} (hn : 0 < n) (hn2 : n ≤ 1000) (h0 : 0 ≤ a) (h1 : a < n) : goI n a b = (a + b) % n := by
  rw [(go_same hn hn2 h0 h1).1]
  obtain ⟨r1, r2⟩ := tmod_range b n hn
  unfold rgoI
  have hb : b = n * b.tdiv n + b.tmod n := (Int.mul_tdiv_add_tmod b n).symm
  generalize b.tmod ↑n = c at *
  generalize b.tdiv ↑n = d at *
  have e1 : w64 (a + c) = a + c := w64_id (by omega) (by omega)
  have e2 : w64 (a + c + n) = a + c + n := w64_id (by omega) (by omega)
  rw [e1, e2, Int.tmod_eq_emod_of_nonneg (by omega), Int.add_emod_right, hb]
  rw [show a + (↑n * d + c) = (a + c) + ↑n * d by omega, Int.add_mul_emod_self_left]

/-- The one with number j is at hand. -/
def atS (S : LS) (j : Nat) : LS := { S with here := idAt (area S) j }

theorem atS_area (S : LS) (j : Nat) : area (atS S j) = area S := rfl

section
variable {k : Nat} {S : LS}
theorem Inv.atS (h : Inv k S) {j : Nat} (hj : j < (area S).length) : Inv k (atS S j) := h.here (idAt_mem hj)
theorem go_at (h : Inv k S) {j : Nat} (hj : j < (area S).length) {b : Int} {j' : Nat} (hb : ((j : Int) + b) % ((area S).length : Int) = j') : goS (atS S j) b = atS S j' := by
  have hl := h.alen
  have hle := h.le
  unfold goS
  rw [atS_area]
  show ({ S with here := _ } : LS) = { S with here := _ }
  rw [show (Eng.atS S j).here = idAt (area S) j from rfl, idx_at h.nd hj, goI_mod (by omega) (by omega) (by omega) (by omega), hb]
  rfl
theorem at_here (h : Inv k S) : ∃ j, j < (area S).length ∧ S = Eng.atS S j := by
  obtain ⟨j, _, h2, h3⟩ := idxId_in h.hr
  refine ⟨j, h2, ?_⟩
  unfold Eng.atS
  rw [h3]
end

theorem emod_nat (a n : Nat) : ((a : Int)) % (n : Int) = (a % n : Nat) := rfl
theorem tmod_nat (a n : Nat) : ((a : Int)).tmod n = (a % n : Nat) := by rw [Int.tmod_eq_emod_of_nonneg (by omega)]; rfl

section
variable {F : FuncId → Option SFunc} {G : FuncId → List Value → Option Value}

/-- The place of the one at hand is looked for. -/
structure KI (h : Hp) (bt rb : Nat) (l : List Wn) (at' : Int) (kk : Int) (i : Nat) (s : St) : Prop where
  e7 : s.e.get 7 = some (pt bt 0)
  e8 : s.e.get 8 = some (sl rb 0 l.length 0)
  e9 : s.e.get 9 = some (i64 at')
  e10 : s.e.get 10 = some (i64 kk)
  e11 : s.e.get 11 = some (i64 i)
  heap : s.h = h

theorem find_loop (TT : Tab F G) {h : Hp} {bt rb : Nat} {l : List Wn} {at' : Int} {own : Bool} {j : Nat} (hl : l.length ≤ 1000) (hg : h.t.get rb = some (.cells (wcells l) 5 own)) (hj : j < l.length) (hat : ∀ i, i < l.length → (idAt l i = at' ↔ i = j)) {Q : Flow → St → Prop} :
    ∀ (n i : Nat) (s : St), l.length = i + n → KI h bt rb l at' (if j < i then j else 0) i s → (∀ s', KI h bt rb l at' j l.length s' → Q (.exit 0) s') → Code F G (.loop b4_12) s Q := by
  intro n
  induction n with
  | zero =>
    intro i s hn I hq
    obtain rfl : i = l.length := by omega
    obtain ⟨e, h2⟩ := s
    obtain ⟨e7, e8, e9, e10, e11, rfl⟩ := I
    simp only at e7 e8 e9 e10 e11 hg
    rw [if_pos hj] at e10
    refine Code.loop (Code.seq (Code.seq (Code.ops ?_)))
    simp only [s4_8, ↓wP, wS, Nat.reduceEqDiff, reduceIte, Nat.reduceLeDiff, and_self, cond_true, cond_false, Nat.reduceAdd, Nat.reduceMul, e8, e11, Int.lt_irrefl, decide_false]
    refine Code.cond (t := false) (by simp only [↓wP, wS, Nat.reduceEqDiff, reduceIte, Nat.reduceLeDiff, and_self, cond_true, cond_false, Nat.reduceAdd, Nat.reduceMul]) (fun h => by cases h) (fun _ => Code.exit ?_)
    exact hq _ ⟨by simp only [↓wP, wS, Nat.reduceEqDiff, reduceIte, Nat.reduceLeDiff, and_self, cond_true, cond_false, Nat.reduceAdd, Nat.reduceMul, e7], by simp only [↓wP, wS, Nat.reduceEqDiff, reduceIte, Nat.reduceLeDiff, and_self, cond_true, cond_false, Nat.reduceAdd, Nat.reduceMul, e8], by simp only [↓wP, wS, Nat.reduceEqDiff, reduceIte, Nat.reduceLeDiff, and_self, cond_true, cond_false, Nat.reduceAdd, Nat.reduceMul, e9], by simp only [↓wP, wS, Nat.reduceEqDiff, reduceIte, Nat.reduceLeDiff, and_self, cond_true, cond_false, Nat.reduceAdd, Nat.reduceMul, e10], by simp only [↓wP, wS, Nat.reduceEqDiff, reduceIte, Nat.reduceLeDiff, and_self, cond_true, cond_false, Nat.reduceAdd, Nat.reduceMul, e11], rfl⟩
  | succ n ih =>
    intro i s hn I hq
    have hil : i < l.length := by omega
    obtain ⟨e, h2⟩ := s
    obtain ⟨e7, e8, e9, e10, e11, rfl⟩ := I
    simp only at e7 e8 e9 e10 e11 hg
    have hlt : (i : Int) < (l.length : Int) := by omega
    have h0i : (0 : Int) ≤ (i : Int) := by omega
    have hw2 : w64 ((i : Int) + 1) = i + 1 := w64_id (by omega) (by omega)
    have hr0 := rdT_id hg hil
    refine Code.loop (Code.seq (Code.seq (Code.ops ?_)))
    simp only [s4_8, ↓wP, wS, Nat.reduceEqDiff, reduceIte, Nat.reduceLeDiff, and_self, cond_true, cond_false, Nat.reduceAdd, Nat.reduceMul, e8, e11, hlt, decide_true]
    refine Code.cond (t := true) (by simp only [↓wP, wS, Nat.reduceEqDiff, reduceIte, Nat.reduceLeDiff, and_self, cond_true, cond_false, Nat.reduceAdd, Nat.reduceMul]) (fun _ => Code.skip ?_) (fun h => by cases h)
    refine Code.seq (Code.block (Code.seq (Code.ops ?_)))
    simp only [s4_9, ↓wP, wS, Nat.reduceEqDiff, reduceIte, Nat.reduceLeDiff, and_self, cond_true, cond_false, Nat.reduceAdd, Nat.reduceMul, e8, e9, e11, hlt, h0i, and_self, if_true, Int.toNat_natCast, Nat.add_zero, hr0]
    by_cases hid : i = j
    · have hida : idAt l i = at' := (hat i hil).2 hid
      refine Code.cond (t := true) (by simp only [↓wP, wS, Nat.reduceEqDiff, reduceIte, Nat.reduceLeDiff, and_self, cond_true, cond_false, Nat.reduceAdd, Nat.reduceMul, hida, decide_true]) (fun _ => Code.ops ?_) (fun h => by cases h)
      simp only [s4_10, ↓wP, wS, Nat.reduceEqDiff, reduceIte, Nat.reduceLeDiff, and_self, cond_true, cond_false, Nat.reduceAdd, Nat.reduceMul, e11]
      refine Code.ops ?_
      simp only [s4_11, ↓wP, wS, Nat.reduceEqDiff, reduceIte, Nat.reduceLeDiff, and_self, cond_true, cond_false, Nat.reduceAdd, Nat.reduceMul, e11, hw2]
      refine ih (i + 1) _ (by omega) ⟨by simp only [↓wP, wS, Nat.reduceEqDiff, reduceIte, Nat.reduceLeDiff, and_self, cond_true, cond_false, Nat.reduceAdd, Nat.reduceMul, e7], by simp only [↓wP, wS, Nat.reduceEqDiff, reduceIte, Nat.reduceLeDiff, and_self, cond_true, cond_false, Nat.reduceAdd, Nat.reduceMul, e8], by simp only [↓wP, wS, Nat.reduceEqDiff, reduceIte, Nat.reduceLeDiff, and_self, cond_true, cond_false, Nat.reduceAdd, Nat.reduceMul, e9], ?_, by simp only [↓wP, wS, Nat.reduceEqDiff, reduceIte, Nat.reduceLeDiff, and_self, cond_true, cond_false, Nat.reduceAdd, Nat.reduceMul]; rfl, rfl⟩ hq
      rw [if_pos (by omega), hid]
      simp only [↓wP, wS, Nat.reduceEqDiff, reduceIte, Nat.reduceLeDiff, and_self, cond_true, cond_false, Nat.reduceAdd, Nat.reduceMul]
    · have hida : ¬ idAt l i = at' := fun hx => hid ((hat i hil).1 hx)
      refine Code.cond (t := false) (by simp only [↓wP, wS, Nat.reduceEqDiff, reduceIte, Nat.reduceLeDiff, and_self, cond_true, cond_false, Nat.reduceAdd, Nat.reduceMul, hida, decide_false]) (fun h => by cases h) (fun _ => Code.skip ?_)
      refine Code.ops ?_
      simp only [s4_11, ↓wP, wS, Nat.reduceEqDiff, reduceIte, Nat.reduceLeDiff, and_self, cond_true, cond_false, Nat.reduceAdd, Nat.reduceMul, e11, hw2]
      refine ih (i + 1) _ (by omega) ⟨by simp only [↓wP, wS, Nat.reduceEqDiff, reduceIte, Nat.reduceLeDiff, and_self, cond_true, cond_false, Nat.reduceAdd, Nat.reduceMul, e7], by simp only [↓wP, wS, Nat.reduceEqDiff, reduceIte, Nat.reduceLeDiff, and_self, cond_true, cond_false, Nat.reduceAdd, Nat.reduceMul, e8], by simp only [↓wP, wS, Nat.reduceEqDiff, reduceIte, Nat.reduceLeDiff, and_self, cond_true, cond_false, Nat.reduceAdd, Nat.reduceMul, e9], ?_, by simp only [↓wP, wS, Nat.reduceEqDiff, reduceIte, Nat.reduceLeDiff, and_self, cond_true, cond_false, Nat.reduceAdd, Nat.reduceMul]; rfl, rfl⟩ hq
      have : (if j < i then (j : Int) else 0) = if j < i + 1 then (j : Int) else 0 := by
        by_cases h1 : j < i
        · rw [if_pos h1, if_pos (by omega)]
        · rw [if_neg h1, if_neg (by omega)]
      rw [← this]
      simp only [↓wP, wS, Nat.reduceEqDiff, reduceIte, Nat.reduceLeDiff, and_self, cond_true, cond_false, Nat.reduceAdd, Nat.reduceMul, e10]

/-- Going on, one by one. -/
structure GI (h : Hp) (Z : Nat → Prop) (bt rb : Nat) (S : LS) (j : Nat) (i : Nat) (s : St) : Prop where
  e7 : s.e.get 7 = some (pt bt 0)
  e8 : s.e.get 8 = some (sl rb 0 (area S).length 0)
  e10 : s.e.get 10 = some (i64 j)
  e12 : s.e.get 12 = some (i64 (i + 1 : Nat))
  heap : Kp (· = bt) h s.h
  tree : LAt Z s.h bt (atS S ((j + i) % (area S).length))

theorem go_loop (TT : Tab F G) {h : Hp} (hf : FzLt h) {Z : Nat → Prop} {bt rb : Nat} {S : LS} {k : Nat} (inv : Inv k S) {own : Bool} {j : Nat} (hj : j < (area S).length) (hrb : rb < h.next) (hne : rb ≠ bt) (hg : h.t.get rb = some (.cells (wcells (winsOf (area S))) 5 own)) (hn : bt ∉ h.fz) {Q : Flow → St → Prop} :
    ∀ (n i : Nat) (s : St), (area S).length = i + n → GI h Z bt rb S j i s → (∀ s', GI h Z bt rb S j (area S).length s' → Q (.exit 2) s') → Code F G (.loop b4_19) s Q := by
  have hl16 := inv.le
  have hal := inv.alen
  have hn0 : ((area S).length : Int) ≠ 0 := by omega
  intro n
  induction n with
  | zero =>
    intro i s hn I hq
    obtain rfl : i = (area S).length := by omega
    obtain ⟨e, h2⟩ := s
    obtain ⟨e7, e8, e10, e12, hk, tr⟩ := I
    simp only at e7 e8 e10 e12 hk tr
    have hgt : ¬ (((area S).length + 1 : Nat) : Int) ≤ ((area S).length : Int) := by omega
    refine Code.loop (Code.seq (Code.seq (Code.ops ?_)))
    simp only [s4_14, ↓wP, wS, Nat.reduceEqDiff, reduceIte, Nat.reduceLeDiff, and_self, cond_true, cond_false, Nat.reduceAdd, Nat.reduceMul, e8, e12, hgt, decide_false]
    refine Code.cond (t := false) (by simp only [↓wP, wS, Nat.reduceEqDiff, reduceIte, Nat.reduceLeDiff, and_self, cond_true, cond_false, Nat.reduceAdd, Nat.reduceMul]) (fun h => by cases h) (fun _ => Code.exit ?_)
    exact hq _ ⟨by simp only [↓wP, wS, Nat.reduceEqDiff, reduceIte, Nat.reduceLeDiff, and_self, cond_true, cond_false, Nat.reduceAdd, Nat.reduceMul, e7], by simp only [↓wP, wS, Nat.reduceEqDiff, reduceIte, Nat.reduceLeDiff, and_self, cond_true, cond_false, Nat.reduceAdd, Nat.reduceMul, e8], by simp only [↓wP, wS, Nat.reduceEqDiff, reduceIte, Nat.reduceLeDiff, and_self, cond_true, cond_false, Nat.reduceAdd, Nat.reduceMul, e10], by simp only [↓wP, wS, Nat.reduceEqDiff, reduceIte, Nat.reduceLeDiff, and_self, cond_true, cond_false, Nat.reduceAdd, Nat.reduceMul, e12], hk, tr⟩
  | succ n ih =>
    intro i s hnn I hq
    obtain ⟨e, h2⟩ := s
    obtain ⟨e7, e8, e10, e12, hk, tr⟩ := I
    simp only at e7 e8 e10 e12 hk tr
    have hle : ((i + 1 : Nat) : Int) ≤ ((area S).length : Int) := by omega
    have hw2 : w64 (((i + 1 : Nat) : Int) + 1) = (i + 1 + 1 : Nat) := by rw [w64_id (by omega) (by omega)]; omega
    have hw3 : w64 ((j : Int) + ((i + 1 : Nat) : Int)) = (j + (i + 1) : Nat) := by rw [w64_id (by omega) (by omega)]; omega
    have hm : (j + i) % (area S).length < (area S).length := Nat.mod_lt _ (by omega)
    have hm2 : (j + (i + 1)) % (area S).length < (area S).length := Nat.mod_lt _ (by omega)
    have hgo : goS (atS S ((j + i) % (area S).length)) 1 = atS S ((j + (i + 1)) % (area S).length) := by
      refine go_at inv hm ?_
      show ((((j + i) % (area S).length + 1 : Nat) : Int)) % ((area S).length : Int) = _
      rw [emod_nat, Nat.mod_add_mod]
      rfl
    refine Code.loop (Code.seq (Code.seq (Code.ops ?_)))
    simp only [s4_14, ↓wP, wS, Nat.reduceEqDiff, reduceIte, Nat.reduceLeDiff, and_self, cond_true, cond_false, Nat.reduceAdd, Nat.reduceMul, e8, e12, hle, decide_true]
    refine Code.cond (t := true) (by simp only [↓wP, wS, Nat.reduceEqDiff, reduceIte, Nat.reduceLeDiff, and_self, cond_true, cond_false, Nat.reduceAdd, Nat.reduceMul]) (fun _ => Code.skip ?_) (fun h => by cases h)
    refine Code.seq (Code.block (Code.seq (Code.ops ?_)))
    simp only [s4_15, ↓wP, wS, Nat.reduceEqDiff, reduceIte, Nat.reduceLeDiff, and_self, cond_true, cond_false, Nat.reduceAdd, Nat.reduceMul, e7]
    have hf2 := hk.fzLt hf
    refine go_call TT hf2 tr (inv.atS hm).ok (by' := 1) (by rw [hk.fz]; exact hn) fun v h3 k3 a3 => ?_
    rw [hgo] at a3
    simp only [↓wP, wS, Nat.reduceEqDiff, reduceIte, Nat.reduceLeDiff, and_self, cond_true, cond_false, Nat.reduceAdd, Nat.reduceMul]
    have k03 := hk.trans k3
    have hg3 := k03.keep hrb hne hg
    have hp0 : ∀ n : Nat, (0 : Int) ≤ (n : Int) := fun n => by omega
    have hp2 : (((j + (i + 1)) % (area S).length : Nat) : Int) < ((area S).length : Int) := by omega
    have hr0 := rdT_id (i := (j + (i + 1)) % (area S).length) hg3 (by rw [winsOf_len]; exact hm2)
    rw [winsOf_idAt] at hr0
    refine Code.seq (Code.draw ?_)
    simp only [s4_16, ↓wP, wS, Nat.reduceEqDiff, reduceIte, Nat.reduceLeDiff, and_self, cond_true, cond_false, Nat.reduceAdd, Nat.reduceMul, ↓Draw.cons, dS, decide_true, decide_false, fzStep_load, e7, e8, e10, e12, hw3, bin_rem hn0, tmod_nat, hp0, hp2, and_self, if_true, Int.toNat_natCast, Nat.add_zero, hr0]
    refine here_call TT (h := ⟨h3.t, h3.next, rb :: h3.fz⟩) a3.fz ?_
    have hne' : decide ((atS S ((j + (i + 1)) % (area S).length)).here ≠ idAt (area S) ((j + (i + 1)) % (area S).length)) = false := by simp [atS]
    simp only [↓wP, wS, Nat.reduceEqDiff, reduceIte, Nat.reduceLeDiff, and_self, cond_true, cond_false, Nat.reduceAdd, Nat.reduceMul, ↓Draw.cons, dS, decide_true, decide_false, hne']
    refine Code.cond (t := false) (by simp only [↓wP, wS, Nat.reduceEqDiff, reduceIte, Nat.reduceLeDiff, and_self, cond_true, cond_false, Nat.reduceAdd, Nat.reduceMul]) (fun h => by cases h) (fun _ => Code.skip ?_)
    refine Code.ops ?_
    simp only [s4_18, ↓wP, wS, Nat.reduceEqDiff, reduceIte, Nat.reduceLeDiff, and_self, cond_true, cond_false, Nat.reduceAdd, Nat.reduceMul, e12, hw2]
    refine ih (i + 1) _ (by omega) ⟨by simp only [↓wP, wS, Nat.reduceEqDiff, reduceIte, Nat.reduceLeDiff, and_self, cond_true, cond_false, Nat.reduceAdd, Nat.reduceMul, e7], by simp only [↓wP, wS, Nat.reduceEqDiff, reduceIte, Nat.reduceLeDiff, and_self, cond_true, cond_false, Nat.reduceAdd, Nat.reduceMul, e8], by simp only [↓wP, wS, Nat.reduceEqDiff, reduceIte, Nat.reduceLeDiff, and_self, cond_true, cond_false, Nat.reduceAdd, Nat.reduceMul, e10], by simp only [↓wP, wS, Nat.reduceEqDiff, reduceIte, Nat.reduceLeDiff, and_self, cond_true, cond_false, Nat.reduceAdd, Nat.reduceMul], k03, a3⟩ hq

theorem goes_call (TT : Tab F G) {h : Hp} (hf : FzLt h) {av : Value} {ds : List Deed} (A : ArgAt h av ds) {r c : Int} : Call F G 4 [i64 r, i64 c, av] h fun v _ => v = .bool true := by
  refine Call.enter (TT.g _ _ (by decide)) TT.f4 (Nat.le_of_ble_eq_true rfl) ?_
  simp only [c4, envOf]
  refine Code.seq (Code.ops ?_)
  simp only [s4_0, ↓wP, wS, Nat.reduceEqDiff, reduceIte, Nat.reduceLeDiff, and_self, cond_true, cond_false, Nat.reduceAdd, Nat.reduceMul]
  refine Code.seq (Code.ops ?_)
  simp only [s4_1, ↓wP, wS, Nat.reduceEqDiff, reduceIte, Nat.reduceLeDiff, and_self, cond_true, cond_false, Nat.reduceAdd, Nat.reduceMul]
  refine played_call TT hf A fun S bt bx h1 inv D k1 hb1 => ?_
  simp only [↓wP, wS, Nat.reduceEqDiff, reduceIte, Nat.reduceLeDiff, and_self, cond_true, cond_false, Nat.reduceAdd, Nat.reduceMul]
  have hf1 := k1.fzLt hf
  have nt1 : bt ∉ h1.fz := by rw [k1.fz]; exact hf.not_mem hb1
  have hl16 := inv.le
  have hal := inv.alen
  have hpos := wins_pos inv.ok
  have hn0 : ((area S).length : Int) ≠ 0 := by omega
  refine Code.seq (Code.seq (Code.ops ?_))
  simp only [s4_2, ↓wP, wS, Nat.reduceEqDiff, reduceIte, Nat.reduceLeDiff, and_self, cond_true, cond_false, Nat.reduceAdd, Nat.reduceMul]
  refine Code.cond (t := false) (by simp only [↓wP, wS, Nat.reduceEqDiff, reduceIte, Nat.reduceLeDiff, and_self, cond_true, cond_false, Nat.reduceAdd, Nat.reduceMul]) (fun h => by cases h) (fun _ => Code.skip ?_)
  refine Code.seq (Code.ops ?_)
  simp only [s4_4, ↓wP, wS, Nat.reduceEqDiff, reduceIte, Nat.reduceLeDiff, and_self, cond_true, cond_false, Nat.reduceAdd, Nat.reduceMul]
  refine wins_call TT hf1 D.t inv.ok fun rv h2 k2 w2 => ?_
  obtain ⟨rb, rfl, u1, u2, u3⟩ := w2
  have D2 := D.mono k2.old
  have hf2 := k2.fzLt hf1
  have nt2 : bt ∉ h2.fz := by rw [k2.fz]; exact nt1
  have hne : rb ≠ bt := by have := D.t.lt; omega
  simp only [↓wP, wS, Nat.reduceEqDiff, reduceIte, Nat.reduceLeDiff, and_self, cond_true, cond_false, Nat.reduceAdd, Nat.reduceMul]
  refine Code.seq (Code.ops ?_)
  simp only [s4_5, ↓wP, wS, Nat.reduceEqDiff, reduceIte, Nat.reduceLeDiff, and_self, cond_true, cond_false, Nat.reduceAdd, Nat.reduceMul]
  refine here_call TT D2.t ?_
  simp only [↓wP, wS, Nat.reduceEqDiff, reduceIte, Nat.reduceLeDiff, and_self, cond_true, cond_false, Nat.reduceAdd, Nat.reduceMul]
  refine Code.seq (Code.ops ?_)
  simp only [s4_6, ↓wP, wS, Nat.reduceEqDiff, reduceIte, Nat.reduceLeDiff, and_self, cond_true, cond_false, Nat.reduceAdd, Nat.reduceMul]
  refine Code.seq (Code.seq (Code.ops ?_))
  simp only [s4_7, ↓wP, wS, Nat.reduceEqDiff, reduceIte, Nat.reduceLeDiff, and_self, cond_true, cond_false, Nat.reduceAdd, Nat.reduceMul]
  obtain ⟨j, hj, hSj⟩ := at_here inv
  have hwl := winsOf_len (area S)
  have hat : ∀ i, i < (winsOf (area S)).length → (idAt (winsOf (area S)) i = S.here ↔ i = j) := fun i hi => by
    rw [winsOf_idAt, show S.here = idAt (area S) j from congrArg LS.here hSj]
    exact ⟨fun hx => idAt_inj inv.nd (by omega) hj hx, fun hx => by rw [hx]⟩
  refine Code.block (find_loop TT (h := h2) (bt := bt) (rb := rb) (l := winsOf (area S)) (at' := S.here) (j := j) (by omega) u3 (by omega) hat (winsOf (area S)).length 0 _ (by omega) ⟨by simp only [↓wP, wS, Nat.reduceEqDiff, reduceIte, Nat.reduceLeDiff, and_self, cond_true, cond_false, Nat.reduceAdd, Nat.reduceMul], by simp only [↓wP, wS, Nat.reduceEqDiff, reduceIte, Nat.reduceLeDiff, and_self, cond_true, cond_false, Nat.reduceAdd, Nat.reduceMul], by simp only [↓wP, wS, Nat.reduceEqDiff, reduceIte, Nat.reduceLeDiff, and_self, cond_true, cond_false, Nat.reduceAdd, Nat.reduceMul], by rw [if_neg (Nat.not_lt_zero j)]; simp only [↓wP, wS, Nat.reduceEqDiff, reduceIte, Nat.reduceLeDiff, and_self, cond_true, cond_false, Nat.reduceAdd, Nat.reduceMul], by simp only [↓wP, wS, Nat.reduceEqDiff, reduceIte, Nat.reduceLeDiff, and_self, cond_true, cond_false, Nat.reduceAdd, Nat.reduceMul]; rfl, rfl⟩ fun s1 I1 => ?_)
  simp only [if_true]
  obtain ⟨e, h2'⟩ := s1
  obtain ⟨q7, q8, q9, q10, _, rfl⟩ := I1
  simp only at q7 q8 q9 q10 D2 hf2 nt2 u2 u3
  rw [hwl] at q8
  refine Code.seq (Code.seq (Code.ops ?_))
  simp only [s4_13, ↓wP, wS, Nat.reduceEqDiff, reduceIte, Nat.reduceLeDiff, and_self, cond_true, cond_false, Nat.reduceAdd, Nat.reduceMul]
  have ht2 : LAt (Wz bt bx) h2' bt (atS S ((j + 0) % (area S).length)) := by
    rw [Nat.add_zero, Nat.mod_eq_of_lt hj, ← hSj]
    exact D2.t
  refine Code.block (go_loop TT hf2 inv hj (rb := rb) u2 hne u3 nt2 (area S).length 0 _ (by omega) ⟨by simp only [↓wP, wS, Nat.reduceEqDiff, reduceIte, Nat.reduceLeDiff, and_self, cond_true, cond_false, Nat.reduceAdd, Nat.reduceMul, q7], by simp only [↓wP, wS, Nat.reduceEqDiff, reduceIte, Nat.reduceLeDiff, and_self, cond_true, cond_false, Nat.reduceAdd, Nat.reduceMul, q8], by simp only [↓wP, wS, Nat.reduceEqDiff, reduceIte, Nat.reduceLeDiff, and_self, cond_true, cond_false, Nat.reduceAdd, Nat.reduceMul, q10], by simp only [↓wP, wS, Nat.reduceEqDiff, reduceIte, Nat.reduceLeDiff, and_self, cond_true, cond_false, Nat.reduceAdd, Nat.reduceMul]; rfl, Kp.refl, ht2⟩ fun s2 I2 => ?_)
  simp only [if_true]
  obtain ⟨e2, h3⟩ := s2
  obtain ⟨w7, w8, w10, _, hk3, tr3⟩ := I2
  simp only at w7 w8 w10 hk3 tr3
  have hm : (j + (area S).length) % (area S).length < (area S).length := Nat.mod_lt _ hpos
  have hm2 : (j + (area S).length - 1) % (area S).length < (area S).length := Nat.mod_lt _ hpos
  have hgo : goS (atS S ((j + (area S).length) % (area S).length)) (-1) = atS S ((j + (area S).length - 1) % (area S).length) := by
    refine go_at inv hm ?_
    rw [Nat.add_mod_right, Nat.mod_eq_of_lt hj, ← Int.add_emod_right, show (j : Int) + -1 + ((area S).length : Int) = ((j + (area S).length - 1 : Nat) : Int) by omega, emod_nat]
  refine Code.seq (Code.ops ?_)
  simp only [s4_20, ↓wP, wS, Nat.reduceEqDiff, reduceIte, Nat.reduceLeDiff, and_self, cond_true, cond_false, Nat.reduceAdd, Nat.reduceMul, w7]
  refine go_call TT (hk3.fzLt hf2) tr3 (inv.atS hm).ok (by' := -1) (by rw [hk3.fz]; exact nt2) fun v h4 k4 a4 => ?_
  rw [hgo] at a4
  simp only [↓wP, wS, Nat.reduceEqDiff, reduceIte, Nat.reduceLeDiff, and_self, cond_true, cond_false, Nat.reduceAdd, Nat.reduceMul]
  have hg4 := (hk3.trans k4).keep u2 hne u3
  have hr0 := rdT_id (i := (j + (area S).length - 1) % (area S).length) hg4 (by rw [hwl]; exact hm2)
  rw [winsOf_idAt] at hr0
  have hp0 : ∀ n : Nat, (0 : Int) ≤ (n : Int) := fun n => by omega
  have hp2 : (((j + (area S).length - 1) % (area S).length : Nat) : Int) < ((area S).length : Int) := by omega
  have hw5 : w64 ((j : Int) + ((area S).length : Int)) = (j + (area S).length : Nat) := by rw [w64_id (by omega) (by omega)]; omega
  have hw6 : w64 (((j + (area S).length : Nat) : Int) - 1) = (j + (area S).length - 1 : Nat) := by rw [w64_id (by omega) (by omega)]; omega
  refine Code.seq (Code.draw ?_)
  simp only [s4_21, ↓wP, wS, Nat.reduceEqDiff, reduceIte, Nat.reduceLeDiff, and_self, cond_true, cond_false, Nat.reduceAdd, Nat.reduceMul, ↓Draw.cons, dS, decide_true, decide_false, fzStep_load, w7, w8, w10, hw5, hw6, bin_rem hn0, tmod_nat, hp0, hp2, and_self, if_true, Int.toNat_natCast, Nat.add_zero, hr0]
  refine here_call TT (h := ⟨h4.t, h4.next, rb :: h4.fz⟩) a4.fz ?_
  have heq : decide ((atS S ((j + (area S).length - 1) % (area S).length)).here = idAt (area S) ((j + (area S).length - 1) % (area S).length)) = true := by simp [atS]
  simp only [↓wP, wS, Nat.reduceEqDiff, reduceIte, Nat.reduceLeDiff, and_self, cond_true, cond_false, Nat.reduceAdd, Nat.reduceMul, ↓Draw.cons, dS, decide_true, decide_false, heq]
  refine Call.known TT.g14 ?_
  simp only [↓wP, wS, Nat.reduceEqDiff, reduceIte, Nat.reduceLeDiff, and_self, cond_true, cond_false, Nat.reduceAdd, Nat.reduceMul, ↓Draw.cons, dS, decide_true, decide_false]
  refine Code.ret ?_
  simp only [resVs, resV, pack, ↓wP, wS, Nat.reduceEqDiff, reduceIte, Nat.reduceLeDiff, and_self, cond_true, cond_false, Nat.reduceAdd, Nat.reduceMul]
  exact ⟨trivial, _, rfl, rfl⟩
end
end Go.Eng
