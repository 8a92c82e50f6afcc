/- append and clear. -/
import Derived.Test.YtdafdampodbobaaEngH
namespace Go.Eng
set_option linter.unusedSimpArgs false
set_option linter.unusedVariables false
section
variable {P : Program} {K : Nat → Prop} {W w : World} {ρ : Rho} {h : Hp} {e : Env} {ev : Operand → Value}

theorem growBy_le (newLen B : Nat) (hB : ∀ c, c < newLen → 256 ≤ c → c + (c + 768) / 4 ≤ B) : ∀ (r c : Nat), c ≤ B → 256 ≤ c → Builtin.growBy newLen r c ≤ B
  | 0, c, h, _ => h
  | r + 1, c, h, h2 => by
    unfold Builtin.growBy
    split
    · exact h
    · exact growBy_le newLen B hB r _ (hB c (by omega) h2) (by omega)

theorem nextcap_le (need old : Nat) (h : old < need) : Builtin.nextslicecap need old ≤ 2 * need := by
  unfold Builtin.nextslicecap
  split
  · omega
  · split
    · omega
    · exact growBy_le need (2 * need) (fun c h1 h2 => by omega) 4 old (by omega) (by omega)

theorem run_firstCells {sz n cap : Nat} {a : Option Addr} {l : List Value} (h1 : (a = none ∧ l = []) ∨ ∃ a', a = some a' ∧ (loadCells a' (n * sz)).run P w = .ok l.toArray w) :
    (Builtin.firstCells sz n (.slice a n cap)).run P w = .ok l.toArray w := by
  rcases h1 with ⟨rfl, rfl⟩ | ⟨a', rfl, h⟩
  · rfl
  · exact h

theorem zeroCells_size (z : Array Value) (n : Nat) : (Builtin.zeroCells z n).size = n * z.size := by simp [Builtin.zeroCells]

/-- What append does where the elements fit. -/
theorem run_append_in {sT xT ty el : TypeId} {i : TypeInfo} {base : Option Addr} {len cap n : Nat} {x' : Value} {xs : List Value} {w' : World}
    (hs : P.underlying sT = some (.slice el)) (hx : ∃ e2, P.underlying xT = some (.slice e2)) (hi : P.info? el = some i) (hlen : (Builtin.lenOf x').run P w = .ok n w)
    (hfit : len + n ≤ cap) (hxs : (Builtin.firstCells i.size n x').run P w = .ok xs.toArray w)
    (hst : ∀ a, base = some a → (storeCells (a.add (len * i.size)) xs).run P w = .ok () w') (hb : base = none → w' = w) :
    (Builtin.append_ #[sT, xT] ty #[.slice base len cap, x']).run P w = .ok (.slice base (len + n) cap) w' := by
  obtain ⟨e2, hx⟩ := hx
  have hsz : (sizeOf el).run P w = .ok i.size w := run_sizeOf' (by simp [sizeO, hi])
  simp only [Builtin.append_, List.getElem?_toArray, List.getElem?_cons_zero, List.getElem?_cons_succ, Sem.run_bind, run_underlying' hs, run_underlying' hx, Result.andThen_ok, hsz, Sem.run_pure, Bool.false_eq_true, if_false, hlen, hfit, if_true, Bool.not_false, hxs]
  cases base with
  | none => rw [hb rfl]; rfl
  | some a =>
    simp only [Sem.run_bind, hst a rfl, Result.andThen_ok, Sem.run_pure]

theorem cut_cap {need old : Nat} {el : TypeId} {t : Nat} : need ≤ (Question.appendCap need old el).cut t := by
  unfold Question.cut
  simp

/-- What append does where they do not fit. -/
theorem run_append_out {sT xT ty el : TypeId} {i : TypeInfo} {base : Option Addr} {len cap n : Nat} {x' z : Value} {old xs : List Value}
    (hs : P.underlying sT = some (.slice el)) (hx : ∃ e2, P.underlying xT = some (.slice e2)) (hi : P.info? el = some i) (hz : zeroO P el = some z) (hlen : (Builtin.lenOf x').run P w = .ok n w)
    (hfit : ¬ len + n ≤ cap) (hby : (len + n) * i.bytes ≤ 140737488355328) (hb1 : 1 ≤ i.bytes) (hxs : (Builtin.firstCells i.size n x').run P { w with drawn := w.drawn + 1 } = .ok xs.toArray { w with drawn := w.drawn + 1 })
    (hold : (Builtin.firstCells i.size len (.slice base len cap)).run P { w with drawn := w.drawn + 1 } = .ok old.toArray { w with drawn := w.drawn + 1 }) :
    ∃ nc, len + n ≤ nc ∧ (Builtin.append_ #[sT, xT] ty #[.slice base len cap, x']).run P w =
      .ok (.slice (some ⟨w.heap.size, 0, none⟩) (len + n) nc) { w with drawn := w.drawn + 1, heap := w.heap.push (.cells (old.toArray ++ xs.toArray ++ Builtin.zeroCells z.cells (nc - (len + n))) el) } := by
  obtain ⟨e2, hx⟩ := hx
  have hsz : ∀ w, (sizeOf el).run P w = .ok i.size w := fun w => run_sizeOf' (by simp [sizeO, hi])
  refine ⟨(Question.appendCap (len + n) cap el).cut (w.tape w.drawn (Question.appendCap (len + n) cap el)), cut_cap, ?_⟩
  have hnc : ¬ (Builtin.nextslicecap (len + n) cap * i.bytes > 2 ^ 48) := by
    have h1 := nextcap_le (len + n) cap (by omega)
    have h2 : Builtin.nextslicecap (len + n) cap * i.bytes ≤ 2 * (len + n) * i.bytes := Nat.mul_le_mul_right _ h1
    rw [Nat.mul_assoc] at h2
    omega
  have hb0 : ¬ (((len + n : Nat) : Int) > IntKind.i64.max ∧ (False ∨ i.bytes = 0)) := by
    rintro ⟨_, h | h⟩
    · exact h
    · omega
  generalize hcc : (Question.appendCap (len + n) cap el).cut (w.tape w.drawn (Question.appendCap (len + n) cap el)) = nc
  simp only [Builtin.append_, List.getElem?_toArray, List.getElem?_cons_zero, List.getElem?_cons_succ, Sem.run_bind, run_underlying' hs, run_underlying' hx, Result.andThen_ok, hsz, Sem.run_pure, Bool.false_eq_true, if_false, hlen, hfit, run_typeInfo' hi, hb0, hnc,
    run_choose, Question.forced, hcc, run_askRoom, hold, Bool.not_false, if_true, hxs, run_zeroValue' hz, newRow, run_newObj]

theorem lenOf_slice {a : Option Addr} {n cap : Nat} : (Builtin.lenOf (.slice a n cap)).run P w = .ok n w := rfl

theorem sim_append (hR : HRel K W ρ h w) {sT xT ty el : TypeId} {i : TypeInfo} {s s' x x' z v : Value} {h' : Hp}
    (hs : P.underlying sT = some (.slice el)) (hxt : ∃ e2, P.underlying xT = some (.slice e2)) (hi : P.info? el = some i) (hz : zeroO P el = some z) (hzs : z.cells.size = i.size) (hi1 : 1 ≤ i.size)
    (rs : VRel ρ s s') (rx : VRel ρ x x') (hv : sAppend h i.size i.bytes s x = some (v, h')) :
    Yields P K W ρ h v h' (do pure (Next.value (← Builtin.append_ #[sT, xT] ty #[s', x']))) w := by
  unfold sAppend at hv
  split at hv
  · rename_i xb n xc
    split at hv
    · cases hv
    · rename_i xs hxs
      split at hv
      · rename_i base len cf
        -- the appended cells
        have hcells : ∃ xs', LRel ρ xs xs' ∧ xs.length = n * i.size ∧ (Builtin.lenOf x').run P w = .ok n w ∧ ∀ w2 : World, w2.heap = w.heap → (Builtin.firstCells i.size n x').run P w2 = .ok xs'.toArray w2 := by
          have hlenx : xs.length = n * i.size := by
            unfold sliceCells at hxs
            split at hxs
            · rename_i heq; cases heq; cases hxs; simp
            · rename_i b o n' cf' heq
              cases heq
              by_cases hn : Nat.beq n 0
              · rw [hn] at hxs; cases hxs; simp only [beq_dec, decide_eq_true_eq] at hn; simp [hn]
              · simp only [Bool.not_eq_true] at hn
                rw [hn] at hxs
                obtain ⟨c, sz, own, _, h1, rfl⟩ := rd_spec hxs
                simp; omega
            · cases hxs
          rcases slice_cells (P := P) hR rx hxs with ⟨rfl, rfl⟩ | ⟨a', n', cap', l', rfl, g1, g2⟩
          · have hn0 : n = 0 := by cases rx; rfl
            subst hn0
            exact ⟨[], .nil, hlenx, rfl, fun w2 _ => rfl⟩
          · have hn0 : n' = n := by cases rx; rfl
            subst hn0
            refine ⟨l', g1, hlenx, rfl, fun w2 h2 => ?_⟩
            have hR2 : HRel K W ρ h { w with heap := w2.heap } := hR.sameHeap ⟨rfl, rfl, rfl⟩ h2
            -- the same cells in any world with this heap
            have hc : ∀ j u, l'[j]? = some u → w.cell? (a'.add j) = some u := by
              intro j u hj
              unfold sliceCells at hxs
              split at hxs
              · rename_i heq; cases heq; cases rx
              · rename_i b o n2 cf2 heq
                cases heq
                by_cases hn : Nat.beq n' 0
                · simp only [beq_dec, decide_eq_true_eq] at hn
                  subst hn
                  have := g1.1
                  have hl0 : l' = [] := List.eq_nil_of_length_eq_zero (by omega)
                  subst hl0
                  simp at hj
                · simp only [Bool.not_eq_true] at hn
                  rw [hn] at hxs
                  simp only [beq_dec, decide_eq_false_iff_not] at hn
                  obtain ⟨p, a2, cap2, hp, hs2, heq2⟩ := slice_inv rx
                  cases heq2
                  have hpl : a' = ⟨p.blk, p.off + o, none⟩ := by
                    rcases hs2.place with h | h | h
                    · exact h
                    · have := hs2.exact 0 h
                      have := hs2.lc
                      omega
                    · omega
                  obtain ⟨c, sz, own, hb, hle, _⟩ := rd_spec hxs
                  obtain ⟨l2, k1, k2, k3⟩ := read_rel hR hb hp hle
                  have hrun := run_loadCells_list (P := P) w _ l2 k3
                  rw [k2, ← hpl, g2] at hrun
                  simp only [Result.ok.injEq, and_true] at hrun
                  have : l' = l2 := by have := congrArg Array.toList hrun; simpa using this
                  subst this
                  rw [hpl]
                  exact k3 j u hj
              · cases hxs
            have hcell : ∀ a, w2.cell? a = w.cell? a := fun a => by simp only [World.cell?, h2]
            refine run_firstCells (.inr ⟨a', rfl, ?_⟩)
            rw [show n' * i.size = l'.length by have := g1.1; omega]
            exact run_loadCells_list (P := P) w2 a' l' (fun j u hj => by rw [hcell]; exact hc j u hj)
        obtain ⟨xs', rxs, hxl, hlen, hfc⟩ := hcells
        have hxl' : xs'.length = n * i.size := by have := rxs.1; omega
        by_cases hn : Nat.beq n 0
        · -- nothing is appended
          rw [hn] at hv
          cases hv
          simp only [beq_dec, decide_eq_true_eq] at hn
          subst hn
          have hx0 : xs' = [] := List.eq_nil_of_length_eq_zero (by omega)
          subst hx0
          cases rs with
          | nils =>
            exact yields_pure hR (run_v (run_append_in (w' := w) hs hxt hi hlen (Nat.le_refl _) (hfc w rfl) (fun a h => by cases h) (fun _ => rfl))) .nils
          | slice b o len cf p a' cap hp hok =>
            exact yields_pure hR (run_v (run_append_in (w' := w) hs hxt hi hlen (by have := hok.lc; omega) (hfc w rfl) (fun a _ => rfl) (fun h => by cases h))) (.slice b o len cf p a' cap hp hok)
        · simp only [Bool.not_eq_true] at hn
          rw [hn, cond_false] at hv
          simp only [beq_dec, decide_eq_false_iff_not] at hn
          have hnsz : 1 ≤ n * i.size := Nat.mul_pos (by omega) (by omega)
          by_cases hc : Nat.ble ((len + n) * i.bytes) 140737488355328 && Nat.ble 1 i.bytes && xs.all oneCell
          · rw [hc, cond_true] at hv
            simp only [Bool.and_eq_true, Nat.ble_eq] at hc
            obtain ⟨⟨hby, hb1⟩, hone⟩ := hc
            have hmul : (len + n) * i.size = len * i.size + n * i.size := Nat.add_mul _ _ _
            -- a new block
            have fresh : ∀ (h0 : Hp) (base' : Option Addr) (cap : Nat) (old old' : List Value), HRel K W ρ h0 w → h0.next = h.next → Fr ρ h h0 → s' = .slice base' len cap → LRel ρ old old' → old.length = len * i.size → ¬ len + n ≤ cap →
                (∀ w2 : World, w2.heap = w.heap → (Builtin.firstCells i.size len (.slice base' len cap)).run P w2 = .ok old'.toArray w2) →
                Yields P K W ρ h (.slice (some ⟨h.next, 0, none⟩) (len + n) 0) (h0.alloc (old ++ xs) i.size).2 (do pure (Next.value (← Builtin.append_ #[sT, xT] ty #[s', x']))) w := by
              intro h0 base' cap old old' hR0 hnx hfr0 hs' ro hol hnf hof
              subst hs'
              obtain ⟨nc, hnc, hrun⟩ := run_append_out (ty := ty) hs hxt hi hz hlen hnf hby hb1 (hfc _ rfl) (hof _ rfl)
              have hol' : old'.length = len * i.size := by have := ro.1; omega
              have hzc : (Builtin.zeroCells z.cells (nc - (len + n))).size = nc * i.size - (len + n) * i.size := by rw [zeroCells_size, hzs, Nat.sub_mul]
              have hncs : (len + n) * i.size ≤ nc * i.size := Nat.mul_le_mul_right _ hnc
              obtain ⟨ρ', w', hy⟩ := yields_new (P := P) (sz := i.size) hR0 (s := (do pure (Next.value (← Builtin.append_ #[sT, xT] ty #[.slice base' len cap, x'])))) (c := old ++ xs) (el := el) (fr := (0, 0)) (len := nc * i.size)
                (C := old'.toArray ++ xs'.toArray ++ Builtin.zeroCells z.cells (nc - (len + n)))
                (.slice (some ⟨h0.next, 0, none⟩) (len + n) 0) (run_v hrun) ⟨rfl, rfl, rfl⟩ rfl (by simp; omega) (by simp; omega)
                (fun j u hj => by
                  obtain ⟨u', g1, g2⟩ := (ro.append rxs).get hj
                  refine ⟨u', ?_, g2⟩
                  have hjl : j < (old' ++ xs').length := (List.getElem?_eq_some_iff.1 g1).1
                  rw [Array.getElem?_append_left (by simpa using hjl)]
                  rw [show old'.toArray ++ xs'.toArray = (old' ++ xs').toArray from by simp]
                  simpa using g1)
                (fun j _ => by simp)
                (fun p hp => by
                  subst hp
                  exact slice_new _ _ _ _ _ _ _ _ hnc (by simp; omega) (by simp; omega) (Nat.le_refl _))
              rw [hnx] at hy
              exact ⟨ρ', w', hy.run, ⟨hy.ext.1, fun b hb => hy.ext.2 b (by omega)⟩, hy.rel, hfr0.trans (Ext.refl _ _) hy.fr⟩
            split at hv
            · -- nil
              by_cases hc0 : Nat.beq len 0 && Nat.beq cf 0
              · rw [hc0] at hv
                cases hv
                simp only [Bool.and_eq_true, beq_dec, decide_eq_true_eq] at hc0
                obtain ⟨rfl, rfl⟩ := hc0
                cases rs
                have := fresh h none 0 [] [] hR rfl (Fr.refl _ _) rfl .nil (by simp) (by omega) (fun w2 _ => rfl)
                simpa using this
              · simp only [Bool.not_eq_true] at hc0
                rw [hc0] at hv
                cases hv
            · rename_i b o
              obtain ⟨p, a', cap, hp, hok, rfl⟩ := slice_inv rs
              have hvis := hok.vis
              split at hv
              · -- an exact capacity
                rename_i k
                obtain ⟨rfl, hex⟩ := hok.exact k rfl
                by_cases hfit : Nat.ble (len + n) cap
                · rw [hfit, cond_true] at hv
                  simp only [Nat.ble_eq] at hfit
                  split at hv
                  · rename_i h2 hw
                    cases hv
                    have hpl : a' = ⟨p.blk, p.off + o, none⟩ := by
                      rcases hok.place with h | h | h
                      · exact h
                      · omega
                      · omega
                    subst hpl
                    obtain ⟨w', g1, g2, g3⟩ := wr_rel (P := P) hR hw hp rxs
                    refine ⟨ρ, w', .inl ⟨_, run_v (run_append_in hs hxt hi hlen hfit (hfc w rfl) (fun a ha => ?_) (fun h => by cases h)), ?_⟩, Ext.refl _ _, g2, g3⟩
                    · cases ha
                      rw [add_none, Nat.add_assoc]
                      exact g1
                    · refine .slice b o (len + n) (cap + 1) p _ _ hp ⟨hfit, ?_, fun h => by omega, fun k hk => (by
                        have hk' : k = cap := by omega
                        rw [hk']; exact ⟨rfl, hex⟩), .inl rfl⟩
                      have : (len + n) * p.sz ≤ cap * p.sz := Nat.mul_le_mul_right _ hfit
                      omega
                  · cases hv
                · simp only [Bool.not_eq_true] at hfit
                  rw [hfit, cond_false] at hv
                  have hnf : ¬ len + n ≤ cap := by
                    intro hh
                    have : Nat.ble (len + n) cap = true := by simpa using hh
                    rw [hfit] at this
                    cases this
                  split at hv
                  · rename_i old ho
                    cases hv
                    have hol : old.length = len * i.size := by
                      simp only [sliceCells] at ho
                      by_cases hl0 : Nat.beq len 0
                      · rw [hl0] at ho; cases ho; simp only [beq_dec, decide_eq_true_eq] at hl0; simp [hl0]
                      · simp only [Bool.not_eq_true] at hl0
                        rw [hl0] at ho
                        obtain ⟨c, sz, own, _, h1, rfl⟩ := rd_spec ho
                        simp; omega
                    simp only [sliceCells] at ho
                    by_cases hl0 : Nat.beq len 0
                    · rw [hl0] at ho
                      cases ho
                      simp only [beq_dec, decide_eq_true_eq] at hl0
                      exact fresh h (some a') cap [] [] hR rfl (Fr.refl _ _) rfl .nil (by simpa using hol) hnf (fun w2 _ => run_firstCells (.inr ⟨a', rfl, by rw [hl0]; simp [loadCells, loadCellsFrom]⟩))
                    · simp only [Bool.not_eq_true] at hl0
                      rw [hl0, cond_false] at ho
                      simp only [beq_dec, decide_eq_false_iff_not] at hl0
                      have hpl : a' = ⟨p.blk, p.off + o, none⟩ := by
                        rcases hok.place with h | h | h
                        · exact h
                        · have := hok.lc
                          omega
                        · omega
                      obtain ⟨c, sz, own, hb, hle, rfl⟩ := rd_spec ho
                      obtain ⟨l2, k1, k2, k3⟩ := read_rel hR hb hp hle
                      refine fresh h (some a') cap _ l2 hR rfl (Fr.refl _ _) rfl k1 hol hnf (fun w2 hw2 => run_firstCells (.inr ⟨a', rfl, ?_⟩))
                      rw [hpl, ← k2]
                      exact run_loadCells_list (P := P) w2 _ l2 (fun j u hj => by rw [show w2.cell? = w.cell? from funext fun a => by simp only [World.cell?, hw2]]; exact k3 j u hj)
                  · cases hv
              · -- a slice that owns what is behind it
                split at hv
                · rename_i c sz hb
                  by_cases hc2 : Nat.beq sz i.size && Nat.ble 1 i.size && Nat.ble (o + len * i.size) c.length && (Nat.blt o c.length || Nat.beq c.length 0) && !h.held b
                  · rw [hc2, cond_true] at hv
                    simp only [Bool.and_eq_true, beq_dec, decide_eq_true_eq, Nat.ble_eq, Bool.or_eq_true, Bool.not_eq_true', Nat.blt_eq] at hc2
                    obtain ⟨⟨⟨⟨rfl, _⟩, hle⟩, hpos⟩, hheld⟩ := hc2
                    obtain ⟨q1, q2, ⟨C, el', fr, b1, b2, b3, b4⟩, q4⟩ := hR.live b c _ true p hb hp
                    obtain ⟨c1, c2, c3⟩ := b4 rfl
                    obtain ⟨gr1, gr2⟩ := hok.grow rfl
                    rw [q1] at gr1 gr2 hvis
                    have hpl : a' = ⟨p.blk, p.off + o, none⟩ := by
                      rcases hok.place with h | h | h
                      · exact h
                      · omega
                      · omega
                    subst hpl
                    by_cases hfit : Nat.ble (o + (len + n) * i.size) c.length
                    · rw [hfit, cond_true] at hv
                      simp only [Nat.ble_eq] at hfit
                      split at hv
                      · rename_i h2 hw
                        cases hv
                        have hcap : len + n ≤ cap := Nat.le_of_mul_le_mul_right (show (len + n) * i.size ≤ cap * i.size by omega) (by omega)
                        obtain ⟨w', g1, g2, g3⟩ := wr_rel (P := P) hR hw hp rxs
                        refine ⟨ρ, w', .inl ⟨_, run_v (run_append_in hs hxt hi hlen hcap (hfc w rfl) (fun a ha => ?_) (fun h => by cases h)), ?_⟩, Ext.refl _ _, g2, g3⟩
                        · cases ha
                          rw [add_none, Nat.add_assoc]
                          exact g1
                        · exact .slice b o (len + n) 0 p _ _ hp ⟨hcap, by rw [q1]; omega, fun _ => by rw [q1]; exact ⟨gr1, gr2⟩, fun k hk => by omega, .inl rfl⟩
                      · cases hv
                    · simp only [Bool.not_eq_true] at hfit
                      rw [hfit, cond_false] at hv
                      cases hv
                      have hclen : ((c.drop o).take (len * i.size)).length = len * i.size := by simp; omega
                      obtain ⟨l2, k1, k2, k3⟩ := read_rel (n := len * i.size) hR hb hp hle
                      by_cases hin : len + n ≤ cap
                      · -- in place
                        have hcs : (len + n) * i.size ≤ cap * i.size := Nat.mul_le_mul_right _ hin
                        obtain ⟨w', g1, g2, g3⟩ := run_storeCells' (P := P) (k := p.blk) (o := p.off + o + len * i.size) (el := el') (fr := fr) xs' 0 C w b1 (by omega)
                          (fun j x y => c3 j (by omega) (by omega)) (oneCells_rel rxs hone)
                        have hgrow := hR.grow g2 hb hp o ((c.drop o).take (len * i.size) ++ xs) C _ el' fr b1 (putCells_size _ _ _) (by simp; omega) g3 (fun j u hj => by
                          rw [putCells_get _ _ _ _ (by omega)]
                          by_cases hjl : j < len * i.size
                          · rw [List.getElem?_append_left (by omega)] at hj
                            rw [if_neg (by omega)]
                            rw [List.getElem?_take, if_pos hjl, List.getElem?_drop] at hj
                            have := b3 _ _ hj
                            rw [← Nat.add_assoc] at this
                            exact this
                          · rw [List.getElem?_append_right (by omega), hclen] at hj
                            obtain ⟨u', e1, e2⟩ := rxs.get hj
                            have hjn : j - len * i.size < xs.length := (List.getElem?_eq_some_iff.1 hj).1
                            rw [if_pos (by omega)]
                            exact ⟨u', by rw [show p.off + o + j - (p.off + o + len * i.size + 0) = j - len * i.size by omega]; exact e1, e2⟩)
                        refine ⟨_, w', .inl ⟨.slice (some ⟨p.blk, p.off + o, none⟩) (len + n) cap, run_v (run_append_in hs hxt hi hlen hin (hfc w rfl) (fun a ha => by cases ha; rw [add_none]; exact g1) (fun h => by cases h)), ?_⟩, Rho.upd_ext hR _, hgrow, (Fr.put hp hheld _).trans (Ext.refl _ _) (Fr.alloc _ _ _ _)⟩
                        refine .slice h.next 0 (len + n) 0 _ _ _ (upd_self _ _ _) ⟨hin, ?_, fun _ => ?_, fun k hk => by omega, .inl rfl⟩
                        · simp; omega
                        · simp; omega
                      · -- elsewhere
                        have hkill := hR.kill b (hR.dom b p hp).1
                        refine fresh (h.put b .dead) _ cap _ l2 hkill rfl (Fr.put hp hheld _) rfl k1 hclen hin (fun w2 hw2 => run_firstCells (.inr ⟨_, rfl, ?_⟩))
                        rw [← k2]
                        exact run_loadCells_list (P := P) w2 _ l2 (fun j u hj => by rw [show w2.cell? = w.cell? from funext fun a => by simp only [World.cell?, hw2]]; exact k3 j u hj)
                  · simp only [Bool.not_eq_true] at hc2
                    rw [hc2] at hv
                    cases hv
                · cases hv
            · cases hv
          · simp only [Bool.not_eq_true] at hc
            rw [hc] at hv
            cases hv
      · cases hv
  · cases hv

/-! ### clear -/
theorem sim_clear (hR : HRel K W ρ h w) {t el ty : TypeId} {sz : Nat} {x x' z : Value} {h' : Hp} {b o n cf : Nat} (ht : P.underlying t = some (.slice el)) (hz : zeroO P el = some z) (hzs : z.cells.size = sz) (h1 : 1 ≤ sz)
    (hx : x = .slice (some ⟨b, o, none⟩) n cf) (rx : VRel ρ x x') (hn : n ≠ 0) (hw : wr h b o (repl z.cells.toList n) = some h') :
    ∃ w', (Builtin.clear_ #[t] ty #[x']).run P w = .ok (.tuple #[]) w' ∧ HRel K W ρ h' w' ∧ Fr ρ h h' := by
  subst hx
  obtain ⟨p, a', cap, hp, hok, rfl⟩ := slice_inv rx
  have hpl : a' = ⟨p.blk, p.off + o, none⟩ := by
    rcases hok.place with h | h | h
    · exact h
    · have := hok.exact 0 h
      have := hok.lc
      omega
    · omega
  subst hpl
  obtain ⟨i, _, _, _, _, hcl⟩ := zeroO_spec hz
  obtain ⟨w', g1, g2, g3⟩ := wr_rel (P := P) hR hw hp (closedL_self _ (repl_closed n _ hcl))
  refine ⟨w', ?_, g2, g3⟩
  have hzc : (Builtin.zeroCells z.cells n).toList = repl z.cells.toList n := by
    have := zeros_eq z.cells sz n hzs h1
    rw [← hzs] at this
    exact this
  cases n with
  | zero => exact absurd rfl hn
  | succ n =>
    simp only [Builtin.clear_, List.getElem?_toArray, List.getElem?_cons_zero, Sem.run_bind, run_underlying' ht, Result.andThen_ok, run_zeroValue' hz, hzc, g1, Sem.run_pure]
end
end Go.Eng
