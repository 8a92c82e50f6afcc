/- Regions that draw their order: whatever order is drawn. -/
import Derived.Test.YtdafdampodbobaaEngK
namespace Go.Eng
set_option linter.unusedSimpArgs false
set_option linter.unusedVariables false
section
variable {P : Program} {K : Nat → Prop} {W w : World} {ρ : Rho} {h : Hp} {a : Act} {r : Ev}

/-! ### What the kinds of operations mean -/
theorem simple_pure {op : SOp} {e : Env} {h h' : Hp} {v : Value} (hk : kindOf op = 0) (hs : simple op e h = some (v, h')) : h' = h ∧ ∀ h2, simple op e h2 = some (v, h2) := by
  cases op with
  | tyC t z ok x =>
    simp only [simple] at hs ⊢
    split at hs
    · rename_i u q hu
      cases hc : Nat.beq u t <;> cases ok <;> rw [hc] at hs <;> simp only [cond_true, cond_false] at hs ⊢ <;> cases hs <;> exact ⟨rfl, fun _ => rfl⟩
    · cases ok <;> simp only [cond_true, cond_false] at hs ⊢ <;> cases hs
      exact ⟨rfl, fun _ => rfl⟩
    · cases hs
  | iaddr sz x i =>
    simp only [simple] at hs ⊢
    split at hs
    · rename_i b o len cf hu
      split at hs
      · rename_i k j hj
        cases hc : Nat.blt j len <;> rw [hc] at hs <;> simp only [cond_true, cond_false] at hs ⊢ <;> cases hs
        exact ⟨rfl, fun _ => rfl⟩
      · cases hs
    · cases hs
  | field g o x =>
    simp only [simple] at hs ⊢
    split at hs
    · rename_i cs hu
      split at hs
      · split at hs
        · cases hs; exact ⟨rfl, fun _ => rfl⟩
        · cases hs
      · rename_i n
        cases hc : Nat.ble (o + n) cs.toList.length <;> rw [hc] at hs <;> simp only [cond_true, cond_false] at hs ⊢ <;> cases hs
        exact ⟨rfl, fun _ => rfl⟩
    · cases hs
  | _ =>
    first
      | (simp [kindOf] at hk; done)
      | (simp only [simple] at hs ⊢
         repeat' (split at hs)
         all_goals first
           | (cases hs; done)
           | (cases hs; exact ⟨rfl, fun _ => rfl⟩)
           | (cases hs; exact ⟨rfl, fun _ => by simp_all⟩))

theorem simple_load {i : SIns} {e : Env} {h h' : Hp} {v : Value} (hk : kindOf i.op = 1) (hs : simple i.op e h = some (v, h')) :
    h' = h ∧ ((∀ h2, simple i.op e h2 = some (v, h2)) ∨ ∃ b, loadB i e = some b ∧ h.t.get b ≠ none ∧ ∀ h2 : Hp, h2.t.get b = h.t.get b → simple i.op e h2 = some (v, h2)) := by
  cases hop : i.op <;> rw [hop] at hk <;> first | (simp [kindOf] at hk; done) | skip
  · rename_i g x
    rw [hop] at hs
    simp only [simple] at hs
    split at hs
    · rename_i u hu
      split at hs
      · rename_i v0 hv0
        cases hs
        refine ⟨rfl, .inr ?_⟩
        unfold sLoad at hv0
        split at hv0
        · rename_i b o
          refine ⟨b, by simp only [loadB, hop, hu], ?_, fun h2 h2b => ?_⟩
          · intro hn
            split at hv0
            · simp [rd1, hn] at hv0
            · simp [rd, hn] at hv0
          · simp only [simple, hu, sLoad]
            split at hv0
            · have : rd1 h2 b o = rd1 h b o := by simp only [rd1, h2b]
              rw [this, hv0]
            · rename_i n
              have : rd h2 b o n = rd h b o n := by simp only [rd, h2b]
              rw [this]
              split at hv0
              · cases hv0; rfl
              · cases hv0
        · cases hv0
      · cases hs
    · cases hs
  · rename_i sz x lo hi mx
    rw [hop] at hs
    simp only [simple] at hs
    split at hs
    · rename_i u hu
      split at hs
      · rename_i vlo hlo
        split at hs
        · rename_i vhi hhi
          split at hs
          · rename_i vmx hmx
            split at hs
            · rename_i v0 hv0
              cases hs
              refine ⟨rfl, ?_⟩
              cases u with
              | slice base len cf =>
                cases base with
                | none =>
                  left
                  intro h2
                  have : sSlice h2 sz (.slice none len cf) vlo vhi vmx = sSlice h sz (.slice none len cf) vlo vhi vmx := rfl
                  simp only [simple, hu, hlo, hhi, hmx, this, hv0]
                | some ad =>
                  obtain ⟨b, o, sp⟩ := ad
                  cases sp with
                  | some q =>
                    exfalso
                    simp only [sSlice] at hv0
                    repeat' (split at hv0)
                    all_goals (first | (cases hv0; done) | skip)
                  | none =>
                    right
                    refine ⟨b, by simp only [loadB, hop, hu], ?_, fun h2 h2b => ?_⟩
                    · intro hn
                      simp only [sSlice, hn] at hv0
                      repeat' (split at hv0)
                      all_goals (first | (cases hv0; done) | skip)
                    · have : sSlice h2 sz (.slice (some ⟨b, o, none⟩) len cf) vlo vhi vmx = sSlice h sz (.slice (some ⟨b, o, none⟩) len cf) vlo vhi vmx := by
                        simp only [sSlice, h2b]
                      simp only [simple, hu, hlo, hhi, hmx, this, hv0]
              | _ => simp [sSlice] at hv0
            · cases hs
          · cases hs
        · cases hs
      · cases hs
    · cases hs

/-- A block is made; its number on the abstract side is β. -/
def MkOk (P : Program) (o : Oper) (e : Env) (c : List Value) (sz β : Nat) (v : Value) : Prop :=
  ∀ (ρ : Rho) (a : Act) (w : World), AR ρ e a.eval o.op.operands.toList → ∃ v' w' C el len, (execOp a.eval o).run P w = .ok (.value v') w' ∧ SameIO w w' ∧ w'.heap = w.heap.push (.cells C el (0, 0)) ∧ c.length ≤ len ∧ len ≤ C.size ∧
    (∀ (i : Nat) (v : Value), c[i]? = some v → ∃ v', C[i]? = some v' ∧ VRel ρ v v') ∧ VRel (ρ.upd β ⟨w.heap.size, 0, c.length, len, sz⟩) v v'

def makes : Op → Bool
  | .alloc _ | .box .. | .buildSlice .. => true
  | _ => false

theorem map_kind {α : Type} {x : Option α} {f : α → SOp} {op : SOp} (hf : ∀ a, kindOf (f a) ≠ 2) (h : x.map f = some op) : kindOf op ≠ 2 := by
  obtain ⟨q, _, hq⟩ := map_some h
  rw [← hq]
  exact hf q

theorem some_kind {o op : SOp} (hf : kindOf o ≠ 2) (h : some o = some op) : kindOf op ≠ 2 := by cases h; exact hf

theorem kind_not {dst : Option Tmp} {op0 : Op} {ty : TypeId} {pos : String} {after : Array Edge} {g : Option (Nat × Bool)} {op : SOp}
    (hop : sOp P ⟨dst, op0, ty, pos, after, g⟩ = some op) (hm : makes op0 = false) : kindOf op ≠ 2 := by
  cases op0 with
  | alloc x => cases hm
  | box t x => cases hm
  | buildSlice t n ps => cases hm
  | move x => exact map_kind (fun _ => by simp [kindOf]) hop
  | assign x => exact map_kind (fun _ => by simp [kindOf]) hop
  | nilCheck x => exact map_kind (fun _ => by simp [kindOf]) hop
  | unOp u t x => exact map_kind (fun _ => by simp [kindOf]) hop
  | extract x i => exact map_kind (fun _ => by simp [kindOf]) hop
  | makeFunc fn x y =>
    cases fn with
    | func f =>
      simp only [sOp] at hop
      split at hop
      · exact some_kind (by simp [kindOf]) hop
      · cases hop
    | _ => cases hop
  | build t ps =>
    simp only [sOp] at hop
    split at hop
    · exact map_kind (fun _ => by simp [kindOf]) hop
    · cases hop
  | indexAddr t x i =>
    simp only [sOp] at hop
    split at hop
    · exact map_kind (fun _ => by simp [kindOf]) hop
    · cases hop
  | binOp o t x y u =>
    simp only [sOp] at hop
    split at hop
    · rw [Bool.cond_eq_ite] at hop
      split at hop
      · split at hop
        · split at hop <;> first | (exact some_kind (by simp [kindOf]) hop) | cases hop
        · exact some_kind (by simp [kindOf]) hop
        · split at hop
          · rw [Bool.cond_eq_ite] at hop
            split at hop
            · cases hop
            · exact some_kind (by simp [kindOf]) hop
          · cases hop
      · exact some_kind (by simp [kindOf]) hop
    · cases hop
  | slice t x lo hi mx =>
    simp only [sOp] at hop
    split at hop
    · split at hop
      · split at hop <;> first | (exact some_kind (by simp [kindOf]) hop) | cases hop
      · cases hop
    · cases hop
  | fieldAddr s x f =>
    simp only [sOp] at hop
    split at hop
    · split at hop
      · split at hop <;> first | (exact some_kind (by simp [kindOf]) hop) | cases hop
      · cases hop
    · cases hop
  | field s x f =>
    simp only [sOp] at hop
    split at hop
    · split at hop
      · split at hop <;> first | (exact some_kind (by simp [kindOf]) hop) | cases hop
      · cases hop
    · cases hop
  | typeAssert x t u ok =>
    simp only [sOp] at hop
    split at hop
    · cases hop
    · split at hop <;> first | (exact some_kind (by simp [kindOf]) hop) | cases hop
    · cases hop
  | load t x => simp only [sOp] at hop; split at hop <;> first | (exact some_kind (by simp [kindOf]) hop) | cases hop
  | store t x y => simp only [sOp] at hop; split at hop <;> first | (exact some_kind (by simp [kindOf]) hop) | cases hop
  | pick c x y => simp only [sOp] at hop; split at hop <;> first | (exact some_kind (by simp [kindOf]) hop) | cases hop
  | makeInterface t x => simp only [sOp] at hop; split at hop <;> first | (exact some_kind (by simp [kindOf]) hop) | cases hop
  | call c =>
    obtain ⟨callee, xs, ts⟩ := c
    simp only [sOp, sCall] at hop
    cases callee with
    | builtin b =>
      simp only at hop
      split at hop
      · split at hop <;> first | (exact some_kind (by simp [kindOf]) hop) | cases hop
      · exact some_kind (by simp [kindOf]) hop
      · exact some_kind (by simp [kindOf]) hop
      · split at hop
        · split at hop
          · rw [Bool.cond_eq_ite] at hop
            split at hop
            · exact some_kind (by simp [kindOf]) hop
            · cases hop
          · cases hop
        · cases hop
      · split at hop
        · split at hop
          · rw [Bool.cond_eq_ite] at hop
            split at hop
            · exact some_kind (by simp [kindOf]) hop
            · cases hop
          · cases hop
        · cases hop
      · cases hop
    | value f =>
      simp only at hop
      split at hop
      · exact some_kind (by simp [kindOf]) hop
      · cases hop
    | invoke r m =>
      simp only at hop
      split at hop
      · exact some_kind (by simp [kindOf]) hop
      · cases hop
  | _ => cases hop

theorem simple_make {o : Oper} {op : SOp} {e : Env} {h h' : Hp} {v : Value} (hop : sOp P o = some op) (hk : kindOf op = 2) (hs : simple op e h = some (v, h')) :
    ∃ c sz, h' = (h.alloc c sz).2 ∧ MkOk P o e c sz h.next v := by
  obtain ⟨dst, op0, ty, pos, after, g⟩ := o
  cases op0 with
  | alloc t =>
    obtain ⟨z, hz, rfl⟩ := map_some hop
    simp only [simple, Option.some.injEq, Prod.mk.injEq] at hs
    obtain ⟨rfl, rfl⟩ := hs
    obtain ⟨_, _, _, _, _, hc⟩ := zeroO_spec hz
    refine ⟨_, _, rfl, fun ρ a w _ => ⟨.pointer (some ⟨w.heap.size, 0, none⟩), { w with heap := w.heap.push (.cells z.cells t) }, z.cells, t, z.cells.toList.length, ?_, ⟨rfl, rfl, rfl⟩, rfl, Nat.le_refl _, by simp, list_arr (closedL_self _ hc), ptr_new _ _ _ _ _ _⟩⟩
    refine run_v ?_
    simp [Instr.alloc, run_zeroValue' hz, run_newVar]
  | box t x =>
    obtain ⟨y, hy, rfl⟩ := map_some hop
    simp only [simple] at hs
    split at hs
    · rename_i u hu
      by_cases hc : u.cells.toList.all oneCell
      · rw [hc] at hs
        cases hs
        refine ⟨_, _, rfl, fun ρ a w hA => ?_⟩
        have hr := cells_rel (hA x (by simp [Op.operands]) _ _ hy hu)
        refine ⟨.pointer (some ⟨w.heap.size, 0, none⟩), { w with heap := w.heap.push (.cells (a.eval x).cells t) }, (a.eval x).cells, t, u.cells.toList.length, ?_, ⟨rfl, rfl, rfl⟩, rfl, Nat.le_refl _, by have := hr.1; simp at this; simp; omega, list_arr hr, ptr_new _ _ _ _ _ _⟩
        refine run_v ?_
        simp [Instr.box, run_newVar]
      · simp only [Bool.not_eq_true] at hc
        rw [hc] at hs
        cases hs
    · cases hs
  | buildSlice t len ps =>
    simp only [sOp] at hop
    split at hop
    · rename_i el hu
      split at hop
      · rename_i z n hz hn
        by_cases hc : Nat.ble (len * n) 16777216 && Nat.beq z.cells.size n && Nat.ble 1 n
        · rw [hc, cond_true] at hop
          simp only [Bool.and_eq_true, beq_dec, decide_eq_true_eq, Nat.ble_eq] at hc
          obtain ⟨⟨hle, hzn⟩, h1⟩ := hc
          obtain ⟨qs, hq, rfl⟩ := map_some hop
          simp only [simple] at hs
          split at hs
          · rename_i l hl
            split at hs
            · rename_i c hcc
              cases hs
              refine ⟨_, _, rfl, fun ρ a w hA => ?_⟩
              obtain ⟨i, _, _, _, _, hcl⟩ := zeroO_spec hz
              obtain ⟨g1, g2⟩ := parts_rel (ev := a.eval) _ _ _ (by simpa [Op.operands] using hA) hq hl
              have hze := zeros_eq z.cells n len hzn h1
              obtain ⟨R, r1, r2⟩ := fill_rel (place := fun i => some (i * n, n)) l _ _ ((Array.range (len * n)).map (fun i => z.cells[i % z.cells.size]!)) c g1 g2
                (by rw [hze]; exact closedL_self _ (repl_closed _ _ hcl)) hcc
              have hclen : c.length = len * n := by
                rw [fillA_length _ _ _ hcc, repl_length]
                simp [hzn]
              have hRlen : R.size = len * n := by have := r2.1; simp at this; omega
              refine ⟨.slice (some ⟨w.heap.size, 0, none⟩) len len, { w with heap := w.heap.push (.cells R el) }, R, el, len * n, ?_, ⟨rfl, rfl, rfl⟩, rfl, by omega, by omega, list_arr r2, slice_new _ _ _ _ _ _ _ _ (Nat.le_refl _) (by omega) (by omega) (by omega)⟩
              refine run_v ?_
              have hn24 : ¬ (len * n > 2 ^ 24) := by omega
              simp only [Instr.buildSlice, Sem.run_bind, run_underlying' hu, Result.andThen_ok, run_sizeOf' hn, hn24, if_false]
              by_cases h0 : len * n = 0
              · have hR0 : Instr.fill (fun i => some (i * n, n)) ((Array.range (len * n)).map (fun i => (#[] : Array Value)[i % (#[] : Array Value).size]!)) (ps.map fun x => (x.1, a.eval x.2)).toList = some R := by
                  rw [map_pairs, ← r1]
                  congr 1
                  rw [h0]
                  simp
                rw [h0] at hR0
                simp only [h0, if_true, Sem.run_bind, Sem.run_pure, Result.andThen_ok, hR0]
                simp [newRow]
              · simp only [h0, if_false, Sem.run_bind, run_zeroValue' hz, Result.andThen_ok, Sem.run_pure, map_pairs, r1]
                simp [newRow]
            · cases hs
          · cases hs
        · simp only [Bool.not_eq_true] at hc
          rw [hc] at hop
          cases hop
      · cases hop
    · cases hop
  | _ => exact absurd hk (kind_not hop rfl)

/-- A block that is there on the abstract side alone comes to be. -/
theorem HRel.realize {w' : World} (hr : HRel K W ρ h w) (io : SameIO w w') {β : Nat} {c : List Value} {sz : Nat} (hb : h.t.get β = some (.cells c sz true)) (hn : ρ β = none) (hlt : β < h.next) (C : Array Value) (el : TypeId) (len : Nat)
    (hh : w'.heap = w.heap.push (.cells C el (0, 0))) (hl : c.length ≤ len) (hC : len ≤ C.size) (hv : ∀ (i : Nat) (v : Value), c[i]? = some v → ∃ v', C[i]? = some v' ∧ VRel ρ v v') :
    HRel K W (ρ.upd β ⟨w.heap.size, 0, c.length, len, sz⟩) h w' ∧ ρ.le (ρ.upd β ⟨w.heap.size, 0, c.length, len, sz⟩) := by
  have hle : ρ.le (ρ.upd β ⟨w.heap.size, 0, c.length, len, sz⟩) := by
    intro b q hq
    unfold Rho.upd
    rw [if_neg (fun hx => by subst hx; rw [hn] at hq; cases hq)]
    exact hq
  refine ⟨?_, hle⟩
  have hold : ∀ k, k < w.heap.size → w'.heap[k]? = w.heap[k]? := fun k hk => by rw [hh, Array.getElem?_push, if_neg (by omega)]
  have hsz : w'.heap.size = w.heap.size + 1 := by rw [hh]; simp
  obtain ⟨p, kb, d, f, l, e⟩ := hr
  have hps := p.size
  refine ⟨⟨io.os.trans p.os, io.tape.trans p.tape, io.output.trans p.output, by omega, fun k hk => ?_⟩, kb, fun b q hb => ?_, f, fun b c' sz' own q hb' hq => ?_, fun b b' c1 sz1 c2 sz2 own' p1 p2 hne h1 h2 hp1 hp2 => ?_⟩
  · have := kb k hk
    rw [hold k (by omega)]; exact p.blk k hk
  · unfold Rho.upd at hb
    split at hb
    · cases hb; rename_i hx; subst hx; exact ⟨hlt, by simp; omega⟩
    · have := d b q hb; exact ⟨this.1, by omega⟩
  · unfold Rho.upd at hq
    split at hq
    · rename_i hx
      subst hx
      cases hq
      rw [hb] at hb'
      cases hb'
      refine ⟨rfl, rfl, ⟨C, el, (0, 0), by rw [hh, Array.getElem?_push, if_pos rfl], by simp; omega, fun i v hi => ?_, fun _ => ⟨by simpa using hl, by simpa using hC, fun i _ hi => by simp⟩⟩, fun _ hk => ?_⟩
      · obtain ⟨v', h1, h2⟩ := hv i v hi
        exact ⟨v', by simpa using h1, h2.mono hle⟩
      · have := kb _ hk
        simp at this
        omega
    · obtain ⟨a1, a2, ⟨C', el', fr', b1, b2, b3, b4⟩, a4⟩ := l b c' sz' own q hb' hq
      refine ⟨a1, a2, ⟨C', el', fr', by rw [hold _ (d b q hq).2]; exact b1, b2, fun i v hi => ?_, b4⟩, a4⟩
      obtain ⟨v', h1, h2⟩ := b3 i v hi
      exact ⟨v', h1, h2.mono hle⟩
  · unfold Rho.upd at hp1 hp2
    split at hp1
    · rename_i hx
      subst hx
      cases hp1
      rw [if_neg (Ne.symm hne)] at hp2
      have := (d b' p2 hp2).2
      simp; omega
    · split at hp2
      · cases hp2
        have := (d b p1 hp1).2
        simp; omega
      · exact e b b' _ _ _ _ _ p1 p2 hne h1 h2 hp1 hp2

/-- A block on the abstract side alone. -/
theorem HRel.phantom (hr : HRel K W ρ h w) (c : List Value) (sz : Nat) : HRel K W ρ (h.alloc c sz).2 w ∧ ρ h.next = none := by
  have hn : ρ h.next = none := by
    cases hx : ρ h.next with
    | none => rfl
    | some p => have := (hr.dom _ _ hx).1; omega
  obtain ⟨p, kb, d, f, l, e⟩ := hr
  refine ⟨⟨p, kb, fun b q hb => ?_, fun b hb => ?_, fun b c' sz' own q hb hq => ?_, fun b b' c1 sz1 c2 sz2 own' p1 p2 hne h1 h2 hp1 hp2 => ?_⟩, hn⟩
  · have := d b q hb; exact ⟨by simp [Hp.alloc]; omega, this.2⟩
  · simp only [Hp.alloc] at hb ⊢
    rw [T.get_set_ne _ _ _ _ (by omega)]; exact f b (by omega)
  · simp only [Hp.alloc] at hb
    rw [T.get_set_ne _ _ _ _ (fun hx => by subst hx; rw [hn] at hq; cases hq)] at hb
    exact l b c' sz' own q hb hq
  · simp only [Hp.alloc] at h1 h2
    rw [T.get_set_ne _ _ _ _ (fun hx => by subst hx; rw [hn] at hp1; cases hp1)] at h1
    rw [T.get_set_ne _ _ _ _ (fun hx => by subst hx; rw [hn] at hp2; cases hp2)] at h2
    exact e b b' _ _ _ _ _ p1 p2 hne h1 h2 hp1 hp2
end
end Go.Eng
