/- What the model does at an operation: stores, slices, strings, maps. -/
import Derived.Test.YtfhkjlokfijpiaaAb
import Derived.MapKept
set_option linter.unusedSimpArgs false
set_option linter.unusedVariables false
namespace Go.Ab
open Go

variable {K : KP} {P : Program} {c : RC} {h : Heap} {env : Env} {a : Act} {o : Oper}

/-! ### Stores -/

/-- A world in which cells have been stored, one by one. -/
def putCells (w : World) (b o : Nat) : List Value → World
  | [] => w
  | v :: vs => putCells (w.setCell ⟨b, o, none⟩ v) b (o + 1) vs

theorem putCells_spec : ∀ (vs : List Value) (w : World) (b o : Nat) (cs : Array Value) (e : TypeId) (fr : Nat × Nat), w.heap[b]? = some (.cells cs e fr) →
    (putCells w b o vs).heap[b]? = some (.cells (setAll cs o vs) e fr) ∧ (putCells w b o vs).heap.size = w.heap.size ∧ (∀ b', b' ≠ b → (putCells w b o vs).heap[b']? = w.heap[b']?) ∧
    (putCells w b o vs).os = w.os ∧ (putCells w b o vs).tape = w.tape ∧ (putCells w b o vs).output = w.output
  | [], w, b, o, cs, e, fr, h => ⟨h, rfl, fun _ _ => rfl, rfl, rfl, rfl⟩
  | v :: vs, w, b, o, cs, e, fr, h => by
    have h1 : (w.setCell ⟨b, o, none⟩ v).heap[b]? = some (.cells (cs.setIfInBounds o v) e fr) := by
      simp [World.setCell, Array.getElem?_modify, h]
    have h2 : ∀ b', b' ≠ b → (w.setCell ⟨b, o, none⟩ v).heap[b']? = w.heap[b']? := by
      intro b' hb'
      simp only [World.setCell, Array.getElem?_modify]
      rw [if_neg (fun e => hb' e.symm)]
    obtain ⟨h3, h4, h5, h6, h7, h8⟩ := putCells_spec vs (w.setCell ⟨b, o, none⟩ v) b (o + 1) _ e fr h1
    refine ⟨h3, by simp only [putCells]; rw [h4]; simp, fun b' hb' => ?_, h6, h7, h8⟩
    simp only [putCells]
    rw [h5 b' hb', h2 b' hb']

theorem frozen_of_heap {w : World} {b o : Nat} {cs : Array Value} {e : TypeId} {fr : Nat × Nat} (h : w.heap[b]? = some (.cells cs e fr)) (hf : NF fr cs.size) (ho : o < cs.size) :
    w.frozen? ⟨b, o, none⟩ = false := by
  have := hf o ho
  simp only [World.frozen?, h]
  simp only [Bool.and_eq_false_iff, decide_eq_false_iff_not]
  omega

theorem run_stores : ∀ (vs : List Value) (w : World) (b o i : Nat) (cs : Array Value) (e : TypeId) (fr : Nat × Nat), w.heap[b]? = some (.cells cs e fr) → NF fr cs.size → o + i + vs.length ≤ cs.size →
    (∀ v ∈ vs, v.oneCell' = true) → (storeCells ⟨b, o, none⟩ vs i).run P w = .ok () (putCells w b (o + i) vs)
  | [], w, b, o, i, cs, e, fr, _, _, _, _ => rfl
  | v :: vs, w, b, o, i, cs, e, fr, h, hf, hl, h1 => by
    simp only [List.length_cons] at hl
    have hv := h1 v (by simp)
    have hc : w.cell? ⟨b, o + i, none⟩ = some (cs[o + i]'(by omega)) := by rw [cell_of_heap h]; simp
    have hs := run_store P w ⟨b, o + i, none⟩ v .plain hv
    rw [hc, frozen_of_heap h hf (by omega)] at hs
    simp only [Bool.false_eq_true, if_false] at hs
    have h2 : (w.setCell ⟨b, o + i, none⟩ v).heap[b]? = some (.cells (cs.setIfInBounds (o + i) v) e fr) := by
      simp [World.setCell, Array.getElem?_modify, h]
    have ih := run_stores vs (w.setCell ⟨b, o + i, none⟩ v) b o (i + 1) _ e fr h2 (by simpa using hf) (by simp; omega) (fun u hu => h1 u (by simp [hu]))
    simp only [storeCells, add_addr, Sem.run_bind, hs, Result.andThen, putCells]
    rw [ih, show o + (i + 1) = o + i + 1 by omega]

/-- Cells stored into a live row. -/
theorem HR.stores (H : HR K c h) {i : Nat} {xs ys : List AV} {off : Nat} {vs : List Value} (hr : rowOf h i = some xs) (hl : off + ys.length ≤ xs.length) (hy : LR c ys vs) (h1 : ∀ v ∈ vs, v.oneCell' = true) :
    ∃ w', (∀ k, k ≤ off → (storeCells ⟨c.ρ i, off - k, none⟩ vs k).run P c.w = .ok () w') ∧ Ext c { c with w := w' } ∧ HR K { c with w := w' } (h.set i (.row (splice xs off ys))) := by
  obtain ⟨cs, e, fr, h2, h3, h4⟩ := H.row hr
  have hlen := hy.len
  have hle := h4.le
  obtain ⟨h5, h6, h7, h8, h9, h10⟩ := putCells_spec vs c.w (c.ρ i) off cs e fr h2
  have up := H.upd (o' := .row (splice xs off ys)) (rowOf_some hr) (by simp) (w' := putCells c.w (c.ρ i) off vs) h6 h7
    (fun cs' e' fr' he => by
      rw [h2] at he
      cases he
      exact ⟨_, _, _, h5, setAll_size _ _ _⟩) (fun l hl => by rw [h2] at hl; cases hl) h8 h9 h10
    (fun ex => ⟨_, e, fr, h5, by rw [setAll_size]; exact h3, (h4.splice hy h1).ext ex⟩) (by simp)
  refine ⟨putCells c.w (c.ρ i) off vs, fun k hk => ?_, up.1, up.2⟩
  have := run_stores (P := P) vs c.w (c.ρ i) (off - k) k cs e fr h2 h3 (by omega) h1
  rwa [show off - k + k = off by omega] at this

theorem s_st (H : HR K c h) (he : EnvR c env a.tmps) {t : TypeId} {n : Nat} {x y : Operand} {x' y' : Opd} {h' : Heap} (ho : o.op = .store t x y) (hx : trOpd x = some x') (hy : trOpd y = some y')
    (hn : szOf P t = some n) (hv : stA h n (env.ev x') (env.ev y') = some h') : Good K c (.lit .unit) h' ((execOp a.eval o).run P c.w) := by
  have h1 := trOpd_R (c := c) hx he
  have h2 := trOpd_R (c := c) hy he
  unfold stA at hv
  split at hv
  · rename_i i off e1
    split at hv
    · rename_i xs hr
      split at hv
      · rename_i hc
        obtain ⟨hc1, hc2, hc3⟩ := hc
        cases hv
        rw [e1] at h1
        simp only [VR] at h1
        obtain ⟨h3, h4⟩ := cells_R hc3 h2
        have hsz : (a.eval y).cells.size = n := by have := h3.len; simp at this; omega
        obtain ⟨w', h5, h6, h7⟩ := H.stores (P := P) hr (by rw [hc1]; exact hc2) h3 (by simpa using h4)
        refine ⟨_, undef, .inr ⟨?_, rfl⟩, h6, h7, VR.unit⟩
        have h8 := h5 0 (Nat.zero_le _)
        simp [execOp, ho, Instr.storeAt, h1.2, Instr.sureAddr, Result.andThen, storeVar, sizeOf_run hn, hsz]
        rw [show off - 0 = off by omega] at h8
        rw [h8]
      · cases hv
    · cases hv
  · cases hv

/-! ### Slices -/

theorem trOO_R {lo : Option Operand} {lo' : Option Opd} (h1 : trOO lo = some lo') (he : EnvR c env a.tmps) :
    (lo = none ∧ lo' = none) ∨ ∃ x y, lo = some x ∧ lo' = some y ∧ VR c (env.ev y) (a.eval x) := by
  cases lo with
  | none => simp [trOO] at h1; exact .inl ⟨rfl, h1.symm⟩
  | some x =>
    simp only [trOO] at h1
    obtain ⟨y, h2, rfl⟩ := Option.map_eq_some_iff.1 h1
    exact .inr ⟨x, y, rfl, rfl, trOpd_R h2 he⟩

/-- The model's bounds. -/
theorem bounds_R {isSlice : Bool} {len cap : Nat} {lo hi : Option Operand} {lo' hi' : Option Opd} {l q : Nat} (he : EnvR c env a.tmps) (h1 : trOO lo = some lo') (h2 : trOO hi = some hi') (hlc : len ≤ cap)
    (hb : bounds len (lo'.map env.ev) (hi'.map env.ev) = some (l, q)) :
    l ≤ q ∧ q ≤ len ∧ ∀ w, (Instr.sliceBounds isSlice len cap (lo.map a.eval) (hi.map a.eval) none).run P w = .ok (l, q, cap) w := by
  unfold bounds at hb
  split at hb
  · rename_i hh ll e1 e2
    split at hb
    · rename_i hc
      cases hb
      refine ⟨by omega, by omega, fun w => ?_⟩
      rcases trOO_R h1 he with ⟨rfl, rfl⟩ | ⟨x, x', rfl, rfl, hx⟩ <;> rcases trOO_R h2 he with ⟨rfl, rfl⟩ | ⟨y, y', rfl, rfl, hy⟩
      · simp at e1 e2
        subst e1; subst e2
        simp [Instr.sliceBounds, Result.andThen]
      · simp at e1 e2
        subst e2
        obtain ⟨k, -, hy'⟩ := intOf_R e1 hy
        simp [Instr.sliceBounds, Instr.sliceBound, Result.andThen, hy', asIntOf]
        rw [if_pos (by omega)]
      · simp at e1 e2
        subst e1
        obtain ⟨k, -, hx'⟩ := intOf_R e2 hx
        simp [Instr.sliceBounds, Instr.sliceBound, Result.andThen, hx', asIntOf]
        rw [if_pos (by omega)]
      · simp at e1 e2
        obtain ⟨k, -, hy'⟩ := intOf_R e1 hy
        obtain ⟨k', -, hx'⟩ := intOf_R e2 hx
        simp [Instr.sliceBounds, Instr.sliceBound, Result.andThen, hx', hy', asIntOf]
        rw [if_pos (by omega)]
        simp only []
        rw [if_pos (by omega)]
    · cases hb
  · cases hb

theorem s_sliceS (H : HR K c h) (he : EnvR c env a.tmps) {t : TypeId} {x : Operand} {lo hi : Option Operand} {x' : Opd} {lo' hi' : Option Opd} {s : ByteArray} {l q : Nat} (ho : o.op = .slice t x lo hi none)
    (hx : trOpd x = some x') (h1 : trOO lo = some lo') (h2 : trOO hi = some hi') (ht : P.underlying t = some .string) (hs : env.ev x' = .lit (.str s))
    (hb : bounds s.size (lo'.map env.ev) (hi'.map env.ev) = some (l, q)) : Good K c (.lit (.str (s.extract l q))) h ((execOp a.eval o).run P c.w) := by
  have h3 := trOpd_R (c := c) hx he
  rw [hs] at h3
  obtain ⟨h4, h5, h6⟩ := bounds_R (P := P) (isSlice := false) he h1 h2 (Nat.le_refl _) hb
  refine .pure H (u := .string (s.extract l q)) ?_ VR.str
  simp [execOp, ho, Instr.sliceAt, underlying_run ht, Instr.slice, lit_str h3, Result.andThen, h6]

theorem s_slice (H : HR K c h) (he : EnvR c env a.tmps) {t e : TypeId} {n : Nat} {x : Operand} {lo hi : Option Operand} {x' : Opd} {lo' hi' : Option Opd} {v : AV} (ho : o.op = .slice t x lo hi none)
    (hx : trOpd x = some x') (h1 : trOO lo = some lo') (h2 : trOO hi = some hi') (ht : P.underlying t = some (.slice e)) (hn : szOf P e = some n)
    (hv : sliceSl n (env.ev x') (lo'.map env.ev) (hi'.map env.ev) = some v) : Good K c v h ((execOp a.eval o).run P c.w) := by
  have h3 := trOpd_R (c := c) hx he
  unfold sliceSl at hv
  split at hv
  · rename_i i off len s e1
    split at hv
    · rename_i l q hb
      split at hv
      · rename_i hs
        rw [e1] at h3
        simp only [VR] at h3
        obtain ⟨hD, cap, e2, hlc, cs, el, fr, h4, h5⟩ := h3
        obtain ⟨h6, h7, h8⟩ := bounds_R (P := P) (isSlice := true) he h1 h2 hlc hb
        have hrun : (execOp a.eval o).run P c.w = .ok (.value (.slice (some (if cap = l then ⟨c.ρ i, off, none⟩ else ⟨c.ρ i, off + l * n, none⟩)) (q - l) (cap - l))) c.w := by
          simp [execOp, ho, Instr.sliceAt, underlying_run ht, Instr.slice, e2, Result.andThen, h8, sizeOf_run hn, add_addr]
          split <;> rfl
        split at hv
        · rename_i hlq
          cases hv
          refine .pure H hrun ?_
          simp only [VR]
          exact ⟨by simp, .inl ⟨by simp, _, _, by rw [show q - l = 0 by omega]⟩⟩
        · rename_i hlq
          cases hv
          refine .pure H hrun ?_
          simp only [VR]
          refine ⟨hD, cap - l, ?_, by omega, cs, el, fr, h4, ?_⟩
          · by_cases hcl : cap = l
            · have : l = 0 := by omega
              subst this
              simp [hcl]
            · rw [if_neg hcl]
          · subst hs
            have : l * s + (cap - l) * s = cap * s := by rw [← Nat.add_mul]; congr 1; omega
            omega
      · cases hv
    · cases hv
  · rename_i xs len s e1
    split at hv
    · rename_i l q hb
      split at hv
      · rename_i hs
        cases hv
        rw [e1] at h3
        simp only [VR] at h3
        obtain ⟨hxl, h3⟩ := h3
        have hdl : ((xs.drop (l * n)).take ((q - l) * n)).length = (q - l) * n := by
          have hq : q ≤ len ∧ l ≤ q := by
            unfold bounds at hb
            split at hb
            · split at hb
              · cases hb; omega
              · cases hb
            · cases hb
          have : l * n + (q - l) * n ≤ len * n := by rw [← Nat.add_mul]; exact Nat.mul_le_mul_right _ (by omega)
          simp
          subst hs
          omega
        rcases h3 with ⟨h0, ad, cap, e2⟩ | ⟨h0, b, o', cap, e2, hlc, h4, h5, h6⟩
        · obtain ⟨h7, h8, h9⟩ := bounds_R (P := P) (isSlice := true) (cap := cap) he h1 h2 (by omega) hb
          have hq0 : q = 0 ∧ l = 0 := by omega
          obtain ⟨rfl, rfl⟩ := hq0
          refine .pure H (u := .slice ad 0 cap) ?_ ?_
          · simp [execOp, ho, Instr.sliceAt, underlying_run ht, Instr.slice, e2, Result.andThen, h0 ▸ h9, sizeOf_run hn]
            intro _
            cases ad with
            | none => rfl
            | some ad => simp [Addr.add]
          · simp only [VR]
            exact ⟨by simp, .inl ⟨by simp, ad, cap, rfl⟩⟩
        · obtain ⟨h7, h8, h9⟩ := bounds_R (P := P) (isSlice := true) he h1 h2 hlc hb
          have hrun : (execOp a.eval o).run P c.w = .ok (.value (.slice (some (if cap = l then ⟨b, o', none⟩ else ⟨b, o' + l * n, none⟩)) (q - l) (cap - l))) c.w := by
            simp [execOp, ho, Instr.sliceAt, underlying_run ht, Instr.slice, e2, Result.andThen, h9, sizeOf_run hn, add_addr]
            split <;> rfl
          refine .pure H hrun ?_
          simp only [VR]
          refine ⟨hdl, ?_⟩
          by_cases hq : q - l = 0
          · exact .inl ⟨hq, _, _, by rw [hq]⟩
          · refine .inr ⟨by omega, b, o' + l * n, cap - l, by rw [if_neg (by omega)], by omega, h4, h5, ?_⟩
            exact CR.take _ (CR.drop _ h6)
      · cases hv
    · cases hv
  · rename_i e1
    split at hv
    · rename_i lq hb
      cases hv
      rw [e1] at h3
      simp only [VR, AL.v] at h3
      obtain ⟨h7, h8, h9⟩ := bounds_R (P := P) (isSlice := true) (cap := 0) (l := lq.1) (q := lq.2) he h1 h2 (Nat.le_refl _) hb
      refine .pure H (u := .slice none 0 0) ?_ VR.lit
      simp [execOp, ho, Instr.sliceAt, underlying_run ht, Instr.slice, h3, Result.andThen, h9, sizeOf_run hn]
      omega
    · cases hv
  · rename_i e1
    split at hv
    · rename_i lq hb
      cases hv
      rw [e1] at h3
      simp only [VR] at h3
      obtain ⟨ad, e2⟩ := h3
      obtain ⟨h7, h8, h9⟩ := bounds_R (P := P) (isSlice := true) (cap := 0) (l := lq.1) (q := lq.2) he h1 h2 (Nat.le_refl _) hb
      have hl0 : lq.1 = 0 := by omega
      refine .pure H (u := .slice ad 0 0) ?_ (by simp only [VR]; exact ⟨ad, rfl⟩)
      simp [execOp, ho, Instr.sliceAt, underlying_run ht, Instr.slice, e2, Result.andThen, h9, sizeOf_run hn, hl0]
      omega
    · cases hv
  · cases hv

/-- x[0:0:0]. -/
theorem s_slice3 (H : HR K c h) (he : EnvR c env a.tmps) {t e : TypeId} {n : Nat} {x lo hi mx : Operand} {x' lo' hi' mx' : Opd} {v : AV} (ho : o.op = .slice t x (some lo) (some hi) (some mx))
    (hx : trOpd x = some x') (h1 : trOpd lo = some lo') (h2 : trOpd hi = some hi') (h3 : trOpd mx = some mx') (ht : P.underlying t = some (.slice e)) (hn : szOf P e = some n)
    (i1 : intOf (env.ev lo') = some 0) (i2 : intOf (env.ev hi') = some 0) (i3 : intOf (env.ev mx') = some 0)
    (hv : (match env.ev x' with | .sl _ _ _ _ => some AV.emp | .ro _ _ _ => some .emp | .emp => some .emp | .lit .nils => some (.lit .nils) | _ => none) = some v) : Good K c v h ((execOp a.eval o).run P c.w) := by
  obtain ⟨k1, -, g1⟩ := intOf_R i1 (trOpd_R (c := c) h1 he)
  obtain ⟨k2, -, g2⟩ := intOf_R i2 (trOpd_R (c := c) h2 he)
  obtain ⟨k3, -, g3⟩ := intOf_R i3 (trOpd_R (c := c) h3 he)
  have hxv := trOpd_R (c := c) hx he
  have key : ∀ (ad : Option Addr) (len cap : Nat), a.eval x = .slice ad len cap → (execOp a.eval o).run P c.w = .ok (.value (.slice ad 0 0)) c.w := by
    intro ad len cap e1
    simp [execOp, ho, Instr.sliceAt, underlying_run ht, Instr.slice, e1, Result.andThen, Instr.sliceBounds, Instr.sliceBound, g1, g2, g3, asIntOf, sizeOf_run hn]
  split at hv
  · rename_i e1
    cases hv
    rw [e1] at hxv
    simp only [VR] at hxv
    obtain ⟨-, cap, e2, -⟩ := hxv
    exact .pure H (key _ _ _ e2) (by simp only [VR]; exact ⟨_, rfl⟩)
  · rename_i e1
    cases hv
    rw [e1] at hxv
    simp only [VR] at hxv
    rcases hxv.2 with ⟨-, ad, cap, e2⟩ | ⟨-, b, o', cap, e2, -⟩
    · exact .pure H (key _ _ _ e2) (by simp only [VR]; exact ⟨_, rfl⟩)
    · exact .pure H (key _ _ _ e2) (by simp only [VR]; exact ⟨_, rfl⟩)
  · rename_i e1
    cases hv
    rw [e1] at hxv
    simp only [VR] at hxv
    obtain ⟨ad, e2⟩ := hxv
    exact .pure H (key _ _ _ e2) (by simp only [VR]; exact ⟨_, rfl⟩)
  · rename_i e1
    cases hv
    rw [e1] at hxv
    exact .pure H (key _ _ _ hxv) VR.lit
  · cases hv

theorem s_arrp (H : HR K c h) (he : EnvR c env a.tmps) {t e : TypeId} {n : Nat} {x : Operand} {x' : Opd} {v : AV} (ho : o.op = .sliceToArrayPointer t x) (hx : trOpd x = some x')
    (ht : P.underlying t = some (.array n e))
    (hv : (match env.ev x' with | .sl i off len _ => if n ≤ len then some (AV.ptr i off) else none | .ro xs len _ => if n ≤ len ∧ 0 < len then some (.rop xs 0) else none | _ => none) = some v) :
    Good K c v h ((execOp a.eval o).run P c.w) := by
  have hxv := trOpd_R (c := c) hx he
  split at hv
  · rename_i i off len s e1
    split at hv
    · rename_i hnl
      cases hv
      rw [e1] at hxv
      simp only [VR] at hxv
      obtain ⟨hD, cap, e2, -⟩ := hxv
      refine .pure H (u := .pointer (some ⟨c.ρ i, off, none⟩)) ?_ (by simp only [VR]; exact ⟨hD, trivial⟩)
      have hnl' : ¬ len < n := by omega
      simp [execOp, ho, Instr.arrayAt, underlying_run ht, e2, Result.andThen, hnl']
    · cases hv
  · rename_i xs len s e1
    split at hv
    · rename_i hl
      cases hv
      rw [e1] at hxv
      simp only [VR] at hxv
      rcases hxv.2 with ⟨h0, -⟩ | ⟨-, b, o', cap, e2, h1, h2, h3, h4⟩
      · omega
      · refine .pure H (u := .pointer (some ⟨b, o', none⟩)) ?_ (by simp only [VR]; exact ⟨b, o', rfl, h2, h3, h4⟩)
        have hnl' : ¬ len < n := by omega
        simp [execOp, ho, Instr.arrayAt, underlying_run ht, e2, Result.andThen, hnl']
    · cases hv
  · cases hv

/-- A slice of an array that lies somewhere. -/
theorem s_sliceA (H : HR K c h) (he : EnvR c env a.tmps) {t e : TypeId} {n sz : Nat} {x : Operand} {lo hi : Option Operand} {x' : Opd} {lo' hi' : Option Opd} {l q : Nat} {v : AV} (ho : o.op = .slice t x lo hi none)
    (hx : trOpd x = some x') (h1 : trOO lo = some lo') (h2 : trOO hi = some hi') (ht : P.underlying t = some (.array n e)) (hn : szOf P e = some sz)
    (hb : bounds n (lo'.map env.ev) (hi'.map env.ev) = some (l, q)) {xs : List AV} {off : Nat} (hB : baseOf h (env.ev x') = some (xs, off)) (hl : off + n * sz ≤ xs.length)
    (hv : (if l = q ∧ l ≠ 0 then some (AV.ro [] 0 sz) else match env.ev x' with
      | .ptr i o => some (.sl i (o + l * sz) (q - l) sz)
      | .rop ys k => some (.ro ((ys.drop (k + l * sz)).take ((q - l) * sz)) (q - l) sz)
      | _ => none) = some v) : Good K c v h ((execOp a.eval o).run P c.w) := by
  have hxv := trOpd_R (c := c) hx he
  obtain ⟨b, p, e1, hC⟩ := baseOf_R H hB hxv
  obtain ⟨h6, h7, h8⟩ := bounds_R (P := P) (isSlice := false) he h1 h2 (Nat.le_refl _) hb
  have hrun : (execOp a.eval o).run P c.w = .ok (.value (.slice (some (if n = l then ⟨b, p + off, none⟩ else ⟨b, p + off + l * sz, none⟩)) (q - l) (n - l))) c.w := by
    simp [execOp, ho, Instr.sliceAt, underlying_run ht, e1, Instr.sureAddr, Result.andThen, h8, sizeOf_run hn, add_addr]
  split at hv
  · rename_i hlq
    cases hv
    refine .pure H hrun ?_
    simp only [VR]
    exact ⟨by simp, .inl ⟨by simp, _, _, by rw [show q - l = 0 by omega]⟩⟩
  · rename_i hlq
    split at hv
    · rename_i i o1 e2
      cases hv
      refine .pure H hrun ?_
      rw [e2] at hxv hB
      simp only [VR] at hxv ⊢
      obtain ⟨hD, e3⟩ := hxv
      rw [e1] at e3
      simp only [Value.pointer.injEq, Option.some.injEq, Addr.mk.injEq] at e3
      obtain ⟨rfl, e4, -⟩ := e3
      simp only [baseOf] at hB
      split at hB
      · rename_i ys hr
        cases hB
        obtain ⟨cs, el, fr, h9, -, h10⟩ := H.row hr
        have hle := h10.le
        refine ⟨hD, n - l, ?_, by omega, cs, el, fr, h9, ?_⟩
        · by_cases hnl : n = l
          · have : l = 0 := by omega
            subst this
            simp [hnl, e4]
          · rw [if_neg hnl, e4]
        · have : l * sz + (n - l) * sz = n * sz := by rw [← Nat.add_mul]; congr 1; omega
          omega
      · cases hB
    · rename_i ys k e2
      cases hv
      refine .pure H hrun ?_
      rw [e2] at hxv hB
      simp only [VR] at hxv ⊢
      obtain ⟨b', o2, e3, g1, g2, g3⟩ := hxv
      rw [e1] at e3
      simp only [Value.pointer.injEq, Option.some.injEq, Addr.mk.injEq] at e3
      obtain ⟨rfl, e4, -⟩ := e3
      simp only [baseOf, Option.some.injEq, Prod.mk.injEq] at hB
      obtain ⟨rfl, rfl⟩ := hB
      have hmul : l * sz + (q - l) * sz ≤ n * sz := by rw [← Nat.add_mul]; exact Nat.mul_le_mul_right _ (by omega)
      refine ⟨by simp; omega, ?_⟩
      by_cases hq : q - l = 0
      · exact .inl ⟨hq, _, _, by rw [hq]⟩
      · refine .inr ⟨by omega, b, o2 + (k + l * sz), n - l, ?_, by omega, g1, g2, CR.take _ (CR.drop _ g3)⟩
        rw [if_neg (by omega), e4, Nat.add_assoc]
    · cases hv

theorem strOf_R : ∀ {xs : List AV} {vs : List Value} {l : List UInt8}, strOf xs = some l → LR c xs vs → ∃ ns : List Int, vs = ns.map (.int .u8 ·) ∧ l = ns.map fun n => UInt8.ofNat n.toNat
  | [], vs, l, h1, h2 => by
    simp only [strOf, Option.some.injEq] at h1
    simp only [LR] at h2
    subst h1; subst h2
    exact ⟨[], rfl, rfl⟩
  | x :: xs, vs, l, h1, h2 => by
    simp only [LR] at h2
    obtain ⟨v, r, rfl, h3, h4⟩ := h2
    unfold strOf at h1
    split at h1
    · rename_i heq; cases heq
    · rename_i n ys heq
      cases heq
      obtain ⟨l', h5, rfl⟩ := Option.map_eq_some_iff.1 h1
      obtain ⟨ns, rfl, rfl⟩ := strOf_R h5 h4
      exact ⟨n :: ns, by simp [lit_int h3], by simp⟩
    · cases h1

theorem sliceCells_R (H : HR K c h) {sz : Nat} {x : AV} {v : Value} {cs : List AV} {n : Nat} (h1 : sliceCells h sz x = some (cs, n)) (hv : VR c x v) :
    ∃ (ad : Option Addr) (cap : Nat), v = .slice ad n cap ∧ n ≤ cap ∧ cs.length = n * sz ∧ ((n = 0 ∧ cs = []) ∨ ∃ b o, ad = some ⟨b, o, none⟩ ∧ CR c b o cs) := by
  unfold sliceCells at h1
  split at h1
  · cases h1
    simp only [VR, AL.v] at hv
    exact ⟨none, 0, hv, Nat.le_refl _, by simp, .inl ⟨rfl, rfl⟩⟩
  · cases h1
    simp only [VR] at hv
    obtain ⟨ad, e⟩ := hv
    exact ⟨ad, 0, e, Nat.le_refl _, by simp, .inl ⟨rfl, rfl⟩⟩
  · rename_i i off len s
    split at h1
    · rename_i xs hr
      split at h1
      · rename_i hc
        obtain ⟨rfl, hl⟩ := hc
        cases h1
        simp only [VR] at hv
        obtain ⟨hD, cap, e, hlc, -⟩ := hv
        refine ⟨_, cap, e, hlc, by simp; omega, .inr ⟨_, _, rfl, ?_⟩⟩
        have := CR.take (n * s) (CR.drop off (H.rowC hr))
        rwa [Nat.zero_add] at this
      · cases h1
    · cases h1
  · rename_i xs len s
    split at h1
    · rename_i hs
      subst hs
      cases h1
      simp only [VR] at hv
      rcases hv.2 with ⟨h0, ad, cap, e⟩ | ⟨h0, b, o', cap, e, hlc, -, -, hC⟩
      · have hx := hv.1
        rw [h0, Nat.zero_mul] at hx
        exact ⟨ad, cap, by rw [h0]; exact e, by omega, by rw [h0, Nat.zero_mul]; exact hx, .inl ⟨h0, List.length_eq_zero_iff.1 hx⟩⟩
      · exact ⟨_, cap, e, hlc, hv.1, .inr ⟨b, o', rfl, hC⟩⟩
    · cases h1
  · cases h1

end Go.Ab

/- What the model does at an operation: maps. -/
namespace Go.Ab
open Go Go.MapKept

variable {K : KP} {P : Program} {c : RC} {h : Heap} {env : Env} {a : Act} {o : Oper}

theorem mapKind_some {t : TypeId} {kk : Nat} {e : TypeId} (h1 : mapKind P t = some (kk, e)) :
    ∃ kt d, P.underlying t = some (.map kt e) ∧ P.underlying kt = some d ∧ keyKind d = some kk := by
  unfold mapKind at h1
  split at h1
  · rename_i kt e' h2
    split at h1
    · rename_i d h3
      obtain ⟨k, h4, h5⟩ := Option.map_eq_some_iff.1 h1
      cases h5
      exact ⟨kt, d, h2, h3, h4⟩
    · cases h1
  · cases h1

theorem keyOk_lit {kk : Nat} {k : AV} (h1 : keyOk kk k = true) : ∃ l, k = .lit l := by
  unfold keyOk at h1
  split at h1 <;> first | exact ⟨_, rfl⟩ | cases h1

theorem keyEq_cases {l q : AL} {b : Bool} (h1 : keyEq (.lit l) (.lit q) = some b) :
    (∃ k x y, l = .int k x ∧ q = .int k y ∧ b = (x == y)) ∨ (∃ x y, l = .str x ∧ q = .str y ∧ b = (x == y)) ∨ (∃ x y, l = .bool x ∧ q = .bool y ∧ b = (x == y)) := by
  unfold keyEq at h1
  split at h1
  · rename_i k x k' y e1 e2
    cases e1; cases e2
    split at h1
    · rename_i e; subst e; simp only [Option.some.injEq] at h1; exact .inl ⟨_, _, _, rfl, rfl, h1.symm⟩
    · cases h1
  · rename_i x y e1 e2
    cases e1; cases e2
    simp only [Option.some.injEq] at h1
    exact .inr (.inl ⟨_, _, rfl, rfl, h1.symm⟩)
  · rename_i x y e1 e2
    cases e1; cases e2
    simp only [Option.some.injEq] at h1
    exact .inr (.inr ⟨_, _, rfl, rfl, h1.symm⟩)
  · cases h1

theorem keyEq_R {d : TypeDesc} {kk : Nat} {l q : AL} {b : Bool} (hd : keyKind d = some kk) (hk : keyOk kk (.lit l) = true) (h1 : keyEq (.lit l) (.lit q) = some b) : Instr.sameNow d l.v q.v = some b := by
  rcases keyEq_cases h1 with ⟨k, x, y, rfl, rfl, rfl⟩ | ⟨x, y, rfl, rfl, rfl⟩ | ⟨x, y, rfl, rfl, rfl⟩ <;> cases d <;> simp only [keyKind, Option.some.injEq, reduceCtorEq] at hd <;> subst hd <;>
    first | (simp only [keyOk, Bool.false_eq_true] at hk; done) | simp [Instr.sameNow, AL.v]

theorem keyEq_true {l q : AL} (h1 : keyEq (.lit l) (.lit q) = some true) : l = q := by
  rcases keyEq_cases h1 with ⟨k, x, y, rfl, rfl, e⟩ | ⟨x, y, rfl, rfl, e⟩ | ⟨x, y, rfl, rfl, e⟩
  · have := e.symm; simp at this; rw [this]
  · rw [(bytes_beq x y).1 e.symm]
  · have := e.symm; simp at this; rw [this]

/-- The model finds what the abstract search finds. -/
theorem find_R {d : TypeDesc} {kk : Nat} {l : AL} (hd : keyKind d = some kk) (hk : keyOk kk (.lit l) = true) : ∀ {es : List (AV × AV)} {ents : List MapEntry} {i : Nat} {r : Option (Nat × AV)},
    es.length = ents.length → (∀ (j : Nat) (k x : AV) (e : MapEntry), es[j]? = some (k, x) → ents[j]? = some e → (∃ q : AL, k = .lit q ∧ e.key = q.v) ∧ VR c x e.val) →
    findA (.lit l) es i = some r → ∃ r', Instr.findNow d l.v ents i = some r' ∧
      (match r, r' with
        | none, none => True
        | some (j, x), some (j', v) => j = j' ∧ VR c x v ∧ i ≤ j ∧ (∃ q e, es[j - i]? = some (q, x) ∧ keyEq (.lit l) q = some true ∧ ents[j - i]? = some e ∧ v = e.val)
        | _, _ => False)
  | [], ents, i, r, hl, _, h1 => by
    simp only [findA, Option.some.injEq] at h1
    subst h1
    have : ents = [] := by simpa using hl.symm
    subst this
    exact ⟨none, rfl, trivial⟩
  | (q, x) :: es, ents, i, r, hl, hh, h1 => by
    cases ents with
    | nil => simp at hl
    | cons e ents =>
      obtain ⟨⟨ql, rfl, hq⟩, hx⟩ := hh 0 q x e (by simp) (by simp)
      simp only [findA] at h1
      split at h1
      · rename_i hke
        cases h1
        refine ⟨some (i, e.val), ?_, rfl, hx, Nat.le_refl _, .lit ql, e, by simp, hke, by simp, rfl⟩
        simp only [Instr.findNow, hq, keyEq_R hd hk hke]
      · rename_i hke
        obtain ⟨r', h2, h3⟩ := find_R (i := i + 1) hd hk (by simpa using hl) (fun j k y e' hy he' => hh (j + 1) k y e' (by simpa using hy) (by simpa using he')) h1
        refine ⟨r', ?_, ?_⟩
        · simp only [Instr.findNow, hq, keyEq_R hd hk hke]
          exact h2
        · revert h3
          cases r with
          | none => cases r' with
            | none => exact id
            | some y => exact id
          | some y => cases r' with
            | none => exact id
            | some z =>
              rintro ⟨e1, e2, e3, q, e', g1, g2, g3, g4⟩
              refine ⟨e1, e2, by omega, q, e', ?_, g2, ?_, g4⟩
              · rw [show y.1 - i = (y.1 - (i + 1)) + 1 by omega]; simpa using g1
              · rw [show y.1 - i = (y.1 - (i + 1)) + 1 by omega]; simpa using g3
      · cases h1

theorem checkKey_run {kt : TypeId} {d : TypeDesc} {kk : Nat} (hd : P.underlying kt = some d) (hk : keyKind d = some kk) (e : Bool) (v : Value) (w : World) : (Instr.checkKey e 10000 kt v).run P w = .ok () w := by
  show (Instr.checkKey e (9999 + 1) kt v).run P w = _
  rw [Instr.checkKey]
  cases d <;> simp only [keyKind, reduceCtorEq] at hk <;> simp [underlying_run hd, Result.andThen]

theorem getObj_map {r : Nat} {ents : Array MapEntry} {clock : Nat} {w : World} (h1 : w.heap[r]? = some (.map ents clock)) : (getObj r).run P w = .ok (.map ents clock) w := by
  simp [getObj, Sem.run, h1]

theorem setObj_map {r : Nat} {ents : Array MapEntry} {clock : Nat} {ob : Obj} {w : World} (h1 : w.heap[r]? = some (.map ents clock)) : (setObj r ob).run P w = .ok () { w with heap := w.heap.setIfInBounds r ob } := by
  simp [setObj, Sem.run, h1]

theorem HR.mapAt (H : HR K c h) {i : Nat} {es : List (AV × AV)} (h1 : mapOf h i = some es) : ∃ (ents : Array MapEntry) (clock : Nat), c.w.heap[c.ρ i]? = some (.map ents clock) ∧ MapR c es ents :=
  let ⟨ents, clock, h1, h2, _⟩ := (H.live i _ (mapOf_some h1) (by simp)).2.2.2; ⟨ents, clock, h1, h2⟩

theorem HR.mapAt' (H : HR K c h) {i : Nat} {es : List (AV × AV)} (h1 : mapOf h i = some es) : ∃ (ents : Array MapEntry) (clock : Nat), c.w.heap[c.ρ i]? = some (.map ents clock) ∧ MapR c es ents ∧ MapKept.Stamped ents clock :=
  (H.live i _ (mapOf_some h1) (by simp)).2.2.2

theorem keyEq_false {l l' : AL} (h : keyEq (.lit l) (.lit l') = some false) : l'.v ≠ l.v := by
  intro e
  have e2 : l' = l := by
    cases l <;> cases l' <;> simp_all [AL.v]
  subst e2
  cases l' <;> simp [keyEq, (bytes_beq _ _).2] at h

theorem findA_none {k : AV} : ∀ {es : List (AV × AV)} {i : Nat}, findA k es i = some none → ∀ e ∈ es, keyEq k e.1 = some false
  | [], _, _, e, he => by simp at he
  | (q, v) :: es, i, h, e, he => by
    simp only [findA] at h
    split at h
    · cases h
    · rename_i hq
      rcases List.mem_cons.1 he with rfl | he
      · exact hq
      · exact findA_none h e he
    · cases h

/-- A key that was not found is none of the keys. -/
theorem MapR.fresh {es : List (AV × AV)} {ents : Array MapEntry} (hM : MapR c es ents) {l : AL} (hf : findA (.lit l) es 0 = some none) : ∀ x ∈ ents.toList, x.key ≠ l.v := by
  intro x hx
  obtain ⟨i, hi⟩ := List.mem_iff_getElem?.1 hx
  have hi' : ents[i]? = some x := by simpa using hi
  have hlt : i < es.length := by rw [hM.1]; exact lt_of_some hi'
  have he : es[i]? = some (es[i].1, es[i].2) := by simp [hlt]
  obtain ⟨⟨l', h1, h2⟩, -⟩ := hM.2 i _ _ x he hi'
  have := findA_none hf es[i] (List.getElem_mem hlt)
  rw [h1] at this
  rw [h2]
  exact keyEq_false this

theorem zeroAV_R {t : TypeId} {z : AV} (h1 : zeroAV P t = some z) : ∃ v, (∀ w, (zeroValue t).run P w = .ok v w) ∧ VR c z v := by
  unfold zeroAV at h1
  split at h1
  · rename_i i hi
    split at h1
    · rename_i v hv
      exact ⟨v, fun w => zero_run hi hv w, ofV_R h1⟩
    · cases h1
  · cases h1

theorem m_mkmap {t : TypeId} (ho : o.op = .makeMap t none) : Makes K c (.map []) (fun p => .mp p) ((execOp a.eval o).run P c.w) := by
  refine ⟨.map #[] 0, .map (some c.w.heap.size), ?_, by simp, ?_, ?_⟩
  · simp [execOp, ho, Instr.makeMap, Result.andThen]
  · intro c' _ hw
    exact ⟨#[], 0, by rw [hw]; exact heap_alloc_new, ⟨rfl, by simp⟩, MapKept.stamped_empty 0⟩
  · intro c' p _ hD hp
    simp only [VR]
    exact ⟨hD, by rw [hp]⟩

theorem s_lookup (H : HR K c h) (he : EnvR c env a.tmps) {t e : TypeId} {kk : Nat} {x k : Operand} {x' k' : Opd} {z v : AV} {ok : Bool} {es : List (AV × AV)} {r : Option (Nat × AV)} (ho : o.op = .lookup t x k ok)
    (ht : mapKind P t = some (kk, e)) (hz : zeroAV P e = some z) (hx : trOpd x = some x') (hk : trOpd k = some k') (hkk : keyOk kk (env.ev k') = true)
    (hes : entsOf h (env.ev x') = some es) (hr : findA (env.ev k') es 0 = some r)
    (hv : (if ok then .tup [foundA z r, .bool r.isSome] else foundA z r) = v) : Good K c v h ((execOp a.eval o).run P c.w) := by
  obtain ⟨kt, d, h1, h2, h3⟩ := mapKind_some ht
  obtain ⟨l, hl⟩ := keyOk_lit hkk
  have hkv := trOpd_R (c := c) hk he
  have hxv := trOpd_R (c := c) hx he
  rw [hl] at hkv hkk hr
  simp only [VR] at hkv
  obtain ⟨zv, hz1, hz2⟩ := zeroAV_R (c := c) hz
  -- the entries
  have hent : ∃ ents : Array MapEntry, MapR c es ents ∧ ((a.eval x = .map none ∧ ents = #[]) ∨ ∃ r clock, a.eval x = .map (some r) ∧ c.w.heap[r]? = some (.map ents clock)) := by
    unfold entsOf at hes
    split at hes
    · rename_i e1
      cases hes
      rw [e1] at hxv
      simp only [VR, AL.v] at hxv
      exact ⟨#[], ⟨rfl, by simp⟩, .inl ⟨hxv, rfl⟩⟩
    · rename_i i e1
      rw [e1] at hxv
      simp only [VR] at hxv
      obtain ⟨ents, clock, h4, h5⟩ := H.mapAt hes
      exact ⟨ents, h5, .inr ⟨_, clock, hxv.2, h4⟩⟩
    · cases hes
  obtain ⟨ents, hM, hcase⟩ := hent
  obtain ⟨r', h6, h7⟩ := find_R (ents := ents.toList) h3 hkk (by simpa using hM.1) (fun j k x e hj he => hM.2 j k x e hj (by simpa using he)) hr
  have hfind := run_findKey (w := c.w) h2 h6
  -- the outcome
  have hout : ∃ u : Value, VR c (foundA z r) u ∧ (Instr.lookup t (a.eval x) (a.eval k) ok).run P c.w = .ok (if ok then .tuple #[u, .bool r.isSome] else u) c.w := by
    have hck := fun b => checkKey_run h2 h3 b l.v c.w
    cases r with
    | none => cases r' with
      | none =>
        refine ⟨zv, hz2, ?_⟩
        rcases hcase with ⟨e1, rfl⟩ | ⟨rb, clock, e1, e2⟩
        · have hfind' : (Instr.findKey kt l.v []).run P c.w = .ok none c.w := hfind
          cases ok <;> simp [Instr.lookup, underlying_run h1, e1, Result.andThen, hkv, hck, hfind', hz1]
        · cases ok <;> simp [Instr.lookup, underlying_run h1, e1, getObj_map e2, Result.andThen, hkv, hck, hfind, hz1]
      | some y => exact h7.elim
    | some y => cases r' with
      | none => exact h7.elim
      | some y' =>
        refine ⟨y'.2, h7.2.1, ?_⟩
        rcases hcase with ⟨e1, rfl⟩ | ⟨rb, clock, e1, e2⟩
        · have hfind' : (Instr.findKey kt l.v []).run P c.w = .ok (some y') c.w := hfind
          cases ok <;> simp [Instr.lookup, underlying_run h1, e1, Result.andThen, hkv, hck, hfind']
        · cases ok <;> simp [Instr.lookup, underlying_run h1, e1, getObj_map e2, Result.andThen, hkv, hck, hfind]
  obtain ⟨u, hu, h8⟩ := hout
  refine .pure H (u := if ok then .tuple #[u, .bool r.isSome] else u) ?_ ?_
  · simp [execOp, ho, h8, Result.andThen]
  · rw [← hv]
    cases ok with
    | false => simpa using hu
    | true =>
      simp only [if_true, VR]
      exact ⟨_, rfl, by simp only [LR]; exact ⟨u, _, rfl, hu, _, _, rfl, VR.bool, rfl⟩⟩

theorem sameBits_lit {l q : AL} (h1 : keyEq (.lit l) (.lit q) = some true) : Instr.sameBits 10000 q.v l.v = true := by
  have e := keyEq_true h1
  subst e
  rcases keyEq_cases h1 with ⟨k, x, y, rfl, -, -⟩ | ⟨x, y, rfl, -, -⟩ | ⟨x, y, rfl, -, -⟩
  · simp [AL.v, Instr.sameBits]
  · simp [AL.v, Instr.sameBits, (bytes_beq x x).2 rfl]
  · simp [AL.v, Instr.sameBits]

theorem MapR.set {es : List (AV × AV)} {ents : Array MapEntry} (hM : MapR c es ents) {j : Nat} {q : AV} {x y : AV} {e : MapEntry} {v : Value} (h1 : es[j]? = some (q, x)) (h2 : ents[j]? = some e) (hv : VR c y v) :
    MapR c (setVal es j y) (ents.modify j fun e' => { e' with key := e.key, val := v }) := by
  refine ⟨by simp [setVal, hM.1], ?_⟩
  intro i k z e' hi he'
  by_cases hij : i = j
  · subst hij
    simp only [setVal, List.getElem?_modify, h1, Option.map_some, if_true] at hi
    simp only [Array.getElem?_modify, h2, Option.map_some, if_true] at he'
    cases hi; cases he'
    exact ⟨(hM.2 i q x e h1 h2).1, hv⟩
  · simp only [setVal, List.getElem?_modify, if_neg (fun h : j = i => hij h.symm)] at hi
    simp only [Array.getElem?_modify, if_neg (fun h : j = i => hij h.symm)] at he'
    have hi' : es[i]? = some (k, z) := by simpa using hi
    exact hM.2 i k z e' hi' he'

theorem MapR.push {es : List (AV × AV)} {ents : Array MapEntry} (hM : MapR c es ents) {l : AL} {y : AV} {e : MapEntry} (hk : e.key = l.v) (hv : VR c y e.val) :
    MapR c (es ++ [(.lit l, y)]) (ents.push e) := by
  refine ⟨by simp [hM.1], ?_⟩
  intro i k z e' hi he'
  rw [Array.getElem?_push] at he'
  rw [List.getElem?_append] at hi
  split at he'
  · rename_i hii
    cases he'
    subst hii
    rw [if_neg (by rw [hM.1]; omega)] at hi
    rw [hM.1] at hi
    simp at hi
    obtain ⟨rfl, rfl⟩ := hi
    exact ⟨⟨l, rfl, hk⟩, hv⟩
  · rename_i hii
    have hlt := lt_of_some he'
    rw [if_pos (by rw [hM.1]; exact hlt)] at hi
    exact hM.2 i k z e' hi he'

/-- A map is written. -/
theorem HR.setMap (H : HR K c h) {i : Nat} {es es' : List (AV × AV)} {ents ents' : Array MapEntry} {clock clock' : Nat} (hm : mapOf h i = some es) (hb : c.w.heap[c.ρ i]? = some (.map ents clock)) (hM : MapR c es' ents') (hst : MapKept.Stamped ents' clock') :
    Ext c { c with w := { c.w with heap := c.w.heap.setIfInBounds (c.ρ i) (.map ents' clock') } } ∧
    HR K { c with w := { c.w with heap := c.w.heap.setIfInBounds (c.ρ i) (.map ents' clock') } } (h.set i (.map es')) := by
  have hlt := lt_of_some hb
  refine H.upd (o' := .map es') (mapOf_some hm) (by simp) (w' := { c.w with heap := c.w.heap.setIfInBounds (c.ρ i) (.map ents' clock') }) (by simp) (fun b hb' => ?_) (fun cs e fr he => ?_) (fun l hl => by rw [hb] at hl; cases hl) rfl rfl rfl
    (fun ex => ⟨ents', clock', ?_, hM.ext ex, hst⟩) (by simp)
  · simp only
    rw [Array.getElem?_setIfInBounds_ne (fun h => hb' h.symm)]
  · rw [hb] at he; cases he
  · simp [hlt]

theorem s_mapup (H : HR K c h) (he : EnvR c env a.tmps) {t e : TypeId} {kk : Nat} {m k x : Operand} {m' k' x' : Opd} {i : Nat} {es : List (AV × AV)} {r : Option (Nat × AV)}
    (ho : o.op = .mapUpdate t m k x ∨ o.op = .insert t m k x)
    (ht : mapKind P t = some (kk, e)) (hm : trOpd m = some m') (hk : trOpd k = some k') (hx : trOpd x = some x') (hkk : keyOk kk (env.ev k') = true)
    (hmi : env.ev m' = .mp i) (hes : mapOf h i = some es) (hr : findA (env.ev k') es 0 = some r) :
    Good K c (.lit .unit) (h.set i (.map (putA es (env.ev k') (env.ev x') r))) ((execOp a.eval o).run P c.w) := by
  obtain ⟨kt, d, h1, h2, h3⟩ := mapKind_some ht
  obtain ⟨l, hl⟩ := keyOk_lit hkk
  have hkv := trOpd_R (c := c) hk he
  have hmv := trOpd_R (c := c) hm he
  have hxv := trOpd_R (c := c) hx he
  rw [hl] at hkv hkk hr
  rw [hmi] at hmv
  simp only [VR] at hkv hmv
  obtain ⟨ents, clock, h4, hM, hst⟩ := H.mapAt' hes
  obtain ⟨r', h6, h7⟩ := find_R (ents := ents.toList) h3 hkk (by simpa using hM.1) (fun j k x e hj he => hM.2 j k x e hj (by simpa using he)) hr
  have hfind := run_findKey (w := c.w) h2 h6
  have hck := fun b => checkKey_run (P := P) h2 h3 b l.v c.w
  have fin : ∀ (ob : Obj), (Instr.mapUpdate t (a.eval m) (a.eval k) (a.eval x)).run P c.w = .ok () { c.w with heap := c.w.heap.setIfInBounds (c.ρ i) ob } →
      (execOp a.eval o).run P c.w = .ok .skip { c.w with heap := c.w.heap.setIfInBounds (c.ρ i) ob } := by
    intro ob hh
    rcases ho with ho | ho <;> simp [execOp, ho, hh, Result.andThen]
  cases r with
  | none => cases r' with
    | some y => exact h7.elim
    | none =>
      obtain ⟨g1, g2⟩ := H.setMap (clock' := clock + 1) hes h4 (hM.push (l := l) (e := { key := l.v, val := a.eval x, born := clock }) rfl hxv) (MapKept.stamped_push hst (hM.fresh hr))
      refine ⟨_, undef, .inr ⟨fin _ ?_, rfl⟩, g1, ?_, VR.unit⟩
      · simp [Instr.mapUpdate, underlying_run h1, hmv.2, getObj_map h4, setObj_map h4, Result.andThen, hkv, hck, hfind]
      · rw [hl]; exact g2
  | some y => cases r' with
    | none => exact h7.elim
    | some y' =>
      obtain ⟨e1, -, -, q, e', g1, g2, g3, -⟩ := h7
      simp only [Nat.sub_zero] at g1 g3
      have g3' : ents[y.1]? = some e' := by simpa using g3
      obtain ⟨⟨ql, rfl, hq⟩, -⟩ := hM.2 y.1 q y.2 e' g1 g3'
      obtain ⟨g4, g5⟩ := H.setMap (clock' := clock) hes h4 (hM.set g1 g3' hxv) (MapKept.stamped_modify hst y.1 (fun e'' => { e'' with key := e'.key, val := a.eval x }) (fun _ _ => rfl) (fun e0 _ h0 => by rw [g3'] at h0; cases h0; rfl))
      refine ⟨_, undef, .inr ⟨fin _ ?_, rfl⟩, g4, g5, VR.unit⟩
      have hks : (Instr.keyThatStays e'.key l.v).run P c.w = .ok l.v c.w := by
        simp [Instr.keyThatStays, hq, sameBits_lit g2]
      have hkl : e'.key = l.v := by rw [hq, keyEq_true g2]
      have hgk : ((ents[y'.1]?).map (·.key)).getD l.v = e'.key := by rw [← e1, g3']; rfl
      simp [Instr.mapUpdate, underlying_run h1, hmv.2, getObj_map h4, setObj_map h4, Result.andThen, hkv, hck, hfind]
      rw [← e1]
      simp only [g3', Option.map_some, Option.getD_some, hks]
      simp only [hkl]
      exact setObj_map h4

theorem MapR.erase {es : List (AV × AV)} {ents : Array MapEntry} (hM : MapR c es ents) (j : Nat) : MapR c (es.eraseIdx j) (ents.eraseIdxIfInBounds j) := by
  have hl : (ents.eraseIdxIfInBounds j).toList = ents.toList.eraseIdx j := by
    unfold Array.eraseIdxIfInBounds
    split
    · simp
    · rename_i hj
      rw [List.eraseIdx_of_length_le (by simpa using hj)]
  refine ⟨?_, ?_⟩
  · have h1 := congrArg List.length hl
    simp only [Array.length_toList] at h1
    rw [h1, List.length_eraseIdx, List.length_eraseIdx]
    simp [hM.1]
  · intro i k x e hi he
    have he' : (ents.eraseIdxIfInBounds j).toList[i]? = some e := by rw [Array.getElem?_toList]; exact he
    rw [hl, List.getElem?_eraseIdx] at he'
    rw [List.getElem?_eraseIdx] at hi
    split at hi
    · rename_i hij
      rw [if_pos hij] at he'
      exact hM.2 i k x e hi (by simpa using he')
    · rename_i hij
      rw [if_neg hij] at he'
      exact hM.2 (i + 1) k x e hi (by simpa using he')

theorem s_del (H : HR K c h) (he : EnvR c env a.tmps) {t e : TypeId} {kk : Nat} {m k : Operand} {m' k' : Opd} {cl : Call} {ts : List TypeId} {h' : Heap}
    (ho : o.op = .call cl) (hcl : cl.callee = .builtin .delete) (hargs : cl.args.toList = [m, k]) (hts : cl.argTypes.toList = t :: ts)
    (ht : mapKind P t = some (kk, e)) (hm : trOpd m = some m') (hk : trOpd k = some k') (hkk : keyOk kk (env.ev k') = true)
    (hv : (match env.ev m' with
      | .mp i => match mapOf h i with
        | some es => match findA (env.ev k') es 0 with
          | some (some (j, _)) => some (h.set i (.map (es.eraseIdx j)))
          | some none => some h
          | none => none
        | none => none
      | .lit .nilm => some h
      | _ => none) = some h') : Good K c (.lit .unit) h' ((execOp a.eval o).run P c.w) := by
  obtain ⟨kt, d, h1, h2, h3⟩ := mapKind_some ht
  obtain ⟨l, hl⟩ := keyOk_lit hkk
  have hkv := trOpd_R (c := c) hk he
  have hmv := trOpd_R (c := c) hm he
  rw [hl] at hkv hkk hv
  simp only [VR] at hkv
  have hck := fun b => checkKey_run (P := P) h2 h3 b l.v c.w
  have hA : cl.args = #[m, k] := by rw [← Array.toArray_toList (xs := cl.args), hargs]
  have hT0 : cl.argTypes[0]? = some t := by rw [← Array.getElem?_toList, hts]; rfl
  have fin : ∀ w', (Builtin.delete_ cl.argTypes o.type #[a.eval m, a.eval k]).run P c.w = .ok (.tuple #[]) w' → (execOp a.eval o).run P c.w = .ok (.value undef) w' := by
    intro w' hh
    simp [execOp, ho, resolve, hcl, hA, Result.andThen, invoke, builtin, hh, undef]
  split at hv
  · rename_i i e1
    rw [e1] at hmv
    simp only [VR] at hmv
    split at hv
    · rename_i es hes
      obtain ⟨ents, clock, h4, hM, hst⟩ := H.mapAt' hes
      split at hv
      · rename_i j x hr
        cases hv
        obtain ⟨r', h6, h7⟩ := find_R (ents := ents.toList) h3 hkk (by simpa using hM.1) (fun j k x e hj he => hM.2 j k x e hj (by simpa using he)) hr
        cases r' with
        | none => exact h7.elim
        | some y' =>
          obtain ⟨e2, -⟩ := h7
          have hfind := run_findKey (w := c.w) h2 h6
          obtain ⟨g1, g2⟩ := H.setMap (clock' := clock) hes h4 (hM.erase j) (MapKept.stamped_erase hst j)
          refine ⟨_, undef, .inl (fin _ ?_), g1, g2, VR.unit⟩
          simp [Builtin.delete_, hT0, underlying_run h1, hmv.2, getObj_map h4, Result.andThen, hkv, hck, hfind]
          rw [← e2, setObj_map h4]
      · rename_i hr
        cases hv
        obtain ⟨r', h6, h7⟩ := find_R (ents := ents.toList) h3 hkk (by simpa using hM.1) (fun j k x e hj he => hM.2 j k x e hj (by simpa using he)) hr
        cases r' with
        | some y' => exact h7.elim
        | none =>
          have hfind := run_findKey (w := c.w) h2 h6
          have hw : { c.w with heap := c.w.heap.setIfInBounds (c.ρ i) (.map ents clock) } = c.w := by
            have : c.w.heap.setIfInBounds (c.ρ i) (.map ents clock) = c.w.heap := by
              apply Array.ext_getElem?
              intro b
              by_cases hb : b = c.ρ i
              · subst hb; rw [h4]; simp [lt_of_some h4]
              · rw [Array.getElem?_setIfInBounds_ne (fun h => hb h.symm)]
            rw [this]
          refine ⟨c, undef, .inl (fin _ ?_), .refl c, H, VR.unit⟩
          simp [Builtin.delete_, hT0, underlying_run h1, hmv.2, getObj_map h4, Result.andThen, hkv, hck, hfind, setObj_map h4, hw]
      · cases hv
    · cases hv
  · rename_i e1
    cases hv
    rw [e1] at hmv
    simp only [VR, AL.v] at hmv
    refine ⟨c, undef, .inl (fin _ ?_), .refl c, H, VR.unit⟩
    simp [Builtin.delete_, hT0, underlying_run h1, hmv, Result.andThen, hkv, hck]
  · cases hv

end Go.Ab
