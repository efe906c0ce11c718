/- What the model does at an operation: make, append, copy, clear, len, min, max, type assertions. -/
import Derived.Test.YtfhkjlokfijpiaaAc
import Derived.Deep.AppendSrc
import Derived.Laws.MakeOwn
set_option linter.unusedSimpArgs false
set_option linter.unusedVariables false
namespace Go.Ab
open Go

variable {K : KP} {P : Program} {c : RC} {h : Heap} {env : Env} {a : Act} {o : Oper}

theorem szBytes {t : TypeId} {i : TypeInfo} (hi : P.info? t = some i) {b : Nat} (hb : bytesOf P t = some b) : i.bytes = b := by
  simp [bytesOf, hi] at hb; exact hb

theorem info_run {t : TypeId} {i : TypeInfo} (hi : P.info? t = some i) (w : World) : (typeInfo t).run P w = .ok i w := by
  simp [typeInfo, hi]

theorem ArrR.take {xs : List AV} {cs : Array Value} (h1 : ArrR c xs cs) (n : Nat) : ArrR c (xs.take n) cs := by
  intro i x hx
  rw [List.getElem?_take] at hx
  split at hx
  · exact h1 i x hx
  · cases hx

theorem i64_wrap_id {n : Int} (h1 : -9223372036854775808 ≤ n) (h2 : n < 9223372036854775808) : IntKind.i64.wrap n = n := by
  rw [IntKind.wrap_i64]; omega

theorem repl_take (l c : Nat) (hlc : l ≤ c) (z : List AV) : (repl c z).take (l * z.length) = repl l z := by
  have : repl c z = repl l z ++ repl (c - l) z := by
    unfold repl
    rw [← List.flatten_append, List.replicate_append_replicate]
    congr 2
    omega
  rw [this, List.take_left' (repl_length l z)]

theorem m_mkslice (he : EnvR c env a.tmps) {t e : TypeId} {n b : Nat} {z : List AV} {l cp : Operand} {l' cp' : Opd} {ln cn : Int} (ho : o.op = .makeSlice t l cp)
    (ht : P.underlying t = some (.slice e)) (hn : szOf P e = some n) (hb : bytesOf P e = some b) (hz : zeroOf P e = some z) (h0 : 0 < n) (hl : trOpd l = some l') (hc : trOpd cp = some cp')
    (hln : env.ev l' = .lit (.int .i64 ln)) (hcn : env.ev cp' = .lit (.int .i64 cn)) (h1 : 0 ≤ ln) (h2 : ln ≤ cn) (h3 : cn ≤ 2 ^ 62) (h4 : b * cn ≤ 2 ^ 44) :
    Makes K c (.row (repl ln.toNat z)) (fun p => .sl p 0 ln.toNat n) ((execOp a.eval o).run P c.w) := by
  obtain ⟨i, v, g1, g2, g3, g4⟩ := zeroOf_some hz
  have g5 := szOf_info g1 hn
  have g6 := szBytes g1 hb
  have hlv := trOpd_R (c := c) hl he
  have hcv := trOpd_R (c := c) hc he
  rw [hln] at hlv
  rw [hcn] at hcv
  have hA := (zeros_R (c := c) (n := cn.toNat) g3 (by omega)).take (ln.toNat * z.length)
  rw [repl_take ln.toNat cn.toNat (by omega) z, show z.length = n by omega] at hA
  refine Makes.rowS (e := e) hA (cap := cn.toNat) (by omega) (by simp) ?_
  have hr := run_make (P := P) c.w t e i v ht g1 g2 .i64 .i64 ln cn h1 h2 (by rw [g6]; omega) (by omega)
  simp only [madeCells, g5] at hr
  simp [execOp, ho, lit_int hlv, lit_int hcv, hr, Result.andThen]

/-- Where an object goes on under another name, in a world in which its block has been written. -/
theorem HR.moved (H : HR K c h) {i : Nat} {oi o' : AO} (hi : h[i]? = some oi) (hd : oi ≠ .dead) (hd' : o' ≠ .dead) {w' : World}
    (hsize : w'.heap.size = c.w.heap.size) (hoth : ∀ b, b ≠ c.ρ i → w'.heap[b]? = c.w.heap[b]?)
    (hshape : ∀ (cs : Array Value) (e : TypeId) (fr : Nat × Nat), c.w.heap[c.ρ i]? = some (Obj.cells cs e fr) → ∃ (cs' : Array Value) (e' : TypeId) (fr' : Nat × Nat), w'.heap[c.ρ i]? = some (Obj.cells cs' e' fr') ∧ cs'.size = cs.size)
    (hloop : ∀ l, c.w.heap[c.ρ i]? = some (Obj.loop l) → ∃ l', w'.heap[c.ρ i]? = some (Obj.loop l'))
    (hos : w'.os = c.w.os) (htape : w'.tape = c.w.tape) (hout : w'.output = c.w.output)
    (ho : ∀ c', Ext c c' → c'.w = w' → OR K c' o' (c.ρ i)) :
    ∃ c', c'.w = w' ∧ Ext c c' ∧ HR K c' ((h.set i .dead) ++ [o']) ∧ c'.D h.length ∧ c'.ρ h.length = c.ρ i := by
  let c' : RC := { D := fun j => c.D j ∨ j = h.length, ρ := fun j => if j = h.length then c.ρ i else c.ρ j, own := c.own, frn := c.frn, lo := c.lo, w := w' }
  have hown : c.own (c.ρ i) := (H.live i oi hi hd).2.1
  have hlt := lt_of_someL hi
  have hl1 := (H.live i oi hi hd)
  have rold : ∀ j, j < h.length → c'.ρ j = c.ρ j := fun j hj => by simp only [c']; rw [if_neg (by omega)]
  have rnew : c'.ρ h.length = c.ρ i := by simp [c']
  have e : Ext c c' := ⟨fun j hj => ⟨.inl hj, rold j (H.dom j hj)⟩, by simp [c', hsize], fun b _ hb => hoth b (fun h => hb (h ▸ hown)), fun _ h => .inl h, fun _ => .rfl, rfl, fun j hj => hj.imp id (fun e => by rw [e]; exact H.lo),
    fun b cs e fr hb => by
      by_cases hbi : b = c.ρ i
      · subst hbi; exact hshape cs e fr hb
      · exact ⟨cs, e, fr, by simp only [c']; rw [hoth b hbi]; exact hb, rfl⟩,
    fun b l hb => by
      by_cases hbi : b = c.ρ i
      · subst hbi; exact hloop l hb
      · exact ⟨l, by simp only [c']; rw [hoth b hbi]; exact hb⟩, hos, htape, hout⟩
  have get : ∀ (j : Nat) (x : AO), (h.set i .dead ++ [o'])[j]? = some x → x ≠ .dead → (j = h.length ∧ x = o') ∨ (j ≠ i ∧ j < h.length ∧ h[j]? = some x) := by
    intro j x hx hxd
    rw [List.getElem?_append] at hx
    split at hx
    · rename_i hj
      simp only [List.length_set] at hj
      by_cases hji : j = i
      · subst hji; simp [hlt] at hx; exact absurd hx.symm hxd
      · rw [List.getElem?_set_ne (fun h => hji h.symm)] at hx; exact .inr ⟨hji, hj, hx⟩
    · have hl := lt_of_someL hx
      simp at hl
      have hj : j = h.length := by simp at *; omega
      subst hj
      simp at hx
      exact .inl ⟨rfl, hx.symm⟩
  refine ⟨c', rfl, e, ⟨?_, ?_, ?_, ?_, by have := H.lo; simp [c']; omega⟩, .inr rfl, rnew⟩
  · intro j x hx hxd
    rcases get j x hx hxd with ⟨rfl, rfl⟩ | ⟨hj, hjl, hx⟩
    · rw [rnew]
      exact ⟨.inr rfl, hown, by simp only [c']; rw [hsize]; exact hl1.2.2.1, ho c' e rfl⟩
    · obtain ⟨h1, h2, h3, h4⟩ := H.live j x hx hxd
      rw [rold j hjl]
      exact ⟨.inl h1, h2, by simp only [c']; rw [hsize]; exact h3, h4.ext e (hoth _ (fun hr => hj (H.inj j i x oi hx hi hxd hd hr)))⟩
  · intro j k x y hx hy hxd hyd hr
    rcases get j x hx hxd with ⟨e1, -⟩ | ⟨hj, hjl, gx⟩ <;> rcases get k y hy hyd with ⟨e2, -⟩ | ⟨hk, hkl, gy⟩
    · rw [e1, e2]
    · rw [e1, rnew, rold k hkl] at hr
      exact absurd (H.inj i k oi y hi gy hd hyd hr).symm hk
    · rw [e2, rnew, rold j hjl] at hr
      exact absurd (H.inj j i x oi gx hi hxd hd hr) hj
    · rw [rold j hjl, rold k hkl] at hr
      exact H.inj j k x y gx gy hxd hyd hr
  · intro b hb
    obtain ⟨j, x, hx, hxd, hr⟩ := H.own b hb
    by_cases hj : j = i
    · subst hj
      exact ⟨h.length, o', by rw [List.getElem?_append_right (by simp)]; simp, hd', by rw [rnew]; exact hr⟩
    · have hjl := lt_of_someL hx
      exact ⟨j, x, by rw [List.getElem?_append_left (by simpa using hjl), List.getElem?_set_ne (fun h => hj h.symm)]; exact hx, hxd, by rw [rold j hjl]; exact hr⟩
  · intro j hj
    rcases hj with hj | hj
    · have := H.dom j hj; simp; omega
    · simp; omega

theorem setCells_eq : ∀ (vs : List Value) (w : World) (b o : Nat), w.setCells b o vs = putCells w b o vs
  | [], _, _, _ => rfl
  | v :: vs, w, b, o => by simp only [World.setCells, putCells]; exact setCells_eq vs _ b (o + 1)

theorem setAll_get_lt : ∀ (vs : List Value) (cs : Array Value) (off i : Nat), i < off → (setAll cs off vs)[i]? = cs[i]?
  | [], _, _, _, _ => rfl
  | v :: vs, cs, off, i, h => by
    simp only [setAll]
    rw [setAll_get_lt vs _ (off + 1) i (by omega), Array.getElem?_setIfInBounds_ne (by omega)]

theorem setAll_get : ∀ (vs : List Value) (cs : Array Value) (off i : Nat), i < vs.length → off + vs.length ≤ cs.size → (setAll cs off vs)[off + i]? = vs[i]?
  | [], _, _, _, h, _ => by simp at h
  | v :: vs, cs, off, i, h, hl => by
    simp only [setAll]
    simp only [List.length_cons] at h hl
    cases i with
    | zero =>
      show (setAll (cs.setIfInBounds off v) (off + 1) vs)[off]? = _
      rw [setAll_get_lt vs _ (off + 1) off (by omega), Array.getElem?_setIfInBounds]
      simp
      omega
    | succ i =>
      rw [show off + (i + 1) = off + 1 + i by omega, setAll_get vs _ (off + 1) i (by omega) (by simp; omega)]
      simp

theorem srcA_R (H : HR K c h) {str : Bool} {sz : Nat} {xt e' : TypeId} {x : AV} {v : Value} {ys : List AV} {n : Nat}
    (hk : (P.underlying xt = some (.slice e') ∧ str = false) ∨ (P.underlying xt = some .string ∧ sz = 1 ∧ str = true))
    (h1 : srcA h str sz x = some (ys, n)) (hv : VR c x v) : ∃ vs : List Value, Src P sz xt v n vs c.w ∧ LR c ys vs := by
  rcases hk with ⟨hk, rfl⟩ | ⟨hk, rfl, rfl⟩
  · have h2 : sliceCells h sz x = some (ys, n) := h1
    obtain ⟨ad, cap, e, hnc, hlen, hcase⟩ := sliceCells_R H h2 hv
    rcases hcase with ⟨rfl, rfl⟩ | ⟨b, o', rfl, hC⟩
    · cases ad with
      | none => exact ⟨[], by rw [e]; exact Src.ofNil c.w hk cap, by simp [LR]⟩
      | some ad => exact ⟨[], by rw [e]; exact Src.ofSlice c.w hk ad 0 cap [] (by simp) (by simp) (by simp), by simp [LR]⟩
    · obtain ⟨vs, h3, h4, h5⟩ := hC.vals
      refine ⟨vs, ?_, h3⟩
      rw [e]
      refine Src.ofSlice c.w hk _ n cap vs (by rw [h4, hlen]) (fun j u hu => by rw [add_addr]; exact (h5 j u hu).1) ?_
      intro u hu
      obtain ⟨j, hj⟩ := List.getElem?_of_mem hu
      exact (h5 j u hj).2
  · unfold srcA at h1
    split at h1
    · rename_i s _
      simp only [if_true, Option.some.injEq, Prod.mk.injEq] at h1
      obtain ⟨rfl, rfl⟩ := h1
      have hv' := lit_str hv
      subst hv'
      refine ⟨byteCells s, Src.ofString c.w hk s, ?_⟩
      unfold byteCells
      have := LR.lits (c := c) (s.data.toList.map fun b => AL.int .u8 b.toNat)
      simpa [List.map_map, Function.comp_def, AL.v] using this
    · cases h1
    · rename_i heq; cases heq

theorem size_zeroCells (z : Array Value) (n : Nat) : (Builtin.zeroCells z n).size = n * z.size := by simp [Builtin.zeroCells]

theorem one_of_src {sz : Nat} {xt : TypeId} {x : Value} {n : Nat} {vs : List Value} {w : World} (h1 : Src P sz xt x n vs w) : ∀ u ∈ vs, u.oneCell' = true := h1.one

theorem arr_app (vs : List Value) (Z : Array Value) : (vs ++ Z.toList).toArray = ([] ++ vs).toArray ++ Z := by
  apply Array.ext'
  simp

/-- append to nil, or to an empty slice without capacity. -/
theorem s_app0 (H : HR K c h) (he : EnvR c env a.tmps) {t xt e e' : TypeId} {n b m : Nat} {z : List AV} {s x : Operand} {s' x' : Opd} {ys : List AV} {cl : Call} {v : AV}
    (ho : o.op = .call cl) (hcl : cl.callee = .builtin .append) (hargs : cl.args.toList = [s, x]) (hts : cl.argTypes.toList = [t, xt])
    (ht : P.underlying t = some (.slice e)) (hn : szOf P e = some n) (hb : bytesOf P e = some b) (hz : zeroOf P e = some z) (h0 : 0 < n) (hs : trOpd s = some s') (hx : trOpd x = some x')
    {str : Bool} (hk : (P.underlying xt = some (.slice e') ∧ str = false) ∨ (P.underlying xt = some .string ∧ n = 1 ∧ str = true))
    (hy : srcA h str n (env.ev x') = some (ys, m)) (hs0 : env.ev s' = .lit .nils ∨ env.ev s' = .emp)
    (hv : (m = 0 ∧ v = env.ev s' ∧ True) ∨ (m ≠ 0 ∧ b * m ≤ room ∧ m ≤ room ∧ v = .sl h.length 0 m n)) :
    Good K c v (if m = 0 then h else h ++ [.row ys]) ((execOp a.eval o).run P c.w) := by
  obtain ⟨i, zv, g1, g2, g3, g4⟩ := zeroOf_some hz
  have g5 := szOf_info g1 hn
  have g6 := szBytes g1 hb
  have hxv := trOpd_R (c := c) hx he
  have hsv := trOpd_R (c := c) hs he
  obtain ⟨vs, hsrc, hL⟩ := srcA_R (P := P) H hk hy hxv
  have hA : cl.args = #[s, x] := by rw [← Array.toArray_toList (xs := cl.args), hargs]
  have hT : cl.argTypes = #[t, xt] := by rw [← Array.toArray_toList (xs := cl.argTypes), hts]
  have hsl : ∃ ad, a.eval s = .slice ad 0 0 ∧ (env.ev s' = .lit .nils → ad = none) := by
    rcases hs0 with e1 | e1
    · rw [e1] at hsv; simp only [VR, AL.v] at hsv; exact ⟨none, hsv, fun _ => rfl⟩
    · rw [e1] at hsv; simp only [VR] at hsv; obtain ⟨ad, e2⟩ := hsv; exact ⟨ad, e2, fun e3 => by rw [e1] at e3; cases e3⟩
  obtain ⟨ad, e1, hnil⟩ := hsl
  have fin : ∀ u w', (Builtin.append_ #[t, xt] o.type #[.slice ad 0 0, a.eval x]).run P c.w = .ok u w' → (execOp a.eval o).run P c.w = .ok (.value u) w' := by
    intro u w' hh
    simp [execOp, ho, resolve, hcl, hA, hT, Result.andThen, invoke, builtin, e1, hh]
  rcases hv with ⟨rfl, rfl, -⟩ | ⟨hm, hb1, hb2, rfl⟩
  · rw [if_pos rfl]
    refine .pure H (fin (.slice ad 0 0) c.w ?_) ?_
    · have hvs : vs = [] := by have := hsrc.newsLen; simpa using this
      subst hvs
      have hsrc' : Src P i.size xt (a.eval x) 0 [] c.w := by rw [g5]; exact hsrc
      cases ad with
      | some ad =>
        rcases hsrc'.kind with ⟨e'', hk⟩ | hk <;> simp [Builtin.append_, underlying_run ht, underlying_run hk, sizeOf, typeInfo, g1, hsrc'.len, hsrc'.cells, storeCells, Result.andThen]
      | none =>
        rcases hsrc'.kind with ⟨e'', hk⟩ | hk <;> simp [Builtin.append_, underlying_run ht, underlying_run hk, sizeOf, typeInfo, g1, hsrc'.len, hsrc'.cells, Result.andThen]
    · rw [e1] at hsv; exact hsv
  · rw [if_neg hm]
    have hsrc' : Src P i.size xt (a.eval x) m vs c.w := by rw [g5]; exact hsrc
    have hold : (Builtin.firstCells i.size 0 (.slice ad 0 0)).run P c.w.drew = .ok ([] : List Value).toArray c.w.drew := by
      cases ad <;> simp [Builtin.firstCells, loadCells, loadCellsFrom]
    have hr16 : room = 17592186044416 := rfl
    have hcap : Builtin.nextslicecap (0 + m) 0 * i.bytes ≤ 281474976710656 := by
      rw [Nat.zero_add, nextslicecap_zero (by omega), g6, Nat.mul_comm]
      omega
    have hr := run_append_grow_src c.w t xt o.type e i zv ht g1 g2 ad 0 0 [] hold (a.eval x) m vs hsrc' (by omega) (by omega) hcap
    have hge := grownCap_ge c.w (0 + m) 0 e
    have hzs : zv.cells.size = n := by have := (ofLs_R (c := c) g3).len; simp at this; omega
    have H2 := H.drew (c.w.drawn + 1)
    have hl : vs.length = m * n := by rw [← g5]; exact hsrc'.newsLen
    have gd := Good.rowS (sz := n) (r := .ok (.value (.slice (some ⟨c.w.heap.size, 0, none⟩) (0 + m) (grownCap c.w (0 + m) 0 e))) (c.w.drew.alloc (.cells (([] ++ vs).toArray ++ Builtin.zeroCells zv.cells (grownCap c.w (0 + m) 0 e - (0 + m))) e))) H2.1
      (xs := ys) (cs := ([] ++ vs).toArray ++ Builtin.zeroCells zv.cells (grownCap c.w (0 + m) 0 e - (0 + m))) (e := e) (len := 0 + m) (cap := grownCap c.w (0 + m) 0 e)
      (by
        have := ArrR.append (c := { c with w := { c.w with drawn := c.w.drawn + 1 } }) (ws := (Builtin.zeroCells zv.cells (grownCap c.w (0 + m) 0 e - (0 + m))).toList) (LR.ext H2.2 _ _ hL) hsrc.one
        rw [arr_app] at this
        exact this) hge (by
        rw [Array.size_append, size_zeroCells, hzs]
        simp only [List.nil_append, List.size_toArray, hl, Nat.zero_add]
        rw [← Nat.add_mul]
        exact Nat.mul_le_mul_right _ (by omega)) rfl
    obtain ⟨c', u, hr', e2, H3, hv'⟩ := gd
    rw [Nat.zero_add] at hv'
    refine ⟨c', u, ?_, H2.2.trans e2, H3, hv'⟩
    rcases hr' with hr' | ⟨hr', -⟩
    · simp only [Result.ok.injEq, Next.value.injEq] at hr'
      obtain ⟨rfl, hw⟩ := hr'
      exact .inl (by rw [← hw]; exact fin _ _ hr)
    · simp at hr'

theorem ArrR.appendRow {xs ys : List AV} {cs : Array Value} {vs : List Value} (h1 : ArrR c xs cs) (h2 : Go.Ab.LR c ys vs) (h3 : ∀ u ∈ vs, u.oneCell' = true) (hl : xs.length + vs.length ≤ cs.size) :
    ArrR c (xs ++ ys) (setAll cs xs.length vs) := by
  intro i x hx
  rw [List.getElem?_append] at hx
  split at hx
  · rename_i hi
    obtain ⟨v, h4, h5, h6⟩ := h1 i x hx
    exact ⟨v, by rw [setAll_get_lt vs cs _ i hi]; exact h4, h5, h6⟩
  · rename_i hi
    obtain ⟨v, h4, h5⟩ := h2.get hx
    have hlt := lt_of_someL h4
    refine ⟨v, ?_, h3 v (List.mem_of_getElem? h4), h5⟩
    have := setAll_get vs cs xs.length (i - xs.length) hlt hl
    rw [show xs.length + (i - xs.length) = i by omega] at this
    rw [this, h4]

theorem ArrR.appendNew {xs ys : List AV} {us vs : List Value} (h1 : Go.Ab.LR c xs us) (h2 : ∀ u ∈ us, u.oneCell' = true) (h3 : Go.Ab.LR c ys vs) (h4 : ∀ u ∈ vs, u.oneCell' = true) (Z : Array Value) :
    ArrR c (xs ++ ys) ((us ++ vs).toArray ++ Z) := by
  have := ArrR.append (ws := Z.toList) (Go.Ab.LR.append h1 h3) (fun u hu => (List.mem_append.1 hu).elim (h2 u) (h4 u))
  have e : (us ++ vs ++ Z.toList).toArray = (us ++ vs).toArray ++ Z := by apply Array.ext'; simp
  rwa [e] at this

/-- append to a slice of the call's own, at its end. -/
theorem s_app (H : HR K c h) (he : EnvR c env a.tmps) {t xt e e' : TypeId} {n b m len j : Nat} {z : List AV} {s x : Operand} {s' x' : Opd} {xs ys : List AV} {cl : Call}
    (ho : o.op = .call cl) (hcl : cl.callee = .builtin .append) (hargs : cl.args.toList = [s, x]) (hts : cl.argTypes.toList = [t, xt])
    (ht : P.underlying t = some (.slice e)) (hn : szOf P e = some n) (hb : bytesOf P e = some b) (hz : zeroOf P e = some z) (h0 : 0 < n) (hs : trOpd s = some s') (hx : trOpd x = some x')
    {str : Bool} (hk : (P.underlying xt = some (.slice e') ∧ str = false) ∨ (P.underlying xt = some .string ∧ n = 1 ∧ str = true))
    (hy : srcA h str n (env.ev x') = some (ys, m)) (hs0 : env.ev s' = .sl j 0 len n) (hr : rowOf h j = some xs) (hxl : xs.length = len * n) (hb1 : b * (len + m) ≤ room) (hb2 : len + m ≤ room) :
    Good K c (.sl h.length 0 (len + m) n) (h.set j .dead ++ [.row (xs ++ ys)]) ((execOp a.eval o).run P c.w) := by
  obtain ⟨i, zv, g1, g2, g3, g4⟩ := zeroOf_some hz
  have g5 := szOf_info g1 hn
  have g6 := szBytes g1 hb
  have hxv := trOpd_R (c := c) hx he
  have hsv := trOpd_R (c := c) hs he
  obtain ⟨vs, hsrc, hL⟩ := srcA_R (P := P) H hk hy hxv
  have hA : cl.args = #[s, x] := by rw [← Array.toArray_toList (xs := cl.args), hargs]
  have hT : cl.argTypes = #[t, xt] := by rw [← Array.toArray_toList (xs := cl.argTypes), hts]
  rw [hs0] at hsv
  simp only [VR] at hsv
  obtain ⟨hD, cap, e1, hlc, cs0, el0, fr0, hblk, hcap⟩ := hsv
  have fin : ∀ u w', (Builtin.append_ #[t, xt] o.type #[.slice (some ⟨c.ρ j, 0, none⟩) len cap, a.eval x]).run P c.w = .ok u w' → (execOp a.eval o).run P c.w = .ok (.value u) w' := by
    intro u w' hh
    simp [execOp, ho, resolve, hcl, hA, hT, Result.andThen, invoke, builtin, e1, hh]
  have hsrc' : Src P i.size xt (a.eval x) m vs c.w := by rw [g5]; exact hsrc
  have hl : vs.length = m * n := by rw [← g5]; exact hsrc'.newsLen
  obtain ⟨cs, el, fr, hblk', hnf, hAr⟩ := H.row hr
  have hcc : cs0.size = cs.size := by rw [hblk'] at hblk; cases hblk; rfl
  rw [hcc] at hcap
  by_cases hroom : len + m ≤ cap
  · have hsz : len * n + m * n ≤ cs.size := by
      have : (len + m) * n ≤ cap * n := Nat.mul_le_mul_right _ hroom
      rw [Nat.add_mul] at this
      omega
    have hrun := run_append_room_src c.w t xt o.type e i ht g1 (c.ρ j) 0 len cap (a.eval x) m vs hsrc' hroom
      (fun q hq => by rw [cell_of_heap hblk', g5]; simp; omega)
      (fun q hq => frozen_of_heap hblk' hnf (by rw [g5]; omega))
    rw [setCells_eq] at hrun
    obtain ⟨p1, p2, p3, p4, p5, p6⟩ := putCells_spec vs c.w (c.ρ j) (0 + len * i.size) cs el fr hblk'
    have hoff : 0 + len * i.size = xs.length := by rw [g5, hxl]; omega
    obtain ⟨c', hw, hE, H', hD', hρ⟩ := H.moved (o' := .row (xs ++ ys)) (rowOf_some hr) (by simp) (by simp) p2 p3
      (fun cs' e' fr' hh => by rw [hblk'] at hh; cases hh; exact ⟨_, _, _, p1, setAll_size _ _ _⟩) (fun l hl => by rw [hblk'] at hl; cases hl) p4 p5 p6
      (fun c'' hE hw => ⟨_, el, fr, by rw [hw]; exact p1, by rw [setAll_size]; exact hnf, by
        rw [hoff]
        exact (hAr.appendRow hL hsrc.one (by omega)).ext hE⟩)
    refine ⟨c', .slice (some ⟨c.ρ j, 0, none⟩) (len + m) cap, .inl ?_, hE, H', ?_⟩
    · rw [hw]; exact fin _ _ hrun
    · simp only [VR]
      refine ⟨hD', cap, by rw [hρ], hroom, setAll cs (0 + len * i.size) vs, el, fr, by rw [hρ, hw]; exact p1, by rw [setAll_size]; exact hcap⟩
  · obtain ⟨us, hus, hrl, husone⟩ := run_loads (P := P) (c := { c with w := c.w.drew }) (b := c.ρ j) (o := 0) (xs := xs) (by
      have := H.drew (c.w.drawn + 1)
      exact this.1.rowC hr)
    have hold : (Builtin.firstCells i.size len (.slice (some ⟨c.ρ j, 0, none⟩) len cap)).run P c.w.drew = .ok us.toArray c.w.drew := by
      rw [hxl] at hrl
      simpa [Builtin.firstCells, g5] using hrl
    have hr16 : room = 17592186044416 := rfl
    have hcap' : Builtin.nextslicecap (len + m) cap * i.bytes ≤ 281474976710656 := by
      have h1 := nextslicecap_le (need := len + m) (old := cap) (by omega)
      have h2 : Builtin.nextslicecap (len + m) cap * i.bytes ≤ 2 * (len + m) * i.bytes := Nat.mul_le_mul_right _ h1
      rw [g6] at h2 ⊢
      have h3 : 2 * (len + m) * b = 2 * (b * (len + m)) := by rw [Nat.mul_assoc, Nat.mul_comm (len + m) b]
      omega
    have hrun := run_append_grow_src c.w t xt o.type e i zv ht g1 g2 _ len cap us hold (a.eval x) m vs hsrc' (by omega) (by omega) hcap'
    have hge := grownCap_ge c.w (len + m) cap e
    have hzs : zv.cells.size = n := by have := (ofLs_R (c := c) g3).len; simp at this; omega
    have H2 := H.drew (c.w.drawn + 1)
    have hul : us.length = len * n := by have := hus.len; omega
    have gd := Good.rowS (sz := n) (r := .ok (.value (.slice (some ⟨c.w.heap.size, 0, none⟩) (len + m) (grownCap c.w (len + m) cap e))) (c.w.drew.alloc (.cells ((us ++ vs).toArray ++ Builtin.zeroCells zv.cells (grownCap c.w (len + m) cap e - (len + m))) e))) H2.1
      (xs := xs ++ ys) (cs := (us ++ vs).toArray ++ Builtin.zeroCells zv.cells (grownCap c.w (len + m) cap e - (len + m))) (e := e) (len := len + m) (cap := grownCap c.w (len + m) cap e)
      (ArrR.appendNew hus husone (LR.ext H2.2 _ _ hL) hsrc.one _) hge (by
        rw [Array.size_append, size_zeroCells, hzs]
        simp only [List.size_toArray, List.length_append, hl, hul]
        rw [← Nat.add_mul, ← Nat.add_mul]
        exact Nat.mul_le_mul_right _ (by omega)) rfl
    obtain ⟨c', u, hr', e2, H3, hv'⟩ := gd
    obtain ⟨wk, H4⟩ := H3.kill j
    have hjl := lt_of_someL (rowOf_some hr)
    rw [List.set_append_left _ _ hjl] at H4
    refine ⟨_, u, ?_, (H2.2.trans e2).trans wk.ext, H4, VR.ext wk.ext _ _ hv'⟩
    rcases hr' with hr' | ⟨hr', -⟩
    · simp only [Result.ok.injEq, Next.value.injEq] at hr'
      obtain ⟨rfl, hw⟩ := hr'
      exact .inl (by simp only; rw [← hw]; exact fin _ _ hrun)
    · simp at hr'

end Go.Ab

/- What the model does at an operation: copy, clear, len, min, max, type assertions. -/
namespace Go.Ab
open Go

variable {K : KP} {P : Program} {c : RC} {h : Heap} {env : Env} {a : Act} {o : Oper}

theorem args1 {cl : Call} {x : Operand} (h1 : cl.args.toList = [x]) : cl.args = #[x] := by rw [← Array.toArray_toList (xs := cl.args), h1]
theorem args2 {cl : Call} {x y : Operand} (h1 : cl.args.toList = [x, y]) : cl.args = #[x, y] := by rw [← Array.toArray_toList (xs := cl.args), h1]
theorem types1 {cl : Call} {x : TypeId} (h1 : cl.argTypes.toList = [x]) : cl.argTypes = #[x] := by rw [← Array.toArray_toList (xs := cl.argTypes), h1]
theorem types2 {cl : Call} {x y : TypeId} (h1 : cl.argTypes.toList = [x, y]) : cl.argTypes = #[x, y] := by rw [← Array.toArray_toList (xs := cl.argTypes), h1]

theorem s_len (H : HR K c h) (he : EnvR c env a.tmps) {t : TypeId} {x : Operand} {x' : Opd} {cl : Call} {n kd : Nat}
    (ho : o.op = .call cl) (hcl : cl.callee = .builtin .len) (hargs : cl.args.toList = [x]) (hts : cl.argTypes.toList = [t]) (hx : trOpd x = some x')
    (ht : (kd = 0 ∧ P.underlying t = some .string) ∨ (kd = 1 ∧ ∃ e, P.underlying t = some (.slice e)) ∨ (kd = 2 ∧ ∃ k e, P.underlying t = some (.map k e)))
    (hv : lenA h kd (env.ev x') = some n) : Good K c (.i64 n) h ((execOp a.eval o).run P c.w) := by
  have hxv := trOpd_R (c := c) hx he
  refine .pure H (u := .int .i64 n) ?_ VR.int
  have key : (Builtin.len_ #[t] o.type #[a.eval x]).run P c.w = .ok (.int .i64 n) c.w := by
    rcases ht with ⟨rfl, ht⟩ | ⟨rfl, e, ht⟩ | ⟨rfl, k, e, ht⟩ <;> unfold lenA at hv <;> split at hv <;> (try (rename_i heq _; cases heq; done)) <;> (try contradiction)
    all_goals rename_i e1
    all_goals rw [e1] at hxv
    all_goals simp only [VR, AL.v] at hxv
    · cases hv; simp [Builtin.len_, underlying_run ht, hxv, Result.andThen, goInt]
    · cases hv; simp [Builtin.len_, underlying_run ht, hxv, Result.andThen, goInt]
    · cases hv; obtain ⟨ad, e2⟩ := hxv; simp [Builtin.len_, underlying_run ht, e2, Result.andThen, goInt]
    · cases hv; obtain ⟨-, cap, e2, -⟩ := hxv; simp [Builtin.len_, underlying_run ht, e2, Result.andThen, goInt]
    · cases hv
      rcases hxv.2 with ⟨h0, ad, cap, e2⟩ | ⟨-, b, o', cap, e2, -⟩
      · simp [Builtin.len_, underlying_run ht, e2, Result.andThen, goInt, h0]
      · simp [Builtin.len_, underlying_run ht, e2, Result.andThen, goInt]
    · cases hv; simp [Builtin.len_, underlying_run ht, hxv, Result.andThen, goInt]
    · obtain ⟨es, h2, rfl⟩ := Option.map_eq_some_iff.1 hv
      obtain ⟨ents, clock, h3, h4⟩ := H.mapAt h2
      simp [Builtin.len_, underlying_run ht, hxv.2, Result.andThen, goInt, getObj_map h3, h4.1]
  simp [execOp, ho, resolve, hcl, args1 hargs, types1 hts, invoke, builtin, Result.andThen, key]

theorem s_lenA (H : HR K c h) {t e : TypeId} {x : Operand} {cl : Call} {n : Nat}
    (ho : o.op = .call cl) (hcl : cl.callee = .builtin .len) (hargs : cl.args.toList = [x]) (hts : cl.argTypes.toList = [t])
    (ht : P.underlying t = some (.array n e)) : Good K c (.i64 n) h ((execOp a.eval o).run P c.w) := by
  refine .pure H (u := .int .i64 n) ?_ VR.int
  simp [execOp, ho, resolve, hcl, args1 hargs, types1 hts, invoke, builtin, Result.andThen, Builtin.len_, underlying_run ht, goInt]

theorem max_R : ∀ {xs : List AV} {vs : List Value} {x r : AV} {v : Value}, maxInts x xs = some r → LR c xs vs → VR c x v → ∃ u, (vs.foldlM Builtin.max2 v).run P c.w = .ok u c.w ∧ VR c r u
  | [], vs, x, r, v, h1, h2, h3 => by
    simp only [LR] at h2
    subst h2
    simp only [maxInts, Option.some.injEq] at h1
    subst h1
    exact ⟨v, rfl, h3⟩
  | y :: xs, vs, x, r, v, h1, h2, h3 => by
    simp only [LR] at h2
    obtain ⟨w, vs', rfl, h4, h5⟩ := h2
    unfold maxInts at h1
    split at h1
    · rename_i heq; cases heq
    · rename_i k p k' q ys heq
      cases heq
      split at h1
      · rename_i hk
        subst hk
        have e1 := lit_int h3
        have e2 := lit_int h4
        obtain ⟨u, g1, g2⟩ := max_R h1 h5 (VR.int (c := c) (k := k) (n := if q > p then q else p))
        refine ⟨u, ?_, g2⟩
        rw [e1, e2]
        simpa [List.foldlM_cons, Builtin.max2, Result.andThen] using g1
      · cases h1
    · cases h1

theorem min2_int (k : IntKind) (x y : Int) : Builtin.min2 (.int k x) (.int k y) = (pure (.int k (if y < x then y else x)) : Sem Value) := rfl

theorem min_R : ∀ {xs : List AV} {vs : List Value} {x r : AV} {v : Value}, minInts x xs = some r → LR c xs vs → VR c x v → ∃ u, (vs.foldlM Builtin.min2 v).run P c.w = .ok u c.w ∧ VR c r u
  | [], vs, x, r, v, h1, h2, h3 => by
    simp only [LR] at h2
    subst h2
    simp only [minInts, Option.some.injEq] at h1
    subst h1
    exact ⟨v, rfl, h3⟩
  | y :: xs, vs, x, r, v, h1, h2, h3 => by
    simp only [LR] at h2
    obtain ⟨w, vs', rfl, h4, h5⟩ := h2
    unfold minInts at h1
    split at h1
    · rename_i heq; cases heq
    · rename_i k p k' q ys heq
      cases heq
      split at h1
      · rename_i hk
        subst hk
        have e1 := lit_int h3
        have e2 := lit_int h4
        obtain ⟨u, g1, g2⟩ := min_R h1 h5 (VR.int (c := c) (k := k) (n := if q < p then q else p))
        refine ⟨u, ?_, g2⟩
        rw [e1, e2]
        simpa [List.foldlM_cons, min2_int, Result.andThen] using g1
      · cases h1
    · cases h1

theorem s_mx (H : HR K c h) (he : EnvR c env a.tmps) {xs : List Opd} {y v : AV} {ys : List AV} {cl : Call} (ho : o.op = .call cl) (hcl : cl.callee = .builtin .max) (hx : trOpds cl.args.toList = some xs)
    (he2 : xs.map env.ev = y :: ys) (hv : maxInts y ys = some v) : Good K c v h ((execOp a.eval o).run P c.w) := by
  have h1 := trOpds_R (c := c) hx he
  rw [he2] at h1
  simp only [LR] at h1
  obtain ⟨u, us, e1, h2, h3⟩ := h1
  obtain ⟨r, g1, g2⟩ := max_R (P := P) hv h3 h2
  refine .pure H (u := r) ?_ g2
  have e2 : (cl.args.map a.eval).toList = u :: us := by simpa using e1
  simp [execOp, ho, resolve, hcl, invoke, builtin, Result.andThen, Builtin.max_]
  have e3 : List.map a.eval cl.args.toList = u :: us := e1
  rw [e3]
  simp only [g1]

theorem s_mn (H : HR K c h) (he : EnvR c env a.tmps) {xs : List Opd} {y v : AV} {ys : List AV} {cl : Call} (ho : o.op = .call cl) (hcl : cl.callee = .builtin .min) (hx : trOpds cl.args.toList = some xs)
    (he2 : xs.map env.ev = y :: ys) (hv : minInts y ys = some v) : Good K c v h ((execOp a.eval o).run P c.w) := by
  have h1 := trOpds_R (c := c) hx he
  rw [he2] at h1
  simp only [LR] at h1
  obtain ⟨u, us, e1, h2, h3⟩ := h1
  obtain ⟨r, g1, g2⟩ := min_R (P := P) hv h3 h2
  refine .pure H (u := r) ?_ g2
  simp [execOp, ho, resolve, hcl, invoke, builtin, Result.andThen, Builtin.min_]
  have e3 : List.map a.eval cl.args.toList = u :: us := e1
  rw [e3]
  simp only [g1]

theorem s_tass (H : HR K c h) (he : EnvR c env a.tmps) {x : Operand} {x' : Opd} {xt t : TypeId} {d : TypeDesc} {ok : Bool} {z v : AV} (ho : o.op = .typeAssert x xt t ok) (hx : trOpd x = some x')
    (ht : P.underlying t = some d) (hd : ∀ m, d ≠ .interface m) (hz : zeroAV P t = some z)
    (hv : (match env.ev x' with
      | .ifc u v => if ok then (if u = t then some (.tup [v, .bool true]) else some (.tup [z, .bool false])) else (if u = t then some v else none)
      | .lit .nili => if ok then some (.tup [z, .bool false]) else none
      | _ => none) = some v) : Good K c v h ((execOp a.eval o).run P c.w) := by
  have hxv := trOpd_R (c := c) hx he
  obtain ⟨zv, hz1, hz2⟩ := zeroAV_R (c := c) hz
  have tup2 : ∀ {p : AV} {u : Value} (b : Bool), VR c p u → VR c (.tup [p, .bool b]) (.tuple #[u, .bool b]) := by
    intro p u b hp
    simp only [VR]
    exact ⟨_, rfl, by simp only [LR]; exact ⟨u, _, rfl, hp, _, _, rfl, VR.bool, rfl⟩⟩
  split at hv
  · rename_i u p e1
    rw [e1] at hxv
    simp only [VR] at hxv
    obtain ⟨q, e2, hq⟩ := hxv
    split at hv
    · rename_i hok
      subst hok
      split at hv
      · rename_i hu
        cases hv
        refine .pure H (u := .tuple #[q, .bool true]) ?_ (tup2 _ hq)
        cases d <;> first | (exact absurd rfl (hd _)) | simp [execOp, ho, Instr.typeAssert, underlying_run ht, e2, hu, Result.andThen]
      · rename_i hu
        cases hv
        refine .pure H (u := .tuple #[zv, .bool false]) ?_ (tup2 _ hz2)
        cases d <;> first | (exact absurd rfl (hd _)) | simp [execOp, ho, Instr.typeAssert, underlying_run ht, e2, hu, Result.andThen, hz1]
    · rename_i hok
      split at hv
      · rename_i hu
        cases hv
        refine .pure H (u := q) ?_ hq
        cases d <;> first | (exact absurd rfl (hd _)) | simp [execOp, ho, Instr.typeAssert, underlying_run ht, e2, hu, hok, Result.andThen]
      · cases hv
  · rename_i e1
    rw [e1] at hxv
    simp only [VR, AL.v] at hxv
    split at hv
    · rename_i hok
      subst hok
      cases hv
      refine .pure H (u := .tuple #[zv, .bool false]) ?_ (tup2 _ hz2)
      cases d <;> first | (exact absurd rfl (hd _)) | simp [execOp, ho, Instr.typeAssert, underlying_run ht, hxv, Result.andThen, hz1]
    · cases hv
  · cases hv

theorem s_clearM (H : HR K c h) (he : EnvR c env a.tmps) {t kt e : TypeId} {x : Operand} {x' : Opd} {cl : Call} {h' : Heap}
    (ho : o.op = .call cl) (hcl : cl.callee = .builtin .clear) (hargs : cl.args.toList = [x]) (hts : cl.argTypes.toList = [t]) (hx : trOpd x = some x') (ht : P.underlying t = some (.map kt e))
    (hv : (match env.ev x' with | .mp i => (mapOf h i).map fun _ => h.set i (.map []) | .lit .nilm => some h | _ => none) = some h') : Good K c (.lit .unit) h' ((execOp a.eval o).run P c.w) := by
  have hxv := trOpd_R (c := c) hx he
  split at hv
  · rename_i i e1
    obtain ⟨es, h1, rfl⟩ := Option.map_eq_some_iff.1 hv
    rw [e1] at hxv
    simp only [VR] at hxv
    obtain ⟨ents, clock, h2, -⟩ := H.mapAt h1
    obtain ⟨g1, g2⟩ := H.setMap (es' := []) (ents' := #[]) (clock' := clock) h1 h2 ⟨rfl, by simp⟩ (MapKept.stamped_empty clock)
    refine ⟨_, undef, .inl ?_, g1, g2, VR.unit⟩
    simp [execOp, ho, resolve, hcl, args1 hargs, types1 hts, invoke, builtin, Result.andThen, Builtin.clear_, underlying_run ht, hxv.2, getObj_map h2, setObj_map h2, undef]
  · rename_i e1
    cases hv
    rw [e1] at hxv
    simp only [VR, AL.v] at hxv
    refine .pure H (u := undef) ?_ VR.unit
    simp [execOp, ho, resolve, hcl, args1 hargs, types1 hts, invoke, builtin, Result.andThen, Builtin.clear_, underlying_run ht, hxv, undef]
  · cases hv

theorem LR.takeArr {xs : List AV} {vs : List Value} (h1 : LR c xs vs) (k : Nat) : LR c (xs.take k) (vs.take k) := h1.take k

theorem s_cpy (H : HR K c h) (he : EnvR c env a.tmps) {t t2 e : TypeId} {sz : Nat} {d s : Operand} {d' s' : Opd} {cl : Call} {ys : List AV} {n : Nat} {v : AV} {h' : Heap}
    (ho : o.op = .call cl) (hcl : cl.callee = .builtin .copy) (hargs : cl.args.toList = [d, s]) (hts : cl.argTypes.toList = [t, t2]) (ht : P.underlying t = some (.slice e)) (hn : szOf P e = some sz)
    (hd : trOpd d = some d') (hs : trOpd s = some s') (hy : sliceCells h sz (env.ev s') = some (ys, n))
    (hv : (match env.ev d' with
      | .sl i off len q => match rowOf h i with
        | some xs => if q = sz ∧ off + len * sz ≤ xs.length then some (AV.i64 (min n len : Nat), h.set i (.row (splice xs off (ys.take (min n len * sz))))) else none
        | none => none
      | .lit .nils | .emp | .ro _ 0 _ => some (.i64 0, h)
      | _ => none) = some (v, h')) : Good K c v h' ((execOp a.eval o).run P c.w) := by
  have hdv := trOpd_R (c := c) hd he
  have hsv := trOpd_R (c := c) hs he
  obtain ⟨ad, cap, e1, hnc, hlen, hcase⟩ := sliceCells_R H hy hsv
  have fin : ∀ u w', (Builtin.copy_ #[t, t2] o.type #[a.eval d, a.eval s]).run P c.w = .ok u w' → (execOp a.eval o).run P c.w = .ok (.value u) w' := by
    intro u w' hh
    simp [execOp, ho, resolve, hcl, args2 hargs, types2 hts, invoke, builtin, Result.andThen, hh]
  -- what is read
  have hread : ∀ m, m ≤ n → ∃ vs : List Value, LR c (ys.take (m * sz)) vs ∧ (∀ u ∈ vs, u.oneCell' = true) ∧ (Builtin.firstCells sz m (a.eval s)).run P c.w = .ok vs.toArray c.w := by
    intro m hm
    rcases hcase with ⟨rfl, rfl⟩ | ⟨b, o', rfl, hC⟩
    · have : m = 0 := by omega
      subst this
      refine ⟨[], by simp [LR], by simp, ?_⟩
      rw [e1]
      cases ad <;> simp [Builtin.firstCells, loadCells, loadCellsFrom]
    · obtain ⟨vs, h1, h2, h3⟩ := run_loads (P := P) (hC.take (m * sz))
      have hl : (ys.take (m * sz)).length = m * sz := by
        have : m * sz ≤ n * sz := Nat.mul_le_mul_right _ hm
        simp
        omega
      rw [hl] at h2
      exact ⟨vs, h1, h3, by rw [e1]; simpa [Builtin.firstCells] using h2⟩
  have zero : ∀ ad' cap', a.eval d = .slice ad' 0 cap' → (Builtin.copy_ #[t, t2] o.type #[a.eval d, a.eval s]).run P c.w = .ok (.int .i64 0) c.w := by
    intro ad' cap' e2
    obtain ⟨vs, h1, -, h3⟩ := hread 0 (Nat.zero_le _)
    have hvs : vs = [] := by have := h1.len; simp at this; exact List.length_eq_zero_iff.1 this.symm
    rw [hvs] at h3
    rw [e2, e1] at *
    cases ad' <;> simp [Builtin.copy_, underlying_run ht, sizeOf_run hn, Builtin.lenOf, Result.andThen, h3, storeCells, goInt]
  split at hv
  · rename_i i off len q e2
    split at hv
    · rename_i xs hr
      split at hv
      · rename_i hc
        obtain ⟨rfl, hl⟩ := hc
        cases hv
        rw [e2] at hdv
        simp only [VR] at hdv
        obtain ⟨hD, cap', e3, hlc, -⟩ := hdv
        obtain ⟨vs, h1, h2, h3⟩ := hread (min n len) (Nat.min_le_left _ _)
        have hle : min n len * q ≤ len * q := Nat.mul_le_mul_right _ (Nat.min_le_right _ _)
        obtain ⟨w', h5, h6, h7⟩ := H.stores (P := P) (off := off) hr (ys := ys.take (min n len * q)) (by rw [List.length_take]; omega) h1 h2
        refine ⟨_, .int .i64 (min n len : Nat), .inl (fin _ _ ?_), h6, h7, VR.int⟩
        have h8 := h5 0 (Nat.zero_le _)
        rw [show off - 0 = off by omega] at h8
        rw [e3, e1] at *
        simp [Builtin.copy_, underlying_run ht, sizeOf_run hn, Builtin.lenOf, Result.andThen, goInt]
        have h3' : (Builtin.firstCells q (Nat.min n len) (.slice ad n cap)).run P c.w = .ok vs.toArray c.w := h3
        rw [h3']
        simp [h8]
      · cases hv
    · cases hv
  · rename_i e2
    cases hv
    rw [e2] at hdv
    simp only [VR, AL.v] at hdv
    exact .pure H (fin _ _ (zero _ _ hdv)) VR.int
  · rename_i e2
    cases hv
    rw [e2] at hdv
    simp only [VR] at hdv
    obtain ⟨ad', e3⟩ := hdv
    exact .pure H (fin _ _ (zero _ _ e3)) VR.int
  · rename_i xs q e2
    cases hv
    rw [e2] at hdv
    simp only [VR] at hdv
    rcases hdv.2 with ⟨-, ad', cap', e3⟩ | ⟨h0, -⟩
    · exact .pure H (fin _ _ (zero _ _ e3)) VR.int
    · omega
  · cases hv

theorem zeroCells_R {z : List AV} {v : Value} {n : Nat} (h3 : ofLs v.cells.toList = some z) (hz : 0 < z.length) :
    LR c (repl n z) (Builtin.zeroCells v.cells n).toList ∧ (∀ u ∈ Builtin.zeroCells v.cells n, u.oneCell' = true) := by
  have hA := zeros_R (c := c) (n := n) h3 hz
  have hl : z.length = v.cells.size := by have := (ofLs_R (c := c) h3).len; simpa using this
  have e : Builtin.zeroCells v.cells n = (Array.range (n * z.length)).map fun i => v.cells[i % v.cells.size]! := by simp [Builtin.zeroCells, hl]
  rw [e]
  refine ⟨hA.LR (by simp [repl_length]), ?_⟩
  intro u hu
  obtain ⟨i, hi, hu'⟩ := Array.mem_iff_getElem.1 hu
  simp only [Array.size_map, Array.size_range] at hi
  have hx : (repl n z)[i]? = some ((repl n z)[i]'(by rw [repl_length]; exact hi)) := by simp
  obtain ⟨w, h4, h5, -⟩ := hA i _ hx
  rw [Array.getElem?_eq_getElem (by simpa using hi)] at h4
  rw [← hu', Option.some.inj h4]
  exact h5

theorem s_clearS (H : HR K c h) (he : EnvR c env a.tmps) {t e : TypeId} {sz : Nat} {z : List AV} {x : Operand} {x' : Opd} {cl : Call} {h' : Heap}
    (ho : o.op = .call cl) (hcl : cl.callee = .builtin .clear) (hargs : cl.args.toList = [x]) (hts : cl.argTypes.toList = [t]) (ht : P.underlying t = some (.slice e)) (hn : szOf P e = some sz) (h0 : 0 < sz)
    (hz : zeroOf P e = some z) (hx : trOpd x = some x')
    (hv : (match env.ev x' with
      | .lit .nils | .emp | .ro _ 0 _ => some h
      | .sl i off len q => match rowOf h i with
        | some xs => if q = sz ∧ off + len * sz ≤ xs.length then some (h.set i (.row (splice xs off (repl len z)))) else none
        | none => none
      | _ => none) = some h') : Good K c (.lit .unit) h' ((execOp a.eval o).run P c.w) := by
  have hxv := trOpd_R (c := c) hx he
  obtain ⟨i, zv, g1, g2, g3, g4⟩ := zeroOf_some hz
  have g5 := szOf_info g1 hn
  have fin : ∀ w', (Builtin.clear_ #[t] o.type #[a.eval x]).run P c.w = .ok undef w' → (execOp a.eval o).run P c.w = .ok (.value undef) w' := by
    intro w' hh
    simp [execOp, ho, resolve, hcl, args1 hargs, types1 hts, invoke, builtin, Result.andThen, hh]
  have zero : ∀ ad' cap', a.eval x = .slice ad' 0 cap' → (Builtin.clear_ #[t] o.type #[a.eval x]).run P c.w = .ok undef c.w := by
    intro ad' cap' e2
    cases ad' <;> simp [Builtin.clear_, underlying_run ht, e2, Result.andThen, undef]
  split at hv
  · rename_i e2
    cases hv
    rw [e2] at hxv
    simp only [VR, AL.v] at hxv
    exact .pure H (fin _ (zero _ _ hxv)) VR.unit
  · rename_i e2
    cases hv
    rw [e2] at hxv
    simp only [VR] at hxv
    obtain ⟨ad', e3⟩ := hxv
    exact .pure H (fin _ (zero _ _ e3)) VR.unit
  · rename_i xs q e2
    cases hv
    rw [e2] at hxv
    simp only [VR] at hxv
    rcases hxv.2 with ⟨-, ad', cap', e3⟩ | ⟨h0, -⟩
    · exact .pure H (fin _ (zero _ _ e3)) VR.unit
    · omega
  · rename_i j off len q e2
    split at hv
    · rename_i xs hr
      split at hv
      · rename_i hc
        obtain ⟨rfl, hl⟩ := hc
        cases hv
        rw [e2] at hxv
        simp only [VR] at hxv
        obtain ⟨hD, cap', e3, hlc, -⟩ := hxv
        by_cases hl0 : len = 0
        · subst hl0
          have hr0 : repl 0 z = [] := by simp [repl]
          rw [hr0]
          have hset : h.set j (.row (splice xs off [])) = h := by
            have := rowOf_some hr
            apply List.ext_getElem?
            intro i'
            by_cases hi' : i' = j
            · subst hi'
              rw [this, List.getElem?_set_self (lt_of_someL this)]
              rfl
            · rw [List.getElem?_set_ne (fun h => hi' h.symm)]
          rw [hset]
          exact .pure H (fin _ (zero _ _ e3)) VR.unit
        · obtain ⟨h1, h2⟩ := zeroCells_R (c := c) (n := len) g3 (by omega)
          have hzl : z.length = q := by omega
          obtain ⟨w', h5, h6, h7⟩ := H.stores (P := P) hr (by rw [repl_length, hzl]; exact hl) h1 (by simpa using h2)
          refine ⟨_, undef, .inl (fin _ ?_), h6, h7, VR.unit⟩
          have h8 := h5 0 (Nat.zero_le _)
          rw [show off - 0 = off by omega] at h8
          cases len with
          | zero => exact absurd rfl hl0
          | succ k => simp [Builtin.clear_, underlying_run ht, e3, Result.andThen, zero_run g1 g2, h8, undef]
      · cases hv
    · cases hv
  · cases hv

end Go.Ab
