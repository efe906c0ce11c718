/- Kinds of operations: those that look at nothing but temporaries, those that read, those that make an object. -/
import Derived.Test.YtfhkjlokfijpiaaAf
set_option linter.unusedSimpArgs false
set_option linter.unusedVariables false
namespace Go.Ab
open Go

variable {K : KP} {DR : DrawRel} {P : Program} {T : Tab} {c : RC} {h : Heap} {env : Env} {a : Act} {o : Oper} {N : Nat}

theorem aop_pure {g : Opd → AV} {h h1 : Heap} {ao : AOp} {v : AV} (hc : clsOf ao = 0) (hr : aop g h ao = some (v, h1)) : h1 = h ∧ ∀ h2, aop g h2 ao = some (v, h2) := by
  cases ao <;> first | (simp [clsOf] at hc; done) | skip
  all_goals simp only [aop] at hr ⊢
  all_goals (repeat' split at hr)
  all_goals first | (cases hr; done) | skip
  all_goals first
    | (cases hr; refine ⟨rfl, fun h2 => ?_⟩; simp_all; done)
    | (obtain ⟨x, h3, h4⟩ := Option.map_eq_some_iff.1 hr; cases h4; refine ⟨rfl, fun h2 => ?_⟩; simp_all; done)
    | skip

/-- What a heap says that another says too. -/
def Sub (h h2 : Heap) : Prop := ∀ (p : Nat) (x : AO), h[p]? = some x → x ≠ .dead → h2[p]? = some x

theorem Sub.row {h h2 : Heap} (hs : Sub h h2) {i : Nat} {xs : List AV} (hr : rowOf h i = some xs) : rowOf h2 i = some xs := by
  have := hs i _ (rowOf_some hr) (by simp)
  simp [rowOf, this]

theorem Sub.map {h h2 : Heap} (hs : Sub h h2) {i : Nat} {es : List (AV × AV)} (hr : mapOf h i = some es) : mapOf h2 i = some es := by
  have := hs i _ (mapOf_some hr) (by simp)
  simp [mapOf, this]

theorem Sub.base {h h2 : Heap} (hs : Sub h h2) {v : AV} {r : List AV × Nat} (hr : baseOf h v = some r) : baseOf h2 v = some r := by
  unfold baseOf at *
  split at hr
  · split at hr
    · rename_i xs hx
      rw [hs.row hx]
      exact hr
    · cases hr
  · exact hr
  · cases hr

theorem Sub.cells {h h2 : Heap} (hs : Sub h h2) {sz : Nat} {v : AV} {r : List AV × Nat} (hr : sliceCells h sz v = some r) : sliceCells h2 sz v = some r := by
  unfold sliceCells at *
  split at hr <;> first | exact hr | skip
  · split at hr
    · rename_i xs hx
      rw [hs.row hx]
      exact hr
    · cases hr

theorem Sub.ents {h h2 : Heap} (hs : Sub h h2) {v : AV} {r : List (AV × AV)} (hr : entsOf h v = some r) : entsOf h2 v = some r := by
  unfold entsOf at *
  split at hr
  · exact hr
  · exact hs.map hr
  · cases hr

theorem Sub.len {h h2 : Heap} (hs : Sub h h2) {kd : Nat} {v : AV} {r : Nat} (hr : lenA h kd v = some r) : lenA h2 kd v = some r := by
  unfold lenA at *
  split at hr <;> first | exact hr | skip
  · obtain ⟨es, h1, h2⟩ := Option.map_eq_some_iff.1 hr
    rw [hs.map h1]
    simp [h2]

theorem Sub.ld {h h2 : Heap} (hs : Sub h h2) {n : Option Nat} {v r : AV} (hr : ldA h n v = some r) : ldA h2 n v = some r := by
  unfold ldA at *
  split at hr
  · rename_i xs off hb
    rw [hs.base hb]
    exact hr
  · cases hr

theorem aop_read {g : Opd → AV} {h h1 : Heap} {ao : AOp} {v : AV} (hc : clsOf ao = 1) (hr : aop g h ao = some (v, h1)) : h1 = h ∧ ∀ h2, Sub h h2 → aop g h2 ao = some (v, h2) := by
  cases ao <;> first | (simp [clsOf] at hc; done) | skip
  · simp only [aop] at hr ⊢
    obtain ⟨x, h3, h4⟩ := Option.map_eq_some_iff.1 hr
    cases h4
    exact ⟨rfl, fun h2 hs => by rw [hs.ld h3]; rfl⟩
  · simp only [aop] at hr ⊢
    split at hr
    · rename_i cs n hcs
      obtain ⟨x, h3, h4⟩ := Option.map_eq_some_iff.1 hr
      cases h4
      exact ⟨rfl, fun h2 hs => by rw [hs.cells hcs]; simp [h3]⟩
    · cases hr
  · rename_i n sz x lo hi
    simp only [aop] at hr ⊢
    split at hr
    · rename_i l q xs off hb hbase
      split at hr
      · rename_i hle
        obtain ⟨y, h3, h4⟩ := Option.map_eq_some_iff.1 hr
        cases h4
        exact ⟨rfl, fun h2 hs => by rw [hb, hs.base hbase]; simp only [hle, if_true]; rw [h3]; rfl⟩
      · cases hr
    · cases hr
  · rename_i kk z x k ok
    simp only [aop] at hr ⊢
    split at hr
    · cases hr
    · rename_i hk
      split at hr
      · rename_i es hes
        split at hr
        · rename_i r hf
          cases hr
          exact ⟨rfl, fun h2 hs => by rw [if_neg hk, hs.ents hes]; simp only [hf]⟩
        · cases hr
      · cases hr
  · simp only [aop] at hr ⊢
    split at hr
    · rename_i n hn
      cases hr
      exact ⟨rfl, fun h2 hs => by rw [hs.len hn]⟩
    · cases hr

theorem trOp_cls2 {ao : AOp} (ht : trOp P o = some ao) (hc : clsOf ao = 2) :
    (∃ t, o.op = .alloc t) ∨ (∃ t x, o.op = .box t x) ∨ (∃ t n ps, o.op = .buildSlice t n ps) ∨ (∃ t r, o.op = .makeMap t r) ∨ (∃ t l cp, o.op = .makeSlice t l cp) := by
  cases ho : o.op
  all_goals first
    | exact .inl ⟨_, rfl⟩
    | exact .inr (.inl ⟨_, _, rfl⟩)
    | exact .inr (.inr (.inl ⟨_, _, _, rfl⟩))
    | exact .inr (.inr (.inr (.inl ⟨_, _, rfl⟩)))
    | exact .inr (.inr (.inr (.inr ⟨_, _, _, rfl⟩)))
    | skip
  all_goals exfalso
  all_goals simp only [trOp, ho] at ht
  all_goals (repeat' split at ht)
  all_goals first
    | (cases ht; done)
    | (cases ht; simp [clsOf] at hc; done)
    | (obtain ⟨_, _, rfl⟩ := Option.map_eq_some_iff.1 ht; simp [clsOf] at hc; done)
    | skip

theorem aop_makes (he : EnvR c env a.tmps) {ao : AOp} {v : AV} {h' : Heap} (ht : trOp P o = some ao) (hc : clsOf ao = 2) (hr : aop env.ev h ao = some (v, h')) :
    ∃ (ob : AO) (vf : Nat → AV), h' = h ++ [ob] ∧ v = vf h.length ∧ Makes K c ob vf ((execOp a.eval o).run P c.w) := by
  rcases trOp_cls2 ht hc with ⟨t, ho⟩ | ⟨t, x, ho⟩ | ⟨t, n, ps, ho⟩ | ⟨t, r, ho⟩ | ⟨t, l, cp, ho⟩
  · simp only [trOp, ho] at ht
    obtain ⟨z, hz, rfl⟩ := Option.map_eq_some_iff.1 ht
    simp only [aop, Option.some.injEq, Prod.mk.injEq] at hr
    obtain ⟨rfl, rfl⟩ := hr
    exact ⟨_, _, rfl, rfl, m_new ho hz⟩
  · simp only [trOp, ho] at ht
    obtain ⟨x', hx, rfl⟩ := Option.map_eq_some_iff.1 ht
    simp only [aop] at hr
    split at hr
    · rename_i hc
      cases hr
      exact ⟨_, _, rfl, rfl, m_box he ho hx hc⟩
    · cases hr
  · simp only [trOp, ho] at ht
    split at ht
    · rename_i e h1
      split at ht
      · rename_i n' z h2 h3
        split at ht
        · rename_i hcc
          obtain ⟨ps', h4, rfl⟩ := Option.map_eq_some_iff.1 ht
          simp only [aop] at hr
          obtain ⟨cs, h5, h6⟩ := Option.map_eq_some_iff.1 hr
          cases h6
          exact ⟨_, _, rfl, rfl, m_rowlit he ho h1 h2 h3 hcc.1 hcc.2 h4 h5⟩
        · cases ht
      · cases ht
    · cases ht
  · simp only [trOp, ho] at ht
    split at ht
    · cases ht
      simp only [aop, Option.some.injEq, Prod.mk.injEq] at hr
      obtain ⟨rfl, rfl⟩ := hr
      exact ⟨_, _, rfl, rfl, m_mkmap ho⟩
    · cases ht
  · simp only [trOp, ho] at ht
    split at ht
    · rename_i e h1
      split at ht
      · rename_i n b z l' c' h2 h3 h4 h5 h6
        split at ht
        · rename_i h0
          cases ht
          simp only [aop] at hr
          split at hr
          · rename_i ln cn h7 h8
            split at hr
            · rename_i hc
              cases hr
              exact ⟨_, _, rfl, rfl, m_mkslice he ho h1 h2 h3 h4 h0 h5 h6 h7 h8 hc.1 hc.2.1 hc.2.2.1 hc.2.2.2⟩
            · cases hr
          · cases hr
        · cases ht
      · cases ht
    · cases ht

end Go.Ab

/- Heaps seen in part: some objects are somebody else's while work goes on; objects under a name that was kept free. -/
namespace Go.Ab
open Go

variable {K : KP} {P : Program} {c : RC} {h : Heap} {env : Env}

/-- Only what lives counts. -/
theorem HR.alive {h2 : Heap} (H : HR K c h) (hl : h.length ≤ h2.length) (h12 : ∀ (p : Nat) (x : AO), x ≠ .dead → (h[p]? = some x ↔ h2[p]? = some x)) : HR K c h2 where
  live i o hi hd := H.live i o ((h12 i o hd).2 hi) hd
  inj i j oi oj hi hj hd hd' hr := H.inj i j oi oj ((h12 i oi hd).2 hi) ((h12 j oj hd').2 hj) hd hd' hr
  own b hb := let ⟨i, o, h1, h2, h3⟩ := H.own b hb; ⟨i, o, (h12 i o h2).1 h1, h2, h3⟩
  dom i hi := Nat.lt_of_lt_of_le (H.dom i hi) hl
  lo := Nat.le_trans H.lo hl

theorem RC.pushAt_ext {p : Nat} (hD : ¬ c.D p) (hlo : c.lo ≤ p) (ob : Obj) : Ext c (c.push p ob) where
  D i hi := ⟨.inl hi, by simp only [RC.push]; rw [if_neg (fun e => hD (by rw [← e]; exact hi))]⟩
  size := by simp [RC.push]
  keep b hb _ := heap_alloc_lt hb
  own b hb := by
    rcases hb with hb | hb
    · exact .inl hb
    · exact .inr (by omega)
  frn _ := .rfl
  lo := rfl
  new i hi := by
    rcases hi with hi | hi
    · exact .inl hi
    · exact .inr (hi ▸ hlo)
  shape b cs e fr hb := ⟨cs, e, fr, by simp only [RC.push]; rw [heap_alloc_lt (lt_of_some hb)]; exact hb, rfl⟩
  loops b l hb := ⟨l, by simp only [RC.push]; rw [heap_alloc_lt (lt_of_some hb)]; exact hb⟩
  os := rfl
  tape := rfl
  output := rfl

theorem HR.pushAt (H : HR K c h) {p : Nat} (hp : h[p]? = some .dead) (hD : ¬ c.D p) (hlo : c.lo ≤ p) (ob : Obj) (o : AO)
    (ho : ∀ c', Ext c c' → c'.w = c.w.alloc ob → OR K c' o c.w.heap.size) (hd : o ≠ .dead) : Ext c (c.push p ob) ∧ HR K (c.push p ob) (h.set p o) := by
  have e := RC.pushAt_ext hD hlo ob
  have hlt := lt_of_someL hp
  have get : ∀ (i : Nat) (x : AO), (h.set p o)[i]? = some x → (i = p ∧ x = o) ∨ (i ≠ p ∧ h[i]? = some x) := by
    intro i x hx
    by_cases hi : i = p
    · subst hi; simp [hlt] at hx; exact .inl ⟨rfl, hx.symm⟩
    · rw [List.getElem?_set_ne (fun h => hi h.symm)] at hx; exact .inr ⟨hi, hx⟩
  have rold : ∀ i, i ≠ p → (c.push p ob).ρ i = c.ρ i := fun i hi => by simp only [RC.push]; rw [if_neg hi]
  have rnew : (c.push p ob).ρ p = c.w.heap.size := by simp [RC.push]
  refine ⟨e, ?_, ?_, ?_, ?_, by have := H.lo; simp [RC.push]; omega⟩
  · intro i x hx hxd
    rcases get i x hx with ⟨rfl, rfl⟩ | ⟨hi, hx⟩
    · rw [rnew]
      exact ⟨.inr rfl, .inr rfl, by simp [RC.push], ho _ e rfl⟩
    · obtain ⟨h1, h2, h3, h4⟩ := H.live i x hx hxd
      rw [rold i hi]
      exact ⟨.inl h1, .inl h2, by simp only [RC.push, World.size_alloc]; omega, h4.ext e (heap_alloc_lt h3)⟩
  · intro i j x y hx hy hxd hyd hr
    rcases get i x hx with ⟨hi, gx⟩ | ⟨hi, gx⟩ <;> rcases get j y hy with ⟨hj, gy⟩ | ⟨hj, gy⟩
    · rw [hi, hj]
    · rw [hi, rnew, rold j hj] at hr
      have := (H.live j y gy hyd).2.2.1
      omega
    · rw [hj, rnew, rold i hi] at hr
      have := (H.live i x gx hxd).2.2.1
      omega
    · rw [rold i hi, rold j hj] at hr
      exact H.inj i j x y gx gy hxd hyd hr
  · intro b hb
    rcases hb with hb | hb
    · obtain ⟨i, x, hx, hxd, hr⟩ := H.own b hb
      have hi : i ≠ p := fun e => by rw [e, hp] at hx; cases hx; exact hxd rfl
      exact ⟨i, x, by rw [List.getElem?_set_ne (fun h => hi h.symm)]; exact hx, hxd, by rw [rold i hi]; exact hr⟩
    · exact ⟨p, o, by simp [hlt], hd, by rw [rnew, hb]⟩
  · intro i hi
    rcases hi with hi | hi
    · have := H.dom i hi; simp; exact this
    · simp; omega

/-- Only what lives in 'g' is owned; the rest is somebody else's, and no old name is given anew. -/
def RC.focus (c : RC) (g : Heap) : RC :=
  { c with own := fun b => ∃ (i : Nat) (x : AO), g[i]? = some x ∧ x ≠ .dead ∧ c.ρ i = b, frn := fun b => c.frn b ∨ c.own b, lo := g.length }

theorem HR.focus_own (H : HR K c h) {g : Heap} (hs : Sub g h) {b : Nat} (hb : (c.focus g).own b) : c.own b := by
  obtain ⟨i, x, h1, h2, rfl⟩ := hb
  exact (H.live i x (hs i x h1 h2) h2).2.1

theorem HR.focus_ext (H : HR K c h) {g : Heap} (hs : Sub g h) : ExtW c (c.focus g) where
  D i hi := ⟨hi, rfl⟩
  size := Nat.le_refl _
  keep b cs e fr _ hb := hb
  hot' b _ hb := by
    rcases hb with hb | hb | hb
    · exact .inl (H.focus_own hs hb)
    · exact .inr hb
    · exact .inl hb
  shape b cs e fr hb := ⟨cs, e, fr, hb, rfl⟩

theorem HR.focus (H : HR K c h) {g : Heap} (hl : g.length = h.length) (hs : Sub g h) : HR K (c.focus g) g where
  live i o hi hd := by
    obtain ⟨h1, h2, h3, h4⟩ := H.live i o (hs i o hi hd) hd
    exact ⟨h1, ⟨i, o, hi, hd, rfl⟩, h3, h4.extW (H.focus_ext hs) rfl⟩
  inj i j oi oj hi hj hd hd' hr := H.inj i j oi oj (hs i oi hi hd) (hs j oj hj hd') hd hd' hr
  own b hb := hb
  dom i hi := by have := H.dom i hi; omega
  lo := Nat.le_refl _

/-- What was somebody else's comes back. -/
theorem HR.back (H : HR K c h) {g h1 h2 : Heap} {M : Nat → Prop} (hl : g.length = h.length) (hs : Sub g h) (hM : ∀ p, M p → p < g.length → g[p]? = some .dead) {c1 : RC} (hE : Ext (c.focus g) c1) (H1 : HR K c1 h1)
    (hl2 : h2.length = h1.length) (hin : ∀ p, M p → p < h.length → h2[p]? = h[p]?) (hout : ∀ p, ¬ (M p ∧ p < h.length) → h2[p]? = h1[p]?) :
    ∃ c2 : RC, c2.w = c1.w ∧ Ext c c2 ∧ HR K c2 h2 ∧ ExtW c1 c2 ∧ ∀ i, c2.D i → c.D i ∨ h.length ≤ i := by
  let c2 : RC := { D := c1.D, ρ := c1.ρ, own := fun b => ∃ (i : Nat) (x : AO), h2[i]? = some x ∧ x ≠ .dead ∧ c1.ρ i = b, frn := c.frn, lo := c.lo, w := c1.w }
  have hsz : c.w.heap.size ≤ c1.w.heap.size := hE.size
  have hnew : ∀ i, c1.D i → c.D i ∨ h.length ≤ i := fun i hi => by
    rcases hE.new i hi with h3 | h3
    · exact .inl h3
    · exact .inr (by simp only [RC.focus] at h3; omega)
  -- an object that comes back
  have old : ∀ (p : Nat) (x : AO), M p → p < h.length → h[p]? = some x → x ≠ .dead → c.D p ∧ c1.D p ∧ c1.ρ p = c.ρ p ∧ c.own (c.ρ p) ∧ c.ρ p < c.w.heap.size ∧ ¬ (c.focus g).own (c.ρ p) ∧ OR K c x (c.ρ p) := by
    intro p x hm hp hx hxd
    obtain ⟨g1, g2, g3, g4⟩ := H.live p x hx hxd
    obtain ⟨g5, g6⟩ := hE.D p g1
    refine ⟨g1, g5, g6, g2, g3, ?_, g4⟩
    rintro ⟨i, y, h3, h4, h5⟩
    have := H.inj i p y x (hs i y h3 h4) hx h4 hxd h5
    rw [this, hM p hm (by omega)] at h3
    cases h3
    exact h4 rfl
  have ownb : ∀ b, c2.own b → c1.own b ∨ (c.own b ∧ b < c.w.heap.size ∧ ¬ (c.focus g).own b) := by
    rintro b ⟨i, x, h3, h4, h5⟩
    by_cases hm : M i ∧ i < h.length
    · rw [hin i hm.1 hm.2] at h3
      obtain ⟨-, -, g3, g4, g5, g6, -⟩ := old i x hm.1 hm.2 h3 h4
      rw [g3] at h5
      subst h5
      exact .inr ⟨g4, g5, g6⟩
    · rw [hout i hm] at h3
      exact .inl (h5 ▸ (H1.live i x h3 h4).2.1)
  have hW : ExtW c1 c2 := by
    refine ⟨fun _ h => ⟨h, rfl⟩, Nat.le_refl _, fun _ _ _ _ _ h => h, ?_, fun b cs e fr h => ⟨cs, e, fr, h, rfl⟩⟩
    rintro b - (hb | hb)
    · rcases ownb b hb with h3 | ⟨h3, -, -⟩
      · exact .inl h3
      · exact .inr ((hE.frn b).2 (.inr h3))
    · exact .inr ((hE.frn b).2 (.inl hb))
  have hEx : Ext c c2 := by
    refine ⟨hE.D, hE.size, fun b hb hn => hE.keep b hb (fun h3 => hn (H.focus_own hs h3)), ?_, fun _ => .rfl, rfl, fun i hi => (hnew i hi).imp id (fun h3 => Nat.le_trans H.lo h3), hE.shape, hE.loops, hE.os, hE.tape, hE.output⟩
    intro b hb
    rcases ownb b hb with h3 | ⟨h3, -, -⟩
    · rcases hE.own b h3 with h4 | h4
      · exact .inl (H.focus_own hs h4)
      · exact .inr h4
    · exact .inl h3
  refine ⟨c2, rfl, hEx, ⟨?_, ?_, fun b hb => hb, fun i hi => ?_, ?_⟩, hW, hnew⟩
  · intro i x hx hxd
    have hx0 := hx
    by_cases hm : M i ∧ i < h.length
    · rw [hin i hm.1 hm.2] at hx
      obtain ⟨g1, g2, g3, g4, g5, g6, g7⟩ := old i x hm.1 hm.2 hx hxd
      refine ⟨g2, ⟨i, x, hx0, hxd, rfl⟩, ?_, ?_⟩
      · show c1.ρ i < c1.w.heap.size
        omega
      · show OR K c2 x (c1.ρ i)
        rw [g3]
        exact g7.ext hEx (hE.keep _ g5 g6)
    · rw [hout i hm] at hx
      obtain ⟨g1, g2, g3, g4⟩ := H1.live i x hx hxd
      exact ⟨g1, ⟨i, x, hx0, hxd, rfl⟩, g3, g4.extW hW rfl⟩
  · intro i j x y hx hy hxd hyd hr
    have cross : ∀ (i j : Nat) (x y : AO), M i ∧ i < h.length → h[i]? = some x → x ≠ .dead → h1[j]? = some y → y ≠ .dead → c1.ρ i = c1.ρ j → False := by
      intro i j x y hm hx hxd hy hyd hr
      obtain ⟨g1, g2, g3, g4, g5, g6, g7⟩ := old i x hm.1 hm.2 hx hxd
      have := (H1.live j y hy hyd).2.1
      rw [← hr, g3] at this
      rcases hE.own _ this with h3 | h3
      · exact g6 h3
      · exact absurd g5 (Nat.not_lt.2 h3)
    by_cases hi : M i ∧ i < h.length <;> by_cases hj : M j ∧ j < h.length
    · rw [hin i hi.1 hi.2] at hx
      rw [hin j hj.1 hj.2] at hy
      obtain ⟨-, -, g3, -⟩ := old i x hi.1 hi.2 hx hxd
      obtain ⟨-, -, g4, -⟩ := old j y hj.1 hj.2 hy hyd
      exact H.inj i j x y hx hy hxd hyd (by rw [← g3, ← g4]; exact hr)
    · rw [hin i hi.1 hi.2] at hx
      rw [hout j hj] at hy
      exact (cross i j x y hi hx hxd hy hyd hr).elim
    · rw [hout i hi] at hx
      rw [hin j hj.1 hj.2] at hy
      exact (cross j i y x hj hy hyd hx hxd hr.symm).elim
    · rw [hout i hi] at hx
      rw [hout j hj] at hy
      exact H1.inj i j x y hx hy hxd hyd hr
  · rw [hl2]; exact H1.dom i hi
  · show c.lo ≤ h2.length
    have h3 := hE.lo
    have h4 := H1.lo
    have h5 := H.lo
    simp only [RC.focus] at h3
    omega

end Go.Ab

/- A region that draws its order, in terms of our order of its operations. -/
namespace Go.Ab
open Go

/-- What our order of a region's operations must be. -/
structure DrawSt (P : Program) (N : Nat) (ops : Array Oper) (l : List DI) : Prop where
  mixed : P.follows .mixedOrders = true
  op : ∀ (k : Nat) (d : DI), l[k]? = some d → ∃ o, ops[d.ix]? = some o ∧ trAI P N ops o = some d.ai ∧
    (∀ e ∈ o.after, Region.binds .any e = true → ∃ (j : Nat) (d' : DI), j < k ∧ l[j]? = some d' ∧ d'.ix = e.on) ∧
    (∀ r ∈ d.req, r < k ∧ ∃ e ∈ o.after, Region.binds .any e = true ∧ ∃ (j : Nat) (d' : DI), l[j]? = some d' ∧ d'.ix = e.on ∧ (r = j ∨ r ∈ d'.req))
  inj : ∀ (i j : Nat) (di dj : DI), l[i]? = some di → l[j]? = some dj → di.ix = dj.ix → i = j
  surj : ∀ i, i < ops.size → ∃ (k : Nat) (d : DI), l[k]? = some d ∧ d.ix = i
  dst : ∀ (i j : Nat) (di dj : DI) (t : Nat), l[i]? = some di → l[j]? = some dj → di.ai.dst = some t → dj.ai.dst = some t → i = j
  need : ∀ (k : Nat) (d : DI) (t : Nat), l[k]? = some d → t ∈ d.need → ∀ (j : Nat) (d' : DI), l[j]? = some d' → d'.ai.dst = some t → j ∈ d.req ∨ (k ∈ d'.req ∧ clsOf d.ai.op ≠ 1)
  calls : ∀ (k j : Nat) (dk dj : DI), k < j → l[k]? = some dk → l[j]? = some dj → clsOf dk.ai.op = 3 → k ∈ dj.req
  mask : ∀ (k i : Nat) (dk di : DI), l[k]? = some dk → l[i]? = some di → clsOf dk.ai.op = 1 ∨ (clsOf dk.ai.op = 3 ∧ i < k) → clsOf di.ai.op = 2 → i ∈ dk.req ∨ i ∈ dk.mask
  post : ∀ (k q : Nat) (dk dq : DI), k < q → l[k]? = some dk → l[q]? = some dq → clsOf dk.ai.op = 1 → clsOf dq.ai.op = 3 → k ∈ dq.req ∨ k ∈ dq.post

variable {P : Program} {N : Nat} {ops : Array Oper} {l : List DI} {F : Fence} {n : Nat} {Q : Exit → Act → World → Prop}

/-- Which of our places are done. -/
def doneOf (l : List DI) (listed : Array Bool) (k : Nat) : Prop := ∃ d, l[k]? = some d ∧ listed.getD d.ix false = true

theorem sched (hD : DrawSt P N ops l) (I : (Nat → Prop) → Act → World → Prop)
    (step : ∀ (S : Nat → Prop) (k : Nat) (d : DI) (a : Act) (w : World), l[k]? = some d → ¬ S k → (∀ r ∈ d.req, S r) → (∀ (j : Nat) (d' : DI), S j → l[j]? = some d' → ∀ r ∈ d'.req, S r) → I S a w →
      wpOpIn F n P ops Q d.ix (I (fun j => S j ∨ j = k)) a w)
    (fin : ∀ (S : Nat → Prop) (a : Act) (w : World), (∀ k, k < l.length → S k) → I S a w → Q .normal a w) :
    ∀ (fuel : Nat) (listed : Array Bool) (U : List Nat) (a : Act) (w : World), listed.size = ops.size → U.Nodup → (∀ i, i ∈ U ↔ i < ops.size ∧ listed.getD i false = false) → U.length = fuel →
      (∀ (j : Nat) (d' : DI), doneOf l listed j → l[j]? = some d' → ∀ r ∈ d'.req, doneOf l listed r) → I (doneOf l listed) a w → wpAnyIn F n P .any ops Q fuel listed a w := by
  intro fuel
  induction fuel with
  | zero =>
    intro listed U a w hsz hnd hU hlen hcl hI
    have hU0 : U = [] := List.length_eq_zero_iff.1 hlen
    have all : ∀ i, i < ops.size → listed.getD i false = true := fun i hi => by
      cases hb : listed.getD i false
      · have := (hU i).2 ⟨hi, hb⟩
        rw [hU0] at this
        cases this
      · rfl
    refine ⟨?_, fin _ a w ?_ hI⟩
    · apply List.eq_nil_iff_forall_not_mem.2
      intro j hj
      obtain ⟨h0, o, ho, -⟩ := mem_ready.1 hj
      have hlt := lt_of_some ho
      have h1 := all j hlt
      simp only [Array.getD_eq_getD_getElem?] at h0 h1
      have : listed[j]? = some (listed[j]'(by omega)) := by simp [show j < listed.size by omega]
      rw [this] at h0 h1
      simp at h0 h1
      rw [h0] at h1
      cases h1
    · intro k hk
      obtain ⟨d, hd⟩ : ∃ d, l[k]? = some d := ⟨l[k], by simp [hk]⟩
      obtain ⟨o, ho, -⟩ := hD.op k d hd
      exact ⟨d, hd, all _ (lt_of_some ho)⟩
  | succ fuel ih =>
    intro listed U a w hsz hnd hU hlen hcl hI
    constructor
    · intro hr
      -- something stands first of all that is not done
      exfalso
      have : ∃ i, i ∈ U := by
        cases U with
        | nil => simp at hlen
        | cons i _ => exact ⟨i, by simp⟩
      obtain ⟨i, hi⟩ := this
      have hex : ∀ (k : Nat) (d : DI), l[k]? = some d → listed.getD d.ix false = true := by
        intro k
        induction k using Nat.strongRecOn with
        | _ k ihk =>
          intro d hd
          obtain ⟨o, ho, -, h1, -⟩ := hD.op k d hd
          have hlt := lt_of_some ho
          cases hb : listed.getD d.ix false with
          | true => rfl
          | false =>
            have : d.ix ∈ Region.ready .any ops listed := by
              rw [mem_ready]
              refine ⟨?_, o, ho, fun e he hbd => ?_⟩
              · rw [Array.getD_eq_getD_getElem?] at hb ⊢
                have e1 : listed[d.ix]? = some (listed[d.ix]'(by omega)) := by simp [show d.ix < listed.size by omega]
                rw [e1] at hb ⊢
                simpa using hb
              · obtain ⟨j, d', hj, hd', he'⟩ := h1 e he hbd
                rw [← he']
                exact ihk j hj d' hd'
            rw [hr] at this
            cases this
      obtain ⟨hlt, hf⟩ := (hU i).1 hi
      obtain ⟨k, d, hd, rfl⟩ := hD.surj i hlt
      have := hex k d hd
      rw [hf] at this
      cases this
    · intro i hi
      obtain ⟨h0, o, ho, hall⟩ := mem_ready.1 hi
      have hlt := lt_of_some ho
      obtain ⟨k, d, hd, rfl⟩ := hD.surj i hlt
      have hf : listed.getD d.ix false = false := by
        rw [Array.getD_eq_getD_getElem?] at h0 ⊢
        have e1 : listed[d.ix]? = some (listed[d.ix]'(by omega)) := by simp [show d.ix < listed.size by omega]
        rw [e1] at h0 ⊢
        simpa using h0
      have hreq : ∀ r ∈ d.req, doneOf l listed r := by
        intro r hr
        obtain ⟨o', ho', -, -, h3⟩ := hD.op k d hd
        rw [ho] at ho'
        cases ho'
        obtain ⟨-, e, he, hb, j, d', hj, hje, hrj⟩ := h3 r hr
        have hdj : doneOf l listed j := ⟨d', hj, by rw [hje]; exact hall e he hb⟩
        rcases hrj with rfl | hrj
        · exact hdj
        · exact hcl j d' hdj hj r hrj
      have hnot : ¬ doneOf l listed k := by
        rintro ⟨d', hd', h1⟩
        rw [hd] at hd'
        cases hd'
        rw [hf] at h1
        cases h1
      have hset : doneOf l (listed.setIfInBounds d.ix true) = fun j => doneOf l listed j ∨ j = k := by
        funext j
        apply propext
        constructor
        · rintro ⟨d', hd', h1⟩
          by_cases hjk : j = k
          · exact .inr hjk
          · refine .inl ⟨d', hd', ?_⟩
            rwa [getD_set_ne false (fun e => hjk (hD.inj j k d' d hd' hd e.symm))] at h1
        · rintro (⟨d', hd', h1⟩ | hjk)
          · exact ⟨d', hd', getD_set_true h1⟩
          · refine ⟨d, by rw [hjk]; exact hd, ?_⟩
            simp [Array.getD_eq_getD_getElem?, show d.ix < listed.size by omega]
      have := step (doneOf l listed) k d a w hd hnot hreq hcl hI
      refine wpOpIn_mono (fun a' w' h1 => ih _ (U.erase d.ix) a' w' (by simp [hsz]) (hnd.erase _) ?_ ?_ ?_ ?_) this
      · intro j
        rw [hnd.mem_erase_iff, hU j]
        by_cases hje : d.ix = j
        · subst hje
          simp [Array.getD_eq_getD_getElem?, show d.ix < listed.size by omega]
        · rw [getD_set_ne false hje]
          exact ⟨fun h => h.2, fun h => ⟨fun e => hje e.symm, h⟩⟩
      · rw [List.length_erase_of_mem ((hU _).2 ⟨hlt, hf⟩), hlen]
        rfl
      · rw [hset]
        rintro j d' (hj | rfl) hd' r hr
        · exact .inl (hcl j d' hj hd' r hr)
        · rw [hd] at hd'
          cases hd'
          exact .inl (hreq r hr)
      · rw [hset]; exact h1

end Go.Ab

/- The runner's one order of a region that draws its order, step by step. -/
namespace Go.Ab
open Go

structure StepOk (T : Tab) (nn : Nat) (all : List DI) (k : Nat) (d : DI) (s s' : DS) (v : AV) : Prop where
  env : s'.env = s.env.put d.ai.dst v
  how : (wanted (s.env.mask d.need) d.ai.guard = some false ∧ v = .lit .unit ∧ s'.heap = s.heap ∧ s'.made = s.made) ∨
    (wanted (s.env.mask d.need) d.ai.guard = some true ∧ ∃ (f : Nat) (h1 : Heap), f < nn ∧ opC T f (s.env.mask d.need) (maskH s.heap (s.positions d.mask)) d.ai.op = some (v, h1) ∧
      (((clsOf d.ai.op = 0 ∨ clsOf d.ai.op = 1) ∧ s'.heap = s.heap ∧ s'.made = s.made) ∨
       (clsOf d.ai.op = 2 ∧ s'.heap = unmaskH s.heap h1 (s.positions d.mask) ∧ s'.made = (k, s.heap.length) :: s.made) ∨
       (clsOf d.ai.op = 3 ∧ s.heap.length ≤ h1.length ∧ s'.heap = unmaskH s.heap h1 (s.positions d.mask) ∧ s'.made = s.made ∧ rereads all s' d.post = true)))

theorem clsOf_le (o : AOp) : clsOf o ≤ 3 := by cases o <;> simp [clsOf]

theorem StepOk.up {T : Tab} {n : Nat} {all : List DI} {k : Nat} {d : DI} {s s' : DS} {v : AV} (h : StepOk T n all k d s s' v) : StepOk T (n + 1) all k d s s' v :=
  ⟨h.env, h.how.imp id fun ⟨h1, f, g, h2, h3⟩ => ⟨h1, f, g, by omega, h3⟩⟩

theorem draw_trace {T : Tab} {all : List DI} : ∀ (n : Nat) (l : List DI) (k : Nat) (s : DS) (e : Env) (h : Heap), draw T n all k l s = some (e, h) →
    ∃ (st : Nat → DS) (V : Nat → AV), st k = s ∧ (st (k + l.length)).env = e ∧ (st (k + l.length)).heap = h ∧ ∀ (i : Nat) (d : DI), l[i]? = some d → StepOk T n all (k + i) d (st (k + i)) (st (k + i + 1)) (V (k + i))
  | 0, l, k, s, e, h, hd => by simp [draw] at hd
  | n + 1, [], k, s, e, h, hd => by
    simp only [draw, Option.some.injEq, Prod.mk.injEq] at hd
    exact ⟨fun _ => s, fun _ => .any, rfl, hd.1, hd.2, by simp⟩
  | n + 1, d :: l, k, s, e, h, hd => by
    have mk : ∀ (s' : DS) (v : AV), StepOk T (n + 1) all k d s s' v → draw T n all (k + 1) l s' = some (e, h) →
        ∃ (st : Nat → DS) (V : Nat → AV), st k = s ∧ (st (k + (d :: l).length)).env = e ∧ (st (k + (d :: l).length)).heap = h ∧ ∀ (i : Nat) (d' : DI), (d :: l)[i]? = some d' → StepOk T (n + 1) all (k + i) d' (st (k + i)) (st (k + i + 1)) (V (k + i)) := by
      intro s' v hs hr
      obtain ⟨st, V, h1, h2, h3, h4⟩ := draw_trace n l (k + 1) s' e h hr
      refine ⟨fun j => if j = k then s else st j, fun j => if j = k then v else V j, by simp, ?_, ?_, ?_⟩
      · simp only [List.length_cons]
        rw [if_neg (by omega), show k + (l.length + 1) = k + 1 + l.length by omega]; exact h2
      · simp only [List.length_cons]
        rw [if_neg (by omega), show k + (l.length + 1) = k + 1 + l.length by omega]; exact h3
      · intro i d' hi
        cases i with
        | zero =>
          simp only [List.getElem?_cons_zero, Option.some.injEq] at hi
          subst hi
          simp only [Nat.add_zero, if_true]
          rw [if_neg (by omega), h1]
          exact hs
        | succ i =>
          simp only [List.getElem?_cons_succ] at hi
          simp only
          rw [if_neg (by omega), if_neg (by omega), if_neg (by omega), show k + (i + 1) = k + 1 + i by omega]
          exact (h4 i d' hi).up
    simp only [draw] at hd
    split at hd
    · rename_i hw
      exact mk _ _ (by exact ⟨rfl, .inl ⟨hw, rfl, rfl, rfl⟩⟩) hd
    · cases hd
    · rename_i hw
      split at hd
      · cases hd
      · rename_i v h1 ho
        have hle := clsOf_le d.ai.op
        split at hd
        · rename_i hc
          exact mk _ _ (by exact ⟨rfl, .inr ⟨hw, n, h1, by omega, ho, .inl ⟨.inl hc, rfl, rfl⟩⟩⟩) hd
        · rename_i hc
          exact mk _ _ (by exact ⟨rfl, .inr ⟨hw, n, h1, by omega, ho, .inl ⟨.inr hc, rfl, rfl⟩⟩⟩) hd
        · rename_i hc
          exact mk _ _ (by exact ⟨rfl, .inr ⟨hw, n, h1, by omega, ho, .inr (.inl ⟨hc, rfl, rfl⟩)⟩⟩) hd
        · rename_i hc0 hc1 hc2
          split at hd
          · rename_i hcond
            have a0 : clsOf d.ai.op ≠ 0 := hc0
            have a1 : clsOf d.ai.op ≠ 1 := hc1
            have a2 : clsOf d.ai.op ≠ 2 := hc2
            exact mk _ _ (by exact ⟨rfl, .inr ⟨hw, n, h1, by omega, ho, .inr (.inr ⟨by omega, hcond.1, rfl, rfl, hcond.2⟩)⟩⟩) hd
          · cases hd

/-! ### Masks -/

theorem maskH_len : ∀ (ps : List Nat) (h : Heap), (maskH h ps).length = h.length
  | [], h => rfl
  | p :: ps, h => by
    show (maskH (h.set p .dead) ps).length = _
    rw [maskH_len ps, List.length_set]

theorem maskH_get : ∀ (ps : List Nat) (h : Heap) (p : Nat), (maskH h ps)[p]? = if p ∈ ps ∧ p < h.length then some .dead else h[p]?
  | [], h, p => by simp [maskH]
  | q :: ps, h, p => by
    show (maskH (h.set q .dead) ps)[p]? = _
    rw [maskH_get ps, List.length_set]
    by_cases hp : p < h.length
    · by_cases hq : q = p
      · subst hq
        simp [hp]
      · rw [List.getElem?_set_ne hq]
        simp [hp, Ne.symm hq]
    · have : p ≥ h.length := by omega
      simp [hp, this]

theorem unmaskH_len : ∀ (ps : List Nat) (h h' : Heap), (unmaskH h h' ps).length = h'.length
  | [], h, h' => rfl
  | p :: ps, h, h' => by
    show (unmaskH h (h'.set p (getO h p)) ps).length = _
    rw [unmaskH_len ps, List.length_set]

theorem unmaskH_get : ∀ (ps : List Nat) (h h' : Heap) (p : Nat), (unmaskH h h' ps)[p]? = if p ∈ ps ∧ p < h'.length then some (getO h p) else h'[p]?
  | [], h, h', p => by simp [unmaskH]
  | q :: ps, h, h', p => by
    show (unmaskH h (h'.set q (getO h q)) ps)[p]? = _
    rw [unmaskH_get ps, List.length_set]
    by_cases hp : p < h'.length
    · by_cases hq : q = p
      · subst hq
        simp [hp]
      · rw [List.getElem?_set_ne hq]
        simp [hp, Ne.symm hq]
    · have : p ≥ h'.length := by omega
      simp [hp, this]

theorem getO_some {h : Heap} {p : Nat} (hp : p < h.length) : some (getO h p) = h[p]? := by
  simp [getO, hp]

/-! ### Facts -/

def Mk (l : List DI) (st : Nat → DS) (i : Nat) : Prop := ∃ d, l[i]? = some d ∧ clsOf d.ai.op = 2 ∧ wanted ((st i).env.mask d.need) d.ai.guard = some true

structure Tr (P : Program) (N : Nat) (ops : Array Oper) (T : Tab) (nn : Nat) (l : List DI) (st : Nat → DS) (V : Nat → AV) (env : Env) (h : Heap) : Prop where
  S : DrawSt P N ops l
  e0 : (st 0).env = env
  h0 : (st 0).heap = h
  m0 : (st 0).made = []
  step : ∀ (i : Nat) (d : DI), l[i]? = some d → StepOk T nn l i d (st i) (st (i + 1)) (V i)

theorem opC_aop {T : Tab} {f : Nat} {env : Env} {h : Heap} {o : AOp} {r : AV × Heap} (hc : clsOf o ≠ 3) (hr : opC T f env h o = some r) : aop env.ev h o = some r := by
  cases f with
  | zero => simp [opC] at hr
  | succ f =>
    cases o <;> first | exact hr | exact absurd rfl hc

theorem aop_alloc {g : Opd → AV} {h h' : Heap} {o : AOp} {v : AV} (hc : clsOf o = 2) (hr : aop g h o = some (v, h')) : ∃ ob, h' = h ++ [ob] := by
  cases o <;> first | (simp [clsOf] at hc; done) | skip
  all_goals simp only [aop] at hr
  · cases hr; exact ⟨_, rfl⟩
  · split at hr
    · cases hr; exact ⟨_, rfl⟩
    · cases hr
  · obtain ⟨x, -, h4⟩ := Option.map_eq_some_iff.1 hr
    cases h4; exact ⟨_, rfl⟩
  · cases hr; exact ⟨_, rfl⟩
  · split at hr
    · split at hr
      · cases hr; exact ⟨_, rfl⟩
      · cases hr
    · cases hr

section
variable {P : Program} {N : Nat} {ops : Array Oper} {T : Tab} {nn : Nat} {l : List DI} {st : Nat → DS} {V : Nat → AV} {env : Env} {h : Heap}

theorem Tr.at (tr : Tr P N ops T nn l st V env h) {k : Nat} (hk : k < l.length) : ∃ d, l[k]? = some d ∧ StepOk T nn l k d (st k) (st (k + 1)) (V k) :=
  ⟨l[k], by simp [hk], tr.step k _ (by simp [hk])⟩

theorem Tr.made (tr : Tr P N ops T nn l st V env h) : ∀ (k : Nat), k ≤ l.length → ∀ (i p : Nat), (st k).made.lookup i = some p ↔ i < k ∧ Mk l st i ∧ p = (st i).heap.length
  | 0, _, i, p => by rw [tr.m0]; simp
  | k + 1, hk, i, p => by
    obtain ⟨d, hd, hs⟩ := tr.at (k := k) (by omega)
    have ih := Tr.made tr k (by omega)
    have same : ¬ Mk l st k → (st (k + 1)).made = (st k).made → ((st (k + 1)).made.lookup i = some p ↔ i < k + 1 ∧ Mk l st i ∧ p = (st i).heap.length) := by
      intro hn e
      rw [e, ih]
      constructor
      · rintro ⟨h1, h2⟩; exact ⟨by omega, h2⟩
      · rintro ⟨h1, h2, h3⟩
        refine ⟨?_, h2, h3⟩
        have : i ≠ k := fun e => hn (e ▸ h2)
        omega
    rcases hs.how with ⟨hw, -, -, hm⟩ | ⟨hw, f, h1, -, -, ⟨hc, -, hm⟩ | ⟨hc, -, hm⟩ | ⟨hc, -, -, hm, -⟩⟩
    · refine same ?_ hm
      rintro ⟨d', hd', -, hw'⟩
      rw [hd] at hd'; cases hd'
      rw [hw] at hw'; cases hw'
    · refine same ?_ hm
      rintro ⟨d', hd', hc', -⟩
      rw [hd] at hd'; cases hd'
      omega
    · rw [hm]
      by_cases hik : i = k
      · subst hik
        simp only [List.lookup_cons, beq_self_eq_true, Option.some.injEq]
        exact ⟨fun e => ⟨by omega, ⟨d, hd, hc, hw⟩, e.symm⟩, fun e => e.2.2.symm⟩
      · have : (i == k) = false := by simpa using hik
        simp only [List.lookup_cons, this]
        rw [ih]
        exact ⟨fun ⟨h1, h2⟩ => ⟨by omega, h2⟩, fun ⟨h1, h2⟩ => ⟨by omega, h2⟩⟩
    · refine same ?_ hm
      rintro ⟨d', hd', hc', -⟩
      rw [hd] at hd'; cases hd'
      omega

theorem Tr.pos (tr : Tr P N ops T nn l st V env h) {k : Nat} (hk : k ≤ l.length) (m : List Nat) (p : Nat) : p ∈ (st k).positions m ↔ ∃ i ∈ m, i < k ∧ Mk l st i ∧ p = (st i).heap.length := by
  simp only [DS.positions, List.mem_filterMap, tr.made k hk]

theorem Tr.getNot (tr : Tr P N ops T nn l st V env h) {t : Nat} : ∀ (k : Nat), k ≤ l.length → (∀ (j : Nat) (d : DI), j < k → l[j]? = some d → d.ai.dst ≠ some t) → (st k).env.get t = env.get t
  | 0, _, _ => by rw [tr.e0]
  | k + 1, hk, hn => by
    obtain ⟨d, hd, hs⟩ := tr.at (k := k) (by omega)
    rw [hs.env]
    have h1 := hn k d (by omega) hd
    have ih := Tr.getNot tr k (by omega) (fun j d' hj => hn j d' (by omega))
    cases hdst : d.ai.dst with
    | none => exact ih
    | some t' =>
      rw [hdst] at h1
      simp only [Env.put, Env.get]
      rw [if_neg (fun e => h1 (by rw [e]))]
      exact ih

theorem Tr.getDst (tr : Tr P N ops T nn l st V env h) {t j : Nat} {d : DI} (hj : l[j]? = some d) (ht : d.ai.dst = some t) : ∀ (k : Nat), k ≤ l.length → j < k → (st k).env.get t = V j
  | 0, _, h0 => by omega
  | k + 1, hk, hjk => by
    obtain ⟨d', hd, hs⟩ := tr.at (k := k) (by omega)
    rw [hs.env]
    by_cases e : j = k
    · subst e
      rw [hj] at hd; cases hd
      rw [ht]
      simp [Env.put, Env.get]
    · have ih := Tr.getDst tr hj ht k (by omega) (by omega)
      cases hdst : d'.ai.dst with
      | none => exact ih
      | some t' =>
        simp only [Env.put, Env.get]
        rw [if_neg (fun e' => e (tr.S.dst j k d d' t hj hd ht (by rw [hdst, e'])))]
        exact ih

theorem Tr.mkLen (tr : Tr P N ops T nn l st V env h) {k : Nat} (hm : Mk l st k) : k < l.length ∧ (st (k + 1)).heap.length = (st k).heap.length + 1 := by
  obtain ⟨d, hd, hc, hw⟩ := hm
  have hs := tr.step k d hd
  refine ⟨lt_of_someL hd, ?_⟩
  rcases hs.how with ⟨hw', -, -, -⟩ | ⟨-, f, h1, -, ho, ⟨hc', -, -⟩ | ⟨-, hh, -⟩ | ⟨hc', -, -, -, -⟩⟩
  · rw [hw] at hw'; cases hw'
  · omega
  · obtain ⟨ob, rfl⟩ := aop_alloc hc (opC_aop (by omega) ho)
    rw [hh, unmaskH_len]; simp [maskH_len]
  · omega

theorem Tr.step_le (tr : Tr P N ops T nn l st V env h) {k : Nat} (hk : k < l.length) : (st k).heap.length ≤ (st (k + 1)).heap.length := by
  obtain ⟨d, hd, hs⟩ := tr.at hk
  rcases hs.how with ⟨-, -, hh, -⟩ | ⟨hw, f, h1, -, ho, ⟨-, hh, -⟩ | ⟨hc, -, -⟩ | ⟨-, hl, hh, -, -⟩⟩
  · rw [hh]; exact Nat.le_refl _
  · rw [hh]; exact Nat.le_refl _
  · have := (tr.mkLen ⟨d, hd, hc, hw⟩).2
    omega
  · rw [hh, unmaskH_len]; exact hl

theorem Tr.mono (tr : Tr P N ops T nn l st V env h) {s : Nat} : ∀ (t : Nat), s ≤ t → t ≤ l.length → (st s).heap.length ≤ (st t).heap.length := by
  intro t hst ht
  induction t with
  | zero => obtain rfl : s = 0 := by omega
            exact Nat.le_refl _
  | succ t ih =>
    rcases Nat.lt_or_ge t s with h1 | h1
    · obtain rfl : s = t + 1 := by omega
      exact Nat.le_refl _
    · exact Nat.le_trans (ih h1 (by omega)) (tr.step_le (by omega))

theorem Tr.lt_of_mk (tr : Tr P N ops T nn l st V env h) {i k : Nat} (hm : Mk l st i) (hik : i < k) (hk : k ≤ l.length) : (st i).heap.length < (st k).heap.length := by
  have h1 := (tr.mkLen hm).2
  have h2 := tr.mono (s := i + 1) k hik hk
  omega

/-- What a step that makes an object does to the heap. -/
theorem Tr.mks (tr : Tr P N ops T nn l st V env h) {k : Nat} (hm : Mk l st k) : k < l.length ∧ (st (k + 1)).heap.length = (st k).heap.length + 1 ∧ (∀ p, p < (st k).heap.length → (st (k + 1)).heap[p]? = (st k).heap[p]?) ∧
    ∃ (d : DI) (h1 : Heap) (ob : AO), l[k]? = some d ∧ aop ((st k).env.mask d.need).ev (maskH (st k).heap ((st k).positions d.mask)) d.ai.op = some (V k, h1) ∧ h1 = maskH (st k).heap ((st k).positions d.mask) ++ [ob] ∧ (st (k + 1)).heap[(st k).heap.length]? = some ob := by
  obtain ⟨d, hd, hc, hw⟩ := hm
  have hs := tr.step k d hd
  have hlt := lt_of_someL hd
  rcases hs.how with ⟨hw', -, -, -⟩ | ⟨-, f, h1, -, ho, ⟨hc', -, -⟩ | ⟨-, hh, -⟩ | ⟨hc', -, -, -, -⟩⟩
  · rw [hw] at hw'; cases hw'
  · omega
  · have ho' := opC_aop (by omega) ho
    obtain ⟨ob, rfl⟩ := aop_alloc hc ho'
    refine ⟨hlt, ?_, ?_, d, _, ob, hd, ho', rfl, ?_⟩
    · rw [hh, unmaskH_len]; simp [maskH_len]
    · intro p hp
      rw [hh, unmaskH_get]
      simp only [List.length_append, maskH_len, List.length_singleton]
      by_cases hpm : p ∈ (st k).positions d.mask
      · rw [if_pos ⟨hpm, by omega⟩, getO_some hp]
      · rw [if_neg (fun e => hpm e.1), List.getElem?_append_left (by rw [maskH_len]; exact hp), maskH_get, if_neg (fun e => hpm e.1)]
    · rw [hh, unmaskH_get]
      simp only [List.length_append, maskH_len, List.length_singleton]
      by_cases hpm : (st k).heap.length ∈ (st k).positions d.mask
      · exfalso
        obtain ⟨i, -, hik, hmk, e⟩ := (tr.pos (by omega) _ _).1 hpm
        have := tr.lt_of_mk hmk hik (by omega)
        omega
      · rw [if_neg (fun e => hpm e.1), List.getElem?_append_right (by rw [maskH_len]; exact Nat.le_refl _)]
        simp [maskH_len]
  · omega

end
end Go.Ab
