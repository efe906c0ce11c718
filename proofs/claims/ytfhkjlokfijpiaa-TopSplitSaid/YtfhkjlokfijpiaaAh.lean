/- Regions that draw their order: the runner's one order speaks for every order. -/
import Derived.Test.YtfhkjlokfijpiaaAg
set_option linter.unusedSimpArgs false
set_option linter.unusedVariables false
namespace Go.Ab
open Go

def Hole (l : List DI) (st : Nat → DS) (S : Nat → Prop) (t p : Nat) : Prop := ∃ i, i < t ∧ ¬ S i ∧ Mk l st i ∧ p = (st i).heap.length

/-- Heaps in an order of somebody's: what is done, and up to which call. -/
structure HInv (K : KP) (l : List DI) (st : Nat → DS) (S : Nat → Prop) (c : RC) (HS : Heap) (t : Nat) : Prop where
  hr : HR K c HS
  le : t ≤ l.length
  calls : ∀ (k : Nat) (d : DI), k < t → l[k]? = some d → clsOf d.ai.op = 3 → S k
  beyond : ∀ k, t ≤ k → ¬ S k
  top : ∀ d, l[t]? = some d → clsOf d.ai.op = 3
  len : HS.length = (st t).heap.length
  dead : ∀ p, Hole l st S t p → HS[p]? = some .dead
  get : ∀ p, ¬ Hole l st S t p → HS[p]? = (st t).heap[p]?
  hole : ∀ p, Hole l st S t p → ¬ c.D p

structure TInv (l : List DI) (V : Nat → AV) (env : Env) (N B : Nat) (S : Nat → Prop) (c : RC) (a : Act) : Prop where
  str : StR N c B [] a
  tmpS : ∀ (k : Nat) (d : DI) (t : Nat), S k → l[k]? = some d → d.ai.dst = some t → VR c (V k) (a.tmps.getD t undef)
  tmpN : ∀ t, (∀ (k : Nat) (d : DI), S k → l[k]? = some d → d.ai.dst ≠ some t) → VR c (env.get t) (a.tmps.getD t undef)

section
variable {K : KP} {P : Program} {N : Nat} {ops : Array Oper} {T : Tab} {nn : Nat} {l : List DI} {st : Nat → DS} {V : Nat → AV} {env : Env} {h : Heap} {S : Nat → Prop} {c : RC} {HS : Heap} {B : Nat} {a : Act}

theorem TInv.step (hT : TInv l V env N B S c a) (tr : Tr P N ops T nn l st V env h) {k : Nat} {d : DI} (hd : l[k]? = some d) (hk : ¬ S k) {c' : RC} (hE : Ext c c') {u : Value} (hu : ∀ t, d.ai.dst = some t → t < N ∧ VR c' (V k) u) :
    TInv l V env N B (fun j => S j ∨ j = k) c' (a.put d.ai.dst u) := by
  have other : ∀ t, d.ai.dst ≠ some t → (a.put d.ai.dst u).tmps.getD t undef = a.tmps.getD t undef := by
    intro t ht
    cases hdst : d.ai.dst with
    | none => rfl
    | some t' =>
      rw [hdst] at ht
      simp only [Act.put]
      rw [Array.getD_eq_getD_getElem?, Array.getElem?_setIfInBounds_ne (fun e => ht (by rw [e])), ← Array.getD_eq_getD_getElem?]
  have hs := hT.str.ext hE
  refine ⟨?_, ?_, ?_⟩
  · refine ⟨fun t => by simp [Env.get, VR], ?_, ?_, ?_⟩
    · cases d.ai.dst with
      | none => exact hs.size
      | some t => simp [Act.put, hs.size]
    · cases d.ai.dst with
      | none => exact hs.defs
      | some t => exact hs.defs
    · cases d.ai.dst with
      | none => exact hs.dist
      | some t => exact hs.dist
  · rintro j d' t (hj | rfl) hd' ht
    · have hne : d.ai.dst ≠ some t := fun e => hk (by
        have := tr.S.dst k j d d' t hd hd' e ht
        rw [this]; exact hj)
      rw [other t hne]
      exact VR.ext hE _ _ (hT.tmpS j d' t hj hd' ht)
    · rw [hd] at hd'; cases hd'
      obtain ⟨h1, h2⟩ := hu t ht
      rw [ht]
      simp only [Act.put]
      rw [Array.getD_eq_getD_getElem?, Array.getElem?_setIfInBounds_self]
      simp only [hT.str.size, h1, if_true, Option.getD_some]
      exact h2
  · intro t ht
    rw [other t (ht k d (.inr rfl) hd)]
    exact VR.ext hE _ _ (hT.tmpN t (fun j d' hj => ht j d' (.inl hj)))

/-- What an operation looks at, in an order of somebody's, is what it looks at in ours. -/
theorem TInv.needs (hT : TInv l V env N B S c a) (tr : Tr P N ops T nn l st V env h) {k : Nat} {d : DI} (hd : l[k]? = some d) (hk : ¬ S k) (hreq : ∀ r ∈ d.req, S r)
    (hcl : ∀ (j : Nat) (d' : DI), S j → l[j]? = some d' → ∀ r ∈ d'.req, S r) : EnvR c ((st k).env.mask d.need) a.tmps := by
  have hlt := lt_of_someL hd
  have key : ∀ t ∈ d.need, VR c ((st k).env.get t) (a.tmps.getD t undef) := by
    intro t ht
    by_cases hex : ∃ (j : Nat) (d' : DI), l[j]? = some d' ∧ d'.ai.dst = some t
    · obtain ⟨j, d', hj, hjt⟩ := hex
      rcases tr.S.need k d t hd ht j d' hj hjt with h1 | ⟨h1, -⟩
      · obtain ⟨_, -, -, -, h3⟩ := tr.S.op k d hd
        have hjk := (h3 j h1).1
        rw [tr.getDst hj hjt k (by omega) hjk]
        exact hT.tmpS j d' t (hreq j h1) hj hjt
      · obtain ⟨_, -, -, -, h3⟩ := tr.S.op j d' hj
        have hkj := (h3 k h1).1
        rw [tr.getNot k (by omega) (fun i di hi hdi e => by
          have := tr.S.dst i j di d' t hdi hj e hjt
          omega)]
        refine hT.tmpN t (fun i di hi hdi e => ?_)
        have := tr.S.dst i j di d' t hdi hj e hjt
        subst this
        exact hk (hcl i d' hi hj k h1)
    · rw [tr.getNot k (by omega) (fun i di _ hdi e => hex ⟨i, di, hdi, e⟩)]
      exact hT.tmpN t (fun i di _ hdi e => hex ⟨i, di, hdi, e⟩)
  intro t
  have : ∀ (m : List Nat), (∀ t ∈ m, VR c ((st k).env.get t) (a.tmps.getD t undef)) → VR c (((st k).env.mask m).get t) (a.tmps.getD t undef) := by
    intro m
    induction m with
    | nil => intro _; simp [Env.mask, Env.get, VR]
    | cons x m ih =>
      intro hm
      simp only [Env.mask, List.map_cons, Env.get]
      split
      · rename_i e; subst e; exact hm x (by simp)
      · exact ih (fun t ht => hm t (by simp [ht]))
  exact this _ key

/-- A call or a writer that is wanted. -/
def Wc (st : Nat → DS) (k : Nat) (d : DI) : Prop := clsOf d.ai.op = 3 ∧ wanted ((st k).env.mask d.need) d.ai.guard = some true

/-- Between two calls the heap only grows by objects that are made. -/
theorem Tr.stretch (tr : Tr P N ops T nn l st V env h) {s : Nat} : ∀ (t : Nat), s ≤ t → t ≤ l.length → (∀ (k : Nat) (d : DI), s ≤ k → k < t → l[k]? = some d → ¬ Wc st k d) →
    (∀ p, p < (st s).heap.length → (st t).heap[p]? = (st s).heap[p]?) ∧ ∀ p, (st s).heap.length ≤ p → p < (st t).heap.length → ∃ i, s ≤ i ∧ i < t ∧ Mk l st i ∧ p = (st i).heap.length := by
  intro t
  induction t with
  | zero =>
    intro hst _ _
    obtain rfl : s = 0 := by omega
    exact ⟨fun _ _ => rfl, fun p h1 h2 => by omega⟩
  | succ t ih =>
    intro hst ht hno
    rcases Nat.lt_or_ge t s with h1 | h1
    · obtain rfl : s = t + 1 := by omega
      exact ⟨fun _ _ => rfl, fun p h1 h2 => by omega⟩
    · obtain ⟨g1, g2⟩ := ih h1 (by omega) (fun k d hk1 hk2 => hno k d hk1 (by omega))
      have hmono := tr.mono (s := s) t h1 (by omega)
      by_cases hm : Mk l st t
      · obtain ⟨-, q1, q2, -⟩ := tr.mks hm
        refine ⟨fun p hp => by rw [q2 p (by omega)]; exact g1 p hp, fun p hp1 hp2 => ?_⟩
        rcases Nat.lt_or_ge p (st t).heap.length with h3 | h3
        · obtain ⟨i, h4, h5, h6⟩ := g2 p hp1 h3
          exact ⟨i, h4, by omega, h6⟩
        · exact ⟨t, h1, by omega, hm, by omega⟩
      · have heq : (st (t + 1)).heap = (st t).heap := by
          obtain ⟨d, hd, hs⟩ := tr.at (k := t) (by omega)
          rcases hs.how with ⟨-, -, hh, -⟩ | ⟨hw, f, h1, -, -, ⟨-, hh, -⟩ | ⟨hc, -, -⟩ | ⟨hc, -, -, -, -⟩⟩
          · exact hh
          · exact hh
          · exact absurd ⟨d, hd, hc, hw⟩ hm
          · exact absurd ⟨hc, hw⟩ (hno t d (by omega) (by omega) hd)
        rw [heq]
        refine ⟨g1, fun p hp1 hp2 => ?_⟩
        obtain ⟨i, h4, h5, h6⟩ := g2 p hp1 hp2
        exact ⟨i, h4, by omega, h6⟩

/-- A made object stays as it is through calls that need not come behind it. -/
theorem Tr.mkKeep (tr : Tr P N ops T nn l st V env h) {i : Nat} (hm : Mk l st i) {ob : AO} (hob : (st (i + 1)).heap[(st i).heap.length]? = some ob) :
    ∀ (t : Nat), i + 1 ≤ t → t ≤ l.length → (∀ (k : Nat) (d : DI), i < k → k < t → l[k]? = some d → clsOf d.ai.op = 3 → i ∉ d.req) → (st t).heap[(st i).heap.length]? = some ob := by
  intro t
  induction t with
  | zero => intro h1; omega
  | succ t ih =>
    intro hit ht hno
    rcases Nat.lt_or_ge i t with h1 | h1
    · have ih := ih h1 (by omega) (fun k d hk1 hk2 => hno k d hk1 (by omega))
      have hlt := lt_of_someL ih
      obtain ⟨d, hd, hs⟩ := tr.at (k := t) (by omega)
      rcases hs.how with ⟨-, -, hh, -⟩ | ⟨hw, f, h2, -, -, ⟨-, hh, -⟩ | ⟨hc, -, -⟩ | ⟨hc, hl, hh, -, -⟩⟩
      · rw [hh]; exact ih
      · rw [hh]; exact ih
      · obtain ⟨-, -, q2, -⟩ := tr.mks ⟨d, hd, hc, hw⟩
        rw [q2 _ hlt]; exact ih
      · obtain ⟨di, hdi, hci, hwi⟩ := hm
        have hmask : i ∈ d.mask := (tr.S.mask t i d di hd hdi (.inr ⟨hc, h1⟩) hci).resolve_left (hno t d h1 (by omega) hd hc)
        rw [hh, unmaskH_get, if_pos ⟨(tr.pos (by omega) _ _).2 ⟨i, hmask, h1, ⟨di, hdi, hci, hwi⟩, rfl⟩, by omega⟩, getO_some hlt]
        exact ih
    · obtain rfl : t = i := by omega
      exact hob

/-- Up to the next call the heap is filled with holes. -/
theorem HInv.pad (tr : Tr P N ops T nn l st V env h) {t0 : Nat} {h2 : Heap} (ht0 : t0 ≤ l.length) (H : HR K c h2) (hlen : h2.length = (st t0).heap.length) (hcalls : ∀ (k : Nat) (d : DI), k < t0 → l[k]? = some d → clsOf d.ai.op = 3 → S k)
    (hbeyond : ∀ k, t0 ≤ k → ¬ S k) (hdead : ∀ p, Hole l st S t0 p → h2[p]? = some .dead) (hget : ∀ p, ¬ Hole l st S t0 p → h2[p]? = (st t0).heap[p]?) (hhole : ∀ p, Hole l st S t0 p → ¬ c.D p) :
    ∃ HS t, HInv K l st S c HS t := by
  have next : ∀ m t0, t0 ≤ l.length → l.length - t0 = m → ∃ t, t0 ≤ t ∧ t ≤ l.length ∧ (∀ (k : Nat) (d : DI), t0 ≤ k → k < t → l[k]? = some d → clsOf d.ai.op ≠ 3) ∧ ∀ d, l[t]? = some d → clsOf d.ai.op = 3 := by
    intro m
    induction m with
    | zero =>
      intro t0 h1 h3
      refine ⟨t0, Nat.le_refl _, h1, fun k d h4 h5 => by omega, fun d hd => ?_⟩
      have := lt_of_someL hd
      omega
    | succ m ih =>
      intro t0 h1 h3
      have hlt : t0 < l.length := by omega
      by_cases hc : clsOf (l[t0]).ai.op = 3
      · refine ⟨t0, Nat.le_refl _, h1, fun k d h4 h5 => by omega, fun d hd => ?_⟩
        simp [hlt] at hd
        rw [← hd]; exact hc
      · obtain ⟨t, g1, g2, g3, g4⟩ := ih (t0 + 1) hlt (by omega)
        refine ⟨t, by omega, g2, fun k d h4 h5 hd => ?_, g4⟩
        by_cases e : k = t0
        · subst e
          simp [hlt] at hd
          rw [← hd]; exact hc
        · exact g3 k d (by omega) h5 hd
  obtain ⟨t, h1, h3, h4, h5⟩ := next _ t0 ht0 rfl
  obtain ⟨g1, g2⟩ := tr.stretch t h1 h3 (fun k d q1 q2 q3 q4 => h4 k d q1 q2 q3 q4.1)
  have hmono := tr.mono (s := t0) t h1 h3
  have hl : (h2 ++ List.replicate ((st t).heap.length - (st t0).heap.length) AO.dead).length = (st t).heap.length := by simp; omega
  have old : ∀ p, p < (st t0).heap.length → (Hole l st S t p ↔ Hole l st S t0 p) := by
    intro p hp
    constructor
    · rintro ⟨i, q1, q2, q3, q4⟩
      refine ⟨i, ?_, q2, q3, q4⟩
      rcases Nat.lt_or_ge i t0 with h6 | h6
      · exact h6
      · have := tr.mono (s := t0) i h6 (by omega)
        omega
    · rintro ⟨i, q1, q2⟩
      exact ⟨i, by omega, q2⟩
  have pos0 : ∀ p, Hole l st S t0 p → p < (st t0).heap.length := by
    rintro p ⟨i, q1, -, q3, rfl⟩
    exact tr.lt_of_mk q3 q1 ht0
  have app : ∀ p, p < (st t0).heap.length → (h2 ++ List.replicate ((st t).heap.length - (st t0).heap.length) AO.dead)[p]? = h2[p]? := fun p hp => List.getElem?_append_left (by omega)
  have app2 : ∀ p, (st t0).heap.length ≤ p → p < (st t).heap.length → (h2 ++ List.replicate ((st t).heap.length - (st t0).heap.length) AO.dead)[p]? = some .dead := fun p hp hp2 => by
    rw [List.getElem?_append_right (by omega), List.getElem?_replicate, if_pos (by omega)]
  have posT : ∀ p, Hole l st S t p → p < (st t).heap.length := by
    rintro p ⟨i, q1, -, q3, rfl⟩
    exact tr.lt_of_mk q3 q1 h3
  refine ⟨h2 ++ List.replicate ((st t).heap.length - (st t0).heap.length) AO.dead, t, ?_, h3, ?_, fun k hk => hbeyond k (by omega), h5, hl, ?_, ?_, ?_⟩
  · refine H.alive (by simp) ?_
    intro p x hx
    rcases Nat.lt_or_ge p (st t0).heap.length with h6 | h6
    · rw [app p h6]
    · constructor
      · intro h7
        have := lt_of_someL h7
        omega
      · intro h7
        have h8 := lt_of_someL h7
        rw [hl] at h8
        rw [app2 p h6 h8] at h7
        cases h7
        exact absurd rfl hx
  · intro k d hk hd hc
    rcases Nat.lt_or_ge k t0 with h6 | h6
    · exact hcalls k d h6 hd hc
    · exact absurd hc (h4 k d h6 hk hd)
  · intro p hp
    rcases Nat.lt_or_ge p (st t0).heap.length with h6 | h6
    · rw [app p h6]; exact hdead p ((old p h6).1 hp)
    · exact app2 p h6 (posT p hp)
  · intro p hp
    rcases Nat.lt_or_ge p (st t0).heap.length with h6 | h6
    · rw [app p h6, hget p (fun e => hp ((old p h6).2 e)), g1 p h6]
    · rcases Nat.lt_or_ge p (st t).heap.length with h7 | h7
      · exfalso
        obtain ⟨i, q1, q2, q3, q4⟩ := g2 p h6 h7
        exact hp ⟨i, q2, hbeyond i q1, q3, q4⟩
      · rw [List.getElem?_eq_none (by rw [hl]; exact h7), List.getElem?_eq_none h7]
  · intro p hp hD
    rcases Nat.lt_or_ge p (st t0).heap.length with h6 | h6
    · exact hhole p ((old p h6).1 hp) hD
    · have := H.dom p hD
      omega

end
end Go.Ab

/- Regions that draw their order: one step, and the whole. -/
namespace Go.Ab
open Go

theorem Sub.refl (h : Heap) : Sub h h := fun _ _ h1 _ => h1

mutual
theorem AV.same_eq : ∀ (x y : AV), AV.same x y = true → x = y
  | .any, y, h => by cases y <;> simp [AV.same] at h
  | .lit a, y, h => by cases y <;> simp [AV.same] at h; simp [h]
  | .ptr i o, y, h => by cases y <;> simp [AV.same] at h; simp [h]
  | .rop xs k, y, h => by
    cases y <;> simp [AV.same] at h
    rw [AV.sames_eq xs _ h.1, h.2]
  | .sl i o a s, y, h => by cases y <;> simp [AV.same] at h; simp [h]
  | .ro xs a s, y, h => by
    cases y <;> simp [AV.same] at h
    rw [AV.sames_eq xs _ h.1.1, h.1.2, h.2]
  | .emp, y, h => by cases y <;> simp [AV.same] at h; rfl
  | .mp i, y, h => by cases y <;> simp [AV.same] at h; simp [h]
  | .fn f a b, y, h => by
    cases y <;> simp [AV.same] at h
    rw [h.1.1, AV.sames_eq a _ h.1.2, AV.sames_eq b _ h.2]
  | .yl i, y, h => by cases y <;> simp [AV.same] at h; simp [h]
  | .ifc t x, y, h => by
    cases y <;> simp [AV.same] at h
    rw [h.1, AV.same_eq x _ h.2]
  | .agg xs, y, h => by
    cases y <;> simp [AV.same] at h
    rw [AV.sames_eq xs _ h]
  | .tup xs, y, h => by
    cases y <;> simp [AV.same] at h
    rw [AV.sames_eq xs _ h]
theorem AV.sames_eq : ∀ (xs ys : List AV), AV.sames xs ys = true → xs = ys
  | [], ys, h => by cases ys <;> simp [AV.sames] at h; rfl
  | x :: xs, ys, h => by
    cases ys <;> simp [AV.sames] at h
    rw [AV.same_eq x _ h.1, AV.sames_eq xs _ h.2]
end

section
variable {K : KP} {P : Program} {N : Nat} {ops : Array Oper} {T : Tab} {nn : Nat} {l : List DI} {st : Nat → DS} {V : Nat → AV} {env : Env} {h : Heap} {S : Nat → Prop} {c : RC} {HS : Heap} {B : Nat} {a : Act} {t : Nat}

theorem HInv.pos (tr : Tr P N ops T nn l st V env h) (hI : HInv K l st S c HS t) {p : Nat} (hp : Hole l st S t p) : p < HS.length := by
  obtain ⟨i, h1, -, h3, rfl⟩ := hp
  rw [hI.len]
  exact tr.lt_of_mk h3 h1 hI.le

theorem Tr.mkInj (tr : Tr P N ops T nn l st V env h) {i j : Nat} (hi : Mk l st i) (hj : Mk l st j) (e : (st i).heap.length = (st j).heap.length) : i = j := by
  have hli := (tr.mkLen hi).1
  have hlj := (tr.mkLen hj).1
  rcases Nat.lt_trichotomy i j with h1 | h1 | h1
  · have := tr.lt_of_mk hi h1 (by omega)
    omega
  · exact h1
  · have := tr.lt_of_mk hj h1 (by omega)
    omega

theorem HInv.quiet (tr : Tr P N ops T nn l st V env h) (hI : HInv K l st S c HS t) {k : Nat} (hk : k < t) (hn : ¬ Mk l st k) {c' : RC} (H : HR K c' HS) (hnew : ∀ i, c'.D i → c.D i ∨ HS.length ≤ i) :
    HInv K l st (fun j => S j ∨ j = k) c' HS t := by
  have same : ∀ p, Hole l st (fun j => S j ∨ j = k) t p ↔ Hole l st S t p := by
    intro p
    constructor
    · rintro ⟨i, h1, h2, h3⟩
      exact ⟨i, h1, fun hs => h2 (.inl hs), h3⟩
    · rintro ⟨i, h1, h2, h3, h4⟩
      exact ⟨i, h1, fun hs => hs.elim h2 (fun e => hn (e ▸ h3)), h3, h4⟩
  refine ⟨H, hI.le, fun j d h1 h2 h3 => .inl (hI.calls j d h1 h2 h3), fun j hj hs => hs.elim (hI.beyond j hj) (by omega), hI.top, hI.len, fun p hp => hI.dead p ((same p).1 hp), fun p hp => hI.get p (fun e => hp ((same p).2 e)), fun p hp hD => ?_⟩
  rcases hnew p hD with h1 | h1
  · exact hI.hole p ((same p).1 hp) h1
  · have := hI.pos tr ((same p).1 hp)
    omega

/-- A step at the next call: what it leaves, filled with holes up to the call after it. -/
theorem HInv.onward (tr : Tr P N ops T nn l st V env h) (hI : HInv K l st S c HS t) (ht : t < l.length) {h2 : Heap} {c' : RC} (H : HR K c' h2) (hlen : h2.length = (st (t + 1)).heap.length) (hn : ¬ Mk l st t)
    (hdead : ∀ p, Hole l st S t p → h2[p]? = some .dead) (hget : ∀ p, ¬ Hole l st S t p → h2[p]? = (st (t + 1)).heap[p]?) (hnew : ∀ i, c'.D i → c.D i ∨ HS.length ≤ i) :
    ∃ HS' t', HInv K l st (fun j => S j ∨ j = t) c' HS' t' := by
  have same : ∀ p, Hole l st (fun j => S j ∨ j = t) (t + 1) p ↔ Hole l st S t p := by
    intro p
    constructor
    · rintro ⟨i, h1, h2, h3⟩
      have : i ≠ t := fun e => h2 (.inr e)
      exact ⟨i, by omega, fun hs => h2 (.inl hs), h3⟩
    · rintro ⟨i, h1, h2, h3, h4⟩
      exact ⟨i, by omega, fun hs => hs.elim h2 (by omega), h3, h4⟩
  refine HInv.pad tr (t0 := t + 1) (by omega) H hlen ?_ ?_ (fun p hp => hdead p ((same p).1 hp)) (fun p hp => hget p (fun e => hp ((same p).2 e))) ?_
  · intro k d hk hd hc
    by_cases e : k = t
    · exact .inr e
    · exact .inl (hI.calls k d (by omega) hd hc)
  · intro k hk hs
    exact hs.elim (hI.beyond k (by omega)) (by omega)
  · intro p hp hD
    rcases hnew p hD with h1 | h1
    · exact hI.hole p ((same p).1 hp) h1
    · have := hI.pos tr ((same p).1 hp)
      omega

theorem Env.mask_congr {e e' : Env} : ∀ (m : List Nat), (∀ t ∈ m, e.get t = e'.get t) → e.mask m = e'.mask m
  | [], _ => rfl
  | x :: m, h => by
    have := Env.mask_congr m (fun t ht => h t (by simp [ht]))
    simp only [Env.mask, List.map_cons] at this ⊢
    rw [this, h x (by simp)]

/-- What is read in an order of somebody's is what is read in ours. -/
theorem HInv.read (tr : Tr P N ops T nn l st V env h) (hI : HInv K l st S c HS t) {k : Nat} {d : DI} (hd : l[k]? = some d) (hk : ¬ S k) (hkt : k < t) (hreq : ∀ r ∈ d.req, S r)
    (hcl : ∀ (j : Nat) (d' : DI), S j → l[j]? = some d' → ∀ r ∈ d'.req, S r) (hc : clsOf d.ai.op = 1) (hw : wanted ((st k).env.mask d.need) d.ai.guard = some true)
    {h1 : Heap} (hr : aop ((st k).env.mask d.need).ev (maskH (st k).heap ((st k).positions d.mask)) d.ai.op = some (V k, h1)) :
    ∃ v, aop ((st k).env.mask d.need).ev HS d.ai.op = some (v, HS) ∧ ∀ t, d.ai.dst = some t → v = V k := by
  have hlt := lt_of_someL hd
  -- a heap of ours says no more than the heap here
  have sub : ∀ q, q ≤ t → (∀ p, p < (st q).heap.length → (st t).heap[p]? = (st q).heap[p]?) → Sub (maskH (st q).heap ((st q).positions d.mask)) HS := by
    intro q hq hpre p x hx hxd
    rw [maskH_get] at hx
    split at hx
    · cases hx; exact absurd rfl hxd
    · rename_i hnp
      have hp := lt_of_someL hx
      rw [hI.get p, hpre p hp]
      · exact hx
      · rintro ⟨i, g1, g2, g3, g4⟩
        apply hnp
        refine ⟨(tr.pos (by have := hI.le; omega) _ _).2 ⟨i, ?_, ?_, g3, g4⟩, hp⟩
        · obtain ⟨di, hdi, hci, -⟩ := g3
          exact (tr.S.mask k i d di hd hdi (.inl hc) hci).resolve_left (fun e => g2 (hreq i e))
        · rcases Nat.lt_or_ge i q with h6 | h6
          · exact h6
          · have := tr.mono (s := q) i h6 (by have := hI.le; omega)
            omega
  -- the last call before
  have last : ∀ m, k + m ≤ t → (∀ (j : Nat) (d' : DI), k ≤ j → j < k + m → l[j]? = some d' → ¬ Wc st j d') ∨
      ∃ (q : Nat) (dq : DI), k < q ∧ q < k + m ∧ l[q]? = some dq ∧ Wc st q dq ∧ ∀ (j : Nat) (d' : DI), q < j → j < k + m → l[j]? = some d' → ¬ Wc st j d' := by
    intro m
    induction m with
    | zero => intro _; exact .inl (fun j d' h1 h2 => by omega)
    | succ m ih =>
      intro hm
      obtain ⟨d', hd'⟩ : ∃ d', l[k + m]? = some d' := ⟨l[k + m]'(by have := hI.le; omega), by simp [show k + m < l.length by have := hI.le; omega]⟩
      by_cases hc' : Wc st (k + m) d'
      · right
        refine ⟨k + m, d', ?_, by omega, hd', hc', fun j d'' h1 h2 => by omega⟩
        rcases Nat.eq_zero_or_pos m with h6 | h6
        · subst h6
          rw [Nat.add_zero, hd] at hd'
          cases hd'
          have := hc'.1
          omega
        · omega
      · rcases ih (by omega) with h6 | ⟨q, dq, g1, g2, g3, g4, g5⟩
        · left
          intro j d'' h1 h2 hj
          by_cases e : j = k + m
          · subst e; rw [hd'] at hj; cases hj; exact hc'
          · exact h6 j d'' h1 (by omega) hj
        · right
          refine ⟨q, dq, g1, by omega, g3, g4, fun j d'' h1 h2 hj => ?_⟩
          by_cases e : j = k + m
          · subst e; rw [hd'] at hj; cases hj; exact hc'
          · exact g5 j d'' h1 (by omega) hj
  rcases last (t - k) (by omega) with h6 | ⟨q, dq, g1, g2, g3, g4, g5⟩
  · obtain ⟨q1, -⟩ := tr.stretch t (by omega) hI.le (s := k) (fun j d' hj1 hj2 => h6 j d' hj1 (by omega))
    exact ⟨V k, (aop_read hc hr).2 HS (sub k (by omega) q1), fun _ _ => rfl⟩
  · have hqt : q < t := by omega
    have hSq : S q := hI.calls q dq hqt g3 g4.1
    have hkq : k ∉ dq.req := fun e => hk (hcl q dq hSq g3 k e)
    have hpost := (tr.S.post k q d dq g1 hd g3 hc g4.1).resolve_left hkq
    obtain ⟨q1, -⟩ := tr.stretch t (by omega) hI.le (s := q + 1) (fun j d' hj1 hj2 => g5 j d' (by omega) (by omega))
    have hsub := sub (q + 1) (by omega) q1
    have hs := tr.step q dq g3
    -- the same temporaries
    have henv : (st (q + 1)).env.mask d.need = (st k).env.mask d.need := by
      refine Env.mask_congr _ fun tt htt => ?_
      by_cases hex : ∃ (j : Nat) (d' : DI), l[j]? = some d' ∧ d'.ai.dst = some tt
      · obtain ⟨j, d', hj, hjt⟩ := hex
        have hjr := (tr.S.need k d tt hd htt j d' hj hjt).resolve_right (fun e => e.2 hc)
        obtain ⟨_, -, -, -, h3⟩ := tr.S.op k d hd
        have hjk := (h3 j hjr).1
        rw [tr.getDst hj hjt k (by omega) hjk, tr.getDst hj hjt (q + 1) (by have := hI.le; omega) (by omega)]
      · rw [tr.getNot k (by omega) (fun i di _ hdi e => hex ⟨i, di, hdi, e⟩), tr.getNot (q + 1) (by have := hI.le; omega) (fun i di _ hdi e => hex ⟨i, di, hdi, e⟩)]
    have hrr : rereads l (st (q + 1)) dq.post = true := by
      rcases hs.how with ⟨hw', -⟩ | ⟨-, f, h2, -, -, ⟨hc', -, -⟩ | ⟨hc', -, -⟩ | ⟨-, -, -, -, hh⟩⟩
      · rw [g4.2] at hw'; cases hw'
      · have := g4.1; omega
      · have := g4.1; omega
      · exact hh
    have := List.all_eq_true.1 hrr k hpost
    rw [hd] at this
    simp only [henv, hw] at this
    split at this
    · rename_i v h3 hr3
      refine ⟨v, (aop_read hc hr3).2 HS hsub, fun tt htt => ?_⟩
      rw [htt] at this
      simp only at this
      have h4 := AV.same_eq _ _ this
      rw [h4]
      exact tr.getDst hd htt (q + 1) (by have := hI.le; omega) (by omega)
    · cases this

end
end Go.Ab

/- Regions that draw their order are sound. -/
namespace Go.Ab
open Go

section
variable {P : Program} {N : Nat} {ops : Array Oper} {T : Tab} {nn : Nat} {l : List DI} {st : Nat → DS} {V : Nat → AV} {env : Env} {h : Heap} {S : Nat → Prop} {c : RC} {HS : Heap} {B : Nat} {a : Act} {t : Nat}

/-- An object is made, in a region. -/
theorem OpS.of_makes {ro : Option Nat} {m : Nat} {o : Oper} {ao : AOp} {ob : Obj} {u : Value} (ht : trOp P o = some ao) (hr : (execOp a.eval o).run P c.w = .ok (.value u) (c.w.alloc ob)) {next : Act → World → Prop} {Q : Exit → Act → World → Prop}
    (hn : next (a.put o.dst u) (c.w.alloc ob)) : o.wpIn (Fw ro) m P a c.w next Q := by
  refine ⟨fun _ _ => trivial, ?_⟩
  rw [semAt_of ht, hr]
  exact hn

theorem inv_step (tr : Tr P N ops T nn l st V env h) (hop : ∀ f, f < nn → SOp DrawSt P T f) {c0 : RC} (H0 : HR (CodeR DrawSt P) c0 h) (hE0 : Ext c0 c) (hI : HInv (CodeR DrawSt P) l st S c HS t) (hT : TInv l V env N B S c a)
    {k : Nat} {d : DI} (hd : l[k]? = some d) (hk : ¬ S k) (hreq : ∀ r ∈ d.req, S r) (hcl : ∀ (j : Nat) (d' : DI), S j → l[j]? = some d' → ∀ r ∈ d'.req, S r) {ro : Option Nat} {m : Nat} {Q : Exit → Act → World → Prop} :
    wpOpIn (Fw ro) m P ops Q d.ix (fun a' w' => ∃ c' HS' t', c'.w = w' ∧ Ext c0 c' ∧ HInv (CodeR DrawSt P) l st (fun j => S j ∨ j = k) c' HS' t' ∧ TInv l V env N B (fun j => S j ∨ j = k) c' a') a c.w := by
  obtain ⟨o, ho, htr, -, -⟩ := tr.S.op k d hd
  obtain ⟨t1, t2, t3, t4⟩ := trAI_some htr
  have he := hT.needs tr hd hk hreq hcl
  have hs := tr.step k d hd
  have hlt := lt_of_someL hd
  have hlo : ∀ i, i ≤ l.length → c.lo ≤ (st i).heap.length := fun i hi => by
    have h1 := H0.lo
    have h2 := hE0.lo
    have h3 := tr.mono (s := 0) i (by omega) hi
    rw [tr.h0] at h3
    omega
  have hkt : k ≤ t := by
    rcases Nat.lt_or_ge t k with h1 | h1
    · exfalso
      obtain ⟨dt, hdt⟩ : ∃ dt, l[t]? = some dt := ⟨l[t]'(by omega), by simp [show t < l.length by omega]⟩
      exact hI.beyond t (Nat.le_refl _) (hreq t (tr.S.calls t k dt d h1 hdt hd (hI.top dt hdt)))
    · exact h1
  unfold wpOpIn
  rw [ho]
  simp only
  have dstOk : ∀ {c' : RC} {u : Value}, (∀ tt, d.ai.dst = some tt → VR c' (V k) u) → ∀ tt, d.ai.dst = some tt → tt < N ∧ VR c' (V k) u := fun h1 tt htt => ⟨t4 tt (t3 ▸ htt), h1 tt htt⟩
  rcases hs.how with ⟨hw, hv, hh, -⟩ | ⟨hw, f, h1, hf, hopc, hhow⟩
  · -- not wanted
    rw [wanted_R t2 he hw, if_neg (by simp), ← t3]
    have hn : ¬ Mk l st k := by
      rintro ⟨d', hd', -, hw'⟩
      rw [hd] at hd'; cases hd'
      rw [hw] at hw'; cases hw'
    have hT' := hT.step tr hd hk (.refl c) (u := undef) (dstOk (fun _ _ => by rw [hv]; exact VR.unit))
    refine ⟨fun _ _ => trivial, ?_⟩
    rcases Nat.lt_or_ge k t with h1 | h1
    · exact ⟨c, HS, t, rfl, hE0, hI.quiet tr h1 hn hI.hr (fun i hi => .inl hi), hT'⟩
    · obtain rfl : k = t := by omega
      obtain ⟨HS', t', h2⟩ := hI.onward tr hlt (c' := c) hI.hr (by rw [hh]; exact hI.len) hn hI.dead (by rw [hh]; exact hI.get) (fun i hi => .inl hi)
      exact ⟨c, HS', t', rfl, hE0, h2, hT'⟩
  · rw [wanted_R t2 he hw, if_pos rfl]
    -- an operation that leaves the heap
    have still : ∀ v, aop ((st k).env.mask d.need).ev HS d.ai.op = some (v, HS) → (∀ tt, d.ai.dst = some tt → v = V k) → clsOf d.ai.op < 2 →
        o.wpIn (Fw ro) m P a c.w (fun a' w' => ∃ c' HS' t', c'.w = w' ∧ Ext c0 c' ∧ HInv (CodeR DrawSt P) l st (fun j => S j ∨ j = k) c' HS' t' ∧ TInv l V env N B (fun j => S j ∨ j = k) c' a') Q := by
      intro v hr hvk hc
      have hkt' : k < t := by
        rcases Nat.lt_or_ge k t with h1 | h1
        · exact h1
        · obtain rfl : k = t := by omega
          have := hI.top d hd
          omega
      have hn : ¬ Mk l st k := by
        rintro ⟨d', hd', hc', -⟩
        rw [hd] at hd'; cases hd'
        omega
      have HG := hI.hr.focus rfl (Sub.refl HS)
      have hx := hI.hr.focus_ext (Sub.refl HS)
      have good := OpS.of_good (DR := DrawSt) (ro := ro) (m := m) t1 (aop_sound HG (he.extW hx) t1 hr)
      refine good _ Q ?_
      intro c1 u hE1 H1 hv1
      obtain ⟨c2, g1, g2, g3, g4, g5⟩ := hI.hr.back (M := fun _ => False) (h2 := HS) rfl (Sub.refl HS) (fun _ h => h.elim) hE1 H1 rfl (fun _ h => h.elim) (fun _ _ => rfl)
      refine ⟨c2, HS, t, g1, hE0.trans g2, hI.quiet tr hkt' hn g3 g5, ?_⟩
      rw [← t3]
      exact hT.step tr hd hk g2 (dstOk (fun tt htt => by rw [← hvk tt htt]; exact VR.extW g4 _ _ hv1))
    rcases hhow with ⟨hc, hh, -⟩ | ⟨hc, hh, -⟩ | ⟨hc, hl, hh, -, -⟩
    · have hr := opC_aop (by omega) hopc
      rcases hc with hc | hc
      · exact still (V k) ((aop_pure hc hr).2 HS) (fun _ _ => rfl) (by omega)
      · have hkt' : k < t := by
          rcases Nat.lt_or_ge k t with h1 | h1
          · exact h1
          · obtain rfl : k = t := by omega
            have := hI.top d hd
            omega
        obtain ⟨v, h2, h3⟩ := hI.read tr hd hk hkt' hreq hcl hc hw hr
        exact still v h2 h3 (by omega)
    · -- an object is made
      have hm : Mk l st k := ⟨d, hd, hc, hw⟩
      have hkt' : k < t := by
        rcases Nat.lt_or_ge k t with h1 | h1
        · exact h1
        · obtain rfl : k = t := by omega
          have := hI.top d hd
          omega
      obtain ⟨-, q1, q2, d', h1', ob, hd', hr, hob, hat⟩ := tr.mks hm
      rw [hd] at hd'; cases hd'
      obtain ⟨ob', vf, e1, e2, hmk⟩ := aop_makes he t1 hc hr
      rw [hob] at e1
      have e3 : ob = ob' := by simpa using (List.append_cancel_left e1)
      subst e3
      rw [maskH_len] at e2
      have hhole : Hole l st S t (st k).heap.length := ⟨k, hkt', hk, hm, rfl⟩
      obtain ⟨objm, u, hrun, hnd, hor, hvr⟩ := hmk
      obtain ⟨e, H'⟩ := hI.hr.pushAt (hI.dead _ hhole) (hI.hole _ hhole) (hlo k (by omega)) objm ob hor hnd
      have hpl := hI.pos tr hhole
      refine OpS.of_makes t1 hrun ⟨c.push (st k).heap.length objm, HS.set (st k).heap.length ob, t, rfl, hE0.trans e, ?_, ?_⟩
      · have hne : ∀ p, Hole l st (fun j => S j ∨ j = k) t p → Hole l st S t p ∧ p ≠ (st k).heap.length := by
          rintro p ⟨i, g1, g2, g3, g4⟩
          refine ⟨⟨i, g1, fun hs => g2 (.inl hs), g3, g4⟩, fun e => g2 (.inr (tr.mkInj g3 hm (by omega)))⟩
        refine ⟨H', hI.le, fun j d' g1 g2 g3 => .inl (hI.calls j d' g1 g2 g3), fun j hj hs => hs.elim (hI.beyond j hj) (by omega), hI.top, by rw [List.length_set]; exact hI.len, ?_, ?_, ?_⟩
        · intro p hp
          obtain ⟨g1, g2⟩ := hne p hp
          rw [List.getElem?_set_ne (Ne.symm g2)]
          exact hI.dead p g1
        · intro p hp
          by_cases hpk : p = (st k).heap.length
          · subst hpk
            rw [tr.mkKeep hm hat t (by omega) hI.le (fun q dq g1 g2 g3 g4 g5 => hk (hcl q dq (hI.calls q dq g2 g3 g4) g3 k g5))]
            simp [hpl]
          · rw [List.getElem?_set_ne (Ne.symm hpk)]
            refine hI.get p ?_
            rintro ⟨i, g1, g2, g3, g4⟩
            exact hp ⟨i, g1, fun hs => hs.elim g2 (fun e => hpk (by rw [g4, e])), g3, g4⟩
        · intro p hp hD
          obtain ⟨g1, g2⟩ := hne p hp
          rcases hD with hD | hD
          · exact hI.hole p g1 hD
          · exact g2 hD
      · rw [← t3]
        refine hT.step tr hd hk e (dstOk (fun tt htt => ?_))
        rw [e2]
        exact hvr _ _ rfl (.inr rfl) (by simp [RC.push])
    · -- a call, or a writer
      have hkt' : k = t := by
        rcases Nat.lt_or_ge k t with h1 | h1
        · exact absurd (hI.calls k d h1 hd hc) hk
        · omega
      subst hkt'
      have hn : ¬ Mk l st k := by
        rintro ⟨d', hd', hc', -⟩
        rw [hd] at hd'; cases hd'
        omega
      have hps : ∀ p, p ∈ (st k).positions d.mask → p < HS.length := by
        intro p hp
        obtain ⟨i, -, g2, g3, rfl⟩ := (tr.pos (by omega) _ _).1 hp
        rw [hI.len]
        exact tr.lt_of_mk g3 g2 (by omega)
      have hmaskHole : ∀ p, Hole l st S k p → p ∈ (st k).positions d.mask := by
        rintro p ⟨i, g1, g2, g3, g4⟩
        obtain ⟨di, hdi, hci, hwi⟩ := g3
        refine (tr.pos (by omega) _ _).2 ⟨i, (tr.S.mask k i d di hd hdi (.inr ⟨hc, g1⟩) hci).resolve_left (fun e => g2 (hreq i e)), g1, ⟨di, hdi, hci, hwi⟩, g4⟩
      have hGl : (maskH (st k).heap ((st k).positions d.mask)).length = HS.length := by rw [maskH_len, hI.len]
      have hsub : Sub (maskH (st k).heap ((st k).positions d.mask)) HS := by
        intro p x hx hxd
        rw [maskH_get] at hx
        split at hx
        · cases hx; exact absurd rfl hxd
        · rename_i hnp
          have hp := lt_of_someL hx
          rw [hI.get p (fun e => hnp ⟨hmaskHole p e, hp⟩)]
          exact hx
      have HG := hI.hr.focus hGl hsub
      have hx := hI.hr.focus_ext hsub
      refine hop f hf _ _ _ _ _ hopc o t1 _ a HG (he.extW hx) ro m _ Q ?_
      intro c1 u hE1 H1 hv1
      have h1len : HS.length ≤ h1.length := by rw [hI.len]; exact hl
      obtain ⟨c2, g1, g2, g3, g4, g5⟩ := hI.hr.back (M := fun p => p ∈ (st k).positions d.mask) (h2 := unmaskH HS h1 ((st k).positions d.mask)) hGl hsub
        (fun p hp hpl => by rw [maskH_get, if_pos ⟨hp, by rw [maskH_len] at hpl; exact hpl⟩]) hE1 H1 (unmaskH_len _ _ _)
        (fun p hp hpl => by rw [unmaskH_get, if_pos ⟨hp, by omega⟩, getO_some hpl])
        (fun p hp => by rw [unmaskH_get, if_neg (fun e => hp ⟨e.1, hps p e.1⟩)])
      have inps : ∀ p, p ∈ (st k).positions d.mask → (unmaskH HS h1 ((st k).positions d.mask))[p]? = HS[p]? := fun p hp => by
        rw [unmaskH_get, if_pos ⟨hp, by have := hps p hp; omega⟩, getO_some (hps p hp)]
      obtain ⟨HS', t', hI'⟩ := hI.onward tr hlt g3 (by rw [hh, unmaskH_len, unmaskH_len]) hn (fun p hp => by rw [inps p (hmaskHole p hp)]; exact hI.dead p hp)
        (fun p hp => by
          rw [hh]
          by_cases hpm : p ∈ (st k).positions d.mask
          · rw [inps p hpm, hI.get p hp, unmaskH_get, if_pos ⟨hpm, by have := hps p hpm; omega⟩, getO_some (by rw [← hI.len]; exact hps p hpm)]
          · rw [unmaskH_get, if_neg (fun e => hpm e.1), unmaskH_get, if_neg (fun e => hpm e.1)]) g5
      refine ⟨c2, HS', t', g1, hE0.trans g2, hI', ?_⟩
      rw [← t3]
      exact hT.step tr hd hk g2 (dstOk (fun tt htt => VR.extW g4 _ _ hv1))

theorem sDraw {n : Nat} (hop : ∀ k, k < n → SOp DrawSt P T k) : SDraw DrawSt P T n := by
  intro l env h env' h' hr N A id hD c a B ro m Q H hS hQ
  obtain ⟨st, V, s1, s2, s3, s4⟩ := draw_trace n l 0 _ _ _ hr
  simp only [Nat.zero_add] at s2 s3 s4
  have tr : Tr P N A T n l st V env h := ⟨hD, by rw [s1], by rw [s1], by rw [s1], s4⟩
  refine wpIn_region_any hD.mixed ?_
  obtain ⟨H1, hE1⟩ := H.drew (c.w.drawn + 1)
  generalize hc1 : ({ c with w := { c.w with drawn := c.w.drawn + 1 } } : RC) = c1 at H1 hE1
  have hw1 : { c.w with drawn := c.w.drawn + 1 } = c1.w := by rw [← hc1]
  rw [hw1]
  refine sched hD (I := fun S a w => ∃ c' HS t, c'.w = w ∧ Ext c1 c' ∧ HInv (CodeR DrawSt P) l st S c' HS t ∧ TInv l V env N B S c' a) ?_ ?_ A.size (Array.replicate A.size false) (List.range A.size) a c1.w (by simp) List.nodup_range ?_ (by simp) ?_ ?_
  · rintro S k d a1 w1 hd hk hreq hcl ⟨c', HS, t, rfl, hE, hI, hT⟩
    exact inv_step tr hop H1 hE hI hT hd hk hreq hcl
  · rintro S a1 w1 hall ⟨c', HS, t, rfl, hE, hI, hT⟩
    have ht : t = l.length := by
      have := hI.le
      rcases Nat.lt_or_ge t l.length with h1 | h1
      · exact absurd (hall t h1) (hI.beyond t (Nat.le_refl _))
      · omega
    subst ht
    have hno : ∀ p, ¬ Hole l st S l.length p := by
      rintro p ⟨i, g1, g2, -⟩
      exact g2 (hall i g1)
    have hHS : HS = h' := by
      rw [← s3]
      apply List.ext_getElem?
      intro p
      exact hI.get p (hno p)
    subst hHS
    refine hQ c' a1 (hE1.trans hE) hI.hr ⟨?_, hT.str.size, hT.str.defs, hT.str.dist⟩
    intro tt
    rw [← s2]
    by_cases hex : ∃ (j : Nat) (d' : DI), l[j]? = some d' ∧ d'.ai.dst = some tt
    · obtain ⟨j, d', hj, hjt⟩ := hex
      have := lt_of_someL hj
      rw [tr.getDst hj hjt l.length (Nat.le_refl _) this]
      exact hT.tmpS j d' tt (hall j this) hj hjt
    · rw [tr.getNot l.length (Nat.le_refl _) (fun i di _ hdi e => hex ⟨i, di, hdi, e⟩)]
      exact hT.tmpN tt (fun i di _ hdi e => hex ⟨i, di, hdi, e⟩)
  · intro i
    simp only [List.mem_range, Array.getD_eq_getD_getElem?]
    constructor
    · intro hi
      refine ⟨hi, by simp [hi]⟩
    · exact fun hi => hi.1
  · rintro j d' ⟨d, hd, h1⟩
    exfalso
    simp only [Array.getD_eq_getD_getElem?, Array.getElem?_replicate] at h1
    split at h1 <;> simp at h1
  · have h0 : doneOf l (Array.replicate A.size false) = fun _ => False := by
      funext j
      apply propext
      constructor
      · rintro ⟨d, hd, h1⟩
        simp only [Array.getD_eq_getD_getElem?, Array.getElem?_replicate] at h1
        split at h1 <;> simp at h1
      · exact False.elim
    rw [h0]
    have hno : ∀ p, ¬ Hole l st (fun _ => False) 0 p := by
      rintro p ⟨i, g1, -⟩
      omega
    obtain ⟨HS, t, hI⟩ := HInv.pad tr (S := fun _ => False) (t0 := 0) (h2 := h) (Nat.zero_le _) H1 (by rw [tr.h0]) (fun k d hk => by omega) (fun _ _ h => h) (fun p hp => absurd hp (hno p)) (fun p _ => by rw [tr.h0]) (fun p hp => absurd hp (hno p))
    have hS1 := hS.ext hE1
    exact ⟨c1, HS, t, rfl, .refl c1, hI, ⟨⟨fun t => by simp [Env.get, VR], hS1.size, hS1.defs, hS1.dist⟩, fun _ _ _ h => h.elim, fun tt _ => hS1.env tt⟩⟩

/-- The runner is sound. -/
theorem sound (hT : TabOk DrawSt P T) (n : Nat) : SFun DrawSt P T n ∧ SYl DrawSt P T n ∧ SOp DrawSt P T n ∧ SOps DrawSt P T n ∧ SRun DrawSt P T n := by
  obtain ⟨h1, h2, h3, h4, h5⟩ := all_sound hT (fun n hop => sDraw hop) n
  exact ⟨h1 n (Nat.le_refl _), h2 n (Nat.le_refl _), h3 n (Nat.le_refl _), h4 n (Nat.le_refl _), h5 n (Nat.le_refl _)⟩

end
end Go.Ab
