/- What the model does at an operation, seen from the abstract side: first part. -/
import Derived.Test.YtfhkjlokfijpiaaAa
import Derived.Laws.Cells
import Derived.Laws.MakeOwn
set_option linter.unusedSimpArgs false
set_option linter.unusedVariables false
namespace Go.Ab

variable {K : KP} {P : Program} {c : RC} {h : Heap} {env : Env} {a : Act}

def Good (K : KP) (c : RC) (v : AV) (h' : Heap) (r : Result Next) : Prop :=
  ∃ (c' : RC) (u : Value), (r = .ok (.value u) c'.w ∨ (r = .ok .skip c'.w ∧ u = undef)) ∧ Ext c c' ∧ HR K c' h' ∧ VR c' v u

theorem Good.pure {v : AV} {u : Value} {r : Result Next} (H : HR K c h) (hr : r = .ok (.value u) c.w) (hv : VR c v u) : Good K c v h r :=
  ⟨c, u, .inl hr, .refl c, H, hv⟩

theorem ofL_v {v : Value} {l : AL} (h : ofL v = some l) : v = l.v := by
  unfold ofL at h
  split at h <;> simp at h <;> subst h <;> rfl

theorem ofLs_R {c : RC} : ∀ {vs : List Value} {xs : List AV}, ofLs vs = some xs → LR c xs vs
  | [], xs, h => by simp [ofLs] at h; subst h; simp [LR]
  | v :: vs, xs, h => by
    simp only [ofLs] at h
    split at h
    · rename_i l ls h1 h2
      simp at h
      subst h
      simp only [LR]
      exact ⟨v, vs, rfl, by simp only [VR]; exact ofL_v h1, ofLs_R h2⟩
    · cases h

theorem ofV_R {c : RC} {v : Value} {x : AV} (h : ofV v = some x) : VR c x v := by
  unfold ofV at h
  split at h
  · rename_i cs
    obtain ⟨l, h1, rfl⟩ := Option.map_eq_some_iff.1 h
    simp only [VR]
    exact ⟨cs, rfl, ofLs_R h1⟩
  · rename_i t u
    obtain ⟨l, h1, rfl⟩ := Option.map_eq_some_iff.1 h
    simp only [VR]
    exact ⟨u, rfl, ofL_v h1⟩
  · obtain ⟨l, h1, rfl⟩ := Option.map_eq_some_iff.1 h
    simp only [VR]
    exact ofL_v h1

theorem trOpd_R {x : Operand} {y : Opd} (h : trOpd x = some y) (he : EnvR c env a.tmps) : VR c (env.ev y) (a.eval x) := by
  cases x with
  | tmp t => simp [trOpd] at h; subst h; exact he t
  | const v =>
    simp only [trOpd] at h
    obtain ⟨u, h1, rfl⟩ := Option.map_eq_some_iff.1 h
    exact ofV_R h1
  | global g => simp [trOpd] at h
  | func f => simp [trOpd] at h; subst h; simp [Env.ev, Act.eval, VR, LR]

theorem trOpds_R : ∀ {xs : List Operand} {ys : List Opd}, trOpds xs = some ys → EnvR c env a.tmps → LR c (ys.map env.ev) (xs.map a.eval)
  | [], ys, h, _ => by simp [trOpds] at h; subst h; simp [LR]
  | x :: xs, ys, h, he => by
    simp only [trOpds] at h
    split at h
    · rename_i y ys' h1 h2
      simp at h
      subst h
      simp only [List.map_cons, LR]
      exact ⟨_, _, rfl, trOpd_R h1 he, trOpds_R h2 he⟩
    · cases h

/-! ### Reading cells -/

theorem CR.drop {b : Nat} : ∀ (k : Nat) {o : Nat} {xs : List AV}, CR c b o xs → CR c b (o + k) (xs.drop k)
  | 0, _, _, h => by simpa using h
  | k + 1, o, [], _ => by simp [CR]
  | k + 1, o, x :: xs, h => by
    simp only [CR] at h
    have := CR.drop k h.2
    rwa [show o + 1 + k = o + (k + 1) by omega] at this

theorem CR.take {b : Nat} : ∀ (k : Nat) {o : Nat} {xs : List AV}, CR c b o xs → CR c b o (xs.take k)
  | 0, _, _, _ => by simp [CR]
  | k + 1, o, [], _ => by simp [CR]
  | k + 1, o, x :: xs, h => by
    simp only [CR] at h
    simp only [List.take_succ_cons, CR]
    exact ⟨h.1, CR.take k h.2⟩

theorem CR.vals {b : Nat} : ∀ {xs : List AV} {o : Nat}, CR c b o xs → ∃ vs : List Value, LR c xs vs ∧ vs.length = xs.length ∧
    (∀ (j : Nat) (v : Value), vs[j]? = some v → c.w.cell? ⟨b, o + j, none⟩ = some v ∧ v.oneCell' = true)
  | [], o, _ => ⟨[], by simp [LR], rfl, by simp⟩
  | x :: xs, o, h => by
    simp only [CR] at h
    obtain ⟨⟨v, h1, h2, h3⟩, hr⟩ := h
    obtain ⟨vs, h4, h5, h6⟩ := CR.vals hr
    refine ⟨v :: vs, by simp only [LR]; exact ⟨v, vs, rfl, h3, h4⟩, by simp [h5], ?_⟩
    intro j u hu
    cases j with
    | zero => simp at hu; subst hu; exact ⟨by simpa using h1, h2⟩
    | succ j =>
      have := h6 j u (by simpa using hu)
      rwa [show o + 1 + j = o + (j + 1) by omega] at this

theorem cell_of_heap {w : World} {b o : Nat} {cs : Array Value} {e : TypeId} {fr : Nat × Nat} (h : w.heap[b]? = some (.cells cs e fr)) :
    w.cell? ⟨b, o, none⟩ = cs[o]? := by
  simp [World.cell?, h]

theorem ArrR.CR {b : Nat} {xs : List AV} {cs : Array Value} {e : TypeId} {fr : Nat × Nat} (h : c.w.heap[b]? = some (.cells cs e fr)) (ha : ArrR c xs cs) : CR c b 0 xs := by
  rw [CR.iff]
  intro i x hx
  obtain ⟨v, h1, h2, h3⟩ := ha i x hx
  exact ⟨v, by rw [cell_of_heap h, Nat.zero_add]; exact h1, h2, h3⟩

theorem rowOf_some {i : Nat} {xs : List AV} (h1 : rowOf h i = some xs) : h[i]? = some (.row xs) := by
  unfold rowOf at h1
  split at h1
  · simp at h1; subst h1; assumption
  · cases h1

theorem mapOf_some {i : Nat} {es : List (AV × AV)} (h1 : mapOf h i = some es) : h[i]? = some (.map es) := by
  unfold mapOf at h1
  split at h1
  · simp at h1; subst h1; assumption
  · cases h1

theorem HR.row (H : HR K c h) {i : Nat} {xs : List AV} (h1 : rowOf h i = some xs) :
    ∃ (cs : Array Value) (e : TypeId) (fr : Nat × Nat), c.w.heap[c.ρ i]? = some (.cells cs e fr) ∧ NF fr cs.size ∧ ArrR c xs cs :=
  (H.live i _ (rowOf_some h1) (by simp)).2.2.2

theorem HR.rowC (H : HR K c h) {i : Nat} {xs : List AV} (h1 : rowOf h i = some xs) : CR c (c.ρ i) 0 xs := by
  obtain ⟨cs, e, fr, h2, -, h3⟩ := H.row h1
  exact h3.CR h2

theorem baseOf_R (H : HR K c h) {x : AV} {v : Value} {xs : List AV} {off : Nat} (h1 : baseOf h x = some (xs, off)) (hv : VR c x v) :
    ∃ b o, v = .pointer (some ⟨b, o + off, none⟩) ∧ CR c b o xs := by
  unfold baseOf at h1
  split at h1
  · rename_i i o'
    split at h1
    · rename_i ys h2
      cases h1
      simp only [VR] at hv
      exact ⟨_, 0, by simpa using hv.2, H.rowC h2⟩
    · cases h1
  · rename_i ys k
    cases h1
    simp only [VR] at hv
    obtain ⟨b, o, e, -, -, h3⟩ := hv
    exact ⟨b, o, e, h3⟩
  · cases h1

theorem add_addr (b o j : Nat) : (⟨b, o, none⟩ : Addr).add j = ⟨b, o + j, none⟩ := by
  unfold Addr.add
  split
  · rename_i h0; subst h0; rfl
  · rfl

theorem run_loads {b o : Nat} {xs : List AV} (h1 : CR c b o xs) :
    ∃ vs : List Value, LR c xs vs ∧ (loadCells ⟨b, o, none⟩ xs.length).run P c.w = .ok vs.toArray c.w ∧ (∀ v ∈ vs, v.oneCell' = true) := by
  obtain ⟨vs, h2, h3, h4⟩ := CR.vals h1
  refine ⟨vs, h2, ?_, ?_⟩
  · rw [← h3]
    exact run_loadCells_list c.w ⟨b, o, none⟩ vs (fun j v hv => by rw [add_addr]; exact (h4 j v hv).1)
  · intro v hv
    obtain ⟨j, hj⟩ := List.getElem?_of_mem hv
    exact (h4 j v hj).2

theorem underlying_run {t : TypeId} {d : TypeDesc} (hd : P.underlying t = some d) (w : World) : (underlying t).run P w = .ok d w := by
  simp [underlying, hd]

theorem sizeOf_run {t : TypeId} {n : Nat} (hn : szOf P t = some n) (w : World) : (sizeOf t).run P w = .ok n w := by
  unfold szOf at hn
  obtain ⟨i, h1, rfl⟩ := Option.map_eq_some_iff.1 hn
  simp [sizeOf, typeInfo, h1]

theorem aggOf_some {t : TypeId} {n : Option Nat} (h1 : aggOf P t = some n) :
    (∃ d m, P.underlying t = some d ∧ isStructArr d = true ∧ szOf P t = some m ∧ n = some m) ∨
    (∃ d, P.underlying t = some d ∧ isStructArr d = false ∧ szOf P t = some 1 ∧ n = none) := by
  unfold aggOf at h1
  split at h1
  · rename_i fs m h2 h3; simp at h1; exact .inl ⟨_, m, h2, rfl, h3, h1.symm⟩
  · rename_i k e m h2 h3; simp at h1; exact .inl ⟨_, m, h2, rfl, h3, h1.symm⟩
  · rename_i d m hs ha h2 h3
    split at h1
    · rename_i hm
      simp at h1
      subst hm
      refine .inr ⟨d, h2, ?_, h3, h1.symm⟩
      cases d <;> first | rfl | (exact absurd rfl (hs _)) | (exact absurd rfl (ha _ _))
    · cases h1
  · cases h1

theorem isAgg_run {t : TypeId} {d : TypeDesc} (hd : P.underlying t = some d) (w : World) : (isAgg t).run P w = .ok (isStructArr d) w := by
  cases d <;> simp [isAgg, isStructArr, underlying_run hd, Result.andThen]

theorem run_loadVar_R {t : TypeId} {n : Option Nat} {b o off : Nat} {xs : List AV} {v : AV} (ht : aggOf P t = some n) (hc : CR c b o xs)
    (hl : partA xs off n = some v) : ∃ u, (loadVar t ⟨b, o + off, none⟩).run P c.w = .ok u c.w ∧ VR c v u := by
  have hd := CR.drop off hc
  rcases aggOf_some ht with ⟨d, m, h1, h2, h3, rfl⟩ | ⟨d, h1, h2, h3, rfl⟩
  · simp only [partA] at hl
    split at hl
    · rename_i hle
      simp at hl
      subst hl
      obtain ⟨vs, h4, h5, -⟩ := run_loads (P := P) (hd.take m)
      have hlen : ((xs.drop off).take m).length = m := by simp; omega
      rw [hlen] at h5
      refine ⟨.agg vs.toArray, ?_, by simp only [VR]; exact ⟨_, rfl, by simpa using h4⟩⟩
      simp [loadVar, isAgg_run h1, h2, Result.andThen, sizeOf_run h3, h5]
    · cases hl
  · simp only [partA] at hl
    obtain ⟨vs, h4, h5, h6⟩ := hd.vals
    have hl' : (xs.drop off)[0]? = some v := by simpa using hl
    obtain ⟨u, h7, h8⟩ := h4.get hl'
    refine ⟨u, ?_, h8⟩
    have h9 := (h6 0 u h7).1
    rw [Nat.add_zero] at h9
    simp [loadVar, isAgg_run h1, h2, Result.andThen, h9]

end Go.Ab

/- What the model does at an operation: operations that leave the world alone. -/
namespace Go.Ab
open Go

variable {K : KP} {P : Program} {c : RC} {h : Heap} {env : Env} {a : Act} {o : Oper}

theorem exec_of {o : Oper} {op : Op} (ho : o.op = op) : execOp a.eval o = execOp a.eval { o with op := op } := by
  cases o; simp at ho; subst ho; rfl

theorem lit_int {k : IntKind} {n : Int} {v : Value} (h : VR c (.lit (.int k n)) v) : v = .int k n := by simpa [VR, AL.v] using h
theorem lit_bool {b : Bool} {v : Value} (h : VR c (.lit (.bool b)) v) : v = .bool b := by simpa [VR, AL.v] using h
theorem lit_str {s : ByteArray} {v : Value} (h : VR c (.lit (.str s)) v) : v = .string s := by simpa [VR, AL.v] using h
theorem VR.lit {l : AL} : VR c (.lit l) l.v := by simp [VR]
theorem VR.bool {b : Bool} : VR c (.lit (.bool b)) (.bool b) := VR.lit
theorem VR.int {k : IntKind} {n : Int} : VR c (.lit (.int k n)) (.int k n) := VR.lit
theorem VR.str {s : ByteArray} : VR c (.lit (.str s)) (.string s) := VR.lit
theorem VR.unit : VR c (.lit .unit) undef := VR.lit

theorem intOf_R {x : AV} {v : Value} {n : Int} (h1 : intOf x = some n) (hv : VR c x v) : ∃ k, x = .lit (.int k n) ∧ v = .int k n := by
  unfold intOf at h1
  split at h1
  · rename_i k m; simp at h1; subst h1; exact ⟨k, rfl, lit_int hv⟩
  · cases h1

theorem s_mv (H : HR K c h) (he : EnvR c env a.tmps) {x : Operand} {x' : Opd} (ho : o.op = .move x ∨ o.op = .assign x) (hx : trOpd x = some x') :
    Good K c (env.ev x') h ((execOp a.eval o).run P c.w) := by
  refine .pure H (u := a.eval x) ?_ (trOpd_R hx he)
  rcases ho with ho | ho <;> simp [execOp, ho]

theorem s_pick (H : HR K c h) (he : EnvR c env a.tmps) {x y z : Operand} {x' y' z' : Opd} (ho : o.op = .pick x y z) (hx : trOpd x = some x') (hy : trOpd y = some y') (hz : trOpd z = some z')
    {t : Bool} (hb : env.ev x' = .lit (.bool t)) : Good K c (if t then env.ev y' else env.ev z') h ((execOp a.eval o).run P c.w) := by
  have h1 := trOpd_R (c := c) hx he
  rw [hb] at h1
  refine .pure H (u := if t then a.eval y else a.eval z) ?_ (by cases t <;> simp [trOpd_R hy he, trOpd_R hz he])
  simp [execOp, ho, lit_bool h1, asBool]

theorem binInt_R {op : BinOp} {k : IntKind} {x y : Int} {r : AL} (h1 : binInt op k x y = some r) (w : World) (t : TypeId) (hs1 : op ≠ .shl) (hs2 : op ≠ .shr) :
    (binOp op t (.int k x) (.int k y)).run P w = .ok r.v w := by
  cases op <;> simp [binInt] at h1 <;> first
    | (exact absurd rfl hs1) | (exact absurd rfl hs2)
    | (subst h1; simp [binOp, Op.intArith, Op.intBits, Op.intCmp, AL.v]; done)
    | (obtain ⟨h0, rfl⟩ := h1; simp [binOp, Op.intDiv, h0, AL.v])

theorem shiftInt_R {op : BinOp} {k k' : IntKind} {x y : Int} {r : AL} (h1 : shiftInt op k x y = some r) (w : World) (t : TypeId) :
    (binOp op t (.int k x) (.int k' y)).run P w = .ok r.v w := by
  unfold shiftInt at h1
  split at h1
  · cases h1
  · rename_i h0
    cases op <;> simp at h1 <;> subst h1 <;> simp [binOp, Op.shift, h0, AL.v]

theorem ite_both {α : Type} {p : Prop} [Decidable p] {x y r : α} (h1 : x = r) (h2 : y = r) : (if p then x else y) = r := by
  split
  · exact h1
  · exact h2

theorem eqGuard_ok (op : BinOp) (t : TypeId) (x y : Operand) (v u : Value) (w : World) (h1 : ∀ z, v ≠ .agg z)
    (h2 : (v ≠ .nilIface ∨ u ≠ .nilIface) ∨ isNilC x = true ∨ isNilC y = true) :
    (eqGuard op t x y v u).run P w = .ok () w := by
  unfold eqGuard
  rw [Sem.run_ite]
  refine ite_both rfl ?_
  · split
    · rw [Sem.run_ite]
      refine Eq.trans (if_pos ?_) rfl
      rcases h2 with h2 | h2 | h2
      · simp at h2
      · cases x <;> simp [isNilC] at h2 ⊢
      · cases y <;> simp [isNilC] at h2 ⊢
    · exact absurd rfl (h1 _)
    · rfl

theorem binLit_R {op : BinOp} {x y r : AL} {t : TypeId} (h1 : binLit op x y = some r) (w : World) : (binOp op t x.v y.v).run P w = .ok r.v w := by
  unfold binLit at h1
  split at h1
  · rename_i k x k' y
    simp only [AL.v]
    split at h1
    · exact shiftInt_R h1 w t
    · exact shiftInt_R h1 w t
    · rename_i hs1 hs2
      split at h1
      · rename_i hkk
        subst hkk
        exact binInt_R h1 w t hs1 hs2
      · cases h1
  · simp only [AL.v]
    split at h1 <;> simp at h1 <;> subst h1 <;> simp [binOp, Op.stringOp]
  · cases h1

theorem AL.v_noAgg (l : AL) (z : Array Value) : l.v ≠ .agg z := by cases l <;> simp [AL.v]

theorem s_bin (H : HR K c h) (he : EnvR c env a.tmps) {op : BinOp} {t t' : TypeId} {x y : Operand} {x' y' : Opd} {v : AV} (ho : o.op = .binOp op t x y t') (hx : trOpd x = some x') (hy : trOpd y = some y')
    (hv : binA op (env.ev x') (env.ev y') = some v) : Good K c v h ((execOp a.eval o).run P c.w) := by
  have h1 := trOpd_R (c := c) hx he
  have h2 := trOpd_R (c := c) hy he
  unfold binA at hv
  split at hv
  · rename_i l m e1 e2
    obtain ⟨r, h3, rfl⟩ := Option.map_eq_some_iff.1 hv
    rw [e1] at h1
    rw [e2] at h2
    simp only [VR] at h1 h2
    refine .pure H (u := r.v) ?_ VR.lit
    have hg : (eqGuard op t x y l.v m.v).run P c.w = .ok () c.w := by
      refine eqGuard_ok op t x y _ _ _ (AL.v_noAgg _) (.inl ?_)
      cases l <;> cases m <;> simp [AL.v] <;> simp [binLit] at h3
    simp [execOp, ho, h1, h2, Result.andThen, hg, binLit_R h3]
  · cases hv

theorem equal_step (t : TypeId) (x y : Value) : Op.equal t x y = Op.equalIn (9999 + 1) t x y := rfl

theorem equal_bool {t : TypeId} (ht : P.underlying t = some .bool) (p q : Bool) (w : World) : (Op.equal t (.bool p) (.bool q)).run P w = .ok (p == q) w := by
  rw [equal_step, Op.equalIn]
  simp [underlying_run ht, Result.andThen]

theorem s_eqb (H : HR K c h) (he : EnvR c env a.tmps) {op : BinOp} {t t' : TypeId} {x y : Operand} {x' y' : Opd} {v : AV} (ho : o.op = .binOp op t x y t') (hx : trOpd x = some x') (hy : trOpd y = some y')
    (ht : P.underlying t = some .bool) (hv : eqbA op (env.ev x') (env.ev y') = some v) : Good K c v h ((execOp a.eval o).run P c.w) := by
  have h1 := trOpd_R (c := c) hx he
  have h2 := trOpd_R (c := c) hy he
  unfold eqbA at hv
  split at hv <;> simp at hv <;> subst hv
  all_goals
    rename_i p q e1 e2
    rw [e1] at h1
    rw [e2] at h2
    refine .pure H (u := .bool _) ?_ VR.bool
    have hg := fun op => eqGuard_ok (P := P) op t x y (.bool p) (.bool q) c.w (by simp) (.inl (by simp))
    simp [execOp, ho, lit_bool h1, lit_bool h2, Result.andThen, hg, binOp, equal_bool ht]

/-- A value that is nil ('true') or not ('false'), of a kind. -/
def NilV : Nat → Bool → Value → Prop
  | 1, true, v => v = .slice none 0 0
  | 1, false, v => ∃ a n k, v = .slice (some a) n k
  | 2, true, v => v = .map none
  | 2, false, v => ∃ r, v = .map (some r)
  | 3, true, v => v = .nilFunc
  | 3, false, v => ∃ f x y, v = .func f x y
  | 4, true, v => v = .nilIface
  | 4, false, v => ∃ t x, v = .iface t x
  | 5, true, v => v = .pointer none
  | 5, false, v => ∃ a, v = .pointer (some a)
  | _, _, _ => False

theorem isNilA_R {kd : Nat} {x : AV} {b : Bool} {v : Value} (h1 : isNilA kd x = some b) (hv : VR c x v) : NilV kd b v := by
  unfold isNilA at h1
  split at h1
  case h_3 =>
    split at h1
    · rename_i hn
      cases h1
      simp only [VR] at hv
      rcases hv.2 with ⟨h0, -⟩ | ⟨-, b, o, cap, e, -⟩
      · omega
      · exact ⟨_, _, _, e⟩
    · cases h1
  all_goals cases h1
  all_goals simp only [VR, AL.v] at hv
  all_goals simp only [NilV]
  all_goals first
    | exact hv
    | exact ⟨_, hv.2⟩
    | (obtain ⟨-, cap, e, -⟩ := hv; exact ⟨_, _, _, e⟩)
    | (obtain ⟨fv, cv, e, -⟩ := hv; exact ⟨_, _, _, e⟩)
    | (obtain ⟨u, e, -⟩ := hv; exact ⟨_, _, e⟩)

theorem eqNil_R {kd : Nat} {t : TypeId} {d : TypeDesc} (ht : P.underlying t = some d) (hk : eqKind d = kd) {x y : AV} {r : Bool} (hr : eqNil kd x y = some r) {v u : Value}
    (hx : VR c x v) (hy : VR c y u) : (∀ w, (Op.equal t v u).run P w = .ok r w) ∧ (∀ z, v ≠ .agg z) ∧ (kd = 4 ∨ v ≠ .nilIface) ∧
      (∀ t, binOp .eql t v u = (do pure (.bool (← Op.equal t v u))) ∧ binOp .neq t v u = (do pure (.bool (!(← Op.equal t v u))))) := by
  have key : ∀ b b', NilV kd b v → NilV kd b' u → (b = true ∧ r = b' ∨ b = false ∧ b' = true ∧ r = false) → _ := fun b b' hv hu hb => by
    have e : Op.equal t v u = Op.equalIn (9999 + 1) t v u := rfl
    rw [Op.equalIn] at e
    refine (?_ : (∀ w, (Op.equal t v u).run P w = .ok r w) ∧ (∀ z, v ≠ .agg z) ∧ (kd = 4 ∨ v ≠ .nilIface) ∧
      (∀ t, binOp .eql t v u = (do pure (.bool (← Op.equal t v u))) ∧ binOp .neq t v u = (do pure (.bool (!(← Op.equal t v u))))))
    rw [e]
    cases d <;> simp only [eqKind] at hk <;> subst hk <;> cases b <;> cases b' <;> simp only [NilV] at hv hu <;> try contradiction
    all_goals (first | subst hv | (obtain ⟨_, rfl⟩ := hv) | (obtain ⟨_, _, rfl⟩ := hv) | (obtain ⟨_, _, _, rfl⟩ := hv))
    all_goals (first | subst hu | (obtain ⟨_, rfl⟩ := hu) | (obtain ⟨_, _, rfl⟩ := hu) | (obtain ⟨_, _, _, rfl⟩ := hu))
    all_goals simp only [reduceCtorEq, true_and, false_and, and_false, or_false, false_or, Bool.true_eq_false, Bool.false_eq_true, or_self] at hb
    all_goals (subst hb; refine ⟨fun w => ?_, by simp, by simp, fun t => ⟨rfl, rfl⟩⟩; simp [underlying_run ht, Result.andThen])
  unfold eqNil at hr
  split at hr
  · rename_i b h1 h2; cases hr; exact key _ _ (isNilA_R h1 hx) (isNilA_R h2 hy) (.inl ⟨rfl, rfl⟩)
  · rename_i h1 h2; cases hr; exact key _ _ (isNilA_R h1 hx) (isNilA_R h2 hy) (.inr ⟨rfl, rfl, rfl⟩)
  · cases hr

theorem s_eqn (H : HR K c h) (he : EnvR c env a.tmps) {op : BinOp} {t t' : TypeId} {x y : Operand} {x' y' : Opd} {v : AV} {d : TypeDesc} (ho : o.op = .binOp op t x y t') (hx : trOpd x = some x') (hy : trOpd y = some y')
    (ht : P.underlying t = some d) (hn : eqKind d = 4 → isNilC x = true ∨ isNilC y = true) (hv : eqnA op (eqKind d) (env.ev x') (env.ev y') = some v) : Good K c v h ((execOp a.eval o).run P c.w) := by
  have h1 := trOpd_R (c := c) hx he
  have h2 := trOpd_R (c := c) hy he
  unfold eqnA at hv
  split at hv
  · rename_i r hr
    cases hv
    obtain ⟨h3, h4, h5, h6⟩ := eqNil_R ht rfl hr h1 h2
    have hg := eqGuard_ok (P := P) .eql t x y (a.eval x) (a.eval y) c.w h4 (by rcases h5 with h5 | h5; exact .inr (hn h5); exact .inl (.inl h5))
    refine .pure H (u := .bool r) ?_ VR.bool
    simp [execOp, ho, Result.andThen, hg, (h6 t).1, h3]
  · rename_i r hr
    cases hv
    obtain ⟨h3, h4, h5, h6⟩ := eqNil_R ht rfl hr h1 h2
    have hg := eqGuard_ok (P := P) .neq t x y (a.eval x) (a.eval y) c.w h4 (by rcases h5 with h5 | h5; exact .inr (hn h5); exact .inl (.inl h5))
    refine .pure H (u := .bool !r) ?_ VR.bool
    simp [execOp, ho, Result.andThen, hg, (h6 t).2, h3]
  · cases hv

theorem s_un (H : HR K c h) (he : EnvR c env a.tmps) {op : UnOp} {t : TypeId} {x : Operand} {x' : Opd} {v : AV} (ho : o.op = .unOp op t x) (hx : trOpd x = some x')
    (hv : unA op (env.ev x') = some v) : Good K c v h ((execOp a.eval o).run P c.w) := by
  have h1 := trOpd_R (c := c) hx he
  unfold unA at hv
  split at hv
  · rename_i k n e
    cases hv
    rw [e] at h1
    refine .pure H (u := .int k (k.wrap (0 - n))) ?_ VR.int
    simp [execOp, ho, lit_int h1, Op.unary, Op.intArith, Result.andThen]
  · rename_i k n e
    cases hv
    rw [e] at h1
    refine .pure H (u := .int k _) ?_ VR.int
    simp [execOp, ho, lit_int h1, Op.unary, Op.intBits, Result.andThen]
  · rename_i b e
    cases hv
    rw [e] at h1
    refine .pure H (u := .bool _) ?_ VR.bool
    simp [execOp, ho, lit_bool h1, Op.unary, Result.andThen]
  · cases hv

theorem s_conv (H : HR K c h) (he : EnvR c env a.tmps) {s d : TypeId} {x : Operand} {x' : Opd} {q k : IntKind} {n : Int} (ho : o.op = .convert s d x) (hx : trOpd x = some x')
    (hs : P.underlying s = some (.int q)) (hd : P.underlying d = some (.int k)) (hv : intOf (env.ev x') = some n) : Good K c (.lit (.int k (k.wrap n))) h ((execOp a.eval o).run P c.w) := by
  obtain ⟨j, e, h1⟩ := intOf_R hv (trOpd_R (c := c) hx he)
  refine .pure H (u := .int k (k.wrap n)) ?_ VR.int
  simp [execOp, ho, h1, convert, underlying_run hs, underlying_run hd, Result.andThen, Conv.intToInt]

theorem s_convS (H : HR K c h) (he : EnvR c env a.tmps) {s d : TypeId} {x : Operand} {x' : Opd} {l : ByteArray} (ho : o.op = .convert s d x) (hx : trOpd x = some x')
    (hs : P.underlying s = some .string) (hd : P.underlying d = some .string) (hv : env.ev x' = .lit (.str l)) : Good K c (env.ev x') h ((execOp a.eval o).run P c.w) := by
  have h1 := trOpd_R (c := c) hx he
  refine .pure H (u := a.eval x) ?_ h1
  rw [hv] at h1
  simp [execOp, ho, lit_str h1, convert, underlying_run hs, underlying_run hd, Result.andThen]

theorem s_ifc (H : HR K c h) (he : EnvR c env a.tmps) {t : TypeId} {x : Operand} {x' : Opd} {d : TypeDesc} (ho : o.op = .makeInterface t x) (hx : trOpd x = some x')
    (ht : P.underlying t = some d) (hn : ∀ m, d ≠ .interface m) : Good K c (.ifc t (env.ev x')) h ((execOp a.eval o).run P c.w) := by
  refine .pure H (u := .iface t (a.eval x)) ?_ (by simp only [VR]; exact ⟨_, rfl, trOpd_R hx he⟩)
  simp only [execOp, ho, Instr.makeInterface]
  cases d <;> first | (exact absurd rfl (hn _)) | simp [underlying_run ht, Result.andThen]

theorem s_func (H : HR K c h) (he : EnvR c env a.tmps) {f : Fn} {x y : Array Operand} {x' y' : List Opd} (ho : o.op = .makeFunc f x y) (hx : trOpds x.toList = some x') (hy : trOpds y.toList = some y') :
    Good K c (.fn f (x'.map env.ev) (y'.map env.ev)) h ((execOp a.eval o).run P c.w) := by
  refine .pure H (u := .func f (x.map a.eval) (y.map a.eval)) ?_ (by simp only [VR]; exact ⟨_, _, rfl, by simpa using trOpds_R hx he, by simpa using trOpds_R hy he⟩)
  simp [execOp, ho, Instr.makeFunc, Result.andThen]

theorem s_ext (H : HR K c h) (he : EnvR c env a.tmps) {i : Nat} {x : Operand} {x' : Opd} {xs : List AV} {v : AV} (ho : o.op = .extract x i) (hx : trOpd x = some x')
    (hv : env.ev x' = .tup xs) (hi : xs[i]? = some v) : Good K c v h ((execOp a.eval o).run P c.w) := by
  have h1 := trOpd_R (c := c) hx he
  rw [hv] at h1
  simp only [VR] at h1
  obtain ⟨vs, e, h2⟩ := h1
  obtain ⟨u, h3, h4⟩ := h2.get hi
  refine .pure H (u := u) ?_ h4
  have h3' : vs[i]? = some u := by simpa using h3
  simp [execOp, ho, e, Instr.extract, h3', Result.andThen]

theorem s_nilc (H : HR K c h) (he : EnvR c env a.tmps) {x : Operand} {x' : Opd} {v : AV} (ho : o.op = .nilCheck x) (hx : trOpd x = some x')
    (hv : (match env.ev x' with | .ptr i o => some (AV.ptr i o) | .rop xs k => some (.rop xs k) | .fn (.func f) a b => some (.fn (.func f) a b) | .yl i => some (.yl i) | _ => none) = some v) :
    Good K c v h ((execOp a.eval o).run P c.w) := by
  have h1 := trOpd_R (c := c) hx he
  split at hv
  · rename_i e
    cases hv; rw [e] at h1
    refine .pure H (u := a.eval x) ?_ h1
    simp only [VR] at h1
    simp [execOp, ho, h1.2, Result.andThen]
  · rename_i e
    cases hv; rw [e] at h1
    refine .pure H (u := a.eval x) ?_ h1
    simp only [VR] at h1
    obtain ⟨b, k, e, -⟩ := h1
    simp [execOp, ho, e, Result.andThen]
  · rename_i e
    cases hv; rw [e] at h1
    refine .pure H (u := a.eval x) ?_ h1
    simp only [VR] at h1
    obtain ⟨fv, cv, e, -⟩ := h1
    simp [execOp, ho, e, Result.andThen]
  · rename_i e
    cases hv; rw [e] at h1
    refine .pure H (u := a.eval x) ?_ h1
    simp only [VR] at h1
    simp [execOp, ho, h1.2, Result.andThen]
  · cases hv

end Go.Ab

/- What the model does at an operation: memory. -/
namespace Go.Ab
open Go

variable {K : KP} {P : Program} {c : RC} {h : Heap} {env : Env} {a : Act} {o : Oper}

/-! ### Values and their cells -/

theorem cells_single {x : AV} (hx : ∀ xs, x ≠ .agg xs) : x.cells = [x] := by
  cases x <;> first | rfl | (exact absurd rfl (hx _))

theorem vcells_single {v : Value} (hv : ∀ cs, v ≠ .agg cs) : v.cells = #[v] := by
  cases v <;> first | rfl | (exact absurd rfl (hv _))

theorem cell_one {x : AV} {v : Value} (hx : x.cell = true) (hv : VR c x v) : v.oneCell' = true := by
  cases x <;> simp only [AV.cell, reduceCtorEq, Bool.false_eq_true] at hx <;> simp only [VR] at hv
  case lit l => subst hv; cases l <;> simp only [AL.v, Value.oneCell', reduceCtorEq, Bool.false_eq_true] at hx ⊢
  case ptr => rw [hv.2]; rfl
  case rop => obtain ⟨b, o, e, -⟩ := hv; rw [e]; rfl
  case sl => obtain ⟨-, cap, e, -⟩ := hv; rw [e]; rfl
  case ro => rcases hv.2 with ⟨-, a, cap, e⟩ | ⟨-, b, o, cap, e, -⟩ <;> (rw [e]; rfl)
  case emp => obtain ⟨a, e⟩ := hv; rw [e]; rfl
  case mp => rw [hv.2]; rfl
  case fn => obtain ⟨f, g, e, -⟩ := hv; rw [e]; rfl
  case yl => rw [hv.2]; rfl
  case ifc => obtain ⟨u, e, -⟩ := hv; rw [e]; rfl

/-- The cells of a value are the cells of its abstract one. -/
theorem cells_R {x : AV} {v : Value} (hx : x.cells.all AV.cell = true) (hv : VR c x v) : LR c x.cells v.cells.toList ∧ (∀ u ∈ v.cells, u.oneCell' = true) := by
  by_cases hxa : ∃ xs, x = .agg xs
  · obtain ⟨xs, rfl⟩ := hxa
    simp only [VR] at hv
    obtain ⟨cs, rfl, h1⟩ := hv
    refine ⟨h1, ?_⟩
    intro u hu
    obtain ⟨i, hi⟩ := List.getElem?_of_mem (Array.mem_toList_iff.2 hu)
    obtain ⟨hl, hh⟩ := LR.iff.1 h1
    have hlt : i < cs.toList.length := lt_of_someL hi
    have hxi : xs[i]? = some (xs[i]'(by omega)) := by simp
    have := hh i _ _ hxi hi
    refine cell_one ?_ this
    simp only [AV.cells, List.all_eq_true] at hx
    exact hx _ (List.getElem_mem _)
  · have hns : ∀ xs, x ≠ .agg xs := fun xs e => hxa ⟨xs, e⟩
    rw [cells_single hns] at hx ⊢
    simp only [List.all_cons, List.all_nil, Bool.and_true] at hx
    have h1 := cell_one hx hv
    have h2 : v.cells = #[v] := vcells_single (fun cs e => by rw [e] at h1; simp [Value.oneCell'] at h1)
    rw [h2]
    exact ⟨LR.singleton hv, by simpa using h1⟩

theorem ArrR.of_LR {xs : List AV} {cs : Array Value} (h1 : LR c xs cs.toList) (h2 : ∀ u ∈ cs, u.oneCell' = true) : ArrR c xs cs := by
  intro i x hx
  obtain ⟨v, h3, h4⟩ := h1.get hx
  have h3' : cs[i]? = some v := by simpa using h3
  exact ⟨v, h3', h2 v (Array.mem_of_getElem? h3'), h4⟩

/-- A list of abstract cells and an array that holds them and may be longer. -/
theorem ArrR.append {xs : List AV} {vs ws : List Value} (h1 : LR c xs vs) (h2 : ∀ u ∈ vs, u.oneCell' = true) : ArrR c xs (vs ++ ws).toArray := by
  intro i x hx
  obtain ⟨v, h3, h4⟩ := h1.get hx
  have hlt := lt_of_someL h3
  exact ⟨v, by simp [List.getElem?_append_left hlt, h3], h2 v (List.mem_of_getElem? h3), h4⟩

/-! ### New rows -/

/-- An object is made, under whatever name. -/
def Makes (K : KP) (c : RC) (o : AO) (v : Nat → AV) (r : Result Next) : Prop :=
  ∃ (ob : Obj) (u : Value), r = .ok (.value u) (c.w.alloc ob) ∧ o ≠ .dead ∧ (∀ c', Ext c c' → c'.w = c.w.alloc ob → OR K c' o c.w.heap.size) ∧
    (∀ (c' : RC) (p : Nat), c'.w = c.w.alloc ob → c'.D p → c'.ρ p = c.w.heap.size → VR c' (v p) u)

theorem Makes.good (H : HR K c h) {o : AO} {v : Nat → AV} {r : Result Next} (hm : Makes K c o v r) : Good K c (v h.length) (h ++ [o]) r := by
  obtain ⟨ob, u, hr, hd, ho, hv⟩ := hm
  exact ⟨c.push h.length ob, u, .inl hr, RC.push_ext H _, H.push _ _ (ho _ (RC.push_ext H _) rfl) hd, hv _ _ rfl (.inr rfl) (by simp [RC.push])⟩

theorem Makes.row {xs : List AV} {cs : Array Value} {e : TypeId} {r : Result Next} (hx : ArrR c xs cs)
    (hr : r = .ok (.value (.pointer (some ⟨c.w.heap.size, 0, none⟩))) (c.w.alloc (.cells cs e))) : Makes K c (.row xs) (fun p => .ptr p 0) r := by
  refine ⟨_, _, hr, by simp, ?_, ?_⟩
  · intro c' hE hw
    exact ⟨cs, e, (0, 0), by rw [hw]; exact heap_alloc_new, NF.zero _, hx.ext hE⟩
  · intro c' p _ hD hp
    simp only [VR]
    exact ⟨hD, by rw [hp]⟩

theorem Makes.rowS {xs : List AV} {cs : Array Value} {e : TypeId} {r : Result Next} {len cap sz : Nat} (hx : ArrR c xs cs) (hlc : len ≤ cap) (hcap : cap * sz ≤ cs.size)
    (hr : r = .ok (.value (.slice (some ⟨c.w.heap.size, 0, none⟩) len cap)) (c.w.alloc (.cells cs e))) : Makes K c (.row xs) (fun p => .sl p 0 len sz) r := by
  refine ⟨_, _, hr, by simp, ?_, ?_⟩
  · intro c' hE hw
    exact ⟨cs, e, (0, 0), by rw [hw]; exact heap_alloc_new, NF.zero _, hx.ext hE⟩
  · intro c' p hw hD hp
    simp only [VR]
    exact ⟨hD, cap, by rw [hp], hlc, cs, e, (0, 0), by rw [hp, hw]; exact heap_alloc_new, by omega⟩

theorem zeroOf_some {t : TypeId} {z : List AV} (h1 : zeroOf P t = some z) :
    ∃ i v, P.info? t = some i ∧ i.zero = some v ∧ ofLs v.cells.toList = some z ∧ z.length = i.size := by
  unfold zeroOf at h1
  split at h1
  · rename_i i hi
    split at h1
    · rename_i v hv
      split at h1
      · rename_i l hl
        split at h1
        · rename_i hlen
          cases h1
          exact ⟨i, v, hi, hv, hl, hlen⟩
        · cases h1
      · cases h1
    · cases h1
  · cases h1

theorem ofLs_one {vs : List Value} {xs : List AV} (h1 : ofLs vs = some xs) : ∀ v ∈ vs, v.oneCell' = true := by
  induction vs generalizing xs with
  | nil => intro v hv; cases hv
  | cons u vs ih =>
    simp only [ofLs] at h1
    split at h1
    · rename_i l ls h2 h3
      intro v hv
      cases hv with
      | head =>
        unfold ofL at h2
        split at h2 <;> first | rfl | (simp at h2)
      | tail _ hv => exact ih h3 v hv
    · cases h1

theorem zero_run {t : TypeId} {i : TypeInfo} {v : Value} (hi : P.info? t = some i) (hv : i.zero = some v) (w : World) : (zeroValue t).run P w = .ok v w := by
  simp [zeroValue, typeInfo, hi, hv, Result.andThen]

theorem Good.rowS (H : HR K c h) {xs : List AV} {cs : Array Value} {e : TypeId} {r : Result Next} {len cap sz : Nat} (hx : ArrR c xs cs) (hlc : len ≤ cap) (hcap : cap * sz ≤ cs.size)
    (hr : r = .ok (.value (.slice (some ⟨c.w.heap.size, 0, none⟩) len cap)) (c.w.alloc (.cells cs e))) : Good K c (.sl h.length 0 len sz) (h ++ [.row xs]) r :=
  (Makes.rowS hx hlc hcap hr).good H

theorem m_new {t : TypeId} {z : List AV} (ho : o.op = .alloc t) (hz : zeroOf P t = some z) : Makes K c (.row z) (fun p => .ptr p 0) ((execOp a.eval o).run P c.w) := by
  obtain ⟨i, v, h1, h2, h3, h4⟩ := zeroOf_some hz
  refine Makes.row (e := t) (cs := v.cells) (ArrR.of_LR (ofLs_R h3) (by simpa using ofLs_one h3)) ?_
  simp [execOp, ho, Instr.alloc, zero_run h1 h2, Result.andThen, newVar, newRow]

theorem m_box (he : EnvR c env a.tmps) {t : TypeId} {x : Operand} {x' : Opd} (ho : o.op = .box t x) (hx : trOpd x = some x') (hc : (env.ev x').cells.all AV.cell = true) :
    Makes K c (.row (env.ev x').cells) (fun p => .ptr p 0) ((execOp a.eval o).run P c.w) := by
  obtain ⟨h1, h2⟩ := cells_R hc (trOpd_R (c := c) hx he)
  refine Makes.row (e := t) (cs := (a.eval x).cells) (ArrR.of_LR h1 h2) ?_
  simp [execOp, ho, Instr.box, Result.andThen, newVar, newRow]

/-! ### Composite values -/

theorem foldl_set (cs : List Value) : ∀ (xs : Array Value) (off : Nat) (k : Nat),
    (cs.zipIdx k).foldl (fun (xs : Array Value) (p : Value × Nat) => xs.setIfInBounds (off + p.2) p.1) xs = ((List.range' k cs.length).zip cs).foldl (fun xs p => xs.setIfInBounds (off + p.1) p.2) xs := by
  induction cs with
  | nil => intro xs off k; simp
  | cons v cs ih => intro xs off k; simp [List.zipIdx_cons, List.range'_succ, ih]

/-- Cells put into an array, one by one. -/
def setAll (cs : Array Value) (off : Nat) : List Value → Array Value
  | [] => cs
  | v :: vs => setAll (cs.setIfInBounds off v) (off + 1) vs

theorem setAll_size : ∀ (vs : List Value) (cs : Array Value) (off : Nat), (setAll cs off vs).size = cs.size
  | [], cs, off => rfl
  | v :: vs, cs, off => by simp [setAll, setAll_size vs]

theorem setAll_fold : ∀ (vs : List Value) (cs : Array Value) (off k : Nat),
    (vs.zipIdx k).foldl (fun (cs : Array Value) (p : Value × Nat) => cs.setIfInBounds (off + p.2) p.1) cs = setAll cs (off + k) vs
  | [], cs, off, k => rfl
  | v :: vs, cs, off, k => by
    simp only [List.zipIdx_cons, List.foldl_cons, setAll]
    rw [setAll_fold vs _ off (k + 1), show off + (k + 1) = off + k + 1 by omega]

theorem splice_length : ∀ (ys xs : List AV) (off : Nat), (splice xs off ys).length = xs.length
  | [], xs, off => rfl
  | y :: ys, xs, off => by simp [splice, splice_length ys]

theorem ArrR.set {xs : List AV} {cs : Array Value} (h1 : ArrR c xs cs) {i : Nat} {x : AV} {v : Value} (hv : VR c x v) (h2 : v.oneCell' = true) : ArrR c (xs.set i x) (cs.setIfInBounds i v) := by
  intro j y hy
  by_cases hj : j = i
  · subst hj
    have hlt := lt_of_someL hy
    simp at hlt
    have hle := h1.le
    simp [hlt] at hy
    subst hy
    exact ⟨v, by rw [Array.getElem?_setIfInBounds]; simp; omega, h2, hv⟩
  · rw [List.getElem?_set_ne (fun h => hj h.symm)] at hy
    obtain ⟨u, h3, h4, h5⟩ := h1 j y hy
    exact ⟨u, by rw [Array.getElem?_setIfInBounds_ne (fun h => hj h.symm)]; exact h3, h4, h5⟩

theorem ArrR.splice : ∀ {ys : List AV} {vs : List Value} {xs : List AV} {cs : Array Value} {off : Nat}, ArrR c xs cs → LR c ys vs → (∀ v ∈ vs, v.oneCell' = true) →
    ArrR c (splice xs off ys) (setAll cs off vs)
  | [], vs, xs, cs, off, h1, h2, _ => by simp only [LR] at h2; subst h2; exact h1
  | y :: ys, vs, xs, cs, off, h1, h2, h3 => by
    simp only [LR] at h2
    obtain ⟨v, r, rfl, h4, h5⟩ := h2
    show ArrR c (Go.Ab.splice (xs.set off y) (off + 1) ys) (setAll (cs.setIfInBounds off v) (off + 1) r)
    exact ArrR.splice (h1.set h4 (h3 v (by simp))) h5 (fun u hu => h3 u (by simp [hu]))

theorem ArrR.LR {xs : List AV} {cs : Array Value} (h1 : ArrR c xs cs) (h2 : xs.length = cs.size) : LR c xs cs.toList := by
  rw [LR.iff]
  refine ⟨by simpa using h2, ?_⟩
  intro i x v hx hv
  obtain ⟨u, h3, -, h4⟩ := h1 i x hx
  have : cs[i]? = some v := by simpa using hv
  rw [this] at h3
  cases h3
  exact h4

/-- 'fill', abstractly. -/
theorem fill_R {place : Nat → Option (Nat × Nat)} (he : EnvR c env a.tmps) : ∀ {parts : List (Nat × Operand)} {ps : List (Nat × Nat × Opd)} {xs zs : List AV} {cs : Array Value},
    trParts P place parts = some ps → fillA xs env.ev ps = some zs → ArrR c xs cs → xs.length = cs.size →
    ∃ cs' : Array Value, Instr.fill place cs (parts.map fun (i, x) => (i, a.eval x)) = some cs' ∧ ArrR c zs cs' ∧ zs.length = cs'.size
  | [], ps, xs, zs, cs, h1, h2, h3, h4 => by
    simp only [trParts, Option.some.injEq] at h1
    subst h1
    simp only [fillA, Option.some.injEq] at h2
    subst h2
    exact ⟨cs, rfl, h3, h4⟩
  | (i, x) :: parts, ps, xs, zs, cs, h1, h2, h3, h4 => by
    simp only [trParts] at h1
    split at h1
    · rename_i o' n y r hp hy hr
      cases h1
      simp only [fillA] at h2
      split at h2
      · rename_i hc
        obtain ⟨hc1, hc2, hc3⟩ := hc
        obtain ⟨h5, h6⟩ := cells_R hc3 (trOpd_R (c := c) hy he)
        have hsz : (a.eval x).cells.size = n := by have := h5.len; simp at this; omega
        have h7 := ArrR.splice (off := o') h3 h5 (by simpa using h6)
        obtain ⟨cs', h8, h9⟩ := fill_R he hr h2 h7 (by rw [splice_length, setAll_size]; exact h4)
        refine ⟨cs', ?_, h9⟩
        rw [← h8]
        simp only [List.map_cons, Instr.fill, hp]
        rw [if_neg (by simp [hsz]; omega)]
        congr 1
        have hf := setAll_fold (a.eval x).cells.toList cs o' 0
        rw [Nat.add_zero] at hf
        rw [← hf, ← Array.foldl_toList, Array.toList_zipIdx]
      · cases h2
    · cases h1

theorem places_run : ∀ {fs : List Field} {l : List (Nat × Nat)}, placesL P fs = some l → ∀ w, (fs.mapM fun f => (Prod.mk f.offset <$> sizeOf f.type : Sem (Nat × Nat))).run P w = .ok l w
  | [], l, h1, w => by simp only [placesL, Option.some.injEq] at h1; subst h1; rfl
  | f :: fs, l, h1, w => by
    simp only [placesL] at h1
    split at h1
    · rename_i n l' h2 h3
      cases h1
      simp [List.mapM_cons, sizeOf_run h2, Result.andThen, places_run h3 w]
    · cases h1

theorem s_build (H : HR K c h) (he : EnvR c env a.tmps) {t : TypeId} {parts : Array (Nat × Operand)} {z : List AV} {ps : List (Nat × Nat × Opd)} {cs : List AV} (ho : o.op = .build t parts)
    (hz : zeroOf P t = some z)
    (hp : (∃ fs pl, P.underlying t = some (.struct fs) ∧ placesL P fs.toList = some pl ∧ trParts P (fun i => pl[i]?) parts.toList = some ps) ∨
      (∃ k e n, P.underlying t = some (.array k e) ∧ szOf P e = some n ∧ trParts P (fun i => some (i * n, n)) parts.toList = some ps))
    (hf : fillA z env.ev ps = some cs) : Good K c (.agg cs) h ((execOp a.eval o).run P c.w) := by
  obtain ⟨i, v, h1, h2, h3, h4⟩ := zeroOf_some hz
  have hA : ArrR c z v.cells := ArrR.of_LR (ofLs_R h3) (by simpa using ofLs_one h3)
  have hl : z.length = v.cells.size := by have := (ofLs_R (c := c) h3).len; simpa using this
  rcases hp with ⟨fs, pl, h5, h6, h7⟩ | ⟨k, e, n, h5, h6, h7⟩
  · obtain ⟨cs', h8, h9, h10⟩ := fill_R he h7 hf hA hl
    refine .pure H (u := .agg cs') ?_ (by simp only [VR]; exact ⟨_, rfl, h9.LR h10⟩)
    have h11 := places_run h6 c.w
    simp [execOp, ho, Instr.build, zero_run h1 h2, underlying_run h5, Result.andThen, Array.mapM_eq_mapM_toList, h11, h8]
  · obtain ⟨cs', h8, h9, h10⟩ := fill_R he h7 hf hA hl
    refine .pure H (u := .agg cs') ?_ (by simp only [VR]; exact ⟨_, rfl, h9.LR h10⟩)
    simp [execOp, ho, Instr.build, zero_run h1 h2, underlying_run h5, sizeOf_run h6, Result.andThen, h8]

theorem repl_length (n : Nat) (z : List AV) : (repl n z).length = n * z.length := by
  unfold repl
  induction n with
  | zero => simp
  | succ n ih => simp only [List.replicate_succ, List.flatten_cons, List.length_append, ih]; rw [Nat.succ_mul]; omega

theorem repl_get {n : Nat} {z : List AV} {i : Nat} (hi : i < n * z.length) : (repl n z)[i]? = z[i % z.length]? := by
  unfold repl
  induction n generalizing i with
  | zero => omega
  | succ n ih =>
    simp only [List.replicate_succ, List.flatten_cons]
    rw [Nat.succ_mul] at hi
    by_cases hlt : i < z.length
    · rw [List.getElem?_append_left hlt, Nat.mod_eq_of_lt hlt]
    · rw [List.getElem?_append_right (by omega), ih (by omega)]
      congr 1
      rw [← Nat.mod_eq_sub_mod (by omega)]

/-- Zero cells, over and over. -/
theorem zeros_R {z : List AV} {v : Value} {n : Nat} (h3 : ofLs v.cells.toList = some z) (hz : 0 < z.length) :
    ArrR c (repl n z) ((Array.range (n * z.length)).map fun i => v.cells[i % v.cells.size]!) := by
  have hL := ofLs_R (c := c) h3
  have hl : z.length = v.cells.size := by have := hL.len; simpa using this
  intro i x hx
  have hi := lt_of_someL hx
  rw [repl_length] at hi
  rw [repl_get hi] at hx
  obtain ⟨u, h4, h5⟩ := hL.get hx
  have h4' : v.cells[i % z.length]? = some u := by simpa using h4
  refine ⟨u, ?_, ofLs_one h3 u (List.mem_of_getElem? h4), h5⟩
  have hm : i % v.cells.size < v.cells.size := Nat.mod_lt _ (by omega)
  rw [hl] at h4'
  simp only [Array.getElem?_map, Array.getElem?_range]
  rw [if_pos hi]
  simp only [Option.map_some, Option.some.injEq]
  rw [getElem!_pos v.cells _ hm]
  rw [Array.getElem?_eq_getElem hm] at h4'
  exact Option.some.inj h4'

theorem szOf_info {t : TypeId} {i : TypeInfo} (hi : P.info? t = some i) {n : Nat} (hn : szOf P t = some n) : i.size = n := by
  simp [szOf, hi] at hn; exact hn

theorem m_rowlit (he : EnvR c env a.tmps) {t e : TypeId} {len n : Nat} {parts : Array (Nat × Operand)} {z : List AV} {ps : List (Nat × Nat × Opd)} {cs : List AV} (ho : o.op = .buildSlice t len parts)
    (ht : P.underlying t = some (.slice e)) (hn : szOf P e = some n) (hz : zeroOf P e = some z) (h0 : 0 < n) (hle : len * n ≤ 2 ^ 24)
    (hp : trParts P (fun i => some (i * n, n)) parts.toList = some ps) (hf : fillA (repl len z) env.ev ps = some cs) :
    Makes K c (.row cs) (fun p => .sl p 0 len n) ((execOp a.eval o).run P c.w) := by
  obtain ⟨i, v, h1, h2, h3, h4⟩ := zeroOf_some hz
  have h4' : z.length = n := by rw [h4]; exact szOf_info h1 hn
  have hsz : v.cells.size = n := by have := (ofLs_R (c := c) h3).len; simp at this; omega
  have hA := zeros_R (c := c) (n := len) h3 (by omega)
  rw [h4'] at hA
  obtain ⟨cs', h8, h9, h10⟩ := fill_R he hp hf hA (by rw [repl_length, h4']; simp)
  have hcl : cs'.size = len * n := by
    have : ∀ (ps : List (Nat × Nat × Opd)) (xs zs : List AV), fillA xs env.ev ps = some zs → zs.length = xs.length := by
      intro ps
      induction ps with
      | nil => intro xs zs hh; simp only [fillA, Option.some.injEq] at hh; subst hh; rfl
      | cons p ps ih =>
        obtain ⟨o', m, y⟩ := p
        intro xs zs hh
        simp only [fillA] at hh
        split at hh
        · rw [ih _ _ hh, splice_length]
        · cases hh
    rw [← h10, this _ _ _ hf, repl_length, h4']
  refine Makes.rowS (e := e) (cs := cs') (cap := len) h9 (Nat.le_refl _) (by omega) ?_
  by_cases hz0 : len * n = 0
  · have hr : ∀ f : Nat → Value, (Array.range 0).map f = #[] := fun f => by simp [Array.range]
    rw [hz0, hr] at h8
    simp [execOp, ho, Instr.buildSlice, underlying_run ht, sizeOf_run hn, Result.andThen, hz0] at h8 ⊢
    rw [hr]
    simp [h8, newRow]
  · simp [execOp, ho, Instr.buildSlice, underlying_run ht, sizeOf_run hn, Result.andThen, hz0, zero_run h1 h2]
    rw [if_neg (by omega)]
    simp [h8, newRow]

/-! ### Loads and addresses -/

theorem s_ld (H : HR K c h) (he : EnvR c env a.tmps) {t : TypeId} {n : Option Nat} {x : Operand} {x' : Opd} {v : AV} (ho : o.op = .load t x) (ht : aggOf P t = some n) (hx : trOpd x = some x')
    (hv : ldA h n (env.ev x') = some v) : Good K c v h ((execOp a.eval o).run P c.w) := by
  unfold ldA at hv
  split at hv
  · rename_i xs off h1
    obtain ⟨b, q, e, h3⟩ := baseOf_R H h1 (trOpd_R hx he)
    obtain ⟨u, h4, h5⟩ := run_loadVar_R (P := P) ht h3 hv
    refine .pure H (u := u) ?_ h5
    simp [execOp, ho, Instr.loadAt, e, Instr.sureAddr, Result.andThen, h4]
  · cases hv

theorem offA_R {x v : AV} {u : Value} {k : Nat} (h1 : offA x k = some v) (hx : VR c x u) : ∃ b q, u = .pointer (some ⟨b, q, none⟩) ∧ VR c v (.pointer (some ⟨b, q + k, none⟩)) := by
  unfold offA at h1
  split at h1
  · cases h1
    simp only [VR] at hx ⊢
    exact ⟨_, _, hx.2, hx.1, rfl⟩
  · rename_i xs off
    cases h1
    simp only [VR] at hx ⊢
    obtain ⟨b, q, e, h2⟩ := hx
    exact ⟨b, q + off, e, b, q, by rw [Nat.add_assoc], h2⟩
  · cases h1

theorem s_faddr (H : HR K c h) (he : EnvR c env a.tmps) {t : TypeId} {i n : Nat} {x : Operand} {x' : Opd} {fs : Array Field} {f : Field} {v : AV} (ho : o.op = .fieldAddr t x i) (hx : trOpd x = some x')
    (ht : P.underlying t = some (.struct fs)) (hf : fs[i]? = some f) (hn : szOf P f.type = some n) (h0 : 0 < n) (hv : offA (env.ev x') f.offset = some v) : Good K c v h ((execOp a.eval o).run P c.w) := by
  obtain ⟨b, q, e, h1⟩ := offA_R hv (trOpd_R hx he)
  refine .pure H (u := .pointer (some ⟨b, q + f.offset, none⟩)) ?_ h1
  have hne : n ≠ 0 := by omega
  simp [execOp, ho, Instr.fieldAt, underlying_run ht, hf, e, Instr.sureAddr, Result.andThen, fieldPlace, sizeOf_run hn, add_addr, hne]

theorem part_R {t : TypeId} {n : Option Nat} {off : Nat} {xs : List AV} {cs : Array Value} {v : AV} (ht : aggOf P t = some n) (hc : LR c xs cs.toList)
    (hv : partA xs off n = some v) :
    ∃ u, (part t cs off).run P c.w = .ok u c.w ∧ VR c v u := by
  rcases aggOf_some ht with ⟨d, m, h1, h2, h3, rfl⟩ | ⟨d, h1, h2, h3, rfl⟩
  · simp only [partA] at hv
    split at hv
    · rename_i hle
      cases hv
      refine ⟨.agg (cs.extract off (off + m)), ?_, ?_⟩
      · simp [part, isAgg_run h1, h2, Result.andThen, sizeOf_run h3]
      · simp only [VR]
        refine ⟨_, rfl, ?_⟩
        have := (hc.drop off).take m
        simpa [Array.toList_extract, List.extract_eq_take_drop] using this
    · cases hv
  · simp only [partA] at hv
    obtain ⟨u, h4, h5⟩ := hc.get hv
    have h4' : cs[off]? = some u := by simpa using h4
    exact ⟨u, by simp [part, isAgg_run h1, h2, Result.andThen, h4'], h5⟩

theorem s_fld (H : HR K c h) (he : EnvR c env a.tmps) {t : TypeId} {i : Nat} {n : Option Nat} {x : Operand} {x' : Opd} {fs : Array Field} {f : Field} {xs : List AV} {v : AV} (ho : o.op = .field t x i) (hx : trOpd x = some x')
    (ht : P.underlying t = some (.struct fs)) (hf : fs[i]? = some f) (hn : aggOf P f.type = some n) (hxs : env.ev x' = .agg xs)
    (hv : partA xs f.offset n = some v) : Good K c v h ((execOp a.eval o).run P c.w) := by
  have h1 := trOpd_R (c := c) hx he
  rw [hxs] at h1
  simp only [VR] at h1
  obtain ⟨cs, e, h2⟩ := h1
  obtain ⟨u, h3, h4⟩ := part_R hn h2 hv
  refine .pure H (u := u) ?_ h4
  simp [execOp, ho, Instr.field, underlying_run ht, hf, e, asAgg, Result.andThen, h3]

theorem s_iaddr (H : HR K c h) (he : EnvR c env a.tmps) {t e : TypeId} {n : Nat} {x i : Operand} {x' i' : Opd} {k : Int} {v : AV} (ho : o.op = .indexAddr t x i) (hx : trOpd x = some x') (hi : trOpd i = some i')
    (ht : P.underlying t = some (.slice e)) (hn : szOf P e = some n) (hk : intOf (env.ev i') = some k) (hv : iaddrS n (env.ev x') k = some v) : Good K c v h ((execOp a.eval o).run P c.w) := by
  obtain ⟨q, -, h1⟩ := intOf_R hk (trOpd_R (c := c) hi he)
  have h2 := trOpd_R (c := c) hx he
  unfold iaddrS at hv
  split at hv
  · rename_i id off len s e1
    split at hv
    · rename_i hb
      obtain ⟨hb1, hb2, rfl⟩ := hb
      cases hv
      rw [e1] at h2
      simp only [VR] at h2
      obtain ⟨hD, cap, e2, h3⟩ := h2
      refine .pure H (u := .pointer (some ⟨c.ρ id, off + k.toNat * s, none⟩)) ?_ (by simp only [VR]; exact ⟨hD, trivial⟩)
      simp [execOp, ho, Instr.indexAt, h1, asIntOf, e2, underlying_run ht, Result.andThen, hb1, hb2, sizeOf_run hn, add_addr]
    · cases hv
  · rename_i xs len s e1
    split at hv
    · rename_i hb
      obtain ⟨hb1, hb2, rfl⟩ := hb
      cases hv
      rw [e1] at h2
      simp only [VR] at h2
      rcases h2.2 with ⟨h0, -⟩ | ⟨-, b, q, cap, e2, h3, h4, h5, h6⟩
      · omega
      · refine .pure H (u := .pointer (some ⟨b, q + k.toNat * s, none⟩)) ?_ (by simp only [VR]; exact ⟨b, q, rfl, h4, h5, h6⟩)
        simp [execOp, ho, Instr.indexAt, h1, asIntOf, e2, underlying_run ht, Result.andThen, hb1, hb2, sizeOf_run hn, add_addr]
    · cases hv
  · cases hv

theorem s_iaddrA (H : HR K c h) (he : EnvR c env a.tmps) {t e : TypeId} {m n : Nat} {x i : Operand} {x' i' : Opd} {k : Int} {v : AV} (ho : o.op = .indexAddr t x i) (hx : trOpd x = some x') (hi : trOpd i = some i')
    (ht : P.underlying t = some (.array m e)) (hn : szOf P e = some n) (hk : intOf (env.ev i') = some k) (hb1 : 0 ≤ k) (hb2 : k < m) (hv : offA (env.ev x') (k.toNat * n) = some v) : Good K c v h ((execOp a.eval o).run P c.w) := by
  obtain ⟨q, -, h1⟩ := intOf_R hk (trOpd_R (c := c) hi he)
  obtain ⟨b, r, e1, h2⟩ := offA_R hv (trOpd_R hx he)
  refine .pure H (u := .pointer (some ⟨b, r + k.toNat * n, none⟩)) ?_ h2
  simp [execOp, ho, Instr.indexAt, h1, asIntOf, e1, Instr.sureAddr, underlying_run ht, Result.andThen, hb1, hb2, sizeOf_run hn, add_addr]

theorem s_idxA (H : HR K c h) (he : EnvR c env a.tmps) {t e : TypeId} {m n : Nat} {w : Option Nat} {x i : Operand} {x' i' : Opd} {k : Int} {xs : List AV} {v : AV} (ho : o.op = .index t x i) (hx : trOpd x = some x') (hi : trOpd i = some i')
    (ht : P.underlying t = some (.array m e)) (hn : szOf P e = some n) (hw : aggOf P e = some w) (hk : intOf (env.ev i') = some k) (hb1 : 0 ≤ k) (hb2 : k < m) (hxs : env.ev x' = .agg xs)
    (hv : partA xs (k.toNat * n) w = some v) : Good K c v h ((execOp a.eval o).run P c.w) := by
  obtain ⟨q, -, h1⟩ := intOf_R hk (trOpd_R (c := c) hi he)
  have h2 := trOpd_R (c := c) hx he
  rw [hxs] at h2
  simp only [VR] at h2
  obtain ⟨cs, e1, h3⟩ := h2
  obtain ⟨u, h4, h5⟩ := part_R hw h3 hv
  refine .pure H (u := u) ?_ h5
  simp [execOp, ho, Instr.index, h1, asIntOf, e1, underlying_run ht, Result.andThen, hb1, hb2, sizeOf_run hn, h4]

theorem s_idxS (H : HR K c h) (he : EnvR c env a.tmps) {t : TypeId} {x i : Operand} {x' i' : Opd} {k : Int} {s : ByteArray} {b : UInt8} (ho : o.op = .index t x i) (hx : trOpd x = some x') (hi : trOpd i = some i')
    (ht : P.underlying t = some .string) (hk : intOf (env.ev i') = some k) (hb1 : 0 ≤ k) (hs : env.ev x' = .lit (.str s)) (hb : s.data[k.toNat]? = some b) : Good K c (.lit (.int .u8 b.toNat)) h ((execOp a.eval o).run P c.w) := by
  obtain ⟨q, -, h1⟩ := intOf_R hk (trOpd_R (c := c) hi he)
  have h2 := trOpd_R (c := c) hx he
  rw [hs] at h2
  refine .pure H (u := .int .u8 b.toNat) ?_ VR.int
  have h3 : s[k.toNat]? = some b := by
    have hlt := lt_of_some hb
    rw [getElem?_pos s k.toNat hlt]
    rw [Array.getElem?_eq_getElem hlt] at hb
    exact hb
  simp [execOp, ho, Instr.index, h1, asIntOf, lit_str h2, underlying_run ht, Result.andThen, hb1, h3]

end Go.Ab
