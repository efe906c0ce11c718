/- Plain facts for contracts: slices of whatever form, loops. -/
import Derived.Test.YtfhkjlokfijpiaaAi
set_option linter.unusedSimpArgs false
set_option linter.unusedVariables false
namespace Go.Ab

variable {T : Tab}

/-- The elements of a slice of single cells, whatever its form. -/
def Elems (h : Heap) (v : AV) (xs : List AV) : Prop := sliceCells h 1 v = some (xs, xs.length)

theorem Elems.len {h : Heap} {v : AV} {xs : List AV} (he : Elems h v xs) : lenA h 1 v = some xs.length := by
  unfold Elems sliceCells at he
  split at he
  · simp only [Option.some.injEq, Prod.mk.injEq] at he
    simp [lenA, ← he.1]
  · simp only [Option.some.injEq, Prod.mk.injEq] at he
    simp [lenA, ← he.1]
  · split at he
    · split at he
      · simp only [Option.some.injEq, Prod.mk.injEq] at he
        simp [lenA, he.2]
      · cases he
    · cases he
  · split at he
    · simp only [Option.some.injEq, Prod.mk.injEq] at he
      simp [lenA, he.2]
    · cases he
  · cases he

theorem Elems.at {h : Heap} {v : AV} {xs : List AV} (he : Elems h v xs) {i : Nat} {x : AV} (hx : xs[i]? = some x) : ∃ p, iaddrS 1 v i = some p ∧ ldA h none p = some x := by
  have hi := List.getElem?_eq_some_iff.1 hx
  obtain ⟨hi, hxe⟩ := hi
  unfold Elems sliceCells at he
  split at he
  · simp only [Option.some.injEq, Prod.mk.injEq] at he
    rw [← he.1] at hi; simp at hi
  · simp only [Option.some.injEq, Prod.mk.injEq] at he
    rw [← he.1] at hi; simp at hi
  · rename_i j off len s
    split at he
    · rename_i ys hr
      split at he
      · rename_i hc
        simp only [Option.some.injEq, Prod.mk.injEq] at he
        obtain ⟨he1, he2⟩ := he
        refine ⟨.ptr j (off + i), ?_, ?_⟩
        · simp only [iaddrS]
          rw [if_pos ⟨by omega, by omega, hc.1⟩]
          simp
        · simp only [ldA, baseOf, hr, partA]
          rw [← hx, ← he1, List.getElem?_take_of_lt (by omega), List.getElem?_drop]
      · cases he
    · cases he
  · rename_i ys len s
    split at he
    · rename_i hs
      simp only [Option.some.injEq, Prod.mk.injEq] at he
      obtain ⟨he1, he2⟩ := he
      refine ⟨.rop ys (i : Nat), ?_, ?_⟩
      · simp only [iaddrS]
        rw [if_pos ⟨by omega, by omega, hs⟩]
        simp
      · simp only [ldA, baseOf, partA]
        rw [he1]; exact hx
    · cases he
  · cases he

/-- Behind a round: the next state, or the loop is left. -/
def behindRound {σ : Type} (live : List Nat) (E : σ → Env) (H : σ → Heap) (P : σ → Prop) (μ : σ → Nat) (s : σ) (Q : Ex → Env → Heap → Prop) : Ex → Env → Heap → Prop
  | .normal, e, h => ∃ s', P s' ∧ μ s' < μ s ∧ e.mask live = E s' ∧ h = H s'
  | x, e, h => Q x e h

theorem w_loop_st {σ : Type} (E : σ → Env) (H : σ → Heap) (P : σ → Prop) (μ : σ → Nat) {live : List Nat} {b : AC} {env : Env} {h : Heap} {Q : Ex → Env → Heap → Prop} (s0 : σ) (he : env.mask live = E s0) (hh : h = H s0) (hp : P s0)
    (round : ∀ s, P s → W T b (E s) (H s) (behindRound live E H P μ s Q)) : W T (.loop live b) env h Q := by
  have key : ∀ n s env h, μ s = n → env.mask live = E s → h = H s → P s → W T (.loop live b) env h Q := by
    intro n
    induction n using Nat.strongRecOn with
    | _ n ih =>
      intro s env h hn he hh hp
      refine w_loop ?_
      rw [he, hh]
      refine (round s hp).mono ?_
      intro x e h' hx
      cases x with
      | normal =>
        obtain ⟨s', h1, h2, h3, h4⟩ := hx
        exact ih (μ s') (by omega) s' e h' rfl h3 h4 h1
      | jump j => exact hx
  exact key _ s0 env h rfl he hh hp

end Go.Ab

/- Steps: code at the head of a sequence, what comes behind it as code. -/
namespace Go.Ab

variable {T : Tab} {Q : Ex → Env → Heap → Prop} {env : Env} {h : Heap}

theorem w_seq_inv {a b : AC} (hw : W T (.seq a b) env h Q) : W T a env h (andThen T b Q) := by
  obtain ⟨n, x, e, h', h1, h2⟩ := hw
  cases n with
  | zero => cases h1
  | succ n =>
    simp only [run] at h1
    cases hr : run T n a env h with
    | none => simp [hr] at h1
    | some q =>
      obtain ⟨y, e1, h3⟩ := q
      simp only [hr] at h1
      refine ⟨n, y, e1, h3, hr, ?_⟩
      cases y with
      | normal => exact ⟨n, x, e, h', h1, h2⟩
      | jump j => cases h1; exact h2

theorem s_seq {a b c : AC} (hw : W T (.seq a (.seq b c)) env h Q) : W T (.seq (.seq a b) c) env h Q := by
  refine w_seq (w_seq ((w_seq_inv hw).mono ?_))
  intro x e h' hx
  cases x with
  | normal => exact w_seq_inv hx
  | jump j => exact hx

theorem s_ops {l : List AI} {b : AC} (hw : WL T l env h (fun e h => W T b e h Q)) : W T (.seq (.ops l) b) env h Q := w_seq (w_ops hw)
theorem s_draw {l : List DI} {b : AC} (hw : WD T l 0 l ⟨env, h, []⟩ (fun e h => W T b e h Q)) : W T (.seq (.draw l) b) env h Q := w_seq (w_draw hw)
theorem s_skip {b : AC} (hw : W T b env h Q) : W T (.seq .skip b) env h Q := w_seq (w_skip hw)
theorem s_exit {id : Nat} {b : AC} (hq : Q (.jump (.exit id)) env h) : W T (.seq (.exit id) b) env h Q := w_seq (w_exit hq)
theorem s_ret {b : AC} (hq : Q (.jump .ret) env h) : W T (.seq .ret b) env h Q := w_seq (w_ret hq)
theorem s_cond {c : Opd} {a b r : AC} {t : Bool} (hc : env.ev c = .lit (.bool t)) (hw : if t then W T (.seq a r) env h Q else W T (.seq b r) env h Q) : W T (.seq (.cond c a b) r) env h Q := by
  refine w_seq (w_cond hc ?_)
  cases t with
  | true => exact w_seq_inv hw
  | false => exact w_seq_inv hw

theorem s_condT {c : Opd} {a b r : AC} (hc : env.ev c = .lit (.bool true)) (hw : W T (.seq a r) env h Q) : W T (.seq (.cond c a b) r) env h Q := s_cond hc hw
theorem s_condF {c : Opd} {a b r : AC} (hc : env.ev c = .lit (.bool false)) (hw : W T (.seq b r) env h Q) : W T (.seq (.cond c a b) r) env h Q := s_cond hc (by simpa using hw)

/-- Behind a block. -/
def aft (T : Tab) (id : Nat) (b : AC) (Q : Ex → Env → Heap → Prop) : Ex → Env → Heap → Prop
  | .normal, e, h => W T b e h Q
  | .jump (.exit id'), e, h => if id' = id then W T b e h Q else Q (.jump (.exit id')) e h
  | .jump .ret, e, h => Q (.jump .ret) e h

theorem s_block {id : Nat} {a b : AC} (hw : W T a env h (aft T id b Q)) : W T (.seq (.block id a) b) env h Q := by
  refine w_seq (w_block (hw.mono ?_))
  intro x e h' hx
  match x, hx with
  | .normal, hx => exact hx
  | .jump .ret, hx => exact hx
  | .jump (.exit k), hx =>
    simp only [aft] at hx
    simp only [inBlock, andThen]
    exact hx

theorem aft_normal {id : Nat} {b : AC} (hw : W T b env h Q) : aft T id b Q .normal env h := hw
theorem aft_same {id : Nat} {b : AC} (hw : W T b env h Q) : aft T id b Q (.jump (.exit id)) env h := by simpa [aft] using hw
theorem aft_other {id k : Nat} {b : AC} (hk : k ≠ id) (hq : Q (.jump (.exit k)) env h) : aft T id b Q (.jump (.exit k)) env h := by simpa [aft, hk] using hq
theorem aft_ret {id : Nat} {b : AC} (hq : Q (.jump .ret) env h) : aft T id b Q (.jump .ret) env h := hq

/-! Code that stands alone. -/
theorem l_ops {l : List AI} (hw : WL T l env h (Q .normal)) : W T (.ops l) env h Q := w_ops hw
theorem l_draw {l : List DI} (hw : WD T l 0 l ⟨env, h, []⟩ (Q .normal)) : W T (.draw l) env h Q := w_draw hw
theorem s_alone {a : AC} (hw : W T (.seq a .skip) env h Q) : W T a env h Q := by
  refine (w_seq_inv hw).mono ?_
  intro x e h' hx
  cases x with
  | normal =>
    obtain ⟨n, x, e', h'', h1, h2⟩ := hx
    cases n with
    | zero => cases h1
    | succ n => simp only [run] at h1; cases h1; exact h2
  | jump j => exact hx

/-! ### Operations -/

theorem o_step {d : Option Nat} {o : AOp} {l : List AI} {R : Env → Heap → Prop} {v : AV} {h' : Heap} (ha : aop env.ev h o = some (v, h')) (hq : WL T l (env.put d v) h' R) : WL T (⟨d, none, o⟩ :: l) env h R :=
  wl_cons (b := true) rfl (wo_aop ha hq)
theorem o_on {d : Option Nat} {t : Nat} {b : Bool} {o : AOp} {l : List AI} {R : Env → Heap → Prop} {v : AV} {h' : Heap} (hw : env.get t = .lit (.bool b)) (ha : aop env.ev h o = some (v, h')) (hq : WL T l (env.put d v) h' R) : WL T (⟨d, some (t, b), o⟩ :: l) env h R :=
  wl_cons (b := true) (by simp [wanted, hw]) (wo_aop ha hq)
theorem o_off {d : Option Nat} {t : Nat} {b : Bool} {o : AOp} {l : List AI} {R : Env → Heap → Prop} (hw : env.get t = .lit (.bool !b)) (hq : WL T l (env.put d (.lit .unit)) h R) : WL T (⟨d, some (t, b), o⟩ :: l) env h R :=
  wl_cons (b := false) (by cases b <;> simp [wanted, hw]) hq
theorem o_call {d : Option Nat} {f : Opd} {args : List Opd} {l : List AI} {R : Env → Heap → Prop} {fv : AV} {as : List AV} (hf : env.ev f = fv) (ha : args.map env.ev = as) (hq : WC T fv as h (fun v h' => WL T l (env.put d v) h' R)) : WL T (⟨d, none, .call f args⟩ :: l) env h R :=
  wl_cons (b := true) rfl (wo_call (by rw [hf, ha]; exact hq))
theorem o_nil {R : Env → Heap → Prop} (hq : R env h) : WL T [] env h R := wl_nil hq

theorem d_step {all l : List DI} {k ix : Nat} {d : Option Nat} {o : AOp} {need req : List Nat} {made : List (Nat × Nat)} {R : Env → Heap → Prop} {v : AV} {h' : Heap} (hc : clsOf o = 0 ∨ clsOf o = 1) (ha : aop (env.mask need).ev h o = some (v, h'))
    (hq : WD T all (k + 1) l ⟨env.put d v, h, made⟩ R) : WD T all k (⟨ix, ⟨d, none, o⟩, need, req, [], []⟩ :: l) ⟨env, h, made⟩ R := by
  refine wd_cons (b := true) rfl (wo_aop (v := v) (h' := h') ?_ ?_)
  · simpa [DS.positions, maskH] using ha
  · rcases hc with hc | hc <;> simp only [hc, drawNext] <;> exact hq
theorem d_new {all l : List DI} {k ix : Nat} {d : Option Nat} {o : AOp} {need req : List Nat} {made : List (Nat × Nat)} {R : Env → Heap → Prop} {v : AV} {h' : Heap} (hc : clsOf o = 2) (ha : aop (env.mask need).ev h o = some (v, h'))
    (hq : WD T all (k + 1) l ⟨env.put d v, h', (k, h.length) :: made⟩ R) : WD T all k (⟨ix, ⟨d, none, o⟩, need, req, [], []⟩ :: l) ⟨env, h, made⟩ R := by
  refine wd_cons (b := true) rfl (wo_aop (v := v) (h' := h') ?_ ?_)
  · simpa [DS.positions, maskH] using ha
  · simp only [hc, drawNext, DS.positions, List.filterMap_nil, unmaskH, List.foldl_nil]; exact hq
theorem d_write {all l : List DI} {k ix : Nat} {d : Option Nat} {o : AOp} {need req post : List Nat} {made : List (Nat × Nat)} {R : Env → Heap → Prop} {v : AV} {h' : Heap} {c : Nat} (hc : clsOf o = c + 3) (ha : aop (env.mask need).ev h o = some (v, h'))
    (hl : h.length ≤ h'.length) (hr : rereads all ⟨env.put d v, h', made⟩ post = true)
    (hq : WD T all (k + 1) l ⟨env.put d v, h', made⟩ R) : WD T all k (⟨ix, ⟨d, none, o⟩, need, req, [], post⟩ :: l) ⟨env, h, made⟩ R := by
  refine wd_cons (b := true) rfl (wo_aop (v := v) (h' := h') ?_ ?_)
  · simpa [DS.positions, maskH] using ha
  · simp only [hc, drawNext, DS.positions, List.filterMap_nil, unmaskH, List.foldl_nil]; exact ⟨⟨hl, hr⟩, hq⟩
theorem d_call {all l : List DI} {k ix : Nat} {d : Option Nat} {f : Opd} {args : List Opd} {need req post : List Nat} {made : List (Nat × Nat)} {R : Env → Heap → Prop} {fv : AV} {as : List AV} (hf : (env.mask need).ev f = fv) (ha : args.map (env.mask need).ev = as)
    (hq : WC T fv as h (fun v h' => (h.length ≤ h'.length ∧ rereads all ⟨env.put d v, h', made⟩ post = true) ∧ WD T all (k + 1) l ⟨env.put d v, h', made⟩ R)) : WD T all k (⟨ix, ⟨d, none, .call f args⟩, need, req, [], post⟩ :: l) ⟨env, h, made⟩ R := by
  refine wd_cons (b := true) rfl (wo_call ?_)
  simp only [DS.positions, List.filterMap_nil, maskH, List.foldl_nil]
  rw [hf, ha]
  simp only [clsOf, drawNext, DS.positions, List.filterMap_nil, unmaskH, List.foldl_nil]
  exact hq
theorem d_callOn {all l : List DI} {k ix t : Nat} {bb : Bool} {d : Option Nat} {f : Opd} {args : List Opd} {need req post : List Nat} {made : List (Nat × Nat)} {R : Env → Heap → Prop} {fv : AV} {as : List AV} (hw : (env.mask need).get t = .lit (.bool bb)) (hf : (env.mask need).ev f = fv) (ha : args.map (env.mask need).ev = as)
    (hq : WC T fv as h (fun v h' => (h.length ≤ h'.length ∧ rereads all ⟨env.put d v, h', made⟩ post = true) ∧ WD T all (k + 1) l ⟨env.put d v, h', made⟩ R)) : WD T all k (⟨ix, ⟨d, some (t, bb), .call f args⟩, need, req, [], post⟩ :: l) ⟨env, h, made⟩ R := by
  refine wd_cons (b := true) (by simp [wanted, hw]) (wo_call ?_)
  simp only [DS.positions, List.filterMap_nil, maskH, List.foldl_nil]
  rw [hf, ha]
  simp only [clsOf, drawNext, DS.positions, List.filterMap_nil, unmaskH, List.foldl_nil]
  exact hq
/-- A guarded one that is not wanted. -/
theorem d_off {all l : List DI} {k ix t : Nat} {b : Bool} {d : Option Nat} {o : AOp} {need req ms post : List Nat} {made : List (Nat × Nat)} {R : Env → Heap → Prop} (hw : (env.mask need).get t = .lit (.bool !b))
    (hq : WD T all (k + 1) l ⟨env.put d (.lit .unit), h, made⟩ R) : WD T all k (⟨ix, ⟨d, some (t, b), o⟩, need, req, ms, post⟩ :: l) ⟨env, h, made⟩ R :=
  wd_cons (b := false) (by cases b <;> simp [wanted, hw]) hq
theorem d_on {all l : List DI} {k ix t : Nat} {b : Bool} {d : Option Nat} {o : AOp} {need req : List Nat} {made : List (Nat × Nat)} {R : Env → Heap → Prop} {v : AV} {h' : Heap} (hw : (env.mask need).get t = .lit (.bool b)) (hc : clsOf o = 0 ∨ clsOf o = 1) (ha : aop (env.mask need).ev h o = some (v, h'))
    (hq : WD T all (k + 1) l ⟨env.put d v, h, made⟩ R) : WD T all k (⟨ix, ⟨d, some (t, b), o⟩, need, req, [], []⟩ :: l) ⟨env, h, made⟩ R := by
  refine wd_cons (b := true) (by simp [wanted, hw]) (wo_aop (v := v) (h' := h') ?_ ?_)
  · simpa [DS.positions, maskH] using ha
  · rcases hc with hc | hc <;> simp only [hc, drawNext] <;> exact hq
/-- Reads and the like behind a mask: the heap is another for them. -/
theorem d_stepM {all l : List DI} {k ix : Nat} {d : Option Nat} {o : AOp} {need req ms ps : List Nat} {made : List (Nat × Nat)} {R : Env → Heap → Prop} {v : AV} {h' : Heap} (hc : clsOf o = 0 ∨ clsOf o = 1) (hp : ms.filterMap (fun k => made.lookup k) = ps) (ha : aop (env.mask need).ev (maskH h ps) o = some (v, h'))
    (hq : WD T all (k + 1) l ⟨env.put d v, h, made⟩ R) : WD T all k (⟨ix, ⟨d, none, o⟩, need, req, ms, []⟩ :: l) ⟨env, h, made⟩ R := by
  refine wd_cons (b := true) rfl (wo_aop (v := v) (h' := h') ?_ ?_)
  · simpa [DS.positions, hp] using ha
  · rcases hc with hc | hc <;> simp only [hc, drawNext] <;> exact hq
theorem d_nil {all : List DI} {k : Nat} {made : List (Nat × Nat)} {R : Env → Heap → Prop} (hq : R env h) : WD T all k [] ⟨env, h, made⟩ R := wd_nil hq

/-- A read that reads the same. -/
theorem reread1 {all : List DI} {made : List (Nat × Nat)} {j ix t : Nat} {o : AOp} {need req ms post js ps : List Nat} {v : AV} {h' : Heap} (hd : all[j]? = some ⟨ix, ⟨some t, none, o⟩, need, req, ms, post⟩) (hp : ms.filterMap (fun k => made.lookup k) = ps)
    (ha : aop (env.mask need).ev (maskH h ps) o = some (v, h')) (hv : AV.same v (env.get t) = true) (hr : rereads all ⟨env, h, made⟩ js = true) : rereads all ⟨env, h, made⟩ (j :: js) = true := by
  simp only [rereads, List.all_cons, Bool.and_eq_true] at hr ⊢
  refine ⟨?_, hr⟩
  simp only [hd, wanted, DS.positions, hp, ha, hv]
theorem reread0 {all : List DI} {s : DS} : rereads all s [] = true := rfl

/-- Loops, what comes behind them as code. -/
theorem s_loop {σ : Type} (E : σ → Env) (H : σ → Heap) (P : σ → Prop) (μ : σ → Nat) {live : List Nat} {b : AC} {Q : Ex → Env → Heap → Prop} (s0 : σ) (he : env.mask live = E s0) (hh : h = H s0) (hp : P s0)
    (round : ∀ s, P s → W T b (E s) (H s) (behindRound live E H P μ s Q)) : W T (.loop live b) env h Q := w_loop_st E H P μ s0 he hh hp round

theorem W.entry {c : AC} {env' : Env} {h' : Heap} (he : env = env') (hh : h = h') (hw : W T c env' h' Q) : W T c env h Q := by subst he hh; exact hw

end Go.Ab

/- One operation at a time, each in small premises. -/
namespace Go.Ab

variable {g : Opd → AV} {h h' : Heap} {v a b c : AV}

theorem binA_add {k : IntKind} {x y : Int} : binA .add (.lit (.int k x)) (.lit (.int k y)) = some (.lit (.int k (k.wrap (x + y)))) := by simp [binA, binLit, binInt]
theorem binA_sub {k : IntKind} {x y : Int} : binA .sub (.lit (.int k x)) (.lit (.int k y)) = some (.lit (.int k (k.wrap (x - y)))) := by simp [binA, binLit, binInt]
theorem binA_mul {k : IntKind} {x y : Int} : binA .mul (.lit (.int k x)) (.lit (.int k y)) = some (.lit (.int k (k.wrap (x * y)))) := by simp [binA, binLit, binInt]
theorem binA_quo {k : IntKind} {x y : Int} (hy : y ≠ 0) : binA .quo (.lit (.int k x)) (.lit (.int k y)) = some (.lit (.int k (k.wrap (x.tdiv y)))) := by simp [binA, binLit, binInt, hy]
theorem binA_rem {k : IntKind} {x y : Int} (hy : y ≠ 0) : binA .rem (.lit (.int k x)) (.lit (.int k y)) = some (.lit (.int k (x.tmod y))) := by simp [binA, binLit, binInt, hy]
theorem binA_eql {k : IntKind} {x y : Int} : binA .eql (.lit (.int k x)) (.lit (.int k y)) = some (.lit (.bool (x == y))) := by simp [binA, binLit, binInt]
theorem binA_neq {k : IntKind} {x y : Int} : binA .neq (.lit (.int k x)) (.lit (.int k y)) = some (.lit (.bool (x != y))) := by simp [binA, binLit, binInt]
theorem binA_lss {k : IntKind} {x y : Int} : binA .lss (.lit (.int k x)) (.lit (.int k y)) = some (.lit (.bool (decide (x < y)))) := by simp [binA, binLit, binInt]
theorem binA_leq {k : IntKind} {x y : Int} : binA .leq (.lit (.int k x)) (.lit (.int k y)) = some (.lit (.bool (decide (x ≤ y)))) := by simp [binA, binLit, binInt]
theorem binA_gtr {k : IntKind} {x y : Int} : binA .gtr (.lit (.int k x)) (.lit (.int k y)) = some (.lit (.bool (decide (x > y)))) := by simp [binA, binLit, binInt]
theorem binA_geq {k : IntKind} {x y : Int} : binA .geq (.lit (.int k x)) (.lit (.int k y)) = some (.lit (.bool (decide (x ≥ y)))) := by simp [binA, binLit, binInt]

theorem eqnA_eql {kd : Nat} {x y : AV} {r : Bool} (hr : eqNil kd x y = some r) : eqnA .eql kd x y = some (.bool r) := by simp [eqnA, hr]
theorem eqnA_neq {kd : Nat} {x y : AV} {r : Bool} (hr : eqNil kd x y = some r) : eqnA .neq kd x y = some (.bool (!r)) := by simp [eqnA, hr]

theorem wrap_i64 {x : Int} (h1 : -9223372036854775808 ≤ x) (h2 : x < 9223372036854775808) : IntKind.i64.wrap x = x := by
  simp [IntKind.wrap, IntKind.bits, IntKind.signed]
  split <;> omega

theorem iaddrS_sl {i off len sz : Nat} {k : Int} (h0 : 0 ≤ k) (h1 : k < len) : iaddrS sz (.sl i off len sz) k = some (.ptr i (off + k.toNat * sz)) := by simp [iaddrS, h0, h1]
theorem sliceCells_sl {xs : List AV} {i : Nat} {sz len : Nat} (hr : rowOf h i = some xs) (hl : xs.length = len * sz) : sliceCells h sz (.sl i 0 len sz) = some (xs, len) := by
  simp only [sliceCells, hr]
  rw [if_pos ⟨trivial, by omega⟩, List.drop_zero, ← hl, List.take_length]
theorem ldA_ptr {xs : List AV} {i o : Nat} (hr : rowOf h i = some xs) : ldA h none (.ptr i o) = xs[o]? := by simp [ldA, baseOf, hr, partA]
theorem stA_ptr {xs : List AV} {i o : Nat} {x : AV} (hr : rowOf h i = some xs) (ho : o < xs.length) (hc : x.cells = [x]) (hx : x.cell = true) : stA h 1 (.ptr i o) x = some (h.set i (.row (xs.set o x))) := by
  simp [stA, hr, hc, hx, splice]; omega

/-! ### What an operation gives -/

theorem a_mv {x : Opd} (hx : g x = v) : aop g h (.mv x) = some (v, h) := by simp [aop, hx]
theorem a_pick {x y z : Opd} {t : Bool} (hx : g x = .lit (.bool t)) (hy : g y = a) (hz : g z = b) : aop g h (.pick x y z) = some (if t then a else b, h) := by simp [aop, hx, hy, hz]
theorem a_pickT {x y z : Opd} (hx : g x = .lit (.bool true)) (hy : g y = v) : aop g h (.pick x y z) = some (v, h) := by simp [aop, hx, hy]
theorem a_pickF {x y z : Opd} (hx : g x = .lit (.bool false)) (hz : g z = v) : aop g h (.pick x y z) = some (v, h) := by simp [aop, hx, hz]
theorem a_new {cs : List AV} : aop g h (.new cs) = some (.ptr h.length 0, h ++ [.row cs]) := rfl
theorem a_box {x : Opd} {cs : List AV} (hx : g x = a) (hcs : a.cells = cs) (hc : cs.all AV.cell = true) : aop g h (.box x) = some (.ptr h.length 0, h ++ [.row cs]) := by subst hx hcs; simp only [aop, hc, if_true]
theorem a_build {z : List AV} {ps : List (Nat × Nat × Opd)} {cs : List AV} (hf : fillA z g ps = some cs) : aop g h (.build z ps) = some (.agg cs, h) := by simp [aop, hf]
theorem a_build1 {x : Opd} {z : AV} (hx : g x = b) (hb : b.cells = [b]) (hc : b.cell = true) : aop g h (.build [z] [(0, 1, x)]) = some (.agg [b], h) := by simp [aop, fillA, hx, hb, hc, splice]
theorem a_rowlit {len sz : Nat} {z : List AV} {ps : List (Nat × Nat × Opd)} {cs : List AV} (hf : fillA z g ps = some cs) : aop g h (.rowlit len sz z ps) = some (.sl h.length 0 len sz, h ++ [.row cs]) := by simp [aop, hf]
theorem a_rowlit0 {len sz : Nat} {z : List AV} : aop g h (.rowlit len sz z []) = some (.sl h.length 0 len sz, h ++ [.row z]) := by simp [aop, fillA]
theorem a_row1 {x : Opd} {k : Int} {z : AV} (hx : g x = .i64 k) : aop g h (.rowlit 1 1 [z] [(0, 1, x)]) = some (.sl h.length 0 1 1, h ++ [.row [.i64 k]]) := by simp [aop, fillA, hx, AV.cells, AV.cell, splice]
theorem a_ld {n : Option Nat} {x : Opd} (hx : g x = a) (hr : ldA h n a = some v) : aop g h (.ld n x) = some (v, h) := by simp [aop, hx, hr]
theorem a_st {n : Nat} {x y : Opd} (hx : g x = a) (hy : g y = b) (hr : stA h n a b = some h') : aop g h (.st n x y) = some (.lit .unit, h') := by simp [aop, hx, hy, hr]
theorem a_nilc {x : Opd} {i o : Nat} (hx : g x = .ptr i o) : aop g h (.nilc x) = some (.ptr i o, h) := by simp [aop, hx]
theorem a_nilcR {x : Opd} {xs : List AV} {k : Nat} (hx : g x = .rop xs k) : aop g h (.nilc x) = some (.rop xs k, h) := by simp [aop, hx]
theorem a_nilcF {x : Opd} {f : FuncId} {l m : List AV} (hx : g x = .fn (.func f) l m) : aop g h (.nilc x) = some (.fn (.func f) l m, h) := by simp [aop, hx]
theorem a_nilcY {x : Opd} {i : Nat} (hx : g x = .yl i) : aop g h (.nilc x) = some (.yl i, h) := by simp [aop, hx]
theorem a_bin {op : BinOp} {x y : Opd} (hx : g x = a) (hy : g y = b) (hr : binA op a b = some v) : aop g h (.bin op x y) = some (v, h) := by simp [aop, hx, hy, hr]
theorem a_eqb {op : BinOp} {x y : Opd} (hx : g x = a) (hy : g y = b) (hr : eqbA op a b = some v) : aop g h (.eqb op x y) = some (v, h) := by simp [aop, hx, hy, hr]
theorem a_eqn {op : BinOp} {kd : Nat} {x y : Opd} (hx : g x = a) (hy : g y = b) (hr : eqnA op kd a b = some v) : aop g h (.eqn op kd x y) = some (v, h) := by simp [aop, hx, hy, hr]
theorem a_not {x : Opd} {t : Bool} (hx : g x = .lit (.bool t)) : aop g h (.un .not x) = some (.bool (!t), h) := by simp [aop, hx, unA]
theorem a_neg {x : Opd} {k : IntKind} {n : Int} (hx : g x = .lit (.int k n)) : aop g h (.un .neg x) = some (.int k (k.wrap (0 - n)), h) := by simp [aop, hx, unA]
theorem a_conv {k k' : IntKind} {x : Opd} {n : Int} (hx : g x = .lit (.int k' n)) : aop g h (.conv k x) = some (.int k (k.wrap n), h) := by simp [aop, hx, intOf]
theorem a_func {f : Fn} {l m : List Opd} {l' m' : List AV} (hl : l.map g = l') (hm : m.map g = m') : aop g h (.func f l m) = some (.fn f l' m', h) := by simp [aop, hl, hm]
theorem a_mkmap : aop g h .mkmap = some (.mp h.length, h ++ [.map []]) := rfl
theorem a_mkslice {sz bytes : Nat} {z : List AV} {l c : Opd} {x y : Int} (hl : g l = .lit (.int .i64 x)) (hc : g c = .lit (.int .i64 y)) (hb : 0 ≤ x ∧ x ≤ y ∧ y ≤ 2 ^ 62 ∧ bytes * y ≤ 2 ^ 44) :
    aop g h (.mkslice sz bytes z l c) = some (.sl h.length 0 x.toNat sz, h ++ [.row (repl x.toNat z)]) := by simp only [aop, hl, hc]; rw [if_pos hb]
theorem a_slice {sz : Nat} {x : Opd} {lo hi : Option Opd} {lo' hi' : Option AV} (hx : g x = a) (hl : lo.map g = lo') (hh : hi.map g = hi') (hr : sliceSl sz a lo' hi' = some v) : aop g h (.slice sz x lo hi) = some (v, h) := by simp [aop, hx, hl, hh, hr]
theorem a_faddr {off : Nat} {x : Opd} (hx : g x = a) (hr : offA a off = some v) : aop g h (.faddr off x) = some (v, h) := by simp [aop, hx, hr]
theorem a_fld {off : Nat} {n : Option Nat} {x : Opd} {cs : List AV} (hx : g x = .agg cs) (hr : partA cs off n = some v) : aop g h (.fld off n x) = some (v, h) := by simp [aop, hx, hr]
theorem a_iaddr {sz : Nat} {x i : Opd} {k : IntKind} {n : Int} (hx : g x = a) (hi : g i = .lit (.int k n)) (hr : iaddrS sz a n = some v) : aop g h (.iaddr sz x i) = some (v, h) := by simp [aop, hx, hi, intOf, hr]
theorem a_iaddrA {m sz : Nat} {x i : Opd} {k : IntKind} {n : Int} (hx : g x = a) (hi : g i = .lit (.int k n)) (hb : 0 ≤ n ∧ n < m) (hr : offA a (n.toNat * sz) = some v) : aop g h (.iaddrA m sz x i) = some (v, h) := by simp [aop, hx, hi, intOf, hr, hb]
theorem a_lookup {kk : Nat} {z : AV} {x k : Opd} {kv : AV} {es : List (AV × AV)} {r : Option (Nat × AV)} (hx : g x = a) (hk : g k = kv) (ho : keyOk kk kv = true) (he : entsOf h a = some es) (hf : findA kv es 0 = some r) : aop g h (.lookup kk z x k false) = some (foundA z r, h) := by simp [aop, hx, hk, ho, he, hf]
theorem a_lookup2 {kk : Nat} {z : AV} {x k : Opd} {kv : AV} {es : List (AV × AV)} {r : Option (Nat × AV)} (hx : g x = a) (hk : g k = kv) (ho : keyOk kk kv = true) (he : entsOf h a = some es) (hf : findA kv es 0 = some r) : aop g h (.lookup kk z x k true) = some (.tup [foundA z r, .bool r.isSome], h) := by simp [aop, hx, hk, ho, he, hf]
theorem a_mapup {kk : Nat} {m k x : Opd} {kv xv : AV} {i : Nat} {es : List (AV × AV)} {r : Option (Nat × AV)} (hm : g m = .mp i) (hk : g k = kv) (hx : g x = xv) (ho : keyOk kk kv = true) (hv : xv.valOk = true) (he : mapOf h i = some es) (hf : findA kv es 0 = some r) :
    aop g h (.mapup kk m k x) = some (.lit .unit, h.set i (.map (putA es kv xv r))) := by simp [aop, hm, hk, hx, ho, hv, he, hf]
theorem a_del1 {kk : Nat} {m k : Opd} {kv : AV} {i j : Nat} {y : AV} {es : List (AV × AV)} (hm : g m = .mp i) (hk : g k = kv) (ho : keyOk kk kv = true) (he : mapOf h i = some es) (hf : findA kv es 0 = some (some (j, y))) :
    aop g h (.del kk m k) = some (.lit .unit, h.set i (.map (es.eraseIdx j))) := by simp [aop, hm, hk, ho, he, hf]
theorem a_ext {x : Opd} {i : Nat} {xs : List AV} (hx : g x = .tup xs) (hr : xs[i]? = some v) : aop g h (.ext x i) = some (v, h) := by simp [aop, hx, hr]
theorem a_cnst : aop g h (.cnst v) = some (v, h) := rfl
theorem a_len {kd : Nat} {x : Opd} {n : Nat} (hx : g x = a) (hr : lenA h kd a = some n) : aop g h (.len kd x) = some (.i64 n, h) := by simp [aop, hx, hr]
theorem a_cpy {sz : Nat} {d s : Opd} {i off len k : Nat} {xs ys : List AV} (hs : g s = b) (hsrc : sliceCells h sz b = some (ys, k)) (hd : g d = .sl i off len sz) (hr : rowOf h i = some xs) (hb : off + len * sz ≤ xs.length) :
    aop g h (.cpy sz d s) = some (.i64 (min k len : Nat), h.set i (.row (splice xs off (ys.take (min k len * sz))))) := by
  simp only [aop, hs, hsrc, hd, hr]
  rw [if_pos ⟨trivial, hb⟩]
theorem sliceSl_lo {sz i off len k : Nat} (hk : k < len) : sliceSl sz (.sl i off len sz) (some (.i64 (k : Nat))) none = some (.sl i (off + k * sz) (len - k) sz) := by
  simp only [sliceSl, bounds, intOf]
  rw [if_pos ⟨by omega, by omega, by omega⟩]
  simp only [Int.toNat_natCast, if_true]
  rw [if_neg (by omega)]
theorem sliceSl_hi {sz i off len k : Nat} (hk : k ≤ len) : sliceSl sz (.sl i off len sz) none (some (.i64 (k : Nat))) = some (.sl i off k sz) := by
  simp only [sliceSl, bounds, intOf]
  rw [if_pos ⟨by omega, by omega, by omega⟩]
  simp
theorem splice_get : ∀ (ys xs : List AV) (off i : Nat), (splice xs off ys)[i]? = if off ≤ i ∧ i < off + ys.length ∧ i < xs.length then ys[i - off]? else xs[i]?
  | [], xs, off, i => by simp [splice]; omega
  | y :: ys, xs, off, i => by
    rw [splice, splice_get ys (xs.set off y) (off + 1) i]
    simp only [List.length_set, List.length_cons, List.getElem?_set]
    by_cases h1 : off = i
    · subst h1
      rw [if_neg (by omega)]
      by_cases h2 : off < xs.length
      · simp [h2]
      · simp [h2]
    · by_cases h3 : off + 1 ≤ i ∧ i < off + 1 + ys.length ∧ i < xs.length
      · rw [if_pos h3, if_pos (by omega), show i - off = (i - (off + 1)) + 1 by omega]
        simp
      · rw [if_neg h3, if_neg h1, if_neg (by omega)]
theorem wrap_u64 {x : Int} (h1 : 0 ≤ x) (h2 : x < 18446744073709551616) : IntKind.u64.wrap x = x := by
  simp [IntKind.wrap, IntKind.bits, IntKind.signed]
  omega
/-- Elements are put behind a slice: it is given up, and a new one holds all. -/
theorem a_app {sz bytes : Nat} {s x : Opd} {i len n : Nat} {xs ys : List AV} (hs : g s = .sl i 0 len sz) (hx : g x = b) (hsrc : sliceCells h sz b = some (ys, n)) (hr : rowOf h i = some xs)
    (hb : xs.length = len * sz ∧ bytes * (len + n) ≤ room ∧ len + n ≤ room ∧ ys.length = n * sz) : aop g h (.app false sz bytes s x) = some (.sl h.length 0 (len + n) sz, (h.set i .dead) ++ [.row (xs ++ ys)]) := by
  simp only [aop, srcA, hx, hsrc, hs, hr]
  rw [if_pos ⟨trivial, trivial, hb.1, hb.2.1, hb.2.2.1, hb.2.2.2⟩]
theorem a_app_nil {sz bytes : Nat} {s x : Opd} {n : Nat} {ys : List AV} (hs : g s = .lit .nils) (hx : g x = b) (hsrc : sliceCells h sz b = some (ys, n))
    (hb : 0 < n ∧ bytes * n ≤ room ∧ n ≤ room ∧ ys.length = n * sz) : aop g h (.app false sz bytes s x) = some (.sl h.length 0 n sz, h ++ [.row ys]) := by
  simp only [aop, srcA, hx, hsrc, hs]
  rw [if_neg (by omega), if_pos hb.2]
theorem a_app_nil0 {sz bytes : Nat} {s x : Opd} {ys : List AV} (hs : g s = .lit .nils) (hx : g x = b) (hsrc : sliceCells h sz b = some (ys, 0)) : aop g h (.app false sz bytes s x) = some (.lit .nils, h) := by
  simp only [aop, srcA, hx, hsrc, hs, if_true]

/-! ### For the words of AbT -/

variable {T : Tab} {env : Env}
theorem d_st {all l : List DI} {k ix n : Nat} {d : Option Nat} {p x : Opd} {need req : List Nat} {made : List (Nat × Nat)} {R : Env → Heap → Prop} (ha : aop (env.mask need).ev h (.st n p x) = some (v, h'))
    (hq : WD T all (k + 1) l ⟨env.put d v, h', made⟩ R) : WD T all k (⟨ix, ⟨d, none, .st n p x⟩, need, req, [], []⟩ :: l) ⟨env, h, made⟩ R := by
  refine d_write (c := 0) rfl ha ?_ rfl hq
  simp only [aop, Option.map_eq_some_iff] at ha
  obtain ⟨h2, h3, h4⟩ := ha
  cases h4
  unfold stA at h3
  split at h3
  · split at h3
    · split at h3
      · cases h3; simp
      · cases h3
    · cases h3
  · cases h3

theorem q0 {n : Nat} : env.ev (.t n) = env.get n := rfl
theorem q1 : env.ev (.c v) = v := rfl
theorem q2 {t : Nat} : env.put (some t) v = (t, v) :: env := rfl
theorem q3 : env.put none v = env := rfl
theorem q4 {s t : Nat} : Env.get ((s, v) :: env) t = if s = t then v else env.get t := rfl
theorem q5 {t : Nat} {l : List Nat} : env.mask (t :: l) = (t, env.get t) :: env.mask l := rfl
theorem q6 : env.mask [] = [] := rfl

end Go.Ab

/- Steps through printed code: short words for tactics. -/
namespace Go.Ab

theorem b_normal {σ : Type} {live : List Nat} {E : σ → Env} {H : σ → Heap} {P : σ → Prop} {μ : σ → Nat} {s : σ} {Q : Ex → Env → Heap → Prop} {e : Env} {h : Heap} (s' : σ) (hP : P s') (hμ : μ s' < μ s) (he : e.mask live = E s') (hh : h = H s') : behindRound live E H P μ s Q .normal e h := ⟨s', hP, hμ, he, hh⟩
theorem b_jump {σ : Type} {live : List Nat} {E : σ → Env} {H : σ → Heap} {P : σ → Prop} {μ : σ → Nat} {s : σ} {Q : Ex → Env → Heap → Prop} {e : Env} {h : Heap} {j : Jump} (hq : Q (.jump j) e h) : behindRound live E H P μ s Q (.jump j) e h := hq
theorem il_normal {T : Tab} {live : List Nat} {b : AC} {Q : Ex → Env → Heap → Prop} {e : Env} {h : Heap} (hw : W T (.loop live b) e h Q) : inLoop T live b Q .normal e h := hw
theorem il_jump {T : Tab} {live : List Nat} {b : AC} {Q : Ex → Env → Heap → Prop} {e : Env} {h : Heap} {j : Jump} (hq : Q (.jump j) e h) : inLoop T live b Q (.jump j) e h := hq
theorem a_ret {res : List AR} {Q : AV → Heap → Prop} {e : Env} {h : Heap} {vs : List AV} (hr : resA e h res = some vs) (hq : Q (result vs) h) : atEnd res Q (.jump .ret) e h := ⟨vs, hr, hq⟩
theorem a_normal {res : List AR} {Q : AV → Heap → Prop} {e : Env} {h : Heap} {vs : List AV} (hr : resA e h res = some vs) (hq : Q (result vs) h) : atEnd res Q .normal e h := ⟨vs, hr, hq⟩

end Go.Ab

/- Heaps that go on, slices of numbers, maps of slices. -/
namespace Go.Ab

/-- Objects below a number are as they were, but for one. -/
def Kp (n : Nat) (m : Option Nat) (h h' : Heap) : Prop := h.length ≤ h'.length ∧ ∀ i, i < n → some i ≠ m → h'[i]? = h[i]?

variable {n n' i j : Nat} {m m' : Option Nat} {h h' h'' : Heap} {xs ys : List AV} {v : AV}

theorem Kp.refl : Kp n m h h := ⟨Nat.le_refl _, fun _ _ _ => rfl⟩
theorem Kp.trans (a : Kp n m h h') (b : Kp n m h' h'') : Kp n m h h'' := ⟨Nat.le_trans a.1 b.1, fun i h1 h2 => (b.2 i h1 h2).trans (a.2 i h1 h2)⟩
theorem Kp.mono (a : Kp n m h h') (hn : n' ≤ n) : Kp n' m h h' := ⟨a.1, fun i h1 h2 => a.2 i (by omega) h2⟩
theorem Kp.weak (a : Kp n none h h') : Kp n m h h' := ⟨a.1, fun i h1 _ => a.2 i h1 (by simp)⟩
theorem Kp.drop (a : Kp n (some j) h h') (hn : n' ≤ n) (hj : n' ≤ j) : Kp n' m h h' := ⟨a.1, fun i h1 _ => a.2 i (by omega) (by simp; omega)⟩
theorem Kp.app {l : Heap} (hn : n ≤ h.length) : Kp n m h (h ++ l) := ⟨by simp, fun i h1 _ => List.getElem?_append_left (by omega)⟩
theorem Kp.set {o : AO} (hi : n ≤ i) : Kp n m h (h.set i o) := ⟨by simp, fun k h1 _ => List.getElem?_set_ne (by omega)⟩
theorem Kp.setm {o : AO} : Kp n (some i) h (h.set i o) := ⟨by simp, fun k _ h2 => List.getElem?_set_ne (fun e => h2 (by rw [e]))⟩
theorem Kp.le (a : Kp n m h h') : h.length ≤ h'.length := a.1

theorem rowOf_lt (hr : rowOf h i = some xs) : i < h.length := by
  unfold rowOf at hr; split at hr
  · rename_i x; exact (List.getElem?_eq_some_iff.1 x).1
  · cases hr
theorem mapOf_lt {es : List (AV × AV)} (hr : mapOf h i = some es) : i < h.length := by
  unfold mapOf at hr; split at hr
  · rename_i x; exact (List.getElem?_eq_some_iff.1 x).1
  · cases hr
theorem row_ne_map {es : List (AV × AV)} (hr : rowOf h i = some xs) (hm : mapOf h j = some es) : i ≠ j := by
  rintro rfl
  unfold rowOf at hr; unfold mapOf at hm
  split at hr
  · rename_i x; rw [x] at hm; cases hm
  · cases hr
theorem Kp.row (a : Kp n m h h') (hr : rowOf h i = some xs) (hi : i < n) (hm : some i ≠ m) : rowOf h' i = some xs := by
  unfold rowOf at *; rw [a.2 i hi hm]; exact hr
theorem Kp.map {es : List (AV × AV)} (a : Kp n m h h') (hr : mapOf h i = some es) (hi : i < n) (hm : some i ≠ m) : mapOf h' i = some es := by
  unfold mapOf at *; rw [a.2 i hi hm]; exact hr

theorem rowOf_app {l : Heap} (hr : rowOf h i = some xs) : rowOf (h ++ l) i = some xs := (Kp.app (m := none) (Nat.le_refl _)).row hr (rowOf_lt hr) (by simp)
theorem mapOf_app {l : Heap} {es : List (AV × AV)} (hr : mapOf h i = some es) : mapOf (h ++ l) i = some es := (Kp.app (m := none) (Nat.le_refl _)).map hr (mapOf_lt hr) (by simp)
theorem rowOf_last : rowOf (h ++ [.row xs]) h.length = some xs := by simp [rowOf]
theorem mapOf_last {es : List (AV × AV)} : mapOf (h ++ [.map es]) h.length = some es := by simp [mapOf]
theorem rowOf_set_ne {o : AO} (hij : j ≠ i) (hr : rowOf h i = some xs) : rowOf (h.set j o) i = some xs := by
  unfold rowOf at *; rw [List.getElem?_set_ne hij]; exact hr
theorem rowOf_set_eq (hi : i < h.length) : rowOf (h.set i (.row xs)) i = some xs := by simp [rowOf, hi]
theorem mapOf_set_eq {es : List (AV × AV)} (hi : i < h.length) : mapOf (h.set i (.map es)) i = some es := by simp [mapOf, hi]
theorem mapOf_set_ne {o : AO} {es : List (AV × AV)} (hij : j ≠ i) (hr : mapOf h i = some es) : mapOf (h.set j o) i = some es := by
  unfold mapOf at *; rw [List.getElem?_set_ne hij]; exact hr

theorem set_row_self (hr : rowOf h i = some xs) : h.set i (.row xs) = h := by
  have : h[i]? = some (.row xs) := by
    unfold rowOf at hr; split at hr
    · rename_i x; cases hr; exact x
    · cases hr
  obtain ⟨hx, hxe⟩ := List.getElem?_eq_some_iff.1 this
  rw [← hxe]; exact List.set_getElem_self hx

/-! ### Slices of numbers -/

abbrev I64s (xs : List Int) : List AV := xs.map AV.i64

/-- A slice that begins its object and fills it, made at n or later. -/
def GrpR (R : Nat → Prop) (h : Heap) (v : AV) (xs : List Int) : Prop := ∃ j, R j ∧ v = .sl j 0 xs.length 1 ∧ rowOf h j = some (I64s xs)
abbrev Grp (n : Nat) (h : Heap) (v : AV) (xs : List Int) : Prop := GrpR (fun j => n ≤ j) h v xs
/-- .. or nil, where there is nothing. -/
def Own (n : Nat) (h : Heap) (v : AV) (xs : List Int) : Prop := (v = .lit .nils ∧ xs = []) ∨ Grp n h v xs
/-- A slice's object. -/
def objOf : AV → Option Nat
  | .sl i _ _ _ => some i
  | _ => none

variable {g xs' : List Int}

theorem Grp.elems (hg : Grp n h v g) : Elems h v (I64s g) := by
  obtain ⟨j, -, rfl, hr⟩ := hg
  have := sliceCells_sl (sz := 1) (len := g.length) hr (by simp)
  simpa [Elems] using this
theorem Own.elems (hg : Own n h v g) : Elems h v (I64s g) := by
  rcases hg with ⟨rfl, rfl⟩ | hg
  · simp [Elems, sliceCells]
  · exact hg.elems
theorem Grp.own (hg : Grp n h v g) : Own n h v g := .inr hg
theorem Own.grp (hg : Own n h v g) (hne : g ≠ []) : Grp n h v g := by
  rcases hg with ⟨rfl, rfl⟩ | hg
  · exact absurd rfl hne
  · exact hg
theorem Grp.mono (hg : Grp n h v g) (hn : n' ≤ n) : Grp n' h v g := let ⟨j, h1, h2⟩ := hg; ⟨j, by omega, h2⟩
theorem Own.mono (hg : Own n h v g) (hn : n' ≤ n) : Own n' h v g := hg.imp id (Grp.mono · hn)

theorem Grp.kp (hg : Grp n h v g) (k : Kp h.length m h h') (hm : objOf v ≠ m ∨ m = none) : Grp n h' v g := by
  obtain ⟨j, h1, rfl, hr⟩ := hg
  refine ⟨j, h1, rfl, k.row hr (rowOf_lt hr) ?_⟩
  rcases hm with hm | rfl
  · simpa [objOf] using hm
  · simp
theorem Own.kp (hg : Own n h v g) (k : Kp h.length m h h') (hm : objOf v ≠ m ∨ m = none) : Own n h' v g := hg.imp id (Grp.kp · k hm)
theorem Elems.kp {xs : List AV} (he : Elems h v xs) (k : Kp h.length m h h') (hm : objOf v ≠ m ∨ m = none) : Elems h' v xs := by
  unfold Elems sliceCells at *
  split at he
  · exact he
  · exact he
  · rename_i j off len s
    split at he
    · rename_i ys hr
      have : rowOf h' j = some ys := k.row hr (rowOf_lt hr) (by rcases hm with hm | rfl <;> simp_all [objOf])
      simp only [this]; exact he
    · cases he
  · exact he
  · cases he

/-- Numbers are put behind. -/
theorem a_app_own {gg : Opd → AV} {s x : Opd} {b : AV} (hs : gg s = v) (ho : Own n h v g) (hx : gg x = b) (hsrc : sliceCells h 1 b = some (I64s xs', xs'.length)) (hne : xs' ≠ []) (hb : g.length + xs'.length ≤ 2 ^ 40) (hn : n ≤ h.length) :
    ∃ v' h', aop gg h (.app false 1 8 s x) = some (v', h') ∧ Grp n h' v' (g ++ xs') ∧ Kp h.length (objOf v) h h' := by
  rcases ho with ⟨rfl, rfl⟩ | ⟨j, h1, rfl, hr⟩
  · have hp : 0 < xs'.length := List.length_pos_iff.2 hne
    refine ⟨_, _, a_app_nil (sz := 1) (bytes := 8) hs hx hsrc ⟨hp, ?_, ?_, by simp⟩, ⟨h.length, hn, by simp, by simpa using rowOf_last⟩, Kp.app (Nat.le_refl _)⟩
    · simp [room] at *; omega
    · simp [room] at *; omega
  · refine ⟨_, _, a_app (sz := 1) (bytes := 8) hs hx hsrc hr ⟨by simp, ?_, ?_, by simp⟩, ⟨h.length, hn, by simp, ?_⟩, ?_⟩
    · simp [room] at *; omega
    · simp [room] at *; omega
    · have := rowOf_last (h := h.set j .dead) (xs := I64s g ++ I64s xs')
      simpa [I64s] using this
    · exact (Kp.setm (n := h.length)).trans (Kp.app (by simp))

theorem a_app_grp {gg : Opd → AV} {s x : Opd} {b : AV} (hs : gg s = v) (ho : Grp n h v g) (hx : gg x = b) (hsrc : sliceCells h 1 b = some (I64s xs', xs'.length)) (hb : g.length + xs'.length ≤ 2 ^ 40) (hn : n ≤ h.length) :
    ∃ v' h', aop gg h (.app false 1 8 s x) = some (v', h') ∧ Grp n h' v' (g ++ xs') ∧ Kp h.length (objOf v) h h' := by
  obtain ⟨j, h1, rfl, hr⟩ := ho
  refine ⟨_, _, a_app (sz := 1) (bytes := 8) hs hx hsrc hr ⟨by simp, ?_, ?_, by simp⟩, ⟨h.length, hn, by simp, ?_⟩, ?_⟩
  · simp [room] at *; omega
  · simp [room] at *; omega
  · have := rowOf_last (h := h.set j .dead) (xs := I64s g ++ I64s xs')
    simpa [I64s] using this
  · exact (Kp.setm (n := h.length)).trans (Kp.app (by simp))

variable {T : Tab} {env : Env} {d : Option Nat} {s x : Opd} {b : AV} {l : List AI} {R : Env → Heap → Prop}

theorem o_app_grp (hs : env.ev s = v) (hx : env.ev x = b) (ho : Grp n h v g) (hsrc : sliceCells h 1 b = some (I64s xs', xs'.length)) (hb : g.length + xs'.length ≤ 2 ^ 40) (hn : n ≤ h.length)
    (hq : ∀ v' h', Grp n h' v' (g ++ xs') → Kp h.length (objOf v) h h' → WL T l (env.put d v') h' R) : WL T (⟨d, none, .app false 1 8 s x⟩ :: l) env h R := by
  obtain ⟨v', h', h1, h2, h3⟩ := a_app_grp hs ho hx hsrc hb hn
  exact o_step h1 (hq _ _ h2 h3)
theorem o_app_own (hs : env.ev s = v) (hx : env.ev x = b) (ho : Own n h v g) (hsrc : sliceCells h 1 b = some (I64s xs', xs'.length)) (hne : xs' ≠ []) (hb : g.length + xs'.length ≤ 2 ^ 40) (hn : n ≤ h.length)
    (hq : ∀ v' h', Grp n h' v' (g ++ xs') → Kp h.length (objOf v) h h' → WL T l (env.put d v') h' R) : WL T (⟨d, none, .app false 1 8 s x⟩ :: l) env h R := by
  obtain ⟨v', h', h1, h2, h3⟩ := a_app_own hs ho hx hsrc hne hb hn
  exact o_step h1 (hq _ _ h2 h3)
variable {all ld : List DI} {k ix : Nat} {need req post : List Nat} {made : List (Nat × Nat)}
theorem d_app_own (hs : (env.mask need).ev s = v) (hx : (env.mask need).ev x = b) (ho : Own n h v g) (hsrc : sliceCells h 1 b = some (I64s xs', xs'.length)) (hne : xs' ≠ []) (hb : g.length + xs'.length ≤ 2 ^ 40) (hn : n ≤ h.length)
    (hq : ∀ v' h', Grp n h' v' (g ++ xs') → Kp h.length (objOf v) h h' → rereads all ⟨env.put d v', h', made⟩ post = true ∧ WD T all (k + 1) ld ⟨env.put d v', h', made⟩ R) : WD T all k (⟨ix, ⟨d, none, .app false 1 8 s x⟩, need, req, [], post⟩ :: ld) ⟨env, h, made⟩ R := by
  obtain ⟨v', h', h1, h2, h3⟩ := a_app_own hs ho hx hsrc hne hb hn
  exact d_write (c := 0) rfl h1 h3.1 (hq _ _ h2 h3).1 (hq _ _ h2 h3).2

/-- .. and what holds all is new. -/
theorem o_app_new (hs : env.ev s = v) (hx : env.ev x = b) (ho : Own n h v g) (hsrc : sliceCells h 1 b = some (I64s xs', xs'.length)) (hne : xs' ≠ []) (hb : g.length + xs'.length ≤ 2 ^ 40)
    (hq : ∀ h', rowOf h' h.length = some (I64s (g ++ xs')) → h'.length = h.length + 1 → Kp h.length (objOf v) h h' → WL T l (env.put d (.sl h.length 0 (g ++ xs').length 1)) h' R) : WL T (⟨d, none, .app false 1 8 s x⟩ :: l) env h R := by
  rcases ho with ⟨rfl, rfl⟩ | ⟨j, h1, rfl, hr⟩
  · have hp : 0 < xs'.length := List.length_pos_iff.2 hne
    refine o_step (a_app_nil (sz := 1) (bytes := 8) hs hx hsrc ⟨hp, ?_, ?_, by simp⟩) (hq _ (by simpa using rowOf_last) (by simp) (Kp.app (Nat.le_refl _)))
    · simp [room] at *; omega
    · simp [room] at *; omega
  · have hr2 := rowOf_last (h := h.set j .dead) (xs := I64s g ++ I64s xs')
    simp only [List.length_set] at hr2
    have hfin := hq (h.set j .dead ++ [.row (I64s g ++ I64s xs')]) (by simpa [I64s] using hr2) (by simp) ((Kp.setm (n := h.length)).trans (Kp.app (by simp)))
    rw [List.length_append] at hfin
    refine o_step (a_app (sz := 1) (bytes := 8) hs hx hsrc hr ⟨by simp, ?_, ?_, by simp⟩) hfin
    · simp [room] at *; omega
    · simp [room] at *; omega

/-- A slice lies in one cell. -/
theorem Elems.one {xs : List AV} (he : Elems h v xs) : v.cells = [v] ∧ v.cell = true := by
  unfold Elems sliceCells at he
  split at he
  · exact ⟨rfl, rfl⟩
  · exact ⟨rfl, rfl⟩
  · exact ⟨rfl, rfl⟩
  · exact ⟨rfl, rfl⟩
  · cases he

/-- A slice of one number, just made. -/
theorem src_one {k : Int} : sliceCells (h ++ [.row [.i64 k]]) 1 (.sl h.length 0 1 1) = some (I64s [k], ([k] : List Int).length) := by
  simp [sliceCells, rowOf_last]

theorem Kp.push {l : Heap} (k : Kp (h ++ l).length m (h ++ l) h') : Kp h.length m h h' := (Kp.app (Nat.le_refl _)).trans (k.mono (by simp))
/-- What somebody owns from n on may turn. -/
theorem Kp.own (k : Kp h.length (objOf v) h h') (ho : Own n h v g) (hn : n ≤ h.length) : Kp n none h h' := by
  rcases ho with ⟨rfl, -⟩ | ⟨j, h1, rfl, -⟩
  · exact k.mono hn
  · exact k.drop hn h1

/-! ### Maps of slices -/

variable {R R' : Nat → Prop}
theorem GrpR.mono (hg : GrpR R h v g) (hR : ∀ x, R x → R' x) : GrpR R' h v g := let ⟨j, h1, h2⟩ := hg; ⟨j, hR j h1, h2⟩

/-- A map's entries: numbers, and slices of numbers. -/
def Ents (R : Nat → Prop) (h : Heap) : List (AV × AV) → List (Int × List Int) → Prop
  | [], [] => True
  | (k, v) :: es, (c, g) :: gs => k = .i64 c ∧ GrpR R h v g ∧ Ents R h es gs
  | _, _ => False

variable {es : List (AV × AV)} {gs : List (Int × List Int)} {c : Int}

theorem Ents.mono (he : Ents R h es gs) (hn : ∀ x, R x → R' x) : Ents R' h es gs := by
  induction es generalizing gs with
  | nil => cases gs <;> simp_all [Ents]
  | cons e es ih =>
    obtain ⟨k, v⟩ := e
    cases gs with
    | nil => simp [Ents] at he
    | cons q gs => obtain ⟨c, g⟩ := q; simp only [Ents] at *; exact ⟨he.1, he.2.1.mono hn, ih he.2.2⟩

theorem Ents.len (he : Ents R h es gs) : es.length = gs.length := by
  induction es generalizing gs with
  | nil => cases gs <;> simp_all [Ents]
  | cons e es ih =>
    obtain ⟨k, v⟩ := e
    cases gs with
    | nil => simp [Ents] at he
    | cons q gs => obtain ⟨c, g⟩ := q; simp only [Ents] at he; simp [ih he.2.2]

theorem Ents.kpR (he : Ents R h es gs) (k : Kp h.length m h h') (hm : ∀ j ys, R j → rowOf h j = some ys → some j ≠ m) : Ents R h' es gs := by
  induction es generalizing gs with
  | nil => cases gs <;> simp_all [Ents]
  | cons e es ih =>
    obtain ⟨kk, v⟩ := e
    cases gs with
    | nil => simp [Ents] at he
    | cons q gs =>
      obtain ⟨c, g⟩ := q; simp only [Ents] at *
      obtain ⟨e1, ⟨j, h1, rfl, hr⟩, e3⟩ := he
      exact ⟨e1, ⟨j, h1, rfl, k.row hr (rowOf_lt hr) (hm j _ h1 hr)⟩, ih e3⟩

theorem Ents.kp (he : Ents R h es gs) (k : Kp h.length m h h') (hm : ∀ j ys, rowOf h j = some ys → some j ≠ m) : Ents R h' es gs := he.kpR k fun j ys _ => hm j ys
theorem Ents.lt (he : Ents R h es gs) : Ents (fun x => R x ∧ x < h.length) h es gs := by
  induction es generalizing gs with
  | nil => cases gs <;> simp_all [Ents]
  | cons e es ih =>
    obtain ⟨kk, v⟩ := e
    cases gs with
    | nil => simp [Ents] at he
    | cons q gs =>
      obtain ⟨c, g⟩ := q; simp only [Ents] at *
      obtain ⟨e1, ⟨j, h1, rfl, hr⟩, e3⟩ := he
      exact ⟨e1, ⟨j, ⟨h1, rowOf_lt hr⟩, rfl, hr⟩, ih e3⟩

theorem Ents.app (he : Ents R h es gs) {v : AV} {g : List Int} (hg : GrpR R h v g) : Ents R h (es ++ [(.i64 c, v)]) (gs ++ [(c, g)]) := by
  induction es generalizing gs with
  | nil => cases gs <;> simp_all [Ents]
  | cons e es ih =>
    obtain ⟨k, v⟩ := e
    cases gs with
    | nil => simp [Ents] at he
    | cons q gs => obtain ⟨c, g⟩ := q; simp only [Ents, List.cons_append] at *; exact ⟨he.1, he.2.1, ih he.2.2⟩

theorem Ents.get (he : Ents R h es gs) {i : Nat} {g : List Int} (hg : gs[i]? = some (c, g)) : ∃ v, es[i]? = some (.i64 c, v) ∧ GrpR R h v g := by
  induction es generalizing gs i with
  | nil => cases gs <;> simp_all [Ents]
  | cons e es ih =>
    obtain ⟨k, v⟩ := e
    cases gs with
    | nil => simp [Ents] at he
    | cons q gs =>
      obtain ⟨c', g'⟩ := q; simp only [Ents] at he
      cases i with
      | zero => simp at hg; obtain ⟨rfl, rfl⟩ := hg; exact ⟨v, by simp [he.1], he.2.1⟩
      | succ i => simp at hg ⊢; exact ih he.2.2 hg

theorem Ents.erase (he : Ents R h es gs) (i : Nat) : Ents R h (es.eraseIdx i) (gs.eraseIdx i) := by
  induction es generalizing gs i with
  | nil => cases gs <;> simp_all [Ents]
  | cons e es ih =>
    obtain ⟨k, v⟩ := e
    cases gs with
    | nil => simp [Ents] at he
    | cons q gs =>
      obtain ⟨c', g'⟩ := q; simp only [Ents] at he
      cases i with
      | zero => simpa using he.2.2
      | succ i => simp only [List.eraseIdx_cons_succ, Ents]; exact ⟨he.1, he.2.1, ih he.2.2 i⟩

theorem Ents.setVal (he : Ents R h es gs) (i : Nat) {v : AV} {g : List Int} (hg : GrpR R h v g) : Ents R h (setVal es i v) (gs.modify i fun e => (e.1, g)) := by
  induction es generalizing gs i with
  | nil => cases gs <;> simp_all [Ents, Go.Ab.setVal]
  | cons e es ih =>
    obtain ⟨k, v⟩ := e
    cases gs with
    | nil => simp [Ents] at he
    | cons q gs =>
      obtain ⟨c', g'⟩ := q; simp only [Ents] at he
      cases i with
      | zero => simp only [Go.Ab.setVal, List.modify_zero_cons, Ents]; exact ⟨he.1, hg, he.2.2⟩
      | succ i => simp only [Go.Ab.setVal, List.modify_succ_cons, Ents]; exact ⟨he.1, he.2.1, by have := ih he.2.2 i; simpa [Go.Ab.setVal] using this⟩

/-- Where a number stands among the keys. -/
def idx (c : Int) : List (Int × List Int) → Nat → Option (Nat × List Int)
  | [], _ => none
  | (k, g) :: gs, i => if c = k then some (i, g) else idx c gs (i + 1)

theorem Ents.find (he : Ents R h es gs) (c : Int) (i : Nat) : ∃ r, findA (.i64 c) es i = some r ∧
    ((idx c gs i = none ∧ r = none) ∨ ∃ k v g, idx c gs i = some (k, g) ∧ r = some (k, v) ∧ GrpR R h v g) := by
  induction es generalizing gs i with
  | nil => cases gs <;> simp_all [Ents, findA, idx]
  | cons e es ih =>
    obtain ⟨k, v⟩ := e
    cases gs with
    | nil => simp [Ents] at he
    | cons q gs =>
      obtain ⟨c', g'⟩ := q; simp only [Ents] at he
      obtain ⟨rfl, hg, he⟩ := he
      simp only [findA, keyEq, if_true, idx]
      by_cases hc : c = c'
      · subst hc
        simp only [beq_self_eq_true, if_true]
        exact ⟨_, rfl, .inr ⟨i, v, g', rfl, rfl, hg⟩⟩
      · have : (c == c') = false := by simpa using hc
        simp only [this, if_neg hc]
        exact ih he (i + 1)

theorem idx_none {i : Nat} : idx c gs i = none ↔ c ∉ gs.map (·.1) := by
  induction gs generalizing i with
  | nil => simp [idx]
  | cons q gs ih =>
    obtain ⟨k, g⟩ := q
    simp only [idx, List.map_cons, List.mem_cons]
    split
    · simp_all
    · rw [ih]; simp_all

theorem idx_get {i k : Nat} {g : List Int} (hi : idx c gs i = some (k, g)) : i ≤ k ∧ gs[k - i]? = some (c, g) := by
  induction gs generalizing i with
  | nil => simp [idx] at hi
  | cons q gs ih =>
    obtain ⟨k', g'⟩ := q
    simp only [idx] at hi
    split at hi
    · simp at hi; obtain ⟨rfl, rfl⟩ := hi; simp_all
    · obtain ⟨h1, h2⟩ := ih hi
      refine ⟨by omega, ?_⟩
      rw [show k - i = (k - (i + 1)) + 1 by omega]; simpa using h2

theorem idx_of_get {i k : Nat} {g : List Int} (hn : (gs.map (·.1)).Nodup) (hk : gs[k]? = some (c, g)) : idx c gs i = some (i + k, g) := by
  induction gs generalizing i k with
  | nil => simp at hk
  | cons q gs ih =>
    obtain ⟨k', g'⟩ := q
    simp only [List.map_cons, List.nodup_cons] at hn
    cases k with
    | zero => simp at hk; obtain ⟨rfl, rfl⟩ := hk; simp [idx]
    | succ k =>
      simp at hk
      have hc : c ≠ k' := by
        rintro rfl
        exact hn.1 (List.mem_map.2 ⟨(c, g), List.mem_of_getElem? hk, rfl⟩)
      simp only [idx, if_neg hc]
      rw [ih hn.2 hk]; congr 2; omega

/-- A space: its record, its map, its groups. -/
structure SpaceR (R : Nat → Prop) (h : Heap) (sp : AV) (i m : Nat) (gs : List (Int × List Int)) : Prop where
  sp : sp = .ptr i 0
  row : rowOf h i = some [.mp m]
  map : ∃ es, mapOf h m = some es ∧ Ents R h es gs
  nd : (gs.map (·.1)).Nodup

abbrev Space (h : Heap) (sp : AV) (i m : Nat) (gs : List (Int × List Int)) : Prop := SpaceR (fun _ => True) h sp i m gs

theorem SpaceR.kpR {sp : AV} {i mm : Nat} (s : SpaceR R h sp i mm gs) (k : Kp h.length m h h') (hm : ∀ x, m = some x → ¬ R x ∧ x ≠ mm ∧ x ≠ i) : SpaceR R h' sp i mm gs := by
  obtain ⟨h1, h2, ⟨es, h3, h4⟩, h5⟩ := s
  exact ⟨h1, k.row h2 (rowOf_lt h2) (fun e => (hm i e.symm).2.2 rfl), ⟨es, k.map h3 (mapOf_lt h3) (fun e => (hm mm e.symm).2.1 rfl), h4.kpR k (fun j ys hR _ e => (hm j e.symm).1 hR)⟩, h5⟩
theorem SpaceR.mono {sp : AV} {i mm : Nat} (s : SpaceR R h sp i mm gs) (hR : ∀ x, R x → R' x) : SpaceR R' h sp i mm gs := by
  obtain ⟨h1, h2, ⟨es, h3, h4⟩, h5⟩ := s
  exact ⟨h1, h2, ⟨es, h3, h4.mono hR⟩, h5⟩
theorem SpaceR.lt {sp : AV} {i mm : Nat} (s : SpaceR R h sp i mm gs) : SpaceR (fun x => x < h.length) h sp i mm gs := by
  obtain ⟨h1, h2, ⟨es, h3, h4⟩, h5⟩ := s
  exact ⟨h1, h2, ⟨es, h3, h4.lt.mono fun _ h => h.2⟩, h5⟩
theorem SpaceR.kp {sp : AV} {i mm : Nat} (s : SpaceR R h sp i mm gs) (k : Kp h.length m h h') (hm : ∀ j ys, rowOf h j = some ys → some j ≠ m) (hmm : some mm ≠ m) : SpaceR R h' sp i mm gs := by
  obtain ⟨h1, h2, ⟨es, h3, h4⟩, h5⟩ := s
  exact ⟨h1, k.row h2 (rowOf_lt h2) (hm _ _ h2), ⟨es, k.map h3 (mapOf_lt h3) hmm, h4.kp k hm⟩, h5⟩
theorem SpaceR.kp0 {sp : AV} {i mm : Nat} (s : SpaceR R h sp i mm gs) (k : Kp h.length none h h') : SpaceR R h' sp i mm gs := s.kp k (fun _ _ _ => by simp) (by simp)

theorem Elems.row {xs : List AV} (he : Elems h v xs) {x : Nat} (hx : objOf v = some x) : ∃ ys, rowOf h x = some ys := by
  unfold Elems sliceCells at he
  split at he
  · cases hx
  · cases hx
  · rename_i j off len s
    cases hx
    split at he
    · rename_i ys hr; exact ⟨ys, hr⟩
    · cases he
  · cases hx
  · cases he
theorem Elems.lt {xs : List AV} (he : Elems h v xs) {x : Nat} (hx : objOf v = some x) : x < h.length := by
  unfold Elems sliceCells at he
  split at he
  · cases hx
  · cases hx
  · rename_i j off len s
    cases hx
    split at he
    · rename_i ys hr; exact rowOf_lt hr
    · cases he
  · cases hx
  · cases he

/-! ### Frames -/

/-- What does not lie in M is as it was. -/
def Fr (M : Nat → Prop) (h h' : Heap) : Prop := h.length ≤ h'.length ∧ ∀ x, x < h.length → ¬ M x → h'[x]? = h[x]?
variable {M : Nat → Prop}
theorem Fr.refl : Fr M h h := ⟨Nat.le_refl _, fun _ _ _ => rfl⟩
theorem Fr.trans (a : Fr M h h') (b : Fr M h' h'') : Fr M h h'' := ⟨Nat.le_trans a.1 b.1, fun x h1 h2 => (b.2 x (Nat.lt_of_lt_of_le h1 a.1) h2).trans (a.2 x h1 h2)⟩
theorem Kp.fr (k : Kp h.length m h h') (hm : ∀ x, m = some x → M x) : Fr M h h' := ⟨k.1, fun x h1 h2 => k.2 x h1 (fun e => h2 (hm x e.symm))⟩
theorem Kp.fr' (k : Kp n m h h') (hm : ∀ x, m = some x → M x) (hn : ∀ x, n ≤ x → x < h.length → M x) : Fr M h h' := ⟨k.1, fun x h1 h2 => k.2 x (Classical.byContradiction fun hx => h2 (hn x (by omega) h1)) (fun e => h2 (hm x e.symm))⟩
theorem Fr.kp (k : Fr M h h') (hn : n ≤ h.length) (hm : ∀ x, x < n → M x → some x = m) : Kp n m h h' := ⟨k.1, fun x h1 h2 => k.2 x (by omega) (fun e => h2 (hm x h1 e))⟩
theorem Fr.row (k : Fr M h h') (hr : rowOf h i = some xs) (hi : ¬ M i) : rowOf h' i = some xs := by
  unfold rowOf at *; rw [k.2 i (rowOf_lt hr) hi]; exact hr
theorem Fr.elems {xs : List AV} (k : Fr M h h') (he : Elems h v xs) (hm : ∀ x, objOf v = some x → ¬ M x) : Elems h' v xs := by
  unfold Elems sliceCells at *
  split at he
  · exact he
  · exact he
  · rename_i j off len s
    split at he
    · rename_i ys hr
      have : rowOf h' j = some ys := k.row hr (hm j rfl)
      simp only [this]; exact he
    · cases he
  · exact he
  · cases he

end Go.Ab
