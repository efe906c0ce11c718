/- The runner is sound: the induction over its fuel. -/
import Derived.Test.YtfhkjlokfijpiaaAe
import Derived.TacticsIn
set_option linter.unusedSimpArgs false
set_option linter.unusedVariables false
namespace Go.Ab
open Go

variable {DR : DrawRel} {P : Program} {T : Tab} {c : RC} {h : Heap} {env : Env} {a : Act} {o : Oper} {N : Nat}

def RoOk (ro : Option Nat) (c : RC) : Prop := ∀ l, ro = some l → ∃ lp, c.w.heap[l]? = some (.loop lp)

theorem RoOk.ext {ro : Option Nat} {c c' : RC} (hr : RoOk ro c) (hE : Ext c c') : RoOk ro c' := fun l hl => let ⟨lp, h1⟩ := hr l hl; hE.loops l lp h1

def SFun (DR : DrawRel) (P : Program) (T : Tab) (n : Nat) : Prop :=
  ∀ (g : FuncId) (first cap args : List AV) (h : Heap) (v : AV) (h' : Heap), call T n (.fn (.func g) first cap) args h = some (v, h') →
    (∃ fn code, P.funcs[g]? = some fn ∧ fn.body = some code ∧ fn.name ≠ "runtime.NumGoroutine") ∧
    ∀ (c : RC) (fvs vs cvs : List Value), HR (CodeR DR P) c h → LR c first fvs → LR c args vs → LR c cap cvs → ∀ m,
      CallsIn Fence.wide m P g (fvs ++ vs ++ cvs).toArray c.w (CallPost (CodeR DR P) c v h')

def SYl (DR : DrawRel) (P : Program) (T : Tab) (n : Nat) : Prop :=
  ∀ (l : Nat) (args : List AV) (h : Heap) (v : AV) (h' : Heap), call T n (.yl l) args h = some (v, h') →
    ∀ (c : RC) (vs : List Value), HR (CodeR DR P) c h → LR c args vs → ∀ m ro, ∃ fn tmps assign body,
      (Instr.yield (c.ρ l) vs.toArray).run P c.w = .ok (.round (c.ρ l) fn tmps assign body) c.w ∧
      RoundIn (Fw ro) m P (c.ρ l) fn tmps assign body c.w (CallPost (CodeR DR P) c v h')

def SOp (DR : DrawRel) (P : Program) (T : Tab) (n : Nat) : Prop :=
  ∀ (env : Env) (h : Heap) (ao : AOp) (v : AV) (h' : Heap), opC T n env h ao = some (v, h') → ∀ (o : Oper), trOp P o = some ao →
    ∀ (c : RC) (a : Act), HR (CodeR DR P) c h → EnvR c env a.tmps → ∀ ro m, OpS DR P ro m o a c v h'

def SOps (DR : DrawRel) (P : Program) (T : Tab) (n : Nat) : Prop :=
  ∀ (l : List AI) (env : Env) (h : Heap) (env' : Env) (h' : Heap), ops T n l env h = some (env', h') → ∀ (N : Nat) (A : Array Oper) (lo : List Oper), trAIs P N A lo = some l →
    ∀ (c : RC) (a : Act) (B : Nat) (ro : Option Nat) (m : Nat) (Q : Exit → Act → World → Prop), HR (CodeR DR P) c h → StR N c B env a →
      (∀ (c' : RC) (a' : Act), Ext c c' → HR (CodeR DR P) c' h' → StR N c' B env' a' → Q .normal a' c'.w) → wpListIn (Fw ro) m P A Q lo a c.w

def SDraw (DR : DrawRel) (P : Program) (T : Tab) (n : Nat) : Prop :=
  ∀ (l : List DI) (env : Env) (h : Heap) (env' : Env) (h' : Heap), draw T n l 0 l { env, heap := h, made := [] } = some (env', h') → ∀ (N : Nat) (A : Array Oper) (id : Nat), DR P N A l →
    ∀ (c : RC) (a : Act) (B : Nat) (ro : Option Nat) (m : Nat) (Q : Exit → Act → World → Prop), HR (CodeR DR P) c h → StR N c B env a →
      (∀ (c' : RC) (a' : Act), Ext c c' → HR (CodeR DR P) c' h' → StR N c' B env' a' → Q .normal a' c'.w) → (Code.region id A true).wpIn (Fw ro) m P Q a c.w

def SRun (DR : DrawRel) (P : Program) (T : Tab) (n : Nat) : Prop :=
  ∀ (ac : AC) (env : Env) (h : Heap) (x : Ex) (env' : Env) (h' : Heap), run T n ac env h = some (x, env', h') → ∀ (N : Nat) (code : Code), CodeR DR P code ac N →
    ∀ (c : RC) (a : Act) (B : Nat) (ro : Option Nat) (m : Nat), HR (CodeR DR P) c h → StR N c B env a → B ≤ c.w.heap.size → RoOk ro c →
      code.wpIn (Fw ro) m P (RunPost DR P N c B x env' h') a c.w

/-! ### Functions -/

theorem enter_get : ∀ (args : List AV) (k t : Nat), Env.get (args.zipIdx k |>.map fun (v, i) => (i, v)) t = if k ≤ t then (args[t - k]?).getD .any else .any
  | [], k, t => by simp [Env.get]
  | v :: args, k, t => by
    simp only [List.zipIdx_cons, List.map_cons, Env.get]
    by_cases e : k = t
    · subst e; simp
    · rw [if_neg e, enter_get args (k + 1) t]
      by_cases hk : k ≤ t
      · rw [if_pos (by omega), if_pos hk, show t - k = (t - (k + 1)) + 1 by omega]
        simp
      · rw [if_neg (by omega), if_neg hk]

theorem enter_R {args : List AV} {vs : List Value} {N : Nat} (hL : LR c args vs) (hN : args.length ≤ N) (B : Nat) :
    StR N c B (enter args) { tmps := vs.toArray ++ Array.replicate (N - vs.length) undef, defers := [] } := by
  have hl := hL.len
  refine ⟨?_, by simp; omega, by simp, by simp⟩
  intro t
  unfold enter
  rw [enter_get]
  simp only [Nat.zero_le, if_true, Nat.sub_zero]
  cases hx : args[t]? with
  | none => simp [VR]
  | some x =>
    obtain ⟨v, h1, h2⟩ := hL.get hx
    have hlt := lt_of_someL h1
    simp only [Option.getD_some]
    have : (vs.toArray ++ Array.replicate (N - vs.length) undef).getD t undef = v := by
      rw [Array.getD_eq_getD_getElem?, Array.getElem?_append_left (by simpa using hlt)]
      simp [h1]
    rw [this]
    exact h2

theorem sFun_step (hT : TabOk DR P T) (n : Nat) (hrun : SRun DR P T n) : SFun DR P T (n + 1) := by
  intro g first cap args h v h' hc
  simp only [call] at hc
  split at hc
  · rename_i p hp
    have hpr := hT.prim g p hp
    refine ⟨hpr.1, fun c fvs vs cvs H h1 h2 h3 m => ?_⟩
    exact hpr.2 c _ _ h h' v H (LR.append (LR.append h1 h2) h3) hc m
  · rename_i af hf
    obtain ⟨fn, code, g1, g2, g3, g4, g5, g6, g7⟩ := (hT.code g af hf).ok
    refine ⟨⟨fn, code, g1, g2, g3⟩, fun c fvs vs cvs H h1 h2 h3 m => ?_⟩
    split at hc
    · rename_i hlen
      have hL := LR.append (LR.append h1 h2) h3
      have hvl := hL.len
      -- the body has been left
      have body : ∀ x env1 h1', run T n af.body (enter (first ++ args ++ cap)) h = some (x, env1, h1') → (x = .normal ∨ x = .jump .ret) → ∀ rs, resA env1 h1' af.res = some rs →
          CallsIn Fence.wide m P g (fvs ++ vs ++ cvs).toArray c.w (CallPost (CodeR DR P) c (result rs) h1') := by
        intro x env1 h1' hr hx rs hrs
        refine callsIn_of_wp_marks g1 g2 trivial ?_
        have hw := hrun _ _ _ _ _ _ hr _ _ g6 c _ c.w.heap.size none m H (enter_R (N := af.N) hL (by omega) c.w.heap.size) (Nat.le_refl _) (fun l hl => by cases hl)
        rw [g4, List.size_toArray]
        refine Go.wpIn_mono hw ?_
        rintro e a' w' ⟨rfl, c', rfl, hE, H', hS⟩
        have lv := leaves (P := P) (m := m) (c0 := c) g7 hrs a'.defers c' H' hS.env hE (fun d hd => let ⟨r, q1, q2, q3, q4⟩ := hS.defs d hd; ⟨r, q1, q2, q4⟩)
          (fun d hd r hr' => by
            obtain ⟨r', q1, q2, q3, q4⟩ := hS.defs d hd
            rw [q1] at hr'
            cases hr'
            exact q3) hS.dist
        rcases hx with rfl | rfl
        · exact lv
        · exact lv
      split at hc
      · rename_i env1 h1' hr
        obtain ⟨rs, h4, h5⟩ := Option.map_eq_some_iff.1 hc
        cases h5
        exact body _ _ _ hr (.inl rfl) rs h4
      · rename_i env1 h1' hr
        obtain ⟨rs, h4, h5⟩ := Option.map_eq_some_iff.1 hc
        cases h5
        exact body _ _ _ hr (.inr rfl) rs h4
      · cases hc
    · cases hc
  · cases hc

/-! ### Rounds -/

theorem HR.loopAt (H : HR (CodeR DR P) c h) {l : Nat} {st : LS} {pend : Option Jump} {env : Env} {ps : List Nat} {x y : AC} (hl : h[l]? = some (.loop st pend env ps x y)) :
    ∃ lp : Loop, c.w.heap[c.ρ l]? = some (.loop lp) ∧ lp.state = st.st ∧ lp.pending = pend.map Jump.code ∧ EnvR c env lp.tmps ∧ lp.params = ps.toArray ∧ (∀ t ∈ ps, t < lp.tmps.size) ∧ CodeR DR P lp.assign x lp.tmps.size ∧ CodeR DR P lp.body y lp.tmps.size :=
  (H.live l _ hl (by simp)).2.2.2

theorem getLoop_run {l : Nat} {lp : Loop} {w : World} (h1 : w.heap[l]? = some (.loop lp)) : (Instr.getLoop l).run P w = .ok lp w := by
  simp [Instr.getLoop, getObj, Sem.run, h1, Result.andThen]

theorem setLoop_run {l : Nat} {lp lp' : Loop} {w : World} (h1 : w.heap[l]? = some (.loop lp)) : (setObj l (.loop lp')).run P w = .ok () { w with heap := w.heap.setIfInBounds l (.loop lp') } := by
  simp [setObj, Sem.run, h1]

/-- A loop's record turns its state. -/
theorem HR.setLoop (H : HR (CodeR DR P) c h) {l : Nat} {st st' : LS} {pend pend' : Option Jump} {env : Env} {ps : List Nat} {x y : AC} {lp : Loop} (hl : h[l]? = some (.loop st pend env ps x y)) (hb : c.w.heap[c.ρ l]? = some (.loop lp)) :
    Ext c { c with w := { c.w with heap := c.w.heap.setIfInBounds (c.ρ l) (.loop { lp with state := st'.st, pending := pend'.map Jump.code }) } } ∧
    HR (CodeR DR P) { c with w := { c.w with heap := c.w.heap.setIfInBounds (c.ρ l) (.loop { lp with state := st'.st, pending := pend'.map Jump.code }) } } (h.set l (.loop st' pend' env ps x y)) := by
  have hlt := lt_of_some hb
  obtain ⟨lp', h1, h2, h3, h4, h5, h6, h7, h8⟩ := H.loopAt hl
  rw [hb] at h1
  cases h1
  refine H.upd (o' := .loop st' pend' env ps x y) hl (by simp) (w' := { c.w with heap := c.w.heap.setIfInBounds (c.ρ l) (.loop { lp with state := st'.st, pending := pend'.map Jump.code }) }) (by simp)
    (fun b hb' => ?_) (fun cs e fr he => ?_) (fun l' _ => ⟨{ lp with state := st'.st, pending := pend'.map Jump.code }, by simp [hlt]⟩) rfl rfl rfl (fun ex => ⟨{ lp with state := st'.st, pending := pend'.map Jump.code }, by simp [hlt], rfl, rfl, h4.ext ex, h5, h6, h7, h8⟩) (by simp)
  · simp only
    rw [Array.getElem?_setIfInBounds_ne (fun h => hb' h.symm)]
  · rw [hb] at he; cases he

theorem put_params (B : Nat) : ∀ (ps : List Nat) (args : List AV) (vs : List Value) (env : Env) (tmps : Array Value), ps.length = args.length → LR c args vs → StR N c B env { tmps, defers := [] } → (∀ t ∈ ps, t < N) →
    StR N c B ((ps.zip args).reverse ++ env) { tmps := (ps.zip vs).foldl (fun tmps (p : Nat × Value) => tmps.setIfInBounds p.1 p.2) tmps, defers := [] }
  | [], args, vs, env, tmps, hl, hL, hs, _ => by
    have : args = [] := by simpa using hl.symm
    subst this
    simpa using hs
  | t :: ps, [], vs, env, tmps, hl, _, _, _ => by simp at hl
  | t :: ps, x :: args, vs, env, tmps, hl, hL, hs, hp => by
    simp only [LR] at hL
    obtain ⟨v, r, rfl, h1, h2⟩ := hL
    have hs' := hs.put (dst := some t) (v := x) (u := v) (fun d hd => by cases hd; exact hp t (by simp)) h1
    have ih := put_params B ps args r _ _ (by simpa using hl) h2 hs' (fun t' ht' => hp t' (by simp [ht']))
    simpa [Env.put, Act.put] using ih

theorem sYl_step (n : Nat) (hrun : SRun DR P T n) : SYl DR P T (n + 1) := by
  intro l args h v h' hc c vs H hL m ro
  simp only [call] at hc
  split at hc
  · rename_i pd env ps assign body hl
    split at hc
    · rename_i hlen
      obtain ⟨lp, b1, b2, b3, b4, b5, b6, b7, b8⟩ := H.loopAt hl
      have hvl := hL.len
      have hyield : (Instr.yield (c.ρ l) vs.toArray).run P c.w = .ok (.round (c.ρ l) lp.fn ((lp.params.zip vs.toArray).foldl (fun tmps (p : Nat × Value) => tmps.setIfInBounds p.1 p.2) lp.tmps) lp.assign lp.body) c.w := by
        have hsz : ¬ (vs.toArray.size ≠ lp.params.size) := by rw [b5]; simp; omega
        unfold Instr.yield
        simp only [Sem.run_bind, getLoop_run b1, Result.andThen]
        rw [if_neg hsz]
        rfl
      refine ⟨lp.fn, _, lp.assign, lp.body, hyield, ?_⟩
      split at hc
      · rename_i env1 h1 hr1
        split at hc
        · rename_i pend1 e1 p1 a1 b1' hl1
          split at hc
          · rename_i x env2 h2 hr2
            split at hc
            · rename_i st2 pend2 e2 p2 a2 b2' hl2
              refine roundIn_of_wpIn trivial ?_
              have hS0 : StR lp.tmps.size c c.w.heap.size ((ps.zip args).reverse ++ env) { tmps := (lp.params.zip vs.toArray).foldl (fun tmps (p : Nat × Value) => tmps.setIfInBounds p.1 p.2) lp.tmps, defers := [] } := by
                have := put_params (N := lp.tmps.size) c.w.heap.size ps args vs env lp.tmps (by omega) hL ⟨b4, rfl, by simp, by simp⟩ b6
                rw [b5]
                have e : (ps.toArray.zip vs.toArray).foldl (fun tmps (p : Nat × Value) => tmps.setIfInBounds p.1 p.2) lp.tmps = (ps.zip vs).foldl (fun tmps (p : Nat × Value) => tmps.setIfInBounds p.1 p.2) lp.tmps := by
                  rw [← Array.foldl_toList]
                  simp
                rw [e]
                exact this
              have hw1 := hrun _ _ _ _ _ _ hr1 _ _ b7 c _ c.w.heap.size (some (c.ρ l)) m H hS0 (Nat.le_refl _) (fun l' hl' => by cases hl'; exact ⟨lp, b1⟩)
              refine Go.wpIn_mono hw1 ?_
              rintro e a' w' ⟨rfl, c1, rfl, hE1, H1, hS1⟩
              have hρ1 : c1.ρ l = c.ρ l := (hE1.D l (H.live l _ hl (by simp)).1).2
              obtain ⟨lp1, d1, d2, d3, d4, d5, d6, d7, d8⟩ := H1.loopAt hl1
              obtain ⟨g1, g2⟩ := H1.setLoop (st' := .busy) (pend' := pend1) hl1 d1
              rw [← hρ1]
              -- begin
              have hbeg : (Instr.beginRound (c1.ρ l)).run P c1.w = .ok () { c1.w with heap := c1.w.heap.setIfInBounds (c1.ρ l) (.loop { lp1 with state := LS.busy.st, pending := pend1.map Jump.code }) } := by
                have hst : lp1.state = .ready := d2
                have e : (Obj.loop { lp1 with state := LoopState.busy }) = .loop { lp1 with state := LS.busy.st, pending := pend1.map Jump.code } := by rw [← d3]; rfl
                unfold Instr.beginRound
                simp only [Sem.run_bind, getLoop_run d1, Result.andThen]
                rw [e, setLoop_run d1]
                simp only [hst]
                rfl
              refine ⟨_, hbeg, ?_⟩
              let c1' : RC := { c1 with w := { c1.w with heap := c1.w.heap.setIfInBounds (c1.ρ l) (.loop { lp1 with state := LS.busy.st, pending := pend1.map Jump.code }) } }
              -- the body: the code of the record at the round's beginning
              have hw2 := hrun _ _ _ _ _ _ hr2 _ _ b8 c1' a' c.w.heap.size (some (c1.ρ l)) m g2 (hS1.ext g1) (by have h1 := hE1.size; have h2 := g1.size; simp only [c1'] at *; omega)
                (fun l' hl' => by cases hl'; exact ⟨_, by simp only [c1']; rw [Array.getElem?_setIfInBounds_self]; simp [lt_of_some d1]; rfl⟩)
              refine Go.wpIn_mono hw2 ?_
              rintro e a'' w'' ⟨rfl, c2, rfl, hE2, H2, hS2⟩
              have hD1 : c1'.D l := (H1.live l _ hl1 (by simp)).1
              have hρ2 : c2.ρ l = c1.ρ l := (hE2.D l hD1).2
              obtain ⟨lp2, f1, f2, f3, f4, f5, f6, f7, f8⟩ := H2.loopAt hl2
              have fin : ∀ (st' : LS) (pd' : Option Jump), st'.st = (if pd'.isNone then LoopState.ready else LoopState.done) →
                  ∃ w3, (Instr.endRound (c1.ρ l) (pd'.map Jump.code)).run P c2.w = .ok (.bool pd'.isNone) w3 ∧ CallPost (CodeR DR P) c (.bool pd'.isNone) (h2.set l (.loop st' pd' e2 p2 a2 b2')) (.returned (.bool pd'.isNone)) w3 := by
                intro st' pd' hst
                obtain ⟨k1, k2⟩ := H2.setLoop (st' := st') (pend' := pd') hl2 f1
                refine ⟨_, ?_, _, .bool pd'.isNone, rfl, rfl, ((hE1.trans g1).trans hE2).trans k1, k2, VR.bool⟩
                rw [← hρ2]
                unfold Instr.endRound
                simp only [Sem.run_bind, getLoop_run f1, Result.andThen]
                have e : (Obj.loop { lp2 with state := if (pd'.map Jump.code).isNone then LoopState.ready else LoopState.done, pending := pd'.map Jump.code }) = .loop { lp2 with state := st'.st, pending := pd'.map Jump.code } := by
                  rw [hst]; simp
                rw [e, setLoop_run f1]
                simp
              split at hc
              · cases hc
                obtain ⟨w3, k1, k2⟩ := fin .ready none rfl
                exact ⟨_, w3, k1, k2⟩
              · rename_i j
                cases hc
                obtain ⟨w3, k1, k2⟩ := fin .done (some j) rfl
                cases j with
                | exit id => exact ⟨_, w3, k1, k2⟩
                | ret => exact ⟨_, w3, k1, k2⟩
            · cases hc
          · cases hc
        · cases hc
      · cases hc
    · cases hc
  · cases hc

end Go.Ab

/- The runner is sound: operations, lists of operations, code. -/
namespace Go.Ab
open Go

variable {DR : DrawRel} {P : Program} {T : Tab} {c : RC} {h : Heap} {env : Env} {a : Act} {o : Oper} {N : Nat}

theorem callFunc_run {g : FuncId} {args : Array Value} {fn : Func} {code : Code} (h1 : P.funcs[g]? = some fn) (h2 : fn.body = some code) (h3 : fn.name ≠ "runtime.NumGoroutine") (w : World) :
    (callFunc g args).run P w = .ok (.enter g args) w := by
  have h3' : (fn.name == "runtime.NumGoroutine") = false := by simpa using h3
  simp only [callFunc, Sem.run_bind, run_program, Result.andThen, h1, h3', h2]
  rfl

/-- A call made by an operation. -/
theorem OpS.of_call {ro : Option Nat} {m : Nat} {ao : AOp} {v : AV} {h' : Heap} {g : FuncId} {args : Array Value} (ht : trOp P o = some ao)
    (hr : (execOp a.eval o).run P c.w = .ok (.enter g args) c.w) (hcall : ∀ m, CallsIn Fence.wide m P g args c.w (CallPost (CodeR DR P) c v h')) : OpS DR P ro m o a c v h' := by
  intro next Q hn
  refine ⟨fun _ _ => trivial, ?_⟩
  rw [semAt_of ht, hr]
  refine ⟨fun hd => by simp [Fw, Fence.wide] at hd, ?_⟩
  refine CallsIn.mono' (callsIn_Fw (hcall (m - 1))) ?_
  rintro e w' ⟨c', u, rfl, rfl, h1, h2, h3⟩
  exact hn c' u h1 h2 h3

theorem methOf_run {t : TypeId} {name : String} {f : FuncId} (h1 : methOf P t name = some f) (v : Value) (w : World) : (method (P.types.size + Made.depth) t v name).run P w = .ok (f, v) w := by
  have hk : ∃ k, P.types.size + Made.depth = k + 1 := by
    have h0 : 0 < Made.depth := by decide
    exact ⟨P.types.size + Made.depth - 1, by omega⟩
  obtain ⟨k, hk⟩ := hk
  rw [hk]
  unfold methOf at h1
  split at h1
  · rename_i i hi
    split at h1
    · rename_i mt hm
      split at h1
      · rename_i f' e hf hp hu
        cases h1
        simp [method, info_run hi, hm, hp, follow, hf, receiverAt, underlying_run hu, Place.get, Result.andThen]
      · cases h1
      · rename_i d hnp hf hp hu
        cases h1
        cases d <;> first | (exact (hnp _ rfl).elim) | simp [method, info_run hi, hm, hp, follow, hf, receiverAt, underlying_run hu, Place.get, Result.andThen]
      · cases h1
    · cases h1
  · cases h1

theorem inv_args (xv : Value) (xs : Array Operand) (f : Operand → Value) : (([] : List Value) ++ (xv :: xs.toList.map f) ++ []).toArray = #[xv] ++ xs.map f := by
  apply Array.ext'
  simp

theorem inv_get (xv : Value) (xs : Array Value) : (#[xv] ++ xs)[0]? = some xv := by
  rw [Array.getElem?_append_left (by simp)]
  rfl

theorem inv_rest (xv : Value) (xs : Array Value) : (#[xv] ++ xs).extract 1 (#[xv] ++ xs).size = xs := by
  apply Array.ext'
  simp

theorem map_ne {x : Operand} {g : Opd → AOp} {r : AOp} (hg : ∀ y, g y ≠ r) (h1 : (trOpd x).map g = some r) : False := by
  obtain ⟨y, -, h2⟩ := Option.map_eq_some_iff.1 h1
  exact hg y h2

theorem trOp_calls {ao : AOp} (ht : trOp P o = some ao) (hc : (∃ f args, ao = .call f args) ∨ ∃ r nm args, ao = .inv r nm args) :
    ∃ cl, o.op = .call cl ∧ ((∃ fo f args, cl.callee = .value fo ∧ trOpd fo = some f ∧ trOpds cl.args.toList = some args ∧ ao = .call f args) ∨
      (∃ ro nm r args, cl.callee = .invoke ro nm ∧ trOpd ro = some r ∧ trOpds cl.args.toList = some args ∧ ao = .inv r nm args)) := by
  cases ho : o.op with
  | call cl =>
    refine ⟨cl, rfl, ?_⟩
    simp only [trOp, ho] at ht
    split at ht
    · rename_i fo hcl
      split at ht
      · rename_i f args h1 h2
        cases ht
        exact .inl ⟨fo, f, args, hcl, h1, h2, rfl⟩
      · cases ht
    · rename_i ro nm hcl
      split at ht
      · rename_i r args h1 h2
        cases ht
        exact .inr ⟨ro, nm, r, args, hcl, h1, h2, rfl⟩
      · cases ht
    · exfalso
      rcases hc with ⟨f, args, rfl⟩ | ⟨r, nm, args, rfl⟩ <;> (repeat' split at ht) <;> first | (cases ht; done) | (obtain ⟨_, -, h2⟩ := Option.map_eq_some_iff.1 ht; cases h2)
  | _ =>
    exfalso
    simp only [trOp, ho] at ht
    rcases hc with ⟨f, args, rfl⟩ | ⟨r, nm, args, rfl⟩ <;> (repeat' split at ht) <;> first | (cases ht; done) | (obtain ⟨_, -, h2⟩ := Option.map_eq_some_iff.1 ht; cases h2)

theorem sOp_step (hT : TabOk DR P T) (n : Nat) (hfun : SFun DR P T n) (hyl : SYl DR P T n) : SOp DR P T (n + 1) := by
  intro env h ao v h' hc o ht c a H he ro m
  -- a function value is called
  have callv : ∀ (fv : Value) (f : AV) (args : List AV) (vs : List Value), call T n f args h = some (v, h') → VR c f fv → LR c args vs →
      (execOp a.eval o = (do let d ← Deferred.ofValue fv vs.toArray; invoke d.target d.args)) → OpS DR P ro m o a c v h' := by
    intro fv f args vs hcall hf hL he1
    cases n with
    | zero => simp [call] at hcall
    | succ k =>
      cases f with
      | fn f first cap =>
        cases f with
        | func g =>
          simp only [VR] at hf
          obtain ⟨fa, ca, rfl, h1, h2⟩ := hf
          obtain ⟨⟨fn, code, g1, g2, g3⟩, h3⟩ := hfun g first cap args h v h' hcall
          refine OpS.of_call ht (g := g) (args := (fa.toList ++ vs ++ ca.toList).toArray) ?_ (fun m => h3 c _ _ _ H h1 hL h2 m)
          rw [he1]
          simp only [Deferred.ofValue, Sem.run_bind, Sem.run_pure, Result.andThen, invoke]
          have e : fa ++ vs.toArray ++ ca = (fa.toList ++ vs ++ ca.toList).toArray := by apply Array.ext'; simp
          rw [e]
          exact callFunc_run g1 g2 g3 c.w
        | _ => simp [call] at hcall
      | yl l =>
        simp only [VR] at hf
        obtain ⟨hD, rfl⟩ := hf
        obtain ⟨fn, tmps, assign, body, h1, h2⟩ := hyl l args h v h' hcall c vs H hL (m - 1) ro
        intro next Q hn
        refine ⟨fun _ _ => trivial, ?_⟩
        rw [semAt_of ht, he1]
        have hr : (do let d ← Deferred.ofValue (.func (.yield (c.ρ l)) #[] #[]) vs.toArray; invoke d.target d.args : Sem Next).run P c.w = .ok (.round (c.ρ l) fn tmps assign body) c.w := by
          simp only [Deferred.ofValue, Sem.run_bind, Sem.run_pure, Result.andThen, invoke]
          rw [show #[] ++ vs.toArray = vs.toArray by simp]
          exact h1
        rw [hr]
        refine ⟨fun hd => by simp [Fw, Fence.wide] at hd, h2.mono ?_⟩
        rintro e w' ⟨c', u, rfl, rfl, g1, g2, g3⟩
        exact hn c' u g1 g2 g3
      | _ => simp [call] at hcall
  cases ao with
  | call f args =>
    simp only [opC] at hc
    obtain ⟨cl, h1, hh⟩ := trOp_calls ht (.inl ⟨f, args, rfl⟩)
    rcases hh with ⟨fo, f', args', h2, h3, h4, e⟩ | ⟨_, _, _, _, _, _, _, e⟩
    · cases e
      refine callv (a.eval fo) (env.ev f) (args.map env.ev) (cl.args.toList.map a.eval) hc (trOpd_R h3 he) (trOpds_R h4 he) ?_
      simp only [execOp, h1, resolve, h2]
      rw [show cl.args.map a.eval = (cl.args.toList.map a.eval).toArray by apply Array.ext'; simp]
    · cases e
  | inv recv name args =>
    simp only [opC] at hc
    obtain ⟨cl, h1, hh⟩ := trOp_calls ht (.inr ⟨recv, name, args, rfl⟩)
    rcases hh with ⟨_, _, _, _, _, _, e⟩ | ⟨ro', nm, r, args', h2, h3, h4, e⟩
    · cases e
    · cases e
      have hrv := trOpd_R (c := c) h3 he
      split at hc
      · rename_i t x e1
        split at hc
        · rename_i f hf
          rw [e1] at hrv
          simp only [VR] at hrv
          obtain ⟨xv, e2, hx⟩ := hrv
          cases n with
          | zero => simp [call] at hc
          | succ k =>
            obtain ⟨⟨fn, code, g1, g2, g3⟩, h5⟩ := hfun f [] [] _ h v h' hc
            have hL : LR c (x :: args.map env.ev) (xv :: cl.args.toList.map a.eval) := by
              simp only [LR]; exact ⟨xv, _, rfl, hx, trOpds_R h4 he⟩
            have h6 : ∀ m, CallsIn Fence.wide m P f (#[xv] ++ cl.args.map a.eval) c.w (CallPost (CodeR DR P) c v h') := fun m => by
              rw [← inv_args]
              exact h5 c [] _ [] H (by simp [LR]) hL (by simp [LR]) m
            refine OpS.of_call ht (g := f) (args := #[xv] ++ cl.args.map a.eval) ?_ h6
            have hmeth := methOf_run (hT.meth t name f hf) xv c.w
            simp only [execOp, h1, resolve, h2, Sem.run_bind, Sem.run_pure, Result.andThen, invoke, e2]
            rw [inv_get, inv_rest]
            simp only [callMethod, Sem.run_bind, run_program, Result.andThen, hmeth]
            exact callFunc_run g1 g2 g3 c.w
        · cases hc
      · cases hc
  | _ =>
    simp only [opC] at hc
    exact .of_good ht (aop_sound H he ht hc)

theorem sOps_step (n : Nat) (hop : SOp DR P T n) (hops : SOps DR P T n) : SOps DR P T (n + 1) := by
  intro l env h env' h' hr N A lo htr c a B ro m Q H hS hQ
  cases l with
  | nil =>
    cases lo with
    | nil =>
      simp only [ops, Option.some.injEq, Prod.mk.injEq] at hr
      obtain ⟨rfl, rfl⟩ := hr
      exact wpListIn_nil (hQ c a (.refl c) H hS)
    | cons o lo => simp only [trAIs] at htr; split at htr <;> cases htr
  | cons i l =>
    cases lo with
    | nil => simp [trAIs] at htr
    | cons o lo =>
      simp only [trAIs] at htr
      split at htr
      · rename_i i' r' h1 h2
        cases htr
        obtain ⟨t1, t2, t3, t4⟩ := trAI_some h1
        simp only [ops] at hr
        unfold wpListIn
        split at hr
        · rename_i hw
          rw [wanted_R t2 hS.env hw, if_pos rfl]
          split at hr
          · rename_i v h1' hop1
            refine hop _ _ _ _ _ hop1 o t1 c a H hS.env ro m _ Q ?_
            intro c' u hE H' hv
            refine hops _ _ _ _ _ hr N A lo h2 c' _ B ro m Q H' ?_ (fun c'' a'' hE' => hQ c'' a'' (hE.trans hE'))
            rw [t3]
            exact (hS.ext hE).put t4 hv
          · cases hr
        · rename_i hw
          rw [wanted_R t2 hS.env hw, if_neg (by simp)]
          refine ⟨fun _ _ => trivial, ?_⟩
          refine hops _ _ _ _ _ hr N A lo h2 c _ B ro m Q H ?_ hQ
          rw [t3]
          exact hS.put t4 VR.unit
        · cases hr
      · cases htr

/-! ### Loops over functions -/

theorem HR.unowned (H : HR (CodeR DR P) c h) (ob : Obj) : Ext c { c with w := c.w.alloc ob } ∧ HR (CodeR DR P) { c with w := c.w.alloc ob } h := by
  have e : Ext c { c with w := c.w.alloc ob } := ⟨fun _ h => ⟨h, rfl⟩, by simp, fun b hb _ => heap_alloc_lt hb, fun _ h => .inl h, fun _ => .rfl, rfl, fun _ h => .inl h,
    fun b cs el fr hb => ⟨cs, el, fr, by simp only; rw [heap_alloc_lt (lt_of_some hb)]; exact hb, rfl⟩, fun b l hb => ⟨l, by simp only; rw [heap_alloc_lt (lt_of_some hb)]; exact hb⟩, rfl, rfl, rfl⟩
  refine ⟨e, ?_, H.inj, H.own, H.dom, H.lo⟩
  intro i x hx hxd
  obtain ⟨g1, g2, g3, g4⟩ := H.live i x hx hxd
  exact ⟨g1, g2, by simp; omega, g4.ext e (heap_alloc_lt g3)⟩

end Go.Ab

/- The runner is sound: code; the whole induction. -/
namespace Go.Ab
open Go

variable {DR : DrawRel} {P : Program} {T : Tab} {c : RC} {h : Heap} {env : Env} {a : Act} {o : Oper} {N : Nat}

theorem map_const (v : Value) : (#[Operand.const v] : Array Operand).map a.eval = #[v] := by
  apply Array.ext'
  simp
  rfl

theorem RunPost.of_ext {B : Nat} {c c' : RC} {x : Ex} {env' : Env} {h' : Heap} (hE : Ext c c') : ∀ e a w, RunPost DR P N c' B x env' h' e a w → RunPost DR P N c B x env' h' e a w := by
  rintro e a w ⟨he, c'', hw, h1, h2, h3⟩
  exact ⟨he, c'', hw, hE.trans h1, h2, h3⟩

/-- A loop, by a number that stands in no slot. -/
theorem wpIn_loopG {F : Fence} {n : Nat} {P : Program} {Q : Exit → Act → World → Prop} {c : Code} (I : Nat → Act → World → Prop)
    (round : ∀ j a w, I j a w → c.wpIn F n P (Exit.then (fun a' w' => ∃ j', j' < j ∧ I j' a' w') Q) a w) {j : Nat} {a : Act} {w : World} (h0 : I j a w) : (Code.loop c).wpIn F n P Q a w := by
  intro b k cs hro hb hr
  have key : ∀ j a w, I j a w →
      ∃ e a' w', Q e a' w' ∧ ArrivesIn (Machine.fenced P F) P (lone (b.atR a (.code c :: .inLoop c :: k)) cs w) b k cs e a' w' := by
    intro j
    induction j using Nat.strongRecOn with
    | _ j ih =>
      intro a w hI
      obtain ⟨e, a₁, w₁, hq, harr⟩ := round j a w hI b (.inLoop c :: k) cs hro hb hr
      cases e with
      | normal =>
        obtain ⟨j', hlt, hI₁⟩ := hq
        obtain ⟨e₂, a₂, w₂, hq₂, harr₂⟩ := ih j' hlt a₁ w₁ hI₁
        exact ⟨e₂, a₂, w₂, hq₂, .of_steps (StepsIn.trans harr (.one (fenced_calm hb hr rfl) stepR_inLoop)) harr₂⟩
      | exit id => exact ⟨_, a₁, w₁, hq, .pass (x := .inLoop c) rfl (fun _ _ => .inl (by simp)) harr⟩
      | goto l => exact ⟨_, a₁, w₁, hq, .pass (x := .inLoop c) rfl (fun _ _ => .inl (by simp)) harr⟩
      | ret => exact ⟨_, a₁, w₁, hq, .pass (x := .inLoop c) rfl (fun _ _ => .inl (by simp)) harr⟩
      | panic ch => exact ⟨_, a₁, w₁, hq, .pass (x := .inLoop c) rfl (fun _ _ => .inl (by simp)) harr⟩
      | outgrown => exact ⟨_, a₁, w₁, hq, .pass (x := .inLoop c) rfl (fun _ _ => .inl (by simp)) harr⟩
  obtain ⟨e, a', w', hq, harr⟩ := key j a w h0
  exact ⟨e, a', w', hq, .of_steps (.one (fenced_calm hb hr rfl) stepR_loop) harr⟩

theorem sRun_step (n : Nat) (hops : SOps DR P T n) (hdraw : SDraw DR P T n) (hrun : ∀ k, k ≤ n → SRun DR P T k) (hfun : SFun DR P T n) : SRun DR P T (n + 1) := by
  intro ac env h x env' h' hr N code hcr c a B ro m H hS hB hro
  cases hcr with
  | skip =>
    simp only [run, Option.some.injEq, Prod.mk.injEq] at hr
    obtain ⟨rfl, rfl, rfl⟩ := hr
    exact wpIn_skip ⟨rfl, c, rfl, .refl c, H, hS⟩
  | ops id _ A l hl =>
    simp only [run] at hr
    obtain ⟨⟨e1, h1⟩, h2, h3⟩ := Option.map_eq_some_iff.1 hr
    cases h3
    exact wpIn_region_list (hops _ _ _ _ _ h2 N A _ hl c a B ro m _ H hS (fun c' a' hE H' hS' => ⟨rfl, c', rfl, hE, H', hS'⟩))
  | draw id _ A l hl =>
    simp only [run] at hr
    obtain ⟨⟨e1, h1⟩, h2, h3⟩ := Option.map_eq_some_iff.1 hr
    cases h3
    exact hdraw _ _ _ _ _ h2 N A id hl c a B ro m _ H hS (fun c' a' hE H' hS' => ⟨rfl, c', rfl, hE, H', hS'⟩)
  | seq _ p q p' q' hp hq =>
    simp only [run] at hr
    split at hr
    · rename_i e1 h1 hr1
      refine wpIn_seq (Go.wpIn_mono (hrun n (Nat.le_refl _) _ _ _ _ _ _ hr1 N _ hp c a B ro m H hS hB hro) ?_)
      rintro e a' w' ⟨rfl, c', rfl, hE, H', hS'⟩
      exact Go.wpIn_mono (hrun n (Nat.le_refl _) _ _ _ _ _ _ hr N _ hq c' a' B ro m H' hS' (Nat.le_trans hB hE.size) (hro.ext hE)) (RunPost.of_ext hE)
    · rename_i r hne
      refine wpIn_seq (Go.wpIn_mono (hrun n (Nat.le_refl _) _ _ _ _ _ _ hr N _ hp c a B ro m H hS hB hro) ?_)
      rintro e a' w' ⟨rfl, hh⟩
      cases x with
      | normal => exact absurd hr (hne _ _)
      | jump j => cases j <;> exact ⟨rfl, hh⟩
  | cond _ co co' p q p' q' hco hp hq =>
    simp only [run] at hr
    split at hr
    · rename_i t ht
      have hv := trOpd_R (c := c) hco hS.env
      rw [ht] at hv
      refine wpIn_cond (t := t) (lit_bool hv) ?_
      cases t with
      | true => exact hrun n (Nat.le_refl _) _ _ _ _ _ _ hr N _ hp c a B ro m H hS hB hro
      | false => exact hrun n (Nat.le_refl _) _ _ _ _ _ _ hr N _ hq c a B ro m H hS hB hro
    · cases hr
  | block _ id b b' hb =>
    simp only [run] at hr
    refine wpIn_block ?_
    split at hr
    · rename_i id' e1 h1 hr1
      refine Go.wpIn_mono (hrun n (Nat.le_refl _) _ _ _ _ _ _ hr1 N _ hb c a B ro m H hS hB hro) ?_
      rintro e a' w' ⟨rfl, hh⟩
      split at hr
      · rename_i hid
        cases hr
        simp only [exOf, Exit.inBlock, hid, if_true]
        exact ⟨rfl, hh⟩
      · rename_i hid
        cases hr
        simp only [exOf, Exit.inBlock, hid, if_false]
        exact ⟨rfl, hh⟩
    · rename_i r hne
      refine Go.wpIn_mono (hrun n (Nat.le_refl _) _ _ _ _ _ _ hr N _ hb c a B ro m H hS hB hro) ?_
      rintro e a' w' ⟨rfl, hh⟩
      cases x with
      | normal => exact ⟨rfl, hh⟩
      | jump j =>
        cases j with
        | exit id' => exact absurd hr (hne _ _ _)
        | ret => exact ⟨rfl, hh⟩
  | loop _ live b b' hb =>
    -- a round, and the rounds behind it: fuel goes down
    refine wpIn_loopG (I := fun j a1 w1 => j ≤ n + 1 ∧ ∃ c1 env1 h1, c1.w = w1 ∧ Ext c c1 ∧ HR (CodeR DR P) c1 h1 ∧ StR N c1 B env1 a1 ∧ run T j (.loop live b') env1 h1 = some (x, env', h')) ?_
      (j := n + 1) ⟨Nat.le_refl _, c, env, h, rfl, .refl c, H, hS, hr⟩
    rintro j a1 w1 ⟨hj, c1, env1, h1, rfl, hE1, H1, hS1, hr1⟩
    cases j with
    | zero => simp [run] at hr1
    | succ j =>
      simp only [run] at hr1
      split at hr1
      · rename_i e2 h2 hr2
        refine Go.wpIn_mono (hrun j (by omega) _ _ _ _ _ _ hr2 N _ hb c1 a1 B ro m H1 (hS1.mask live) (Nat.le_trans hB hE1.size) (hro.ext hE1)) ?_
        rintro e a' w' ⟨rfl, c', rfl, hE, H', hS'⟩
        exact ⟨j, by omega, by omega, c', e2, h2, rfl, hE1.trans hE, H', hS', hr1⟩
      · rename_i r hne
        refine Go.wpIn_mono (hrun j (by omega) _ _ _ _ _ _ hr1 N _ hb c1 a1 B ro m H1 (hS1.mask live) (Nat.le_trans hB hE1.size) (hro.ext hE1)) ?_
        rintro e a' w' ⟨rfl, hh⟩
        cases x with
        | normal => exact absurd hr1 (hne _ _)
        | jump jp => cases jp <;> exact RunPost.of_ext hE1 _ _ _ ⟨rfl, hh⟩
  | rangeF _ f f' ps p q p' q' hf hps hp hq =>
    simp only [run] at hr
    split at hr
    · rename_i g first cap e0
      split at hr
      case h_2 => cases hr
      rename_i v1 h1 hc1
      split at hr
      · rename_i st pend e1 p1 a1 b1 hl1
        split at hr
        · cases hr
        · rename_i hnb
          refine wpIn_rangeFunc fun fn _ => ?_
          have hfv := trOpd_R (c := c) hf hS.env
          -- the record is laid
          have enter : ∃ (mark : List Deferred) (w1 : World) (c1 : RC) (df : Nat), (Instr.enterLoop fn a.tmps ps p q ro).run P c.w = .ok (c1.ρ h.length, mark) w1 ∧ c1.w = w1 ∧ Ext c c1 ∧
              HR (CodeR DR P) c1 (h ++ [.loop .ready none env ps.toList p' q']) ∧ StR N c1 B env { a with defers := mark ++ a.defers } ∧ c1.D h.length := by
            have mk : ∀ (c0 : RC) (H0 : HR (CodeR DR P) c0 h) (hS0 : StR N c0 B env a) (df : Nat),
                HR (CodeR DR P) (c0.push h.length (.loop { state := .ready, pending := none, fn, tmps := a.tmps, params := ps, assign := p, body := q, defers := df })) (h ++ [.loop .ready none env ps.toList p' q']) := by
              intro c0 H0 hS0 df
              refine H0.push _ _ ⟨_, heap_alloc_new, rfl, rfl, hS0.env.ext (RC.push_ext H0 _), by simp, ?_, ?_, ?_⟩ (by simp)
              · intro t ht; rw [hS0.size]; exact hps t ht
              · rw [hS0.size]; exact hp
              · rw [hS0.size]; exact hq
            cases ro with
            | some l =>
              obtain ⟨lp, hlp⟩ := hro l rfl
              refine ⟨[], _, c.push h.length (.loop { state := .ready, pending := none, fn, tmps := a.tmps, params := ps, assign := p, body := q, defers := lp.defers }), lp.defers, ?_, rfl, RC.push_ext H _, mk c H hS _, ?_, .inr rfl⟩
              · simp [Instr.enterLoop, getLoop_run hlp, Result.andThen, RC.push]
              · exact hS.ext (RC.push_ext H _)
            | none =>
              obtain ⟨g1, g2⟩ := H.unowned (.deferred (some []))
              have hS1 := hS.ext g1
              refine ⟨[{ target := .collected c.w.heap.size, args := #[] }], _, ({ c with w := c.w.alloc (.deferred (some [])) } : RC).push h.length (.loop { state := .ready, pending := none, fn, tmps := a.tmps, params := ps, assign := p, body := q, defers := c.w.heap.size }), c.w.heap.size, ?_, rfl, g1.trans (RC.push_ext g2 _), mk _ g2 hS1 _, ?_, .inr rfl⟩
              · simp [Instr.enterLoop, Result.andThen, RC.push]
                rfl
              · have hS2 := hS1.ext (RC.push_ext g2 (.loop { state := .ready, pending := none, fn, tmps := a.tmps, params := ps, assign := p, body := q, defers := c.w.heap.size }))
                refine ⟨hS2.env, hS2.size, ?_, ?_⟩
                · intro d hd
                  rcases List.mem_append.1 hd with hd | hd
                  · simp only [List.mem_singleton] at hd
                    subst hd
                    refine ⟨c.w.heap.size, rfl, hB, ?_, ?_⟩
                    · show ((c.w.alloc _).alloc _).heap[c.w.heap.size]? = _
                      rw [heap_alloc_lt (by simp), heap_alloc_new]
                    · rintro (ho | ho)
                      · obtain ⟨i, x, hx, hxd, hr'⟩ := H.own _ ho
                        have := (H.live i x hx hxd).2.2.1
                        omega
                      · simp at ho
                  · exact hS2.defs d hd
                · simp only [List.cons_append, List.nil_append, List.map_cons, List.pairwise_cons]
                  refine ⟨?_, hS2.dist⟩
                  intro t ht
                  obtain ⟨d, hd, rfl⟩ := List.mem_map.1 ht
                  obtain ⟨r, q1, -, q3, -⟩ := hS.defs d hd
                  have := lt_of_some q3
                  rw [q1]
                  intro e
                  cases e
                  omega
          obtain ⟨mark, w1, c1, df, hen, rfl, hE1, H1, hS1, hD1⟩ := enter
          -- the one call
          cases n with
          | zero => simp [call] at hc1
          | succ k =>
            rw [e0] at hfv
            simp only [VR] at hfv
            obtain ⟨fa, ca, e2, g1, g2⟩ := hfv
            obtain ⟨⟨fn', code', k1, k2, k3⟩, k4⟩ := hfun g first cap _ _ _ _ hc1
            have hyl : LR c1 [.yl h.length] [Value.func (.yield (c1.ρ h.length)) #[] #[]] := by
              simp only [LR, VR]
              exact ⟨_, _, rfl, ⟨hD1, rfl⟩, rfl⟩
            have hcall := k4 c1 fa.toList [Value.func (.yield (c1.ρ h.length)) #[] #[]] ca.toList H1 (LR.ext hE1 _ _ g1) hyl (LR.ext hE1 _ _ g2) (m - 1)
            refine ⟨c1.ρ h.length, mark, c1.w, { target := .fn (.func g) ca, args := fa ++ #[Value.func (.yield (c1.ρ h.length)) #[] #[]] }, c1.w, g, (fa.toList ++ [Value.func (.yield (c1.ρ h.length)) #[] #[]] ++ ca.toList).toArray, c1.w, hen, ?_, fun _ _ => trivial, ?_, fun hd => by simp [Fw, Fence.wide] at hd, ?_⟩
            · simp only [resolve, rangeCall, e2, Deferred.ofValue, map_const]
              rfl
            · simp only [invoke]
              rw [callFunc_run k1 k2 k3]
              congr 2
              apply Array.ext'
              simp
            · refine CallsIn.mono' (callsIn_Fw hcall) ?_
              rintro e w' ⟨c2, u, rfl, rfl, hE2, H2, hv2⟩
              have hρ2 : c2.ρ h.length = c1.ρ h.length := (hE2.D _ hD1).2
              obtain ⟨lp2, f1, f2, f3, f4⟩ := H2.loopAt hl1
              have fin : ∀ pd', pend = pd' → ∃ w4, (Instr.endLoop (c1.ρ h.length)).run P c2.w = .ok (pd'.map Jump.code) w4 ∧ ∃ c3 : RC, c3.w = w4 ∧ Ext c2 c3 ∧ HR (CodeR DR P) c3 (h1.set h.length (.loop .over pend e1 p1 a1 b1)) := by
                rintro _ rfl
                obtain ⟨q1, q2⟩ := H2.setLoop (st' := .over) (pend' := pend) hl1 f1
                refine ⟨_, ?_, _, rfl, q1, q2⟩
                rw [← hρ2]
                have hst : (lp2.state == LoopState.busy) = false := by
                  rw [f2]
                  cases st <;> first | (exact absurd rfl hnb) | rfl
                have e : (Obj.loop { lp2 with state := LoopState.exhausted }) = .loop { lp2 with state := LS.over.st, pending := pend.map Jump.code } := by rw [← f3]; rfl
                unfold Instr.endLoop
                simp only [Sem.run_bind, getLoop_run f1, Result.andThen, hst, Bool.false_eq_true, if_false, Sem.run_pure]
                rw [e, setLoop_run f1]
                simp [f3]
              obtain ⟨w4, f5, c3, rfl, hE3, H3⟩ := fin pend rfl
              have hEall := (hE1.trans hE2).trans hE3
              have hS3 := (hS1.ext hE2).ext hE3
              refine ⟨_, _, f5, ?_⟩
              split at hr
              · cases hr
                exact ⟨rfl, c3, rfl, hEall, H3, hS3⟩
              · rename_i j
                cases hr
                cases j with
                | exit id => exact wpIn_exit ⟨rfl, c3, rfl, hEall, H3, hS3⟩
                | ret => exact wpIn_ret ⟨rfl, c3, rfl, hEall, H3, hS3⟩
      · cases hr
    · cases hr
  | exit _ id =>
    simp only [run, Option.some.injEq, Prod.mk.injEq] at hr
    obtain ⟨rfl, rfl, rfl⟩ := hr
    exact wpIn_exit ⟨rfl, c, rfl, .refl c, H, hS⟩
  | ret =>
    simp only [run, Option.some.injEq, Prod.mk.injEq] at hr
    obtain ⟨rfl, rfl, rfl⟩ := hr
    exact wpIn_ret ⟨rfl, c, rfl, .refl c, H, hS⟩
  | stuck _ _ => simp [run] at hr

theorem all_sound (hT : TabOk DR P T) (hdraw : ∀ n, (∀ k, k < n → SOp DR P T k) → SDraw DR P T n) :
    ∀ n, (∀ k, k ≤ n → SFun DR P T k) ∧ (∀ k, k ≤ n → SYl DR P T k) ∧ (∀ k, k ≤ n → SOp DR P T k) ∧ (∀ k, k ≤ n → SOps DR P T k) ∧ (∀ k, k ≤ n → SRun DR P T k)
  | 0 => by
    refine ⟨?_, ?_, ?_, ?_, ?_⟩ <;> intro k hk <;> (obtain rfl : k = 0 := by omega)
    · intro g first cap args h v h' hc; simp [call] at hc
    · intro l args h v h' hc; simp [call] at hc
    · intro env h ao v h' hc; simp [opC] at hc
    · intro l env h env' h' hc; simp [ops] at hc
    · intro ac env h x env' h' hc; simp [run] at hc
  | n + 1 => by
    obtain ⟨h1, h2, h3, h4, h5⟩ := all_sound hT hdraw n
    have d := hdraw n (fun k hk => h3 k (by omega))
    have up : ∀ {S : Nat → Prop}, (∀ k, k ≤ n → S k) → S (n + 1) → ∀ k, k ≤ n + 1 → S k := fun hS hn k hk => by
      rcases Nat.lt_or_ge k (n + 1) with h' | h'
      · exact hS k (by omega)
      · obtain rfl : k = n + 1 := by omega
        exact hn
    exact ⟨up h1 (sFun_step hT n (h5 n (Nat.le_refl _))), up h2 (sYl_step n (h5 n (Nat.le_refl _))), up h3 (sOp_step hT n (h1 n (Nat.le_refl _)) (h2 n (Nat.le_refl _))),
      up h4 (sOps_step n (h3 n (Nat.le_refl _)) (h4 n (Nat.le_refl _))), up h5 (sRun_step n (h4 n (Nat.le_refl _)) d h5 (h1 n (Nat.le_refl _)))⟩

end Go.Ab
