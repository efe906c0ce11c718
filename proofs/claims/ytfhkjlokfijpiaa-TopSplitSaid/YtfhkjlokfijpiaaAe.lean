/- Every operation that is no call. -/
import Derived.Test.YtfhkjlokfijpiaaAd
set_option linter.unusedSimpArgs false
set_option linter.unusedVariables false
namespace Go.Ab
open Go

variable {K : KP} {P : Program} {c : RC} {h : Heap} {env : Env} {a : Act} {o : Oper}

theorem aop_sound (H : HR K c h) (he : EnvR c env a.tmps) {ao : AOp} {v : AV} {h' : Heap} (ht : trOp P o = some ao) (hr : aop env.ev h ao = some (v, h')) :
    Good K c v h' ((execOp a.eval o).run P c.w) := by
  unfold trOp at ht
  split at ht
  case h_1 x ho =>
    obtain ⟨x', hx, rfl⟩ := Option.map_eq_some_iff.1 ht
    simp only [aop, Option.some.injEq, Prod.mk.injEq] at hr
    obtain ⟨rfl, rfl⟩ := hr
    exact s_mv H he (.inl ho) hx
  case h_2 x ho =>
    obtain ⟨x', hx, rfl⟩ := Option.map_eq_some_iff.1 ht
    simp only [aop, Option.some.injEq, Prod.mk.injEq] at hr
    obtain ⟨rfl, rfl⟩ := hr
    exact s_mv H he (.inr ho) hx
  case h_3 x y z ho =>
    split at ht
    · rename_i x' y' z' hx hy hz
      cases ht
      simp only [aop] at hr
      split at hr
      · rename_i t hb
        cases hr
        exact s_pick H he ho hx hy hz hb
      · cases hr
    · cases ht
  case h_4 t ho =>
    obtain ⟨z, hz, rfl⟩ := Option.map_eq_some_iff.1 ht
    simp only [aop, Option.some.injEq, Prod.mk.injEq] at hr
    obtain ⟨rfl, rfl⟩ := hr
    exact (m_new ho hz).good H
  case h_5 t x ho =>
    obtain ⟨x', hx, rfl⟩ := Option.map_eq_some_iff.1 ht
    simp only [aop] at hr
    split at hr
    · rename_i hc
      cases hr
      exact (m_box he ho hx hc).good H
    · cases hr
  case h_6 t parts ho =>
    split at ht
    · rename_i fs z h1 h2
      split at ht
      · rename_i pl h3
        obtain ⟨ps, h4, rfl⟩ := Option.map_eq_some_iff.1 ht
        simp only [aop] at hr
        obtain ⟨cs, h5, h6⟩ := Option.map_eq_some_iff.1 hr
        cases h6
        exact s_build H he ho h2 (.inl ⟨fs, pl, h1, h3, h4⟩) h5
      · cases ht
    · rename_i k e z h1 h2
      split at ht
      · rename_i n h3
        obtain ⟨ps, h4, rfl⟩ := Option.map_eq_some_iff.1 ht
        simp only [aop] at hr
        obtain ⟨cs, h5, h6⟩ := Option.map_eq_some_iff.1 hr
        cases h6
        exact s_build H he ho h2 (.inr ⟨k, e, n, h1, h3, h4⟩) h5
      · cases ht
    · cases ht
  case h_7 t len parts ho =>
    split at ht
    · rename_i e h1
      split at ht
      · rename_i n z h2 h3
        split at ht
        · rename_i hc
          obtain ⟨ps, h4, rfl⟩ := Option.map_eq_some_iff.1 ht
          simp only [aop] at hr
          obtain ⟨cs, h5, h6⟩ := Option.map_eq_some_iff.1 hr
          cases h6
          exact (m_rowlit he ho h1 h2 h3 hc.1 hc.2 h4 h5).good H
        · cases ht
      · cases ht
    · cases ht
  case h_8 t x ho =>
    split at ht
    · rename_i n x' h1 h2
      cases ht
      simp only [aop] at hr
      obtain ⟨v', h3, h4⟩ := Option.map_eq_some_iff.1 hr
      cases h4
      exact s_ld H he ho h1 h2 h3
    · cases ht
  case h_9 t x y ho =>
    split at ht
    · rename_i n x' y' h1 h2 h3
      cases ht
      simp only [aop] at hr
      obtain ⟨v', h4, h5⟩ := Option.map_eq_some_iff.1 hr
      cases h5
      exact s_st H he ho h2 h3 h1 h4
    · cases ht
  case h_10 x ho =>
    obtain ⟨x', hx, rfl⟩ := Option.map_eq_some_iff.1 ht
    have hh : h' = h ∧ (match env.ev x' with | .ptr i o => some (AV.ptr i o) | .rop xs k => some (.rop xs k) | .fn (.func f) a b => some (.fn (.func f) a b) | .yl i => some (.yl i) | _ => none) = some v := by
      simp only [aop] at hr
      split at hr <;> cases hr <;> rename_i e <;> simp [e]
    rw [hh.1]
    exact s_nilc H he ho hx hh.2
  case h_11 op t x y t' ho =>
    split at ht
    · rename_i k x' y' h1 h2 h3
      cases ht
      simp only [aop] at hr
      obtain ⟨v', h4, h5⟩ := Option.map_eq_some_iff.1 hr
      cases h5
      exact s_bin H he ho h2 h3 h4
    · rename_i x' y' h1 h2 h3
      cases ht
      simp only [aop] at hr
      obtain ⟨v', h4, h5⟩ := Option.map_eq_some_iff.1 hr
      cases h5
      exact s_bin H he ho h2 h3 h4
    · rename_i x' y' h1 h2 h3
      have hao : ao = .eqb op x' y' := by split at ht <;> cases ht <;> rfl
      subst hao
      simp only [aop] at hr
      obtain ⟨v', h4, h5⟩ := Option.map_eq_some_iff.1 hr
      cases h5
      exact s_eqb H he ho h2 h3 h1 h4
    · rename_i d x' y' _ _ _ h1 h2 h3
      split at ht
      · cases ht
      · have hao : ao = .eqn op (eqKind d) x' y' ∧ (eqKind d = 4 → isNilC x = true ∨ isNilC y = true) := by
          split at ht
          · split at ht
            · cases ht
            · rename_i hc
              cases ht
              refine ⟨rfl, fun h4 => ?_⟩
              cases h5 : isNilC x <;> cases h6 : isNilC y <;> simp_all
          · split at ht
            · cases ht
            · rename_i hc
              cases ht
              refine ⟨rfl, fun h4 => ?_⟩
              cases h5 : isNilC x <;> cases h6 : isNilC y <;> simp_all
          · cases ht
        obtain ⟨rfl, hn⟩ := hao
        simp only [aop] at hr
        obtain ⟨v', h4, h5⟩ := Option.map_eq_some_iff.1 hr
        cases h5
        exact s_eqn H he ho h2 h3 h1 hn h4
    · cases ht
  case h_12 op t x ho =>
    obtain ⟨x', hx, rfl⟩ := Option.map_eq_some_iff.1 ht
    simp only [aop] at hr
    obtain ⟨v', h4, h5⟩ := Option.map_eq_some_iff.1 hr
    cases h5
    exact s_un H he ho hx h4
  case h_13 s d x ho =>
    split at ht
    · rename_i q k x' h1 h2 h3
      cases ht
      simp only [aop] at hr
      obtain ⟨v', h4, h5⟩ := Option.map_eq_some_iff.1 hr
      cases h5
      exact s_conv H he ho h3 h1 h2 h4
    · rename_i x' h1 h2 h3
      cases ht
      simp only [aop] at hr
      split at hr
      · rename_i s' h4
        cases hr
        have := s_convS H he ho h3 h1 h2 h4
        rwa [h4] at this
      · cases hr
    · cases ht
  case h_14 t x ho =>
    split at ht
    · cases ht
    · rename_i d hni h1
      obtain ⟨x', hx, rfl⟩ := Option.map_eq_some_iff.1 ht
      simp only [aop, Option.some.injEq, Prod.mk.injEq] at hr
      obtain ⟨rfl, rfl⟩ := hr
      exact s_ifc H he ho hx h1 (fun m e => hni m e)
    · cases ht
  case h_15 f x y ho =>
    split at ht
    · split at ht
      · rename_i x' y' h1 h2
        cases ht
        simp only [aop, Option.some.injEq, Prod.mk.injEq] at hr
        obtain ⟨rfl, rfl⟩ := hr
        exact s_func H he ho h1 h2
      · cases ht
    · cases ht
  case h_16 t r ho =>
    split at ht
    · cases ht
      simp only [aop, Option.some.injEq, Prod.mk.injEq] at hr
      obtain ⟨rfl, rfl⟩ := hr
      exact (m_mkmap ho).good H
    · cases ht
  case h_17 t l cp ho =>
    split at ht
    · rename_i e h1
      split at ht
      · rename_i n b z l' c' h2 h3 h4 h5 h6
        split at ht
        · rename_i h0
          cases ht
          simp only [aop] at hr
          split at hr
          · rename_i ln cn h7 h8
            split at hr
            · rename_i hc
              cases hr
              exact (m_mkslice he ho h1 h2 h3 h4 h0 h5 h6 h7 h8 hc.1 hc.2.1 hc.2.2.1 hc.2.2.2).good H
            · cases hr
          · cases hr
        · cases ht
      · cases ht
    · cases ht
  case h_18 t x lo hi mx ho =>
    split at ht
    · rename_i e h1
      split at ht
      · rename_i n x' lo' hi' h2 h3 h4 h5 h6
        have hmx : mx = none := by
          cases mx with
          | none => rfl
          | some q => simp only [trOO] at h6; obtain ⟨_, _, h7⟩ := Option.map_eq_some_iff.1 h6; cases h7
        subst hmx
        split at ht
        · cases ht
          simp only [aop] at hr
          obtain ⟨v', h7, h8⟩ := Option.map_eq_some_iff.1 hr
          cases h8
          exact s_slice H he ho h3 h4 h5 h1 h2 h7
        · cases ht
      · rename_i n x' lo' hi' mx' h2 h3 h4 h5 h6
        have un : ∀ {q : Option Operand} {y : Opd}, trOO q = some (some y) → ∃ z, q = some z ∧ trOpd z = some y := by
          intro q y hq
          cases q with
          | none => simp [trOO] at hq
          | some z => simp only [trOO] at hq; obtain ⟨_, g1, g2⟩ := Option.map_eq_some_iff.1 hq; cases g2; exact ⟨z, rfl, g1⟩
        obtain ⟨z1, rfl, k1⟩ := un h4
        obtain ⟨z2, rfl, k2⟩ := un h5
        obtain ⟨z3, rfl, k3⟩ := un h6
        cases ht
        have hh : intOf (env.ev lo') = some 0 ∧ intOf (env.ev hi') = some 0 ∧ intOf (env.ev mx') = some 0 ∧ h' = h ∧
            (match env.ev x' with | .sl _ _ _ _ => some AV.emp | .ro _ _ _ => some .emp | .emp => some .emp | .lit .nils => some (.lit .nils) | _ => none) = some v := by
          simp only [aop] at hr
          split at hr <;> cases hr <;> rename_i e1 e2 e3 e4 <;> exact ⟨e2, e3, e4, rfl, by rw [e1]⟩
        obtain ⟨j1, j2, j3, rfl, j5⟩ := hh
        exact s_slice3 H he ho h3 k1 k2 k3 h1 h2 j1 j2 j3 j5
      · cases ht
    · rename_i h1
      split at ht
      · rename_i x' lo' hi' h2 h3 h4
        cases ht
        simp only [aop] at hr
        split at hr
        · rename_i s e1
          obtain ⟨lq, h5, h6⟩ := Option.map_eq_some_iff.1 hr
          cases h6
          exact s_sliceS H he ho h2 h3 h4 h1 e1 h5
        · cases hr
      · cases ht
    · rename_i k e h1
      split at ht
      · rename_i n x' lo' hi' h2 h3 h4 h5
        split at ht
        · cases ht
          simp only [aop] at hr
          split at hr
          · rename_i l q xs off hb hB
            split at hr
            · rename_i hl
              obtain ⟨v', h6, h7⟩ := Option.map_eq_some_iff.1 hr
              cases h7
              exact s_sliceA H he ho h3 h4 h5 h1 h2 hb hB hl h6
            · cases hr
          · cases hr
        · cases ht
      · cases ht
    · cases ht
  case h_19 t x ho =>
    split at ht
    · rename_i n e h1
      obtain ⟨x', hx, rfl⟩ := Option.map_eq_some_iff.1 ht
      have hh : h' = h ∧ (match env.ev x' with | .sl i off len _ => if n ≤ len then some (AV.ptr i off) else none | .ro xs len _ => if n ≤ len ∧ 0 < len then some (.rop xs 0) else none | _ => none) = some v := by
        simp only [aop] at hr
        split at hr
        · rename_i e; split at hr <;> cases hr; rename_i hc; simp [e, hc]
        · rename_i e; split at hr <;> cases hr; rename_i hc; simp [e, hc]
        · cases hr
      rw [hh.1]
      exact s_arrp H he ho hx h1 hh.2
    · cases ht
  case h_20 t x i ho =>
    split at ht
    · rename_i fs h1
      split at ht
      · rename_i f h2
        split at ht
        · rename_i n h3
          split at ht
          · rename_i h0
            obtain ⟨x', hx, rfl⟩ := Option.map_eq_some_iff.1 ht
            simp only [aop] at hr
            obtain ⟨v', h4, h5⟩ := Option.map_eq_some_iff.1 hr
            cases h5
            exact s_faddr H he ho hx h1 h2 h3 h0 h4
          · cases ht
        · cases ht
      · cases ht
    · cases ht
  case h_21 t x i ho =>
    split at ht
    · rename_i fs h1
      split at ht
      · rename_i f h2
        split at ht
        · rename_i n x' h3 h4
          cases ht
          simp only [aop] at hr
          split at hr
          · rename_i cs e1
            obtain ⟨v', h5, h6⟩ := Option.map_eq_some_iff.1 hr
            cases h6
            exact s_fld H he ho h4 h1 h2 h3 e1 h5
          · cases hr
        · cases ht
      · cases ht
    · cases ht
  case h_22 t x i ho =>
    split at ht
    · rename_i e h1
      split at ht
      · rename_i n x' i' h2 h3 h4
        cases ht
        simp only [aop] at hr
        split at hr
        · rename_i k h5
          obtain ⟨v', h6, h7⟩ := Option.map_eq_some_iff.1 hr
          cases h7
          exact s_iaddr H he ho h3 h4 h1 h2 h5 h6
        · cases hr
      · cases ht
    · rename_i m e h1
      split at ht
      · rename_i n x' i' h2 h3 h4
        cases ht
        simp only [aop] at hr
        split at hr
        · rename_i k h5
          split at hr
          · rename_i hc
            obtain ⟨v', h6, h7⟩ := Option.map_eq_some_iff.1 hr
            cases h7
            exact s_iaddrA H he ho h3 h4 h1 h2 h5 hc.1 hc.2 h6
          · cases hr
        · cases hr
      · cases ht
    · cases ht
  case h_23 t x i ho =>
    split at ht
    · rename_i k e h1
      split at ht
      · rename_i n m x' i' h2 h3 h4 h5
        cases ht
        simp only [aop] at hr
        split at hr
        · rename_i cs k' h6 h7
          split at hr
          · rename_i hc
            obtain ⟨v', h8, h9⟩ := Option.map_eq_some_iff.1 hr
            cases h9
            exact s_idxA H he ho h4 h5 h1 h2 h3 h7 hc.1 hc.2 h6 h8
          · cases hr
        · cases hr
      · cases ht
    · rename_i h1
      split at ht
      · rename_i x' i' h2 h3
        cases ht
        simp only [aop] at hr
        split at hr
        · rename_i s k h4 h5
          split at hr
          · rename_i h0
            obtain ⟨b, h6, h7⟩ := Option.map_eq_some_iff.1 hr
            cases h7
            exact s_idxS H he ho h2 h3 h1 h5 h0 h4 h6
          · cases hr
        · cases hr
      · cases ht
    · cases ht
  case h_24 t x k ok ho =>
    split at ht
    · rename_i kk e h1
      split at ht
      · rename_i z x' k' h2 h3 h4
        cases ht
        simp only [aop] at hr
        split at hr
        · cases hr
        · rename_i hkk
          split at hr
          · rename_i es h5
            split at hr
            · rename_i r h6
              cases hr
              exact s_lookup H he ho h1 h2 h3 h4 (by simpa using hkk) h5 h6 rfl
            · cases hr
          · cases hr
      · cases ht
    · cases ht
  case h_25 t m k x ho =>
    split at ht
    · rename_i kk e h1
      split at ht
      · rename_i m' k' x' h2 h3 h4
        cases ht
        simp only [aop] at hr
        split at hr
        · cases hr
        · rename_i hkk
          split at hr
          · rename_i i h5
            split at hr
            · rename_i es h6
              split at hr
              · rename_i r h7
                cases hr
                have hkk' : keyOk kk (env.ev k') = true := by
                  cases hq : keyOk kk (env.ev k') <;> simp_all
                exact s_mapup H he (.inl ho) h1 h2 h3 h4 hkk' h5 h6 h7
              · cases hr
            · cases hr
          · cases hr
      · cases ht
    · cases ht
  case h_26 t m k x ho =>
    split at ht
    · rename_i kk e h1
      split at ht
      · rename_i m' k' x' h2 h3 h4
        cases ht
        simp only [aop] at hr
        split at hr
        · cases hr
        · rename_i hkk
          split at hr
          · rename_i i h5
            split at hr
            · rename_i es h6
              split at hr
              · rename_i r h7
                cases hr
                have hkk' : keyOk kk (env.ev k') = true := by
                  cases hq : keyOk kk (env.ev k') <;> simp_all
                exact s_mapup H he (.inr ho) h1 h2 h3 h4 hkk' h5 h6 h7
              · cases hr
            · cases hr
          · cases hr
      · cases ht
    · cases ht
  case h_27 x i ho =>
    obtain ⟨x', hx, rfl⟩ := Option.map_eq_some_iff.1 ht
    simp only [aop] at hr
    split at hr
    · rename_i xs e1
      obtain ⟨v', h4, h5⟩ := Option.map_eq_some_iff.1 hr
      cases h5
      exact s_ext H he ho hx e1 h4
    · cases hr
  case h_28 x xt t ok ho =>
    split at ht
    · cases ht
    · rename_i d hni h1
      split at ht
      · rename_i x' z h2 h3
        cases ht
        have hh : h' = h ∧ (match env.ev x' with
            | .ifc u v => if ok then (if u = t then some (AV.tup [v, .bool true]) else some (.tup [z, .bool false])) else (if u = t then some v else none)
            | .lit .nili => if ok then some (.tup [z, .bool false]) else none
            | _ => none) = some v := by
          simp only [aop] at hr
          split at hr
          · rename_i e1
            split at hr
            · rename_i hok
              split at hr <;> cases hr <;> rename_i hu <;> simp [e1, hok, hu]
            · rename_i hok
              split at hr
              · rename_i hu; cases hr; simp [e1, hok, hu]
              · cases hr
          · rename_i e1
            split at hr
            · rename_i hok; cases hr; simp [e1, hok]
            · cases hr
          · cases hr
        rw [hh.1]
        exact s_tass H he ho h2 h1 (fun m e => hni m e) h3 hh.2
      · cases ht
    · cases ht
  case h_29 cl ho =>
    split at ht
    · split at ht
      · cases ht; simp [aop] at hr
      · cases ht
    · split at ht
      · cases ht; simp [aop] at hr
      · cases ht
    · rename_i b hcl
      split at ht
      · rename_i x t hargs hts
        split at ht
        · rename_i h1
          obtain ⟨x', hx, rfl⟩ := Option.map_eq_some_iff.1 ht
          simp only [aop] at hr
          split at hr
          · rename_i n h2
            cases hr
            exact s_len H he ho hcl hargs hts hx (.inl ⟨rfl, h1⟩) h2
          · cases hr
        · rename_i e h1
          obtain ⟨x', hx, rfl⟩ := Option.map_eq_some_iff.1 ht
          simp only [aop] at hr
          split at hr
          · rename_i n h2
            cases hr
            exact s_len H he ho hcl hargs hts hx (.inr (.inl ⟨rfl, e, h1⟩)) h2
          · cases hr
        · rename_i k e h1
          obtain ⟨x', hx, rfl⟩ := Option.map_eq_some_iff.1 ht
          simp only [aop] at hr
          split at hr
          · rename_i n h2
            cases hr
            exact s_len H he ho hcl hargs hts hx (.inr (.inr ⟨rfl, k, e, h1⟩)) h2
          · cases hr
        · rename_i n e h1
          cases ht
          simp only [aop, Option.some.injEq, Prod.mk.injEq] at hr
          obtain ⟨rfl, rfl⟩ := hr
          exact s_lenA H ho hcl hargs hts h1
        · cases ht
      · rename_i s x t xt hargs hts
        split at ht
        · rename_i e h1
          split at ht
          · rename_i n b z s' x' h2 h3 h4 h5 h6
            split at ht
            · rename_i h0
              have hk : (∃ str e', ((P.underlying xt = some (.slice e') ∧ str = false) ∨ (P.underlying xt = some .string ∧ n = 1 ∧ str = true)) ∧ ao = .app str n b s' x') ∨ ao = .appz n b z s' x' := by
                split at ht
                · cases ht; exact .inr rfl
                · rename_i e' hxt; cases ht; exact .inl ⟨false, e', .inl ⟨hxt, rfl⟩, rfl⟩
                · rename_i hxt
                  split at ht
                  · rename_i hn1; cases ht; exact .inl ⟨true, 0, .inr ⟨hxt, hn1, rfl⟩, rfl⟩
                  · cases ht
                · cases ht
              rcases hk with hk | rfl
              case inr => simp [aop] at hr
              obtain ⟨str, e', hk, rfl⟩ := hk
              simp only [aop] at hr
              split at hr
              · rename_i ys m hy
                split at hr
                · rename_i e1
                  split at hr
                  · rename_i hm
                    cases hr
                    have := s_app0 H he ho hcl hargs hts h1 h2 h3 h4 h0 h5 h6 hk hy (.inl e1) (.inl ⟨hm, rfl, trivial⟩)
                    rw [if_pos hm, e1] at this
                    exact this
                  · rename_i hm
                    split at hr
                    · rename_i hc
                      cases hr
                      have := s_app0 H he ho hcl hargs hts h1 h2 h3 h4 h0 h5 h6 hk hy (.inl e1) (.inr ⟨hm, hc.1, hc.2.1, rfl⟩)
                      rw [if_neg hm] at this
                      exact this
                    · cases hr
                · rename_i e1
                  split at hr
                  · rename_i hm
                    cases hr
                    have := s_app0 H he ho hcl hargs hts h1 h2 h3 h4 h0 h5 h6 hk hy (.inr e1) (.inl ⟨hm, rfl, trivial⟩)
                    rw [if_pos hm, e1] at this
                    exact this
                  · rename_i hm
                    split at hr
                    · rename_i hc
                      cases hr
                      have := s_app0 H he ho hcl hargs hts h1 h2 h3 h4 h0 h5 h6 hk hy (.inr e1) (.inr ⟨hm, hc.1, hc.2.1, rfl⟩)
                      rw [if_neg hm] at this
                      exact this
                    · cases hr
                · rename_i j off len q e1
                  split at hr
                  · rename_i xs hrow
                    split at hr
                    · rename_i hc
                      obtain ⟨rfl, rfl, hc1, hc2, hc3, hc4⟩ := hc
                      cases hr
                      exact s_app H he ho hcl hargs hts h1 h2 h3 h4 h0 h5 h6 hk hy e1 hrow hc1 hc2 hc3
                    · cases hr
                  · cases hr
                · cases hr
              · cases hr
            · cases ht
          · cases ht
        · cases ht
      · rename_i d s t t2 hargs hts
        split at ht
        · rename_i e h1
          split at ht
          · rename_i n d' s' h2 h3 h4
            cases ht
            have hh : ∃ ys m, sliceCells h n (env.ev s') = some (ys, m) ∧ (match env.ev d' with
                | .sl i off len q => match rowOf h i with
                  | some xs => if q = n ∧ off + len * n ≤ xs.length then some (AV.i64 (min m len : Nat), h.set i (.row (splice xs off (ys.take (min m len * n))))) else none
                  | none => none
                | .lit .nils | .emp | .ro _ 0 _ => some (.i64 0, h)
                | _ => none) = some (v, h') := by
              simp only [aop] at hr
              split at hr
              · rename_i ys m hy
                exact ⟨ys, m, hy, hr⟩
              · cases hr
            obtain ⟨ys, m, hy, hv⟩ := hh
            exact s_cpy H he ho hcl hargs hts h1 h2 h3 h4 hy hv
          · cases ht
        · cases ht
      · rename_i x t hargs hts
        split at ht
        · rename_i k e h1
          obtain ⟨x', hx, rfl⟩ := Option.map_eq_some_iff.1 ht
          have hh : v = .lit .unit ∧ (match env.ev x' with | .mp i => (mapOf h i).map fun _ => h.set i (.map []) | .lit .nilm => some h | _ => none) = some h' := by
            simp only [aop] at hr
            split at hr
            · rename_i e1
              obtain ⟨es, h2, h3⟩ := Option.map_eq_some_iff.1 hr
              cases h3
              simp [e1, h2]
            · rename_i e1; cases hr; simp [e1]
            · cases hr
          rw [hh.1]
          exact s_clearM H he ho hcl hargs hts hx h1 hh.2
        · rename_i e h1
          split at ht
          · rename_i n z x' h2 h3 h4
            split at ht
            · rename_i h0
              cases ht
              have hh : v = .lit .unit ∧ (match env.ev x' with
                  | .lit .nils | .emp | .ro _ 0 _ => some h
                  | .sl i off len q => match rowOf h i with
                    | some xs => if q = n ∧ off + len * n ≤ xs.length then some (h.set i (.row (splice xs off (repl len z)))) else none
                    | none => none
                  | _ => none) = some h' := by
                simp only [aop] at hr
                split at hr
                · rename_i e1; cases hr; simp [e1]
                · rename_i e1; cases hr; simp [e1]
                · rename_i e1; cases hr; simp [e1]
                · rename_i e1
                  split at hr
                  · rename_i hrow
                    split at hr
                    · rename_i hc; cases hr; simp [e1, hrow, hc]
                    · cases hr
                  · cases hr
                · cases hr
              rw [hh.1]
              exact s_clearS H he ho hcl hargs hts h1 h2 h0 h3 h4 hh.2
            · cases ht
          · cases ht
        · cases ht
      · rename_i m k t ts hargs hts
        split at ht
        · rename_i kk e h1
          split at ht
          · rename_i m' k' h2 h3
            cases ht
            have hh : v = .lit .unit ∧ keyOk kk (env.ev k') = true ∧ (match env.ev m' with
                | .mp i => match mapOf h i with
                  | some es => match findA (env.ev k') es 0 with
                    | some (some (j, _)) => some (h.set i (.map (es.eraseIdx j)))
                    | some none => some h
                    | none => none
                  | none => none
                | .lit .nilm => some h
                | _ => none) = some h' := by
              simp only [aop] at hr
              split at hr
              · cases hr
              · rename_i hkk
                have hkk' : keyOk kk (env.ev k') = true := by simpa using hkk
                split at hr
                · rename_i e1
                  split at hr
                  · rename_i hes
                    split at hr
                    · rename_i hf; cases hr; simp [e1, hes, hf, hkk']
                    · rename_i hf; cases hr; simp [e1, hes, hf, hkk']
                    · cases hr
                  · cases hr
                · rename_i e1; cases hr; simp [e1, hkk']
                · cases hr
            obtain ⟨rfl, hkk, hv⟩ := hh
            exact s_del H he ho hcl hargs hts h1 h2 h3 hkk hv
          · cases ht
        · cases ht
      · obtain ⟨xs, hx, rfl⟩ := Option.map_eq_some_iff.1 ht
        simp only [aop] at hr
        split at hr
        · rename_i y ys e1
          obtain ⟨u, h2, h3⟩ := Option.map_eq_some_iff.1 hr
          cases h3
          exact s_mx H he ho hcl hx e1 h2
        · cases hr
      · obtain ⟨xs, hx, rfl⟩ := Option.map_eq_some_iff.1 ht
        simp only [aop] at hr
        split at hr
        · rename_i y ys e1
          obtain ⟨u, h2, h3⟩ := Option.map_eq_some_iff.1 hr
          cases h3
          exact s_mn H he ho hcl hx e1 h2
        · cases hr
      · cases ht
  all_goals cases ht

end Go.Ab

/- From the model's code to abstract code; what a run of the runner says of the model: without regions that draw their order. -/
namespace Go.Ab
open Go

def guardOf (ops : Array Oper) : Option (Nat × Bool) → Option (Option (Nat × Bool))
  | none => some none
  | some (j, want) => match (ops[j]?).bind (·.dst) with
    | some t => some (some (t, want))
    | none => none

def trAI (P : Program) (N : Nat) (ops : Array Oper) (o : Oper) : Option AI :=
  match trOp P o, guardOf ops o.guard with
  | some op, some g => match o.dst with
    | none => some { dst := none, guard := g, op }
    | some d => if d < N then some { dst := some d, guard := g, op } else none
  | _, _ => none

def trAIs (P : Program) (N : Nat) (ops : Array Oper) : List Oper → Option (List AI)
  | [] => some []
  | o :: l => match trAI P N ops o, trAIs P N ops l with
    | some i, some r => some (i :: r)
    | _, _ => none

/-- How a region that draws stands to its abstract form. -/
abbrev DrawRel := Program → Nat → Array Oper → List DI → Prop

inductive CodeR (DR : DrawRel) (P : Program) : Code → AC → Nat → Prop
  | skip (N : Nat) : CodeR DR P .skip .skip N
  | ops (id N : Nat) (ops : Array Oper) (l : List AI) (h : trAIs P N ops ops.toList = some l) : CodeR DR P (.region id ops false) (.ops l) N
  | draw (id N : Nat) (ops : Array Oper) (l : List DI) (h : DR P N ops l) : CodeR DR P (.region id ops true) (.draw l) N
  | seq (N : Nat) (a b : Code) (a' b' : AC) (ha : CodeR DR P a a' N) (hb : CodeR DR P b b' N) : CodeR DR P (.seq a b) (.seq a' b') N
  | cond (N : Nat) (c : Operand) (c' : Opd) (a b : Code) (a' b' : AC) (hc : trOpd c = some c') (ha : CodeR DR P a a' N) (hb : CodeR DR P b b' N) : CodeR DR P (.cond c a b) (.cond c' a' b') N
  | block (N id : Nat) (b : Code) (b' : AC) (hb : CodeR DR P b b' N) : CodeR DR P (.block id b) (.block id b') N
  | loop (N : Nat) (live : List Nat) (b : Code) (b' : AC) (hb : CodeR DR P b b' N) : CodeR DR P (.loop b) (.loop live b') N
  | rangeF (N : Nat) (f : Operand) (f' : Opd) (ps : Array Nat) (x y : Code) (x' y' : AC) (hf : trOpd f = some f') (hp : ∀ t ∈ ps.toList, t < N) (hx : CodeR DR P x x' N) (hy : CodeR DR P y y' N) :
      CodeR DR P (.rangeFunc f ps x y) (.rangeF f' ps.toList x' y') N
  | exit (N id : Nat) : CodeR DR P (.exit id) (.exit id) N
  | ret (N : Nat) : CodeR DR P .ret .ret N
  | stuck (N : Nat) (code : Code) : CodeR DR P code .stuck N

def ResR (P : Program) : List ResultVar → List AR → Prop
  | [], [] => True
  | .tmp t :: r, .tmp t' :: r' => t = t' ∧ ResR P r r'
  | .cell a ty :: r, .cell a' n :: r' => a = a' ∧ aggOf P ty = some n ∧ ResR P r r'
  | _, _ => False

def CallPost (K : KP) (c : RC) (v : AV) (h' : Heap) : Ending → World → Prop :=
  fun e w' => ∃ c' u, e = .returned u ∧ c'.w = w' ∧ Ext c c' ∧ HR K c' h' ∧ VR c' v u

structure FnOk (DR : DrawRel) (P : Program) (g : FuncId) (af : AFn) : Prop where
  ok : ∃ fn code, P.funcs[g]? = some fn ∧ fn.body = some code ∧ fn.name ≠ "runtime.NumGoroutine" ∧ fn.ntmps = af.N ∧ af.np ≤ af.N ∧ CodeR DR P code af.body af.N ∧ ResR P fn.results.toList af.res

def PrimOk (DR : DrawRel) (P : Program) (g : FuncId) (p : List AV → Heap → Option (AV × Heap)) : Prop :=
  (∃ fn code, P.funcs[g]? = some fn ∧ fn.body = some code ∧ fn.name ≠ "runtime.NumGoroutine") ∧
  ∀ (c : RC) (args : List AV) (vs : List Value) (h h' : Heap) (v : AV), HR (CodeR DR P) c h → LR c args vs → p args h = some (v, h') → ∀ m, CallsIn Fence.wide m P g vs.toArray c.w (CallPost (CodeR DR P) c v h')

structure TabOk (DR : DrawRel) (P : Program) (T : Tab) : Prop where
  code : ∀ g af, T.fn g = some (.code af) → FnOk DR P g af
  prim : ∀ g p, T.fn g = some (.prim p) → PrimOk DR P g p
  meth : ∀ t name f, T.meth t name = some f → methOf P t name = some f

/-- A fence that keeps nothing out, in a round or not. -/
def Fw (ro : Option Nat) : Fence := { Fence.wide with round := ro }

theorem Fw_fn (ro : Option Nat) (f : FuncId) : (Fw ro).fn f := trivial

theorem callsIn_Fw {ro : Option Nat} {m : Nat} {P : Program} {f : FuncId} {args : Array Value} {w : World} {R : Ending → World → Prop} (h : CallsIn Fence.wide m P f args w R) : CallsIn (Fw ro) m P f args w R := h

theorem CallsIn.mono' {F : Fence} {n : Nat} {P : Program} {f : FuncId} {args : Array Value} {w : World} {R R' : Ending → World → Prop} (h : CallsIn F n P f args w R) (hr : ∀ e w', R e w' → R' e w') : CallsIn F n P f args w R' :=
  ⟨h.1, fun cs hc => let ⟨e, w', fr, r, rest⟩ := h.2 cs hc; ⟨e, w', fr, hr _ _ r, rest⟩⟩

section
variable {DR : DrawRel} {P : Program} {c : RC} {h : Heap} {env : Env} {a : Act} {o : Oper} {N : Nat}

/-- What one operation does: whatever holds behind every outcome holds. -/
def OpS (DR : DrawRel) (P : Program) (ro : Option Nat) (m : Nat) (o : Oper) (a : Act) (c : RC) (v : AV) (h' : Heap) : Prop :=
  ∀ (next : Act → World → Prop) (Q : Exit → Act → World → Prop),
    (∀ (c' : RC) (u : Value), Ext c c' → HR (CodeR DR P) c' h' → VR c' v u → next (a.put o.dst u) c'.w) → o.wpIn (Fw ro) m P a c.w next Q

theorem trOp_defer {ao : AOp} (ht : trOp P o = some ao) : ∀ cl, o.op ≠ .defer cl := by
  intro cl e
  unfold trOp at ht
  rw [e] at ht
  cases ht

theorem semAt_of {ro : Option Nat} {ao : AOp} (ht : trOp P o = some ao) (ρ : Operand → Value) : Oper.semAt ro ρ o = execOp ρ o :=
  Oper.semAt_eq ro ρ o (trOp_defer ht)

theorem OpS.of_good {ro : Option Nat} {m : Nat} {ao : AOp} {v : AV} {h' : Heap} (ht : trOp P o = some ao) (hg : Good (CodeR DR P) c v h' ((execOp a.eval o).run P c.w)) : OpS DR P ro m o a c v h' := by
  intro next Q hn
  obtain ⟨c', u, hr, h1, h2, h3⟩ := hg
  refine ⟨fun _ _ => trivial, ?_⟩
  rw [semAt_of ht]
  rcases hr with hr | ⟨hr, rfl⟩
  · rw [hr]; exact hn c' u h1 h2 h3
  · rw [hr]; exact hn c' _ h1 h2 h3

theorem wanted_R {ops : Array Oper} {g : Option (Nat × Bool)} {b : Bool} (hg : guardOf ops o.guard = some g) (he : EnvR c env a.tmps) (hw : wanted env g = some b) : Region.wanted o (yielded ops a.tmps) = b := by
  cases hgu : o.guard with
  | none =>
    rw [hgu] at hg
    simp only [guardOf, Option.some.injEq] at hg
    subst hg
    simp only [wanted, Option.some.injEq] at hw
    subst hw
    simp [Region.wanted, hgu]
  | some jw =>
    obtain ⟨j, want⟩ := jw
    rw [hgu] at hg
    simp only [guardOf] at hg
    split at hg
    · rename_i t ht
      cases hg
      simp only [Region.wanted, hgu, yielded, ht, Option.bind_some]
      have hv := he t
      simp only [wanted] at hw
      split at hw
      · rename_i q hq
        cases hw
        rw [hq] at hv
        have hv' := lit_bool hv
        have : a.tmps[t]? = some (.bool q) := by
          rw [Array.getD_eq_getD_getElem?] at hv'
          cases hx : a.tmps[t]? with
          | none => rw [hx] at hv'; simp [undef] at hv'
          | some x => rw [hx] at hv'; simp at hv'; rw [hv']
        rw [this]
        simp
      · rename_i hq
        cases hw
        rw [hq] at hv
        simp only [VR, AL.v] at hv
        rw [Array.getD_eq_getD_getElem?] at hv
        cases hx : a.tmps[t]? with
        | none => simp
        | some x => rw [hx] at hv; simp at hv; rw [hv]; simp
      · cases hw
    · cases hg

/-- The state of a frame: its temporaries, and the marks of loops over functions. -/
structure StR (N : Nat) (c : RC) (B : Nat) (env : Env) (a : Act) : Prop where
  env : EnvR c env a.tmps
  size : a.tmps.size = N
  defs : ∀ d ∈ a.defers, ∃ r, d.target = .collected r ∧ B ≤ r ∧ c.w.heap[r]? = some (.deferred (some [])) ∧ ¬ c.own r
  dist : (a.defers.map fun d => d.target).Pairwise (fun s t => s ≠ t)

theorem StR.ext {B : Nat} {c' : RC} (hs : StR N c B env a) (hE : Ext c c') : StR N c' B env a where
  env := hs.env.ext hE
  size := hs.size
  defs d hd := by
    obtain ⟨r, h1, h2, h3, h4⟩ := hs.defs d hd
    have hlt := lt_of_some h3
    exact ⟨r, h1, h2, by rw [hE.keep r hlt h4]; exact h3, fun ho => (hE.own r ho).elim h4 (by omega)⟩
  dist := hs.dist

theorem StR.put {B : Nat} (hs : StR N c B env a) {dst : Option Nat} {v : AV} {u : Value} (hd : ∀ d, dst = some d → d < N) (hv : VR c v u) : StR N c B (env.put dst v) (a.put dst u) := by
  cases dst with
  | none => exact hs
  | some d =>
    refine ⟨?_, by simp [Act.put, hs.size], hs.defs, hs.dist⟩
    intro t
    simp only [Env.put, Env.get, Act.put]
    have hdN := hd d rfl
    split
    · rename_i e
      subst e
      rw [Array.getD_eq_getD_getElem?, Array.getElem?_setIfInBounds]
      simp [hs.size, hdN]
      exact hv
    · rename_i e
      rw [Array.getD_eq_getD_getElem?, Array.getElem?_setIfInBounds_ne e, ← Array.getD_eq_getD_getElem?]
      exact hs.env t

theorem StR.mask {B : Nat} (hs : StR N c B env a) (l : List Nat) : StR N c B (env.mask l) a := by
  refine ⟨?_, hs.size, hs.defs, hs.dist⟩
  intro t
  have : (env.mask l).get t = env.get t ∨ (env.mask l).get t = .any := by
    unfold Env.mask
    induction l with
    | nil => exact .inr rfl
    | cons x l ih =>
      simp only [List.map_cons, Env.get]
      split
      · rename_i e; subst e; exact .inl rfl
      · exact ih
  rcases this with h1 | h1
  · rw [h1]; exact hs.env t
  · rw [h1]; simp [VR]

theorem trAI_some {ops : Array Oper} {i : AI} (h1 : trAI P N ops o = some i) : trOp P o = some i.op ∧ guardOf ops o.guard = some i.guard ∧ i.dst = o.dst ∧ ∀ d, o.dst = some d → d < N := by
  unfold trAI at h1
  split at h1
  · rename_i op g h2 h3
    split at h1
    · rename_i h4
      cases h1
      exact ⟨h2, h3, h4.symm, fun d hd => by rw [h4] at hd; cases hd⟩
    · rename_i d h4
      split at h1
      · rename_i hd
        cases h1
        exact ⟨h2, h3, h4.symm, fun d' hd' => by rw [h4] at hd'; cases hd'; exact hd⟩
      · cases h1
  · cases h1

def exOf : Ex → Exit
  | .normal => .normal
  | .jump (.exit id) => .exit id
  | .jump .ret => .ret

def RunPost (DR : DrawRel) (P : Program) (N : Nat) (c : RC) (B : Nat) (x : Ex) (env' : Env) (h' : Heap) : Exit → Act → World → Prop :=
  fun e a' w' => e = exOf x ∧ ∃ c', c'.w = w' ∧ Ext c c' ∧ HR (CodeR DR P) c' h' ∧ StR N c' B env' a'

end

end Go.Ab

/- What a run of the runner says of the model: calls, rounds, loops over functions. -/
namespace Go.Ab
open Go

variable {DR : DrawRel} {P : Program} {T : Tab} {c : RC} {h : Heap} {env : Env} {a : Act} {o : Oper} {N : Nat}

/-! ### Results -/

def resOne (tmps : Array Value) : ResultVar → Sem Value
  | .tmp t => pure (tmps.getD t undef)
  | .cell a t => do loadVar t (← asAddr (tmps.getD a undef))

theorem results_eq (fn : Func) (tmps : Array Value) : results fn tmps = (do
    let vs ← fn.results.mapM (resOne tmps)
    pure (if h : vs.size = 1 then vs[0] else .tuple vs)) := rfl

theorem results_R (H : HR (CodeR DR P) c h) : ∀ {rs : List ResultVar} {rs' : List AR} {vs : List AV} {tmps : Array Value}, ResR P rs rs' → EnvR c env tmps → resA env h rs' = some vs →
    ∃ us : List Value, (rs.mapM (resOne tmps)).run P c.w = .ok us c.w ∧ LR c vs us
  | [], [], vs, tmps, _, _, h1 => by
    simp only [resA, Option.some.injEq] at h1
    subst h1
    exact ⟨[], rfl, by simp [LR]⟩
  | .tmp t :: rs, .tmp t' :: rs', vs, tmps, hr, he, h1 => by
    obtain ⟨rfl, hr⟩ := hr
    simp only [resA] at h1
    obtain ⟨vs', h2, rfl⟩ := Option.map_eq_some_iff.1 h1
    obtain ⟨us, h3, h4⟩ := results_R H hr he h2
    refine ⟨tmps.getD t undef :: us, ?_, by simp only [LR]; exact ⟨_, _, rfl, he t, h4⟩⟩
    simp [List.mapM_cons, Result.andThen, h3, resOne]
  | .cell q ty :: rs, .cell q' n :: rs', vs, tmps, hr, he, h1 => by
    obtain ⟨rfl, hty, hr⟩ := hr
    simp only [resA] at h1
    split at h1
    · rename_i v vs' h2 h3
      cases h1
      obtain ⟨us, h4, h5⟩ := results_R H hr he h3
      unfold ldA at h2
      split at h2
      · rename_i xs off hb
        obtain ⟨b, p, e, hC⟩ := baseOf_R H hb (he q)
        obtain ⟨u, h6, h7⟩ := run_loadVar_R (P := P) hty hC h2
        refine ⟨u :: us, ?_, by simp only [LR]; exact ⟨_, _, rfl, h7, h5⟩⟩
        have h8 : (resOne tmps (.cell q ty)).run P c.w = .ok u c.w := by simp [resOne, e, asAddr, Result.andThen, h6]
        simp [List.mapM_cons, Result.andThen, h8, h4]
      · cases h2
    · cases h1
  | [], _ :: _, _, _, hr, _, _ => by simp [ResR] at hr
  | .tmp _ :: _, [], _, _, hr, _, _ => by simp [ResR] at hr
  | .tmp _ :: _, .cell _ _ :: _, _, _, hr, _, _ => by simp [ResR] at hr
  | .cell _ _ :: _, [], _, _, hr, _, _ => by simp [ResR] at hr
  | .cell _ _ :: _, .tmp _ :: _, _, _, hr, _, _ => by simp [ResR] at hr

theorem resultsOf_R (H : HR (CodeR DR P) c h) {fn : Func} {rs' : List AR} {vs : List AV} {tmps : Array Value} (hr : ResR P fn.results.toList rs') (he : EnvR c env tmps) (h1 : resA env h rs' = some vs) :
    ∃ u, (results fn tmps).run P c.w = .ok u c.w ∧ VR c (result vs) u := by
  obtain ⟨us, h2, h3⟩ := results_R (P := P) H hr he h1
  have h4 : (results fn tmps).run P c.w = .ok (if h : us.toArray.size = 1 then us.toArray[0] else .tuple us.toArray) c.w := by
    rw [results_eq, Array.mapM_eq_mapM_toList]
    simp [h2, Result.andThen]
  refine ⟨_, h4, ?_⟩
  cases vs with
  | nil =>
    simp only [LR] at h3
    subst h3
    simp [result, VR, LR]
  | cons v vs =>
    simp only [LR] at h3
    obtain ⟨u, us', rfl, h5, h6⟩ := h3
    cases vs with
    | nil =>
      simp only [LR] at h6
      subst h6
      simpa [result] using h5
    | cons v' vs' =>
      simp only [LR] at h6
      obtain ⟨u', us'', rfl, h7, h8⟩ := h6
      simp only [result, VR]
      refine ⟨(u :: u' :: us'').toArray, by simp, ?_⟩
      simp only [LR]
      exact ⟨u, _, rfl, h5, u', _, rfl, h7, h8⟩

/-! ### Leaving a function -/

/-- A mark is taken up: its block turns, and nothing else. -/
theorem HR.take (H : HR (CodeR DR P) c h) {r : Nat} (h1 : c.w.heap[r]? = some (.deferred (some []))) (h2 : ¬ c.own r) :
    ∃ w', (Instr.takeDeferred r).run P c.w = .ok [] w' ∧ ExtW c { c with w := w' } ∧ HR (CodeR DR P) { c with w := w' } h ∧ w'.heap.size = c.w.heap.size ∧ (∀ b, b ≠ r → w'.heap[b]? = c.w.heap[b]?) ∧
      w'.os = c.w.os ∧ w'.tape = c.w.tape ∧ w'.output = c.w.output ∧ w'.heap[r]? = some (.deferred none) := by
  have hlt := lt_of_some h1
  let w' : World := { c.w with heap := c.w.heap.setIfInBounds r (.deferred none) }
  have hoth : ∀ b, b ≠ r → w'.heap[b]? = c.w.heap[b]? := fun b hb => by simp only [w']; rw [Array.getElem?_setIfInBounds_ne (fun h => hb h.symm)]
  have e : ExtW c { c with w := w' } := ⟨fun _ h => ⟨h, rfl⟩, by simp [w'], fun b cs el fr _ hb => by
      simp only
      rw [hoth b (fun e => by rw [e, h1] at hb; cases hb)]; exact hb, fun _ _ h => h, fun b cs el fr hb => ⟨cs, el, fr, by
      simp only
      rw [hoth b (fun e => by rw [e, h1] at hb; cases hb)]; exact hb, rfl⟩⟩
  refine ⟨w', ?_, e, ⟨?_, H.inj, H.own, H.dom, H.lo⟩, by simp [w'], hoth, rfl, rfl, rfl, by simp [w', hlt]⟩
  · simp [Instr.takeDeferred, getObj, setObj, Sem.run, h1, Result.andThen, w']
  · intro i x hx hxd
    obtain ⟨g1, g2, g3, g4⟩ := H.live i x hx hxd
    exact ⟨g1, g2, by simp [w']; exact g3, g4.extW e (hoth _ (fun e => h2 (e ▸ g2)))⟩

theorem leaves {fn : Func} {rs' : List AR} {vs : List AV} {tmps : Array Value} {m : Nat} {c0 : RC} (hr : ResR P fn.results.toList rs') (h1 : resA env h rs' = some vs) :
    ∀ (ds : List Deferred) (c : RC), HR (CodeR DR P) c h → EnvR c env tmps → Ext c0 c →
      (∀ d ∈ ds, ∃ r, d.target = .collected r ∧ c0.w.heap.size ≤ r ∧ ¬ c.own r) → (∀ d ∈ ds, ∀ r, d.target = .collected r → c.w.heap[r]? = some (.deferred (some []))) → (ds.map fun d => d.target).Pairwise (fun s t => s ≠ t) →
      LeavesInM Fence.wide m P fn tmps (CallPost (CodeR DR P) c0 (result vs) h) ds .returning c.w
  | [], c, H, he, hE, _, _, _ => by
    obtain ⟨u, h2, h3⟩ := resultsOf_R (P := P) H hr he h1
    exact ⟨u, h2, c, u, rfl, rfl, hE, H, h3⟩
  | d :: ds, c, H, he, hE, hd, hb, hp => by
    obtain ⟨r, h2, h3, h4⟩ := hd d (by simp)
    have h5 := hb d (by simp) r h2
    obtain ⟨w', h6, h7, h8, h9, h10, h11, h12, h13, -⟩ := H.take h5 h4
    refine ⟨by simp, .inl ⟨r, w', h2, h6, ?_⟩⟩
    have hE' : Ext c0 { c with w := w' } := by
      refine ⟨hE.D, by simp only; rw [h9]; exact hE.size, fun b hb hn => ?_, hE.own, hE.frn, hE.lo, hE.new, fun b cs e fr hcs => ?_, fun b l hl => ?_, h11.trans hE.os, h12.trans hE.tape, h13.trans hE.output⟩
      · simp only
        rw [h10 b (by omega)]
        exact hE.keep b hb hn
      · have hlt := lt_of_some hcs
        obtain ⟨cs', e', fr', g1, g2⟩ := hE.shape b cs e fr hcs
        exact ⟨cs', e', fr', by simp only; rw [h10 b (by omega)]; exact g1, g2⟩
      · have hlt := lt_of_some hl
        obtain ⟨l', g1⟩ := hE.loops b l hl
        exact ⟨l', by simp only; rw [h10 b (by omega)]; exact g1⟩
    simp only [List.map_cons, List.pairwise_cons] at hp
    exact leaves hr h1 ds { c with w := w' } h8 (he.extW h7) hE' (fun d' hd' => let ⟨r', g1, g2, g3⟩ := hd d' (by simp [hd']); ⟨r', g1, g2, g3⟩)
      (fun d' hd' r' hr' => by
        have hne : r' ≠ r := fun e => hp.1 d'.target (List.mem_map_of_mem hd') (by rw [h2, hr', e])
        simp only
        rw [h10 r' hne]
        exact hb d' (by simp [hd']) r' hr') hp.2

end Go.Ab
