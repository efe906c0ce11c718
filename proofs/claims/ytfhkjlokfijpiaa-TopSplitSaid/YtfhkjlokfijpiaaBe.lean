/- Contracts: Repeat of one number. -/
import Derived.Test.YtfhkjlokfijpiaaBd
set_option linter.unusedSimpArgs false
set_option linter.unusedVariables false
namespace Go.Ab.S1
open Go Go.Ab
variable {T : Tab} {h : Heap} {Q : AV → Heap → Prop}

theorem lo32 : ∀ n : Fin 65, binLit .and (.int .u64 (n.val : Int)) (.int .u64 4294967295) = some (.int .u64 (n.val : Int)) := by decide +kernel
theorem hi32 : ∀ n : Fin 65, binLit .shr (.int .u64 (n.val : Int)) (.int .u64 32) = some (.int .u64 0) := by decide +kernel
theorem lo32' {n : Nat} (hn : n < 65) : binA .and (.lit (.int .u64 n)) (.lit (.int .u64 4294967295)) = some (.lit (.int .u64 n)) := by
  have := lo32 ⟨n, hn⟩; simp only [binA]; rw [this]; rfl
theorem hi32' {n : Nat} (hn : n < 65) : binA .shr (.lit (.int .u64 n)) (.lit (.int .u64 32)) = some (.lit (.int .u64 0)) := by
  have := hi32 ⟨n, hn⟩; simp only [binA]; rw [this]; rfl



theorem c_36 (hT : Has T) {n : Nat} (hn : n < 65) (hQ : Q (.tup [.int .u64 0, .int .u64 n]) h) : WC T (.fn (.func 36) [] []) [.int .u64 1, .int .u64 n] h Q := by
  have a1 : binA .and (.lit (.int .u64 1)) (.lit (.int .u64 4294967295)) = some (.lit (.int .u64 1)) := lo32' (n := 1) (by omega)
  have a2 : binA .shr (.lit (.int .u64 1)) (.lit (.int .u64 32)) = some (.lit (.int .u64 0)) := hi32' (n := 1) (by omega)
  have a3 : binA .and (.lit (.int .u64 0)) (.lit (.int .u64 4294967295)) = some (.lit (.int .u64 0)) := lo32' (n := 0) (by omega)
  have a4 : binA .shr (.lit (.int .u64 0)) (.lit (.int .u64 32)) = some (.lit (.int .u64 0)) := hi32' (n := 0) (by omega)
  refine wc_code (af := f36) (hT.fn _ _ rfl) rfl ?_
  unfold f36
  simp only [enter, List.append_nil, List.nil_append, List.cons_append, List.zipIdx_cons, List.zipIdx_nil, List.map_cons, List.map_nil, Nat.zero_add, Nat.reduceAdd]
  repeat (first | ((first | apply o_call | apply d_call); iterate 2 (· (simp only [q0, q1, q2, q3, q4, q5, q6, List.map, Option.map, Nat.reduceEqDiff, ↓reduceIte]; first | done | rfl))) | ((first | apply o_step | apply d_st | (apply d_step; (· decide)) | (apply d_new; (· rfl)) | (apply o_on; (· (simp only [q0, q1, q2, q3, q4, q5, q6, List.map, Option.map, Nat.reduceEqDiff, ↓reduceIte]; first | done | rfl))) | (apply d_on; (· (simp only [q0, q1, q2, q3, q4, q5, q6, List.map, Option.map, Nat.reduceEqDiff, ↓reduceIte]; first | done | rfl)); (· decide))); (· ((first | exact a_new | exact a_mkmap | exact a_cnst | exact a_rowlit0 | ((first | apply a_mv | apply a_ld | apply a_len | apply a_ext | apply a_not | apply a_faddr | apply a_nilc | apply a_conv | apply a_neg | apply a_row1 | apply a_build1 | apply a_box | apply a_fld); (· (simp only [q0, q1, q2, q3, q4, q5, q6, List.map, Option.map, Nat.reduceEqDiff, ↓reduceIte]; first | done | rfl))) | ((first | apply a_bin | apply a_iaddr | apply a_iaddrA | apply a_st | apply a_eqn | apply a_eqb | apply a_mkslice | apply a_lookup | apply a_lookup2 | apply a_func | apply a_del1 | apply a_pickT); iterate 2 (· (simp only [q0, q1, q2, q3, q4, q5, q6, List.map, Option.map, Nat.reduceEqDiff, ↓reduceIte]; first | done | rfl))) | (apply a_pickF; iterate 2 (· (simp only [q0, q1, q2, q3, q4, q5, q6, List.map, Option.map, Nat.reduceEqDiff, ↓reduceIte]; first | done | rfl))) | ((first | apply a_pick | apply a_slice | apply a_mapup); iterate 3 (· (simp only [q0, q1, q2, q3, q4, q5, q6, List.map, Option.map, Nat.reduceEqDiff, ↓reduceIte]; first | done | rfl)))); all_goals (first | with_reducible rfl | (simp (disch := omega) only [binA_add, binA_sub, binA_mul, binA_rem, binA_eql, binA_neq, binA_lss, binA_leq, binA_gtr, binA_geq, wrap_i64, iaddrS_sl, List.getElem?_cons_zero, List.getElem?_cons_succ, Int.toNat_natCast, Nat.mul_one, Nat.zero_add, a1, a2, a3, a4, lo32' hn, hi32' hn, Int.one_mul, Int.zero_mul, Int.mul_zero, Int.zero_add, Int.add_zero, wrap_u64]; first | done | rfl) | rfl | omega)))) | refine o_nil ?_ | refine d_nil ?_ | with_reducible refine aft_normal ?_ | with_reducible refine aft_same ?_ | with_reducible refine aft_ret ?_ | with_reducible refine aft_other (by decide) ?_ | with_reducible refine b_jump ?_ | with_reducible refine il_jump ?_ | refine s_seq ?_ | refine s_skip ?_ | refine s_exit ?_ | refine s_ret ?_ | refine s_ops ?_ | refine s_draw ?_ | refine s_block ?_ | ((first | apply s_condT | (apply s_alone; apply s_condT)); (· (simp only [q0, q1, q2, q3, q4, q5, q6, List.map, Option.map, Nat.reduceEqDiff, ↓reduceIte]; first | done | rfl))) | ((first | apply s_condF | (apply s_alone; apply s_condF)); (· (simp only [q0, q1, q2, q3, q4, q5, q6, List.map, Option.map, Nat.reduceEqDiff, ↓reduceIte]; first | done | rfl))) | refine w_skip ?_ | refine w_exit ?_ | refine w_ret ?_ | refine l_ops ?_ | refine l_draw ?_ | (apply s_alone; refine s_block ?_) | ((first | apply o_off | apply d_off); (· (simp only [q0, q1, q2, q3, q4, q5, q6, List.map, Option.map, Nat.reduceEqDiff, ↓reduceIte]; first | done | rfl))) | (apply d_callOn; iterate 3 (· (simp only [q0, q1, q2, q3, q4, q5, q6, List.map, Option.map, Nat.reduceEqDiff, ↓reduceIte]; first | done | rfl))))
  (first | refine a_ret (by (simp only [resA, Env.put, Env.get, Nat.reduceEqDiff, ↓reduceIte, Option.map_some]; first | done | rfl)) ?_ | refine a_normal (by (simp only [resA, Env.put, Env.get, Nat.reduceEqDiff, ↓reduceIte, Option.map_some]; first | done | rfl)) ?_)
  exact hQ

theorem c_28 (hT : Has T) {n : Nat} (hn : n < 65) (hQ : Q (.tup [.int .u64 0, .int .u64 n]) h) : WC T (.fn (.func 28) [] []) [.int .u64 1, .int .u64 n] h Q := by
  refine wc_code (af := f28) (hT.fn _ _ rfl) rfl ?_
  unfold f28
  simp only [enter, List.append_nil, List.nil_append, List.cons_append, List.zipIdx_cons, List.zipIdx_nil, List.map_cons, List.map_nil, Nat.zero_add, Nat.reduceAdd]
  repeat (first | ((first | apply o_call | apply d_call); iterate 2 (· (simp only [q0, q1, q2, q3, q4, q5, q6, List.map, Option.map, Nat.reduceEqDiff, ↓reduceIte]; first | done | rfl))) | ((first | apply o_step | apply d_st | (apply d_step; (· decide)) | (apply d_new; (· rfl)) | (apply o_on; (· (simp only [q0, q1, q2, q3, q4, q5, q6, List.map, Option.map, Nat.reduceEqDiff, ↓reduceIte]; first | done | rfl))) | (apply d_on; (· (simp only [q0, q1, q2, q3, q4, q5, q6, List.map, Option.map, Nat.reduceEqDiff, ↓reduceIte]; first | done | rfl)); (· decide))); (· ((first | exact a_new | exact a_mkmap | exact a_cnst | exact a_rowlit0 | ((first | apply a_mv | apply a_ld | apply a_len | apply a_ext | apply a_not | apply a_faddr | apply a_nilc | apply a_conv | apply a_neg | apply a_row1 | apply a_build1 | apply a_box | apply a_fld); (· (simp only [q0, q1, q2, q3, q4, q5, q6, List.map, Option.map, Nat.reduceEqDiff, ↓reduceIte]; first | done | rfl))) | ((first | apply a_bin | apply a_iaddr | apply a_iaddrA | apply a_st | apply a_eqn | apply a_eqb | apply a_mkslice | apply a_lookup | apply a_lookup2 | apply a_func | apply a_del1 | apply a_pickT); iterate 2 (· (simp only [q0, q1, q2, q3, q4, q5, q6, List.map, Option.map, Nat.reduceEqDiff, ↓reduceIte]; first | done | rfl))) | (apply a_pickF; iterate 2 (· (simp only [q0, q1, q2, q3, q4, q5, q6, List.map, Option.map, Nat.reduceEqDiff, ↓reduceIte]; first | done | rfl))) | ((first | apply a_pick | apply a_slice | apply a_mapup); iterate 3 (· (simp only [q0, q1, q2, q3, q4, q5, q6, List.map, Option.map, Nat.reduceEqDiff, ↓reduceIte]; first | done | rfl)))); all_goals (first | with_reducible rfl | (simp (disch := omega) only [binA_add, binA_sub, binA_mul, binA_rem, binA_eql, binA_neq, binA_lss, binA_leq, binA_gtr, binA_geq, wrap_i64, iaddrS_sl, List.getElem?_cons_zero, List.getElem?_cons_succ, Int.toNat_natCast, Nat.mul_one, Nat.zero_add]; first | done | rfl) | rfl | omega)))) | refine o_nil ?_ | refine d_nil ?_ | with_reducible refine aft_normal ?_ | with_reducible refine aft_same ?_ | with_reducible refine aft_ret ?_ | with_reducible refine aft_other (by decide) ?_ | with_reducible refine b_jump ?_ | with_reducible refine il_jump ?_ | refine s_seq ?_ | refine s_skip ?_ | refine s_exit ?_ | refine s_ret ?_ | refine s_ops ?_ | refine s_draw ?_ | refine s_block ?_ | ((first | apply s_condT | (apply s_alone; apply s_condT)); (· (simp only [q0, q1, q2, q3, q4, q5, q6, List.map, Option.map, Nat.reduceEqDiff, ↓reduceIte]; first | done | rfl))) | ((first | apply s_condF | (apply s_alone; apply s_condF)); (· (simp only [q0, q1, q2, q3, q4, q5, q6, List.map, Option.map, Nat.reduceEqDiff, ↓reduceIte]; first | done | rfl))) | refine w_skip ?_ | refine w_exit ?_ | refine w_ret ?_ | refine l_ops ?_ | refine l_draw ?_ | (apply s_alone; refine s_block ?_) | ((first | apply o_off | apply d_off); (· (simp only [q0, q1, q2, q3, q4, q5, q6, List.map, Option.map, Nat.reduceEqDiff, ↓reduceIte]; first | done | rfl))) | (apply d_callOn; iterate 3 (· (simp only [q0, q1, q2, q3, q4, q5, q6, List.map, Option.map, Nat.reduceEqDiff, ↓reduceIte]; first | done | rfl))))
  refine c_36 hT hn ?_
  repeat (first | ((first | apply o_call | apply d_call); iterate 2 (· (simp only [q0, q1, q2, q3, q4, q5, q6, List.map, Option.map, Nat.reduceEqDiff, ↓reduceIte]; first | done | rfl))) | ((first | apply o_step | apply d_st | (apply d_step; (· decide)) | (apply d_new; (· rfl)) | (apply o_on; (· (simp only [q0, q1, q2, q3, q4, q5, q6, List.map, Option.map, Nat.reduceEqDiff, ↓reduceIte]; first | done | rfl))) | (apply d_on; (· (simp only [q0, q1, q2, q3, q4, q5, q6, List.map, Option.map, Nat.reduceEqDiff, ↓reduceIte]; first | done | rfl)); (· decide))); (· ((first | exact a_new | exact a_mkmap | exact a_cnst | exact a_rowlit0 | ((first | apply a_mv | apply a_ld | apply a_len | apply a_ext | apply a_not | apply a_faddr | apply a_nilc | apply a_conv | apply a_neg | apply a_row1 | apply a_build1 | apply a_box | apply a_fld); (· (simp only [q0, q1, q2, q3, q4, q5, q6, List.map, Option.map, Nat.reduceEqDiff, ↓reduceIte]; first | done | rfl))) | ((first | apply a_bin | apply a_iaddr | apply a_iaddrA | apply a_st | apply a_eqn | apply a_eqb | apply a_mkslice | apply a_lookup | apply a_lookup2 | apply a_func | apply a_del1 | apply a_pickT); iterate 2 (· (simp only [q0, q1, q2, q3, q4, q5, q6, List.map, Option.map, Nat.reduceEqDiff, ↓reduceIte]; first | done | rfl))) | (apply a_pickF; iterate 2 (· (simp only [q0, q1, q2, q3, q4, q5, q6, List.map, Option.map, Nat.reduceEqDiff, ↓reduceIte]; first | done | rfl))) | ((first | apply a_pick | apply a_slice | apply a_mapup); iterate 3 (· (simp only [q0, q1, q2, q3, q4, q5, q6, List.map, Option.map, Nat.reduceEqDiff, ↓reduceIte]; first | done | rfl)))); all_goals (first | with_reducible rfl | (simp (disch := omega) only [binA_add, binA_sub, binA_mul, binA_rem, binA_eql, binA_neq, binA_lss, binA_leq, binA_gtr, binA_geq, wrap_i64, iaddrS_sl, List.getElem?_cons_zero, List.getElem?_cons_succ, Int.toNat_natCast, Nat.mul_one, Nat.zero_add]; first | done | rfl) | rfl | omega)))) | refine o_nil ?_ | refine d_nil ?_ | with_reducible refine aft_normal ?_ | with_reducible refine aft_same ?_ | with_reducible refine aft_ret ?_ | with_reducible refine aft_other (by decide) ?_ | with_reducible refine b_jump ?_ | with_reducible refine il_jump ?_ | refine s_seq ?_ | refine s_skip ?_ | refine s_exit ?_ | refine s_ret ?_ | refine s_ops ?_ | refine s_draw ?_ | refine s_block ?_ | ((first | apply s_condT | (apply s_alone; apply s_condT)); (· (simp only [q0, q1, q2, q3, q4, q5, q6, List.map, Option.map, Nat.reduceEqDiff, ↓reduceIte]; first | done | rfl))) | ((first | apply s_condF | (apply s_alone; apply s_condF)); (· (simp only [q0, q1, q2, q3, q4, q5, q6, List.map, Option.map, Nat.reduceEqDiff, ↓reduceIte]; first | done | rfl))) | refine w_skip ?_ | refine w_exit ?_ | refine w_ret ?_ | refine l_ops ?_ | refine l_draw ?_ | (apply s_alone; refine s_block ?_) | ((first | apply o_off | apply d_off); (· (simp only [q0, q1, q2, q3, q4, q5, q6, List.map, Option.map, Nat.reduceEqDiff, ↓reduceIte]; first | done | rfl))) | (apply d_callOn; iterate 3 (· (simp only [q0, q1, q2, q3, q4, q5, q6, List.map, Option.map, Nat.reduceEqDiff, ↓reduceIte]; first | done | rfl))))
  (first | refine a_ret (by (simp only [resA, Env.put, Env.get, Nat.reduceEqDiff, ↓reduceIte, Option.map_some]; first | done | rfl)) ?_ | refine a_normal (by (simp only [resA, Env.put, Env.get, Nat.reduceEqDiff, ↓reduceIte, Option.map_some]; first | done | rfl)) ?_)
  exact hQ

/-- Repeat -/
theorem c_16 (hT : Has T) {v : AV} {x : Int} {n n0 : Nat} (hv : Grp n0 h v [x]) (h1 : 1 ≤ n) (h2 : n < 65) (hQ : ∀ v' h', Grp h.length h' v' (List.replicate n x) → Kp h.length none h h' → Q v' h') : WC T (.fn (.func 16) [] []) [v, .i64 n] h Q := by
  obtain ⟨j, -, rfl, hj⟩ := hv
  have hjl := rowOf_lt hj
  have w1 : IntKind.u64.wrap ((1 : Nat) : Int) = 1 := rfl
  have w2 : IntKind.u64.wrap (n : Int) = n := wrap_u64 (by omega) (by omega)
  refine wc_code (af := f16) (hT.fn _ _ rfl) rfl ?_
  unfold f16
  simp only [enter, List.append_nil, List.nil_append, List.cons_append, List.zipIdx_cons, List.zipIdx_nil, List.map_cons, List.map_nil, Nat.zero_add, Nat.reduceAdd]
  repeat (first | ((first | apply o_call | apply d_call); iterate 2 (· (simp only [q0, q1, q2, q3, q4, q5, q6, List.map, Option.map, Nat.reduceEqDiff, ↓reduceIte]; first | done | rfl))) | ((first | apply o_step | apply d_st | (apply d_step; (· decide)) | (apply d_new; (· rfl)) | (apply o_on; (· (simp only [q0, q1, q2, q3, q4, q5, q6, List.map, Option.map, Nat.reduceEqDiff, ↓reduceIte]; first | done | rfl))) | (apply d_on; (· (simp only [q0, q1, q2, q3, q4, q5, q6, List.map, Option.map, Nat.reduceEqDiff, ↓reduceIte]; first | done | rfl)); (· decide))); (· ((first | exact a_new | exact a_mkmap | exact a_cnst | exact a_rowlit0 | ((first | apply a_mv | apply a_ld | apply a_len | apply a_ext | apply a_not | apply a_faddr | apply a_nilc | apply a_conv | apply a_neg | apply a_row1 | apply a_build1 | apply a_box | apply a_fld); (· (simp only [q0, q1, q2, q3, q4, q5, q6, List.map, Option.map, Nat.reduceEqDiff, ↓reduceIte]; first | done | rfl))) | ((first | apply a_bin | apply a_iaddr | apply a_iaddrA | apply a_st | apply a_eqn | apply a_eqb | apply a_mkslice | apply a_lookup | apply a_lookup2 | apply a_func | apply a_del1 | apply a_pickT); iterate 2 (· (simp only [q0, q1, q2, q3, q4, q5, q6, List.map, Option.map, Nat.reduceEqDiff, ↓reduceIte]; first | done | rfl))) | (apply a_pickF; iterate 2 (· (simp only [q0, q1, q2, q3, q4, q5, q6, List.map, Option.map, Nat.reduceEqDiff, ↓reduceIte]; first | done | rfl))) | ((first | apply a_pick | apply a_slice | apply a_mapup); iterate 3 (· (simp only [q0, q1, q2, q3, q4, q5, q6, List.map, Option.map, Nat.reduceEqDiff, ↓reduceIte]; first | done | rfl)))); all_goals (first | with_reducible rfl | (simp (disch := omega) only [binA_add, binA_sub, binA_mul, binA_rem, binA_eql, binA_neq, binA_lss, binA_leq, binA_gtr, binA_geq, wrap_i64, iaddrS_sl, List.getElem?_cons_zero, List.getElem?_cons_succ, Int.toNat_natCast, Nat.mul_one, Nat.zero_add, decide_eq_false (show ¬ (n : Int) < 0 by omega)]; first | done | rfl) | rfl | omega)))) | refine o_nil ?_ | refine d_nil ?_ | with_reducible refine aft_normal ?_ | with_reducible refine aft_same ?_ | with_reducible refine aft_ret ?_ | with_reducible refine aft_other (by decide) ?_ | with_reducible refine b_jump ?_ | with_reducible refine il_jump ?_ | refine s_seq ?_ | refine s_skip ?_ | refine s_exit ?_ | refine s_ret ?_ | refine s_ops ?_ | refine s_draw ?_ | refine s_block ?_ | ((first | apply s_condT | (apply s_alone; apply s_condT)); (· (simp only [q0, q1, q2, q3, q4, q5, q6, List.map, Option.map, Nat.reduceEqDiff, ↓reduceIte]; first | done | rfl))) | ((first | apply s_condF | (apply s_alone; apply s_condF)); (· (simp only [q0, q1, q2, q3, q4, q5, q6, List.map, Option.map, Nat.reduceEqDiff, ↓reduceIte]; first | done | rfl))) | refine w_skip ?_ | refine w_exit ?_ | refine w_ret ?_ | refine l_ops ?_ | refine l_draw ?_ | (apply s_alone; refine s_block ?_) | ((first | apply o_off | apply d_off); (· (simp only [q0, q1, q2, q3, q4, q5, q6, List.map, Option.map, Nat.reduceEqDiff, ↓reduceIte]; first | done | rfl))) | (apply d_callOn; iterate 3 (· (simp only [q0, q1, q2, q3, q4, q5, q6, List.map, Option.map, Nat.reduceEqDiff, ↓reduceIte]; first | done | rfl))))
  simp only [List.length_cons, List.length_nil, Nat.zero_add]
  rw [w1, w2]
  refine c_28 hT h2 ?_
  repeat (first | ((first | apply o_call | apply d_call); iterate 2 (· (simp only [q0, q1, q2, q3, q4, q5, q6, List.map, Option.map, Nat.reduceEqDiff, ↓reduceIte]; first | done | rfl))) | ((first | apply o_step | apply d_st | (apply d_step; (· decide)) | (apply d_new; (· rfl)) | (apply o_on; (· (simp only [q0, q1, q2, q3, q4, q5, q6, List.map, Option.map, Nat.reduceEqDiff, ↓reduceIte]; first | done | rfl))) | (apply d_on; (· (simp only [q0, q1, q2, q3, q4, q5, q6, List.map, Option.map, Nat.reduceEqDiff, ↓reduceIte]; first | done | rfl)); (· decide))); (· ((first | exact a_new | exact a_mkmap | exact a_cnst | exact a_rowlit0 | ((first | apply a_mv | apply a_ld | apply a_len | apply a_ext | apply a_not | apply a_faddr | apply a_nilc | apply a_conv | apply a_neg | apply a_row1 | apply a_build1 | apply a_box | apply a_fld); (· (simp only [q0, q1, q2, q3, q4, q5, q6, List.map, Option.map, Nat.reduceEqDiff, ↓reduceIte]; first | done | rfl))) | ((first | apply a_bin | apply a_iaddr | apply a_iaddrA | apply a_st | apply a_eqn | apply a_eqb | apply a_mkslice | apply a_lookup | apply a_lookup2 | apply a_func | apply a_del1 | apply a_pickT); iterate 2 (· (simp only [q0, q1, q2, q3, q4, q5, q6, List.map, Option.map, Nat.reduceEqDiff, ↓reduceIte]; first | done | rfl))) | (apply a_pickF; iterate 2 (· (simp only [q0, q1, q2, q3, q4, q5, q6, List.map, Option.map, Nat.reduceEqDiff, ↓reduceIte]; first | done | rfl))) | ((first | apply a_pick | apply a_slice | apply a_mapup); iterate 3 (· (simp only [q0, q1, q2, q3, q4, q5, q6, List.map, Option.map, Nat.reduceEqDiff, ↓reduceIte]; first | done | rfl)))); all_goals (first | with_reducible rfl | (simp (disch := omega) only [binA_add, binA_sub, binA_mul, binA_rem, binA_eql, binA_neq, binA_lss, binA_leq, binA_gtr, binA_geq, wrap_i64, iaddrS_sl, List.getElem?_cons_zero, List.getElem?_cons_succ, Int.toNat_natCast, Nat.mul_one, Nat.zero_add, decide_eq_false (show ¬ (n : Int) > 9223372036854775807 by omega)]; first | done | rfl) | rfl | omega)))) | refine o_nil ?_ | refine d_nil ?_ | with_reducible refine aft_normal ?_ | with_reducible refine aft_same ?_ | with_reducible refine aft_ret ?_ | with_reducible refine aft_other (by decide) ?_ | with_reducible refine b_jump ?_ | with_reducible refine il_jump ?_ | refine s_seq ?_ | refine s_skip ?_ | refine s_exit ?_ | refine s_ret ?_ | refine s_ops ?_ | refine s_draw ?_ | refine s_block ?_ | ((first | apply s_condT | (apply s_alone; apply s_condT)); (· (simp only [q0, q1, q2, q3, q4, q5, q6, List.map, Option.map, Nat.reduceEqDiff, ↓reduceIte]; first | done | rfl))) | ((first | apply s_condF | (apply s_alone; apply s_condF)); (· (simp only [q0, q1, q2, q3, q4, q5, q6, List.map, Option.map, Nat.reduceEqDiff, ↓reduceIte]; first | done | rfl))) | refine w_skip ?_ | refine w_exit ?_ | refine w_ret ?_ | refine l_ops ?_ | refine l_draw ?_ | (apply s_alone; refine s_block ?_) | ((first | apply o_off | apply d_off); (· (simp only [q0, q1, q2, q3, q4, q5, q6, List.map, Option.map, Nat.reduceEqDiff, ↓reduceIte]; first | done | rfl))) | (apply d_callOn; iterate 3 (· (simp only [q0, q1, q2, q3, q4, q5, q6, List.map, Option.map, Nat.reduceEqDiff, ↓reduceIte]; first | done | rfl))))
  have w3 : IntKind.i64.wrap (n : Int) = n := wrap_i64 (by omega) (by omega)
  rw [w3]
  repeat (first | ((first | apply o_call | apply d_call); iterate 2 (· (simp only [q0, q1, q2, q3, q4, q5, q6, List.map, Option.map, Nat.reduceEqDiff, ↓reduceIte]; first | done | rfl))) | ((first | apply o_step | apply d_st | (apply d_step; (· decide)) | (apply d_new; (· rfl)) | (apply o_on; (· (simp only [q0, q1, q2, q3, q4, q5, q6, List.map, Option.map, Nat.reduceEqDiff, ↓reduceIte]; first | done | rfl))) | (apply d_on; (· (simp only [q0, q1, q2, q3, q4, q5, q6, List.map, Option.map, Nat.reduceEqDiff, ↓reduceIte]; first | done | rfl)); (· decide))); (· ((first | exact a_new | exact a_mkmap | exact a_cnst | exact a_rowlit0 | ((first | apply a_mv | apply a_ld | apply a_len | apply a_ext | apply a_not | apply a_faddr | apply a_nilc | apply a_conv | apply a_neg | apply a_row1 | apply a_build1 | apply a_box | apply a_fld); (· (simp only [q0, q1, q2, q3, q4, q5, q6, List.map, Option.map, Nat.reduceEqDiff, ↓reduceIte]; first | done | rfl))) | ((first | apply a_bin | apply a_iaddr | apply a_iaddrA | apply a_st | apply a_eqn | apply a_eqb | apply a_mkslice | apply a_lookup | apply a_lookup2 | apply a_func | apply a_del1 | apply a_pickT); iterate 2 (· (simp only [q0, q1, q2, q3, q4, q5, q6, List.map, Option.map, Nat.reduceEqDiff, ↓reduceIte]; first | done | rfl))) | (apply a_pickF; iterate 2 (· (simp only [q0, q1, q2, q3, q4, q5, q6, List.map, Option.map, Nat.reduceEqDiff, ↓reduceIte]; first | done | rfl))) | ((first | apply a_pick | apply a_slice | apply a_mapup); iterate 3 (· (simp only [q0, q1, q2, q3, q4, q5, q6, List.map, Option.map, Nat.reduceEqDiff, ↓reduceIte]; first | done | rfl)))); all_goals (first | with_reducible rfl | (simp (disch := omega) only [binA_add, binA_sub, binA_mul, binA_rem, binA_eql, binA_neq, binA_lss, binA_leq, binA_gtr, binA_geq, wrap_i64, iaddrS_sl, List.getElem?_cons_zero, List.getElem?_cons_succ, Int.toNat_natCast, Nat.mul_one, Nat.zero_add]; first | done | rfl) | rfl | omega)))) | refine o_nil ?_ | refine d_nil ?_ | with_reducible refine aft_normal ?_ | with_reducible refine aft_same ?_ | with_reducible refine aft_ret ?_ | with_reducible refine aft_other (by decide) ?_ | with_reducible refine b_jump ?_ | with_reducible refine il_jump ?_ | refine s_seq ?_ | refine s_skip ?_ | refine s_exit ?_ | refine s_ret ?_ | refine s_ops ?_ | refine s_draw ?_ | refine s_block ?_ | ((first | apply s_condT | (apply s_alone; apply s_condT)); (· (simp only [q0, q1, q2, q3, q4, q5, q6, List.map, Option.map, Nat.reduceEqDiff, ↓reduceIte]; first | done | rfl))) | ((first | apply s_condF | (apply s_alone; apply s_condF)); (· (simp only [q0, q1, q2, q3, q4, q5, q6, List.map, Option.map, Nat.reduceEqDiff, ↓reduceIte]; first | done | rfl))) | refine w_skip ?_ | refine w_exit ?_ | refine w_ret ?_ | refine l_ops ?_ | refine l_draw ?_ | (apply s_alone; refine s_block ?_) | ((first | apply o_off | apply d_off); (· (simp only [q0, q1, q2, q3, q4, q5, q6, List.map, Option.map, Nat.reduceEqDiff, ↓reduceIte]; first | done | rfl))) | (apply d_callOn; iterate 3 (· (simp only [q0, q1, q2, q3, q4, q5, q6, List.map, Option.map, Nat.reduceEqDiff, ↓reduceIte]; first | done | rfl))))
  simp only [Int.toNat_natCast]
  let row (k : Nat) : List AV := (List.range n).map fun i : Nat => AV.i64 (if i < k then x else 0)
  have hrl : ∀ k, (row k).length = n := by intro k; simp [row]
  have hr0 : repl n [AV.lit (AL.int IntKind.i64 0)] = row 0 := by
    simp only [row, Nat.not_lt_zero, if_false, List.map_const', List.length_range, repl, List.flatten_replicate_singleton]
  have hsp : ∀ k m, k + m ≤ n → splice (row k) k (List.replicate m (.i64 x)) = row (k + m) := by
    intro k m hkm
    apply List.ext_getElem?
    intro i
    rw [splice_get]
    simp only [List.length_replicate, hrl]
    by_cases hi : i < n
    · simp only [row, List.getElem?_map, List.getElem?_range hi, Option.map_some]
      split
      · rw [List.getElem?_replicate, if_pos (by omega), if_pos (by omega)]
      · by_cases hk : i < k
        · rw [if_pos hk, if_pos (by omega)]
        · rw [if_neg hk, if_neg (by omega)]
    · rw [if_neg (by omega)]
      simp [row, hi]
  have htk : ∀ k m, m ≤ k → k ≤ n → ((row k).take k).take m = List.replicate m (.i64 x) := by
    intro k m h1 h2
    apply List.ext_getElem (by simp [hrl]; omega)
    intro i h3 h4
    simp only [List.length_replicate] at h4
    simp only [List.getElem_take, row, List.getElem_map, List.getElem_range, List.getElem_replicate]
    rw [if_pos (by omega)]
  rw [hr0]
  have hrow : ∀ k, rowOf (h ++ [.row (row k)]) h.length = some (row k) := fun k => rowOf_last
  have hset : ∀ k r, (h ++ [AO.row (row k)]).set h.length (.row r) = h ++ [.row r] := by
    intro k r
    simp [List.set_append_right _ _ (Nat.le_refl _)]
  have hc1 := a_cpy (g := Env.ev [(31, .sl h.length 0 n 1), (32, .sl j 0 1 1)]) (h := h ++ [.row (row 0)]) (d := .t 31) (s := .t 32) (by (simp only [q0, q1, q2, q3, q4, q5, q6, List.map, Option.map, Nat.reduceEqDiff, ↓reduceIte]; first | done | rfl)) (sliceCells_sl (sz := 1) (len := 1) (rowOf_app hj) (by simp)) (by (simp only [q0, q1, q2, q3, q4, q5, q6, List.map, Option.map, Nat.reduceEqDiff, ↓reduceIte]; first | done | rfl)) (hrow 0) (by rw [hrl]; omega)
  have e1 : min 1 n = 1 := by omega
  rw [hset, e1, show splice (row 0) 0 (List.take (1 * 1) (I64s [x])) = row 1 from hsp 0 1 (by omega)] at hc1
  apply o_step
  · exact hc1
  repeat (first | ((first | apply o_call | apply d_call); iterate 2 (· (simp only [q0, q1, q2, q3, q4, q5, q6, List.map, Option.map, Nat.reduceEqDiff, ↓reduceIte]; first | done | rfl))) | ((first | apply o_step | apply d_st | (apply d_step; (· decide)) | (apply d_new; (· rfl)) | (apply o_on; (· (simp only [q0, q1, q2, q3, q4, q5, q6, List.map, Option.map, Nat.reduceEqDiff, ↓reduceIte]; first | done | rfl))) | (apply d_on; (· (simp only [q0, q1, q2, q3, q4, q5, q6, List.map, Option.map, Nat.reduceEqDiff, ↓reduceIte]; first | done | rfl)); (· decide))); (· ((first | exact a_new | exact a_mkmap | exact a_cnst | exact a_rowlit0 | ((first | apply a_mv | apply a_ld | apply a_len | apply a_ext | apply a_not | apply a_faddr | apply a_nilc | apply a_conv | apply a_neg | apply a_row1 | apply a_build1 | apply a_box | apply a_fld); (· (simp only [q0, q1, q2, q3, q4, q5, q6, List.map, Option.map, Nat.reduceEqDiff, ↓reduceIte]; first | done | rfl))) | ((first | apply a_bin | apply a_iaddr | apply a_iaddrA | apply a_st | apply a_eqn | apply a_eqb | apply a_mkslice | apply a_lookup | apply a_lookup2 | apply a_func | apply a_del1 | apply a_pickT); iterate 2 (· (simp only [q0, q1, q2, q3, q4, q5, q6, List.map, Option.map, Nat.reduceEqDiff, ↓reduceIte]; first | done | rfl))) | (apply a_pickF; iterate 2 (· (simp only [q0, q1, q2, q3, q4, q5, q6, List.map, Option.map, Nat.reduceEqDiff, ↓reduceIte]; first | done | rfl))) | ((first | apply a_pick | apply a_slice | apply a_mapup); iterate 3 (· (simp only [q0, q1, q2, q3, q4, q5, q6, List.map, Option.map, Nat.reduceEqDiff, ↓reduceIte]; first | done | rfl)))); all_goals (first | with_reducible rfl | (simp (disch := omega) only [binA_add, binA_sub, binA_mul, binA_rem, binA_eql, binA_neq, binA_lss, binA_leq, binA_gtr, binA_geq, wrap_i64, iaddrS_sl, List.getElem?_cons_zero, List.getElem?_cons_succ, Int.toNat_natCast, Nat.mul_one, Nat.zero_add]; first | done | rfl) | rfl | omega)))) | refine o_nil ?_ | refine d_nil ?_ | with_reducible refine aft_normal ?_ | with_reducible refine aft_same ?_ | with_reducible refine aft_ret ?_ | with_reducible refine aft_other (by decide) ?_ | with_reducible refine b_jump ?_ | with_reducible refine il_jump ?_ | refine s_seq ?_ | refine s_skip ?_ | refine s_exit ?_ | refine s_ret ?_ | refine s_ops ?_ | refine s_draw ?_ | refine s_block ?_ | ((first | apply s_condT | (apply s_alone; apply s_condT)); (· (simp only [q0, q1, q2, q3, q4, q5, q6, List.map, Option.map, Nat.reduceEqDiff, ↓reduceIte]; first | done | rfl))) | ((first | apply s_condF | (apply s_alone; apply s_condF)); (· (simp only [q0, q1, q2, q3, q4, q5, q6, List.map, Option.map, Nat.reduceEqDiff, ↓reduceIte]; first | done | rfl))) | refine w_skip ?_ | refine w_exit ?_ | refine w_ret ?_ | refine l_ops ?_ | refine l_draw ?_ | (apply s_alone; refine s_block ?_) | ((first | apply o_off | apply d_off); (· (simp only [q0, q1, q2, q3, q4, q5, q6, List.map, Option.map, Nat.reduceEqDiff, ↓reduceIte]; first | done | rfl))) | (apply d_callOn; iterate 3 (· (simp only [q0, q1, q2, q3, q4, q5, q6, List.map, Option.map, Nat.reduceEqDiff, ↓reduceIte]; first | done | rfl))))
  refine s_loop (fun k : Nat => [(7, .sl h.length 0 n 1), (8, .i64 k)]) (fun k => h ++ [.row (row k)]) (fun k => 1 ≤ k ∧ k ≤ n) (fun k => n - k) 1 (by (simp only [q0, q1, q2, q3, q4, q5, q6, List.map, Option.map, Nat.reduceEqDiff, ↓reduceIte]; first | done | rfl)) rfl ⟨by omega, by omega⟩ ?_
  rintro k ⟨hk1, hk2⟩
  by_cases hl : k < n
  · repeat (first | ((first | apply o_call | apply d_call); iterate 2 (· (simp only [q0, q1, q2, q3, q4, q5, q6, List.map, Option.map, Nat.reduceEqDiff, ↓reduceIte]; first | done | rfl))) | ((first | apply o_step | apply d_st | (apply d_step; (· decide)) | (apply d_new; (· rfl)) | (apply o_on; (· (simp only [q0, q1, q2, q3, q4, q5, q6, List.map, Option.map, Nat.reduceEqDiff, ↓reduceIte]; first | done | rfl))) | (apply d_on; (· (simp only [q0, q1, q2, q3, q4, q5, q6, List.map, Option.map, Nat.reduceEqDiff, ↓reduceIte]; first | done | rfl)); (· decide))); (· ((first | exact a_new | exact a_mkmap | exact a_cnst | exact a_rowlit0 | ((first | apply a_mv | apply a_ld | apply a_len | apply a_ext | apply a_not | apply a_faddr | apply a_nilc | apply a_conv | apply a_neg | apply a_row1 | apply a_build1 | apply a_box | apply a_fld); (· (simp only [q0, q1, q2, q3, q4, q5, q6, List.map, Option.map, Nat.reduceEqDiff, ↓reduceIte]; first | done | rfl))) | ((first | apply a_bin | apply a_iaddr | apply a_iaddrA | apply a_st | apply a_eqn | apply a_eqb | apply a_mkslice | apply a_lookup | apply a_lookup2 | apply a_func | apply a_del1 | apply a_pickT); iterate 2 (· (simp only [q0, q1, q2, q3, q4, q5, q6, List.map, Option.map, Nat.reduceEqDiff, ↓reduceIte]; first | done | rfl))) | (apply a_pickF; iterate 2 (· (simp only [q0, q1, q2, q3, q4, q5, q6, List.map, Option.map, Nat.reduceEqDiff, ↓reduceIte]; first | done | rfl))) | ((first | apply a_pick | apply a_slice | apply a_mapup); iterate 3 (· (simp only [q0, q1, q2, q3, q4, q5, q6, List.map, Option.map, Nat.reduceEqDiff, ↓reduceIte]; first | done | rfl)))); all_goals (first | with_reducible rfl | (simp (disch := omega) only [binA_add, binA_sub, binA_mul, binA_rem, binA_eql, binA_neq, binA_lss, binA_leq, binA_gtr, binA_geq, wrap_i64, iaddrS_sl, List.getElem?_cons_zero, List.getElem?_cons_succ, Int.toNat_natCast, Nat.mul_one, Nat.zero_add, decide_eq_true (show (k : Int) < n by omega), sliceSl_lo hl, sliceSl_hi hk2]; first | done | rfl) | rfl | omega)))) | refine o_nil ?_ | refine d_nil ?_ | with_reducible refine aft_normal ?_ | with_reducible refine aft_same ?_ | with_reducible refine aft_ret ?_ | with_reducible refine aft_other (by decide) ?_ | with_reducible refine b_jump ?_ | with_reducible refine il_jump ?_ | refine s_seq ?_ | refine s_skip ?_ | refine s_exit ?_ | refine s_ret ?_ | refine s_ops ?_ | refine s_draw ?_ | refine s_block ?_ | ((first | apply s_condT | (apply s_alone; apply s_condT)); (· (simp only [q0, q1, q2, q3, q4, q5, q6, List.map, Option.map, Nat.reduceEqDiff, ↓reduceIte]; first | done | rfl))) | ((first | apply s_condF | (apply s_alone; apply s_condF)); (· (simp only [q0, q1, q2, q3, q4, q5, q6, List.map, Option.map, Nat.reduceEqDiff, ↓reduceIte]; first | done | rfl))) | refine w_skip ?_ | refine w_exit ?_ | refine w_ret ?_ | refine l_ops ?_ | refine l_draw ?_ | (apply s_alone; refine s_block ?_) | ((first | apply o_off | apply d_off); (· (simp only [q0, q1, q2, q3, q4, q5, q6, List.map, Option.map, Nat.reduceEqDiff, ↓reduceIte]; first | done | rfl))) | (apply d_callOn; iterate 3 (· (simp only [q0, q1, q2, q3, q4, q5, q6, List.map, Option.map, Nat.reduceEqDiff, ↓reduceIte]; first | done | rfl))))
    have hsc : sliceCells (h ++ [.row (row k)]) 1 (.sl h.length 0 k 1) = some ((row k).take k, k) := by
      simp only [sliceCells, hrow]
      rw [if_pos ⟨trivial, by rw [hrl]; omega⟩, List.drop_zero, Nat.mul_one]
    have hck := a_cpy (g := Env.ev [(41, .sl h.length k (n - k) 1), (44, .sl h.length 0 k 1)]) (h := h ++ [.row (row k)]) (d := .t 41) (s := .t 44) (by (simp only [q0, q1, q2, q3, q4, q5, q6, List.map, Option.map, Nat.reduceEqDiff, ↓reduceIte]; first | done | rfl)) hsc (by (simp only [q0, q1, q2, q3, q4, q5, q6, List.map, Option.map, Nat.reduceEqDiff, ↓reduceIte]; first | done | rfl)) (hrow k) (by rw [hrl]; omega)
    rw [hset, Nat.mul_one, htk k _ (by omega) hk2, hsp k _ (by omega)] at hck
    refine d_write (c := 0) rfl hck (by simp) rfl ?_
    repeat (first | ((first | apply o_call | apply d_call); iterate 2 (· (simp only [q0, q1, q2, q3, q4, q5, q6, List.map, Option.map, Nat.reduceEqDiff, ↓reduceIte]; first | done | rfl))) | ((first | apply o_step | apply d_st | (apply d_step; (· decide)) | (apply d_new; (· rfl)) | (apply o_on; (· (simp only [q0, q1, q2, q3, q4, q5, q6, List.map, Option.map, Nat.reduceEqDiff, ↓reduceIte]; first | done | rfl))) | (apply d_on; (· (simp only [q0, q1, q2, q3, q4, q5, q6, List.map, Option.map, Nat.reduceEqDiff, ↓reduceIte]; first | done | rfl)); (· decide))); (· ((first | exact a_new | exact a_mkmap | exact a_cnst | exact a_rowlit0 | ((first | apply a_mv | apply a_ld | apply a_len | apply a_ext | apply a_not | apply a_faddr | apply a_nilc | apply a_conv | apply a_neg | apply a_row1 | apply a_build1 | apply a_box | apply a_fld); (· (simp only [q0, q1, q2, q3, q4, q5, q6, List.map, Option.map, Nat.reduceEqDiff, ↓reduceIte]; first | done | rfl))) | ((first | apply a_bin | apply a_iaddr | apply a_iaddrA | apply a_st | apply a_eqn | apply a_eqb | apply a_mkslice | apply a_lookup | apply a_lookup2 | apply a_func | apply a_del1 | apply a_pickT); iterate 2 (· (simp only [q0, q1, q2, q3, q4, q5, q6, List.map, Option.map, Nat.reduceEqDiff, ↓reduceIte]; first | done | rfl))) | (apply a_pickF; iterate 2 (· (simp only [q0, q1, q2, q3, q4, q5, q6, List.map, Option.map, Nat.reduceEqDiff, ↓reduceIte]; first | done | rfl))) | ((first | apply a_pick | apply a_slice | apply a_mapup); iterate 3 (· (simp only [q0, q1, q2, q3, q4, q5, q6, List.map, Option.map, Nat.reduceEqDiff, ↓reduceIte]; first | done | rfl)))); all_goals (first | with_reducible rfl | (simp (disch := omega) only [binA_add, binA_sub, binA_mul, binA_rem, binA_eql, binA_neq, binA_lss, binA_leq, binA_gtr, binA_geq, wrap_i64, iaddrS_sl, List.getElem?_cons_zero, List.getElem?_cons_succ, Int.toNat_natCast, Nat.mul_one, Nat.zero_add]; first | done | rfl) | rfl | omega)))) | refine o_nil ?_ | refine d_nil ?_ | with_reducible refine aft_normal ?_ | with_reducible refine aft_same ?_ | with_reducible refine aft_ret ?_ | with_reducible refine aft_other (by decide) ?_ | with_reducible refine b_jump ?_ | with_reducible refine il_jump ?_ | refine s_seq ?_ | refine s_skip ?_ | refine s_exit ?_ | refine s_ret ?_ | refine s_ops ?_ | refine s_draw ?_ | refine s_block ?_ | ((first | apply s_condT | (apply s_alone; apply s_condT)); (· (simp only [q0, q1, q2, q3, q4, q5, q6, List.map, Option.map, Nat.reduceEqDiff, ↓reduceIte]; first | done | rfl))) | ((first | apply s_condF | (apply s_alone; apply s_condF)); (· (simp only [q0, q1, q2, q3, q4, q5, q6, List.map, Option.map, Nat.reduceEqDiff, ↓reduceIte]; first | done | rfl))) | refine w_skip ?_ | refine w_exit ?_ | refine w_ret ?_ | refine l_ops ?_ | refine l_draw ?_ | (apply s_alone; refine s_block ?_) | ((first | apply o_off | apply d_off); (· (simp only [q0, q1, q2, q3, q4, q5, q6, List.map, Option.map, Nat.reduceEqDiff, ↓reduceIte]; first | done | rfl))) | (apply d_callOn; iterate 3 (· (simp only [q0, q1, q2, q3, q4, q5, q6, List.map, Option.map, Nat.reduceEqDiff, ↓reduceIte]; first | done | rfl))))
    exact b_normal (k + min k (n - k)) ⟨by omega, by omega⟩ (by omega) (by (simp only [q0, q1, q2, q3, q4, q5, q6, List.map, Option.map, Nat.reduceEqDiff, ↓reduceIte]; first | done | rfl)) rfl
  · repeat (first | ((first | apply o_call | apply d_call); iterate 2 (· (simp only [q0, q1, q2, q3, q4, q5, q6, List.map, Option.map, Nat.reduceEqDiff, ↓reduceIte]; first | done | rfl))) | ((first | apply o_step | apply d_st | (apply d_step; (· decide)) | (apply d_new; (· rfl)) | (apply o_on; (· (simp only [q0, q1, q2, q3, q4, q5, q6, List.map, Option.map, Nat.reduceEqDiff, ↓reduceIte]; first | done | rfl))) | (apply d_on; (· (simp only [q0, q1, q2, q3, q4, q5, q6, List.map, Option.map, Nat.reduceEqDiff, ↓reduceIte]; first | done | rfl)); (· decide))); (· ((first | exact a_new | exact a_mkmap | exact a_cnst | exact a_rowlit0 | ((first | apply a_mv | apply a_ld | apply a_len | apply a_ext | apply a_not | apply a_faddr | apply a_nilc | apply a_conv | apply a_neg | apply a_row1 | apply a_build1 | apply a_box | apply a_fld); (· (simp only [q0, q1, q2, q3, q4, q5, q6, List.map, Option.map, Nat.reduceEqDiff, ↓reduceIte]; first | done | rfl))) | ((first | apply a_bin | apply a_iaddr | apply a_iaddrA | apply a_st | apply a_eqn | apply a_eqb | apply a_mkslice | apply a_lookup | apply a_lookup2 | apply a_func | apply a_del1 | apply a_pickT); iterate 2 (· (simp only [q0, q1, q2, q3, q4, q5, q6, List.map, Option.map, Nat.reduceEqDiff, ↓reduceIte]; first | done | rfl))) | (apply a_pickF; iterate 2 (· (simp only [q0, q1, q2, q3, q4, q5, q6, List.map, Option.map, Nat.reduceEqDiff, ↓reduceIte]; first | done | rfl))) | ((first | apply a_pick | apply a_slice | apply a_mapup); iterate 3 (· (simp only [q0, q1, q2, q3, q4, q5, q6, List.map, Option.map, Nat.reduceEqDiff, ↓reduceIte]; first | done | rfl)))); all_goals (first | with_reducible rfl | (simp (disch := omega) only [binA_add, binA_sub, binA_mul, binA_rem, binA_eql, binA_neq, binA_lss, binA_leq, binA_gtr, binA_geq, wrap_i64, iaddrS_sl, List.getElem?_cons_zero, List.getElem?_cons_succ, Int.toNat_natCast, Nat.mul_one, Nat.zero_add, decide_eq_false (show ¬ (k : Int) < n by omega)]; first | done | rfl) | rfl | omega)))) | refine o_nil ?_ | refine d_nil ?_ | with_reducible refine aft_normal ?_ | with_reducible refine aft_same ?_ | with_reducible refine aft_ret ?_ | with_reducible refine aft_other (by decide) ?_ | with_reducible refine b_jump ?_ | with_reducible refine il_jump ?_ | refine s_seq ?_ | refine s_skip ?_ | refine s_exit ?_ | refine s_ret ?_ | refine s_ops ?_ | refine s_draw ?_ | refine s_block ?_ | ((first | apply s_condT | (apply s_alone; apply s_condT)); (· (simp only [q0, q1, q2, q3, q4, q5, q6, List.map, Option.map, Nat.reduceEqDiff, ↓reduceIte]; first | done | rfl))) | ((first | apply s_condF | (apply s_alone; apply s_condF)); (· (simp only [q0, q1, q2, q3, q4, q5, q6, List.map, Option.map, Nat.reduceEqDiff, ↓reduceIte]; first | done | rfl))) | refine w_skip ?_ | refine w_exit ?_ | refine w_ret ?_ | refine l_ops ?_ | refine l_draw ?_ | (apply s_alone; refine s_block ?_) | ((first | apply o_off | apply d_off); (· (simp only [q0, q1, q2, q3, q4, q5, q6, List.map, Option.map, Nat.reduceEqDiff, ↓reduceIte]; first | done | rfl))) | (apply d_callOn; iterate 3 (· (simp only [q0, q1, q2, q3, q4, q5, q6, List.map, Option.map, Nat.reduceEqDiff, ↓reduceIte]; first | done | rfl))))
    (first | refine a_ret (by (simp only [resA, Env.put, Env.get, Nat.reduceEqDiff, ↓reduceIte, Option.map_some]; first | done | rfl)) ?_ | refine a_normal (by (simp only [resA, Env.put, Env.get, Nat.reduceEqDiff, ↓reduceIte, Option.map_some]; first | done | rfl)) ?_)
    refine hQ _ _ ⟨h.length, Nat.le_refl _, by rw [List.length_replicate]; rfl, ?_⟩ (Kp.app (Nat.le_refl _))
    have : k = n := by omega
    subst this
    rw [hrow]
    congr 1
    apply List.ext_getElem (by simp [hrl])
    intro i h1 h2
    simp only [row, List.getElem_map, List.getElem_range, List.getElem_replicate]
    rw [if_pos (by simpa using h2)]

end Go.Ab.S1

/- Split's ranks by colors. -/
namespace Go.Ab.S1
open Go Go.Ab
variable {h h' : Heap}

/-! ### A map with numbers as keys -/

theorem find_none {c : Int} {es : List (AV × AV)} {ks : List Int} (hk : es.map (·.1) = ks.map AV.i64) (hc : c ∉ ks) (i : Nat) : findA (.i64 c) es i = some none := by
  induction es generalizing ks i with
  | nil => rfl
  | cons e es ih =>
    obtain ⟨k, v⟩ := e
    cases ks with
    | nil => simp at hk
    | cons k' ks =>
      simp only [List.map_cons, List.cons.injEq] at hk
      obtain ⟨rfl, hk⟩ := hk
      simp only [List.mem_cons, not_or] at hc
      have : (c == k') = false := by simpa using hc.1
      simp only [findA, keyEq, if_true, this]
      exact ih hk hc.2 _

theorem find_some {c : Int} {es : List (AV × AV)} {ks : List Int} (hk : es.map (·.1) = ks.map AV.i64) (hc : c ∈ ks) (i : Nat) : ∃ k v, es[k]? = some (.i64 c, v) ∧ findA (.i64 c) es i = some (some (i + k, v)) := by
  induction es generalizing ks i with
  | nil => cases ks <;> simp_all
  | cons e es ih =>
    obtain ⟨k, v⟩ := e
    cases ks with
    | nil => simp at hk
    | cons k' ks =>
      simp only [List.map_cons, List.cons.injEq] at hk
      obtain ⟨rfl, hk⟩ := hk
      by_cases e : c = k'
      · subst e
        exact ⟨0, v, by simp, by simp [findA, keyEq]⟩
      · have : (c == k') = false := by simpa using e
        simp only [List.mem_cons, e, false_or] at hc
        obtain ⟨q, u, h1, h2⟩ := ih hk hc (i + 1)
        refine ⟨q + 1, u, by simpa using h1, ?_⟩
        simp only [findA, keyEq, if_true, this, h2]
        congr 3; omega

theorem keysOf_map {es : List (AV × AV)} {ks : List Int} (hk : es.map (·.1) = ks.map AV.i64) : keysOf es = some ks := by
  induction es generalizing ks with
  | nil => cases ks <;> simp_all [keysOf]
  | cons e es ih =>
    obtain ⟨k, v⟩ := e
    cases ks with
    | nil => simp at hk
    | cons k' ks =>
      simp only [List.map_cons, List.cons.injEq] at hk
      obtain ⟨rfl, hk⟩ := hk
      simp [keysOf, ih hk]

/-- A map of slices, each its own. -/
structure RM (h : Heap) (mm lo hi : Nat) (es : List (AV × AV)) (ks : List Int) (f : Int → List Int) : Prop where
  map : mapOf h mm = some es
  keys : es.map (·.1) = ks.map AV.i64
  nd : ks.Nodup
  val : ∀ (k : Nat) (c : Int) (v : AV), es[k]? = some (.i64 c, v) → ∃ j, lo ≤ j ∧ j < hi ∧ v = .sl j 0 (f c).length 1 ∧ rowOf h j = some (I64s (f c))
  inj : ∀ (k1 k2 : Nat) (c1 c2 : Int) (j n1 n2 : Nat), es[k1]? = some (.i64 c1, .sl j 0 n1 1) → es[k2]? = some (.i64 c2, .sl j 0 n2 1) → k1 = k2

variable {mm lo hi : Nat} {es : List (AV × AV)} {ks : List Int} {f f' : Int → List Int}

theorem RM.key (r : RM h mm lo hi es ks f) {k : Nat} {c : Int} {v : AV} (he : es[k]? = some (.i64 c, v)) : ks[k]? = some c := by
  have := congrArg (·[k]?) r.keys
  simp only [List.getElem?_map, he, Option.map_some] at this
  cases hk : ks[k]? with
  | none => rw [hk] at this; simp at this
  | some c' => rw [hk] at this; simp at this; rw [this]

theorem RM.same (r : RM h mm lo hi es ks f) {k k' : Nat} {c : Int} {v v' : AV} (he : es[k]? = some (.i64 c, v)) (he' : es[k']? = some (.i64 c, v')) : k = k' := by
  have h1 := r.key he
  have h2 := r.key he'
  obtain ⟨p1, p2⟩ := List.getElem?_eq_some_iff.1 h1
  obtain ⟨q1, q2⟩ := List.getElem?_eq_some_iff.1 h2
  exact (List.getElem_inj r.nd).1 (p2.trans q2.symm)

theorem RM.kp (r : RM h mm lo hi es ks f) {m : Option Nat} (k : Kp h.length m h h') (hm : ∀ x, m = some x → x ≠ mm ∧ ¬ (lo ≤ x ∧ x < hi)) : RM h' mm lo hi es ks f where
  map := k.map r.map (mapOf_lt r.map) (fun e => (hm mm e.symm).1 rfl)
  keys := r.keys
  nd := r.nd
  val q c v hv := by
    obtain ⟨j, h1, h2, h3, h4⟩ := r.val q c v hv
    exact ⟨j, h1, h2, h3, k.row h4 (rowOf_lt h4) (fun e => (hm j e.symm).2 ⟨h1, h2⟩)⟩
  inj := r.inj

theorem RM.congr (r : RM h mm lo hi es ks f) (hf : ∀ c ∈ ks, f c = f' c) : RM h mm lo hi es ks f' where
  map := r.map
  keys := r.keys
  nd := r.nd
  val q c v hv := by
    have := r.val q c v hv
    rw [hf c (List.mem_of_getElem? (r.key hv))] at this
    exact this
  inj := r.inj

/-- One slice turns in place. -/
theorem RM.sort (r : RM h mm lo hi es ks f) {k j n : Nat} {c : Int} (he : es[k]? = some (.i64 c, .sl j 0 n 1)) (hl : (f' c).length = (f c).length) (ho : ∀ c', c' ≠ c → f' c' = f c') :
    RM (h.set j (.row (I64s (f' c)))) mm lo hi es ks f' where
  map := by
    obtain ⟨j', h1, h2, h3, h4⟩ := r.val k c _ he
    cases h3
    exact mapOf_set_ne (row_ne_map h4 r.map) r.map
  keys := r.keys
  nd := r.nd
  val q c' v hv := by
    obtain ⟨j', h1, h2, h3, h4⟩ := r.val q c' v hv
    by_cases e : c' = c
    · subst e
      have hq := r.same hv he
      subst hq
      rw [hv] at he
      cases he
      cases h3
      exact ⟨j, h1, h2, by rw [hl], rowOf_set_eq (rowOf_lt h4)⟩
    · subst h3
      refine ⟨j', h1, h2, by rw [ho _ e], ?_⟩
      rw [ho _ e]
      refine rowOf_set_ne ?_ h4
      rintro rfl
      have hq := r.inj _ _ _ _ _ _ _ he hv
      subst hq
      rw [hv] at he
      cases he
      exact e rfl
  inj := r.inj

/-- A slice has been replaced by a longer one. -/
theorem RM.put (r : RM h mm lo hi es ks f) {k j n j' hi' : Nat} {c : Int} (he : es[k]? = some (.i64 c, .sl j 0 n 1)) (kp : Kp h.length (some j) h h') (hr : rowOf h' j' = some (I64s (f' c))) (h1 : lo ≤ j') (h2 : hi ≤ j') (h3 : j' < hi') (ho : ∀ c', c' ≠ c → f' c' = f c') :
    RM (h'.set mm (.map (setVal es k (.sl j' 0 (f' c).length 1)))) mm lo hi' (setVal es k (.sl j' 0 (f' c).length 1)) ks f' := by
  obtain ⟨j0, g1, g2, g3, g4⟩ := r.val k c _ he
  cases g3
  have hjm : j ≠ mm := row_ne_map g4 r.map
  have hm' : mapOf h' mm = some es := kp.map r.map (mapOf_lt r.map) (fun e => hjm (by cases e; rfl))
  have hj'm : j' ≠ mm := row_ne_map hr hm'
  have get : ∀ (q : Nat) (c' : Int) (v : AV), (setVal es k (.sl j' 0 (f' c).length 1))[q]? = some (.i64 c', v) → (q = k ∧ c' = c ∧ v = .sl j' 0 (f' c).length 1) ∨ (q ≠ k ∧ c' ≠ c ∧ es[q]? = some (.i64 c', v)) := by
    intro q c' v hv
    simp only [setVal, List.getElem?_modify] at hv
    by_cases e : k = q
    · subst e
      simp only [he, if_true, Option.map_eq_map, Option.map_some, Option.some.injEq, Prod.mk.injEq, AV.lit.injEq, AL.int.injEq, true_and] at hv
      exact .inl ⟨rfl, hv.1.symm, hv.2.symm⟩
    · simp only [if_neg e, Option.map_eq_map, Option.map_id_fun', id_eq] at hv
      refine .inr ⟨fun h => e h.symm, ?_, hv⟩
      rintro rfl
      exact e (r.same he hv)
  refine ⟨mapOf_set_eq (mapOf_lt hm'), ?_, r.nd, ?_, ?_⟩
  · rw [← r.keys]
    apply List.ext_getElem?
    intro q
    simp only [setVal, List.getElem?_map, List.getElem?_modify]
    cases es[q]? with
    | none => simp
    | some e => by_cases h : k = q <;> simp [h]
  · intro q c' v hv
    rcases get q c' v hv with ⟨rfl, rfl, rfl⟩ | ⟨-, hc, hv⟩
    · exact ⟨j', h1, h3, rfl, rowOf_set_ne (fun e => hj'm e.symm) hr⟩
    · obtain ⟨jj, p1, p2, p3, p4⟩ := r.val q c' v hv
      subst p3
      refine ⟨jj, p1, by omega, by rw [ho _ hc], ?_⟩
      rw [ho _ hc]
      have hne : jj ≠ j := by
        rintro rfl
        have hq := r.inj _ _ _ _ _ _ _ he hv
        subst hq
        rw [hv] at he
        cases he
        exact hc rfl
      refine rowOf_set_ne (fun e => row_ne_map p4 r.map e.symm) (kp.row p4 (rowOf_lt p4) (by simpa using hne))
  · intro k1 k2 c1 c2 jj n1 n2 e1 e2
    rcases get _ _ _ e1 with ⟨rfl, rfl, q1⟩ | ⟨-, -, q1⟩ <;> rcases get _ _ _ e2 with ⟨rfl, rfl, q2⟩ | ⟨-, -, q2⟩
    · rfl
    · cases q1
      obtain ⟨jj, p1, p2, p3, p4⟩ := r.val _ _ _ q2
      cases p3; omega
    · cases q2
      obtain ⟨jj, p1, p2, p3, p4⟩ := r.val _ _ _ q1
      cases p3; omega
    · exact r.inj _ _ _ _ _ _ _ q1 q2

/-- A new key. -/
theorem RM.add (r : RM h mm lo hi es ks f) {j' hi' : Nat} {c : Int} (hc : c ∉ ks) (kp : Kp h.length none h h') (hr : rowOf h' j' = some (I64s (f' c))) (h1 : lo ≤ j') (h2 : hi ≤ j') (h3 : j' < hi') (ho : ∀ c', c' ≠ c → f' c' = f c') :
    RM (h'.set mm (.map (es ++ [(.i64 c, .sl j' 0 (f' c).length 1)]))) mm lo hi' (es ++ [(.i64 c, .sl j' 0 (f' c).length 1)]) (ks ++ [c]) f' := by
  have hm' : mapOf h' mm = some es := kp.map r.map (mapOf_lt r.map) (by simp)
  have hj'm : j' ≠ mm := row_ne_map hr hm'
  have get : ∀ (q : Nat) (c' : Int) (v : AV), (es ++ [(.i64 c, .sl j' 0 (f' c).length 1)])[q]? = some (.i64 c', v) → (q = es.length ∧ c' = c ∧ v = .sl j' 0 (f' c).length 1) ∨ (q < es.length ∧ c' ≠ c ∧ es[q]? = some (.i64 c', v)) := by
    intro q c' v hv
    rcases Nat.lt_trichotomy q es.length with h | h | h
    · rw [List.getElem?_append_left h] at hv
      refine .inr ⟨h, ?_, hv⟩
      rintro rfl
      exact hc (List.mem_of_getElem? (r.key hv))
    · subst h
      rw [List.getElem?_append_right (Nat.le_refl _)] at hv
      simp only [Nat.sub_self, List.getElem?_cons_zero, Option.some.injEq, Prod.mk.injEq, AV.lit.injEq, AL.int.injEq, true_and] at hv
      exact .inl ⟨rfl, hv.1.symm, hv.2.symm⟩
    · rw [List.getElem?_eq_none (by simp; omega)] at hv
      cases hv
  refine ⟨mapOf_set_eq (mapOf_lt hm'), by simp [r.keys], ?_, ?_, ?_⟩
  · rw [List.nodup_append]
    exact ⟨r.nd, by simp, fun a ha b hb e => by simp at hb; subst hb; subst e; exact hc ha⟩
  · intro q c' v hv
    rcases get q c' v hv with ⟨rfl, rfl, rfl⟩ | ⟨-, hcc, hv⟩
    · exact ⟨j', h1, h3, rfl, rowOf_set_ne (fun e => hj'm e.symm) hr⟩
    · obtain ⟨jj, p1, p2, p3, p4⟩ := r.val q c' v hv
      subst p3
      refine ⟨jj, p1, by omega, by rw [ho _ hcc], ?_⟩
      rw [ho _ hcc]
      exact rowOf_set_ne (fun e => row_ne_map p4 r.map e.symm) (kp.row p4 (rowOf_lt p4) (by simp))
  · intro k1 k2 c1 c2 jj n1 n2 e1 e2
    rcases get _ _ _ e1 with ⟨rfl, rfl, q1⟩ | ⟨-, -, q1⟩ <;> rcases get _ _ _ e2 with ⟨rfl, rfl, q2⟩ | ⟨-, -, q2⟩
    · rfl
    · cases q1
      obtain ⟨jj, p1, p2, p3, p4⟩ := r.val _ _ _ q2
      cases p3; omega
    · cases q2
      obtain ⟨jj, p1, p2, p3, p4⟩ := r.val _ _ _ q1
      cases p3; omega
    · exact r.inj _ _ _ _ _ _ _ q1 q2

/-! ### Ranks by color -/

/-- The ranks below r that have a color. -/
def ranksOf (cs : List Int) (c : Int) (r : Nat) : List Int := ((List.range r).filter fun q => cs.getD q 0 == c).map fun q : Nat => (q : Int)

theorem ranksOf_yes {cs : List Int} {c : Int} {r : Nat} (hc : cs.getD r 0 = c) : ranksOf cs c (r + 1) = ranksOf cs c r ++ [(r : Int)] := by
  rw [ranksOf, List.range_succ, List.filter_append, List.map_append]
  congr 1
  simp only [List.filter_cons, hc, beq_self_eq_true, if_true, List.filter_nil, List.map_cons, List.map_nil]
theorem ranksOf_no {cs : List Int} {c : Int} {r : Nat} (hc : cs.getD r 0 ≠ c) : ranksOf cs c (r + 1) = ranksOf cs c r := by
  rw [ranksOf, List.range_succ, List.filter_append, List.map_append]
  simp only [List.filter_cons, beq_eq_false_iff_ne.2 hc, Bool.false_eq_true, if_false, List.filter_nil, List.map_nil, List.append_nil]
  rfl
theorem mem_ranksOf {cs : List Int} {c x : Int} {r : Nat} : x ∈ ranksOf cs c r ↔ ∃ q : Nat, q < r ∧ cs.getD q 0 = c ∧ (q : Int) = x := by
  simp [ranksOf, and_assoc]
theorem ranksOf_nodup {cs : List Int} {c : Int} {r : Nat} : (ranksOf cs c r).Nodup := by
  refine List.Pairwise.map _ ?_ (List.Pairwise.filter _ List.nodup_range)
  intro a b hab e
  exact hab (by omega)
theorem ranksOf_len {cs : List Int} {c : Int} {r : Nat} : (ranksOf cs c r).length ≤ r := by
  simp only [ranksOf, List.length_map]
  exact Nat.le_trans (List.length_filter_le _ _) (by simp)

end Go.Ab.S1
