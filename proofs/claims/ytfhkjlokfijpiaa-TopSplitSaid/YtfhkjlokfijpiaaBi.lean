/- TopSplit: plain laws. -/
import Derived.Test.YtfhkjlokfijpiaaBh
set_option linter.unusedSimpArgs false
set_option linter.unusedVariables false
namespace Go.Ab.S1
open Go Go.Ab

theorem nodup_bound {b : Nat} {D : List Int} (hn : D.Nodup) (hb : ∀ c ∈ D, 0 ≤ c ∧ c < (b : Int)) : D.length ≤ b := by
  induction b generalizing D with
  | zero =>
    cases D with
    | nil => simp
    | cons a l => have := hb a (by simp); omega
  | succ b ih =>
    have h1 := ih (D := D.filter (fun c => !(c == (b : Int)))) (List.Pairwise.filter _ hn) (by
      intro c hc
      rw [List.mem_filter] at hc
      have := hb c hc.1
      have h2 := hc.2
      simp at h2
      omega)
    have h2 := List.length_eq_countP_add_countP (fun c : Int => c == (b : Int)) (l := D)
    have h3 : D.countP (fun c : Int => c == (b : Int)) ≤ 1 := by
      have := List.nodup_iff_count.1 hn (b : Int)
      simpa [List.count] using this
    have h4 : D.countP (fun a => decide ¬ (a == (b : Int)) = true) = (D.filter (fun c => !(c == (b : Int)))).length := by
      rw [← List.countP_eq_length_filter]
      congr 1
      funext a
      by_cases h : a = (b : Int) <;> simp [h]
    omega

theorem upto_get {p r : Nat} (hr : r < p) : (upto p).getD r 0 = r := by
  simp [upto, List.getD, List.getElem?_map, List.getElem?_range hr]
theorem upto_len {p : Nat} : (upto p).length = p := by simp [upto]
theorem upto_mem {p : Nat} {x : Int} : x ∈ upto p ↔ 0 ≤ x ∧ x < p := by
  simp only [upto, List.mem_map, List.mem_range]
  constructor
  · rintro ⟨a, h1, rfl⟩; omega
  · intro h; exact ⟨x.toNat, by omega, by omega⟩
theorem upto_nodup {p : Nat} : (upto p).Nodup := by
  refine List.Pairwise.map _ ?_ List.nodup_range
  intro a b hab e
  exact hab (by omega)

theorem mem_range_ranks {cs : List Int} {c x : Int} {r : Nat} (hx : x ∈ ranksOf cs c r) : 0 ≤ x ∧ x < r ∧ cs.getD x.toNat 0 = c := by
  obtain ⟨q, h1, h2, rfl⟩ := mem_ranksOf.1 hx
  exact ⟨by omega, by omega, by simpa using h2⟩

/-- Over all processes a group is its ranks. -/
theorem grpOf_upto {p : Nat} {cs ks : List Int} {c : Int} (hl : cs.length = p) : grpOf (upto p) cs ks c = isort (keyOf ks) (ranksOf cs c p) := by
  rw [grpOf, hl]
  conv => rhs; rw [← List.map_id (isort (keyOf ks) (ranksOf cs c p))]
  apply List.map_congr_left
  intro x hx
  have := mem_range_ranks (isort_perm.mem_iff.1 hx)
  rw [upto_get (by omega)]
  simp; omega

/-- With no keys the order is the ranks'. -/
theorem grpOf_plain {p : Nat} {cs : List Int} {c : Int} (hl : cs.length = p) : grpOf (upto p) cs (List.replicate p 0) c = ranksOf cs c p := by
  rw [grpOf_upto hl, isort_congr (k2 := fun _ => 0), isort_const]
  intro x hx
  have := mem_range_ranks hx
  rw [keyOf, List.getD, List.getElem?_replicate, if_pos (by omega)]
  rfl

theorem ranks_pick {mem : List Int} {f : Int → Int} {c : Int} : ∀ n, n ≤ mem.length → (ranksOf (mem.map f) c n).map (fun x => mem.getD x.toNat 0) = (mem.take n).filter (fun y => f y == c)
  | 0, _ => by simp [ranksOf]
  | n + 1, hn => by
    have hn' : n < mem.length := by omega
    have ih := ranks_pick (mem := mem) (f := f) (c := c) n (by omega)
    have hg : (mem.map f).getD n 0 = f mem[n] := by simp [List.getD, List.getElem?_eq_getElem hn']
    rw [List.take_succ_eq_append_getElem hn', List.filter_append, ← ih]
    by_cases hc : f mem[n] = c
    · rw [ranksOf_yes (by rw [hg]; exact hc), List.map_append]
      simp [hc, List.getD, List.getElem?_eq_getElem hn']
    · rw [ranksOf_no (by rw [hg]; exact hc)]
      simp [hc]

theorem ranks_filter {A B : List Int} {g : Int → Int} {c d : Int} {f : Int → Int} : ∀ n, (∀ r, r < n → (B.getD r 0 = d ↔ A.getD r 0 = c ∧ f r = g c)) → (ranksOf A c n).filter (fun y => f y == g c) = ranksOf B d n
  | 0, _ => by simp [ranksOf]
  | n + 1, h => by
    have ih := ranks_filter n (fun r hr => h r (by omega))
    have hn := h n (by omega)
    by_cases ha : A.getD n 0 = c
    · rw [ranksOf_yes ha, List.filter_append, ih]
      by_cases hf : f n = g c
      · rw [ranksOf_yes (hn.2 ⟨ha, hf⟩)]
        simp [hf]
      · rw [ranksOf_no (fun e => hf (hn.1 e).2)]
        simp [hf]
    · rw [ranksOf_no ha, ih, ranksOf_no (fun e => ha (hn.1 e).1)]

/-- Divided twice, divided once: the groups are the same. -/
theorem split_twice {A B K : List Int} {c c2 d : Int} {p : Nat} {f : Int → Int} (hB : B.length = p) (h : ∀ r : Nat, r < p → (B.getD r 0 = d ↔ A.getD r 0 = c ∧ f r = c2)) :
    grpOf (ranksOf A c p) ((ranksOf A c p).map f) ((ranksOf A c p).map fun x => K.getD x.toNat 0) c2 = grpOf (upto p) B K d := by
  rw [grpOf_upto hB]
  have key := ranks_filter (A := A) (B := B) (c := c) (d := d) (f := f) (g := fun _ => c2) p h
  have pick := ranks_pick (mem := ranksOf A c p) (f := f) (c := c2) (ranksOf A c p).length (Nat.le_refl _)
  rw [List.take_length, key] at pick
  rw [grpOf, List.length_map, ← pick, isort_map]
  congr 1
  apply isort_congr
  intro x hx
  have := mem_range_ranks hx
  have hlt : x.toNat < (ranksOf A c p).length := by omega
  simp only [keyOf, List.getD, List.getElem?_map, List.getElem?_eq_getElem hlt, Option.map_some, Option.getD_some]

theorem idx_app {gs gs' : List (Int × List Int)} {c : Int} {i k : Nat} {g : List Int} (h : idx c gs i = some (k, g)) : idx c (gs ++ gs') i = some (k, g) := by
  induction gs generalizing i with
  | nil => simp [idx] at h
  | cons q gs ih =>
    obtain ⟨k', g'⟩ := q
    simp only [idx, List.cons_append] at h ⊢
    split
    · rename_i e; rw [if_pos e] at h; exact h
    · rename_i e; rw [if_neg e] at h; exact ih h

/-- A new communicator's group. -/
theorem idx_news {gs : List (Int × List Int)} {D : List Int} {F : Int → List Int} {c : Int} (hL : ∀ k : Int, k ∈ gs.map (·.1) ↔ 0 ≤ k ∧ k < gs.length) (hc : c ∈ D) :
    ∃ k, idx ((gs.length + D.idxOf c : Nat) : Int) (gs ++ news gs.length D F D.length) 0 = some (k, F c) := by
  have hx : D.idxOf c < D.length := List.idxOf_lt_length_iff.2 hc
  have hni : idx ((gs.length + D.idxOf c : Nat) : Int) gs 0 = none := idx_none.2 (fun h => by have := (hL _).1 h; omega)
  have gen : ∀ (gs gs' : List (Int × List Int)) (c : Int) (i : Nat), idx c gs i = none → idx c (gs ++ gs') i = idx c gs' (i + gs.length) := by
    intro gs
    induction gs with
    | nil => intro gs' c i _; simp
    | cons q gs ih =>
      intro gs' c i h
      obtain ⟨k', g'⟩ := q
      simp only [idx, List.cons_append] at h ⊢
      split at h
      · cases h
      · rename_i e
        rw [if_neg e, ih gs' c (i + 1) h]
        congr 1; simp; omega
  rw [gen _ _ _ _ hni]
  have hnd : ((news gs.length D F D.length).map (·.1)).Nodup := by
    simp only [news, List.map_map]
    refine List.Pairwise.map _ ?_ List.nodup_range
    intro a b hab e
    simp only [Function.comp] at e
    exact hab (by omega)
  have hget : (news gs.length D F D.length)[D.idxOf c]? = some (((gs.length + D.idxOf c : Nat) : Int), F c) := by
    simp only [news, List.getElem?_map, List.getElem?_range hx, Option.map_some]
    have : D.getD (D.idxOf c) 0 = c := by
      simp [List.getD, List.getElem?_eq_getElem hx]
    rw [this]
  exact ⟨_, idx_of_get hnd hget⟩

theorem outOf_get {L : Nat} {D cs : List Int} {n : Nat} (hn : n < cs.length) : (outOf L D cs).getD n 0 = if cs.getD n 0 = -2 then -2 else ((L + D.idxOf (cs.getD n 0) : Nat) : Int) := by
  simp [outOf, List.getD, List.getElem?_map, List.getElem?_eq_getElem hn]

/-- What is erased by its place is erased by its number. -/
theorem erase_idx {gs : List (Int × List Int)} {c : Int} {i k : Nat} {g : List Int} (hn : (gs.map (·.1)).Nodup) (h : idx c gs i = some (k, g)) : gs.eraseIdx (k - i) = gs.filter (fun e => !(e.1 == c)) := by
  induction gs generalizing i k with
  | nil => simp [idx] at h
  | cons q gs ih =>
    obtain ⟨k', g'⟩ := q
    simp only [List.map_cons, List.nodup_cons] at hn
    simp only [idx] at h
    split at h
    · rename_i e
      subst e
      cases h
      simp only [Nat.sub_self, List.eraseIdx_cons_zero, List.filter_cons, beq_self_eq_true, Bool.not_true, Bool.false_eq_true, if_false]
      symm
      rw [List.filter_eq_self]
      intro a ha
      simp only [Bool.not_eq_true', beq_eq_false_iff_ne]
      intro e
      exact hn.1 (e ▸ List.mem_map.2 ⟨a, ha, rfl⟩)
    · rename_i e
      have h1 := (idx_get h).1
      have := ih hn.2 h
      rw [show k - i = (k - (i + 1)) + 1 by omega, List.eraseIdx_cons_succ, this, List.filter_cons]
      rw [if_pos (by simp; exact fun h => e h.symm)]

end Go.Ab.S1

/- Contract: knownSplit. -/
namespace Go.Ab.S1
open Go Go.Ab
variable {T : Tab} {h : Heap} {Q : AV → Heap → Prop}

theorem two_of {D : List Int} (hs : D.Pairwise (· < ·)) (hm : ∀ c, c ∈ D ↔ c = 0 ∨ c = 1) : D = [0, 1] := by
  match D, hs, hm with
  | [], _, hm => have := (hm 0).2 (.inl rfl); simp at this
  | [a], _, hm =>
    have h0 := (hm 0).2 (.inl rfl)
    have h1 := (hm 1).2 (.inr rfl)
    simp at h0 h1
    omega
  | [a, b], hs, hm =>
    have ha := (hm a).1 (by simp)
    have hb := (hm b).1 (by simp)
    simp at hs
    have : a = 0 := by omega
    have : b = 1 := by omega
    subst_vars; rfl
  | a :: b :: c :: l, hs, hm =>
    have ha := (hm a).1 (by simp)
    have hb := (hm b).1 (by simp)
    have hc := (hm c).1 (by simp)
    simp at hs
    omega



set_option maxHeartbeats 2000000 in
theorem c_13 (hT : Has T) (hQ : ∀ h', Kp h.length none h h' → Q (.bool true) h') : WC T (.fn (.func 13) [] []) [] h Q := by
  refine wc_code (af := f13) (hT.fn _ _ rfl) rfl ?_
  unfold f13
  simp only [enter, List.append_nil, List.nil_append, List.cons_append, List.zipIdx_cons, List.zipIdx_nil, List.map_cons, List.map_nil, Nat.zero_add, Nat.reduceAdd]
  repeat (first | ((first | apply o_call | apply d_call); iterate 2 (· (simp only [q0, q1, q2, q3, q4, q5, q6, List.map, Option.map, Nat.reduceEqDiff, ↓reduceIte]; first | done | rfl))) | ((first | apply o_step | apply d_st | (apply d_step; (· decide)) | (apply d_new; (· rfl)) | (apply o_on; (· (simp only [q0, q1, q2, q3, q4, q5, q6, List.map, Option.map, Nat.reduceEqDiff, ↓reduceIte]; first | done | rfl))) | (apply d_on; (· (simp only [q0, q1, q2, q3, q4, q5, q6, List.map, Option.map, Nat.reduceEqDiff, ↓reduceIte]; first | done | rfl)); (· decide))); (· ((first | exact a_new | exact a_mkmap | exact a_cnst | exact a_rowlit0 | ((first | apply a_mv | apply a_ld | apply a_len | apply a_ext | apply a_not | apply a_faddr | apply a_nilc | apply a_conv | apply a_neg | apply a_row1 | apply a_build1 | apply a_box | apply a_fld); (· (simp only [q0, q1, q2, q3, q4, q5, q6, List.map, Option.map, Nat.reduceEqDiff, ↓reduceIte]; first | done | rfl))) | ((first | apply a_bin | apply a_iaddr | apply a_iaddrA | apply a_st | apply a_eqn | apply a_eqb | apply a_mkslice | apply a_lookup | apply a_lookup2 | apply a_func | apply a_del1 | apply a_pickT); iterate 2 (· (simp only [q0, q1, q2, q3, q4, q5, q6, List.map, Option.map, Nat.reduceEqDiff, ↓reduceIte]; first | done | rfl))) | (apply a_pickF; iterate 2 (· (simp only [q0, q1, q2, q3, q4, q5, q6, List.map, Option.map, Nat.reduceEqDiff, ↓reduceIte]; first | done | rfl))) | ((first | apply a_pick | apply a_slice | apply a_mapup); iterate 3 (· (simp only [q0, q1, q2, q3, q4, q5, q6, List.map, Option.map, Nat.reduceEqDiff, ↓reduceIte]; first | done | rfl)))); all_goals (first | with_reducible rfl | (simp (disch := omega) only [binA_add, binA_sub, binA_mul, binA_rem, binA_eql, binA_neq, binA_lss, binA_leq, binA_gtr, binA_geq, wrap_i64, iaddrS_sl, List.getElem?_cons_zero, List.getElem?_cons_succ, Int.toNat_natCast, Nat.mul_one, Nat.zero_add]; first | done | rfl) | rfl | omega)))) | refine o_nil ?_ | refine d_nil ?_ | with_reducible refine aft_normal ?_ | with_reducible refine aft_same ?_ | with_reducible refine aft_ret ?_ | with_reducible refine aft_other (by decide) ?_ | with_reducible refine b_jump ?_ | with_reducible refine il_jump ?_ | refine s_seq ?_ | refine s_skip ?_ | refine s_exit ?_ | refine s_ret ?_ | refine s_ops ?_ | refine s_draw ?_ | refine s_block ?_ | ((first | apply s_condT | (apply s_alone; apply s_condT)); (· (simp only [q0, q1, q2, q3, q4, q5, q6, List.map, Option.map, Nat.reduceEqDiff, ↓reduceIte]; first | done | rfl))) | ((first | apply s_condF | (apply s_alone; apply s_condF)); (· (simp only [q0, q1, q2, q3, q4, q5, q6, List.map, Option.map, Nat.reduceEqDiff, ↓reduceIte]; first | done | rfl))) | refine w_skip ?_ | refine w_exit ?_ | refine w_ret ?_ | refine l_ops ?_ | refine l_draw ?_ | (apply s_alone; refine s_block ?_) | ((first | apply o_off | apply d_off); (· (simp only [q0, q1, q2, q3, q4, q5, q6, List.map, Option.map, Nat.reduceEqDiff, ↓reduceIte]; first | done | rfl))) | (apply d_callOn; iterate 3 (· (simp only [q0, q1, q2, q3, q4, q5, q6, List.map, Option.map, Nat.reduceEqDiff, ↓reduceIte]; first | done | rfl))))
  refine c_4 hT (n := 4) (by omega) (by omega) ?_
  intro h1 i m hs1 k1 hm1
  repeat (first | ((first | apply o_call | apply d_call); iterate 2 (· (simp only [q0, q1, q2, q3, q4, q5, q6, List.map, Option.map, Nat.reduceEqDiff, ↓reduceIte]; first | done | rfl))) | ((first | apply o_step | apply d_st | (apply d_step; (· decide)) | (apply d_new; (· rfl)) | (apply o_on; (· (simp only [q0, q1, q2, q3, q4, q5, q6, List.map, Option.map, Nat.reduceEqDiff, ↓reduceIte]; first | done | rfl))) | (apply d_on; (· (simp only [q0, q1, q2, q3, q4, q5, q6, List.map, Option.map, Nat.reduceEqDiff, ↓reduceIte]; first | done | rfl)); (· decide))); (· ((first | exact a_new | exact a_mkmap | exact a_cnst | exact a_rowlit0 | ((first | apply a_mv | apply a_ld | apply a_len | apply a_ext | apply a_not | apply a_faddr | apply a_nilc | apply a_conv | apply a_neg | apply a_row1 | apply a_build1 | apply a_box | apply a_fld); (· (simp only [q0, q1, q2, q3, q4, q5, q6, List.map, Option.map, Nat.reduceEqDiff, ↓reduceIte]; first | done | rfl))) | ((first | apply a_bin | apply a_iaddr | apply a_iaddrA | apply a_st | apply a_eqn | apply a_eqb | apply a_mkslice | apply a_lookup | apply a_lookup2 | apply a_func | apply a_del1 | apply a_pickT); iterate 2 (· (simp only [q0, q1, q2, q3, q4, q5, q6, List.map, Option.map, Nat.reduceEqDiff, ↓reduceIte]; first | done | rfl))) | (apply a_pickF; iterate 2 (· (simp only [q0, q1, q2, q3, q4, q5, q6, List.map, Option.map, Nat.reduceEqDiff, ↓reduceIte]; first | done | rfl))) | ((first | apply a_pick | apply a_slice | apply a_mapup); iterate 3 (· (simp only [q0, q1, q2, q3, q4, q5, q6, List.map, Option.map, Nat.reduceEqDiff, ↓reduceIte]; first | done | rfl)))); all_goals (first | with_reducible rfl | (simp (disch := omega) only [binA_add, binA_sub, binA_mul, binA_rem, binA_eql, binA_neq, binA_lss, binA_leq, binA_gtr, binA_geq, wrap_i64, iaddrS_sl, List.getElem?_cons_zero, List.getElem?_cons_succ, Int.toNat_natCast, Nat.mul_one, Nat.zero_add]; first | done | rfl) | rfl | omega)))) | refine o_nil ?_ | refine d_nil ?_ | with_reducible refine aft_normal ?_ | with_reducible refine aft_same ?_ | with_reducible refine aft_ret ?_ | with_reducible refine aft_other (by decide) ?_ | with_reducible refine b_jump ?_ | with_reducible refine il_jump ?_ | refine s_seq ?_ | refine s_skip ?_ | refine s_exit ?_ | refine s_ret ?_ | refine s_ops ?_ | refine s_draw ?_ | refine s_block ?_ | ((first | apply s_condT | (apply s_alone; apply s_condT)); (· (simp only [q0, q1, q2, q3, q4, q5, q6, List.map, Option.map, Nat.reduceEqDiff, ↓reduceIte]; first | done | rfl))) | ((first | apply s_condF | (apply s_alone; apply s_condF)); (· (simp only [q0, q1, q2, q3, q4, q5, q6, List.map, Option.map, Nat.reduceEqDiff, ↓reduceIte]; first | done | rfl))) | refine w_skip ?_ | refine w_exit ?_ | refine w_ret ?_ | refine l_ops ?_ | refine l_draw ?_ | (apply s_alone; refine s_block ?_) | ((first | apply o_off | apply d_off); (· (simp only [q0, q1, q2, q3, q4, q5, q6, List.map, Option.map, Nat.reduceEqDiff, ↓reduceIte]; first | done | rfl))) | (apply d_callOn; iterate 3 (· (simp only [q0, q1, q2, q3, q4, q5, q6, List.map, Option.map, Nat.reduceEqDiff, ↓reduceIte]; first | done | rfl))))
  refine c_12 hT hs1 (c := 0) (k := 0) (g := upto 4) (w := 1) rfl (by simp [upto]) (by simp) (by omega) (by omega) (fun k h1 h2 => by omega) (by simp) ?_
  intro h2 hs2 k2
  repeat (first | ((first | apply o_call | apply d_call); iterate 2 (· (simp only [q0, q1, q2, q3, q4, q5, q6, List.map, Option.map, Nat.reduceEqDiff, ↓reduceIte]; first | done | rfl))) | ((first | apply o_step | apply d_st | (apply d_step; (· decide)) | (apply d_new; (· rfl)) | (apply o_on; (· (simp only [q0, q1, q2, q3, q4, q5, q6, List.map, Option.map, Nat.reduceEqDiff, ↓reduceIte]; first | done | rfl))) | (apply d_on; (· (simp only [q0, q1, q2, q3, q4, q5, q6, List.map, Option.map, Nat.reduceEqDiff, ↓reduceIte]; first | done | rfl)); (· decide))); (· ((first | exact a_new | exact a_mkmap | exact a_cnst | exact a_rowlit0 | ((first | apply a_mv | apply a_ld | apply a_len | apply a_ext | apply a_not | apply a_faddr | apply a_nilc | apply a_conv | apply a_neg | apply a_row1 | apply a_build1 | apply a_box | apply a_fld); (· (simp only [q0, q1, q2, q3, q4, q5, q6, List.map, Option.map, Nat.reduceEqDiff, ↓reduceIte]; first | done | rfl))) | ((first | apply a_bin | apply a_iaddr | apply a_iaddrA | apply a_st | apply a_eqn | apply a_eqb | apply a_mkslice | apply a_lookup | apply a_lookup2 | apply a_func | apply a_del1 | apply a_pickT); iterate 2 (· (simp only [q0, q1, q2, q3, q4, q5, q6, List.map, Option.map, Nat.reduceEqDiff, ↓reduceIte]; first | done | rfl))) | (apply a_pickF; iterate 2 (· (simp only [q0, q1, q2, q3, q4, q5, q6, List.map, Option.map, Nat.reduceEqDiff, ↓reduceIte]; first | done | rfl))) | ((first | apply a_pick | apply a_slice | apply a_mapup); iterate 3 (· (simp only [q0, q1, q2, q3, q4, q5, q6, List.map, Option.map, Nat.reduceEqDiff, ↓reduceIte]; first | done | rfl)))); all_goals (first | with_reducible rfl | (simp (disch := omega) only [binA_add, binA_sub, binA_mul, binA_rem, binA_eql, binA_neq, binA_lss, binA_leq, binA_gtr, binA_geq, wrap_i64, iaddrS_sl, List.getElem?_cons_zero, List.getElem?_cons_succ, Int.toNat_natCast, Nat.mul_one, Nat.zero_add]; first | done | rfl) | rfl | omega)))) | refine o_nil ?_ | refine d_nil ?_ | with_reducible refine aft_normal ?_ | with_reducible refine aft_same ?_ | with_reducible refine aft_ret ?_ | with_reducible refine aft_other (by decide) ?_ | with_reducible refine b_jump ?_ | with_reducible refine il_jump ?_ | refine s_seq ?_ | refine s_skip ?_ | refine s_exit ?_ | refine s_ret ?_ | refine s_ops ?_ | refine s_draw ?_ | refine s_block ?_ | ((first | apply s_condT | (apply s_alone; apply s_condT)); (· (simp only [q0, q1, q2, q3, q4, q5, q6, List.map, Option.map, Nat.reduceEqDiff, ↓reduceIte]; first | done | rfl))) | ((first | apply s_condF | (apply s_alone; apply s_condF)); (· (simp only [q0, q1, q2, q3, q4, q5, q6, List.map, Option.map, Nat.reduceEqDiff, ↓reduceIte]; first | done | rfl))) | refine w_skip ?_ | refine w_exit ?_ | refine w_ret ?_ | refine l_ops ?_ | refine l_draw ?_ | (apply s_alone; refine s_block ?_) | ((first | apply o_off | apply d_off); (· (simp only [q0, q1, q2, q3, q4, q5, q6, List.map, Option.map, Nat.reduceEqDiff, ↓reduceIte]; first | done | rfl))) | (apply d_callOn; iterate 3 (· (simp only [q0, q1, q2, q3, q4, q5, q6, List.map, Option.map, Nat.reduceEqDiff, ↓reduceIte]; first | done | rfl))))
  refine o_step (a_rowlit (cs := I64s [1, 0, 1, -2]) rfl) ?_
  refine o_step (a_rowlit (cs := I64s [5, 0, 2, 0]) rfl) ?_
  repeat (first | ((first | apply o_call | apply d_call); iterate 2 (· (simp only [q0, q1, q2, q3, q4, q5, q6, List.map, Option.map, Nat.reduceEqDiff, ↓reduceIte]; first | done | rfl))) | ((first | apply o_step | apply d_st | (apply d_step; (· decide)) | (apply d_new; (· rfl)) | (apply o_on; (· (simp only [q0, q1, q2, q3, q4, q5, q6, List.map, Option.map, Nat.reduceEqDiff, ↓reduceIte]; first | done | rfl))) | (apply d_on; (· (simp only [q0, q1, q2, q3, q4, q5, q6, List.map, Option.map, Nat.reduceEqDiff, ↓reduceIte]; first | done | rfl)); (· decide))); (· ((first | exact a_new | exact a_mkmap | exact a_cnst | exact a_rowlit0 | ((first | apply a_mv | apply a_ld | apply a_len | apply a_ext | apply a_not | apply a_faddr | apply a_nilc | apply a_conv | apply a_neg | apply a_row1 | apply a_build1 | apply a_box | apply a_fld); (· (simp only [q0, q1, q2, q3, q4, q5, q6, List.map, Option.map, Nat.reduceEqDiff, ↓reduceIte]; first | done | rfl))) | ((first | apply a_bin | apply a_iaddr | apply a_iaddrA | apply a_st | apply a_eqn | apply a_eqb | apply a_mkslice | apply a_lookup | apply a_lookup2 | apply a_func | apply a_del1 | apply a_pickT); iterate 2 (· (simp only [q0, q1, q2, q3, q4, q5, q6, List.map, Option.map, Nat.reduceEqDiff, ↓reduceIte]; first | done | rfl))) | (apply a_pickF; iterate 2 (· (simp only [q0, q1, q2, q3, q4, q5, q6, List.map, Option.map, Nat.reduceEqDiff, ↓reduceIte]; first | done | rfl))) | ((first | apply a_pick | apply a_slice | apply a_mapup); iterate 3 (· (simp only [q0, q1, q2, q3, q4, q5, q6, List.map, Option.map, Nat.reduceEqDiff, ↓reduceIte]; first | done | rfl)))); all_goals (first | with_reducible rfl | (simp (disch := omega) only [binA_add, binA_sub, binA_mul, binA_rem, binA_eql, binA_neq, binA_lss, binA_leq, binA_gtr, binA_geq, wrap_i64, iaddrS_sl, List.getElem?_cons_zero, List.getElem?_cons_succ, Int.toNat_natCast, Nat.mul_one, Nat.zero_add]; first | done | rfl) | rfl | omega)))) | refine o_nil ?_ | refine d_nil ?_ | with_reducible refine aft_normal ?_ | with_reducible refine aft_same ?_ | with_reducible refine aft_ret ?_ | with_reducible refine aft_other (by decide) ?_ | with_reducible refine b_jump ?_ | with_reducible refine il_jump ?_ | refine s_seq ?_ | refine s_skip ?_ | refine s_exit ?_ | refine s_ret ?_ | refine s_ops ?_ | refine s_draw ?_ | refine s_block ?_ | ((first | apply s_condT | (apply s_alone; apply s_condT)); (· (simp only [q0, q1, q2, q3, q4, q5, q6, List.map, Option.map, Nat.reduceEqDiff, ↓reduceIte]; first | done | rfl))) | ((first | apply s_condF | (apply s_alone; apply s_condF)); (· (simp only [q0, q1, q2, q3, q4, q5, q6, List.map, Option.map, Nat.reduceEqDiff, ↓reduceIte]; first | done | rfl))) | refine w_skip ?_ | refine w_exit ?_ | refine w_ret ?_ | refine l_ops ?_ | refine l_draw ?_ | (apply s_alone; refine s_block ?_) | ((first | apply o_off | apply d_off); (· (simp only [q0, q1, q2, q3, q4, q5, q6, List.map, Option.map, Nat.reduceEqDiff, ↓reduceIte]; first | done | rfl))) | (apply d_callOn; iterate 3 (· (simp only [q0, q1, q2, q3, q4, q5, q6, List.map, Option.map, Nat.reduceEqDiff, ↓reduceIte]; first | done | rfl))))
  have r1 : rowOf (h2 ++ [AO.row (I64s [1, 0, 1, -2])]) h2.length = some (I64s [1, 0, 1, -2]) := rowOf_last
  have r2 := rowOf_app (l := [AO.row (I64s [5, 0, 2, 0])]) r1
  have r3 : rowOf (h2 ++ [AO.row (I64s [1, 0, 1, -2])] ++ [AO.row (I64s [5, 0, 2, 0])]) (h2 ++ [AO.row (I64s [1, 0, 1, -2])]).length = some (I64s [5, 0, 2, 0]) := rowOf_last
  have ka : Kp h2.length none h2 (h2 ++ [AO.row (I64s [1, 0, 1, -2])] ++ [AO.row (I64s [5, 0, 2, 0])]) := (Kp.app (Nat.le_refl _)).trans (Kp.app (by simp))
  refine c_6 hT (hs2.kp0 ka) (x := 0) (kc := 0) (g := upto 4) (cs := [1, 0, 1, -2]) (ks := [5, 0, 2, 0]) rfl (sliceCells_sl r2 rfl) (sliceCells_sl r3 rfl) rfl rfl (by simp [upto]) (by simp [upto]) (fun y hy => by have := upto_mem.1 hy; omega) upto_nodup (by simp) (by simp) ?_ ?_ (by simp) ?_
  · intro k
    simp
    omega
  · intro D hD hc
    have := nodup_bound (b := 2) hD (fun c h => by have := hc c h; simp at this; omega)
    simp; omega
  intro lv h3 D hDs hDn hDm hs3 hl3 k3
  have hD : D = [0, 1] := two_of hDs (fun c => by rw [hDm]; simp; omega)
  subst hD
  repeat (first | ((first | apply o_call | apply d_call); iterate 2 (· (simp only [q0, q1, q2, q3, q4, q5, q6, List.map, Option.map, Nat.reduceEqDiff, ↓reduceIte]; first | done | rfl))) | ((first | apply o_step | apply d_st | (apply d_step; (· decide)) | (apply d_new; (· rfl)) | (apply o_on; (· (simp only [q0, q1, q2, q3, q4, q5, q6, List.map, Option.map, Nat.reduceEqDiff, ↓reduceIte]; first | done | rfl))) | (apply d_on; (· (simp only [q0, q1, q2, q3, q4, q5, q6, List.map, Option.map, Nat.reduceEqDiff, ↓reduceIte]; first | done | rfl)); (· decide))); (· ((first | exact a_new | exact a_mkmap | exact a_cnst | exact a_rowlit0 | ((first | apply a_mv | apply a_ld | apply a_len | apply a_ext | apply a_not | apply a_faddr | apply a_nilc | apply a_conv | apply a_neg | apply a_row1 | apply a_build1 | apply a_box | apply a_fld); (· (simp only [q0, q1, q2, q3, q4, q5, q6, List.map, Option.map, Nat.reduceEqDiff, ↓reduceIte]; first | done | rfl))) | ((first | apply a_bin | apply a_iaddr | apply a_iaddrA | apply a_st | apply a_eqn | apply a_eqb | apply a_mkslice | apply a_lookup | apply a_lookup2 | apply a_func | apply a_del1 | apply a_pickT); iterate 2 (· (simp only [q0, q1, q2, q3, q4, q5, q6, List.map, Option.map, Nat.reduceEqDiff, ↓reduceIte]; first | done | rfl))) | (apply a_pickF; iterate 2 (· (simp only [q0, q1, q2, q3, q4, q5, q6, List.map, Option.map, Nat.reduceEqDiff, ↓reduceIte]; first | done | rfl))) | ((first | apply a_pick | apply a_slice | apply a_mapup); iterate 3 (· (simp only [q0, q1, q2, q3, q4, q5, q6, List.map, Option.map, Nat.reduceEqDiff, ↓reduceIte]; first | done | rfl)))); all_goals (first | with_reducible rfl | (simp (disch := omega) only [binA_add, binA_sub, binA_mul, binA_rem, binA_eql, binA_neq, binA_lss, binA_leq, binA_gtr, binA_geq, wrap_i64, iaddrS_sl, List.getElem?_cons_zero, List.getElem?_cons_succ, Int.toNat_natCast, Nat.mul_one, Nat.zero_add]; first | done | rfl) | rfl | omega)))) | refine o_nil ?_ | refine d_nil ?_ | with_reducible refine aft_normal ?_ | with_reducible refine aft_same ?_ | with_reducible refine aft_ret ?_ | with_reducible refine aft_other (by decide) ?_ | with_reducible refine b_jump ?_ | with_reducible refine il_jump ?_ | refine s_seq ?_ | refine s_skip ?_ | refine s_exit ?_ | refine s_ret ?_ | refine s_ops ?_ | refine s_draw ?_ | refine s_block ?_ | ((first | apply s_condT | (apply s_alone; apply s_condT)); (· (simp only [q0, q1, q2, q3, q4, q5, q6, List.map, Option.map, Nat.reduceEqDiff, ↓reduceIte]; first | done | rfl))) | ((first | apply s_condF | (apply s_alone; apply s_condF)); (· (simp only [q0, q1, q2, q3, q4, q5, q6, List.map, Option.map, Nat.reduceEqDiff, ↓reduceIte]; first | done | rfl))) | refine w_skip ?_ | refine w_exit ?_ | refine w_ret ?_ | refine l_ops ?_ | refine l_draw ?_ | (apply s_alone; refine s_block ?_) | ((first | apply o_off | apply d_off); (· (simp only [q0, q1, q2, q3, q4, q5, q6, List.map, Option.map, Nat.reduceEqDiff, ↓reduceIte]; first | done | rfl))) | (apply d_callOn; iterate 3 (· (simp only [q0, q1, q2, q3, q4, q5, q6, List.map, Option.map, Nat.reduceEqDiff, ↓reduceIte]; first | done | rfl))))
  refine c_7 hT hs3 (c := 3) (k := 3) (g := [2, 0]) (by decide +kernel) (by simp) ?_
  intro gv h4 hg4 k4
  have hl4 := hl3.elems.kp k4 (.inr rfl)
  have eo : outOf 2 [0, 1] [1, 0, 1, -2] = [3, 2, 3, -2] := by decide +kernel
  change Elems h4 lv (I64s (outOf 2 [0, 1] [1, 0, 1, -2])) at hl4
  rw [eo] at hl4
  repeat (first | ((first | apply o_call | apply d_call); iterate 2 (· (simp only [q0, q1, q2, q3, q4, q5, q6, List.map, Option.map, Nat.reduceEqDiff, ↓reduceIte]; first | done | rfl))) | ((first | apply o_step | apply d_st | (apply d_step; (· decide)) | (apply d_new; (· rfl)) | (apply o_on; (· (simp only [q0, q1, q2, q3, q4, q5, q6, List.map, Option.map, Nat.reduceEqDiff, ↓reduceIte]; first | done | rfl))) | (apply d_on; (· (simp only [q0, q1, q2, q3, q4, q5, q6, List.map, Option.map, Nat.reduceEqDiff, ↓reduceIte]; first | done | rfl)); (· decide))); (· ((first | exact a_new | exact a_mkmap | exact a_cnst | exact a_rowlit0 | ((first | apply a_mv | apply a_ld | apply a_len | apply a_ext | apply a_not | apply a_faddr | apply a_nilc | apply a_conv | apply a_neg | apply a_row1 | apply a_build1 | apply a_box | apply a_fld); (· (simp only [q0, q1, q2, q3, q4, q5, q6, List.map, Option.map, Nat.reduceEqDiff, ↓reduceIte]; first | done | rfl))) | ((first | apply a_bin | apply a_iaddr | apply a_iaddrA | apply a_st | apply a_eqn | apply a_eqb | apply a_mkslice | apply a_lookup | apply a_lookup2 | apply a_func | apply a_del1 | apply a_pickT); iterate 2 (· (simp only [q0, q1, q2, q3, q4, q5, q6, List.map, Option.map, Nat.reduceEqDiff, ↓reduceIte]; first | done | rfl))) | (apply a_pickF; iterate 2 (· (simp only [q0, q1, q2, q3, q4, q5, q6, List.map, Option.map, Nat.reduceEqDiff, ↓reduceIte]; first | done | rfl))) | ((first | apply a_pick | apply a_slice | apply a_mapup); iterate 3 (· (simp only [q0, q1, q2, q3, q4, q5, q6, List.map, Option.map, Nat.reduceEqDiff, ↓reduceIte]; first | done | rfl)))); all_goals (first | with_reducible rfl | (simp (disch := omega) only [binA_add, binA_sub, binA_mul, binA_rem, binA_eql, binA_neq, binA_lss, binA_leq, binA_gtr, binA_geq, wrap_i64, iaddrS_sl, List.getElem?_cons_zero, List.getElem?_cons_succ, Int.toNat_natCast, Nat.mul_one, Nat.zero_add]; first | done | rfl) | rfl | omega)))) | refine o_nil ?_ | refine d_nil ?_ | with_reducible refine aft_normal ?_ | with_reducible refine aft_same ?_ | with_reducible refine aft_ret ?_ | with_reducible refine aft_other (by decide) ?_ | with_reducible refine b_jump ?_ | with_reducible refine il_jump ?_ | refine s_seq ?_ | refine s_skip ?_ | refine s_exit ?_ | refine s_ret ?_ | refine s_ops ?_ | refine s_draw ?_ | refine s_block ?_ | ((first | apply s_condT | (apply s_alone; apply s_condT)); (· (simp only [q0, q1, q2, q3, q4, q5, q6, List.map, Option.map, Nat.reduceEqDiff, ↓reduceIte]; first | done | rfl))) | ((first | apply s_condF | (apply s_alone; apply s_condF)); (· (simp only [q0, q1, q2, q3, q4, q5, q6, List.map, Option.map, Nat.reduceEqDiff, ↓reduceIte]; first | done | rfl))) | refine w_skip ?_ | refine w_exit ?_ | refine w_ret ?_ | refine l_ops ?_ | refine l_draw ?_ | (apply s_alone; refine s_block ?_) | ((first | apply o_off | apply d_off); (· (simp only [q0, q1, q2, q3, q4, q5, q6, List.map, Option.map, Nat.reduceEqDiff, ↓reduceIte]; first | done | rfl))) | (apply d_callOn; iterate 3 (· (simp only [q0, q1, q2, q3, q4, q5, q6, List.map, Option.map, Nat.reduceEqDiff, ↓reduceIte]; first | done | rfl))))
  refine o_on (by (simp only [q0, q1, q2, q3, q4, q5, q6, List.map, Option.map, Nat.reduceEqDiff, ↓reduceIte]; first | done | rfl)) (a_rowlit (cs := I64s [3, 2, 3, -2]) rfl) ?_
  refine o_callOn (by (simp only [q0, q1, q2, q3, q4, q5, q6, List.map, Option.map, Nat.reduceEqDiff, ↓reduceIte]; first | done | rfl)) (by (simp only [q0, q1, q2, q3, q4, q5, q6, List.map, Option.map, Nat.reduceEqDiff, ↓reduceIte]; first | done | rfl)) (by (simp only [q0, q1, q2, q3, q4, q5, q6, List.map, Option.map, Nat.reduceEqDiff, ↓reduceIte]; first | done | rfl)) ?_
  have k5 : Kp h4.length none h4 (h4 ++ [AO.row (I64s [3, 2, 3, -2])]) := Kp.app (Nat.le_refl _)
  have r5 : rowOf (h4 ++ [AO.row (I64s [3, 2, 3, -2])]) h4.length = some (I64s [3, 2, 3, -2]) := rowOf_last
  refine c_8 hT (hl4.kp k5 (.inr rfl)) (ys := [3, 2, 3, -2]) (sliceCells_sl r5 rfl) (by simp) ?_
  rw [show (([3, 2, 3, -2] : List Int) == [3, 2, 3, -2]) = true from rfl]
  repeat (first | ((first | apply o_call | apply d_call); iterate 2 (· (simp only [q0, q1, q2, q3, q4, q5, q6, List.map, Option.map, Nat.reduceEqDiff, ↓reduceIte]; first | done | rfl))) | ((first | apply o_step | apply d_st | (apply d_step; (· decide)) | (apply d_new; (· rfl)) | (apply o_on; (· (simp only [q0, q1, q2, q3, q4, q5, q6, List.map, Option.map, Nat.reduceEqDiff, ↓reduceIte]; first | done | rfl))) | (apply d_on; (· (simp only [q0, q1, q2, q3, q4, q5, q6, List.map, Option.map, Nat.reduceEqDiff, ↓reduceIte]; first | done | rfl)); (· decide))); (· ((first | exact a_new | exact a_mkmap | exact a_cnst | exact a_rowlit0 | ((first | apply a_mv | apply a_ld | apply a_len | apply a_ext | apply a_not | apply a_faddr | apply a_nilc | apply a_conv | apply a_neg | apply a_row1 | apply a_build1 | apply a_box | apply a_fld); (· (simp only [q0, q1, q2, q3, q4, q5, q6, List.map, Option.map, Nat.reduceEqDiff, ↓reduceIte]; first | done | rfl))) | ((first | apply a_bin | apply a_iaddr | apply a_iaddrA | apply a_st | apply a_eqn | apply a_eqb | apply a_mkslice | apply a_lookup | apply a_lookup2 | apply a_func | apply a_del1 | apply a_pickT); iterate 2 (· (simp only [q0, q1, q2, q3, q4, q5, q6, List.map, Option.map, Nat.reduceEqDiff, ↓reduceIte]; first | done | rfl))) | (apply a_pickF; iterate 2 (· (simp only [q0, q1, q2, q3, q4, q5, q6, List.map, Option.map, Nat.reduceEqDiff, ↓reduceIte]; first | done | rfl))) | ((first | apply a_pick | apply a_slice | apply a_mapup); iterate 3 (· (simp only [q0, q1, q2, q3, q4, q5, q6, List.map, Option.map, Nat.reduceEqDiff, ↓reduceIte]; first | done | rfl)))); all_goals (first | with_reducible rfl | (simp (disch := omega) only [binA_add, binA_sub, binA_mul, binA_rem, binA_eql, binA_neq, binA_lss, binA_leq, binA_gtr, binA_geq, wrap_i64, iaddrS_sl, List.getElem?_cons_zero, List.getElem?_cons_succ, Int.toNat_natCast, Nat.mul_one, Nat.zero_add]; first | done | rfl) | rfl | omega)))) | refine o_nil ?_ | refine d_nil ?_ | with_reducible refine aft_normal ?_ | with_reducible refine aft_same ?_ | with_reducible refine aft_ret ?_ | with_reducible refine aft_other (by decide) ?_ | with_reducible refine b_jump ?_ | with_reducible refine il_jump ?_ | refine s_seq ?_ | refine s_skip ?_ | refine s_exit ?_ | refine s_ret ?_ | refine s_ops ?_ | refine s_draw ?_ | refine s_block ?_ | ((first | apply s_condT | (apply s_alone; apply s_condT)); (· (simp only [q0, q1, q2, q3, q4, q5, q6, List.map, Option.map, Nat.reduceEqDiff, ↓reduceIte]; first | done | rfl))) | ((first | apply s_condF | (apply s_alone; apply s_condF)); (· (simp only [q0, q1, q2, q3, q4, q5, q6, List.map, Option.map, Nat.reduceEqDiff, ↓reduceIte]; first | done | rfl))) | refine w_skip ?_ | refine w_exit ?_ | refine w_ret ?_ | refine l_ops ?_ | refine l_draw ?_ | (apply s_alone; refine s_block ?_) | ((first | apply o_off | apply d_off); (· (simp only [q0, q1, q2, q3, q4, q5, q6, List.map, Option.map, Nat.reduceEqDiff, ↓reduceIte]; first | done | rfl))) | (apply d_callOn; iterate 3 (· (simp only [q0, q1, q2, q3, q4, q5, q6, List.map, Option.map, Nat.reduceEqDiff, ↓reduceIte]; first | done | rfl))))
  refine o_on (by (simp only [q0, q1, q2, q3, q4, q5, q6, List.map, Option.map, Nat.reduceEqDiff, ↓reduceIte]; first | done | rfl)) (a_rowlit (cs := I64s [2, 0]) rfl) ?_
  refine o_callOn (by (simp only [q0, q1, q2, q3, q4, q5, q6, List.map, Option.map, Nat.reduceEqDiff, ↓reduceIte]; first | done | rfl)) (by (simp only [q0, q1, q2, q3, q4, q5, q6, List.map, Option.map, Nat.reduceEqDiff, ↓reduceIte]; first | done | rfl)) (by (simp only [q0, q1, q2, q3, q4, q5, q6, List.map, Option.map, Nat.reduceEqDiff, ↓reduceIte]; first | done | rfl)) ?_
  have k6 : Kp (h4 ++ [AO.row (I64s [3, 2, 3, -2])]).length none (h4 ++ [AO.row (I64s [3, 2, 3, -2])]) (h4 ++ [AO.row (I64s [3, 2, 3, -2])] ++ [AO.row (I64s [2, 0])]) := Kp.app (Nat.le_refl _)
  have r6 : rowOf (h4 ++ [AO.row (I64s [3, 2, 3, -2])] ++ [AO.row (I64s [2, 0])]) (h4 ++ [AO.row (I64s [3, 2, 3, -2])]).length = some (I64s [2, 0]) := rowOf_last
  refine c_8 hT ((hg4.elems.kp k5 (.inr rfl)).kp k6 (.inr rfl)) (ys := [2, 0]) (sliceCells_sl r6 rfl) (by simp) ?_
  rw [show (([2, 0] : List Int) == [2, 0]) = true from rfl]
  repeat (first | ((first | apply o_call | apply d_call); iterate 2 (· (simp only [q0, q1, q2, q3, q4, q5, q6, List.map, Option.map, Nat.reduceEqDiff, ↓reduceIte]; first | done | rfl))) | ((first | apply o_step | apply d_st | (apply d_step; (· decide)) | (apply d_new; (· rfl)) | (apply o_on; (· (simp only [q0, q1, q2, q3, q4, q5, q6, List.map, Option.map, Nat.reduceEqDiff, ↓reduceIte]; first | done | rfl))) | (apply d_on; (· (simp only [q0, q1, q2, q3, q4, q5, q6, List.map, Option.map, Nat.reduceEqDiff, ↓reduceIte]; first | done | rfl)); (· decide))); (· ((first | exact a_new | exact a_mkmap | exact a_cnst | exact a_rowlit0 | ((first | apply a_mv | apply a_ld | apply a_len | apply a_ext | apply a_not | apply a_faddr | apply a_nilc | apply a_conv | apply a_neg | apply a_row1 | apply a_build1 | apply a_box | apply a_fld); (· (simp only [q0, q1, q2, q3, q4, q5, q6, List.map, Option.map, Nat.reduceEqDiff, ↓reduceIte]; first | done | rfl))) | ((first | apply a_bin | apply a_iaddr | apply a_iaddrA | apply a_st | apply a_eqn | apply a_eqb | apply a_mkslice | apply a_lookup | apply a_lookup2 | apply a_func | apply a_del1 | apply a_pickT); iterate 2 (· (simp only [q0, q1, q2, q3, q4, q5, q6, List.map, Option.map, Nat.reduceEqDiff, ↓reduceIte]; first | done | rfl))) | (apply a_pickF; iterate 2 (· (simp only [q0, q1, q2, q3, q4, q5, q6, List.map, Option.map, Nat.reduceEqDiff, ↓reduceIte]; first | done | rfl))) | ((first | apply a_pick | apply a_slice | apply a_mapup); iterate 3 (· (simp only [q0, q1, q2, q3, q4, q5, q6, List.map, Option.map, Nat.reduceEqDiff, ↓reduceIte]; first | done | rfl)))); all_goals (first | with_reducible rfl | (simp (disch := omega) only [binA_add, binA_sub, binA_mul, binA_rem, binA_eql, binA_neq, binA_lss, binA_leq, binA_gtr, binA_geq, wrap_i64, iaddrS_sl, List.getElem?_cons_zero, List.getElem?_cons_succ, Int.toNat_natCast, Nat.mul_one, Nat.zero_add]; first | done | rfl) | rfl | omega)))) | refine o_nil ?_ | refine d_nil ?_ | with_reducible refine aft_normal ?_ | with_reducible refine aft_same ?_ | with_reducible refine aft_ret ?_ | with_reducible refine aft_other (by decide) ?_ | with_reducible refine b_jump ?_ | with_reducible refine il_jump ?_ | refine s_seq ?_ | refine s_skip ?_ | refine s_exit ?_ | refine s_ret ?_ | refine s_ops ?_ | refine s_draw ?_ | refine s_block ?_ | ((first | apply s_condT | (apply s_alone; apply s_condT)); (· (simp only [q0, q1, q2, q3, q4, q5, q6, List.map, Option.map, Nat.reduceEqDiff, ↓reduceIte]; first | done | rfl))) | ((first | apply s_condF | (apply s_alone; apply s_condF)); (· (simp only [q0, q1, q2, q3, q4, q5, q6, List.map, Option.map, Nat.reduceEqDiff, ↓reduceIte]; first | done | rfl))) | refine w_skip ?_ | refine w_exit ?_ | refine w_ret ?_ | refine l_ops ?_ | refine l_draw ?_ | (apply s_alone; refine s_block ?_) | ((first | apply o_off | apply d_off); (· (simp only [q0, q1, q2, q3, q4, q5, q6, List.map, Option.map, Nat.reduceEqDiff, ↓reduceIte]; first | done | rfl))) | (apply d_callOn; iterate 3 (· (simp only [q0, q1, q2, q3, q4, q5, q6, List.map, Option.map, Nat.reduceEqDiff, ↓reduceIte]; first | done | rfl))))
  (first | refine a_ret (by (simp only [resA, Env.put, Env.get, Nat.reduceEqDiff, ↓reduceIte, Option.map_some]; first | done | rfl)) ?_ | refine a_normal (by (simp only [resA, Env.put, Env.get, Nat.reduceEqDiff, ↓reduceIte, Option.map_some]; first | done | rfl)) ?_)
  refine hQ _ ?_
  have hm : h.length ≤ m := hm1
  have z1 := k1.1
  have z2 := k2.1
  have z3 := k3.1
  have z4 := k4.1
  have za := ka.1
  refine ((((k1.trans (k2.drop z1 hm)).trans (ka.mono (by omega))).trans (k3.drop (by omega) hm)).trans (k4.mono (by omega))).trans ((k5.mono (by omega)).trans (k6.mono (by simp; omega)))

end Go.Ab.S1

/- TopSplit: the parts are freed. -/
namespace Go.Ab.S1
open Go Go.Ab
variable {T : Tab} {h : Heap} {Q : Ex → Env → Heap → Prop}



set_option maxHeartbeats 2000000 in
theorem l_free (hT : Has T) {si sm : Nat} {gs : List (Int × List Int)} {CL : List Int} {v5 v7 v19 v39 cv : AV} (hS : Space h (.ptr si 0) si sm gs) (hC : Elems h cv (I64s CL)) (hC1 : CL.Nodup) (hC2 : ∀ c ∈ CL, c ∈ gs.map (·.1)) (hC3 : CL.length ≤ 2 ^ 40) (hg : ∀ e ∈ gs, e.2.length ≤ 64) {env : Env}
    (he : env.mask [5, 6, 7, 19, 39, 342, 343, 344] = [(5, v5), (6, .ptr si 0), (7, v7), (19, v19), (39, v39), (342, cv), (343, .i64 CL.length), (344, .i64 0)])
    (hQ : ∀ h', Space h' (.ptr si 0) si sm (gs.filter fun e => !(decide (e.1 ∈ CL) && !(e.1 == 0))) → Kp h.length (some sm) h h' →
      Q (.jump (.exit 10)) ((345, .bool false) :: [(5, v5), (6, .ptr si 0), (7, v7), (19, v19), (39, v39), (342, cv), (343, .i64 CL.length), (344, .i64 CL.length)]) h') : W T f3_74 env h Q := by
  have hmap : ∃ es, mapOf h sm = some es := let ⟨_, _, ⟨es, h1, _⟩, _⟩ := hS; ⟨es, h1⟩
  have hco : objOf cv ≠ some sm := by
    intro e
    obtain ⟨ys, hy⟩ := hC.row e
    obtain ⟨es, h1⟩ := hmap
    exact row_ne_map hy h1 rfl
  refine s_loop (fun x : Nat × Heap => [(5, v5), (6, .ptr si 0), (7, v7), (19, v19), (39, v39), (342, cv), (343, .i64 CL.length), (344, .i64 x.1)]) (fun x => x.2)
    (fun x => x.1 ≤ CL.length ∧ Space x.2 (.ptr si 0) si sm (gs.filter fun e => !(decide (e.1 ∈ CL.take x.1) && !(e.1 == 0))) ∧ Kp h.length (some sm) h x.2) (fun x => CL.length - x.1) (0, h) he rfl
    ⟨Nat.zero_le _, by simpa [List.filter_eq_self.2] using hS, Kp.refl⟩ ?_
  rintro ⟨n, hh⟩ ⟨hn, sS, hk⟩
  simp only at hn sS hk ⊢
  by_cases hlt : n < CL.length
  · obtain ⟨c, hce⟩ : ∃ c, CL[n] = c := ⟨_, rfl⟩
    have eC := hC.kp hk (.inl hco)
    obtain ⟨qq1, a1, a2⟩ := eC.at (i := n) (x := .i64 c) (by simp [hlt, hce])
    have htk : CL.take (n + 1) = CL.take n ++ [c] := by rw [List.take_succ_eq_append_getElem hlt, hce]
    by_cases hc0 : c = 0
    · repeat (first | ((first | apply o_call | apply d_call); iterate 2 (· (simp only [q0, q1, q2, q3, q4, q5, q6, List.map, Option.map, Nat.reduceEqDiff, ↓reduceIte]; first | done | rfl))) | ((first | apply o_step | apply d_st | (apply d_step; (· decide)) | (apply d_new; (· rfl)) | (apply o_on; (· (simp only [q0, q1, q2, q3, q4, q5, q6, List.map, Option.map, Nat.reduceEqDiff, ↓reduceIte]; first | done | rfl))) | (apply d_on; (· (simp only [q0, q1, q2, q3, q4, q5, q6, List.map, Option.map, Nat.reduceEqDiff, ↓reduceIte]; first | done | rfl)); (· decide))); (· ((first | exact a_new | exact a_mkmap | exact a_cnst | exact a_rowlit0 | ((first | apply a_mv | apply a_ld | apply a_len | apply a_ext | apply a_not | apply a_faddr | apply a_nilc | apply a_conv | apply a_neg | apply a_row1 | apply a_build1 | apply a_box | apply a_fld); (· (simp only [q0, q1, q2, q3, q4, q5, q6, List.map, Option.map, Nat.reduceEqDiff, ↓reduceIte]; first | done | rfl))) | ((first | apply a_bin | apply a_iaddr | apply a_iaddrA | apply a_st | apply a_eqn | apply a_eqb | apply a_mkslice | apply a_lookup | apply a_lookup2 | apply a_func | apply a_del1 | apply a_pickT); iterate 2 (· (simp only [q0, q1, q2, q3, q4, q5, q6, List.map, Option.map, Nat.reduceEqDiff, ↓reduceIte]; first | done | rfl))) | (apply a_pickF; iterate 2 (· (simp only [q0, q1, q2, q3, q4, q5, q6, List.map, Option.map, Nat.reduceEqDiff, ↓reduceIte]; first | done | rfl))) | ((first | apply a_pick | apply a_slice | apply a_mapup); iterate 3 (· (simp only [q0, q1, q2, q3, q4, q5, q6, List.map, Option.map, Nat.reduceEqDiff, ↓reduceIte]; first | done | rfl)))); all_goals (first | with_reducible rfl | (simp (disch := omega) only [binA_add, binA_sub, binA_mul, binA_rem, binA_eql, binA_neq, binA_lss, binA_leq, binA_gtr, binA_geq, wrap_i64, iaddrS_sl, List.getElem?_cons_zero, List.getElem?_cons_succ, Int.toNat_natCast, Nat.mul_one, Nat.zero_add, decide_eq_true (show (n : Int) < CL.length by omega), a1, a2, show (c != 0) = false by rw [hc0]; rfl]; first | done | rfl) | rfl | omega)))) | refine o_nil ?_ | refine d_nil ?_ | with_reducible refine aft_normal ?_ | with_reducible refine aft_same ?_ | with_reducible refine aft_ret ?_ | with_reducible refine aft_other (by decide) ?_ | with_reducible refine b_jump ?_ | with_reducible refine il_jump ?_ | refine s_seq ?_ | refine s_skip ?_ | refine s_exit ?_ | refine s_ret ?_ | refine s_ops ?_ | refine s_draw ?_ | refine s_block ?_ | ((first | apply s_condT | (apply s_alone; apply s_condT)); (· (simp only [q0, q1, q2, q3, q4, q5, q6, List.map, Option.map, Nat.reduceEqDiff, ↓reduceIte]; first | done | rfl))) | ((first | apply s_condF | (apply s_alone; apply s_condF)); (· (simp only [q0, q1, q2, q3, q4, q5, q6, List.map, Option.map, Nat.reduceEqDiff, ↓reduceIte]; first | done | rfl))) | refine w_skip ?_ | refine w_exit ?_ | refine w_ret ?_ | refine l_ops ?_ | refine l_draw ?_ | (apply s_alone; refine s_block ?_) | ((first | apply o_off | apply d_off); (· (simp only [q0, q1, q2, q3, q4, q5, q6, List.map, Option.map, Nat.reduceEqDiff, ↓reduceIte]; first | done | rfl))) | (apply d_callOn; iterate 3 (· (simp only [q0, q1, q2, q3, q4, q5, q6, List.map, Option.map, Nat.reduceEqDiff, ↓reduceIte]; first | done | rfl))))
      refine b_normal (n + 1, hh) ⟨by simp only; omega, ?_, hk⟩ (by simp only; omega) (by (simp only [q0, q1, q2, q3, q4, q5, q6, List.map, Option.map, Nat.reduceEqDiff, ↓reduceIte]; first | done | rfl)) rfl
      simp only [htk]
      rw [show (fun e : Int × List Int => !(decide (e.1 ∈ CL.take n ++ [c]) && !(e.1 == 0))) = fun e => !(decide (e.1 ∈ CL.take n) && !(e.1 == 0)) from ?_]
      · exact sS
      · funext e
        by_cases h0 : e.1 = 0 <;> simp [h0, hc0]
    · have hnt : c ∉ CL.take n := by
        intro hm
        obtain ⟨t, ht1, ht2⟩ := List.mem_take_iff_getElem.1 hm
        have := (List.getElem_inj hC1).1 (ht2.trans hce.symm)
        omega
      have hcm := hC2 c (hce ▸ List.getElem_mem hlt)
      obtain ⟨e, he1, he2⟩ := List.mem_map.1 hcm
      obtain ⟨c', g⟩ := e
      simp only at he2
      subst he2
      have hmem : (c', g) ∈ gs.filter fun e => !(decide (e.1 ∈ CL.take n) && !(e.1 == 0)) := by
        rw [List.mem_filter]
        exact ⟨he1, by simp [hnt]⟩
      obtain ⟨k, hk1⟩ := List.mem_iff_getElem?.1 hmem
      have hidx := idx_of_get (i := 0) sS.nd hk1
      rw [Nat.zero_add] at hidx
      repeat (first | ((first | apply o_call | apply d_call); iterate 2 (· (simp only [q0, q1, q2, q3, q4, q5, q6, List.map, Option.map, Nat.reduceEqDiff, ↓reduceIte]; first | done | rfl))) | ((first | apply o_step | apply d_st | (apply d_step; (· decide)) | (apply d_new; (· rfl)) | (apply o_on; (· (simp only [q0, q1, q2, q3, q4, q5, q6, List.map, Option.map, Nat.reduceEqDiff, ↓reduceIte]; first | done | rfl))) | (apply d_on; (· (simp only [q0, q1, q2, q3, q4, q5, q6, List.map, Option.map, Nat.reduceEqDiff, ↓reduceIte]; first | done | rfl)); (· decide))); (· ((first | exact a_new | exact a_mkmap | exact a_cnst | exact a_rowlit0 | ((first | apply a_mv | apply a_ld | apply a_len | apply a_ext | apply a_not | apply a_faddr | apply a_nilc | apply a_conv | apply a_neg | apply a_row1 | apply a_build1 | apply a_box | apply a_fld); (· (simp only [q0, q1, q2, q3, q4, q5, q6, List.map, Option.map, Nat.reduceEqDiff, ↓reduceIte]; first | done | rfl))) | ((first | apply a_bin | apply a_iaddr | apply a_iaddrA | apply a_st | apply a_eqn | apply a_eqb | apply a_mkslice | apply a_lookup | apply a_lookup2 | apply a_func | apply a_del1 | apply a_pickT); iterate 2 (· (simp only [q0, q1, q2, q3, q4, q5, q6, List.map, Option.map, Nat.reduceEqDiff, ↓reduceIte]; first | done | rfl))) | (apply a_pickF; iterate 2 (· (simp only [q0, q1, q2, q3, q4, q5, q6, List.map, Option.map, Nat.reduceEqDiff, ↓reduceIte]; first | done | rfl))) | ((first | apply a_pick | apply a_slice | apply a_mapup); iterate 3 (· (simp only [q0, q1, q2, q3, q4, q5, q6, List.map, Option.map, Nat.reduceEqDiff, ↓reduceIte]; first | done | rfl)))); all_goals (first | with_reducible rfl | (simp (disch := omega) only [binA_add, binA_sub, binA_mul, binA_rem, binA_eql, binA_neq, binA_lss, binA_leq, binA_gtr, binA_geq, wrap_i64, iaddrS_sl, List.getElem?_cons_zero, List.getElem?_cons_succ, Int.toNat_natCast, Nat.mul_one, Nat.zero_add, decide_eq_true (show (n : Int) < CL.length by omega), a1, a2, (bne_iff_ne.2 hc0 : (c' != 0) = true)]; first | done | rfl) | rfl | omega)))) | refine o_nil ?_ | refine d_nil ?_ | with_reducible refine aft_normal ?_ | with_reducible refine aft_same ?_ | with_reducible refine aft_ret ?_ | with_reducible refine aft_other (by decide) ?_ | with_reducible refine b_jump ?_ | with_reducible refine il_jump ?_ | refine s_seq ?_ | refine s_skip ?_ | refine s_exit ?_ | refine s_ret ?_ | refine s_ops ?_ | refine s_draw ?_ | refine s_block ?_ | ((first | apply s_condT | (apply s_alone; apply s_condT)); (· (simp only [q0, q1, q2, q3, q4, q5, q6, List.map, Option.map, Nat.reduceEqDiff, ↓reduceIte]; first | done | rfl))) | ((first | apply s_condF | (apply s_alone; apply s_condF)); (· (simp only [q0, q1, q2, q3, q4, q5, q6, List.map, Option.map, Nat.reduceEqDiff, ↓reduceIte]; first | done | rfl))) | refine w_skip ?_ | refine w_exit ?_ | refine w_ret ?_ | refine l_ops ?_ | refine l_draw ?_ | (apply s_alone; refine s_block ?_) | ((first | apply o_off | apply d_off); (· (simp only [q0, q1, q2, q3, q4, q5, q6, List.map, Option.map, Nat.reduceEqDiff, ↓reduceIte]; first | done | rfl))) | (apply d_callOn; iterate 3 (· (simp only [q0, q1, q2, q3, q4, q5, q6, List.map, Option.map, Nat.reduceEqDiff, ↓reduceIte]; first | done | rfl))))
      refine o_callOn (by (simp only [q0, q1, q2, q3, q4, q5, q6, List.map, Option.map, Nat.reduceEqDiff, ↓reduceIte]; first | done | rfl)) (by (simp only [q0, q1, q2, q3, q4, q5, q6, List.map, Option.map, Nat.reduceEqDiff, ↓reduceIte]; first | done | rfl)) (by (simp only [q0, q1, q2, q3, q4, q5, q6, List.map, Option.map, Nat.reduceEqDiff, ↓reduceIte]; first | done | rfl)) ?_
      refine c_11 hT sS hidx hc0 (by have := hg _ he1; simp only at this; omega) ?_
      intro h1 hs1 k1
      repeat (first | ((first | apply o_call | apply d_call); iterate 2 (· (simp only [q0, q1, q2, q3, q4, q5, q6, List.map, Option.map, Nat.reduceEqDiff, ↓reduceIte]; first | done | rfl))) | ((first | apply o_step | apply d_st | (apply d_step; (· decide)) | (apply d_new; (· rfl)) | (apply o_on; (· (simp only [q0, q1, q2, q3, q4, q5, q6, List.map, Option.map, Nat.reduceEqDiff, ↓reduceIte]; first | done | rfl))) | (apply d_on; (· (simp only [q0, q1, q2, q3, q4, q5, q6, List.map, Option.map, Nat.reduceEqDiff, ↓reduceIte]; first | done | rfl)); (· decide))); (· ((first | exact a_new | exact a_mkmap | exact a_cnst | exact a_rowlit0 | ((first | apply a_mv | apply a_ld | apply a_len | apply a_ext | apply a_not | apply a_faddr | apply a_nilc | apply a_conv | apply a_neg | apply a_row1 | apply a_build1 | apply a_box | apply a_fld); (· (simp only [q0, q1, q2, q3, q4, q5, q6, List.map, Option.map, Nat.reduceEqDiff, ↓reduceIte]; first | done | rfl))) | ((first | apply a_bin | apply a_iaddr | apply a_iaddrA | apply a_st | apply a_eqn | apply a_eqb | apply a_mkslice | apply a_lookup | apply a_lookup2 | apply a_func | apply a_del1 | apply a_pickT); iterate 2 (· (simp only [q0, q1, q2, q3, q4, q5, q6, List.map, Option.map, Nat.reduceEqDiff, ↓reduceIte]; first | done | rfl))) | (apply a_pickF; iterate 2 (· (simp only [q0, q1, q2, q3, q4, q5, q6, List.map, Option.map, Nat.reduceEqDiff, ↓reduceIte]; first | done | rfl))) | ((first | apply a_pick | apply a_slice | apply a_mapup); iterate 3 (· (simp only [q0, q1, q2, q3, q4, q5, q6, List.map, Option.map, Nat.reduceEqDiff, ↓reduceIte]; first | done | rfl)))); all_goals (first | with_reducible rfl | (simp (disch := omega) only [binA_add, binA_sub, binA_mul, binA_rem, binA_eql, binA_neq, binA_lss, binA_leq, binA_gtr, binA_geq, wrap_i64, iaddrS_sl, List.getElem?_cons_zero, List.getElem?_cons_succ, Int.toNat_natCast, Nat.mul_one, Nat.zero_add]; first | done | rfl) | rfl | omega)))) | refine o_nil ?_ | refine d_nil ?_ | with_reducible refine aft_normal ?_ | with_reducible refine aft_same ?_ | with_reducible refine aft_ret ?_ | with_reducible refine aft_other (by decide) ?_ | with_reducible refine b_jump ?_ | with_reducible refine il_jump ?_ | refine s_seq ?_ | refine s_skip ?_ | refine s_exit ?_ | refine s_ret ?_ | refine s_ops ?_ | refine s_draw ?_ | refine s_block ?_ | ((first | apply s_condT | (apply s_alone; apply s_condT)); (· (simp only [q0, q1, q2, q3, q4, q5, q6, List.map, Option.map, Nat.reduceEqDiff, ↓reduceIte]; first | done | rfl))) | ((first | apply s_condF | (apply s_alone; apply s_condF)); (· (simp only [q0, q1, q2, q3, q4, q5, q6, List.map, Option.map, Nat.reduceEqDiff, ↓reduceIte]; first | done | rfl))) | refine w_skip ?_ | refine w_exit ?_ | refine w_ret ?_ | refine l_ops ?_ | refine l_draw ?_ | (apply s_alone; refine s_block ?_) | ((first | apply o_off | apply d_off); (· (simp only [q0, q1, q2, q3, q4, q5, q6, List.map, Option.map, Nat.reduceEqDiff, ↓reduceIte]; first | done | rfl))) | (apply d_callOn; iterate 3 (· (simp only [q0, q1, q2, q3, q4, q5, q6, List.map, Option.map, Nat.reduceEqDiff, ↓reduceIte]; first | done | rfl))))
      refine b_normal (n + 1, h1) ⟨by simp only; omega, ?_, hk.trans (k1.mono hk.1)⟩ (by simp only; omega) (by (simp only [q0, q1, q2, q3, q4, q5, q6, List.map, Option.map, Nat.reduceEqDiff, ↓reduceIte]; first | done | rfl)) rfl
      have her := erase_idx sS.nd hidx
      rw [Nat.sub_zero, List.filter_filter] at her
      rw [her] at hs1
      simp only [htk]
      rw [show (fun e : Int × List Int => !(decide (e.1 ∈ CL.take n ++ [c']) && !(e.1 == 0))) = fun e => !(e.1 == c') && !(decide (e.1 ∈ CL.take n) && !(e.1 == 0)) from ?_]
      · exact hs1
      · funext e
        by_cases h0 : e.1 = c'
        · simp [h0, hc0]
        · simp [h0]
  · have hip : n = CL.length := by omega
    subst hip
    repeat (first | ((first | apply o_call | apply d_call); iterate 2 (· (simp only [q0, q1, q2, q3, q4, q5, q6, List.map, Option.map, Nat.reduceEqDiff, ↓reduceIte]; first | done | rfl))) | ((first | apply o_step | apply d_st | (apply d_step; (· decide)) | (apply d_new; (· rfl)) | (apply o_on; (· (simp only [q0, q1, q2, q3, q4, q5, q6, List.map, Option.map, Nat.reduceEqDiff, ↓reduceIte]; first | done | rfl))) | (apply d_on; (· (simp only [q0, q1, q2, q3, q4, q5, q6, List.map, Option.map, Nat.reduceEqDiff, ↓reduceIte]; first | done | rfl)); (· decide))); (· ((first | exact a_new | exact a_mkmap | exact a_cnst | exact a_rowlit0 | ((first | apply a_mv | apply a_ld | apply a_len | apply a_ext | apply a_not | apply a_faddr | apply a_nilc | apply a_conv | apply a_neg | apply a_row1 | apply a_build1 | apply a_box | apply a_fld); (· (simp only [q0, q1, q2, q3, q4, q5, q6, List.map, Option.map, Nat.reduceEqDiff, ↓reduceIte]; first | done | rfl))) | ((first | apply a_bin | apply a_iaddr | apply a_iaddrA | apply a_st | apply a_eqn | apply a_eqb | apply a_mkslice | apply a_lookup | apply a_lookup2 | apply a_func | apply a_del1 | apply a_pickT); iterate 2 (· (simp only [q0, q1, q2, q3, q4, q5, q6, List.map, Option.map, Nat.reduceEqDiff, ↓reduceIte]; first | done | rfl))) | (apply a_pickF; iterate 2 (· (simp only [q0, q1, q2, q3, q4, q5, q6, List.map, Option.map, Nat.reduceEqDiff, ↓reduceIte]; first | done | rfl))) | ((first | apply a_pick | apply a_slice | apply a_mapup); iterate 3 (· (simp only [q0, q1, q2, q3, q4, q5, q6, List.map, Option.map, Nat.reduceEqDiff, ↓reduceIte]; first | done | rfl)))); all_goals (first | with_reducible rfl | (simp (disch := omega) only [binA_add, binA_sub, binA_mul, binA_rem, binA_eql, binA_neq, binA_lss, binA_leq, binA_gtr, binA_geq, wrap_i64, iaddrS_sl, List.getElem?_cons_zero, List.getElem?_cons_succ, Int.toNat_natCast, Nat.mul_one, Nat.zero_add, decide_eq_false (show ¬ (CL.length : Int) < CL.length by omega)]; first | done | rfl) | rfl | omega)))) | refine o_nil ?_ | refine d_nil ?_ | with_reducible refine aft_normal ?_ | with_reducible refine aft_same ?_ | with_reducible refine aft_ret ?_ | with_reducible refine aft_other (by decide) ?_ | with_reducible refine b_jump ?_ | with_reducible refine il_jump ?_ | refine s_seq ?_ | refine s_skip ?_ | refine s_exit ?_ | refine s_ret ?_ | refine s_ops ?_ | refine s_draw ?_ | refine s_block ?_ | ((first | apply s_condT | (apply s_alone; apply s_condT)); (· (simp only [q0, q1, q2, q3, q4, q5, q6, List.map, Option.map, Nat.reduceEqDiff, ↓reduceIte]; first | done | rfl))) | ((first | apply s_condF | (apply s_alone; apply s_condF)); (· (simp only [q0, q1, q2, q3, q4, q5, q6, List.map, Option.map, Nat.reduceEqDiff, ↓reduceIte]; first | done | rfl))) | refine w_skip ?_ | refine w_exit ?_ | refine w_ret ?_ | refine l_ops ?_ | refine l_draw ?_ | (apply s_alone; refine s_block ?_) | ((first | apply o_off | apply d_off); (· (simp only [q0, q1, q2, q3, q4, q5, q6, List.map, Option.map, Nat.reduceEqDiff, ↓reduceIte]; first | done | rfl))) | (apply d_callOn; iterate 3 (· (simp only [q0, q1, q2, q3, q4, q5, q6, List.map, Option.map, Nat.reduceEqDiff, ↓reduceIte]; first | done | rfl))))
    rw [List.take_length] at sS
    exact hQ _ sS hk

end Go.Ab.S1
