/- The statement of TopSplit holds: whatever the count and the colors, TopSplit returns true, and its arguments read as they did. Conditions: none. -/
import Derived.Test.YtfhkjlokfijpiaaBk
import Derived.Test.YtfhkjlokfijpiaaCa
import Derived.Test.YtfhkjlokfijpiaaRows
import Derived.WalkKit
import Derived.ProofKit
import Derived.OpenShut
set_option linter.unusedSimpArgs false
set_option linter.unusedVariables false
namespace Go.Ab.S1
open Go Go.Ab

/-- The program's functions, as the runner has them. -/
noncomputable def tab : Tab := tabOf Go.Proofs.Try.prog ((17, .prim (pSorted 31)) :: entries)

theorem tab_ok : TabOk DrawSt Go.Proofs.Try.prog tab := tabOf_ok (List.forall_mem_cons.2 ⟨sorted_ok, entries_ok⟩)

theorem tab_has : Has tab where
  fn g e h := by
    show findFn g ((17, .prim (pSorted 31)) :: entries) = some e
    simp only [findFn]
    rw [if_neg]
    · exact h
    · rintro rfl
      cases h
  sorted := rfl

/-- TopSplit in the model: true; what lay there lies there. -/
theorem topSplit_calls (cs : Array Value) (b : Nat → Int) (n : Int) (hn : 0 ≤ n ∧ n < 256) (hb : ∀ k, 0 ≤ b k ∧ b k < 256) (hcs : cs.toList = (List.range 48).map fun k => Value.int .u8 (b k)) (W : World) :
    Calls Go.Proofs.Try.prog 3 #[.int .u8 n, .agg cs] W fun e W' => e = .returned (.bool true) ∧ Go.RowKit.Below W.heap.size W W' := by
  obtain ⟨m, v, h', hc, rfl⟩ := c_3 (T := tab) (h := []) (Q := fun v _ => v = .bool true) tab_has hn hb (fun _ => rfl)
  let c0 : RC := { D := fun _ => False, ρ := fun _ => 0, own := fun _ => False, frn := fun _ => False, lo := 0, w := W }
  have H : HR (CodeR DrawSt Go.Proofs.Try.prog) c0 [] := ⟨by simp, by simp, fun _ h => h.elim, fun _ h => h.elim, Nat.le_refl _⟩
  have hL : LR c0 [.int .u8 n, .agg (bytesRow b)] [.int .u8 n, .agg cs] := by
    simp only [LR, VR, AL.v]
    refine ⟨_, _, rfl, rfl, _, _, rfl, ⟨cs, rfl, ?_⟩, rfl⟩
    rw [hcs]
    have := LR.lits (c := c0) ((List.range 48).map fun k => AL.int .u8 (b k))
    simpa [bytesRow, AL.v, Function.comp_def] using this
  have hs := ((sound tab_ok m).1 3 [] [] _ [] _ h' hc).2 c0 [] _ [] H (by simp [LR]) hL (by simp [LR]) 0
  refine callsIn_wide.1 (hs.mono ?_)
  rintro e W' ⟨c', u, rfl, rfl, hE, -, hv⟩
  simp only [VR, AL.v] at hv
  subst hv
  exact ⟨rfl, hE.os, hE.tape, hE.output, hE.size, fun k hk => hE.keep k hk (fun h => h)⟩

end Go.Ab.S1

namespace Go.Proofs.Ytfhkjlokfijpiaa
open Go Go.ChangeShapes Go.WideShapes Go.ChangeAt Go.RowKit

theorem own : ownKnob Try.prog.godebug = none := by kernel_rfl
theorem laidOut : laidOutB Try.prog = true := by kernel_rfl

section
variable {H : Type} {enc : TypeId × Value → H} {P : Program}

/-- Where nothing is read through a place. -/
theorem post_no_places {f : Func} {s : ChangeSpec} {apart fresh handsOn again : Bool} {W W' : World} {args : Array Value} {v : Value} {ds gs : List (DataW H)}
    (hW : DataW.Whole enc P f.params.toList s.vars apart W args.toList ds gs [])
    (hres : ∀ (b : Nat) (sp : Nat → Bool) (hd : Bool), DataW.TrodAll enc P W' b sp hd f.resultTypes.toList (v.resultList f.resultTypes.size) (s.fn H (ds ++ gs)).results [])
    (hargs : ∀ sp : Nat → Bool, DataW.TrodAll enc P W' 0 sp true f.params.toList args.toList (s.fn H (ds ++ gs)).args [])
    (hvars : ∀ sp : Nat → Bool, DataW.TrodVars enc P W' sp s.vars (s.fn H (ds ++ gs)).vars [])
    (hk : W.keptBut W' (· ∈ ([] : List MemPlace)))
    (hok : ∀ (j : Nat) (t : TypeId) (r : Value), f.resultTypes[j]? = some t → (v.resultList f.resultTypes.size)[j]? = some r → Value.okWide P W' .any 0 t r) :
    s.post enc P f apart fresh handsOn again W args v W' := by
  refine ⟨ds, gs, [], [], [], [], hW, hres _ _ _, hargs _, hvars _, World.keptBut_mono (fun p hp => by cases hp) hk, fun _ => ?_⟩
  obtain ⟨_, _, _, _, _, hz, hn⟩ := hW
  refine ⟨hok, _, _, ([] ++ []) ++ [], ⟨[] ++ [], [], trodAll_append (hargs _) (hres _ _ _), hvars _, rfl, ?_, ?_⟩, ?_⟩
  · intro b off hp
    simp at hp
  · intro ha
    simp
  · intro p hp _
    simp at hp
end

/-- An array of 16 arrays of 3 bytes, opened. -/
theorem open_bytes {H : Type} {enc : TypeId × Value → H} {W : World} {base : Nat} {sp : Nat → Bool} {held : Bool} {cs : Array Value} {d : DataW H} {q : List MemPlace} (hd : DataW.Trod enc Try.prog W base sp held 23 (.agg cs) d q) :
    q = [] ∧ ∃ b : Nat → Int, (∀ k, 0 ≤ b k ∧ b k < 256) ∧ cs.toList = (List.range 48).map fun k => Value.int .u8 (b k) := by
  obtain ⟨fuel, hf⟩ := hd
  obtain ⟨xs, m, rfl, hx, hlen, hxl, he⟩ := DataW.trod_array Try.underlying23 hf
  have s48 : Try.prog.cellsOf 23 = 48 := by kernel_rfl
  have s3 : Try.prog.cellsOf 22 = 3 := by kernel_rfl
  have s1 : Try.prog.cellsOf 5 = 1 := by kernel_rfl
  rw [s48] at hlen
  rw [s3] at he
  simp only [Value.cells] at hf hlen he
  have cell : ∀ i j, i < 16 → j < 3 → ∃ n, cs.toList[i * 3 + j]? = some (.int .u8 n) ∧ 0 ≤ n ∧ n < 256 ∧ ∀ x, xs[i]? = some x → x.2 = [] := by
    intro i j hi hj
    have h1 := he i hi
    rw [List.getElem?_eq_getElem (show i < xs.length by omega)] at h1
    obtain ⟨ys, m', -, hy, -, hyl, hj'⟩ := DataW.trod_array (H := H) (by first | exact Try.underlying22) h1
    rw [s1] at hj'
    have el : ∀ k, k < 3 → ∃ n, (((cs.toList.drop (i * 3)).take 3).drop (k * 1)).take 1 = [Value.int .u8 n] ∧ (Lit.int .u8 n).wf = true ∧ ∀ y, ys[k]? = some y → y.2 = [] := by
      intro k hk
      have h2 := hj' k hk
      rw [List.getElem?_eq_getElem (show k < ys.length by omega)] at h2
      obtain ⟨n, e1, e2, e3⟩ := DataW.trod_int Try.underlying5 h2
      refine ⟨n, e1, e3, ?_⟩
      intro y hy'
      rw [List.getElem?_eq_getElem (show k < ys.length by omega)] at hy'
      cases hy'
      rw [e2]
    obtain ⟨n, e1, e2, -⟩ := el j hj
    refine ⟨n, ?_, ?_⟩
    · have h5 := congrArg (·[0]?) e1
      simp only [List.getElem?_cons_zero] at h5
      rw [List.getElem?_take_of_lt (by omega), List.getElem?_drop, List.getElem?_take_of_lt (by omega), List.getElem?_drop] at h5
      rw [← h5]
      congr 1
      omega
    · simp [Lit.wf, IntKind.min, IntKind.max, IntKind.signed, IntKind.bits] at e2
      refine ⟨by omega, by omega, ?_⟩
      intro x hx'
      rw [List.getElem?_eq_getElem (show i < xs.length by omega)] at hx'
      cases hx'
      rw [hy]
      simp only [List.flatMap_eq_nil_iff]
      intro y hym
      obtain ⟨k, hk, hke⟩ := List.mem_iff_getElem.1 hym
      obtain ⟨n', -, -, e5⟩ := el k (by omega)
      exact e5 y (by rw [← hke]; simp [hk])
  refine ⟨?_, ?_⟩
  · simp only [Prod.mk.injEq] at hx
    rw [hx.2, List.flatMap_eq_nil_iff]
    intro x hxm
    obtain ⟨k, hk, hke⟩ := List.mem_iff_getElem.1 hxm
    obtain ⟨n, -, -, -, e5⟩ := cell k 0 (by omega) (by omega)
    exact e5 x (by rw [← hke]; simp [hk])
  · have cell' : ∀ k, k < 48 → ∃ n, cs.toList[k]? = some (.int .u8 n) ∧ 0 ≤ n ∧ n < 256 := by
      intro k hk
      obtain ⟨n, h1, h2, h3, -⟩ := cell (k / 3) (k % 3) (by omega) (by omega)
      rw [show k / 3 * 3 + k % 3 = k by omega] at h1
      exact ⟨n, h1, h2, h3⟩
    refine ⟨fun k => if h : k < 48 then (cell' k h).choose else 0, ?_, ?_⟩
    · intro k
      simp only
      split
      · rename_i h; exact (cell' k h).choose_spec.2
      · omega
    · apply List.ext_getElem?
      intro k
      by_cases h : k < 48
      · rw [(cell' k h).choose_spec.1]
        simp [List.getElem?_map, List.getElem?_range h, h]
      · rw [List.getElem?_eq_none (by omega)]
        simp [h]

theorem contract (H : Type) (enc : TypeId × Value → H) (W : World) (base : Nat) (args : Array Value) (ds gs : List (DataW H)) (before : List MemPlace)
    (hval : ∀ (j : Nat) t v, Try.f3.params[j]? = some t → args[j]? = some v → Value.okWide Try.prog W .any base t v)
    (hW : DataW.Whole enc Try.prog Try.f3.params.toList Rows.topSplitSpec.vars false W args.toList ds gs before) :
    Calls Try.prog 3 args W fun e W' => ∃ v, e = .returned v ∧ Rows.topSplitSpec.post enc Try.prog Try.f3 false true false false W args v W' := by
  have hW' := hW
  obtain ⟨p, q, hA0, hV, rfl, hfz, hnd⟩ := hW
  have hA : DataW.TrodAll enc Try.prog W 0 (fun _ => true) true Try.f3.params.toList args.toList ds p := hA0
  rw [Try.params3] at hA hval
  obtain ⟨v0, v1, d0, d1, p0, p1, rfl, rfl, rfl, h0, h1⟩ := trodAll_two hA
  obtain ⟨rfl, rfl⟩ := trodVars_none hV
  obtain ⟨n, rfl, rfl, rfl, w0⟩ := open_int Try.underlying5 (hval 0 5 v0 rfl rfl) h0
  have hv1 := hval 1 23 v1 rfl rfl
  unfold Value.okWide at hv1
  rw [Try.underlying23] at hv1
  obtain ⟨cs, rfl, -, -⟩ := hv1
  obtain ⟨rfl, b, hb, hcs⟩ := open_bytes h1
  clear hA0
  simp only [List.append_nil] at hW'
  have hn : 0 ≤ n ∧ n < 256 := by
    simp [Lit.wf, IntKind.min, IntKind.max, IntKind.signed, IntKind.bits] at w0
    omega
  refine (Go.Ab.S1.topSplit_calls cs b n hn hb hcs W).mono fun e W' ⟨he, hbel⟩ => ?_
  subst he
  refine ⟨_, rfl, post_no_places hW' (fun _ _ _ => trodAll_mk1 (shut_bool Try.underlying4 _)) (fun sp => ?_) (fun _ => rfl) (hbel.frame _) (ok_one (by kernel_rfl) rfl (okWide_bool_mk Try.underlying4 _))⟩
  exact trodAll_cons_mk (shut_int Try.underlying5 w0) (trodAll_mk1 (WideElems.Trod_stays laidOut (by kernel_rfl) (by decide +kernel) h1 (fun x hx => by cases hx) (fun x hx => by cases hx)))

set_option maxRecDepth 100000 in
theorem lifted (os : Os) (started : os.Started) (H : Type) (enc : TypeId × Value → H) :
    ReturnsInHanded {} Try.checked os 3 .any (Rows.topSplitSpec.pre6 enc Try.prog Try.f3 Rows.topSplitRow.domain false) (Rows.topSplitSpec.post enc Try.prog Try.f3 false true false false) := by
  refine returnsInHanded_of_change (C := Try.checked) own started (by kernel_rfl) Try.func3
    (ChangeSpec.witness6 (enc := enc) (C := Try.checked) false ⟨#[], #[.int .u8 0, .agg (Array.replicate 48 (.int .u8 0))], []⟩ 8 (by kernel_rfl) (by kernel_rfl) (by kernel_rfl) (by kernel_rfl)) ?_
  intro W base args ds gs before hval hW _ _
  exact contract H enc W base args ds gs before hval hW

theorem topSplit_holds : Rows.TopSplitSaid :=
  OpenClaim.holds_of_wide 3 Try.f3 rfl rfl rfl rfl rfl rfl rfl ⟨rfl, rfl, rfl, rfl, rfl⟩ rfl rfl rfl rfl rfl (by kernel_rfl) Try.func3 (by kernel_rfl)
    (of_decide_eq_true (by kernel_rfl)) (by unfold Func.isWrapper; first | (rw [if_pos (by decide +kernel)]; kernel_rfl) | (rw [if_neg (by decide +kernel)]; exact ⟨rfl, rfl⟩))
    (fun os started H enc _ => lifted os started H enc)

end Go.Proofs.Ytfhkjlokfijpiaa
#print axioms Go.Proofs.Ytfhkjlokfijpiaa.topSplit_holds
