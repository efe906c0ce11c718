/-
  DERIVED: THE SHELF's CONTRACTS AT THIS DUMP, IN PLAIN WORDS (tools/lay-plain.mjs out of 'TryShelf.lean', which tools/lay-shelf.mjs wrote): THE SAME DECLARATIONS UNDER THE SAME NAMES: 'import', 'namespace', 'open', 'def', 'theorem' AND NOTHING ELSE: no command of the shelf's: FOR A HAND-IN. Each laying: the table of numbers ('.._ren') and one theorem, a field a fact of the dump's own or the kernel's comparison; each contract: ONE APPLICATION.
-/
import Derived.Shelf.SlIterI.Nil
import Derived.Shelf.SortM.Plain
import Derived.Shelf.SortM.SortNone
import Derived.Ground.GgzProg
import Derived.Ground.SlgmProg
import Derived.Test.YtfhkjlokfijpiaaProg
import Derived.Test.YtfhkjlokfijpiaaBb
set_option linter.unusedSimpArgs false
set_option linter.unusedVariables false
namespace Go.Proofs
open Go.Shelf
def Try.keysA_ren : Go.Shelf.Ren := ⟨fun | 7 => 18 | 10 => 31 | n => n, fun | 23 => 41 | 26 => 3 | 3 => 29 | 28 => 49 | 0 => 0 | 27 => 48 | 33 => 45 | 4 => 4 | n => n, fun | n => n⟩
theorem Try.keysA : Go.Proofs.SlLaysZI.n7 Try.prog Try.keysA_ren := {
  mixed := by kernel_rfl
  f7 := ⟨Try.f18.name, by decide, Try.func18.trans (congrArg some (by kernel_rfl))⟩
  f10 := ⟨Try.f31.name, by decide, Try.func31.trans (congrArg some (by kernel_rfl))⟩
  t0 := Try.underlying0
  a0 := Try.isAgg0
  z0 := Try.sizeOf0
  v0 := Try.zeroValue0
  t4 := Try.underlying4
  a4 := Try.isAgg4
  z4 := Try.sizeOf4
  v4 := Try.zeroValue4
  t23 := Try.underlying41
  a23 := Try.isAgg41
  z23 := Try.sizeOf41
  v23 := Try.zeroValue41
  t26 := Try.underlying3
  a26 := Try.isAgg3
  z26 := Try.sizeOf3
  v26 := Try.zeroValue3
  t27 := Try.underlying48
  a27 := Try.isAgg48
  z27 := Try.sizeOf48
  v27 := Try.zeroValue48
  t28 := Try.underlying49
  a28 := Try.isAgg49
  z28 := Try.sizeOf49
  v28 := Try.zeroValue49
  t33 := Try.underlying45
  a33 := Try.isAgg45
  z33 := Try.sizeOf45
  v33 := Try.zeroValue45 }
def Try.sortedA_ren : Go.Shelf.Ren := ⟨fun | 6 => 17 | 8 => 29 | 9 => 30 | 11 => 37 | 13 => 39 | 12 => 38 | 23 => 52 | 24 => 53 | 14 => 43 | 15 => 44 | 16 => 45 | 17 => 46 | 18 => 47 | 19 => 48 | 20 => 49 | 21 => 50 | 22 => 51 | 25 => 55 | 26 => 56 | 27 => 57 | 28 => 58 | 29 => 59 | 30 => 60 | 31 => 62 | n => n, fun | 26 => 3 | 28 => 49 | 24 => 29 | 0 => 0 | 3 => 3 | 37 => 60 | 48 => 66 | 50 => 69 | 4 => 4 | 40 => 80 | 39 => 79 | 45 => 85 | 5 => 5 | 9 => 9 | 51 => 91 | 55 => 95 | 57 => 97 | 58 => 98 | 33 => 45 | n => n, fun | n => n⟩
theorem Try.sortedA : Go.Proofs.SlLaysZI.n6 Try.prog Try.sortedA_ren := {
  mixed := by kernel_rfl
  f6 := ⟨Try.f17.name, by decide, Try.func17.trans (congrArg some (by kernel_rfl))⟩
  f8 := ⟨Try.f29.name, by decide, Try.func29.trans (congrArg some (by kernel_rfl))⟩
  f11 := ⟨Try.f37.name, by decide, Try.func37.trans (congrArg some (by kernel_rfl))⟩
  t0 := Try.underlying0
  a0 := Try.isAgg0
  z0 := Try.sizeOf0
  v0 := Try.zeroValue0
  t24 := Try.underlying29
  a24 := Try.isAgg29
  z24 := Try.sizeOf29
  v24 := Try.zeroValue29
  t26 := Try.underlying3
  a26 := Try.isAgg3
  z26 := Try.sizeOf3
  v26 := Try.zeroValue3
  t28 := Try.underlying49
  a28 := Try.isAgg49
  z28 := Try.sizeOf49
  v28 := Try.zeroValue49
  i26 := by kernel_rfl }
def Try.sortA_ren : Go.Shelf.Ren := ⟨fun | 5 => 30 | 8 => 39 | 7 => 38 | 19 => 52 | 20 => 53 | 10 => 43 | 11 => 44 | 12 => 45 | 13 => 46 | 14 => 47 | 15 => 48 | 16 => 49 | 17 => 50 | 18 => 51 | 30 => 55 | 31 => 56 | 32 => 57 | 33 => 58 | 34 => 59 | 35 => 60 | 40 => 62 | n => n, fun | 23 => 29 | 25 => 3 | 3 => 3 | 32 => 60 | 22 => 29 | 0 => 0 | 44 => 66 | 46 => 69 | 4 => 4 | 36 => 80 | 35 => 79 | 41 => 85 | 5 => 5 | 9 => 9 | 53 => 91 | 57 => 95 | 63 => 97 | 64 => 98 | n => n, fun | n => n⟩
theorem Try.sortA : Go.Proofs.SlLaysM.n5 Try.prog Try.sortA_ren := {
  mixed := by kernel_rfl
  f5 := ⟨Try.f30.name, by decide, Try.func30.trans (congrArg some (by kernel_rfl))⟩
  f7 := ⟨Try.f38.name, by decide, Try.func38.trans (congrArg some (by kernel_rfl))⟩
  f8 := Try.func39.trans (congrArg some (by kernel_rfl))
  f10 := ⟨Try.f43.name, by decide, Try.func43.trans (congrArg some (by kernel_rfl))⟩
  f11 := ⟨Try.f44.name, by decide, Try.func44.trans (congrArg some (by kernel_rfl))⟩
  f12 := ⟨Try.f45.name, by decide, Try.func45.trans (congrArg some (by kernel_rfl))⟩
  f13 := ⟨Try.f46.name, by decide, Try.func46.trans (congrArg some (by kernel_rfl))⟩
  f14 := ⟨Try.f47.name, by decide, Try.func47.trans (congrArg some (by kernel_rfl))⟩
  f15 := ⟨Try.f48.name, by decide, Try.func48.trans (congrArg some (by kernel_rfl))⟩
  f16 := ⟨Try.f49.name, by decide, Try.func49.trans (congrArg some (by kernel_rfl))⟩
  f17 := ⟨Try.f50.name, by decide, Try.func50.trans (congrArg some (by kernel_rfl))⟩
  f18 := ⟨Try.f51.name, by decide, Try.func51.trans (congrArg some (by kernel_rfl))⟩
  f19 := Try.func52.trans (congrArg some (by kernel_rfl))
  f20 := Try.func53.trans (congrArg some (by kernel_rfl))
  f30 := ⟨Try.f55.name, by decide, Try.func55.trans (congrArg some (by kernel_rfl))⟩
  f31 := Try.func56.trans (congrArg some (by kernel_rfl))
  f32 := Try.func57.trans (congrArg some (by kernel_rfl))
  f33 := ⟨Try.f58.name, by decide, Try.func58.trans (congrArg some (by kernel_rfl))⟩
  f34 := ⟨Try.f59.name, by decide, Try.func59.trans (congrArg some (by kernel_rfl))⟩
  f35 := ⟨Try.f60.name, by decide, Try.func60.trans (congrArg some (by kernel_rfl))⟩
  f40 := ⟨Try.f62.name, by decide, Try.func62.trans (congrArg some (by kernel_rfl))⟩
  t0 := Try.underlying0
  a0 := Try.isAgg0
  z0 := Try.sizeOf0
  v0 := Try.zeroValue0
  t3 := Try.underlying3
  a3 := Try.isAgg3
  z3 := Try.sizeOf3
  v3 := Try.zeroValue3
  t4 := Try.underlying4
  a4 := Try.isAgg4
  z4 := Try.sizeOf4
  v4 := Try.zeroValue4
  t5 := Try.underlying5
  a5 := Try.isAgg5
  z5 := Try.sizeOf5
  v5 := Try.zeroValue5
  t9 := Try.underlying9
  a9 := Try.isAgg9
  z9 := Try.sizeOf9
  v9 := Try.zeroValue9
  t22 := Try.underlying29
  a22 := Try.isAgg29
  z22 := Try.sizeOf29
  v22 := Try.zeroValue29
  t23 := Try.underlying29
  a23 := Try.isAgg29
  z23 := Try.sizeOf29
  v23 := Try.zeroValue29
  t25 := Try.underlying3
  a25 := Try.isAgg3
  z25 := Try.sizeOf3
  v25 := Try.zeroValue3
  t32 := Try.underlying60
  a32 := Try.isAgg60
  z32 := Try.sizeOf60
  v32 := Try.zeroValue60
  t35 := Try.underlying79
  a35 := Try.isAgg79
  z35 := Try.sizeOf79
  v35 := Try.zeroValue79
  t36 := Try.underlying80
  a36 := Try.isAgg80
  z36 := Try.sizeOf80
  v36 := Try.zeroValue80
  t41 := Try.underlying85
  a41 := Try.isAgg85
  z41 := Try.sizeOf85
  v41 := Try.zeroValue85
  t44 := Try.underlying66
  a44 := Try.isAgg66
  z44 := Try.sizeOf66
  v44 := Try.zeroValue66
  t46 := Try.underlying69
  a46 := Try.isAgg69
  z46 := Try.sizeOf69
  v46 := Try.zeroValue69
  t53 := Try.underlying91
  a53 := Try.isAgg91
  z53 := Try.sizeOf91
  v53 := Try.zeroValue91
  t57 := Try.underlying95
  a57 := Try.isAgg95
  z57 := Try.sizeOf95
  v57 := Try.zeroValue95
  t63 := Try.underlying97
  a63 := Try.isAgg97
  z63 := Try.sizeOf97
  v63 := Try.zeroValue97
  t64 := Try.underlying98
  a64 := Try.isAgg98
  z64 := Try.sizeOf98
  v64 := Try.zeroValue98 }
end Go.Proofs

/- slices.Sorted(maps.Keys(m)) is what the table says: by the kit's contracts, laid at this program (TryShelfPlain). -/
namespace Go.Ab
open Go Go.RowKit Go.Proofs

variable {K : KP} {c : RC} {h : Heap} {w' : World}

/-- The world has grown; what lay there lies there. -/
theorem HR.below (H : HR K c h) (hb : Below c.w.heap.size c.w w') : Ext c { c with w := w' } ∧ HR K { c with w := w' } h := by
  have e : Ext c { c with w := w' } := ⟨fun _ h => ⟨h, rfl⟩, hb.size, fun b hlt _ => hb.block b hlt, fun _ h => .inl h, fun _ => .rfl, rfl, fun _ h => .inl h,
    fun b cs el fr h => ⟨cs, el, fr, by rw [hb.block b (lt_of_some h)]; exact h, rfl⟩, fun b l h => ⟨l, by rw [hb.block b (lt_of_some h)]; exact h⟩, hb.os, hb.tape, hb.output⟩
  refine ⟨e, ?_, H.inj, H.own, H.dom, H.lo⟩
  intro i o hi hd
  obtain ⟨h1, h2, h3, h4⟩ := H.live i o hi hd
  exact ⟨h1, h2, Nat.lt_of_lt_of_le h3 hb.size, h4.ext e (hb.block _ h3)⟩

/-- .. and one new block has a name. -/
theorem HR.belowNew (H : HR K c h) (hb : Below c.w.heap.size c.w w') {g : Nat} (hg : c.w.heap.size ≤ g) (hg2 : g < w'.heap.size) (o : AO) (hd : o ≠ .dead)
    (ho : ∀ c', Ext c c' → c'.w = w' → OR K c' o g) :
    ∃ c', Ext c c' ∧ HR K c' (h ++ [o]) ∧ c'.w = w' ∧ c'.D h.length ∧ c'.ρ h.length = g := by
  let c' : RC := { D := fun j => c.D j ∨ j = h.length, ρ := fun j => if j = h.length then g else c.ρ j, own := fun b => c.own b ∨ b = g, frn := c.frn, lo := c.lo, w := w' }
  have rold : ∀ i, i < h.length → c'.ρ i = c.ρ i := fun i hi => by simp only [c']; rw [if_neg (by omega)]
  have rnew : c'.ρ h.length = g := by simp [c']
  have e : Ext c c' := ⟨fun i hi => ⟨.inl hi, rold i (H.dom i hi)⟩, hb.size, fun b hlt _ => hb.block b hlt, fun b hb' => by
      rcases hb' with h1 | h1
      · exact .inl h1
      · exact .inr (by rw [h1]; exact hg), fun _ => .rfl, rfl, fun i hi => by
      rcases hi with h1 | h1
      · exact .inl h1
      · exact .inr (by rw [h1]; exact H.lo),
    fun b cs el fr h => ⟨cs, el, fr, by simp only [c']; rw [hb.block b (lt_of_some h)]; exact h, rfl⟩, fun b l h => ⟨l, by simp only [c']; rw [hb.block b (lt_of_some h)]; exact h⟩, hb.os, hb.tape, hb.output⟩
  have old : ∀ (i : Nat) (x : AO), (h ++ [o])[i]? = some x → (h[i]? = some x ∧ i < h.length) ∨ (i = h.length ∧ x = o) := by
    intro i x hx
    rw [List.getElem?_append] at hx
    split at hx
    · exact .inl ⟨hx, by assumption⟩
    · rename_i hi
      have hlt := lt_of_someL hx
      simp at hlt
      have : i = h.length := by omega
      subst this
      simp at hx
      exact .inr ⟨rfl, hx.symm⟩
  refine ⟨c', e, ⟨?_, ?_, ?_, ?_, by have := H.lo; simp [c']; omega⟩, rfl, .inr rfl, rnew⟩
  · intro i x hx hxd
    rcases old i x hx with ⟨hx, hi⟩ | ⟨rfl, rfl⟩
    · obtain ⟨h1, h2, h3, h4⟩ := H.live i x hx hxd
      rw [rold i hi]
      exact ⟨.inl h1, .inl h2, Nat.lt_of_lt_of_le h3 hb.size, h4.ext e (hb.block _ h3)⟩
    · rw [rnew]
      exact ⟨.inr rfl, .inr rfl, hg2, ho c' e rfl⟩
  · intro i j x y hx hy hxd hyd hr
    rcases old i x hx with ⟨gx, hi⟩ | ⟨hi, gx⟩ <;> rcases old j y hy with ⟨gy, hj⟩ | ⟨hj, gy⟩
    · rw [rold i hi, rold j hj] at hr
      exact H.inj i j x y gx gy hxd hyd hr
    · rw [rold i hi, hj, rnew] at hr
      have := (H.live i x gx hxd).2.2.1
      omega
    · rw [hi, rnew, rold j hj] at hr
      have := (H.live j y gy hyd).2.2.1
      omega
    · rw [hi, hj]
  · intro b hb'
    rcases hb' with hb' | hb'
    · obtain ⟨i, x, hx, hxd, hr⟩ := H.own b hb'
      have hi := lt_of_someL hx
      exact ⟨i, x, by rw [List.getElem?_append_left hi]; exact hx, hxd, by rw [rold i hi]; exact hr⟩
    · exact ⟨h.length, o, by simp, hd, by rw [rnew, hb']⟩
  · intro i hi
    rcases hi with hi | hi
    · have := H.dom i hi; simp; omega
    · simp; omega

namespace S1

theorem sortI_sorted : ∀ (l : List Int), (sortI l).Pairwise (fun a b => decide (a ≤ b) = true)
  | [] => List.Pairwise.nil
  | x :: l => by
    have ins : ∀ (l : List Int), l.Pairwise (fun a b => decide (a ≤ b) = true) → (insI x l).Pairwise (fun a b => decide (a ≤ b) = true) := by
      intro l
      induction l with
      | nil => intro _; simp [insI]
      | cons y l ih =>
        intro hl
        rw [List.pairwise_cons] at hl
        have pm : ∀ z, z ∈ insI x l → z = x ∨ z ∈ l := by
          intro z hz
          have : ∀ (m : List Int), z ∈ insI x m → z = x ∨ z ∈ m := by
            intro m
            induction m with
            | nil => intro h; simp [insI] at h; exact .inl h
            | cons u m ihm =>
              intro h
              simp only [insI] at h
              split at h
              · rcases List.mem_cons.1 h with h | h
                · exact .inl h
                · exact .inr h
              · rcases List.mem_cons.1 h with h | h
                · exact .inr (by simp [h])
                · rcases ihm h with h | h
                  · exact .inl h
                  · exact .inr (by simp [h])
          exact this l hz
        simp only [insI]
        split
        · rename_i h
          rw [List.pairwise_cons]
          refine ⟨?_, List.pairwise_cons.2 hl⟩
          intro z hz
          rcases List.mem_cons.1 hz with rfl | hz
          · simpa using h
          · have := hl.1 z hz; simp at this ⊢; omega
        · rename_i h
          rw [List.pairwise_cons]
          refine ⟨?_, ih hl.2⟩
          intro z hz
          rcases pm z hz with rfl | hz
          · simp; omega
          · exact hl.1 z hz
    exact ins _ (sortI_sorted l)

theorem sortI_perm' : ∀ (l : List Int), (sortI l).Perm l
  | [] => List.Perm.refl _
  | x :: l => by
    have ins : ∀ (l : List Int), (insI x l).Perm (x :: l) := by
      intro l
      induction l with
      | nil => exact List.Perm.refl _
      | cons y l ih =>
        simp only [insI]
        split
        · exact List.Perm.refl _
        · exact (ih.cons y).trans (List.Perm.swap x y l)
    exact (ins _).trans ((sortI_perm' l).cons x)

theorem mergeSort_sortI {l ks : List Int} (hp : l.Perm ks) : (l.mergeSort fun x y => decide (x ≤ y)) = sortI ks := by
  have tr : ∀ a b c : Int, decide (a ≤ b) = true → decide (b ≤ c) = true → decide (a ≤ c) = true := fun a b c h1 h2 => by simp at *; omega
  have to : ∀ a b : Int, (decide (a ≤ b) || decide (b ≤ a)) = true := fun a b => by simp; omega
  refine List.Perm.eq_of_pairwise (le := fun a b => decide (a ≤ b) = true) (fun a b _ _ h1 h2 => ?_) (List.pairwise_mergeSort tr to l) (sortI_sorted ks) (((List.mergeSort_perm l _).trans hp).trans (sortI_perm' ks).symm)
  simp at h1 h2
  omega

/-- slices.Sort's two contracts at this program. -/
theorem sortsA (m : Nat) : AnyZI.SortsIn Try.prog Try.sortedA_ren Fence.wide m :=
  ⟨fun blk off cap ss W hH hblk hsz => callsIn_wide.2 (AnyM.slices_Sort_int Try.sortA blk off cap ss W hH hblk hsz),
   fun p cap W => callsIn_wide.2 (AnyM.slices_Sort_int_none Try.sortA p cap W)⟩

theorem keysOf_get : ∀ {es : List (AV × AV)} {ks : List Int}, keysOf es = some ks → es.length = ks.length ∧ ∀ (i : Nat) (k : Int), ks[i]? = some k → ∃ x, es[i]? = some (.i64 k, x)
  | [], ks, h => by simp [keysOf] at h; subst h; simp
  | (q, v) :: es, ks, h => by
    unfold keysOf at h
    split at h
    · rename_i heq; cases heq
    · rename_i heq
      rename_i k es' v'
      cases heq
      obtain ⟨ks', h1, rfl⟩ := Option.map_eq_some_iff.1 h
      obtain ⟨h2, h3⟩ := keysOf_get h1
      refine ⟨by simp [h2], ?_⟩
      intro i k hk
      cases i with
      | zero => simp at hk; subst hk; exact ⟨v, by simp⟩
      | succ i => simp at hk ⊢; exact h3 i k hk
    · cases h

theorem insert_perm {x : Lit × DataW Unit} : ∀ l : List (Lit × DataW Unit), (DataW.insert x l).Perm (x :: l)
  | [] => List.Perm.refl _
  | y :: l => by
    simp only [DataW.insert]
    split
    · exact List.Perm.refl _
    · exact ((insert_perm l).cons y).trans (List.Perm.swap x y l)
theorem inserts_perm : ∀ l : List (Lit × DataW Unit), (l.foldr DataW.insert []).Perm l
  | [] => List.Perm.refl _
  | x :: l => (insert_perm _).trans ((inserts_perm l).cons x)

abbrev anyR : Value → Option (DataW Unit × List MemPlace) := fun _ => some (.lit (.bool true), [])

theorem sorted_ok : PrimOk DrawSt Try.prog 17 (pSorted 31) := by
  refine ⟨⟨_, _, Try.func17, rfl, by decide⟩, ?_⟩
  intro c args vs h h' v H hL hp m
  unfold pSorted at hp
  split at hp
  · rename_i f b
    split at hp
    · rename_i hf
      subst hf
      split at hp
      · rename_i mm hrow
        split at hp
        · rename_i es hmap
          split at hp
          · rename_i ks hks
            -- what the arguments are
            simp only [LR, VR] at hL
            obtain ⟨v0, r, rfl, ⟨fv, cv, rfl, h1, v1, r1, h2, ⟨hDb, rfl⟩, rfl⟩, rfl⟩ := hL
            have hfv : fv = #[] := by rw [← Array.toArray_toList (xs := fv), h1]
            have hcv : cv = #[.pointer (some ⟨c.ρ b, 0, none⟩)] := by rw [← Array.toArray_toList (xs := cv), h2]
            subst hfv hcv
            have hok : ks = [] ∨ okKeys ks = true := by
              by_cases h0 : ks = []
              · exact .inl h0
              · rw [if_neg h0] at hp
                split at hp
                · rename_i h1; exact .inr h1
                · cases hp
            have hwf : ∀ k ∈ ks, (Lit.int .i64 k).wf = true := by
              intro k hk
              rcases hok with rfl | hok
              · cases hk
              · simp only [okKeys, Bool.and_eq_true, List.all_eq_true, decide_eq_true_eq] at hok
                have := hok.1.2 k hk
                simp only [Lit.wf, IntKind.min, IntKind.max, IntKind.signed, IntKind.bits, Bool.and_eq_true, decide_eq_true_eq]
                simp
                omega
            have hlen : ks.length ≤ 2 ^ 40 := by
              rcases hok with rfl | hok
              · simp
              · simp only [okKeys, Bool.and_eq_true, List.all_eq_true, decide_eq_true_eq] at hok
                exact hok.2
            -- the map in the world
            obtain ⟨ents, clock, hblk, hM, hst⟩ := H.mapAt' hmap
            obtain ⟨-, -, hlt, hO⟩ := H.live b _ (rowOf_some hrow) (by simp)
            obtain ⟨cs, el, fr, hbx, -, hA⟩ := hO
            obtain ⟨w0, hw0, -, hw1⟩ := hA 0 (.mp mm) rfl
            simp only [VR] at hw1
            have hcell : c.w.cell? ⟨c.ρ b, 0, none⟩ = some (.map (some (c.ρ mm))) := by
              simp [World.cell?, hbx, hw0, hw1.2]
            obtain ⟨hkl, hkg⟩ := keysOf_get hks
            have hrd : ∀ (i : Nat) (e : MapEntry), ents[i]? = some e → ∃ k, ks[i]? = some k ∧ Go.WideElems.rd Try.prog 3 anyR e = some (.int .i64 k, .lit (.bool true)) := by
              intro i e he
              have hi : i < ks.length := by rw [← hkl, hM.1]; exact lt_of_some he
              refine ⟨ks[i], by simp [hi], ?_⟩
              obtain ⟨x, hx⟩ := hkg i ks[i] (by simp [hi])
              obtain ⟨⟨l, h1, h2⟩, -⟩ := hM.2 i _ _ e hx he
              cases h1
              have hk : keyOf Try.prog 3 e.key = some (.int .i64 ks[i]) := by
                rw [h2]
                simp [keyOf, Try.underlying3, mapKey, AL.v, hwf _ (List.getElem_mem hi)]
              simp [Go.WideElems.rd, hk, anyR]
            have hkeys : ents.toList.map (Go.WideElems.rg Try.prog 3 anyR) = ks.map fun k => (Lit.int .i64 k, DataW.lit (.bool true)) := by
              apply List.ext_getElem?
              intro i
              simp only [List.getElem?_map, Array.getElem?_toList]
              cases he : ents[i]? with
              | none =>
                have : ks[i]? = none := by
                  rw [List.getElem?_eq_none_iff, ← hkl, hM.1]
                  simpa using he
                simp [this]
              | some e =>
                obtain ⟨k, h1, h2⟩ := hrd i e he
                simp [h1, Go.WideElems.rg, h2]
            have hsz : ents.size = ks.length := by rw [← hkl, hM.1]
            have hown : c.w.ownsMap (H := Unit) Try.prog 3 anyR (c.ρ mm) ents.size (.map ((ents.toList.map (Go.WideElems.rg Try.prog 3 anyR)).foldr DataW.insert [])) :=
              ⟨ents, clock, hblk, ⟨by rw [hsz]; simp only [maxLen]; omega, hst, fun x hx => by
                obtain ⟨i, hi⟩ := List.mem_iff_getElem?.1 hx
                obtain ⟨k, -, h2⟩ := hrd i x (by simpa using hi)
                exact ⟨_, h2⟩⟩, Nat.le_refl _, rfl⟩
            rw [hkeys] at hown
            have hsize : Maps.size (DataW.map ((ks.map fun k => (Lit.int .i64 k, DataW.lit (H := Unit) (.bool true))).foldr DataW.insert [])) = ks.length := by
              rw [Maps.size_eq, length_sorted, List.length_map]
            have hik : (intKeys (DataW.map ((ks.map fun k => (Lit.int .i64 k, DataW.lit (H := Unit) (.bool true))).foldr DataW.insert []))).Perm ks := by
              have h1 := (inserts_perm (ks.map fun k => (Lit.int .i64 k, DataW.lit (H := Unit) (.bool true)))).map (fun p => _root_.Go.intOf p.1)
              simp only [List.map_map] at h1
              refine h1.trans ?_
              rw [show ((fun p : Lit × DataW Unit => _root_.Go.intOf p.1) ∘ fun k => (Lit.int .i64 k, DataW.lit (.bool true))) = id from rfl, List.map_id]
            generalize DataW.map ((ks.map fun k => (Lit.int .i64 k, DataW.lit (H := Unit) (.bool true))).foldr DataW.insert []) = D0 at hown hsize hik
            have hseq : SeqGives Fence.wide 2 Try.prog 31 #[.pointer (some ⟨c.ρ b, 0, none⟩)] encZ (fun ss => ss.Perm (intKeys D0)) (Maps.size D0) c.w :=
              AnyZI.keys_gives (ρ := Try.keysA_ren) { Try.keysA with } Fence.wide _ trivial rfl (by omega) (c.ρ b) (c.ρ mm) ents.size D0 c.w hlt hcell hown
            have cS := AnyZI.sorted_in Try.sortedA Fence.wide 5 trivial trivial trivial trivial rfl (by omega) (sortsA _) (enters_of Try.func30 (by kernel_rfl) rfl) 31 #[.pointer (some ⟨c.ρ b, 0, none⟩)] trivial (enters_of Try.func31 (by kernel_rfl) rfl) _ _ (by rw [hsize]; simp only [maxLen]; omega) (by rw [hsize]; omega) c.w hseq
            change CallsIn Fence.wide 5 Try.prog 17 #[.func (.func 31) #[] #[.pointer (some ⟨c.ρ b, 0, none⟩)]] c.w _ at cS
            refine callsIn_wide.2 (callsIn_wide.1 (cS.mono ?_))
            rintro e w' ⟨vv, ss, rfl, hS, hown', hnil, hbel⟩
            have hpm : ss.Perm ks := hS.trans hik
            by_cases hk0 : ks = []
            · subst hk0
              have hss : ss = [] := hpm.eq_nil
              rw [if_pos rfl] at hp
              cases hp
              rw [hnil.2 hss]
              obtain ⟨g1, g2⟩ := H.below hbel
              exact ⟨_, _, rfl, rfl, g1, g2, by simp [VR, AL.v]⟩
            · rw [if_neg hk0] at hp
              split at hp
              · cases hp
                have hss : ss ≠ [] := fun e => hk0 (by rw [e] at hpm; exact hpm.symm.eq_nil)
                rcases hown'.2 with ⟨e0, -⟩ | ⟨g, cap, cur, rfl, hbase, hgb, r1, r2, r3, r4⟩
                · exact absurd (hnil.1 e0) hss
                · have hssl : ss.length = ks.length := hpm.length_eq
                  rw [mergeSort_sortI hpm, Nat.mul_one] at r4
                  obtain ⟨c', e1, e2, e3, e4, e5⟩ := H.belowNew hbel hbase (lt_of_some hgb) (.row ((sortI ks).map AV.i64)) (by simp) (by
                    intro c' _ hw
                    refine ⟨cur, _, _, by rw [hw]; exact hgb, NF.zero _, ?_⟩
                    intro i x hx
                    simp only [List.getElem?_map, Option.map_eq_some_iff] at hx
                    obtain ⟨k, hk1, rfl⟩ := hx
                    have h5 := congrArg (·[i]?) r4
                    simp only [List.getElem?_map, hk1, Option.map_some] at h5
                    have hi : i < ss.length := by
                      rcases Nat.lt_or_ge i ss.length with h | h
                      · exact h
                      · rw [List.getElem?_take_eq_none h] at h5; cases h5
                    rw [List.getElem?_take_of_lt hi, Array.getElem?_toList] at h5
                    exact ⟨_, h5, rfl, by simp [VR, AL.v]⟩)
                  refine ⟨c', _, rfl, e3, e1, e2, ?_⟩
                  simp only [VR]
                  refine ⟨e4, cap, ?_, by omega, cur, _, _, by rw [e3, e5]; exact hgb, by rw [r3]; omega⟩
                  rw [e5, hssl]
              · cases hp
          · cases hp
        · cases hp
      · cases hp
    · cases hp
  · cases hp

end S1
end Go.Ab
