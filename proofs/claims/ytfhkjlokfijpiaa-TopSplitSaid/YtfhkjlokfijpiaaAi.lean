/- From a program's code to abstract code, checked. -/
import Derived.Test.YtfhkjlokfijpiaaAh
import Derived.Test.YtfhkjlokfijpiaaAa
set_option linter.unusedSimpArgs false
set_option linter.unusedVariables false
namespace Go.Ab
open Go

/-! ### Our order of a region that draws its own -/

def Opd.tmps : Opd → List Nat
  | .t n => [n]
  | .c _ => []

def oTmps : Option Opd → List Nat
  | none => []
  | some x => x.tmps

def lTmps (l : List Opd) : List Nat := l.flatMap Opd.tmps

def AOp.tmps : AOp → List Nat
  | .mv x | .box x | .nilc x | .un _ x | .conv _ x | .convS x | .bytes2str x | .ifc _ x | .arrp _ x | .faddr _ x | .fld _ _ x | .ext x _ | .clearM x | .clearS _ _ x | .len _ x | .tass _ x _ _ | .ld _ x => x.tmps
  | .pick a b c | .slice3 _ a b c .. => a.tmps ++ b.tmps ++ c.tmps
  | .new _ | .mkmap | .cnst _ => []
  | .build _ ps | .rowlit _ _ _ ps => ps.flatMap fun p => p.2.2.tmps
  | .st _ x y | .bin _ x y | .eqb _ x y | .eqn _ _ x y | .mkslice _ _ _ x y | .iaddr _ x y | .iaddrA _ _ x y | .idxA _ _ _ x y | .idxS x y | .lookup _ _ x y _ | .mapent _ x y | .app _ _ _ x y | .appz _ _ _ x y | .cpy _ x y | .del _ x y => x.tmps ++ y.tmps
  | .func _ a b => lTmps a ++ lTmps b
  | .slice _ x lo hi | .sliceS x lo hi | .sliceA _ _ x lo hi => x.tmps ++ oTmps lo ++ oTmps hi
  | .mapup _ a b c | .entst a b c => a.tmps ++ b.tmps ++ c.tmps
  | .mx xs | .mn xs => lTmps xs
  | .call f xs | .inv f _ xs => f.tmps ++ lTmps xs

def AOp.tmps3 : AOp → List Nat
  | .slice3 _ a b c d => a.tmps ++ b.tmps ++ c.tmps ++ d.tmps
  | o => o.tmps

def needOf (i : AI) : List Nat := match i.guard with
  | none => i.op.tmps3
  | some (t, _) => t :: i.op.tmps3

def edgesOf (o : Oper) : List Nat := (o.after.toList.filter (Region.binds .any)).map (·.on)

def addAll (a b : List Nat) : List Nat := b.foldl (fun a x => if a.contains x then a else x :: a) a

/-- For each place of the region: which places come before it in every order. -/
def reqsOf : List Oper → List (List Nat) → List (List Nat)
  | [], acc => acc
  | o :: l, acc => reqsOf l (acc ++ [(edgesOf o).foldl (fun r e => addAll (addAll r [e]) (acc.getD e [])) []])

/-- Our order: before each call all that need not come behind it. -/
def orderOf (reqs : List (List Nat)) (n : Nat) : List Nat → List Nat → List Nat
  | [], done => done ++ (List.range n).filter fun i => !done.contains i
  | c :: cs, done => orderOf reqs n cs (done ++ (List.range n).filter (fun i => !done.contains i && i != c && !(reqs.getD i []).contains c && !cs.contains i) ++ [c])

def planDraw (ops : List Oper) (ais : List AI) : List DI :=
  let reqs := reqsOf ops []
  let cls := ais.map fun i => clsOf i.op
  let n := ops.length
  let ord := orderOf reqs n ((List.range n).filter fun i => cls.getD i 0 == 3) []
  let place := fun i => ord.idxOf i
  ord.zipIdx.filterMap fun (ix, k) => (ais[ix]?).map fun ai =>
    let req := (reqs.getD ix []).map place
    { ix, ai, need := needOf ai, req,
      mask := if clsOf ai.op == 1 then (List.range n).filter (fun j => cls.getD (ord.getD j 0) 0 == 2 && !req.contains j)
        else if clsOf ai.op == 3 then (List.range k).filter (fun j => cls.getD (ord.getD j 0) 0 == 2 && !req.contains j) else [],
      post := if clsOf ai.op == 3 then (List.range k).filter (fun j => cls.getD (ord.getD j 0) 0 == 1 && !req.contains j) else [] }

theorem planDraw_ai {ops : List Oper} {ais : List AI} {d : DI} (h : d ∈ planDraw ops ais) : ais[d.ix]? = some d.ai := by
  unfold planDraw at h
  simp only [List.mem_filterMap] at h
  obtain ⟨⟨ix, k⟩, -, h2⟩ := h
  obtain ⟨ai, h3, rfl⟩ := Option.map_eq_some_iff.1 h2
  exact h3

theorem trAIs_get {P : Program} {N : Nat} {A : Array Oper} : ∀ {lo : List Oper} {l : List AI}, trAIs P N A lo = some l → ∀ (i : Nat) (ai : AI), l[i]? = some ai → ∃ o, lo[i]? = some o ∧ trAI P N A o = some ai
  | [], l, h, i, ai, hi => by simp only [trAIs, Option.some.injEq] at h; subst h; simp at hi
  | o :: lo, l, h, i, ai, hi => by
    simp only [trAIs] at h
    split at h
    · rename_i x r h1 h2
      cases h
      cases i with
      | zero => simp at hi; subst hi; exact ⟨o, by simp, h1⟩
      | succ i => simp at hi; obtain ⟨o', h3, h4⟩ := trAIs_get h2 i ai hi; exact ⟨o', by simp [h3], h4⟩
    · cases h

def nodup : List Nat → Bool
  | [] => true
  | x :: l => !l.contains x && nodup l

theorem nodup_spec : ∀ {l : List Nat}, nodup l = true → ∀ (i j : Nat) (x : Nat), l[i]? = some x → l[j]? = some x → i = j
  | [], _, i, j, x, hi, _ => by simp at hi
  | y :: l, h, i, j, x, hi, hj => by
    simp only [nodup, Bool.and_eq_true, Bool.not_eq_true'] at h
    obtain ⟨h1, h2⟩ := h
    have hn : ∀ k, l[k]? ≠ some y := fun k hk => by
      have := List.mem_of_getElem? hk
      rw [← List.contains_iff_mem, h1] at this
      cases this
    cases i with
    | zero => cases j with
      | zero => rfl
      | succ j => simp at hi hj; subst hi; exact absurd hj (hn j)
    | succ i => cases j with
      | zero => simp at hi hj; subst hj; exact absurd hi (hn i)
      | succ j => simp at hi hj; rw [nodup_spec h2 i j x hi hj]

def drawChk (ops : Array Oper) (l : List DI) : Bool :=
  let z := l.zipIdx
  let ixs := l.map (·.ix)
  nodup ixs && (List.range ops.size).all (fun i => ixs.contains i) && nodup (l.filterMap (·.ai.dst)) &&
  z.all fun (d, k) =>
    (match ops[d.ix]? with
      | some o => (edgesOf o).all (fun e => z.any fun (d', j) => d'.ix == e && j < k) && d.req.all (fun r => r < k && (edgesOf o).any fun e => z.any fun (d', j) => d'.ix == e && (r == j || d'.req.contains r))
      | none => false) &&
    z.all fun (d', j) =>
      (match d'.ai.dst with
        | some t => !d.need.contains t || d.req.contains j || (d'.req.contains k && clsOf d.ai.op != 1)
        | none => true) &&
      (clsOf d.ai.op != 3 || (!(k < j) || d'.req.contains k) && (!(j < k) || (clsOf d'.ai.op != 2 || d.req.contains j || d.mask.contains j) && (clsOf d'.ai.op != 1 || d.req.contains j || d.post.contains j))) &&
      (clsOf d.ai.op != 1 || clsOf d'.ai.op != 2 || d.req.contains j || d.mask.contains j)

theorem mem_zip {l : List DI} {k : Nat} {d : DI} (h : l[k]? = some d) : (d, k) ∈ l.zipIdx := by
  rw [List.mem_zipIdx_iff_getElem?]; exact h

theorem filterMap_dst_inj {l : List DI} (h : nodup (l.filterMap (·.ai.dst)) = true) : ∀ (i j : Nat) (di dj : DI) (t : Nat), l[i]? = some di → l[j]? = some dj → di.ai.dst = some t → dj.ai.dst = some t → i = j := by
  induction l with
  | nil => intro i j di dj t hi; simp at hi
  | cons d l ih =>
    have tail : nodup (l.filterMap (·.ai.dst)) = true := by
      cases hd : d.ai.dst with
      | none => simpa [List.filterMap_cons, hd] using h
      | some x =>
        simp only [List.filterMap_cons, hd, nodup, Bool.and_eq_true] at h
        exact h.2
    have hno : ∀ (k : Nat) (dk : DI) (t : Nat), d.ai.dst = some t → l[k]? = some dk → dk.ai.dst ≠ some t := by
      intro k dk t hdt hk hkt
      simp only [List.filterMap_cons, hdt, nodup, Bool.and_eq_true, Bool.not_eq_true'] at h
      have : t ∈ l.filterMap (·.ai.dst) := List.mem_filterMap.2 ⟨dk, List.mem_of_getElem? hk, hkt⟩
      rw [← List.contains_iff_mem, h.1] at this
      cases this
    intro i j di dj t hi hj hit hjt
    cases i with
    | zero => cases j with
      | zero => rfl
      | succ j => simp at hi hj; subst hi; exact absurd hjt (hno j dj t hit hj)
    | succ i => cases j with
      | zero => simp at hi hj; subst hj; exact absurd hit (hno i di t hjt hi)
      | succ j => simp at hi hj; rw [ih tail i j di dj t hi hj hit hjt]

theorem mem_edges {o : Oper} {e : Edge} (he : e ∈ o.after) (hb : Region.binds .any e = true) : e.on ∈ edgesOf o := by
  simp only [edgesOf, List.mem_map, List.mem_filter]
  exact ⟨e, ⟨by simpa using he, hb⟩, rfl⟩

theorem edges_mem {o : Oper} {x : Nat} (h : x ∈ edgesOf o) : ∃ e ∈ o.after, Region.binds .any e = true ∧ e.on = x := by
  simp only [edgesOf, List.mem_map, List.mem_filter] at h
  obtain ⟨e, ⟨h1, h2⟩, h3⟩ := h
  exact ⟨e, by simpa using h1, h2, h3⟩

theorem drawChk_ok {P : Program} {N : Nat} {ops : Array Oper} {ais : List AI} (hm : P.follows .mixedOrders = true) (ht : trAIs P N ops ops.toList = some ais) (hc : drawChk ops (planDraw ops.toList ais) = true) :
    DrawSt P N ops (planDraw ops.toList ais) := by
  have hai : ∀ (k : Nat) (d : DI), (planDraw ops.toList ais)[k]? = some d → ∃ o, ops[d.ix]? = some o ∧ trAI P N ops o = some d.ai := by
    intro k d hd
    obtain ⟨o, h1, h2⟩ := trAIs_get ht d.ix d.ai (planDraw_ai (List.mem_of_getElem? hd))
    exact ⟨o, by simpa using h1, h2⟩
  generalize planDraw ops.toList ais = l at hc hai
  simp only [drawChk, Bool.and_eq_true] at hc
  obtain ⟨⟨⟨h1, h2⟩, h3⟩, h4⟩ := hc
  have h4 := fun (k : Nat) (d : DI) (hk : l[k]? = some d) => (List.all_eq_true.1 h4) (d, k) (mem_zip hk)
  simp only [Bool.and_eq_true] at h4
  have pair := fun (k j : Nat) (d d' : DI) (hk : l[k]? = some d) (hj : l[j]? = some d') => (List.all_eq_true.1 (h4 k d hk).2) (d', j) (mem_zip hj)
  simp only [Bool.and_eq_true, Bool.or_eq_true, bne_iff_ne, ne_eq, Bool.not_eq_true', List.contains_iff_mem, decide_eq_false_iff_not] at pair
  refine ⟨hm, ?_, ?_, ?_, filterMap_dst_inj h3, ?_, ?_, ?_, ?_⟩
  · intro k d hd
    obtain ⟨o, ho, hto⟩ := hai k d hd
    have := (h4 k d hd).1
    rw [ho] at this
    simp only [Bool.and_eq_true, List.all_eq_true, List.any_eq_true, beq_iff_eq, decide_eq_true_eq, Bool.or_eq_true, List.contains_iff_mem, Prod.exists] at this
    refine ⟨o, ho, hto, ?_, ?_⟩
    · intro e he hb
      obtain ⟨d', j, hj, h5, h6⟩ := this.1 e.on (mem_edges he hb)
      exact ⟨j, d', h6, by rwa [List.mem_zipIdx_iff_getElem?] at hj, h5⟩
    · intro r hr
      obtain ⟨h5, x, hx, d', j, hj, h6, h7⟩ := this.2 r hr
      obtain ⟨e, he, hb, hex⟩ := edges_mem hx
      exact ⟨h5, e, he, hb, j, d', by rwa [List.mem_zipIdx_iff_getElem?] at hj, by rw [h6, hex], h7⟩
  · intro i j di dj hi hj he
    exact nodup_spec h1 i j di.ix (by simp [hi]) (by simp [hj, he])
  · intro i hi
    have := List.all_eq_true.1 h2 i (List.mem_range.2 hi)
    rw [List.contains_iff_mem, List.mem_map] at this
    obtain ⟨d, h5, h6⟩ := this
    obtain ⟨k, hk⟩ := List.getElem?_of_mem h5
    exact ⟨k, d, hk, h6⟩
  · intro k d t hd htn j d' hj hjt
    have := (pair k j d d' hd hj).1.1
    rw [hjt] at this
    simp only [Bool.or_eq_true, Bool.and_eq_true, Bool.not_eq_true', bne_iff_ne, ne_eq, List.contains_iff_mem] at this
    rcases this with (h5 | h5) | h5
    · exfalso
      have h6 : d.need.contains t = true := List.contains_iff_mem.2 htn
      rw [h6] at h5; cases h5
    · exact .inl h5
    · exact .inr h5
  · intro k j dk dj hkj hk hj hc
    rcases (pair k j dk dj hk hj).1.2 with h5 | ⟨h5, -⟩
    · exact absurd hc h5
    · exact h5.resolve_left (by omega)
  · intro k i dk di hk hi hc hci
    rcases hc with hc | ⟨hc, hik⟩
    · have := (pair k i dk di hk hi).2
      rcases this with ((h5 | h5) | h5) | h5
      · exact absurd hc h5
      · exact absurd hci h5
      · exact .inl h5
      · exact .inr h5
    · rcases (pair k i dk di hk hi).1.2 with h5 | ⟨-, h5⟩
      · exact absurd hc h5
      · rcases h5 with h5 | ⟨h5, -⟩
        · omega
        · rcases h5 with (h5 | h5) | h5
          · exact absurd hci h5
          · exact .inl h5
          · exact .inr h5
  · intro k q dk dq hkq hk hq hck hcq
    rcases (pair q k dq dk hq hk).1.2 with h5 | ⟨-, h5⟩
    · exact absurd hcq h5
    · rcases h5 with h5 | ⟨-, h5⟩
      · omega
      · rcases h5 with (h5 | h5) | h5
        · exact absurd hck h5
        · exact .inl h5
        · exact .inr h5

/-! ### Code -/

/-- 'lives': which temporaries each loop keeps, in the order of the text. -/
def trCode (P : Program) (N : Nat) : Code → List (List Nat) → Option (AC × List (List Nat))
  | .skip, ls => some (.skip, ls)
  | .region _ ops false, ls => match trAIs P N ops ops.toList with
    | some l => some (.ops l, ls)
    | none => some (.stuck, ls)
  | .region _ ops true, ls => match trAIs P N ops ops.toList with
    | some ais => if P.follows .mixedOrders && drawChk ops (planDraw ops.toList ais) then some (.draw (planDraw ops.toList ais), ls) else some (.stuck, ls)
    | none => some (.stuck, ls)
  | .seq a b, ls => match trCode P N a ls with
    | some (a', ls') => match trCode P N b ls' with
      | some (b', ls'') => some (.seq a' b', ls'')
      | none => none
    | none => none
  | .cond c a b, ls => match trOpd c, trCode P N a ls with
    | some c', some (a', ls') => match trCode P N b ls' with
      | some (b', ls'') => some (.cond c' a' b', ls'')
      | none => none
    | _, _ => none
  | .block id b, ls => match trCode P N b ls with
    | some (b', ls') => some (.block id b', ls')
    | none => none
  | .loop b, ls => match trCode P N b ls.tail with
    | some (b', ls') => some (.loop (ls.headD []) b', ls')
    | none => none
  | .rangeFunc f ps x y, ls => match trOpd f, trCode P N x ls with
    | some f', some (x', ls') => match trCode P N y ls' with
      | some (y', ls'') => if ps.toList.all (fun t => t < N) then some (.rangeF f' ps.toList x' y', ls'') else none
      | none => none
    | _, _ => none
  | .exit id, ls => some (.exit id, ls)
  | .ret, ls => some (.ret, ls)
  | _, ls => some (.stuck, ls)

theorem trCode_ok {P : Program} {N : Nat} : ∀ (code : Code) (ls : List (List Nat)) (ac : AC) (ls' : List (List Nat)), trCode P N code ls = some (ac, ls') → CodeR DrawSt P code ac N := by
  intro code
  induction code with
  | skip => intro ls ac ls' h; simp only [trCode, Option.some.injEq, Prod.mk.injEq] at h; rw [← h.1]; exact .skip N
  | region id ops draw =>
    intro ls ac ls' h
    cases draw with
    | false =>
      simp only [trCode] at h
      split at h
      · rename_i l h1
        cases h
        exact .ops id N ops l h1
      · cases h
        exact .stuck N _
    | true =>
      simp only [trCode] at h
      split at h
      · rename_i ais h1
        split at h
        · rename_i h2
          cases h
          rw [Bool.and_eq_true] at h2
          exact .draw id N ops _ (drawChk_ok h2.1 h1 h2.2)
        · cases h
          exact .stuck N _
      · cases h
        exact .stuck N _
  | seq a b iha ihb =>
    intro ls ac ls' h
    simp only [trCode] at h
    split at h
    · rename_i a' l1 h1
      split at h
      · rename_i b' l2 h2
        cases h
        exact .seq N a b a' b' (iha _ _ _ h1) (ihb _ _ _ h2)
      · cases h
    · cases h
  | cond c a b iha ihb =>
    intro ls ac ls' h
    simp only [trCode] at h
    split at h
    · rename_i c' a' l1 h0 h1
      split at h
      · rename_i b' l2 h2
        cases h
        exact .cond N c c' a b a' b' h0 (iha _ _ _ h1) (ihb _ _ _ h2)
      · cases h
    · cases h
  | block id b ih =>
    intro ls ac ls' h
    simp only [trCode] at h
    split at h
    · rename_i b' l1 h1
      cases h
      exact .block N id b b' (ih _ _ _ h1)
    · cases h
  | loop b ih =>
    intro ls ac ls' h
    simp only [trCode] at h
    split at h
    · rename_i b' l1 h1
      cases h
      exact .loop N _ b b' (ih _ _ _ h1)
    · cases h
  | rangeFunc f ps x y ihx ihy =>
    intro ls ac ls' h
    simp only [trCode] at h
    split at h
    · rename_i f' x' l1 h0 h1
      split at h
      · rename_i y' l2 h2
        split at h
        · rename_i hp
          cases h
          refine .rangeF N f f' ps x y x' y' h0 ?_ (ihx _ _ _ h1) (ihy _ _ _ h2)
          intro t ht
          have := List.all_eq_true.1 hp t ht
          simpa using this
        · cases h
      · cases h
    · cases h
  | exit id => intro ls ac ls' h; simp only [trCode, Option.some.injEq, Prod.mk.injEq] at h; rw [← h.1]; exact .exit N id
  | ret => intro ls ac ls' h; simp only [trCode, Option.some.injEq, Prod.mk.injEq] at h; rw [← h.1]; exact .ret N
  | _ => intro ls ac ls' h; simp only [trCode, Option.some.injEq, Prod.mk.injEq] at h; rw [← h.1]; exact .stuck N _

end Go.Ab

/- Functions and tables, checked. -/
namespace Go.Ab
open Go

def trRes (P : Program) : List ResultVar → Option (List AR)
  | [] => some []
  | .tmp t :: r => (trRes P r).map (.tmp t :: ·)
  | .cell a ty :: r => match aggOf P ty, trRes P r with
    | some n, some r' => some (.cell a n :: r')
    | _, _ => none

theorem trRes_ok {P : Program} : ∀ {l : List ResultVar} {r : List AR}, trRes P l = some r → ResR P l r
  | [], r, h => by simp only [trRes, Option.some.injEq] at h; subst h; trivial
  | .tmp t :: l, r, h => by
    simp only [trRes] at h
    obtain ⟨r', h1, rfl⟩ := Option.map_eq_some_iff.1 h
    exact ⟨rfl, trRes_ok h1⟩
  | .cell a ty :: l, r, h => by
    simp only [trRes] at h
    split at h
    · rename_i n r' h1 h2
      cases h
      exact ⟨rfl, h1, trRes_ok h2⟩
    · cases h

/-- A function's abstract form; its last results are set by the loops' lists 'ls'. -/
def trFn (P : Program) (g : FuncId) (ls : List (List Nat)) : Option AFn :=
  match P.funcs[g]? with
  | some fn => match fn.body with
    | some code =>
      if fn.name == "runtime.NumGoroutine" then none else
      let np := fn.params.size + fn.nfree
      if fn.ntmps < np then none else
      match trCode P fn.ntmps code ls, trRes P fn.results.toList with
      | some (ac, _), some r => some { np, N := fn.ntmps, res := r, body := ac }
      | _, _ => none
    | none => none
  | none => none

theorem trFn_ok {P : Program} {g : FuncId} {ls : List (List Nat)} {af : AFn} (h : trFn P g ls = some af) : FnOk DrawSt P g af := by
  unfold trFn at h
  split at h
  · rename_i fn h1
    split at h
    · rename_i code h2
      split at h
      · cases h
      · rename_i h3
        simp only at h
        split at h
        · cases h
        · rename_i h4
          split at h
          · rename_i ac ls' r h5 h6
            cases h
            exact ⟨fn, code, h1, h2, by simpa using h3, rfl, by simp only; omega, trCode_ok _ _ _ _ h5, trRes_ok h6⟩
          · cases h
    · cases h
  · cases h

end Go.Ab

/- More fuel changes nothing. -/
namespace Go.Ab

structure MonoAt (T : Tab) (n : Nat) : Prop where
  call : ∀ f a h r, Ab.call T n f a h = some r → Ab.call T (n + 1) f a h = some r
  opC : ∀ env h o r, Ab.opC T n env h o = some r → Ab.opC T (n + 1) env h o = some r
  ops : ∀ l env h r, Ab.ops T n l env h = some r → Ab.ops T (n + 1) l env h = some r
  draw : ∀ all k l s r, Ab.draw T n all k l s = some r → Ab.draw T (n + 1) all k l s = some r
  run : ∀ c env h r, Ab.run T n c env h = some r → Ab.run T (n + 1) c env h = some r

theorem mono_call {T : Tab} {n : Nat} (I : MonoAt T n) : ∀ f a h r, Ab.call T (n + 1) f a h = some r → Ab.call T (n + 1 + 1) f a h = some r := by
  intro f a h r hr
  cases f with
  | fn g first cap =>
    cases g with
    | func g =>
      rw [Ab.call] at hr ⊢
      split at hr
      · exact hr
      · rename_i af haf
        split at hr
        · rename_i hl
          rw [if_pos hl]
          cases hq : Ab.run T n af.body (enter (first ++ a ++ cap)) h with
          | none => rw [hq] at hr; cases hr
          | some q => rw [I.run _ _ _ _ hq]; rw [hq] at hr; exact hr
        · cases hr
      · cases hr
    | _ => simp [Ab.call] at hr
  | yl l =>
    rw [Ab.call] at hr ⊢
    split at hr
    · rename_i pd env ps x y hl
      split at hr
      · rename_i hlen
        try simp only [hl]
        rw [if_pos hlen]
        split at hr
        · rename_i env1 h1 hq
          rw [I.run _ _ _ _ hq]
          simp only
          split at hr
          · rename_i pend1 e1 p1 a1 b1 hl1
            try simp only [hl1]
            split at hr
            · rename_i z e2 h2 hq2
              rw [I.run _ _ _ _ hq2]
              exact hr
            · cases hr
          · cases hr
        · cases hr
      · cases hr
    · cases hr
  | _ => simp [Ab.call] at hr

theorem mono_opC {T : Tab} {n : Nat} (I : MonoAt T n) : ∀ env h o r, Ab.opC T (n + 1) env h o = some r → Ab.opC T (n + 1 + 1) env h o = some r := by
  intro env h o r hr
  cases o with
  | call f args => rw [Ab.opC] at hr ⊢; exact I.call _ _ _ _ hr
  | inv recv name args =>
    rw [Ab.opC] at hr ⊢
    split at hr
    · rename_i t v hv
      split at hr
      · rename_i f hf
        try simp only [hv, hf]
        exact I.call _ _ _ _ hr
      · cases hr
    · cases hr
  | _ => exact hr

theorem mono_ops {T : Tab} {n : Nat} (I : MonoAt T n) : ∀ l env h r, Ab.ops T (n + 1) l env h = some r → Ab.ops T (n + 1 + 1) l env h = some r := by
  intro l env h r hr
  cases l with
  | nil => exact hr
  | cons i l =>
    rw [Ab.ops] at hr ⊢
    split at hr
    · rename_i hw
      try simp only [hw]
      split at hr
      · rename_i v h' hq
        rw [I.opC _ _ _ _ hq]
        exact I.ops _ _ _ _ hr
      · cases hr
    · rename_i hw
      try simp only [hw]
      exact I.ops _ _ _ _ hr
    · cases hr

theorem mono_draw {T : Tab} {n : Nat} (I : MonoAt T n) : ∀ all k l s r, Ab.draw T (n + 1) all k l s = some r → Ab.draw T (n + 1 + 1) all k l s = some r := by
  intro all k l s r hr
  cases l with
  | nil => exact hr
  | cons d l =>
    rw [Ab.draw] at hr ⊢
    split at hr
    · rename_i hw
      try simp only [hw]
      exact I.draw _ _ _ _ _ hr
    · cases hr
    · rename_i hw
      try simp only [hw]
      split at hr
      · cases hr
      · rename_i v h1 hq
        rw [I.opC _ _ _ _ hq]
        simp only
        split at hr
        · rename_i hc; try simp only [hc]
          exact I.draw _ _ _ _ _ hr
        · rename_i hc; try simp only [hc]
          exact I.draw _ _ _ _ _ hr
        · rename_i hc; try simp only [hc]
          exact I.draw _ _ _ _ _ hr
        · rename_i hc0 hc1 hc2
          split at hr
          · rename_i hcond
            rw [if_pos hcond]; exact I.draw _ _ _ _ _ hr
          · cases hr

theorem mono_run {T : Tab} {n : Nat} (I : MonoAt T n) : ∀ c env h r, Ab.run T (n + 1) c env h = some r → Ab.run T (n + 1 + 1) c env h = some r := by
  intro c env h r hr
  cases c with
  | skip => exact hr
  | ops l =>
    rw [Ab.run] at hr ⊢
    obtain ⟨q, h1, h2⟩ := Option.map_eq_some_iff.1 hr
    rw [I.ops _ _ _ _ h1]
    exact congrArg some h2
  | draw l =>
    rw [Ab.run] at hr ⊢
    obtain ⟨q, h1, h2⟩ := Option.map_eq_some_iff.1 hr
    rw [I.draw _ _ _ _ _ h1]
    exact congrArg some h2
  | seq a b =>
    rw [Ab.run] at hr ⊢
    split at hr
    · rename_i env' h' hq
      rw [I.run _ _ _ _ hq]
      exact I.run _ _ _ _ hr
    · rename_i hne
      rw [I.run _ _ _ _ hr]
      split
      · rename_i env' h' hq
        rw [hr, hq] at hne
        exact absurd rfl (hne _ _)
      · rfl
  | cond c a b =>
    rw [Ab.run] at hr ⊢
    split at hr
    · rename_i t ht
      try simp only [ht]
      exact I.run _ _ _ _ hr
    · cases hr
  | block id b =>
    rw [Ab.run] at hr ⊢
    cases hq : Ab.run T n b env h with
    | none => rw [hq] at hr; cases hr
    | some q => rw [I.run _ _ _ _ hq]; rw [hq] at hr; exact hr
  | loop live b =>
    rw [Ab.run] at hr ⊢
    split at hr
    · rename_i env' h' hq
      rw [I.run _ _ _ _ hq]
      exact I.run _ _ _ _ hr
    · rename_i hne
      rw [I.run _ _ _ _ hr]
      split
      · rename_i env' h' hq
        rw [hr, hq] at hne
        exact absurd rfl (hne _ _)
      · rfl
  | rangeF f ps x y =>
    rw [Ab.run] at hr ⊢
    split at hr
    · rename_i g first cap hf
      try simp only [hf]
      split at hr
      · rename_i v h' hq
        rw [I.call _ _ _ _ hq]
        exact hr
      · cases hr
    · cases hr
  | exit id => exact hr
  | ret => exact hr
  | stuck => exact hr

theorem mono (T : Tab) : ∀ n, MonoAt T n
  | 0 => ⟨fun _ _ _ _ h => by simp [Ab.call] at h, fun _ _ _ _ h => by simp [Ab.opC] at h, fun _ _ _ _ h => by simp [Ab.ops] at h, fun _ _ _ _ _ h => by simp [Ab.draw] at h, fun _ _ _ _ h => by simp [Ab.run] at h⟩
  | n + 1 => ⟨mono_call (mono T n), mono_opC (mono T n), mono_ops (mono T n), mono_draw (mono T n), mono_run (mono T n)⟩

end Go.Ab

/- What the runner does, without fuel. -/
namespace Go.Ab

variable {T : Tab}

theorem mono_le_run {n m : Nat} (hnm : n ≤ m) {c : AC} {env : Env} {h : Heap} {r : Ex × Env × Heap} (hr : run T n c env h = some r) : run T m c env h = some r := by
  induction hnm with
  | refl => exact hr
  | step _ ih => exact (mono T _).run _ _ _ _ ih

theorem mono_le_ops {n m : Nat} (hnm : n ≤ m) {l : List AI} {env : Env} {h : Heap} {r : Env × Heap} (hr : ops T n l env h = some r) : ops T m l env h = some r := by
  induction hnm with
  | refl => exact hr
  | step _ ih => exact (mono T _).ops _ _ _ _ ih

theorem mono_le_opC {n m : Nat} (hnm : n ≤ m) {o : AOp} {env : Env} {h : Heap} {r : AV × Heap} (hr : opC T n env h o = some r) : opC T m env h o = some r := by
  induction hnm with
  | refl => exact hr
  | step _ ih => exact (mono T _).opC _ _ _ _ ih

theorem mono_le_draw {n m : Nat} (hnm : n ≤ m) {all : List DI} {k : Nat} {l : List DI} {s : DS} {r : Env × Heap} (hr : draw T n all k l s = some r) : draw T m all k l s = some r := by
  induction hnm with
  | refl => exact hr
  | step _ ih => exact (mono T _).draw _ _ _ _ _ ih

theorem mono_le_call {n m : Nat} (hnm : n ≤ m) {f : AV} {a : List AV} {h : Heap} {r : AV × Heap} (hr : call T n f a h = some r) : call T m f a h = some r := by
  induction hnm with
  | refl => exact hr
  | step _ ih => exact (mono T _).call _ _ _ _ ih

/-- A call comes back, and this holds. -/
structure WC (T : Tab) (f : AV) (args : List AV) (h : Heap) (Q : AV → Heap → Prop) : Prop where
  out : ∃ n v h', call T n f args h = some (v, h') ∧ Q v h'
structure WO (T : Tab) (env : Env) (h : Heap) (o : AOp) (Q : AV → Heap → Prop) : Prop where
  out : ∃ n v h', opC T n env h o = some (v, h') ∧ Q v h'
structure WL (T : Tab) (l : List AI) (env : Env) (h : Heap) (Q : Env → Heap → Prop) : Prop where
  out : ∃ n e h', ops T n l env h = some (e, h') ∧ Q e h'
structure WD (T : Tab) (all : List DI) (k : Nat) (l : List DI) (s : DS) (Q : Env → Heap → Prop) : Prop where
  out : ∃ n e h', draw T n all k l s = some (e, h') ∧ Q e h'
structure W (T : Tab) (c : AC) (env : Env) (h : Heap) (Q : Ex → Env → Heap → Prop) : Prop where
  out : ∃ n x e h', run T n c env h = some (x, e, h') ∧ Q x e h'

theorem WC.mono {f : AV} {args : List AV} {h : Heap} {Q Q' : AV → Heap → Prop} (hw : WC T f args h Q) (hq : ∀ v h, Q v h → Q' v h) : WC T f args h Q' :=
  let ⟨n, v, h', h1, h2⟩ := hw; ⟨n, v, h', h1, hq _ _ h2⟩

theorem W.mono {c : AC} {env : Env} {h : Heap} {Q Q' : Ex → Env → Heap → Prop} (hw : W T c env h Q) (hq : ∀ x e h, Q x e h → Q' x e h) : W T c env h Q' :=
  let ⟨n, x, e, h', h1, h2⟩ := hw; ⟨n, x, e, h', h1, hq _ _ _ h2⟩

theorem w_skip {env : Env} {h : Heap} {Q : Ex → Env → Heap → Prop} (hq : Q .normal env h) : W T .skip env h Q := ⟨1, _, _, _, rfl, hq⟩
theorem w_exit {id : Nat} {env : Env} {h : Heap} {Q : Ex → Env → Heap → Prop} (hq : Q (.jump (.exit id)) env h) : W T (.exit id) env h Q := ⟨1, _, _, _, rfl, hq⟩
theorem w_ret {env : Env} {h : Heap} {Q : Ex → Env → Heap → Prop} (hq : Q (.jump .ret) env h) : W T .ret env h Q := ⟨1, _, _, _, rfl, hq⟩

theorem w_ops {l : List AI} {env : Env} {h : Heap} {Q : Ex → Env → Heap → Prop} (hw : WL T l env h (Q .normal)) : W T (.ops l) env h Q := by
  obtain ⟨n, e, h', h1, h2⟩ := hw
  exact ⟨n + 1, .normal, e, h', by simp [run, h1], h2⟩

theorem w_draw {l : List DI} {env : Env} {h : Heap} {Q : Ex → Env → Heap → Prop} (hw : WD T l 0 l { env, heap := h, made := [] } (Q .normal)) : W T (.draw l) env h Q := by
  obtain ⟨n, e, h', h1, h2⟩ := hw
  exact ⟨n + 1, .normal, e, h', by simp [run, h1], h2⟩

/-- What goes on behind the first of two. -/
def andThen (T : Tab) (b : AC) (Q : Ex → Env → Heap → Prop) : Ex → Env → Heap → Prop
  | .normal, e, h => W T b e h Q
  | x, e, h => Q x e h

theorem w_seq {a b : AC} {env : Env} {h : Heap} {Q : Ex → Env → Heap → Prop} (hw : W T a env h (andThen T b Q)) : W T (.seq a b) env h Q := by
  obtain ⟨n, x, e, h', h1, h2⟩ := hw
  cases x with
  | normal =>
    obtain ⟨m, y, e', h'', h3, h4⟩ := h2
    refine ⟨max n m + 1, y, e', h'', ?_, h4⟩
    simp only [run, mono_le_run (Nat.le_max_left n m) h1, mono_le_run (Nat.le_max_right n m) h3]
  | jump j => exact ⟨n + 1, .jump j, e, h', by simp only [run, h1], h2⟩

theorem w_cond {c : Opd} {a b : AC} {env : Env} {h : Heap} {Q : Ex → Env → Heap → Prop} {t : Bool} (hc : env.ev c = .lit (.bool t)) (hw : if t then W T a env h Q else W T b env h Q) : W T (.cond c a b) env h Q := by
  cases t with
  | true =>
    obtain ⟨n, x, e, h', h1, h2⟩ := hw
    exact ⟨n + 1, x, e, h', by simp only [run, hc, if_true]; exact h1, h2⟩
  | false =>
    obtain ⟨n, x, e, h', h1, h2⟩ := hw
    exact ⟨n + 1, x, e, h', by simp only [run, hc]; exact h1, h2⟩

def inBlock (id : Nat) (Q : Ex → Env → Heap → Prop) : Ex → Env → Heap → Prop
  | .jump (.exit id'), e, h => if id' = id then Q .normal e h else Q (.jump (.exit id')) e h
  | x, e, h => Q x e h

theorem w_block {id : Nat} {b : AC} {env : Env} {h : Heap} {Q : Ex → Env → Heap → Prop} (hw : W T b env h (inBlock id Q)) : W T (.block id b) env h Q := by
  obtain ⟨n, x, e, h', h1, h2⟩ := hw
  cases x with
  | normal => exact ⟨n + 1, _, e, h', by simp only [run, h1], h2⟩
  | jump j =>
    cases j with
    | ret => exact ⟨n + 1, _, e, h', by simp only [run, h1], h2⟩
    | exit id' =>
      simp only [inBlock] at h2
      split at h2
      · rename_i hid
        exact ⟨n + 1, .normal, e, h', by simp only [run, h1, hid, if_true], h2⟩
      · rename_i hid
        exact ⟨n + 1, .jump (.exit id'), e, h', by simp only [run, h1, hid, if_false], h2⟩

def inLoop (T : Tab) (live : List Nat) (b : AC) (Q : Ex → Env → Heap → Prop) : Ex → Env → Heap → Prop
  | .normal, e, h => W T (.loop live b) e h Q
  | x, e, h => Q x e h

theorem w_loop {live : List Nat} {b : AC} {env : Env} {h : Heap} {Q : Ex → Env → Heap → Prop} (hw : W T b (env.mask live) h (inLoop T live b Q)) : W T (.loop live b) env h Q := by
  obtain ⟨n, x, e, h', h1, h2⟩ := hw
  cases x with
  | normal =>
    obtain ⟨m, y, e', h'', h3, h4⟩ := h2
    refine ⟨max n m + 1, y, e', h'', ?_, h4⟩
    simp only [run, mono_le_run (Nat.le_max_left n m) h1, mono_le_run (Nat.le_max_right n m) h3]
  | jump j => exact ⟨n + 1, .jump j, e, h', by simp only [run, h1], h2⟩

theorem wl_nil {env : Env} {h : Heap} {Q : Env → Heap → Prop} (hq : Q env h) : WL T [] env h Q := ⟨1, _, _, rfl, hq⟩

theorem wl_cons {i : AI} {l : List AI} {env : Env} {h : Heap} {Q : Env → Heap → Prop} {b : Bool} (hw : wanted env i.guard = some b)
    (hq : if b then WO T env h i.op (fun v h' => WL T l (env.put i.dst v) h' Q) else WL T l (env.put i.dst (.lit .unit)) h Q) : WL T (i :: l) env h Q := by
  cases b with
  | true =>
    obtain ⟨n, v, h', h1, m, e, h'', h3, h4⟩ := hq
    refine ⟨max n m + 1, e, h'', ?_, h4⟩
    simp only [ops, hw, mono_le_opC (Nat.le_max_left n m) h1]
    exact mono_le_ops (Nat.le_max_right n m) h3
  | false =>
    obtain ⟨m, e, h'', h3, h4⟩ := hq
    exact ⟨m + 1, e, h'', by simp only [ops, hw]; exact h3, h4⟩

theorem wo_aop {env : Env} {h : Heap} {o : AOp} {Q : AV → Heap → Prop} {v : AV} {h' : Heap} (hr : aop env.ev h o = some (v, h')) (hq : Q v h') : WO T env h o Q := by
  refine ⟨1, v, h', ?_, hq⟩
  cases o <;> first | exact hr | (simp [aop] at hr; done)

theorem wo_call {env : Env} {h : Heap} {f : Opd} {args : List Opd} {Q : AV → Heap → Prop} (hw : WC T (env.ev f) (args.map env.ev) h Q) : WO T env h (.call f args) Q := by
  obtain ⟨n, v, h', h1, h2⟩ := hw
  exact ⟨n + 1, v, h', h1, h2⟩

/-- The end of a function's body. -/
def atEnd (res : List AR) (Q : AV → Heap → Prop) : Ex → Env → Heap → Prop
  | .normal, e, h | .jump .ret, e, h => ∃ vs, resA e h res = some vs ∧ Q (result vs) h
  | _, _, _ => False

theorem wc_code {g : FuncId} {first cap args : List AV} {h : Heap} {af : AFn} {Q : AV → Heap → Prop} (hT : T.fn g = some (.code af)) (hl : (first ++ args ++ cap).length = af.np)
    (hw : W T af.body (enter (first ++ args ++ cap)) h (atEnd af.res Q)) : WC T (.fn (.func g) first cap) args h Q := by
  obtain ⟨n, x, e, h', h1, h2⟩ := hw
  cases x with
  | normal =>
    obtain ⟨vs, h3, h4⟩ := h2
    refine ⟨n + 1, _, h', ?_, h4⟩
    simp only [call, hT, hl, if_true, h1, h3, Option.map_some]
  | jump j =>
    cases j with
    | ret =>
      obtain ⟨vs, h3, h4⟩ := h2
      refine ⟨n + 1, _, h', ?_, h4⟩
      simp only [call, hT, hl, if_true, h1, h3, Option.map_some]
    | exit _ => exact h2.elim

theorem wd_nil {all : List DI} {k : Nat} {s : DS} {Q : Env → Heap → Prop} (hq : Q s.env s.heap) : WD T all k [] s Q := ⟨1, _, _, rfl, hq⟩

/-- What goes on behind an operation of a region that draws its order. -/
def drawNext (T : Tab) (all : List DI) (k : Nat) (d : DI) (l : List DI) (s : DS) (Q : Env → Heap → Prop) (v : AV) (h1 : Heap) : Nat → Prop
  | 0 | 1 => WD T all (k + 1) l { s with env := s.env.put d.ai.dst v } Q
  | 2 => WD T all (k + 1) l { env := s.env.put d.ai.dst v, heap := unmaskH s.heap h1 (s.positions d.mask), made := (k, s.heap.length) :: s.made } Q
  | _ => (s.heap.length ≤ h1.length ∧ rereads all { s with env := s.env.put d.ai.dst v, heap := unmaskH s.heap h1 (s.positions d.mask) } d.post = true) ∧
    WD T all (k + 1) l { s with env := s.env.put d.ai.dst v, heap := unmaskH s.heap h1 (s.positions d.mask) } Q

theorem wd_cons {all : List DI} {k : Nat} {d : DI} {l : List DI} {s : DS} {Q : Env → Heap → Prop} {b : Bool} (hw : wanted (s.env.mask d.need) d.ai.guard = some b)
    (hq : if b then WO T (s.env.mask d.need) (maskH s.heap (s.positions d.mask)) d.ai.op (fun v h1 => drawNext T all k d l s Q v h1 (clsOf d.ai.op))
      else WD T all (k + 1) l { s with env := s.env.put d.ai.dst (.lit .unit) } Q) : WD T all k (d :: l) s Q := by
  cases b with
  | false =>
    obtain ⟨m, e, h'', h3, h4⟩ := hq
    exact ⟨m + 1, e, h'', by simp only [draw, hw]; exact h3, h4⟩
  | true =>
    obtain ⟨n, v, h1, h2, h3⟩ := hq
    have main : ∀ j, opC T j (s.env.mask d.need) (maskH s.heap (s.positions d.mask)) d.ai.op = some (v, h1) → draw T (j + 1) all k (d :: l) s =
        (match clsOf d.ai.op with
        | 0 => draw T j all (k + 1) l { s with env := s.env.put d.ai.dst v }
        | 1 => draw T j all (k + 1) l { s with env := s.env.put d.ai.dst v }
        | 2 => draw T j all (k + 1) l { env := s.env.put d.ai.dst v, heap := unmaskH s.heap h1 (s.positions d.mask), made := (k, s.heap.length) :: s.made }
        | _ =>
          if s.heap.length ≤ h1.length ∧ rereads all { s with env := s.env.put d.ai.dst v, heap := unmaskH s.heap h1 (s.positions d.mask) } d.post = true then
            draw T j all (k + 1) l { s with env := s.env.put d.ai.dst v, heap := unmaskH s.heap h1 (s.positions d.mask) }
          else none) := by
      intro j hj
      simp only [draw, hw, hj]
      rfl
    generalize hc : clsOf d.ai.op = cl at h3 main
    have fin : ∀ {s' : DS}, WD T all (k + 1) l s' Q → (∀ j, opC T j (s.env.mask d.need) (maskH s.heap (s.positions d.mask)) d.ai.op = some (v, h1) → draw T (j + 1) all k (d :: l) s = draw T j all (k + 1) l s') → WD T all k (d :: l) s Q := by
      rintro s' ⟨m, e, h'', h4, h5⟩ hd
      refine ⟨max n m + 1, e, h'', ?_, h5⟩
      rw [hd _ (mono_le_opC (Nat.le_max_left n m) h2)]
      exact mono_le_draw (Nat.le_max_right n m) h4
    match cl, h3, main with
    | 0, h3, main => exact fin h3 (fun j hj => main j hj)
    | 1, h3, main => exact fin h3 (fun j hj => main j hj)
    | 2, h3, main => exact fin h3 (fun j hj => main j hj)
    | cl + 3, h3, main => exact fin h3.2 (fun j hj => by rw [main j hj]; simp only; rw [if_pos h3.1])

end Go.Ab

/- Tables of functions. -/
namespace Go.Ab
open Go

def findFn (g : FuncId) : List (FuncId × Entry) → Option Entry
  | [] => none
  | (k, e) :: es => if k = g then some e else findFn g es

def tabOf (P : Program) (es : List (FuncId × Entry)) : Tab := { fn := fun g => findFn g es, meth := methOf P }

def EntryOk (P : Program) (g : FuncId) : Entry → Prop
  | .code af => FnOk DrawSt P g af
  | .prim p => PrimOk DrawSt P g p

theorem findFn_ok {P : Program} {g : FuncId} {e : Entry} : ∀ {es : List (FuncId × Entry)}, (∀ p ∈ es, EntryOk P p.1 p.2) → findFn g es = some e → EntryOk P g e
  | [], _, h => by simp [findFn] at h
  | (k, e') :: es, hall, h => by
    simp only [findFn] at h
    split at h
    · rename_i hk
      cases h
      subst hk
      exact hall (k, e) (by simp)
    · exact findFn_ok (fun p hp => hall p (by simp [hp])) h

theorem tabOf_ok {P : Program} {es : List (FuncId × Entry)} (hall : ∀ p ∈ es, EntryOk P p.1 p.2) : TabOk DrawSt P (tabOf P es) where
  code g af h := findFn_ok (e := .code af) hall h
  prim g p h := findFn_ok (e := .prim p) hall h
  meth _ _ _ h := h

end Go.Ab
