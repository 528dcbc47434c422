/- The abstract machine: from the walk of a body to the contract of a function. -/
import Derived.Test.YtcbnnjadgkgheaaAbs17
set_option linter.unusedVariables false
set_option linter.unusedSimpArgs false
namespace Go.Abs
open Go.RowKit

/-- Where a result lies. -/
inductive AR where
  | t (n : Nat)
  | cell (n : Option Nat) (a : Nat)
def compR (P : Program) : ResultVar → Option AR
  | .tmp t => some (.t t)
  | .cell a t => (rowOf P t).map fun n => .cell n a
def compRs (P : Program) : List ResultVar → Option (List AR)
  | [] => some []
  | r :: rs => match compR P r, compRs P rs with
    | some x, some xs => some (x :: xs)
    | _, _ => none
def loadW (n : Option Nat) (xs : List AC) (K : AV → Prop) : Prop :=
  match n with
  | none => match xs with
    | x :: _ => K (.c x)
    | [] => False
  | some n => andW (n ≤ xs.length) (K := ⟨K (.agg (xs.take n))⟩)
def resOne (σ : St) : AR → (AV → Prop) → Prop
  | .t n, K => K (look σ.fr n)
  | .cell n a, K => match look σ.fr a with
    | .c q => match loadCells? σ.mem q with
      | some xs => loadW n xs K
      | none => False
    | _ => False
def resW (σ : St) : List AR → List AV → (List AV → Prop) → Prop
  | [], acc, K => K acc
  | r :: rs, acc, K => resOne σ r fun v => resW σ rs (acc ++ [v]) K
def packV : List AV → AV
  | [v] => v
  | vs => .tup vs
/-- The result, seen from outside. -/
def purR (mem : List (Nat × Box)) : AV → Option AV
  | .tup xs => match purVs mem xs with
    | some ys => some (.tup ys)
    | none => none
  | x => purV mem x
def retW (rs : List AR) (res : AV) : AExit → St → Prop
  | .exit _, _ => False
  | .ret, σ => resW σ rs [] fun vs => purR σ.mem (packV vs) = some res
  | .normal, σ => resW σ rs [] fun vs => purR σ.mem (packV vs) = some res
def argsFr : List AV → Nat → List (Nat × AV)
  | [], _ => []
  | v :: r, k => (k, v) :: argsFr r (k + 1)
def bndVs : List AV → Prop
  | [] => True
  | v :: r => bndV v ∧ bndVs r

/-- The function f, in the abstract machine's form. -/
structure FnIs (P : Program) (f : FuncId) (nt : Nat) (body : ACode) (rs : List AR) : Prop where
  is : ∃ fn c, P.funcs[f]? = some fn ∧ fn.body = some c ∧ (fn.name == "runtime.NumGoroutine") = false ∧ fn.ntmps = nt ∧ compC P nt c = some body ∧ compRs P fn.results.toList = some rs

section
variable {P : Program} {a : Act} {w w' w0 : World} {U : Gh} {ι : Pl} {σ σ' : St} {nt : Nat}

theorem load_sound {t : TypeId} {n : Option Nat} {q : AC} {u : Value} {xs : List AC} {K : AV → Prop} (hs : Sim w0 U σ ι a w) (ht : rowOf P t = some n) (hr : RepA w (Free w0.heap.size U ι σ.mem) ι σ.nx q u) (hx : loadCells? σ.mem q = some xs) (h : loadW n xs K) :
    ∃ ad v u', u = .pointer (some ad) ∧ (loadVar t ad).run P w = .ok u' w ∧ RepV w (Free w0.heap.size U ι σ.mem) ι σ.nx v u' ∧ K v := by
  obtain ⟨b, off, e1, hc⟩ := load_cells hs hr hx
  cases n with
  | none =>
    simp only [loadW] at h
    split at h
    · rename_i z zs
      obtain ⟨v, hv, hr⟩ := hc 0 z rfl
      exact ⟨_, _, v, e1, rowOf_one (P := P) ht (by simpa using hv), .c hr, h⟩
    · exact h.elim
  | some n =>
    obtain ⟨hle, h⟩ := h
    have hg : ∃ ys : List Value, ys.length = n ∧ ∀ (j : Nat) x v, (xs.take n)[j]? = some x → ys[j]? = some v → w.cell? ⟨b, off + j, none⟩ = some v ∧ RepA w (Free w0.heap.size U ι σ.mem) ι σ.nx x v := by
      refine ⟨(List.range n).map fun j => (w.cell? ⟨b, off + j, none⟩).getD undef, by simp, fun j x v hj hv => ?_⟩
      have hjn : j < n := by have := (List.getElem?_eq_some_iff.1 hj).1; simp at this; omega
      rw [List.getElem?_take_of_lt hjn] at hj
      obtain ⟨u, hu, hr⟩ := hc j x hj
      simp [List.getElem?_map, List.getElem?_range hjn, hu] at hv
      subst hv
      exact ⟨hu, hr⟩
    obtain ⟨ys, hl, hy⟩ := hg
    have hlt : (xs.take n).length = n := by simp; omega
    refine ⟨_, _, .agg ys.toArray, e1, rowOf_row (P := P) (w := w) (ad := ⟨b, off, none⟩) ht (vs := ys) hl fun j v hv => ?_, .agg (All2.of_get (by rw [hlt]; simp [hl]) fun j x v hj hv => (hy j x v hj (by simpa using hv)).2), h⟩
    have hjn : j < (xs.take n).length := by rw [hlt, ← hl]; exact (List.getElem?_eq_some_iff.1 hv).1
    rw [add_off]
    exact (hy j _ v (List.getElem?_eq_getElem hjn) hv).1

/-- One result, as the model fetches it. -/
def resGet (tmps : Array Value) : ResultVar → Sem Value
  | .tmp t => pure (tmps.getD t undef)
  | .cell a t => do loadVar t (← asAddr (tmps.getD a undef))

theorem res_sound (hs : Sim w0 U σ ι a w) : ∀ {rvs : List ResultVar} {rs : List AR} {acc : List AV} {us : List Value} {K : List AV → Prop}, compRs P rvs = some rs → resW σ rs acc K → All2 (RepV w (Free w0.heap.size U ι σ.mem) ι σ.nx) acc us →
    ∃ vs us', All2 (RepV w (Free w0.heap.size U ι σ.mem) ι σ.nx) vs (us ++ us') ∧ (rvs.mapM (resGet a.tmps)).run P w = .ok us' w ∧ K vs
  | [], rs, acc, us, K, hc, h, hacc => by
    cases hc
    exact ⟨acc, [], by simpa using hacc, rfl, h⟩
  | r :: rvs, rs, acc, us, K, hc, h, hacc => by
    unfold compRs at hc
    split at hc
    · rename_i x xs h1 h2
      cases hc
      have one : ∃ v u, RepV w (Free w0.heap.size U ι σ.mem) ι σ.nx v u ∧ (resGet a.tmps r).run P w = .ok u w ∧ resW σ xs (acc ++ [v]) K := by
        simp only [resW] at h
        cases r with
        | tmp t =>
          cases h1
          exact ⟨_, _, hs.val t, rfl, h⟩
        | cell ad t =>
          simp only [compR, Option.map_eq_some_iff] at h1
          obtain ⟨n, hn, rfl⟩ := h1
          simp only [resOne] at h
          split at h
          · rename_i q e
            have hq := hs.val ad
            rw [e] at hq
            split at h
            · rename_i xs' hx
              have hq' : RepA w (Free w0.heap.size U ι σ.mem) ι σ.nx q (a.tmps.getD ad undef) := by
                generalize a.tmps.getD ad undef = z at hq
                cases hq with | c hq => exact hq
              obtain ⟨adr, v, u', e1, e2, e3, e4⟩ := load_sound (P := P) hs hn hq' hx h
              exact ⟨v, u', e3, by simp only [resGet, Sem.run_bind, e1, asAddr, Sem.run_pure, Result.andThen_ok, e2], e4⟩
            · exact h.elim
          · exact h.elim
      obtain ⟨v, u, hr, hrun, hk⟩ := one
      obtain ⟨vs, us', g1, g2, g3⟩ := res_sound hs (us := us ++ [u]) h2 hk (hacc.append (.cons hr .nil))
      exact ⟨vs, u :: us', by simpa using g1, by simp [List.mapM_cons, hrun, g2], g3⟩
    · cases hc

theorem results_eq (fn : Func) (tmps : Array Value) : results fn tmps = (do let vs ← fn.results.mapM (resGet tmps); pure (if h : vs.size = 1 then vs[0] else .tuple vs)) := by
  unfold results
  congr 1

theorem purR_rep {V : Nat → Prop} {x y : AV} {v : Value} (hs : Sim w0 U σ ι a w) (h : RepV w (Free w0.heap.size U ι σ.mem) ι σ.nx x v) (hp : purR σ.mem x = some y) (hV : ∀ b, Free w0.heap.size U ι σ.mem b → V b) (hN : ∀ b, w0.heap.size ≤ b → V b) : RepV w V (fun _ => undef) 0 y v := by
  cases h with
  | c h => exact purV_rep hs (.c h) hp hV (.inr hN)
  | agg h => exact purV_rep hs (.agg h) hp hV (.inr hN)
  | @tup xs vs hl h =>
    simp only [purR] at hp
    split at hp
    · cases hp
      have hall : All2 (RepV w (Free w0.heap.size U ι σ.mem) ι σ.nx) xs vs.toList := All2.of_get (by simpa using hl) fun i x v hi hv => by
        have := h i x hi
        rw [hv] at this
        exact this
      have hr := purVs_rep hs hall hV (.inr hN) ‹_›
      refine .tup (by simpa using hr.length) fun i x hi => ?_
      obtain ⟨v, hv, hx⟩ := hr.get hi
      rw [hv]
      exact hx
    · cases hp
  | top => cases hp

theorem look_args {vs : List Value} {V : Nat → Prop} {N : Nat} : ∀ {args : List AV} {us : List Value} {k : Nat}, All2 (RepV w V ι N) args us → ∀ t, RepV w V ι N (look (argsFr args k) t) ((us[t - k]?).getD undef) ∨ look (argsFr args k) t = .top
  | [], us, k, h, t => .inr rfl
  | v :: args, us, k, h, t => by
    cases h with
    | @cons _ u _ us h1 h2 =>
      show RepV _ _ _ _ (if k = t then v else look (argsFr args (k + 1)) t) _ ∨ (if k = t then v else look (argsFr args (k + 1)) t) = .top
      by_cases e : k = t
      · subst e
        rw [if_pos rfl]
        left
        simpa using h1
      · rw [if_neg e]
        rcases look_args (vs := vs) (k := k + 1) h2 t with h | h
        · by_cases hlt : k < t
          · left
            have : t - k = (t - (k + 1)) + 1 := by omega
            rw [this]
            simpa using h
          · right
            clear h h1 h2
            have key : ∀ (l : List AV) (j : Nat), t < j → look (argsFr l j) t = .top := by
              intro l
              induction l with
              | nil => intro j _; rfl
              | cons x l ih =>
                intro j hj
                show (if j = t then x else look (argsFr l (j + 1)) t) = _
                rw [if_neg (by omega)]
                exact ih _ (by omega)
            exact key args (k + 1) (by omega)
        · exact .inr h

theorem bnds_rep {V : Nat → Prop} {N : Nat} {args : List AV} {us : List Value} (h : All2 (RepV w V ι N) args us) : bndVs args := by
  induction h with
  | nil => trivial
  | cons h _ ih => exact ⟨bnd_repV h, ih⟩

theorem pack_rep {V : Nat → Prop} {N : Nat} {vs : List AV} {us : List Value} (h : All2 (RepV w V ι N) vs us) : RepV w V ι N (packV vs) (if h : us.toArray.size = 1 then us.toArray[0] else .tuple us.toArray) := by
  have tupled : ∀ {vs : List AV} {us : List Value}, All2 (RepV w V ι N) vs us → RepV w V ι N (.tup vs) (.tuple us.toArray) := fun h =>
    .tup (by simpa using h.length) fun i x hi => by
      obtain ⟨v, hv, hx⟩ := h.get hi
      simp only [List.toList_toArray]
      rw [hv]
      exact hx
  cases h with
  | nil => rw [dif_neg (by simp)]; exact tupled .nil
  | cons h1 t =>
    cases t with
    | nil => rw [dif_pos (by simp)]; exact h1
    | cons h2 t =>
      rw [dif_neg (by simp)]
      exact tupled (.cons h1 (.cons h2 t))

/-- The contract of a function, from the walk of its body. -/
theorem PCalls.of {f : FuncId} {nt : Nat} {body : ACode} {rs : List AR} {args : List AV} {res : AV} (hf : FnIs P f nt body rs) (hlen : args.length ≤ nt) (h : bndVs args → AW P nt body ⟨argsFr args 0, [], 0, 0⟩ (retW rs res)) : PCalls P f args res := by
  obtain ⟨fn, c, h1, h2, h3, rfl, h5, h6⟩ := hf.is
  refine ⟨⟨fn, h1, by rw [h2]; rfl, h3⟩, fun w U vs hargs => ?_⟩
  have hsz : vs.size = args.length := by rw [← Array.length_toList]; exact hargs.length.symm
  have hs : Sim w (Gh.of U) ⟨argsFr args 0, [], 0, 0⟩ (fun _ => undef) { tmps := vs ++ Array.replicate (fn.ntmps - vs.size) undef, defers := [] } w := by
    refine ⟨fun t => ?_, rfl, (fun nm bx hn => by cases hn), (fun nm bx hn => by cases hn), (fun nm nm' b1 b2 b hn => by cases hn), Below.refl _ _, trivial, ⟨Nat.le_refl _, fun _ h => absurd h (Nat.not_lt_zero _)⟩⟩
    have hmono : ∀ {x : AV} {v : Value}, RepV w U (fun _ => undef) 0 x v → RepV w (Free w.heap.size (Gh.of U) (fun _ => undef) []) (fun _ => undef) 0 x v := fun h =>
      h.mono (fun b _ h => ⟨.inl h, fun nm bx hn => by cases hn⟩) (fun _ _ _ => rfl) (fun _ _ => rfl) (Nat.le_refl _)
    rcases look_args (vs := vs.toList) (k := 0) hargs t with h | h
    · by_cases hlt : t < vs.size
      · have e : (vs ++ Array.replicate (fn.ntmps - vs.size) undef).getD t undef = (vs.toList[t - 0]?).getD undef := by
          simp [Array.getD_eq_getD_getElem?, Array.getElem?_append, hlt]
        rw [e]
        exact hmono h
      · have : look (argsFr args 0) t = .top := by
          have key : ∀ (l : List AV) (j : Nat), j + l.length ≤ t → look (argsFr l j) t = .top := by
            intro l
            induction l with
            | nil => intro j _; rfl
            | cons x l ih =>
              intro j hj
              simp only [List.length_cons] at hj
              show (if j = t then x else look (argsFr l (j + 1)) t) = _
              rw [if_neg (by omega)]
              exact ih _ (by omega)
          exact key args 0 (by omega)
        show RepV _ _ _ _ (look (argsFr args 0) t) _
        rw [this]
        exact .top
    · show RepV _ _ _ _ (look (argsFr args 0) t) _
      rw [h]
      exact .top
  have hsize : (vs ++ Array.replicate (fn.ntmps - vs.size) undef).size = fn.ntmps := by simp; omega
  refine calls_of_wp h1 h2 (wp_mono (h (bnds_rep hargs) c h5 w (Gh.of U) _ _ w hs hsize) ?_)
  have fin : ∀ {a' : Act} {w' : World} {σ' : St} {ι' : Pl}, resW σ' rs [] (fun vs => purR σ'.mem (packV vs) = some res) → Sim w (Gh.of U) σ' ι' a' w' → a'.defers = [] ∧ ∃ v, (results fn a'.tmps).run P w' = .ok v w' ∧ ∃ v', Ending.returned v = .returned v' ∧ RepV w' (fun b => U b ∨ w.heap.size ≤ b) (fun _ => undef) 0 res v' ∧ Below w.heap.size w w' := by
    intro a' w' σ' ι' hres hs'
    obtain ⟨vs', us', g1, g2, g3⟩ := res_sound hs' (us := []) h6 hres .nil
    refine ⟨hs'.defers, _, ?_, _, rfl, purR_rep hs' (pack_rep (by simpa using g1)) g3 (fun b h => h.1) (fun b h => .inr h), hs'.below⟩
    rw [results_eq, Array.mapM_eq_mapM_toList]
    simp [g2]
  rintro e a' w' ⟨e', σ', ι', rfl, hq, hs', hsz'⟩
  cases e' with
  | normal => exact fin hq hs'
  | exit i => exact hq.elim
  | ret => exact fin hq hs'

/-- Where an impure call ends. -/
def retI (rs : List AR) (res : AV) (mem : List (Nat × Box)) (nx base : Nat) : AExit → St → Prop
  | .exit _, _ => False
  | .ret, σ => resW σ rs [] fun vs => packV vs = res ∧ σ.mem = mem ∧ σ.nx = nx ∧ σ.base = base
  | .normal, σ => resW σ rs [] fun vs => packV vs = res ∧ σ.mem = mem ∧ σ.nx = nx ∧ σ.base = base

/-- The contract of a function that works on its caller's memory, from the walk of its body. -/
theorem ICalls.of {f : FuncId} {nt : Nat} {body : ACode} {rs : List AR} {args : List AV} {mem mem' : List (Nat × Box)} {nx nx' : Nat} {res : AV} (hf : FnIs P f nt body rs) (hlen : args.length ≤ nt) (h : bndVs args → AW P nt body ⟨argsFr args 0, mem, nx, nx⟩ (retI rs res mem' nx' nx)) : ICalls P f args mem nx res mem' nx' := by
  obtain ⟨fn, c, h1, h2, h3, rfl, h5, h6⟩ := hf.is
  refine ⟨⟨fn, h1, by rw [h2]; rfl, h3⟩, fun w0 U ι w vs hs0 hargs => ?_⟩
  have hsz : vs.size = args.length := by rw [← Array.length_toList]; exact hargs.length.symm
  have hs : Sim w0 U ⟨argsFr args 0, mem, nx, nx⟩ ι { tmps := vs ++ Array.replicate (fn.ntmps - vs.size) undef, defers := [] } w := by
    refine ⟨fun t => ?_, rfl, hs0.names, hs0.box, hs0.apart, hs0.below, hs0.keep, hs0.base⟩
    rcases look_args (vs := vs.toList) (k := 0) hargs t with h | h
    · by_cases hlt : t < vs.size
      · have e : (vs ++ Array.replicate (fn.ntmps - vs.size) undef).getD t undef = (vs.toList[t - 0]?).getD undef := by
          simp [Array.getD_eq_getD_getElem?, Array.getElem?_append, hlt]
        rw [e]
        exact h
      · have : look (argsFr args 0) t = .top := by
          have key : ∀ (l : List AV) (j : Nat), j + l.length ≤ t → look (argsFr l j) t = .top := by
            intro l
            induction l with
            | nil => intro j _; rfl
            | cons x l ih =>
              intro j hj
              simp only [List.length_cons] at hj
              show (if j = t then x else look (argsFr l (j + 1)) t) = _
              rw [if_neg (by omega)]
              exact ih _ (by omega)
          exact key args 0 (by omega)
        show RepV _ _ _ _ (look (argsFr args 0) t) _
        rw [this]
        exact .top
    · show RepV _ _ _ _ (look (argsFr args 0) t) _
      rw [h]
      exact .top
  have hsize : (vs ++ Array.replicate (fn.ntmps - vs.size) undef).size = fn.ntmps := by simp; omega
  refine calls_of_wp h1 h2 (wp_mono (h (bnds_rep hargs) c h5 w0 U _ _ w hs hsize) ?_)
  have fin : ∀ {a' : Act} {w' : World} {σ' : St} {ι' : Pl}, (resW σ' rs [] fun vs => packV vs = res ∧ σ'.mem = mem' ∧ σ'.nx = nx' ∧ σ'.base = nx) → Sim w0 U σ' ι' a' w' → a'.defers = [] ∧ ∃ v, (results fn a'.tmps).run P w' = .ok v w' ∧
      ∃ v' ι', Ending.returned v = .returned v' ∧ Sim w0 U ⟨[], mem', nx', nx⟩ ι' { tmps := #[], defers := [] } w' ∧ RepV w' (Free w0.heap.size U ι' mem') ι' nx' res v' := by
    intro a' w' σ' ι' hres hs'
    obtain ⟨vs', us', g1, g2, rfl, rfl, rfl, rfl⟩ := res_sound hs' (us := []) h6 hres .nil
    refine ⟨hs'.defers, _, ?_, _, ι', rfl, ⟨fun t => .top, rfl, hs'.names, hs'.box, hs'.apart, hs'.below, hs'.keep, hs'.base⟩, pack_rep (by simpa using g1)⟩
    rw [results_eq, Array.mapM_eq_mapM_toList]
    simp [g2]
  rintro e a' w' ⟨e', σ', ι', rfl, hq, hs', hsz'⟩
  cases e' with
  | normal => exact fin hq hs'
  | exit i => exact hq.elim
  | ret => exact fin hq hs'
end
end Go.Abs
