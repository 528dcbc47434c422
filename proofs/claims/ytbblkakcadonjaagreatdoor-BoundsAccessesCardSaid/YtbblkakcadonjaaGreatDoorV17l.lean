/- Walks: package program: the checker, which writes. -/
import Derived.Test.YtbblkakcadonjaaGreatDoorV17j
import Derived.Test.YtbblkakcadonjaaGreatDoorV17i
set_option linter.unusedVariables false
set_option linter.unusedSimpArgs false
set_option maxRecDepth 20000
set_option maxHeartbeats 4000000
set_option maxRecDepth 1000000
namespace Go.Proofs.YtbblkakcadonjaaGreatDoor
open Go.Abs Go.RowKit

def Kt (K : KL) (taken : List ByteArray) : Prop := ∀ s, kGet K s ≠ 0 ↔ s ∈ taken
theorem nameErr_zero {taken : List ByteArray} {s : ByteArray} (h : nameErr taken s = 0) : idOk s ∧ ¬ s ∈ taken := by
 unfold nameErr at h
 split at h
 ·cases h
 ·split at h
  ·cases h
  ·exact ⟨Classical.not_not.1 ‹_›, ‹_›⟩
theorem nameErr_cases {taken : List ByteArray} {s : ByteArray} (h : ¬ nameErr taken s = 0) : (¬ idOk s ∧ nameErr taken s = 7) ∨ (idOk s ∧ s ∈ taken ∧ nameErr taken s = 8) := by
 unfold nameErr at h ⊢
 split
 ·exact .inl ⟨‹_›, rfl⟩
 ·rename_i h1
  rw [if_neg h1] at h
  split
  ·exact .inr ⟨Classical.not_not.1 h1, ‹_›, rfl⟩
  ·rename_i h2
   exact absurd (if_neg h2) h
theorem program_checker_name_ok {mem : List (Nat × Box)} {nx c m : Nat} {p : Prg} {K : KL} (h2 : findB mem c = some (bCk p m)) (h1 : findB mem m = some (mK K)) {s : ByteArray} {taken : List ByteArray} (hT : Kt K taken) (h : nameErr taken s = 0) (k : Int) :
  ICalls Tryz.prog n_program_checker_name [.c (.ptr c 0), S s, I k] mem nx (I 0) (setB mem m (mK (kSet K s k))) nx := by
 refine ICalls.of is_program_checker_name (by simp) fun hb => runW_sound ?_
 obtain ⟨hi, hn⟩ := nameErr_zero h
 have hz : kGet K s = 0 := Classical.not_not.1 fun hh => hn ((hT s).1 hh)
 have hm := mlook_A s K
 have hs := mset_A s k K
 clear h hn
 conv in c_program_checker_name => cbv
 cases hL : kLook K s with
 | none =>
  rw [hL] at hm
  clear hL hz hT
  repeat' first | simp (disch := omega) only [go_sem, *, hm, Option.map_none, hs, hi, decide_true, h1, h2] | ((with_reducible refine condT ?_ ?_) <;> intro h <;> try omega) | (refine w_L (lexer_IsName_abs _) rfl rfl ?_)
 | some j =>
  rw [kLook_get hL] at hz
  rw [hL, hz] at hm
  clear hL hz hT
  repeat' first | simp (disch := omega) only [go_sem, *, hm, Option.map_some, hs, hi, decide_true, h1, h2] | ((with_reducible refine condT ?_ ?_) <;> intro h <;> try omega) | (refine w_L (lexer_IsName_abs _) rfl rfl ?_)
theorem program_checker_name_err {mem : List (Nat × Box)} {nx c m : Nat} {p : Prg} {K : KL} (h2 : findB mem c = some (bCk p m)) (h1 : findB mem m = some (mK K)) {s : ByteArray} {taken : List ByteArray} (hT : Kt K taken) (h : ¬ nameErr taken s = 0) (k : Int) :
  ICalls Tryz.prog n_program_checker_name [.c (.ptr c 0), S s, I k] mem nx (I (nameErr taken s)) mem nx := by
 refine ICalls.of is_program_checker_name (by simp) fun hb => runW_sound ?_
 have hm := mlook_A s K
 conv in c_program_checker_name => cbv
 rcases nameErr_cases h with ⟨hi, hE⟩ | ⟨hi, hn, hE⟩
 ·rw [hE]
  clear h hE hm hT
  repeat' first | simp (disch := omega) only [go_sem, *, hi, decide_false, h1, h2] | ((with_reducible refine condT ?_ ?_) <;> intro h <;> try omega) | (refine w_L (lexer_IsName_abs _) rfl rfl ?_)
 ·rw [hE]
  have hz := (hT s).2 hn
  clear h hE hn hT
  cases hL : kLook K s with
  | none => exact absurd (kLook_none hL) hz
  | some j =>
   rw [kLook_get hL] at hz
   rw [hL] at hm
   clear hL
   repeat' first | simp (disch := omega) only [go_sem, *, hm, Option.map_some, hi, decide_true, h1, h2, hz] | ((with_reducible refine condT ?_ ?_) <;> intro h <;> try omega) | (refine w_L (lexer_IsName_abs _) rfl rfl ?_)
noncomputable def kAdd (K : KL) (taken : List ByteArray) (s : ByteArray) : KL := if nameErr taken s = 0 then kSet K s 2 else K
theorem Kc.add {p : Prg} {K : KL} {taken : List ByteArray} {s : ByteArray} (hK : Kc p K) (hS : ∀ x ∈ p.sizes, x ∈ taken) (h : nameErr taken s = 0) : Kc p (kSet K s 2) := fun x => by
 rw [kGet_set]
 by_cases e : s = x
 ·subst e
  rw [if_pos rfl]
  exact ⟨fun h => absurd h (by decide), fun hx => absurd (hS _ hx) (nameErr_zero h).2⟩
 ·rw [if_neg e]
  exact hK x
theorem Kt.add {K : KL} {taken : List ByteArray} {s : ByteArray} (hT : Kt K taken) {k : Int} (hk : k ≠ 0) : Kt (kSet K s k) (taken ++ [s]) := fun x => by
 rw [kGet_set]
 by_cases e : s = x
 ·subst e
  rw [if_pos rfl]
  exact ⟨fun _ => by simp, fun _ => hk⟩
 ·rw [if_neg e, hT x, List.mem_append, List.mem_singleton]
  exact ⟨.inl, fun h => h.resolve_right fun h => e h.symm⟩
theorem parErr_split {sizes taken : List ByteArray} {x : Param} (h1 : nameErr taken x.1 = 0) (h2 : tyOk x.2.1) (h3 : ¬ 6 < x.2.2.length) : parErr sizes taken x = fstE (x.2.2.map (formErr sizes)) := by unfold parErr; rw [if_neg (not_not_intro h1), if_neg (not_not_intro h2), if_neg h3]
set_option maxHeartbeats 1000000 in
theorem program_checker_param_abs {p : Prg} {K : KL} {taken : List ByteArray} (hT : Kt K taken) (hK : Kc p K) (hS : ∀ x ∈ p.sizes, x ∈ taken) (x : Param) :
  ICalls Tryz.prog n_program_checker_param [.c (.ptr 2 0), aPar x] [(3, bPar x), (2, bCk p 1), (1, mK K), (0, bPrg p)] 4 (I (parErr p.sizes taken x)) [(3, bPar x), (2, bCk p 1), (1, mK (kAdd K taken x.1)), (0, bPrg p)] 4 := by
 refine ICalls.ofZ (ress := [I (parErr p.sizes taken x)]) is_program_checker_param (by simp) fun hb => runW_sound ?_
 have hl : x.2.2.length ≤ 9223372036854775807 := by
  have := hb.2.1
  simp [bndV, bndAs, bndA] at this
  omega
 have cD := program_declared_one (t := x.2.1) x.2.2.length
 conv in c_program_checker_param => cbv
 by_cases h1 : nameErr taken x.1 = 0
 ·rw [show kAdd K taken x.1 = kSet K x.1 2 from if_pos h1]
  have hK' := hK.add hS h1
  have hn := fun mem nx h2 h3 => program_checker_name_ok (mem := mem) (nx := nx) (c := 2) (m := 1) (p := p) h2 h3 hT h1 2
  by_cases h2 : tyOk x.2.1
  ·rw [if_neg (not_not_intro h2)] at cD
   by_cases h3 : 6 < x.2.2.length
   ·rw [if_pos h3] at cD
    rw [show parErr p.sizes taken x = 11 by unfold parErr; rw [if_neg (not_not_intro h1), if_neg (not_not_intro h2), if_pos h3]]
    repeat' first | simp (disch := omega) only [go_sem, *] | ((with_reducible refine condT ?_ ?_) <;> intro h <;> try omega) | (refine callW_i (hn _ _ rfl rfl) ?_) | (refine w_L cD rfl rfl ?_)
    refine ⟨[], [], ?_⟩
    simp (disch := omega) only [go_sem, frzLA]
    simp [ren_A, cl_A]
   ·rw [if_neg h3] at cD
    rw [parErr_split h1 h2 h3]
    repeat' first | simp (disch := omega) only [go_sem, *] | ((with_reducible refine condT ?_ ?_) <;> intro h <;> try omega) | (refine callW_i (hn _ _ rfl rfl) ?_) | (refine w_L cD rfl rfl ?_)
    clear cD hn h1 h2
    generalize kSet K x.1 2 = K' at *
    refine AW_loop (fun k : Nat => ⟨[(30, I k), (29, I x.2.2.length), (28, aLins x.2.2), (0, .c (.ptr 2 0))], [(4, bPar x), (3, bPar x), (2, bCk p 1), (1, mK K'), (0, bPrg p)], 5, 4⟩) (fun k => k ≤ x.2.2.length ∧ Hid (fstE ((x.2.2.map (formErr p.sizes)).take k) = 0)) (fun k => x.2.2.length - k) ⟨0, [], ⟨by omega, by show _ = _; simp [fstE]⟩, by simp [ren_A, cl_A]⟩ ?_
    rintro k ⟨hk, hall⟩
    refine runW_sound ?_
    by_cases hlt : k < x.2.2.length
    ·have hlm : k < (x.2.2.map (formErr p.sizes)).length := by simpa using hlt
     have h4 := fstE_takeN hlm hall.out
     have h5 := fstE_hit hlm hall.out
     rw [List.getElem_map] at h4 h5
     have cS := program_checker_sized_abs hK' x.2.2[k]
     clear hall
     by_cases hz : formErr p.sizes x.2.2[k] = 0
     ·have HN := Lib.hid (h4.trans hz)
      clear h4 h5
      repeat' first | simp (disch := omega) only [go_sem, *, map_get hlt, linP, wrap_i64, hz] | ((with_reducible refine condT ?_ ?_) <;> intro h <;> try omega) | (refine callW_of cS (pur_ck (c := 2) (m := 1) rfl rfl rfl) (.inl rfl) ?_)
      exact ⟨k + 1, [], ⟨by omega, HN⟩, by omega, by simp [ren_A, cl_A]⟩
     ·rw [h5 hz]
      clear h4 h5
      repeat' first | simp (disch := omega) only [go_sem, *, map_get hlt, linP, wrap_i64, hz] | ((with_reducible refine condT ?_ ?_) <;> intro h <;> try omega) | (refine callW_of cS (pur_ck (c := 2) (m := 1) rfl rfl rfl) (.inl rfl) ?_)
      refine ⟨[], [], ?_⟩
      simp (disch := omega) only [go_sem, frzLA]
      simp [ren_A, cl_A]
    ·have hz := hall.out
     rw [List.take_of_length_le (by simp; omega)] at hz
     rw [hz]
     clear hz hall
     repeat' first | simp (disch := omega) only [go_sem, *] | ((with_reducible refine condT ?_ ?_) <;> intro h <;> try omega)
     refine ⟨[], [], ?_⟩
     simp (disch := omega) only [go_sem, frzLA]
     simp [ren_A, cl_A]
  ·rw [if_pos h2] at cD
   rw [show parErr p.sizes taken x = 10 by unfold parErr; rw [if_neg (not_not_intro h1), if_pos h2]]
   repeat' first | simp (disch := omega) only [go_sem, *] | ((with_reducible refine condT ?_ ?_) <;> intro h <;> try omega) | (refine callW_i (hn _ _ rfl rfl) ?_) | (refine w_L cD rfl rfl ?_)
   refine ⟨[], [], ?_⟩
   simp (disch := omega) only [go_sem, frzLA]
   simp [ren_A, cl_A]
 ·rw [show kAdd K taken x.1 = K from if_neg h1]
  have hn := fun mem nx h2 h3 => program_checker_name_err (mem := mem) (nx := nx) (c := 2) (m := 1) (p := p) h2 h3 hT h1 2
  rw [show parErr p.sizes taken x = nameErr taken x.1 by unfold parErr; rw [if_pos h1]]
  repeat' first | simp (disch := omega) only [go_sem, *, h1] | ((with_reducible refine condT ?_ ?_) <;> intro h <;> try omega) | (refine callW_i (hn _ _ rfl rfl) ?_)
  refine ⟨[], [], ?_⟩
  simp (disch := omega) only [go_sem, frzLA]
  simp [ren_A, cl_A]
section
variable {p q : Prg} (hs : p.sizes = q.sizes) (hp : p.params = q.params) (hd : p.defs = q.defs)
include hs hp hd
theorem nodeTy_congr (vars : List ByteArray) (e : Ex) (l : List Ty) : nodeTy p vars e l = nodeTy q vars e l := by
 obtain ⟨s1, w1, p1, d1, o1⟩ := p
 obtain ⟨s2, w2, p2, d2, o2⟩ := q
 simp only at hs hp hd
 subst hs hp hd
 rfl
theorem exTy_congr (vars : List ByteArray) (e : Ex) : exTy p vars e = exTy q vars e := by
 refine Ex.ind (p := fun e => exTy p vars e = exTy q vars e) (fun e ih => ?_) e
 have key : ∀ l : List Ex, (∀ a ∈ l, exTy p vars a = exTy q vars a) → exTys p vars l = exTys q vars l := by
  intro l
  induction l with
  | nil => intro _; rfl
  | cons a r ihr =>
   intro h
   simp only [exTys]
   rw [h a List.mem_cons_self, ihr fun b hb => h b (List.mem_cons_of_mem _ hb)]
 rw [exTy_eq, exTy_eq, key _ ih]
 cases exTys q vars e.args with
 | inl x => rfl
 | inr l => exact nodeTy_congr hs hp hd vars e l
theorem typeOf_congr (vars : List ByteArray) (e : Ex) : typeOf p vars e = typeOf q vars e := by
 unfold typeOf
 rw [exTy_congr hs hp hd vars e]
end
end Go.Proofs.YtbblkakcadonjaaGreatDoor
set_option linter.unusedVariables false
set_option linter.unusedSimpArgs false
set_option maxRecDepth 20000
set_option maxHeartbeats 4000000
set_option maxRecDepth 1000000
namespace Go.Proofs.YtbblkakcadonjaaGreatDoor
open Go.Abs Go.RowKit

set_option maxHeartbeats 4000000 in
theorem program_checker_def_abs {p : Prg} (hf : fewP p) (h64 : prg64 p) {K : KL} {taken : List ByteArray} (hT : Kt K taken) (hK : Kc p K) (hS : ∀ x ∈ p.sizes, x ∈ taken) {k : Nat} (hk : k < p.defs.length) :
  ICalls Tryz.prog n_program_checker_def [.c (.ptr 2 0), I k] [(2, bCk p 1), (1, mK K), (0, bPrg p)] 3 (I (defErr p k taken p.defs[k])) [(2, bCk p 1), (1, mK (kAdd K taken p.defs[k].name)), (0, bPrg p)] 3 := by
 refine ICalls.ofZ (ress := [I (defErr p k taken p.defs[k])]) is_program_checker_def (by simp) fun hb => runW_sound ?_
 have cD := program_declared_two (t := p.defs[k].ty) p.defs[k].dims.length p.defs[k].red.length
 have hf' : fewP { p with defs := p.defs.take k } := fewP_before hf k
 have hc1 := (hf.2 _ (List.getElem_mem hk)).1
 have hc2 := (hf.2 _ (List.getElem_mem hk)).2.1
 have cT := program_TypeOf_abs hf' (idxNames p.defs[k]) (h64 _ (List.getElem_mem hk))
 rw [typeOf_congr (p := { p with defs := p.defs.take k }) (q := before p k) rfl rfl rfl] at cT
 have hRo : rowsOk 22 (p.defs.map defP) := rowsOk_map fun x => rfl
 have cF := program_fold_abs p.defs[k]
 have cI := program_IndexNames_abs (d := p.defs[k]) (by omega) (by omega)
 conv in c_program_checker_def => cbv
 by_cases h1 : nameErr taken p.defs[k].name = 0
 ·rw [show kAdd K taken p.defs[k].name = kSet K p.defs[k].name 2 from if_pos h1]
  have hK' := hK.add hS h1
  have hn := fun mem nx h2 h3 => program_checker_name_ok (mem := mem) (nx := nx) (c := 2) (m := 1) (p := p) h2 h3 hT h1 2
  have cA := program_checker_axes_abs hK' p.defs[k] (by omega) (by omega)
  clear hT hK hS hK' hf hf' h64
  by_cases h2 : tyOk p.defs[k].ty
  ·rw [if_neg (not_not_intro h2)] at cD
   by_cases h3 : 6 < p.defs[k].dims.length ∨ 6 < p.defs[k].red.length
   ·rw [if_pos h3] at cD
    rw [show defErr p k taken p.defs[k] = 11 by unfold defErr; rw [if_neg (not_not_intro h1), if_neg (not_not_intro h2), if_pos h3]]
    clear h1 h2 h3 cT cA cF cI
    repeat' first | simp (disch := omega) only [go_sem, *, map_get hk, defP, ← List.map_take, hRo, Option.getD_none, Option.getD_some] | ((with_reducible refine condT ?_ ?_) <;> intro h <;> try omega) | (refine callW_i (hn _ _ rfl rfl) ?_) | (refine w_L cD rfl rfl ?_)
    refine ⟨[], [], ?_⟩
    simp (disch := omega) only [go_sem, frzLA]
    simp [ren_A, cl_A]
   ·rw [if_neg h3] at cD
    by_cases h4 : axErrs p.sizes p.sizes (p.defs[k].dims ++ p.defs[k].red) = 0
    ·rw [h4] at cA
     by_cases h5 : foldErr p.defs[k] = 0
     ·have hT : (typeOf (before p k) (idxNames p.defs[k]) p.defs[k].body) = (typeOf { p with wher := [], defs := p.defs.take k, outs := [] } (idxNames p.defs[k]) p.defs[k].body) := rfl
      by_cases h6 : (typeOf (before p k) (idxNames p.defs[k]) p.defs[k].body).2 = 0
      ·by_cases h7 : (typeOf (before p k) (idxNames p.defs[k]) p.defs[k].body).1 = p.defs[k].ty
       ·rw [show defErr p k taken p.defs[k] = 0 by unfold defErr; rw [if_neg (not_not_intro h1), if_neg (not_not_intro h2), if_neg h3, if_neg (not_not_intro h4), if_neg (not_not_intro h5), ← hT, if_neg (not_not_intro h6), if_neg (not_not_intro h7)]]
        clear hT
        generalize typeOf (before p k) (idxNames p.defs[k]) p.defs[k].body = r at *
        obtain ⟨r1, r2⟩ := r
        simp only at h6 h7
        subst h7
        clear h1 h2 h3 h4
        repeat' first | simp (disch := omega) only [go_sem, *, map_get hk, defP, ← List.map_take, hRo, Option.getD_none, Option.getD_some, h5, h6] | ((with_reducible refine condT ?_ ?_) <;> intro h <;> try omega) | (refine callW_i (hn _ _ rfl rfl) ?_) | (refine w_L cD rfl rfl ?_) | (refine callW_of cA (pur_ck (c := 2) (m := 1) rfl rfl rfl) (.inl rfl) ?_) | (refine w_L cF rfl rfl ?_) | (refine w_R cI rfl rfl ?_) | (refine w_L cT rfl rfl ?_)
        refine ⟨[], [], ?_⟩
        simp (disch := omega) only [go_sem, frzLA]
        simp [ren_A, cl_A]
       ·rw [show defErr p k taken p.defs[k] = 10 by unfold defErr; rw [if_neg (not_not_intro h1), if_neg (not_not_intro h2), if_neg h3, if_neg (not_not_intro h4), if_neg (not_not_intro h5), ← hT, if_neg (not_not_intro h6), if_pos h7]]
        clear hT
        generalize typeOf (before p k) (idxNames p.defs[k]) p.defs[k].body = r at *
        clear h1 h2 h3 h4
        have H7 := Lib.hid h7
        clear h7
        repeat' first | simp (disch := omega) only [go_sem, *, map_get hk, defP, ← List.map_take, hRo, Option.getD_none, Option.getD_some, h5, h6] | ((with_reducible refine condT ?_ ?_) <;> intro h <;> try omega) | (refine callW_i (hn _ _ rfl rfl) ?_) | (refine w_L cD rfl rfl ?_) | (refine callW_of cA (pur_ck (c := 2) (m := 1) rfl rfl rfl) (.inl rfl) ?_) | (refine w_L cF rfl rfl ?_) | (refine w_R cI rfl rfl ?_) | (refine w_L cT rfl rfl ?_)
        all_goals first
         | exact absurd (ty_ext h) H7.out
         | skip
        refine ⟨[], [], ?_⟩
        simp (disch := omega) only [go_sem, frzLA]
        simp [ren_A, cl_A]
      ·rw [show defErr p k taken p.defs[k] = (typeOf (before p k) (idxNames p.defs[k]) p.defs[k].body).2 by unfold defErr; rw [if_neg (not_not_intro h1), if_neg (not_not_intro h2), if_neg h3, if_neg (not_not_intro h4), if_neg (not_not_intro h5), ← hT, if_pos h6]]
       clear hT
       generalize typeOf (before p k) (idxNames p.defs[k]) p.defs[k].body = r at *
       clear h1 h2 h3 h4
       repeat' first | simp (disch := omega) only [go_sem, *, map_get hk, defP, ← List.map_take, hRo, Option.getD_none, Option.getD_some, h5, h6] | ((with_reducible refine condT ?_ ?_) <;> intro h <;> try omega) | (refine callW_i (hn _ _ rfl rfl) ?_) | (refine w_L cD rfl rfl ?_) | (refine callW_of cA (pur_ck (c := 2) (m := 1) rfl rfl rfl) (.inl rfl) ?_) | (refine w_L cF rfl rfl ?_) | (refine w_R cI rfl rfl ?_) | (refine w_L cT rfl rfl ?_)
       refine ⟨[], [], ?_⟩
       simp (disch := omega) only [go_sem, frzLA]
       simp [ren_A, cl_A]
     ·rw [show defErr p k taken p.defs[k] = foldErr p.defs[k] by unfold defErr; rw [if_neg (not_not_intro h1), if_neg (not_not_intro h2), if_neg h3, if_neg (not_not_intro h4), if_pos h5]]
      clear h1 h2 h3 h4 cT
      repeat' first | simp (disch := omega) only [go_sem, *, map_get hk, defP, ← List.map_take, hRo, Option.getD_none, Option.getD_some, h5] | ((with_reducible refine condT ?_ ?_) <;> intro h <;> try omega) | (refine callW_i (hn _ _ rfl rfl) ?_) | (refine w_L cD rfl rfl ?_) | (refine callW_of cA (pur_ck (c := 2) (m := 1) rfl rfl rfl) (.inl rfl) ?_) | (refine w_L cF rfl rfl ?_)
      refine ⟨[], [], ?_⟩
      simp (disch := omega) only [go_sem, frzLA]
      simp [ren_A, cl_A]
    ·rw [show defErr p k taken p.defs[k] = axErrs p.sizes p.sizes (p.defs[k].dims ++ p.defs[k].red) by unfold defErr; rw [if_neg (not_not_intro h1), if_neg (not_not_intro h2), if_neg h3, if_pos h4]]
     clear h1 h2 h3 cT cF
     repeat' first | simp (disch := omega) only [go_sem, *, map_get hk, defP, ← List.map_take, hRo, Option.getD_none, Option.getD_some, h4] | ((with_reducible refine condT ?_ ?_) <;> intro h <;> try omega) | (refine callW_i (hn _ _ rfl rfl) ?_) | (refine w_L cD rfl rfl ?_) | (refine callW_of cA (pur_ck (c := 2) (m := 1) rfl rfl rfl) (.inl rfl) ?_)
     refine ⟨[], [], ?_⟩
     simp (disch := omega) only [go_sem, frzLA]
     simp [ren_A, cl_A]
  ·rw [if_pos h2] at cD
   rw [show defErr p k taken p.defs[k] = 10 by unfold defErr; rw [if_neg (not_not_intro h1), if_pos h2]]
   clear h1 h2 cT cA cF cI
   repeat' first | simp (disch := omega) only [go_sem, *, map_get hk, defP, ← List.map_take, hRo, Option.getD_none, Option.getD_some] | ((with_reducible refine condT ?_ ?_) <;> intro h <;> try omega) | (refine callW_i (hn _ _ rfl rfl) ?_) | (refine w_L cD rfl rfl ?_)
   refine ⟨[], [], ?_⟩
   simp (disch := omega) only [go_sem, frzLA]
   simp [ren_A, cl_A]
 ·rw [show kAdd K taken p.defs[k].name = K from if_neg h1]
  have hn := fun mem nx h2 h3 => program_checker_name_err (mem := mem) (nx := nx) (c := 2) (m := 1) (p := p) h2 h3 hT h1 2
  rw [show defErr p k taken p.defs[k] = nameErr taken p.defs[k].name by unfold defErr; rw [if_pos h1]]
  clear hT hK hS hf hf' h64 cT cF cI cD
  repeat' first | simp (disch := omega) only [go_sem, *, map_get hk, defP, ← List.map_take, hRo, Option.getD_none, Option.getD_some, h1] | ((with_reducible refine condT ?_ ?_) <;> intro h <;> try omega) | (refine callW_i (hn _ _ rfl rfl) ?_)
  refine ⟨[], [], ?_⟩
  simp (disch := omega) only [go_sem, frzLA]
  simp [ren_A, cl_A]
end Go.Proofs.YtbblkakcadonjaaGreatDoor
