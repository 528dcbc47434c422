/- Walks: the assumptions of a definition, on both sides. -/
import Derived.Test.YtbblkakcadonjaaGreatDoorV18m
import Derived.Test.YtbblkakcadonjaaGreatDoorVCq
import Derived.Test.YtbblkakcadonjaaGreatDoorV17m
import Derived.Test.YtbblkakcadonjaaGreatDoorV17x
set_option linter.unusedVariables false
set_option linter.unusedSimpArgs false
set_option maxRecDepth 20000
namespace Go.Proofs.YtbblkakcadonjaaGreatDoor
open Go.Abs Go.RowKit

def prgL (p : Prg) : Prop := (∀ c ∈ p.wher, lin64 c.1) ∧ (∀ x ∈ p.params, ∀ l ∈ x.2.2, lin64 l) ∧ ∀ d ∈ p.defs, (∀ a ∈ d.dims ++ d.red, lin64 a.2) ∧ ∀ e ∈ d.body.pre, ∀ l ∈ e.forms, lin64 l
end Go.Proofs.YtbblkakcadonjaaGreatDoor
set_option linter.unusedVariables false
set_option linter.unusedSimpArgs false
namespace Go.Proofs.YtbblkakcadonjaaGreatDoor
open Go.Abs Go.RowKit

theorem pigeon {L : List ByteArray} : ∀ {l : List ByteArray}, l.Nodup → (∀ x ∈ l, x ∈ L) → l.length ≤ L.length := by
 intro l
 induction l generalizing L with
 | nil => intro _ _; simp
 | cons x r ih =>
  intro hn hs
  obtain ⟨s, t, rfl⟩ := List.append_of_mem (hs x List.mem_cons_self)
  have h1 := ih (L := s ++ t) (List.nodup_cons.1 hn).2 fun y hy => by
   have hne : ¬ y = x := fun e => (List.nodup_cons.1 hn).1 (e ▸ hy)
   have := hs y (List.mem_cons_of_mem _ hy)
   simp only [List.mem_append, List.mem_cons] at this ⊢
   rcases this with h | h | h
   ·exact .inl h
   ·exact absurd h hne
   ·exact .inr h
  simp only [List.length_append, List.length_cons] at h1 ⊢
  omega
theorem srt_len {l : List Mono} (h : srt l) {L : List ByteArray} (hk : ∀ m ∈ l, m.1 ∈ L) : l.length ≤ L.length := by
 have h1 : (l.map (·.1)).Nodup := by
  rw [List.Nodup, List.pairwise_map]
  exact h.imp fun h => sless_ne h
 have := pigeon h1 (L := L) fun x hx => by
  obtain ⟨m, hm, rfl⟩ := List.mem_map.1 hx
  exact hk m hm
 simpa using this
section
variable {p : Prg}
theorem valid_parts (h : (validS p).2 = 0) : cntOk p ∧ (∀ s ∈ p.sizes, idOk s) ∧ (∀ j, j < p.params.length → parE p j = 0) ∧ ∀ j, j < p.defs.length → defE p j = 0 := by
 have h0 : cntOk p := Classical.byContradiction fun hn => by rw [validS_cnt hn] at h; cases h
 have h1 : szErr p = 0 := Classical.byContradiction fun hn => by rw [validS_sz h0 rfl hn] at h; exact hn h
 have h2 : whErr p = 0 := Classical.byContradiction fun hn => by rw [validS_wh h0 h1 rfl hn] at h; exact hn h
 have h3 : ∀ j, j < p.params.length → parE p j = 0 := by
  intro j
  induction j using Nat.strongRecOn with
  | _ j ih =>
   intro hj
   refine Classical.byContradiction fun hn => ?_
   rw [validS_par h0 h1 h2 hj (fun i hi => ih i hi (by omega)) rfl hn] at h
   exact hn h
 have h4 : ∀ j, j < p.defs.length → defE p j = 0 := by
  intro j
  induction j using Nat.strongRecOn with
  | _ j ih =>
   intro hj
   refine Classical.byContradiction fun hn => ?_
   rw [validS_def h0 h1 h2 h3 hj (fun i hi => ih i hi (by omega)) rfl hn] at h
   exact hn h
 refine ⟨h0, fun s hs => ?_, h3, h4⟩
 obtain ⟨j, hj, rfl⟩ := List.mem_iff_getElem.1 hs
 have h5 : szE p j = 0 := fstE_zero h1 _ (List.mem_map.2 ⟨j, List.mem_range.2 hj, rfl⟩)
 rw [szE_at hj] at h5
 unfold nameErr at h5
 exact Classical.byContradiction fun hn => by rw [if_pos hn] at h5; cases h5
theorem axErrs_ok {sizes : List ByteArray} : ∀ {l : List Axis} {taken : List ByteArray}, axErrs sizes taken l = 0 → ∀ a ∈ l, idOk a.1 ∧ linOk a.2.2 ∧ knownL [] sizes a.2
 | [], _, _, a, ha => by cases ha
 |x :: r, taken, h, a, ha => by
  unfold axErrs at h
  split at h
  ·rename_i hn; exact absurd h hn
  ·rename_i hn
   split at h
   ·rename_i hf; exact absurd h hf
   ·rename_i hf
    rcases List.mem_cons.1 ha with rfl | ha
    ·have hn := Classical.not_not.1 hn
     have hf := Classical.not_not.1 hf
     unfold nameErr at hn
     unfold formErr at hf
     refine ⟨Classical.byContradiction fun h => (by rw [if_pos h] at hn; cases hn), Classical.byContradiction fun h => (by rw [if_pos h] at hf; cases hf), Classical.byContradiction fun h => ?_⟩
     split at hf
     ·cases hf
     ·first | (cases hf; done) | (rw [if_pos h] at hf; cases hf)
    ·exact axErrs_ok h a ha
theorem def_parts {k : Nat} (hk : k < p.defs.length) (h : defE p k = 0) : (∀ a ∈ p.defs[k].dims ++ p.defs[k].red, idOk a.1 ∧ linOk a.2.2 ∧ knownL [] p.sizes a.2) ∧ (typeOf (before p k) (idxNames p.defs[k]) p.defs[k].body).2 = 0 := by
 rw [defE_at hk] at h
 unfold defErr at h
 split at h
 ·contradiction
 ·split at h
  ·cases h
  ·split at h
   ·cases h
   ·split at h
    ·contradiction
    ·rename_i h1
     split at h
     ·contradiction
     ·split at h
      ·contradiction
      ·rename_i h2
       exact ⟨axErrs_ok (Classical.not_not.1 h1), Classical.not_not.1 h2⟩
theorem typeOf_ok {q : Prg} {vars : List ByteArray} {e : Ex} (h : (typeOf q vars e).2 = 0) : exErr e = 0 ∧ (exTy q vars e).2 = 0 := by
 unfold typeOf at h
 split at h
 ·contradiction
 ·rename_i h1
  split at h
  ·cases h
  ·split at h
   ·contradiction
   ·rename_i h2
    exact ⟨Classical.not_not.1 h1, Classical.not_not.1 h2⟩
theorem exTys_all {q : Prg} {vars : List ByteArray} : ∀ {l : List Ex} {ts : List Ty}, exTys q vars l = .inr ts → ∀ a ∈ l, (exTy q vars a).2 = 0
 | [], _, _, a, ha => by cases ha
 |e :: l, ts, h, a, ha => by
  simp only [exTys] at h
  split at h
  ·cases h
  ·rename_i h1
   split at h
   ·cases h
   ·rename_i l' hl
    rcases List.mem_cons.1 ha with rfl | ha
    ·exact Classical.not_not.1 h1
    ·exact exTys_all hl a ha
theorem exTy_node {q : Prg} {vars : List ByteArray} {e : Ex} (h : (exTy q vars e).2 = 0) : (∀ a ∈ e.args, (exTy q vars a).2 = 0) ∧ ∃ l, (nodeTy q vars e l).2 = 0 := by
 rw [exTy_eq] at h
 split at h
 ·rename_i err hx
  -- an error is not zero
  exfalso
  have key : ∀ {l : List Ex} {x : Int}, exTys q vars l = .inl x → x ≠ 0 := by
   intro l
   induction l with
   | nil => intro x h; cases h
   | cons e r ih =>
    intro x h
    simp only [exTys] at h
    split at h
    ·rename_i h1; cases h; exact h1
    ·split at h
     ·rename_i h2; cases h; exact ih h2
     ·cases h
  exact key hx h
 ·rename_i l hx
  exact ⟨exTys_all hx, l, h⟩
theorem forms_known {q : Prg} {vars : List ByteArray} (e : Ex) : rnkAll e → (∀ a ∈ e.pre, synOk a) → (exTy q vars e).2 = 0 → ∀ a ∈ e.pre, ∀ l ∈ a.forms, knownL vars q.sizes l := by
 refine Ex.ind (p := fun e => rnkAll e → (∀ a ∈ e.pre, synOk a) → (exTy q vars e).2 = 0 → ∀ a ∈ e.pre, ∀ l ∈ a.forms, knownL vars q.sizes l) (fun e ih hr hs ht => ?_) e
 obtain ⟨h1, ts, h2⟩ := exTy_node ht
 intro a ha
 rw [Ex.pre_eq] at ha
 rcases List.mem_cons.1 ha with rfl | ha
 ·have hsa := hs a (by rw [Ex.pre_eq]; exact List.mem_cons_self)
  obtain ⟨s1, s2, s3, s4, s5, s6⟩ := hsa
  have nilK : ∀ {l : Lin}, linZ l → knownL vars q.sizes l := fun h m hm => by
   have := List.eq_nil_of_length_eq_zero h.2
   rw [this] at hm; cases hm
  intro l hl
  rcases List.mem_cons.1 hl with rfl | hl
  ·by_cases h0 : a.op = 2
   ·unfold nodeTy at h2
    rw [if_neg (by omega), if_pos h0] at h2
    unfold formsErr at h2
    exact Classical.byContradiction fun hn => by rw [if_neg (fun h => hn (h _ List.mem_cons_self))] at h2; cases h2
   ·exact nilK (s4 h0)
  ·obtain ⟨x, hx, hl⟩ := List.mem_flatMap.1 hl
   by_cases h0 : a.op = 3
   ·unfold nodeTy at h2
    rw [if_neg (by omega), if_neg (by omega), if_pos h0] at h2
    unfold readS at h2
    split at h2
    ·cases h2
    ·split at h2
     ·cases h2
     ·split at h2
      ·contradiction
      ·rename_i hz
       have hix := fstE_zero (Classical.not_not.1 hz) _ (List.mem_map.2 ⟨x, hx, rfl⟩)
       unfold ixErr at hix
       split at hix
       ·rename_i hf
        rcases List.mem_cons.1 hl with rfl | hl
        ·unfold formsErr at hix
         exact Classical.byContradiction fun hn => by rw [if_neg (fun h => hn (h _ List.mem_cons_self))] at hix; cases hix
        ·have := List.eq_nil_of_length_eq_zero ((s6 x hx).1 hf)
         rw [this] at hl; cases hl
       ·rename_i hf
        rcases List.mem_cons.1 hl with rfl | hl
        ·exact nilK ((s6 x hx).2 hf)
        ·split at hix
         ·cases hix
         ·split at hix
          ·cases hix
          ·split at hix
           ·cases hix
           ·unfold formsErr at hix
            exact Classical.byContradiction fun hn => by rw [if_neg (fun h => hn (h _ hl))] at hix; cases hix
   ·have := List.eq_nil_of_length_eq_zero (s5 h0).2
    rw [this] at hx; cases hx
 ·-- in an operand
  have key : ∀ l : List Ex, a ∈ Ex.pres l → ∃ b ∈ l, a ∈ b.pre := by
   intro l
   induction l with
   | nil => intro h; simp [Ex.pres] at h
   | cons b r ihr =>
    intro h
    rw [Ex.pres] at h
    rcases List.mem_append.1 h with h | h
    ·exact ⟨b, List.mem_cons_self, h⟩
    ·obtain ⟨c, hc, h⟩ := ihr h
     exact ⟨c, List.mem_cons_of_mem _ hc, h⟩
  obtain ⟨b, hb, hab⟩ := key _ ha
  exact ih b hb (rnkAll_arg hr hb) (fun c hc => hs c (by
   rw [Ex.pre_eq]
   refine List.mem_cons_of_mem _ ?_
   clear key ha hab ih h1 h2 hr hs ht
   generalize e.args = l at hb
   induction l with
   | nil => cases hb
   | cons y r ihr =>
    rw [Ex.pres]
    rcases List.mem_cons.1 hb with rfl | hb
    ·exact List.mem_append_left _ hc
    ·exact List.mem_append_right _ (ihr hb))) (h1 b hb) a hab
theorem valid_cq (hl : ¬ longS p) (h : (validS p).2 = 0) : cqOk p := by
 obtain ⟨⟨c1, c2, c3, c4, c5⟩, hs, hp, hd⟩ := valid_parts h
 have hf := few_of hl
 refine ⟨⟨by omega, by omega, by omega, by omega, by omega⟩, fun c hc => ?_, fun x hx => ⟨by have := (hf.1 x hx).1; omega, fun l hlm => by have := (hf.1 x hx).2 l hlm; omega⟩, fun d hdm => ?_⟩
 ·have : ¬ 20 < c.1.2.length := fun hh => hl (.inr (.inl ⟨c, hc, hh⟩))
  omega
 ·obtain ⟨f1, f2, f3, f4⟩ := hf.2 d hdm
  refine ⟨⟨by omega, fun a ha => by have := f3 a ha; omega⟩, ⟨by omega, fun a ha => by have := f4 a ha; omega⟩, ?_⟩
  obtain ⟨k, hk, rfl⟩ := List.mem_iff_getElem.1 hdm
  obtain ⟨_, ht⟩ := def_parts hk (hd k hk)
  obtain ⟨t1, t2⟩ := typeOf_ok ht
  have hr := exErr_rnk t1
  have hz : ∀ a ∈ p.defs[k].body.pre, nodeErr a = 0 := by
   intro a ha
   unfold exErr at t1
   split at t1
   ·cases t1
   ·split at t1
    ·cases t1
    ·exact fstE_zero t1 _ (List.mem_map.2 ⟨a, ha, rfl⟩)
  have hkn := forms_known _ hr (fun a ha => (nodeErr_ok (hz a ha)).1) t2
  intro a ha
  obtain ⟨r1, r2, r3, r4, r5⟩ := hr a ha
  have har : arity a.op ≤ 3 := by unfold arity; (repeat' split) <;> omega
  refine ⟨by omega, by omega, fun l hlm => ?_, fun x hx => by have := r5 x hx; omega⟩
  have hsr := (linOk_iff.1 ((nodeErr_ok (hz a ha)).2.2.2.2.2 l hlm)).1
  have := srt_len hsr (L := idxNames p.defs[k] ++ p.sizes) fun m hm => by
   rcases hkn a ha l hlm m hm with h | h
   ·exact List.mem_append_left _ h
   ·exact List.mem_append_right _ h
  have hln : (idxNames p.defs[k]).length ≤ 24 := by unfold idxNames; simp; omega
  simp only [List.length_append] at this
  omega
end
end Go.Proofs.YtbblkakcadonjaaGreatDoor
set_option linter.unusedVariables false
set_option linter.unusedSimpArgs false
set_option maxRecDepth 20000
namespace Go.Proofs.YtbblkakcadonjaaGreatDoor
open Go.Abs Go.RowKit

abbrev sn : ByteArray := ⟨⟨[110]⟩⟩
abbrev si : ByteArray := ⟨⟨[105]⟩⟩
abbrev sa : ByteArray := ⟨⟨[97]⟩⟩
abbrev sb : ByteArray := ⟨⟨[98]⟩⟩
abbrev se : ByteArray := ⟨⟨[]⟩⟩
def tyF : Ty := (1, 0, 0, 0, 0)
def fN : Lin := (0, [(sn, 1)])
def fIk (k : Int) : Lin := (k, [(si, 1)])
def exA (k : Int) : Ex := .mk 3 sa (0, 0) (0, 0, 0, 0, 0) (0, []) [(fIk k, se, [])] []
def dfA (k : Int) : Dfn := ⟨sb, tyF, [(si, fN)], [], 0, exA k⟩
def prA (k : Int) : Prg := ⟨[sn], [], [(sa, tyF, [fN])], [dfA k], [sb]⟩
theorem id_one {c : UInt8} (h1 : 97 ≤ c.toNat) (h2 : c.toNat ≤ 122) : idOk ⟨⟨[c]⟩⟩ := by
 refine ⟨by simp [ByteArray.size], by simp [ByteArray.size], ?_, fun i h => ?_⟩
 ·intro h
  simp [words] at h
 ·obtain rfl : i = 0 := by simp [ByteArray.size] at h; omega
  exact .inl ⟨h1, h2⟩
theorem id_n : idOk sn := id_one (by decide) (by decide)
theorem id_i : idOk si := id_one (by decide) (by decide)
theorem id_a : idOk sa := id_one (by decide) (by decide)
theorem id_b : idOk sb := id_one (by decide) (by decide)
theorem lin_one {s : ByteArray} {k : Int} (h : idOk s) (hk : k ≠ 0) : linOk [(s, k)] := by
 intro i hi hi2
 obtain rfl : i = 0 := by simpa using hi2
 exact ⟨h, hk, fun h => by omega⟩
theorem lin_no : linOk [] := fun i hi => absurd hi (by simp)
theorem frm_one {sizes : List ByteArray} {f : Lin} {s : ByteArray} {c k : Int} (e : f = (c, [(s, k)])) (h : idOk s) (hk : k ≠ 0) (hs : s ∈ sizes) : formErr sizes f = 0 := by
 subst e
 unfold formErr
 have hn : knownL [] sizes (c, [(s, k)]) := fun m hm => by
  obtain rfl := List.mem_singleton.1 hm
  exact .inr hs
 rw [if_neg (not_not_intro (lin_one h hk)), if_neg (not_not_intro hn)]
theorem nam_ok {l : List ByteArray} {s : ByteArray} (h : idOk s) (hs : ¬ s ∈ l) : nameErr l s = 0 := by
 unfold nameErr
 rw [if_neg (not_not_intro h), if_neg hs]
theorem ty_ok : tyOk tyF := .inl ⟨.inl rfl, rfl, rfl, rfl, rfl⟩
theorem ex_ok (k : Int) : exErr (exA k) = 0 := by
 have e1 : (exA k).dep = 1 := by simp [exA, Ex.dep, Ex.deps]
 have e2 : (exA k).sz = 1 := by simp [exA, Ex.sz, Ex.szs]
 have e3 : (exA k).pre = [exA k] := by rw [exA, Ex.pre, Ex.pres]
 unfold exErr partErr
 rw [e1, e2, e3, if_neg (by decide), if_neg (by decide)]
 have h1 : synOk (exA k) := ⟨⟨by simp [exA, Ex.op], by simp [exA, Ex.op]⟩, fun _ => ⟨rfl, rfl⟩, fun _ _ => ⟨rfl, rfl, rfl, rfl, rfl⟩, fun _ => ⟨rfl, rfl⟩, fun h => absurd rfl h, fun x hx => by
  obtain rfl := List.mem_singleton.1 hx
  exact ⟨fun _ => rfl, fun h => absurd rfl h⟩⟩
 have h2 : namOk (exA k) := ⟨fun _ => id_a, fun x hx h => by
  obtain rfl := List.mem_singleton.1 hx
  exact absurd rfl h⟩
 have h3 : rnkOk (exA k) := ⟨rfl, by simp [exA, Ex.idx], fun x hx => by
  obtain rfl := List.mem_singleton.1 hx
  simp⟩
 have h4 : typdOk (exA k) := ⟨fun h => by simp [exA, Ex.op] at h, fun i h => by simp [exA, Ex.args] at h⟩
 have h5 : frmdOk (exA k) := by
  refine ⟨fun h => by simp [exA, Ex.op] at h, fun l hl => ?_⟩
  simp [exA, Ex.forms, Ex.lin, Ex.idx] at hl
  rcases hl with rfl | rfl
  ·exact lin_no
  ·exact lin_one id_i (by decide)
 have h : nodeErr (exA k) = 0 := by
  unfold nodeErr
  rw [if_neg (not_not_intro h1), if_neg (not_not_intro h2), if_neg (not_not_intro h3), if_neg (not_not_intro h4), if_neg (not_not_intro h5)]
 simp [fstE, h]
theorem typ_ok (k : Int) {q : Prg} (hs : q.sizes = [sn]) (hp : q.params = [(sa, tyF, [fN])]) : typeOf q [si] (exA k) = (tyF, 0) := by
 have hf : findS q sa = some (tyF, [fN]) := by simp [findS, hp]
 have hi : ixErr q [si] (fIk k, se, []) = 0 := by
  unfold ixErr formsErr
  rw [if_pos rfl, if_pos]
  intro x hx m hm
  obtain rfl := List.mem_singleton.1 hx
  obtain rfl := List.mem_singleton.1 hm
  exact .inl (List.mem_singleton.2 rfl)
 have hr : readS q [si] (exA k) = (tyF, 0) := by
  unfold readS
  rw [show (exA k).name = sa from rfl, hf]
  simp only
  rw [if_neg (by simp [exA, Ex.idx]), if_neg]
  show ¬ fstE ([(fIk k, se, [])].map (ixErr q [si])) ≠ 0
  simp [fstE, hi]
 have he : exTy q [si] (exA k) = (tyF, 0) := by
  rw [exTy_eq, show (exA k).args = [] from rfl, exTys]
  simp only
  unfold nodeTy
  rw [show (exA k).op = 3 from rfl]
  simp [hr]
 unfold typeOf
 rw [if_neg (not_not_intro (ex_ok k)), if_neg (by simp [exA, Ex.op, isCond]), he]
 simp
theorem prA_valid (k : Int) : validS (prA k) = (0, 0) := by
 refine validS_ok (by simp [cntOk, prA]) (szErr_ok fun j hj => ?_) (by simp [whErr, prA, fstE]) (fun j hj => ?_) (fun j hj => ?_) fun j hj => ?_
 ·obtain rfl : j = 0 := by simpa [prA] using hj
  exact nam_ok id_n (by simp)
 ·obtain rfl : j = 0 := by simpa [prA] using hj
  rw [parE_at hj]
  have h1 : nameErr (takenP (prA k) 0) sa = 0 := nam_ok id_a (by simp [takenP, prA])
  have h2 : formErr [sn] fN = 0 := frm_one rfl id_n (by decide) (List.mem_singleton.2 rfl)
  show parErr [sn] (takenP (prA k) 0) (sa, tyF, [fN]) = 0
  unfold parErr
  simp [h1, h2, ty_ok, fstE]
 ·obtain rfl : j = 0 := by simpa [prA] using hj
  rw [defE_at hj]
  have h1 : nameErr (takenD (prA k) 0) sb = 0 := nam_ok id_b (by simp [takenD, prA])
  have h2 : formErr [sn] fN = 0 := frm_one rfl id_n (by decide) (List.mem_singleton.2 rfl)
  have h3 : nameErr [sn] si = 0 := nam_ok id_i (by simp)
  show defErr (prA k) 0 (takenD (prA k) 0) (dfA k) = 0
  have h4 : axErrs [sn] [sn] [(si, fN)] = 0 := by simp [axErrs, h3, h2]
  have h5 : foldErr (dfA k) = 0 := by simp [foldErr, dfA]
  have h6 := typ_ok k (q := ⟨[sn], [], (prA k).params, (prA k).defs.take 0, []⟩) rfl rfl
  unfold defErr
  rw [show (dfA k).name = sb from rfl, show (dfA k).ty = tyF from rfl, show (dfA k).dims = [(si, fN)] from rfl, show (dfA k).red = [] from rfl, show (prA k).sizes = [sn] from rfl, show idxNames (dfA k) = [si] from rfl, show (dfA k).body = exA k from rfl, List.append_nil]
  rw [h1, h4, h5, h6]
  simp [ty_ok]
 ·obtain rfl : j = 0 := by simpa [prA] using hj
  rw [outE_at hj]
  have : findS (prA k) sb ≠ none := by simp [findS, prA, dfA]
  show (if findS (prA k) sb = none then (9 : Int) else if sb ∈ [] then 8 else 0) = 0
  rw [if_neg this]
  simp
theorem prA_short {k : Int} : ¬ longS (prA k) := by
 have hw : weigh (exA k) 300 = 3 := by
  rw [weigh_eq]
  have e1 : w0 (exA k) = 2 := by unfold w0; simp [exA, Ex.idx, Ex.lin, wrap_i64]
  rw [show (exA k).args = [] from rfl, show (exA k).idx = [(fIk k, se, [])] from rfl, e1]
  simp [wArgs, wIdx, wAt, fIk, wrap_i64]
 rintro ((h | h | h | h | h) | ⟨c, hc, _⟩ | ⟨x, hx, h⟩ | ⟨d, hd, h⟩)
 ·simp [prA] at h
 ·simp [prA] at h
 ·simp [prA] at h
 ·simp [prA] at h
 ·simp [prA] at h
 ·simp [prA] at hc
 ·obtain rfl := List.mem_singleton.1 hx
  rcases h with h | ⟨l, hl, h⟩
  ·simp at h
  ·obtain rfl := List.mem_singleton.1 hl
   simp [fN] at h
 ·obtain rfl := List.mem_singleton.1 hd
  rcases h with h | h | h | ⟨a, ha, h⟩
  ·simp [dfA] at h
  ·simp [dfA] at h
  ·rw [show (dfA k).body = exA k from rfl, hw] at h
   omega
  ·obtain rfl : a = (si, fN) := by simpa [dfA] using ha
   simp [fN] at h
theorem prA_64 {k : Int} : prg64 (prA k) := by
 intro d hd a ha
 obtain rfl := List.mem_singleton.1 hd
 rw [show (dfA k).body = exA k from rfl, show (exA k).pre = [exA k] by rw [exA, Ex.pre, Ex.pres]] at ha
 obtain rfl := List.mem_singleton.1 ha
 exact ⟨by simp [exA, Ex.val, in64], by simp [exA, Ex.val, in64]⟩
end Go.Proofs.YtbblkakcadonjaaGreatDoor
