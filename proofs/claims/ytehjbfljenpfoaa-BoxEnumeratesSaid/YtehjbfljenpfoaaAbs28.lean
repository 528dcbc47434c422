/- The abstract machine: the walk of an iterator that ranges over another. -/
import Derived.Test.YtehjbfljenpfoaaAbs27
set_option linter.unusedVariables false
set_option linter.unusedSimpArgs false
namespace Go.Abs
open Go.RowKit

def mkD (D : Nat) : Deferred := { target := .collected D, args := #[] }
def MkY (n0 : Nat) (S : Nat → Prop) (W : World) (Ds : List Nat) : Prop := Ds.Nodup ∧ ∀ D ∈ Ds, n0 ≤ D ∧ S D ∧ W.heap[D]? = some (.deferred (some []))
theorem MkY.kept {n0 : Nat} {S S' : Nat → Prop} {W W' : World} {Ds : List Nat} (h : MkY n0 S W Ds) (k : Kept S W S' W') : MkY n0 S' W' Ds :=
 ⟨h.1, fun D hD => ⟨(h.2 D hD).1, (k D (h.2 D hD).2.1).1, (k D (h.2 D hD).2.1).2.trans (h.2 D hD).2.2⟩⟩
abbrev YJ := Option Nat → (Nat → Prop) → World → Prop
abbrev YQ := AExit → Option Nat → List (Nat × AV) → Prop
def PostR (nt n0 : Nat) (rd : Option Nat) (Ds : List Nat) (J : YJ) (S0 : Nat → Prop) (W0 : World) (Q : YQ) : Exit → Act → World → Prop := fun e a W =>
 ∃ e' k fr S E a0, e = toExit e' ∧ Q e' k fr ∧ J k S W ∧ SY S fr a0 W ∧ a0.tmps.size = nt ∧ Kept S0 W0 S W ∧ a = sh ((E ++ Ds).map mkD) a0 ∧ MkY n0 S W (E ++ Ds) ∧ (rd.isSome = true → E = [])
def AR2 (P : Program) (nt n0 : Nat) (rd : Option Nat) (J : YJ) (c : ACode) (k : Option Nat) (fr : List (Nat × AV)) (Q : YQ) : Prop :=
 ∀ (c' : Code), compC P nt c' = some c → ∀ S a W Ds, J k S W → SY S fr a W → a.tmps.size = nt → MkY n0 S W Ds → c'.wpIn (FR rd) 0 P (PostR nt n0 rd Ds J S W Q) (sh (Ds.map mkD) a) W

section
variable {P : Program} {nt n0 : Nat} {rd : Option Nat} {Ds : List Nat} {J : YJ} {k : Option Nat} {fr : List (Nat × AV)} {Q : YQ}
theorem PostR.here {S : Nat → Prop} {W : World} {e' : AExit} {a : Act} (hq : Q e' k fr) (hJ : J k S W) (hs : SY S fr a W) (hz : a.tmps.size = nt) (hm : MkY n0 S W Ds) : PostR nt n0 rd Ds J S W Q (toExit e') (sh (Ds.map mkD) a) W :=
 ⟨e', k, fr, S, [], a, rfl, hq, hJ, hs, hz, .refl, rfl, hm, fun _ => rfl⟩
theorem PostR.kept {S0 S1 : Nat → Prop} {W0 W1 : World} {E : List Nat} {e : Exit} {a : Act} {W : World} (h : PostR nt n0 rd (E ++ Ds) J S1 W1 Q e a W) (k : Kept S0 W0 S1 W1) (hE : rd.isSome = true → E = []) : PostR nt n0 rd Ds J S0 W0 Q e a W := by
 obtain ⟨e', k', fr', S, E', a0, h1, h2, h3, h4, h5, h6, h7, h8, h9⟩ := h
 exact ⟨e', k', fr', S, E' ++ E, a0, h1, h2, h3, h4, h5, k.trans h6, by rw [List.append_assoc]; exact h7, by rw [List.append_assoc]; exact h8, fun h => by rw [h9 h, hE h]; rfl⟩
theorem AR2_skip (h : Q .normal k fr) : AR2 P nt n0 rd J .skip k fr Q := by
 intro c' hc S a W Ds hJ hs hz hm
 cases c' <;> simp [compC] at hc
 ·exact wpIn_skip (PostR.here (e' := .normal) h hJ hs hz hm)
 all_goals (try (split at hc <;> simp at hc))
theorem AR2_ret (h : Q .ret k fr) : AR2 P nt n0 rd J .ret k fr Q := by
 intro c' hc S a W Ds hJ hs hz hm
 cases c' <;> simp [compC] at hc
 all_goals (try (split at hc <;> simp at hc))
 exact wpIn_ret (PostR.here (e' := .ret) h hJ hs hz hm)
def thenR (P : Program) (nt n0 : Nat) (rd : Option Nat) (J : YJ) (y : ACode) (Q : YQ) : YQ
 | .normal, k, fr => AR2 P nt n0 rd J y k fr Q
 | .exit i, k, fr => Q (.exit i) k fr
 | .ret, k, fr => Q .ret k fr
theorem AR2_seq {x y : ACode} (h : AR2 P nt n0 rd J x k fr (thenR P nt n0 rd J y Q)) : AR2 P nt n0 rd J (.seq x y) k fr Q := by
 intro c' hc S a W Ds hJ hs hz hm
 cases c' <;> simp [compC] at hc
 all_goals (try (split at hc <;> simp at hc))
 rename_i b1 b2 c1 c2 h1 h2
 obtain ⟨rfl, rfl⟩ := hc
 refine wpIn_seq (wpIn_mono (h _ h1 S a W Ds hJ hs hz hm) ?_)
 rintro e a1 W1 ⟨e', k', fr', S', E, a0, rfl, hq, hJ', hs', hz', hk, rfl, hm', hE⟩
 cases e' with
 | normal => exact wpIn_mono (hq _ h2 S' a0 W1 (E ++ Ds) hJ' hs' hz' hm') fun e a w h => h.kept hk hE
 | exit id => exact ⟨.exit id, k', fr', S', E, a0, rfl, hq, hJ', hs', hz', hk, rfl, hm', hE⟩
 | ret => exact ⟨.ret, k', fr', S', E, a0, rfl, hq, hJ', hs', hz', hk, rfl, hm', hE⟩
def blockR (id : Nat) (Q : YQ) : YQ
 | .normal, k, fr => Q .normal k fr
 | .exit i, k, fr => if i = id then Q .normal k fr else Q (.exit i) k fr
 | .ret, k, fr => Q .ret k fr
theorem AR2_block {x : ACode} {id : Nat} (h : AR2 P nt n0 rd J x k fr (blockR id Q)) : AR2 P nt n0 rd J (.block id x) k fr Q := by
 intro c' hc S a W Ds hJ hs hz hm
 cases c' <;> simp [compC] at hc
 all_goals (try (split at hc <;> simp at hc))
 rename_i i1 c1
 obtain ⟨rfl, h1⟩ : i1 = id ∧ compC P nt c1 = some x := by simp_all
 refine wpIn_block (wpIn_mono (h _ h1 S a W Ds hJ hs hz hm) ?_)
 rintro e a1 W1 ⟨e', k', fr', S', E, a0, rfl, hq, hJ', hs', hz', hk, rfl, hm', hE⟩
 cases e' with
 | normal => exact ⟨.normal, k', fr', S', E, a0, rfl, hq, hJ', hs', hz', hk, rfl, hm', hE⟩
 | exit i =>
  simp only [blockR] at hq
  by_cases hi : i = i1
  ·rw [if_pos hi] at hq
   simp only [toExit, Exit.inBlock, if_pos hi]
   exact ⟨.normal, k', fr', S', E, a0, rfl, hq, hJ', hs', hz', hk, rfl, hm', hE⟩
  ·rw [if_neg hi] at hq
   simp only [toExit, Exit.inBlock, if_neg hi]
   exact ⟨.exit i, k', fr', S', E, a0, rfl, hq, hJ', hs', hz', hk, rfl, hm', hE⟩
 | ret => exact ⟨.ret, k', fr', S', E, a0, rfl, hq, hJ', hs', hz', hk, rfl, hm', hE⟩
theorem AR2_exit {id : Nat} (h : Q (.exit id) k fr) : AR2 P nt n0 rd J (.exit id) k fr Q := by
 intro c' hc S a W Ds hJ hs hz hm
 cases c' <;> simp [compC] at hc
 all_goals (try (split at hc <;> simp at hc))
 subst hc
 exact wpIn_exit (PostR.here (e' := .exit _) h hJ hs hz hm)
theorem AR2_cond {c : AX} {x y : ACode} {t : Bool} (hc : c.ev fr = .c (.pure (.val (.bool t)))) (h1 : t = true → AR2 P nt n0 rd J x k fr Q) (h2 : t = false → AR2 P nt n0 rd J y k fr Q) (hlt : ∀ k S W, J k S W → (∀ b, S b → b < W.heap.size) ∧ Glob W) : AR2 P nt n0 rd J (.cond c x y) k fr Q := by
 intro c' hc' S a W Ds hJ hs hz hm
 cases c' <;> simp [compC] at hc'
 all_goals (try (split at hc' <;> simp at hc'))
 rename_i o b1 b2 _ _ _ x1 x2 x3 g1 g2 g3
 obtain ⟨rfl, rfl, rfl⟩ := hc'
 have hsim := hs.sim (hlt _ _ _ hJ).1 (hlt _ _ _ hJ).2
 have r1 := compX_rep g1 hsim
 rw [hc] at r1
 have ho := (repV_val r1).1
 rw [← sh_eval (ds := Ds.map mkD)] at ho
 cases t with
 | true => exact wpIn_cond_true ho (h1 rfl _ g2 S a W Ds hJ hs hz hm)
 | false => exact wpIn_cond_false ho (h2 rfl _ g3 S a W Ds hJ hs hz hm)
theorem AR2_region {gs : List AG} (hJ : ∀ k S W, J k S W → (∀ b, S b → b < W.heap.size) ∧ Glob W) (hg : ∀ k S W W', J k S W → Below W.heap.size W W' → J k (fun b => S b ∨ W.heap.size ≤ b ∧ b < W'.heap.size) W')
  (h : opsW P gs ⟨fr, [], 0, 0⟩ (fun σ' => ∃ fr', wkY σ' fr' ∧ Q .normal k fr')) : AR2 P nt n0 rd J (.region gs false) k fr Q := by
 intro c' hc S a W Ds hj hs hz hm
 cases c' <;> simp [compC] at hc
 all_goals (try (split at hc <;> simp at hc))
 rename_i id ops dr
 obtain ⟨g1, h1, hgs⟩ := hc
 cases dr with
 | false =>
  simp [regX] at hgs
  subst hgs
  have hsim := hs.sim (hJ _ _ _ hj).1 (hJ _ _ _ hj).2
  have := list_in (rd := rd) (ds := Ds.map mkD) (n := 0) (post_out (nt := nt) (w0 := W) (U := GhS S W (hJ _ _ _ hj).1) (Q := fun e σ' => ∃ fr', wkY σ' fr' ∧ Q .normal k fr')) (compGs_ops h1) (ops_sound h1 h hsim hz fun σ' ι' a' w' hq hs' hz' => ⟨σ', ι', rfl, hq, hs', hz'⟩)
  refine wpIn_mono (wpIn_region_list this) ?_
  rintro e a1 W1 ⟨a0, rfl, σ', ι', rfl, ⟨fr', hw, hq⟩, hs', hz'⟩
  exact ⟨.normal, k, fr', _, [], a0, rfl, hq, hg _ _ _ _ hj hs'.below, SY.back hs' hw, hz', kept_back hs', rfl, hm.kept (kept_back hs'), fun _ => rfl⟩
 | true =>
  simp only [regX, if_true] at hgs
  rcases compDraw_cases (P := P) (ops := ops.toList) (gs := g1) with ⟨x, e⟩ | e <;> rw [e] at hgs <;> simp at hgs
def StepR (P : Program) (rd : Option Nat) (J : Option Nat → (Nat → Prop) → World → Prop) (f : AV) (args : List AV) (k : Option Nat) (R : AV → Option Nat → Prop) : Prop :=
 ∀ S W fv us, J k S W → RepV W S (fun _ => undef) 0 f fv → All2 (RepV W S (fun _ => undef) 0) args us → ∀ (o : Oper) (a : Act) (c : Call) (fo : Operand) (next : Act → World → Prop) (Q : Exit → Act → World → Prop), o.op = .call c → c.callee = .value fo → a.eval fo = fv → (c.args.map a.eval).toList = us →
  (∀ v res k' S' W', R res k' → RepV W' S' (fun _ => undef) 0 res v → J k' S' W' → Kept S W S' W' → next (a.put o.dst v) W') → o.wpIn (FR rd) 0 P a W next Q
theorem AR2_op {gs : List AG} (n : Nat) {dst : Option Nat} {gg z : Bool} {fx : AX} {args : List AX} (hn : gs[n]? = some ⟨dst, none, .call gg z fx args⟩) (hJ : ∀ k S W, J k S W → (∀ b, S b → b < W.heap.size) ∧ Glob W)
  (hg : ∀ k S W W', J k S W → Below W.heap.size W W' → J k (fun b => S b ∨ W.heap.size ≤ b ∧ b < W'.heap.size) W')
  (h : opsW P (gs.take n) ⟨fr, [], 0, 0⟩ (fun σ1 => ∃ fr1, wkY σ1 fr1 ∧ ∃ R, StepR P rd J (fx.ev fr1) (args.map (·.ev fr1)) k R ∧
   ∀ res k', R res k' → opsW P (gs.drop (n + 1)) ((⟨fr1, [], 0, 0⟩ : St).put dst res) (fun σ2 => ∃ fr2, wkY σ2 fr2 ∧ Q .normal k' fr2))) : AR2 P nt n0 rd J (.region gs false) k fr Q := by
 intro c' hc S a W Ds hj hs hz hm
 cases c' <;> simp [compC] at hc
 all_goals (try (split at hc <;> simp at hc))
 rename_i id ops dr
 obtain ⟨g1, h1, hgs⟩ := hc
 cases dr with
 | true =>
  simp only [regX, if_true] at hgs
  rcases compDraw_cases (P := P) (ops := ops.toList) (gs := g1) with ⟨x, e⟩ | e <;> rw [e] at hgs <;> simp at hgs
 | false =>
  simp [regX] at hgs
  subst hgs
  have hsim := hs.sim (hJ _ _ _ hj).1 (hJ _ _ _ hj).2
  obtain ⟨c1, _, c3⟩ := compGs_take n h1
  obtain ⟨_, c2, _⟩ := compGs_take (n + 1) h1
  obtain ⟨o, ho, hog⟩ := c3 _ hn
  have hsplit : ops.toList = ops.toList.take n ++ (o :: ops.toList.drop (n + 1)) := by
   have hlt := (List.getElem?_eq_some_iff.1 ho).1
   have he := (List.getElem?_eq_some_iff.1 ho).2
   rw [← he, ← List.drop_eq_getElem_cons hlt, List.take_append_drop]
  -- the operation
  have hd := compG_op hog
  unfold compG at hog
  by_cases hdst : fitD nt o.dst = false
  ·rw [if_pos hdst] at hog; cases hog
  rw [if_neg hdst] at hog
  split at hog
  ·rename_i ao hao
   have hgd : o.guard = none ∧ o.dst = dst ∧ ao = .call gg z fx args := by
    cases hgu : o.guard with
    | none =>
     rw [hgu] at hog
     cases hog
     exact ⟨rfl, rfl, rfl⟩
    | some q =>
     rw [hgu] at hog
     dsimp only at hog
     split at hog
     ·cases hog
     ·cases hog
   obtain ⟨hgu, rfl, rfl⟩ := hgd
   have hdt : ∀ t, o.dst = some t → t < nt := by
    intro t ht
    rw [ht] at hdst
    simpa [fitD] using hdst
   obtain ⟨c, fo, hcall, hcallee, hfx, hargs⟩ := compOp_call hao
   refine wpIn_region_list ?_
   rw [hsplit]
   have h3 := list_in (rd := rd) (ds := Ds.map mkD) (n := 0) (ops := ops) (post_out (nt := nt) (w0 := W) (U := GhS S W (hJ _ _ _ hj).1) (Q := fun e σ1 => ∃ fr1, wkY σ1 fr1 ∧ ∃ R, StepR P rd J (fx.ev fr1) (args.map (·.ev fr1)) k R ∧
    ∀ res k', R res k' → opsW P (g1.drop (n + 1)) ((⟨fr1, [], 0, 0⟩ : St).put o.dst res) (fun σ2 => ∃ fr2, wkY σ2 fr2 ∧ Q .normal k' fr2))) (compGs_ops c1) (ops_sound c1 h hsim hz fun σ' ι' a' w' hq hs' hz' => ⟨σ', ι', rfl, hq, hs', hz'⟩)
   refine wpListIn_append ?_ ?_ h3
   ·rintro a1 W1 ⟨a0, rfl, σ1, ι1, _, ⟨fr1, hw1, R, hstep, hrest⟩, hs1, hz1⟩
    have hj1 := hg _ _ _ _ hj hs1.below
    have hy1 := SY.back hs1 hw1
    have hk1 := kept_back hs1
    generalize (fun b => S b ∨ W.heap.size ≤ b ∧ b < W1.heap.size) = S1 at hj1 hy1 hk1
    have hsim1 := hy1.sim (hJ _ _ _ hj1).1 (hJ _ _ _ hj1).2
    -- the value that is called and its arguments
    have ev : ∀ {x : Operand} {y : AX}, compX x = some y → RepV W1 S1 (fun _ => undef) 0 (y.ev fr1) (a0.eval x) := by
     intro x y hx
     have := compX_rep hx hsim1
     exact this.mono (fun b hlt h => by
      rcases h.1 with h | h
      ·exact h
      ·omega) (fun _ _ _ => rfl) (fun _ _ => rfl) (Nat.le_refl _)
    have evs : ∀ {l : List Operand} {ys : List AX}, compXs l = some ys → All2 (RepV W1 S1 (fun _ => undef) 0) (ys.map (·.ev fr1)) (l.map a0.eval) := by
     intro l
     induction l with
     | nil => intro ys h; cases h; exact .nil
     | cons x l ih =>
      intro ys h
      unfold compXs at h
      split at h
      ·rename_i y ys' h1 h2
       cases h
       exact .cons (ev h1) (ih h2)
      ·cases h
    show wpListIn (FR rd) 0 P ops _ (o :: ops.toList.drop (n + 1)) (sh (Ds.map mkD) a0) W1
    unfold wpListIn
    rw [if_pos (by simp [Region.wanted, hgu])]
    refine hstep S1 W1 _ _ hj1 (ev hfx) (evs hargs) o (sh (Ds.map mkD) a0) c fo _ _ hcall hcallee (by rw [sh_eval]) (by simp [sh_eval]) ?_
    intro v res k' S' W' hR hres hj2 hk2
    have hy2 := hy1.kept hk2
    have hy3 : SY S' ((⟨fr1, [], 0, 0⟩ : St).put o.dst res).fr (a0.put o.dst v) W' := by
     cases hdo : o.dst with
     | none => exact hy2
     | some t =>
      refine ⟨fun s => ?_, hy2.2⟩
      have hlt : t < a0.tmps.size := by rw [hz1]; exact hdt t hdo
      show RepV _ _ _ _ (look ((t, res) :: fr1) s) _
      rw [look_put]
      by_cases e : t = s
      ·subst e
       rw [if_pos rfl]
       have : (a0.put (some t) v).tmps.getD t undef = v := by simp [Act.put, Array.getD_eq_getD_getElem?, hlt]
       rw [this]
       exact hres
      ·rw [if_neg e]
       have : (a0.put (some t) v).tmps.getD s undef = a0.tmps.getD s undef := by simp [Act.put, Array.getD_eq_getD_getElem?, Array.getElem?_setIfInBounds, e]
       rw [this]
       exact hy2.1 s
    have hsim3 := hy3.sim (hJ _ _ _ hj2).1 (hJ _ _ _ hj2).2
    have hst : ((⟨fr1, [], 0, 0⟩ : St).put o.dst res) = ⟨((⟨fr1, [], 0, 0⟩ : St).put o.dst res).fr, [], 0, 0⟩ := by cases o.dst <;> rfl
    have h4 := hrest res k' hR
    rw [hst] at h4
    have h5 := list_in (rd := rd) (ds := Ds.map mkD) (n := 0) (ops := ops) (post_out (nt := nt) (w0 := W') (U := GhS S' W' (hJ _ _ _ hj2).1) (Q := fun e σ2 => ∃ fr2, wkY σ2 fr2 ∧ Q .normal k' fr2)) (compGs_ops c2) (ops_sound c2 h4 hsim3 (by rw [size_put]; exact hz1) fun σ' ι' a' w' hq hs' hz' => ⟨σ', ι', rfl, hq, hs', hz'⟩)
    have h6 := wpListIn_append (Q := PostR nt n0 rd Ds J S W Q) (l2 := []) ?_ ?_ h5
    ·rw [List.append_nil] at h6
     rw [sh_put]
     exact h6
    ·rintro a2 W2 ⟨a3, rfl, σ2, ι2, _, ⟨fr2, hw2, hq2⟩, hs2, hz2⟩
     exact ⟨.normal, k', fr2, _, [], a3, rfl, hq2, hg _ _ _ _ hj2 hs2.below, SY.back hs2 hw2, hz2, (hk1.trans hk2).trans (kept_back hs2), rfl, hm.kept ((hk1.trans hk2).trans (kept_back hs2)), fun _ => rfl⟩
    ·rintro e a2 W2 ⟨a3, rfl, σ2, ι2, e2, _⟩
     exact e2
   ·rintro e a1 W1 ⟨a0, rfl, σ1, ι1, e2, _⟩
    exact e2
  ·cases hog

theorem stepR_yield {l : Nat} {w : World} {xs : List (List AV)} {args : List AV} {k : Nat} (hJ : YSpec P l w xs J) (hx : xs[k]? = some args) :
  StepR P rd J (yv l) args (some k) (fun res k' => ∃ b : Bool, res = .c (.pure (.val (.bool b))) ∧ k' = if b = true then some (k + 1) else none) := by
 intro S W fv us hj hf hus o a c fo next Q ho hc hfo hargs hnext
 obtain ⟨rfl, _⟩ := repV_val hf
 obtain ⟨fn, tmps, asg, body, hy, hR⟩ := hJ.round k args S W us.toArray hx hj (by simpa using hus) 0
 refine ⟨fun _ _ => trivial, ?_⟩
 rw [Oper.semAt_eq _ _ _ (by rw [ho]; intro c e; cases e)]
 have hexec : (execOp a.eval o).run P W = .ok (.round l fn tmps asg body) W := by
  have e : c.args.map a.eval = us.toArray := by rw [← hargs]
  simp [execOp, ho, resolve, hc, hfo, Deferred.ofValue, invoke, e, hy]
 rw [hexec, Oper.uponIn_round]
 refine ⟨by simp [FR, Fence.wide], hR.mono ?_⟩
 rintro e W' ⟨b, rfl, hj', hk⟩
 exact hnext (.bool b) _ _ S W' ⟨b, rfl, rfl⟩ (.c (.pure (.val rfl))) hj' fun b hb => ⟨hb, hk b hb⟩
theorem GrowL.le {n n' : Nat} {w w' : World} (h : GrowL n w w') (hn : n' ≤ n) : GrowL n' w w' := ⟨h.os, h.tape, h.output, h.size, fun b hb => (h.block b hb).imp id fun ⟨h1, h2⟩ => ⟨Nat.le_trans hn h1, h2⟩⟩
theorem SY.growL {S : Nat → Prop} {a : Act} {W W' : World} {n : Nat} (h : SY S fr a W) (hg : GrowL n W W') : SY S fr a W' := by
 have hS : ∀ b, (b < W.heap.size ∧ W'.heap[b]? ≠ W.heap[b]?) → ∃ o, W.heap[b]? = some o ∧ isLp o = true := by
  rintro b ⟨h1, h2⟩
  rcases hg.block b h1 with e | ⟨_, e⟩
  ·exact absurd e h2
  ·exact e
 exact ⟨fun t => ((h.1 t).ne hS).mono (fun b _ h => h.1) (fun b hb h => Classical.byContradiction fun e => h.2 ⟨hb, e⟩) (fun _ _ => rfl) (Nat.le_refl _), h.2⟩
structure JOk (n0 : Nat) (J : YJ) : Prop where
 old : ∀ k S W, J k S W → (∀ b, S b → b < W.heap.size) ∧ n0 ≤ W.heap.size ∧ Glob W
 grow : ∀ k S W W', J k S W → GrowL n0 W W' → J k (fun b => S b ∨ W.heap.size ≤ b ∧ b < W'.heap.size) W'
 sub : ∀ k S S' W, J k S W → (∀ b, S' b → S b) → J k S' W
theorem YSpec.ok {l : Nat} {w : World} {xs : List (List AV)} (h : YSpec P l w xs J) : JOk w.heap.size J := ⟨h.old, h.grow, h.sub⟩
theorem AR2_rangeF {fx : AX} {ps : List Nat} {asg body : ACode} {g : FuncId} {caps : List AC} {pcaps : List AV} {xs : List (List AV)} (hok : JOk n0 J) (I : Nat → Option Nat → Prop) (fr0 : List (Nat × AV))
  (hf : fx.ev fr = .c (.clo g caps)) (hp : purVs [] (caps.map .c) = some pcaps) (hnr : (caps.map AV.c).all norefV = true) (hY : YCalls P g pcaps xs) (hlen : ∀ x ∈ xs, x.length = ps.length) (hfr : wkF [] fr 0 fr0) (h0 : I 0 k)
  (hround : ∀ l k1 x kout, xs[k1]? = some x → I k1 kout → AR2 P nt n0 (some l) J asg kout (putL ps x fr0) (fun e k' fr' => e = .normal ∧ AR2 P nt n0 (some l) J body k' fr' (fun e k'' fr'' => match e with
   | .normal => I (k1 + 1) k''
   | e => Q e k'' fr0)))
  (hend : ∀ kout, I xs.length kout → Q .normal kout fr0) : AR2 P nt n0 none J (.rangeF fx ps asg body) k fr Q := by
 intro c' hc S a W Ds hj hs hz hm
 cases c' <;> simp [compC] at hc
 all_goals (try (split at hc <;> simp at hc))
 rename_i f' ps' asg' body' _ _ _ _ x2 x3 x4 hfx hasg hbody hps
 obtain ⟨rfl, rfl, rfl, rfl⟩ := hc
 have hps' : ∀ p ∈ ps'.toList, p < nt := fun p hp => by simpa using Array.all_eq_true_iff_forall_mem.1 hps p (Array.mem_toList_iff.1 hp)
 obtain ⟨hlt, hn0, hG⟩ := hok.old _ _ _ hj
 have hsim := hs.sim hlt hG
 have hv := compX_rep hfx hsim
 rw [hf] at hv
 obtain ⟨cv, hcl, hcap, hu⟩ : ∃ cv : Array Value, caps.length = cv.size ∧ (∀ (i : Nat) x, caps[i]? = some x → RepA W (Free W.heap.size (GhS S W hlt) (fun _ => undef) []) (fun _ => undef) 0 x (cv.toList[i]?.getD undef)) ∧ a.eval f' = .func (.func g) #[] cv := by
  generalize a.eval f' = u at hv
  cases hv with
  | c h =>
   cases h with
   | clo hl h => exact ⟨_, hl, h, rfl⟩
 have hall : All2 (RepV W (Free W.heap.size (GhS S W hlt) (fun _ => undef) []) (fun _ => undef) 0) (caps.map .c) cv.toList := by
  refine All2.of_get (by simp [hcl]) fun i x v hi hvi => ?_
  rw [List.getElem?_map] at hi
  obtain ⟨y, hy, rfl⟩ := Option.map_eq_some_iff.1 hi
  have := hcap i y hy
  rw [hvi] at this
  exact .c this
 have hpc := purVs_rep (V := Free W.heap.size (GhS S W hlt) (fun _ => undef) []) hsim hall (fun _ h => h) (.inl hnr) hp
 have hexec : ∀ args w, (callFunc g args).run P w = .ok (.enter g args) w := by
  obtain ⟨fn, hfn, hbody, hname⟩ := hY.1
  have hb : ¬ fn.body = none := by intro e; rw [e] at hbody; cases hbody
  have hname' : ¬ fn.name = "runtime.NumGoroutine" := by intro e; rw [e] at hname; simp at hname
  intro args w
  simp [callFunc, hfn, hname', hb]
 refine wpIn_rangeFunc (F := FR none) fun fn _ => ?_
 obtain ⟨l, D, dfr, w1, hent, hg1, hl1, hl0, hw1l, hD0, hDl, hD1⟩ : ∃ (l D dfr : Nat) (w1 : World),
   (Instr.enterLoop fn (sh (Ds.map mkD) a).tmps ps' asg' body' (FR none).round).run P W = .ok (l, [mkD D]) w1 ∧ Below W.heap.size W w1 ∧
   w1.heap[l]? = some (.loop { state := .ready, pending := none, fn, tmps := a.tmps, params := ps', assign := asg', body := body', defers := dfr }) ∧ W.heap.size ≤ l ∧
   w1.heap.size = l + 1 ∧ W.heap.size ≤ D ∧ D ≠ l ∧ w1.heap[D]? = some (.deferred (some [])) := by
  refine ⟨W.heap.size + 1, W.heap.size, W.heap.size, _, run_enterLoop_outer _ _ _ _ _, ((Below.refl _ W).alloc (Nat.le_refl _) _).alloc (by simp) _, ?_, by omega, by simp, Nat.le_refl _, by omega, ?_⟩
  ·have := World.alloc_heap_new (W.alloc (.deferred (some []))) (.loop { state := .ready, pending := none, fn, tmps := a.tmps, params := ps', assign := asg', body := body', defers := W.heap.size })
   rwa [World.size_alloc] at this
  ·exact (Below.heap_alloc _ _ _ (by simp)).trans (World.alloc_heap_new W _)
 generalize hrec : (fun (st : LoopState) (pe : Option Code) => ({ state := st, pending := pe, fn, tmps := a.tmps, params := ps', assign := asg', body := body', defers := dfr } : Loop)) = rec
 have hrec' : ∀ st pe, rec st pe = { state := st, pending := pe, fn, tmps := a.tmps, params := ps', assign := asg', body := body', defers := dfr } := fun st pe => by rw [← hrec]
 rw [← hrec'] at hl1
 have hl1' := (Array.getElem?_eq_some_iff.1 hl1).1
 have hD1' := (Array.getElem?_eq_some_iff.1 hD1).1
 refine ⟨l, [mkD D], w1, { target := .fn (.func g) cv, args := #[.func (.yield l) #[] #[]] }, w1, g, #[.func (.yield l) #[] #[]] ++ cv, w1, hent, ?_, fun _ _ => trivial, ?_, fun h => by simp [FR, Fence.wide] at h, ?_⟩
 ·have he : (sh (Ds.map mkD) a).eval f' = .func (.func g) #[] cv := by rw [sh_eval]; exact hu
  simp only [resolve, he]
  simp [go_sem]
 ·simp [invoke, go_sem, hexec]
 let rdy := rec .ready none
 -- the state between two rounds
 let Mid : Option Nat → (Nat → Prop) → World → Loop → (Nat → Prop) → Prop := fun kout S' W2 r S2 => J kout S' W2 ∧ SY S' fr0 a W2 ∧ S' l ∧ W2.heap[l]? = some (.loop r) ∧ MkY n0 S' W2 (D :: Ds) ∧ Kept S W S' W2 ∧ ∀ b, S2 b → S' b ∧ b ≠ l
 let J1 : YJ := fun k1 S2 W2 => match k1 with
  | some k1 => ∃ kout S', I k1 kout ∧ Mid kout S' W2 rdy S2
  | none => ∃ (e : AExit) (kout : Option Nat) (S' : Nat → Prop), e ≠ .normal ∧ Q e kout fr0 ∧ Mid kout S' W2 (rec .done (some (exitCode e))) S2
 have hSl : ¬ S l := fun h => by have := hlt l h; omega
 have hDnot : D ∉ Ds := fun h => by have := hlt D (hm.2 D h).2.1; omega
 -- the record turns
 have turn : ∀ {kout : Option Nat} {S' : Nat → Prop} {W2 : World} {r r' : Loop} {S2 : Nat → Prop}, Mid kout S' W2 r S2 → Mid kout S' (W2.putObj l (.loop r')) r' S2 := by
  rintro kout S' W2 r r' S2 ⟨h1, h2, h3, h4, h5, h6, h7⟩
  have hgl : GrowL n0 W2 (W2.putObj l (.loop r')) := .putObj _ (by omega) h4 rfl
  refine ⟨hok.sub _ _ _ _ (hok.grow _ _ _ _ h1 hgl) fun b h => .inl h, h2.growL hgl, h3, World.putObj_heap_same (Array.getElem?_eq_some_iff.1 h4).1, ⟨h5.1, fun D' hD' => ⟨(h5.2 D' hD').1, (h5.2 D' hD').2.1, ?_⟩⟩, fun b hb => ⟨(h6 b hb).1, ?_⟩, h7⟩
  ·refine (World.putObj_heap_other ?_).trans (h5.2 D' hD').2.2
   rcases List.mem_cons.1 hD' with rfl | h
   ·exact hDl
   ·have := hlt D' (hm.2 D' h).2.1; omega
  ·exact (World.putObj_heap_other (show b ≠ l from fun e => hSl (by rw [← e]; exact hb))).trans (h6 b hb).2
 have grow : ∀ {kout : Option Nat} {S' : Nat → Prop} {W2 W3 : World} {r : Loop} {S2 : Nat → Prop}, Mid kout S' W2 r S2 → GrowL w1.heap.size W2 W3 → Mid kout (fun b => S' b ∨ W2.heap.size ≤ b ∧ b < W3.heap.size) W3 r (fun b => S2 b ∨ W2.heap.size ≤ b ∧ b < W3.heap.size) := by
  rintro kout S' W2 W3 r S2 ⟨h1, h2, h3, h4, h5, h6, h7⟩ hg
  have hl2 := (Array.getElem?_eq_some_iff.1 h4).1
  have hsz := hg1.size
  refine ⟨hok.grow _ _ _ _ h1 (hg.le (by omega)), ?_, .inl h3, (hg.old hl1' hl2).trans h4, ⟨h5.1, fun D' hD' => ⟨(h5.2 D' hD').1, .inl (h5.2 D' hD').2.1, ?_⟩⟩, fun b hb => ⟨.inl (h6 b hb).1, ?_⟩, fun b hb => ?_⟩
  ·have := h2.growL hg
   exact ⟨fun t => (this.1 t).mono (fun b _ h => .inl h) (fun _ _ _ => rfl) (fun _ _ => rfl) (Nat.le_refl _), this.2⟩
  ·have h8 := (h5.2 D' hD').2.2
   refine (hg.old ?_ (Array.getElem?_eq_some_iff.1 h8).1).trans h8
   rcases List.mem_cons.1 hD' with rfl | h
   ·exact hD1'
   ·have := hlt D' (hm.2 D' h).2.1; omega
  ·have h8 := (h6 b hb).2
   have h9 : b < W.heap.size := hlt b hb
   exact (hg.old (by omega) (lt_same h9 h8)).trans h8
  ·rcases hb with hb | ⟨q1, q2⟩
   ·exact ⟨.inl (h7 b hb).1, (h7 b hb).2⟩
   ·exact ⟨.inr ⟨q1, q2⟩, by omega⟩
 have midOld : ∀ {kout : Option Nat} {S' : Nat → Prop} {W2 : World} {r : Loop} {S2 : Nat → Prop}, Mid kout S' W2 r S2 → (∀ b, S2 b → b < W2.heap.size) ∧ w1.heap.size ≤ W2.heap.size ∧ Glob W2 := by
  rintro kout S' W2 r S2 ⟨h1, h2, h3, h4, h5, h6, h7⟩
  have hl2 := (Array.getElem?_eq_some_iff.1 h4).1
  exact ⟨fun b hb => (hok.old _ _ _ h1).1 b (h7 b hb).1, by omega, (hok.old _ _ _ h1).2.2⟩
 refine callsFR ((hY.2 l S J1 w1 cv (hG.below (Nat.le_refl _) hg1) ?_ ⟨?_, ?_, ?_, ?_⟩ ?_).mono ?_)
 ·exact hpc.mono fun _ _ h => h.mono (fun b hb hf => by
   rcases hf.1 with hf | hf
   ·exact hf
   ·omega) (fun b hb _ => hg1.block b hb) (fun _ _ => rfl) (Nat.le_refl _)
 ·intro k1 S2 W2 W3 h hg
  cases k1 with
  | some k1 =>
   obtain ⟨kout, S', hI, h⟩ := h
   exact ⟨kout, _, hI, grow h hg⟩
  | none =>
   obtain ⟨e, kout, S', hne, hq, h⟩ := h
   exact ⟨e, kout, _, hne, hq, grow h hg⟩
 ·intro k1 S2 W2 h
  cases k1 with
  | some k1 =>
   obtain ⟨kout, S', hI, h⟩ := h
   exact midOld h
  | none =>
   obtain ⟨e, kout, S', hne, hq, h⟩ := h
   exact midOld h
 ·intro k1 S2 S3 W2 h hsub
  cases k1 with
  | some k1 =>
   obtain ⟨kout, S', hI, h1, h2, h3, h4, h5, h6, h7⟩ := h
   exact ⟨kout, S', hI, h1, h2, h3, h4, h5, h6, fun b hb => h7 b (hsub b hb)⟩
  | none =>
   obtain ⟨e, kout, S', hne, hq, h1, h2, h3, h4, h5, h6, h7⟩ := h
   exact ⟨e, kout, S', hne, hq, h1, h2, h3, h4, h5, h6, fun b hb => h7 b (hsub b hb)⟩
 ·rintro k1 x S2 W2 us hx ⟨kout, S', hI, hmid⟩ hus m
  obtain ⟨g1, g2, g3, g4, g5, g6, g7⟩ := hmid
  have hxl := hlen x (List.mem_of_getElem? hx)
  have hul : us.size = ps'.size := by
   rw [← Array.length_toList, ← hus.length, hxl, Array.length_toList]
  have hy := run_yield (P := P) (args := us) g4 (by simp only [rdy, hrec']; exact hul)
  refine ⟨fn, _, asg', body', by simp only [rdy, hrec'] at hy; exact hy, roundIn_of_wpIn trivial ?_⟩
  have etm : (ps'.zip us).foldl (fun tmps (x : Nat × Value) => tmps.setIfInBounds x.1 x.2) a.tmps = (ps'.toList.zip us.toList).foldl (fun tmps (x : Nat × Value) => tmps.setIfInBounds x.1 x.2) a.tmps := by
   rw [← Array.foldl_toList, Array.toList_zip]
  have hus' : All2 (RepV W2 S' (fun _ => undef) 0) x us.toList := hus.mono fun _ _ h => h.mono (fun b hlt h => (g7 b h).1) (fun _ _ _ => rfl) (fun _ _ => rfl) (Nat.le_refl _)
  have hsr : SY S' (putL ps'.toList x fr0) { tmps := (ps'.zip us).foldl (fun tmps (x : Nat × Value) => tmps.setIfInBounds x.1 x.2) a.tmps, defers := [] } W2 := by
   refine ⟨fun s => ?_, rfl⟩
   rw [etm]
   exact params_rep hus' (by rw [hz]; exact hps') g2.1 s
  have h1 := hround l k1 x kout hx hI _ hasg S' _ W2 [] g1 hsr (by rw [etm, params_size]; exact hz) ⟨List.nodup_nil, fun D hD => by cases hD⟩
  rw [List.map_nil, sh_nil] at h1
  refine wpIn_mono (wpIn_room h1) ?_
  rintro e a1 W3 ⟨e', k', fr', S3, E, a0, rfl, ⟨rfl, hq⟩, hJ3, hs3, hz3, hk3, rfl, hm3, hE⟩
  obtain rfl := hE rfl
  rw [List.nil_append, List.map_nil, sh_nil]
  have k4 : W3.heap[l]? = some (.loop rdy) := (hk3 l g3).2.trans g4
  refine ⟨_, run_beginRound k4 (by simp only [rdy, hrec']), ?_⟩
  -- the outer activation at W3
  have mid3 : Mid k' S3 W3 rdy S2 := ⟨hJ3, g2.kept hk3, (hk3 l g3).1, k4, g5.kept hk3, g6.trans hk3, fun b hb => ⟨(hk3 b (g7 b hb).1).1, (g7 b hb).2⟩⟩
  have mid3b := turn (r' := { rdy with state := .busy }) mid3
  have hgl : GrowL n0 W3 (W3.putObj l (.loop { rdy with state := .busy })) := .putObj _ (by omega) k4 rfl
  have h3 := hq _ hbody S3 a0 _ [] mid3b.1 (hs3.growL hgl) hz3 ⟨List.nodup_nil, fun D hD => by cases hD⟩
  rw [List.map_nil, sh_nil] at h3
  refine wpIn_mono (wpIn_room h3) ?_
  rintro e a2 W4 ⟨e'', k'', fr'', S4, E, a3, rfl, hq2, hJ4, hs4, hz4, hk4, rfl, hm4, hE⟩
  obtain rfl := hE rfl
  obtain ⟨q1, q2, q3, q4, q5, q6, q7⟩ := mid3b
  have k5 : W4.heap[l]? = some (.loop { rdy with state := .busy }) := (hk4 l q3).2.trans q4
  have mid4 : Mid k'' S4 W4 { rdy with state := .busy } S2 := ⟨hJ4, q2.kept hk4, (hk4 l q3).1, k5, q5.kept hk4, q6.trans hk4, fun b hb => ⟨(hk4 b (q7 b hb).1).1, (q7 b hb).2⟩⟩
  have er : ∀ jump : Option Code, ({ ({ rdy with state := .busy } : Loop) with state := if jump.isNone then .ready else .done, pending := jump } : Loop) = rec (if jump.isNone then .ready else .done) jump := fun jump => by simp only [rdy, hrec']
  have hr := fun jump => run_endRound (P := P) jump k5
  simp only [er] at hr
  have kept : ∀ r' c, S2 c → (W4.putObj l (.loop r')).heap[c]? = W2.heap[c]? := fun r' c hc => by
   obtain ⟨c1, c2⟩ := g7 c hc
   have e1 := (hk3 c c1).2
   have e2 : (W3.putObj l (.loop { rdy with state := .busy })).heap[c]? = W3.heap[c]? := World.putObj_heap_other c2
   have e3 := (hk4 c (hk3 c c1).1).2
   exact (World.putObj_heap_other c2).trans (e3.trans (e2.trans e1))
  cases e'' with
  | normal => exact ⟨_, _, hr none, true, rfl, ⟨k'', S4, hq2, turn mid4⟩, kept _⟩
  | exit i => exact ⟨_, _, hr (some (.exit i)), false, rfl, ⟨.exit i, k'', S4, (fun h => by cases h), hq2, turn mid4⟩, kept _⟩
  | ret => exact ⟨_, _, hr (some .ret), false, rfl, ⟨.ret, k'', S4, (fun h => by cases h), hq2, turn mid4⟩, kept _⟩
 ·have hgl : GrowL n0 W w1 := (GrowL.of_below hg1).le hn0
  refine ⟨k, fun b => S b ∨ W.heap.size ≤ b ∧ b < w1.heap.size, h0, hok.grow _ _ _ _ hj hgl, ?_, .inr ⟨hl0, by omega⟩, hl1, ⟨List.nodup_cons.2 ⟨hDnot, hm.1⟩, fun D' hD' => ?_⟩, fun b hb => ⟨.inl hb, hg1.block b (hlt b hb)⟩, fun b hb => ⟨.inl hb, fun e => hSl (by rw [← e]; exact hb)⟩⟩
  ·exact (hs.wk hfr).kept fun b hb => ⟨.inl hb, hg1.block b (hlt b hb)⟩
  ·rcases List.mem_cons.1 hD' with rfl | h
   ·exact ⟨by omega, .inr ⟨hD0, hD1'⟩, hD1⟩
   ·exact ⟨(hm.2 D' h).1, .inl (hm.2 D' h).2.1, (hg1.block D' (hlt D' (hm.2 D' h).2.1)).trans (hm.2 D' h).2.2⟩
 ·have final : ∀ {e' : AExit} {kout : Option Nat} {S' S2 : Nat → Prop} {W3 : World} {r r' : Loop}, Mid kout S' W3 r S2 → Q e' kout fr0 →
    PostR nt n0 none Ds J S W Q (toExit e') { sh (Ds.map mkD) a with defers := [mkD D] ++ (sh (Ds.map mkD) a).defers } (W3.putObj l (.loop r')) := by
   intro e' kout S' S2 W3 r r' h hq
   obtain ⟨h1, h2, h3, h4, h5, h6, h7⟩ := turn (r' := r') h
   exact ⟨e', kout, fr0, S', [D], a, rfl, hq, h1, h2, hz, h6, by simp [sh, hs.2], h5, fun h => by cases h⟩
  rintro e W3 ⟨⟨v, rfl⟩, k1, S2, hk, h⟩
  cases k1 with
  | some k1 =>
   obtain rfl : k1 = xs.length := by simpa using hk
   obtain ⟨kout, S', hI, hmid⟩ := h
   have hr := run_endLoop (P := P) hmid.2.2.2.1 (by simp only [rdy, hrec']; simp)
   exact ⟨_, _, hr, by simp only [rdy, hrec']; exact final (e' := .normal) hmid (hend kout hI)⟩
  | none =>
   obtain ⟨e, kout, S', hne, hq, hmid⟩ := h
   have hr := run_endLoop (P := P) hmid.2.2.2.1 (by simp only [hrec']; simp)
   refine ⟨_, _, hr, ?_⟩
   simp only [hrec']
   cases e with
   | normal => exact absurd rfl hne
   | exit i => exact wpIn_exit (final (e' := .exit i) hmid hq)
   | ret => exact wpIn_ret (final (e' := .ret) hmid hq)
theorem leavesR {fn : Func} {tmps : Array Value} {R : Ending → World → Prop} (hok : JOk n0 J) {S : Nat → Prop} {a : Act} (hfin : ∀ W, J k S W → SY S fr a W → ∃ v, (results fn tmps).run P W = .ok v W ∧ R (.returned v) W) : ∀ {E : List Nat} {W : World}, J k S W → SY S fr a W → MkY n0 S W E → LeavesInM Fence.wide 0 P fn tmps R (E.map mkD) .returning W
 | [], W, hj, hs, _ => hfin W hj hs
 |D :: E, W, hj, hs, hm => by
  obtain ⟨h1, h2, h3⟩ := hm.2 D List.mem_cons_self
  have hg : GrowL n0 W (W.putObj D (.deferred none)) := .putObj _ h1 h3 rfl
  obtain ⟨n1, n2⟩ := List.nodup_cons.1 hm.1
  exact ⟨by simp, .inl ⟨D, _, rfl, run_takeDeferred h3, leavesR hok hfin (hok.sub _ _ _ _ (hok.grow _ _ _ _ hj hg) fun b h => .inl h) (hs.growL hg) ⟨n2, fun D' hD' => by
   obtain ⟨q1, q2, q3⟩ := hm.2 D' (List.mem_cons_of_mem _ hD')
   exact ⟨q1, q2, (World.putObj_heap_other (show D' ≠ D from fun e => n1 (by rw [← e]; exact hD'))).trans q3⟩⟩⟩⟩
theorem YCalls.of2 {f : FuncId} {body : ACode} {rs : List AR} {args : List AV} {xs : List (List AV)} (hf : FnIs P f nt body rs) (hlen : args.length + 1 ≤ nt)
  (h : ∀ (l : Nat) (w : World) (J' : YJ), YSpec P l w xs J' → AR2 P nt w.heap.size none J' body (some 0) (argsFr (yv l :: args) 0) (retY rs fun _ k' => k' = some xs.length ∨ k' = none)) : YCalls P f args xs := by
 obtain ⟨fn, c, h1, h2, h3, rfl, h5, h6⟩ := hf.is
 refine ⟨⟨fn, h1, by rw [h2]; rfl, h3⟩, fun l S J' w vs hG hargs hJ h0 => ?_⟩
 have hok := hJ.ok
 have hargs' : All2 (RepV w S (fun _ => undef) 0) (yv l :: args) (#[Value.func (.yield l) #[] #[]] ++ vs).toList := by
  have e : (#[Value.func (.yield l) #[] #[]] ++ vs).toList = Value.func (.yield l) #[] #[] :: vs.toList := by simp
  rw [e]
  exact .cons (.c (.pure (.val rfl))) hargs
 generalize (#[Value.func (.yield l) #[] #[]] ++ vs) = us at hargs'
 have hsz : us.size = args.length + 1 := by rw [← Array.length_toList]; exact hargs'.length.symm
 have hs : SY S (argsFr (yv l :: args) 0) { tmps := us ++ Array.replicate (fn.ntmps - us.size) undef, defers := [] } w := by
  refine ⟨fun t => ?_, rfl⟩
  rcases look_args (vs := us.toList) (k := 0) hargs' t with h | h
  ·by_cases hlt : t < us.size
   ·have e : (us ++ Array.replicate (fn.ntmps - us.size) undef).getD t undef = (us.toList[t - 0]?).getD undef := by
     simp [Array.getD_eq_getD_getElem?, Array.getElem?_append, hlt]
    rw [e]
    exact h
   ·have : look (argsFr (yv l :: args) 0) t = .top := by
     have key : ∀ (l : List AV) (j : Nat), j + l.length ≤ t → look (argsFr l j) t = .top := by
      intro l
      induction l with
      | nil => intro j _; rfl
      | cons x l ih =>
       intro j hj
       simp only [List.length_cons] at hj
       show (if j = t then x else look (argsFr l (j + 1)) t) = _
       rw [if_neg (by omega)]
       exact ih _ (by omega)
     exact key (yv l :: args) 0 (by simp only [List.length_cons]; omega)
    rw [this]
    exact .top
  ·rw [h]
   exact .top
 have hsize : (us ++ Array.replicate (fn.ntmps - us.size) undef).size = fn.ntmps := by simp; omega
 have hw := h l w J' hJ c h5 S _ w [] h0 hs hsize ⟨List.nodup_nil, fun D hD => by cases hD⟩
 rw [List.map_nil, sh_nil] at hw
 refine (callsIn_wide (n := 0)).1 (callsIn_of_wp_marks h1 h2 trivial (wpIn_mono hw ?_))
 have fin : ∀ {a' : Act} {fr' : List (Nat × AV)} {k' : Option Nat} {S' : Nat → Prop} {W' : World}, resW ⟨fr', [], 0, 0⟩ rs [] (fun vs => k' = some xs.length ∨ k' = none) → J' k' S' W' → SY S' fr' a' W' → ∃ v, (results fn a'.tmps).run P W' = .ok v W' ∧ (∃ v', Ending.returned v = .returned v') ∧ ∃ k S', (k = some xs.length ∨ k = none) ∧ J' k S' W' := by
  intro a' fr' k' S' W' hres hj' hs'
  obtain ⟨vs', us', g1, g2, g3⟩ := res_sound (hs'.sim (hok.old _ _ _ hj').1 (hok.old _ _ _ hj').2.2) (us := []) h6 hres .nil
  refine ⟨(if h : us'.toArray.size = 1 then us'.toArray[0] else .tuple us'.toArray), ?_, ⟨_, rfl⟩, k', S', g3, hj'⟩
  rw [results_eq, Array.mapM_eq_mapM_toList]
  simp [g2]
 rintro e a' W' ⟨e', k', fr', S', E, a0, rfl, hq, hj', hs', hsz', hk, rfl, hm, _⟩
 have hd : (sh ((E ++ []).map mkD) a0).defers = E.map mkD := by simp [sh, hs'.2]
 rw [List.append_nil] at hm
 have key : (∀ W, J' k' S' W → SY S' fr' a0 W → ∃ v, (results fn a0.tmps).run P W = .ok v W ∧ (∃ v', Ending.returned v = .returned v') ∧ ∃ k S', (k = some xs.length ∨ k = none) ∧ J' k S' W) → LeavesInM Fence.wide 0 P fn (sh ((E ++ []).map mkD) a0).tmps (fun e w' => (∃ v, e = .returned v) ∧ ∃ k S', (k = some xs.length ∨ k = none) ∧ J' k S' w') (sh ((E ++ []).map mkD) a0).defers .returning W' := fun hf => by
  rw [hd]
  exact leavesR hok (a := a0) hf hj' hs' hm
 cases e' with
 | normal => exact key fun W hj hs => fin hq hj hs
 | exit i => exact hq.elim
 | ret => exact key fun W hj hs => fin hq hj hs
end
end Go.Abs
