/- The abstract machine: iterators that give away what they made. -/
import Derived.Test.YtehjbfljenpfoaaAbs28
set_option linter.unusedVariables false
set_option linter.unusedSimpArgs false
namespace Go.Abs
open Go.RowKit

structure OSpec (P : Program) (l : Nat) (w : World) (e sz : Nat) (xs : List (List (List PC))) (J : YJ) : Prop where
 ok : JOk w.heap.size J
 round : ∀ k rows S0 W0 W v cells, xs[k]? = some rows → J (some k) S0 W0 → Below W0.heap.size W0 W → 0 < sz → W.ownsRow W0.heap.size e sz v rows.length cells → rows.length ≤ 9223372036854775807 → RowsRep W (fun _ => False) sz rows cells → ∀ m, YieldAt Fence.wide m P l #[v] W fun en W' =>
  ∃ b : Bool, en = .returned (.bool b) ∧ J (if b = true then some (k + 1) else none) (fun c => (S0 c ∨ W0.heap.size ≤ c ∧ c < W.heap.size) ∧ blockOf v ≠ some c) W' ∧ ∀ c, (S0 c ∨ W0.heap.size ≤ c ∧ c < W.heap.size) → blockOf v ≠ some c → W'.heap[c]? = W.heap[c]?
def OYCalls (P : Program) (f : FuncId) (args : List AV) (e sz : Nat) (xs : List (List (List PC))) : Prop :=
 FnThere P f ∧ ∀ (l : Nat) (S : Nat → Prop) (J : YJ) (w : World) (vs : Array Value), Glob w →
  All2 (RepV w S (fun _ => undef) 0) args vs.toList → OSpec P l w e sz xs J → J (some 0) S w →
  Calls P f (#[.func (.yield l) #[] #[]] ++ vs) w fun e w' => (∃ v, e = .returned v) ∧ ∃ k S', (k = some xs.length ∨ k = none) ∧ J k S' w'

def wkO (σ : St) : List (Nat × AV) → Prop
 | [] => True
 | (t, v) :: r => (look σ.fr t = v ∨ v = .top) ∧ clV 0 v ∧ wkO σ r
theorem wkO_look {σ : St} {fr' : List (Nat × AV)} (h : wkO σ fr') (t : Nat) : (look σ.fr t = look fr' t ∨ look fr' t = .top) ∧ clV 0 (look fr' t) := by
 induction fr' with
 | nil => exact ⟨.inr rfl, trivial⟩
 | cons x r ih =>
  obtain ⟨k, v⟩ := x
  obtain ⟨h1, h2, h3⟩ := h
  rw [look_put]
  by_cases e : k = t
  ·subst e
   rw [if_pos rfl]
   exact ⟨h1, h2⟩
  ·rw [if_neg e]
   exact ih h3
section
variable {P : Program} {nt n0 : Nat} {rd : Option Nat} {Ds : List Nat} {J : YJ} {k : Option Nat} {fr : List (Nat × AV)} {Q : YQ}

theorem OYCalls.of2 {f : FuncId} {body : ACode} {rs : List AR} {args : List AV} {e sz : Nat} {xs : List (List (List PC))} (hf : FnIs P f nt body rs) (hlen : args.length + 1 ≤ nt)
  (h : ∀ (l : Nat) (w : World) (J' : YJ), OSpec P l w e sz xs J' → AR2 P nt w.heap.size none J' body (some 0) (argsFr (yv l :: args) 0) (retY rs fun _ k' => k' = some xs.length ∨ k' = none)) : OYCalls P f args e sz xs := by
 obtain ⟨fn, c, h1, h2, h3, rfl, h5, h6⟩ := hf.is
 refine ⟨⟨fn, h1, by rw [h2]; rfl, h3⟩, fun l S J' w vs hG hargs hJ h0 => ?_⟩
 have hok := hJ.ok
 have hargs' : All2 (RepV w S (fun _ => undef) 0) (yv l :: args) (#[Value.func (.yield l) #[] #[]] ++ vs).toList := by
  have e : (#[Value.func (.yield l) #[] #[]] ++ vs).toList = Value.func (.yield l) #[] #[] :: vs.toList := by simp
  rw [e]
  exact .cons (.c (.pure (.val rfl))) hargs
 generalize (#[Value.func (.yield l) #[] #[]] ++ vs) = us at hargs'
 have hsz : us.size = args.length + 1 := by rw [← Array.length_toList]; exact hargs'.length.symm
 have hs : SY S (argsFr (yv l :: args) 0) { tmps := us ++ Array.replicate (fn.ntmps - us.size) undef, defers := [] } w := by
  refine ⟨fun t => ?_, rfl⟩
  rcases look_args (vs := us.toList) (k := 0) hargs' t with h | h
  ·by_cases hlt : t < us.size
   ·have e : (us ++ Array.replicate (fn.ntmps - us.size) undef).getD t undef = (us.toList[t - 0]?).getD undef := by
     simp [Array.getD_eq_getD_getElem?, Array.getElem?_append, hlt]
    rw [e]
    exact h
   ·have : look (argsFr (yv l :: args) 0) t = .top := by
     have key : ∀ (l : List AV) (j : Nat), j + l.length ≤ t → look (argsFr l j) t = .top := by
      intro l
      induction l with
      | nil => intro j _; rfl
      | cons x l ih =>
       intro j hj
       simp only [List.length_cons] at hj
       show (if j = t then x else look (argsFr l (j + 1)) t) = _
       rw [if_neg (by omega)]
       exact ih _ (by omega)
     exact key (yv l :: args) 0 (by simp only [List.length_cons]; omega)
    rw [this]
    exact .top
  ·rw [h]
   exact .top
 have hsize : (us ++ Array.replicate (fn.ntmps - us.size) undef).size = fn.ntmps := by simp; omega
 have hw := h l w J' hJ c h5 S _ w [] h0 hs hsize ⟨List.nodup_nil, fun D hD => by cases hD⟩
 rw [List.map_nil, sh_nil] at hw
 refine (callsIn_wide (n := 0)).1 (callsIn_of_wp_marks h1 h2 trivial (wpIn_mono hw ?_))
 have fin : ∀ {a' : Act} {fr' : List (Nat × AV)} {k' : Option Nat} {S' : Nat → Prop} {W' : World}, resW ⟨fr', [], 0, 0⟩ rs [] (fun vs => k' = some xs.length ∨ k' = none) → J' k' S' W' → SY S' fr' a' W' → ∃ v, (results fn a'.tmps).run P W' = .ok v W' ∧ (∃ v', Ending.returned v = .returned v') ∧ ∃ k S', (k = some xs.length ∨ k = none) ∧ J' k S' W' := by
  intro a' fr' k' S' W' hres hj' hs'
  obtain ⟨vs', us', g1, g2, g3⟩ := res_sound (hs'.sim (hok.old _ _ _ hj').1 (hok.old _ _ _ hj').2.2) (us := []) h6 hres .nil
  refine ⟨(if h : us'.toArray.size = 1 then us'.toArray[0] else .tuple us'.toArray), ?_, ⟨_, rfl⟩, k', S', g3, hj'⟩
  rw [results_eq, Array.mapM_eq_mapM_toList]
  simp [g2]
 rintro e a' W' ⟨e', k', fr', S', E, a0, rfl, hq, hj', hs', hsz', hk, rfl, hm, _⟩
 have hd : (sh ((E ++ []).map mkD) a0).defers = E.map mkD := by simp [sh, hs'.2]
 rw [List.append_nil] at hm
 have key : (∀ W, J' k' S' W → SY S' fr' a0 W → ∃ v, (results fn a0.tmps).run P W = .ok v W ∧ (∃ v', Ending.returned v = .returned v') ∧ ∃ k S', (k = some xs.length ∨ k = none) ∧ J' k S' W) → LeavesInM Fence.wide 0 P fn (sh ((E ++ []).map mkD) a0).tmps (fun e w' => (∃ v, e = .returned v) ∧ ∃ k S', (k = some xs.length ∨ k = none) ∧ J' k S' w') (sh ((E ++ []).map mkD) a0).defers .returning W' := fun hf => by
  rw [hd]
  exact leavesR hok (a := a0) hf hj' hs' hm
 cases e' with
 | normal => exact key fun W hj hs => fin hq hj hs
 | exit i => exact hq.elim
 | ret => exact key fun W hj hs => fin hq hj hs

theorem AR2_own {gs1 gs2 : List AG} {y : ACode} (n : Nat) {dst : Option Nat} {gg z : Bool} {fx ax : AX} {l e sz i : Nat} {w : World} {xs : List (List (List PC))} {rows : List (List PC)} (hS : OSpec P l w e sz xs J)
  (hn : gs2[n]? = some ⟨dst, none, .call gg z fx [ax]⟩) (hx : xs[i]? = some rows) (hfl : flatRows rows)
  (h : opsW P gs1 ⟨fr, [], 0, 0⟩ (fun σ => opsW P (gs2.take n) σ (fun σ1 => ∃ nm fr1, findB σ1.mem nm = some (.arr e sz rows) ∧ ax.ev σ1.fr = .c (.ref nm) ∧ fx.ev σ1.fr = yv l ∧ wkO σ1 fr1 ∧
   ∀ b : Bool, opsW P (gs2.drop (n + 1)) ((⟨fr1, [], 0, 0⟩ : St).put dst (.c (.pure (.val (.bool b))))) (fun σ2 => ∃ fr2, wkY σ2 fr2 ∧ AR2 P nt n0 rd J y (if b = true then some (i + 1) else none) fr2 Q)))) :
  AR2 P nt n0 rd J (.seq (.region gs1 false) (.seq (.region gs2 false) y)) (some i) fr Q := by
 intro c' hc S a W Ds hj hs hz hm
 cases c' <;> simp [compC] at hc
 all_goals (try (split at hc <;> simp at hc))
 rename_i b1 b2 _ _ c1 c2 h1 h2
 obtain ⟨rfl, rfl⟩ := hc
 cases b1 <;> simp [compC] at h1
 all_goals (try (split at h1 <;> simp at h1))
 rename_i id1 ops1 dr1
 obtain ⟨g1, h1, hgs1⟩ := h1
 cases b2 <;> simp [compC] at h2
 all_goals (try (split at h2 <;> simp at h2))
 rename_i b3 b4 _ _ c3 c4 h3 h4
 obtain ⟨rfl, rfl⟩ := h2
 cases b3 <;> simp [compC] at h3
 all_goals (try (split at h3 <;> simp at h3))
 rename_i id2 ops2 dr2
 obtain ⟨g2, h3, hgs2⟩ := h3
 have nodraw : ∀ {ops : List Oper} {g gs : List AG} {dr : Bool}, regX P dr ops g = .region gs false → dr = false ∧ g = gs := by
  intro ops g gs dr hh
  cases dr with
  | true =>
   simp only [regX, if_true] at hh
   rcases compDraw_cases (P := P) (ops := ops) (gs := g) with ⟨x, e⟩ | e <;> rw [e] at hh <;> simp at hh
  | false =>
   simp [regX] at hh
   exact ⟨rfl, hh⟩
 obtain ⟨rfl, rfl⟩ := nodraw hgs1
 obtain ⟨rfl, rfl⟩ := nodraw hgs2
 obtain ⟨hlt, hn0, hG⟩ := hS.ok.old _ _ _ hj
 have hsim := hs.sim hlt hG
 obtain ⟨k1, _, k3⟩ := compGs_take n h3
 obtain ⟨_, k2, _⟩ := compGs_take (n + 1) h3
 obtain ⟨o, ho, hog⟩ := k3 _ hn
 have hsplit : ops2.toList = ops2.toList.take n ++ (o :: ops2.toList.drop (n + 1)) := by
  have hlt := (List.getElem?_eq_some_iff.1 ho).1
  have he := (List.getElem?_eq_some_iff.1 ho).2
  rw [← he, ← List.drop_eq_getElem_cons hlt, List.take_append_drop]
 have hd := compG_op hog
 unfold compG at hog
 by_cases hdst : fitD nt o.dst = false
 ·rw [if_pos hdst] at hog; cases hog
 rw [if_neg hdst] at hog
 split at hog
 ·rename_i ao hao
  have hgd : o.guard = none ∧ o.dst = dst ∧ ao = .call gg z fx [ax] := by
   cases hgu : o.guard with
   | none =>
    rw [hgu] at hog
    cases hog
    exact ⟨rfl, rfl, rfl⟩
   | some q =>
    rw [hgu] at hog
    dsimp only at hog
    split at hog
    ·cases hog
    ·cases hog
  obtain ⟨hgu, rfl, rfl⟩ := hgd
  have hdt : ∀ t, o.dst = some t → t < nt := by
   intro t ht
   rw [ht] at hdst
   simpa [fitD] using hdst
  obtain ⟨c, fo, hcall, hcallee, hfx, hargs⟩ := compOp_call hao
  have hL1 := list_in (rd := rd) (ds := Ds.map mkD) (n := 0) (post_out (nt := nt) (w0 := W) (U := GhS S W hlt) (Q := fun _ σ => opsW P (g2.take n) σ (fun σ1 => ∃ nm fr1, findB σ1.mem nm = some (.arr e sz rows) ∧ ax.ev σ1.fr = .c (.ref nm) ∧ fx.ev σ1.fr = yv l ∧ wkO σ1 fr1 ∧
   ∀ b : Bool, opsW P (g2.drop (n + 1)) ((⟨fr1, [], 0, 0⟩ : St).put o.dst (.c (.pure (.val (.bool b))))) (fun σ2 => ∃ fr2, wkY σ2 fr2 ∧ AR2 P nt n0 rd J c4 (if b = true then some (i + 1) else none) fr2 Q)))) (compGs_ops h1) (ops_sound h1 h hsim hz fun σ' ι' a' w' hq hs' hz' => ⟨σ', ι', rfl, hq, hs', hz'⟩)
  refine wpIn_seq (wpIn_mono (wpIn_region_list hL1) ?_)
  rintro e1 a1 W1 ⟨a0, rfl, σ, ι, rfl, hq, hs1, hz1⟩
  show (Code.seq (.region id2 ops2 false) b4).wpIn (FR rd) 0 P (PostR nt n0 rd Ds J S W Q) (sh (Ds.map mkD) a0) W1
  refine wpIn_seq (wpIn_region_list ?_)
  rw [hsplit]
  have hL2 := list_in (rd := rd) (ds := Ds.map mkD) (n := 0) (ops := ops2) (post_out (nt := nt) (w0 := W) (U := GhS S W hlt) (Q := fun e1 σ1 => ∃ nm fr1, findB σ1.mem nm = some (.arr e sz rows) ∧ ax.ev σ1.fr = .c (.ref nm) ∧ fx.ev σ1.fr = yv l ∧ wkO σ1 fr1 ∧
   ∀ b : Bool, opsW P (g2.drop (n + 1)) ((⟨fr1, [], 0, 0⟩ : St).put o.dst (.c (.pure (.val (.bool b))))) (fun σ2 => ∃ fr2, wkY σ2 fr2 ∧ AR2 P nt n0 rd J c4 (if b = true then some (i + 1) else none) fr2 Q))) (compGs_ops k1) (ops_sound k1 hq hs1 hz1 fun σ' ι' a' w' hq hs' hz' => ⟨σ', ι', rfl, hq, hs', hz'⟩)
  refine wpListIn_append ?_ ?_ hL2
  ·rintro a1 W2 ⟨a2, rfl, σ1, ι1, _, ⟨nm, fr1, hf, hax, hfx1, hw, hrest⟩, hs2, hz2⟩
   have hv := compX_rep hfx hs2
   rw [hfx1] at hv
   have hfo := (repV_val hv).1
   obtain ⟨x, hxa, hxx⟩ : ∃ x, c.args.toList = [x] ∧ compX x = some ax := by
    cases hl : c.args.toList with
    | nil => rw [hl] at hargs; cases hargs
    | cons x r =>
     rw [hl] at hargs
     unfold compXs at hargs
     split at hargs
     ·rename_i y' ys' h1' h2'
      cases hargs
      cases r with
      | nil => exact ⟨x, rfl, h1'⟩
      | cons z r =>
       unfold compXs at h2'
       split at h2' <;> cases h2'
     ·cases hargs
   have hav := compX_rep hxx hs2
   rw [hax] at hav
   have hae := repV_ref hav
   obtain ⟨cells, g0, g1, g2', g3⟩ := hs2.box nm _ hf
   obtain ⟨fn, tmps, asg, body, hy, hR⟩ := hS.round i rows S W W2 (ι1 nm) cells hx hj hs2.below g0 g1 g2' (g3.flat hfl) 0
   show wpListIn (FR rd) 0 P ops2 _ (o :: ops2.toList.drop (n + 1)) (sh (Ds.map mkD) a2) W2
   unfold wpListIn
   rw [if_pos (by simp [Region.wanted, hgu])]
   refine ⟨fun _ _ => trivial, ?_⟩
   rw [Oper.semAt_eq _ _ _ (by rw [hcall]; intro c e; cases e)]
   have hexec : (execOp (sh (Ds.map mkD) a2).eval o).run P W2 = .ok (.round l fn tmps asg body) W2 := by
    have e1 : c.args.map (sh (Ds.map mkD) a2).eval = #[ι1 nm] := by
     apply Array.ext'
     rw [Array.toList_map, hxa]
     simp [sh_eval, hae]
    have e2 : (sh (Ds.map mkD) a2).eval fo = .func (.yield l) #[] #[] := by rw [sh_eval]; exact hfo
    simp [execOp, hcall, resolve, hcallee, e2, Deferred.ofValue, invoke, e1, hy]
   rw [hexec, Oper.uponIn_round]
   refine ⟨by simp [FR, Fence.wide], hR.mono ?_⟩
   rintro e W' ⟨b, rfl, hj3, hk⟩
   have hne : ∀ c, S c → blockOf (ι1 nm) ≠ some c := fun c hc => (hs2.keep c hc).1.2 nm _ hf
   have hkk : Kept S W (fun c => (S c ∨ W.heap.size ≤ c ∧ c < W2.heap.size) ∧ blockOf (ι1 nm) ≠ some c) W' := fun c hc => ⟨⟨.inl hc, hne c hc⟩, (hk c (.inl hc) (hne c hc)).trans (hs2.keep c hc).2⟩
   have hy2 : SY (fun c => (S c ∨ W.heap.size ≤ c ∧ c < W2.heap.size) ∧ blockOf (ι1 nm) ≠ some c) fr1 a2 W' := by
    refine ⟨fun t => ?_, hs2.defers.1⟩
    obtain ⟨q1, q2⟩ := wkO_look hw t
    rcases q1 with q1 | q1
    ·have := hs2.val t
     rw [q1] at this
     have q3 := (show RepV W2 (Free W.heap.size (GhS S W hlt) ι1 σ1.mem) ι1 σ1.nx (renV [] (look fr1 t)) _ by rw [renV_nil]; exact this).cl (V' := fun b => (S b ∨ W.heap.size ≤ b) ∧ blockOf (ι1 nm) ≠ some b) (fun b h => ⟨h.1, h.2 nm _ hf⟩) q2
     exact q3.mono (fun b hl h => ⟨h.1.imp id fun h => ⟨h, hl⟩, h.2⟩) (fun b hl h => hk b (h.1.imp id fun h => ⟨h, hl⟩) h.2) (fun nm h => absurd h (Nat.not_lt_zero _)) (Nat.le_refl _)
    ·rw [q1]; exact .top
   generalize (fun c => (S c ∨ W.heap.size ≤ c ∧ c < W2.heap.size) ∧ blockOf (ι1 nm) ≠ some c) = S2 at hj3 hkk hy2
   have hy3 : SY S2 ((⟨fr1, [], 0, 0⟩ : St).put o.dst (.c (.pure (.val (.bool b))))).fr (a2.put o.dst (.bool b)) W' := by
    cases hdo : o.dst with
    | none => exact hy2
    | some t =>
     refine ⟨fun s => ?_, hy2.2⟩
     have hlt : t < a2.tmps.size := by rw [hz2]; exact hdt t hdo
     show RepV _ _ _ _ (look ((t, _) :: fr1) s) _
     rw [look_put]
     by_cases e : t = s
     ·subst e
      rw [if_pos rfl]
      have : (a2.put (some t) (.bool b)).tmps.getD t undef = .bool b := by simp [Act.put, Array.getD_eq_getD_getElem?, hlt]
      rw [this]
      exact .c (.pure (.val rfl))
     ·rw [if_neg e]
      have : (a2.put (some t) (.bool b)).tmps.getD s undef = a2.tmps.getD s undef := by simp [Act.put, Array.getD_eq_getD_getElem?, Array.getElem?_setIfInBounds, e]
      rw [this]
      exact hy2.1 s
   obtain ⟨hlt3, hn3, hG3⟩ := hS.ok.old _ _ _ hj3
   have hsim3 := hy3.sim hlt3 hG3
   have hst : ((⟨fr1, [], 0, 0⟩ : St).put o.dst (.c (.pure (.val (.bool b))))) = ⟨((⟨fr1, [], 0, 0⟩ : St).put o.dst (.c (.pure (.val (.bool b))))).fr, [], 0, 0⟩ := by cases o.dst <;> rfl
   have h7 := hrest b
   rw [hst] at h7
   have h5 := list_in (rd := rd) (ds := Ds.map mkD) (n := 0) (ops := ops2) (post_out (nt := nt) (w0 := W') (U := GhS S2 W' hlt3) (Q := fun e1 σ2 => ∃ fr2, wkY σ2 fr2 ∧ AR2 P nt n0 rd J c4 (if b = true then some (i + 1) else none) fr2 Q)) (compGs_ops k2) (ops_sound k2 h7 hsim3 (by rw [size_put]; exact hz2) fun σ' ι' a' w' hq hs' hz' => ⟨σ', ι', rfl, hq, hs', hz'⟩)
   dsimp only
   rw [← List.append_nil (ops2.toList.drop (n + 1)), sh_put]
   refine wpListIn_append ?_ ?_ h5
   ·rintro a3 W3 ⟨a4, rfl, σ2, ι2, _, ⟨fr2, hw2, hq2⟩, hs3, hz3⟩
    have K := hkk.trans (kept_back hs3)
    exact wpIn_mono (hq2 _ h4 _ a4 W3 Ds (hS.ok.grow _ _ _ _ hj3 ((GrowL.of_below hs3.below).le hn3)) (SY.back hs3 hw2) hz3 (hm.kept K)) fun e a w h => PostR.kept (E := []) h K (fun _ => rfl)
   ·rintro e a3 W3 ⟨a4, rfl, σ2, ι2, e2, _⟩
    exact e2
  ·rintro e a1 W2 ⟨a2, rfl, σ1, ι1, e2, _⟩
   exact e2
 ·cases hog
end
def roundE {τ : Type} (mk : Nat → τ → List (Nat × Box) × Nat) (I : Nat → τ → Prop) (bs : Nat) (fr0 : List (Nat × AV)) (base : Nat) (Q : AExit → St → Prop) (k : Nat) : AExit → St → Prop
 | .normal, σ => σ.base = bs ∧ ∃ t, I (k + 1) t ∧ mk (k + 1) t = (σ.mem, σ.nx)
 | .exit i, σ => σ.base = bs ∧ Q (.exit i) ⟨fr0, σ.mem, σ.nx, base⟩
 | .ret, σ => σ.base = bs ∧ Q .ret ⟨fr0, σ.mem, σ.nx, base⟩
section
variable {P : Program} {nt : Nat} {σ : St} {Q : AExit → St → Prop}
theorem AW_rangeO {fx : AX} {ps : List Nat} {asg body : ACode} {g : FuncId} {caps : List AC} {pcaps : List AV} {e z0 : Nat} {xs : List (List (List PC))} {τ : Type}
  (bs : Nat) (fr0 : List (Nat × AV)) (mk : Nat → τ → List (Nat × Box) × Nat) (I : Nat → τ → Prop)
  (hf : fx.ev σ.fr = .c (.clo g caps)) (hp : purVs σ.mem (caps.map .c) = some pcaps) (hnr : (caps.map AV.c).all norefV = true)
  (hY : OYCalls P g pcaps e z0 xs) (hfl : ∀ x ∈ xs, flatRows x) (hlen : ps.length = 1) (hb : σ.base ≤ bs ∧ bs ≤ σ.nx) (hfr : wkF [] σ.fr bs fr0)
  (h0 : ∃ t, I 0 t ∧ mk 0 t = (σ.mem, σ.nx))
  (hround : ∀ k x t, xs[k]? = some x → I k t → AW P nt asg ⟨putL ps [.c (.ref (mk k t).2)] fr0, ((mk k t).2, .arr e z0 x) :: (mk k t).1, (mk k t).2 + 1, bs⟩ (asgW P nt body (roundE mk I bs fr0 σ.base Q k)))
  (hend : ∀ t, I xs.length t → Q .normal ⟨fr0, (mk xs.length t).1, (mk xs.length t).2, σ.base⟩) : AW P nt (.rangeF fx ps asg body) σ Q := by
 intro c' hc w0 U rd ds ι a w hrd hs hz
 cases c' <;> simp [compC] at hc
 all_goals (try (split at hc <;> simp at hc))
 rename_i f' ps' asg' body' _ _ _ _ x2 x3 x4 hfx hasg hbody hps
 obtain ⟨rfl, rfl, rfl, rfl⟩ := hc
 have hps' : ∀ p ∈ ps'.toList, p < nt := fun p hp => by simpa using Array.all_eq_true_iff_forall_mem.1 hps p (Array.mem_toList_iff.1 hp)
 have hsz0 := hs.below.size
 -- the iterator's value
 have hv := compX_rep hfx hs
 rw [hf] at hv
 obtain ⟨cv, hcl, hcap, hu⟩ : ∃ cv : Array Value, caps.length = cv.size ∧ (∀ (i : Nat) x, caps[i]? = some x → RepA w (Free w0.heap.size U ι σ.mem) ι σ.nx x (cv.toList[i]?.getD undef)) ∧ a.eval f' = .func (.func g) #[] cv := by
  generalize a.eval f' = u at hv
  cases hv with
  | c h =>
   cases h with
   | clo hl h => exact ⟨_, hl, h, rfl⟩
 have hall : All2 (RepV w (Free w0.heap.size U ι σ.mem) ι σ.nx) (caps.map .c) cv.toList := by
  refine All2.of_get (by simp [hcl]) fun i x v hi hvi => ?_
  rw [List.getElem?_map] at hi
  obtain ⟨y, hy, rfl⟩ := Option.map_eq_some_iff.1 hi
  have := hcap i y hy
  rw [hvi] at this
  exact .c this
 have hpc := purVs_rep (V := Free w0.heap.size U ι σ.mem) hs hall (fun _ h => h) (.inl hnr) hp
 have hfree_lt : ∀ {b : Nat}, Free w0.heap.size U ι σ.mem b → True := fun _ => trivial
 have hexec : ∀ args w, (callFunc g args).run P w = .ok (.enter g args) w := by
  obtain ⟨fn, hfn, hbody, hname⟩ := hY.1
  have hb : ¬ fn.body = none := by intro e; rw [e] at hbody; cases hbody
  have hname' : ¬ fn.name = "runtime.NumGoroutine" := by intro e; rw [e] at hname; simp at hname
  intro args w
  simp [callFunc, hfn, hname', hb]
 refine wpIn_rangeFunc (F := FR rd) fun fn _ => ?_
 -- the record is laid
 obtain ⟨l, D, dfr, mark, w1, hent, hg1, hl1, hl0, hw1l, hD1, hmark⟩ : ∃ (l D dfr : Nat) (mark : List Deferred) (w1 : World),
   (Instr.enterLoop fn (sh ds a).tmps ps' asg' body' (FR rd).round).run P w = .ok (l, mark) w1 ∧ Below w.heap.size w w1 ∧
   w1.heap[l]? = some (.loop { state := .ready, pending := none, fn, tmps := a.tmps, params := ps', assign := asg', body := body', defers := dfr }) ∧ w.heap.size ≤ l ∧
   w1.heap.size = l + 1 ∧ (rd = none → w.heap.size ≤ D ∧ D ≠ l ∧ w1.heap[D]? = some (.deferred (some []))) ∧ ((rd = none ∧ mark = [{ target := .collected D, args := #[] }]) ∨ ((∃ l0, rd = some l0) ∧ mark = [])) := by
  cases rd with
  | none =>
   refine ⟨w.heap.size + 1, w.heap.size, w.heap.size, _, _, run_enterLoop_outer _ _ _ _ _, ((Below.refl _ w).alloc (Nat.le_refl _) _).alloc (by simp) _, ?_, by omega, by simp, fun _ => ⟨Nat.le_refl _, by omega, ?_⟩, .inl ⟨rfl, rfl⟩⟩
   ·have := World.alloc_heap_new (w.alloc (.deferred (some []))) (.loop { state := .ready, pending := none, fn, tmps := a.tmps, params := ps', assign := asg', body := body', defers := w.heap.size })
    rwa [World.size_alloc] at this
   ·exact (Below.heap_alloc _ _ _ (by simp)).trans (World.alloc_heap_new w _)
  | some l0 =>
   obtain ⟨r0, hr0⟩ := hrd l0 rfl _ _ hs.keep
   exact ⟨w.heap.size, 0, r0.defers, [], _, run_enterLoop_inner hr0 _ _ _ _ _, (Below.refl _ w).alloc (Nat.le_refl _) _, World.alloc_heap_new w _, Nat.le_refl _, by simp, (fun h => by cases h), .inr ⟨⟨l0, rfl⟩, rfl⟩⟩
 generalize hrec : (fun (st : LoopState) (pe : Option Code) => ({ state := st, pending := pe, fn, tmps := a.tmps, params := ps', assign := asg', body := body', defers := dfr } : Loop)) = rec
 have hrec' : ∀ st pe, rec st pe = { state := st, pending := pe, fn, tmps := a.tmps, params := ps', assign := asg', body := body', defers := dfr } := fun st pe => by rw [← hrec]
 rw [← hrec'] at hl1
 have hl1' := (Array.getElem?_eq_some_iff.1 hl1).1
 refine ⟨l, mark, w1, { target := .fn (.func g) cv, args := #[.func (.yield l) #[] #[]] }, w1, g, #[.func (.yield l) #[] #[]] ++ cv, w1, hent, ?_, fun _ _ => trivial, ?_, fun h => by simp [FR, Fence.wide] at h, ?_⟩
 ·have he : (sh ds a).eval f' = .func (.func g) #[] cv := by rw [sh_eval]; exact hu
  simp only [resolve, he]
  simp [go_sem]
 ·simp [invoke, go_sem, hexec]
 -- what a round keeps
 let Stay : World → (Nat → Prop) → Prop := fun W V => (∀ b, b < w.heap.size → Free w0.heap.size U ι σ.mem b → V b ∧ W.heap[b]? = w.heap[b]?) ∧ (rd = none → V D ∧ W.heap[D]? = some (.deferred (some [])))
 have stay_mono : ∀ (W W' : World) (V V' : Nat → Prop), Stay W V → (∀ b, b < W.heap.size → V b → V' b) → (∀ b, b < W.heap.size → V b → W'.heap[b]? = W.heap[b]?) → Stay W' V' := by
  rintro W W' V V' ⟨h2, h3⟩ hV hw
  refine ⟨fun b hb hf => ?_, fun e => ?_⟩
  ·obtain ⟨k1, k2⟩ := h2 b hb hf
   have hlt : b < W.heap.size := by
    have : w.heap[b]? = some w.heap[b] := by simp [hb]
    rw [this] at k2
    exact (Array.getElem?_eq_some_iff.1 k2).1
   exact ⟨hV b hlt k1, (hw b hlt k1).trans k2⟩
  ·obtain ⟨k1, k2⟩ := h3 e
   have hlt := (Array.getElem?_eq_some_iff.1 k2).1
   exact ⟨hV D hlt k1, (hw D hlt k1).trans k2⟩
 let Us : Loop → (Nat → Prop) → World → Gh := fun r S Ws => ⟨U.p, ι, fun W V => Stay W V ∧ V l ∧ W.heap[l]? = some (.loop r) ∧ (∀ b, S b → b < Ws.heap.size ∧ V b ∧ W.heap[b]? = Ws.heap[b]?), fun W W' V V' ⟨h1, h2, h3, h4⟩ hV hw => by
  have hlt := (Array.getElem?_eq_some_iff.1 h3).1
  refine ⟨stay_mono W W' V V' h1 hV hw, hV l hlt h2, (hw l hlt h2).trans h3, fun b hb => ?_⟩
  obtain ⟨q1, q2, q3⟩ := h4 b hb
  have hlt : b < W.heap.size := by
   have : Ws.heap[b]? = some Ws.heap[b] := by simp [q1]
   rw [this] at q3
   exact (Array.getElem?_eq_some_iff.1 q3).1
  exact ⟨q1, hV b hlt q2, (hw b hlt q2).trans q3⟩⟩
 let Ur : Loop → Gh := fun r => Us r (fun _ => False) w
 let Ue : Gh := ⟨U.p, U.ι0, fun W V => Stay W V, fun W W' V V' h1 hV hw => stay_mono W W' V V' h1 hV hw⟩
 have stayU : ∀ W V, Stay W V → U.G W V := fun W V h => U.mono w W _ V hs.keep (fun b hb hf => (h.1 b hb hf).1) (fun b hb hf => (h.1 b hb hf).2)
 have free_new : ∀ {ι' : Pl} {mem : List (Nat × Box)} {W : World} {Ub : Gh} {nx b0 : Nat} {fr : List (Nat × AV)} {a' : Act} {q : Nat}, Sim w0 Ub ⟨fr, mem, nx, b0⟩ ι' a' W → w.heap.size ≤ q → W.heap.size ≤ q → Free w0.heap.size Ub ι' mem q := fun hS h1 h2 =>
  ⟨.inr (by omega), fun nm bx hn e => by have := ((hS.box nm bx hn).block e).2; omega⟩
 have free_lp : ∀ {ι' : Pl} {mem : List (Nat × Box)} {W : World} {Ub : Gh} {nx b0 : Nat} {fr : List (Nat × AV)} {a' : Act} {q : Nat} {o : Obj}, Sim w0 Ub ⟨fr, mem, nx, b0⟩ ι' a' W → w.heap.size ≤ q → W.heap[q]? = some o → isLp o = true → Free w0.heap.size Ub ι' mem q := fun hS h1 h2 h3 =>
  ⟨.inr (by omega), fun nm bx hn e => hS.not_lp hn e ⟨_, h2, h3⟩⟩
 -- the outer activation beside a round's
 have outer : ∀ {r : Loop} {S : Nat → Prop} {Ws : World} {σ2 : St} {ι2 : Pl} {a2 : Act} {W : World}, Sim w0 (Us r S Ws) σ2 ι2 a2 W → σ2.base = bs → Sim w0 (Us r S Ws) ⟨fr0, σ2.mem, σ2.nx, bs⟩ ι2 a W := by
  intro r S Ws σ2 ι2 a2 W h hbs
  refine ⟨fun t => ?_, hs.defers, h.names, h.box, h.apart, h.below, h.keep, by rw [← hbs]; exact h.base⟩
  obtain ⟨h1, h2⟩ := wkF_look hfr t
  rcases h1 with h1 | h1
  ·have hv := hs.val t
   rw [h1] at hv
   have hv2 := hv.cl (V' := Free w0.heap.size U ι σ.mem) (fun _ h => h) h2
   refine hv2.mono (fun b hlt hf => (h.keep.1.1 b hlt hf).1) (fun b hlt hf => (h.keep.1.1 b hlt hf).2) (fun nm hnm => ?_) (by rw [← hbs]; exact h.base.1)
   have := h.base.2 nm (by rw [hbs]; exact hnm)
   exact this
  ·show RepV _ _ _ _ (look fr0 t) _
   rw [h1]; exact .top
 -- the state between two rounds
 let rdy := rec .ready none
 let OkS : (Nat → Prop) → World → Pl → List (Nat × Box) → Prop := fun S W ι' mem => ∀ b, S b → b < W.heap.size ∧ b ≠ l ∧ Free w0.heap.size U ι' mem b
 let J : Option Nat → (Nat → Prop) → World → Prop := fun k S W => match k with
  | some k => ∃ t ι', I k t ∧ Sim w0 (Ur rdy) ⟨fr0, (mk k t).1, (mk k t).2, bs⟩ ι' a W ∧ OkS S W ι' (mk k t).1
  | none => ∃ (e : AExit) (σ2 : St) (ι' : Pl), e ≠ .normal ∧ Q e ⟨fr0, σ2.mem, σ2.nx, σ.base⟩ ∧ Sim w0 (Ur (rec .done (some (exitCode e)))) ⟨fr0, σ2.mem, σ2.nx, bs⟩ ι' a W ∧ OkS S W ι' σ2.mem
 have w1sz : w.heap.size ≤ w1.heap.size := hg1.size
 have grow : ∀ {r : Loop} {σ2 : St} {ι2 : Pl} {a2 : Act} {W W' : World}, Sim w0 (Ur r) σ2 ι2 a2 W → GrowL w1.heap.size W W' → Sim w0 (Ur r) σ2 ι2 a2 W' := by
  intro r σ2 ι2 a2 W W' h hg
  refine h.growL (n := w1.heap.size) (by omega) hg rfl rfl ?_
  obtain ⟨⟨k1, k2⟩, k3, k4, _⟩ := h.keep
  have hltl := (Array.getElem?_eq_some_iff.1 k4).1
  refine ⟨⟨fun b hb hf => ?_, fun e => ?_⟩, k3, (hg.old hl1' hltl).trans k4, fun b hb => hb.elim⟩
  ·obtain ⟨q1, q2⟩ := k1 b hb hf
   exact ⟨q1, (hg.old (by omega) (by omega)).trans q2⟩
  ·obtain ⟨q1, q2⟩ := k2 e
   have h1 := (Array.getElem?_eq_some_iff.1 (hD1 e).2.2).1
   exact ⟨q1, (hg.old h1 (Array.getElem?_eq_some_iff.1 q2).1).trans q2⟩
 -- a turn of the record
 have turn : ∀ {r r' : Loop} {S : Nat → Prop} {Ws : World} {σ2 : St} {ι2 : Pl} {a2 : Act} {W : World}, Sim w0 (Us r S Ws) σ2 ι2 a2 W → (∀ b, S b → b ≠ l) → Sim w0 (Us r' S Ws) σ2 ι2 a2 (W.putObj l (.loop r')) := by
  intro r r' S Ws σ2 ι2 a2 W h hSl
  obtain ⟨⟨k1, k2⟩, k3, k4, k5⟩ := h.keep
  refine h.turn (.loop r') k4 rfl (by omega) rfl rfl ⟨⟨fun b hb hf => ?_, fun e => ?_⟩, k3, World.putObj_heap_same (Array.getElem?_eq_some_iff.1 k4).1, fun b hb => ⟨(k5 b hb).1, (k5 b hb).2.1, (World.putObj_heap_other (hSl b hb)).trans (k5 b hb).2.2⟩⟩
  ·obtain ⟨q1, q2⟩ := k1 b hb hf
   exact ⟨q1, (World.putObj_heap_other (by omega)).trans q2⟩
  ·obtain ⟨q1, q2⟩ := k2 e
   exact ⟨q1, (World.putObj_heap_other (hD1 e).2.1).trans q2⟩
 have final : ∀ {e' : AExit} {r r' : Loop} {mem : List (Nat × Box)} {nx : Nat} {ι2 : Pl} {W : World}, Sim w0 (Ur r) ⟨fr0, mem, nx, bs⟩ ι2 a W → Q e' ⟨fr0, mem, nx, σ.base⟩ →
   Post w0 U rd ds nt Q (toExit e') { sh ds a with defers := mark ++ (sh ds a).defers } (W.putObj l (.loop r')) := by
  intro e' r r' mem nx ι2 W h hq
  have h1 := turn (r' := r') h (fun _ hb => hb.elim)
  have hE : Sim w0 Ue ⟨fr0, mem, nx, σ.base⟩ ι2 a (W.putObj l (.loop r')) :=
   ⟨h1.val, h1.defers, h1.names, h1.box, h1.apart, h1.below, h1.keep.1, ⟨Nat.le_trans hb.1 h1.base.1, fun nm hnm => (h1.base.2 nm (Nat.lt_of_lt_of_le hnm hb.1)).trans (hs.base.2 nm hnm)⟩⟩
  have he : ({ sh ds a with defers := mark ++ (sh ds a).defers } : Act) = sh (mark ++ ds) a := by simp [sh, hs.defers.1]
  rw [he]
  rcases hmark with ⟨hn, hm⟩ | ⟨⟨l0, hl0'⟩, hm⟩
  ·refine ⟨e', _, ι2, Ue, mark ++ ds, a, rfl, hq, hE, hz, rfl, ?_⟩
   rw [hm]
   refine Ext.mark (U' := U) (D := D) .refl hn (by have := (hD1 hn).1; omega) rfl rfl fun W V h => ⟨stayU W V h, (h.2 hn).1, (h.2 hn).2, ?_⟩
   exact U.mono w _ _ V hs.keep (fun b hb hf => (h.1 b hb hf).1) (fun b hb hf => (World.putObj_heap_other (by have := (hD1 hn).1; omega)).trans (h.1 b hb hf).2)
  ·refine ⟨e', _, ι2, U, mark ++ ds, a, rfl, hq, ⟨hE.val, hE.defers, hE.names, hE.box, hE.apart, hE.below, stayU _ _ hE.keep, hE.base⟩, hz, rfl, ?_⟩
   rw [hm]
   exact .refl
 have rdRound : ∀ r S Ws, RdOk (Us r S Ws) (some l) := fun r S Ws l' e W V hG => by
  cases e
  exact ⟨_, hG.2.2.1⟩
 have weak : ∀ {r : Loop} {S : Nat → Prop} {Ws : World} {σ2 : St} {ι2 : Pl} {a2 : Act} {W : World}, Sim w0 (Us r S Ws) σ2 ι2 a2 W → Sim w0 (Ur r) σ2 ι2 a2 W := fun h =>
  ⟨h.val, h.defers, h.names, h.box, h.apart, h.below, ⟨h.keep.1, h.keep.2.1, h.keep.2.2.1, fun b hb => hb.elim⟩, h.base⟩
 have okGrow : ∀ {S : Nat → Prop} {W W' : World} {ι' : Pl} {mem : List (Nat × Box)} {Ub : Gh} {nx b0 : Nat} {fr : List (Nat × AV)} {a' : Act}, Ub.p = U.p → Sim w0 Ub ⟨fr, mem, nx, b0⟩ ι' a' W → w1.heap.size ≤ W.heap.size → W.heap.size ≤ W'.heap.size → OkS S W ι' mem → OkS (fun b => S b ∨ W.heap.size ≤ b ∧ b < W'.heap.size) W' ι' mem := by
  intro S W W' ι' mem Ub nx b0 fr a' hUp hS hw hg h b hb
  rcases hb with hb | ⟨h1, h2⟩
  ·exact ⟨Nat.lt_of_lt_of_le (h b hb).1 hg, (h b hb).2⟩
  ·exact ⟨h2, by omega, .inr (by omega), fun nm bx hn e => by have := ((hS.box nm bx hn).block e).2; omega⟩
 have sz : ∀ {r : Loop} {S : Nat → Prop} {Ws : World} {σ2 : St} {ι2 : Pl} {a2 : Act} {W : World}, Sim w0 (Us r S Ws) σ2 ι2 a2 W → w1.heap.size ≤ W.heap.size := fun h => by
  have := (Array.getElem?_eq_some_iff.1 h.keep.2.2.1).1
  omega
 refine callsFR ((hY.2 l (fun b => Free w0.heap.size U ι σ.mem b ∧ b < w.heap.size) J w1 cv (hs.glob.below (Nat.le_refl _) hg1) ?_ ⟨⟨?_, ?_, ?_⟩, ?_⟩ ?_).mono ?_)
 ·exact hpc.mono fun _ _ h => h.mono (fun b hb hf => ⟨hf, hb⟩) (fun b hb _ => hg1.block b hb) (fun _ _ => rfl) (Nat.le_refl _)
 ·intro k S W h
  cases k with
  | some k =>
   obtain ⟨t, ι', hI, h, hok⟩ := h
   exact ⟨fun b hb => (hok b hb).1, sz h, h.glob⟩
  | none =>
   obtain ⟨e, σ2, ι', hne, hq, h, hok⟩ := h
   exact ⟨fun b hb => (hok b hb).1, sz h, h.glob⟩
 ·intro k S W W' h hg
  cases k with
  | some k =>
   obtain ⟨t, ι', hI, h, hok⟩ := h
   exact ⟨t, ι', hI, grow h hg, okGrow (Ub := Ur rdy) rfl h (sz h) hg.size hok⟩
  | none =>
   obtain ⟨e, σ2, ι', hne, hq, h, hok⟩ := h
   exact ⟨e, σ2, ι', hne, hq, grow h hg, okGrow (Ub := Ur (rec .done (some (exitCode e)))) rfl h (sz h) hg.size hok⟩
 ·intro k S S' W h hsub
  cases k with
  | some k =>
   obtain ⟨t, ι', hI, h, hok⟩ := h
   exact ⟨t, ι', hI, h, fun b hb => hok b (hsub b hb)⟩
  | none =>
   obtain ⟨e, σ2, ι', hne, hq, h, hok⟩ := h
   exact ⟨e, σ2, ι', hne, hq, h, fun b hb => hok b (hsub b hb)⟩
 ·rintro k x S0 W0 W v cells hx ⟨t, ι', hI, hsW0, hok0⟩ hbel hsz hown hmax hrw m
  have hv0 : ∀ b, blockOf v = some b → W0.heap.size ≤ b := fun b hb => by
   rcases hown.2 with ⟨e, _⟩ | ⟨g, cap, cur, e, hg, _⟩
   ·rw [e] at hb; cases hb
   ·rw [e] at hb
    simp [blockOf] at hb
    omega
  obtain ⟨ι2, n1, n2, n3, n4⟩ := hsW0.newBox (pv := v) (bx := .arr e z0 x) hbel hv0 (fun ι' e1 e2 hfree => ⟨cells, hsz, by rw [e2]; exact ownsRow_base hown hsW0.below.size, hmax, hrw.flat (hfl x (List.mem_of_getElem? hx))⟩)
  have hW0 := sz hsW0
  have hSl : ∀ b, ((S0 b ∨ W0.heap.size ≤ b ∧ b < W.heap.size) ∧ blockOf v ≠ some b) → b ≠ l := fun b hb => by
   rcases hb.1 with h | ⟨h, _⟩
   ·exact (hok0 b h).2.1
   ·omega
  have hok : OkS (fun b => (S0 b ∨ W0.heap.size ≤ b ∧ b < W.heap.size) ∧ blockOf v ≠ some b) W ι2 (((mk k t).2, .arr e z0 x) :: (mk k t).1) := by
   rintro b ⟨hb, hne⟩
   have hbW := hbel.size
   rcases hb with hb | ⟨q1, q2⟩
   ·obtain ⟨q1, q2, q3⟩ := hok0 b hb
    exact ⟨by omega, q2, n4 b q1 q3⟩
   ·refine ⟨q2, by omega, .inr (by omega), fun nm bx hn e2 => ?_⟩
    rw [findB_cons] at hn
    by_cases e0 : (mk k t).2 = nm
    ·subst e0
     rw [n2] at e2
     exact hne e2
    ·rw [if_neg e0] at hn
     have h5 := hsW0.names _ _ hn
     rw [n3 _ h5] at e2
     have := ((hsW0.box nm bx hn).block e2).2
     omega
  generalize hS1 : (fun b => (S0 b ∨ W0.heap.size ≤ b ∧ b < W.heap.size) ∧ blockOf v ≠ some b) = S at hok
  have hSl : ∀ b, S b → b ≠ l := fun b hb => hSl b (by rw [← hS1] at hb; exact hb)
  have hin : ∀ c, (S0 c ∨ W0.heap.size ≤ c ∧ c < W.heap.size) → blockOf v ≠ some c → S c := fun c h1 h2 => by rw [← hS1]; exact ⟨h1, h2⟩
  clear hS1
  obtain ⟨⟨k1, k2⟩, k3, k4, _⟩ := n1.keep
  have hul : (#[v] : Array Value).size = ps'.size := by
   have : ps'.size = 1 := by rw [← Array.length_toList]; exact hlen
   rw [this]; rfl
  have hy := run_yield (P := P) (args := #[v]) k4 (by simp only [rdy, hrec']; exact hul)
  refine ⟨fn, _, asg', body', by simp only [rdy, hrec'] at hy; exact hy, roundIn_of_wpIn trivial ?_⟩
  have etm : (ps'.zip #[v]).foldl (fun tmps (x : Nat × Value) => tmps.setIfInBounds x.1 x.2) a.tmps = (ps'.toList.zip [v]).foldl (fun tmps (x : Nat × Value) => tmps.setIfInBounds x.1 x.2) a.tmps := by
   rw [← Array.foldl_toList, Array.toList_zip]
  have hsW : Sim w0 (Us rdy S W) ⟨fr0, ((mk k t).2, .arr e z0 x) :: (mk k t).1, (mk k t).2 + 1, bs⟩ ι2 a W := ⟨n1.val, n1.defers, n1.names, n1.box, n1.apart, n1.below, ⟨n1.keep.1, n1.keep.2.1, n1.keep.2.2.1, fun b hb => ⟨(hok b hb).1, (hok b hb).2.2, rfl⟩⟩, n1.base⟩
  have hus' : All2 (RepV W (Free w0.heap.size (Us rdy S W) ι2 (((mk k t).2, .arr e z0 x) :: (mk k t).1)) ι2 ((mk k t).2 + 1)) [.c (.ref (mk k t).2)] [v] := by
   refine .cons ?_ .nil
   rw [← n2]
   refine .c (.ref (Nat.lt_succ_self _) ?_)
   rw [n2]
   rcases hown.2 with ⟨e, _⟩ | ⟨g, cap, cur, e, _⟩
   ·exact ⟨_, _, _, e⟩
   ·exact ⟨_, _, _, e⟩
  have hsr : Sim w0 (Us rdy S W) ⟨putL ps'.toList [.c (.ref (mk k t).2)] fr0, ((mk k t).2, .arr e z0 x) :: (mk k t).1, (mk k t).2 + 1, bs⟩ ι2 { tmps := (ps'.zip #[v]).foldl (fun tmps (x : Nat × Value) => tmps.setIfInBounds x.1 x.2) a.tmps, defers := [] } W := by
   refine ⟨fun s => ?_, ⟨rfl, hsW.defers.2⟩, hsW.names, hsW.box, hsW.apart, hsW.below, hsW.keep, hsW.base⟩
   rw [etm]
   exact params_rep hus' (by rw [hz]; exact hps') hsW.val s
  have h1 := hround k x t hx hI _ hasg w0 (Us rdy S W) (some l) [] ι2 _ W (rdRound _ _ _) hsr (by rw [etm, params_size]; exact hz)
  rw [sh_nil] at h1
  refine wpIn_mono (wpIn_room h1) ?_
  rintro e a1 W1 ⟨e', σ1, ι1, U', ds', a0, rfl, hq, hs1, hz1, rfl, hx1⟩
  obtain ⟨rfl, rfl⟩ := hx1.inRound
  rw [sh_nil]
  cases e' with
  | exit i => exact hq.elim
  | ret => exact hq.elim
  | normal =>
   have k4' := hs1.keep.2.2.1
   refine ⟨_, run_beginRound k4' (by simp only [rdy, hrec']), ?_⟩
   have hs2 := turn (r' := { rdy with state := .busy }) hs1 hSl
   have h3 := hq _ hbody w0 (Us { rdy with state := .busy } S W) (some l) [] ι1 a0 _ (rdRound _ _ _) hs2 hz1
   rw [sh_nil] at h3
   refine wpIn_mono (wpIn_room h3) ?_
   rintro e a2 W2 ⟨e', σ2, ι2, U', ds', a3, rfl, hq2, hs3, hz3, rfl, hx2⟩
   obtain ⟨rfl, rfl⟩ := hx2.inRound
   have k5 := hs3.keep.2.2.1
   have er : ∀ jump : Option Code, ({ ({ rdy with state := .busy } : Loop) with state := if jump.isNone then .ready else .done, pending := jump } : Loop) = rec (if jump.isNone then .ready else .done) jump := fun jump => by simp only [rdy, hrec']
   have hr := fun jump => run_endRound (P := P) jump k5
   simp only [er] at hr
   have kept : ∀ r' c, S c → (W2.putObj l (.loop r')).heap[c]? = W.heap[c]? := fun r' c hc => (World.putObj_heap_other (hSl c hc)).trans (hs3.keep.2.2.2 c hc).2.2
   have okS : ∀ {ι3 : Pl} {mem : List (Nat × Box)} {σ3 : St} {a3 : Act} {r r' : Loop}, Sim w0 (Us r S W) σ3 ι3 a3 (W2.putObj l (.loop r')) → σ3.mem = mem → OkS S (W2.putObj l (.loop r')) ι3 mem := by
    intro ι3 mem σ3 a3 r r' h e b hb
    subst e
    obtain ⟨q1, q2, q3⟩ := h.keep.2.2.2 b hb
    refine ⟨?_, hSl b hb, q2⟩
    have : W.heap[b]? = some W.heap[b] := by simp [q1]
    rw [this] at q3
    exact (Array.getElem?_eq_some_iff.1 q3).1
   cases e' with
   | normal =>
    obtain ⟨hb2, t', hI', hwk⟩ := hq2
    have h4 := turn (r' := rdy) hs3 hSl
    have h5 : Sim w0 (Us rdy S W) { σ2 with fr := [] } ι2 a3 (W2.putObj l (.loop rdy)) := ⟨fun _ => .top, h4.defers, h4.names, h4.box, h4.apart, h4.below, h4.keep, h4.base⟩
    have h6 := outer (show Sim w0 (Us rdy S W) ⟨[], (mk (k + 1) t').1, (mk (k + 1) t').2, bs⟩ ι2 a3 (W2.putObj l (.loop rdy)) by rw [hwk, ← hb2]; exact h5) rfl
    exact ⟨_, _, hr none, true, rfl, ⟨t', _, hI', weak h6, okS h6 rfl⟩, fun c q1 q2 => kept _ c (hin c q1 q2)⟩
   | exit i =>
    obtain ⟨hbs, hq3⟩ := hq2
    have h6 := outer (turn (r' := rec .done (some (exitCode (.exit i)))) hs3 hSl) hbs
    exact ⟨_, _, hr (some (.exit i)), false, rfl, ⟨.exit i, σ2, ι2, (fun h => by cases h), hq3, weak h6, okS h6 rfl⟩, fun c q1 q2 => kept _ c (hin c q1 q2)⟩
   | ret =>
    obtain ⟨hbs, hq3⟩ := hq2
    have h6 := outer (turn (r' := rec .done (some (exitCode .ret))) hs3 hSl) hbs
    exact ⟨_, _, hr (some .ret), false, rfl, ⟨.ret, σ2, ι2, (fun h => by cases h), hq3, weak h6, okS h6 rfl⟩, fun c q1 q2 => kept _ c (hin c q1 q2)⟩
 ·obtain ⟨t0, hI0, hwk0⟩ := h0
  have hs1 := hs.grow hg1
  have hfr : ∀ q, w.heap.size ≤ q → Free w0.heap.size U ι σ.mem q := fun q hq => ⟨.inr (by omega), fun nm bx hn e => by have := ((hs.box nm bx hn).block e).2; omega⟩
  have h2 : Sim w0 (Us rdy (fun b => Free w0.heap.size U ι σ.mem b ∧ b < w.heap.size) w1) ⟨[], σ.mem, σ.nx, bs⟩ ι a w1 := ⟨fun _ => .top, hs.defers, hs1.names, hs1.box, hs1.apart, hs1.below,
   ⟨⟨fun b hb hf => ⟨hf, hg1.block b hb⟩, fun e => ⟨hfr D (hD1 e).1, (hD1 e).2.2⟩⟩, hfr l hl0, hl1, fun b hb => ⟨by omega, hb.1, rfl⟩⟩, ⟨hb.2, fun _ _ => rfl⟩⟩
  have h3 := outer (show Sim w0 (Us rdy (fun b => Free w0.heap.size U ι σ.mem b ∧ b < w.heap.size) w1) ⟨[], (mk 0 t0).1, (mk 0 t0).2, bs⟩ ι a w1 by rw [hwk0]; exact h2) rfl
  exact ⟨t0, _, hI0, weak h3, fun b hb => ⟨by omega, by omega, (h3.keep.2.2.2 b hb).2.1⟩⟩
 ·rintro e W3 ⟨⟨v, rfl⟩, k, S', hk, h⟩
  cases k with
  | some k =>
   obtain rfl : k = xs.length := by simpa using hk
   obtain ⟨t, ι', hI, hsim, _⟩ := h
   have k := hsim.keep.2.2.1
   have hr := run_endLoop (P := P) k (by simp only [rdy, hrec']; simp)
   exact ⟨_, _, hr, by simp only [rdy, hrec']; exact final (e' := .normal) hsim (hend t hI)⟩
  | none =>
   obtain ⟨e, σ2, ι', hne, hq, hsim, _⟩ := h
   have k := hsim.keep.2.2.1
   have hr := run_endLoop (P := P) k (by simp only [hrec']; simp)
   refine ⟨_, _, hr, ?_⟩
   simp only [hrec']
   cases e with
   | normal => exact absurd rfl hne
   | exit i => exact wpIn_exit (final (e' := .exit i) hsim hq)
   | ret => exact wpIn_ret (final (e' := .ret) hsim hq)
theorem AW_rangeP {fx : AX} {ps : List Nat} {asg body : ACode} {g : FuncId} {caps : List AC} {pcaps : List AV} {e sz : Nat} {xs : List (List (List PC))} {τ : Type}
  (bs : Nat) (fr0 : List (Nat × AV)) (mk : Nat → τ → List (Nat × Box) × Nat) (I : Nat → τ → Prop)
  (hf : fx.ev σ.fr = .c (.clo g caps)) (hp : purVs σ.mem (caps.map .c) = some pcaps) (hnr : (caps.map AV.c).all norefV = true)
  (hY : OYCalls P g pcaps e sz xs) (hfl : ∀ x ∈ xs, flatRows x) (hlen : ps.length = 1) (hb : σ.base ≤ bs ∧ bs ≤ σ.nx) (hfr : wkF [] σ.fr bs fr0)
  (h0 : ∃ t, I 0 t ∧ mk 0 t = (σ.mem, σ.nx))
  (hround : ∀ k x t, xs[k]? = some x → I k t → runW P nt asg ⟨putL ps [.c (.ref (mk k t).2)] fr0, ((mk k t).2, .arr e sz x) :: (mk k t).1, (mk k t).2 + 1, bs⟩ (asgR P nt body (roundE mk I bs fr0 σ.base Q k)))
  (hend : ∀ t, I xs.length t → Q .normal ⟨fr0, (mk xs.length t).1, (mk xs.length t).2, σ.base⟩) : AW P nt (.rangeF fx ps asg body) σ Q :=
 AW_rangeO bs fr0 mk I hf hp hnr hY hfl hlen hb hfr h0 (fun k x t hx hI => (runW_sound (hround k x t hx hI)).mono fun e σ h => by
  cases e with
  | normal => exact runW_sound h
  | exit i => exact h
  | ret => exact h) hend
theorem roundE_normal {τ : Type} {mk : Nat → τ → List (Nat × Box) × Nat} {I : Nat → τ → Prop} {bs : Nat} {fr0 : List (Nat × AV)} {base : Nat} {k : Nat} : roundE mk I bs fr0 base Q k .normal σ = (σ.base = bs ∧ ∃ t, I (k + 1) t ∧ mk (k + 1) t = (σ.mem, σ.nx)) := propext ⟨id, id⟩
theorem roundE_exit {τ : Type} {mk : Nat → τ → List (Nat × Box) × Nat} {I : Nat → τ → Prop} {bs : Nat} {fr0 : List (Nat × AV)} {base : Nat} {k i : Nat} : roundE mk I bs fr0 base Q k (.exit i) σ = (σ.base = bs ∧ Q (.exit i) ⟨fr0, σ.mem, σ.nx, base⟩) := propext ⟨id, id⟩
theorem roundE_ret {τ : Type} {mk : Nat → τ → List (Nat × Box) × Nat} {I : Nat → τ → Prop} {bs : Nat} {fr0 : List (Nat × AV)} {base : Nat} {k : Nat} : roundE mk I bs fr0 base Q k .ret σ = (σ.base = bs ∧ Q .ret ⟨fr0, σ.mem, σ.nx, base⟩) := propext ⟨id, id⟩
attribute [go_sem ↓] roundE_normal roundE_exit roundE_ret
theorem Sim.frE {w0 w : World} {U : Gh} {ι : Pl} {a : Act} {fr' : List (Nat × AV)} (hs : Sim w0 U σ ι a w) (h : wkF [] σ.fr σ.nx fr') : Sim w0 U ⟨fr', σ.mem, σ.nx, σ.base⟩ ι a w := by
 refine ⟨fun t => ?_, hs.defers, hs.names, hs.box, hs.apart, hs.below, hs.keep, hs.base⟩
 obtain ⟨h1, h2⟩ := wkF_look h t
 rcases h1 with h1 | h1
 ·have hv := hs.val t
  rw [h1] at hv
  exact (hv.cl (V' := Free w0.heap.size U ι σ.mem) (fun _ h => h) h2)
 ·show RepV _ _ _ _ (look fr' t) _
  rw [h1]; exact .top
def loopE {τ : Type} (mk : τ → List (Nat × AV) × List (Nat × Box) × Nat) (bs : Nat) (I : τ → Prop) (μ : τ → Nat) (t : τ) (Q : AExit → St → Prop) : AExit → St → Prop
 | .normal, σ => σ.base = bs ∧ ∃ t', I t' ∧ μ t' < μ t ∧ (mk t').2 = (σ.mem, σ.nx) ∧ wkF [] σ.fr σ.nx (mk t').1
 | .exit i, σ => Q (.exit i) σ
 | .ret, σ => Q .ret σ
theorem AW_loopE {τ : Type} {x : ACode} (mk : τ → List (Nat × AV) × List (Nat × Box) × Nat) (I : τ → Prop) (μ : τ → Nat) (h0 : ∃ t, I t ∧ (mk t).2 = (σ.mem, σ.nx) ∧ wkF [] σ.fr σ.nx (mk t).1)
  (h : ∀ t, I t → AW P nt x ⟨(mk t).1, (mk t).2.1, (mk t).2.2, σ.base⟩ (loopE mk σ.base I μ t Q)) : AW P nt (.loop x) σ Q := by
 intro c' hc w0 U rd ds ι a w hrd hs hz
 cases c' <;> simp [compC] at hc
 all_goals (try (split at hc <;> simp at hc))
 rename_i c1
 obtain ⟨t, ht, hm, hw⟩ := h0
 refine wpIn_loop_rounds (μ t + 1) ?_
 have key : ∀ n t U1 ds1 ι a w, Ext w0.heap.size rd U ds U1 ds1 → μ t < n → I t → Sim w0 U1 ⟨(mk t).1, (mk t).2.1, (mk t).2.2, σ.base⟩ ι a w → a.tmps.size = nt → Code.roundsIn (FR rd) 0 P c1 (Post w0 U rd ds nt Q) n (sh ds1 a) w := by
  intro n
  induction n with
  | zero => intro t U1 ds1 ι a w hx hm; omega
  | succ n ih =>
   intro t U1 ds1 ι a w hx hm ht hs hz
   rw [roundsIn_succ]
   refine wpIn_mono (h t ht _ hc w0 U1 rd ds1 ι a w (hrd.ext hx) hs hz) ?_
   rintro e a1 w1 ⟨e', σ', ι', U', ds', a0, rfl, hq, hs', hz', rfl, hx'⟩
   cases e' with
   | normal =>
    obtain ⟨hb, t', ht', hlt, hmm, hwk⟩ := hq
    exact ih t' _ _ _ a0 w1 (hx.trans hx') (by omega) ht' (by rw [hmm, ← hb]; exact hs'.frE hwk) hz'
   | exit i => exact ⟨.exit i, σ', ι', U', ds', a0, rfl, hq, hs', hz', rfl, hx.trans hx'⟩
   | ret => exact ⟨.ret, σ', ι', U', ds', a0, rfl, hq, hs', hz', rfl, hx.trans hx'⟩
 exact key _ t _ _ _ a w .refl (Nat.lt_succ_self _) ht (by rw [hm]; exact hs.frE hw) hz
theorem loopE_normal {τ : Type} {mk : τ → List (Nat × AV) × List (Nat × Box) × Nat} {bs : Nat} {I : τ → Prop} {μ : τ → Nat} {t : τ} : loopE mk bs I μ t Q .normal σ = (σ.base = bs ∧ ∃ t', I t' ∧ μ t' < μ t ∧ (mk t').2 = (σ.mem, σ.nx) ∧ wkF [] σ.fr σ.nx (mk t').1) := propext ⟨id, id⟩
theorem loopE_exit {τ : Type} {mk : τ → List (Nat × AV) × List (Nat × Box) × Nat} {bs : Nat} {I : τ → Prop} {μ : τ → Nat} {t : τ} {i : Nat} : loopE mk bs I μ t Q (.exit i) σ = Q (.exit i) σ := propext ⟨id, id⟩
theorem loopE_ret {τ : Type} {mk : τ → List (Nat × AV) × List (Nat × Box) × Nat} {bs : Nat} {I : τ → Prop} {μ : τ → Nat} {t : τ} : loopE mk bs I μ t Q .ret σ = Q .ret σ := propext ⟨id, id⟩
attribute [go_sem ↓] loopE_normal loopE_exit loopE_ret
end
end Go.Abs
