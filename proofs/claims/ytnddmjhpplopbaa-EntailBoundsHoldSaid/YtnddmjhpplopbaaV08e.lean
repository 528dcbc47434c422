/- The example of layer 8; the law EntailImplies as a contract of the abstract machine. -/
import Derived.Test.YtnddmjhpplopbaaV08d
import Derived.Test.YtnddmjhpplopbaaIn7
set_option linter.unusedVariables false
set_option linter.unusedSimpArgs false
set_option maxRecDepth 20000
namespace Go.Proofs.Ytnddmjhpplopbaa
open Go.Abs Go.RowKit

theorem law08_alive_abs : PCalls Try.prog n_law08_alive [] (Go.Abs.B true) := by
 refine PCalls.of is_law08_alive (by simp) fun hb => runW_sound ?_
 have h1 : ∀ d ∈ [alA (-5)], con64 d := fun d hd => by rw [List.mem_singleton.1 hd]; exact al_64 (by simp [in64])
 have p1 := entail_Implies_abs (l := [alA (-5)]) (c := alA (-3)) (fuel := 1048576) h1 (al_64 (by simp [in64])) (by simp) (by simp [tot]) (by simp [in64])
 have p2 := entail_Implies_abs (l := [alA (-5)]) (c := alA (-6)) (fuel := 1048576) h1 (al_64 (by simp [in64])) (by simp) (by simp [tot]) (by simp [in64])
 have p3 := entail_CheckCertificate_abs (l := [alA (-5)]) (c := alA (-3)) (b := [1, 1]) h1 (al_64 (by simp [in64])) (by simp) (by simp [tot]) (by simp [in64])
 rw [al_yes] at p1
 rw [al_no] at p2
 rw [al_check] at p3
 clear h1
 simp only [c_law08_alive]
 repeat' first | simp (disch := omega) only [go_sem, ↓reduceIte, Nat.reduceEqDiff, reduceCtorEq, Int.reduceEq] | ((with_reducible first | refine condD ?_ ?_ | refine condX ?_ ?_ | refine condW_intro ?_ ?_) <;> intro h <;> first | (exfalso; omega) | simp (disch := omega) only [go_sem, ↓reduceIte, Nat.reduceEqDiff, reduceCtorEq, Int.reduceEq, *] | skip) | (refine callW_of p1 rfl (.inr rfl) ?_) | (refine callW_of p2 rfl (.inr rfl) ?_) | (refine callW_of p3 rfl (.inl rfl) ?_)
 all_goals rfl
theorem smL_tot {l : List Con} {n : Int} (h : smL l n) : tot l ≤ 20 * l.length := by
 have h2 := h.2
 clear h
 induction l with
 | nil => simp [tot]
 | cons c l ih =>
  have h1 := (h2 c List.mem_cons_self).1
  have := ih fun d hd => h2 d (List.mem_cons_of_mem _ hd)
  simp only [tot, List.length_cons]
  omega
set_option maxHeartbeats 2000000 in
theorem EntailImplies_abs (ps0 ps1 ps2 : List PC) (h0 : OkPs [.slice [.int .i64, .slice [.str, .int .i64], .bool]] ps0) (h1 : OkPs [.int .i64, .slice [.str, .int .i64], .bool] ps1) (h2 : OkPs [.int .i64] ps2) :
  PCalls Try.prog 4 [argV false ps0, argV true ps1, argV false ps2] (Go.Abs.B true) := by
 obtain ⟨l, rfl, hl, _⟩ := okConsL h0
 obtain ⟨c, rfl, hc⟩ := okCon h1
 obtain ⟨_, rfl, k2⟩ := okOne h2
 obtain ⟨fu, rfl, hf⟩ := okInt k2
 clear h0 h1 h2 k2
 show PCalls _ n_law08_EntailImplies [aCons l, aCon c, I fu] _
 refine PCalls.of is_law08_EntailImplies (by simp) fun _ => runW_sound ?_
 have pf := law08_few_abs l 6 fu
 have pc := ref08_Small_abs [c] 1
 have pa := law08_alive_abs
 simp only [c_law08_EntailImplies]
 by_cases g1 : fewQ l 6 fu
 ·rw [decide_eq_true g1] at pf
  by_cases g2 : smL [c] 1
  ·rw [decide_eq_true g2] at pc
   have ht := smL_tot g1.1
   have hn := g1.1.1
   have hcl := (g2.2 c (by simp)).1
   have p1 := entail_Implies_abs (fuel := fu) hl hc (by omega) (by omega) hf
   have p2 := law08_prove_abs (fuel := fu) hl hc (by omega) (by omega) hf
   have p3 := base_Int64s_abs (implS l c fu).1 (implS l c fu).1
   rw [decide_eq_true rfl] at p3
   clear g1 g2 ht hn hcl hl hc
   generalize implS l c fu = R at *
   obtain ⟨b, ok, e⟩ := R
   obtain ⟨⟨K, m⟩, q⟩ := c
   try simp only at p1 p2 p3
   cases ok
   all_goals
    repeat' first | simp (disch := omega) only [go_sem, ↓reduceIte, Nat.reduceEqDiff, reduceCtorEq, Int.reduceEq] | ((with_reducible first | refine condD ?_ ?_ | refine condX ?_ ?_ | refine condW_intro ?_ ?_) <;> intro h <;> first | (exfalso; omega) | simp (disch := omega) only [go_sem, ↓reduceIte, Nat.reduceEqDiff, reduceCtorEq, Int.reduceEq, *] | skip) | (refine callW_of pf rfl (.inl rfl) ?_) | (refine callW_of pc rfl (.inl rfl) ?_) | (refine callW_of pa rfl (.inl rfl) ?_) | (refine callW_of p1 rfl (.inr rfl) ?_) | (refine callW_of p2 rfl (.inr rfl) ?_) | (refine callW_of p3 rfl (.inl rfl) ?_)
    all_goals first | rfl | simp
  ·rw [decide_eq_false g2] at pc
   clear g1 g2 hl hc
   obtain ⟨⟨K, m⟩, q⟩ := c
   repeat' first | simp (disch := omega) only [go_sem, ↓reduceIte, Nat.reduceEqDiff, reduceCtorEq, Int.reduceEq] | ((with_reducible first | refine condD ?_ ?_ | refine condX ?_ ?_ | refine condW_intro ?_ ?_) <;> intro h <;> first | (exfalso; omega) | simp (disch := omega) only [go_sem, ↓reduceIte, Nat.reduceEqDiff, reduceCtorEq, Int.reduceEq, *] | skip) | (refine callW_of pf rfl (.inl rfl) ?_) | (refine callW_of pc rfl (.inl rfl) ?_) | (refine callW_of pa rfl (.inl rfl) ?_)
   all_goals rfl
 ·rw [decide_eq_false g1] at pf
  clear g1 hl hc pc
  obtain ⟨⟨K, m⟩, q⟩ := c
  repeat' first | simp (disch := omega) only [go_sem, ↓reduceIte, Nat.reduceEqDiff, reduceCtorEq, Int.reduceEq] | ((with_reducible first | refine condD ?_ ?_ | refine condX ?_ ?_ | refine condW_intro ?_ ?_) <;> intro h <;> first | (exfalso; omega) | simp (disch := omega) only [go_sem, ↓reduceIte, Nat.reduceEqDiff, reduceCtorEq, Int.reduceEq, *] | skip) | (refine callW_of pf rfl (.inl rfl) ?_) | (refine callW_of pa rfl (.inl rfl) ?_)
  all_goals rfl
end Go.Proofs.Ytnddmjhpplopbaa
