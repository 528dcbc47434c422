/- The abstract machine: the rules of a walk. -/
import Derived.Test.YtcbnnjadgkgheaaAbs15f
set_option linter.unusedVariables false
set_option linter.unusedSimpArgs false
namespace Go.Abs
open Go.RowKit

section
variable {P : Program} {a : Act} {w w' w0 : World} {U : Gh} {ι : Pl} {σ : St} {nt : Nat} {dr : Bool}

theorem ops_sound {ops : Array Oper} {Q : Exit → Act → World → Prop} {K : St → Prop} : ∀ {l : List Oper} {gs : List AG} {σ : St} {ι : Pl} {a : Act} {w : World}, compGs P dr nt ops l = some gs → opsW P gs σ K → Sim w0 U σ ι a w → a.tmps.size = nt →
    (∀ σ' ι' a' w', K σ' → Sim w0 U σ' ι' a' w' → a'.tmps.size = nt → Q .normal a' w') → wpList P ops Q l a w
  | [], gs, σ, ι, a, w, hc, h, hs, hsz, hq => by
    cases hc
    exact hq σ ι a w h hs hsz
  | o :: l, gs, σ, ι, a, w, hc, h, hs, hsz, hq => by
    unfold compGs at hc
    split at hc
    · rename_i g gs' h1 h2
      cases hc
      unfold compG at h1
      by_cases hdst : fitD nt o.dst = false
      · rw [if_pos hdst] at h1; cases h1
      · rw [if_neg hdst] at h1
        have hd : ∀ t, o.dst = some t → t < a.tmps.size := by
          intro t ht
          rw [ht] at hdst
          have h5 : t < nt := by simpa [fitD] using hdst
          rw [hsz]
          exact h5
        split at h1
        · rename_i ao hao
          -- the operation itself
          have run : ∀ {K' : AV → St → Prop}, opW P ao σ K' → (∀ v σ', K' v σ' → opsW P gs' (σ'.put o.dst v) K) → o.wp P a w (wpList P ops Q l) Q := by
            intro K' hop hk
            refine op_sound hao hop hs ?_
            intro v σ' ι' u w' hv hs' hr
            exact ops_sound h2 (hk v σ' hv) (hs'.put hd hr) (by rw [size_put]; exact hsz) hq
          -- the operation left out
          have skip : opsW P gs' (σ.put o.dst (.tup [])) K → wpList P ops Q l (a.put o.dst undef) w := fun hk =>
            ops_sound h2 hk (hs.put hd repV_undef) (by rw [size_put]; exact hsz) hq
          unfold wpList
          split at h1
          · rename_i hgd
            cases h1
            simp only [opsW] at h
            rw [if_pos (by simp [Region.wanted, hgd])]
            exact .inl (run h fun _ _ h => h)
          · rename_i j want hgd
            split at h1
            · rename_i t ht
              cases h1
              simp only [opsW] at h
              have hval := hs.val t
              split at h
              · rename_i b e
                rw [e] at hval
                have hb := get_of_getD (repV_val hval).1 (by intro e; cases e)
                have hy : yielded ops a.tmps j = some b := by simp [yielded, ht, hb]
                by_cases hbw : b = want
                · rw [if_pos (by simp [Region.wanted, hgd, hy, hbw])]
                  exact .inl (run (h.1 (by simp [hbw])) fun _ _ h => h)
                · rw [if_neg (by simp [Region.wanted, hgd, hy, hbw])]
                  exact skip (h.2 (by simp [hbw]))
              · rename_i e
                rw [e] at hval
                have hu : a.tmps.getD t undef = undef := by
                  generalize a.tmps.getD t undef = z at hval
                  cases hval with
                  | @tup _ vs hl _ =>
                    have : vs = #[] := Array.eq_empty_of_size_eq_zero (by simpa using hl.symm)
                    rw [this]
                    rfl
                have hy : yielded ops a.tmps j = none := by
                  unfold yielded
                  simp only [ht, Option.bind_some]
                  simp only [Array.getD_eq_getD_getElem?] at hu
                  cases e' : a.tmps[t]? with
                  | none => rfl
                  | some z =>
                    rw [e'] at hu
                    simp at hu
                    subst hu
                    rfl
                rw [if_neg (by simp [Region.wanted, hgd, hy])]
                exact skip h
              · exact h.elim
            · cases h1
        · cases h1
    · cases hc
end

inductive AExit where
  | normal
  | exit (id : Nat)
  | ret

def toExit : AExit → Exit
  | .normal => .normal
  | .exit id => .exit id
  | .ret => .ret

/-- What the walk leads to, in the model's words. -/
def Post (w0 : World) (U : Gh) (nt : Nat) (Q : AExit → St → Prop) : Exit → Act → World → Prop := fun e a w => ∃ e' σ ι, e = toExit e' ∧ Q e' σ ∧ Sim w0 U σ ι a w ∧ a.tmps.size = nt

/-- The walk: from σ the code c leads to Q. -/
def AW (P : Program) (nt : Nat) (c : ACode) (σ : St) (Q : AExit → St → Prop) : Prop :=
  ∀ (c' : Code), compC P nt c' = some c → ∀ w0 U ι a w, Sim w0 U σ ι a w → a.tmps.size = nt → c'.wp P (Post w0 U nt Q) a w

def thenW (P : Program) (nt : Nat) (b : ACode) (Q : AExit → St → Prop) : AExit → St → Prop
  | .normal, σ => AW P nt b σ Q
  | .exit i, σ => Q (.exit i) σ
  | .ret, σ => Q .ret σ
def blockW (id : Nat) (Q : AExit → St → Prop) : AExit → St → Prop
  | .normal, σ => Q .normal σ
  | .exit i, σ => if i = id then Q .normal σ else Q (.exit i) σ
  | .ret, σ => Q .ret σ

section
variable {P : Program} {nt : Nat} {σ : St} {Q Q' : AExit → St → Prop}

theorem AW.mono {c : ACode} (h : AW P nt c σ Q) (hq : ∀ e σ, Q e σ → Q' e σ) : AW P nt c σ Q' :=
  fun c' hc w0 U ι a w hs hz => wp_mono (h c' hc w0 U ι a w hs hz) fun e a w ⟨e', σ', ι', h1, h2, h3, h4⟩ => ⟨e', σ', ι', h1, hq _ _ h2, h3, h4⟩

theorem AW_skip (h : Q .normal σ) : AW P nt .skip σ Q := by
  intro c' hc w0 U ι a w hs hz
  cases c' <;> simp [compC] at hc
  · exact wp_skip ⟨.normal, σ, ι, rfl, h, hs, hz⟩
  all_goals (try (split at hc <;> simp at hc))
theorem AW_ret (h : Q .ret σ) : AW P nt .ret σ Q := by
  intro c' hc w0 U ι a w hs hz
  cases c' <;> simp [compC] at hc
  all_goals (try (split at hc <;> simp at hc))
  exact wp_ret ⟨.ret, σ, ι, rfl, h, hs, hz⟩
theorem AW_exit {id : Nat} (h : Q (.exit id) σ) : AW P nt (.exit id) σ Q := by
  intro c' hc w0 U ι a w hs hz
  cases c' <;> simp [compC] at hc
  all_goals (try (split at hc <;> simp at hc))
  subst hc
  exact wp_exit ⟨.exit _, σ, ι, rfl, h, hs, hz⟩
theorem AW_seq {x y : ACode} (h : AW P nt x σ (thenW P nt y Q)) : AW P nt (.seq x y) σ Q := by
  intro c' hc w0 U ι a w hs hz
  cases c' <;> simp [compC] at hc
  all_goals (try (split at hc <;> simp at hc))
  rename_i b1 b2 c1 c2 h1 h2
  obtain ⟨rfl, rfl⟩ := hc
  refine wp_seq (wp_mono (h _ h1 w0 U ι a w hs hz) ?_)
  rintro e a1 w1 ⟨e', σ', ι', rfl, hq, hs', hsz⟩
  cases e' with
  | normal => exact hq _ h2 w0 U ι' a1 w1 hs' hsz
  | exit id => exact ⟨.exit id, σ', ι', rfl, hq, hs', hsz⟩
  | ret => exact ⟨.ret, σ', ι', rfl, hq, hs', hsz⟩
theorem AW_block {x : ACode} {id : Nat} (h : AW P nt x σ (blockW id Q)) : AW P nt (.block id x) σ Q := by
  intro c' hc w0 U ι a w hs hz
  cases c' <;> simp [compC] at hc
  all_goals (try (split at hc <;> simp at hc))
  rename_i i1 c1
  obtain ⟨rfl, h1⟩ : i1 = id ∧ compC P nt c1 = some x := by simp_all
  refine wp_block (wp_mono (h _ h1 w0 U ι a w hs hz) ?_)
  rintro e a1 w1 ⟨e', σ', ι', rfl, hq, hs', hsz⟩
  cases e' with
  | normal => exact ⟨.normal, σ', ι', rfl, hq, hs', hsz⟩
  | exit i =>
    simp only [blockW] at hq
    by_cases hi : i = i1
    · rw [if_pos hi] at hq
      simp only [toExit, Exit.inBlock, if_pos hi]
      exact ⟨.normal, σ', ι', rfl, hq, hs', hsz⟩
    · rw [if_neg hi] at hq
      simp only [toExit, Exit.inBlock, if_neg hi]
      exact ⟨.exit i, σ', ι', rfl, hq, hs', hsz⟩
  | ret => exact ⟨.ret, σ', ι', rfl, hq, hs', hsz⟩

theorem AW_cond {c : AX} {x y : ACode} {t : Bool} (hc : c.ev σ.fr = .c (.pure (.val (.bool t)))) (h1 : t = true → AW P nt x σ Q) (h2 : t = false → AW P nt y σ Q) : AW P nt (.cond c x y) σ Q := by
  intro c' hc' w0 U ι a w hs hz
  cases c' <;> simp [compC] at hc'
  all_goals (try (split at hc' <;> simp at hc'))
  rename_i o b1 b2 _ _ _ x1 x2 x3 g1 g2 g3
  obtain ⟨rfl, rfl, rfl⟩ := hc'
  have r1 := compX_rep g1 hs
  rw [hc] at r1
  have ho := (repV_val r1).1
  cases t with
  | true => exact wp_cond_true ho (h1 rfl _ g2 w0 U ι a w hs hz)
  | false => exact wp_cond_false ho (h2 rfl _ g3 w0 U ι a w hs hz)

theorem AW_region {gs : List AG} (h : opsW P gs σ (Q .normal)) : AW P nt (.region gs false) σ Q := by
  intro c' hc w0 U ι a w hs hz
  cases c' <;> simp [compC] at hc
  all_goals (try (split at hc <;> simp at hc))
  rename_i id ops dr
  obtain ⟨g1, h1, hg, hdr⟩ := hc
  subst hg
  cases dr with
  | false => exact wp_region_list (ops_sound h1 h hs hz fun σ' ι' a' w' hq hs' hz' => ⟨.normal, σ', ι', rfl, hq, hs', hz'⟩)
  | true =>
    have hd := hdr rfl
    exact draw_sound h1 hd.1 hd.2 h hs hz fun σ' ι' a' w' hq hs' hz' => ⟨.normal, σ', ι', rfl, hq, hs', hz'⟩
end
end Go.Abs
