/- The abstract machine: regions that draw their order. Part 3: the rule. -/
import Derived.Test.YtcbnnjadgkgheaaAbs15e
set_option linter.unusedVariables false
set_option linter.unusedSimpArgs false
namespace Go.Abs
open Go.RowKit

def cnt (S : Nat → Bool) : Nat → Nat
  | 0 => 0
  | n + 1 => cnt S n + if S n = true then 1 else 0
theorem cnt_le (S : Nat → Bool) : ∀ n, cnt S n ≤ n
  | 0 => Nat.le_refl _
  | n + 1 => by have := cnt_le S n; simp only [cnt]; split <;> omega
theorem cnt_all {S : Nat → Bool} : ∀ {n : Nat}, cnt S n = n → ∀ k, k < n → S k = true
  | 0, _, k, hk => by omega
  | n + 1, h, k, hk => by
    have hle := cnt_le S n
    simp only [cnt] at h
    split at h
    · rename_i hn
      by_cases e : k = n
      · rw [e]; exact hn
      · exact cnt_all (n := n) (by omega) k (by omega)
    · omega
theorem cnt_add {S : Nat → Bool} {i : Nat} (hi : S i = false) : ∀ {n : Nat}, i < n → cnt (addS S i) n = cnt S n + 1
  | 0, h => by omega
  | n + 1, h => by
    have same : ∀ {m : Nat}, m ≤ i → cnt (addS S i) m = cnt S m := by
      intro m
      induction m with
      | zero => intro _; rfl
      | succ m ih =>
        intro hm
        simp only [cnt]
        rw [ih (by omega)]
        have : addS S i m = S m := if_neg (by omega)
        rw [this]
    simp only [cnt]
    by_cases e : i = n
    · subst e
      rw [same (Nat.le_refl _), hi, show addS S i i = true from if_pos rfl]
      simp
    · have : addS S i n = S n := if_neg (by omega)
      rw [this, cnt_add hi (by omega)]
      omega

theorem comp_at {P : Program} {dr : Bool} {nt : Nat} {ops : Array Oper} : ∀ {l : List Oper} {gs : List AG}, compGs P dr nt ops l = some gs → l.length = gs.length ∧ ∀ (i : Nat) o, l[i]? = some o → ∃ g, gs[i]? = some g ∧ compG P dr nt ops o = some g
  | [], gs, h => by cases h; exact ⟨rfl, fun i o hi => by simp at hi⟩
  | o :: l, gs, h => by
    unfold compGs at h
    split at h
    · rename_i g gs' h1 h2
      cases h
      obtain ⟨g1, g2⟩ := comp_at h2
      refine ⟨by simp [g1], fun i o' hi => ?_⟩
      cases i with
      | zero => simp at hi; subst hi; exact ⟨g, rfl, h1⟩
      | succ i => exact g2 i o' (by simpa using hi)
    · cases h

theorem compG_parts {P : Program} {dr : Bool} {nt : Nat} {ops : Array Oper} {o : Oper} {g : AG} (h : compG P dr nt ops o = some g) : g.dst = o.dst ∧ (∀ t, o.dst = some t → t < nt) ∧ compOp P dr o.op = some g.op ∧
    ((o.guard = none ∧ g.guard = none) ∨ ∃ j want t, o.guard = some (j, want) ∧ (ops[j]?).bind (·.dst) = some t ∧ g.guard = some (t, want)) := by
  unfold compG at h
  by_cases hdst : fitD nt o.dst = false
  · rw [if_pos hdst] at h; cases h
  · rw [if_neg hdst] at h
    have hd : ∀ t, o.dst = some t → t < nt := by
      intro t ht
      rw [ht] at hdst
      simpa [fitD] using hdst
    split at h
    · rename_i ao hao
      split at h
      · rename_i hg
        cases h
        exact ⟨rfl, hd, hao, .inl ⟨hg, rfl⟩⟩
      · rename_i j want hg
        split at h
        · rename_i t ht
          cases h
          exact ⟨rfl, hd, hao, .inr ⟨j, want, t, hg, ht, rfl⟩⟩
        · cases h
    · cases h

section
variable {P : Program} {a : Act} {w w' w0 : World} {U : Gh} {ι : Pl} {σ : St} {nt : Nat} {dr : Bool}

theorem undef_of_rep {V : Nat → Prop} {N : Nat} {u : Value} (h : RepV w V ι N (.tup []) u) : u = undef := by
  cases h with
  | @tup _ vs hl _ =>
    have : vs = #[] := Array.eq_empty_of_size_eq_zero (by simpa using hl.symm)
    rw [this]
    rfl

/-- One operation of a region, wherever it stands. -/
theorem wpOp_sound {ops : Array Oper} {Q : Exit → Act → World → Prop} {i : Nat} {o : Oper} {g : AG} {v : AV} {σ σ' : St} {next : Act → World → Prop} (ho : ops[i]? = some o) (hg : compG P dr nt ops o = some g) (hst : StepG P g σ v σ') (hs : Sim w0 U σ ι a w) (hz : a.tmps.size = nt)
    (hn : ∀ ι' a' w', Sim w0 U σ' ι' a' w' → a'.tmps.size = nt → next a' w') : wpOp P ops Q i next a w := by
  obtain ⟨h1, h2, h3, h4⟩ := compG_parts hg
  have hd : ∀ t, o.dst = some t → t < a.tmps.size := fun t ht => by rw [hz]; exact h2 t ht
  unfold wpOp
  rw [ho]
  have run : Region.wanted o (yielded ops a.tmps) = true → (∃ τ, (opW P g.op σ fun v' τ' => v' = v ∧ τ' = τ) ∧ σ' = τ.put g.dst v) → (if Region.wanted o (yielded ops a.tmps) = true then o.wp P a w next Q ∨ (o.asks P a w ∧ LetsOut Q) else next (a.put o.dst undef) w) := by
    rintro hw ⟨τ, k1, rfl⟩
    rw [if_pos hw]
    left
    refine op_sound h3 k1 hs ?_
    rintro v' σ2 ι' u w' ⟨rfl, rfl⟩ hs' hr
    refine hn ι' _ w' ?_ (by rw [size_put]; exact hz)
    rw [h1]
    exact hs'.put hd hr
  rcases h4 with ⟨k1, k2⟩ | ⟨j, want, t, k1, k2, k3⟩
  · rcases hst with ⟨_, hx⟩ | ⟨t, want, e, _⟩
    · exact run (by simp [Region.wanted, k1]) hx
    · rw [k2] at e; cases e
  · have hval := hs.val t
    rcases hst with ⟨hg', hx⟩ | ⟨t', want', e, hg', rfl, rfl⟩
    · rcases hg' with e | ⟨t', want', e, hb⟩
      · rw [k3] at e; cases e
      · rw [k3] at e
        cases e
        rw [hb] at hval
        have hb' := get_of_getD (repV_val hval).1 (by intro e; cases e)
        exact run (by simp [Region.wanted, k1, yielded, k2, hb']) hx
    · rw [k3] at e
      cases e
      have hw : ¬ Region.wanted o (yielded ops a.tmps) = true := by
        rcases hg' with hb | hb
        · rw [hb] at hval
          have hu := undef_of_rep hval
          have hy : yielded ops a.tmps j = none := by
            unfold yielded
            simp only [k2, Option.bind_some]
            simp only [Array.getD_eq_getD_getElem?] at hu
            cases e' : a.tmps[t]? with
            | none => rfl
            | some z =>
              rw [e'] at hu
              simp at hu
              subst hu
              rfl
          simp [Region.wanted, k1, hy]
        · rw [hb] at hval
          have hb' := get_of_getD (repV_val hval).1 (by intro e; cases e)
          simp [Region.wanted, k1, yielded, k2, hb']
      show (if Region.wanted o (yielded ops a.tmps) = true then _ else next (a.put o.dst undef) w)
      rw [if_neg hw]
      refine hn ι _ w ?_ (by rw [size_put]; exact hz)
      rw [h1]
      exact hs.put hd repV_undef

theorem StepG.congr {g : AG} {v : AV} {σ σ' σ2 : St} (h : StepG P g σ v σ') (hf : ∀ t ∈ g.looks, look σ2.fr t = look σ.fr t) (hm : g.op.eff = true ∨ g.op.sens = true → σ2.mem = σ.mem ∧ σ2.nx = σ.nx) (hbase : σ2.base = σ.base) :
    ∃ τ, StepG P g σ2 v τ ∧ (∀ t, look τ.fr t = if g.dst = some t then v else look σ2.fr t) ∧ (τ.mem, τ.nx) = (if g.op.eff = true then (σ'.mem, σ'.nx) else (σ2.mem, σ2.nx)) ∧ τ.base = σ2.base := by
  have hf' : ∀ t ∈ g.op.tmps, look σ2.fr t = look σ.fr t := fun t ht => hf t (by simp [AG.looks, ht])
  rcases h with ⟨hg, τ, h1, rfl⟩ | ⟨t, want, hg, hb, rfl, rfl⟩
  · have hg2 : g.guard = none ∨ ∃ t want, g.guard = some (t, want) ∧ look σ2.fr t = .c (.pure (.val (.bool want))) := by
      rcases hg with e | ⟨t, want, e, hb⟩
      · exact .inl e
      · exact .inr ⟨t, want, e, by rw [hf t (by simp [AG.looks, e])]; exact hb⟩
    by_cases he : g.op.eff = true
    · obtain ⟨m1, m2⟩ := hm (.inl he)
      have k1 := (opW_keep h1).1
      have k2 := (opW_keep h1).2.1
      obtain ⟨fr, mem, nx, b⟩ := σ
      obtain ⟨fr2, mem2, nx2, b2⟩ := σ2
      simp only at m1 m2 hf' k1 k2 hbase
      subst hbase
      subst m1
      subst m2
      have h2 := opW_eff (fr2 := fr2) (K2 := fun v' τ' => v' = v ∧ τ' = ⟨fr2, τ.mem, τ.nx, τ.base⟩) he hf' (fun v' m n hk => by obtain ⟨e1, e2⟩ := hk; subst e2; exact ⟨e1, rfl⟩) h1
      refine ⟨_, .inl ⟨hg2, _, h2, rfl⟩, fun t => put_fr, ?_, by rw [put_base]; exact k2⟩
      rw [if_pos he, put_mem.1, put_mem.2, put_mem.1, put_mem.2]
    · have he' : g.op.eff = false := by simpa using he
      have k1 := (opW_keep h1).2.2 he'
      subst k1
      have h2 := opW_ins (s2 := σ2) he' (fun e => (hm (.inr e)).1) hf' (fun v' τ' => v' = v ∧ τ' = τ) (fun v' τ' => v' = v ∧ τ' = σ2) (fun v' hk => ⟨hk.1, rfl⟩) h1
      refine ⟨_, .inl ⟨hg2, _, h2, rfl⟩, fun t => put_fr, ?_, put_base⟩
      rw [if_neg he, put_mem.1, put_mem.2]
  · refine ⟨_, .inr ⟨t, want, hg, ?_, rfl, rfl⟩, fun t => put_fr, ?_, put_base⟩
    · rw [hf t (by simp [AG.looks, hg])]
      exact hb
    · rw [put_mem.1, put_mem.2, put_mem.1, put_mem.2]
      split
      · rename_i he
        rw [(hm (.inl he)).1, (hm (.inl he)).2]
      · rfl

theorem clash_dst {g h : AG} {d : Nat} (hc : clash g h = false) (hd : g.dst = some d) : d ∉ h.looks ∧ h.dst ≠ some d := by
  simp only [clash, hd, Bool.or_eq_false_iff] at hc
  refine ⟨fun hm => ?_, fun e => ?_⟩
  · have := hc.1.1.1.1
    simp [hm] at this
  · have := hc.1.1.1.2
    simp [e] at this
theorem clash_dst2 {g h : AG} {d : Nat} (hc : clash g h = false) (hd : h.dst = some d) : d ∉ g.looks := by
  simp only [clash, hd, Bool.or_eq_false_iff] at hc
  intro hm
  have := hc.1.1.2
  simp [hm] at this
theorem clash_eff {g h : AG} (hc : clash g h = false) : (g.op.eff = true → h.op.eff = false ∧ h.op.sens = false) ∧ (g.op.sens = true → h.op.eff = false) := by
  simp only [clash, Bool.or_eq_false_iff] at hc
  have h1 := hc.1.2
  have h2 := hc.2
  constructor
  · intro e
    rw [e] at h1
    simpa using h1
  · intro e
    rw [e] at h2
    simpa using h2

/-- A region that draws its order, where the order does not matter. -/
theorem draw_sound {id : Nat} {ops : Array Oper} {gs : List AG} {K : St → Prop} {Q : Exit → Act → World → Prop} (hc : compGs P dr nt ops ops.toList = some gs) (hord : orderly ops.toList gs = true) (hmix : P.follows .mixedOrders = true) (h : opsW P gs σ K) (hs : Sim w0 U σ ι a w) (hz : a.tmps.size = nt)
    (hq : ∀ σ' ι' a' w', K σ' → Sim w0 U σ' ι' a' w' → a'.tmps.size = nt → Q .normal a' w') : (Code.region id ops true).wp P Q a w := by
  obtain ⟨v, s, hs0, hch, hK⟩ := opsW_chain h
  obtain ⟨hlen, hat⟩ := comp_at hc
  have hn : ops.size = gs.length := by rw [← hlen, Array.length_toList]
  simp only [orderly, Bool.and_eq_true, List.all_eq_true, List.mem_range] at hord
  obtain ⟨hedge, hpair⟩ := hord
  refine wp_region_any hmix ?_
  have hs' : Sim w0 U σ ι a { w with drawn := w.drawn + 1 } := hs.grow ⟨rfl, rfl, rfl, Nat.le_refl _, fun _ _ => rfl⟩
  -- what holds after some have been done
  let SS (L : Array Bool) : Nat → Bool := fun k => L.getD k false
  let stOf (L : Array Bool) : St := ⟨frOf gs v (s 0).fr (SS L) gs.length, (memOf gs s (SS L) gs.length).1, (memOf gs s (SS L) gs.length).2, (s 0).base⟩
  let Closed (L : Array Bool) : Prop := ∀ (j : Nat) o, ops.toList[j]? = some o → SS L j = true → ∀ e ∈ o.after.toList, Region.binds .any e = true → SS L e.on = true
  have done : ∀ (L : Array Bool) (ι : Pl) (a : Act) (w : World), L.size = gs.length → Region.ready .any ops L = [] → Sim w0 U (stOf L) ι a w → a.tmps.size = nt → Q .normal a w := by
    intro L ι a w hL hr hsim hz
    have all : ∀ k, k < gs.length → SS L k = true := by
      intro k
      induction k using Nat.strongRecOn with
      | _ k ih =>
        intro hk
        cases hS : SS L k with
        | true => rfl
        | false =>
          exfalso
          have hko : k < ops.size := by omega
          have hmem : k ∈ Region.ready .any ops L := by
            unfold Region.ready
            rw [List.mem_filter]
            refine ⟨by simpa using hko, ?_⟩
            have h1 : L.getD k true = false := by
              have : k < L.size := by omega
              simp only [SS, Array.getD_eq_getD_getElem?, Array.getElem?_eq_getElem this, Option.getD_some] at hS ⊢
              exact hS
            rw [h1]
            simp only [Bool.not_false, Bool.true_and, Array.getElem?_eq_getElem hko, Option.map_some, Option.getD_some, Array.all_eq_true]
            intro j hj
            simp only [Bool.or_eq_true, Bool.not_eq_true']
            cases hbi : Region.binds .any ops[k].after[j] with
            | false => exact .inl rfl
            | true =>
              have := edgesOk_at hedge (j := k) (o := ops[k]) (by simp [hko]) ops[k].after[j] (by simp) hbi
              right
              exact ih ops[k].after[j].on (by omega) (by omega)
          rw [hr] at hmem
          cases hmem
    have hfr : ∀ t, look (frOf gs v (s 0).fr (SS L) gs.length) t = look (s gs.length).fr t := fun t =>
      frOf_look hch (Nat.le_refl _) (Nat.le_refl _) fun k hk _ => ⟨fun _ => hk, fun _ => all k hk⟩
    have hmm := memOf_eq hch (S := SS L) (i := gs.length) (Nat.le_refl _) (Nat.le_refl _) fun k hk _ => ⟨fun _ => hk, fun _ => all k hk⟩
    refine hq (s gs.length) ι a w hK ?_ hz
    have := hsim.fr (fr := (s gs.length).fr) fun t => (hfr t).symm
    simp only [stOf, hmm] at this
    rw [← chain_base hch (Nat.le_refl _)] at this
    exact this
  have main : ∀ (fuel : Nat) (L : Array Bool) (ι : Pl) (a : Act) (w : World), L.size = gs.length → cnt (SS L) gs.length + fuel = gs.length → Closed L → Sim w0 U (stOf L) ι a w → a.tmps.size = nt → wpAny P .any ops Q fuel L a w := by
    intro fuel
    induction fuel with
    | zero =>
      intro L ι a w hL hcn hcl hsim hz
      have hr : Region.ready .any ops L = [] := by
        unfold Region.ready
        rw [List.filter_eq_nil_iff]
        intro k hk
        have hk' : k < gs.length := by rw [← hn]; simpa using hk
        have h1 := cnt_all (S := SS L) (n := gs.length) (by omega) k hk'
        have h2 : L.getD k true = true := by
          have : k < L.size := by omega
          simp only [SS, Array.getD_eq_getD_getElem?, Array.getElem?_eq_getElem this, Option.getD_some] at h1 ⊢
          exact h1
        rw [h2]
        simp
      exact ⟨hr, done L ι a w hL hr hsim hz⟩
    | succ fuel ih =>
      intro L ι a w hL hcn hcl hsim hz
      refine ⟨fun hr => done L ι a w hL hr hsim hz, fun i hi => ?_⟩
      unfold Region.ready at hi
      rw [List.mem_filter] at hi
      obtain ⟨hi1, hi2⟩ := hi
      have hio : i < ops.size := by simpa using hi1
      have hig : i < gs.length := by omega
      have ho : ops[i]? = some ops[i] := Array.getElem?_eq_getElem hio
      simp only [Bool.and_eq_true, Bool.not_eq_true', ho, Option.map_some, Option.getD_some, Array.all_eq_true] at hi2
      obtain ⟨hi2, hi3⟩ := hi2
      have hSi : SS L i = false := by
        have : i < L.size := by omega
        simp only [SS, Array.getD_eq_getD_getElem?, Array.getElem?_eq_getElem this, Option.getD_some] at hi2 ⊢
        exact hi2
      have hed : ∀ e ∈ ops[i].after.toList, Region.binds .any e = true → SS L e.on = true := by
        intro e he hb
        obtain ⟨j, hj, rfl⟩ := List.mem_iff_getElem.1 he
        have := hi3 j (by simpa using hj)
        simp only [Bool.or_eq_true, Bool.not_eq_true'] at this
        rcases this with h | h
        · simp at hb
          rw [hb] at h
          cases h
        · show L.getD _ false = true
          simpa [Array.getD_eq_getD_getElem?] using h
      obtain ⟨g, hg, hcg⟩ := hat i ops[i] (by simp [hio])
      -- who must have been done, who cannot have been
      have before : ∀ k h, gs[k]? = some h → k < i → clash h g = true → SS L k = true := by
        intro k h hk hlt hcl'
        have hp := hpair i hig k hlt
        unfold pairOk at hp
        rw [hk, hg] at hp
        cases hm : (masks ops.toList [])[i]? with
        | none => rw [hm] at hp; cases hp
        | some m =>
          rw [hm] at hp
          simp only [hcl', Bool.not_true, Bool.false_or] at hp
          exact mask_closed hcl i m ops[i] k hm (by simp [hio]) hed hp
      have after : ∀ k h, gs[k]? = some h → i < k → clash g h = true → SS L k = false := by
        intro k h hk hlt hcl'
        cases hS : SS L k with
        | false => rfl
        | true =>
          exfalso
          have hkg : k < gs.length := (List.getElem?_eq_some_iff.1 hk).1
          have hp := hpair k hkg i hlt
          unfold pairOk at hp
          rw [hk, hg] at hp
          cases hm : (masks ops.toList [])[k]? with
          | none => rw [hm] at hp; cases hp
          | some m =>
            rw [hm] at hp
            simp only [hcl', Bool.not_true, Bool.false_or] at hp
            have hko : k < ops.size := by omega
            have := mask_closed hcl k m ops[k] i hm (by simp [hko]) (hcl k ops[k] (by simp [hko]) hS) hp
            rw [hSi] at this
            cases this
      have hfr : ∀ t ∈ g.looks, look (stOf L).fr t = look (s i).fr t := by
        intro t ht
        refine frOf_look hch (Nat.le_refl _) (by omega) fun k hk hd => ?_
        have hgk := List.getElem?_eq_getElem hk
        have hd' : gs[k].dst = some t := by simpa [gdst, hgk] using hd
        rcases Nat.lt_trichotomy k i with hlt | e | hgt
        · refine ⟨fun _ => hlt, fun _ => before k _ hgk hlt ?_⟩
          cases hx : clash gs[k] g with
          | true => rfl
          | false => exact absurd ht (clash_dst hx hd').1
        · subst e
          rw [hSi]
          exact ⟨(fun e => by cases e), (fun e => by omega)⟩
        · refine ⟨fun hS => ?_, fun e => by omega⟩
          have : clash g gs[k] = true := by
            cases hx : clash g gs[k] with
            | true => rfl
            | false => exact absurd ht (clash_dst2 hx hd')
          rw [after k _ hgk hgt this] at hS
          cases hS
      have hmm : g.op.eff = true ∨ g.op.sens = true → (stOf L).mem = (s i).mem ∧ (stOf L).nx = (s i).nx := by
        intro he
        have := memOf_eq hch (S := SS L) (i := i) (n := gs.length) (Nat.le_refl _) (by omega) fun k hk hd => by
          have hgk := List.getElem?_eq_getElem hk
          have hd' : gs[k].op.eff = true := by simpa [geff, hgk] using hd
          rcases Nat.lt_trichotomy k i with hlt | e | hgt
          · refine ⟨fun _ => hlt, fun _ => before k _ hgk hlt ?_⟩
            cases hx : clash gs[k] g with
            | true => rfl
            | false =>
              have := (clash_eff hx).1 hd'
              rcases he with he | he
              · rw [he] at this; cases this.1
              · rw [he] at this; cases this.2
          · subst e
            rw [hSi]
            exact ⟨(fun e => by cases e), (fun e => by omega)⟩
          · refine ⟨fun hS => ?_, fun e => by omega⟩
            have : clash g gs[k] = true := by
              cases hx : clash g gs[k] with
              | true => rfl
              | false =>
                rcases he with he | he
                · have := ((clash_eff hx).1 he).1
                  rw [hd'] at this; cases this
                · have := (clash_eff hx).2 he
                  rw [hd'] at this; cases this
            rw [after k _ hgk hgt this] at hS
            cases hS
        simp only [stOf, this]
        exact ⟨trivial, trivial⟩
      obtain ⟨τ, k1, k2, k3, k4⟩ := (hch i g hg).congr (σ2 := stOf L) hfr hmm (chain_base hch (by omega)).symm
      refine wpOp_sound ho hcg k1 hsim hz fun ι' a' w' hsim' hz' => ?_
      -- one more has been done
      have hS' : SS (L.setIfInBounds i true) = addS (SS L) i := by
        funext k
        simp only [SS, addS, Array.getD_eq_getD_getElem?]
        by_cases e : k = i
        · subst e
          simp [show k < L.size by omega]
        · rw [if_neg e, Array.getElem?_setIfInBounds_ne (Ne.symm e)]
      refine ih _ ι' a' w' (by simpa using hL) ?_ ?_ ?_ hz'
      · rw [hS', cnt_add hSi hig]
        omega
      · intro j o hj hSj e he hb
        rw [hS'] at hSj ⊢
        simp only [addS] at hSj ⊢
        split
        · rfl
        · split at hSj
          · rename_i e1
            subst e1
            have : o = ops[j] := by
              rw [Array.getElem?_toList, ho] at hj
              cases hj
              rfl
            subst this
            exact hed e he hb
          · exact hcl j o hj hSj e he hb
      · have hfr' : ∀ t, look (frOf gs v (s 0).fr (addS (SS L) i) gs.length) t = look τ.fr t := by
          intro t
          rw [frOf_add hSi hig fun hd k hlt hdk => ?_, k2 t]
          · have e : gdst gs i = g.dst := by simp [gdst, hg]
            rw [e]
          · have hd' : g.dst = some t := by simpa [gdst, hg] using hd
            have hkg : k < gs.length := by
              unfold gdst at hdk
              cases hh : gs[k]? with
              | none => rw [hh] at hdk; cases hdk
              | some x => exact (List.getElem?_eq_some_iff.1 hh).1
            have hgk := List.getElem?_eq_getElem hkg
            refine after k _ hgk hlt ?_
            cases hx : clash g gs[k] with
            | true => rfl
            | false => exact absurd (by simpa [gdst, hgk] using hdk) (clash_dst hx hd').2
        have hm' : memOf gs s (addS (SS L) i) gs.length = (τ.mem, τ.nx) := by
          rw [memOf_add hSi hig fun hd k hlt hdk => ?_, k3]
          · have e : geff gs i = g.op.eff := by simp [geff, hg]
            rw [e]
          · have hd' : g.op.eff = true := by simpa [geff, hg] using hd
            have hkg : k < gs.length := by
              unfold geff at hdk
              cases hh : gs[k]? with
              | none => rw [hh] at hdk; cases hdk
              | some x => exact (List.getElem?_eq_some_iff.1 hh).1
            have hgk := List.getElem?_eq_getElem hkg
            refine after k _ hgk hlt ?_
            cases hx : clash g gs[k] with
            | true => rfl
            | false =>
              have h5 := ((clash_eff hx).1 hd').1
              have h6 : gs[k].op.eff = true := by simpa [geff, hgk] using hdk
              rw [h6] at h5
              cases h5
        have := hsim'.fr (fr := frOf gs v (s 0).fr (addS (SS L) i) gs.length) hfr'
        rw [k4] at this
        simp only [stOf, hS', hm'] at this ⊢
        exact this
  refine main ops.size _ ι a _ (by simp [hn]) ?_ ?_ ?_ hz
  · have h0 : ∀ n, cnt (SS (Array.replicate ops.size false)) n = 0 := by
      intro n
      induction n with
      | zero => rfl
      | succ n ih =>
        simp only [cnt, ih]
        rw [if_neg]
        simp only [SS, Array.getD_eq_getD_getElem?, Array.getElem?_replicate]
        split <;> simp
    rw [h0, hn]
    omega
  · intro j o hj hSj
    exfalso
    simp only [SS, Array.getD_eq_getD_getElem?, Array.getElem?_replicate] at hSj
    split at hSj <;> simp at hSj
  · have none : ∀ k, SS (Array.replicate ops.size false) k = false := by
      intro k
      simp only [SS, Array.getD_eq_getD_getElem?, Array.getElem?_replicate]
      split <;> simp
    have hfr : ∀ t, look (frOf gs v (s 0).fr (SS (Array.replicate ops.size false)) gs.length) t = look σ.fr t := by
      intro t
      rw [← hs0]
      exact frOf_look hch (i := 0) (Nat.le_refl _) (by omega) fun k hk _ => by rw [none k]; exact ⟨(fun e => by cases e), (fun e => by omega)⟩
    have hmm := memOf_eq hch (S := SS (Array.replicate ops.size false)) (i := 0) (n := gs.length) (Nat.le_refl _) (by omega) fun k hk _ => by rw [none k]; exact ⟨(fun e => by cases e), (fun e => by omega)⟩
    have := hs'.fr (fr := frOf gs v (s 0).fr (SS (Array.replicate ops.size false)) gs.length) hfr
    simp only [stOf, hmm, hs0]
    rw [hs0] at this
    exact this
end
end Go.Abs
