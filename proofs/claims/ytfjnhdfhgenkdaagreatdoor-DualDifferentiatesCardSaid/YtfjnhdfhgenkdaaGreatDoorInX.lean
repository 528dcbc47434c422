/- Programs as inputs. -/
import Derived.Test.YtfjnhdfhgenkdaaGreatDoorInE
import Derived.Test.YtfjnhdfhgenkdaaGreatDoorP17
import Derived.Test.YtfjnhdfhgenkdaaGreatDoorV14d
set_option linter.unusedVariables false
set_option linter.unusedSimpArgs false
namespace Go.Proofs.YtfjnhdfhgenkdaaGreatDoor
open Go.Abs Go.RowKit

abbrev sI : TS := .int .i64
abbrev sMo : TS := .slice [.str, sI]
abbrev sLi : TS := .slice [sI, sMo]
abbrev lIx : List TS := [sI, sMo, .str, sLi]
abbrev lE : List TS := [sI, .str, sI, sI, sI, sI, sI, sI, sI, sI, sMo, .slice lIx]
abbrev sAx : TS := .slice [.str, sI, sMo]
abbrev lPar : List TS := [.str, sI, sI, sI, sI, sI, sLi]
abbrev lDef0 : List TS := [.str, sI, sI, sI, sI, sI, sAx, sAx, sI]
abbrev lDef : List TE := [.t .str, .t sI, .t sI, .t sI, .t sI, .t sI, .t sAx, .t sAx, .t sI, .t sI, .t .str, .t sI, .t sI, .t sI, .t sI, .t sI, .t sI, .t sI, .t sI, .t sMo, .t (.slice lIx), .ex lE]
abbrev lPrg : List TE := [.t (.slice [.str]), .t (.slice [sI, sMo, .bool]), .t (.slice lPar), .sl lDef, .t (.slice [.str])]
theorem ixMonos {p : PC} (h : OkP sMo p) : ∃ l : List Mono, p = pMonos l := by
 obtain ⟨l, h1, _, _⟩ := okRows (fun m : Mono => mP m) (fun _ => True) (fun r hr => by
  obtain ⟨p1, r1, rfl, h1, q1⟩ := okCons hr
  obtain ⟨p2, rfl, h2⟩ := okOne q1
  obtain ⟨s, rfl, _⟩ := okStr h1
  obtain ⟨n, rfl, _⟩ := okInt h2
  exact ⟨(s, n), rfl, trivial⟩) h
 exact ⟨l, h1⟩
theorem ixLins {p : PC} (h : OkP sLi p) : ∃ l : List Lin, p = pSl linP l := by
 obtain ⟨l, h1, _, _⟩ := okRows (fun m : Lin => linP m) (fun _ => True) (fun r hr => by
  obtain ⟨p1, r1, rfl, h1, q1⟩ := okCons hr
  obtain ⟨p2, rfl, h2⟩ := okOne q1
  obtain ⟨n, rfl, _⟩ := okInt h1
  obtain ⟨l, rfl⟩ := ixMonos h2
  exact ⟨(n, l), rfl, trivial⟩) h
 exact ⟨l, h1⟩
theorem ixIxs {p : PC} (h : OkP (.slice lIx) p) : ∃ l : List Ix, p = pSl ixP l := by
 obtain ⟨l, h1, _, _⟩ := okRows (fun m : Ix => ixP m) (fun _ => True) (fun r hr => by
  obtain ⟨p1, r1, rfl, h1, q1⟩ := okCons hr
  obtain ⟨p2, r2, rfl, h2, q2⟩ := okCons q1
  obtain ⟨p3, r3, rfl, h3, q3⟩ := okCons q2
  obtain ⟨p4, rfl, h4⟩ := okOne q3
  obtain ⟨n, rfl, _⟩ := okInt h1
  obtain ⟨l, rfl⟩ := ixMonos h2
  obtain ⟨s, rfl, _⟩ := okStr h3
  obtain ⟨f, rfl⟩ := ixLins h4
  exact ⟨((n, l), s, f), rfl, trivial⟩) h
 exact ⟨l, h1⟩
theorem ixAxs {p : PC} (h : OkP sAx p) : ∃ l : List Axis, p = pSl axP l := by
 obtain ⟨l, h1, _, _⟩ := okRows (fun m : Axis => axP m) (fun _ => True) (fun r hr => by
  obtain ⟨p1, r1, rfl, h1, q1⟩ := okCons hr
  obtain ⟨p2, r2, rfl, h2, q2⟩ := okCons q1
  obtain ⟨p3, rfl, h3⟩ := okOne q2
  obtain ⟨s, rfl, _⟩ := okStr h1
  obtain ⟨n, rfl, _⟩ := okInt h2
  obtain ⟨l, rfl⟩ := ixMonos h3
  exact ⟨(s, n, l), rfl, trivial⟩) h
 exact ⟨l, h1⟩
theorem ixCons {p : PC} (h : OkP (.slice [sI, sMo, .bool]) p) : ∃ l : List Con, p = pSl cP l := by
 obtain ⟨l, h1, _, _⟩ := okRows (fun m : Con => cP m) (fun _ => True) (fun r hr => by
  obtain ⟨p1, r1, rfl, h1, q1⟩ := okCons hr
  obtain ⟨p2, r2, rfl, h2, q2⟩ := okCons q1
  obtain ⟨p3, rfl, h3⟩ := okOne q2
  obtain ⟨n, rfl, _⟩ := okInt h1
  obtain ⟨l, rfl⟩ := ixMonos h2
  obtain ⟨b, rfl⟩ := okBool h3
  exact ⟨((n, l), b), rfl, trivial⟩) h
 exact ⟨l, h1⟩
theorem ixPars {p : PC} (h : OkP (.slice lPar) p) : ∃ l : List Param, p = pSl parP l := by
 obtain ⟨l, h1, _, _⟩ := okRows (fun m : Param => parP m) (fun _ => True) (fun r hr => by
  obtain ⟨p1, r1, rfl, h1, q1⟩ := okCons hr
  obtain ⟨p2, r2, rfl, h2, q2⟩ := okCons q1
  obtain ⟨p3, r3, rfl, h3, q3⟩ := okCons q2
  obtain ⟨p4, r4, rfl, h4, q4⟩ := okCons q3
  obtain ⟨p5, r5, rfl, h5, q5⟩ := okCons q4
  obtain ⟨p6, r6, rfl, h6, q6⟩ := okCons q5
  obtain ⟨p7, rfl, h7⟩ := okOne q6
  obtain ⟨s, rfl, _⟩ := okStr h1
  obtain ⟨n2, rfl, _⟩ := okInt h2
  obtain ⟨n3, rfl, _⟩ := okInt h3
  obtain ⟨n4, rfl, _⟩ := okInt h4
  obtain ⟨n5, rfl, _⟩ := okInt h5
  obtain ⟨n6, rfl, _⟩ := okInt h6
  obtain ⟨l, rfl⟩ := ixLins h7
  exact ⟨(s, (n2, n3, n4, n5, n6), l), rfl, trivial⟩) h
 exact ⟨l, h1⟩
/-- The cells of an expression ahead of its operands. -/
def ex12 (e : Ex) : List PC := [pI e.op, pS e.name, pI e.val.1, pI e.val.2, pI e.ty.1, pI e.ty.2.1, pI e.ty.2.2.1, pI e.ty.2.2.2.1, pI e.ty.2.2.2.2, pI e.lin.1, pMonos e.lin.2, pSl ixP e.idx]
theorem okEx12 {ps : List PC} (h : OkPs lE ps) : ∃ f : List Ex → Ex, (∀ l, ps = ex12 (f l) ∧ (f l).args = l) ∧ ∀ l, frIn (f l).val := by
 obtain ⟨p1, r1, rfl, h1, q1⟩ := okCons h
 obtain ⟨p2, r2, rfl, h2, q2⟩ := okCons q1
 obtain ⟨p3, r3, rfl, h3, q3⟩ := okCons q2
 obtain ⟨p4, r4, rfl, h4, q4⟩ := okCons q3
 obtain ⟨p5, r5, rfl, h5, q5⟩ := okCons q4
 obtain ⟨p6, r6, rfl, h6, q6⟩ := okCons q5
 obtain ⟨p7, r7, rfl, h7, q7⟩ := okCons q6
 obtain ⟨p8, r8, rfl, h8, q8⟩ := okCons q7
 obtain ⟨p9, r9, rfl, h9, q9⟩ := okCons q8
 obtain ⟨p10, r10, rfl, h10, q10⟩ := okCons q9
 obtain ⟨p11, r11, rfl, h11, q11⟩ := okCons q10
 obtain ⟨p12, rfl, h12⟩ := okOne q11
 obtain ⟨n1, rfl, _⟩ := okInt h1
 obtain ⟨s, rfl, _⟩ := okStr h2
 obtain ⟨n3, rfl, i3⟩ := okInt h3
 obtain ⟨n4, rfl, i4⟩ := okInt h4
 obtain ⟨n5, rfl, _⟩ := okInt h5
 obtain ⟨n6, rfl, _⟩ := okInt h6
 obtain ⟨n7, rfl, _⟩ := okInt h7
 obtain ⟨n8, rfl, _⟩ := okInt h8
 obtain ⟨n9, rfl, _⟩ := okInt h9
 obtain ⟨n10, rfl, _⟩ := okInt h10
 obtain ⟨m, rfl⟩ := ixMonos h11
 obtain ⟨x, rfl⟩ := ixIxs h12
 exact ⟨fun l => .mk n1 s (n3, n4) (n5, n6, n7, n8, n9) (n10, m) x l, fun l => ⟨rfl, rfl⟩, fun l => ⟨i3, i4⟩⟩
theorem ex_row (e : Ex) : e.row = ex12 e ++ [.slice (e.args.map Ex.row)] := by rw [Ex.row_eq]; rfl
/-- All numbers in an expression are in the machine's range. -/
def inE (e : Ex) : Prop := ∀ a ∈ e.pre, frIn a.val
theorem inE_mk {e : Ex} (h : frIn e.val) (ha : ∀ a ∈ e.args, inE a) : inE e := by
 intro b hb
 rw [Ex.pre_eq] at hb
 rcases List.mem_cons.1 hb with rfl | hb
 ·exact h
 ·have key : ∀ l : List Ex, (∀ a ∈ l, inE a) → ∀ b ∈ Ex.pres l, frIn b.val := by
   intro l
   induction l with
   | nil => intro _ b hb; simp [Ex.pres] at hb
   | cons x r ih =>
    intro h b hb
    rw [Ex.pres] at hb
    rcases List.mem_append.1 hb with hb | hb
    ·exact h x List.mem_cons_self b hb
    ·exact ih (fun a ha => h a (List.mem_cons_of_mem _ ha)) b hb
  exact key _ ha b hb
theorem okExs {p : PC} (h : OkX lE p) : ∃ l : List Ex, p = .slice (l.map Ex.row) ∧ ∀ a ∈ l, inE a := by
 induction h with
 | @mk rows hm h0 h1 h2 ih =>
  have key : ∀ rs : List (List PC), (∀ r ∈ rs, r ∈ rows) → ∃ l : List Ex, rs = l.map Ex.row ∧ ∀ a ∈ l, inE a := by
   intro rs
   induction rs with
   | nil => intro _; exact ⟨[], rfl, by simp⟩
   | cons r rs ihr =>
    intro hin
    have hr := hin r List.mem_cons_self
    obtain ⟨l, hl, hq⟩ := ihr fun x hx => hin x (List.mem_cons_of_mem _ hx)
    have hlen := h0 r hr
    obtain ⟨q, hq0⟩ : ∃ q, r[12]? = some q := ⟨_, List.getElem?_eq_getElem (by rw [hlen]; decide)⟩
    obtain ⟨args, rfl, ha⟩ := ih r hr q hq0
    obtain ⟨f, hf, hv⟩ := okEx12 (ps := r.take 12) ⟨by rw [List.length_take, hlen]; rfl, fun i s p hs hp => h1 r hr i s p hs (by
     rw [List.getElem?_take] at hp
     split at hp
     ·exact hp
     ·cases hp)⟩
    have hrow : r = (f args).row := by
     rw [ex_row, ← (hf args).1, (hf args).2]
     have : r = r.take 12 ++ r.drop 12 := (List.take_append_drop 12 r).symm
     rw [this]
     congr 1
     ·rw [← this]
     ·have hd : r.drop 12 = [r[12]'(by rw [hlen]; decide)] := by
       rw [List.drop_eq_getElem_cons (by rw [hlen]; decide), List.drop_eq_nil_of_le (by rw [hlen]; decide)]
      rw [hd]
      rw [List.getElem?_eq_getElem (by rw [hlen]; decide)] at hq0
      injection hq0 with hq0
      rw [hq0]
    refine ⟨f args :: l, by rw [List.map_cons, ← hl, ← hrow], fun a ham => ?_⟩
    rcases List.mem_cons.1 ham with rfl | ham
    ·exact inE_mk (hv _) (by rw [(hf args).2]; exact ha)
    ·exact hq a ham
  obtain ⟨l, hl, hq⟩ := key rows fun r hr => hr
  exact ⟨l, by rw [hl], hq⟩
theorem oeCons {s : TE} {l : List TE} {ps : List PC} (h : OkEs (s :: l) ps) : ∃ p r, ps = p :: r ∧ OkE s p ∧ OkEs l r := by
 obtain ⟨h1, h2⟩ := h
 match ps with
 | p :: r => exact ⟨p, r, rfl, h2 0 s p rfl rfl, by simpa using h1, fun i s p hi hp => h2 (i + 1) s p (by simpa using hi) (by simpa using hp)⟩
 | [] => simp at h1
theorem oeNil {ps : List PC} (h : OkEs [] ps) : ps = [] := List.eq_nil_of_length_eq_zero h.1
theorem oeT {s : TS} {p : PC} (h : OkE (.t s) p) : OkP s p := by cases h; assumption
theorem oeX {l : List TS} {p : PC} (h : OkE (.ex l) p) : OkX l p := by cases h; assumption
theorem okDefs {p : PC} (h : OkE (.sl lDef) p) : ∃ l : List Dfn, p = pSl defP l ∧ ∀ d ∈ l, inE d.body := by
 cases h with
 | @sl _ rows hm hl h =>
  have key : ∀ rs : List (List PC), (∀ r ∈ rs, r ∈ rows) → ∃ l : List Dfn, rs = l.map defP ∧ ∀ d ∈ l, inE d.body := by
   intro rs
   induction rs with
   | nil => intro _; exact ⟨[], rfl, by simp⟩
   | cons r rs ihr =>
    intro hin
    have hr := hin r List.mem_cons_self
    obtain ⟨l, hl2, hq⟩ := ihr fun x hx => hin x (List.mem_cons_of_mem _ hx)
    have hlen : r.length = 22 := hl r hr
    have hE : OkEs lDef r := ⟨hl r hr, h r hr⟩
    obtain ⟨p1, r1, rfl, h1, q1⟩ := oeCons hE
    obtain ⟨p2, r2, rfl, h2, q2⟩ := oeCons q1
    obtain ⟨p3, r3, rfl, h3, q3⟩ := oeCons q2
    obtain ⟨p4, r4, rfl, h4, q4⟩ := oeCons q3
    obtain ⟨p5, r5, rfl, h5, q5⟩ := oeCons q4
    obtain ⟨p6, r6, rfl, h6, q6⟩ := oeCons q5
    obtain ⟨p7, r7, rfl, h7, q7⟩ := oeCons q6
    obtain ⟨p8, r8, rfl, h8, q8⟩ := oeCons q7
    obtain ⟨p9, r9, rfl, h9, q9⟩ := oeCons q8
    obtain ⟨p10, r10, rfl, h10, q10⟩ := oeCons q9
    obtain ⟨p11, r11, rfl, h11, q11⟩ := oeCons q10
    obtain ⟨p12, r12, rfl, h12, q12⟩ := oeCons q11
    obtain ⟨p13, r13, rfl, h13, q13⟩ := oeCons q12
    obtain ⟨p14, r14, rfl, h14, q14⟩ := oeCons q13
    obtain ⟨p15, r15, rfl, h15, q15⟩ := oeCons q14
    obtain ⟨p16, r16, rfl, h16, q16⟩ := oeCons q15
    obtain ⟨p17, r17, rfl, h17, q17⟩ := oeCons q16
    obtain ⟨p18, r18, rfl, h18, q18⟩ := oeCons q17
    obtain ⟨p19, r19, rfl, h19, q19⟩ := oeCons q18
    obtain ⟨p20, r20, rfl, h20, q20⟩ := oeCons q19
    obtain ⟨p21, r21, rfl, h21, q21⟩ := oeCons q20
    obtain ⟨p22, r22, rfl, h22, q22⟩ := oeCons q21
    obtain rfl := oeNil q22
    obtain ⟨s1, rfl, _⟩ := okStr (oeT h1)
    obtain ⟨n2, rfl, _⟩ := okInt (oeT h2)
    obtain ⟨n3, rfl, _⟩ := okInt (oeT h3)
    obtain ⟨n4, rfl, _⟩ := okInt (oeT h4)
    obtain ⟨n5, rfl, _⟩ := okInt (oeT h5)
    obtain ⟨n6, rfl, _⟩ := okInt (oeT h6)
    obtain ⟨a7, rfl⟩ := ixAxs (oeT h7)
    obtain ⟨a8, rfl⟩ := ixAxs (oeT h8)
    obtain ⟨n9, rfl, _⟩ := okInt (oeT h9)
    obtain ⟨n10, rfl, _⟩ := okInt (oeT h10)
    obtain ⟨s11, rfl, _⟩ := okStr (oeT h11)
    obtain ⟨n12, rfl, i12⟩ := okInt (oeT h12)
    obtain ⟨n13, rfl, i13⟩ := okInt (oeT h13)
    obtain ⟨n14, rfl, _⟩ := okInt (oeT h14)
    obtain ⟨n15, rfl, _⟩ := okInt (oeT h15)
    obtain ⟨n16, rfl, _⟩ := okInt (oeT h16)
    obtain ⟨n17, rfl, _⟩ := okInt (oeT h17)
    obtain ⟨n18, rfl, _⟩ := okInt (oeT h18)
    obtain ⟨n19, rfl, _⟩ := okInt (oeT h19)
    obtain ⟨m20, rfl⟩ := ixMonos (oeT h20)
    obtain ⟨x21, rfl⟩ := ixIxs (oeT h21)
    obtain ⟨ars, rfl, ha⟩ := okExs (oeX h22)
    refine ⟨⟨s1, (n2, n3, n4, n5, n6), a7, a8, n9, .mk n10 s11 (n12, n13) (n14, n15, n16, n17, n18) (n19, m20) x21 ars⟩ :: l, by rw [List.map_cons, ← hl2]; rfl, fun d hd => ?_⟩
    rcases List.mem_cons.1 hd with rfl | hd
    ·exact inE_mk ⟨i12, i13⟩ ha
    ·exact hq d hd
  obtain ⟨l, hl2, hq⟩ := key rows fun r hr => hr
  exact ⟨l, by rw [hl2], hq⟩
theorem okPrg {ps : List PC} (h : OkEs lPrg ps) : ∃ p : Prg, ps = [pStrs p.sizes, pSl cP p.wher, pSl parP p.params, pSl defP p.defs, pStrs p.outs] ∧ prg64 p := by
 obtain ⟨p1, r1, rfl, h1, q1⟩ := oeCons h
 obtain ⟨p2, r2, rfl, h2, q2⟩ := oeCons q1
 obtain ⟨p3, r3, rfl, h3, q3⟩ := oeCons q2
 obtain ⟨p4, r4, rfl, h4, q4⟩ := oeCons q3
 obtain ⟨p5, r5, rfl, h5, q5⟩ := oeCons q4
 obtain rfl := oeNil q5
 obtain ⟨a, rfl, _⟩ := okStrs (oeT h1)
 obtain ⟨b, rfl⟩ := ixCons (oeT h2)
 obtain ⟨c, rfl⟩ := ixPars (oeT h3)
 obtain ⟨d, rfl, hd⟩ := okDefs h4
 obtain ⟨e, rfl, _⟩ := okStrs (oeT h5)
 exact ⟨⟨a, b, c, d, e⟩, rfl, fun x hx => hd x hx⟩
end Go.Proofs.YtfjnhdfhgenkdaaGreatDoor
