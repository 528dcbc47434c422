import Derived.Test.YtigdjhnndaokjaaGreatDoorW25b
set_option linter.unusedVariables false
set_option linter.unusedSimpArgs false
set_option maxHeartbeats 4000000
set_option maxRecDepth 1000000
open Go.Proofs.Tryz renaming prog→Pa0
namespace Go.Proofs.YtigdjhnndaokjaaGreatDoor
open Go.Abs Go.RowKit
abbrev aaO (t:Ty) (v:Du) (e:Int):AV:= .agg [.pure (pI t.1),.pure (pI t.2.1),.pure (pI t.2.2.1),.pure (pI t.2.2.2.1),.pure (pI t.2.2.2.2),.pure (pI v.1.1),.pure (pI v.1.2),.pure (pI v.2.1),.pure (pI v.2.2),.pure (pI e)]
abbrev stA (M A:List Nm):AV:= .agg [.pure (dp d7 M),.pure (dp d7 A)]
def M0 (P:Program) (f:FuncId) (args:List AV) (x:Nb×Int):Prop:= ∃t v,ac P f args (aaO t v x.2)∧(x.2=0→x.1=(t,v))
variable {P:Program}{f:FuncId}{args:List AV}
theorem M0.of {t:Ty} {v:Du} {e:Int} (h:ac P f args (aaO t v e)):M0 P f args ((t,v),e):=⟨t,v,h,λ_=>rfl⟩
theorem M0.any (t:Ty) (v:Du) {x:Nb} {e:Int} (h:ac P f args (aaO t v e)) (he: ¬e=0):M0 P f args (x,e):=⟨t,v,h,λh0=>absurd h0 he⟩
def opR (p:bu) (vars:List ByteArray) (M A:List Nm) (env:List aG) (a:Ex):Prop:= ∃t v er,ac Pa0 iL ([stA M A,bF mP env]++ [fp a]) (aaO t v er)∧(jr M A env a).2=er∧(er=0→(jr M A env a).1=(t,v)∧t=tyE p vars a∧jZ t v)
theorem opR.of {p:bu} {vars:List ByteArray} {M A:List Nm} {env:List aG} {a:Ex} (hM:wR p M A) (hw:W6 p vars a) (hc: ¬aM a.op) (h:M0 Pa0 iL ([stA M A,bF mP env]++ [fp a]) (jr M A env a)):opR p vars M A env a:=by
 obtain⟨t,v,h1,h2⟩:=h
 refine⟨t,v,_,h1,rfl,λh0=> ?_⟩
 have hv:=h2 h0
 obtain⟨o1,o2⟩:=JI hM a hw hc h0
 rw[hv]at o1 o2
 simp only at o1 o2
 rw[←o1]at o2
 exact⟨hv,o1,o2⟩
theorem XZ {s t:Ty} {v:Fr} (hs:cj s) (ht:cj t) (h1:s.1=1) (h2:t.1=1):wD s t v=v∧s=t:=by
 refine⟨?_, ?_⟩
 ·unfold wD fh
  rw[if_neg zR5,if_neg zR5,if_neg zR5]
 ·obtain⟨s1,s2,s3,s4,s5⟩:=s
  obtain⟨t1,t2,t3,t4,t5⟩:=t
  unfold cj at hs ht
  simp only at h1 h2 hs ht
  simp only[Prod.mk.injEq]
  omega
section
variable {p : bu} {vars : List ByteArray} {M A : List Nm} {env : List aG}
theorem qbw9:bw= (s_ [o_ 3 (.box (.t 0)),o_ 5 (.box (.t 2)),o_ 6 (.box (.k (.agg [i_ 0,i_ 0,i_ 0,i_ 0,i_ 0,i_ 0,i_ 0,i_ 0,i_ 0,i_ 0])))] (.seq (s_ [o_ 32 (a_ 0 5),o_ 33 (l_ 32)] (.block 0 (s_ [o_ 35 (Q_ .eql 33 1),m_ 34 35] (y_ 34 (.seq (.draw [[P_ 36 (a_ 4 5),P_ 37 (L_ 5 36),P_ 38 (a_ 2 5),P_ 39 (L_ 2 38),P_ 40 (.call false false (f_ 26) []),P_ 41 (.build [i_ 0,i_ 0,i_ 0,i_ 0] [(0, (2, (.t 39))), (2, (2, (.t 40)))]),P_ 42 (.build [i_ 0,i_ 0,i_ 0,i_ 0,i_ 0,i_ 0,i_ 0,i_ 0,i_ 0,i_ 0] [(0, (5, (.t 37))), (5, (4, (.t 41)))]),U_ (S_ 10 6 42)]]) .ret) (s_ [o_ 44 (Q_ .eql 33 2),m_ 43 44] (y_ 43 (s_ [o_ 46 (a_ 0 3),o_ 47 (l_ 46),m_ 48 1,o_ 49 (L_ 13 5),o_ 50 (C_ 190 [.t 47, .t 48, .t 49]),m_ 45 50,o_ 51 (e_ 45 0),o_ 52 (e_ 45 1),o_ 53 (e_ 45 2),o_ 7 (.box (.k (.agg [i_ 0,i_ 0]))),o_ 8 (.box (.k (.agg [i_ 0,i_ 0,i_ 0,i_ 0,i_ 0]))),u_ (S_ 2 7 51),u_ (S_ 5 8 52),m_ 9 53] (.seq (.draw [[P_ 54 (L_ 5 8),P_ 55 (L_ 2 7),P_ 56 (.call false false (f_ 26) []),P_ 57 (.build [i_ 0,i_ 0,i_ 0,i_ 0] [(0, (2, (.t 55))), (2, (2, (.t 56)))]),M_ 58 9,P_ 59 (.build [i_ 0,i_ 0,i_ 0,i_ 0,i_ 0,i_ 0,i_ 0,i_ 0,i_ 0,i_ 0] [(0, (5, (.t 54))), (5, (4, (.t 57))), (9, (1, (.t 58)))]),U_ (S_ 10 6 59)]]) .ret)) (s_ [o_ 61 (Q_ .eql 33 3),m_ 60 61] (y_ 60 (s_ [o_ 63 (a_ 0 3),o_ 64 (l_ 63),m_ 65 1,o_ 66 (L_ 13 5),o_ 67 (C_ 190 [.t 64, .t 65, .t 66]),m_ 62 67,o_ 68 (e_ 62 0),o_ 69 (e_ 62 1),o_ 70 (e_ 62 2),o_ 10 (.box (.k (.agg [i_ 0,i_ 0]))),o_ 11 (.box (.k (.agg [i_ 0,i_ 0,i_ 0,i_ 0,i_ 0]))),u_ (S_ 2 10 68),u_ (S_ 5 11 69),m_ 12 70] (.seq (s_ [m_ 71 12,o_ 72 (Q_ .neq 71 0)] (y_ 72 (s_ [m_ 73 12,o_ 74 (.build [i_ 0,i_ 0,i_ 0,i_ 0,i_ 0,i_ 0,i_ 0,i_ 0,i_ 0,i_ 0] [(9, (1, (.t 73)))]),u_ (S_ 10 6 74)] .ret) .skip)) (.seq (.draw [[P_ 75 (L_ 5 11),P_ 76 (L_ 2 10),P_ 77 (.call false false (f_ 26) []),P_ 78 (.build [i_ 0,i_ 0,i_ 0,i_ 0] [(0, (2, (.t 76))), (2, (2, (.t 77)))]),P_ 79 (.build [i_ 0,i_ 0,i_ 0,i_ 0,i_ 0,i_ 0,i_ 0,i_ 0,i_ 0,i_ 0] [(0, (5, (.t 75))), (5, (4, (.t 78)))]), (true,o_ 13 (.box (.k (.agg [i_ 0,i_ 0,i_ 0,i_ 0,i_ 0,i_ 0,i_ 0,i_ 0,i_ 0,i_ 0])))),U_ (S_ 10 13 79)]]) (.seq (s_ [o_ 81 (a_ 1 3),o_ 82 (l_ 81),o_ 83 (a_ 1 5),o_ 84 (l_ 83),o_ 85 (C_ 21 [.t 82, .t 84]),m_ 80 85,o_ 86 (e_ 80 0),o_ 87 (e_ 80 1),o_ 14 (.box (.k (.agg [i_ 0,i_ 0,i_ 0,i_ 0,i_ 0, .nils, .nils]))),u_ (S_ 7 14 86),m_ 15 87] (s_ [m_ 88 15,m_ 89 88, (g_ 90 89 true (a_ 0 11)), (g_ 91 89 true (l_ 90)), (g_ 92 89 true (Q_ .eql 91 1)),o_ 93 (.pick (.t 89) (.t 92) (b_ false))] (y_ 93 (s_ [o_ 95 (a_ 0 3),o_ 96 (l_ 95),o_ 97 (a_ 1 5),o_ 98 (l_ 97),o_ 99 (C_ 21 [.t 96, .t 98]),m_ 94 99,o_ 100 (e_ 94 0),o_ 101 (e_ 94 1),o_ 16 (.box (.k (.agg [i_ 0,i_ 0,i_ 0,i_ 0,i_ 0, .nils, .nils]))),u_ (S_ 7 16 100),m_ 17 101] (s_ [o_ 103 (a_ 0 3),o_ 104 (l_ 103),m_ 105 1,o_ 106 (L_ 7 16),o_ 107 (a_ 11 5),o_ 108 (l_ 107),o_ 109 (C_ 191 [.t 104, .t 105, .t 106, .t 108]),m_ 102 109,o_ 110 (e_ 102 0),o_ 111 (e_ 102 1),m_ 18 110,m_ 19 111] (r_ [o_ 112 (a_ 6 14),o_ 113 (l_ 112),m_ 114 18,o_ 115 (x_ 2 113 114),o_ 116 (L_ 2 115),o_ 117 (a_ 5 13),o_ 118 (a_ 2 117),u_ (S_ 2 118 116)]))) .skip))) (s_ [o_ 119 (L_ 10 13),u_ (S_ 10 6 119)] .ret))))) (s_ [o_ 121 (Q_ .eql 33 11),m_ 120 121] (y_ 120 (.seq (.draw [[P_ 123 (L_ 2 3),M_ 124 1,P_ 125 (a_ 12 5),P_ 126 (l_ 125),P_ 127 (.idxA 13 (.t 126) (k_ 0)),P_ 128 (L_ 13 127),P_ 129 (.call false false (f_ 192) [.t 123, .t 124, .t 128]),M_ 122 129,P_ 130 (e_ 122 0),P_ 131 (e_ 122 1),M_ 20 130,M_ 21 131]]) (.seq (s_ [m_ 132 21,o_ 133 (Q_ .neq 132 0)] (y_ 133 (s_ [m_ 134 21,o_ 135 (.build [i_ 0,i_ 0,i_ 0,i_ 0,i_ 0,i_ 0,i_ 0,i_ 0,i_ 0,i_ 0] [(9, (1, (.t 134)))]),u_ (S_ 10 6 135)] .ret) .skip)) (.seq (s_ [m_ 136 20] (y_ 136 (.seq (.draw [[P_ 137 (L_ 2 3),M_ 138 1,P_ 139 (a_ 12 5),P_ 140 (l_ 139),P_ 141 (.idxA 13 (.t 140) (k_ 1)),P_ 142 (L_ 13 141),P_ 143 (.call false false (f_ 130) [.t 137, .t 138, .t 142]),U_ (S_ 10 6 143)]]) .ret) .skip)) (.seq (.draw [[P_ 144 (L_ 2 3),M_ 145 1,P_ 146 (a_ 12 5),P_ 147 (l_ 146),P_ 148 (.idxA 13 (.t 147) (k_ 2)),P_ 149 (L_ 13 148),P_ 150 (.call false false (f_ 130) [.t 144, .t 145, .t 149]),U_ (S_ 10 6 150)]]) .ret)))) (s_ [o_ 152 (Q_ .eql 33 12),m_ 151 152] (y_ 151 (.seq (.draw [[P_ 153 (L_ 2 3),M_ 154 1,P_ 155 (a_ 12 5),P_ 156 (l_ 155),P_ 157 (.idxA 13 (.t 156) (k_ 0)),P_ 158 (L_ 13 157),P_ 159 (.call false false (f_ 130) [.t 153, .t 154, .t 158]), (true,o_ 22 (.box (.k (.agg [i_ 0,i_ 0,i_ 0,i_ 0,i_ 0,i_ 0,i_ 0,i_ 0,i_ 0,i_ 0])))),U_ (S_ 10 22 159)]]) (.seq (s_ [o_ 160 (a_ 9 22),o_ 161 (l_ 160),o_ 162 (Q_ .neq 161 0)] (y_ 162 (s_ [o_ 163 (L_ 10 22),u_ (S_ 10 6 163)] .ret) .skip)) (s_ [o_ 165 (a_ 0 22),o_ 166 (L_ 5 165),o_ 167 (a_ 4 5),o_ 168 (L_ 5 167),o_ 169 (a_ 5 22),o_ 170 (a_ 0 169),o_ 171 (L_ 2 170),o_ 172 (C_ 193 [.t 166, .t 168, .t 171]),m_ 164 172,o_ 173 (e_ 164 0),o_ 174 (e_ 164 1),o_ 23 (.box (.k (.agg [i_ 0,i_ 0]))),u_ (S_ 2 23 173),m_ 24 174] (.seq (s_ [m_ 175 24,o_ 176 (Q_ .neq 175 0)] (y_ 176 (s_ [m_ 177 24,o_ 178 (.build [i_ 0,i_ 0,i_ 0,i_ 0,i_ 0,i_ 0,i_ 0,i_ 0,i_ 0,i_ 0] [(9, (1, (.t 177)))]),u_ (S_ 10 6 178)] .ret) .skip)) (s_ [o_ 179 (C_ 26 []),o_ 25 (.box (.k (.agg [i_ 0,i_ 0]))),u_ (S_ 2 25 179)] (.seq (s_ [o_ 180 (a_ 0 22),o_ 181 (a_ 0 180),o_ 182 (l_ 181),o_ 183 (Q_ .eql 182 1),m_ 184 183, (g_ 185 184 true (a_ 4 5)), (g_ 186 184 true (a_ 0 185)), (g_ 187 184 true (l_ 186)), (g_ 188 184 true (Q_ .eql 187 1)),o_ 189 (.pick (.t 184) (.t 188) (b_ false))] (y_ 189 (r_ [o_ 190 (a_ 5 22),o_ 191 (a_ 2 190),o_ 192 (L_ 2 191),u_ (S_ 2 25 192)]) .skip)) (s_ [o_ 193 (a_ 4 5),o_ 194 (L_ 5 193),o_ 195 (L_ 2 23),o_ 196 (L_ 2 25),o_ 197 (.build [i_ 0,i_ 0,i_ 0,i_ 0] [(0, (2, (.t 195))), (2, (2, (.t 196)))]),o_ 198 (.build [i_ 0,i_ 0,i_ 0,i_ 0,i_ 0,i_ 0,i_ 0,i_ 0,i_ 0,i_ 0] [(0, (5, (.t 194))), (5, (4, (.t 197)))]),u_ (S_ 10 6 198)] .ret))))))) .skip)))))))))))) (.seq (.draw [[P_ 199 (L_ 2 3),M_ 200 1,P_ 201 (a_ 12 5),P_ 202 (l_ 201),P_ 203 (.idxA 13 (.t 202) (k_ 0)),P_ 204 (L_ 13 203),P_ 205 (.call false false (f_ 130) [.t 199, .t 200, .t 204]), (true,o_ 26 (.box (.k (.agg [i_ 0,i_ 0,i_ 0,i_ 0,i_ 0,i_ 0,i_ 0,i_ 0,i_ 0,i_ 0])))),U_ (S_ 10 26 205)]]) (.seq (s_ [o_ 206 (a_ 9 26),o_ 207 (l_ 206),o_ 208 (Q_ .neq 207 0)] (y_ 208 (s_ [o_ 209 (L_ 10 26),u_ (S_ 10 6 209)] .ret) .skip)) (s_ [o_ 210 (L_ 10 26),o_ 27 (.box (.k (.agg [i_ 0,i_ 0,i_ 0,i_ 0,i_ 0,i_ 0,i_ 0,i_ 0,i_ 0,i_ 0]))),u_ (S_ 10 27 210)] (.seq (s_ [o_ 211 (a_ 0 5),o_ 212 (l_ 211),o_ 213 (Q_ .neq 212 8)] (y_ 213 (.seq (.draw [[P_ 214 (L_ 2 3),M_ 215 1,P_ 216 (a_ 12 5),P_ 217 (l_ 216),P_ 218 (.idxA 13 (.t 217) (k_ 1)),P_ 219 (L_ 13 218),P_ 220 (.call false false (f_ 130) [.t 214, .t 215, .t 219]),U_ (S_ 10 27 220)]]) (s_ [o_ 221 (a_ 9 27),o_ 222 (l_ 221),o_ 223 (Q_ .neq 222 0)] (y_ 223 (s_ [o_ 224 (L_ 10 27),u_ (S_ 10 6 224)] .ret) .skip))) .skip)) (.seq (s_ [o_ 225 (a_ 0 26),o_ 226 (L_ 5 225),o_ 227 (a_ 0 27),o_ 228 (L_ 5 227),o_ 229 (.eqs true [(.int .i64), (.int .i64), (.int .i64), (.int .i64), (.int .i64)] (.t 226) (.t 228))] (y_ 229 (s_ [o_ 230 (.build [i_ 0,i_ 0,i_ 0,i_ 0,i_ 0,i_ 0,i_ 0,i_ 0,i_ 0,i_ 0] [(9, (1, (k_ 10)))]),u_ (S_ 10 6 230)] .ret) .skip)) (.seq (s_ [o_ 231 (a_ 0 26),o_ 232 (a_ 0 231),o_ 233 (l_ 232),o_ 234 (Q_ .eql 233 1)] (y_ 234 (s_ [o_ 236 (a_ 0 5),o_ 237 (l_ 236),o_ 238 (a_ 5 26),o_ 239 (L_ 4 238),o_ 240 (a_ 5 27),o_ 241 (L_ 4 240),o_ 242 (C_ 194 [.t 237, .t 239, .t 241]),m_ 235 242,o_ 243 (e_ 235 0),o_ 244 (e_ 235 1),o_ 28 (.box (.k (.agg [i_ 0,i_ 0,i_ 0,i_ 0]))),u_ (S_ 4 28 243),m_ 29 244] (s_ [o_ 245 (a_ 0 26),o_ 246 (L_ 5 245),o_ 247 (L_ 4 28),m_ 248 29,o_ 249 (.build [i_ 0,i_ 0,i_ 0,i_ 0,i_ 0,i_ 0,i_ 0,i_ 0,i_ 0,i_ 0] [(0, (5, (.t 246))), (5, (4, (.t 247))), (9, (1, (.t 248)))]),u_ (S_ 10 6 249)] .ret)) .skip)) (s_ [o_ 251 (a_ 0 5),o_ 252 (l_ 251),o_ 253 (a_ 0 26),o_ 254 (L_ 5 253),o_ 255 (a_ 5 26),o_ 256 (a_ 0 255),o_ 257 (L_ 2 256),o_ 258 (a_ 5 27),o_ 259 (a_ 0 258),o_ 260 (L_ 2 259),o_ 261 (C_ 195 [.t 252, .t 254, .t 257, .t 260]),m_ 250 261,o_ 262 (e_ 250 0),o_ 263 (e_ 250 1),o_ 30 (.box (.k (.agg [i_ 0,i_ 0]))),u_ (S_ 2 30 262),m_ 31 263] (.seq (.draw [[P_ 264 (a_ 0 26),P_ 265 (L_ 5 264),P_ 266 (L_ 2 30),P_ 267 (.call false false (f_ 26) []),P_ 268 (.build [i_ 0,i_ 0,i_ 0,i_ 0] [(0, (2, (.t 266))), (2, (2, (.t 267)))]),M_ 269 31,P_ 270 (.build [i_ 0,i_ 0,i_ 0,i_ 0,i_ 0,i_ 0,i_ 0,i_ 0,i_ 0,i_ 0] [(0, (5, (.t 265))), (5, (4, (.t 268))), (9, (1, (.t 269)))]),U_ (S_ 10 6 270)]]) .ret)))))))))):=by kernel_rfl
theorem qft9:ft= (s_ [o_ 3 (.box (.t 0)),o_ 5 (.box (.t 2)),o_ 6 (.mv (b_ false)),o_ 7 (w_ 0)] (.seq (s_ [o_ 16 (a_ 0 5),o_ 17 (l_ 16)] (.block 0 (.seq (s_ [o_ 19 (Q_ .eql 17 16),m_ 18 19] (y_ 18 .skip (r_ [o_ 20 (Q_ .eql 17 17),m_ 18 20]))) (y_ 18 (.seq (.draw [[P_ 22 (L_ 2 3),M_ 23 1,P_ 24 (a_ 12 5),P_ 25 (l_ 24),P_ 26 (.idxA 13 (.t 25) (k_ 0)),P_ 27 (L_ 13 26),P_ 28 (.call false false (f_ 192) [.t 22, .t 23, .t 27]),M_ 21 28,P_ 29 (e_ 21 0),P_ 30 (e_ 21 1),M_ 8 29,M_ 9 30]]) (.seq (s_ [m_ 31 9,o_ 32 (Q_ .neq 31 0)] (y_ 32 (s_ [m_ 33 9,o_ 6 (.mv (b_ false)),m_ 7 33] .ret) .skip)) (.seq (.draw [[P_ 35 (L_ 2 3),M_ 36 1,P_ 37 (a_ 12 5),P_ 38 (l_ 37),P_ 39 (.idxA 13 (.t 38) (k_ 1)),P_ 40 (L_ 13 39),P_ 41 (.call false false (f_ 192) [.t 35, .t 36, .t 40]),M_ 34 41,P_ 42 (e_ 34 0),P_ 43 (e_ 34 1),M_ 10 42,M_ 9 43]]) (.seq (s_ [o_ 44 (a_ 0 5),o_ 45 (l_ 44),o_ 46 (Q_ .eql 45 16)] (y_ 46 (s_ [m_ 47 8,m_ 48 47, (g_ 49 48 true (.mv (.t 10))),o_ 50 (.pick (.t 48) (.t 49) (b_ false)),m_ 51 9,m_ 6 50,m_ 7 51] .ret) .skip)) (s_ [m_ 52 8,m_ 53 52, (g_ 54 53 false (.mv (.t 10))),o_ 55 (.pick (.t 53) (b_ true) (.t 54)),m_ 56 9,m_ 6 55,m_ 7 56] .ret))))) (s_ [o_ 58 (Q_ .eql 17 18),m_ 57 58] (y_ 57 (.seq (.draw [[P_ 60 (L_ 2 3),M_ 61 1,P_ 62 (a_ 12 5),P_ 63 (l_ 62),P_ 64 (.idxA 13 (.t 63) (k_ 0)),P_ 65 (L_ 13 64),P_ 66 (.call false false (f_ 192) [.t 60, .t 61, .t 65]),M_ 59 66,P_ 67 (e_ 59 0),P_ 68 (e_ 59 1),M_ 11 67,M_ 12 68]]) (s_ [m_ 69 11,o_ 70 (.un .not (.t 69)),m_ 71 12,m_ 6 70,m_ 7 71] .ret)) .skip)))))) (.seq (.draw [[P_ 72 (L_ 2 3),M_ 73 1,P_ 74 (a_ 12 5),P_ 75 (l_ 74),P_ 76 (.idxA 13 (.t 75) (k_ 0)),P_ 77 (L_ 13 76),P_ 78 (.call false false (f_ 130) [.t 72, .t 73, .t 77]), (true,o_ 13 (.box (.k (.agg [i_ 0,i_ 0,i_ 0,i_ 0,i_ 0,i_ 0,i_ 0,i_ 0,i_ 0,i_ 0])))),U_ (S_ 10 13 78)]]) (.seq (s_ [o_ 79 (a_ 9 13),o_ 80 (l_ 79),o_ 81 (Q_ .neq 80 0)] (y_ 81 (.seq (.draw [[P_ 82 (a_ 9 13),P_ 83 (l_ 82),P_ 6 (.mv (b_ false)),M_ 7 83]]) .ret) .skip)) (.seq (.draw [[P_ 84 (L_ 2 3),M_ 85 1,P_ 86 (a_ 12 5),P_ 87 (l_ 86),P_ 88 (.idxA 13 (.t 87) (k_ 1)),P_ 89 (L_ 13 88),P_ 90 (.call false false (f_ 130) [.t 84, .t 85, .t 89]), (true,o_ 14 (.box (.k (.agg [i_ 0,i_ 0,i_ 0,i_ 0,i_ 0,i_ 0,i_ 0,i_ 0,i_ 0,i_ 0])))),U_ (S_ 10 14 90)]]) (.seq (s_ [o_ 91 (a_ 9 14),o_ 92 (l_ 91),o_ 93 (Q_ .neq 92 0)] (y_ 93 (.seq (.draw [[P_ 94 (a_ 9 14),P_ 95 (l_ 94),P_ 6 (.mv (b_ false)),M_ 7 95]]) .ret) .skip)) (.seq (s_ [o_ 96 (a_ 0 13),o_ 97 (L_ 5 96),o_ 98 (a_ 0 14),o_ 99 (L_ 5 98),o_ 100 (.eqs true [(.int .i64), (.int .i64), (.int .i64), (.int .i64), (.int .i64)] (.t 97) (.t 99))] (y_ 100 (s_ [o_ 6 (.mv (b_ false)),o_ 7 (w_ 10)] .ret) .skip)) (s_ [o_ 101 (a_ 0 13),o_ 102 (L_ 5 101),o_ 103 (a_ 5 13),o_ 104 (a_ 0 103),o_ 105 (L_ 2 104),o_ 106 (a_ 5 14),o_ 107 (a_ 0 106),o_ 108 (L_ 2 107),o_ 109 (C_ 241 [.t 102, .t 105, .t 108]),m_ 15 109] (s_ [o_ 110 (a_ 0 5),o_ 111 (l_ 110),o_ 112 (Q_ .eql 111 13),m_ 113 112, (g_ 114 113 true (.mv (.t 15))), (g_ 115 113 true (Q_ .lss 114 0)),o_ 116 (.pick (.t 113) (.t 115) (b_ false)),m_ 117 116, (g_ 118 117 false (a_ 0 5)), (g_ 119 117 false (l_ 118)), (g_ 120 117 false (Q_ .eql 119 14)), (g_ 121 117 false (.mv (.t 120))), (g_ 122 121 true (.mv (.t 15))), (g_ 123 121 true (Q_ .leq 122 0)), (g_ 124 117 false (.pick (.t 121) (.t 123) (b_ false))),o_ 125 (.pick (.t 117) (b_ true) (.t 124)),m_ 126 125, (g_ 127 126 false (a_ 0 5)), (g_ 128 126 false (l_ 127)), (g_ 129 126 false (Q_ .eql 128 15)), (g_ 130 126 false (.mv (.t 129))), (g_ 131 130 true (.mv (.t 15))), (g_ 132 130 true (Q_ .eql 131 0)), (g_ 133 126 false (.pick (.t 130) (.t 132) (b_ false))),o_ 134 (.pick (.t 126) (b_ true) (.t 133)),m_ 6 134,o_ 7 (w_ 0)] .ret))))))))):=by kernel_rfl
set_option maxHeartbeats 8000000 in
theorem PW (hM:wR p M A) (he: ∀m∈env,aH m.2) (e:Ex):W6 p vars e→TB e→(¬aM e.op→M0 Pa0 iL [stA M A,bF mP env,fp e] (jr M A env e))∧(aM e.op→TA Pa0 ja [stA M A,bF mP env,fp e] (Ar M A env e)):=by
 refine Ex.ind (p:= λe=>W6 p vars e→TB e→(¬aM e.op→M0 Pa0 iL [stA M A,bF mP env,fp e] (jr M A env e))∧(aM e.op→TA Pa0 ja [stA M A,bF mP env,fp e] (Ar M A env e))) (λe ih hw hi=> ?_) e
 have d: ∀a,a∈e.args→ ¬aM a.op→opR p vars M A env a:= λa ha hc=>opR.of hM (hw.arg ha) hc ((ih a ha (hw.arg ha) (hi.arg ha)).1 hc)
 have j: ∀a,a∈e.args→aM a.op→TA Pa0 ja [stA M A,bF mP env,fp a] (Ar M A env a):= λa ha hc=>(ih a ha (hw.arg ha) (hi.arg ha)).2 hc
 clear ih
 have l:=hw.node
 rcases hw.kinds with⟨g|g|g,ha⟩|⟨g|g|g,a,ha⟩|⟨g,c,a,b,ha⟩|⟨g,a,b,ha⟩|⟨g,a,b,ha⟩|⟨g,a,b,ha⟩
 ·refine⟨λ_=> ?_,λhc=>absurd hc zS6⟩
  rw[XG g]
  refine M0.of (ac.of br zR6 λ_=>aa ?_)
  clear hw hi d j l hM ha
  rw[qbw9]
  repeat' first|simp(disch:=omega)only[go_sem,↓ai, *,g]|apply zA1<;>intro h<;>try omega|refine ak cp ?_
 ·refine⟨λ_=> ?_,λhc=>absurd hc zS6⟩
  obtain⟨v,t,p1,h1⟩:=Qj (M:=M) (A:=A) g hi.lin he
  have p2:=wV zR5 (J4 hw ha) (λa ha=>(hi a ha).1) p1
  simp only[fp,g]at p2
  generalize jr M A env e=R at*
  obtain⟨x,r⟩:=R
  simp only at p2 h1
  obtain⟨t1,t2,t3,t4,t5⟩:=t
  obtain⟨v1,v2⟩:=v
  refine⟨(t1,t2,t3,t4,t5),((v1,v2),z1),ac.of br zR6 λ_=>aa ?_,h1⟩
  clear hw hi d j l hM ha he h1 p1
  rw[qbw9]
  repeat' first|simp(disch:=omega)only[go_sem,↓ai, *,g]|apply zA1<;>intro h<;>try omega|refine ak p2 ?_|refine ak cp ?_
 ·refine⟨λ_=> ?_,λhc=>absurd hc zS6⟩
  rw[YG g]
  obtain⟨fs,f1,f2,f3⟩:=hw.rd g
  obtain⟨T,h1,hA,h3,h4,h5,h6⟩:=hM _ _ _ f1
  rw[←hA]at h5 h6
  clear hA
  have X:=Vi hM hi f3
  obtain⟨v,t,p1,hv⟩:=Rf g h1 h4 (f2.trans h3.symm) X he
  have p2:=wV zR5 (J4 hw ha) (λa ha=>(hi a ha).1) p1
  simp only[fp,g]at p2
  have pP:=wl h4 (f2.trans h3.symm) X he
  have pF:=dW M e.name
  have pA:=dW A e.name
  rw[h1]at pF
  simp only[zA8,zF3]at pF
  unfold rdD
  rw[h1,zA8]
  have L:(qS M env e.idx T.2.1).2=0→T3 T.2.1 (qS M env e.idx T.2.1).1:= λh=>by
   have:=JP h
   exact⟨by omega,λk hk=>this.2 k zR5⟩
  clear hw hi d j l hM ha he f1 f2 f3 h1 h3 p1 X
  generalize qS M env e.idx T.2.1=R at*
  obtain⟨ps,r⟩:=R
  simp only at p2 pP L hv ⊢
  by_cases h0:r=0
  ·subst h0
   rw[if_pos rfl]at pP
   rw[if_neg zR6]
   obtain⟨rfl,rfl⟩:=hv rfl
   have Q:=L rfl
   obtain⟨hB,V⟩:=m5 h4 Q
   obtain⟨r,hr⟩: ∃r:Nat,(qD T.2.1 ps).toNat=r:=⟨_,rfl⟩
   rw[hr]at hB V p2
   rw[←V]at pP
   simp only[hr,zA7 hB,zA8]at p2 ⊢
   refine M0.of (ac.of br zR6 λ_=>aa ?_)
   rw[qbw9]
   cases D:bm A e.name with
   |none=>
    rw[D]at pA
    simp only[zD3,zM1]at pA
    clear L h4 h5 h6 Q V hr D hv
    generalize T.2.2[r]=w at*
    obtain⟨⟨t1,t2,t3,t4,t5⟩,es,vs⟩:=T
    obtain⟨w1,w2⟩:=w
    repeat' first|simp(disch:=omega)only[go_sem,↓ai, *,g]|apply zA1<;>intro h<;>try omega|refine ak p2 ?_|refine dH pA ?_|refine ak cp ?_
   |some U=>
    rw[D]at pA
    simp only[zA8,zF3]at pA
    have h1:T.1.1=1:=zD5 λh=>by rw[h6 h]at D;cases D
    obtain⟨U',u1,u2,u3,u4⟩:=h5 h1
    rw[D]at u1
    obtain rfl:U=U':=Option.some.inj u1
    obtain⟨N,_⟩:=m5 (ps:=ps) u4 (by rw[u3];exact Q)
    rw[u3,hr]at N
    simp only[zA7 N,zA8]
    have hg: ∀f:Fr→List PC,(List.map f U.2.2)[r]? =some (f U.2.2[r]):= λf=>ae N
    clear L h4 h5 h6 Q V hr D u1 u2 u3 u4 hv
    generalize T.2.2[r]=w at*
    generalize U.2.2[r]=x at*
    obtain⟨⟨t1,t2,t3,t4,t5⟩,es,vs⟩:=T
    obtain⟨⟨u1,u2,u3,u4,u5⟩,us,ws⟩:=U
    obtain⟨w1,w2⟩:=w
    obtain⟨x1,x2⟩:=x
    obtain rfl:t1=1:=h1
    simp only at hg
    repeat' first|simp(disch:=omega)only[go_sem,↓ai, *,g,hg]|apply zA1<;>intro h<;>try omega|refine ak p2 ?_|refine dH pA ?_|refine dH pF ?_|refine ak pP ?_|refine ak cp ?_
  ·rw[if_pos h0]
   refine M0.any (0,0,0,0,0) ((0,0),(0,0)) (ac.of br zR6 λ_=>aa ?_) h0
   rw[qbw9]
   clear hv L h4 h5 h6 pA pF pP
   obtain⟨t1,t2,t3,t4,t5⟩:=t
   obtain⟨v1,v2⟩:=v
   repeat' first|simp(disch:=omega)only[go_sem,↓ai, *,g,h0]|apply zA1<;>intro h<;>try omega|refine ak p2 ?_
 ·refine⟨λ_=> ?_,λhc=>absurd hc zS6⟩
  rw[aag g ha]
  obtain⟨t,v,er,p1,h1,h2⟩:=d a zS4 (λhh=>by
   have:=(hw.cond (i:=0) zS3).1 hh
   unfold b6 at this
   omega)
  rw[h1]
  simp only[zD2,zD4]at p1
  by_cases h0:er=0
  ·subst h0
   obtain⟨e1,e2,e3⟩:=h2 rfl
   rw[if_neg zR6,e1]
   have pD:=jC (op:=8) e3.in e3.in
   have p4:=pG (op:=8) ⟨by omega,by omega⟩ e3.1 e3.2.1 e3.2.1
   clear h1 h2 e1 e2 e3
   clear hw hi d j l hM he
   unfold C6
   simp only
   by_cases hk:t.1=1
   ·rw[if_pos hk]
    clear p4
    generalize bi 8 v v=x at*
    obtain⟨⟨⟨x1,x2⟩,x3,x4⟩,er⟩:=x
    refine M0.of (ac.of br zR6 λ_=>aa ?_)
    obtain⟨t1,t2,t3,t4,t5⟩:=t
    obtain⟨⟨v1,v2⟩,v3,v4⟩:=v
    skip
    obtain rfl:t1=1:=hk
    rw[qbw9]
    repeat' first|simp(disch:=omega)only[go_sem,↓ai, *,g,ha,zB8,zC9,zB3,nY,tQ,zB0,zB4,Ex.row_eq]|apply zA1<;>intro h<;>try omega|refine ak p1 ?_|refine ak pD ?_
   ·rw[if_neg hk]
    clear pD
    generalize gp 8 t v.1 v.1=x at*
    obtain⟨⟨x1,x2⟩,er⟩:=x
    refine M0.of (ac.of br zR6 λ_=>aa ?_)
    obtain⟨t1,t2,t3,t4,t5⟩:=t
    obtain⟨⟨v1,v2⟩,v3,v4⟩:=v
    skip
    have hk: ¬t1=1:=hk
    rw[qbw9]
    repeat' first|simp(disch:=omega)only[go_sem,↓ai, *,g,ha,hk,zB8,zC9,zB3,nY,tQ,zB0,zB4,Ex.row_eq]|apply zA1<;>intro h<;>try omega|refine ak p1 ?_|refine ak p4 ?_|refine ak cp ?_
  ·rw[if_pos h0]
   refine M0.any t v (ac.of br zR6 λ_=>aa ?_) h0
   clear hw hi d j l hM h1 h2 he
   obtain⟨t1,t2,t3,t4,t5⟩:=t
   obtain⟨⟨v1,v2⟩,v3,v4⟩:=v
   rw[qbw9]
   exact zZ8
 ·refine⟨λ_=> ?_,λhc=>absurd hc zS6⟩
  rw[UH g ha]
  obtain⟨t,v,er,p1,h1,h2⟩:=d a zS4 (λhh=>by
   have:=(hw.cond (i:=0) zS3).1 hh
   unfold b6 at this
   omega)
  rw[h1]
  simp only[zD2,zD4]at p1
  by_cases h0:er=0
  ·subst h0
   obtain⟨e1,e2,e3⟩:=h2 rfl
   rw[if_neg zR6,e1]
   have ht:=l.2.2.2.1.1 (.inr g)
   have p2:=Np e3.1 ht e3.2.1
   have O:t.1=1→e.ty.1=1→wD t e.ty v.1=v.1∧t=e.ty:= λk1 k2=>XZ e3.1 ht k1 k2
   clear h1 h2 e1 e2 e3 ht
   clear hw hi d j l hM he
   unfold Bi
   simp only
   generalize K:e.ty=s at*
   have E:e.ty.1=s.1:=by rw[K]
   have F:e.ty.2.1=s.2.1:=by rw[K]
   have G:e.ty.2.2.1=s.2.2.1:=by rw[K]
   have H:e.ty.2.2.2.1=s.2.2.2.1:=by rw[K]
   have J:e.ty.2.2.2.2=s.2.2.2.2:=by rw[K]
   clear K
   obtain⟨s1,s2,s3,s4,s5⟩:=s
   obtain⟨t1,t2,t3,t4,t5⟩:=t
   generalize Y:wD (t1,t2,t3,t4,t5) (s1,s2,s3,s4,s5) v.1=w at*
   simp only at E F G H J O ⊢
   by_cases k1:t1=1
   ·by_cases k2:s1=1
    ·obtain⟨rfl,k3⟩:=O k1 k2
     rw[if_pos ⟨k1,k2⟩,k3]
     clear O Y
     cases k3
     refine M0.of (ac.of br zR6 λ_=>aa ?_)
     obtain⟨⟨v1,v2⟩,v3,v4⟩:=v
     subst k1
     rw[qbw9]
     repeat' first|simp(disch:=omega)only[go_sem,↓ai, *,g,ha,E,F,G,H,J,zB8,zC9,zB3,nY,tQ,zB0,zB4,Ex.row_eq]|apply zA1<;>intro h<;>try omega|refine ak p1 ?_|refine ak p2 ?_|refine ak cp ?_
    ·rw[if_neg (λh=>k2 h.2)]
     clear O Y
     refine M0.of (ac.of br zR6 λ_=>aa ?_)
     obtain⟨⟨v1,v2⟩,v3,v4⟩:=v
     obtain⟨w1,w2⟩:=w
     subst k1
     rw[qbw9]
     repeat' first|simp(disch:=omega)only[go_sem,↓ai, *,g,ha,E,F,G,H,J,k2,zB8,zC9,zB3,nY,tQ,zB0,zB4,Ex.row_eq]|apply zA1<;>intro h<;>try omega|refine ak p1 ?_|refine ak p2 ?_|refine ak cp ?_
   ·rw[if_neg (λh=>k1 h.1)]
    clear O Y
    refine M0.of (ac.of br zR6 λ_=>aa ?_)
    obtain⟨⟨v1,v2⟩,v3,v4⟩:=v
    obtain⟨w1,w2⟩:=w
    rw[qbw9]
    repeat' first|simp(disch:=omega)only[go_sem,↓ai, *,g,ha,E,F,G,H,J,k1,zB8,zC9,zB3,nY,tQ,zB0,zB4,Ex.row_eq]|apply zA1<;>intro h<;>try omega|refine ak p1 ?_|refine ak p2 ?_|refine ak cp ?_
  ·rw[if_pos h0]
   refine M0.any t v (ac.of br zR6 λ_=>aa ?_) h0
   clear hw hi d j l hM h1 h2 he
   obtain⟨t1,t2,t3,t4,t5⟩:=t
   obtain⟨⟨v1,v2⟩,v3,v4⟩:=v
   rw[qbw9]
   exact zZ8
 ·refine⟨λhc=>absurd (show aM e.op by unfold aM;omega) hc,λ_=> ?_⟩
  rw[ZT g ha]
  obtain⟨ba,pa,ha_⟩:=j a zS4 ((hw.cond (i:=0) zS3).2 zT1)
  obtain⟨⟨x,r⟩,hx⟩: ∃y,y=Ar M A env a:=⟨_,rfl⟩
  rw[←hx]at pa ha_ ⊢
  simp only at pa ha_ ⊢
  refine⟨!ba,ac.of fO zR6 λ_=>aa ?_,λh=>by rw[ha_ h]⟩
  clear ha_ hx
  clear hw hi d j l hM he
  rw[qft9]
  repeat' first|simp(disch:=omega)only[go_sem,↓ai, *,g,ha,zB8,zC9,zB3,nY,tQ,zB0,zB4,Ex.row_eq]|apply zA1<;>intro h<;>try omega|refine ak pa ?_
 ·refine⟨λ_=> ?_,λhc=>absurd hc zS6⟩
  rw[TZ g ha]
  obtain⟨bc,pc,hc_⟩:=j c zS4 ((hw.cond (i:=0) zS3).2 zT1)
  obtain⟨ta,va,era,pa,z,C⟩:=d a zS4 (λhh=>by
   have:=(hw.cond (i:=1) zS3).1 hh
   unfold b6 at this
   omega)
  obtain⟨tb,vb,erb,pb,q,u⟩:=d b zS4 (λhh=>by
   have:=(hw.cond (i:=2) zS3).1 hh
   unfold b6 at this
   omega)
  obtain⟨⟨x,r⟩,hx⟩: ∃y,y=Ar M A env c:=⟨_,rfl⟩
  rw[←hx]at pc hc_ ⊢
  simp only at pc hc_ ⊢
  by_cases h0:r=0
  ·subst h0
   obtain rfl:=hc_ rfl
   rw[if_neg zR6]
   clear hc_ hx
   cases x
   ·rw[if_neg zR6]
    refine⟨tb,vb, ?_,λh=>(u (q▸h)).1⟩
    rw[q]
    refine ac.of br zR6 λ_=>aa ?_
    clear z C q u pa
    clear hw hi d j l hM he
    obtain⟨sb1,sb2,sb3,sb4,sb5⟩:=tb
    obtain⟨⟨vb1,vb2⟩,vb3,vb4⟩:=vb
    simp only[zD2,zD4]at pb
    rw[qbw9]
    repeat' first|simp(disch:=omega)only[go_sem,↓ai, *,g,ha,zB8,zC9,zB3,nY,tQ,zB0,zB4,Ex.row_eq]|apply zA1<;>intro h<;>try omega|refine ak pc ?_|refine ak pb ?_
   ·rw[if_pos rfl]
    refine⟨ta,va, ?_,λh=>(C (z▸h)).1⟩
    rw[z]
    refine ac.of br zR6 λ_=>aa ?_
    clear z C q u pb
    clear hw hi d j l hM he
    obtain⟨sa1,sa2,sa3,sa4,sa5⟩:=ta
    obtain⟨⟨va1,va2⟩,va3,va4⟩:=va
    simp only[zD2,zD4]at pa
    rw[qbw9]
    repeat' first|simp(disch:=omega)only[go_sem,↓ai, *,g,ha,zB8,zC9,zB3,nY,tQ,zB0,zB4,Ex.row_eq]|apply zA1<;>intro h<;>try omega|refine ak pc ?_|refine ak pa ?_
  ·rw[if_pos h0]
   refine M0.any (0,0,0,0,0) ((0,0),(0,0)) (ac.of br zR6 λ_=>aa ?_) h0
   clear z C q u pa pb hc_ hx
   clear hw hi d j l hM he
   rw[qbw9]
   repeat' first|simp(disch:=omega)only[go_sem,↓ai, *,g,ha,h0,zB8,zC9,zB3,nY,tQ,zB0,zB4,Ex.row_eq]|apply zA1<;>intro h<;>try omega|refine ak pc ?_
 ·refine⟨λhc=>absurd (show aM e.op by unfold aM;omega) hc,λ_=> ?_⟩
  rw[acg zR5 ha]
  have o:=(hw.same (.inr zR5) ha).1
  obtain⟨ta,va,era,pa,z,C⟩:=d a zS4 (λhh=>by
   have:=(hw.cond (i:=0) zS3).1 hh
   unfold b6 at this
   omega)
  obtain⟨tb,vb,erb,pb,q,u⟩:=d b zS4 (λhh=>by
   have:=(hw.cond (i:=1) zS3).1 hh
   unfold b6 at this
   omega)
  rw[z,q]
  by_cases h0:era=0
  ·subst h0
   obtain⟨e1,e2,e3⟩:=C rfl
   rw[if_neg zR6,e1]
   by_cases h1:erb=0
   ·subst h1
    obtain⟨f1,f2,f3⟩:=u rfl
    rw[if_neg zR6,f1]
    obtain rfl:ta=tb:=by rw[e2,f2];exact o
    have p2:=tF e3.1 e3.2.1 f3.2.1
    refine TA.of (ac.of fO zR6 λ_=>aa ?_)
    simp only
    generalize rL ta va.1 vb.1=n at*
    clear z C q u e1 e2 e3 f1 f2 f3 o
    clear hw hi d j l hM he
    obtain⟨⟨v1,v2⟩,v3,v4⟩:=vb
    obtain⟨sa1,sa2,sa3,sa4,sa5⟩:=ta
    obtain⟨⟨va1,va2⟩,va3,va4⟩:=va
    simp only[zD2,zD4]at pa
    simp only[zD2,zD4]at pb
    rw[qft9]
    rcases g with g|g|g
    ·rw[g,show Sy 13 n=decide (n<0)from rfl]
     exact zX2
    ·rw[g,show Sy 14 n=decide (n≤0)from rfl]
     exact zX2
    ·rw[g,show Sy 15 n=decide (n=0)from rfl]
     exact zX2
   ·rw[if_pos h1]
    refine TA.of (ac.of fO zR6 λ_=>aa ?_)
    clear z C q u e1 e2 e3 o
    clear hw hi d j l hM he
    obtain⟨sa1,sa2,sa3,sa4,sa5⟩:=ta
    obtain⟨⟨va1,va2⟩,va3,va4⟩:=va
    simp only[zD2,zD4]at pa
    obtain⟨sb1,sb2,sb3,sb4,sb5⟩:=tb
    obtain⟨⟨vb1,vb2⟩,vb3,vb4⟩:=vb
    simp only[zD2,zD4]at pb
    rw[qft9]
    rcases g with g|g|g
    all_goals
     repeat' first|simp(disch:=omega)only[go_sem,↓ai, *,g,ha,h1,zB8,zC9,zB3,nY,tQ,zB0,zB4,Ex.row_eq]|apply zA1<;>intro h<;>try omega|refine ak pa ?_|refine ak pb ?_
  ·rw[if_pos h0]
   refine TA.of (ac.of fO zR6 λ_=>aa ?_)
   clear z C q u pb o
   clear hw hi d j l hM he
   obtain⟨sa1,sa2,sa3,sa4,sa5⟩:=ta
   obtain⟨⟨va1,va2⟩,va3,va4⟩:=va
   simp only[zD2,zD4]at pa
   rw[qft9]
   rcases g with g|g|g
   all_goals
    exact zZ4
 ·refine⟨λhc=>absurd (show aM e.op by unfold aM;omega) hc,λ_=> ?_⟩
  rw[acx g ha]
  obtain⟨ba,pa,ha_⟩:=j a zS4 ((hw.cond (i:=0) zS3).2 zT1)
  obtain⟨bb,pb,hb_⟩:=j b zS4 ((hw.cond (i:=1) zS3).2 zT1)
  obtain⟨⟨x,r⟩,hx⟩: ∃y,y=Ar M A env a:=⟨_,rfl⟩
  rw[←hx]at pa ha_ ⊢
  obtain⟨⟨x',r'⟩,Z⟩: ∃y,y=Ar M A env b:=⟨_,rfl⟩
  rw[←Z]at pb hb_ ⊢
  simp only at pa ha_ pb hb_ ⊢
  by_cases h0:r=0
  ·subst h0
   obtain rfl:=ha_ rfl
   rw[if_neg zR6]
   refine⟨if e.op=16 then x&&bb else x||bb,ac.of fO zR6 λ_=>aa ?_,λh=>by rw[hb_ h]⟩
   clear ha_ hb_ hx Z
   clear hw hi d j l hM he
   rw[qft9]
   rcases g with g|g
   ·rw[if_pos g]
    cases x
    ·repeat' first|simp(disch:=omega)only[go_sem,↓ai, *,g,ha,zB8,zC9,zB3,nY,tQ,zB0,zB4,Ex.row_eq]|apply zA1<;>intro h<;>try omega|refine ak pa ?_|refine ak pb ?_
     all_goals rfl
    ·repeat' first|simp(disch:=omega)only[go_sem,↓ai, *,g,ha,zB8,zC9,zB3,nY,tQ,zB0,zB4,Ex.row_eq]|apply zA1<;>intro h<;>try omega|refine ak pa ?_|refine ak pb ?_
     all_goals rfl
   ·rw[if_neg zR5]
    cases x
    ·repeat' first|simp(disch:=omega)only[go_sem,↓ai, *,g,ha,zB8,zC9,zB3,nY,tQ,zB0,zB4,Ex.row_eq]|apply zA1<;>intro h<;>try omega|refine ak pa ?_|refine ak pb ?_
     all_goals rfl
    ·repeat' first|simp(disch:=omega)only[go_sem,↓ai, *,g,ha,zB8,zC9,zB3,nY,tQ,zB0,zB4,Ex.row_eq]|apply zA1<;>intro h<;>try omega|refine ak pa ?_|refine ak pb ?_
     all_goals rfl
  ·rw[if_pos h0]
   refine TA.of (ac.of fO zR6 λ_=>aa ?_)
   clear ha_ hb_ hx Z pb
   clear hw hi d j l hM he
   rw[qft9]
   rcases g with g|g
   all_goals
    exact zZ4
 ·refine⟨λ_=> ?_,λhc=>absurd hc zS6⟩
  rw[Yb ⟨⟨g.1,g.2.1⟩,g.2.2⟩ ha]
  have o:=(hw.same (.inl g) ha).1
  obtain⟨t,v,er,p1,h1,h2⟩:=d a zS4 (λhh=>by
   have:=(hw.cond (i:=0) zS3).1 hh
   unfold b6 at this
   omega)
  obtain⟨tb,w,eb,pb,q,u⟩:=d b zS4 (λhh=>by
   have:=(hw.cond (i:=1) zS3).1 hh
   unfold b6 at this
   omega)
  rw[h1,q]
  simp only[zD2,zD4]at p1 pb
  have g1: ¬e.op=1∧ ¬e.op=2∧ ¬e.op=3∧ ¬e.op=11∧ ¬e.op=12∧ ¬e.op=8:=by omega
  obtain⟨g1,g2,g3,g4,g5,g6⟩:=g1
  by_cases h0:er=0
  ·subst h0
   obtain⟨e1,e2,e3⟩:=h2 rfl
   rw[if_neg zR6,e1]
   by_cases W:eb=0
   ·subst W
    obtain⟨f1,f2,f3⟩:=u rfl
    rw[if_neg zR6,f1]
    obtain rfl:t=tb:=by rw[e2,f2];exact o
    have pD:=jC (op:=e.op) e3.in f3.in
    have p4:=pG (op:=e.op) ⟨g.1,g.2.1⟩ e3.1 e3.2.1 f3.2.1
    clear h1 h2 q u e1 e2 e3 f1 f2 f3 o g
    clear hw hi d j l hM he
    unfold C6
    simp only
    by_cases hk:t.1=1
    ·rw[if_pos hk]
     clear p4
     generalize bi e.op v w=x at*
     obtain⟨⟨⟨x1,x2⟩,x3,x4⟩,er⟩:=x
     refine M0.of (ac.of br zR6 λ_=>aa ?_)
     obtain⟨t1,t2,t3,t4,t5⟩:=t
     obtain⟨⟨v1,v2⟩,v3,v4⟩:=v
     obtain⟨⟨w1,w2⟩,w3,w4⟩:=w
     obtain rfl:t1=1:=hk
     rw[qbw9]
     repeat' first|simp(disch:=omega)only[go_sem,↓ai, *,g1,g2,g3,g4,g5,g6,ha,zB8,zC9,zB3,nY,tQ,zB0,zB4,Ex.row_eq]|apply zA1<;>intro h<;>try omega|refine ak p1 ?_|refine ak pb ?_|refine ak pD ?_
    ·rw[if_neg hk]
     clear pD
     generalize gp e.op t v.1 w.1=x at*
     obtain⟨⟨x1,x2⟩,er⟩:=x
     refine M0.of (ac.of br zR6 λ_=>aa ?_)
     obtain⟨t1,t2,t3,t4,t5⟩:=t
     obtain⟨⟨v1,v2⟩,v3,v4⟩:=v
     obtain⟨⟨w1,w2⟩,w3,w4⟩:=w
     have hk: ¬t1=1:=hk
     rw[qbw9]
     repeat' first|simp(disch:=omega)only[go_sem,↓ai, *,g1,g2,g3,g4,g5,g6,ha,hk,zB8,zC9,zB3,nY,tQ,zB0,zB4,Ex.row_eq]|apply zA1<;>intro h<;>try omega|refine ak p1 ?_|refine ak pb ?_|refine ak p4 ?_|refine ak cp ?_
   ·rw[if_pos W]
    refine M0.any tb w (ac.of br zR6 λ_=>aa ?_) W
    clear hw hi d j l hM h1 h2 q u e1 e2 e3 he o g
    obtain⟨t1,t2,t3,t4,t5⟩:=t
    obtain⟨⟨v1,v2⟩,v3,v4⟩:=v
    obtain⟨u1,u2,u3,u4,u5⟩:=tb
    obtain⟨⟨w1,w2⟩,w3,w4⟩:=w
    rw[qbw9]
    repeat' first|simp(disch:=omega)only[go_sem,↓ai, *,g1,g2,g3,g4,g5,g6,ha,W,zB8,zC9,zB3,nY,tQ,zB0,zB4,Ex.row_eq]|apply zA1<;>intro h<;>try omega|refine ak p1 ?_|refine ak pb ?_
  ·rw[if_pos h0]
   refine M0.any t v (ac.of br zR6 λ_=>aa ?_) h0
   clear hw hi d j l hM h1 h2 q u pb he o g
   obtain⟨t1,t2,t3,t4,t5⟩:=t
   obtain⟨⟨v1,v2⟩,v3,v4⟩:=v
   rw[qbw9]
   repeat' first|simp(disch:=omega)only[go_sem,↓ai, *,g1,g2,g3,g4,g5,g6,ha,h0,zB8,zC9,zB3,zB0,Ex.row_eq]|apply zA1<;>intro h<;>try omega|refine ak p1 ?_
end
