import Derived.Test.YtigdjhnndaokjaaGreatDoorAbsD
import Derived.Test.YtigdjhnndaokjaaGreatDoorRows
set_option linter.unusedVariables false
set_option linter.unusedSimpArgs false
namespace Go.Proofs.YtigdjhnndaokjaaGreatDoor
open Go.Abs
set_option maxRecDepth 1000000
abbrev jp:FuncId:=51
def iR:aj:=(r_ [o_ 3 (.box (.t 0)),o_ 4 (.box (.t 1)),o_ 6 (.box (.k (.agg [i_ 0,i_ 0,i_ 0,i_ 0,i_ 0,i_ 0,i_ 0,i_ 0,i_ 0]))),o_ 7 (.box (k_ 0))])
def iQ:aj:=(r_ [o_ 14 (a_ 0 3),o_ 15 (l_ 14),o_ 16 (.nilc (.t 15)),o_ 17 (a_ 2 16),o_ 18 (l_ 17),o_ 8 (.box (.k (.c .nils))),u_ (S_ 1 8 18)])
def iT:aj:=(s_ [o_ 9 (.box (.k (.agg [i_ 0,i_ 0,i_ 0,i_ 0,i_ 0,i_ 0,i_ 0,i_ 0,i_ 0])))] (s_ [o_ 10 (.box (b_ false)),u_ (.store 1 (.t 10) (b_ true))] (.seq (s_ [m_ 20 2,o_ 21 (C_ 111 [.t 20])] (.block 0 (.rangeF (.t 21) [22] (r_ [m_ 11 22]) (.block 1 (.seq (.draw [[P_ 23 (a_ 0 3),P_ 24 (l_ 23),P_ 25 (a_ 7 4),P_ 26 (l_ 25),M_ 27 11,P_ 28 (l_ 8),P_ 29 (.call true false (f_ 50) [.t 26,.t 27,.t 28]),P_ 30 (.nilc (.t 24)),P_ 31 (a_ 2 30),U_ (S_ 1 31 29)], [P_ 23 (a_ 0 3),P_ 25 (a_ 7 4),P_ 26 (l_ 25),M_ 27 11,P_ 28 (l_ 8),P_ 29 (.call true false (f_ 50) [.t 26,.t 27,.t 28]),P_ 24 (l_ 23),P_ 30 (.nilc (.t 24)),P_ 31 (a_ 2 30),U_ (S_ 1 31 29)]]) (s_ [o_ 33 (L_ 1 3),o_ 34 (a_ 9 4),o_ 35 (L_ 13 34),o_ 36 (C_ 112 [.t 33,.t 35]),m_ 32 36,o_ 37 (e_ 32 0),o_ 38 (e_ 32 1),o_ 12 (.box (.k (.agg [i_ 0,i_ 0,i_ 0,i_ 0,i_ 0,i_ 0,i_ 0,i_ 0,i_ 0]))),u_ (S_ 9 12 37),m_ 13 38] (.seq (s_ [m_ 39 13,o_ 40 (Q_ .eql 39 0),m_ 41 40,(g_ 42 41 true (l_ 10)),(g_ 43 41 true (.un .not (.t 42))),o_ 44 (.pick (.t 41) (.t 43) (b_ false))] (y_ 44 (r_ [o_ 46 (a_ 8 4),o_ 47 (l_ 46),o_ 48 (L_ 9 9),o_ 49 (L_ 9 12),o_ 50 (C_ 52 [.t 47,.t 48,.t 49]),m_ 45 50,o_ 51 (e_ 45 0),o_ 52 (e_ 45 1),u_ (S_ 9 12 51),m_ 13 52]) .skip)) (.seq (s_ [m_ 53 13,o_ 54 (Q_ .neq 53 0)] (y_ 54 (s_ [o_ 55 (.build [i_ 0,i_ 0,i_ 0,i_ 0,i_ 0,i_ 0,i_ 0,i_ 0,i_ 0] []),m_ 56 13,u_ (S_ 9 6 55),u_ (S_ 1 7 56)] .ret) .skip)) (r_ [o_ 57 (L_ 9 12),u_ (S_ 9 9 57),u_ (.store 1 (.t 10) (b_ false))]))))))))) (s_ [o_ 58 (L_ 9 9),u_ (S_ 9 6 58),u_ (.store 1 (.t 7) (k_ 0))] .ret))))
def iO:AG:=⟨(.some 19),.none,(.mkfn 110 [(.t 8),(.t 3)])⟩
theorem qT:ad7 Tryz.prog jp 59 iR iQ iO 19 iT [(.cell (.some 9) 6),(.cell .none 7)]:=⟨Tryz.f51,_,_,_,_,_,_,_,Tryz.func51,rfl,by kernel_rfl,by kernel_rfl,by kernel_rfl,by kernel_rfl,by kernel_rfl,rfl,rfl,rfl,rfl,rfl,by kernel_rfl,by kernel_rfl⟩
end Go.Proofs.YtigdjhnndaokjaaGreatDoor
