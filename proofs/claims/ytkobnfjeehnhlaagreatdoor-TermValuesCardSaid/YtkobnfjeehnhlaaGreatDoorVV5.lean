/- Parts of the proof, one behind the other. -/
import Derived.Test.YtkobnfjeehnhlaaGreatDoorProg
import Derived.Test.YtkobnfjeehnhlaaGreatDoorVV3
import Derived.Test.YtkobnfjeehnhlaaGreatDoorVV4
set_option linter.all false
namespace Go.Proofs.YtkobnfjeehnhlaaGreatDoor.Fi
open Go.FI
def gl0:List FV:=A8w (.agg [.agg [.s [],.i .i64 0,.i .i64 0],.agg [.s [],.i .i64 0,.i .i64 0],.agg [.s [],.i .i64 0,.i .i64 0],.agg [.s [110,111,116],.i .i64 1,.i .i64 1],.agg [.s [110,101,103],.i .i64 1,.i .i64 1],.agg [.s [97,100,100],.i .i64 2,.i .i64 1],.agg [.s [115,117,98],.i .i64 2,.i .i64 1],.agg [.s [109,117,108],.i .i64 2,.i .i64 1],.agg [.s [97,110,100],.i .i64 2,.i .i64 1],.agg [.s [111,114],.i .i64 2,.i .i64 1],.agg [.s [120,111,114],.i .i64 2,.i .i64 1],.agg [.s [115,104,108],.i .i64 2,.i .i64 1],.agg [.s [115,104,114],.i .i64 2,.i .i64 1],.agg [.s [115,97,114],.i .i64 2,.i .i64 1],.agg [.s [117,100,105,118],.i .i64 2,.i .i64 1],.agg [.s [117,114,101,109],.i .i64 2,.i .i64 1],.agg [.s [101,113],.i .i64 2,.i .i64 2],.agg [.s [117,108,116],.i .i64 2,.i .i64 2],.agg [.s [115,108,116],.i .i64 2,.i .i64 2],.agg [.s [105,116,101],.i .i64 3,.i .i64 3],.agg [.s [99,111,110,99,97,116],.i .i64 2,.i .i64 4],.agg [.s [101,120,116,114,97,99,116],.i .i64 1,.i .i64 5],.agg [.s [122,101,120,116],.i .i64 1,.i .i64 6],.agg [.s [115,101,120,116],.i .i64 1,.i .i64 6],.agg [.s [108,111,97,100],.i .i64 1,.i .i64 7]]:Dt)
def c3:FI.Fn:={ body:=(.sq (.rg none [Qo 6 (.bx 6 (.t 0)),Qo 12 (.mv (.c (.bool false)))] [1,2,3,4,5,6]) (.sq (.sq (.rg none [Qo 21 (.ld (some 6) (.t 6)),Qo 22 (.cl 9 [(.t 21)]),Mv 23 22,Gm 24 23 false 1,Gm 25 23 false 2,Gd 26 23 false (.cl 10 [(.t 24),(.t 25)]),Qo 27 (.pk (.t 23) (.c (.bool true)) (.t 26))] [1,2,3,4,5,6,27]) (.cd (.t 27) (.sq (.rg none [Qo 12 (.mv (.c (.bool true)))] [12]) .rt) .sk)) (.sq (.rg none [Qo 29 (.ld (some 6) (.t 6)),Mv 30 1,Mv 31 2,Qo 32 (.cl 11 [(.t 29),(.t 30),(.t 31)]),Mv 28 32,Qo 33 (.ex (.t 28) 0),Qo 34 (.ex (.t 28) 1),Mv 13 33,Mv 14 34] [1,2,3,4,5,6,13,14]) (.sq (.rg none [Qo 36 (.ld (some 6) (.t 6)),Mv 37 1,Mv 38 2,Qo 39 (.cl 12 [(.t 36),(.t 37),(.t 38)]),Mv 35 39,Qo 40 (.ex (.t 35) 0),Qo 41 (.ex (.t 35) 1),Mv 15 40,Mv 16 41] [1,2,3,4,5,13,14,15,16]) (.sq (.rg none [Mv 43 2,Mv 44 3,Mv 45 4,Mv 46 5,Qo 47 (.cl 13 [(.t 43),(.t 44),(.t 45),(.t 46)]),Mv 42 47,Qo 48 (.ex (.t 42) 0),Qo 49 (.ex (.t 42) 1),Mv 17 48,Mv 18 49] [1,2,3,4,5,13,14,15,16,17,18]) (.sq (.rg none [Mv 51 2,Mv 52 3,Mv 53 4,Mv 54 5,Qo 55 (.cl 14 [(.t 51),(.t 52),(.t 53),(.t 54)]),Mv 50 55,Qo 56 (.ex (.t 50) 0),Qo 57 (.ex (.t 50) 1),Mv 19 56,Mv 20 57] [1,2,13,14,15,16,17,18,19,20]) (.sq (.rg none [Mv 58 13,Mv 59 15,Qo 60 (.bo .eql (.t 58) (.t 59)),Mv 61 60,Gm 62 61 true 14,Gm 63 61 true 16,Gd 64 61 true (.bo .eql (.t 62) (.t 63)),Qo 65 (.pk (.t 61) (.t 64) (.c (.bool false))),Mv 66 65,Gm 67 66 true 17,Gm 68 66 true 19,Gd 69 66 true (.bo .eql (.t 67) (.t 68)),Qo 70 (.pk (.t 66) (.t 69) (.c (.bool false))),Mv 71 70,Gm 72 71 true 18,Gm 73 71 true 20,Gd 74 71 true (.bo .eql (.t 72) (.t 73)),Qo 75 (.pk (.t 71) (.t 74) (.c (.bool false))),Mv 76 75,Gm 77 76 true 2,Gd 78 76 true (.cl 15 [(.t 77)]),Gm 79 76 true 2,Gd 80 76 true (.cl 16 [(.t 79)]),Gd 81 76 true (.bo .eql (.t 78) (.t 80)),Qo 82 (.pk (.t 76) (.t 81) (.c (.bool false))),Mv 83 82,Gm 84 83 true 1,Gd 85 83 true (.cl 17 [(.t 84)]),Gm 86 83 true 1,Gd 87 83 true (.cl 18 [(.t 86)]),Gd 88 83 true (.bo .eql (.t 85) (.t 87)),Qo 89 (.pk (.t 83) (.t 88) (.c (.bool false))),Mv 12 89] [12]) .rt))))))),np:=6,res:=[.t 12],mode:=.iso }
def c9:FI.Fn:={ body:=(.sq (.rg none [Qo 1 (.bx 6 (.t 0)),Qo 2 (.mv (.c (.bool false)))] [1]) (.sq (.rg none [Qo 6 (.ld (some 6) (.t 1)),Qo 7 (.cl 39 [(.t 6),(.c (.int .i64 500)),(.c (.int .i64 80))]),Mv 5 7,Qo 8 (.ex (.t 5) 0),Qo 9 (.ex (.t 5) 1),Mv 3 8,Mv 4 9] [1,3,4]) (.sq (.rg none [Mv 10 4,Qo 11 (.un .not (.t 10)),Mv 12 11,Gm 13 12 false 3,Gd 14 12 false (.bo .gtr (.t 13) (.c (.int .i64 500))),Qo 15 (.pk (.t 12) (.c (.bool true)) (.t 14)),Mv 16 15,Gd 17 16 false (.ld (some 6) (.t 1)),Gd 18 16 false (.cl 40 [(.t 17)]),Qo 19 (.pk (.t 16) (.c (.bool true)) (.t 18)),Mv 2 19] [2]) .rt))),np:=1,res:=[.t 2],mode:=.iso }
def b10_0:C:=(.sq (.sq (.rg none [Mv 14 5,Mv 15 0,Qo 16 (.ln 1 (.t 15)),Qo 17 (.bo .lss (.t 14) (.t 16))] [0,5,17]) (.cd (.t 17) .sk (.xt 0))) (.sq (.bl 1 (.sq (.rg none [Mv 20 0,Mv 21 5,Qo 22 (.ia 3 (.t 20) (.t 21)),Qo 23 (.fa 0 (.t 22)),Qo 24 (.ld none (.t 23)),Qo 25 (.ln 0 (.t 24)),Qo 26 (.bo .gtr (.t 25) (.c (.int .i64 200)))] [0,5,26]) (.cd (.t 26) (.sq (.rg none [Qo 4 (.mv (.c (.bool true)))] [4]) .rt) .sk))) (.rg none [Mv 18 5,Qo 19 (.bo .add (.t 18) (.c (.int .i64 1))),Mv 5 19] [0,5])))
def k10_1:C:=(.sq (.rg none [Qo 4 (.mv (.c (.bool false)))] [4]) .rt)
def c10:FI.Fn:={ body:=(.sq (.rg none [Qo 4 (.mv (.c (.bool false)))] [0,1]) (.sq (.sq (.rg none [Mv 6 0,Qo 7 (.ln 1 (.t 6)),Qo 8 (.bo .gtr (.t 7) (.c (.int .i64 1100))),Mv 9 8,Gm 10 9 false 1,Gd 11 9 false (.ln 1 (.t 10)),Gd 12 9 false (.bo .gtr (.t 11) (.c (.int .i64 4200))),Qo 13 (.pk (.t 9) (.c (.bool true)) (.t 12))] [0,13]) (.cd (.t 13) (.sq (.rg none [Qo 4 (.mv (.c (.bool true)))] [4]) .rt) .sk)) (.sq (.sq (.rg none [Qo 5 (.mv (.c (.int .i64 0)))] [0,5]) (.bl 0 (.lp true b10_0))) k10_1))),np:=2,res:=[.t 4],mode:=.iso }
def b11_0:C:=(.sq (.rg none [Qo 39 (.bo .lss (.t 38) (.t 37))] [1,2,3,12,36,37,38,39]) (.sq (.cd (.t 39) .sk (.xt 0)) (.sq (.bl 1 (.sq (.rg none [Qo 40 (.ia 3 (.t 36) (.t 38)),Qo 41 (.ld (some 3) (.t 40)),Qo 14 (.al 3 (.agg [(.str []),(.int .i64 0),(.int .u64 0)])),Eo (.st 3 (.t 14) (.t 41))] [1,2,3,12,14,36,37,38]) (.sq (.rg none [Mv 43 1,Qo 44 (.fa 0 (.t 14)),Qo 45 (.ld none (.t 44)),Qo 46 (.cl 41 [(.t 43),(.t 45),(.c (.fn 42 []))]),Mv 42 46,Qo 47 (.ex (.t 42) 0),Qo 48 (.ex (.t 42) 1),Mv 15 47,Mv 16 48] [1,2,3,12,14,15,16,36,37,38]) (.sq (.sq (.rg none [Mv 49 16,Qo 50 (.un .not (.t 49))] [1,2,3,12,14,15,36,37,38,50]) (.cd (.t 50) (.sq (.rg none [Qo 6 (.mv (.c (.int .u64 0))),Qo 7 (.mv (.c (.int .i64 16)))] [6,7]) .rt) .sk)) (.sq (.sq (.rg (some (List.range 8)) [Mv 51 1,Mv 52 15,Qo 53 (.ia 3 (.t 51) (.t 52)),Qo 54 (.fa 1 (.t 53)),Qo 55 (.ld none (.t 54)),Qo 56 (.fa 1 (.t 14)),Qo 57 (.ld none (.t 56)),Qo 58 (.bo .neq (.t 55) (.t 57))] [1,2,3,12,14,15,36,37,38,58]) (.cd (.t 58) (.sq (.rg none [Qo 6 (.mv (.c (.int .u64 0))),Qo 7 (.mv (.c (.int .i64 14)))] [6,7]) .rt) .sk)) (.rg (some (List.range 9)) [Mv 59 12,Qo 60 (.fa 0 (.t 14)),Qo 61 (.ld none (.t 60)),Mv 62 1,Mv 63 15,Qo 64 (.ia 3 (.t 62) (.t 63)),Qo 65 (.fa 2 (.t 64)),Qo 66 (.ld none (.t 65)),Eo (.mu 1 (.t 59) (.t 61) (.t 66))] [1,2,3,12,36,37,38])))))) (.rg none [Qo 67 (.bo .add (.t 38) (.c (.int .i64 1))),Mv 38 67] [1,2,3,12,36,37,38]))))
def k11_1:C:=(.sq (.rg none [Qo 68 (.ld (some 6) (.t 3)),Mv 69 12,Mv 70 2,Qo 71 (.cl 44 [(.t 68),(.t 69),(.t 70)]),Mv 6 71,Qo 7 (.mv (.c (.int .i64 0)))] [6,7]) .rt)
def c11:FI.Fn:={ body:=(.sq (.rg none [Qo 3 (.bx 6 (.t 0)),Qo 6 (.mv (.c (.int .u64 0))),Qo 7 (.mv (.c (.int .i64 0)))] [1,2,3]) (.sq (.rg none [Qo 18 (.ld (some 6) (.t 3)),Qo 19 (.cl 27 [(.t 18)]),Mv 17 19,Qo 20 (.ex (.t 17) 0),Qo 21 (.ex (.t 17) 1),Mv 8 20,Mv 9 21] [1,2,3,8,9]) (.sq (.sq (.rg none [Mv 22 9,Qo 23 (.bo .neq (.t 22) (.c (.int .i64 0)))] [1,2,3,8,9,23]) (.cd (.t 23) (.sq (.rg none [Mv 24 9,Qo 6 (.mv (.c (.int .u64 0))),Mv 7 24] [6,7]) .rt) .sk)) (.sq (.sq (.rg none [Mv 25 1,Qo 26 (.cl 17 [(.t 25)]),Mv 10 26] [1,2,3,8,10]) (.sq (.rg none [Mv 27 10,Qo 28 (.bo .neq (.t 27) (.c (.int .i64 0)))] [1,2,3,8,10,28]) (.cd (.t 28) (.sq (.rg none [Mv 29 10,Qo 6 (.mv (.c (.int .u64 0))),Mv 7 29] [6,7]) .rt) .sk))) (.sq (.sq (.rg none [Mv 30 2,Qo 31 (.cl 15 [(.t 30)]),Mv 11 31] [1,2,3,8,11]) (.sq (.rg none [Mv 32 11,Qo 33 (.bo .neq (.t 32) (.c (.int .i64 0)))] [1,2,3,8,11,33]) (.cd (.t 33) (.sq (.rg none [Mv 34 11,Qo 6 (.mv (.c (.int .u64 0))),Mv 7 34] [6,7]) .rt) .sk))) (.sq (.rg none [Qo 35 (.mm),Mv 12 35] [1,2,3,8,12]) (.sq (.sq (.rg none [Mv 36 8,Qo 37 (.ln 1 (.t 36)),Qo 38 (.mv (.c (.int .i64 0)))] [1,2,3,12,36,37,38]) (.bl 0 (.lp true b11_0))) k11_1))))))),np:=3,res:=[.t 6,.t 7],mode:=.isf }
def b12_0:C:=(.sq (.sq (.rg none [Mv 31 10,Mv 32 8,Qo 33 (.ln 1 (.t 32)),Qo 34 (.bo .lss (.t 31) (.t 33))] [1,2,3,8,10,34]) (.cd (.t 34) .sk (.xt 1))) (.sq (.bl 2 (.sq (.rg none [Mv 38 1,Mv 39 8,Mv 40 10,Qo 41 (.ia 3 (.t 39) (.t 40)),Qo 42 (.fa 0 (.t 41)),Qo 43 (.ld none (.t 42)),Qo 44 (.cl 46 [(.t 38),(.t 43)]),Mv 37 44,Qo 45 (.ex (.t 37) 0),Qo 46 (.ex (.t 37) 1),Qo 11 (.al 3 (.agg [(.str []),(.int .i64 0),(.int .u64 0)])),Eo (.st 3 (.t 11) (.t 45)),Mv 12 46] [1,2,3,8,10,11,12]) (.sq (.sq (.rg none [Mv 47 12,Qo 48 (.un .not (.t 47))] [1,2,3,8,10,11,48]) (.cd (.t 48) (.sq (.rg none [Qo 6 (.mv (.c (.int .u64 0))),Qo 7 (.mv (.c (.int .i64 16)))] [6,7]) .rt) .sk)) (.sq (.rg (some (List.range 8)) [Qo 49 (.fa 1 (.t 11)),Qo 50 (.ld none (.t 49)),Mv 51 8,Mv 52 10,Qo 53 (.ia 3 (.t 51) (.t 52)),Qo 54 (.fa 1 (.t 53)),Qo 55 (.ld none (.t 54)),Qo 56 (.bo .neq (.t 50) (.t 55))] [1,2,3,8,10,56]) (.cd (.t 56) (.sq (.rg none [Qo 6 (.mv (.c (.int .u64 0))),Qo 7 (.mv (.c (.int .i64 14)))] [6,7]) .rt) .sk))))) (.rg none [Mv 35 10,Qo 36 (.bo .add (.t 35) (.c (.int .i64 1))),Mv 10 36] [1,2,3,8,10])))
def k12_1:C:=(.sq (.rg none [Qo 57 (.ld (some 6) (.t 3)),Mv 58 1,Mv 59 2,Qo 60 (.cl 47 [(.t 57),(.t 58),(.t 59)]),Mv 6 60,Qo 7 (.mv (.c (.int .i64 0)))] [6,7]) .rt)
def c12:FI.Fn:={ body:=(.sq (.rg none [Qo 3 (.bx 6 (.t 0)),Qo 6 (.mv (.c (.int .u64 0))),Qo 7 (.mv (.c (.int .i64 0)))] [1,2,3]) (.sq (.rg none [Qo 14 (.ld (some 6) (.t 3)),Qo 15 (.cl 45 [(.t 14)]),Mv 13 15,Qo 16 (.ex (.t 13) 0),Qo 17 (.ex (.t 13) 1),Mv 8 16,Mv 9 17] [1,2,3,8,9]) (.sq (.bl 0 (.sq (.rg none [Mv 19 9,Qo 20 (.bo .neq (.t 19) (.c (.int .i64 0))),Mv 18 20] [1,2,3,8,9,18]) (.cd (.t 18) (.sq (.rg none [Mv 21 9,Qo 6 (.mv (.c (.int .u64 0))),Mv 7 21] [6,7]) .rt) (.sq (.rg none [Mv 23 1,Qo 24 (.cl 18 [(.t 23)]),Qo 25 (.bo .neq (.t 24) (.c (.int .i64 0))),Mv 26 25,Gm 27 26 false 2,Gd 28 26 false (.cl 16 [(.t 27)]),Gd 29 26 false (.bo .neq (.t 28) (.c (.int .i64 0))),Qo 30 (.pk (.t 26) (.c (.bool true)) (.t 29)),Mv 22 30] [1,2,3,8,22]) (.cd (.t 22) (.sq (.rg none [Qo 6 (.mv (.c (.int .u64 0))),Qo 7 (.mv (.c (.int .i64 8)))] [6,7]) .rt) .sk))))) (.sq (.sq (.rg none [Qo 10 (.mv (.c (.int .i64 0)))] [1,2,3,8,10]) (.bl 1 (.lp true b12_0))) k12_1)))),np:=3,res:=[.t 6,.t 7],mode:=.iso }
def c13:FI.Fn:={ body:=(.sq (.rg none [Qo 8 (.mv (.c (.int .u64 0))),Qo 9 (.mv (.c (.int .i64 0)))] [0,1,2,3]) (.sq (.sq (.rg none [Mv 11 0,Qo 12 (.cl 15 [(.t 11)]),Mv 10 12] [0,1,2,3,10]) (.sq (.rg none [Mv 13 10,Qo 14 (.bo .neq (.t 13) (.c (.int .i64 0)))] [0,1,2,3,10,14]) (.cd (.t 14) (.sq (.rg none [Mv 15 10,Qo 8 (.mv (.c (.int .u64 0))),Mv 9 15] [8,9]) .rt) .sk))) (.sq (.sq (.rg none [Mv 16 1,Qo 17 (.cl 48 [(.t 16)]),Qo 18 (.un .not (.t 17)),Mv 19 18,Gm 20 19 false 3,Gd 21 19 false (.cl 49 [(.t 20)]),Gd 22 19 false (.un .not (.t 21)),Qo 23 (.pk (.t 19) (.c (.bool true)) (.t 22))] [0,1,2,3,23]) (.cd (.t 23) (.sq (.rg none [Qo 8 (.mv (.c (.int .u64 0))),Qo 9 (.mv (.c (.int .i64 14)))] [8,9]) .rt) .sk)) (.sq (.sq (.rg none [Mv 24 1,Mv 25 2,Qo 26 (.cl 20 [(.t 24),(.t 25)]),Qo 27 (.un .not (.t 26))] [0,1,2,3,27]) (.cd (.t 27) (.sq (.rg none [Qo 8 (.mv (.c (.int .u64 0))),Qo 9 (.mv (.c (.int .i64 8)))] [8,9]) .rt) .sk)) (.sq (.rg none [Mv 28 0,Mv 29 1,Mv 30 2,Mv 31 3,Qo 32 (.cl 50 [(.t 28),(.t 29),(.t 30),(.t 31)]),Mv 8 32,Qo 9 (.mv (.c (.int .i64 0)))] [8,9]) .rt))))),np:=4,res:=[.t 8,.t 9],mode:=.iso }
def c14:FI.Fn:={ body:=(.sq (.rg none [Qo 8 (.mv (.c (.int .u64 0))),Qo 9 (.mv (.c (.int .i64 0)))] [0,1,2,3]) (.sq (.sq (.rg none [Mv 10 0,Qo 11 (.cl 16 [(.t 10)]),Qo 12 (.bo .neq (.t 11) (.c (.int .i64 0)))] [0,1,2,3,12]) (.cd (.t 12) (.sq (.rg none [Qo 8 (.mv (.c (.int .u64 0))),Qo 9 (.mv (.c (.int .i64 8)))] [8,9]) .rt) .sk)) (.sq (.sq (.rg none [Mv 13 1,Qo 14 (.cl 51 [(.t 13)]),Qo 15 (.un .not (.t 14)),Mv 16 15,Gm 17 16 false 3,Gd 18 16 false (.cl 52 [(.t 17)]),Gd 19 16 false (.un .not (.t 18)),Qo 20 (.pk (.t 16) (.c (.bool true)) (.t 19))] [0,1,2,3,20]) (.cd (.t 20) (.sq (.rg none [Qo 8 (.mv (.c (.int .u64 0))),Qo 9 (.mv (.c (.int .i64 14)))] [8,9]) .rt) .sk)) (.sq (.sq (.rg none [Mv 21 1,Mv 22 2,Qo 23 (.cl 53 [(.t 21),(.t 22)]),Qo 24 (.un .not (.t 23))] [0,1,2,3,24]) (.cd (.t 24) (.sq (.rg none [Qo 8 (.mv (.c (.int .u64 0))),Qo 9 (.mv (.c (.int .i64 8)))] [8,9]) .rt) .sk)) (.sq (.rg none [Mv 25 0,Mv 26 1,Mv 27 2,Mv 28 3,Qo 29 (.cl 54 [(.t 25),(.t 26),(.t 27),(.t 28)]),Mv 8 29,Qo 9 (.mv (.c (.int .i64 0)))] [8,9]) .rt))))),np:=4,res:=[.t 8,.t 9],mode:=.iso }
def b15_0:C:=(.sq (.rg none [Qo 11 (.bo .lss (.t 10) (.t 9))] [0,8,9,10,11]) (.sq (.cd (.t 11) .sk (.xt 0)) (.sq (.bl 1 (.sq (.rg none [Mv 12 10,Qo 13 (.ia 2 (.t 8) (.t 10)),Qo 14 (.ld (some 2) (.t 13)),Qo 4 (.al 2 (.agg [(.int .u64 0),(.int .u8 0)])),Mv 3 12,Eo (.st 2 (.t 4) (.t 14))] [0,3,4,8,9,10]) (.sq (.rg (some (List.range 18)) [Qo 15 (.fa 1 (.t 4)),Qo 16 (.ld none (.t 15)),Qo 17 (.bo .eql (.t 16) (.c (.int .u8 0))),Mv 18 17,Gm 19 18 false 3,Gd 20 18 false (.bo .gtr (.t 19) (.c (.int .i64 0))),Gm 21 18 false 20,Gm 22 21 true 0,Gm 23 21 true 3,Gd 24 21 true (.bo .sub (.t 23) (.c (.int .i64 1))),Gd 25 21 true (.ia 2 (.t 22) (.t 24)),Gd 26 21 true (.fa 0 (.t 25)),Gd 27 21 true (.ld none (.t 26)),Gd 28 21 true (.fa 0 (.t 4)),Gd 29 21 true (.ld none (.t 28)),Gd 30 21 true (.bo .geq (.t 27) (.t 29)),Gd 31 18 false (.pk (.t 21) (.t 30) (.c (.bool false))),Qo 32 (.pk (.t 18) (.c (.bool true)) (.t 31))] [0,8,9,10,32]) (.cd (.t 32) (.sq (.rg none [Qo 2 (.mv (.c (.int .i64 8)))] [2]) .rt) .sk)))) (.rg none [Qo 33 (.bo .add (.t 10) (.c (.int .i64 1))),Mv 10 33] [0,8,9,10]))))
def k15_1:C:=(.sq (.rg none [Qo 2 (.mv (.c (.int .i64 0)))] [2]) .rt)
def c15:FI.Fn:={ body:=(.sq (.rg none [Qo 2 (.mv (.c (.int .i64 0)))] [0]) (.sq (.sq (.rg none [Mv 5 0,Qo 6 (.ln 1 (.t 5)),Qo 7 (.bo .gtr (.t 6) (.c (.int .i64 4096)))] [0,7]) (.cd (.t 7) (.sq (.rg none [Qo 2 (.mv (.c (.int .i64 8)))] [2]) .rt) .sk)) (.sq (.sq (.rg none [Mv 8 0,Qo 9 (.ln 1 (.t 8)),Qo 10 (.mv (.c (.int .i64 0)))] [0,8,9,10]) (.bl 0 (.lp true b15_0))) k15_1))),np:=1,res:=[.t 2],mode:=.iso }
def b16_0:C:=(.sq (.sq (.rg none [Mv 7 3,Mv 8 0,Qo 9 (.ln 1 (.t 8)),Qo 10 (.bo .lss (.t 7) (.t 9))] [0,3,10]) (.cd (.t 10) .sk (.xt 0))) (.sq (.bl 1 (.sq (.rg (some (List.range 24)) [Mv 13 0,Mv 14 3,Qo 15 (.ia 2 (.t 13) (.t 14)),Qo 16 (.fa 1 (.t 15)),Qo 17 (.ld none (.t 16)),Qo 18 (.bo .eql (.t 17) (.c (.int .u8 0))),Mv 19 18,Gm 20 19 false 3,Gd 21 19 false (.bo .gtr (.t 20) (.c (.int .i64 0))),Gm 22 19 false 21,Gm 23 22 true 0,Gm 24 22 true 3,Gd 25 22 true (.ia 2 (.t 23) (.t 24)),Gd 26 22 true (.fa 0 (.t 25)),Gd 27 22 true (.ld none (.t 26)),Gm 28 22 true 0,Gm 29 22 true 3,Gd 30 22 true (.bo .sub (.t 29) (.c (.int .i64 1))),Gd 31 22 true (.ia 2 (.t 28) (.t 30)),Gd 32 22 true (.fa 0 (.t 31)),Gd 33 22 true (.ld none (.t 32)),Gd 34 22 true (.bo .leq (.t 27) (.t 33)),Gd 35 19 false (.pk (.t 22) (.t 34) (.c (.bool false))),Qo 36 (.pk (.t 19) (.c (.bool true)) (.t 35))] [0,3,36]) (.cd (.t 36) (.sq (.rg none [Qo 2 (.mv (.c (.int .i64 8)))] [2]) .rt) .sk))) (.rg none [Mv 11 3,Qo 12 (.bo .add (.t 11) (.c (.int .i64 1))),Mv 3 12] [0,3])))
def k16_1:C:=(.sq (.rg none [Qo 2 (.mv (.c (.int .i64 0)))] [2]) .rt)
def c16:FI.Fn:={ body:=(.sq (.rg none [Qo 2 (.mv (.c (.int .i64 0)))] [0]) (.sq (.sq (.rg none [Mv 4 0,Qo 5 (.ln 1 (.t 4)),Qo 6 (.bo .gtr (.t 5) (.c (.int .i64 4096)))] [0,6]) (.cd (.t 6) (.sq (.rg none [Qo 2 (.mv (.c (.int .i64 8)))] [2]) .rt) .sk)) (.sq (.sq (.rg none [Qo 3 (.mv (.c (.int .i64 0)))] [0,3]) (.bl 0 (.lp true b16_0))) k16_1))),np:=1,res:=[.t 2],mode:=.iso }
def b17_0:C:=(.sq (.rg none [Qo 11 (.bo .lss (.t 10) (.t 9))] [0,8,9,10,11]) (.sq (.cd (.t 11) .sk (.xt 0)) (.sq (.bl 1 (.sq (.rg none [Mv 12 10,Qo 13 (.ia 3 (.t 8) (.t 10)),Qo 14 (.ld (some 3) (.t 13)),Qo 4 (.al 3 (.agg [(.str []),(.int .i64 0),(.int .u64 0)])),Mv 3 12,Eo (.st 3 (.t 4) (.t 14))] [0,3,4,8,9,10]) (.sq (.rg (some (List.range 27)) [Qo 15 (.fa 0 (.t 4)),Qo 16 (.ld none (.t 15)),Qo 17 (.cl 55 [(.t 16)]),Qo 18 (.un .not (.t 17)),Mv 19 18,Gd 20 19 false (.fa 1 (.t 4)),Gd 21 19 false (.ld none (.t 20)),Gd 22 19 false (.fa 2 (.t 4)),Gd 23 19 false (.ld none (.t 22)),Gd 24 19 false (.cl 20 [(.t 21),(.t 23)]),Gd 25 19 false (.un .not (.t 24)),Qo 26 (.pk (.t 19) (.c (.bool true)) (.t 25)),Mv 27 26,Gm 28 27 false 3,Gd 29 27 false (.bo .gtr (.t 28) (.c (.int .i64 0))),Gm 30 27 false 29,Gm 31 30 true 0,Gm 32 30 true 3,Gd 33 30 true (.bo .sub (.t 32) (.c (.int .i64 1))),Gd 34 30 true (.ia 3 (.t 31) (.t 33)),Gd 35 30 true (.fa 0 (.t 34)),Gd 36 30 true (.ld none (.t 35)),Gd 37 30 true (.fa 0 (.t 4)),Gd 38 30 true (.ld none (.t 37)),Gd 39 30 true (.bo .geq (.t 36) (.t 38)),Gd 40 27 false (.pk (.t 30) (.t 39) (.c (.bool false))),Qo 41 (.pk (.t 27) (.c (.bool true)) (.t 40))] [0,8,9,10,41]) (.cd (.t 41) (.sq (.rg none [Qo 2 (.mv (.c (.int .i64 8)))] [2]) .rt) .sk)))) (.rg none [Qo 42 (.bo .add (.t 10) (.c (.int .i64 1))),Mv 10 42] [0,8,9,10]))))
def k17_1:C:=(.sq (.rg none [Qo 2 (.mv (.c (.int .i64 0)))] [2]) .rt)
def c17:FI.Fn:={ body:=(.sq (.rg none [Qo 2 (.mv (.c (.int .i64 0)))] [0]) (.sq (.sq (.rg none [Mv 5 0,Qo 6 (.ln 1 (.t 5)),Qo 7 (.bo .gtr (.t 6) (.c (.int .i64 1000)))] [0,7]) (.cd (.t 7) (.sq (.rg none [Qo 2 (.mv (.c (.int .i64 8)))] [2]) .rt) .sk)) (.sq (.sq (.rg none [Mv 8 0,Qo 9 (.ln 1 (.t 8)),Qo 10 (.mv (.c (.int .i64 0)))] [0,8,9,10]) (.bl 0 (.lp true b17_0))) k17_1))),np:=1,res:=[.t 2],mode:=.iso }
def b18_0:C:=(.sq (.sq (.rg none [Mv 7 3,Mv 8 0,Qo 9 (.ln 1 (.t 8)),Qo 10 (.bo .lss (.t 7) (.t 9))] [0,3,10]) (.cd (.t 10) .sk (.xt 0))) (.sq (.bl 1 (.sq (.rg (some (List.range 39)) [Mv 13 0,Mv 14 3,Qo 15 (.ia 3 (.t 13) (.t 14)),Qo 16 (.fa 0 (.t 15)),Qo 17 (.ld none (.t 16)),Qo 18 (.cl 56 [(.t 17)]),Qo 19 (.un .not (.t 18)),Mv 20 19,Gm 21 20 false 0,Gm 22 20 false 3,Gd 23 20 false (.ia 3 (.t 21) (.t 22)),Gd 24 20 false (.fa 1 (.t 23)),Gd 25 20 false (.ld none (.t 24)),Gm 26 20 false 0,Gm 27 20 false 3,Gd 28 20 false (.ia 3 (.t 26) (.t 27)),Gd 29 20 false (.fa 2 (.t 28)),Gd 30 20 false (.ld none (.t 29)),Gd 31 20 false (.cl 53 [(.t 25),(.t 30)]),Gd 32 20 false (.un .not (.t 31)),Qo 33 (.pk (.t 20) (.c (.bool true)) (.t 32)),Mv 34 33,Gm 35 34 false 3,Gd 36 34 false (.bo .gtr (.t 35) (.c (.int .i64 0))),Gm 37 34 false 36,Gm 38 37 true 0,Gm 39 37 true 3,Gd 40 37 true (.ia 3 (.t 38) (.t 39)),Gd 41 37 true (.fa 0 (.t 40)),Gd 42 37 true (.ld none (.t 41)),Gm 43 37 true 0,Gm 44 37 true 3,Gd 45 37 true (.bo .sub (.t 44) (.c (.int .i64 1))),Gd 46 37 true (.ia 3 (.t 43) (.t 45)),Gd 47 37 true (.fa 0 (.t 46)),Gd 48 37 true (.ld none (.t 47)),Gd 49 37 true (.bo .leq (.t 42) (.t 48)),Gd 50 34 false (.pk (.t 37) (.t 49) (.c (.bool false))),Qo 51 (.pk (.t 34) (.c (.bool true)) (.t 50))] [0,3,51]) (.cd (.t 51) (.sq (.rg none [Qo 2 (.mv (.c (.int .i64 8)))] [2]) .rt) .sk))) (.rg none [Mv 11 3,Qo 12 (.bo .add (.t 11) (.c (.int .i64 1))),Mv 3 12] [0,3])))
def k18_1:C:=(.sq (.rg none [Qo 2 (.mv (.c (.int .i64 0)))] [2]) .rt)
def c18:FI.Fn:={ body:=(.sq (.rg none [Qo 2 (.mv (.c (.int .i64 0)))] [0]) (.sq (.sq (.rg none [Mv 4 0,Qo 5 (.ln 1 (.t 4)),Qo 6 (.bo .gtr (.t 5) (.c (.int .i64 1000)))] [0,6]) (.cd (.t 6) (.sq (.rg none [Qo 2 (.mv (.c (.int .i64 8)))] [2]) .rt) .sk)) (.sq (.sq (.rg none [Qo 3 (.mv (.c (.int .i64 0)))] [0,3]) (.bl 0 (.lp true b18_0))) k18_1))),np:=1,res:=[.t 2],mode:=.iso }
def c20:FI.Fn:={ body:=(.sq (.rg none [Qo 4 (.mv (.c (.bool false)))] [0,1]) (.sq (.rg none [Mv 5 0,Qo 6 (.cl 57 [(.t 5)]),Mv 7 6,Gm 8 7 true 1,Gm 9 7 true 0,Gd 10 7 true (.cl 58 [(.t 9)]),Gd 11 7 true (.bo .leq (.t 8) (.t 10)),Qo 12 (.pk (.t 7) (.t 11) (.c (.bool false))),Mv 4 12] [4]) .rt)),np:=2,res:=[.t 4],mode:=.iso }
def c21:FI.Fn:={ body:=(.sq (.rg none [Qo 6 (.mv (.c (.int .u64 0))),Qo 7 (.mv (.c (.int .i64 0)))] [0,1,2]) (.sq (.sq (.rg none [Mv 9 1,Qo 10 (.cl 57 [(.t 9)]),Qo 11 (.un .not (.t 10))] [0,1,2,11]) (.cd (.t 11) (.sq (.rg none [Qo 6 (.mv (.c (.int .u64 0))),Qo 7 (.mv (.c (.int .i64 14)))] [6,7]) .rt) .sk)) (.sq (.sq (.rg none [Mv 12 0,Qo 13 (.bo .neq (.t 12) (.c (.int .u8 3))),Mv 14 13,Gm 15 14 true 0,Gd 16 14 true (.bo .neq (.t 15) (.c (.int .u8 4))),Qo 17 (.pk (.t 14) (.t 16) (.c (.bool false)))] [0,1,2,17]) (.cd (.t 17) (.sq (.rg none [Qo 6 (.mv (.c (.int .u64 0))),Qo 7 (.mv (.c (.int .i64 2)))] [6,7]) .rt) .sk)) (.sq (.sq (.rg none [Mv 18 1,Mv 19 2,Qo 20 (.bs 1 1 (.int .u64 0) [(0,(.t 19))]),Qo 21 (.cl 59 [(.t 18),(.t 20)]),Mv 8 21] [0,1,2,8]) (.sq (.rg none [Mv 22 8,Qo 23 (.bo .neq (.t 22) (.c (.int .i64 0)))] [0,1,2,8,23]) (.cd (.t 23) (.sq (.rg none [Mv 24 8,Qo 6 (.mv (.c (.int .u64 0))),Mv 7 24] [6,7]) .rt) .sk))) (.sq (.sq (.rg none [Mv 25 0,Qo 26 (.bo .eql (.t 25) (.c (.int .u8 3)))] [1,2,26]) (.cd (.t 26) (.sq (.rg none [Mv 27 2,Qo 28 (.un .xor (.t 27)),Mv 29 1,Qo 30 (.cl 58 [(.t 29)]),Qo 31 (.bo .and (.t 28) (.t 30)),Mv 6 31,Qo 7 (.mv (.c (.int .i64 0)))] [6,7]) .rt) .sk)) (.sq (.rg none [Mv 32 2,Qo 33 (.un .neg (.t 32)),Mv 34 1,Qo 35 (.cl 58 [(.t 34)]),Qo 36 (.bo .and (.t 33) (.t 35)),Mv 6 36,Qo 7 (.mv (.c (.int .i64 0)))] [6,7]) .rt)))))),np:=3,res:=[.t 6,.t 7],mode:=.iso }
def c22:FI.Fn:={ body:=(.sq (.rg none [Qo 8 (.mv (.c (.int .u64 0))),Qo 9 (.mv (.c (.int .i64 0)))] [0,1,2,3]) (.sq (.sq (.rg none [Mv 10 0,Qo 11 (.cl 57 [(.t 10)]),Qo 12 (.un .not (.t 11)),Mv 13 12,Gm 14 13 false 2,Gd 15 13 false (.cl 57 [(.t 14)]),Gd 16 13 false (.un .not (.t 15)),Qo 17 (.pk (.t 13) (.c (.bool true)) (.t 16)),Mv 18 17,Gm 19 18 false 0,Gm 20 18 false 2,Gd 21 18 false (.bo .add (.t 19) (.t 20)),Gd 22 18 false (.cl 57 [(.t 21)]),Gd 23 18 false (.un .not (.t 22)),Qo 24 (.pk (.t 18) (.c (.bool true)) (.t 23))] [0,1,2,3,24]) (.cd (.t 24) (.sq (.rg none [Qo 8 (.mv (.c (.int .u64 0))),Qo 9 (.mv (.c (.int .i64 14)))] [8,9]) .rt) .sk)) (.sq (.sq (.rg none [Mv 25 0,Mv 26 1,Qo 27 (.cl 20 [(.t 25),(.t 26)]),Qo 28 (.un .not (.t 27)),Mv 29 28,Gm 30 29 false 2,Gm 31 29 false 3,Gd 32 29 false (.cl 20 [(.t 30),(.t 31)]),Gd 33 29 false (.un .not (.t 32)),Qo 34 (.pk (.t 29) (.c (.bool true)) (.t 33))] [1,2,3,34]) (.cd (.t 34) (.sq (.rg none [Qo 8 (.mv (.c (.int .u64 0))),Qo 9 (.mv (.c (.int .i64 8)))] [8,9]) .rt) .sk)) (.sq (.rg none [Mv 35 1,Mv 36 2,Qo 37 (.bo .shl (.t 35) (.t 36)),Mv 38 3,Qo 39 (.bo .or (.t 37) (.t 38)),Mv 8 39,Qo 9 (.mv (.c (.int .i64 0)))] [8,9]) .rt)))),np:=4,res:=[.t 8,.t 9],mode:=.iso }
def c23:FI.Fn:={ body:=(.sq (.rg none [Qo 8 (.mv (.c (.int .u64 0))),Qo 9 (.mv (.c (.int .i64 0)))] [0,1,2,3]) (.sq (.sq (.rg none [Mv 11 0,Mv 12 1,Qo 13 (.bs 1 1 (.int .u64 0) [(0,(.t 12))]),Qo 14 (.cl 59 [(.t 11),(.t 13)]),Mv 10 14] [0,1,2,3,10]) (.sq (.rg none [Mv 15 10,Qo 16 (.bo .neq (.t 15) (.c (.int .i64 0)))] [0,1,2,3,10,16]) (.cd (.t 16) (.sq (.rg none [Mv 17 10,Qo 8 (.mv (.c (.int .u64 0))),Mv 9 17] [8,9]) .rt) .sk))) (.sq (.sq (.rg none [Mv 18 2,Qo 19 (.bo .lss (.t 18) (.c (.int .i64 0))),Mv 20 19,Gm 21 20 false 3,Gd 22 20 false (.bo .lss (.t 21) (.c (.int .i64 1))),Qo 23 (.pk (.t 20) (.c (.bool true)) (.t 22)),Mv 24 23,Gm 25 24 false 3,Gm 26 24 false 0,Gd 27 24 false (.bo .gtr (.t 25) (.t 26)),Qo 28 (.pk (.t 24) (.c (.bool true)) (.t 27)),Mv 29 28,Gm 30 29 false 2,Gm 31 29 false 0,Gm 32 29 false 3,Gd 33 29 false (.bo .sub (.t 31) (.t 32)),Gd 34 29 false (.bo .gtr (.t 30) (.t 33)),Qo 35 (.pk (.t 29) (.c (.bool true)) (.t 34))] [1,2,3,35]) (.cd (.t 35) (.sq (.rg none [Qo 8 (.mv (.c (.int .u64 0))),Qo 9 (.mv (.c (.int .i64 2)))] [8,9]) .rt) .sk)) (.sq (.rg (some (List.range 8)) [Mv 36 1,Mv 37 2,Qo 38 (.bo .shr (.t 36) (.t 37)),Mv 39 3,Qo 40 (.cl 58 [(.t 39)]),Qo 41 (.bo .and (.t 38) (.t 40)),Mv 8 41,Qo 9 (.mv (.c (.int .i64 0)))] [8,9]) .rt)))),np:=4,res:=[.t 8,.t 9],mode:=.iso }
def c24:FI.Fn:={ body:=(.sq (.rg none [Qo 8 (.mv (.c (.int .u64 0))),Qo 9 (.mv (.c (.int .i64 0)))] [0,1,2,3]) (.sq (.sq (.rg none [Mv 11 0,Qo 12 (.cl 57 [(.t 11)]),Qo 13 (.un .not (.t 12)),Mv 14 13,Gm 15 14 false 2,Gd 16 14 false (.cl 57 [(.t 15)]),Gd 17 14 false (.un .not (.t 16)),Qo 18 (.pk (.t 14) (.c (.bool true)) (.t 17)),Mv 19 18,Gm 20 19 false 2,Gm 21 19 false 0,Gd 22 19 false (.bo .lss (.t 20) (.t 21)),Qo 23 (.pk (.t 19) (.c (.bool true)) (.t 22))] [0,1,2,3,23]) (.cd (.t 23) (.sq (.rg none [Qo 8 (.mv (.c (.int .u64 0))),Qo 9 (.mv (.c (.int .i64 14)))] [8,9]) .rt) .sk)) (.sq (.sq (.rg none [Mv 24 0,Mv 25 1,Qo 26 (.bs 1 1 (.int .u64 0) [(0,(.t 25))]),Qo 27 (.cl 59 [(.t 24),(.t 26)]),Mv 10 27] [0,1,2,3,10]) (.sq (.rg none [Mv 28 10,Qo 29 (.bo .neq (.t 28) (.c (.int .i64 0)))] [0,1,2,3,10,29]) (.cd (.t 29) (.sq (.rg none [Mv 30 10,Qo 8 (.mv (.c (.int .u64 0))),Mv 9 30] [8,9]) .rt) .sk))) (.sq (.sq (.rg none [Mv 31 3] [0,1,2,31]) (.cd (.t 31) (.rg none [Mv 32 0,Mv 33 1,Qo 34 (.cl 60 [(.t 32),(.t 33)]),Qo 35 (.cv .u64 (.t 34)),Mv 36 2,Qo 37 (.cl 58 [(.t 36)]),Qo 38 (.bo .and (.t 35) (.t 37)),Mv 1 38] [1]) .sk)) (.sq (.rg none [Mv 39 1,Mv 8 39,Qo 9 (.mv (.c (.int .i64 0)))] [8,9]) .rt))))),np:=4,res:=[.t 8,.t 9],mode:=.iso }
def c25:FI.Fn:={ body:=(.sq (.rg none [Qo 8 (.mv (.c (.int .u64 0))),Qo 9 (.mv (.c (.int .i64 0)))] [0,1,2,3]) (.sq (.sq (.rg none [Mv 11 1,Qo 12 (.cl 57 [(.t 11)]),Qo 13 (.un .not (.t 12))] [0,1,2,3,13]) (.cd (.t 13) (.sq (.rg none [Qo 8 (.mv (.c (.int .u64 0))),Qo 9 (.mv (.c (.int .i64 14)))] [8,9]) .rt) .sk)) (.sq (.sq (.rg none [Mv 14 0,Qo 15 (.bo .lss (.t 14) (.c (.int .u8 5))),Mv 16 15,Gm 17 16 false 0,Gd 18 16 false (.bo .gtr (.t 17) (.c (.int .u8 18))),Qo 19 (.pk (.t 16) (.c (.bool true)) (.t 18))] [0,1,2,3,19]) (.cd (.t 19) (.sq (.rg none [Qo 8 (.mv (.c (.int .u64 0))),Qo 9 (.mv (.c (.int .i64 2)))] [8,9]) .rt) .sk)) (.sq (.sq (.rg none [Mv 20 1,Mv 21 2,Mv 22 3,Qo 23 (.bs 1 2 (.int .u64 0) [(0,(.t 21)),(1,(.t 22))]),Qo 24 (.cl 59 [(.t 20),(.t 23)]),Mv 10 24] [0,1,2,3,10]) (.sq (.rg none [Mv 25 10,Qo 26 (.bo .neq (.t 25) (.c (.int .i64 0)))] [0,1,2,3,10,26]) (.cd (.t 26) (.sq (.rg none [Mv 27 10,Qo 8 (.mv (.c (.int .u64 0))),Mv 9 27] [8,9]) .rt) .sk))) (.sq (.rg none [Mv 28 0,Qo 29 (.cl 61 [(.t 28)]),Mv 30 1,Mv 31 2,Mv 32 3,Qo 33 (.cw (.t 29) [(.t 30),(.t 31),(.t 32)]),Mv 34 1,Qo 35 (.cl 58 [(.t 34)]),Qo 36 (.bo .and (.t 33) (.t 35)),Mv 8 36,Qo 9 (.mv (.c (.int .i64 0)))] [8,9]) .rt))))),np:=4,res:=[.t 8,.t 9],mode:=.iso }
def b27_0:C:=(.rg none [Mv 27 7,Mv 28 8,Mv 29 9,Qo 30 (.bd [(.str []),(.int .i64 0),(.int .u64 0)] [(0,1,(.t 28)),(1,1,(.t 29))]),Qo 31 (.bs 3 1 (.agg [(.str []),(.int .i64 0),(.int .u64 0)]) [(0,(.t 30))]),Qo 32 (.ap 3 32 (.t 27) (.t 31)),Mv 7 32] [2,3,7,21])
def k27_1:C:=(.sq (.rg none [Mv 33 7,Qo 34 (.cl 66 [(.t 33),(.c (.fn 67 []))])] [2,3,7]) (.sq (.rg none [Mv 35 7,Mv 2 35,Qo 3 (.mv (.c (.int .i64 0)))] [2,3]) .rt))
def c27:FI.Mr:={ pre:=[(.rg none [Qo 1 (.bx 6 (.t 0)),Qo 2 (.mv (.c (.lst true []))),Qo 3 (.mv (.c (.int .i64 0)))] [1,2,3]),(.sq (.rg none [Qo 10 (.ld (some 6) (.t 1)),Qo 11 (.cl 31 [(.t 10)]),Mv 4 11] [1,2,3,4]) (.sq (.rg none [Mv 12 4,Qo 13 (.bo .neq (.t 12) (.c (.int .i64 0)))] [1,2,3,4,13]) (.cd (.t 13) (.sq (.rg none [Mv 14 4,Qo 2 (.mv (.c (.lst true []))),Mv 3 14] [2,3]) .rt) .sk))),(.rg none [Qo 16 (.ld (some 6) (.t 1)),Qo 17 (.cl 62 [(.t 16)]),Mv 15 17,Qo 18 (.ex (.t 15) 0),Qo 19 (.ex (.t 15) 1),Mv 5 18,Mv 6 19] [2,3,5]),(.rg none [Qo 7 (.nl 3)] [2,3,5,7])],keep0:=[2,3,7,21],mp:=5,it:=21,d:=24,ops:=[Qo 25 (.ex (.t 24) 0),Qo 26 (.ex (.t 24) 1),Mv 8 25,Mv 9 26],keep:=[2,3,7,8,9,21],body:=b27_0,post:=k27_1,np:=1,res:=[.t 2,.t 3] }
def b31_0:C:=(.bl 1 (.sq (.rg none [Qo 17 (.ld (some 6) (.t 3)),Qo 18 (.cl 72 [(.t 17)]),Qo 19 (.un .not (.t 18))] [2,19]) (.cd (.t 19) (.sq (.rg none [Eo (.st 1 (.t 2) (.c (.int .i64 8)))] [2]) .rt) .sk)))
def a31_1:C:=(.rg none [Qo 3 (.al 6 (.agg [(.int .u8 0),(.int .i64 0),(.int .u64 0),(.str []),(.int .i64 0),(.lst true [])])),Eo (.st 6 (.t 3) (.t 16))] [2,3])
def k31_2:C:=(.sq (.sq (.rg none [Qo 21 (.ld (some 6) (.t 1)),Qo 22 (.cl 62 [(.t 21)]),Mv 20 22,Qo 23 (.ex (.t 20) 0),Qo 24 (.ex (.t 20) 1),Mv 4 23,Mv 5 24] [2,5]) (.sq (.rg none [Mv 25 5,Qo 26 (.un .not (.t 25))] [2,26]) (.cd (.t 26) (.sq (.rg none [Eo (.st 1 (.t 2) (.c (.int .i64 14)))] [2]) .rt) .sk))) (.sq (.rg none [Eo (.st 1 (.t 2) (.c (.int .i64 0)))] [2]) .rt))
def Ac8:FI.Rd:={ ps:=[16],ct:=[2],asg:=a31_1,body:=b31_0 }
def c31:FI.Fn:={ body:=(.sq (.rg none [Qo 1 (.bx 6 (.t 0)),Qo 2 (.al 1 (.int .i64 0))] [1,2]) (.sq (.sq (.rg none [Qo 6 (.ld (some 6) (.t 1)),Qo 7 (.cl 38 [(.t 6)]),Qo 8 (.bo .gtr (.t 7) (.c (.int .i64 400))),Mv 9 8,Gd 10 9 false (.ld (some 6) (.t 1)),Gd 11 9 false (.cl 37 [(.t 10)]),Gd 12 9 false (.bo .gtr (.t 11) (.c (.int .i64 60))),Qo 13 (.pk (.t 9) (.c (.bool true)) (.t 12))] [1,2,13]) (.cd (.t 13) (.sq (.rg none [Eo (.st 1 (.t 2) (.c (.int .i64 4)))] [2]) .rt) .sk)) (.sq (.sq (.rg none [Qo 14 (.ld (some 6) (.t 1)),Qo 15 (.cl 71 [(.t 14)])] [1,2,15]) (.bl 0 (.rf 1003100 (.t 15) [2]))) k31_2))),np:=1,res:=[.cell 2 none],mode:=.isf }
def b37_0:C:=(.sq (.rg none [Qo 10 (.bo .lss (.t 9) (.t 8))] [3,7,8,9,10]) (.sq (.cd (.t 10) .sk (.xt 0)) (.sq (.bl 1 (.sq (.rg none [Qo 11 (.ia 6 (.t 7) (.t 9)),Qo 12 (.ld (some 6) (.t 11)),Qo 5 (.al 6 (.agg [(.int .u8 0),(.int .i64 0),(.int .u64 0),(.str []),(.int .i64 0),(.lst true [])])),Eo (.st 6 (.t 5) (.t 12))] [3,5,7,8,9]) (.rg none [Mv 13 3,Qo 14 (.ld (some 6) (.t 5)),Qo 15 (.cl 37 [(.t 14)]),Qo 16 (.mx (.t 13) (.t 15)),Mv 3 16] [3,7,8,9]))) (.rg none [Qo 17 (.bo .add (.t 9) (.c (.int .i64 1))),Mv 9 17] [3,7,8,9]))))
def k37_1:C:=(.sq (.rg none [Mv 18 3,Qo 19 (.bo .add (.t 18) (.c (.int .i64 1))),Mv 2 19] [2]) .rt)
def c37:FI.Fn:={ body:=(.sq (.rg none [Qo 1 (.bx 6 (.t 0)),Qo 2 (.mv (.c (.int .i64 0)))] [1]) (.sq (.rg none [Qo 3 (.mv (.c (.int .i64 0)))] [1,3]) (.sq (.sq (.rg none [Qo 6 (.fa 5 (.t 1)),Qo 7 (.ld none (.t 6)),Qo 8 (.ln 1 (.t 7)),Qo 9 (.mv (.c (.int .i64 0)))] [3,7,8,9]) (.bl 0 (.lp true b37_0))) k37_1))),np:=1,res:=[.t 2],mode:=.iso }
def b38_0:C:=(.bl 1 (.rg none [Qo 7 (.ld none (.t 3)),Qo 8 (.bo .add (.t 7) (.c (.int .i64 1))),Eo (.st 1 (.t 3) (.t 8))] []))
def k38_1:C:=(.sq (.rg none [Qo 9 (.ld none (.t 3)),Mv 2 9] [2]) .rt)
def Abg:FI.Rd:={ ps:=[6],ct:=[3],asg:=.sk,body:=b38_0 }
def c38:FI.Fn:={ body:=(.sq (.rg none [Qo 1 (.bx 6 (.t 0)),Qo 2 (.mv (.c (.int .i64 0)))] [1]) (.sq (.rg none [Qo 3 (.al 1 (.int .i64 0)),Eo (.st 1 (.t 3) (.c (.int .i64 0)))] [1,3]) (.sq (.sq (.rg none [Qo 4 (.ld (some 6) (.t 1)),Qo 5 (.cl 71 [(.t 4)])] [3,5]) (.bl 0 (.rf 1003800 (.t 5) [3]))) k38_1))),np:=1,res:=[.t 2],mode:=.iso }
def b39_0:C:=(.sq (.sq (.rg none [Mv 14 9,Qo 15 (.fa 5 (.t 3)),Qo 16 (.ld none (.t 15)),Qo 17 (.ln 1 (.t 16)),Qo 18 (.bo .lss (.t 14) (.t 17)),Mv 19 18,Gm 20 19 true 8,Gm 21 19 true 1,Gd 22 19 true (.bo .leq (.t 20) (.t 21)),Qo 23 (.pk (.t 19) (.t 22) (.c (.bool false)))] [1,2,3,8,9,23]) (.cd (.t 23) .sk (.xt 0))) (.sq (.bl 1 (.sq (.rg none [Qo 27 (.fa 5 (.t 3)),Qo 28 (.ld none (.t 27)),Mv 29 9,Qo 30 (.ia 6 (.t 28) (.t 29)),Qo 31 (.ld (some 6) (.t 30)),Mv 32 1,Mv 33 8,Qo 34 (.bo .sub (.t 32) (.t 33)),Mv 35 2,Qo 36 (.bo .sub (.t 35) (.c (.int .i64 1))),Qo 37 (.cl 39 [(.t 31),(.t 34),(.t 36)]),Mv 26 37,Qo 38 (.ex (.t 26) 0),Qo 39 (.ex (.t 26) 1),Mv 10 38,Mv 11 39] [1,2,3,8,9,10,11]) (.sq (.sq (.rg none [Mv 40 11,Qo 41 (.un .not (.t 40))] [1,2,3,8,9,10,41]) (.cd (.t 41) (.sq (.rg none [Mv 42 8,Mv 6 42,Qo 7 (.mv (.c (.bool false)))] [6,7]) .rt) .sk)) (.rg none [Mv 43 8,Mv 44 10,Qo 45 (.bo .add (.t 43) (.t 44)),Mv 8 45] [1,2,3,8,9])))) (.rg none [Mv 24 9,Qo 25 (.bo .add (.t 24) (.c (.int .i64 1))),Mv 9 25] [1,2,3,8,9])))
def k39_1:C:=(.sq (.rg none [Mv 46 8,Mv 6 46,Qo 7 (.mv (.c (.bool true)))] [6,7]) .rt)
def c39:FI.Fn:={ body:=(.sq (.rg none [Qo 3 (.bx 6 (.t 0)),Qo 6 (.mv (.c (.int .i64 0))),Qo 7 (.mv (.c (.bool false)))] [1,2,3]) (.sq (.sq (.rg none [Mv 12 2,Qo 13 (.bo .eql (.t 12) (.c (.int .i64 0)))] [1,2,3,13]) (.cd (.t 13) (.sq (.rg none [Qo 6 (.mv (.c (.int .i64 1))),Qo 7 (.mv (.c (.bool false)))] [6,7]) .rt) .sk)) (.sq (.rg none [Qo 8 (.mv (.c (.int .i64 1)))] [1,2,3,8]) (.sq (.sq (.rg none [Qo 9 (.mv (.c (.int .i64 0)))] [1,2,3,8,9]) (.bl 0 (.lp true b39_0))) k39_1)))),np:=3,res:=[.t 6,.t 7],mode:=.iso }
def b40_0:C:=(.sq (.sq (.rg none [Mv 4 3,Qo 5 (.fa 5 (.t 1)),Qo 6 (.ld none (.t 5)),Qo 7 (.ln 1 (.t 6)),Qo 8 (.bo .lss (.t 4) (.t 7))] [1,3,8]) (.cd (.t 8) .sk (.xt 0))) (.sq (.bl 1 (.sq (.rg none [Qo 11 (.fa 5 (.t 1)),Qo 12 (.ld none (.t 11)),Mv 13 3,Qo 14 (.ia 6 (.t 12) (.t 13)),Qo 15 (.ld (some 6) (.t 14)),Qo 16 (.cl 40 [(.t 15)])] [1,3,16]) (.cd (.t 16) (.sq (.rg none [Qo 2 (.mv (.c (.bool true)))] [2]) .rt) .sk))) (.rg none [Mv 9 3,Qo 10 (.bo .add (.t 9) (.c (.int .i64 1))),Mv 3 10] [1,3])))
def k40_1:C:=(.sq (.rg none [Qo 17 (.fa 3 (.t 1)),Qo 18 (.ld none (.t 17)),Qo 19 (.ln 0 (.t 18)),Qo 20 (.bo .gtr (.t 19) (.c (.int .i64 200))),Mv 2 20] [2]) .rt)
def c40:FI.Fn:={ body:=(.sq (.rg none [Qo 1 (.bx 6 (.t 0)),Qo 2 (.mv (.c (.bool false)))] [1]) (.sq (.sq (.rg none [Qo 3 (.mv (.c (.int .i64 0)))] [1,3]) (.bl 0 (.lp true b40_0))) k40_1)),np:=1,res:=[.t 2],mode:=.iso }
def b41_0:C:=(.sq (.sq (.rg none [Mv 15 9,Mv 16 10,Qo 17 (.bo .lss (.t 15) (.t 16))] [0,1,2,8,9,10,17]) (.cd (.t 17) .sk (.xt 0))) (.bl 1 (.sq (.rg none [Mv 18 9,Mv 19 10,Qo 20 (.bo .add (.t 18) (.t 19)),Qo 21 (.cv .u64 (.t 20)),Qo 22 (.bo .shr (.t 21) (.c (.int .u64 1))),Qo 23 (.cv .i64 (.t 22)),Mv 11 23] [0,1,2,8,9,10,11]) (.sq (.rg none [Mv 24 2,Mv 25 0,Mv 26 11,Qo 27 (.ia 3 (.t 25) (.t 26)),Qo 28 (.ld (some 3) (.t 27)),Mv 29 1,Qo 30 (.cw (.t 24) [(.t 28),(.t 29)]),Qo 31 (.bo .lss (.t 30) (.c (.int .i64 0)))] [0,1,2,8,9,10,11,31]) (.cd (.t 31) (.rg none [Mv 32 11,Qo 33 (.bo .add (.t 32) (.c (.int .i64 1))),Mv 9 33] [0,1,2,8,9,10]) (.rg none [Mv 34 11,Mv 10 34] [0,1,2,8,9,10]))))))
def k41_1:C:=(.sq (.rg none [Mv 35 9,Mv 36 9,Mv 37 8,Qo 38 (.bo .lss (.t 36) (.t 37)),Mv 39 38,Gm 40 39 true 2,Gm 41 39 true 0,Gm 42 39 true 9,Gd 43 39 true (.ia 3 (.t 41) (.t 42)),Gd 44 39 true (.ld (some 3) (.t 43)),Gm 45 39 true 1,Gd 46 39 true (.cw (.t 40) [(.t 44),(.t 45)]),Gd 47 39 true (.bo .eql (.t 46) (.c (.int .i64 0))),Qo 48 (.pk (.t 39) (.t 47) (.c (.bool false))),Mv 6 35,Mv 7 48] [6,7]) .rt)
def c41:FI.Fn:={ body:=(.sq (.rg none [Qo 6 (.mv (.c (.int .i64 0))),Qo 7 (.mv (.c (.bool false)))] [0,1,2]) (.sq (.rg none [Mv 12 0,Qo 13 (.ln 1 (.t 12)),Mv 8 13] [0,1,2,8]) (.sq (.rg none [Mv 14 8,Qo 9 (.mv (.c (.int .i64 0))),Mv 10 14] [0,1,2,8,9,10]) (.sq (.bl 0 (.lp true b41_0)) k41_1)))),np:=3,res:=[.t 6,.t 7],mode:=.iso }
def c42:FI.Fn:={ body:=(.sq (.rg none [Qo 2 (.bx 3 (.t 0)),Qo 4 (.mv (.c (.int .i64 0)))] [1,2]) (.sq (.rg none [Qo 5 (.fa 0 (.t 2)),Qo 6 (.ld none (.t 5)),Mv 7 1,Qo 8 (.cl 43 [(.t 6),(.t 7)]),Mv 4 8] [4]) .rt)),np:=2,res:=[.t 4],mode:=.iso }
def c43:FI.Fn:={ body:=(.sq (.rg none [Qo 4 (.mv (.c (.int .i64 0)))] [0,1]) (.sq (.rg none [Mv 5 0,Mv 6 1,Qo 7 (.cl 73 [(.t 5),(.t 6)]),Mv 4 7] [4]) .rt)),np:=2,res:=[.t 4],mode:=.iso }
def b44_0:C:=(.sq (.rg none [Qo 28 (.bo .lss (.t 27) (.t 26))] [1,2,3,7,25,26,27,28]) (.sq (.cd (.t 28) .sk (.xt 1)) (.sq (.bl 2 (.sq (.rg none [Mv 29 27,Qo 30 (.ia 6 (.t 25) (.t 27)),Qo 31 (.ld (some 6) (.t 30)),Qo 9 (.al 6 (.agg [(.int .u8 0),(.int .i64 0),(.int .u64 0),(.str []),(.int .i64 0),(.lst true [])])),Mv 8 29,Eo (.st 6 (.t 9) (.t 31))] [1,2,3,7,8,9,25,26,27]) (.rg none [Mv 32 8,Qo 33 (.ld (some 6) (.t 9)),Mv 34 1,Mv 35 2,Qo 36 (.cl 44 [(.t 33),(.t 34),(.t 35)]),Qo 37 (.aa 3 1 (.t 7) (.t 32)),Eo (.st 1 (.t 37) (.t 36))] [1,2,3,7,25,26,27]))) (.rg none [Qo 38 (.bo .add (.t 27) (.c (.int .i64 1))),Mv 27 38] [1,2,3,7,25,26,27]))))
def k44_1:C:=(.sq (.rg none [Qo 10 (.mv (.c (.int .u64 0)))] [2,3,7]) (.sq (.sq (.rg none [Qo 39 (.fa 5 (.t 3)),Qo 40 (.ld none (.t 39)),Qo 41 (.ia 6 (.t 40) (.c (.int .i64 0))),Qo 42 (.fa 1 (.t 41)),Qo 43 (.ld none (.t 42)),Mv 11 43] [2,3,7,11]) (.sq (.rg none [Qo 44 (.fa 0 (.t 3)),Qo 45 (.ld none (.t 44))] [2,3,7,11,45]) (.bl 3 (.sq (.sq (.rg none [Qo 58 (.bo .eql (.t 45) (.c (.int .u8 3))),Mv 57 58] [2,3,7,11,45,57]) (.cd (.t 57) .sk (.rg none [Qo 59 (.bo .eql (.t 45) (.c (.int .u8 4))),Mv 57 59] [2,3,7,11,45,57]))) (.cd (.t 57) (.rg none [Qo 61 (.fa 0 (.t 3)),Qo 62 (.ld none (.t 61)),Mv 63 11,Qo 64 (.aa 3 1 (.t 7) (.c (.int .i64 0))),Qo 65 (.ld none (.t 64)),Qo 66 (.cl 21 [(.t 62),(.t 63),(.t 65)]),Mv 60 66,Qo 67 (.ex (.t 60) 0),Qo 68 (.ex (.t 60) 1),Mv 10 67] [10]) (.sq (.rg none [Qo 70 (.bo .eql (.t 45) (.c (.int .u8 19))),Mv 69 70] [2,3,7,11,45,69]) (.cd (.t 69) (.rg none [Qo 71 (.aa 3 1 (.t 7) (.c (.int .i64 0))),Qo 72 (.ld none (.t 71)),Qo 73 (.bo .sub (.c (.int .u64 2)) (.t 72)),Qo 74 (.aa 3 1 (.t 7) (.t 73)),Qo 75 (.ld none (.t 74)),Mv 10 75] [10]) (.sq (.rg none [Qo 77 (.bo .eql (.t 45) (.c (.int .u8 20))),Mv 76 77] [2,3,7,11,45,76]) (.cd (.t 76) (.rg (some (List.range 15)) [Mv 79 11,Qo 80 (.aa 3 1 (.t 7) (.c (.int .i64 0))),Qo 81 (.ld none (.t 80)),Qo 82 (.fa 5 (.t 3)),Qo 83 (.ld none (.t 82)),Qo 84 (.ia 6 (.t 83) (.c (.int .i64 1))),Qo 85 (.fa 1 (.t 84)),Qo 86 (.ld none (.t 85)),Qo 87 (.aa 3 1 (.t 7) (.c (.int .i64 1))),Qo 88 (.ld none (.t 87)),Qo 89 (.cl 22 [(.t 79),(.t 81),(.t 86),(.t 88)]),Mv 78 89,Qo 90 (.ex (.t 78) 0),Qo 91 (.ex (.t 78) 1),Mv 10 90] [10]) (.sq (.rg none [Qo 93 (.bo .eql (.t 45) (.c (.int .u8 21))),Mv 92 93] [2,3,7,11,45,92]) (.cd (.t 92) (.rg none [Mv 95 11,Qo 96 (.aa 3 1 (.t 7) (.c (.int .i64 0))),Qo 97 (.ld none (.t 96)),Qo 98 (.fa 4 (.t 3)),Qo 99 (.ld none (.t 98)),Qo 100 (.fa 1 (.t 3)),Qo 101 (.ld none (.t 100)),Qo 102 (.cl 23 [(.t 95),(.t 97),(.t 99),(.t 101)]),Mv 94 102,Qo 103 (.ex (.t 94) 0),Qo 104 (.ex (.t 94) 1),Mv 10 103] [10]) (.sq (.sq (.rg none [Qo 106 (.bo .eql (.t 45) (.c (.int .u8 22))),Mv 105 106] [2,3,7,11,45,105]) (.cd (.t 105) .sk (.rg none [Qo 107 (.bo .eql (.t 45) (.c (.int .u8 23))),Mv 105 107] [2,3,7,11,45,105]))) (.cd (.t 105) (.rg none [Mv 109 11,Qo 110 (.aa 3 1 (.t 7) (.c (.int .i64 0))),Qo 111 (.ld none (.t 110)),Qo 112 (.fa 1 (.t 3)),Qo 113 (.ld none (.t 112)),Qo 114 (.fa 0 (.t 3)),Qo 115 (.ld none (.t 114)),Qo 116 (.bo .eql (.t 115) (.c (.int .u8 23))),Qo 117 (.cl 24 [(.t 109),(.t 111),(.t 113),(.t 116)]),Mv 108 117,Qo 118 (.ex (.t 108) 0),Qo 119 (.ex (.t 108) 1),Mv 10 118] [10]) (.sq (.rg none [Qo 121 (.bo .eql (.t 45) (.c (.int .u8 24))),Mv 120 121] [2,3,7,11,120]) (.cd (.t 120) (.rg none [Mv 122 2,Mv 123 11,Qo 124 (.aa 3 1 (.t 7) (.c (.int .i64 0))),Qo 125 (.ld none (.t 124)),Qo 126 (.fa 1 (.t 3)),Qo 127 (.ld none (.t 126)),Qo 128 (.cl 50 [(.t 122),(.t 123),(.t 125),(.t 127)]),Mv 10 128] [10]) (.rg none [Qo 47 (.fa 0 (.t 3)),Qo 48 (.ld none (.t 47)),Mv 49 11,Qo 50 (.aa 3 1 (.t 7) (.c (.int .i64 0))),Qo 51 (.ld none (.t 50)),Qo 52 (.aa 3 1 (.t 7) (.c (.int .i64 1))),Qo 53 (.ld none (.t 52)),Qo 54 (.cl 25 [(.t 48),(.t 49),(.t 51),(.t 53)]),Mv 46 54,Qo 55 (.ex (.t 46) 0),Qo 56 (.ex (.t 46) 1),Mv 10 55] [10])))))))))))))))) (.sq (.rg none [Mv 129 10,Mv 6 129] [6]) .rt)))
def c44:FI.Fn:={ body:=(.sq (.rg none [Qo 3 (.bx 6 (.t 0)),Qo 6 (.mv (.c (.int .u64 0)))] [1,2,3]) (.sq (.sq (.rg none [Qo 12 (.fa 0 (.t 3)),Qo 13 (.ld none (.t 12))] [1,2,3,13]) (.bl 0 (.sq (.rg none [Qo 15 (.bo .eql (.t 13) (.c (.int .u8 1))),Mv 14 15] [1,2,3,13,14]) (.cd (.t 14) (.sq (.rg none [Qo 16 (.fa 2 (.t 3)),Qo 17 (.ld none (.t 16)),Mv 6 17] [6]) .rt) (.sq (.rg none [Qo 19 (.bo .eql (.t 13) (.c (.int .u8 2))),Mv 18 19] [1,2,3,18]) (.cd (.t 18) (.sq (.rg none [Mv 20 1,Qo 21 (.fa 3 (.t 3)),Qo 22 (.ld none (.t 21)),Qo 23 (.lk 1 (.int .u64 0) false (.t 20) (.t 22)),Mv 6 23] [6]) .rt) .sk)))))) (.sq (.rg none [Qo 7 (.al 3 (.agg [(.int .u64 0),(.int .u64 0),(.int .u64 0)]))] [1,2,3,7]) (.sq (.sq (.rg none [Qo 24 (.fa 5 (.t 3)),Qo 25 (.ld none (.t 24)),Qo 26 (.ln 1 (.t 25)),Qo 27 (.mv (.c (.int .i64 0)))] [1,2,3,7,25,26,27]) (.bl 1 (.lp false b44_0))) k44_1)))),np:=3,res:=[.t 6],mode:=.shr }
def b45_0:C:=(.sq (.sq (.rg (some (List.range 17)) [Mv 21 7,Mv 22 4,Qo 23 (.ln 1 (.t 22)),Qo 24 (.bo .lss (.t 21) (.t 23)),Mv 25 24,Gm 26 25 true 4,Gm 27 25 true 7,Gd 28 25 true (.ia 3 (.t 26) (.t 27)),Gd 29 25 true (.fa 0 (.t 28)),Gd 30 25 true (.ld none (.t 29)),Gm 31 25 true 5,Gm 32 25 true 6,Gd 33 25 true (.ia 3 (.t 31) (.t 32)),Gd 34 25 true (.fa 0 (.t 33)),Gd 35 25 true (.ld none (.t 34)),Gd 36 25 true (.bo .lss (.t 30) (.t 35)),Qo 37 (.pk (.t 25) (.t 36) (.c (.bool false)))] [4,5,6,7,37]) (.cd (.t 37) .sk (.xt 2))) (.bl 3 (.rg none [Mv 38 7,Qo 39 (.bo .add (.t 38) (.c (.int .i64 1))),Mv 7 39] [4,5,6,7])))
def k45_1:C:=(.sq (.rg (some (List.range 17)) [Mv 40 7,Mv 41 4,Qo 42 (.ln 1 (.t 41)),Qo 43 (.bo .eql (.t 40) (.t 42)),Mv 44 43,Gm 45 44 false 4,Gm 46 44 false 7,Gd 47 44 false (.ia 3 (.t 45) (.t 46)),Gd 48 44 false (.fa 0 (.t 47)),Gd 49 44 false (.ld none (.t 48)),Gm 50 44 false 5,Gm 51 44 false 6,Gd 52 44 false (.ia 3 (.t 50) (.t 51)),Gd 53 44 false (.fa 0 (.t 52)),Gd 54 44 false (.ld none (.t 53)),Gd 55 44 false (.bo .neq (.t 49) (.t 54)),Qo 56 (.pk (.t 44) (.c (.bool true)) (.t 55))] [4,5,6,7,56]) (.cd (.t 56) (.rg (some [0,1,2,3,5,6,7,8,9,11,12,13,4,10,14,15]) [Qo 57 (.bs 3 0 (.agg [(.str []),(.int .i64 0),(.int .u64 0)]) []),Mv 58 4,Mv 59 7,Qo 60 (.sl 3 (.t 58) none (some (.t 59))),Mv 62 5,Mv 63 6,Qo 64 (.ia 3 (.t 62) (.t 63)),Qo 65 (.ld (some 3) (.t 64)),Qo 66 (.bs 3 1 (.agg [(.str []),(.int .i64 0),(.int .u64 0)]) [(0,(.t 65))]),Mv 68 4,Mv 69 7,Qo 70 (.sl 3 (.t 68) (some (.t 69)) none),⟨some 61,none,.ap 3 32 (.t 57) (.t 60),[(none,(some 3),64,65)]⟩,Qo 67 (.ap 3 32 (.t 61) (.t 66)),Qo 71 (.ap 3 32 (.t 67) (.t 70)),Mv 4 71] [4,5,6]) .sk))
def k45_2:C:=(.rg none [Mv 19 6,Qo 20 (.bo .add (.t 19) (.c (.int .i64 1))),Mv 6 20] [4,5,6])
def b45_3:C:=(.sq (.sq (.rg none [Mv 15 6,Mv 16 5,Qo 17 (.ln 1 (.t 16)),Qo 18 (.bo .lss (.t 15) (.t 17))] [4,5,6,18]) (.cd (.t 18) .sk (.xt 0))) (.sq (.bl 1 (.sq (.rg none [Qo 7 (.mv (.c (.int .i64 0)))] [4,5,6,7]) (.sq (.bl 2 (.lp false b45_0)) k45_1))) k45_2))
def k45_4:C:=(.sq (.rg none [Mv 72 4,Mv 2 72,Qo 3 (.mv (.c (.int .i64 0)))] [2,3]) .rt)
def c45:FI.Fn:={ body:=(.sq (.rg none [Qo 1 (.bx 6 (.t 0)),Qo 2 (.mv (.c (.lst true []))),Qo 3 (.mv (.c (.int .i64 0)))] [1]) (.sq (.sq (.rg none [Qo 8 (.ld (some 6) (.t 1)),Qo 9 (.cl 74 [(.t 8)]),Qo 10 (.bo .neq (.t 9) (.c (.int .i64 0)))] [1,10]) (.cd (.t 10) (.sq (.rg none [Qo 11 (.ld (some 6) (.t 1)),Qo 12 (.cl 74 [(.t 11)]),Qo 2 (.mv (.c (.lst true []))),Mv 3 12] [2,3]) .rt) .sk)) (.sq (.rg none [Qo 4 (.mv (.c (.lst true [])))] [1,4]) (.sq (.rg none [Qo 13 (.ld (some 6) (.t 1)),Qo 14 (.cl 75 [(.t 13)]),Mv 5 14] [4,5]) (.sq (.sq (.rg none [Qo 6 (.mv (.c (.int .i64 0)))] [4,5,6]) (.bl 0 (.lp false b45_3))) k45_4))))),np:=1,res:=[.t 2,.t 3],mode:=.iso }
def b46_0:C:=(.sq (.sq (.rg none [Mv 7 6,Mv 8 0,Qo 9 (.ln 1 (.t 8)),Qo 10 (.bo .lss (.t 7) (.t 9))] [0,1,4,6,10]) (.cd (.t 10) .sk (.xt 0))) (.sq (.bl 1 (.sq (.rg none [Mv 13 0,Mv 14 6,Qo 15 (.ia 3 (.t 13) (.t 14)),Qo 16 (.fa 0 (.t 15)),Qo 17 (.ld none (.t 16)),Mv 18 1,Qo 19 (.bo .eql (.t 17) (.t 18))] [0,1,4,6,19]) (.cd (.t 19) (.sq (.rg none [Mv 20 0,Mv 21 6,Qo 22 (.ia 3 (.t 20) (.t 21)),Qo 23 (.ld (some 3) (.t 22)),Eo (.st 3 (.t 4) (.t 23)),Qo 5 (.mv (.c (.bool true)))] [4,5]) .rt) .sk))) (.rg none [Mv 11 6,Qo 12 (.bo .add (.t 11) (.c (.int .i64 1))),Mv 6 12] [0,1,4,6])))
def k46_1:C:=(.sq (.rg none [Qo 24 (.bd [(.str []),(.int .i64 0),(.int .u64 0)] []),Eo (.st 3 (.t 4) (.t 24)),Qo 5 (.mv (.c (.bool false)))] [4,5]) .rt)
def c46:FI.Fn:={ body:=(.sq (.rg none [Qo 4 (.al 3 (.agg [(.str []),(.int .i64 0),(.int .u64 0)])),Qo 5 (.mv (.c (.bool false)))] [0,1,4]) (.sq (.sq (.rg none [Qo 6 (.mv (.c (.int .i64 0)))] [0,1,4,6]) (.bl 0 (.lp true b46_0))) k46_1)),np:=2,res:=[.cell 4 (some 3),.t 5],mode:=.iso }
def b47_0:C:=(.sq (.sq (.rg none [Mv 39 10,Qo 40 (.fa 5 (.t 3)),Qo 41 (.ld none (.t 40)),Qo 42 (.ln 1 (.t 41)),Qo 43 (.bo .lss (.t 39) (.t 42))] [1,2,3,9,10,43]) (.cd (.t 43) .sk (.xt 0))) (.sq (.bl 1 (.rg none [Mv 46 9,Qo 47 (.fa 5 (.t 3)),Qo 48 (.ld none (.t 47)),Mv 49 10,Qo 50 (.ia 6 (.t 48) (.t 49)),Qo 51 (.ld (some 6) (.t 50)),Mv 52 1,Mv 53 2,Qo 54 (.cl 47 [(.t 51),(.t 52),(.t 53)]),Qo 55 (.bs 1 1 (.int .u64 0) [(0,(.t 54))]),Qo 56 (.ap 1 8 (.t 46) (.t 55)),Mv 9 56] [1,2,3,9,10])) (.rg none [Mv 44 10,Qo 45 (.bo .add (.t 44) (.c (.int .i64 1))),Mv 10 45] [1,2,3,9,10])))
def k47_1:C:=(.sq (.rg none [Qo 57 (.fa 5 (.t 3)),Qo 58 (.ld none (.t 57)),Qo 59 (.ia 6 (.t 58) (.c (.int .i64 0))),Qo 60 (.fa 1 (.t 59)),Qo 61 (.ld none (.t 60)),Mv 11 61] [2,3,9,11]) (.sq (.sq (.rg none [Qo 62 (.fa 0 (.t 3)),Qo 63 (.ld none (.t 62))] [2,3,9,11,63]) (.bl 2 (.sq (.sq (.rg none [Qo 65 (.bo .eql (.t 63) (.c (.int .u8 3))),Mv 64 65] [2,3,9,11,63,64]) (.cd (.t 64) .sk (.rg none [Qo 66 (.bo .eql (.t 63) (.c (.int .u8 4))),Mv 64 66] [2,3,9,11,63,64]))) (.cd (.t 64) (.sq (.rg (some (List.range 12)) [Qo 68 (.fa 0 (.t 3)),Qo 69 (.ld none (.t 68)),Mv 70 11,Mv 71 9,Qo 72 (.ia 1 (.t 71) (.c (.int .i64 0))),Qo 73 (.ld none (.t 72)),Qo 74 (.cl 76 [(.t 69),(.t 70),(.t 73)]),Mv 67 74,Qo 75 (.ex (.t 67) 0),Qo 76 (.ex (.t 67) 1),Mv 12 75,Mv 13 76] [12]) (.sq (.rg none [Mv 77 12,Mv 6 77] [6]) .rt)) (.sq (.rg none [Qo 79 (.bo .eql (.t 63) (.c (.int .u8 19))),Mv 78 79] [2,3,9,11,63,78]) (.cd (.t 78) (.sq (.sq (.rg none [Mv 80 9,Qo 81 (.ia 1 (.t 80) (.c (.int .i64 0))),Qo 82 (.ld none (.t 81)),Qo 83 (.bo .eql (.t 82) (.c (.int .u64 1)))] [9,83]) (.cd (.t 83) (.sq (.rg none [Mv 84 9,Qo 85 (.ia 1 (.t 84) (.c (.int .i64 1))),Qo 86 (.ld none (.t 85)),Mv 6 86] [6]) .rt) .sk)) (.sq (.rg none [Mv 87 9,Qo 88 (.ia 1 (.t 87) (.c (.int .i64 2))),Qo 89 (.ld none (.t 88)),Mv 6 89] [6]) .rt)) (.sq (.rg none [Qo 91 (.bo .eql (.t 63) (.c (.int .u8 20))),Mv 90 91] [2,3,9,11,63,90]) (.cd (.t 90) (.sq (.rg (some (List.range 18)) [Mv 93 11,Mv 94 9,Qo 95 (.ia 1 (.t 94) (.c (.int .i64 0))),Qo 96 (.ld none (.t 95)),Qo 97 (.fa 5 (.t 3)),Qo 98 (.ld none (.t 97)),Qo 99 (.ia 6 (.t 98) (.c (.int .i64 1))),Qo 100 (.fa 1 (.t 99)),Qo 101 (.ld none (.t 100)),Mv 102 9,Qo 103 (.ia 1 (.t 102) (.c (.int .i64 1))),Qo 104 (.ld none (.t 103)),Qo 105 (.cl 77 [(.t 93),(.t 96),(.t 101),(.t 104)]),Mv 92 105,Qo 106 (.ex (.t 92) 0),Qo 107 (.ex (.t 92) 1),Mv 14 106,Mv 15 107] [14]) (.sq (.rg none [Mv 108 14,Mv 6 108] [6]) .rt)) (.sq (.rg none [Qo 110 (.bo .eql (.t 63) (.c (.int .u8 21))),Mv 109 110] [2,3,9,11,63,109]) (.cd (.t 109) (.sq (.rg (some (List.range 14)) [Mv 112 11,Mv 113 9,Qo 114 (.ia 1 (.t 113) (.c (.int .i64 0))),Qo 115 (.ld none (.t 114)),Qo 116 (.fa 4 (.t 3)),Qo 117 (.ld none (.t 116)),Qo 118 (.fa 1 (.t 3)),Qo 119 (.ld none (.t 118)),Qo 120 (.cl 78 [(.t 112),(.t 115),(.t 117),(.t 119)]),Mv 111 120,Qo 121 (.ex (.t 111) 0),Qo 122 (.ex (.t 111) 1),Mv 16 121,Mv 17 122] [16]) (.sq (.rg none [Mv 123 16,Mv 6 123] [6]) .rt)) (.sq (.sq (.rg none [Qo 125 (.bo .eql (.t 63) (.c (.int .u8 22))),Mv 124 125] [2,3,9,11,63,124]) (.cd (.t 124) .sk (.rg none [Qo 126 (.bo .eql (.t 63) (.c (.int .u8 23))),Mv 124 126] [2,3,9,11,63,124]))) (.cd (.t 124) (.sq (.rg (some (List.range 15)) [Mv 128 11,Mv 129 9,Qo 130 (.ia 1 (.t 129) (.c (.int .i64 0))),Qo 131 (.ld none (.t 130)),Qo 132 (.fa 1 (.t 3)),Qo 133 (.ld none (.t 132)),Qo 134 (.fa 0 (.t 3)),Qo 135 (.ld none (.t 134)),Qo 136 (.bo .eql (.t 135) (.c (.int .u8 23))),Qo 137 (.cl 79 [(.t 128),(.t 131),(.t 133),(.t 136)]),Mv 127 137,Qo 138 (.ex (.t 127) 0),Qo 139 (.ex (.t 127) 1),Mv 18 138,Mv 19 139] [18]) (.sq (.rg none [Mv 140 18,Mv 6 140] [6]) .rt)) (.sq (.rg none [Qo 142 (.bo .eql (.t 63) (.c (.int .u8 24))),Mv 141 142] [2,3,9,11,141]) (.cd (.t 141) (.sq (.rg (some (List.range 9)) [Mv 143 2,Mv 144 11,Mv 145 9,Qo 146 (.ia 1 (.t 145) (.c (.int .i64 0))),Qo 147 (.ld none (.t 146)),Qo 148 (.fa 1 (.t 3)),Qo 149 (.ld none (.t 148)),Qo 150 (.cl 54 [(.t 143),(.t 144),(.t 147),(.t 149)]),Mv 6 150] [6]) .rt) .sk)))))))))))))) (.sq (.rg (some (List.range 15)) [Qo 152 (.fa 0 (.t 3)),Qo 153 (.ld none (.t 152)),Mv 154 11,Mv 155 9,Qo 156 (.ia 1 (.t 155) (.c (.int .i64 0))),Qo 157 (.ld none (.t 156)),Mv 158 9,Qo 159 (.ia 1 (.t 158) (.c (.int .i64 1))),Qo 160 (.ld none (.t 159)),Qo 161 (.cl 80 [(.t 153),(.t 154),(.t 157),(.t 160)]),Mv 151 161,Qo 162 (.ex (.t 151) 0),Qo 163 (.ex (.t 151) 1),Mv 20 162,Mv 21 163] [20]) (.sq (.rg none [Mv 164 20,Mv 6 164] [6]) .rt))))
def c47:FI.Fn:={ body:=(.sq (.rg none [Qo 3 (.bx 6 (.t 0)),Qo 6 (.mv (.c (.int .u64 0)))] [1,2,3]) (.sq (.sq (.rg none [Qo 22 (.fa 0 (.t 3)),Qo 23 (.ld none (.t 22)),Qo 24 (.bo .eql (.t 23) (.c (.int .u8 1)))] [1,2,3,24]) (.cd (.t 24) (.sq (.rg none [Qo 25 (.fa 2 (.t 3)),Qo 26 (.ld none (.t 25)),Mv 6 26] [6]) .rt) .sk)) (.sq (.sq (.rg none [Qo 27 (.fa 0 (.t 3)),Qo 28 (.ld none (.t 27)),Qo 29 (.bo .eql (.t 28) (.c (.int .u8 2)))] [1,2,3,29]) (.cd (.t 29) (.sq (.rg none [Mv 31 1,Qo 32 (.fa 3 (.t 3)),Qo 33 (.ld none (.t 32)),Qo 34 (.cl 46 [(.t 31),(.t 33)]),Mv 30 34,Qo 35 (.ex (.t 30) 0),Qo 36 (.ex (.t 30) 1),Qo 7 (.al 3 (.agg [(.str []),(.int .i64 0),(.int .u64 0)])),Eo (.st 3 (.t 7) (.t 35)),Mv 8 36] [7]) (.sq (.rg none [Qo 37 (.fa 2 (.t 7)),Qo 38 (.ld none (.t 37)),Mv 6 38] [6]) .rt)) .sk)) (.sq (.rg none [Qo 9 (.nl 1)] [1,2,3,9]) (.sq (.sq (.rg none [Qo 10 (.mv (.c (.int .i64 0)))] [1,2,3,9,10]) (.bl 0 (.lp true b47_0))) k47_1))))),np:=3,res:=[.t 6],mode:=.iso }
def c48:FI.Fn:={ body:=(.sq (.rg none [Qo 2 (.mv (.c (.bool false)))] [0]) (.sq (.rg none [Mv 3 0,Qo 4 (.bo .geq (.t 3) (.c (.int .i64 1))),Mv 5 4,Gm 6 5 true 0,Gd 7 5 true (.bo .leq (.t 6) (.c (.int .i64 64))),Qo 8 (.pk (.t 5) (.t 7) (.c (.bool false))),Mv 2 8] [2]) .rt)),np:=1,res:=[.t 2],mode:=.iso }
def c49:FI.Fn:={ body:=(.sq (.rg none [Qo 2 (.mv (.c (.bool false)))] [0]) (.sq (.rg none [Mv 3 0,Qo 4 (.bo .eql (.t 3) (.c (.int .i64 8))),Mv 5 4,Gm 6 5 false 0,Gd 7 5 false (.bo .eql (.t 6) (.c (.int .i64 16))),Qo 8 (.pk (.t 5) (.c (.bool true)) (.t 7)),Mv 9 8,Gm 10 9 false 0,Gd 11 9 false (.bo .eql (.t 10) (.c (.int .i64 32))),Qo 12 (.pk (.t 9) (.c (.bool true)) (.t 11)),Mv 13 12,Gm 14 13 false 0,Gd 15 13 false (.bo .eql (.t 14) (.c (.int .i64 64))),Qo 16 (.pk (.t 13) (.c (.bool true)) (.t 15)),Mv 2 16] [2]) .rt)),np:=1,res:=[.t 2],mode:=.iso }
def b50_0:C:=(.sq (.rg none [Qo 17 (.bo .lss (.t 16) (.t 15))] [0,1,2,9,15,16,17]) (.sq (.cd (.t 17) .sk (.xt 0)) (.sq (.bl 1 (.sq (.rg none [Mv 18 16,Mv 10 18] [0,1,2,9,10,15,16]) (.sq (.rg none [Mv 19 2,Mv 20 10,Qo 21 (.cv .u64 (.t 20)),Qo 22 (.bo .add (.t 19) (.t 21)),Mv 23 1,Qo 24 (.cl 58 [(.t 23)]),Qo 25 (.bo .and (.t 22) (.t 24)),Mv 11 25] [0,1,2,9,10,11,15,16]) (.sq (.rg none [Mv 27 0,Mv 28 11,Qo 29 (.cl 81 [(.t 27),(.t 28),(.c (.fn 82 []))]),Mv 26 29,Qo 30 (.ex (.t 26) 0),Qo 31 (.ex (.t 26) 1),Mv 12 30,Mv 13 31] [0,1,2,9,10,12,13,15,16]) (.sq (.rg none [Mv 32 13] [0,1,2,9,10,12,15,16,32]) (.cd (.t 32) (.rg none [Mv 33 9,Mv 34 0,Mv 35 12,Qo 36 (.ia 2 (.t 34) (.t 35)),Qo 37 (.fa 1 (.t 36)),Qo 38 (.ld none (.t 37)),Qo 39 (.cv .u64 (.t 38)),Mv 40 10,Qo 41 (.bo .mul (.c (.int .i64 8)) (.t 40)),Qo 42 (.bo .shl (.t 39) (.t 41)),Qo 43 (.bo .or (.t 33) (.t 42)),Mv 9 43] [0,1,2,9,15,16]) .sk)))))) (.rg none [Qo 44 (.bo .add (.t 16) (.c (.int .i64 1))),Mv 16 44] [0,1,2,9,15,16]))))
def k50_1:C:=(.sq (.rg none [Mv 45 9,Mv 8 45] [8]) .rt)
def c50:FI.Fn:={ body:=(.sq (.rg none [Qo 8 (.mv (.c (.int .u64 0)))] [0,1,2,3]) (.sq (.rg none [Qo 9 (.mv (.c (.int .u64 0)))] [0,1,2,3,9]) (.sq (.sq (.rg none [Mv 14 3,Qo 15 (.bo .quo (.t 14) (.c (.int .i64 8))),Qo 16 (.mv (.c (.int .i64 0)))] [0,1,2,9,15,16]) (.bl 0 (.lp true b50_0))) k50_1))),np:=4,res:=[.t 8],mode:=.iso }
def c51:FI.Fn:={ body:=(.sq (.rg none [Qo 2 (.mv (.c (.bool false)))] [0]) (.sq (.rg none [Mv 3 0,Qo 4 (.bo .geq (.t 3) (.c (.int .i64 1))),Mv 5 4,Gm 6 5 true 0,Gd 7 5 true (.bo .leq (.t 6) (.c (.int .i64 64))),Qo 8 (.pk (.t 5) (.t 7) (.c (.bool false))),Mv 2 8] [2]) .rt)),np:=1,res:=[.t 2],mode:=.iso }
def c52:FI.Fn:={ body:=(.sq (.rg none [Qo 2 (.mv (.c (.bool false)))] [0]) (.sq (.rg none [Mv 3 0,Qo 4 (.bo .eql (.t 3) (.c (.int .i64 8))),Mv 5 4,Gm 6 5 false 0,Gd 7 5 false (.bo .eql (.t 6) (.c (.int .i64 16))),Qo 8 (.pk (.t 5) (.c (.bool true)) (.t 7)),Mv 9 8,Gm 10 9 false 0,Gd 11 9 false (.bo .eql (.t 10) (.c (.int .i64 32))),Qo 12 (.pk (.t 9) (.c (.bool true)) (.t 11)),Mv 13 12,Gm 14 13 false 0,Gd 15 13 false (.bo .eql (.t 14) (.c (.int .i64 64))),Qo 16 (.pk (.t 13) (.c (.bool true)) (.t 15)),Mv 2 16] [2]) .rt)),np:=1,res:=[.t 2],mode:=.iso }
def c53:FI.Fn:={ body:=(.sq (.rg none [Qo 4 (.mv (.c (.bool false)))] [0,1]) (.sq (.rg none [Mv 5 0,Qo 6 (.cl 51 [(.t 5)]),Mv 7 6,Gm 8 7 true 0,Gd 9 7 true (.bo .eql (.t 8) (.c (.int .i64 64))),Gm 10 7 true 9,Gm 11 10 false 1,Gm 12 10 false 0,Gd 13 10 false (.cl 83 [(.t 12)]),Gd 14 10 false (.bo .lss (.t 11) (.t 13)),Gd 15 7 true (.pk (.t 10) (.c (.bool true)) (.t 14)),Qo 16 (.pk (.t 7) (.t 15) (.c (.bool false))),Mv 4 16] [4]) .rt)),np:=2,res:=[.t 4],mode:=.iso }
def b54_0:C:=(.sq (.sq (.rg none [Mv 12 11,Mv 13 3,Qo 14 (.bo .quo (.t 13) (.c (.int .i64 8))),Qo 15 (.bo .lss (.t 12) (.t 14))] [0,1,2,3,9,10,11,15]) (.cd (.t 15) .sk (.xt 0))) (.sq (.bl 1 (.sq (.rg none [Mv 18 9,Mv 19 10,Mv 20 0,Mv 21 2,Qo 22 (.cl 84 [(.t 20),(.t 21)]),Qo 23 (.bo .mul (.t 19) (.t 22)),Qo 24 (.bo .add (.t 18) (.t 23)),Mv 9 24] [0,1,2,3,9,10,11]) (.sq (.rg none [Mv 25 10,Qo 26 (.bo .mul (.t 25) (.c (.int .u64 256))),Mv 10 26] [0,1,2,3,9,10,11]) (.sq (.rg none [Mv 27 2,Mv 28 1,Qo 29 (.cl 85 [(.t 28)]),Qo 30 (.bo .eql (.t 27) (.t 29))] [0,1,2,3,9,10,11,30]) (.cd (.t 30) (.rg none [Qo 2 (.mv (.c (.int .u64 0)))] [0,1,2,3,9,10,11]) (.rg none [Mv 31 2,Qo 32 (.bo .add (.t 31) (.c (.int .u64 1))),Mv 2 32] [0,1,2,3,9,10,11])))))) (.rg none [Mv 16 11,Qo 17 (.bo .add (.t 16) (.c (.int .i64 1))),Mv 11 17] [0,1,2,3,9,10,11])))
def k54_1:C:=(.sq (.rg none [Mv 33 9,Mv 8 33] [8]) .rt)
def c54:FI.Fn:={ body:=(.sq (.rg none [Qo 8 (.mv (.c (.int .u64 0)))] [0,1,2,3]) (.sq (.rg none [Qo 9 (.mv (.c (.int .u64 0)))] [0,1,2,3,9]) (.sq (.rg none [Qo 10 (.mv (.c (.int .u64 1)))] [0,1,2,3,9,10]) (.sq (.sq (.rg none [Qo 11 (.mv (.c (.int .i64 0)))] [0,1,2,3,9,10,11]) (.bl 0 (.lp true b54_0))) k54_1)))),np:=4,res:=[.t 8],mode:=.iso }
def c55:FI.Fn:={ body:=(.sq (.rg none [Qo 2 (.mv (.c (.bool false)))] [0]) (.sq (.rg none [Mv 3 0,Qo 4 (.cl 87 [(.t 3),(.c (.str [114,46]))]),Qo 5 (.cl 86 [(.t 4)]),Mv 2 5] [2]) .rt)),np:=1,res:=[.t 2],mode:=.iso }
def c56:FI.Fn:={ body:=(.sq (.rg none [Qo 2 (.mv (.c (.bool false)))] [0]) (.sq (.sq (.rg none [Mv 3 0,Qo 4 (.ln 0 (.t 3)),Qo 5 (.bo .gtr (.t 4) (.c (.int .i64 2))),Mv 6 5,Gm 7 6 true 0,Gd 8 6 true (.sl 0 (.t 7) none (some (.c (.int .i64 2)))),Gd 9 6 true (.bo .eql (.t 8) (.c (.str [114,46]))),Qo 10 (.pk (.t 6) (.t 9) (.c (.bool false)))] [0,10]) (.cd (.t 10) (.sq (.rg none [Mv 11 0,Qo 12 (.sl 0 (.t 11) (some (.c (.int .i64 2))) none),Qo 13 (.cl 88 [(.t 12)]),Mv 2 13] [2]) .rt) .sk)) (.sq (.rg none [Mv 14 0,Qo 15 (.cl 88 [(.t 14)]),Mv 2 15] [2]) .rt))),np:=1,res:=[.t 2],mode:=.iso }
def c57:FI.Fn:={ body:=(.sq (.rg none [Qo 2 (.mv (.c (.bool false)))] [0]) (.sq (.rg none [Mv 3 0,Qo 4 (.bo .geq (.t 3) (.c (.int .i64 1))),Mv 5 4,Gm 6 5 true 0,Gd 7 5 true (.bo .leq (.t 6) (.c (.int .i64 64))),Qo 8 (.pk (.t 5) (.t 7) (.c (.bool false))),Mv 2 8] [2]) .rt)),np:=1,res:=[.t 2],mode:=.iso }
def c58:FI.Fn:={ body:=(.sq (.rg none [Qo 2 (.mv (.c (.int .u64 0)))] [0]) (.sq (.sq (.rg none [Mv 3 0,Qo 4 (.cl 57 [(.t 3)]),Qo 5 (.un .not (.t 4))] [0,5]) (.cd (.t 5) (.sq (.rg none [Qo 2 (.mv (.c (.int .u64 0)))] [2]) .rt) .sk)) (.sq (.rg none [Mv 6 0,Qo 7 (.bo .sub (.c (.int .i64 64)) (.t 6)),Qo 8 (.bo .shr (.c (.int .u64 18446744073709551615)) (.t 7)),Mv 2 8] [2]) .rt))),np:=1,res:=[.t 2],mode:=.iso }
def b59_0:C:=(.sq (.rg none [Qo 13 (.bo .lss (.t 12) (.t 11))] [0,10,11,12,13]) (.sq (.cd (.t 13) .sk (.xt 0)) (.sq (.bl 1 (.sq (.rg none [Qo 14 (.ia 1 (.t 10) (.t 12)),Qo 15 (.ld none (.t 14)),Mv 6 15] [0,6,10,11,12]) (.sq (.rg none [Mv 16 6,Mv 17 0,Qo 18 (.cl 58 [(.t 17)]),Qo 19 (.bo .gtr (.t 16) (.t 18))] [0,10,11,12,19]) (.cd (.t 19) (.sq (.rg none [Qo 4 (.mv (.c (.int .i64 8)))] [4]) .rt) .sk)))) (.rg none [Qo 20 (.bo .add (.t 12) (.c (.int .i64 1))),Mv 12 20] [0,10,11,12]))))
def k59_1:C:=(.sq (.rg none [Qo 4 (.mv (.c (.int .i64 0)))] [4]) .rt)
def c59:FI.Fn:={ body:=(.sq (.rg none [Qo 4 (.mv (.c (.int .i64 0)))] [0,1]) (.sq (.sq (.rg none [Mv 7 0,Qo 8 (.cl 57 [(.t 7)]),Qo 9 (.un .not (.t 8))] [0,1,9]) (.cd (.t 9) (.sq (.rg none [Qo 4 (.mv (.c (.int .i64 14)))] [4]) .rt) .sk)) (.sq (.sq (.rg none [Mv 10 1,Qo 11 (.ln 1 (.t 10)),Qo 12 (.mv (.c (.int .i64 0)))] [0,10,11,12]) (.bl 0 (.lp true b59_0))) k59_1))),np:=2,res:=[.t 4],mode:=.isf }
def c60:FI.Fn:={ body:=(.sq (.rg none [Qo 4 (.mv (.c (.int .i64 0)))] [0,1]) (.sq (.rg none [Mv 6 0,Qo 7 (.bo .sub (.c (.int .i64 64)) (.t 6)),Mv 5 7] [1,5]) (.sq (.rg none [Mv 8 1,Mv 9 5,Qo 10 (.bo .shl (.t 8) (.t 9)),Qo 11 (.cv .i64 (.t 10)),Mv 12 5,Qo 13 (.bo .shr (.t 11) (.t 12)),Mv 4 13] [4]) .rt))),np:=2,res:=[.t 4],mode:=.iso }
def c61:FI.Fn:={ body:=(.sq (.rg none [Qo 2 (.mv (.c .nilf))] [0]) (.sq (.rg none [Qo 4 (.bd [.nilf,.nilf,.nilf,.nilf,.nilf,.nilf,.nilf,.nilf,.nilf,.nilf,.nilf,.nilf,.nilf,.nilf,.nilf,.nilf,.nilf,.nilf,.nilf] [(5,1,(.c (.fn 89 []))),(6,1,(.c (.fn 90 []))),(7,1,(.c (.fn 91 []))),(8,1,(.c (.fn 92 []))),(9,1,(.c (.fn 93 []))),(10,1,(.c (.fn 94 []))),(11,1,(.c (.fn 95 []))),(12,1,(.c (.fn 97 []))),(13,1,(.c (.fn 98 []))),(14,1,(.c (.fn 99 []))),(15,1,(.c (.fn 100 []))),(16,1,(.c (.fn 101 []))),(17,1,(.c (.fn 103 []))),(18,1,(.c (.fn 104 [])))]),Qo 3 (.al 19 (.agg [.nilf,.nilf,.nilf,.nilf,.nilf,.nilf,.nilf,.nilf,.nilf,.nilf,.nilf,.nilf,.nilf,.nilf,.nilf,.nilf,.nilf,.nilf,.nilf])),Eo (.st 19 (.t 3) (.t 4))] [0,3]) (.sq (.rg none [Mv 5 0,Qo 6 (.aa 19 1 (.t 3) (.t 5)),Qo 7 (.ld none (.t 6)),Mv 2 7] [2]) .rt))),np:=1,res:=[.t 2],mode:=.iso }
def b62_0:C:=(.bl 1 (.sq (.sq (.rg none [Qo 12 (.fa 0 (.t 5)),Qo 13 (.ld none (.t 12)),Qo 14 (.bo .neq (.t 13) (.c (.int .u8 2)))] [2,3,4,5,14]) (.cd (.t 14) (.xt 1) .sk)) (.sq (.sq (.rg none [Qo 16 (.ld none (.t 4)),Qo 17 (.fa 3 (.t 5)),Qo 18 (.ld none (.t 17)),Qo 19 (.lk 1 (.int .i64 0) true (.t 16) (.t 18)),Mv 15 19,Qo 20 (.ex (.t 15) 0),Qo 21 (.ex (.t 15) 1),Mv 6 20,Mv 7 21] [2,3,4,5,6,7]) (.sq (.rg none [Mv 22 7,Mv 23 22,Gm 24 23 true 6,Gd 25 23 true (.fa 1 (.t 5)),Gd 26 23 true (.ld none (.t 25)),Gd 27 23 true (.bo .neq (.t 24) (.t 26)),Qo 28 (.pk (.t 23) (.t 27) (.c (.bool false)))] [2,3,4,5,28]) (.cd (.t 28) (.sq (.rg none [Eo (.st 1 (.t 2) (.c .nilm)),Eo (.st 1 (.t 3) (.c (.bool false)))] [2,3]) .rt) .sk))) (.rg none [Qo 29 (.ld none (.t 4)),Qo 30 (.fa 3 (.t 5)),Qo 31 (.ld none (.t 30)),Qo 32 (.fa 1 (.t 5)),Qo 33 (.ld none (.t 32)),Eo (.mu 1 (.t 29) (.t 31) (.t 33))] []))))
def a62_1:C:=(.rg none [Qo 5 (.al 6 (.agg [(.int .u8 0),(.int .i64 0),(.int .u64 0),(.str []),(.int .i64 0),(.lst true [])])),Eo (.st 6 (.t 5) (.t 11))] [2,3,4,5])
def k62_2:C:=(.sq (.rg none [Qo 34 (.ld none (.t 4)),Eo (.st 1 (.t 2) (.t 34)),Eo (.st 1 (.t 3) (.c (.bool true)))] [2,3]) .rt)
def Ab9:FI.Rd:={ ps:=[11],ct:=[2,3,4],asg:=a62_1,body:=b62_0 }
def c62:FI.Fn:={ body:=(.sq (.rg none [Qo 1 (.bx 6 (.t 0)),Qo 2 (.al 1 .nilm),Qo 3 (.al 1 (.bool false))] [1,2,3]) (.sq (.rg none [Qo 8 (.mm),Qo 4 (.al 1 .nilm),Eo (.st 1 (.t 4) (.t 8))] [1,2,3,4]) (.sq (.sq (.rg none [Qo 9 (.ld (some 6) (.t 1)),Qo 10 (.cl 71 [(.t 9)])] [2,3,4,10]) (.bl 0 (.rf 1006200 (.t 10) [2,3,4]))) k62_2))),np:=1,res:=[.cell 2 none,.cell 3 none],mode:=.shr }
def c66:FI.Fn:={ body:=(.sq (.rg none [Mv 5 0,Qo 6 (.ln 1 (.t 5)),Mv 4 6] [0,1,4]) (.rg none [Mv 7 0,Mv 8 4,Mv 9 4,Qo 10 (.cv .u64 (.t 9)),Qo 11 (.cl 106 [(.t 10)]),Mv 12 1,Qo 13 (.cl 105 [(.t 7),(.c (.int .i64 0)),(.t 8),(.t 11),(.t 12)])] [])),np:=2,res:=[],mode:=.shr }
def c67:FI.Fn:={ body:=(.sq (.rg none [Qo 2 (.bx 3 (.t 0)),Qo 3 (.bx 3 (.t 1)),Qo 4 (.mv (.c (.int .i64 0)))] [2,3]) (.sq (.rg none [Qo 5 (.fa 0 (.t 2)),Qo 6 (.ld none (.t 5)),Qo 7 (.fa 0 (.t 3)),Qo 8 (.ld none (.t 7)),Qo 9 (.cl 43 [(.t 6),(.t 8)]),Mv 4 9] [4]) .rt)),np:=2,res:=[.t 4],mode:=.iso }
def c71:FI.Fn:={ body:=(.sq (.rg none [Qo 1 (.bx 6 (.t 0)),Qo 2 (.mv (.c .nilf))] [1]) (.sq (.rg none [Qo 3 (.mf 116 [(.t 1)]),Mv 2 3] [2]) .rt)),np:=1,res:=[.t 2],mode:=.iso }
def c72:FI.Fn:={ body:=(.sq (.rg none [Qo 1 (.bx 6 (.t 0)),Qo 2 (.mv (.c (.bool false)))] [1]) (.sq (.sq (.rg none [Qo 6 (.fa 1 (.t 1)),Qo 7 (.ld none (.t 6)),Qo 8 (.cl 48 [(.t 7)]),Qo 9 (.un .not (.t 8))] [1,9]) (.cd (.t 9) (.sq (.rg none [Qo 2 (.mv (.c (.bool false)))] [2]) .rt) .sk)) (.sq (.rg none [Qo 11 (.fa 0 (.t 1)),Qo 12 (.ld none (.t 11)),Qo 13 (.cl 118 [(.t 12)]),Mv 10 13,Qo 14 (.ex (.t 10) 0),Qo 15 (.ex (.t 10) 1),Qo 3 (.al 3 (.agg [(.str []),(.int .i64 0),(.int .i64 0)])),Eo (.st 3 (.t 3) (.t 14)),Mv 4 15] [1,3,4]) (.sq (.sq (.rg none [Mv 16 4,Qo 17 (.un .not (.t 16))] [1,3,17]) (.cd (.t 17) (.sq (.rg none [Qo 18 (.fa 5 (.t 1)),Qo 19 (.ld none (.t 18)),Qo 20 (.ln 1 (.t 19)),Qo 21 (.bo .eql (.t 20) (.c (.int .i64 0))),Mv 22 21,Gd 23 22 true (.fa 4 (.t 1)),Gd 24 22 true (.ld none (.t 23)),Gd 25 22 true (.bo .eql (.t 24) (.c (.int .i64 0))),Qo 26 (.pk (.t 22) (.t 25) (.c (.bool false))),Mv 5 26] [1,5]) (.sq (.rg none [Mv 27 5,Mv 28 27,Gd 29 28 true (.fa 0 (.t 1)),Gd 30 28 true (.ld none (.t 29)),Gd 31 28 true (.bo .eql (.t 30) (.c (.int .u8 1))),Gm 32 28 true 31,Gd 33 32 true (.fa 3 (.t 1)),Gd 34 32 true (.ld none (.t 33)),Gd 35 32 true (.bo .eql (.t 34) (.c (.str []))),Gd 36 28 true (.pk (.t 32) (.t 35) (.c (.bool false))),Gm 37 28 true 36,Gd 38 37 true (.fa 1 (.t 1)),Gd 39 37 true (.ld none (.t 38)),Gd 40 37 true (.fa 2 (.t 1)),Gd 41 37 true (.ld none (.t 40)),Gd 42 37 true (.cl 20 [(.t 39),(.t 41)]),Gd 43 28 true (.pk (.t 37) (.t 42) (.c (.bool false))),Gm 44 28 true 43,Gd 45 44 false (.fa 0 (.t 1)),Gd 46 44 false (.ld none (.t 45)),Gd 47 44 false (.bo .eql (.t 46) (.c (.int .u8 2))),Gm 48 44 false 47,Gd 49 48 true (.fa 2 (.t 1)),Gd 50 48 true (.ld none (.t 49)),Gd 51 48 true (.bo .eql (.t 50) (.c (.int .u64 0))),Gd 52 44 false (.pk (.t 48) (.t 51) (.c (.bool false))),Gm 53 44 false 52,Gd 54 53 true (.fa 3 (.t 1)),Gd 55 53 true (.ld none (.t 54)),Gd 56 53 true (.cl 55 [(.t 55)]),Gd 57 44 false (.pk (.t 53) (.t 56) (.c (.bool false))),Gd 58 28 true (.pk (.t 44) (.c (.bool true)) (.t 57)),Qo 59 (.pk (.t 28) (.t 58) (.c (.bool false))),Mv 2 59] [2]) .rt)) .sk)) (.sq (.rg none [Qo 60 (.fa 2 (.t 1)),Qo 61 (.ld none (.t 60)),Qo 62 (.bo .eql (.t 61) (.c (.int .u64 0))),Mv 63 62,Gd 64 63 true (.fa 3 (.t 1)),Gd 65 63 true (.ld none (.t 64)),Gd 66 63 true (.bo .eql (.t 65) (.c (.str []))),Qo 67 (.pk (.t 63) (.t 66) (.c (.bool false))),Mv 68 67,Gd 69 68 true (.fa 4 (.t 1)),Gd 70 68 true (.ld none (.t 69)),Gd 71 68 true (.bo .eql (.t 70) (.c (.int .i64 0))),Gm 72 68 true 71,Gd 73 72 false (.fa 2 (.t 3)),Gd 74 72 false (.ld none (.t 73)),Gd 75 72 false (.bo .eql (.t 74) (.c (.int .i64 5))),Gd 76 68 true (.pk (.t 72) (.c (.bool true)) (.t 75)),Qo 77 (.pk (.t 68) (.t 76) (.c (.bool false))),Mv 78 77,Gd 79 78 true (.fa 5 (.t 1)),Gd 80 78 true (.ld none (.t 79)),Gd 81 78 true (.ln 1 (.t 80)),Gd 82 78 true (.fa 1 (.t 3)),Gd 83 78 true (.ld none (.t 82)),Gd 84 78 true (.bo .eql (.t 81) (.t 83)),Qo 85 (.pk (.t 78) (.t 84) (.c (.bool false))),Mv 86 85,Gd 87 86 true (.ld (some 6) (.t 1)),Gd 88 86 true (.fa 2 (.t 3)),Gd 89 86 true (.ld none (.t 88)),Gd 90 86 true (.cl 119 [(.t 87),(.t 89)]),Qo 91 (.pk (.t 86) (.t 90) (.c (.bool false))),Mv 2 91] [2]) .rt))))),np:=1,res:=[.t 2],mode:=.iso }
def c73:FI.Fn:={ body:=(.sq (.rg none [Qo 4 (.mv (.c (.int .i64 0)))] [0,1]) (.sq (.rg none [Mv 5 0,Mv 6 1,Qo 7 (.sx (.t 5) (.t 6)),Mv 4 7] [4]) .rt)),np:=2,res:=[.t 4],mode:=.iso }
def b74_0:C:=(.sq (.sq (.rg none [Mv 25 5,Mv 26 4,Qo 27 (.bo .lss (.t 25) (.t 26))] [3,4,5,27]) (.cd (.t 27) .sk (.xt 2))) (.sq (.bl 3 (.sq (.rg (some (List.range 24)) [Mv 30 3,Mv 31 5,Qo 32 (.ia 3 (.t 30) (.t 31)),Qo 33 (.fa 0 (.t 32)),Qo 34 (.ld none (.t 33)),Mv 35 3,Mv 36 4,Qo 37 (.ia 3 (.t 35) (.t 36)),Qo 38 (.fa 0 (.t 37)),Qo 39 (.ld none (.t 38)),Qo 40 (.bo .eql (.t 34) (.t 39)),Mv 41 40,Gm 42 41 true 3,Gm 43 41 true 5,Gd 44 41 true (.ia 3 (.t 42) (.t 43)),Gd 45 41 true (.fa 1 (.t 44)),Gd 46 41 true (.ld none (.t 45)),Gm 47 41 true 3,Gm 48 41 true 4,Gd 49 41 true (.ia 3 (.t 47) (.t 48)),Gd 50 41 true (.fa 1 (.t 49)),Gd 51 41 true (.ld none (.t 50)),Gd 52 41 true (.bo .neq (.t 46) (.t 51)),Qo 53 (.pk (.t 41) (.t 52) (.c (.bool false)))] [3,4,5,53]) (.cd (.t 53) (.sq (.rg none [Qo 2 (.mv (.c (.int .i64 14)))] [2]) .rt) .sk))) (.rg none [Mv 28 5,Qo 29 (.bo .add (.t 28) (.c (.int .i64 1))),Mv 5 29] [3,4,5])))
def k74_1:C:=(.rg none [Mv 23 4,Qo 24 (.bo .add (.t 23) (.c (.int .i64 1))),Mv 4 24] [3,4])
def b74_2:C:=(.sq (.sq (.rg none [Mv 19 4,Mv 20 3,Qo 21 (.ln 1 (.t 20)),Qo 22 (.bo .lss (.t 19) (.t 21))] [3,4,22]) (.cd (.t 22) .sk (.xt 0))) (.sq (.bl 1 (.sq (.rg none [Qo 5 (.mv (.c (.int .i64 0)))] [3,4,5]) (.bl 2 (.lp true b74_0)))) k74_1))
def k74_3:C:=(.sq (.rg none [Qo 2 (.mv (.c (.int .i64 0)))] [2]) .rt)
def c74:FI.Fn:={ body:=(.sq (.rg none [Qo 1 (.bx 6 (.t 0)),Qo 2 (.mv (.c (.int .i64 0)))] [1]) (.sq (.sq (.rg none [Qo 6 (.ld (some 6) (.t 1)),Qo 7 (.cl 121 [(.t 6)]),Qo 8 (.bo .gtr (.t 7) (.c (.int .i64 400))),Mv 9 8,Gd 10 9 false (.ld (some 6) (.t 1)),Gd 11 9 false (.cl 122 [(.t 10)]),Gd 12 9 false (.bo .gtr (.t 11) (.c (.int .i64 60))),Qo 13 (.pk (.t 9) (.c (.bool true)) (.t 12))] [1,13]) (.cd (.t 13) (.sq (.rg none [Qo 2 (.mv (.c (.int .i64 4)))] [2]) .rt) .sk)) (.sq (.sq (.rg none [Qo 14 (.ld (some 6) (.t 1)),Qo 15 (.cl 123 [(.t 14)]),Qo 16 (.un .not (.t 15))] [1,16]) (.cd (.t 16) (.sq (.rg none [Qo 2 (.mv (.c (.int .i64 8)))] [2]) .rt) .sk)) (.sq (.rg none [Qo 17 (.ld (some 6) (.t 1)),Qo 18 (.cl 75 [(.t 17)]),Mv 3 18] [3]) (.sq (.sq (.rg none [Qo 4 (.mv (.c (.int .i64 0)))] [3,4]) (.bl 0 (.lp true b74_2))) k74_3))))),np:=1,res:=[.t 2],mode:=.iso }
def b75_0:C:=(.sq (.sq (.rg none [Mv 16 4,Qo 17 (.fa 5 (.t 1)),Qo 18 (.ld none (.t 17)),Qo 19 (.ln 1 (.t 18)),Qo 20 (.bo .lss (.t 16) (.t 19))] [1,3,4,20]) (.cd (.t 20) .sk (.xt 0))) (.sq (.bl 1 (.rg none [Mv 23 3,Qo 24 (.fa 5 (.t 1)),Qo 25 (.ld none (.t 24)),Mv 26 4,Qo 27 (.ia 6 (.t 25) (.t 26)),Qo 28 (.ld (some 6) (.t 27)),Qo 29 (.cl 75 [(.t 28)]),Qo 30 (.ap 3 32 (.t 23) (.t 29)),Mv 3 30] [1,3,4])) (.rg none [Mv 21 4,Qo 22 (.bo .add (.t 21) (.c (.int .i64 1))),Mv 4 22] [1,3,4])))
def k75_1:C:=(.sq (.rg none [Mv 31 3,Mv 2 31] [2]) .rt)
def c75:FI.Fn:={ body:=(.sq (.rg none [Qo 1 (.bx 6 (.t 0)),Qo 2 (.mv (.c (.lst true [])))] [1]) (.sq (.rg none [Qo 3 (.nl 3)] [1,3]) (.sq (.sq (.rg none [Qo 5 (.fa 0 (.t 1)),Qo 6 (.ld none (.t 5)),Qo 7 (.bo .eql (.t 6) (.c (.int .u8 2)))] [1,3,7]) (.cd (.t 7) (.rg none [Mv 8 3,Qo 9 (.fa 3 (.t 1)),Qo 10 (.ld none (.t 9)),Qo 11 (.fa 1 (.t 1)),Qo 12 (.ld none (.t 11)),Qo 13 (.bd [(.str []),(.int .i64 0),(.int .u64 0)] [(0,1,(.t 10)),(1,1,(.t 12))]),Qo 14 (.bs 3 1 (.agg [(.str []),(.int .i64 0),(.int .u64 0)]) [(0,(.t 13))]),Qo 15 (.ap 3 32 (.t 8) (.t 14)),Mv 3 15] [1,3]) .sk)) (.sq (.sq (.rg none [Qo 4 (.mv (.c (.int .i64 0)))] [1,3,4]) (.bl 0 (.lp false b75_0))) k75_1)))),np:=1,res:=[.t 2],mode:=.iso }
def c76:FI.Fn:={ body:=(.sq (.rg none [Qo 6 (.mv (.c (.int .u64 0))),Qo 7 (.mv (.c (.int .i64 0)))] [0,1,2]) (.sq (.sq (.rg none [Mv 9 1,Qo 10 (.cl 51 [(.t 9)]),Qo 11 (.un .not (.t 10))] [0,1,2,11]) (.cd (.t 11) (.sq (.rg none [Qo 6 (.mv (.c (.int .u64 0))),Qo 7 (.mv (.c (.int .i64 14)))] [6,7]) .rt) .sk)) (.sq (.sq (.rg none [Mv 12 0,Qo 13 (.bo .neq (.t 12) (.c (.int .u8 3))),Mv 14 13,Gm 15 14 true 0,Gd 16 14 true (.bo .neq (.t 15) (.c (.int .u8 4))),Qo 17 (.pk (.t 14) (.t 16) (.c (.bool false)))] [0,1,2,17]) (.cd (.t 17) (.sq (.rg none [Qo 6 (.mv (.c (.int .u64 0))),Qo 7 (.mv (.c (.int .i64 2)))] [6,7]) .rt) .sk)) (.sq (.sq (.rg none [Mv 18 1,Mv 19 2,Qo 20 (.cl 53 [(.t 18),(.t 19)]),Qo 21 (.un .not (.t 20))] [0,1,2,21]) (.cd (.t 21) (.sq (.rg none [Qo 6 (.mv (.c (.int .u64 0))),Qo 7 (.mv (.c (.int .i64 8)))] [6,7]) .rt) .sk)) (.sq (.rg none [Mv 22 1,Mv 23 2,Qo 24 (.cl 125 [(.t 22),(.t 23)]),Qo 25 (.cl 124 [(.t 24)]),Mv 8 25] [0,1,8]) (.sq (.sq (.rg none [Mv 26 0,Qo 27 (.bo .eql (.t 26) (.c (.int .u8 4)))] [1,8,27]) (.cd (.t 27) (.rg none [Mv 28 8,Mv 29 1,Qo 30 (.cl 127 [(.t 29)]),Qo 31 (.cl 126 [(.t 28),(.t 30),(.c (.int .i64 1))]),Mv 8 31] [8]) .sk)) (.sq (.rg none [Mv 32 8,Qo 33 (.cl 128 [(.t 32)]),Mv 6 33,Qo 7 (.mv (.c (.int .i64 0)))] [6,7]) .rt))))))),np:=3,res:=[.t 6,.t 7],mode:=.iso }
def c77:FI.Fn:={ body:=(.sq (.rg none [Qo 8 (.mv (.c (.int .u64 0))),Qo 9 (.mv (.c (.int .i64 0)))] [0,1,2,3]) (.sq (.sq (.rg none [Mv 10 0,Qo 11 (.cl 51 [(.t 10)]),Qo 12 (.un .not (.t 11)),Mv 13 12,Gm 14 13 false 2,Gd 15 13 false (.cl 51 [(.t 14)]),Gd 16 13 false (.un .not (.t 15)),Qo 17 (.pk (.t 13) (.c (.bool true)) (.t 16)),Mv 18 17,Gm 19 18 false 0,Gm 20 18 false 2,Gd 21 18 false (.bo .add (.t 19) (.t 20)),Gd 22 18 false (.bo .gtr (.t 21) (.c (.int .i64 64))),Qo 23 (.pk (.t 18) (.c (.bool true)) (.t 22))] [0,1,2,3,23]) (.cd (.t 23) (.sq (.rg none [Qo 8 (.mv (.c (.int .u64 0))),Qo 9 (.mv (.c (.int .i64 14)))] [8,9]) .rt) .sk)) (.sq (.sq (.rg none [Mv 24 0,Mv 25 1,Qo 26 (.cl 53 [(.t 24),(.t 25)]),Qo 27 (.un .not (.t 26)),Mv 28 27,Gm 29 28 false 2,Gm 30 28 false 3,Gd 31 28 false (.cl 53 [(.t 29),(.t 30)]),Gd 32 28 false (.un .not (.t 31)),Qo 33 (.pk (.t 28) (.c (.bool true)) (.t 32))] [0,1,2,3,33]) (.cd (.t 33) (.sq (.rg none [Qo 8 (.mv (.c (.int .u64 0))),Qo 9 (.mv (.c (.int .i64 8)))] [8,9]) .rt) .sk)) (.sq (.rg none [Mv 34 2,Mv 35 3,Qo 36 (.cl 125 [(.t 34),(.t 35)]),Mv 37 0,Mv 38 1,Qo 39 (.cl 125 [(.t 37),(.t 38)]),Qo 40 (.ap 1 8 (.t 36) (.t 39)),Qo 41 (.cl 128 [(.t 40)]),Mv 8 41,Qo 9 (.mv (.c (.int .i64 0)))] [8,9]) .rt)))),np:=4,res:=[.t 8,.t 9],mode:=.iso }
def c78:FI.Fn:={ body:=(.sq (.rg none [Qo 8 (.mv (.c (.int .u64 0))),Qo 9 (.mv (.c (.int .i64 0)))] [0,1,2,3]) (.sq (.sq (.rg none [Mv 10 0,Qo 11 (.cl 51 [(.t 10)]),Qo 12 (.un .not (.t 11))] [0,1,2,3,12]) (.cd (.t 12) (.sq (.rg none [Qo 8 (.mv (.c (.int .u64 0))),Qo 9 (.mv (.c (.int .i64 14)))] [8,9]) .rt) .sk)) (.sq (.sq (.rg none [Mv 13 0,Mv 14 1,Qo 15 (.cl 53 [(.t 13),(.t 14)]),Qo 16 (.un .not (.t 15))] [0,1,2,3,16]) (.cd (.t 16) (.sq (.rg none [Qo 8 (.mv (.c (.int .u64 0))),Qo 9 (.mv (.c (.int .i64 8)))] [8,9]) .rt) .sk)) (.sq (.sq (.rg none [Mv 17 2,Qo 18 (.bo .lss (.t 17) (.c (.int .i64 0))),Mv 19 18,Gm 20 19 false 3,Gd 21 19 false (.bo .lss (.t 20) (.c (.int .i64 1))),Qo 22 (.pk (.t 19) (.c (.bool true)) (.t 21)),Mv 23 22,Gm 24 23 false 2,Gm 25 23 false 0,Gd 26 23 false (.bo .gtr (.t 24) (.t 25)),Qo 27 (.pk (.t 23) (.c (.bool true)) (.t 26)),Mv 28 27,Gm 29 28 false 3,Gm 30 28 false 0,Gd 31 28 false (.bo .gtr (.t 29) (.t 30)),Qo 32 (.pk (.t 28) (.c (.bool true)) (.t 31)),Mv 33 32,Gm 34 33 false 2,Gm 35 33 false 3,Gd 36 33 false (.bo .add (.t 34) (.t 35)),Gm 37 33 false 0,Gd 38 33 false (.bo .gtr (.t 36) (.t 37)),Qo 39 (.pk (.t 33) (.c (.bool true)) (.t 38))] [0,1,2,3,39]) (.cd (.t 39) (.sq (.rg none [Qo 8 (.mv (.c (.int .u64 0))),Qo 9 (.mv (.c (.int .i64 2)))] [8,9]) .rt) .sk)) (.sq (.rg none [Mv 40 0,Mv 41 1,Qo 42 (.cl 125 [(.t 40),(.t 41)]),Mv 43 2,Mv 44 2,Mv 45 3,Qo 46 (.bo .add (.t 44) (.t 45)),Qo 47 (.sl 1 (.t 42) (some (.t 43)) (some (.t 46))),Qo 48 (.cl 128 [(.t 47)]),Mv 8 48,Qo 9 (.mv (.c (.int .i64 0)))] [8,9]) .rt))))),np:=4,res:=[.t 8,.t 9],mode:=.iso }
def b79_0:C:=(.sq (.sq (.rg none [Mv 37 10,Qo 38 (.ln 1 (.t 37)),Mv 39 2,Qo 40 (.bo .lss (.t 38) (.t 39))] [2,3,10,11,40]) (.cd (.t 40) .sk (.xt 0))) (.bl 1 (.sq (.rg none [Mv 41 3] [2,3,10,11,41]) (.cd (.t 41) (.rg none [Mv 42 10,Mv 43 11,Qo 44 (.bs 1 1 (.int .i64 0) [(0,(.t 43))]),Qo 45 (.ap 1 8 (.t 42) (.t 44)),Mv 10 45] [2,3,10,11]) (.rg none [Mv 46 10,Qo 47 (.bs 1 1 (.int .i64 0) [(0,(.c (.int .i64 0)))]),Qo 48 (.ap 1 8 (.t 46) (.t 47)),Mv 10 48] [2,3,10,11])))))
def k79_1:C:=(.sq (.rg none [Mv 49 10,Qo 50 (.cl 128 [(.t 49)]),Mv 8 50,Qo 9 (.mv (.c (.int .i64 0)))] [8,9]) .rt)
def c79:FI.Fn:={ body:=(.sq (.rg none [Qo 8 (.mv (.c (.int .u64 0))),Qo 9 (.mv (.c (.int .i64 0)))] [0,1,2,3]) (.sq (.sq (.rg none [Mv 12 0,Qo 13 (.cl 51 [(.t 12)]),Qo 14 (.un .not (.t 13)),Mv 15 14,Gm 16 15 false 2,Gd 17 15 false (.cl 51 [(.t 16)]),Gd 18 15 false (.un .not (.t 17)),Qo 19 (.pk (.t 15) (.c (.bool true)) (.t 18)),Mv 20 19,Gm 21 20 false 2,Gm 22 20 false 0,Gd 23 20 false (.bo .lss (.t 21) (.t 22)),Qo 24 (.pk (.t 20) (.c (.bool true)) (.t 23))] [0,1,2,3,24]) (.cd (.t 24) (.sq (.rg none [Qo 8 (.mv (.c (.int .u64 0))),Qo 9 (.mv (.c (.int .i64 14)))] [8,9]) .rt) .sk)) (.sq (.sq (.rg none [Mv 25 0,Mv 26 1,Qo 27 (.cl 53 [(.t 25),(.t 26)]),Qo 28 (.un .not (.t 27))] [0,1,2,3,28]) (.cd (.t 28) (.sq (.rg none [Qo 8 (.mv (.c (.int .u64 0))),Qo 9 (.mv (.c (.int .i64 8)))] [8,9]) .rt) .sk)) (.sq (.rg none [Mv 29 0,Mv 30 1,Qo 31 (.cl 125 [(.t 29),(.t 30)]),Mv 10 31] [0,2,3,10]) (.sq (.rg none [Mv 32 10,Mv 33 0,Qo 34 (.bo .sub (.t 33) (.c (.int .i64 1))),Qo 35 (.ia 1 (.t 32) (.t 34)),Qo 36 (.ld none (.t 35)),Mv 11 36] [2,3,10,11]) (.sq (.bl 0 (.lp false b79_0)) k79_1)))))),np:=4,res:=[.t 8,.t 9],mode:=.iso }
def b80_0:C:=(.sq (.sq (.rg none [Mv 68 14,Mv 69 1,Qo 70 (.bo .lss (.t 68) (.t 69))] [0,1,10,11,13,14,70]) (.cd (.t 70) .sk (.xt 1))) (.sq (.bl 2 (.sq (.rg (some (List.range 10)) [Mv 73 10,Mv 74 14,Qo 75 (.ia 1 (.t 73) (.t 74)),Qo 76 (.ld none (.t 75)),Mv 77 11,Mv 78 14,Qo 79 (.ia 1 (.t 77) (.t 78)),Qo 80 (.ld none (.t 79)),Qo 81 (.bo .add (.t 76) (.t 80)),Mv 15 81] [0,1,10,11,13,14,15]) (.sq (.rg none [Qo 16 (.mv (.c (.int .i64 0)))] [0,1,10,11,13,14,15,16]) (.sq (.sq (.rg none [Mv 82 0,Qo 83 (.bo .eql (.t 82) (.c (.int .u8 8))),Mv 84 83,Gm 85 84 true 15,Gd 86 84 true (.bo .eql (.t 85) (.c (.int .i64 2))),Qo 87 (.pk (.t 84) (.t 86) (.c (.bool false))),Mv 88 87,Gm 89 88 false 0,Gd 90 88 false (.bo .eql (.t 89) (.c (.int .u8 9))),Gm 91 88 false 90,Gm 92 91 true 15,Gd 93 91 true (.bo .gtr (.t 92) (.c (.int .i64 0))),Gd 94 88 false (.pk (.t 91) (.t 93) (.c (.bool false))),Qo 95 (.pk (.t 88) (.c (.bool true)) (.t 94)),Mv 96 95,Gm 97 96 false 0,Gd 98 96 false (.bo .eql (.t 97) (.c (.int .u8 10))),Gm 99 96 false 98,Gm 100 99 true 15,Gd 101 99 true (.bo .eql (.t 100) (.c (.int .i64 1))),Gd 102 96 false (.pk (.t 99) (.t 101) (.c (.bool false))),Qo 103 (.pk (.t 96) (.c (.bool true)) (.t 102))] [0,1,10,11,13,14,16,103]) (.cd (.t 103) (.rg none [Qo 16 (.mv (.c (.int .i64 1)))] [0,1,10,11,13,14,16]) .sk)) (.rg none [Mv 104 13,Mv 105 16,Qo 106 (.bs 1 1 (.int .i64 0) [(0,(.t 105))]),Qo 107 (.ap 1 8 (.t 104) (.t 106)),Mv 13 107] [0,1,10,11,13,14]))))) (.rg none [Mv 71 14,Qo 72 (.bo .add (.t 71) (.c (.int .i64 1))),Mv 14 72] [0,1,10,11,13,14])))
def k80_1:C:=(.sq (.rg none [Mv 172 13,Qo 173 (.cl 128 [(.t 172)]),Mv 8 173,Qo 9 (.mv (.c (.int .i64 0)))] [8,9]) .rt)
def c80:FI.Fn:={ body:=(.sq (.rg none [Qo 8 (.mv (.c (.int .u64 0))),Qo 9 (.mv (.c (.int .i64 0)))] [0,1,2,3]) (.sq (.sq (.rg none [Mv 17 1,Qo 18 (.cl 51 [(.t 17)]),Qo 19 (.un .not (.t 18))] [0,1,2,3,19]) (.cd (.t 19) (.sq (.rg none [Qo 8 (.mv (.c (.int .u64 0))),Qo 9 (.mv (.c (.int .i64 14)))] [8,9]) .rt) .sk)) (.sq (.sq (.rg none [Mv 20 0,Qo 21 (.bo .lss (.t 20) (.c (.int .u8 5))),Mv 22 21,Gm 23 22 false 0,Gd 24 22 false (.bo .gtr (.t 23) (.c (.int .u8 18))),Qo 25 (.pk (.t 22) (.c (.bool true)) (.t 24))] [0,1,2,3,25]) (.cd (.t 25) (.sq (.rg none [Qo 8 (.mv (.c (.int .u64 0))),Qo 9 (.mv (.c (.int .i64 2)))] [8,9]) .rt) .sk)) (.sq (.sq (.rg none [Mv 26 1,Mv 27 2,Qo 28 (.cl 53 [(.t 26),(.t 27)]),Qo 29 (.un .not (.t 28)),Mv 30 29,Gm 31 30 false 1,Gm 32 30 false 3,Gd 33 30 false (.cl 53 [(.t 31),(.t 32)]),Gd 34 30 false (.un .not (.t 33)),Qo 35 (.pk (.t 30) (.c (.bool true)) (.t 34))] [0,1,2,3,35]) (.cd (.t 35) (.sq (.rg none [Qo 8 (.mv (.c (.int .u64 0))),Qo 9 (.mv (.c (.int .i64 8)))] [8,9]) .rt) .sk)) (.sq (.rg none [Mv 36 1,Mv 37 2,Qo 38 (.cl 125 [(.t 36),(.t 37)]),Mv 39 1,Mv 40 3,Qo 41 (.cl 125 [(.t 39),(.t 40)]),Mv 10 38,Mv 11 41] [0,1,2,3,10,11]) (.sq (.rg none [Mv 42 10,Mv 43 1,Qo 44 (.bo .sub (.t 43) (.c (.int .i64 1))),Qo 45 (.ia 1 (.t 42) (.t 44)),Qo 46 (.ld none (.t 45)),Mv 12 46] [0,1,2,3,10,11,12]) (.sq (.rg none [Qo 13 (.nl 1)] [0,1,2,3,10,11,12,13]) (.sq (.sq (.rg none [Mv 47 0] [0,1,2,3,10,11,12,13,47]) (.bl 0 (.sq (.rg none [Qo 49 (.bo .eql (.t 47) (.c (.int .u8 5))),Mv 48 49] [0,1,2,3,10,11,12,13,47,48]) (.cd (.t 48) (.rg none [Mv 50 10,Mv 51 11,Qo 52 (.cl 126 [(.t 50),(.t 51),(.c (.int .i64 0))]),Mv 13 52] [13]) (.sq (.rg none [Qo 54 (.bo .eql (.t 47) (.c (.int .u8 6))),Mv 53 54] [0,1,2,3,10,11,12,13,47,53]) (.cd (.t 53) (.rg none [Mv 55 10,Mv 56 11,Qo 57 (.cl 124 [(.t 56)]),Qo 58 (.cl 126 [(.t 55),(.t 57),(.c (.int .i64 1))]),Mv 13 58] [13]) (.sq (.rg none [Qo 60 (.bo .eql (.t 47) (.c (.int .u8 7))),Mv 59 60] [0,1,2,3,10,11,12,13,47,59]) (.cd (.t 59) (.rg none [Mv 61 10,Mv 62 11,Qo 63 (.cl 129 [(.t 61),(.t 62)]),Mv 13 63] [13]) (.sq (.sq (.rg none [Qo 65 (.bo .eql (.t 47) (.c (.int .u8 8))),Mv 64 65] [0,1,2,3,10,11,12,13,47,64]) (.cd (.t 64) .sk (.sq (.rg none [Qo 66 (.bo .eql (.t 47) (.c (.int .u8 9))),Mv 64 66] [0,1,2,3,10,11,12,13,47,64]) (.cd (.t 64) .sk (.rg none [Qo 67 (.bo .eql (.t 47) (.c (.int .u8 10))),Mv 64 67] [0,1,2,3,10,11,12,13,47,64]))))) (.cd (.t 64) (.sq (.rg none [Qo 14 (.mv (.c (.int .i64 0)))] [0,1,10,11,13,14]) (.bl 1 (.lp false b80_0))) (.sq (.rg none [Qo 109 (.bo .eql (.t 47) (.c (.int .u8 11))),Mv 108 109] [1,2,3,10,11,12,13,47,108]) (.cd (.t 108) (.rg none [Mv 110 10,Mv 111 3,Qo 112 (.cl 131 [(.t 111)]),Qo 113 (.un .neg (.t 112)),Qo 114 (.cl 130 [(.t 110),(.t 113),(.c (.int .i64 0))]),Mv 13 114] [13]) (.sq (.rg none [Qo 116 (.bo .eql (.t 47) (.c (.int .u8 12))),Mv 115 116] [1,2,3,10,11,12,13,47,115]) (.cd (.t 115) (.rg none [Mv 117 10,Mv 118 3,Qo 119 (.cl 131 [(.t 118)]),Qo 120 (.cl 130 [(.t 117),(.t 119),(.c (.int .i64 0))]),Mv 13 120] [13]) (.sq (.rg none [Qo 122 (.bo .eql (.t 47) (.c (.int .u8 13))),Mv 121 122] [1,2,3,10,11,12,13,47,121]) (.cd (.t 121) (.rg none [Mv 123 10,Mv 124 3,Qo 125 (.cl 131 [(.t 124)]),Mv 126 12,Qo 127 (.cl 130 [(.t 123),(.t 125),(.t 126)]),Mv 13 127] [13]) (.sq (.rg none [Qo 129 (.bo .eql (.t 47) (.c (.int .u8 14))),Mv 128 129] [1,2,3,10,11,12,13,47,128]) (.cd (.t 128) (.rg none [Mv 131 10,Mv 132 11,Qo 133 (.cl 132 [(.t 131),(.t 132)]),Mv 130 133,Qo 134 (.ex (.t 130) 0),Qo 135 (.ex (.t 130) 1),Mv 13 134] [13]) (.sq (.rg none [Qo 137 (.bo .eql (.t 47) (.c (.int .u8 15))),Mv 136 137] [1,2,3,10,11,12,13,47,136]) (.cd (.t 136) (.rg none [Mv 139 10,Mv 140 11,Qo 141 (.cl 132 [(.t 139),(.t 140)]),Mv 138 141,Qo 142 (.ex (.t 138) 0),Qo 143 (.ex (.t 138) 1),Mv 13 143] [13]) (.sq (.rg none [Qo 145 (.bo .eql (.t 47) (.c (.int .u8 16))),Mv 144 145] [1,2,3,10,11,12,13,47,144]) (.cd (.t 144) (.sq (.rg none [Mv 146 2,Mv 147 3,Qo 148 (.bo .eql (.t 146) (.t 147)),Qo 149 (.cl 133 [(.t 148)]),Mv 8 149,Qo 9 (.mv (.c (.int .i64 0)))] [8,9]) .rt) (.sq (.rg none [Qo 151 (.bo .eql (.t 47) (.c (.int .u8 17))),Mv 150 151] [1,10,11,12,13,47,150]) (.cd (.t 150) (.sq (.rg none [Mv 152 10,Mv 153 11,Qo 154 (.cl 134 [(.t 152),(.t 153)]),Qo 155 (.cl 133 [(.t 154)]),Mv 8 155,Qo 9 (.mv (.c (.int .i64 0)))] [8,9]) .rt) (.sq (.rg none [Qo 157 (.bo .eql (.t 47) (.c (.int .u8 18))),Mv 156 157] [1,10,11,12,13,156]) (.cd (.t 156) (.sq (.sq (.rg none [Mv 158 12,Mv 159 11,Mv 160 1,Qo 161 (.bo .sub (.t 160) (.c (.int .i64 1))),Qo 162 (.ia 1 (.t 159) (.t 161)),Qo 163 (.ld none (.t 162)),Qo 164 (.bo .neq (.t 158) (.t 163))] [10,11,12,164]) (.cd (.t 164) (.sq (.rg none [Mv 165 12,Qo 166 (.bo .eql (.t 165) (.c (.int .i64 1))),Qo 167 (.cl 133 [(.t 166)]),Mv 8 167,Qo 9 (.mv (.c (.int .i64 0)))] [8,9]) .rt) .sk)) (.sq (.rg none [Mv 168 10,Mv 169 11,Qo 170 (.cl 134 [(.t 168),(.t 169)]),Qo 171 (.cl 133 [(.t 170)]),Mv 8 171,Qo 9 (.mv (.c (.int .i64 0)))] [8,9]) .rt)) .sk)))))))))))))))))))))))))) k80_1)))))))),np:=4,res:=[.t 8,.t 9],mode:=.iso }
def b81_0:C:=(.sq (.sq (.rg none [Mv 15 9,Mv 16 10,Qo 17 (.bo .lss (.t 15) (.t 16))] [0,1,2,8,9,10,17]) (.cd (.t 17) .sk (.xt 0))) (.bl 1 (.sq (.rg none [Mv 18 9,Mv 19 10,Qo 20 (.bo .add (.t 18) (.t 19)),Qo 21 (.cv .u64 (.t 20)),Qo 22 (.bo .shr (.t 21) (.c (.int .u64 1))),Qo 23 (.cv .i64 (.t 22)),Mv 11 23] [0,1,2,8,9,10,11]) (.sq (.rg none [Mv 24 2,Mv 25 0,Mv 26 11,Qo 27 (.ia 2 (.t 25) (.t 26)),Qo 28 (.ld (some 2) (.t 27)),Mv 29 1,Qo 30 (.cw (.t 24) [(.t 28),(.t 29)]),Qo 31 (.bo .lss (.t 30) (.c (.int .i64 0)))] [0,1,2,8,9,10,11,31]) (.cd (.t 31) (.rg none [Mv 32 11,Qo 33 (.bo .add (.t 32) (.c (.int .i64 1))),Mv 9 33] [0,1,2,8,9,10]) (.rg none [Mv 34 11,Mv 10 34] [0,1,2,8,9,10]))))))
def k81_1:C:=(.sq (.rg none [Mv 35 9,Mv 36 9,Mv 37 8,Qo 38 (.bo .lss (.t 36) (.t 37)),Mv 39 38,Gm 40 39 true 2,Gm 41 39 true 0,Gm 42 39 true 9,Gd 43 39 true (.ia 2 (.t 41) (.t 42)),Gd 44 39 true (.ld (some 2) (.t 43)),Gm 45 39 true 1,Gd 46 39 true (.cw (.t 40) [(.t 44),(.t 45)]),Gd 47 39 true (.bo .eql (.t 46) (.c (.int .i64 0))),Qo 48 (.pk (.t 39) (.t 47) (.c (.bool false))),Mv 6 35,Mv 7 48] [6,7]) .rt)
def c81:FI.Fn:={ body:=(.sq (.rg none [Qo 6 (.mv (.c (.int .i64 0))),Qo 7 (.mv (.c (.bool false)))] [0,1,2]) (.sq (.rg none [Mv 12 0,Qo 13 (.ln 1 (.t 12)),Mv 8 13] [0,1,2,8]) (.sq (.rg none [Mv 14 8,Qo 9 (.mv (.c (.int .i64 0))),Mv 10 14] [0,1,2,8,9,10]) (.sq (.bl 0 (.lp true b81_0)) k81_1)))),np:=3,res:=[.t 6,.t 7],mode:=.iso }
def c82:FI.Fn:={ body:=(.sq (.rg none [Qo 2 (.bx 2 (.t 0)),Qo 4 (.mv (.c (.int .i64 0)))] [1,2]) (.sq (.bl 0 (.sq (.rg none [Qo 6 (.fa 0 (.t 2)),Qo 7 (.ld none (.t 6)),Mv 8 1,Qo 9 (.bo .lss (.t 7) (.t 8)),Mv 5 9] [1,2,5]) (.cd (.t 5) (.sq (.rg none [Qo 4 (.mv (.c (.int .i64 (-1))))] [4]) .rt) (.sq (.rg none [Qo 11 (.fa 0 (.t 2)),Qo 12 (.ld none (.t 11)),Mv 13 1,Qo 14 (.bo .gtr (.t 12) (.t 13)),Mv 10 14] [10]) (.cd (.t 10) (.sq (.rg none [Qo 4 (.mv (.c (.int .i64 1)))] [4]) .rt) .sk))))) (.sq (.rg none [Qo 4 (.mv (.c (.int .i64 0)))] [4]) .rt))),np:=2,res:=[.t 4],mode:=.iso }
def b83_0:C:=(.sq (.sq (.rg none [Mv 5 4,Mv 6 0,Qo 7 (.bo .lss (.t 5) (.t 6))] [0,3,4,7]) (.cd (.t 7) .sk (.xt 0))) (.sq (.bl 1 (.rg none [Mv 10 3,Mv 11 3,Qo 12 (.bo .add (.t 10) (.t 11)),Mv 3 12] [0,3,4])) (.rg none [Mv 8 4,Qo 9 (.bo .add (.t 8) (.c (.int .i64 1))),Mv 4 9] [0,3,4])))
def k83_1:C:=(.sq (.rg none [Mv 13 3,Mv 2 13] [2]) .rt)
def c83:FI.Fn:={ body:=(.sq (.rg none [Qo 2 (.mv (.c (.int .u64 0)))] [0]) (.sq (.rg none [Qo 3 (.mv (.c (.int .u64 1)))] [0,3]) (.sq (.sq (.rg none [Qo 4 (.mv (.c (.int .i64 0)))] [0,3,4]) (.bl 0 (.lp true b83_0))) k83_1))),np:=1,res:=[.t 2],mode:=.iso }
def b84_0:C:=(.sq (.sq (.rg none [Mv 6 5,Mv 7 0,Qo 8 (.ln 1 (.t 7)),Qo 9 (.bo .lss (.t 6) (.t 8))] [0,1,5,9]) (.cd (.t 9) .sk (.xt 0))) (.sq (.bl 1 (.sq (.rg none [Mv 12 0,Mv 13 5,Qo 14 (.ia 2 (.t 12) (.t 13)),Qo 15 (.fa 0 (.t 14)),Qo 16 (.ld none (.t 15)),Mv 17 1,Qo 18 (.bo .eql (.t 16) (.t 17))] [0,1,5,18]) (.cd (.t 18) (.sq (.rg none [Mv 19 0,Mv 20 5,Qo 21 (.ia 2 (.t 19) (.t 20)),Qo 22 (.fa 1 (.t 21)),Qo 23 (.ld none (.t 22)),Qo 24 (.cv .u64 (.t 23)),Mv 4 24] [4]) .rt) .sk))) (.rg none [Mv 10 5,Qo 11 (.bo .add (.t 10) (.c (.int .i64 1))),Mv 5 11] [0,1,5])))
def k84_1:C:=(.sq (.rg none [Qo 4 (.mv (.c (.int .u64 0)))] [4]) .rt)
def c84:FI.Fn:={ body:=(.sq (.rg none [Qo 4 (.mv (.c (.int .u64 0)))] [0,1]) (.sq (.sq (.rg none [Qo 5 (.mv (.c (.int .i64 0)))] [0,1,5]) (.bl 0 (.lp true b84_0))) k84_1)),np:=2,res:=[.t 4],mode:=.iso }
def c85:FI.Fn:={ body:=(.sq (.rg none [Qo 2 (.mv (.c (.int .u64 0)))] [0]) (.sq (.sq (.rg none [Mv 3 0,Qo 4 (.cl 51 [(.t 3)]),Qo 5 (.un .not (.t 4))] [0,5]) (.cd (.t 5) (.sq (.rg none [Qo 2 (.mv (.c (.int .u64 0)))] [2]) .rt) .sk)) (.sq (.rg none [Mv 6 0,Qo 7 (.bo .sub (.t 6) (.c (.int .i64 1))),Qo 8 (.cl 83 [(.t 7)]),Qo 9 (.bo .sub (.t 8) (.c (.int .u64 1))),Mv 10 0,Qo 11 (.bo .sub (.t 10) (.c (.int .i64 1))),Qo 12 (.cl 83 [(.t 11)]),Qo 13 (.bo .add (.t 9) (.t 12)),Mv 2 13] [2]) .rt))),np:=1,res:=[.t 2],mode:=.iso }
def b86_0:C:=(.sq (.rg none [Qo 17 (.bo .lss (.t 16) (.t 15))] [0,15,16,17]) (.sq (.cd (.t 17) .sk (.xt 0)) (.sq (.bl 1 (.sq (.rg none [Mv 18 16,Mv 3 18] [0,3,15,16]) (.sq (.rg none [Mv 19 0,Mv 20 3,Qo 21 (.ix (.t 19) (.t 20)),Mv 4 21] [0,3,4,15,16]) (.sq (.rg none [Mv 22 4,Qo 23 (.bo .geq (.t 22) (.c (.int .u8 97))),Mv 24 23,Gm 25 24 true 4,Gd 26 24 true (.bo .leq (.t 25) (.c (.int .u8 122))),Qo 27 (.pk (.t 24) (.t 26) (.c (.bool false))),Mv 28 27,Gm 29 28 false 4,Gd 30 28 false (.bo .geq (.t 29) (.c (.int .u8 65))),Gm 31 28 false 30,Gm 32 31 true 4,Gd 33 31 true (.bo .leq (.t 32) (.c (.int .u8 90))),Gd 34 28 false (.pk (.t 31) (.t 33) (.c (.bool false))),Qo 35 (.pk (.t 28) (.c (.bool true)) (.t 34)),Mv 5 35] [0,3,4,5,15,16]) (.sq (.rg none [Mv 36 5,Qo 37 (.un .not (.t 36)),Mv 38 37,Gm 39 38 true 3,Gd 40 38 true (.bo .eql (.t 39) (.c (.int .i64 0))),Gm 41 38 true 40,Gm 42 41 false 4,Gd 43 41 false (.bo .neq (.t 42) (.c (.int .u8 95))),Gm 44 41 false 43,Gm 45 44 true 4,Gd 46 44 true (.bo .lss (.t 45) (.c (.int .u8 48))),Gm 47 44 true 46,Gm 48 47 false 4,Gd 49 47 false (.bo .gtr (.t 48) (.c (.int .u8 57))),Gd 50 44 true (.pk (.t 47) (.c (.bool true)) (.t 49)),Gd 51 41 false (.pk (.t 44) (.t 50) (.c (.bool false))),Gd 52 38 true (.pk (.t 41) (.c (.bool true)) (.t 51)),Qo 53 (.pk (.t 38) (.t 52) (.c (.bool false)))] [0,15,16,53]) (.cd (.t 53) (.sq (.rg none [Qo 2 (.mv (.c (.bool false)))] [2]) .rt) .sk)))))) (.rg none [Qo 54 (.bo .add (.t 16) (.c (.int .i64 1))),Mv 16 54] [0,15,16]))))
def k86_1:C:=(.sq (.rg none [Qo 2 (.mv (.c (.bool true)))] [2]) .rt)
def c86:FI.Fn:={ body:=(.sq (.rg none [Qo 2 (.mv (.c (.bool false)))] [0]) (.sq (.sq (.rg none [Mv 6 0,Qo 7 (.ln 0 (.t 6)),Qo 8 (.bo .lss (.t 7) (.c (.int .i64 1))),Mv 9 8,Gm 10 9 false 0,Gd 11 9 false (.ln 0 (.t 10)),Gd 12 9 false (.bo .gtr (.t 11) (.c (.int .i64 24))),Qo 13 (.pk (.t 9) (.c (.bool true)) (.t 12))] [0,13]) (.cd (.t 13) (.sq (.rg none [Qo 2 (.mv (.c (.bool false)))] [2]) .rt) .sk)) (.sq (.sq (.rg none [Mv 14 0,Qo 15 (.ln 0 (.t 14)),Qo 16 (.mv (.c (.int .i64 0)))] [0,15,16]) (.bl 0 (.lp true b86_0))) k86_1))),np:=1,res:=[.t 2],mode:=.iso }
def c87:FI.Fn:={ body:=(.sq (.rg none [Qo 4 (.mv (.c (.str [])))] [0,1]) (.sq (.rg none [Mv 5 0,Mv 6 1,Qo 7 (.cl 135 [(.t 5),(.t 6)]),Mv 4 7] [4]) .rt)),np:=2,res:=[.t 4],mode:=.iso }
def b88_0:C:=(.sq (.sq (.rg none [Mv 15 3,Mv 16 0,Qo 17 (.ln 0 (.t 16)),Qo 18 (.bo .lss (.t 15) (.t 17))] [0,3,18]) (.cd (.t 18) .sk (.xt 0))) (.sq (.bl 1 (.sq (.rg none [Mv 21 0,Mv 22 3,Qo 23 (.ix (.t 21) (.t 22)),Mv 4 23] [0,3,4]) (.sq (.rg none [Mv 24 4,Qo 25 (.bo .geq (.t 24) (.c (.int .u8 97))),Mv 26 25,Gm 27 26 true 4,Gd 28 26 true (.bo .leq (.t 27) (.c (.int .u8 122))),Qo 29 (.pk (.t 26) (.t 28) (.c (.bool false))),Mv 30 29,Gm 31 30 false 4,Gd 32 30 false (.bo .geq (.t 31) (.c (.int .u8 65))),Gm 33 30 false 32,Gm 34 33 true 4,Gd 35 33 true (.bo .leq (.t 34) (.c (.int .u8 90))),Gd 36 30 false (.pk (.t 33) (.t 35) (.c (.bool false))),Qo 37 (.pk (.t 30) (.c (.bool true)) (.t 36)),Mv 5 37] [0,3,4,5]) (.sq (.rg none [Mv 38 4,Qo 39 (.bo .geq (.t 38) (.c (.int .u8 48))),Mv 40 39,Gm 41 40 true 4,Gd 42 40 true (.bo .leq (.t 41) (.c (.int .u8 57))),Qo 43 (.pk (.t 40) (.t 42) (.c (.bool false))),Mv 44 43,Gm 45 44 false 4,Gd 46 44 false (.bo .eql (.t 45) (.c (.int .u8 95))),Qo 47 (.pk (.t 44) (.c (.bool true)) (.t 46)),Mv 6 47] [0,3,5,6]) (.sq (.rg none [Mv 48 5,Qo 49 (.un .not (.t 48)),Mv 50 49,Gm 51 50 true 3,Gd 52 50 true (.bo .eql (.t 51) (.c (.int .i64 0))),Gm 53 50 true 52,Gm 54 53 false 6,Gd 55 53 false (.un .not (.t 54)),Gd 56 50 true (.pk (.t 53) (.c (.bool true)) (.t 55)),Qo 57 (.pk (.t 50) (.t 56) (.c (.bool false)))] [0,3,57]) (.cd (.t 57) (.sq (.rg none [Qo 2 (.mv (.c (.bool false)))] [2]) .rt) .sk)))))) (.rg none [Mv 19 3,Qo 20 (.bo .add (.t 19) (.c (.int .i64 1))),Mv 3 20] [0,3])))
def k88_1:C:=(.sq (.rg none [Qo 2 (.mv (.c (.bool true)))] [2]) .rt)
def c88:FI.Fn:={ body:=(.sq (.rg none [Qo 2 (.mv (.c (.bool false)))] [0]) (.sq (.sq (.rg none [Mv 7 0,Qo 8 (.ln 0 (.t 7)),Qo 9 (.bo .eql (.t 8) (.c (.int .i64 0))),Mv 10 9,Gm 11 10 false 0,Gd 12 10 false (.ln 0 (.t 11)),Gd 13 10 false (.bo .gtr (.t 12) (.c (.int .i64 24))),Qo 14 (.pk (.t 10) (.c (.bool true)) (.t 13))] [0,14]) (.cd (.t 14) (.sq (.rg none [Qo 2 (.mv (.c (.bool false)))] [2]) .rt) .sk)) (.sq (.sq (.rg none [Qo 3 (.mv (.c (.int .i64 0)))] [0,3]) (.bl 0 (.lp true b88_0))) k88_1))),np:=1,res:=[.t 2],mode:=.iso }
def c89:FI.Fn:={ body:=(.sq (.rg none [Qo 6 (.mv (.c (.int .u64 0)))] [1,2]) (.sq (.rg none [Mv 7 1,Mv 8 2,Qo 9 (.bo .add (.t 7) (.t 8)),Mv 6 9] [6]) .rt)),np:=3,res:=[.t 6],mode:=.iso }
def c90:FI.Fn:={ body:=(.sq (.rg none [Qo 6 (.mv (.c (.int .u64 0)))] [1,2]) (.sq (.rg none [Mv 7 1,Mv 8 2,Qo 9 (.bo .sub (.t 7) (.t 8)),Mv 6 9] [6]) .rt)),np:=3,res:=[.t 6],mode:=.iso }
def c91:FI.Fn:={ body:=(.sq (.rg none [Qo 6 (.mv (.c (.int .u64 0)))] [1,2]) (.sq (.rg none [Mv 7 1,Mv 8 2,Qo 9 (.bo .mul (.t 7) (.t 8)),Mv 6 9] [6]) .rt)),np:=3,res:=[.t 6],mode:=.iso }
def c92:FI.Fn:={ body:=(.sq (.rg none [Qo 6 (.mv (.c (.int .u64 0)))] [1,2]) (.sq (.rg none [Mv 7 1,Mv 8 2,Qo 9 (.bo .and (.t 7) (.t 8)),Mv 6 9] [6]) .rt)),np:=3,res:=[.t 6],mode:=.iso }
def c93:FI.Fn:={ body:=(.sq (.rg none [Qo 6 (.mv (.c (.int .u64 0)))] [1,2]) (.sq (.rg none [Mv 7 1,Mv 8 2,Qo 9 (.bo .or (.t 7) (.t 8)),Mv 6 9] [6]) .rt)),np:=3,res:=[.t 6],mode:=.iso }
def c94:FI.Fn:={ body:=(.sq (.rg none [Qo 6 (.mv (.c (.int .u64 0)))] [1,2]) (.sq (.rg none [Mv 7 1,Mv 8 2,Qo 9 (.bo .xor (.t 7) (.t 8)),Mv 6 9] [6]) .rt)),np:=3,res:=[.t 6],mode:=.iso }
def c95:FI.Fn:={ body:=(.sq (.rg none [Qo 6 (.mv (.c (.int .u64 0)))] [1,2]) (.sq (.rg none [Mv 7 1,Mv 8 2,Qo 9 (.cl 96 [(.t 8)]),Qo 10 (.bo .shl (.t 7) (.t 9)),Mv 6 10] [6]) .rt)),np:=3,res:=[.t 6],mode:=.iso }
def c96:FI.Fn:={ body:=(.sq (.rg none [Qo 2 (.mv (.c (.int .u64 0)))] [0]) (.sq (.rg none [Mv 3 0,Qo 4 (.mn (.t 3) (.c (.int .u64 64))),Mv 2 4] [2]) .rt)),np:=1,res:=[.t 2],mode:=.iso }
def c97:FI.Fn:={ body:=(.sq (.rg none [Qo 6 (.mv (.c (.int .u64 0)))] [1,2]) (.sq (.rg none [Mv 7 1,Mv 8 2,Qo 9 (.cl 96 [(.t 8)]),Qo 10 (.bo .shr (.t 7) (.t 9)),Mv 6 10] [6]) .rt)),np:=3,res:=[.t 6],mode:=.iso }
def c98:FI.Fn:={ body:=(.sq (.rg none [Qo 6 (.mv (.c (.int .u64 0)))] [0,1,2]) (.sq (.rg none [Mv 7 0,Mv 8 1,Qo 9 (.cl 60 [(.t 7),(.t 8)]),Mv 10 2,Qo 11 (.cl 96 [(.t 10)]),Qo 12 (.bo .shr (.t 9) (.t 11)),Qo 13 (.cv .u64 (.t 12)),Mv 6 13] [6]) .rt)),np:=3,res:=[.t 6],mode:=.iso }
def c99:FI.Fn:={ body:=(.sq (.rg none [Qo 6 (.mv (.c (.int .u64 0)))] [1,2]) (.sq (.sq (.rg none [Mv 7 2,Qo 8 (.bo .eql (.t 7) (.c (.int .u64 0)))] [1,2,8]) (.cd (.t 8) (.sq (.rg none [Qo 6 (.mv (.c (.int .u64 18446744073709551615)))] [6]) .rt) .sk)) (.sq (.rg none [Mv 9 1,Mv 10 2,Qo 11 (.bo .quo (.t 9) (.t 10)),Mv 6 11] [6]) .rt))),np:=3,res:=[.t 6],mode:=.iso }
def c100:FI.Fn:={ body:=(.sq (.rg none [Qo 6 (.mv (.c (.int .u64 0)))] [1,2]) (.sq (.sq (.rg none [Mv 7 2,Qo 8 (.bo .eql (.t 7) (.c (.int .u64 0)))] [1,2,8]) (.cd (.t 8) (.sq (.rg none [Mv 9 1,Mv 6 9] [6]) .rt) .sk)) (.sq (.rg none [Mv 10 1,Mv 11 2,Qo 12 (.bo .rem (.t 10) (.t 11)),Mv 6 12] [6]) .rt))),np:=3,res:=[.t 6],mode:=.iso }
def c101:FI.Fn:={ body:=(.sq (.rg none [Qo 6 (.mv (.c (.int .u64 0)))] [1,2]) (.sq (.rg none [Mv 7 1,Mv 8 2,Qo 9 (.bo .eql (.t 7) (.t 8)),Qo 10 (.cl 102 [(.t 9)]),Mv 6 10] [6]) .rt)),np:=3,res:=[.t 6],mode:=.iso }
def c102:FI.Fn:={ body:=(.sq (.rg none [Qo 2 (.mv (.c (.int .u64 0)))] [0]) (.sq (.sq (.rg none [Mv 3 0] [3]) (.cd (.t 3) (.sq (.rg none [Qo 2 (.mv (.c (.int .u64 1)))] [2]) .rt) .sk)) (.sq (.rg none [Qo 2 (.mv (.c (.int .u64 0)))] [2]) .rt))),np:=1,res:=[.t 2],mode:=.iso }
def c103:FI.Fn:={ body:=(.sq (.rg none [Qo 6 (.mv (.c (.int .u64 0)))] [1,2]) (.sq (.rg none [Mv 7 1,Mv 8 2,Qo 9 (.bo .lss (.t 7) (.t 8)),Qo 10 (.cl 102 [(.t 9)]),Mv 6 10] [6]) .rt)),np:=3,res:=[.t 6],mode:=.iso }
def c104:FI.Fn:={ body:=(.sq (.rg none [Qo 6 (.mv (.c (.int .u64 0)))] [0,1,2]) (.sq (.rg none [Mv 7 0,Mv 8 1,Qo 9 (.cl 60 [(.t 7),(.t 8)]),Mv 10 0,Mv 11 2,Qo 12 (.cl 60 [(.t 10),(.t 11)]),Qo 13 (.bo .lss (.t 9) (.t 12)),Qo 14 (.cl 102 [(.t 13)]),Mv 6 14] [6]) .rt)),np:=3,res:=[.t 6],mode:=.iso }
def q105_1:C:=(.sq (.rg none [Mv 62 2,Qo 63 (.bo .sub (.t 62) (.c (.int .i64 1))),Mv 64 13,Mv 65 1,Qo 66 (.bo .sub (.t 64) (.t 65)),Qo 67 (.bo .sub (.t 63) (.t 66)),Mv 13 67] [0,1,2,3,4,10,11,12,13]) (.rg none [Qo 14 (.mv (.c (.int .i64 1)))] [0,1,2,3,4,10,11,12,13,14]))
def q105_2:C:=(.cd (.t 97) (.sq (.rg none [Mv 98 0,Mv 99 1,Mv 100 2,Mv 101 13,Mv 102 4,Qo 103 (.cl 142 [(.t 98),(.t 99),(.t 100),(.t 101),(.t 102)]),Mv 15 103] [0,2,3,4,10,11,15]) (.sq (.rg none [Mv 104 15,Mv 1 104] [0,1,2,3,4,10,11]) (.xt 1))) .sk)
def q105_3:C:=(.sq (.rg none [Mv 114 17,Mv 11 114] [0,1,2,3,4,11,12,16]) (.sq (.rg none [Mv 115 16,Mv 116 1,Qo 117 (.bo .sub (.t 115) (.t 116)),Mv 118 2,Mv 119 16,Qo 120 (.bo .sub (.t 118) (.t 119)),Mv 18 117,Mv 19 120] [0,1,2,3,4,11,12,16,18,19]) (.sq (.rg none [Mv 121 12,Qo 122 (.bo .quo (.t 121) (.c (.int .i64 8))),Mv 20 122] [0,1,2,3,4,11,16,18,19,20]) (.sq (.rg none [Mv 123 18,Mv 124 19,Qo 125 (.bo .lss (.t 123) (.t 124))] [0,1,2,3,4,11,16,18,19,20,125]) (.cd (.t 125) (.sq (.rg none [Mv 126 18,Mv 127 20,Qo 128 (.bo .geq (.t 126) (.t 127)),Mv 10 128] [0,1,2,3,4,10,11,16]) (.sq (.rg none [Mv 129 0,Mv 130 1,Mv 131 16,Mv 132 3,Mv 133 4,Qo 134 (.cl 105 [(.t 129),(.t 130),(.t 131),(.t 132),(.t 133)])] [0,2,3,4,10,11,16]) (.rg none [Mv 135 16,Qo 136 (.bo .add (.t 135) (.c (.int .i64 1))),Mv 1 136] [0,1,2,3,4,10,11]))) (.sq (.rg none [Mv 137 19,Mv 138 20,Qo 139 (.bo .geq (.t 137) (.t 138)),Mv 10 139] [0,1,2,3,4,10,11,16]) (.sq (.rg none [Mv 140 0,Mv 141 16,Qo 142 (.bo .add (.t 141) (.c (.int .i64 1))),Mv 143 2,Mv 144 3,Mv 145 4,Qo 146 (.cl 105 [(.t 140),(.t 142),(.t 143),(.t 144),(.t 145)])] [0,1,3,4,10,11,16]) (.rg none [Mv 147 16,Mv 2 147] [0,1,2,3,4,10,11]))))))))
def q105_4:C:=(.sq (.rg none [Mv 106 0,Mv 107 1,Mv 108 2,Mv 109 13,Mv 110 4,Qo 111 (.cl 143 [(.t 106),(.t 107),(.t 108),(.t 109),(.t 110)]),Mv 105 111,Qo 112 (.ex (.t 105) 0),Qo 113 (.ex (.t 105) 1),Mv 16 112,Mv 17 113] [0,1,2,3,4,12,16,17]) q105_3)
def q105_5:C:=(.sq (.sq (.rg (some (List.range 17)) [Mv 81 1,Qo 82 (.bo .gtr (.t 81) (.c (.int .i64 0))),Mv 83 82,Gm 84 83 true 4,Gm 85 83 true 0,Gm 86 83 true 1,Gd 87 83 true (.bo .sub (.t 86) (.c (.int .i64 1))),Gd 88 83 true (.ia 3 (.t 85) (.t 87)),Gd 89 83 true (.ld (some 3) (.t 88)),Gm 90 83 true 0,Gm 91 83 true 13,Gd 92 83 true (.ia 3 (.t 90) (.t 91)),Gd 93 83 true (.ld (some 3) (.t 92)),Gd 94 83 true (.cw (.t 84) [(.t 89),(.t 93)]),Gd 95 83 true (.bo .lss (.t 94) (.c (.int .i64 0))),Gd 96 83 true (.un .not (.t 95)),Qo 97 (.pk (.t 83) (.t 96) (.c (.bool false)))] [0,1,2,3,4,10,11,12,13,97]) q105_2) q105_4)
def q105_6:C:=(.sq (.sq (.rg none [Mv 68 10,Mv 69 68,Gm 70 69 true 11,Qo 71 (.pk (.t 69) (.t 70) (.c (.bool false))),Mv 72 71,Gm 73 72 true 14,Gd 74 72 true (.bo .eql (.t 73) (.c (.int .i64 1))),Qo 75 (.pk (.t 72) (.t 74) (.c (.bool false)))] [0,1,2,3,4,10,11,12,13,75]) (.cd (.t 75) (.sq (.rg none [Mv 76 0,Mv 77 1,Mv 78 2,Mv 79 4,Qo 80 (.cl 141 [(.t 76),(.t 77),(.t 78),(.t 79)])] [0,1,2,3,4,10,11,12,13,80]) (.cd (.t 80) .rt .sk)) .sk)) q105_5)
def q105_7:C:=(.sq (.sq (.rg none [Mv 55 14,Qo 56 (.bo .eql (.t 55) (.c (.int .i64 2)))] [0,1,2,3,4,10,11,12,13,14,56]) (.cd (.t 56) (.sq (.rg none [Mv 57 0,Mv 58 1,Mv 59 2,Mv 60 4,Qo 61 (.cl 140 [(.t 57),(.t 58),(.t 59),(.t 60)])] [0,1,2,3,4,10,11,12,13]) q105_1) .sk)) q105_6)
def q105_8:C:=(.sq (.rg none [Mv 48 0,Mv 49 1,Mv 50 2,Mv 51 4,Qo 52 (.cl 139 [(.t 48),(.t 49),(.t 50),(.t 51)]),Mv 47 52,Qo 53 (.ex (.t 47) 0),Qo 54 (.ex (.t 47) 1),Mv 13 53,Mv 14 54] [0,1,2,3,4,10,11,12,13,14]) q105_7)
def q105_9:C:=(.sq (.sq (.rg none [Mv 38 10,Qo 39 (.un .not (.t 38))] [0,1,2,3,4,10,11,12,39]) (.cd (.t 39) (.sq (.rg none [Mv 40 0,Mv 41 1,Mv 42 2,Mv 43 4,Qo 44 (.cl 138 [(.t 40),(.t 41),(.t 42),(.t 43)])] [0,1,2,3,4,10,11,12]) (.rg none [Mv 45 3,Qo 46 (.bo .sub (.t 45) (.c (.int .i64 1))),Mv 3 46] [0,1,2,3,4,10,11,12])) .sk)) q105_8)
def q105_10:C:=(.sq (.sq (.rg none [Mv 31 3,Qo 32 (.bo .eql (.t 31) (.c (.int .i64 0)))] [0,1,2,3,4,10,11,12,32]) (.cd (.t 32) (.sq (.rg none [Mv 33 0,Mv 34 1,Mv 35 2,Mv 36 4,Qo 37 (.cl 137 [(.t 33),(.t 34),(.t 35),(.t 36)])] []) .rt) .sk)) q105_9)
def b105_0:C:=(.bl 1 (.sq (.rg none [Mv 21 2,Mv 22 1,Qo 23 (.bo .sub (.t 21) (.t 22)),Mv 12 23] [0,1,2,3,4,10,11,12]) (.sq (.sq (.rg none [Mv 24 12,Qo 25 (.bo .leq (.t 24) (.c (.int .i64 12)))] [0,1,2,3,4,10,11,12,25]) (.cd (.t 25) (.sq (.rg none [Mv 26 0,Mv 27 1,Mv 28 2,Mv 29 4,Qo 30 (.cl 136 [(.t 26),(.t 27),(.t 28),(.t 29)])] []) .rt) .sk)) q105_10)))
def c105:FI.Fn:={ body:=(.sq (.rg none [Qo 10 (.mv (.c (.bool true)))] [0,1,2,3,4,10]) (.sq (.rg none [Qo 11 (.mv (.c (.bool true)))] [0,1,2,3,4,10,11]) (.bl 0 (.lp false b105_0)))),np:=5,res:=[],mode:=.shr }
def c106:FI.Fn:={ body:=(.sq (.rg none [Qo 2 (.mv (.c (.int .i64 0)))] [0]) (.sq (.cd (.c (.bool false)) (.sq (.rg none [Mv 3 0,Qo 4 (.cv .u32 (.t 3)),Qo 5 (.cl 144 [(.t 4)]),Mv 2 5] [2]) .rt) .sk) (.sq (.rg none [Mv 6 0,Qo 7 (.cl 145 [(.t 6)]),Mv 2 7] [2]) .rt))),np:=1,res:=[.t 2],mode:=.iso }
def c116:FI.Fn:={ body:=(.rg none [Qo 3 (.ld (some 6) (.t 1)),Mv 4 0,Qo 5 (.cl 117 [(.t 3),(.t 4)])] []),np:=2,res:=[],mode:=.shr }
def b117_0:C:=(.sq (.rg none [Qo 15 (.bo .lss (.t 14) (.t 13))] [1,12,13,14,15]) (.sq (.cd (.t 15) .sk (.xt 0)) (.sq (.bl 1 (.sq (.rg none [Qo 16 (.ia 6 (.t 12) (.t 14)),Qo 17 (.ld (some 6) (.t 16)),Qo 6 (.al 6 (.agg [(.int .u8 0),(.int .i64 0),(.int .u64 0),(.str []),(.int .i64 0),(.lst true [])])),Eo (.st 6 (.t 6) (.t 17))] [1,6,12,13,14]) (.sq (.rg none [Qo 18 (.ld (some 6) (.t 6)),Mv 19 1,Qo 20 (.cl 117 [(.t 18),(.t 19)]),Qo 21 (.un .not (.t 20))] [1,12,13,14,21]) (.cd (.t 21) (.sq (.rg none [Qo 4 (.mv (.c (.bool false)))] [4]) .rt) .sk)))) (.rg none [Qo 22 (.bo .add (.t 14) (.c (.int .i64 1))),Mv 14 22] [1,12,13,14]))))
def k117_1:C:=(.sq (.rg none [Qo 4 (.mv (.c (.bool true)))] [4]) .rt)
def c117:FI.Fn:={ body:=(.sq (.rg none [Qo 2 (.bx 6 (.t 0)),Qo 4 (.mv (.c (.bool false)))] [1,2]) (.sq (.sq (.rg none [Mv 7 1,Qo 8 (.ld (some 6) (.t 2)),Qo 9 (.cw (.t 7) [(.t 8)]),Qo 10 (.un .not (.t 9))] [1,2,10]) (.cd (.t 10) (.sq (.rg none [Qo 4 (.mv (.c (.bool false)))] [4]) .rt) .sk)) (.sq (.sq (.rg none [Qo 11 (.fa 5 (.t 2)),Qo 12 (.ld none (.t 11)),Qo 13 (.ln 1 (.t 12)),Qo 14 (.mv (.c (.int .i64 0)))] [1,12,13,14]) (.bl 0 (.lp false b117_0))) k117_1))),np:=2,res:=[.t 4],mode:=.shr }
def c118:FI.Fn:={ body:=(.sq (.rg none [Qo 2 (.al 3 (.agg [(.str []),(.int .i64 0),(.int .i64 0)])),Qo 3 (.mv (.c (.bool false)))] [0,2]) (.sq (.sq (.rg none [Mv 4 0,Qo 5 (.bo .gtr (.t 4) (.c (.int .u8 24)))] [0,2,5]) (.cd (.t 5) (.sq (.rg none [Qo 6 (.bd [(.str []),(.int .i64 0),(.int .i64 0)] []),Eo (.st 3 (.t 2) (.t 6)),Qo 3 (.mv (.c (.bool false)))] [2,3]) .rt) .sk)) (.sq (.rg (some (List.range 10)) [Mv 7 0,Qo 8 (.aa 25 3 (.c (.eptr gl0 0)) (.t 7)),Qo 9 (.ld (some 3) (.t 8)),Mv 10 0,Qo 11 (.aa 25 3 (.c (.eptr gl0 0)) (.t 10)),Qo 12 (.fa 1 (.t 11)),Qo 13 (.ld none (.t 12)),Qo 14 (.bo .gtr (.t 13) (.c (.int .i64 0))),⟨none,none,.st 3 (.t 2) (.t 9),[(none,none,12,13)]⟩,Mv 3 14] [2,3]) .rt))),np:=1,res:=[.cell 2 (some 3),.t 3],mode:=.iso }
def c119:FI.Fn:={ body:=(.sq (.rg none [Qo 2 (.bx 6 (.t 0)),Qo 4 (.mv (.c (.bool false)))] [1,2]) (.sq (.rg none [Qo 7 (.fa 1 (.t 2)),Qo 8 (.ld none (.t 7)),Qo 5 (.al 1 (.int .i64 0)),Eo (.st 1 (.t 5) (.t 8))] [1,2,5]) (.sq (.rg none [Qo 9 (.fa 5 (.t 2)),Qo 10 (.ld none (.t 9)),Qo 11 (.ia 6 (.t 10) (.c (.int .i64 0))),Qo 12 (.fa 1 (.t 11)),Qo 13 (.ld none (.t 12)),Mv 6 13] [1,2,5,6]) (.sq (.sq (.rg none [Mv 14 1] [2,5,6,14]) (.bl 0 (.sq (.rg none [Qo 16 (.bo .eql (.t 14) (.c (.int .i64 1))),Mv 15 16] [2,5,6,14,15]) (.cd (.t 15) (.sq (.rg none [Qo 17 (.fa 5 (.t 2)),Qo 18 (.ld none (.t 17)),Qo 19 (.mf 154 [(.t 5)]),Qo 20 (.cl 153 [(.t 18),(.t 19)]),Qo 21 (.un .not (.t 20)),Mv 4 21] [4]) .rt) (.sq (.rg none [Qo 23 (.bo .eql (.t 14) (.c (.int .i64 2))),Mv 22 23] [2,5,6,14,22]) (.cd (.t 22) (.sq (.rg none [Qo 24 (.ld none (.t 5)),Qo 25 (.bo .eql (.t 24) (.c (.int .i64 1))),Mv 26 25,Gd 27 26 true (.fa 5 (.t 2)),Gd 28 26 true (.ld none (.t 27)),Gd 29 26 true (.ia 6 (.t 28) (.c (.int .i64 1))),Gd 30 26 true (.fa 1 (.t 29)),Gd 31 26 true (.ld none (.t 30)),Gm 32 26 true 6,Gd 33 26 true (.bo .eql (.t 31) (.t 32)),Qo 34 (.pk (.t 26) (.t 33) (.c (.bool false))),Mv 4 34] [4]) .rt) (.sq (.rg none [Qo 36 (.bo .eql (.t 14) (.c (.int .i64 3))),Mv 35 36] [2,5,6,14,35]) (.cd (.t 35) (.sq (.rg (some (List.range 21)) [Mv 37 6,Qo 38 (.bo .eql (.t 37) (.c (.int .i64 1))),Mv 39 38,Gd 40 39 true (.fa 5 (.t 2)),Gd 41 39 true (.ld none (.t 40)),Gd 42 39 true (.ia 6 (.t 41) (.c (.int .i64 1))),Gd 43 39 true (.fa 1 (.t 42)),Gd 44 39 true (.ld none (.t 43)),Gd 45 39 true (.ld none (.t 5)),Gd 46 39 true (.bo .eql (.t 44) (.t 45)),Qo 47 (.pk (.t 39) (.t 46) (.c (.bool false))),Mv 48 47,Gd 49 48 true (.fa 5 (.t 2)),Gd 50 48 true (.ld none (.t 49)),Gd 51 48 true (.ia 6 (.t 50) (.c (.int .i64 2))),Gd 52 48 true (.fa 1 (.t 51)),Gd 53 48 true (.ld none (.t 52)),Gd 54 48 true (.ld none (.t 5)),Gd 55 48 true (.bo .eql (.t 53) (.t 54)),Qo 56 (.pk (.t 48) (.t 55) (.c (.bool false))),Mv 4 56] [4]) .rt) (.sq (.rg none [Qo 58 (.bo .eql (.t 14) (.c (.int .i64 4))),Mv 57 58] [2,5,6,14,57]) (.cd (.t 57) (.sq (.rg (some (List.range 22)) [Mv 59 6,Qo 60 (.cl 48 [(.t 59)]),Mv 61 60,Gd 62 61 true (.fa 5 (.t 2)),Gd 63 61 true (.ld none (.t 62)),Gd 64 61 true (.ia 6 (.t 63) (.c (.int .i64 1))),Gd 65 61 true (.fa 1 (.t 64)),Gd 66 61 true (.ld none (.t 65)),Gd 67 61 true (.cl 48 [(.t 66)]),Qo 68 (.pk (.t 61) (.t 67) (.c (.bool false))),Mv 69 68,Gm 70 69 true 6,Gd 71 69 true (.fa 5 (.t 2)),Gd 72 69 true (.ld none (.t 71)),Gd 73 69 true (.ia 6 (.t 72) (.c (.int .i64 1))),Gd 74 69 true (.fa 1 (.t 73)),Gd 75 69 true (.ld none (.t 74)),Gd 76 69 true (.bo .add (.t 70) (.t 75)),Gd 77 69 true (.ld none (.t 5)),Gd 78 69 true (.bo .eql (.t 76) (.t 77)),Qo 79 (.pk (.t 69) (.t 78) (.c (.bool false))),Mv 4 79] [4]) .rt) (.sq (.rg none [Qo 81 (.bo .eql (.t 14) (.c (.int .i64 5))),Mv 80 81] [2,5,6,14,80]) (.cd (.t 80) (.sq (.rg none [Qo 82 (.fa 4 (.t 2)),Qo 83 (.ld none (.t 82)),Qo 84 (.bo .geq (.t 83) (.c (.int .i64 0))),Mv 85 84,Gm 86 85 true 6,Gd 87 85 true (.cl 48 [(.t 86)]),Qo 88 (.pk (.t 85) (.t 87) (.c (.bool false))),Mv 89 88,Gd 90 89 true (.ld none (.t 5)),Gm 91 89 true 6,Gd 92 89 true (.bo .leq (.t 90) (.t 91)),Qo 93 (.pk (.t 89) (.t 92) (.c (.bool false))),Mv 94 93,Gd 95 94 true (.fa 4 (.t 2)),Gd 96 94 true (.ld none (.t 95)),Gm 97 94 true 6,Gd 98 94 true (.ld none (.t 5)),Gd 99 94 true (.bo .sub (.t 97) (.t 98)),Gd 100 94 true (.bo .leq (.t 96) (.t 99)),Qo 101 (.pk (.t 94) (.t 100) (.c (.bool false))),Mv 4 101] [4]) .rt) (.sq (.rg none [Qo 103 (.bo .eql (.t 14) (.c (.int .i64 6))),Mv 102 103] [5,6,102]) (.cd (.t 102) (.sq (.rg none [Mv 104 6,Qo 105 (.ld none (.t 5)),Qo 106 (.bo .leq (.t 104) (.t 105)),Mv 4 106] [4]) .rt) .sk)))))))))))))) (.sq (.rg none [Qo 107 (.ld none (.t 5)),Qo 108 (.cl 49 [(.t 107)]),Mv 4 108] [4]) .rt))))),np:=2,res:=[.t 4],mode:=.iso }
def b121_0:C:=(.sq (.sq (.rg none [Mv 5 4,Qo 6 (.fa 5 (.t 1)),Qo 7 (.ld none (.t 6)),Qo 8 (.ln 1 (.t 7)),Qo 9 (.bo .lss (.t 5) (.t 8))] [1,3,4,9]) (.cd (.t 9) .sk (.xt 0))) (.sq (.bl 1 (.rg none [Mv 12 3,Qo 13 (.fa 5 (.t 1)),Qo 14 (.ld none (.t 13)),Mv 15 4,Qo 16 (.ia 6 (.t 14) (.t 15)),Qo 17 (.ld (some 6) (.t 16)),Qo 18 (.cl 121 [(.t 17)]),Qo 19 (.bo .add (.t 12) (.t 18)),Mv 3 19] [1,3,4])) (.rg none [Mv 10 4,Qo 11 (.bo .add (.t 10) (.c (.int .i64 1))),Mv 4 11] [1,3,4])))
def k121_1:C:=(.sq (.rg none [Mv 20 3,Mv 2 20] [2]) .rt)
def c121:FI.Fn:={ body:=(.sq (.rg none [Qo 1 (.bx 6 (.t 0)),Qo 2 (.mv (.c (.int .i64 0)))] [1]) (.sq (.rg none [Qo 3 (.mv (.c (.int .i64 1)))] [1,3]) (.sq (.sq (.rg none [Qo 4 (.mv (.c (.int .i64 0)))] [1,3,4]) (.bl 0 (.lp true b121_0))) k121_1))),np:=1,res:=[.t 2],mode:=.iso }
def b122_0:C:=(.sq (.sq (.rg none [Mv 5 4,Qo 6 (.fa 5 (.t 1)),Qo 7 (.ld none (.t 6)),Qo 8 (.ln 1 (.t 7)),Qo 9 (.bo .lss (.t 5) (.t 8))] [1,3,4,9]) (.cd (.t 9) .sk (.xt 0))) (.sq (.bl 1 (.rg none [Mv 12 3,Qo 13 (.fa 5 (.t 1)),Qo 14 (.ld none (.t 13)),Mv 15 4,Qo 16 (.ia 6 (.t 14) (.t 15)),Qo 17 (.ld (some 6) (.t 16)),Qo 18 (.cl 122 [(.t 17)]),Qo 19 (.mx (.t 12) (.t 18)),Mv 3 19] [1,3,4])) (.rg none [Mv 10 4,Qo 11 (.bo .add (.t 10) (.c (.int .i64 1))),Mv 4 11] [1,3,4])))
def k122_1:C:=(.sq (.rg none [Mv 20 3,Qo 21 (.bo .add (.t 20) (.c (.int .i64 1))),Mv 2 21] [2]) .rt)
def c122:FI.Fn:={ body:=(.sq (.rg none [Qo 1 (.bx 6 (.t 0)),Qo 2 (.mv (.c (.int .i64 0)))] [1]) (.sq (.rg none [Qo 3 (.mv (.c (.int .i64 0)))] [1,3]) (.sq (.sq (.rg none [Qo 4 (.mv (.c (.int .i64 0)))] [1,3,4]) (.bl 0 (.lp true b122_0))) k122_1))),np:=1,res:=[.t 2],mode:=.iso }
def b123_0:C:=(.sq (.sq (.rg none [Mv 7 3,Qo 8 (.fa 5 (.t 1)),Qo 9 (.ld none (.t 8)),Qo 10 (.ln 1 (.t 9)),Qo 11 (.bo .lss (.t 7) (.t 10))] [1,3,11]) (.cd (.t 11) .sk (.xt 0))) (.sq (.bl 1 (.sq (.rg none [Qo 14 (.fa 5 (.t 1)),Qo 15 (.ld none (.t 14)),Mv 16 3,Qo 17 (.ia 6 (.t 15) (.t 16)),Qo 18 (.ld (some 6) (.t 17)),Qo 19 (.cl 123 [(.t 18)]),Qo 20 (.un .not (.t 19))] [1,3,20]) (.cd (.t 20) (.sq (.rg none [Qo 2 (.mv (.c (.bool false)))] [2]) .rt) .sk))) (.rg none [Mv 12 3,Qo 13 (.bo .add (.t 12) (.c (.int .i64 1))),Mv 3 13] [1,3])))
def k123_1:C:=(.sq (.rg (some (List.range 7)) [Qo 21 (.fa 1 (.t 1)),Qo 22 (.ld none (.t 21)),Qo 23 (.fa 5 (.t 1)),Qo 24 (.ld none (.t 23)),Qo 25 (.ln 1 (.t 24)),Mv 4 22,Mv 5 25] [1,4,5]) (.sq (.sq (.rg none [Mv 26 4,Qo 27 (.cl 51 [(.t 26)]),Qo 28 (.un .not (.t 27))] [1,4,5,28]) (.cd (.t 28) (.sq (.rg none [Qo 2 (.mv (.c (.bool false)))] [2]) .rt) .sk)) (.sq (.sq (.rg none [Qo 29 (.fa 0 (.t 1)),Qo 30 (.ld none (.t 29))] [1,4,5,30]) (.bl 2 (.sq (.rg none [Qo 32 (.bo .eql (.t 30) (.c (.int .u8 1))),Mv 31 32] [1,4,5,30,31]) (.cd (.t 31) (.sq (.rg none [Mv 33 5,Qo 34 (.bo .eql (.t 33) (.c (.int .i64 0))),Mv 35 34,Gd 36 35 true (.fa 3 (.t 1)),Gd 37 35 true (.ld none (.t 36)),Gd 38 35 true (.bo .eql (.t 37) (.c (.str []))),Qo 39 (.pk (.t 35) (.t 38) (.c (.bool false))),Mv 40 39,Gd 41 40 true (.fa 4 (.t 1)),Gd 42 40 true (.ld none (.t 41)),Gd 43 40 true (.bo .eql (.t 42) (.c (.int .i64 0))),Qo 44 (.pk (.t 40) (.t 43) (.c (.bool false))),Mv 45 44,Gm 46 45 true 4,Gd 47 45 true (.fa 2 (.t 1)),Gd 48 45 true (.ld none (.t 47)),Gd 49 45 true (.cl 53 [(.t 46),(.t 48)]),Qo 50 (.pk (.t 45) (.t 49) (.c (.bool false))),Mv 2 50] [2]) .rt) (.sq (.rg none [Qo 52 (.bo .eql (.t 30) (.c (.int .u8 2))),Mv 51 52] [1,4,5,51]) (.cd (.t 51) (.sq (.rg none [Mv 53 5,Qo 54 (.bo .eql (.t 53) (.c (.int .i64 0))),Mv 55 54,Gd 56 55 true (.fa 2 (.t 1)),Gd 57 55 true (.ld none (.t 56)),Gd 58 55 true (.bo .eql (.t 57) (.c (.int .u64 0))),Qo 59 (.pk (.t 55) (.t 58) (.c (.bool false))),Mv 60 59,Gd 61 60 true (.fa 4 (.t 1)),Gd 62 60 true (.ld none (.t 61)),Gd 63 60 true (.bo .eql (.t 62) (.c (.int .i64 0))),Qo 64 (.pk (.t 60) (.t 63) (.c (.bool false))),Mv 65 64,Gd 66 65 true (.fa 3 (.t 1)),Gd 67 65 true (.ld none (.t 66)),Gd 68 65 true (.cl 56 [(.t 67)]),Qo 69 (.pk (.t 65) (.t 68) (.c (.bool false))),Mv 2 69] [2]) .rt) .sk)))))) (.sq (.sq (.rg none [Qo 70 (.fa 0 (.t 1)),Qo 71 (.ld none (.t 70)),Qo 72 (.bo .lss (.t 71) (.c (.int .u8 3))),Mv 73 72,Gd 74 73 false (.fa 0 (.t 1)),Gd 75 73 false (.ld none (.t 74)),Gd 76 73 false (.bo .gtr (.t 75) (.c (.int .u8 24))),Qo 77 (.pk (.t 73) (.c (.bool true)) (.t 76)),Mv 78 77,Gd 79 78 false (.fa 2 (.t 1)),Gd 80 78 false (.ld none (.t 79)),Gd 81 78 false (.bo .neq (.t 80) (.c (.int .u64 0))),Qo 82 (.pk (.t 78) (.c (.bool true)) (.t 81)),Mv 83 82,Gd 84 83 false (.fa 3 (.t 1)),Gd 85 83 false (.ld none (.t 84)),Gd 86 83 false (.bo .neq (.t 85) (.c (.str []))),Qo 87 (.pk (.t 83) (.c (.bool true)) (.t 86)),Mv 88 87,Gd 89 88 false (.fa 4 (.t 1)),Gd 90 88 false (.ld none (.t 89)),Gd 91 88 false (.bo .neq (.t 90) (.c (.int .i64 0))),Gm 92 88 false 91,Gd 93 92 true (.fa 0 (.t 1)),Gd 94 92 true (.ld none (.t 93)),Gd 95 92 true (.bo .neq (.t 94) (.c (.int .u8 21))),Gd 96 88 false (.pk (.t 92) (.t 95) (.c (.bool false))),Qo 97 (.pk (.t 88) (.c (.bool true)) (.t 96)),Mv 98 97,Gm 99 98 false 5,Gd 100 98 false (.bo .eql (.t 99) (.c (.int .i64 0))),Qo 101 (.pk (.t 98) (.c (.bool true)) (.t 100))] [1,4,5,101]) (.cd (.t 101) (.sq (.rg none [Qo 2 (.mv (.c (.bool false)))] [2]) .rt) .sk)) (.sq (.rg none [Qo 102 (.fa 5 (.t 1)),Qo 103 (.ld none (.t 102)),Qo 104 (.ia 6 (.t 103) (.c (.int .i64 0))),Qo 105 (.fa 1 (.t 104)),Qo 106 (.ld none (.t 105)),Mv 6 106] [1,4,5,6]) (.sq (.sq (.rg none [Qo 107 (.fa 0 (.t 1)),Qo 108 (.ld none (.t 107))] [1,4,5,6,108]) (.bl 3 (.sq (.sq (.rg none [Qo 110 (.bo .eql (.t 108) (.c (.int .u8 3))),Mv 109 110] [1,4,5,6,108,109]) (.cd (.t 109) .sk (.rg none [Qo 111 (.bo .eql (.t 108) (.c (.int .u8 4))),Mv 109 111] [1,4,5,6,108,109]))) (.cd (.t 109) (.sq (.rg none [Mv 112 5,Qo 113 (.bo .eql (.t 112) (.c (.int .i64 1))),Mv 114 113,Gm 115 114 true 6,Gm 116 114 true 4,Gd 117 114 true (.bo .eql (.t 115) (.t 116)),Qo 118 (.pk (.t 114) (.t 117) (.c (.bool false))),Mv 2 118] [2]) .rt) (.sq (.sq (.rg none [Qo 120 (.bo .eql (.t 108) (.c (.int .u8 16))),Mv 119 120] [1,4,5,6,108,119]) (.cd (.t 119) .sk (.sq (.rg none [Qo 121 (.bo .eql (.t 108) (.c (.int .u8 17))),Mv 119 121] [1,4,5,6,108,119]) (.cd (.t 119) .sk (.rg none [Qo 122 (.bo .eql (.t 108) (.c (.int .u8 18))),Mv 119 122] [1,4,5,6,108,119]))))) (.cd (.t 119) (.sq (.rg none [Mv 123 5,Qo 124 (.bo .eql (.t 123) (.c (.int .i64 2))),Mv 125 124,Gm 126 125 true 4,Gd 127 125 true (.bo .eql (.t 126) (.c (.int .i64 1))),Qo 128 (.pk (.t 125) (.t 127) (.c (.bool false))),Mv 129 128,Gd 130 129 true (.fa 5 (.t 1)),Gd 131 129 true (.ld none (.t 130)),Gd 132 129 true (.ia 6 (.t 131) (.c (.int .i64 1))),Gd 133 129 true (.fa 1 (.t 132)),Gd 134 129 true (.ld none (.t 133)),Gm 135 129 true 6,Gd 136 129 true (.bo .eql (.t 134) (.t 135)),Qo 137 (.pk (.t 129) (.t 136) (.c (.bool false))),Mv 2 137] [2]) .rt) (.sq (.rg none [Qo 139 (.bo .eql (.t 108) (.c (.int .u8 19))),Mv 138 139] [1,4,5,6,108,138]) (.cd (.t 138) (.sq (.rg none [Mv 140 5,Qo 141 (.bo .eql (.t 140) (.c (.int .i64 3))),Mv 142 141,Gm 143 142 true 6,Gd 144 142 true (.bo .eql (.t 143) (.c (.int .i64 1))),Qo 145 (.pk (.t 142) (.t 144) (.c (.bool false))),Mv 146 145,Gd 147 146 true (.fa 5 (.t 1)),Gd 148 146 true (.ld none (.t 147)),Gd 149 146 true (.ia 6 (.t 148) (.c (.int .i64 1))),Gd 150 146 true (.fa 1 (.t 149)),Gd 151 146 true (.ld none (.t 150)),Gm 152 146 true 4,Gd 153 146 true (.bo .eql (.t 151) (.t 152)),Qo 154 (.pk (.t 146) (.t 153) (.c (.bool false))),Mv 155 154,Gd 156 155 true (.fa 5 (.t 1)),Gd 157 155 true (.ld none (.t 156)),Gd 158 155 true (.ia 6 (.t 157) (.c (.int .i64 2))),Gd 159 155 true (.fa 1 (.t 158)),Gd 160 155 true (.ld none (.t 159)),Gm 161 155 true 4,Gd 162 155 true (.bo .eql (.t 160) (.t 161)),Qo 163 (.pk (.t 155) (.t 162) (.c (.bool false))),Mv 2 163] [2]) .rt) (.sq (.rg none [Qo 165 (.bo .eql (.t 108) (.c (.int .u8 20))),Mv 164 165] [1,4,5,6,108,164]) (.cd (.t 164) (.sq (.rg none [Mv 166 5,Qo 167 (.bo .eql (.t 166) (.c (.int .i64 2))),Mv 168 167,Gm 169 168 true 6,Gd 170 168 true (.fa 5 (.t 1)),Gd 171 168 true (.ld none (.t 170)),Gd 172 168 true (.ia 6 (.t 171) (.c (.int .i64 1))),Gd 173 168 true (.fa 1 (.t 172)),Gd 174 168 true (.ld none (.t 173)),Gd 175 168 true (.bo .add (.t 169) (.t 174)),Gm 176 168 true 4,Gd 177 168 true (.bo .eql (.t 175) (.t 176)),Qo 178 (.pk (.t 168) (.t 177) (.c (.bool false))),Mv 2 178] [2]) .rt) (.sq (.rg none [Qo 180 (.bo .eql (.t 108) (.c (.int .u8 21))),Mv 179 180] [1,4,5,6,108,179]) (.cd (.t 179) (.sq (.rg none [Mv 181 5,Qo 182 (.bo .eql (.t 181) (.c (.int .i64 1))),Mv 183 182,Gd 184 183 true (.fa 4 (.t 1)),Gd 185 183 true (.ld none (.t 184)),Gd 186 183 true (.bo .geq (.t 185) (.c (.int .i64 0))),Qo 187 (.pk (.t 183) (.t 186) (.c (.bool false))),Mv 188 187,Gd 189 188 true (.fa 4 (.t 1)),Gd 190 188 true (.ld none (.t 189)),Gm 191 188 true 6,Gd 192 188 true (.bo .leq (.t 190) (.t 191)),Qo 193 (.pk (.t 188) (.t 192) (.c (.bool false))),Mv 194 193,Gd 195 194 true (.fa 4 (.t 1)),Gd 196 194 true (.ld none (.t 195)),Gm 197 194 true 4,Gd 198 194 true (.bo .add (.t 196) (.t 197)),Gm 199 194 true 6,Gd 200 194 true (.bo .leq (.t 198) (.t 199)),Qo 201 (.pk (.t 194) (.t 200) (.c (.bool false))),Mv 2 201] [2]) .rt) (.sq (.sq (.rg none [Qo 203 (.bo .eql (.t 108) (.c (.int .u8 22))),Mv 202 203] [1,4,5,6,108,202]) (.cd (.t 202) .sk (.rg none [Qo 204 (.bo .eql (.t 108) (.c (.int .u8 23))),Mv 202 204] [1,4,5,6,108,202]))) (.cd (.t 202) (.sq (.rg none [Mv 205 5,Qo 206 (.bo .eql (.t 205) (.c (.int .i64 1))),Mv 207 206,Gm 208 207 true 6,Gm 209 207 true 4,Gd 210 207 true (.bo .leq (.t 208) (.t 209)),Qo 211 (.pk (.t 207) (.t 210) (.c (.bool false))),Mv 2 211] [2]) .rt) (.sq (.rg none [Qo 213 (.bo .eql (.t 108) (.c (.int .u8 24))),Mv 212 213] [1,4,5,6,212]) (.cd (.t 212) (.sq (.rg none [Mv 214 5,Qo 215 (.bo .eql (.t 214) (.c (.int .i64 1))),Mv 216 215,Gm 217 216 true 4,Gd 218 216 true (.cl 52 [(.t 217)]),Qo 219 (.pk (.t 216) (.t 218) (.c (.bool false))),Mv 2 219] [2]) .rt) .sk)))))))))))))))) (.sq (.rg none [Mv 220 5,Qo 221 (.bo .eql (.t 220) (.c (.int .i64 2))),Mv 222 221,Gm 223 222 true 6,Gm 224 222 true 4,Gd 225 222 true (.bo .eql (.t 223) (.t 224)),Qo 226 (.pk (.t 222) (.t 225) (.c (.bool false))),Mv 227 226,Gd 228 227 true (.fa 5 (.t 1)),Gd 229 227 true (.ld none (.t 228)),Gd 230 227 true (.ia 6 (.t 229) (.c (.int .i64 1))),Gd 231 227 true (.fa 1 (.t 230)),Gd 232 227 true (.ld none (.t 231)),Gm 233 227 true 4,Gd 234 227 true (.bo .eql (.t 232) (.t 233)),Qo 235 (.pk (.t 227) (.t 234) (.c (.bool false))),Mv 2 235] [2]) .rt)))))))
def c123:FI.Fn:={ body:=(.sq (.rg none [Qo 1 (.bx 6 (.t 0)),Qo 2 (.mv (.c (.bool false)))] [1]) (.sq (.sq (.rg none [Qo 3 (.mv (.c (.int .i64 0)))] [1,3]) (.bl 0 (.lp true b123_0))) k123_1)),np:=1,res:=[.t 2],mode:=.iso }
def b124_0:C:=(.sq (.sq (.rg none [Mv 5 4,Mv 6 0,Qo 7 (.ln 1 (.t 6)),Qo 8 (.bo .lss (.t 5) (.t 7))] [0,3,4,8]) (.cd (.t 8) .sk (.xt 0))) (.sq (.bl 1 (.rg none [Mv 11 3,Mv 12 0,Mv 13 4,Qo 14 (.ia 1 (.t 12) (.t 13)),Qo 15 (.ld none (.t 14)),Qo 16 (.bo .sub (.c (.int .i64 1)) (.t 15)),Qo 17 (.bs 1 1 (.int .i64 0) [(0,(.t 16))]),Qo 18 (.ap 1 8 (.t 11) (.t 17)),Mv 3 18] [0,3,4])) (.rg none [Mv 9 4,Qo 10 (.bo .add (.t 9) (.c (.int .i64 1))),Mv 4 10] [0,3,4])))
def k124_1:C:=(.sq (.rg none [Mv 19 3,Mv 2 19] [2]) .rt)
def c124:FI.Fn:={ body:=(.sq (.rg none [Qo 2 (.mv (.c (.lst true [])))] [0]) (.sq (.rg none [Qo 3 (.nl 1)] [0,3]) (.sq (.sq (.rg none [Qo 4 (.mv (.c (.int .i64 0)))] [0,3,4]) (.bl 0 (.lp false b124_0))) k124_1))),np:=1,res:=[.t 2],mode:=.shr }
def b125_0:C:=(.sq (.sq (.rg none [Mv 7 6,Mv 8 0,Qo 9 (.bo .lss (.t 7) (.t 8))] [0,1,5,6,9]) (.cd (.t 9) .sk (.xt 0))) (.sq (.bl 1 (.rg none [Mv 12 5,Mv 13 1,Mv 14 6,Qo 15 (.cl 155 [(.t 13),(.t 14)]),Qo 16 (.bs 1 1 (.int .i64 0) [(0,(.t 15))]),Qo 17 (.ap 1 8 (.t 12) (.t 16)),Mv 5 17] [0,1,5,6])) (.rg none [Mv 10 6,Qo 11 (.bo .add (.t 10) (.c (.int .i64 1))),Mv 6 11] [0,1,5,6])))
def k125_1:C:=(.sq (.rg none [Mv 18 5,Mv 4 18] [4]) .rt)
def c125:FI.Fn:={ body:=(.sq (.rg none [Qo 4 (.mv (.c (.lst true [])))] [0,1]) (.sq (.rg none [Qo 5 (.nl 1)] [0,1,5]) (.sq (.sq (.rg none [Qo 6 (.mv (.c (.int .i64 0)))] [0,1,5,6]) (.bl 0 (.lp false b125_0))) k125_1))),np:=2,res:=[.t 4],mode:=.shr }
def b126_0:C:=(.sq (.sq (.rg none [Mv 10 8,Mv 11 0,Qo 12 (.ln 1 (.t 11)),Qo 13 (.bo .lss (.t 10) (.t 12))] [0,1,2,7,8,13]) (.cd (.t 13) .sk (.xt 0))) (.sq (.bl 1 (.sq (.rg (some (List.range 12)) [Mv 16 0,Mv 17 8,Qo 18 (.ia 1 (.t 16) (.t 17)),Qo 19 (.ld none (.t 18)),Mv 20 1,Mv 21 8,Qo 22 (.ia 1 (.t 20) (.t 21)),Qo 23 (.ld none (.t 22)),Qo 24 (.bo .add (.t 19) (.t 23)),Mv 25 2,Qo 26 (.bo .add (.t 24) (.t 25)),Mv 9 26] [0,1,7,8,9]) (.sq (.rg none [Mv 27 7,Mv 28 9,Qo 29 (.bo .rem (.t 28) (.c (.int .i64 2))),Qo 30 (.bs 1 1 (.int .i64 0) [(0,(.t 29))]),Qo 31 (.ap 1 8 (.t 27) (.t 30)),Mv 7 31] [0,1,7,8,9]) (.rg none [Mv 32 9,Qo 33 (.bo .quo (.t 32) (.c (.int .i64 2))),Mv 2 33] [0,1,2,7,8])))) (.rg none [Mv 14 8,Qo 15 (.bo .add (.t 14) (.c (.int .i64 1))),Mv 8 15] [0,1,2,7,8])))
def k126_1:C:=(.sq (.rg none [Mv 34 7,Mv 6 34] [6]) .rt)
def c126:FI.Fn:={ body:=(.sq (.rg none [Qo 6 (.mv (.c (.lst true [])))] [0,1,2]) (.sq (.rg none [Qo 7 (.nl 1)] [0,1,2,7]) (.sq (.sq (.rg none [Qo 8 (.mv (.c (.int .i64 0)))] [0,1,2,7,8]) (.bl 0 (.lp false b126_0))) k126_1))),np:=3,res:=[.t 6],mode:=.shr }
def c127:FI.Fn:={ body:=(.sq (.rg none [Qo 2 (.mv (.c (.lst true [])))] [0]) (.sq (.rg none [Mv 3 0,Qo 4 (.ms 1 (.int .i64 0) (.t 3) (.t 3)),Mv 2 4] [2]) .rt)),np:=1,res:=[.t 2],mode:=.shr }
def b128_0:C:=(.sq (.sq (.rg none [Mv 5 4,Mv 6 0,Qo 7 (.ln 1 (.t 6)),Qo 8 (.bo .lss (.t 5) (.t 7))] [0,3,4,8]) (.cd (.t 8) .sk (.xt 0))) (.sq (.bl 1 (.sq (.rg none [Mv 11 0,Mv 12 4,Qo 13 (.ia 1 (.t 11) (.t 12)),Qo 14 (.ld none (.t 13)),Qo 15 (.bo .eql (.t 14) (.c (.int .i64 1)))] [0,3,4,15]) (.cd (.t 15) (.rg none [Mv 16 3,Mv 17 4,Qo 18 (.cl 83 [(.t 17)]),Qo 19 (.bo .add (.t 16) (.t 18)),Mv 3 19] [0,3,4]) .sk))) (.rg none [Mv 9 4,Qo 10 (.bo .add (.t 9) (.c (.int .i64 1))),Mv 4 10] [0,3,4])))
def k128_1:C:=(.sq (.rg none [Mv 20 3,Mv 2 20] [2]) .rt)
def c128:FI.Fn:={ body:=(.sq (.rg none [Qo 2 (.mv (.c (.int .u64 0)))] [0]) (.sq (.rg none [Qo 3 (.mv (.c (.int .u64 0)))] [0,3]) (.sq (.sq (.rg none [Qo 4 (.mv (.c (.int .i64 0)))] [0,3,4]) (.bl 0 (.lp true b128_0))) k128_1))),np:=1,res:=[.t 2],mode:=.isf }
def b129_0:C:=(.sq (.sq (.rg none [Mv 10 6,Mv 11 1,Qo 12 (.ln 1 (.t 11)),Qo 13 (.bo .lss (.t 10) (.t 12))] [0,1,5,6,13]) (.cd (.t 13) .sk (.xt 0))) (.sq (.bl 1 (.sq (.sq (.rg none [Mv 16 1,Mv 17 6,Qo 18 (.ia 1 (.t 16) (.t 17)),Qo 19 (.ld none (.t 18)),Qo 20 (.bo .eql (.t 19) (.c (.int .i64 1)))] [0,1,5,6,20]) (.cd (.t 20) (.rg none [Mv 21 5,Mv 22 0,Qo 23 (.cl 126 [(.t 21),(.t 22),(.c (.int .i64 0))]),Mv 5 23] [0,1,5,6]) .sk)) (.rg none [Mv 24 0,Qo 25 (.cl 156 [(.t 24)]),Mv 0 25] [0,1,5,6]))) (.rg none [Mv 14 6,Qo 15 (.bo .add (.t 14) (.c (.int .i64 1))),Mv 6 15] [0,1,5,6])))
def k129_1:C:=(.sq (.rg none [Mv 26 5,Mv 4 26] [4]) .rt)
def c129:FI.Fn:={ body:=(.sq (.rg none [Qo 4 (.mv (.c (.lst true [])))] [0,1]) (.sq (.rg none [Mv 7 0,Qo 8 (.ln 1 (.t 7)),Qo 9 (.cl 127 [(.t 8)]),Mv 5 9] [0,1,5]) (.sq (.sq (.rg none [Qo 6 (.mv (.c (.int .i64 0)))] [0,1,5,6]) (.bl 0 (.lp false b129_0))) k129_1))),np:=2,res:=[.t 4],mode:=.isc }
def b130_0:C:=(.sq (.sq (.rg none [Mv 9 8,Mv 10 0,Qo 11 (.ln 1 (.t 10)),Qo 12 (.bo .lss (.t 9) (.t 11))] [0,1,2,7,8,12]) (.cd (.t 12) .sk (.xt 0))) (.sq (.bl 1 (.bl 2 (.sq (.rg none [Mv 25 8,Mv 26 1,Qo 27 (.bo .add (.t 25) (.t 26)),Qo 28 (.bo .lss (.t 27) (.c (.int .i64 0))),Mv 24 28] [0,1,2,7,8,24]) (.cd (.t 24) (.rg none [Mv 29 7,Qo 30 (.bs 1 1 (.int .i64 0) [(0,(.c (.int .i64 0)))]),Qo 31 (.ap 1 8 (.t 29) (.t 30)),Mv 7 31] [0,1,2,7,8]) (.sq (.rg none [Mv 33 8,Mv 34 1,Qo 35 (.bo .add (.t 33) (.t 34)),Mv 36 0,Qo 37 (.ln 1 (.t 36)),Qo 38 (.bo .geq (.t 35) (.t 37)),Mv 32 38] [0,1,2,7,8,32]) (.cd (.t 32) (.rg none [Mv 39 7,Mv 40 2,Qo 41 (.bs 1 1 (.int .i64 0) [(0,(.t 40))]),Qo 42 (.ap 1 8 (.t 39) (.t 41)),Mv 7 42] [0,1,2,7,8]) (.rg none [Mv 15 7,Mv 16 0,Mv 17 8,Mv 18 1,Qo 19 (.bo .add (.t 17) (.t 18)),Qo 20 (.ia 1 (.t 16) (.t 19)),Qo 21 (.ld none (.t 20)),Qo 22 (.bs 1 1 (.int .i64 0) [(0,(.t 21))]),Qo 23 (.ap 1 8 (.t 15) (.t 22)),Mv 7 23] [0,1,2,7,8]))))))) (.rg none [Mv 13 8,Qo 14 (.bo .add (.t 13) (.c (.int .i64 1))),Mv 8 14] [0,1,2,7,8])))
def k130_1:C:=(.sq (.rg none [Mv 43 7,Mv 6 43] [6]) .rt)
def c130:FI.Fn:={ body:=(.sq (.rg none [Qo 6 (.mv (.c (.lst true [])))] [0,1,2]) (.sq (.rg none [Qo 7 (.nl 1)] [0,1,2,7]) (.sq (.sq (.rg none [Qo 8 (.mv (.c (.int .i64 0)))] [0,1,2,7,8]) (.bl 0 (.lp true b130_0))) k130_1))),np:=3,res:=[.t 6],mode:=.isc }
def b131_0:C:=(.sq (.sq (.rg none [Mv 4 3,Qo 5 (.bo .lss (.t 4) (.c (.int .i64 64))),Mv 6 5,Gm 7 6 true 3,Gd 8 6 true (.cv .u64 (.t 7)),Gm 9 6 true 0,Gd 10 6 true (.bo .lss (.t 8) (.t 9)),Qo 11 (.pk (.t 6) (.t 10) (.c (.bool false)))] [0,3,11]) (.cd (.t 11) .sk (.xt 0))) (.bl 1 (.rg none [Mv 12 3,Qo 13 (.bo .add (.t 12) (.c (.int .i64 1))),Mv 3 13] [0,3])))
def k131_1:C:=(.sq (.rg none [Mv 14 3,Mv 2 14] [2]) .rt)
def c131:FI.Fn:={ body:=(.sq (.rg none [Qo 2 (.mv (.c (.int .i64 0)))] [0]) (.sq (.rg none [Qo 3 (.mv (.c (.int .i64 0)))] [0,3]) (.sq (.bl 0 (.lp true b131_0)) k131_1))),np:=1,res:=[.t 2],mode:=.iso }
def b132_0:C:=(.sq (.sq (.rg none [Mv 33 9,Qo 34 (.bo .geq (.t 33) (.c (.int .i64 0)))] [0,6,7,8,9,34]) (.cd (.t 34) .sk (.xt 0))) (.sq (.bl 1 (.sq (.rg none [Mv 37 7,Qo 38 (.cl 156 [(.t 37)]),Mv 7 38] [0,6,7,8,9]) (.sq (.rg none [Mv 39 7,Mv 40 0,Mv 41 9,Qo 42 (.ia 1 (.t 40) (.t 41)),Qo 43 (.ld none (.t 42)),Qo 44 (.ia 1 (.t 39) (.c (.int .i64 0))),Eo (.st 1 (.t 44) (.t 43))] [0,6,7,8,9]) (.sq (.rg none [Mv 45 7,Mv 46 8,Qo 47 (.cl 134 [(.t 45),(.t 46)]),Qo 48 (.un .not (.t 47))] [0,6,7,8,9,48]) (.cd (.t 48) (.sq (.rg none [Mv 49 7,Mv 50 8,Qo 51 (.cl 124 [(.t 50)]),Qo 52 (.cl 126 [(.t 49),(.t 51),(.c (.int .i64 1))]),Mv 7 52] [0,6,7,8,9]) (.rg none [Mv 53 6,Mv 54 9,Qo 55 (.ia 1 (.t 53) (.t 54)),Eo (.st 1 (.t 55) (.c (.int .i64 1)))] [0,6,7,8,9])) .sk))))) (.rg none [Mv 35 9,Qo 36 (.bo .sub (.t 35) (.c (.int .i64 1))),Mv 9 36] [0,6,7,8,9])))
def k132_1:C:=(.sq (.rg (some (List.range 7)) [Mv 56 6,Mv 57 7,Mv 58 0,Qo 59 (.ln 1 (.t 58)),Qo 60 (.sl 1 (.t 57) none (some (.t 59))),Mv 4 56,Mv 5 60] [4,5]) .rt)
def c132:FI.Fn:={ body:=(.sq (.rg none [Qo 4 (.mv (.c (.lst true []))),Qo 5 (.mv (.c (.lst true [])))] [0,1]) (.sq (.sq (.rg none [Mv 10 1,Qo 11 (.cl 128 [(.t 10)]),Qo 12 (.bo .eql (.t 11) (.c (.int .u64 0)))] [0,1,12]) (.cd (.t 12) (.sq (.rg none [Mv 13 0,Qo 14 (.ln 1 (.t 13)),Qo 15 (.cl 127 [(.t 14)]),Qo 16 (.cl 124 [(.t 15)]),Mv 17 0,Mv 4 16,Mv 5 17] [4,5]) .rt) .sk)) (.sq (.rg none [Mv 18 0,Qo 19 (.ln 1 (.t 18)),Qo 20 (.cl 127 [(.t 19)]),Mv 21 0,Qo 22 (.ln 1 (.t 21)),Qo 23 (.bo .add (.t 22) (.c (.int .i64 1))),Qo 24 (.cl 127 [(.t 23)]),Mv 6 20,Mv 7 24] [0,1,6,7]) (.sq (.rg none [Qo 25 (.bs 1 0 (.int .i64 0) []),Mv 26 1,Qo 27 (.ap 1 8 (.t 25) (.t 26)),Qo 28 (.bs 1 1 (.int .i64 0) [(0,(.c (.int .i64 0)))]),Qo 29 (.ap 1 8 (.t 27) (.t 28)),Mv 8 29] [0,6,7,8]) (.sq (.sq (.rg none [Mv 30 0,Qo 31 (.ln 1 (.t 30)),Qo 32 (.bo .sub (.t 31) (.c (.int .i64 1))),Mv 9 32] [0,6,7,8,9]) (.bl 0 (.lp false b132_0))) k132_1))))),np:=2,res:=[.t 4,.t 5],mode:=.isc }
def c133:FI.Fn:={ body:=(.sq (.rg none [Qo 2 (.mv (.c (.int .u64 0)))] [0]) (.sq (.sq (.rg none [Mv 3 0] [3]) (.cd (.t 3) (.sq (.rg none [Qo 2 (.mv (.c (.int .u64 1)))] [2]) .rt) .sk)) (.sq (.rg none [Qo 2 (.mv (.c (.int .u64 0)))] [2]) .rt))),np:=1,res:=[.t 2],mode:=.iso }
def b134_0:C:=(.sq (.sq (.rg none [Mv 9 5,Qo 10 (.bo .geq (.t 9) (.c (.int .i64 0)))] [0,1,5,10]) (.cd (.t 10) .sk (.xt 0))) (.sq (.bl 1 (.sq (.rg (some (List.range 9)) [Mv 13 0,Mv 14 5,Qo 15 (.ia 1 (.t 13) (.t 14)),Qo 16 (.ld none (.t 15)),Mv 17 1,Mv 18 5,Qo 19 (.ia 1 (.t 17) (.t 18)),Qo 20 (.ld none (.t 19)),Qo 21 (.bo .neq (.t 16) (.t 20))] [0,1,5,21]) (.cd (.t 21) (.sq (.rg (some (List.range 10)) [Mv 22 0,Mv 23 5,Qo 24 (.ia 1 (.t 22) (.t 23)),Qo 25 (.ld none (.t 24)),Mv 26 1,Mv 27 5,Qo 28 (.ia 1 (.t 26) (.t 27)),Qo 29 (.ld none (.t 28)),Qo 30 (.bo .lss (.t 25) (.t 29)),Mv 4 30] [4]) .rt) .sk))) (.rg none [Mv 11 5,Qo 12 (.bo .sub (.t 11) (.c (.int .i64 1))),Mv 5 12] [0,1,5])))
def k134_1:C:=(.sq (.rg none [Qo 4 (.mv (.c (.bool false)))] [4]) .rt)
def c134:FI.Fn:={ body:=(.sq (.rg none [Qo 4 (.mv (.c (.bool false)))] [0,1]) (.sq (.sq (.rg none [Mv 6 0,Qo 7 (.ln 1 (.t 6)),Qo 8 (.bo .sub (.t 7) (.c (.int .i64 1))),Mv 5 8] [0,1,5]) (.bl 0 (.lp true b134_0))) k134_1)),np:=2,res:=[.t 4],mode:=.isf }
def c135:FI.Fn:={ body:=(.sq (.rg none [Qo 4 (.mv (.c (.str [])))] [0,1]) (.sq (.sq (.rg none [Mv 5 0,Mv 6 1,Qo 7 (.cl 149 [(.t 5),(.t 6)])] [0,1,7]) (.cd (.t 7) (.sq (.rg none [Mv 8 0,Mv 9 1,Qo 10 (.ln 0 (.t 9)),Qo 11 (.sl 0 (.t 8) (some (.t 10)) none),Mv 4 11] [4]) .rt) .sk)) (.sq (.rg none [Mv 12 0,Mv 4 12] [4]) .rt))),np:=2,res:=[.t 4],mode:=.iso }
def b136_0:C:=(.sq (.sq (.rg (some (List.range 17)) [Mv 18 9,Mv 19 1,Qo 20 (.bo .gtr (.t 18) (.t 19)),Mv 21 20,Gm 22 21 true 3,Gm 23 21 true 0,Gm 24 21 true 9,Gd 25 21 true (.ia 3 (.t 23) (.t 24)),Gd 26 21 true (.ld (some 3) (.t 25)),Gm 27 21 true 0,Gm 28 21 true 9,Gd 29 21 true (.bo .sub (.t 28) (.c (.int .i64 1))),Gd 30 21 true (.ia 3 (.t 27) (.t 29)),Gd 31 21 true (.ld (some 3) (.t 30)),Gd 32 21 true (.cw (.t 22) [(.t 26),(.t 31)]),Gd 33 21 true (.bo .lss (.t 32) (.c (.int .i64 0))),Qo 34 (.pk (.t 21) (.t 33) (.c (.bool false)))] [0,1,2,3,8,9,34]) (.cd (.t 34) .sk (.xt 2))) (.sq (.bl 3 (.rg (some (List.range 18)) [Mv 37 0,Mv 38 9,Mv 39 0,Mv 40 9,Qo 41 (.bo .sub (.t 40) (.c (.int .i64 1))),Mv 42 0,Mv 43 9,Qo 44 (.bo .sub (.t 43) (.c (.int .i64 1))),Qo 45 (.ia 3 (.t 42) (.t 44)),Qo 46 (.ld (some 3) (.t 45)),Mv 47 0,Mv 48 9,Qo 49 (.ia 3 (.t 47) (.t 48)),Qo 50 (.ld (some 3) (.t 49)),Qo 51 (.ia 3 (.t 37) (.t 38)),Eo (.st 3 (.t 51) (.t 46)),Qo 52 (.ia 3 (.t 39) (.t 41)),Eo (.st 3 (.t 52) (.t 50))] [0,1,2,3,8,9])) (.rg none [Mv 35 9,Qo 36 (.bo .sub (.t 35) (.c (.int .i64 1))),Mv 9 36] [0,1,2,3,8,9])))
def k136_1:C:=(.rg none [Mv 15 8,Qo 16 (.bo .add (.t 15) (.c (.int .i64 1))),Mv 8 16] [0,1,2,3,8])
def b136_2:C:=(.sq (.sq (.rg none [Mv 12 8,Mv 13 2,Qo 14 (.bo .lss (.t 12) (.t 13))] [0,1,2,3,8,14]) (.cd (.t 14) .sk (.xt 0))) (.sq (.bl 1 (.sq (.rg none [Mv 17 8,Mv 9 17] [0,1,2,3,8,9]) (.bl 2 (.lp false b136_0)))) k136_1))
def c136:FI.Fn:={ body:=(.sq (.rg none [Mv 10 1,Qo 11 (.bo .add (.t 10) (.c (.int .i64 1))),Mv 8 11] [0,1,2,3,8]) (.bl 0 (.lp false b136_2))),np:=4,res:=[],mode:=.shr }
def b137_0:C:=(.sq (.sq (.rg none [Mv 20 11,Qo 21 (.bo .geq (.t 20) (.c (.int .i64 0)))] [0,3,8,9,10,11,21]) (.cd (.t 21) .sk (.xt 0))) (.sq (.bl 1 (.rg none [Mv 24 0,Mv 25 11,Mv 26 10,Mv 27 8,Mv 28 3,Qo 29 (.cl 157 [(.t 24),(.t 25),(.t 26),(.t 27),(.t 28)])] [0,3,8,9,10,11])) (.rg none [Mv 22 11,Qo 23 (.bo .sub (.t 22) (.c (.int .i64 1))),Mv 11 23] [0,3,8,9,10,11])))
def b137_1:C:=(.sq (.sq (.rg none [Mv 32 12,Qo 33 (.bo .geq (.t 32) (.c (.int .i64 0)))] [0,3,8,9,12,33]) (.cd (.t 33) .sk (.xt 2))) (.sq (.bl 3 (.sq (.rg (some (List.range 20)) [Mv 36 0,Mv 37 8,Mv 38 0,Mv 39 8,Mv 40 12,Qo 41 (.bo .add (.t 39) (.t 40)),Mv 42 0,Mv 43 8,Mv 44 12,Qo 45 (.bo .add (.t 43) (.t 44)),Qo 46 (.ia 3 (.t 42) (.t 45)),Qo 47 (.ld (some 3) (.t 46)),Mv 48 0,Mv 49 8,Qo 50 (.ia 3 (.t 48) (.t 49)),Qo 51 (.ld (some 3) (.t 50)),Qo 52 (.ia 3 (.t 36) (.t 37)),Eo (.st 3 (.t 52) (.t 47)),Qo 53 (.ia 3 (.t 38) (.t 41)),Eo (.st 3 (.t 53) (.t 51))] [0,3,8,9,12]) (.rg none [Mv 54 0,Mv 55 9,Mv 56 12,Mv 57 8,Mv 58 3,Qo 59 (.cl 157 [(.t 54),(.t 55),(.t 56),(.t 57),(.t 58)])] [0,3,8,9,12]))) (.rg none [Mv 34 12,Qo 35 (.bo .sub (.t 34) (.c (.int .i64 1))),Mv 12 35] [0,3,8,9,12])))
def k137_2:C:=(.sq (.rg none [Mv 30 10,Qo 31 (.bo .sub (.t 30) (.c (.int .i64 1))),Mv 12 31] [0,3,8,9,12]) (.bl 2 (.lp false b137_1)))
def c137:FI.Fn:={ body:=(.sq (.rg none [Mv 13 1,Mv 8 13] [0,1,2,3,8]) (.sq (.rg none [Qo 9 (.mv (.c (.int .i64 0)))] [0,1,2,3,8,9]) (.sq (.rg none [Mv 14 2,Mv 15 1,Qo 16 (.bo .sub (.t 14) (.t 15)),Mv 10 16] [0,3,8,9,10]) (.sq (.sq (.rg none [Mv 17 10,Qo 18 (.bo .sub (.t 17) (.c (.int .i64 1))),Qo 19 (.bo .quo (.t 18) (.c (.int .i64 2))),Mv 11 19] [0,3,8,9,10,11]) (.bl 0 (.lp false b137_0))) k137_2)))),np:=4,res:=[],mode:=.shr }
def b138_0:C:=(.sq (.sq (.rg none [Mv 28 11,Mv 29 1,Mv 30 8,Qo 31 (.bo .quo (.t 30) (.c (.int .i64 4))),Qo 32 (.bo .mul (.t 31) (.c (.int .i64 2))),Qo 33 (.bo .add (.t 29) (.t 32)),Qo 34 (.bo .add (.t 33) (.c (.int .i64 1))),Qo 35 (.bo .leq (.t 28) (.t 34))] [0,1,8,9,10,11,35]) (.cd (.t 35) .sk (.xt 0))) (.sq (.bl 1 (.sq (.rg none [Qo 38 (.cl 159 [(.t 9)]),Mv 39 10,Qo 40 (.bo .sub (.t 39) (.c (.int .u64 1))),Qo 41 (.bo .and (.t 38) (.t 40)),Qo 42 (.cv .i64 (.t 41)),Mv 12 42] [0,1,8,9,10,11,12]) (.sq (.sq (.rg none [Mv 43 12,Mv 44 8,Qo 45 (.bo .geq (.t 43) (.t 44))] [0,1,8,9,10,11,12,45]) (.cd (.t 45) (.rg none [Mv 46 12,Mv 47 8,Qo 48 (.bo .sub (.t 46) (.t 47)),Mv 12 48] [0,1,8,9,10,11,12]) .sk)) (.rg (some (List.range 20)) [Mv 49 0,Mv 50 11,Mv 51 0,Mv 52 1,Mv 53 12,Qo 54 (.bo .add (.t 52) (.t 53)),Mv 55 0,Mv 56 1,Mv 57 12,Qo 58 (.bo .add (.t 56) (.t 57)),Qo 59 (.ia 3 (.t 55) (.t 58)),Qo 60 (.ld (some 3) (.t 59)),Mv 61 0,Mv 62 11,Qo 63 (.ia 3 (.t 61) (.t 62)),Qo 64 (.ld (some 3) (.t 63)),Qo 65 (.ia 3 (.t 49) (.t 50)),Eo (.st 3 (.t 65) (.t 60)),Qo 66 (.ia 3 (.t 51) (.t 54)),Eo (.st 3 (.t 66) (.t 64))] [0,1,8,9,10,11])))) (.rg none [Mv 36 11,Qo 37 (.bo .add (.t 36) (.c (.int .i64 1))),Mv 11 37] [0,1,8,9,10,11])))
def c138:FI.Fn:={ body:=(.sq (.rg none [Mv 13 2,Mv 14 1,Qo 15 (.bo .sub (.t 13) (.t 14)),Mv 8 15] [0,1,8]) (.sq (.rg none [Mv 16 8,Qo 17 (.bo .geq (.t 16) (.c (.int .i64 8)))] [0,1,8,17]) (.cd (.t 17) (.sq (.rg none [Mv 18 8,Qo 19 (.cv .u64 (.t 18)),Qo 9 (.al 1 (.int .u64 0)),Eo (.st 1 (.t 9) (.t 19))] [0,1,8,9]) (.sq (.rg none [Mv 20 8,Qo 21 (.cl 158 [(.t 20)]),Mv 10 21] [0,1,8,9,10]) (.sq (.rg none [Mv 22 1,Mv 23 8,Qo 24 (.bo .quo (.t 23) (.c (.int .i64 4))),Qo 25 (.bo .mul (.t 24) (.c (.int .i64 2))),Qo 26 (.bo .add (.t 22) (.t 25)),Qo 27 (.bo .sub (.t 26) (.c (.int .i64 1))),Mv 11 27] [0,1,8,9,10,11]) (.bl 0 (.lp false b138_0))))) .sk))),np:=4,res:=[],mode:=.shr }
def c139:FI.Fn:={ body:=(.sq (.rg none [Qo 8 (.mv (.c (.int .i64 0))),Qo 9 (.mv (.c (.int .i64 0)))] [0,1,2,3]) (.sq (.rg none [Mv 15 2,Mv 16 1,Qo 17 (.bo .sub (.t 15) (.t 16)),Mv 10 17] [0,1,3,10]) (.sq (.rg none [Qo 11 (.al 1 (.int .i64 0))] [0,1,3,10,11]) (.sq (.rg none [Mv 18 1,Mv 19 10,Qo 20 (.bo .quo (.t 19) (.c (.int .i64 4))),Qo 21 (.bo .mul (.t 20) (.c (.int .i64 1))),Qo 22 (.bo .add (.t 18) (.t 21)),Mv 12 22] [0,1,3,10,11,12]) (.sq (.rg none [Mv 23 1,Mv 24 10,Qo 25 (.bo .quo (.t 24) (.c (.int .i64 4))),Qo 26 (.bo .mul (.t 25) (.c (.int .i64 2))),Qo 27 (.bo .add (.t 23) (.t 26)),Mv 13 27] [0,1,3,10,11,12,13]) (.sq (.rg none [Mv 28 1,Mv 29 10,Qo 30 (.bo .quo (.t 29) (.c (.int .i64 4))),Qo 31 (.bo .mul (.t 30) (.c (.int .i64 3))),Qo 32 (.bo .add (.t 28) (.t 31)),Mv 14 32] [0,3,10,11,12,13,14]) (.sq (.sq (.rg none [Mv 33 10,Qo 34 (.bo .geq (.t 33) (.c (.int .i64 8)))] [0,3,10,11,12,13,14,34]) (.cd (.t 34) (.sq (.sq (.rg none [Mv 35 10,Qo 36 (.bo .geq (.t 35) (.c (.int .i64 50)))] [0,3,11,12,13,14,36]) (.cd (.t 36) (.sq (.rg none [Mv 37 0,Mv 38 12,Mv 39 3,Qo 40 (.cl 160 [(.t 37),(.t 38),(.t 11),(.t 39)]),Mv 12 40] [0,3,11,12,13,14]) (.sq (.rg none [Mv 41 0,Mv 42 13,Mv 43 3,Qo 44 (.cl 160 [(.t 41),(.t 42),(.t 11),(.t 43)]),Mv 13 44] [0,3,11,12,13,14]) (.rg none [Mv 45 0,Mv 46 14,Mv 47 3,Qo 48 (.cl 160 [(.t 45),(.t 46),(.t 11),(.t 47)]),Mv 14 48] [0,3,11,12,13,14]))) .sk)) (.rg none [Mv 49 0,Mv 50 12,Mv 51 13,Mv 52 14,Mv 53 3,Qo 54 (.cl 161 [(.t 49),(.t 50),(.t 51),(.t 52),(.t 11),(.t 53)]),Mv 13 54] [11,13])) .sk)) (.sq (.rg none [Qo 55 (.ld none (.t 11))] [13,55]) (.bl 0 (.sq (.rg none [Qo 58 (.bo .eql (.t 55) (.c (.int .i64 0))),Mv 57 58] [13,55,57]) (.cd (.t 57) (.sq (.rg none [Mv 59 13,Mv 8 59,Qo 9 (.mv (.c (.int .i64 1)))] [8,9]) .rt) (.sq (.rg none [Qo 61 (.bo .eql (.t 55) (.c (.int .i64 12))),Mv 60 61] [13,60]) (.cd (.t 60) (.sq (.rg none [Mv 62 13,Mv 8 62,Qo 9 (.mv (.c (.int .i64 2)))] [8,9]) .rt) (.sq (.rg none [Mv 56 13,Mv 8 56,Qo 9 (.mv (.c (.int .i64 0)))] [8,9]) .rt)))))))))))))),np:=4,res:=[.t 8,.t 9],mode:=.shr }
def b140_0:C:=(.sq (.sq (.rg none [Mv 13 8,Mv 14 9,Qo 15 (.bo .lss (.t 13) (.t 14))] [0,8,9,15]) (.cd (.t 15) .sk (.xt 0))) (.bl 1 (.sq (.rg (some (List.range 16)) [Mv 16 0,Mv 17 8,Mv 18 0,Mv 19 9,Mv 20 0,Mv 21 9,Qo 22 (.ia 3 (.t 20) (.t 21)),Qo 23 (.ld (some 3) (.t 22)),Mv 24 0,Mv 25 8,Qo 26 (.ia 3 (.t 24) (.t 25)),Qo 27 (.ld (some 3) (.t 26)),Qo 28 (.ia 3 (.t 16) (.t 17)),Eo (.st 3 (.t 28) (.t 23)),Qo 29 (.ia 3 (.t 18) (.t 19)),Eo (.st 3 (.t 29) (.t 27))] [0,8,9]) (.sq (.rg none [Mv 30 8,Qo 31 (.bo .add (.t 30) (.c (.int .i64 1))),Mv 8 31] [0,8,9]) (.rg none [Mv 32 9,Qo 33 (.bo .sub (.t 32) (.c (.int .i64 1))),Mv 9 33] [0,8,9])))))
def c140:FI.Fn:={ body:=(.sq (.rg none [Mv 10 1,Mv 8 10] [0,2,8]) (.sq (.rg none [Mv 11 2,Qo 12 (.bo .sub (.t 11) (.c (.int .i64 1))),Mv 9 12] [0,8,9]) (.bl 0 (.lp false b140_0)))),np:=4,res:=[],mode:=.shr }
def b141_0:C:=(.sq (.sq (.rg (some (List.range 18)) [Mv 19 9,Mv 20 2,Qo 21 (.bo .lss (.t 19) (.t 20)),Mv 22 21,Gm 23 22 true 3,Gm 24 22 true 0,Gm 25 22 true 9,Gd 26 22 true (.ia 3 (.t 24) (.t 25)),Gd 27 22 true (.ld (some 3) (.t 26)),Gm 28 22 true 0,Gm 29 22 true 9,Gd 30 22 true (.bo .sub (.t 29) (.c (.int .i64 1))),Gd 31 22 true (.ia 3 (.t 28) (.t 30)),Gd 32 22 true (.ld (some 3) (.t 31)),Gd 33 22 true (.cw (.t 23) [(.t 27),(.t 32)]),Gd 34 22 true (.bo .lss (.t 33) (.c (.int .i64 0))),Gd 35 22 true (.un .not (.t 34)),Qo 36 (.pk (.t 22) (.t 35) (.c (.bool false)))] [0,1,2,3,9,10,36]) (.cd (.t 36) .sk (.xt 2))) (.bl 3 (.rg none [Mv 37 9,Qo 38 (.bo .add (.t 37) (.c (.int .i64 1))),Mv 9 38] [0,1,2,3,9,10])))
def b141_1:C:=(.sq (.sq (.rg none [Mv 68 11,Qo 69 (.bo .geq (.t 68) (.c (.int .i64 1)))] [0,1,2,3,9,10,11,69]) (.cd (.t 69) .sk (.xt 4))) (.sq (.bl 5 (.sq (.sq (.rg (some (List.range 13)) [Mv 72 3,Mv 73 0,Mv 74 11,Qo 75 (.ia 3 (.t 73) (.t 74)),Qo 76 (.ld (some 3) (.t 75)),Mv 77 0,Mv 78 11,Qo 79 (.bo .sub (.t 78) (.c (.int .i64 1))),Qo 80 (.ia 3 (.t 77) (.t 79)),Qo 81 (.ld (some 3) (.t 80)),Qo 82 (.cw (.t 72) [(.t 76),(.t 81)]),Qo 83 (.bo .lss (.t 82) (.c (.int .i64 0))),Qo 84 (.un .not (.t 83))] [0,1,2,3,9,10,11,84]) (.cd (.t 84) (.xt 4) .sk)) (.rg (some (List.range 18)) [Mv 85 0,Mv 86 11,Mv 87 0,Mv 88 11,Qo 89 (.bo .sub (.t 88) (.c (.int .i64 1))),Mv 90 0,Mv 91 11,Qo 92 (.bo .sub (.t 91) (.c (.int .i64 1))),Qo 93 (.ia 3 (.t 90) (.t 92)),Qo 94 (.ld (some 3) (.t 93)),Mv 95 0,Mv 96 11,Qo 97 (.ia 3 (.t 95) (.t 96)),Qo 98 (.ld (some 3) (.t 97)),Qo 99 (.ia 3 (.t 85) (.t 86)),Eo (.st 3 (.t 99) (.t 94)),Qo 100 (.ia 3 (.t 87) (.t 89)),Eo (.st 3 (.t 100) (.t 98))] [0,1,2,3,9,10,11]))) (.rg none [Mv 70 11,Qo 71 (.bo .sub (.t 70) (.c (.int .i64 1))),Mv 11 71] [0,1,2,3,9,10,11])))
def b141_2:C:=(.sq (.sq (.rg none [Mv 107 12,Mv 108 2,Qo 109 (.bo .lss (.t 107) (.t 108))] [0,1,2,3,9,10,12,109]) (.cd (.t 109) .sk (.xt 6))) (.sq (.bl 7 (.sq (.sq (.rg (some (List.range 13)) [Mv 112 3,Mv 113 0,Mv 114 12,Qo 115 (.ia 3 (.t 113) (.t 114)),Qo 116 (.ld (some 3) (.t 115)),Mv 117 0,Mv 118 12,Qo 119 (.bo .sub (.t 118) (.c (.int .i64 1))),Qo 120 (.ia 3 (.t 117) (.t 119)),Qo 121 (.ld (some 3) (.t 120)),Qo 122 (.cw (.t 112) [(.t 116),(.t 121)]),Qo 123 (.bo .lss (.t 122) (.c (.int .i64 0))),Qo 124 (.un .not (.t 123))] [0,1,2,3,9,10,12,124]) (.cd (.t 124) (.xt 6) .sk)) (.rg (some (List.range 18)) [Mv 125 0,Mv 126 12,Mv 127 0,Mv 128 12,Qo 129 (.bo .sub (.t 128) (.c (.int .i64 1))),Mv 130 0,Mv 131 12,Qo 132 (.bo .sub (.t 131) (.c (.int .i64 1))),Qo 133 (.ia 3 (.t 130) (.t 132)),Qo 134 (.ld (some 3) (.t 133)),Mv 135 0,Mv 136 12,Qo 137 (.ia 3 (.t 135) (.t 136)),Qo 138 (.ld (some 3) (.t 137)),Qo 139 (.ia 3 (.t 125) (.t 126)),Eo (.st 3 (.t 139) (.t 134)),Qo 140 (.ia 3 (.t 127) (.t 129)),Eo (.st 3 (.t 140) (.t 138))] [0,1,2,3,9,10,12]))) (.rg none [Mv 110 12,Qo 111 (.bo .add (.t 110) (.c (.int .i64 1))),Mv 12 111] [0,1,2,3,9,10,12])))
def k141_3:C:=(.sq (.rg none [Mv 101 2,Mv 102 9,Qo 103 (.bo .sub (.t 101) (.t 102)),Qo 104 (.bo .geq (.t 103) (.c (.int .i64 2)))] [0,1,2,3,9,10,104]) (.cd (.t 104) (.sq (.rg none [Mv 105 9,Qo 106 (.bo .add (.t 105) (.c (.int .i64 1))),Mv 12 106] [0,1,2,3,9,10,12]) (.bl 6 (.lp false b141_2))) .sk))
def k141_4:C:=(.sq (.sq (.rg none [Mv 39 9,Mv 40 2,Qo 41 (.bo .eql (.t 39) (.t 40))] [0,1,2,3,9,10,41]) (.cd (.t 41) (.sq (.rg none [Qo 8 (.mv (.c (.bool true)))] [8]) .rt) .sk)) (.sq (.sq (.rg none [Mv 42 2,Mv 43 1,Qo 44 (.bo .sub (.t 42) (.t 43)),Qo 45 (.bo .lss (.t 44) (.c (.int .i64 50)))] [0,1,2,3,9,10,45]) (.cd (.t 45) (.sq (.rg none [Qo 8 (.mv (.c (.bool false)))] [8]) .rt) .sk)) (.sq (.rg (some (List.range 18)) [Mv 46 0,Mv 47 9,Mv 48 0,Mv 49 9,Qo 50 (.bo .sub (.t 49) (.c (.int .i64 1))),Mv 51 0,Mv 52 9,Qo 53 (.bo .sub (.t 52) (.c (.int .i64 1))),Qo 54 (.ia 3 (.t 51) (.t 53)),Qo 55 (.ld (some 3) (.t 54)),Mv 56 0,Mv 57 9,Qo 58 (.ia 3 (.t 56) (.t 57)),Qo 59 (.ld (some 3) (.t 58)),Qo 60 (.ia 3 (.t 46) (.t 47)),Eo (.st 3 (.t 60) (.t 55)),Qo 61 (.ia 3 (.t 48) (.t 50)),Eo (.st 3 (.t 61) (.t 59))] [0,1,2,3,9,10]) (.sq (.sq (.rg none [Mv 62 9,Mv 63 1,Qo 64 (.bo .sub (.t 62) (.t 63)),Qo 65 (.bo .geq (.t 64) (.c (.int .i64 2)))] [0,1,2,3,9,10,65]) (.cd (.t 65) (.sq (.rg none [Mv 66 9,Qo 67 (.bo .sub (.t 66) (.c (.int .i64 1))),Mv 11 67] [0,1,2,3,9,10,11]) (.bl 4 (.lp false b141_1))) .sk)) k141_3))))
def k141_5:C:=(.rg none [Mv 17 10,Qo 18 (.bo .add (.t 17) (.c (.int .i64 1))),Mv 10 18] [0,1,2,3,9,10])
def b141_6:C:=(.sq (.sq (.rg none [Mv 15 10,Qo 16 (.bo .lss (.t 15) (.c (.int .i64 5)))] [0,1,2,3,9,10,16]) (.cd (.t 16) .sk (.xt 0))) (.sq (.bl 1 (.sq (.bl 2 (.lp false b141_0)) k141_4)) k141_5))
def k141_7:C:=(.sq (.rg none [Qo 8 (.mv (.c (.bool false)))] [8]) .rt)
def c141:FI.Fn:={ body:=(.sq (.rg none [Qo 8 (.mv (.c (.bool false)))] [0,1,2,3]) (.sq (.rg none [Mv 13 1,Qo 14 (.bo .add (.t 13) (.c (.int .i64 1))),Mv 9 14] [0,1,2,3,9]) (.sq (.sq (.rg none [Qo 10 (.mv (.c (.int .i64 0)))] [0,1,2,3,9,10]) (.bl 0 (.lp false b141_6))) k141_7))),np:=4,res:=[.t 8],mode:=.shr }
def b142_0:C:=(.sq (.sq (.rg (some (List.range 17)) [Mv 31 11,Mv 32 12,Qo 33 (.bo .leq (.t 31) (.t 32)),Mv 34 33,Gm 35 34 true 4,Gm 36 34 true 0,Gm 37 34 true 1,Gd 38 34 true (.ia 3 (.t 36) (.t 37)),Gd 39 34 true (.ld (some 3) (.t 38)),Gm 40 34 true 0,Gm 41 34 true 11,Gd 42 34 true (.ia 3 (.t 40) (.t 41)),Gd 43 34 true (.ld (some 3) (.t 42)),Gd 44 34 true (.cw (.t 35) [(.t 39),(.t 43)]),Gd 45 34 true (.bo .lss (.t 44) (.c (.int .i64 0))),Gd 46 34 true (.un .not (.t 45)),Qo 47 (.pk (.t 34) (.t 46) (.c (.bool false)))] [0,1,4,11,12,47]) (.cd (.t 47) .sk (.xt 2))) (.bl 3 (.rg none [Mv 48 11,Qo 49 (.bo .add (.t 48) (.c (.int .i64 1))),Mv 11 49] [0,1,4,11,12])))
def b142_1:C:=(.sq (.sq (.rg (some (List.range 16)) [Mv 50 11,Mv 51 12,Qo 52 (.bo .leq (.t 50) (.t 51)),Mv 53 52,Gm 54 53 true 4,Gm 55 53 true 0,Gm 56 53 true 1,Gd 57 53 true (.ia 3 (.t 55) (.t 56)),Gd 58 53 true (.ld (some 3) (.t 57)),Gm 59 53 true 0,Gm 60 53 true 12,Gd 61 53 true (.ia 3 (.t 59) (.t 60)),Gd 62 53 true (.ld (some 3) (.t 61)),Gd 63 53 true (.cw (.t 54) [(.t 58),(.t 62)]),Gd 64 53 true (.bo .lss (.t 63) (.c (.int .i64 0))),Qo 65 (.pk (.t 53) (.t 64) (.c (.bool false)))] [0,1,4,11,12,65]) (.cd (.t 65) .sk (.xt 4))) (.bl 5 (.rg none [Mv 66 12,Qo 67 (.bo .sub (.t 66) (.c (.int .i64 1))),Mv 12 67] [0,1,4,11,12])))
def k142_2:C:=(.sq (.sq (.rg none [Mv 68 11,Mv 69 12,Qo 70 (.bo .gtr (.t 68) (.t 69))] [0,1,4,11,12,70]) (.cd (.t 70) (.xt 0) .sk)) (.sq (.rg (some (List.range 16)) [Mv 71 0,Mv 72 11,Mv 73 0,Mv 74 12,Mv 75 0,Mv 76 12,Qo 77 (.ia 3 (.t 75) (.t 76)),Qo 78 (.ld (some 3) (.t 77)),Mv 79 0,Mv 80 11,Qo 81 (.ia 3 (.t 79) (.t 80)),Qo 82 (.ld (some 3) (.t 81)),Qo 83 (.ia 3 (.t 71) (.t 72)),Eo (.st 3 (.t 83) (.t 78)),Qo 84 (.ia 3 (.t 73) (.t 74)),Eo (.st 3 (.t 84) (.t 82))] [0,1,4,11,12]) (.sq (.rg none [Mv 85 11,Qo 86 (.bo .add (.t 85) (.c (.int .i64 1))),Mv 11 86] [0,1,4,11,12]) (.rg none [Mv 87 12,Qo 88 (.bo .sub (.t 87) (.c (.int .i64 1))),Mv 12 88] [0,1,4,11,12]))))
def k142_3:C:=(.sq (.bl 4 (.lp false b142_1)) k142_2)
def b142_4:C:=(.bl 1 (.sq (.bl 2 (.lp false b142_0)) k142_3))
def k142_5:C:=(.sq (.rg none [Mv 89 11,Mv 10 89] [10]) .rt)
def c142:FI.Fn:={ body:=(.sq (.rg none [Qo 10 (.mv (.c (.int .i64 0)))] [0,1,2,3,4]) (.sq (.rg (some (List.range 16)) [Mv 13 0,Mv 14 1,Mv 15 0,Mv 16 3,Mv 17 0,Mv 18 3,Qo 19 (.ia 3 (.t 17) (.t 18)),Qo 20 (.ld (some 3) (.t 19)),Mv 21 0,Mv 22 1,Qo 23 (.ia 3 (.t 21) (.t 22)),Qo 24 (.ld (some 3) (.t 23)),Qo 25 (.ia 3 (.t 13) (.t 14)),Eo (.st 3 (.t 25) (.t 20)),Qo 26 (.ia 3 (.t 15) (.t 16)),Eo (.st 3 (.t 26) (.t 24))] [0,1,2,4]) (.sq (.rg none [Mv 27 1,Qo 28 (.bo .add (.t 27) (.c (.int .i64 1))),Mv 29 2,Qo 30 (.bo .sub (.t 29) (.c (.int .i64 1))),Mv 11 28,Mv 12 30] [0,1,4,11,12]) (.sq (.bl 0 (.lp false b142_4)) k142_5)))),np:=5,res:=[.t 10],mode:=.shr }
def b143_0:C:=(.sq (.sq (.rg (some (List.range 16)) [Mv 32 12,Mv 33 13,Qo 34 (.bo .leq (.t 32) (.t 33)),Mv 35 34,Gm 36 35 true 4,Gm 37 35 true 0,Gm 38 35 true 12,Gd 39 35 true (.ia 3 (.t 37) (.t 38)),Gd 40 35 true (.ld (some 3) (.t 39)),Gm 41 35 true 0,Gm 42 35 true 1,Gd 43 35 true (.ia 3 (.t 41) (.t 42)),Gd 44 35 true (.ld (some 3) (.t 43)),Gd 45 35 true (.cw (.t 36) [(.t 40),(.t 44)]),Gd 46 35 true (.bo .lss (.t 45) (.c (.int .i64 0))),Qo 47 (.pk (.t 35) (.t 46) (.c (.bool false)))] [0,1,4,12,13,47]) (.cd (.t 47) .sk (.xt 0))) (.bl 1 (.rg none [Mv 48 12,Qo 49 (.bo .add (.t 48) (.c (.int .i64 1))),Mv 12 49] [0,1,4,12,13])))
def b143_1:C:=(.sq (.sq (.rg (some (List.range 17)) [Mv 50 12,Mv 51 13,Qo 52 (.bo .leq (.t 50) (.t 51)),Mv 53 52,Gm 54 53 true 4,Gm 55 53 true 0,Gm 56 53 true 13,Gd 57 53 true (.ia 3 (.t 55) (.t 56)),Gd 58 53 true (.ld (some 3) (.t 57)),Gm 59 53 true 0,Gm 60 53 true 1,Gd 61 53 true (.ia 3 (.t 59) (.t 60)),Gd 62 53 true (.ld (some 3) (.t 61)),Gd 63 53 true (.cw (.t 54) [(.t 58),(.t 62)]),Gd 64 53 true (.bo .lss (.t 63) (.c (.int .i64 0))),Gd 65 53 true (.un .not (.t 64)),Qo 66 (.pk (.t 53) (.t 65) (.c (.bool false)))] [0,1,4,12,13,66]) (.cd (.t 66) .sk (.xt 2))) (.bl 3 (.rg none [Mv 67 13,Qo 68 (.bo .sub (.t 67) (.c (.int .i64 1))),Mv 13 68] [0,1,4,12,13])))
def b143_2:C:=(.sq (.sq (.rg (some (List.range 16)) [Mv 105 12,Mv 106 13,Qo 107 (.bo .leq (.t 105) (.t 106)),Mv 108 107,Gm 109 108 true 4,Gm 110 108 true 0,Gm 111 108 true 12,Gd 112 108 true (.ia 3 (.t 110) (.t 111)),Gd 113 108 true (.ld (some 3) (.t 112)),Gm 114 108 true 0,Gm 115 108 true 1,Gd 116 108 true (.ia 3 (.t 114) (.t 115)),Gd 117 108 true (.ld (some 3) (.t 116)),Gd 118 108 true (.cw (.t 109) [(.t 113),(.t 117)]),Gd 119 108 true (.bo .lss (.t 118) (.c (.int .i64 0))),Qo 120 (.pk (.t 108) (.t 119) (.c (.bool false)))] [0,1,4,12,13,120]) (.cd (.t 120) .sk (.xt 6))) (.bl 7 (.rg none [Mv 121 12,Qo 122 (.bo .add (.t 121) (.c (.int .i64 1))),Mv 12 122] [0,1,4,12,13])))
def b143_3:C:=(.sq (.sq (.rg (some (List.range 17)) [Mv 123 12,Mv 124 13,Qo 125 (.bo .leq (.t 123) (.t 124)),Mv 126 125,Gm 127 126 true 4,Gm 128 126 true 0,Gm 129 126 true 13,Gd 130 126 true (.ia 3 (.t 128) (.t 129)),Gd 131 126 true (.ld (some 3) (.t 130)),Gm 132 126 true 0,Gm 133 126 true 1,Gd 134 126 true (.ia 3 (.t 132) (.t 133)),Gd 135 126 true (.ld (some 3) (.t 134)),Gd 136 126 true (.cw (.t 127) [(.t 131),(.t 135)]),Gd 137 126 true (.bo .lss (.t 136) (.c (.int .i64 0))),Gd 138 126 true (.un .not (.t 137)),Qo 139 (.pk (.t 126) (.t 138) (.c (.bool false)))] [0,1,4,12,13,139]) (.cd (.t 139) .sk (.xt 8))) (.bl 9 (.rg none [Mv 140 13,Qo 141 (.bo .sub (.t 140) (.c (.int .i64 1))),Mv 13 141] [0,1,4,12,13])))
def k143_4:C:=(.sq (.sq (.rg none [Mv 142 12,Mv 143 13,Qo 144 (.bo .gtr (.t 142) (.t 143))] [0,1,4,12,13,144]) (.cd (.t 144) (.xt 4) .sk)) (.sq (.rg (some (List.range 16)) [Mv 145 0,Mv 146 12,Mv 147 0,Mv 148 13,Mv 149 0,Mv 150 13,Qo 151 (.ia 3 (.t 149) (.t 150)),Qo 152 (.ld (some 3) (.t 151)),Mv 153 0,Mv 154 12,Qo 155 (.ia 3 (.t 153) (.t 154)),Qo 156 (.ld (some 3) (.t 155)),Qo 157 (.ia 3 (.t 145) (.t 146)),Eo (.st 3 (.t 157) (.t 152)),Qo 158 (.ia 3 (.t 147) (.t 148)),Eo (.st 3 (.t 158) (.t 156))] [0,1,4,12,13]) (.sq (.rg none [Mv 159 12,Qo 160 (.bo .add (.t 159) (.c (.int .i64 1))),Mv 12 160] [0,1,4,12,13]) (.rg none [Mv 161 13,Qo 162 (.bo .sub (.t 161) (.c (.int .i64 1))),Mv 13 162] [0,1,4,12,13]))))
def k143_5:C:=(.sq (.bl 8 (.lp false b143_3)) k143_4)
def b143_6:C:=(.bl 5 (.sq (.bl 6 (.lp false b143_2)) k143_5))
def k143_7:C:=(.sq (.rg (some (List.range 16)) [Mv 163 0,Mv 164 13,Mv 165 0,Mv 166 1,Mv 167 0,Mv 168 1,Qo 169 (.ia 3 (.t 167) (.t 168)),Qo 170 (.ld (some 3) (.t 169)),Mv 171 0,Mv 172 13,Qo 173 (.ia 3 (.t 171) (.t 172)),Qo 174 (.ld (some 3) (.t 173)),Qo 175 (.ia 3 (.t 163) (.t 164)),Eo (.st 3 (.t 175) (.t 170)),Qo 176 (.ia 3 (.t 165) (.t 166)),Eo (.st 3 (.t 176) (.t 174))] [13]) (.sq (.rg none [Mv 177 13,Mv 10 177,Qo 11 (.mv (.c (.bool false)))] [10,11]) .rt))
def k143_8:C:=(.sq (.sq (.rg none [Mv 69 12,Mv 70 13,Qo 71 (.bo .gtr (.t 69) (.t 70))] [0,1,4,12,13,71]) (.cd (.t 71) (.sq (.rg (some (List.range 16)) [Mv 72 0,Mv 73 13,Mv 74 0,Mv 75 1,Mv 76 0,Mv 77 1,Qo 78 (.ia 3 (.t 76) (.t 77)),Qo 79 (.ld (some 3) (.t 78)),Mv 80 0,Mv 81 13,Qo 82 (.ia 3 (.t 80) (.t 81)),Qo 83 (.ld (some 3) (.t 82)),Qo 84 (.ia 3 (.t 72) (.t 73)),Eo (.st 3 (.t 84) (.t 79)),Qo 85 (.ia 3 (.t 74) (.t 75)),Eo (.st 3 (.t 85) (.t 83))] [13]) (.sq (.rg none [Mv 86 13,Mv 10 86,Qo 11 (.mv (.c (.bool true)))] [10,11]) .rt)) .sk)) (.sq (.rg (some (List.range 16)) [Mv 87 0,Mv 88 12,Mv 89 0,Mv 90 13,Mv 91 0,Mv 92 13,Qo 93 (.ia 3 (.t 91) (.t 92)),Qo 94 (.ld (some 3) (.t 93)),Mv 95 0,Mv 96 12,Qo 97 (.ia 3 (.t 95) (.t 96)),Qo 98 (.ld (some 3) (.t 97)),Qo 99 (.ia 3 (.t 87) (.t 88)),Eo (.st 3 (.t 99) (.t 94)),Qo 100 (.ia 3 (.t 89) (.t 90)),Eo (.st 3 (.t 100) (.t 98))] [0,1,4,12,13]) (.sq (.rg none [Mv 101 12,Qo 102 (.bo .add (.t 101) (.c (.int .i64 1))),Mv 12 102] [0,1,4,12,13]) (.sq (.rg none [Mv 103 13,Qo 104 (.bo .sub (.t 103) (.c (.int .i64 1))),Mv 13 104] [0,1,4,12,13]) (.sq (.bl 4 (.lp false b143_6)) k143_7)))))
def k143_9:C:=(.sq (.bl 2 (.lp false b143_1)) k143_8)
def c143:FI.Fn:={ body:=(.sq (.rg none [Qo 10 (.mv (.c (.int .i64 0))),Qo 11 (.mv (.c (.bool false)))] [0,1,2,3,4]) (.sq (.rg (some (List.range 16)) [Mv 14 0,Mv 15 1,Mv 16 0,Mv 17 3,Mv 18 0,Mv 19 3,Qo 20 (.ia 3 (.t 18) (.t 19)),Qo 21 (.ld (some 3) (.t 20)),Mv 22 0,Mv 23 1,Qo 24 (.ia 3 (.t 22) (.t 23)),Qo 25 (.ld (some 3) (.t 24)),Qo 26 (.ia 3 (.t 14) (.t 15)),Eo (.st 3 (.t 26) (.t 21)),Qo 27 (.ia 3 (.t 16) (.t 17)),Eo (.st 3 (.t 27) (.t 25))] [0,1,2,4]) (.sq (.rg none [Mv 28 1,Qo 29 (.bo .add (.t 28) (.c (.int .i64 1))),Mv 30 2,Qo 31 (.bo .sub (.t 30) (.c (.int .i64 1))),Mv 12 29,Mv 13 31] [0,1,4,12,13]) (.sq (.bl 0 (.lp false b143_0)) k143_9)))),np:=5,res:=[.t 10,.t 11],mode:=.shr }
def c144:FI.Fn:={ body:=(.sq (.rg none [Qo 2 (.mv (.c (.int .i64 0)))] [0,2]) (.sq (.sq (.rg none [Mv 3 0,Qo 4 (.bo .geq (.t 3) (.c (.int .u32 65536)))] [0,2,4]) (.cd (.t 4) (.sq (.rg none [Mv 5 0,Qo 6 (.bo .shr (.t 5) (.c (.int .u64 16))),Mv 0 6] [0]) (.rg none [Qo 2 (.mv (.c (.int .i64 16)))] [0,2])) .sk)) (.sq (.sq (.rg none [Mv 7 0,Qo 8 (.bo .geq (.t 7) (.c (.int .u32 256)))] [0,2,8]) (.cd (.t 8) (.sq (.rg none [Mv 9 0,Qo 10 (.bo .shr (.t 9) (.c (.int .u64 8))),Mv 0 10] [0,2]) (.rg none [Mv 11 2,Qo 12 (.bo .add (.t 11) (.c (.int .i64 8))),Mv 2 12] [0,2])) .sk)) (.sq (.rg none [Mv 13 2,Mv 14 0,Qo 15 (.cv .u8 (.t 14)),Qo 16 (.ix (.c (.str [0,1,2,2,3,3,3,3,4,4,4,4,4,4,4,4,5,5,5,5,5,5,5,5,5,5,5,5,5,5,5,5,6,6,6,6,6,6,6,6,6,6,6,6,6,6,6,6,6,6,6,6,6,6,6,6,6,6,6,6,6,6,6,6,7,7,7,7,7,7,7,7,7,7,7,7,7,7,7,7,7,7,7,7,7,7,7,7,7,7,7,7,7,7,7,7,7,7,7,7,7,7,7,7,7,7,7,7,7,7,7,7,7,7,7,7,7,7,7,7,7,7,7,7,7,7,7,7,8,8,8,8,8,8,8,8,8,8,8,8,8,8,8,8,8,8,8,8,8,8,8,8,8,8,8,8,8,8,8,8,8,8,8,8,8,8,8,8,8,8,8,8,8,8,8,8,8,8,8,8,8,8,8,8,8,8,8,8,8,8,8,8,8,8,8,8,8,8,8,8,8,8,8,8,8,8,8,8,8,8,8,8,8,8,8,8,8,8,8,8,8,8,8,8,8,8,8,8,8,8,8,8,8,8,8,8,8,8,8,8,8,8,8,8,8,8,8,8,8,8,8,8,8,8,8,8])) (.t 15)),Qo 17 (.cv .i64 (.t 16)),Qo 18 (.bo .add (.t 13) (.t 17)),Mv 2 18] [2]) .rt)))),np:=1,res:=[.t 2],mode:=.iso }
def c145:FI.Fn:={ body:=(.sq (.rg none [Qo 2 (.mv (.c (.int .i64 0)))] [0,2]) (.sq (.sq (.rg none [Mv 3 0,Qo 4 (.bo .geq (.t 3) (.c (.int .u64 4294967296)))] [0,2,4]) (.cd (.t 4) (.sq (.rg none [Mv 5 0,Qo 6 (.bo .shr (.t 5) (.c (.int .u64 32))),Mv 0 6] [0]) (.rg none [Qo 2 (.mv (.c (.int .i64 32)))] [0,2])) .sk)) (.sq (.sq (.rg none [Mv 7 0,Qo 8 (.bo .geq (.t 7) (.c (.int .u64 65536)))] [0,2,8]) (.cd (.t 8) (.sq (.rg none [Mv 9 0,Qo 10 (.bo .shr (.t 9) (.c (.int .u64 16))),Mv 0 10] [0,2]) (.rg none [Mv 11 2,Qo 12 (.bo .add (.t 11) (.c (.int .i64 16))),Mv 2 12] [0,2])) .sk)) (.sq (.sq (.rg none [Mv 13 0,Qo 14 (.bo .geq (.t 13) (.c (.int .u64 256)))] [0,2,14]) (.cd (.t 14) (.sq (.rg none [Mv 15 0,Qo 16 (.bo .shr (.t 15) (.c (.int .u64 8))),Mv 0 16] [0,2]) (.rg none [Mv 17 2,Qo 18 (.bo .add (.t 17) (.c (.int .i64 8))),Mv 2 18] [0,2])) .sk)) (.sq (.rg none [Mv 19 2,Mv 20 0,Qo 21 (.cv .u8 (.t 20)),Qo 22 (.ix (.c (.str [0,1,2,2,3,3,3,3,4,4,4,4,4,4,4,4,5,5,5,5,5,5,5,5,5,5,5,5,5,5,5,5,6,6,6,6,6,6,6,6,6,6,6,6,6,6,6,6,6,6,6,6,6,6,6,6,6,6,6,6,6,6,6,6,7,7,7,7,7,7,7,7,7,7,7,7,7,7,7,7,7,7,7,7,7,7,7,7,7,7,7,7,7,7,7,7,7,7,7,7,7,7,7,7,7,7,7,7,7,7,7,7,7,7,7,7,7,7,7,7,7,7,7,7,7,7,7,7,8,8,8,8,8,8,8,8,8,8,8,8,8,8,8,8,8,8,8,8,8,8,8,8,8,8,8,8,8,8,8,8,8,8,8,8,8,8,8,8,8,8,8,8,8,8,8,8,8,8,8,8,8,8,8,8,8,8,8,8,8,8,8,8,8,8,8,8,8,8,8,8,8,8,8,8,8,8,8,8,8,8,8,8,8,8,8,8,8,8,8,8,8,8,8,8,8,8,8,8,8,8,8,8,8,8,8,8,8,8,8,8,8,8,8,8,8,8,8,8,8,8,8,8,8,8,8,8])) (.t 21)),Qo 23 (.cv .i64 (.t 22)),Qo 24 (.bo .add (.t 19) (.t 23)),Mv 2 24] [2]) .rt))))),np:=1,res:=[.t 2],mode:=.iso }
def c149:FI.Fn:={ body:=(.sq (.rg none [Qo 4 (.mv (.c (.bool false)))] [0,1]) (.sq (.rg none [Mv 5 0,Qo 6 (.ln 0 (.t 5)),Mv 7 1,Qo 8 (.ln 0 (.t 7)),Qo 9 (.bo .geq (.t 6) (.t 8)),Mv 10 9,Gm 11 10 true 0,Gm 12 10 true 1,Gd 13 10 true (.ln 0 (.t 12)),Gd 14 10 true (.sl 0 (.t 11) none (some (.t 13))),Gm 15 10 true 1,Gd 16 10 true (.bo .eql (.t 14) (.t 15)),Qo 17 (.pk (.t 10) (.t 16) (.c (.bool false))),Mv 4 17] [4]) .rt)),np:=2,res:=[.t 4],mode:=.iso }
def c153:FI.Fn:={ body:=(.sq (.rg none [Qo 4 (.mv (.c (.bool false)))] [0,1]) (.sq (.rg none [Mv 5 0,Mv 6 1,Qo 7 (.cl 169 [(.t 5),(.t 6)]),Qo 8 (.bo .geq (.t 7) (.c (.int .i64 0))),Mv 4 8] [4]) .rt)),np:=2,res:=[.t 4],mode:=.isf }
def c154:FI.Fn:={ body:=(.sq (.rg none [Qo 2 (.bx 6 (.t 0)),Qo 3 (.mv (.c (.bool false)))] [1,2]) (.sq (.rg none [Qo 4 (.fa 1 (.t 2)),Qo 5 (.ld none (.t 4)),Qo 6 (.ld none (.t 1)),Qo 7 (.bo .neq (.t 5) (.t 6)),Mv 3 7] [3]) .rt)),np:=2,res:=[.t 3],mode:=.iso }
def c155:FI.Fn:={ body:=(.sq (.rg none [Qo 4 (.mv (.c (.int .i64 0)))] [0,1]) (.sq (.sq (.rg none [Mv 5 0,Mv 6 1,Qo 7 (.cl 83 [(.t 6)]),Qo 8 (.bo .quo (.t 5) (.t 7)),Qo 9 (.bo .rem (.t 8) (.c (.int .u64 2))),Qo 10 (.bo .eql (.t 9) (.c (.int .u64 1)))] [10]) (.cd (.t 10) (.sq (.rg none [Qo 4 (.mv (.c (.int .i64 1)))] [4]) .rt) .sk)) (.sq (.rg none [Qo 4 (.mv (.c (.int .i64 0)))] [4]) .rt))),np:=2,res:=[.t 4],mode:=.iso }
def c156:FI.Fn:={ body:=(.sq (.rg none [Qo 2 (.mv (.c (.lst true [])))] [0]) (.sq (.rg none [Qo 3 (.bs 1 1 (.int .i64 0) [(0,(.c (.int .i64 0)))]),Mv 4 0,Mv 5 0,Qo 6 (.ln 1 (.t 5)),Qo 7 (.bo .sub (.t 6) (.c (.int .i64 1))),Qo 8 (.sl 1 (.t 4) none (some (.t 7))),Qo 9 (.ap 1 8 (.t 3) (.t 8)),Mv 2 9] [2]) .rt)),np:=1,res:=[.t 2],mode:=.shr }
def b157_0:C:=(.bl 1 (.sq (.rg none [Mv 13 10,Qo 14 (.bo .mul (.c (.int .i64 2)) (.t 13)),Qo 15 (.bo .add (.t 14) (.c (.int .i64 1))),Mv 11 15] [0,2,3,4,10,11]) (.sq (.sq (.rg none [Mv 16 11,Mv 17 2,Qo 18 (.bo .geq (.t 16) (.t 17))] [0,2,3,4,10,11,18]) (.cd (.t 18) (.xt 0) .sk)) (.sq (.sq (.rg (some (List.range 22)) [Mv 19 11,Qo 20 (.bo .add (.t 19) (.c (.int .i64 1))),Mv 21 2,Qo 22 (.bo .lss (.t 20) (.t 21)),Mv 23 22,Gm 24 23 true 4,Gm 25 23 true 0,Gm 26 23 true 3,Gm 27 23 true 11,Gd 28 23 true (.bo .add (.t 26) (.t 27)),Gd 29 23 true (.ia 3 (.t 25) (.t 28)),Gd 30 23 true (.ld (some 3) (.t 29)),Gm 31 23 true 0,Gm 32 23 true 3,Gm 33 23 true 11,Gd 34 23 true (.bo .add (.t 32) (.t 33)),Gd 35 23 true (.bo .add (.t 34) (.c (.int .i64 1))),Gd 36 23 true (.ia 3 (.t 31) (.t 35)),Gd 37 23 true (.ld (some 3) (.t 36)),Gd 38 23 true (.cw (.t 24) [(.t 30),(.t 37)]),Gd 39 23 true (.bo .lss (.t 38) (.c (.int .i64 0))),Qo 40 (.pk (.t 23) (.t 39) (.c (.bool false)))] [0,2,3,4,10,11,40]) (.cd (.t 40) (.rg none [Mv 41 11,Qo 42 (.bo .add (.t 41) (.c (.int .i64 1))),Mv 11 42] [0,2,3,4,10,11]) .sk)) (.sq (.sq (.rg (some (List.range 16)) [Mv 43 4,Mv 44 0,Mv 45 3,Mv 46 10,Qo 47 (.bo .add (.t 45) (.t 46)),Qo 48 (.ia 3 (.t 44) (.t 47)),Qo 49 (.ld (some 3) (.t 48)),Mv 50 0,Mv 51 3,Mv 52 11,Qo 53 (.bo .add (.t 51) (.t 52)),Qo 54 (.ia 3 (.t 50) (.t 53)),Qo 55 (.ld (some 3) (.t 54)),Qo 56 (.cw (.t 43) [(.t 49),(.t 55)]),Qo 57 (.bo .lss (.t 56) (.c (.int .i64 0))),Qo 58 (.un .not (.t 57))] [0,2,3,4,10,11,58]) (.cd (.t 58) .rt .sk)) (.sq (.rg (some (List.range 24)) [Mv 59 0,Mv 60 3,Mv 61 10,Qo 62 (.bo .add (.t 60) (.t 61)),Mv 63 0,Mv 64 3,Mv 65 11,Qo 66 (.bo .add (.t 64) (.t 65)),Mv 67 0,Mv 68 3,Mv 69 11,Qo 70 (.bo .add (.t 68) (.t 69)),Qo 71 (.ia 3 (.t 67) (.t 70)),Qo 72 (.ld (some 3) (.t 71)),Mv 73 0,Mv 74 3,Mv 75 10,Qo 76 (.bo .add (.t 74) (.t 75)),Qo 77 (.ia 3 (.t 73) (.t 76)),Qo 78 (.ld (some 3) (.t 77)),Qo 79 (.ia 3 (.t 59) (.t 62)),Eo (.st 3 (.t 79) (.t 72)),Qo 80 (.ia 3 (.t 63) (.t 66)),Eo (.st 3 (.t 80) (.t 78))] [0,2,3,4,11]) (.rg none [Mv 81 11,Mv 10 81] [0,2,3,4,10])))))))
def c157:FI.Fn:={ body:=(.sq (.rg none [Mv 12 1,Mv 10 12] [0,2,3,4,10]) (.bl 0 (.lp false b157_0))),np:=5,res:=[],mode:=.shr }
def c158:FI.Fn:={ body:=(.sq (.rg none [Qo 2 (.mv (.c (.int .u64 0)))] [0]) (.sq (.rg none [Mv 3 0,Qo 4 (.cv .u64 (.t 3)),Qo 5 (.cl 106 [(.t 4)]),Qo 6 (.bo .shl (.c (.int .u64 1)) (.t 5)),Mv 2 6] [2]) .rt)),np:=1,res:=[.t 2],mode:=.iso }
def c159:FI.Fn:={ body:=(.sq (.rg none [Qo 2 (.mv (.c (.int .u64 0)))] [0]) (.sq (.rg (some (List.range 10)) [Mv 3 0,Qo 4 (.nc (.t 3)),Qo 5 (.ld none (.t 4)),Mv 6 0,Qo 7 (.nc (.t 6)),Qo 8 (.ld none (.t 7)),Qo 9 (.bo .shl (.t 8) (.c (.int .u64 13))),Qo 10 (.bo .xor (.t 5) (.t 9)),Qo 11 (.nc (.t 3)),Eo (.st 1 (.t 11) (.t 10))] [0]) (.sq (.rg (some (List.range 10)) [Mv 12 0,Qo 13 (.nc (.t 12)),Qo 14 (.ld none (.t 13)),Mv 15 0,Qo 16 (.nc (.t 15)),Qo 17 (.ld none (.t 16)),Qo 18 (.bo .shr (.t 17) (.c (.int .u64 7))),Qo 19 (.bo .xor (.t 14) (.t 18)),Qo 20 (.nc (.t 12)),Eo (.st 1 (.t 20) (.t 19))] [0]) (.sq (.rg (some (List.range 10)) [Mv 21 0,Qo 22 (.nc (.t 21)),Qo 23 (.ld none (.t 22)),Mv 24 0,Qo 25 (.nc (.t 24)),Qo 26 (.ld none (.t 25)),Qo 27 (.bo .shl (.t 26) (.c (.int .u64 17))),Qo 28 (.bo .xor (.t 23) (.t 27)),Qo 29 (.nc (.t 21)),Eo (.st 1 (.t 29) (.t 28))] [0]) (.sq (.rg none [Mv 30 0,Qo 31 (.nc (.t 30)),Qo 32 (.ld none (.t 31)),Mv 2 32] [2]) .rt))))),np:=1,res:=[.t 2],mode:=.shr }
def c160:FI.Fn:={ body:=(.sq (.rg none [Qo 8 (.mv (.c (.int .i64 0)))] [0,1,2,3]) (.sq (.rg none [Mv 9 0,Mv 10 1,Qo 11 (.bo .sub (.t 10) (.c (.int .i64 1))),Mv 12 1,Mv 13 1,Qo 14 (.bo .add (.t 13) (.c (.int .i64 1))),Mv 15 2,Mv 16 3,Qo 17 (.cl 161 [(.t 9),(.t 11),(.t 12),(.t 14),(.t 15),(.t 16)]),Mv 8 17] [8]) .rt)),np:=4,res:=[.t 8],mode:=.shr }
def c161:FI.Fn:={ body:=(.sq (.rg none [Qo 12 (.mv (.c (.int .i64 0)))] [0,1,2,3,4,5]) (.sq (.rg none [Mv 14 0,Mv 15 1,Mv 16 2,Mv 17 4,Mv 18 5,Qo 19 (.cl 170 [(.t 14),(.t 15),(.t 16),(.t 17),(.t 18)]),Mv 13 19,Qo 20 (.ex (.t 13) 0),Qo 21 (.ex (.t 13) 1),Mv 1 20,Mv 2 21] [0,1,2,3,4,5]) (.sq (.rg none [Mv 23 0,Mv 24 2,Mv 25 3,Mv 26 4,Mv 27 5,Qo 28 (.cl 170 [(.t 23),(.t 24),(.t 25),(.t 26),(.t 27)]),Mv 22 28,Qo 29 (.ex (.t 22) 0),Qo 30 (.ex (.t 22) 1),Mv 2 29,Mv 3 30] [0,1,2,4,5]) (.sq (.rg none [Mv 32 0,Mv 33 1,Mv 34 2,Mv 35 4,Mv 36 5,Qo 37 (.cl 170 [(.t 32),(.t 33),(.t 34),(.t 35),(.t 36)]),Mv 31 37,Qo 38 (.ex (.t 31) 0),Qo 39 (.ex (.t 31) 1),Mv 1 38,Mv 2 39] [2]) (.sq (.rg none [Mv 40 2,Mv 12 40] [12]) .rt))))),np:=6,res:=[.t 12],mode:=.shr }
def b169_0:C:=(.sq (.rg none [Qo 9 (.bo .lss (.t 8) (.t 7))] [0,1,7,8,9]) (.sq (.cd (.t 9) .sk (.xt 0)) (.sq (.bl 1 (.sq (.rg none [Mv 10 8,Mv 5 10] [0,1,5,7,8]) (.sq (.rg none [Mv 11 1,Mv 12 0,Mv 13 5,Qo 14 (.ia 6 (.t 12) (.t 13)),Qo 15 (.ld (some 6) (.t 14)),Qo 16 (.cw (.t 11) [(.t 15)])] [0,1,5,7,8,16]) (.cd (.t 16) (.sq (.rg none [Mv 17 5,Mv 4 17] [4]) .rt) .sk)))) (.rg none [Qo 18 (.bo .add (.t 8) (.c (.int .i64 1))),Mv 8 18] [0,1,7,8]))))
def k169_1:C:=(.sq (.rg none [Qo 4 (.mv (.c (.int .i64 (-1))))] [4]) .rt)
def c169:FI.Fn:={ body:=(.sq (.rg none [Qo 4 (.mv (.c (.int .i64 0)))] [0,1]) (.sq (.sq (.rg none [Mv 6 0,Qo 7 (.ln 1 (.t 6)),Qo 8 (.mv (.c (.int .i64 0)))] [0,1,7,8]) (.bl 0 (.lp true b169_0))) k169_1)),np:=2,res:=[.t 4],mode:=.iso }
def c170:FI.Fn:={ body:=(.sq (.rg none [Qo 10 (.mv (.c (.int .i64 0))),Qo 11 (.mv (.c (.int .i64 0)))] [0,1,2,3,4]) (.sq (.sq (.rg (some (List.range 11)) [Mv 12 4,Mv 13 0,Mv 14 2,Qo 15 (.ia 3 (.t 13) (.t 14)),Qo 16 (.ld (some 3) (.t 15)),Mv 17 0,Mv 18 1,Qo 19 (.ia 3 (.t 17) (.t 18)),Qo 20 (.ld (some 3) (.t 19)),Qo 21 (.cw (.t 12) [(.t 16),(.t 20)]),Qo 22 (.bo .lss (.t 21) (.c (.int .i64 0)))] [1,2,3,22]) (.cd (.t 22) (.sq (.rg none [Mv 23 3,Qo 24 (.nc (.t 23)),Qo 25 (.ld none (.t 24)),Qo 26 (.bo .add (.t 25) (.c (.int .i64 1))),Qo 27 (.nc (.t 23)),Eo (.st 1 (.t 27) (.t 26))] [1,2]) (.sq (.rg none [Mv 28 2,Mv 29 1,Mv 10 28,Mv 11 29] [10,11]) .rt)) .sk)) (.sq (.rg none [Mv 30 1,Mv 31 2,Mv 10 30,Mv 11 31] [10,11]) .rt))),np:=5,res:=[.t 10,.t 11],mode:=.shr }
def T:FI.Tab:=[(3,.fn c3),(9,.fn c9),(10,.fn c10),(11,.fn c11),(12,.fn c12),(13,.fn c13),(14,.fn c14),(15,.fn c15),(16,.fn c16),(17,.fn c17),(18,.fn c18),(20,.fn c20),(21,.fn c21),(22,.fn c22),(23,.fn c23),(24,.fn c24),(25,.fn c25),(27,.mr c27),(31,.fn c31),(37,.fn c37),(38,.fn c38),(39,.fn c39),(40,.fn c40),(41,.fn c41),(42,.fn c42),(43,.fn c43),(44,.fn c44),(45,.fn c45),(46,.fn c46),(47,.fn c47),(48,.fn c48),(49,.fn c49),(50,.fn c50),(51,.fn c51),(52,.fn c52),(53,.fn c53),(54,.fn c54),(55,.fn c55),(56,.fn c56),(57,.fn c57),(58,.fn c58),(59,.fn c59),(60,.fn c60),(61,.fn c61),(62,.fn c62),(66,.fn c66),(67,.fn c67),(71,.fn c71),(72,.fn c72),(73,.fn c73),(74,.fn c74),(75,.fn c75),(76,.fn c76),(77,.fn c77),(78,.fn c78),(79,.fn c79),(80,.fn c80),(81,.fn c81),(82,.fn c82),(83,.fn c83),(84,.fn c84),(85,.fn c85),(86,.fn c86),(87,.fn c87),(88,.fn c88),(89,.fn c89),(90,.fn c90),(91,.fn c91),(92,.fn c92),(93,.fn c93),(94,.fn c94),(95,.fn c95),(96,.fn c96),(97,.fn c97),(98,.fn c98),(99,.fn c99),(100,.fn c100),(101,.fn c101),(102,.fn c102),(103,.fn c103),(104,.fn c104),(105,.fn c105),(106,.fn c106),(116,.fn c116),(117,.fn c117),(118,.fn c118),(119,.fn c119),(121,.fn c121),(122,.fn c122),(123,.fn c123),(124,.fn c124),(125,.fn c125),(126,.fn c126),(127,.fn c127),(128,.fn c128),(129,.fn c129),(130,.fn c130),(131,.fn c131),(132,.fn c132),(133,.fn c133),(134,.fn c134),(135,.fn c135),(136,.fn c136),(137,.fn c137),(138,.fn c138),(139,.fn c139),(140,.fn c140),(141,.fn c141),(142,.fn c142),(143,.fn c143),(144,.fn c144),(145,.fn c145),(149,.fn c149),(153,.fn c153),(154,.fn c154),(155,.fn c155),(156,.fn c156),(157,.fn c157),(158,.fn c158),(159,.fn c159),(160,.fn c160),(161,.fn c161),(169,.fn c169),(170,.fn c170),(1003100,.rd Ac8),(1003800,.rd Abg),(1006200,.rd Ab9)]
def glf (k:Nat) (cs:List FV):Bool:=(k == 0 && eqvs cs gl0)
theorem glfp (k:Nat) (cs:List FV) (h:glf k cs=true):pures cs=true:=by
 unfold glf at h
 simp only [Bool.or_eq_true,Bool.and_eq_true] at h
 rcases h with ⟨_,h⟩
 ·rw [A3w h];rfl
@[reducible] def sys0:FI.Sys:=⟨glf,fun _ _ _=>False,glfp⟩
instance sys:FI.Sys:=⟨glf,@RkOf sys0 Tryz.prog (cmOf T) (rdOf T),glfp⟩
theorem mix:Tryz.prog.follows .mixedOrders=true:=by kernel_rfl
theorem ok3:okFn Tryz.prog (cmOf T) (rdOf T) 3 c3=true:=by kernel_rfl
theorem ok9:okFn Tryz.prog (cmOf T) (rdOf T) 9 c9=true:=by kernel_rfl
theorem ok10:okFn Tryz.prog (cmOf T) (rdOf T) 10 c10=true:=by kernel_rfl
theorem ok11:okFn Tryz.prog (cmOf T) (rdOf T) 11 c11=true:=by kernel_rfl
theorem ok12:okFn Tryz.prog (cmOf T) (rdOf T) 12 c12=true:=by kernel_rfl
theorem ok13:okFn Tryz.prog (cmOf T) (rdOf T) 13 c13=true:=by kernel_rfl
theorem ok14:okFn Tryz.prog (cmOf T) (rdOf T) 14 c14=true:=by kernel_rfl
theorem ok15:okFn Tryz.prog (cmOf T) (rdOf T) 15 c15=true:=by kernel_rfl
theorem ok16:okFn Tryz.prog (cmOf T) (rdOf T) 16 c16=true:=by kernel_rfl
theorem ok17:okFn Tryz.prog (cmOf T) (rdOf T) 17 c17=true:=by kernel_rfl
theorem ok18:okFn Tryz.prog (cmOf T) (rdOf T) 18 c18=true:=by kernel_rfl
theorem ok20:okFn Tryz.prog (cmOf T) (rdOf T) 20 c20=true:=by kernel_rfl
theorem ok21:okFn Tryz.prog (cmOf T) (rdOf T) 21 c21=true:=by kernel_rfl
theorem ok22:okFn Tryz.prog (cmOf T) (rdOf T) 22 c22=true:=by kernel_rfl
theorem ok23:okFn Tryz.prog (cmOf T) (rdOf T) 23 c23=true:=by kernel_rfl
theorem ok24:okFn Tryz.prog (cmOf T) (rdOf T) 24 c24=true:=by kernel_rfl
theorem ok25:okFn Tryz.prog (cmOf T) (rdOf T) 25 c25=true:=by kernel_rfl
theorem ok27:okMr Tryz.prog (cmOf T) (rdOf T) 27 c27=true:=by kernel_rfl
theorem ok31:okFn Tryz.prog (cmOf T) (rdOf T) 31 c31=true:=by kernel_rfl
theorem ok37:okFn Tryz.prog (cmOf T) (rdOf T) 37 c37=true:=by kernel_rfl
theorem ok38:okFn Tryz.prog (cmOf T) (rdOf T) 38 c38=true:=by kernel_rfl
theorem ok39:okFn Tryz.prog (cmOf T) (rdOf T) 39 c39=true:=by kernel_rfl
theorem ok40:okFn Tryz.prog (cmOf T) (rdOf T) 40 c40=true:=by kernel_rfl
theorem ok41:okFn Tryz.prog (cmOf T) (rdOf T) 41 c41=true:=by kernel_rfl
theorem ok42:okFn Tryz.prog (cmOf T) (rdOf T) 42 c42=true:=by kernel_rfl
theorem ok43:okFn Tryz.prog (cmOf T) (rdOf T) 43 c43=true:=by kernel_rfl
theorem ok44:okFn Tryz.prog (cmOf T) (rdOf T) 44 c44=true:=by kernel_rfl
theorem ok45:okFn Tryz.prog (cmOf T) (rdOf T) 45 c45=true:=by kernel_rfl
theorem ok46:okFn Tryz.prog (cmOf T) (rdOf T) 46 c46=true:=by kernel_rfl
theorem ok47:okFn Tryz.prog (cmOf T) (rdOf T) 47 c47=true:=by kernel_rfl
theorem ok48:okFn Tryz.prog (cmOf T) (rdOf T) 48 c48=true:=by kernel_rfl
theorem ok49:okFn Tryz.prog (cmOf T) (rdOf T) 49 c49=true:=by kernel_rfl
theorem ok50:okFn Tryz.prog (cmOf T) (rdOf T) 50 c50=true:=by kernel_rfl
theorem ok51:okFn Tryz.prog (cmOf T) (rdOf T) 51 c51=true:=by kernel_rfl
theorem ok52:okFn Tryz.prog (cmOf T) (rdOf T) 52 c52=true:=by kernel_rfl
theorem ok53:okFn Tryz.prog (cmOf T) (rdOf T) 53 c53=true:=by kernel_rfl
theorem ok54:okFn Tryz.prog (cmOf T) (rdOf T) 54 c54=true:=by kernel_rfl
theorem ok55:okFn Tryz.prog (cmOf T) (rdOf T) 55 c55=true:=by kernel_rfl
theorem ok56:okFn Tryz.prog (cmOf T) (rdOf T) 56 c56=true:=by kernel_rfl
theorem ok57:okFn Tryz.prog (cmOf T) (rdOf T) 57 c57=true:=by kernel_rfl
theorem ok58:okFn Tryz.prog (cmOf T) (rdOf T) 58 c58=true:=by kernel_rfl
theorem ok59:okFn Tryz.prog (cmOf T) (rdOf T) 59 c59=true:=by kernel_rfl
theorem ok60:okFn Tryz.prog (cmOf T) (rdOf T) 60 c60=true:=by kernel_rfl
theorem ok61:okFn Tryz.prog (cmOf T) (rdOf T) 61 c61=true:=by kernel_rfl
theorem ok62:okFn Tryz.prog (cmOf T) (rdOf T) 62 c62=true:=by kernel_rfl
theorem ok66:okFn Tryz.prog (cmOf T) (rdOf T) 66 c66=true:=by kernel_rfl
theorem ok67:okFn Tryz.prog (cmOf T) (rdOf T) 67 c67=true:=by kernel_rfl
theorem ok71:okFn Tryz.prog (cmOf T) (rdOf T) 71 c71=true:=by kernel_rfl
theorem ok72:okFn Tryz.prog (cmOf T) (rdOf T) 72 c72=true:=by kernel_rfl
theorem ok73:okFn Tryz.prog (cmOf T) (rdOf T) 73 c73=true:=by kernel_rfl
theorem ok74:okFn Tryz.prog (cmOf T) (rdOf T) 74 c74=true:=by kernel_rfl
theorem ok75:okFn Tryz.prog (cmOf T) (rdOf T) 75 c75=true:=by kernel_rfl
theorem ok76:okFn Tryz.prog (cmOf T) (rdOf T) 76 c76=true:=by kernel_rfl
theorem ok77:okFn Tryz.prog (cmOf T) (rdOf T) 77 c77=true:=by kernel_rfl
theorem ok78:okFn Tryz.prog (cmOf T) (rdOf T) 78 c78=true:=by kernel_rfl
theorem ok79:okFn Tryz.prog (cmOf T) (rdOf T) 79 c79=true:=by kernel_rfl
theorem ok80:okFn Tryz.prog (cmOf T) (rdOf T) 80 c80=true:=by kernel_rfl
theorem ok81:okFn Tryz.prog (cmOf T) (rdOf T) 81 c81=true:=by kernel_rfl
theorem ok82:okFn Tryz.prog (cmOf T) (rdOf T) 82 c82=true:=by kernel_rfl
theorem ok83:okFn Tryz.prog (cmOf T) (rdOf T) 83 c83=true:=by kernel_rfl
theorem ok84:okFn Tryz.prog (cmOf T) (rdOf T) 84 c84=true:=by kernel_rfl
theorem ok85:okFn Tryz.prog (cmOf T) (rdOf T) 85 c85=true:=by kernel_rfl
theorem ok86:okFn Tryz.prog (cmOf T) (rdOf T) 86 c86=true:=by kernel_rfl
theorem ok87:okFn Tryz.prog (cmOf T) (rdOf T) 87 c87=true:=by kernel_rfl
theorem ok88:okFn Tryz.prog (cmOf T) (rdOf T) 88 c88=true:=by kernel_rfl
theorem ok89:okFn Tryz.prog (cmOf T) (rdOf T) 89 c89=true:=by kernel_rfl
theorem ok90:okFn Tryz.prog (cmOf T) (rdOf T) 90 c90=true:=by kernel_rfl
theorem ok91:okFn Tryz.prog (cmOf T) (rdOf T) 91 c91=true:=by kernel_rfl
theorem ok92:okFn Tryz.prog (cmOf T) (rdOf T) 92 c92=true:=by kernel_rfl
theorem ok93:okFn Tryz.prog (cmOf T) (rdOf T) 93 c93=true:=by kernel_rfl
theorem ok94:okFn Tryz.prog (cmOf T) (rdOf T) 94 c94=true:=by kernel_rfl
theorem ok95:okFn Tryz.prog (cmOf T) (rdOf T) 95 c95=true:=by kernel_rfl
theorem ok96:okFn Tryz.prog (cmOf T) (rdOf T) 96 c96=true:=by kernel_rfl
theorem ok97:okFn Tryz.prog (cmOf T) (rdOf T) 97 c97=true:=by kernel_rfl
theorem ok98:okFn Tryz.prog (cmOf T) (rdOf T) 98 c98=true:=by kernel_rfl
theorem ok99:okFn Tryz.prog (cmOf T) (rdOf T) 99 c99=true:=by kernel_rfl
theorem B0h:okFn Tryz.prog (cmOf T) (rdOf T) 100 c100=true:=by kernel_rfl
theorem Aym:okFn Tryz.prog (cmOf T) (rdOf T) 101 c101=true:=by kernel_rfl
theorem Ayw:okFn Tryz.prog (cmOf T) (rdOf T) 102 c102=true:=by kernel_rfl
theorem Azq:okFn Tryz.prog (cmOf T) (rdOf T) 103 c103=true:=by kernel_rfl
theorem B14:okFn Tryz.prog (cmOf T) (rdOf T) 104 c104=true:=by kernel_rfl
theorem Azn:okFn Tryz.prog (cmOf T) (rdOf T) 105 c105=true:=by kernel_rfl
theorem B12:okFn Tryz.prog (cmOf T) (rdOf T) 106 c106=true:=by kernel_rfl
theorem B0e:okFn Tryz.prog (cmOf T) (rdOf T) 116 c116=true:=by kernel_rfl
theorem Ayd:okFn Tryz.prog (cmOf T) (rdOf T) 117 c117=true:=by kernel_rfl
theorem B1l:okFn Tryz.prog (cmOf T) (rdOf T) 118 c118=true:=by kernel_rfl
theorem B16:okFn Tryz.prog (cmOf T) (rdOf T) 119 c119=true:=by kernel_rfl
theorem Ayj:okFn Tryz.prog (cmOf T) (rdOf T) 121 c121=true:=by kernel_rfl
theorem Ay9:okFn Tryz.prog (cmOf T) (rdOf T) 122 c122=true:=by kernel_rfl
theorem B17:okFn Tryz.prog (cmOf T) (rdOf T) 123 c123=true:=by kernel_rfl
theorem Azw:okFn Tryz.prog (cmOf T) (rdOf T) 124 c124=true:=by kernel_rfl
theorem B00:okFn Tryz.prog (cmOf T) (rdOf T) 125 c125=true:=by kernel_rfl
theorem B0i:okFn Tryz.prog (cmOf T) (rdOf T) 126 c126=true:=by kernel_rfl
theorem B0y:okFn Tryz.prog (cmOf T) (rdOf T) 127 c127=true:=by kernel_rfl
theorem Ayu:okFn Tryz.prog (cmOf T) (rdOf T) 128 c128=true:=by kernel_rfl
theorem Azv:okFn Tryz.prog (cmOf T) (rdOf T) 129 c129=true:=by kernel_rfl
theorem Azi:okFn Tryz.prog (cmOf T) (rdOf T) 130 c130=true:=by kernel_rfl
theorem Az2:okFn Tryz.prog (cmOf T) (rdOf T) 131 c131=true:=by kernel_rfl
theorem Az4:okFn Tryz.prog (cmOf T) (rdOf T) 132 c132=true:=by kernel_rfl
theorem B01:okFn Tryz.prog (cmOf T) (rdOf T) 133 c133=true:=by kernel_rfl
theorem B0p:okFn Tryz.prog (cmOf T) (rdOf T) 134 c134=true:=by kernel_rfl
theorem B0s:okFn Tryz.prog (cmOf T) (rdOf T) 135 c135=true:=by kernel_rfl
theorem B0a:okFn Tryz.prog (cmOf T) (rdOf T) 136 c136=true:=by kernel_rfl
theorem Ay8:okFn Tryz.prog (cmOf T) (rdOf T) 137 c137=true:=by kernel_rfl
theorem B1d:okFn Tryz.prog (cmOf T) (rdOf T) 138 c138=true:=by kernel_rfl
theorem B07:okFn Tryz.prog (cmOf T) (rdOf T) 139 c139=true:=by kernel_rfl
theorem B1m:okFn Tryz.prog (cmOf T) (rdOf T) 140 c140=true:=by kernel_rfl
theorem B08:okFn Tryz.prog (cmOf T) (rdOf T) 141 c141=true:=by kernel_rfl
theorem Aza:okFn Tryz.prog (cmOf T) (rdOf T) 142 c142=true:=by kernel_rfl
theorem B0k:okFn Tryz.prog (cmOf T) (rdOf T) 143 c143=true:=by kernel_rfl
theorem Azs:okFn Tryz.prog (cmOf T) (rdOf T) 144 c144=true:=by kernel_rfl
theorem B1f:okFn Tryz.prog (cmOf T) (rdOf T) 145 c145=true:=by kernel_rfl
theorem B0t:okFn Tryz.prog (cmOf T) (rdOf T) 149 c149=true:=by kernel_rfl
theorem Az5:okFn Tryz.prog (cmOf T) (rdOf T) 153 c153=true:=by kernel_rfl
theorem B04:okFn Tryz.prog (cmOf T) (rdOf T) 154 c154=true:=by kernel_rfl
theorem Azk:okFn Tryz.prog (cmOf T) (rdOf T) 155 c155=true:=by kernel_rfl
theorem B0n:okFn Tryz.prog (cmOf T) (rdOf T) 156 c156=true:=by kernel_rfl
theorem Ayv:okFn Tryz.prog (cmOf T) (rdOf T) 157 c157=true:=by kernel_rfl
theorem Ayn:okFn Tryz.prog (cmOf T) (rdOf T) 158 c158=true:=by kernel_rfl
theorem Azd:okFn Tryz.prog (cmOf T) (rdOf T) 159 c159=true:=by kernel_rfl
theorem B18:okFn Tryz.prog (cmOf T) (rdOf T) 160 c160=true:=by kernel_rfl
theorem B1i:okFn Tryz.prog (cmOf T) (rdOf T) 161 c161=true:=by kernel_rfl
theorem B0f:okFn Tryz.prog (cmOf T) (rdOf T) 169 c169=true:=by kernel_rfl
theorem B0l:okFn Tryz.prog (cmOf T) (rdOf T) 170 c170=true:=by kernel_rfl
theorem tab:TabOk Tryz.prog T where
 fn:=by
  intro f d h
  obtain ⟨rfl,h0⟩ | h:=A00 h
  ·cases h0;exact ok3
  obtain ⟨rfl,h0⟩ | h:=A00 h
  ·cases h0;exact ok9
  obtain ⟨rfl,h0⟩ | h:=A00 h
  ·cases h0;exact ok10
  obtain ⟨rfl,h0⟩ | h:=A00 h
  ·cases h0;exact ok11
  obtain ⟨rfl,h0⟩ | h:=A00 h
  ·cases h0;exact ok12
  obtain ⟨rfl,h0⟩ | h:=A00 h
  ·cases h0;exact ok13
  obtain ⟨rfl,h0⟩ | h:=A00 h
  ·cases h0;exact ok14
  obtain ⟨rfl,h0⟩ | h:=A00 h
  ·cases h0;exact ok15
  obtain ⟨rfl,h0⟩ | h:=A00 h
  ·cases h0;exact ok16
  obtain ⟨rfl,h0⟩ | h:=A00 h
  ·cases h0;exact ok17
  obtain ⟨rfl,h0⟩ | h:=A00 h
  ·cases h0;exact ok18
  obtain ⟨rfl,h0⟩ | h:=A00 h
  ·cases h0;exact ok20
  obtain ⟨rfl,h0⟩ | h:=A00 h
  ·cases h0;exact ok21
  obtain ⟨rfl,h0⟩ | h:=A00 h
  ·cases h0;exact ok22
  obtain ⟨rfl,h0⟩ | h:=A00 h
  ·cases h0;exact ok23
  obtain ⟨rfl,h0⟩ | h:=A00 h
  ·cases h0;exact ok24
  obtain ⟨rfl,h0⟩ | h:=A00 h
  ·cases h0;exact ok25
  obtain ⟨_,h0⟩ | h:=A00 h
  ·cases h0
  obtain ⟨rfl,h0⟩ | h:=A00 h
  ·cases h0;exact ok31
  obtain ⟨rfl,h0⟩ | h:=A00 h
  ·cases h0;exact ok37
  obtain ⟨rfl,h0⟩ | h:=A00 h
  ·cases h0;exact ok38
  obtain ⟨rfl,h0⟩ | h:=A00 h
  ·cases h0;exact ok39
  obtain ⟨rfl,h0⟩ | h:=A00 h
  ·cases h0;exact ok40
  obtain ⟨rfl,h0⟩ | h:=A00 h
  ·cases h0;exact ok41
  obtain ⟨rfl,h0⟩ | h:=A00 h
  ·cases h0;exact ok42
  obtain ⟨rfl,h0⟩ | h:=A00 h
  ·cases h0;exact ok43
  obtain ⟨rfl,h0⟩ | h:=A00 h
  ·cases h0;exact ok44
  obtain ⟨rfl,h0⟩ | h:=A00 h
  ·cases h0;exact ok45
  obtain ⟨rfl,h0⟩ | h:=A00 h
  ·cases h0;exact ok46
  obtain ⟨rfl,h0⟩ | h:=A00 h
  ·cases h0;exact ok47
  obtain ⟨rfl,h0⟩ | h:=A00 h
  ·cases h0;exact ok48
  obtain ⟨rfl,h0⟩ | h:=A00 h
  ·cases h0;exact ok49
  obtain ⟨rfl,h0⟩ | h:=A00 h
  ·cases h0;exact ok50
  obtain ⟨rfl,h0⟩ | h:=A00 h
  ·cases h0;exact ok51
  obtain ⟨rfl,h0⟩ | h:=A00 h
  ·cases h0;exact ok52
  obtain ⟨rfl,h0⟩ | h:=A00 h
  ·cases h0;exact ok53
  obtain ⟨rfl,h0⟩ | h:=A00 h
  ·cases h0;exact ok54
  obtain ⟨rfl,h0⟩ | h:=A00 h
  ·cases h0;exact ok55
  obtain ⟨rfl,h0⟩ | h:=A00 h
  ·cases h0;exact ok56
  obtain ⟨rfl,h0⟩ | h:=A00 h
  ·cases h0;exact ok57
  obtain ⟨rfl,h0⟩ | h:=A00 h
  ·cases h0;exact ok58
  obtain ⟨rfl,h0⟩ | h:=A00 h
  ·cases h0;exact ok59
  obtain ⟨rfl,h0⟩ | h:=A00 h
  ·cases h0;exact ok60
  obtain ⟨rfl,h0⟩ | h:=A00 h
  ·cases h0;exact ok61
  obtain ⟨rfl,h0⟩ | h:=A00 h
  ·cases h0;exact ok62
  obtain ⟨rfl,h0⟩ | h:=A00 h
  ·cases h0;exact ok66
  obtain ⟨rfl,h0⟩ | h:=A00 h
  ·cases h0;exact ok67
  obtain ⟨rfl,h0⟩ | h:=A00 h
  ·cases h0;exact ok71
  obtain ⟨rfl,h0⟩ | h:=A00 h
  ·cases h0;exact ok72
  obtain ⟨rfl,h0⟩ | h:=A00 h
  ·cases h0;exact ok73
  obtain ⟨rfl,h0⟩ | h:=A00 h
  ·cases h0;exact ok74
  obtain ⟨rfl,h0⟩ | h:=A00 h
  ·cases h0;exact ok75
  obtain ⟨rfl,h0⟩ | h:=A00 h
  ·cases h0;exact ok76
  obtain ⟨rfl,h0⟩ | h:=A00 h
  ·cases h0;exact ok77
  obtain ⟨rfl,h0⟩ | h:=A00 h
  ·cases h0;exact ok78
  obtain ⟨rfl,h0⟩ | h:=A00 h
  ·cases h0;exact ok79
  obtain ⟨rfl,h0⟩ | h:=A00 h
  ·cases h0;exact ok80
  obtain ⟨rfl,h0⟩ | h:=A00 h
  ·cases h0;exact ok81
  obtain ⟨rfl,h0⟩ | h:=A00 h
  ·cases h0;exact ok82
  obtain ⟨rfl,h0⟩ | h:=A00 h
  ·cases h0;exact ok83
  obtain ⟨rfl,h0⟩ | h:=A00 h
  ·cases h0;exact ok84
  obtain ⟨rfl,h0⟩ | h:=A00 h
  ·cases h0;exact ok85
  obtain ⟨rfl,h0⟩ | h:=A00 h
  ·cases h0;exact ok86
  obtain ⟨rfl,h0⟩ | h:=A00 h
  ·cases h0;exact ok87
  obtain ⟨rfl,h0⟩ | h:=A00 h
  ·cases h0;exact ok88
  obtain ⟨rfl,h0⟩ | h:=A00 h
  ·cases h0;exact ok89
  obtain ⟨rfl,h0⟩ | h:=A00 h
  ·cases h0;exact ok90
  obtain ⟨rfl,h0⟩ | h:=A00 h
  ·cases h0;exact ok91
  obtain ⟨rfl,h0⟩ | h:=A00 h
  ·cases h0;exact ok92
  obtain ⟨rfl,h0⟩ | h:=A00 h
  ·cases h0;exact ok93
  obtain ⟨rfl,h0⟩ | h:=A00 h
  ·cases h0;exact ok94
  obtain ⟨rfl,h0⟩ | h:=A00 h
  ·cases h0;exact ok95
  obtain ⟨rfl,h0⟩ | h:=A00 h
  ·cases h0;exact ok96
  obtain ⟨rfl,h0⟩ | h:=A00 h
  ·cases h0;exact ok97
  obtain ⟨rfl,h0⟩ | h:=A00 h
  ·cases h0;exact ok98
  obtain ⟨rfl,h0⟩ | h:=A00 h
  ·cases h0;exact ok99
  obtain ⟨rfl,h0⟩ | h:=A00 h
  ·cases h0;exact B0h
  obtain ⟨rfl,h0⟩ | h:=A00 h
  ·cases h0;exact Aym
  obtain ⟨rfl,h0⟩ | h:=A00 h
  ·cases h0;exact Ayw
  obtain ⟨rfl,h0⟩ | h:=A00 h
  ·cases h0;exact Azq
  obtain ⟨rfl,h0⟩ | h:=A00 h
  ·cases h0;exact B14
  obtain ⟨rfl,h0⟩ | h:=A00 h
  ·cases h0;exact Azn
  obtain ⟨rfl,h0⟩ | h:=A00 h
  ·cases h0;exact B12
  obtain ⟨rfl,h0⟩ | h:=A00 h
  ·cases h0;exact B0e
  obtain ⟨rfl,h0⟩ | h:=A00 h
  ·cases h0;exact Ayd
  obtain ⟨rfl,h0⟩ | h:=A00 h
  ·cases h0;exact B1l
  obtain ⟨rfl,h0⟩ | h:=A00 h
  ·cases h0;exact B16
  obtain ⟨rfl,h0⟩ | h:=A00 h
  ·cases h0;exact Ayj
  obtain ⟨rfl,h0⟩ | h:=A00 h
  ·cases h0;exact Ay9
  obtain ⟨rfl,h0⟩ | h:=A00 h
  ·cases h0;exact B17
  obtain ⟨rfl,h0⟩ | h:=A00 h
  ·cases h0;exact Azw
  obtain ⟨rfl,h0⟩ | h:=A00 h
  ·cases h0;exact B00
  obtain ⟨rfl,h0⟩ | h:=A00 h
  ·cases h0;exact B0i
  obtain ⟨rfl,h0⟩ | h:=A00 h
  ·cases h0;exact B0y
  obtain ⟨rfl,h0⟩ | h:=A00 h
  ·cases h0;exact Ayu
  obtain ⟨rfl,h0⟩ | h:=A00 h
  ·cases h0;exact Azv
  obtain ⟨rfl,h0⟩ | h:=A00 h
  ·cases h0;exact Azi
  obtain ⟨rfl,h0⟩ | h:=A00 h
  ·cases h0;exact Az2
  obtain ⟨rfl,h0⟩ | h:=A00 h
  ·cases h0;exact Az4
  obtain ⟨rfl,h0⟩ | h:=A00 h
  ·cases h0;exact B01
  obtain ⟨rfl,h0⟩ | h:=A00 h
  ·cases h0;exact B0p
  obtain ⟨rfl,h0⟩ | h:=A00 h
  ·cases h0;exact B0s
  obtain ⟨rfl,h0⟩ | h:=A00 h
  ·cases h0;exact B0a
  obtain ⟨rfl,h0⟩ | h:=A00 h
  ·cases h0;exact Ay8
  obtain ⟨rfl,h0⟩ | h:=A00 h
  ·cases h0;exact B1d
  obtain ⟨rfl,h0⟩ | h:=A00 h
  ·cases h0;exact B07
  obtain ⟨rfl,h0⟩ | h:=A00 h
  ·cases h0;exact B1m
  obtain ⟨rfl,h0⟩ | h:=A00 h
  ·cases h0;exact B08
  obtain ⟨rfl,h0⟩ | h:=A00 h
  ·cases h0;exact Aza
  obtain ⟨rfl,h0⟩ | h:=A00 h
  ·cases h0;exact B0k
  obtain ⟨rfl,h0⟩ | h:=A00 h
  ·cases h0;exact Azs
  obtain ⟨rfl,h0⟩ | h:=A00 h
  ·cases h0;exact B1f
  obtain ⟨rfl,h0⟩ | h:=A00 h
  ·cases h0;exact B0t
  obtain ⟨rfl,h0⟩ | h:=A00 h
  ·cases h0;exact Az5
  obtain ⟨rfl,h0⟩ | h:=A00 h
  ·cases h0;exact B04
  obtain ⟨rfl,h0⟩ | h:=A00 h
  ·cases h0;exact Azk
  obtain ⟨rfl,h0⟩ | h:=A00 h
  ·cases h0;exact B0n
  obtain ⟨rfl,h0⟩ | h:=A00 h
  ·cases h0;exact Ayv
  obtain ⟨rfl,h0⟩ | h:=A00 h
  ·cases h0;exact Ayn
  obtain ⟨rfl,h0⟩ | h:=A00 h
  ·cases h0;exact Azd
  obtain ⟨rfl,h0⟩ | h:=A00 h
  ·cases h0;exact B18
  obtain ⟨rfl,h0⟩ | h:=A00 h
  ·cases h0;exact B1i
  obtain ⟨rfl,h0⟩ | h:=A00 h
  ·cases h0;exact B0f
  obtain ⟨rfl,h0⟩ | h:=A00 h
  ·cases h0;exact B0l
  obtain ⟨_,h0⟩ | h:=A00 h
  ·cases h0
  obtain ⟨_,h0⟩ | h:=A00 h
  ·cases h0
  obtain ⟨_,h0⟩ | h:=A00 h
  ·cases h0
  cases h
 ext:=by
  intro f d h
  obtain ⟨_,h0⟩ | h:=A00 h
  ·cases h0
  obtain ⟨_,h0⟩ | h:=A00 h
  ·cases h0
  obtain ⟨_,h0⟩ | h:=A00 h
  ·cases h0
  obtain ⟨_,h0⟩ | h:=A00 h
  ·cases h0
  obtain ⟨_,h0⟩ | h:=A00 h
  ·cases h0
  obtain ⟨_,h0⟩ | h:=A00 h
  ·cases h0
  obtain ⟨_,h0⟩ | h:=A00 h
  ·cases h0
  obtain ⟨_,h0⟩ | h:=A00 h
  ·cases h0
  obtain ⟨_,h0⟩ | h:=A00 h
  ·cases h0
  obtain ⟨_,h0⟩ | h:=A00 h
  ·cases h0
  obtain ⟨_,h0⟩ | h:=A00 h
  ·cases h0
  obtain ⟨_,h0⟩ | h:=A00 h
  ·cases h0
  obtain ⟨_,h0⟩ | h:=A00 h
  ·cases h0
  obtain ⟨_,h0⟩ | h:=A00 h
  ·cases h0
  obtain ⟨_,h0⟩ | h:=A00 h
  ·cases h0
  obtain ⟨_,h0⟩ | h:=A00 h
  ·cases h0
  obtain ⟨_,h0⟩ | h:=A00 h
  ·cases h0
  obtain ⟨_,h0⟩ | h:=A00 h
  ·cases h0
  obtain ⟨_,h0⟩ | h:=A00 h
  ·cases h0
  obtain ⟨_,h0⟩ | h:=A00 h
  ·cases h0
  obtain ⟨_,h0⟩ | h:=A00 h
  ·cases h0
  obtain ⟨_,h0⟩ | h:=A00 h
  ·cases h0
  obtain ⟨_,h0⟩ | h:=A00 h
  ·cases h0
  obtain ⟨_,h0⟩ | h:=A00 h
  ·cases h0
  obtain ⟨_,h0⟩ | h:=A00 h
  ·cases h0
  obtain ⟨_,h0⟩ | h:=A00 h
  ·cases h0
  obtain ⟨_,h0⟩ | h:=A00 h
  ·cases h0
  obtain ⟨_,h0⟩ | h:=A00 h
  ·cases h0
  obtain ⟨_,h0⟩ | h:=A00 h
  ·cases h0
  obtain ⟨_,h0⟩ | h:=A00 h
  ·cases h0
  obtain ⟨_,h0⟩ | h:=A00 h
  ·cases h0
  obtain ⟨_,h0⟩ | h:=A00 h
  ·cases h0
  obtain ⟨_,h0⟩ | h:=A00 h
  ·cases h0
  obtain ⟨_,h0⟩ | h:=A00 h
  ·cases h0
  obtain ⟨_,h0⟩ | h:=A00 h
  ·cases h0
  obtain ⟨_,h0⟩ | h:=A00 h
  ·cases h0
  obtain ⟨_,h0⟩ | h:=A00 h
  ·cases h0
  obtain ⟨_,h0⟩ | h:=A00 h
  ·cases h0
  obtain ⟨_,h0⟩ | h:=A00 h
  ·cases h0
  obtain ⟨_,h0⟩ | h:=A00 h
  ·cases h0
  obtain ⟨_,h0⟩ | h:=A00 h
  ·cases h0
  obtain ⟨_,h0⟩ | h:=A00 h
  ·cases h0
  obtain ⟨_,h0⟩ | h:=A00 h
  ·cases h0
  obtain ⟨_,h0⟩ | h:=A00 h
  ·cases h0
  obtain ⟨_,h0⟩ | h:=A00 h
  ·cases h0
  obtain ⟨_,h0⟩ | h:=A00 h
  ·cases h0
  obtain ⟨_,h0⟩ | h:=A00 h
  ·cases h0
  obtain ⟨_,h0⟩ | h:=A00 h
  ·cases h0
  obtain ⟨_,h0⟩ | h:=A00 h
  ·cases h0
  obtain ⟨_,h0⟩ | h:=A00 h
  ·cases h0
  obtain ⟨_,h0⟩ | h:=A00 h
  ·cases h0
  obtain ⟨_,h0⟩ | h:=A00 h
  ·cases h0
  obtain ⟨_,h0⟩ | h:=A00 h
  ·cases h0
  obtain ⟨_,h0⟩ | h:=A00 h
  ·cases h0
  obtain ⟨_,h0⟩ | h:=A00 h
  ·cases h0
  obtain ⟨_,h0⟩ | h:=A00 h
  ·cases h0
  obtain ⟨_,h0⟩ | h:=A00 h
  ·cases h0
  obtain ⟨_,h0⟩ | h:=A00 h
  ·cases h0
  obtain ⟨_,h0⟩ | h:=A00 h
  ·cases h0
  obtain ⟨_,h0⟩ | h:=A00 h
  ·cases h0
  obtain ⟨_,h0⟩ | h:=A00 h
  ·cases h0
  obtain ⟨_,h0⟩ | h:=A00 h
  ·cases h0
  obtain ⟨_,h0⟩ | h:=A00 h
  ·cases h0
  obtain ⟨_,h0⟩ | h:=A00 h
  ·cases h0
  obtain ⟨_,h0⟩ | h:=A00 h
  ·cases h0
  obtain ⟨_,h0⟩ | h:=A00 h
  ·cases h0
  obtain ⟨_,h0⟩ | h:=A00 h
  ·cases h0
  obtain ⟨_,h0⟩ | h:=A00 h
  ·cases h0
  obtain ⟨_,h0⟩ | h:=A00 h
  ·cases h0
  obtain ⟨_,h0⟩ | h:=A00 h
  ·cases h0
  obtain ⟨_,h0⟩ | h:=A00 h
  ·cases h0
  obtain ⟨_,h0⟩ | h:=A00 h
  ·cases h0
  obtain ⟨_,h0⟩ | h:=A00 h
  ·cases h0
  obtain ⟨_,h0⟩ | h:=A00 h
  ·cases h0
  obtain ⟨_,h0⟩ | h:=A00 h
  ·cases h0
  obtain ⟨_,h0⟩ | h:=A00 h
  ·cases h0
  obtain ⟨_,h0⟩ | h:=A00 h
  ·cases h0
  obtain ⟨_,h0⟩ | h:=A00 h
  ·cases h0
  obtain ⟨_,h0⟩ | h:=A00 h
  ·cases h0
  obtain ⟨_,h0⟩ | h:=A00 h
  ·cases h0
  obtain ⟨_,h0⟩ | h:=A00 h
  ·cases h0
  obtain ⟨_,h0⟩ | h:=A00 h
  ·cases h0
  obtain ⟨_,h0⟩ | h:=A00 h
  ·cases h0
  obtain ⟨_,h0⟩ | h:=A00 h
  ·cases h0
  obtain ⟨_,h0⟩ | h:=A00 h
  ·cases h0
  obtain ⟨_,h0⟩ | h:=A00 h
  ·cases h0
  obtain ⟨_,h0⟩ | h:=A00 h
  ·cases h0
  obtain ⟨_,h0⟩ | h:=A00 h
  ·cases h0
  obtain ⟨_,h0⟩ | h:=A00 h
  ·cases h0
  obtain ⟨_,h0⟩ | h:=A00 h
  ·cases h0
  obtain ⟨_,h0⟩ | h:=A00 h
  ·cases h0
  obtain ⟨_,h0⟩ | h:=A00 h
  ·cases h0
  obtain ⟨_,h0⟩ | h:=A00 h
  ·cases h0
  obtain ⟨_,h0⟩ | h:=A00 h
  ·cases h0
  obtain ⟨_,h0⟩ | h:=A00 h
  ·cases h0
  obtain ⟨_,h0⟩ | h:=A00 h
  ·cases h0
  obtain ⟨_,h0⟩ | h:=A00 h
  ·cases h0
  obtain ⟨_,h0⟩ | h:=A00 h
  ·cases h0
  obtain ⟨_,h0⟩ | h:=A00 h
  ·cases h0
  obtain ⟨_,h0⟩ | h:=A00 h
  ·cases h0
  obtain ⟨_,h0⟩ | h:=A00 h
  ·cases h0
  obtain ⟨_,h0⟩ | h:=A00 h
  ·cases h0
  obtain ⟨_,h0⟩ | h:=A00 h
  ·cases h0
  obtain ⟨_,h0⟩ | h:=A00 h
  ·cases h0
  obtain ⟨_,h0⟩ | h:=A00 h
  ·cases h0
  obtain ⟨_,h0⟩ | h:=A00 h
  ·cases h0
  obtain ⟨_,h0⟩ | h:=A00 h
  ·cases h0
  obtain ⟨_,h0⟩ | h:=A00 h
  ·cases h0
  obtain ⟨_,h0⟩ | h:=A00 h
  ·cases h0
  obtain ⟨_,h0⟩ | h:=A00 h
  ·cases h0
  obtain ⟨_,h0⟩ | h:=A00 h
  ·cases h0
  obtain ⟨_,h0⟩ | h:=A00 h
  ·cases h0
  obtain ⟨_,h0⟩ | h:=A00 h
  ·cases h0
  obtain ⟨_,h0⟩ | h:=A00 h
  ·cases h0
  obtain ⟨_,h0⟩ | h:=A00 h
  ·cases h0
  obtain ⟨_,h0⟩ | h:=A00 h
  ·cases h0
  obtain ⟨_,h0⟩ | h:=A00 h
  ·cases h0
  obtain ⟨_,h0⟩ | h:=A00 h
  ·cases h0
  obtain ⟨_,h0⟩ | h:=A00 h
  ·cases h0
  obtain ⟨_,h0⟩ | h:=A00 h
  ·cases h0
  obtain ⟨_,h0⟩ | h:=A00 h
  ·cases h0
  obtain ⟨_,h0⟩ | h:=A00 h
  ·cases h0
  obtain ⟨_,h0⟩ | h:=A00 h
  ·cases h0
  obtain ⟨_,h0⟩ | h:=A00 h
  ·cases h0
  obtain ⟨_,h0⟩ | h:=A00 h
  ·cases h0
  obtain ⟨_,h0⟩ | h:=A00 h
  ·cases h0
  obtain ⟨_,h0⟩ | h:=A00 h
  ·cases h0
  cases h
 ct:=by
  intro f d h
  obtain ⟨_,h0⟩ | h:=A00 h
  ·cases h0
  obtain ⟨_,h0⟩ | h:=A00 h
  ·cases h0
  obtain ⟨_,h0⟩ | h:=A00 h
  ·cases h0
  obtain ⟨_,h0⟩ | h:=A00 h
  ·cases h0
  obtain ⟨_,h0⟩ | h:=A00 h
  ·cases h0
  obtain ⟨_,h0⟩ | h:=A00 h
  ·cases h0
  obtain ⟨_,h0⟩ | h:=A00 h
  ·cases h0
  obtain ⟨_,h0⟩ | h:=A00 h
  ·cases h0
  obtain ⟨_,h0⟩ | h:=A00 h
  ·cases h0
  obtain ⟨_,h0⟩ | h:=A00 h
  ·cases h0
  obtain ⟨_,h0⟩ | h:=A00 h
  ·cases h0
  obtain ⟨_,h0⟩ | h:=A00 h
  ·cases h0
  obtain ⟨_,h0⟩ | h:=A00 h
  ·cases h0
  obtain ⟨_,h0⟩ | h:=A00 h
  ·cases h0
  obtain ⟨_,h0⟩ | h:=A00 h
  ·cases h0
  obtain ⟨_,h0⟩ | h:=A00 h
  ·cases h0
  obtain ⟨_,h0⟩ | h:=A00 h
  ·cases h0
  obtain ⟨_,h0⟩ | h:=A00 h
  ·cases h0
  obtain ⟨_,h0⟩ | h:=A00 h
  ·cases h0
  obtain ⟨_,h0⟩ | h:=A00 h
  ·cases h0
  obtain ⟨_,h0⟩ | h:=A00 h
  ·cases h0
  obtain ⟨_,h0⟩ | h:=A00 h
  ·cases h0
  obtain ⟨_,h0⟩ | h:=A00 h
  ·cases h0
  obtain ⟨_,h0⟩ | h:=A00 h
  ·cases h0
  obtain ⟨_,h0⟩ | h:=A00 h
  ·cases h0
  obtain ⟨_,h0⟩ | h:=A00 h
  ·cases h0
  obtain ⟨_,h0⟩ | h:=A00 h
  ·cases h0
  obtain ⟨_,h0⟩ | h:=A00 h
  ·cases h0
  obtain ⟨_,h0⟩ | h:=A00 h
  ·cases h0
  obtain ⟨_,h0⟩ | h:=A00 h
  ·cases h0
  obtain ⟨_,h0⟩ | h:=A00 h
  ·cases h0
  obtain ⟨_,h0⟩ | h:=A00 h
  ·cases h0
  obtain ⟨_,h0⟩ | h:=A00 h
  ·cases h0
  obtain ⟨_,h0⟩ | h:=A00 h
  ·cases h0
  obtain ⟨_,h0⟩ | h:=A00 h
  ·cases h0
  obtain ⟨_,h0⟩ | h:=A00 h
  ·cases h0
  obtain ⟨_,h0⟩ | h:=A00 h
  ·cases h0
  obtain ⟨_,h0⟩ | h:=A00 h
  ·cases h0
  obtain ⟨_,h0⟩ | h:=A00 h
  ·cases h0
  obtain ⟨_,h0⟩ | h:=A00 h
  ·cases h0
  obtain ⟨_,h0⟩ | h:=A00 h
  ·cases h0
  obtain ⟨_,h0⟩ | h:=A00 h
  ·cases h0
  obtain ⟨_,h0⟩ | h:=A00 h
  ·cases h0
  obtain ⟨_,h0⟩ | h:=A00 h
  ·cases h0
  obtain ⟨_,h0⟩ | h:=A00 h
  ·cases h0
  obtain ⟨_,h0⟩ | h:=A00 h
  ·cases h0
  obtain ⟨_,h0⟩ | h:=A00 h
  ·cases h0
  obtain ⟨_,h0⟩ | h:=A00 h
  ·cases h0
  obtain ⟨_,h0⟩ | h:=A00 h
  ·cases h0
  obtain ⟨_,h0⟩ | h:=A00 h
  ·cases h0
  obtain ⟨_,h0⟩ | h:=A00 h
  ·cases h0
  obtain ⟨_,h0⟩ | h:=A00 h
  ·cases h0
  obtain ⟨_,h0⟩ | h:=A00 h
  ·cases h0
  obtain ⟨_,h0⟩ | h:=A00 h
  ·cases h0
  obtain ⟨_,h0⟩ | h:=A00 h
  ·cases h0
  obtain ⟨_,h0⟩ | h:=A00 h
  ·cases h0
  obtain ⟨_,h0⟩ | h:=A00 h
  ·cases h0
  obtain ⟨_,h0⟩ | h:=A00 h
  ·cases h0
  obtain ⟨_,h0⟩ | h:=A00 h
  ·cases h0
  obtain ⟨_,h0⟩ | h:=A00 h
  ·cases h0
  obtain ⟨_,h0⟩ | h:=A00 h
  ·cases h0
  obtain ⟨_,h0⟩ | h:=A00 h
  ·cases h0
  obtain ⟨_,h0⟩ | h:=A00 h
  ·cases h0
  obtain ⟨_,h0⟩ | h:=A00 h
  ·cases h0
  obtain ⟨_,h0⟩ | h:=A00 h
  ·cases h0
  obtain ⟨_,h0⟩ | h:=A00 h
  ·cases h0
  obtain ⟨_,h0⟩ | h:=A00 h
  ·cases h0
  obtain ⟨_,h0⟩ | h:=A00 h
  ·cases h0
  obtain ⟨_,h0⟩ | h:=A00 h
  ·cases h0
  obtain ⟨_,h0⟩ | h:=A00 h
  ·cases h0
  obtain ⟨_,h0⟩ | h:=A00 h
  ·cases h0
  obtain ⟨_,h0⟩ | h:=A00 h
  ·cases h0
  obtain ⟨_,h0⟩ | h:=A00 h
  ·cases h0
  obtain ⟨_,h0⟩ | h:=A00 h
  ·cases h0
  obtain ⟨_,h0⟩ | h:=A00 h
  ·cases h0
  obtain ⟨_,h0⟩ | h:=A00 h
  ·cases h0
  obtain ⟨_,h0⟩ | h:=A00 h
  ·cases h0
  obtain ⟨_,h0⟩ | h:=A00 h
  ·cases h0
  obtain ⟨_,h0⟩ | h:=A00 h
  ·cases h0
  obtain ⟨_,h0⟩ | h:=A00 h
  ·cases h0
  obtain ⟨_,h0⟩ | h:=A00 h
  ·cases h0
  obtain ⟨_,h0⟩ | h:=A00 h
  ·cases h0
  obtain ⟨_,h0⟩ | h:=A00 h
  ·cases h0
  obtain ⟨_,h0⟩ | h:=A00 h
  ·cases h0
  obtain ⟨_,h0⟩ | h:=A00 h
  ·cases h0
  obtain ⟨_,h0⟩ | h:=A00 h
  ·cases h0
  obtain ⟨_,h0⟩ | h:=A00 h
  ·cases h0
  obtain ⟨_,h0⟩ | h:=A00 h
  ·cases h0
  obtain ⟨_,h0⟩ | h:=A00 h
  ·cases h0
  obtain ⟨_,h0⟩ | h:=A00 h
  ·cases h0
  obtain ⟨_,h0⟩ | h:=A00 h
  ·cases h0
  obtain ⟨_,h0⟩ | h:=A00 h
  ·cases h0
  obtain ⟨_,h0⟩ | h:=A00 h
  ·cases h0
  obtain ⟨_,h0⟩ | h:=A00 h
  ·cases h0
  obtain ⟨_,h0⟩ | h:=A00 h
  ·cases h0
  obtain ⟨_,h0⟩ | h:=A00 h
  ·cases h0
  obtain ⟨_,h0⟩ | h:=A00 h
  ·cases h0
  obtain ⟨_,h0⟩ | h:=A00 h
  ·cases h0
  obtain ⟨_,h0⟩ | h:=A00 h
  ·cases h0
  obtain ⟨_,h0⟩ | h:=A00 h
  ·cases h0
  obtain ⟨_,h0⟩ | h:=A00 h
  ·cases h0
  obtain ⟨_,h0⟩ | h:=A00 h
  ·cases h0
  obtain ⟨_,h0⟩ | h:=A00 h
  ·cases h0
  obtain ⟨_,h0⟩ | h:=A00 h
  ·cases h0
  obtain ⟨_,h0⟩ | h:=A00 h
  ·cases h0
  obtain ⟨_,h0⟩ | h:=A00 h
  ·cases h0
  obtain ⟨_,h0⟩ | h:=A00 h
  ·cases h0
  obtain ⟨_,h0⟩ | h:=A00 h
  ·cases h0
  obtain ⟨_,h0⟩ | h:=A00 h
  ·cases h0
  obtain ⟨_,h0⟩ | h:=A00 h
  ·cases h0
  obtain ⟨_,h0⟩ | h:=A00 h
  ·cases h0
  obtain ⟨_,h0⟩ | h:=A00 h
  ·cases h0
  obtain ⟨_,h0⟩ | h:=A00 h
  ·cases h0
  obtain ⟨_,h0⟩ | h:=A00 h
  ·cases h0
  obtain ⟨_,h0⟩ | h:=A00 h
  ·cases h0
  obtain ⟨_,h0⟩ | h:=A00 h
  ·cases h0
  obtain ⟨_,h0⟩ | h:=A00 h
  ·cases h0
  obtain ⟨_,h0⟩ | h:=A00 h
  ·cases h0
  obtain ⟨_,h0⟩ | h:=A00 h
  ·cases h0
  obtain ⟨_,h0⟩ | h:=A00 h
  ·cases h0
  obtain ⟨_,h0⟩ | h:=A00 h
  ·cases h0
  obtain ⟨_,h0⟩ | h:=A00 h
  ·cases h0
  obtain ⟨_,h0⟩ | h:=A00 h
  ·cases h0
  obtain ⟨_,h0⟩ | h:=A00 h
  ·cases h0
  obtain ⟨_,h0⟩ | h:=A00 h
  ·cases h0
  obtain ⟨_,h0⟩ | h:=A00 h
  ·cases h0
  obtain ⟨_,h0⟩ | h:=A00 h
  ·cases h0
  cases h
 mr:=by
  intro f d h
  obtain ⟨_,h0⟩ | h:=A00 h
  ·cases h0
  obtain ⟨_,h0⟩ | h:=A00 h
  ·cases h0
  obtain ⟨_,h0⟩ | h:=A00 h
  ·cases h0
  obtain ⟨_,h0⟩ | h:=A00 h
  ·cases h0
  obtain ⟨_,h0⟩ | h:=A00 h
  ·cases h0
  obtain ⟨_,h0⟩ | h:=A00 h
  ·cases h0
  obtain ⟨_,h0⟩ | h:=A00 h
  ·cases h0
  obtain ⟨_,h0⟩ | h:=A00 h
  ·cases h0
  obtain ⟨_,h0⟩ | h:=A00 h
  ·cases h0
  obtain ⟨_,h0⟩ | h:=A00 h
  ·cases h0
  obtain ⟨_,h0⟩ | h:=A00 h
  ·cases h0
  obtain ⟨_,h0⟩ | h:=A00 h
  ·cases h0
  obtain ⟨_,h0⟩ | h:=A00 h
  ·cases h0
  obtain ⟨_,h0⟩ | h:=A00 h
  ·cases h0
  obtain ⟨_,h0⟩ | h:=A00 h
  ·cases h0
  obtain ⟨_,h0⟩ | h:=A00 h
  ·cases h0
  obtain ⟨_,h0⟩ | h:=A00 h
  ·cases h0
  obtain ⟨rfl,h0⟩ | h:=A00 h
  ·cases h0;exact ok27
  obtain ⟨_,h0⟩ | h:=A00 h
  ·cases h0
  obtain ⟨_,h0⟩ | h:=A00 h
  ·cases h0
  obtain ⟨_,h0⟩ | h:=A00 h
  ·cases h0
  obtain ⟨_,h0⟩ | h:=A00 h
  ·cases h0
  obtain ⟨_,h0⟩ | h:=A00 h
  ·cases h0
  obtain ⟨_,h0⟩ | h:=A00 h
  ·cases h0
  obtain ⟨_,h0⟩ | h:=A00 h
  ·cases h0
  obtain ⟨_,h0⟩ | h:=A00 h
  ·cases h0
  obtain ⟨_,h0⟩ | h:=A00 h
  ·cases h0
  obtain ⟨_,h0⟩ | h:=A00 h
  ·cases h0
  obtain ⟨_,h0⟩ | h:=A00 h
  ·cases h0
  obtain ⟨_,h0⟩ | h:=A00 h
  ·cases h0
  obtain ⟨_,h0⟩ | h:=A00 h
  ·cases h0
  obtain ⟨_,h0⟩ | h:=A00 h
  ·cases h0
  obtain ⟨_,h0⟩ | h:=A00 h
  ·cases h0
  obtain ⟨_,h0⟩ | h:=A00 h
  ·cases h0
  obtain ⟨_,h0⟩ | h:=A00 h
  ·cases h0
  obtain ⟨_,h0⟩ | h:=A00 h
  ·cases h0
  obtain ⟨_,h0⟩ | h:=A00 h
  ·cases h0
  obtain ⟨_,h0⟩ | h:=A00 h
  ·cases h0
  obtain ⟨_,h0⟩ | h:=A00 h
  ·cases h0
  obtain ⟨_,h0⟩ | h:=A00 h
  ·cases h0
  obtain ⟨_,h0⟩ | h:=A00 h
  ·cases h0
  obtain ⟨_,h0⟩ | h:=A00 h
  ·cases h0
  obtain ⟨_,h0⟩ | h:=A00 h
  ·cases h0
  obtain ⟨_,h0⟩ | h:=A00 h
  ·cases h0
  obtain ⟨_,h0⟩ | h:=A00 h
  ·cases h0
  obtain ⟨_,h0⟩ | h:=A00 h
  ·cases h0
  obtain ⟨_,h0⟩ | h:=A00 h
  ·cases h0
  obtain ⟨_,h0⟩ | h:=A00 h
  ·cases h0
  obtain ⟨_,h0⟩ | h:=A00 h
  ·cases h0
  obtain ⟨_,h0⟩ | h:=A00 h
  ·cases h0
  obtain ⟨_,h0⟩ | h:=A00 h
  ·cases h0
  obtain ⟨_,h0⟩ | h:=A00 h
  ·cases h0
  obtain ⟨_,h0⟩ | h:=A00 h
  ·cases h0
  obtain ⟨_,h0⟩ | h:=A00 h
  ·cases h0
  obtain ⟨_,h0⟩ | h:=A00 h
  ·cases h0
  obtain ⟨_,h0⟩ | h:=A00 h
  ·cases h0
  obtain ⟨_,h0⟩ | h:=A00 h
  ·cases h0
  obtain ⟨_,h0⟩ | h:=A00 h
  ·cases h0
  obtain ⟨_,h0⟩ | h:=A00 h
  ·cases h0
  obtain ⟨_,h0⟩ | h:=A00 h
  ·cases h0
  obtain ⟨_,h0⟩ | h:=A00 h
  ·cases h0
  obtain ⟨_,h0⟩ | h:=A00 h
  ·cases h0
  obtain ⟨_,h0⟩ | h:=A00 h
  ·cases h0
  obtain ⟨_,h0⟩ | h:=A00 h
  ·cases h0
  obtain ⟨_,h0⟩ | h:=A00 h
  ·cases h0
  obtain ⟨_,h0⟩ | h:=A00 h
  ·cases h0
  obtain ⟨_,h0⟩ | h:=A00 h
  ·cases h0
  obtain ⟨_,h0⟩ | h:=A00 h
  ·cases h0
  obtain ⟨_,h0⟩ | h:=A00 h
  ·cases h0
  obtain ⟨_,h0⟩ | h:=A00 h
  ·cases h0
  obtain ⟨_,h0⟩ | h:=A00 h
  ·cases h0
  obtain ⟨_,h0⟩ | h:=A00 h
  ·cases h0
  obtain ⟨_,h0⟩ | h:=A00 h
  ·cases h0
  obtain ⟨_,h0⟩ | h:=A00 h
  ·cases h0
  obtain ⟨_,h0⟩ | h:=A00 h
  ·cases h0
  obtain ⟨_,h0⟩ | h:=A00 h
  ·cases h0
  obtain ⟨_,h0⟩ | h:=A00 h
  ·cases h0
  obtain ⟨_,h0⟩ | h:=A00 h
  ·cases h0
  obtain ⟨_,h0⟩ | h:=A00 h
  ·cases h0
  obtain ⟨_,h0⟩ | h:=A00 h
  ·cases h0
  obtain ⟨_,h0⟩ | h:=A00 h
  ·cases h0
  obtain ⟨_,h0⟩ | h:=A00 h
  ·cases h0
  obtain ⟨_,h0⟩ | h:=A00 h
  ·cases h0
  obtain ⟨_,h0⟩ | h:=A00 h
  ·cases h0
  obtain ⟨_,h0⟩ | h:=A00 h
  ·cases h0
  obtain ⟨_,h0⟩ | h:=A00 h
  ·cases h0
  obtain ⟨_,h0⟩ | h:=A00 h
  ·cases h0
  obtain ⟨_,h0⟩ | h:=A00 h
  ·cases h0
  obtain ⟨_,h0⟩ | h:=A00 h
  ·cases h0
  obtain ⟨_,h0⟩ | h:=A00 h
  ·cases h0
  obtain ⟨_,h0⟩ | h:=A00 h
  ·cases h0
  obtain ⟨_,h0⟩ | h:=A00 h
  ·cases h0
  obtain ⟨_,h0⟩ | h:=A00 h
  ·cases h0
  obtain ⟨_,h0⟩ | h:=A00 h
  ·cases h0
  obtain ⟨_,h0⟩ | h:=A00 h
  ·cases h0
  obtain ⟨_,h0⟩ | h:=A00 h
  ·cases h0
  obtain ⟨_,h0⟩ | h:=A00 h
  ·cases h0
  obtain ⟨_,h0⟩ | h:=A00 h
  ·cases h0
  obtain ⟨_,h0⟩ | h:=A00 h
  ·cases h0
  obtain ⟨_,h0⟩ | h:=A00 h
  ·cases h0
  obtain ⟨_,h0⟩ | h:=A00 h
  ·cases h0
  obtain ⟨_,h0⟩ | h:=A00 h
  ·cases h0
  obtain ⟨_,h0⟩ | h:=A00 h
  ·cases h0
  obtain ⟨_,h0⟩ | h:=A00 h
  ·cases h0
  obtain ⟨_,h0⟩ | h:=A00 h
  ·cases h0
  obtain ⟨_,h0⟩ | h:=A00 h
  ·cases h0
  obtain ⟨_,h0⟩ | h:=A00 h
  ·cases h0
  obtain ⟨_,h0⟩ | h:=A00 h
  ·cases h0
  obtain ⟨_,h0⟩ | h:=A00 h
  ·cases h0
  obtain ⟨_,h0⟩ | h:=A00 h
  ·cases h0
  obtain ⟨_,h0⟩ | h:=A00 h
  ·cases h0
  obtain ⟨_,h0⟩ | h:=A00 h
  ·cases h0
  obtain ⟨_,h0⟩ | h:=A00 h
  ·cases h0
  obtain ⟨_,h0⟩ | h:=A00 h
  ·cases h0
  obtain ⟨_,h0⟩ | h:=A00 h
  ·cases h0
  obtain ⟨_,h0⟩ | h:=A00 h
  ·cases h0
  obtain ⟨_,h0⟩ | h:=A00 h
  ·cases h0
  obtain ⟨_,h0⟩ | h:=A00 h
  ·cases h0
  obtain ⟨_,h0⟩ | h:=A00 h
  ·cases h0
  obtain ⟨_,h0⟩ | h:=A00 h
  ·cases h0
  obtain ⟨_,h0⟩ | h:=A00 h
  ·cases h0
  obtain ⟨_,h0⟩ | h:=A00 h
  ·cases h0
  obtain ⟨_,h0⟩ | h:=A00 h
  ·cases h0
  obtain ⟨_,h0⟩ | h:=A00 h
  ·cases h0
  obtain ⟨_,h0⟩ | h:=A00 h
  ·cases h0
  obtain ⟨_,h0⟩ | h:=A00 h
  ·cases h0
  obtain ⟨_,h0⟩ | h:=A00 h
  ·cases h0
  cases h
 mix:=mix
 rk:=fun f r ct=>At1 (s:=sys0) (t:=sys) rfl
theorem tg3:tget T 3=some (.fn c3):=by rfl
theorem tg9:tget T 9=some (.fn c9):=by rfl
theorem tg10:tget T 10=some (.fn c10):=by rfl
theorem tg11:tget T 11=some (.fn c11):=by rfl
theorem tg12:tget T 12=some (.fn c12):=by rfl
theorem tg13:tget T 13=some (.fn c13):=by rfl
theorem tg14:tget T 14=some (.fn c14):=by rfl
theorem tg15:tget T 15=some (.fn c15):=by rfl
theorem tg16:tget T 16=some (.fn c16):=by rfl
theorem tg17:tget T 17=some (.fn c17):=by rfl
theorem tg18:tget T 18=some (.fn c18):=by rfl
theorem tg20:tget T 20=some (.fn c20):=by rfl
theorem tg21:tget T 21=some (.fn c21):=by rfl
theorem tg22:tget T 22=some (.fn c22):=by rfl
theorem tg23:tget T 23=some (.fn c23):=by rfl
theorem tg24:tget T 24=some (.fn c24):=by rfl
theorem tg25:tget T 25=some (.fn c25):=by rfl
theorem tg27:tget T 27=some (.mr c27):=by rfl
theorem tg31:tget T 31=some (.fn c31):=by rfl
theorem tg37:tget T 37=some (.fn c37):=by rfl
theorem tg38:tget T 38=some (.fn c38):=by rfl
theorem tg39:tget T 39=some (.fn c39):=by rfl
theorem tg40:tget T 40=some (.fn c40):=by rfl
theorem tg41:tget T 41=some (.fn c41):=by rfl
theorem tg42:tget T 42=some (.fn c42):=by rfl
theorem tg43:tget T 43=some (.fn c43):=by rfl
theorem tg44:tget T 44=some (.fn c44):=by rfl
theorem tg45:tget T 45=some (.fn c45):=by rfl
theorem tg46:tget T 46=some (.fn c46):=by rfl
theorem tg47:tget T 47=some (.fn c47):=by rfl
theorem tg48:tget T 48=some (.fn c48):=by rfl
theorem tg49:tget T 49=some (.fn c49):=by rfl
theorem tg50:tget T 50=some (.fn c50):=by rfl
theorem tg51:tget T 51=some (.fn c51):=by rfl
theorem tg52:tget T 52=some (.fn c52):=by rfl
theorem tg53:tget T 53=some (.fn c53):=by rfl
theorem tg54:tget T 54=some (.fn c54):=by rfl
theorem tg55:tget T 55=some (.fn c55):=by rfl
theorem tg56:tget T 56=some (.fn c56):=by rfl
theorem tg57:tget T 57=some (.fn c57):=by rfl
theorem tg58:tget T 58=some (.fn c58):=by rfl
theorem tg59:tget T 59=some (.fn c59):=by rfl
theorem tg60:tget T 60=some (.fn c60):=by rfl
theorem tg61:tget T 61=some (.fn c61):=by rfl
theorem tg62:tget T 62=some (.fn c62):=by rfl
theorem tg66:tget T 66=some (.fn c66):=by rfl
theorem tg67:tget T 67=some (.fn c67):=by rfl
theorem tg71:tget T 71=some (.fn c71):=by rfl
theorem tg72:tget T 72=some (.fn c72):=by rfl
theorem tg73:tget T 73=some (.fn c73):=by rfl
theorem tg74:tget T 74=some (.fn c74):=by rfl
theorem tg75:tget T 75=some (.fn c75):=by rfl
theorem tg76:tget T 76=some (.fn c76):=by rfl
theorem tg77:tget T 77=some (.fn c77):=by rfl
theorem tg78:tget T 78=some (.fn c78):=by rfl
theorem tg79:tget T 79=some (.fn c79):=by rfl
theorem tg80:tget T 80=some (.fn c80):=by rfl
theorem tg81:tget T 81=some (.fn c81):=by rfl
theorem tg82:tget T 82=some (.fn c82):=by rfl
theorem tg83:tget T 83=some (.fn c83):=by rfl
theorem tg84:tget T 84=some (.fn c84):=by rfl
theorem tg85:tget T 85=some (.fn c85):=by rfl
theorem tg86:tget T 86=some (.fn c86):=by rfl
theorem tg87:tget T 87=some (.fn c87):=by rfl
theorem tg88:tget T 88=some (.fn c88):=by rfl
theorem tg89:tget T 89=some (.fn c89):=by rfl
theorem tg90:tget T 90=some (.fn c90):=by rfl
theorem tg91:tget T 91=some (.fn c91):=by rfl
theorem tg92:tget T 92=some (.fn c92):=by rfl
theorem tg93:tget T 93=some (.fn c93):=by rfl
theorem tg94:tget T 94=some (.fn c94):=by rfl
theorem tg95:tget T 95=some (.fn c95):=by rfl
theorem tg96:tget T 96=some (.fn c96):=by rfl
theorem tg97:tget T 97=some (.fn c97):=by rfl
theorem tg98:tget T 98=some (.fn c98):=by rfl
theorem tg99:tget T 99=some (.fn c99):=by rfl
theorem B15:tget T 100=some (.fn c100):=by rfl
theorem B1b:tget T 101=some (.fn c101):=by rfl
theorem B0r:tget T 102=some (.fn c102):=by rfl
theorem Ay7:tget T 103=some (.fn c103):=by rfl
theorem Azh:tget T 104=some (.fn c104):=by rfl
theorem B1n:tget T 105=some (.fn c105):=by rfl
theorem Ayk:tget T 106=some (.fn c106):=by rfl
theorem Ayx:tget T 116=some (.fn c116):=by rfl
theorem B0o:tget T 117=some (.fn c117):=by rfl
theorem B05:tget T 118=some (.fn c118):=by rfl
theorem Ayh:tget T 119=some (.fn c119):=by rfl
theorem Ayl:tget T 121=some (.fn c121):=by rfl
theorem Azt:tget T 122=some (.fn c122):=by rfl
theorem Ayt:tget T 123=some (.fn c123):=by rfl
theorem B1g:tget T 124=some (.fn c124):=by rfl
theorem Azu:tget T 125=some (.fn c125):=by rfl
theorem Az9:tget T 126=some (.fn c126):=by rfl
theorem B0x:tget T 127=some (.fn c127):=by rfl
theorem B1e:tget T 128=some (.fn c128):=by rfl
theorem B10:tget T 129=some (.fn c129):=by rfl
theorem B09:tget T 130=some (.fn c130):=by rfl
theorem B0j:tget T 131=some (.fn c131):=by rfl
theorem B0z:tget T 132=some (.fn c132):=by rfl
theorem B0q:tget T 133=some (.fn c133):=by rfl
theorem B0m:tget T 134=some (.fn c134):=by rfl
theorem Aya:tget T 135=some (.fn c135):=by rfl
theorem Azf:tget T 136=some (.fn c136):=by rfl
theorem Azz:tget T 137=some (.fn c137):=by rfl
theorem Azx:tget T 138=some (.fn c138):=by rfl
theorem Azg:tget T 139=some (.fn c139):=by rfl
theorem B03:tget T 140=some (.fn c140):=by rfl
theorem Az7:tget T 141=some (.fn c141):=by rfl
theorem B0v:tget T 142=some (.fn c142):=by rfl
theorem B0c:tget T 143=some (.fn c143):=by rfl
theorem B1c:tget T 149=some (.fn c149):=by rfl
theorem Azl:tget T 153=some (.fn c153):=by rfl
theorem Azm:tget T 154=some (.fn c154):=by rfl
theorem Ayg:tget T 155=some (.fn c155):=by rfl
theorem B0g:tget T 156=some (.fn c156):=by rfl
theorem Azo:tget T 157=some (.fn c157):=by rfl
theorem Ayc:tget T 158=some (.fn c158):=by rfl
theorem Azc:tget T 159=some (.fn c159):=by rfl
theorem Azy:tget T 160=some (.fn c160):=by rfl
theorem B1k:tget T 161=some (.fn c161):=by rfl
theorem Aze:tget T 169=some (.fn c169):=by rfl
theorem B0d:tget T 170=some (.fn c170):=by rfl
theorem An8:tget T 1003100=some (.rd Ac8):=by rfl
theorem Al6:tget T 1003800=some (.rd Abg):=by rfl
theorem Ale:tget T 1006200=some (.rd Ab9):=by rfl
theorem d_SV {P:Prop} (h:P:=by first|omega|(simp only[EVL]<;>omega)|(simp only[A0n,Nat.reduceEqDiff,↓reduceIte];done)|assumption|(simp (disch:=omega) only[A06,A0a,A04, *];done)|(simp only [TL];done)|with_unfolding_all rfl):P:=h
theorem Aj8 {α β:Type} (f id b0:Nat) (caps:List FV) (g:α→Te→α ⊕ β) (P:α→Heap→Prop) (Q:β→Heap→Prop) (hP:Asv b0 P) (e:Bool) (l:List Te) (hlen:l.length ≤ 1000000)
  (ih:∀ t ∈ l,∀ a h nx,b0 ≤ nx→P a h→∃ r,lim T 117 [.agg [.int .u8 (t).k,.int .i64 (t).w,.int .u64 (t).b,.str (t).s,.int .i64 (t).lo,.lst (t).e ((t).l.map tV)],.yl f id caps] h nx=some r∧ResR b0 h nx P Q r (A20 g a (A0k t))):∀ (k i:Nat) (a:α) (h:Heap) (nx:Nat),i + k=l.length→b0 ≤ nx→P a h →
  @Ok Out (runs T [.code b117_0,.inL none b117_0,.inB 0,.code k117_1] [(1,.yl f id caps),(12,.lst e (l.map tV)),(13,.int .i64 l.length),(14,.int .i64 i)] h nx)
   ⟨fun x=>@Ok FV (finV c117.res x) ⟨fun v=>ResR b0 h nx P Q (v,x.2.2.1,x.2.2.2) (A20 g a (A26 (l.drop i)))⟩⟩:=by
 intro k
 induction k with
 |zero =>
  intro i a h nx hi hb hp
  have:¬ (i:Int) < l.length:=by omega
  simp (disch:=first | exact d_SV | fail) only [unf b117_0.eq_1,unf k117_1.eq_1,c117,this,TL,EVS,Nat.reduceAdd,Nat.reduceSub,Int.reduceToNat,Nat.reduceMul,Nat.reduceEqDiff,Nat.reduceLeDiff,Int.reduceEq,Int.reduceLT,Int.reduceLE,↓reduceIte]
  rw [List.drop_eq_nil_of_le (by omega)]
  exact ⟨rfl,hp,Fr.up (by dsimp only;omega) fun _ _=>rfl⟩
 |succ k ihk =>
  intro i a h nx hi hb hp
  have:(i:Int) < l.length:=by omega
  simp (disch:=first | exact d_SV | fail) only [unf b117_0.eq_1,c117,this,TL,EVS,Nat.reduceAdd,Nat.reduceSub,Int.reduceToNat,Nat.reduceMul,Nat.reduceEqDiff,Nat.reduceLeDiff,Int.reduceEq,Int.reduceLT,Int.reduceLE,↓reduceIte]
  rw [A6t (show i < l.length by omega),A28,Alc]
  refine A09 (ih _ (A0r (d:=default) (show i < l.length by omega)) a _ _ (by omega) (hP _ _ _ hp fun j hj=>?_)) fun r hr=>?_
  ·simp (disch:=omega) only [A06,A04]
  obtain ⟨v,h',nx'⟩:=r
  have hfr:∀ {s:α ⊕ β},ResR b0 ((nx + 1 + 1 + 1,Obj.row 6 [.agg [.int .u8 (l.getD i default).k,.int .i64 (l.getD i default).w,.int .u64 (l.getD i default).b,.str (l.getD i default).s,.int .i64 (l.getD i default).lo,.lst (l.getD i default).e ((l.getD i default).l.map tV)]])::h) (nx + 1 + 4 + 4) P Q (v,h',nx') s→Fr b0 h h' nx nx':=fun {s} hr=>by
   cases s with
   |inl a=>exact hr.2.2.ext (by omega) fun j hj=>A06 (by omega)
   |inr a=>exact hr.2.2.ext (by omega) fun j hj=>A06 (by omega)
  cases hg:A20 g a (A0k (l.getD i default)) with
  |inl a' =>
   rw [hg] at hr
   have hf:=hfr hr
   obtain ⟨rfl,hp',_⟩:=hr
   refine ⟨rfl,?_⟩
   simp (disch:=first | exact d_SV | fail) only [c117,EVS,Nat.reduceAdd,Nat.reduceSub,Int.reduceToNat,Nat.reduceMul,Nat.reduceEqDiff,Nat.reduceLeDiff,Int.reduceEq,Int.reduceLT,Int.reduceLE,↓reduceIte]
   exact A0c (A7a (ihk (i + 1) a' h' _ (by omega) (by have:=hf.1;omega) hp') fun _ _ hq=>hq.base (hf.trans (Fr.up (by omega) fun _ _=>rfl)))
  |inr b =>
   rw [hg] at hr
   have hf:=hfr hr
   obtain ⟨rfl,hp',_⟩:=hr
   refine ⟨rfl,?_⟩
   simp (disch:=first | exact d_SV | fail) only [c117,EVS,Nat.reduceAdd,Nat.reduceSub,Int.reduceToNat,Nat.reduceMul,Nat.reduceEqDiff,Nat.reduceLeDiff,Int.reduceEq,Int.reduceLT,Int.reduceLE,↓reduceIte]
   exact ⟨rfl,hp',hf.trans (Fr.up (by dsimp only;omega) fun _ _=>rfl)⟩
theorem Ain {α β:Type} (f id b0:Nat) (caps:List FV) (g:α→Te→α ⊕ β) (P:α→Heap→Prop) (Q:β→Heap→Prop) (hP:Asv b0 P) (t:Te) (hlen:size t ≤ 1000000)
  (step:∀ x ∈ A0k t,∀ a h nx,b0 ≤ nx→P a h→∃ r,lim T f [.yl f id caps,.agg [.int .u8 (x).k,.int .i64 (x).w,.int .u64 (x).b,.str (x).s,.int .i64 (x).lo,.lst (x).e ((x).l.map tV)]] h nx=some r∧ResR b0 h nx P Q r (g a x)):∀ a h nx,b0 ≤ nx→P a h →
  ∃ r,lim T 117 [.agg [.int .u8 (t).k,.int .i64 (t).w,.int .u64 (t).b,.str (t).s,.int .i64 (t).lo,.lst (t).e ((t).l.map tV)],.yl f id caps] h nx=some r∧ResR b0 h nx P Q r (A20 g a (A0k t)):=by
 induction t using Tm'.ind with
 |h t ih =>
 intro a h nx hb hp
 rw [Ab1 B0o rfl rfl]
 have hs:∀ x ∈ A26 t.l,x ∈ A0k t:=fun x hx=>by rw [A2y];exact List.mem_cons_of_mem _ hx
 have ih':∀ x ∈ t.l,∀ a h nx,b0 ≤ nx→P a h→∃ r,lim T 117 [.agg [.int .u8 (x).k,.int .i64 (x).w,.int .u64 (x).b,.str (x).s,.int .i64 (x).lo,.lst (x).e ((x).l.map tV)],.yl f id caps] h nx=some r∧ResR b0 h nx P Q r (A20 g a (A0k x)):=fun x hx =>
  ih x hx (by have:=A53 hx;omega) fun y hy=>step y (hs y (Aac hx hy))
 rw [A2y,A20]
 suffices hh:@Ok Out (runs T [.code c117.body] (params 0 [.agg [.int .u8 (t).k,.int .i64 (t).w,.int .u64 (t).b,.str (t).s,.int .i64 (t).lo,.lst (t).e ((t).l.map tV)],.yl f id caps]) h nx) ⟨fun x=>@Ok FV (finV c117.res x) ⟨fun v=>ResR b0 h nx P Q (v,x.2.2.1,x.2.2.2) (match g a t with | .inl a'=>A20 g a' (A26 t.l) | .inr b=>.inr b)⟩⟩ by
  obtain ⟨x,h1,v,h2,h3⟩:=hh
  exact ⟨(v,x.2.2.1,x.2.2.2),by rw [h1,A12,h2,A12],h3⟩
 simp (disch:=first | exact d_SV | fail) only [c117,EVS,Nat.reduceAdd,Nat.reduceSub,Int.reduceToNat,Nat.reduceMul,Nat.reduceEqDiff,Nat.reduceLeDiff,Int.reduceEq,Int.reduceLT,Int.reduceLE,↓reduceIte]
 refine A09 (step t (by rw [A2y];simp) a _ _ (by omega) (hP _ _ _ hp fun j hj=>?_)) fun r hr=>?_
 ·simp (disch:=omega) only [A06]
 obtain ⟨v,h',nx'⟩:=r
 have hfr:∀ {s:α ⊕ β},ResR b0 ((nx,Obj.row 6 [.agg [.int .u8 (t).k,.int .i64 (t).w,.int .u64 (t).b,.str (t).s,.int .i64 (t).lo,.lst (t).e ((t).l.map tV)]])::h) (nx + 2 + 4) P Q (v,h',nx') s→Fr b0 h h' nx nx'∧(b0 ≤ nx→hget h' nx=some (Obj.row 6 [.agg [.int .u8 (t).k,.int .i64 (t).w,.int .u64 (t).b,.str (t).s,.int .i64 (t).lo,.lst (t).e ((t).l.map tV)]])):=fun {s} hr=>by
  cases s with
  |inl a=>exact ⟨hr.2.2.ext (by omega) fun j hj=>A06 (by omega),fun hb=>(hr.2.2.2 nx hb (by omega)).trans A0a⟩
  |inr a=>exact ⟨hr.2.2.ext (by omega) fun j hj=>A06 (by omega),fun hb=>(hr.2.2.2 nx hb (by omega)).trans A0a⟩
 obtain ⟨hf,hgt⟩:=hfr hr
 have hgt:=hgt hb
 cases hg:g a t with
 |inl a' =>
  rw [hg] at hr
  obtain ⟨rfl,hp',_⟩:=hr
  refine ⟨rfl,?_⟩
  have hsz:=A3i t.l
  rw [size_eq] at hlen
  simp (disch:=first | exact d_SV | fail) only [c117,hgt,EVS,Nat.reduceAdd,Nat.reduceSub,Int.reduceToNat,Nat.reduceMul,Nat.reduceEqDiff,Nat.reduceLeDiff,Int.reduceEq,Int.reduceLT,Int.reduceLE,↓reduceIte]
  have hll:t.l.length ≤ 1000000:=by omega
  exact A7a (Aj8 f id b0 caps g P Q hP t.e t.l hll ih' t.l.length 0 a' h' _ (by omega) (by have:=hf.1;omega) hp') fun _ _ hq=>hq.base (hf.trans (Fr.up (by omega) fun _ _=>rfl))
 |inr b =>
  rw [hg] at hr
  obtain ⟨rfl,hp',_⟩:=hr
  refine ⟨rfl,?_⟩
  simp (disch:=first | exact d_SV | fail) only [c117,hgt,EVS,Nat.reduceAdd,Nat.reduceSub,Int.reduceToNat,Nat.reduceMul,Nat.reduceEqDiff,Nat.reduceLeDiff,Int.reduceEq,Int.reduceLT,Int.reduceLE,↓reduceIte]
  exact ⟨rfl,hp',hf.trans (Fr.up (by dsimp only;omega) fun _ _=>rfl)⟩
theorem A56 (t:Te):∀ h nx,lim T 71 [.agg [.int .u8 (t).k,.int .i64 (t).w,.int .u64 (t).b,.str (t).s,.int .i64 (t).lo,.lst (t).e ((t).l.map tV)]] h nx=some (.fn 116 [.eptr [.int .u8 t.k,.int .i64 t.w,.int .u64 t.b,.str t.s,.int .i64 t.lo,.lst t.e (t.l.map tV)] 0],h,nx):=by
 refine A05 tg71 rfl rfl (by simp [pures,A0i,A2m]) ?_
 simp (disch:=first | exact d_SV | fail) only [c71,TL,Ahk A0a,EVS,Nat.reduceAdd,Nat.reduceSub,Int.reduceToNat,Nat.reduceMul,Nat.reduceEqDiff,Nat.reduceLeDiff,Int.reduceEq,Int.reduceLT,Int.reduceLE,↓reduceIte]
def ResW {α β:Type} (b0:Nat) (h:Heap) (nx:Nat) (P:α→Heap→Prop) (Q:β→Heap→Prop) (r:FV × Heap × Nat):α ⊕ β→Prop
 |.inl a=>r.1=.tup []∧P a r.2.1∧Fr b0 h r.2.1 nx r.2.2
 |.inr b=>r.1=.tup []∧Q b r.2.1∧Fr b0 h r.2.1 nx r.2.2
theorem A9f {α β:Type} (f id b0:Nat) (caps:List FV) (g:α→Te→α ⊕ β) (P:α→Heap→Prop) (Q:β→Heap→Prop) (hP:Asv b0 P) (t:Te) (hlen:size t ≤ 1000000)
  (step:∀ x ∈ A0k t,∀ a h nx,b0 ≤ nx→P a h→∃ r,lim T f [.yl f id caps,.agg [.int .u8 (x).k,.int .i64 (x).w,.int .u64 (x).b,.str (x).s,.int .i64 (x).lo,.lst (x).e ((x).l.map tV)]] h nx=some r∧ResR b0 h nx P Q r (g a x)):∀ a h nx,b0 ≤ nx→P a h →
  ∃ r,lim T 116 [.yl f id caps,.eptr [.int .u8 t.k,.int .i64 t.w,.int .u64 t.b,.str t.s,.int .i64 t.lo,.lst t.e (t.l.map tV)] 0] h nx=some r∧ResW b0 h nx P Q r (A20 g a (A0k t)):=by
 intro a h nx hb hp
 rw [Ab1 Ayx rfl rfl]
 suffices hh:@Ok Out (runs T [.code c116.body] (params 0 [.yl f id caps,.eptr [.int .u8 t.k,.int .i64 t.w,.int .u64 t.b,.str t.s,.int .i64 t.lo,.lst t.e (t.l.map tV)] 0]) h nx) ⟨fun x=>@Ok FV (finV c116.res x) ⟨fun v=>ResW b0 h nx P Q (v,x.2.2.1,x.2.2.2) (A20 g a (A0k t))⟩⟩ by
  obtain ⟨x,h1,v,h2,h3⟩:=hh
  exact ⟨(v,x.2.2.1,x.2.2.2),by rw [h1,A12,h2,A12],h3⟩
 simp (disch:=first | exact d_SV | fail) only [c116,EVS,Nat.reduceAdd,Nat.reduceSub,Int.reduceToNat,Nat.reduceMul,Nat.reduceEqDiff,Nat.reduceLeDiff,Int.reduceEq,Int.reduceLT,Int.reduceLE,↓reduceIte]
 refine A09 (Ain f id b0 caps g P Q hP t hlen step a _ _ (by omega) hp) fun r hr=>?_
 obtain ⟨v,h',nx'⟩:=r
 cases hg:A20 g a (A0k t) with
 |inl a' =>
  rw [hg] at hr
  obtain ⟨rfl,hp',hf⟩:=hr
  refine ⟨rfl,?_⟩
  simp (disch:=first | exact d_SV | fail) only [c116,EVS,Nat.reduceAdd,Nat.reduceSub,Int.reduceToNat,Nat.reduceMul,Nat.reduceEqDiff,Nat.reduceLeDiff,Int.reduceEq,Int.reduceLT,Int.reduceLE,↓reduceIte]
  exact ⟨rfl,hp',hf.ext (by omega) fun _ _=>rfl⟩
 |inr b =>
  rw [hg] at hr
  obtain ⟨rfl,hp',hf⟩:=hr
  refine ⟨rfl,?_⟩
  simp (disch:=first | exact d_SV | fail) only [c116,EVS,Nat.reduceAdd,Nat.reduceSub,Int.reduceToNat,Nat.reduceMul,Nat.reduceEqDiff,Nat.reduceLeDiff,Int.reduceEq,Int.reduceLT,Int.reduceLE,↓reduceIte]
  exact ⟨rfl,hp',hf.ext (by omega) fun _ _=>rfl⟩
theorem d_Q1 {P:Prop} (h:P:=by first|omega|(simp only[EVL]<;>omega)|(simp only[A0n,Nat.reduceEqDiff,↓reduceIte];done)|assumption|(simp (disch:=omega) only[A06,A0a,A04, *];done)|(simp only [A38];done)|with_unfolding_all rfl):P:=h
theorem A0h (p q:Bd):∀ h nx,lim T 67 [.agg [.str p.1,.int .i64 p.2,.int .u64 0],.agg [.str q.1,.int .i64 q.2,.int .u64 0]] h nx=some (.int .i64 (Go.Lib.compareBytes p.1 q.1),h,nx):=by
 have a:∀ h nx,lim T 73 [.str p.1,.str q.1] h nx=some (.int .i64 (Go.Lib.compareBytes p.1 q.1),h,nx):=by
  refine A05 tg73 rfl rfl rfl ?_
  simp (disch:=first | exact d_Q1 | fail) only [c73,EVS,Nat.reduceAdd,Nat.reduceSub,Int.reduceToNat,Nat.reduceMul,Nat.reduceEqDiff,Nat.reduceLeDiff,Int.reduceEq,Int.reduceLT,Int.reduceLE,↓reduceIte]
 have b:∀ h nx,lim T 43 [.str p.1,.str q.1] h nx=some (.int .i64 (Go.Lib.compareBytes p.1 q.1),h,nx):=by
  refine A05 tg43 rfl rfl rfl ?_
  simp (disch:=first | exact d_Q1 | fail) only [c43,a,EVS,Nat.reduceAdd,Nat.reduceSub,Int.reduceToNat,Nat.reduceMul,Nat.reduceEqDiff,Nat.reduceLeDiff,Int.reduceEq,Int.reduceLT,Int.reduceLE,↓reduceIte]
 refine A05 tg67 rfl rfl rfl ?_
 simp (disch:=first | exact d_Q1 | fail) only [c67,b,EVS,Nat.reduceAdd,Nat.reduceSub,Int.reduceToNat,Nat.reduceMul,Nat.reduceEqDiff,Nat.reduceLeDiff,Int.reduceEq,Int.reduceLT,Int.reduceLE,↓reduceIte]
theorem Ac6 (id n:Nat) (B I:Int) (a:Nat) (Q:Post Out):∀ (j:Nat) (d:Array Bd) (h:Heap) (nx:Nat),j < d.size→d.size=n→n ≤ 1000000→hget h id=some (rowB d) →
  (∀ h' nx' (j':Nat),nx ≤ nx'→RowR h id (Go.Sort.insInner ltB a j d) h'→@Ok Out (runs T [.code k136_1,.inL none b136_2,.inB 0] [(0,.sref 3 id n 0 n),(1,.int .i64 a),(2,.int .i64 B),(3,.fn 67 []),(8,.int .i64 I),(9,.int .i64 j'),(34,.bool false)] h' nx') Q) →
  @Ok Out (runs T [.code b136_0,.inL none b136_0,.inB 2,.inB 1,.code k136_1,.inL none b136_2,.inB 0] [(0,.sref 3 id n 0 n),(1,.int .i64 a),(2,.int .i64 B),(3,.fn 67 []),(8,.int .i64 I),(9,.int .i64 j)] h nx) Q:=by
 intro j
 induction j with
 |zero =>
  intro d h nx hj hn hN hr next
  have h1:decide ((a:Int) < ((0:Nat):Int))=false:=by simp
  simp (disch:=first | exact d_Q1 | fail) only [unf b136_0.eq_1,c136,h1,EVS,Nat.reduceAdd,Nat.reduceSub,Int.reduceToNat,Nat.reduceMul,Nat.reduceEqDiff,Nat.reduceLeDiff,Int.reduceEq,Int.reduceLT,Int.reduceLE,↓reduceIte]
  exact next _ _ 0 (by omega) (.refl hr)
 |succ j ih =>
  intro d h nx hj hn hN hr next
  have e1:((j + 1:Nat):Int) - 1=(j:Nat):=by omega
  by_cases ha:a < j + 1
  ·have h1:decide ((a:Int) < ((j + 1:Nat):Int))=true:=by simp;omega
   have hr':=hr
   rw [A1u] at hr'
   cases hb:ltB d[j + 1]! d[j]! with
   |false =>
    simp (disch:=first | exact d_Q1 | fail) only [unf b136_0.eq_1,c136,A0h,hr',SR,h1,e1,A1d,hb,EVS,Nat.reduceAdd,Nat.reduceSub,Int.reduceToNat,Nat.reduceMul,Nat.reduceEqDiff,Nat.reduceLeDiff,Int.reduceEq,Int.reduceLT,Int.reduceLE,↓reduceIte]
    exact next _ _ (j + 1) (by omega) (.refl (by rw [Go.Sort.insInner,if_neg (by simp [hb])];exact hr))
   |true =>
    simp (disch:=first | exact d_Q1 | fail) only [unf b136_0.eq_1,c136,A0h,hr',SR,h1,e1,A1d,hb,EVS,Nat.reduceAdd,Nat.reduceSub,Int.reduceToNat,Nat.reduceMul,Nat.reduceEqDiff,Nat.reduceLeDiff,Int.reduceEq,Int.reduceLT,Int.reduceLE,↓reduceIte]
    exact A0c (ih (Go.Sort.swp d (j + 1) j) _ _ (by rw [A1s];omega) (by rw [A1s];omega) hN (A0z hr) (fun h' nx' j' hn' hx=>next _ _ _ (by omega) (by rw [Go.Sort.insInner,if_pos (by simp [hb];omega)];exact (RowR.one hr).trans hx)))
  ·have h1:decide ((a:Int) < ((j + 1:Nat):Int))=false:=by simp;omega
   simp (disch:=first | exact d_Q1 | fail) only [unf b136_0.eq_1,c136,h1,EVS,Nat.reduceAdd,Nat.reduceSub,Int.reduceToNat,Nat.reduceMul,Nat.reduceEqDiff,Nat.reduceLeDiff,Int.reduceEq,Int.reduceLT,Int.reduceLE,↓reduceIte]
   exact next _ _ (j + 1) (by omega) ⟨by rw [Go.Sort.insInner,if_neg (by simp;omega)];exact hr,fun _ _=>rfl⟩
theorem Aau (id n a b:Nat) (hb:b ≤ n) (hN:n ≤ 1000000):∀ (k i:Nat) (d:Array Bd) (h:Heap) (nx:Nat),b ≤ i + k→d.size=n→hget h id=some (rowB d) →
  @Ok Out (runs T [.code b136_2,.inL none b136_2,.inB 0] [(0,.sref 3 id n 0 n),(1,.int .i64 a),(2,.int .i64 b),(3,.fn 67 []),(8,.int .i64 i)] h nx)
   ⟨fun x=>@Ok FV (finV c136.res x) ⟨fun v=>v=.tup []∧RowR h id (Go.Sort.insOuter ltB a b i d) x.2.2.1∧nx ≤ x.2.2.2⟩⟩:=by
 intro k
 induction k with
 |zero =>
  intro i d h nx hi hn hr
  have h1:decide ((i:Int) < (b:Int))=false:=by simp;omega
  simp (disch:=first | exact d_Q1 | fail) only [unf b136_2.eq_1,c136,h1,EVS,Nat.reduceAdd,Nat.reduceSub,Int.reduceToNat,Nat.reduceMul,Nat.reduceEqDiff,Nat.reduceLeDiff,Int.reduceEq,Int.reduceLT,Int.reduceLE,↓reduceIte]
  exact ⟨rfl,.refl (by rw [Go.Sort.insOuter,if_neg (by omega)];exact hr),by omega⟩
 |succ k ih =>
  intro i d h nx hi hn hr
  by_cases hib:i < b
  ·have h1:decide ((i:Int) < (b:Int))=true:=by simp;omega
   simp (disch:=first | exact d_Q1 | fail) only [unf b136_2.eq_1,c136,h1,EVS,Nat.reduceAdd,Nat.reduceSub,Int.reduceToNat,Nat.reduceMul,Nat.reduceEqDiff,Nat.reduceLeDiff,Int.reduceEq,Int.reduceLT,Int.reduceLE,↓reduceIte]
   refine Ac6 id n b i a _ i d h _ (by omega) hn hN hr (fun h' nx' j' hn' hx=>?_)
   have e1:(i:Int) + 1=((i + 1:Nat):Int):=by omega
   simp (disch:=first | exact d_Q1 | fail) only [unf k136_1.eq_1,c136,e1,EVS,Nat.reduceAdd,Nat.reduceSub,Int.reduceToNat,Nat.reduceMul,Nat.reduceEqDiff,Nat.reduceLeDiff,Int.reduceEq,Int.reduceLT,Int.reduceLE,↓reduceIte]
   refine A0c (A0e (ih (i + 1) _ h' _ (by omega) (by rw [Ac5];exact hn) hx.1) fun x hq=>A0e hq fun v hv=>?_)
   obtain ⟨h1,h2,h3⟩:=hv
   exact ⟨h1,by rw [Go.Sort.insOuter,if_pos hib];exact hx.trans h2,by omega⟩
  ·have h1:decide ((i:Int) < (b:Int))=false:=by simp;omega
   simp (disch:=first | exact d_Q1 | fail) only [unf b136_2.eq_1,c136,h1,EVS,Nat.reduceAdd,Nat.reduceSub,Int.reduceToNat,Nat.reduceMul,Nat.reduceEqDiff,Nat.reduceLeDiff,Int.reduceEq,Int.reduceLT,Int.reduceLE,↓reduceIte]
   exact ⟨rfl,.refl (by rw [Go.Sort.insOuter,if_neg (by omega)];exact hr),by omega⟩
theorem Aq4 (id n a b:Nat) (d:Array Bd) (ha:a ≤ n) (hb:b ≤ n) (hN:n ≤ 1000000) (hn:d.size=n) (h:Heap) (nx:Nat) (hr:hget h id=some (rowB d)) :
  ∃ r,lim T 136 [.sref 3 id n 0 n,.int .i64 a,.int .i64 b,.fn 67 []] h nx=some r∧r.1=.tup []∧RowN id (Go.Sort.insertionSort ltB d a b) h nx r.2.1 r.2.2:=by
 refine A25 Azf rfl rfl ?_
 have e1:(a:Int) + 1=((a + 1:Nat):Int):=by omega
 simp (disch:=first | exact d_Q1 | fail) only [c136,e1,EVS,Nat.reduceAdd,Nat.reduceSub,Int.reduceToNat,Nat.reduceMul,Nat.reduceEqDiff,Nat.reduceLeDiff,Int.reduceEq,Int.reduceLT,Int.reduceLE,↓reduceIte]
 refine A0e (Aau id n a b hb hN (n - a) (a + 1) d h _ (by omega) hn hr) fun x hq=>A0e hq fun v hv=>?_
 exact ⟨hv.1,hv.2.1.n (by have:=hv.2.2;dsimp only;omega)⟩
theorem d_Q2 {P:Prop} (h:P:=by first|omega|(simp only[EVL]<;>omega)|(simp only[A0n,Nat.reduceEqDiff,↓reduceIte];done)|assumption|(simp (disch:=omega) only[A06,A0a,A04, *];done)|(simp only [A38];done)|with_unfolding_all rfl):P:=h
theorem Anb (id n hi F:Nat) (hF:F + hi ≤ n) (hN:n ≤ 1000000):∀ (k root:Nat) (d:Array Bd) (h:Heap) (nx:Nat),hi - root ≤ k→root ≤ n→d.size=n→hget h id=some (rowB d) →
  @Ok Out (runs T [.code b157_0,.inL none b157_0,.inB 0] [(0,.sref 3 id n 0 n),(2,.int .i64 hi),(3,.int .i64 F),(4,.fn 67 []),(10,.int .i64 root)] h nx)
   ⟨fun x=>@Ok FV (finV c157.res x) ⟨fun v=>v=.tup []∧RowR h id (Go.Sort.siftDown ltB hi F root d) x.2.2.1∧nx ≤ x.2.2.2⟩⟩:=by
 intro k
 induction k with
 |zero =>
  intro root d h nx hk hro hn hr
  have h1:decide (hi ≤ 2 * root + 1)=true:=by simp;omega
  simp (disch:=first | exact d_Q2 | fail) only [unf b157_0.eq_1,c157,NA,w_xb,h1,EVS,Nat.reduceAdd,Nat.reduceSub,Int.reduceToNat,Nat.reduceMul,Nat.reduceEqDiff,Nat.reduceLeDiff,Int.reduceEq,Int.reduceLT,Int.reduceLE,↓reduceIte]
  exact ⟨rfl,.refl (by rw [Ahb (by omega)];exact hr),by omega⟩
 |succ k ih =>
  intro root d h nx hk hro hn hr
  by_cases hc:hi ≤ 2 * root + 1
  ·have h1:decide (hi ≤ 2 * root + 1)=true:=by simp;omega
   simp (disch:=first | exact d_Q2 | fail) only [unf b157_0.eq_1,c157,NA,w_xb,h1,EVS,Nat.reduceAdd,Nat.reduceSub,Int.reduceToNat,Nat.reduceMul,Nat.reduceEqDiff,Nat.reduceLeDiff,Int.reduceEq,Int.reduceLT,Int.reduceLE,↓reduceIte]
   exact ⟨rfl,.refl (by rw [Ahb (by omega)];exact hr),by omega⟩
  ·have h1:decide (hi ≤ 2 * root + 1)=false:=by simp;omega
   have hr':=hr
   rw [A1u] at hr'
   by_cases hc2:2 * root + 1 + 1 < hi
   ·have h2:decide (2 * root + 1 + 1 < hi)=true:=by simp;omega
    cases hb:ltB d[F + (2 * root + 1)]! d[F + (2 * root + 1) + 1]! with
    |true =>
     have hcc:2 * root + 1 + 1 < hi∧ltB d[F + (2 * root + 1)]! d[F + (2 * root + 1) + 1]! = true:=⟨hc2,hb⟩
     cases hd:ltB d[F + root]! d[F + (2 * root + 1 + 1)]! with
     |false =>
      simp (disch:=first | exact d_Q2 | fail) only [unf b157_0.eq_1,c157,NA,w_xb,A0h,hr',SR,A1d,h1,h2,hb,hd,EVS,Nat.reduceAdd,Nat.reduceSub,Int.reduceToNat,Nat.reduceMul,Nat.reduceEqDiff,Nat.reduceLeDiff,Int.reduceEq,Int.reduceLT,Int.reduceLE,↓reduceIte]
      exact ⟨rfl,.refl (by rw [A5y hc (2 * root + 1 + 1) (by simp [hcc]),hd];exact hr),by omega⟩
     |true =>
      simp (disch:=first | exact d_Q2 | fail) only [unf b157_0.eq_1,c157,NA,w_xb,A0h,hr',SR,A1d,h1,h2,hb,hd,EVS,Nat.reduceAdd,Nat.reduceSub,Int.reduceToNat,Nat.reduceMul,Nat.reduceEqDiff,Nat.reduceLeDiff,Int.reduceEq,Int.reduceLT,Int.reduceLE,↓reduceIte]
      refine A0c (A0e (ih (2 * root + 1 + 1) (Go.Sort.swp d (F + root) (F + (2 * root + 1 + 1))) _ _ (by omega) (by omega) (by rw [A1s];exact hn) (A0z hr)) fun x hq=>A0e hq fun v hv=>?_)
      exact ⟨hv.1,by rw [A5y hc (2 * root + 1 + 1) (by simp [hcc]),hd];exact (RowR.one hr).trans hv.2.1,by have:=hv.2.2;omega⟩
    |false =>
     have hcc:¬ (2 * root + 1 + 1 < hi∧ltB d[F + (2 * root + 1)]! d[F + (2 * root + 1) + 1]! = true):=fun hh=>by rw [hb] at hh;cases hh.2
     cases hd:ltB d[F + root]! d[F + (2 * root + 1)]! with
     |false =>
      simp (disch:=first | exact d_Q2 | fail) only [unf b157_0.eq_1,c157,NA,w_xb,A0h,hr',SR,A1d,h1,h2,hb,hd,EVS,Nat.reduceAdd,Nat.reduceSub,Int.reduceToNat,Nat.reduceMul,Nat.reduceEqDiff,Nat.reduceLeDiff,Int.reduceEq,Int.reduceLT,Int.reduceLE,↓reduceIte]
      exact ⟨rfl,.refl (by rw [A5y hc (2 * root + 1) (by simp [hcc]),hd];exact hr),by omega⟩
     |true =>
      simp (disch:=first | exact d_Q2 | fail) only [unf b157_0.eq_1,c157,NA,w_xb,A0h,hr',SR,A1d,h1,h2,hb,hd,EVS,Nat.reduceAdd,Nat.reduceSub,Int.reduceToNat,Nat.reduceMul,Nat.reduceEqDiff,Nat.reduceLeDiff,Int.reduceEq,Int.reduceLT,Int.reduceLE,↓reduceIte]
      refine A0c (A0e (ih (2 * root + 1) (Go.Sort.swp d (F + root) (F + (2 * root + 1))) _ _ (by omega) (by omega) (by rw [A1s];exact hn) (A0z hr)) fun x hq=>A0e hq fun v hv=>?_)
      exact ⟨hv.1,by rw [A5y hc (2 * root + 1) (by simp [hcc]),hd];exact (RowR.one hr).trans hv.2.1,by have:=hv.2.2;omega⟩
   ·have h2:decide (2 * root + 1 + 1 < hi)=false:=by simp;omega
    have hcc:¬ (2 * root + 1 + 1 < hi∧ltB d[F + (2 * root + 1)]! d[F + (2 * root + 1) + 1]! = true):=fun hh=>hc2 hh.1
    cases hd:ltB d[F + root]! d[F + (2 * root + 1)]! with
    |false =>
     simp (disch:=first | exact d_Q2 | fail) only [unf b157_0.eq_1,c157,NA,w_xb,A0h,hr',SR,A1d,h1,h2,hd,EVS,Nat.reduceAdd,Nat.reduceSub,Int.reduceToNat,Nat.reduceMul,Nat.reduceEqDiff,Nat.reduceLeDiff,Int.reduceEq,Int.reduceLT,Int.reduceLE,↓reduceIte]
     exact ⟨rfl,.refl (by rw [A5y hc (2 * root + 1) (by simp [hcc]),hd];exact hr),by omega⟩
    |true =>
     simp (disch:=first | exact d_Q2 | fail) only [unf b157_0.eq_1,c157,NA,w_xb,A0h,hr',SR,A1d,h1,h2,hd,EVS,Nat.reduceAdd,Nat.reduceSub,Int.reduceToNat,Nat.reduceMul,Nat.reduceEqDiff,Nat.reduceLeDiff,Int.reduceEq,Int.reduceLT,Int.reduceLE,↓reduceIte]
     refine A0c (A0e (ih (2 * root + 1) (Go.Sort.swp d (F + root) (F + (2 * root + 1))) _ _ (by omega) (by omega) (by rw [A1s];exact hn) (A0z hr)) fun x hq=>A0e hq fun v hv=>?_)
     exact ⟨hv.1,by rw [A5y hc (2 * root + 1) (by simp [hcc]),hd];exact (RowR.one hr).trans hv.2.1,by have:=hv.2.2;omega⟩
theorem Adx (id n lo hi F:Nat) (d:Array Bd) (hl:lo ≤ n) (hF:F + hi ≤ n) (hN:n ≤ 1000000) (hn:d.size=n) (h:Heap) (nx:Nat) (hr:hget h id=some (rowB d)) :
  ∃ r,lim T 157 [.sref 3 id n 0 n,.int .i64 lo,.int .i64 hi,.int .i64 F,.fn 67 []] h nx=some r∧r.1=.tup []∧RowR h id (Go.Sort.siftDown ltB hi F lo d) r.2.1∧nx ≤ r.2.2:=by
 refine A25 Azo rfl rfl ?_
 simp (disch:=first | exact d_Q2 | fail) only [c157,EVS,Nat.reduceAdd,Nat.reduceSub,Int.reduceToNat,Nat.reduceMul,Nat.reduceEqDiff,Nat.reduceLeDiff,Int.reduceEq,Int.reduceLT,Int.reduceLE,↓reduceIte]
 refine A0e (Anb id n hi F hF hN hi lo d h _ (by omega) hl hn hr) fun x hq=>A0e hq fun v hv=>?_
 exact ⟨hv.1,hv.2.1,by have:=hv.2.2;dsimp only;omega⟩
theorem Ai5 (id n hi F:Nat) (hF:F + hi ≤ n) (hN:n ≤ 1000000) (Q:Post Out):∀ (k:Nat) (d:Array Bd) (h:Heap) (nx:Nat),k ≤ n→d.size=n→hget h id=some (rowB d) →
  (∀ h' nx' (m:Int),nx ≤ nx'→(Go.Sort.heapBuild ltB hi F k d).size=n→RowR h id (Go.Sort.heapBuild ltB hi F k d) h'→@Ok Out (runs T [.code k137_2] [(0,.sref 3 id n 0 n),(3,.fn 67 []),(8,.int .i64 F),(9,.int .i64 0),(10,.int .i64 hi),(11,.int .i64 m),(21,.bool false)] h' nx') Q) →
  @Ok Out (runs T [.code b137_0,.inL none b137_0,.inB 0,.code k137_2] [(0,.sref 3 id n 0 n),(3,.fn 67 []),(8,.int .i64 F),(9,.int .i64 0),(10,.int .i64 hi),(11,.int .i64 ((k:Int) - 1))] h nx) Q:=by
 intro k
 induction k with
 |zero =>
  intro d h nx hk hn hr next
  have e1:((0:Nat):Int) - 1=-1:=by omega
  have h1:decide ((0:Int) ≤ -1)=false:=by decide
  simp (disch:=first | exact d_Q2 | fail) only [unf b137_0.eq_1,c137,e1,h1,EVS,Nat.reduceAdd,Nat.reduceSub,Int.reduceToNat,Nat.reduceMul,Nat.reduceEqDiff,Nat.reduceLeDiff,Int.reduceEq,Int.reduceLT,Int.reduceLE,↓reduceIte]
  exact next _ _ _ (by omega) hn (.refl hr)
 |succ k ih =>
  intro d h nx hk hn hr next
  have e1:((k + 1:Nat):Int) - 1=(k:Nat):=by omega
  have h1:decide ((0:Int) ≤ (k:Nat))=true:=by simp
  simp (disch:=first | exact d_Q2 | fail) only [unf b137_0.eq_1,c137,e1,h1,EVS,Nat.reduceAdd,Nat.reduceSub,Int.reduceToNat,Nat.reduceMul,Nat.reduceEqDiff,Nat.reduceLeDiff,Int.reduceEq,Int.reduceLT,Int.reduceLE,↓reduceIte]
  refine A09 (Adx id n k hi F d (by omega) hF hN hn h _ hr) fun r hq=>?_
  obtain ⟨q1,q2,q3⟩:=hq
  have sz:=A6m (lt:=ltB) (hi:=hi) (F:=F) (hi - k) k d (Nat.le_refl _)
  rw [q1]
  refine ⟨rfl,?_⟩
  simp (disch:=first | exact d_Q2 | fail) only [c137,EVS,Nat.reduceAdd,Nat.reduceSub,Int.reduceToNat,Nat.reduceMul,Nat.reduceEqDiff,Nat.reduceLeDiff,Int.reduceEq,Int.reduceLT,Int.reduceLE,↓reduceIte]
  refine A0c (ih _ _ _ (by omega) (by rw [sz];exact hn) q2.1 fun h' nx' m hm h1 h2=>next h' nx' m (by omega) h1 (q2.trans h2))
theorem Apx (id n F:Nat) (hF0:F ≤ n) (hN:n ≤ 1000000):∀ (k:Nat) (d:Array Bd) (h:Heap) (nx:Nat),F + k ≤ n→d.size=n→hget h id=some (rowB d) →
  @Ok Out (runs T [.code b137_1,.inL none b137_1,.inB 2] [(0,.sref 3 id n 0 n),(3,.fn 67 []),(8,.int .i64 F),(9,.int .i64 0),(12,.int .i64 ((k:Int) - 1))] h nx)
   ⟨fun x=>@Ok FV (finV c137.res x) ⟨fun v=>v=.tup []∧RowR h id (Go.Sort.heapPop ltB F k d) x.2.2.1∧nx ≤ x.2.2.2⟩⟩:=by
 intro k
 induction k with
 |zero =>
  intro d h nx hk hn hr
  have e1:((0:Nat):Int) - 1=-1:=by omega
  have h1:decide ((0:Int) ≤ -1)=false:=by decide
  simp (disch:=first | exact d_Q2 | fail) only [unf b137_1.eq_1,c137,e1,h1,EVS,Nat.reduceAdd,Nat.reduceSub,Int.reduceToNat,Nat.reduceMul,Nat.reduceEqDiff,Nat.reduceLeDiff,Int.reduceEq,Int.reduceLT,Int.reduceLE,↓reduceIte]
  exact ⟨rfl,.refl hr,by omega⟩
 |succ k ih =>
  intro d h nx hk hn hr
  have e1:((k + 1:Nat):Int) - 1=(k:Nat):=by omega
  have h1:decide ((0:Int) ≤ (k:Nat))=true:=by simp
  have hr':=hr
  rw [A1u] at hr'
  have z0:(0:Int)=((0:Nat):Int):=rfl
  have zs:=A1s (d:=d) (i:=F) (j:=F + k)
  have hr2:RowR h id (Go.Sort.swp d F (F + k)) (hset h id (rowB (Go.Sort.swp d F (F + k)))):=RowR.one hr
  simp (disch:=first | exact d_Q2 | fail) only [unf b137_1.eq_1,c137,e1,h1,na,hr',SR,EVS,Nat.reduceAdd,Nat.reduceSub,Int.reduceToNat,Nat.reduceMul,Nat.reduceEqDiff,Nat.reduceLeDiff,Int.reduceEq,Int.reduceLT,Int.reduceLE,↓reduceIte]
  refine A09 (Adx id n 0 k F (Go.Sort.swp d F (F + k)) (by omega) (by omega) hN (by omega) _ _ hr2.1) fun r hq=>?_
  obtain ⟨q1,q2,q3⟩:=hq
  have sz:=A6m (lt:=ltB) (hi:=k) (F:=F) k 0 (Go.Sort.swp d F (F + k)) (by omega)
  rw [q1]
  refine ⟨rfl,?_⟩
  simp (disch:=first | exact d_Q2 | fail) only [c137,EVS,Nat.reduceAdd,Nat.reduceSub,Int.reduceToNat,Nat.reduceMul,Nat.reduceEqDiff,Nat.reduceLeDiff,Int.reduceEq,Int.reduceLT,Int.reduceLE,↓reduceIte]
  refine A0c (A0e (ih _ _ _ (by omega) (by omega) q2.1) fun x hq=>A0e hq fun v hv=>?_)
  exact ⟨hv.1,(hr2.trans q2).trans hv.2.1,by have:=hv.2.2;omega⟩
theorem Alr (id n a b:Nat) (d:Array Bd) (ha:a < b) (hb:b ≤ n) (hN:n ≤ 1000000) (hn:d.size=n) (h:Heap) (nx:Nat) (hr:hget h id=some (rowB d)) :
  ∃ r,lim T 137 [.sref 3 id n 0 n,.int .i64 a,.int .i64 b,.fn 67 []] h nx=some r∧r.1=.tup []∧RowN id (Go.Sort.heapSort ltB d a b) h nx r.2.1 r.2.2:=by
 refine A25 Azz rfl rfl ?_
 have e2:(b:Int) - a=((b - a:Nat):Int):=by omega
 have e3:((b - a:Nat):Int) - 1=((b - a - 1:Nat):Int):=by omega
 have e4:((b - a - 1:Nat):Int).tdiv 2=(((b - a - 1) / 2 + 1:Nat):Int) - 1:=by rw [Int.tdiv_eq_ediv_of_nonneg (by omega)];omega
 simp (disch:=first | exact d_Q2 | fail) only [c137,e2,e3,e4,EVS,Nat.reduceAdd,Nat.reduceSub,Int.reduceToNat,Nat.reduceMul,Nat.reduceEqDiff,Nat.reduceLeDiff,Int.reduceEq,Int.reduceLT,Int.reduceLE,↓reduceIte]
 refine Ai5 id n (b - a) a (by omega) hN _ ((b - a - 1) / 2 + 1) d h _ (by omega) hn hr fun h' nx' m hm s1 s2=>?_
 simp (disch:=first | exact d_Q2 | fail) only [c137,unf k137_2.eq_1,EVS,Nat.reduceAdd,Nat.reduceSub,Int.reduceToNat,Nat.reduceMul,Nat.reduceEqDiff,Nat.reduceLeDiff,Int.reduceEq,Int.reduceLT,Int.reduceLE,↓reduceIte]
 refine A0e (Apx id n a (by omega) hN (b - a) _ _ _ (by omega) s1 s2.1) fun x hq=>A0e hq fun v hv=>?_
 exact ⟨hv.1,(s2.trans hv.2.1).n (by have:=hv.2.2;dsimp only;omega)⟩
theorem d_Q3 {P:Prop} (h:P:=by first|omega|(simp only[EVL]<;>omega)|(simp only[A0n,Nat.reduceEqDiff,↓reduceIte];done)|assumption|(simp (disch:=omega) only[A06,A0a,A04, *];done)|(simp only [A38];done)|with_unfolding_all rfl):P:=h
theorem Apu (id n:Nat) (hN:n ≤ 1000000):∀ (k i j:Nat) (d:Array Bd) (h:Heap) (nx:Nat),j - i ≤ k→j < n→d.size=n→i ≤ n→hget h id=some (rowB d) →
  @Ok Out (runs T [.code b140_0,.inL none b140_0,.inB 0] [(0,.sref 3 id n 0 n),(8,.int .i64 i),(9,.int .i64 j)] h nx)
   ⟨fun x=>@Ok FV (finV c140.res x) ⟨fun v=>v=.tup []∧RowR h id (Go.Sort.reverseLoop i j d) x.2.2.1∧nx ≤ x.2.2.2⟩⟩:=by
 intro k
 induction k with
 |zero =>
  intro i j d h nx hk hj hn hi hr
  have h1:decide (i < j)=false:=by simp;omega
  simp (disch:=first | exact d_Q3 | fail) only [unf b140_0.eq_1,c140,nlt,h1,EVS,Nat.reduceAdd,Nat.reduceSub,Int.reduceToNat,Nat.reduceMul,Nat.reduceEqDiff,Nat.reduceLeDiff,Int.reduceEq,Int.reduceLT,Int.reduceLE,↓reduceIte]
  exact ⟨rfl,.refl (by rw [Go.Sort.reverseLoop,if_neg (by omega)];exact hr),by omega⟩
 |succ k ih =>
  intro i j d h nx hk hj hn hi hr
  by_cases hc:i < j
  ·have h1:decide (i < j)=true:=by simp;omega
   have e1:(j:Int) - 1=((j - 1:Nat):Int):=by omega
   have hr':=hr
   rw [A1u] at hr'
   simp (disch:=first | exact d_Q3 | fail) only [unf b140_0.eq_1,c140,nlt,na1,e1,h1,hr',SR,EVS,Nat.reduceAdd,Nat.reduceSub,Int.reduceToNat,Nat.reduceMul,Nat.reduceEqDiff,Nat.reduceLeDiff,Int.reduceEq,Int.reduceLT,Int.reduceLE,↓reduceIte]
   refine A0c (A0e (ih (i + 1) (j - 1) (Go.Sort.swp d i j) _ _ (by omega) (by omega) (by rw [A1s];exact hn) (by omega) (A0z hr)) fun x hq=>A0e hq fun v hv=>?_)
   exact ⟨hv.1,by rw [Go.Sort.reverseLoop,if_pos hc];exact (RowR.one hr).trans hv.2.1,by have:=hv.2.2;omega⟩
  ·have h1:decide (i < j)=false:=by simp;omega
   simp (disch:=first | exact d_Q3 | fail) only [unf b140_0.eq_1,c140,nlt,h1,EVS,Nat.reduceAdd,Nat.reduceSub,Int.reduceToNat,Nat.reduceMul,Nat.reduceEqDiff,Nat.reduceLeDiff,Int.reduceEq,Int.reduceLT,Int.reduceLE,↓reduceIte]
   exact ⟨rfl,.refl (by rw [Go.Sort.reverseLoop,if_neg (by omega)];exact hr),by omega⟩
theorem Ao9 (id n a b:Nat) (f:FV) (d:Array Bd) (ha:a < b) (hb:b ≤ n) (hN:n ≤ 1000000) (hn:d.size=n) (h:Heap) (nx:Nat) (hr:hget h id=some (rowB d)) :
  ∃ r,lim T 140 [.sref 3 id n 0 n,.int .i64 a,.int .i64 b,f] h nx=some r∧r.1=.tup []∧RowN id (Go.Sort.reverseRange d a b) h nx r.2.1 r.2.2:=by
 refine A25 B03 rfl rfl ?_
 have e1:(b:Int) - 1=((b - 1:Nat):Int):=by omega
 simp (disch:=first | exact d_Q3 | fail) only [c140,e1,EVS,Nat.reduceAdd,Nat.reduceSub,Int.reduceToNat,Nat.reduceMul,Nat.reduceEqDiff,Nat.reduceLeDiff,Int.reduceEq,Int.reduceLT,Int.reduceLE,↓reduceIte]
 refine A0e (Apu id n hN (b - 1 - a) a (b - 1) d h _ (by omega) (by omega) hn (by omega) hr) fun x hq=>A0e hq fun v hv=>?_
 exact ⟨hv.1,hv.2.1.n (by have:=hv.2.2;dsimp only;omega)⟩
theorem A8l (id n a b q:Nat) (d:Array Bd) (ha:a < n) (hb:b < n) (hN:n ≤ 1000000) (hn:d.size=n) (h:Heap) (nx:Nat) (s:Int) (hr:hget h id=some (rowB d)) (hs:hget h q=some (.row 1 [.int .i64 s])) :
  ∃ r,lim T 170 [.sref 3 id n 0 n,.int .i64 a,.int .i64 b,.ptr q 1 0 0,.fn 67 []] h nx=some r∧(∃ x y:Nat,r.1=.tup [.int .i64 x,.int .i64 y]∧(x=a ∨ x=b)∧(y=a ∨ y=b))∧CntR h q r.2.1∧nx ≤ r.2.2:=by
 refine A25 B0d rfl rfl ?_
 have hr':=hr
 rw [A1u] at hr'
 cases hb':ltB d[b]! d[a]! with
 |true =>
  simp (disch:=first | exact d_Q3 | fail) only [c170,A0h,hr',SR,A1d,hb',hs,EVS,Nat.reduceAdd,Nat.reduceSub,Int.reduceToNat,Nat.reduceMul,Nat.reduceEqDiff,Nat.reduceLeDiff,Int.reduceEq,Int.reduceLT,Int.reduceLE,↓reduceIte]
  exact ⟨⟨b,a,rfl,.inr rfl,.inl rfl⟩,⟨⟨_,A0z hs⟩,fun i hi=>A04 (Ne.symm hi)⟩,by omega⟩
 |false =>
  simp (disch:=first | exact d_Q3 | fail) only [c170,A0h,hr',SR,A1d,hb',hs,EVS,Nat.reduceAdd,Nat.reduceSub,Int.reduceToNat,Nat.reduceMul,Nat.reduceEqDiff,Nat.reduceLeDiff,Int.reduceEq,Int.reduceLT,Int.reduceLE,↓reduceIte]
  exact ⟨⟨a,b,rfl,.inl rfl,.inr rfl⟩,⟨⟨s,hs⟩,fun i hi=>rfl⟩,by omega⟩
theorem Ab6 (id n a b c q:Nat) (d:Array Bd) (ha:a < n) (hb:b < n) (hc:c < n) (hN:n ≤ 1000000) (hn:d.size=n) (hq:q ≠ id) (h:Heap) (nx:Nat) (s:Int) (hr:hget h id=some (rowB d)) (hs:hget h q=some (.row 1 [.int .i64 s])) :
  ∃ r,lim T 161 [.sref 3 id n 0 n,.int .i64 a,.int .i64 b,.int .i64 c,.ptr q 1 0 0,.fn 67 []] h nx=some r∧(∃ x:Nat,r.1=.int .i64 x∧(x=a ∨ x=b ∨ x=c))∧CntR h q r.2.1∧nx ≤ r.2.2:=by
 refine A25 B1k rfl rfl ?_
 simp (disch:=first | exact d_Q3 | fail) only [c161,EVS,Nat.reduceAdd,Nat.reduceSub,Int.reduceToNat,Nat.reduceMul,Nat.reduceEqDiff,Nat.reduceLeDiff,Int.reduceEq,Int.reduceLT,Int.reduceLE,↓reduceIte]
 refine A09 (A8l id n a b q d ha hb hN hn h _ s hr hs) fun r hr1=>?_
 obtain ⟨⟨x1,y1,p1,p2,p3⟩,⟨⟨s1,t1⟩,u1⟩,v1⟩:=hr1
 rw [p1]
 refine ⟨rfl,?_⟩
 simp (disch:=first | exact d_Q3 | fail) only [c161,EVS,Nat.reduceAdd,Nat.reduceSub,Int.reduceToNat,Nat.reduceMul,Nat.reduceEqDiff,Nat.reduceLeDiff,Int.reduceEq,Int.reduceLT,Int.reduceLE,↓reduceIte]
 refine A09 (A8l id n y1 c q d (by omega) hc hN hn _ _ s1 ((u1 id (Ne.symm hq)).trans hr) t1) fun r2 hr2=>?_
 obtain ⟨⟨x2,y2,p4,p5,p6⟩,⟨⟨s2,t2⟩,u2⟩,v2⟩:=hr2
 rw [p4]
 refine ⟨rfl,?_⟩
 simp (disch:=first | exact d_Q3 | fail) only [c161,EVS,Nat.reduceAdd,Nat.reduceSub,Int.reduceToNat,Nat.reduceMul,Nat.reduceEqDiff,Nat.reduceLeDiff,Int.reduceEq,Int.reduceLT,Int.reduceLE,↓reduceIte]
 refine A09 (A8l id n x1 x2 q d (by omega) (by omega) hN hn _ _ s2 ((u2 id (Ne.symm hq)).trans ((u1 id (Ne.symm hq)).trans hr)) t2) fun r3 hr3=>?_
 obtain ⟨⟨x3,y3,p7,p8,p9⟩,⟨⟨s3,t3⟩,u3⟩,v3⟩:=hr3
 rw [p7]
 refine ⟨rfl,?_⟩
 simp (disch:=first | exact d_Q3 | fail) only [c161,EVS,Nat.reduceAdd,Nat.reduceSub,Int.reduceToNat,Nat.reduceMul,Nat.reduceEqDiff,Nat.reduceLeDiff,Int.reduceEq,Int.reduceLT,Int.reduceLE,↓reduceIte]
 exact ⟨⟨y3,rfl,by omega⟩,⟨⟨s3,t3⟩,fun i hi=>(u3 i hi).trans ((u2 i hi).trans (u1 i hi))⟩,by omega⟩
theorem A8r (id n a q:Nat) (d:Array Bd) (ha:1 ≤ a) (hb:a + 1 < n) (hN:n ≤ 1000000) (hn:d.size=n) (hq:q ≠ id) (h:Heap) (nx:Nat) (s:Int) (hr:hget h id=some (rowB d)) (hs:hget h q=some (.row 1 [.int .i64 s])) :
  ∃ r,lim T 160 [.sref 3 id n 0 n,.int .i64 a,.ptr q 1 0 0,.fn 67 []] h nx=some r∧(∃ x:Nat,r.1=.int .i64 x∧(x=a - 1 ∨ x=a ∨ x=a + 1))∧CntR h q r.2.1∧nx ≤ r.2.2:=by
 refine A25 Azy rfl rfl ?_
 have e1:(a:Int) - 1=((a - 1:Nat):Int):=by omega
 simp (disch:=first | exact d_Q3 | fail) only [c160,e1,na1,EVS,Nat.reduceAdd,Nat.reduceSub,Int.reduceToNat,Nat.reduceMul,Nat.reduceEqDiff,Nat.reduceLeDiff,Int.reduceEq,Int.reduceLT,Int.reduceLE,↓reduceIte]
 refine A09 (Ab6 id n (a - 1) a (a + 1) q d (by omega) (by omega) hb hN hn hq h _ s hr hs) fun r hr1=>?_
 obtain ⟨⟨x1,p1,p2⟩,c1,v1⟩:=hr1
 rw [p1]
 refine ⟨rfl,?_⟩
 simp (disch:=first | exact d_Q3 | fail) only [c160,EVS,Nat.reduceAdd,Nat.reduceSub,Int.reduceToNat,Nat.reduceMul,Nat.reduceEqDiff,Nat.reduceLeDiff,Int.reduceEq,Int.reduceLT,Int.reduceLE,↓reduceIte]
 exact ⟨⟨x1,rfl,p2⟩,c1,by omega⟩
theorem d_Q4 {P:Prop} (h:P:=by first|omega|(simp only[EVL]<;>omega)|(simp only[A0n,Nat.reduceEqDiff,↓reduceIte];done)|assumption|(simp (disch:=omega) only[A06,A0a,A04, *];done)|(simp only [A38];done)|with_unfolding_all rfl):P:=h
theorem choose_spec (id n a b:Nat) (d:Array Bd) (hab:a < b) (hb:b ≤ n) (hN:n ≤ 1000000) (hn:d.size=n) (h:Heap) (nx:Nat) (hid:id < nx) (hr:hget h id=some (rowB d)) :
  ∃ r,lim T 139 [.sref 3 id n 0 n,.int .i64 a,.int .i64 b,.fn 67 []] h nx=some r∧(∃ (p:Nat) (t:Int),r.1=.tup [.int .i64 p,.int .i64 t]∧a ≤ p∧p < b)∧RowN id d h nx r.2.1 r.2.2:=by
 refine A25 Azg rfl rfl ?_
 have e1:(b:Int) - a=((b - a:Nat):Int):=by omega
 have e2:((b - a:Nat):Int).tdiv 4=(((b - a) / 4:Nat):Int):=by rw [Int.tdiv_eq_ediv_of_nonneg (by omega)];omega
 have e3:∀ x:Nat,((x:Nat):Int) * 1=((x * 1:Nat):Int):=fun x=>by omega
 have e4:∀ x:Nat,((x:Nat):Int) * 2=((x * 2:Nat):Int):=fun x=>by omega
 have e5:∀ x:Nat,((x:Nat):Int) * 3=((x * 3:Nat):Int):=fun x=>by omega
 by_cases h8:8 ≤ b - a
 ·have d8:decide ((8:Int) ≤ ((b - a:Nat):Int))=true:=by simp;omega
  by_cases h50:50 ≤ b - a
  ·have d50:decide ((50:Int) ≤ ((b - a:Nat):Int))=true:=by simp;omega
   simp (disch:=first | exact d_Q4 | fail) only [c139,e1,e2,e3,e4,e5,na,d8,d50,EVS,Nat.reduceAdd,Nat.reduceSub,Int.reduceToNat,Nat.reduceMul,Nat.reduceEqDiff,Nat.reduceLeDiff,Int.reduceEq,Int.reduceLT,Int.reduceLE,↓reduceIte]
   have r0:hget ((nx + 2 + 4,Obj.row 1 [FV.int IntKind.i64 0])::h) id=some (rowB d):=by rw [A06 (by omega)];exact hr
   refine A09 (A8r id n (a + (b - a) / 4 * 1) (nx + 2 + 4) d (by omega) (by omega) hN hn (by omega) _ _ _ r0 A0a) fun r hr1=>?_
   obtain ⟨⟨x1,p1,q1⟩,⟨⟨s1,t1⟩,u1⟩,v1⟩:=hr1
   rw [p1]
   refine ⟨rfl,?_⟩
   have r1:=(u1 id (by omega)).trans r0
   simp (disch:=first | exact d_Q4 | fail) only [c139,EVS,Nat.reduceAdd,Nat.reduceSub,Int.reduceToNat,Nat.reduceMul,Nat.reduceEqDiff,Nat.reduceLeDiff,Int.reduceEq,Int.reduceLT,Int.reduceLE,↓reduceIte]
   refine A09 (A8r id n (a + (b - a) / 4 * 2) (nx + 2 + 4) d (by omega) (by omega) hN hn (by omega) _ _ _ r1 t1) fun r hr1=>?_
   obtain ⟨⟨x2,p2,q2⟩,⟨⟨s2,t2⟩,u2⟩,v2⟩:=hr1
   rw [p2]
   refine ⟨rfl,?_⟩
   have r2:=(u2 id (by omega)).trans r1
   simp (disch:=first | exact d_Q4 | fail) only [c139,EVS,Nat.reduceAdd,Nat.reduceSub,Int.reduceToNat,Nat.reduceMul,Nat.reduceEqDiff,Nat.reduceLeDiff,Int.reduceEq,Int.reduceLT,Int.reduceLE,↓reduceIte]
   refine A09 (A8r id n (a + (b - a) / 4 * 3) (nx + 2 + 4) d (by omega) (by omega) hN hn (by omega) _ _ _ r2 t2) fun r hr1=>?_
   obtain ⟨⟨x3,p3,q3⟩,⟨⟨s3,t3⟩,u3⟩,v3⟩:=hr1
   rw [p3]
   refine ⟨rfl,?_⟩
   have r3:=(u3 id (by omega)).trans r2
   simp (disch:=first | exact d_Q4 | fail) only [c139,EVS,Nat.reduceAdd,Nat.reduceSub,Int.reduceToNat,Nat.reduceMul,Nat.reduceEqDiff,Nat.reduceLeDiff,Int.reduceEq,Int.reduceLT,Int.reduceLE,↓reduceIte]
   refine A09 (Ab6 id n x1 x2 x3 (nx + 2 + 4) d (by omega) (by omega) (by omega) hN hn (by omega) _ _ _ r3 t3) fun r hr1=>?_
   obtain ⟨⟨x4,p4,q4⟩,⟨⟨s4,t4⟩,u4⟩,v4⟩:=hr1
   rw [p4]
   refine ⟨rfl,?_⟩
   simp (disch:=first | exact d_Q4 | fail) only [c139,t4,EVS,Nat.reduceAdd,Nat.reduceSub,Int.reduceToNat,Nat.reduceMul,Nat.reduceEqDiff,Nat.reduceLeDiff,Int.reduceEq,Int.reduceLT,Int.reduceLE,↓reduceIte]
   have F:∀ t:Int,(∃ (p:Nat) (t':Int),FV.tup [.int .i64 x4,.int .i64 t]=.tup [.int .i64 p,.int .i64 t']∧a ≤ p∧p < b):=fun t=>⟨x4,t,rfl,by omega,by omega⟩
   have G:∀ i,i < nx→i ≠ id→hget r.2.1 i=hget h i:=fun i hi _=>(u4 i (by omega)).trans ((u3 i (by omega)).trans ((u2 i (by omega)).trans ((u1 i (by omega)).trans (A06 (by omega)))))
   have R4:=(u4 id (by omega)).trans r3
   by_cases g1:s4=0
   ·simp (disch:=first | exact d_Q4 | fail) only [c139,g1,EVS,Nat.reduceAdd,Nat.reduceSub,Int.reduceToNat,Nat.reduceMul,Nat.reduceEqDiff,Nat.reduceLeDiff,Int.reduceEq,Int.reduceLT,Int.reduceLE,↓reduceIte]
    exact ⟨F _,R4,by omega,G⟩
   ·by_cases g2:s4=12
    ·simp (disch:=first | exact d_Q4 | fail) only [c139,g1,g2,EVS,Nat.reduceAdd,Nat.reduceSub,Int.reduceToNat,Nat.reduceMul,Nat.reduceEqDiff,Nat.reduceLeDiff,Int.reduceEq,Int.reduceLT,Int.reduceLE,↓reduceIte]
     exact ⟨F _,R4,by omega,G⟩
    ·simp (disch:=first | exact d_Q4 | fail) only [c139,g1,g2,EVS,Nat.reduceAdd,Nat.reduceSub,Int.reduceToNat,Nat.reduceMul,Nat.reduceEqDiff,Nat.reduceLeDiff,Int.reduceEq,Int.reduceLT,Int.reduceLE,↓reduceIte]
     exact ⟨F _,R4,by omega,G⟩
  ·have d50:decide ((50:Int) ≤ ((b - a:Nat):Int))=false:=by simp;omega
   simp (disch:=first | exact d_Q4 | fail) only [c139,e1,e2,e3,e4,e5,na,d8,d50,EVS,Nat.reduceAdd,Nat.reduceSub,Int.reduceToNat,Nat.reduceMul,Nat.reduceEqDiff,Nat.reduceLeDiff,Int.reduceEq,Int.reduceLT,Int.reduceLE,↓reduceIte]
   have r0:hget ((nx + 2 + 4,Obj.row 1 [FV.int IntKind.i64 0])::h) id=some (rowB d):=by rw [A06 (by omega)];exact hr
   refine A09 (Ab6 id n (a + (b - a) / 4 * 1) (a + (b - a) / 4 * 2) (a + (b - a) / 4 * 3) (nx + 2 + 4) d (by omega) (by omega) (by omega) hN hn (by omega) _ _ _ r0 A0a) fun r hr1=>?_
   obtain ⟨⟨x4,p4,q4⟩,⟨⟨s4,t4⟩,u4⟩,v4⟩:=hr1
   rw [p4]
   refine ⟨rfl,?_⟩
   simp (disch:=first | exact d_Q4 | fail) only [c139,t4,EVS,Nat.reduceAdd,Nat.reduceSub,Int.reduceToNat,Nat.reduceMul,Nat.reduceEqDiff,Nat.reduceLeDiff,Int.reduceEq,Int.reduceLT,Int.reduceLE,↓reduceIte]
   have F:∀ t:Int,(∃ (p:Nat) (t':Int),FV.tup [.int .i64 x4,.int .i64 t]=.tup [.int .i64 p,.int .i64 t']∧a ≤ p∧p < b):=fun t=>⟨x4,t,rfl,by omega,by omega⟩
   have G:∀ i,i < nx→i ≠ id→hget r.2.1 i=hget h i:=fun i hi _=>(u4 i (by omega)).trans (A06 (by omega))
   have R4:=(u4 id (by omega)).trans r0
   by_cases g1:s4=0
   ·simp (disch:=first | exact d_Q4 | fail) only [c139,g1,EVS,Nat.reduceAdd,Nat.reduceSub,Int.reduceToNat,Nat.reduceMul,Nat.reduceEqDiff,Nat.reduceLeDiff,Int.reduceEq,Int.reduceLT,Int.reduceLE,↓reduceIte]
    exact ⟨F _,R4,by omega,G⟩
   ·by_cases g2:s4=12
    ·simp (disch:=first | exact d_Q4 | fail) only [c139,g1,g2,EVS,Nat.reduceAdd,Nat.reduceSub,Int.reduceToNat,Nat.reduceMul,Nat.reduceEqDiff,Nat.reduceLeDiff,Int.reduceEq,Int.reduceLT,Int.reduceLE,↓reduceIte]
     exact ⟨F _,R4,by omega,G⟩
    ·simp (disch:=first | exact d_Q4 | fail) only [c139,g1,g2,EVS,Nat.reduceAdd,Nat.reduceSub,Int.reduceToNat,Nat.reduceMul,Nat.reduceEqDiff,Nat.reduceLeDiff,Int.reduceEq,Int.reduceLT,Int.reduceLE,↓reduceIte]
     exact ⟨F _,R4,by omega,G⟩
 ·have d8:decide ((8:Int) ≤ ((b - a:Nat):Int))=false:=by simp;omega
  simp (disch:=first | exact d_Q4 | fail) only [c139,e1,e2,e3,e4,e5,na,d8,EVS,Nat.reduceAdd,Nat.reduceSub,Int.reduceToNat,Nat.reduceMul,Nat.reduceEqDiff,Nat.reduceLeDiff,Int.reduceEq,Int.reduceLT,Int.reduceLE,↓reduceIte]
  exact ⟨⟨_,_,rfl,by omega,by omega⟩,by rw [A06 (by omega)];exact hr,by omega,fun i hi _=>A06 (by omega)⟩
theorem d_SZ {P:Prop} (h:P:=by first|omega|(simp only[EVL]<;>omega)|(simp only[A0n,Nat.reduceEqDiff,↓reduceIte];done)|assumption|(simp (disch:=omega) only[A06,A0a,A04, *];done)|(simp only [TL];done)|with_unfolding_all rfl):P:=h
abbrev szP (n:Int) (h:Heap):Prop:=hget h 6=some (.lp 0 0)∧hget h 2=some (.row 1 [.int .i64 (IntKind.i64.wrap n)])
theorem Amy (t:Te) (hl:size t ≤ 1000000):∀ h nx,lim T 38 [.agg [.int .u8 (t).k,.int .i64 (t).w,.int .u64 (t).b,.str (t).s,.int .i64 (t).lo,.lst (t).e ((t).l.map tV)]] h nx=some (.int .i64 (size t),h,nx):=by
 refine A05 tg38 rfl rfl (by simp [pures,A0i,A2m]) ?_
 simp (disch:=first | exact d_SZ | fail) only [c38,A56,TL,EVS,Nat.reduceAdd,Nat.reduceSub,Int.reduceToNat,Nat.reduceMul,Nat.reduceEqDiff,Nat.reduceLeDiff,Int.reduceEq,Int.reduceLT,Int.reduceLE,↓reduceIte]
 refine Abp (A9f 1003800 6 7 [.ptr 2 1 0 0] (fun n _=>.inl (n + 1)) szP (fun (_:Empty) _=>True) (fun a h h' hp hk=>⟨(hk 6 (by omega)).trans hp.1,(hk 2 (by omega)).trans hp.2⟩) t hl ?_ 0 _ _ (by omega) ⟨rfl,rfl⟩) fun r hr=>?_
 ·intro x hx a h nx hb hp
  obtain ⟨p1,p2⟩:=hp
  rw [A8m Al6 rfl rfl p1]
  show @Ok _ _ ⟨fun r=>ResR _ _ _ _ _ r _⟩
  simp only [Abg]
  simp (disch:=first | exact d_SZ | fail) only [unf b38_0.eq_1,p1,p2,A04,A0z,wrap_add,EVS,Nat.reduceAdd,Nat.reduceSub,Int.reduceToNat,Nat.reduceMul,Nat.reduceEqDiff,Nat.reduceLeDiff,Int.reduceEq,Int.reduceLT,Int.reduceLE,↓reduceIte]
  exact ⟨rfl,⟨by (simp (disch:=omega) only [A06,A0a,A04,A1h,Option.map_some, *]),by (simp (disch:=omega) only [A06,A0a,A04,A1h,Option.map_some, *])⟩,⟨by dsimp only;omega,fun i hi hl=>by simp (disch:=omega) only [A06,A04]⟩⟩
 ·rw [Afc,A3d] at hr
  obtain ⟨v,h',nx'⟩:=r
  obtain ⟨rfl,⟨p1,p2⟩,hf⟩:=hr
  dsimp only at p1 p2
  refine ⟨rfl,?_⟩
  rw [Int.zero_add,wrap64 (by omega) (by omega)] at p2
  simp (disch:=first | exact d_SZ | fail) only [unf k38_1.eq_1,c38,p1,p2,A04,EVS,Nat.reduceAdd,Nat.reduceSub,Int.reduceToNat,Nat.reduceMul,Nat.reduceEqDiff,Nat.reduceLeDiff,Int.reduceEq,Int.reduceLT,Int.reduceLE,↓reduceIte]
theorem Ahq (t:Te) (ih:∀ x ∈ t.l,∀ h nx,lim T 37 [.agg [.int .u8 (x).k,.int .i64 (x).w,.int .u64 (x).b,.str (x).s,.int .i64 (x).lo,.lst (x).e ((x).l.map tV)]] h nx=some (.int .i64 (depth x),h,nx)) (hl:t.l.length ≤ 1000000) (hd:depth t ≤ 1000000):∀ (k i:Nat) (d:Int),i + k=t.l.length→0 ≤ d→d ≤ 1000000 →
  @Ok Out (runs T [.code b37_0,.inL (some 7) b37_0,.inB 0,.code k37_1] [(3,.int .i64 d),(7,.lst t.e (t.l.map tV)),(8,.int .i64 t.l.length),(9,.int .i64 i)] [(0,.row 6 [.agg [.int .u8 (t).k,.int .i64 (t).w,.int .u64 (t).b,.str (t).s,.int .i64 (t).lo,.lst (t).e ((t).l.map tV)]])] 7) ⟨fun x=>resV c37.res x=some (.int .i64 (max d (A24 (t.l.drop i)) + 1))⟩:=by
 intro k
 induction k with
 |zero =>
  intro i d hi h0 h1
  have:¬ (i:Int) < t.l.length:=by omega
  simp (disch:=first | exact d_SZ | fail) only [unf b37_0.eq_1,unf k37_1.eq_1,c37,this,TL,EVS,Nat.reduceAdd,Nat.reduceSub,Int.reduceToNat,Nat.reduceMul,Nat.reduceEqDiff,Nat.reduceLeDiff,Int.reduceEq,Int.reduceLT,Int.reduceLE,↓reduceIte]
  rw [List.drop_eq_nil_of_le (by omega)]
  show d + 1=max d ((0:Nat):Int) + 1
  omega
 |succ k ihk =>
  intro i d hi h0 h1
  have:(i:Int) < t.l.length:=by omega
  have hx:=ih _ (A0r (d:=default) (show i < t.l.length by omega))
  have hdx:depth (t.l.getD i default) ≤ A24 t.l:=Aa9 (A0r (by omega))
  rw [A59] at hd
  simp (disch:=first | exact d_SZ | fail) only [unf b37_0.eq_1,c37,this,TL,hx,EVS,Nat.reduceAdd,Nat.reduceSub,Int.reduceToNat,Nat.reduceMul,Nat.reduceEqDiff,Nat.reduceLeDiff,Int.reduceEq,Int.reduceLT,Int.reduceLE,↓reduceIte]
  have hq:=ihk (i + 1) (max d (depth (t.l.getD i default))) (by omega) (by omega) (by omega)
  rw [A5x (by omega)]
  have e:max d ((max (depth (t.l.getD i default)) (A24 (t.l.drop (i + 1))):Nat):Int)=max (max d (depth (t.l.getD i default))) (A24 (t.l.drop (i + 1))):=by omega
  rw [e]
  exact A0s (by decide) (by simp [A19,low,lows,TL]) (by simp [cutH,A0b,A16,lows,low,TL]) hq
theorem Ajb (t:Te) (hl:size t ≤ 1000000):∀ h nx,lim T 37 [.agg [.int .u8 (t).k,.int .i64 (t).w,.int .u64 (t).b,.str (t).s,.int .i64 (t).lo,.lst (t).e ((t).l.map tV)]] h nx=some (.int .i64 (depth t),h,nx):=by
 induction t using Tm'.ind with
 |h t ih =>
 have hsz:=A3i t.l
 have hds:=Aan t
 have hse:=size_eq t
 refine A05 tg37 rfl rfl (by simp [pures,A0i,A2m]) ?_
 simp (disch:=first | exact d_SZ | fail) only [c37,TL,EVS,Nat.reduceAdd,Nat.reduceSub,Int.reduceToNat,Nat.reduceMul,Nat.reduceEqDiff,Nat.reduceLeDiff,Int.reduceEq,Int.reduceLT,Int.reduceLE,↓reduceIte]
 have:=Ahq t (fun x hx=>ih x hx (by have:=A53 hx;omega)) (by omega) (by omega) t.l.length 0 0 (by omega) (by omega) (by omega)
 rw [A59]
 rw [List.drop_zero,show max (0:Int) (A24 t.l)=A24 t.l by omega] at this
 exact_mod_cast this
end Go.Proofs.YtkobnfjeehnhlaaGreatDoor.Fi
