/- Parts of the proof, one behind the other. -/
import Derived.Test.YtjmppkmacaeahaaGreatDoorProg
import Derived.Test.YtjmppkmacaeahaaGreatDoorSF3
import Derived.Room.Shelf.Join48
import Derived.Test.YtjmppkmacaeahaaGreatDoorFIJoin
set_option linter.all false
namespace Go.Proofs.YtjmppkmacaeahaaGreatDoor.Fi
open Go.FI
def gl0:List FV:=dataCells (.agg [.agg [.s [],.i .i64 0,.i .i64 0],.agg [.s [],.i .i64 0,.i .i64 0],.agg [.s [],.i .i64 0,.i .i64 0],.agg [.s [110,111,116],.i .i64 1,.i .i64 1],.agg [.s [110,101,103],.i .i64 1,.i .i64 1],.agg [.s [97,100,100],.i .i64 2,.i .i64 1],.agg [.s [115,117,98],.i .i64 2,.i .i64 1],.agg [.s [109,117,108],.i .i64 2,.i .i64 1],.agg [.s [97,110,100],.i .i64 2,.i .i64 1],.agg [.s [111,114],.i .i64 2,.i .i64 1],.agg [.s [120,111,114],.i .i64 2,.i .i64 1],.agg [.s [115,104,108],.i .i64 2,.i .i64 1],.agg [.s [115,104,114],.i .i64 2,.i .i64 1],.agg [.s [115,97,114],.i .i64 2,.i .i64 1],.agg [.s [117,100,105,118],.i .i64 2,.i .i64 1],.agg [.s [117,114,101,109],.i .i64 2,.i .i64 1],.agg [.s [101,113],.i .i64 2,.i .i64 2],.agg [.s [117,108,116],.i .i64 2,.i .i64 2],.agg [.s [115,108,116],.i .i64 2,.i .i64 2],.agg [.s [105,116,101],.i .i64 3,.i .i64 3],.agg [.s [99,111,110,99,97,116],.i .i64 2,.i .i64 4],.agg [.s [101,120,116,114,97,99,116],.i .i64 1,.i .i64 5],.agg [.s [122,101,120,116],.i .i64 1,.i .i64 6],.agg [.s [115,101,120,116],.i .i64 1,.i .i64 6],.agg [.s [108,111,97,100],.i .i64 1,.i .i64 7]]:Dt)
def b9_0:C:=(.sq (.sq (.rg none [Mv 48 11,Mv 49 9,Qo 50 (.ln 1 (.t 49)),Qo 51 (.bo .lss (.t 48) (.t 50)),Mv 52 51,Gm 53 52 true 10,Gd 54 52 true (.bo .eql (.t 53) (.c (.int .i64 0))),Qo 55 (.pk (.t 52) (.t 54) (.c (.bool false)))] [1,2,5,6,8,9,10,11,55]) (.cd (.t 55) .sk (.xt 0))) (.sq (.bl 1 (.sq (.rg none [Mv 59 1,Mv 60 9,Mv 61 11,Qo 62 (.ia 3 (.t 60) (.t 61)),Qo 63 (.fa 0 (.t 62)),Qo 64 (.ld none (.t 63)),Qo 65 (.cl 26 [(.t 59),(.t 64)]),Mv 58 65,Qo 66 (.ex (.t 58) 0),Qo 67 (.ex (.t 58) 1),Qo 12 (.al 3 (.agg [(.str []),(.int .i64 0),(.int .u64 0)])),Eo (.st 3 (.t 12) (.t 66)),Mv 13 67] [1,2,5,6,8,9,11,12]) (.rg (some (List.range 17)) [Qo 69 (.ld (some 6) (.t 8)),Mv 70 9,Mv 71 11,Qo 72 (.ia 3 (.t 70) (.t 71)),Qo 73 (.fa 0 (.t 72)),Qo 74 (.ld none (.t 73)),Qo 75 (.fa 1 (.t 12)),Qo 76 (.ld none (.t 75)),Qo 77 (.fa 2 (.t 12)),Qo 78 (.ld none (.t 77)),Qo 79 (.cl 21 [(.t 76),(.t 78)]),Qo 80 (.cl 27 [(.t 69),(.t 74),(.t 79)]),Mv 68 80,Qo 81 (.ex (.t 68) 0),Qo 82 (.ex (.t 68) 1),Eo (.st 6 (.t 8) (.t 81)),Mv 10 82] [1,2,5,6,8,9,10,11]))) (.rg none [Mv 56 11,Qo 57 (.bo .add (.t 56) (.c (.int .i64 1))),Mv 11 57] [1,2,5,6,8,9,10,11])))
def k9_1:C:=(.sq (.rg none [Qo 84 (.ld (some 6) (.t 8)),Qo 85 (.cl 12 [(.t 84)]),Mv 83 85,Qo 86 (.ex (.t 83) 0),Qo 87 (.ex (.t 83) 1),Qo 14 (.al 6 (.agg [(.int .u8 0),(.int .i64 0),(.int .u64 0),(.str []),(.int .i64 0),(.lst true [])])),Eo (.st 6 (.t 14) (.t 86)),Mv 15 87] [2,5,6,10,14,15]) (.sq (.rg (some (List.range 18)) [Mv 88 5,Mv 89 88,Gm 90 89 true 10,Gd 91 89 true (.bo .eql (.t 90) (.c (.int .i64 0))),Qo 92 (.pk (.t 89) (.t 91) (.c (.bool false))),Mv 93 92,Gm 94 93 true 15,Gd 95 93 true (.bo .eql (.t 94) (.c (.int .i64 0))),Qo 96 (.pk (.t 93) (.t 95) (.c (.bool false))),Mv 97 96,Gd 98 97 true (.ld (some 6) (.t 14)),Gd 99 97 true (.fa 1 (.t 2)),Gd 100 97 true (.ld none (.t 99)),Gm 101 97 true 6,Gd 102 97 true (.cl 21 [(.t 100),(.t 101)]),Gd 103 97 true (.cl 14 [(.t 98),(.t 102)]),Qo 104 (.pk (.t 97) (.t 103) (.c (.bool false))),Mv 4 104] [4]) .rt))
def c9:FI.Fn:={ body:=(.sq (.rg none [Qo 2 (.bx 6 (.t 0)),Qo 4 (.mv (.c (.bool false)))] [1,2]) (.sq (.rq [Qo 16 (.cl 17 []),Mv 5 16] [1,2,5]) (.sq (.sq (.rg none [Qo 17 (.ld (some 6) (.t 2)),Qo 18 (.cl 10 [(.t 17)]),Mv 19 18,Gm 20 19 false 1,Gd 21 19 false (.cl 18 [(.t 20),(.c (.lst true []))]),Qo 22 (.pk (.t 19) (.c (.bool true)) (.t 21)),Mv 23 22,Gd 24 23 false (.ld (some 6) (.t 2)),Gd 25 23 false (.cl 25 [(.t 24)]),Gd 26 23 false (.un .not (.t 25)),Qo 27 (.pk (.t 23) (.c (.bool true)) (.t 26)),Mv 28 27,Gm 29 28 false 5,Gd 30 28 false (.un .not (.t 29)),Qo 31 (.pk (.t 28) (.c (.bool true)) (.t 30))] [1,2,5,31]) (.cd (.t 31) (.sq (.rg none [Mv 32 5,Mv 4 32] [4]) .rt) .sk)) (.sq (.rg none [Qo 34 (.ld (some 6) (.t 2)),Mv 35 1,Qo 36 (.cl 19 [(.t 34),(.t 35),(.c (.lst true []))]),Mv 33 36,Qo 37 (.ex (.t 33) 0),Qo 38 (.ex (.t 33) 1),Mv 6 37,Mv 7 38] [1,2,5,6,7]) (.sq (.sq (.rg none [Mv 39 7,Qo 40 (.bo .neq (.t 39) (.c (.int .i64 0)))] [1,2,5,6,40]) (.cd (.t 40) (.sq (.rg none [Mv 41 5,Mv 4 41] [4]) .rt) .sk)) (.sq (.rg none [Qo 42 (.ld (some 6) (.t 2)),Qo 8 (.al 6 (.agg [(.int .u8 0),(.int .i64 0),(.int .u64 0),(.str []),(.int .i64 0),(.lst true [])])),Eo (.st 6 (.t 8) (.t 42))] [1,2,5,6,8]) (.sq (.rg none [Qo 44 (.ld (some 6) (.t 2)),Qo 45 (.cl 22 [(.t 44)]),Mv 43 45,Qo 46 (.ex (.t 43) 0),Qo 47 (.ex (.t 43) 1),Mv 9 46,Mv 10 47] [1,2,5,6,8,9,10]) (.sq (.sq (.rg none [Qo 11 (.mv (.c (.int .i64 0)))] [1,2,5,6,8,9,10,11]) (.bl 0 (.lp true b9_0))) k9_1)))))))),np:=2,res:=[.t 4],mode:=.iso }
def c10:FI.Fn:={ body:=(.sq (.rg none [Qo 1 (.bx 6 (.t 0)),Qo 2 (.mv (.c (.bool false)))] [1]) (.sq (.rg none [Qo 6 (.ld (some 6) (.t 1)),Qo 7 (.cl 28 [(.t 6),(.c (.int .i64 500)),(.c (.int .i64 80))]),Mv 5 7,Qo 8 (.ex (.t 5) 0),Qo 9 (.ex (.t 5) 1),Mv 3 8,Mv 4 9] [1,3,4]) (.sq (.rg none [Mv 10 4,Qo 11 (.un .not (.t 10)),Mv 12 11,Gm 13 12 false 3,Gd 14 12 false (.bo .gtr (.t 13) (.c (.int .i64 500))),Qo 15 (.pk (.t 12) (.c (.bool true)) (.t 14)),Mv 16 15,Gd 17 16 false (.ld (some 6) (.t 1)),Gd 18 16 false (.cl 29 [(.t 17)]),Qo 19 (.pk (.t 16) (.c (.bool true)) (.t 18)),Mv 2 19] [2]) .rt))),np:=1,res:=[.t 2],mode:=.iso }
def c12:FI.Fn:={ body:=(.sq (.rg none [Qo 1 (.bx 6 (.t 0)),Qo 2 (.al 6 (.agg [(.int .u8 0),(.int .i64 0),(.int .u64 0),(.str []),(.int .i64 0),(.lst true [])])),Qo 3 (.mv (.c (.int .i64 0)))] [1,2]) (.sq (.sq (.rg none [Qo 5 (.ld (some 6) (.t 1)),Qo 6 (.cl 20 [(.t 5)]),Mv 4 6] [1,2,4]) (.sq (.rg none [Mv 7 4,Qo 8 (.bo .neq (.t 7) (.c (.int .i64 0)))] [1,2,4,8]) (.cd (.t 8) (.sq (.rg none [Qo 9 (.bd [(.int .u8 0),(.int .i64 0),(.int .u64 0),(.str []),(.int .i64 0),(.lst true [])] []),Mv 10 4,Eo (.st 6 (.t 2) (.t 9)),Mv 3 10] [2,3]) .rt) .sk))) (.sq (.rg none [Qo 11 (.ld (some 6) (.t 1)),Qo 12 (.cl 31 [(.t 11)]),Qo 13 (.cl 30 [(.t 12)]),Eo (.st 6 (.t 2) (.t 13)),Qo 3 (.mv (.c (.int .i64 0)))] [2,3]) .rt))),np:=1,res:=[.cell 2 (some 6),.t 3],mode:=.iso }
def b14_0:C:=(.sq (.sq (.rg none [Mv 48 5,Qo 49 (.fa 5 (.t 2)),Qo 50 (.ld none (.t 49)),Qo 51 (.ln 1 (.t 50)),Qo 52 (.bo .lss (.t 48) (.t 51))] [2,3,5,52]) (.cd (.t 52) .sk (.xt 0))) (.sq (.bl 1 (.sq (.rg (some (List.range 12)) [Qo 55 (.fa 5 (.t 2)),Qo 56 (.ld none (.t 55)),Mv 57 5,Qo 58 (.ia 6 (.t 56) (.t 57)),Qo 59 (.ld (some 6) (.t 58)),Qo 60 (.fa 5 (.t 3)),Qo 61 (.ld none (.t 60)),Mv 62 5,Qo 63 (.ia 6 (.t 61) (.t 62)),Qo 64 (.ld (some 6) (.t 63)),Qo 65 (.cl 14 [(.t 59),(.t 64)]),Qo 66 (.un .not (.t 65))] [2,3,5,66]) (.cd (.t 66) (.sq (.rg none [Qo 4 (.mv (.c (.bool false)))] [4]) .rt) .sk))) (.rg none [Mv 53 5,Qo 54 (.bo .add (.t 53) (.c (.int .i64 1))),Mv 5 54] [2,3,5])))
def k14_1:C:=(.sq (.rg none [Qo 4 (.mv (.c (.bool true)))] [4]) .rt)
def c14:FI.Fn:={ body:=(.sq (.rg none [Qo 2 (.bx 6 (.t 0)),Qo 3 (.bx 6 (.t 1)),Qo 4 (.mv (.c (.bool false)))] [2,3]) (.sq (.sq (.rg none [Qo 6 (.fa 0 (.t 2)),Qo 7 (.ld none (.t 6)),Qo 8 (.fa 0 (.t 3)),Qo 9 (.ld none (.t 8)),Qo 10 (.bo .neq (.t 7) (.t 9)),Mv 11 10,Gd 12 11 false (.fa 1 (.t 2)),Gd 13 11 false (.ld none (.t 12)),Gd 14 11 false (.fa 1 (.t 3)),Gd 15 11 false (.ld none (.t 14)),Gd 16 11 false (.bo .neq (.t 13) (.t 15)),Qo 17 (.pk (.t 11) (.c (.bool true)) (.t 16)),Mv 18 17,Gd 19 18 false (.fa 2 (.t 2)),Gd 20 18 false (.ld none (.t 19)),Gd 21 18 false (.fa 2 (.t 3)),Gd 22 18 false (.ld none (.t 21)),Gd 23 18 false (.bo .neq (.t 20) (.t 22)),Qo 24 (.pk (.t 18) (.c (.bool true)) (.t 23)),Mv 25 24,Gd 26 25 false (.fa 3 (.t 2)),Gd 27 25 false (.ld none (.t 26)),Gd 28 25 false (.fa 3 (.t 3)),Gd 29 25 false (.ld none (.t 28)),Gd 30 25 false (.bo .neq (.t 27) (.t 29)),Qo 31 (.pk (.t 25) (.c (.bool true)) (.t 30)),Mv 32 31,Gd 33 32 false (.fa 4 (.t 2)),Gd 34 32 false (.ld none (.t 33)),Gd 35 32 false (.fa 4 (.t 3)),Gd 36 32 false (.ld none (.t 35)),Gd 37 32 false (.bo .neq (.t 34) (.t 36)),Qo 38 (.pk (.t 32) (.c (.bool true)) (.t 37)),Mv 39 38,Gd 40 39 false (.fa 5 (.t 2)),Gd 41 39 false (.ld none (.t 40)),Gd 42 39 false (.ln 1 (.t 41)),Gd 43 39 false (.fa 5 (.t 3)),Gd 44 39 false (.ld none (.t 43)),Gd 45 39 false (.ln 1 (.t 44)),Gd 46 39 false (.bo .neq (.t 42) (.t 45)),Qo 47 (.pk (.t 39) (.c (.bool true)) (.t 46))] [2,3,47]) (.cd (.t 47) (.sq (.rg none [Qo 4 (.mv (.c (.bool false)))] [4]) .rt) .sk)) (.sq (.sq (.rg none [Qo 5 (.mv (.c (.int .i64 0)))] [2,3,5]) (.bl 0 (.lp true b14_0))) k14_1))),np:=2,res:=[.t 4],mode:=.isf }
def c15:FI.Fn:={ body:=(.sq (.rg none [Qo 4 (.mv (.c (.bool false)))] [0,1]) (.sq (.rg none [Mv 12 0,Qo 13 (.cl 34 [(.t 12)]),Mv 11 13,Qo 14 (.ex (.t 11) 0),Qo 15 (.ex (.t 11) 1),Qo 5 (.al 6 (.agg [(.int .u8 0),(.int .i64 0),(.int .u64 0),(.str []),(.int .i64 0),(.lst true [])])),Eo (.st 6 (.t 5) (.t 14)),Mv 6 15] [1,5,6]) (.sq (.rg none [Qo 17 (.ld (some 6) (.t 5)),Qo 18 (.cl 12 [(.t 17)]),Mv 16 18,Qo 19 (.ex (.t 16) 0),Qo 20 (.ex (.t 16) 1),Qo 7 (.al 6 (.agg [(.int .u8 0),(.int .i64 0),(.int .u64 0),(.str []),(.int .i64 0),(.lst true [])])),Eo (.st 6 (.t 7) (.t 19)),Mv 8 20] [1,6,7,8]) (.sq (.rq [Qo 22 (.ld (some 6) (.t 7)),Qo 23 (.cl 35 [(.t 22)]),Mv 21 23,Qo 24 (.ex (.t 21) 0),Qo 25 (.ex (.t 21) 1),Mv 9 24,Mv 10 25] [1,6,8,9,10]) (.sq (.rg none [Mv 26 6,Qo 27 (.bo .eql (.t 26) (.c (.int .i64 0))),Mv 28 27,Gm 29 28 true 8,Gd 30 28 true (.bo .eql (.t 29) (.c (.int .i64 0))),Qo 31 (.pk (.t 28) (.t 30) (.c (.bool false))),Mv 32 31,Gm 33 32 true 10,Gd 34 32 true (.bo .eql (.t 33) (.c (.int .i64 0))),Qo 35 (.pk (.t 32) (.t 34) (.c (.bool false))),Mv 36 35,Gm 37 36 true 9,Gm 38 36 true 1,Gd 39 36 true (.bo .eql (.t 37) (.t 38)),Qo 40 (.pk (.t 36) (.t 39) (.c (.bool false))),Mv 4 40] [4]) .rt))))),np:=2,res:=[.t 4],mode:=.iso }
def c17:FI.Fn:={ body:=(.sq (.rg none [Qo 0 (.mv (.c (.bool false)))] []) (.sq (.rq [Qo 1 (.cl 15 [(.c (.str [40,97,100,100,32,40,109,117,108,32,97,58,56,32,56,58,48,49,41,32,40,115,117,98,32,98,58,56,32,98,58,56,41,41])),(.c (.str [97,58,56]))]),Mv 2 1,Gd 3 2 true (.cl 15 [(.c (.str [40,99,111,110,99,97,116,32,56,58,48,48,32,40,122,101,120,116,32,56,32,99,58,52,41,41])),(.c (.str [40,122,101,120,116,32,49,54,32,99,58,52,41]))]),Qo 4 (.pk (.t 2) (.t 3) (.c (.bool false))),Mv 0 4] [0]) .rt)),np:=0,res:=[.t 0],mode:=.iso }
def b18_0:C:=(.sq (.sq (.rg none [Mv 14 5,Mv 15 0,Qo 16 (.ln 1 (.t 15)),Qo 17 (.bo .lss (.t 14) (.t 16))] [0,5,17]) (.cd (.t 17) .sk (.xt 0))) (.sq (.bl 1 (.sq (.rg none [Mv 20 0,Mv 21 5,Qo 22 (.ia 3 (.t 20) (.t 21)),Qo 23 (.fa 0 (.t 22)),Qo 24 (.ld none (.t 23)),Qo 25 (.ln 0 (.t 24)),Qo 26 (.bo .gtr (.t 25) (.c (.int .i64 200)))] [0,5,26]) (.cd (.t 26) (.sq (.rg none [Qo 4 (.mv (.c (.bool true)))] [4]) .rt) .sk))) (.rg none [Mv 18 5,Qo 19 (.bo .add (.t 18) (.c (.int .i64 1))),Mv 5 19] [0,5])))
def k18_1:C:=(.sq (.rg none [Qo 4 (.mv (.c (.bool false)))] [4]) .rt)
def c18:FI.Fn:={ body:=(.sq (.rg none [Qo 4 (.mv (.c (.bool false)))] [0,1]) (.sq (.sq (.rg none [Mv 6 0,Qo 7 (.ln 1 (.t 6)),Qo 8 (.bo .gtr (.t 7) (.c (.int .i64 1100))),Mv 9 8,Gm 10 9 false 1,Gd 11 9 false (.ln 1 (.t 10)),Gd 12 9 false (.bo .gtr (.t 11) (.c (.int .i64 4200))),Qo 13 (.pk (.t 9) (.c (.bool true)) (.t 12))] [0,13]) (.cd (.t 13) (.sq (.rg none [Qo 4 (.mv (.c (.bool true)))] [4]) .rt) .sk)) (.sq (.sq (.rg none [Qo 5 (.mv (.c (.int .i64 0)))] [0,5]) (.bl 0 (.lp true b18_0))) k18_1))),np:=2,res:=[.t 4],mode:=.iso }
def b19_0:C:=(.sq (.rg none [Qo 39 (.bo .lss (.t 38) (.t 37))] [1,2,3,12,36,37,38,39]) (.sq (.cd (.t 39) .sk (.xt 0)) (.sq (.bl 1 (.sq (.rg none [Qo 40 (.ia 3 (.t 36) (.t 38)),Qo 41 (.ld (some 3) (.t 40)),Qo 14 (.al 3 (.agg [(.str []),(.int .i64 0),(.int .u64 0)])),Eo (.st 3 (.t 14) (.t 41))] [1,2,3,12,14,36,37,38]) (.sq (.rg none [Mv 43 1,Qo 44 (.fa 0 (.t 14)),Qo 45 (.ld none (.t 44)),Qo 46 (.cl 38 [(.t 43),(.t 45),(.c (.fn 39 []))]),Mv 42 46,Qo 47 (.ex (.t 42) 0),Qo 48 (.ex (.t 42) 1),Mv 15 47,Mv 16 48] [1,2,3,12,14,15,16,36,37,38]) (.sq (.sq (.rg none [Mv 49 16,Qo 50 (.un .not (.t 49))] [1,2,3,12,14,15,36,37,38,50]) (.cd (.t 50) (.sq (.rg none [Qo 6 (.mv (.c (.int .u64 0))),Qo 7 (.mv (.c (.int .i64 16)))] [6,7]) .rt) .sk)) (.sq (.sq (.rg (some (List.range 8)) [Mv 51 1,Mv 52 15,Qo 53 (.ia 3 (.t 51) (.t 52)),Qo 54 (.fa 1 (.t 53)),Qo 55 (.ld none (.t 54)),Qo 56 (.fa 1 (.t 14)),Qo 57 (.ld none (.t 56)),Qo 58 (.bo .neq (.t 55) (.t 57))] [1,2,3,12,14,15,36,37,38,58]) (.cd (.t 58) (.sq (.rg none [Qo 6 (.mv (.c (.int .u64 0))),Qo 7 (.mv (.c (.int .i64 14)))] [6,7]) .rt) .sk)) (.rg (some (List.range 9)) [Mv 59 12,Qo 60 (.fa 0 (.t 14)),Qo 61 (.ld none (.t 60)),Mv 62 1,Mv 63 15,Qo 64 (.ia 3 (.t 62) (.t 63)),Qo 65 (.fa 2 (.t 64)),Qo 66 (.ld none (.t 65)),Eo (.mu 1 (.t 59) (.t 61) (.t 66))] [1,2,3,12,36,37,38])))))) (.rg none [Qo 67 (.bo .add (.t 38) (.c (.int .i64 1))),Mv 38 67] [1,2,3,12,36,37,38]))))
def k19_1:C:=(.sq (.rg none [Qo 68 (.ld (some 6) (.t 3)),Mv 69 12,Mv 70 2,Qo 71 (.cl 41 [(.t 68),(.t 69),(.t 70)]),Mv 6 71,Qo 7 (.mv (.c (.int .i64 0)))] [6,7]) .rt)
def c19:FI.Fn:={ body:=(.sq (.rg none [Qo 3 (.bx 6 (.t 0)),Qo 6 (.mv (.c (.int .u64 0))),Qo 7 (.mv (.c (.int .i64 0)))] [1,2,3]) (.sq (.rg none [Qo 18 (.ld (some 6) (.t 3)),Qo 19 (.cl 22 [(.t 18)]),Mv 17 19,Qo 20 (.ex (.t 17) 0),Qo 21 (.ex (.t 17) 1),Mv 8 20,Mv 9 21] [1,2,3,8,9]) (.sq (.sq (.rg none [Mv 22 9,Qo 23 (.bo .neq (.t 22) (.c (.int .i64 0)))] [1,2,3,8,9,23]) (.cd (.t 23) (.sq (.rg none [Mv 24 9,Qo 6 (.mv (.c (.int .u64 0))),Mv 7 24] [6,7]) .rt) .sk)) (.sq (.sq (.rg none [Mv 25 1,Qo 26 (.cl 36 [(.t 25)]),Mv 10 26] [1,2,3,8,10]) (.sq (.rg none [Mv 27 10,Qo 28 (.bo .neq (.t 27) (.c (.int .i64 0)))] [1,2,3,8,10,28]) (.cd (.t 28) (.sq (.rg none [Mv 29 10,Qo 6 (.mv (.c (.int .u64 0))),Mv 7 29] [6,7]) .rt) .sk))) (.sq (.sq (.rg none [Mv 30 2,Qo 31 (.cl 37 [(.t 30)]),Mv 11 31] [1,2,3,8,11]) (.sq (.rg none [Mv 32 11,Qo 33 (.bo .neq (.t 32) (.c (.int .i64 0)))] [1,2,3,8,11,33]) (.cd (.t 33) (.sq (.rg none [Mv 34 11,Qo 6 (.mv (.c (.int .u64 0))),Mv 7 34] [6,7]) .rt) .sk))) (.sq (.rg none [Qo 35 (.mm),Mv 12 35] [1,2,3,8,12]) (.sq (.sq (.rg none [Mv 36 8,Qo 37 (.ln 1 (.t 36)),Qo 38 (.mv (.c (.int .i64 0)))] [1,2,3,12,36,37,38]) (.bl 0 (.lp true b19_0))) k19_1))))))),np:=3,res:=[.t 6,.t 7],mode:=.isf }
def b20_0:C:=(.bl 1 (.sq (.rg none [Qo 17 (.ld (some 6) (.t 3)),Qo 18 (.cl 43 [(.t 17)]),Qo 19 (.un .not (.t 18))] [2,19]) (.cd (.t 19) (.sq (.rg none [Eo (.st 1 (.t 2) (.c (.int .i64 8)))] [2]) .rt) .sk)))
def a20_1:C:=(.rg none [Qo 3 (.al 6 (.agg [(.int .u8 0),(.int .i64 0),(.int .u64 0),(.str []),(.int .i64 0),(.lst true [])])),Eo (.st 6 (.t 3) (.t 16))] [2,3])
def k20_2:C:=(.sq (.sq (.rg none [Qo 21 (.ld (some 6) (.t 1)),Qo 22 (.cl 44 [(.t 21)]),Mv 20 22,Qo 23 (.ex (.t 20) 0),Qo 24 (.ex (.t 20) 1),Mv 4 23,Mv 5 24] [2,5]) (.sq (.rg none [Mv 25 5,Qo 26 (.un .not (.t 25))] [2,26]) (.cd (.t 26) (.sq (.rg none [Eo (.st 1 (.t 2) (.c (.int .i64 14)))] [2]) .rt) .sk))) (.sq (.rg none [Eo (.st 1 (.t 2) (.c (.int .i64 0)))] [2]) .rt))
def r1002000:FI.Rd:={ ps:=[16],ct:=[2],asg:=a20_1,body:=b20_0 }
def c20:FI.Fn:={ body:=(.sq (.rg none [Qo 1 (.bx 6 (.t 0)),Qo 2 (.al 1 (.int .i64 0))] [1,2]) (.sq (.sq (.rg none [Qo 6 (.ld (some 6) (.t 1)),Qo 7 (.cl 23 [(.t 6)]),Qo 8 (.bo .gtr (.t 7) (.c (.int .i64 400))),Mv 9 8,Gd 10 9 false (.ld (some 6) (.t 1)),Gd 11 9 false (.cl 24 [(.t 10)]),Gd 12 9 false (.bo .gtr (.t 11) (.c (.int .i64 60))),Qo 13 (.pk (.t 9) (.c (.bool true)) (.t 12))] [1,2,13]) (.cd (.t 13) (.sq (.rg none [Eo (.st 1 (.t 2) (.c (.int .i64 4)))] [2]) .rt) .sk)) (.sq (.sq (.rg none [Qo 14 (.ld (some 6) (.t 1)),Qo 15 (.cl 42 [(.t 14)])] [1,2,15]) (.bl 0 (.rf 1002000 (.t 15) [2]))) k20_2))),np:=1,res:=[.cell 2 none],mode:=.isf }
def c21:FI.Fn:={ body:=(.sq (.rg none [Qo 4 (.al 6 (.agg [(.int .u8 0),(.int .i64 0),(.int .u64 0),(.str []),(.int .i64 0),(.lst true [])]))] [0,1,4]) (.sq (.rg none [Mv 5 0,Mv 6 1,Qo 7 (.bd [(.int .u8 0),(.int .i64 0),(.int .u64 0),(.str []),(.int .i64 0),(.lst true [])] [(0,1,(.c (.int .u8 1))),(1,1,(.t 5)),(2,1,(.t 6))]),Eo (.st 6 (.t 4) (.t 7))] [4]) .rt)),np:=2,res:=[.cell 4 (some 6)],mode:=.iso }
def b22_0:C:=(.rg none [Mv 27 7,Mv 28 8,Mv 29 9,Qo 30 (.bd [(.str []),(.int .i64 0),(.int .u64 0)] [(0,1,(.t 28)),(1,1,(.t 29))]),Qo 31 (.bs 3 1 (.agg [(.str []),(.int .i64 0),(.int .u64 0)]) [(0,(.t 30))]),Qo 32 (.ap 3 32 (.t 27) (.t 31)),Mv 7 32] [2,3,7,21])
def k22_1:C:=(.sq (.rg none [Mv 33 7,Qo 34 (.cl 45 [(.t 33),(.c (.fn 46 []))])] [2,3,7]) (.sq (.rg none [Mv 35 7,Mv 2 35,Qo 3 (.mv (.c (.int .i64 0)))] [2,3]) .rt))
def c22:FI.Mr:={ pre:=[(.rg none [Qo 1 (.bx 6 (.t 0)),Qo 2 (.mv (.c (.lst true []))),Qo 3 (.mv (.c (.int .i64 0)))] [1,2,3]),(.sq (.rg none [Qo 10 (.ld (some 6) (.t 1)),Qo 11 (.cl 20 [(.t 10)]),Mv 4 11] [1,2,3,4]) (.sq (.rg none [Mv 12 4,Qo 13 (.bo .neq (.t 12) (.c (.int .i64 0)))] [1,2,3,4,13]) (.cd (.t 13) (.sq (.rg none [Mv 14 4,Qo 2 (.mv (.c (.lst true []))),Mv 3 14] [2,3]) .rt) .sk))),(.rg none [Qo 16 (.ld (some 6) (.t 1)),Qo 17 (.cl 44 [(.t 16)]),Mv 15 17,Qo 18 (.ex (.t 15) 0),Qo 19 (.ex (.t 15) 1),Mv 5 18,Mv 6 19] [2,3,5]),(.rg none [Qo 7 (.nl 3)] [2,3,5,7])],keep0:=[2,3,7,21],mp:=5,it:=21,d:=24,ops:=[Qo 25 (.ex (.t 24) 0),Qo 26 (.ex (.t 24) 1),Mv 8 25,Mv 9 26],keep:=[2,3,7,8,9,21],body:=b22_0,post:=k22_1,np:=1,res:=[.t 2,.t 3] }
def b23_0:C:=(.bl 1 (.rg none [Qo 7 (.ld none (.t 3)),Qo 8 (.bo .add (.t 7) (.c (.int .i64 1))),Eo (.st 1 (.t 3) (.t 8))] []))
def k23_1:C:=(.sq (.rg none [Qo 9 (.ld none (.t 3)),Mv 2 9] [2]) .rt)
def r1002300:FI.Rd:={ ps:=[6],ct:=[3],asg:=.sk,body:=b23_0 }
def c23:FI.Fn:={ body:=(.sq (.rg none [Qo 1 (.bx 6 (.t 0)),Qo 2 (.mv (.c (.int .i64 0)))] [1]) (.sq (.rg none [Qo 3 (.al 1 (.int .i64 0)),Eo (.st 1 (.t 3) (.c (.int .i64 0)))] [1,3]) (.sq (.sq (.rg none [Qo 4 (.ld (some 6) (.t 1)),Qo 5 (.cl 42 [(.t 4)])] [3,5]) (.bl 0 (.rf 1002300 (.t 5) [3]))) k23_1))),np:=1,res:=[.t 2],mode:=.iso }
def b24_0:C:=(.sq (.rg none [Qo 10 (.bo .lss (.t 9) (.t 8))] [3,7,8,9,10]) (.sq (.cd (.t 10) .sk (.xt 0)) (.sq (.bl 1 (.sq (.rg none [Qo 11 (.ia 6 (.t 7) (.t 9)),Qo 12 (.ld (some 6) (.t 11)),Qo 5 (.al 6 (.agg [(.int .u8 0),(.int .i64 0),(.int .u64 0),(.str []),(.int .i64 0),(.lst true [])])),Eo (.st 6 (.t 5) (.t 12))] [3,5,7,8,9]) (.rg none [Mv 13 3,Qo 14 (.ld (some 6) (.t 5)),Qo 15 (.cl 24 [(.t 14)]),Qo 16 (.mx (.t 13) (.t 15)),Mv 3 16] [3,7,8,9]))) (.rg none [Qo 17 (.bo .add (.t 9) (.c (.int .i64 1))),Mv 9 17] [3,7,8,9]))))
def k24_1:C:=(.sq (.rg none [Mv 18 3,Qo 19 (.bo .add (.t 18) (.c (.int .i64 1))),Mv 2 19] [2]) .rt)
def c24:FI.Fn:={ body:=(.sq (.rg none [Qo 1 (.bx 6 (.t 0)),Qo 2 (.mv (.c (.int .i64 0)))] [1]) (.sq (.rg none [Qo 3 (.mv (.c (.int .i64 0)))] [1,3]) (.sq (.sq (.rg none [Qo 6 (.fa 5 (.t 1)),Qo 7 (.ld none (.t 6)),Qo 8 (.ln 1 (.t 7)),Qo 9 (.mv (.c (.int .i64 0)))] [3,7,8,9]) (.bl 0 (.lp true b24_0))) k24_1))),np:=1,res:=[.t 2],mode:=.iso }
def b25_0:C:=(.bl 1 (.sq (.rg none [Qo 10 (.fa 0 (.t 3)),Qo 11 (.ld none (.t 10)),Qo 12 (.bo .eql (.t 11) (.c (.int .u8 24)))] [2,12]) (.cd (.t 12) (.sq (.rg none [Eo (.st 1 (.t 2) (.c (.bool false)))] [2]) .rt) .sk)))
def a25_1:C:=(.rg none [Qo 3 (.al 6 (.agg [(.int .u8 0),(.int .i64 0),(.int .u64 0),(.str []),(.int .i64 0),(.lst true [])])),Eo (.st 6 (.t 3) (.t 9))] [2,3])
def k25_2:C:=(.sq (.rg none [Eo (.st 1 (.t 2) (.c (.bool true)))] [2]) .rt)
def r1002500:FI.Rd:={ ps:=[9],ct:=[2],asg:=a25_1,body:=b25_0 }
def c25:FI.Fn:={ body:=(.sq (.rg none [Qo 1 (.bx 6 (.t 0)),Qo 2 (.al 1 (.bool false))] [1,2]) (.sq (.sq (.rg none [Qo 4 (.ld (some 6) (.t 1)),Qo 5 (.cl 20 [(.t 4)]),Qo 6 (.bo .neq (.t 5) (.c (.int .i64 0)))] [1,2,6]) (.cd (.t 6) (.sq (.rg none [Eo (.st 1 (.t 2) (.c (.bool false)))] [2]) .rt) .sk)) (.sq (.sq (.rg none [Qo 7 (.ld (some 6) (.t 1)),Qo 8 (.cl 42 [(.t 7)])] [2,8]) (.bl 0 (.rf 1002500 (.t 8) [2]))) k25_2))),np:=1,res:=[.cell 2 none],mode:=.iso }
def b26_0:C:=(.sq (.sq (.rg none [Mv 7 6,Mv 8 0,Qo 9 (.ln 1 (.t 8)),Qo 10 (.bo .lss (.t 7) (.t 9))] [0,1,4,6,10]) (.cd (.t 10) .sk (.xt 0))) (.sq (.bl 1 (.sq (.rg none [Mv 13 0,Mv 14 6,Qo 15 (.ia 3 (.t 13) (.t 14)),Qo 16 (.fa 0 (.t 15)),Qo 17 (.ld none (.t 16)),Mv 18 1,Qo 19 (.bo .eql (.t 17) (.t 18))] [0,1,4,6,19]) (.cd (.t 19) (.sq (.rg none [Mv 20 0,Mv 21 6,Qo 22 (.ia 3 (.t 20) (.t 21)),Qo 23 (.ld (some 3) (.t 22)),Eo (.st 3 (.t 4) (.t 23)),Qo 5 (.mv (.c (.bool true)))] [4,5]) .rt) .sk))) (.rg none [Mv 11 6,Qo 12 (.bo .add (.t 11) (.c (.int .i64 1))),Mv 6 12] [0,1,4,6])))
def k26_1:C:=(.sq (.rg none [Qo 24 (.bd [(.str []),(.int .i64 0),(.int .u64 0)] []),Eo (.st 3 (.t 4) (.t 24)),Qo 5 (.mv (.c (.bool false)))] [4,5]) .rt)
def c26:FI.Fn:={ body:=(.sq (.rg none [Qo 4 (.al 3 (.agg [(.str []),(.int .i64 0),(.int .u64 0)])),Qo 5 (.mv (.c (.bool false)))] [0,1,4]) (.sq (.sq (.rg none [Qo 6 (.mv (.c (.int .i64 0)))] [0,1,4,6]) (.bl 0 (.lp true b26_0))) k26_1)),np:=2,res:=[.cell 4 (some 3),.t 5],mode:=.iso }
def c27:FI.Fn:={ body:=(.sq (.rg none [Qo 3 (.bx 6 (.t 0)),Qo 5 (.bx 6 (.t 2)),Qo 6 (.al 6 (.agg [(.int .u8 0),(.int .i64 0),(.int .u64 0),(.str []),(.int .i64 0),(.lst true [])])),Qo 7 (.mv (.c (.int .i64 0)))] [1,3,5,6]) (.sq (.sq (.rg none [Qo 16 (.ld (some 6) (.t 3)),Qo 17 (.cl 20 [(.t 16)]),Mv 8 17] [1,3,5,6,8]) (.sq (.rg none [Mv 18 8,Qo 19 (.bo .neq (.t 18) (.c (.int .i64 0)))] [1,3,5,6,8,19]) (.cd (.t 19) (.sq (.rg none [Qo 20 (.bd [(.int .u8 0),(.int .i64 0),(.int .u64 0),(.str []),(.int .i64 0),(.lst true [])] []),Mv 21 8,Eo (.st 6 (.t 6) (.t 20)),Mv 7 21] [6,7]) .rt) .sk))) (.sq (.sq (.rg none [Qo 22 (.ld (some 6) (.t 5)),Qo 23 (.cl 20 [(.t 22)]),Mv 9 23] [1,3,5,6,9]) (.sq (.rg none [Mv 24 9,Qo 25 (.bo .neq (.t 24) (.c (.int .i64 0)))] [1,3,5,6,9,25]) (.cd (.t 25) (.sq (.rg none [Qo 26 (.bd [(.int .u8 0),(.int .i64 0),(.int .u64 0),(.str []),(.int .i64 0),(.lst true [])] []),Mv 27 9,Eo (.st 6 (.t 6) (.t 26)),Mv 7 27] [6,7]) .rt) .sk))) (.sq (.rg none [Qo 29 (.ld (some 6) (.t 3)),Qo 30 (.cl 44 [(.t 29)]),Mv 28 30,Qo 31 (.ex (.t 28) 0),Qo 32 (.ex (.t 28) 1),Mv 10 31,Mv 11 32] [1,3,5,6,10]) (.sq (.sq (.rg none [Mv 34 10,Mv 35 1,Qo 36 (.lk 1 (.int .i64 0) true (.t 34) (.t 35)),Mv 33 36,Qo 37 (.ex (.t 33) 0),Qo 38 (.ex (.t 33) 1),Mv 12 37,Mv 13 38] [1,3,5,6,12,13]) (.sq (.rg none [Mv 39 13,Mv 40 39,Gm 41 40 true 12,Gd 42 40 true (.fa 1 (.t 5)),Gd 43 40 true (.ld none (.t 42)),Gd 44 40 true (.bo .neq (.t 41) (.t 43)),Qo 45 (.pk (.t 40) (.t 44) (.c (.bool false)))] [1,3,5,6,45]) (.cd (.t 45) (.sq (.rg none [Qo 46 (.bd [(.int .u8 0),(.int .i64 0),(.int .u64 0),(.str []),(.int .i64 0),(.lst true [])] []),Eo (.st 6 (.t 6) (.t 46)),Qo 7 (.mv (.c (.int .i64 14)))] [6,7]) .rt) .sk))) (.sq (.sq (.rg (some (List.range 6)) [Qo 47 (.ld (some 6) (.t 3)),Mv 48 1,Qo 49 (.ld (some 6) (.t 5)),Qo 50 (.cl 23 [(.t 49)]),Qo 51 (.cl 47 [(.t 47),(.t 48),(.t 50)]),Qo 52 (.bo .gtr (.t 51) (.c (.int .i64 400)))] [1,3,5,6,52]) (.cd (.t 52) (.sq (.rg none [Qo 53 (.bd [(.int .u8 0),(.int .i64 0),(.int .u64 0),(.str []),(.int .i64 0),(.lst true [])] []),Eo (.st 6 (.t 6) (.t 53)),Qo 7 (.mv (.c (.int .i64 4)))] [6,7]) .rt) .sk)) (.sq (.rg none [Qo 54 (.ld (some 6) (.t 3)),Mv 55 1,Qo 56 (.ld (some 6) (.t 5)),Qo 57 (.cl 48 [(.t 54),(.t 55),(.t 56)]),Qo 58 (.cl 30 [(.t 57)]),Qo 14 (.al 6 (.agg [(.int .u8 0),(.int .i64 0),(.int .u64 0),(.str []),(.int .i64 0),(.lst true [])])),Eo (.st 6 (.t 14) (.t 58))] [6,14]) (.sq (.sq (.rg none [Qo 59 (.ld (some 6) (.t 14)),Qo 60 (.cl 20 [(.t 59)]),Mv 15 60] [6,14,15]) (.sq (.rg none [Mv 61 15,Qo 62 (.bo .neq (.t 61) (.c (.int .i64 0)))] [6,14,15,62]) (.cd (.t 62) (.sq (.rg none [Qo 63 (.bd [(.int .u8 0),(.int .i64 0),(.int .u64 0),(.str []),(.int .i64 0),(.lst true [])] []),Mv 64 15,Eo (.st 6 (.t 6) (.t 63)),Mv 7 64] [6,7]) .rt) .sk))) (.sq (.rg none [Qo 65 (.ld (some 6) (.t 14)),Eo (.st 6 (.t 6) (.t 65)),Qo 7 (.mv (.c (.int .i64 0)))] [6,7]) .rt))))))))),np:=3,res:=[.cell 6 (some 6),.t 7],mode:=.iso }
def b28_0:C:=(.sq (.sq (.rg none [Mv 14 9,Qo 15 (.fa 5 (.t 3)),Qo 16 (.ld none (.t 15)),Qo 17 (.ln 1 (.t 16)),Qo 18 (.bo .lss (.t 14) (.t 17)),Mv 19 18,Gm 20 19 true 8,Gm 21 19 true 1,Gd 22 19 true (.bo .leq (.t 20) (.t 21)),Qo 23 (.pk (.t 19) (.t 22) (.c (.bool false)))] [1,2,3,8,9,23]) (.cd (.t 23) .sk (.xt 0))) (.sq (.bl 1 (.sq (.rg none [Qo 27 (.fa 5 (.t 3)),Qo 28 (.ld none (.t 27)),Mv 29 9,Qo 30 (.ia 6 (.t 28) (.t 29)),Qo 31 (.ld (some 6) (.t 30)),Mv 32 1,Mv 33 8,Qo 34 (.bo .sub (.t 32) (.t 33)),Mv 35 2,Qo 36 (.bo .sub (.t 35) (.c (.int .i64 1))),Qo 37 (.cl 28 [(.t 31),(.t 34),(.t 36)]),Mv 26 37,Qo 38 (.ex (.t 26) 0),Qo 39 (.ex (.t 26) 1),Mv 10 38,Mv 11 39] [1,2,3,8,9,10,11]) (.sq (.sq (.rg none [Mv 40 11,Qo 41 (.un .not (.t 40))] [1,2,3,8,9,10,41]) (.cd (.t 41) (.sq (.rg none [Mv 42 8,Mv 6 42,Qo 7 (.mv (.c (.bool false)))] [6,7]) .rt) .sk)) (.rg none [Mv 43 8,Mv 44 10,Qo 45 (.bo .add (.t 43) (.t 44)),Mv 8 45] [1,2,3,8,9])))) (.rg none [Mv 24 9,Qo 25 (.bo .add (.t 24) (.c (.int .i64 1))),Mv 9 25] [1,2,3,8,9])))
def k28_1:C:=(.sq (.rg none [Mv 46 8,Mv 6 46,Qo 7 (.mv (.c (.bool true)))] [6,7]) .rt)
def c28:FI.Fn:={ body:=(.sq (.rg none [Qo 3 (.bx 6 (.t 0)),Qo 6 (.mv (.c (.int .i64 0))),Qo 7 (.mv (.c (.bool false)))] [1,2,3]) (.sq (.sq (.rg none [Mv 12 2,Qo 13 (.bo .eql (.t 12) (.c (.int .i64 0)))] [1,2,3,13]) (.cd (.t 13) (.sq (.rg none [Qo 6 (.mv (.c (.int .i64 1))),Qo 7 (.mv (.c (.bool false)))] [6,7]) .rt) .sk)) (.sq (.rg none [Qo 8 (.mv (.c (.int .i64 1)))] [1,2,3,8]) (.sq (.sq (.rg none [Qo 9 (.mv (.c (.int .i64 0)))] [1,2,3,8,9]) (.bl 0 (.lp true b28_0))) k28_1)))),np:=3,res:=[.t 6,.t 7],mode:=.iso }
def b29_0:C:=(.sq (.sq (.rg none [Mv 4 3,Qo 5 (.fa 5 (.t 1)),Qo 6 (.ld none (.t 5)),Qo 7 (.ln 1 (.t 6)),Qo 8 (.bo .lss (.t 4) (.t 7))] [1,3,8]) (.cd (.t 8) .sk (.xt 0))) (.sq (.bl 1 (.sq (.rg none [Qo 11 (.fa 5 (.t 1)),Qo 12 (.ld none (.t 11)),Mv 13 3,Qo 14 (.ia 6 (.t 12) (.t 13)),Qo 15 (.ld (some 6) (.t 14)),Qo 16 (.cl 29 [(.t 15)])] [1,3,16]) (.cd (.t 16) (.sq (.rg none [Qo 2 (.mv (.c (.bool true)))] [2]) .rt) .sk))) (.rg none [Mv 9 3,Qo 10 (.bo .add (.t 9) (.c (.int .i64 1))),Mv 3 10] [1,3])))
def k29_1:C:=(.sq (.rg none [Qo 17 (.fa 3 (.t 1)),Qo 18 (.ld none (.t 17)),Qo 19 (.ln 0 (.t 18)),Qo 20 (.bo .gtr (.t 19) (.c (.int .i64 200))),Mv 2 20] [2]) .rt)
def c29:FI.Fn:={ body:=(.sq (.rg none [Qo 1 (.bx 6 (.t 0)),Qo 2 (.mv (.c (.bool false)))] [1]) (.sq (.sq (.rg none [Qo 3 (.mv (.c (.int .i64 0)))] [1,3]) (.bl 0 (.lp true b29_0))) k29_1)),np:=1,res:=[.t 2],mode:=.iso }
def b30_0:C:=(.sq (.rg none [Qo 10 (.bo .lss (.t 9) (.t 8))] [1,2,3,7,8,9,10]) (.sq (.cd (.t 10) .sk (.xt 0)) (.sq (.bl 1 (.sq (.rg none [Qo 11 (.ia 6 (.t 7) (.t 9)),Qo 12 (.ld (some 6) (.t 11)),Qo 5 (.al 6 (.agg [(.int .u8 0),(.int .i64 0),(.int .u64 0),(.str []),(.int .i64 0),(.lst true [])])),Eo (.st 6 (.t 5) (.t 12))] [1,2,3,5,7,8,9]) (.rg none [Mv 13 3,Qo 14 (.ld (some 6) (.t 5)),Qo 15 (.cl 30 [(.t 14)]),Qo 16 (.bs 6 1 (.agg [(.int .u8 0),(.int .i64 0),(.int .u64 0),(.str []),(.int .i64 0),(.lst true [])]) [(0,(.t 15))]),Qo 17 (.ap 6 72 (.t 13) (.t 16)),Mv 3 17] [1,2,3,7,8,9]))) (.rg none [Qo 18 (.bo .add (.t 9) (.c (.int .i64 1))),Mv 9 18] [1,2,3,7,8,9]))))
def k30_1:C:=(.sq (.rg none [Mv 19 3,Qo 20 (.fa 5 (.t 1)),Eo (.st 1 (.t 20) (.t 19))] [1,2]) (.sq (.rg none [Qo 21 (.ld (some 6) (.t 1)),Eo (.st 6 (.t 2) (.t 21))] [2]) .rt))
def c30:FI.Fn:={ body:=(.sq (.rg none [Qo 1 (.bx 6 (.t 0)),Qo 2 (.al 6 (.agg [(.int .u8 0),(.int .i64 0),(.int .u64 0),(.str []),(.int .i64 0),(.lst true [])]))] [1,2]) (.sq (.rg none [Qo 3 (.nl 6)] [1,2,3]) (.sq (.sq (.rg none [Qo 6 (.fa 5 (.t 1)),Qo 7 (.ld none (.t 6)),Qo 8 (.ln 1 (.t 7)),Qo 9 (.mv (.c (.int .i64 0)))] [1,2,3,7,8,9]) (.bl 0 (.lp true b30_0))) k30_1))),np:=1,res:=[.cell 2 (some 6)],mode:=.iso }
def b31_0:C:=(.sq (.rg none [Qo 16 (.bo .lss (.t 15) (.t 14))] [1,2,3,13,14,15,16]) (.sq (.cd (.t 16) .sk (.xt 0)) (.sq (.bl 1 (.sq (.rg none [Qo 17 (.ia 6 (.t 13) (.t 15)),Qo 18 (.ld (some 6) (.t 17)),Qo 5 (.al 6 (.agg [(.int .u8 0),(.int .i64 0),(.int .u64 0),(.str []),(.int .i64 0),(.lst true [])])),Eo (.st 6 (.t 5) (.t 18))] [1,2,3,5,13,14,15]) (.rg none [Mv 19 3,Qo 20 (.ld (some 6) (.t 5)),Qo 21 (.cl 31 [(.t 20)]),Qo 22 (.bs 6 1 (.agg [(.int .u8 0),(.int .i64 0),(.int .u64 0),(.str []),(.int .i64 0),(.lst true [])]) [(0,(.t 21))]),Qo 23 (.ap 6 72 (.t 19) (.t 22)),Mv 3 23] [1,2,3,13,14,15]))) (.rg none [Qo 24 (.bo .add (.t 15) (.c (.int .i64 1))),Mv 15 24] [1,2,3,13,14,15]))))
def b31_1:C:=(.sq (.rg none [Qo 39 (.bo .lss (.t 38) (.t 37))] [1,2,36,37,38,39]) (.sq (.cd (.t 39) .sk (.xt 2)) (.sq (.bl 3 (.sq (.rg none [Qo 40 (.ia 1 (.t 36) (.t 38)),Qo 41 (.ld none (.t 40)),Mv 9 41] [1,2,9,36,37,38]) (.sq (.rg none [Mv 43 9,Qo 44 (.ld (some 6) (.t 1)),Qo 45 (.cw (.t 43) [(.t 44)]),Mv 42 45,Qo 46 (.ex (.t 42) 0),Qo 47 (.ex (.t 42) 1),Qo 10 (.al 6 (.agg [(.int .u8 0),(.int .i64 0),(.int .u64 0),(.str []),(.int .i64 0),(.lst true [])])),Eo (.st 6 (.t 10) (.t 46)),Mv 11 47] [1,2,10,11,36,37,38]) (.sq (.rg none [Mv 48 11] [1,2,10,36,37,38,48]) (.cd (.t 48) (.sq (.rg none [Qo 49 (.ld (some 6) (.t 10)),Eo (.st 6 (.t 2) (.t 49))] [2]) .rt) .sk))))) (.rg none [Qo 50 (.bo .add (.t 38) (.c (.int .i64 1))),Mv 38 50] [1,2,36,37,38]))))
def k31_2:C:=(.sq (.rg none [Qo 51 (.ld (some 6) (.t 1)),Eo (.st 6 (.t 2) (.t 51))] [2]) .rt)
def k31_3:C:=(.sq (.rg none [Mv 25 3,Qo 26 (.fa 5 (.t 1)),Eo (.st 1 (.t 26) (.t 25))] [1,2]) (.sq (.sq (.rg none [Qo 28 (.ld (some 6) (.t 1)),Qo 29 (.cl 49 [(.t 28)]),Mv 27 29,Qo 30 (.ex (.t 27) 0),Qo 31 (.ex (.t 27) 1),Qo 6 (.al 6 (.agg [(.int .u8 0),(.int .i64 0),(.int .u64 0),(.str []),(.int .i64 0),(.lst true [])])),Eo (.st 6 (.t 6) (.t 30)),Mv 7 31] [1,2,6,7]) (.sq (.rg none [Mv 32 7] [1,2,6,32]) (.cd (.t 32) (.sq (.rg none [Qo 33 (.ld (some 6) (.t 6)),Eo (.st 6 (.t 2) (.t 33))] [2]) .rt) .sk))) (.sq (.sq (.rg none [Qo 34 (.fa 0 (.t 1)),Qo 35 (.ld none (.t 34)),Qo 36 (.cl 50 [(.t 35)]),Qo 37 (.ln 1 (.t 36)),Qo 38 (.mv (.c (.int .i64 0)))] [1,2,36,37,38]) (.bl 2 (.lp true b31_1))) k31_2)))
def c31:FI.Fn:={ body:=(.sq (.rg none [Qo 1 (.bx 6 (.t 0)),Qo 2 (.al 6 (.agg [(.int .u8 0),(.int .i64 0),(.int .u64 0),(.str []),(.int .i64 0),(.lst true [])]))] [1,2]) (.sq (.rg none [Qo 3 (.nl 6)] [1,2,3]) (.sq (.sq (.rg none [Qo 12 (.fa 5 (.t 1)),Qo 13 (.ld none (.t 12)),Qo 14 (.ln 1 (.t 13)),Qo 15 (.mv (.c (.int .i64 0)))] [1,2,3,13,14,15]) (.bl 0 (.lp true b31_0))) k31_3))),np:=1,res:=[.cell 2 (some 6)],mode:=.iso }
def k34_0:C:=(.sq (.rg none [Mv 6 0,Qo 7 (.bd [(.str [])] [(0,1,(.t 6))]),Qo 8 (.bx 1 (.t 7)),Mv 4 8] [2,3,4]) (.sq (.rq [Mv 9 4,Qo 10 (.cl 60 [(.t 9),(.c (.int .i64 60))]),Eo (.st 6 (.t 2) (.t 10))] [2,3,4]) (.sq (.sq (.rg none [Mv 11 4,Qo 12 (.nc (.t 11)),Qo 13 (.fa 0 (.t 12)),Qo 14 (.ld none (.t 13)),Qo 15 (.bo .neq (.t 14) (.c (.str []))),Mv 16 15,Gd 17 16 false (.ld (some 6) (.t 2)),Gd 18 16 false (.cl 20 [(.t 17)]),Gd 19 16 false (.bo .neq (.t 18) (.c (.int .i64 0))),Qo 20 (.pk (.t 16) (.c (.bool true)) (.t 19))] [2,3,20]) (.cd (.t 20) (.sq (.rg none [Qo 21 (.bd [(.int .u8 0),(.int .i64 0),(.int .u64 0),(.str []),(.int .i64 0),(.lst true [])] []),Eo (.st 6 (.t 2) (.t 21)),Eo (.st 1 (.t 3) (.c (.int .i64 12)))] [2,3]) .rt) .sk)) (.sq (.rg none [Qo 22 (.ld (some 6) (.t 2)),Eo (.st 6 (.t 2) (.t 22)),Eo (.st 1 (.t 3) (.c (.int .i64 0)))] [2,3]) .rt))))
def k59_0:C:=(.bl 0 (.sq (.rg none [Qo 7 (.isn false (.t 5))] [0,1,5,7]) (.cd (.t 7) (.rg none [Mv 2 5] []) (.sq (.rg none [Qo 8 (.ta 88 (.agg []) (.t 5)),Qo 9 (.ex (.t 8) 1),Qo 10 (.ex (.t 8) 0)] [0,1,5,9,10]) (.cd (.t 9) (.sq (.rg none [Qo 3 (.al 0 (.agg [])),Eo (.st 0 (.t 3) (.t 10))] [0,1]) (.rg none [Qo 11 (.bd [(.int .u8 0),(.int .i64 0),(.int .u64 0),(.str []),(.int .i64 0),(.lst true [])] []),Eo (.st 6 (.t 0) (.t 11)),Eo (.st 1 (.t 1) (.c (.int .i64 12)))] [])) (.sq (.rg none [Mv 4 5] [4]) (.rq [Mv 6 4,Eo (.pn (.t 6))] [])))))))
def c34:FI.Ct:={ pre:=[Qo 2 (.al 6 (.agg [(.int .u8 0),(.int .i64 0),(.int .u64 0),(.str []),(.int .i64 0),(.lst true [])])),Qo 3 (.al 1 (.int .i64 0))],keep:=[0,2,3],g:=59,dst:=5,ct:=[2,3],rest:=k34_0,ht:=5,hb:=k59_0,np:=1,res:=[.cell 2 (some 6),.cell 3 none] }
def c35:FI.Fn:={ body:=(.sq (.rg none [Qo 1 (.bx 6 (.t 0)),Qo 2 (.mv (.c (.str []))),Qo 3 (.mv (.c (.int .i64 0)))] [1]) (.sq (.sq (.rg none [Qo 5 (.ld (some 6) (.t 1)),Qo 6 (.cl 20 [(.t 5)]),Mv 4 6] [1,4]) (.sq (.rg none [Mv 7 4,Qo 8 (.bo .neq (.t 7) (.c (.int .i64 0)))] [1,4,8]) (.cd (.t 8) (.sq (.rg none [Mv 9 4,Qo 2 (.mv (.c (.str []))),Mv 3 9] [2,3]) .rt) .sk))) (.sq (.rq [Qo 10 (.ld (some 6) (.t 1)),Qo 11 (.cl 61 [(.t 10)]),Mv 2 11,Qo 3 (.mv (.c (.int .i64 0)))] [2,3]) .rt))),np:=1,res:=[.t 2,.t 3],mode:=.iso }
def b36_0:C:=(.sq (.rg none [Qo 11 (.bo .lss (.t 10) (.t 9))] [0,8,9,10,11]) (.sq (.cd (.t 11) .sk (.xt 0)) (.sq (.bl 1 (.sq (.rg none [Mv 12 10,Qo 13 (.ia 3 (.t 8) (.t 10)),Qo 14 (.ld (some 3) (.t 13)),Qo 4 (.al 3 (.agg [(.str []),(.int .i64 0),(.int .u64 0)])),Mv 3 12,Eo (.st 3 (.t 4) (.t 14))] [0,3,4,8,9,10]) (.sq (.rg (some (List.range 27)) [Qo 15 (.fa 0 (.t 4)),Qo 16 (.ld none (.t 15)),Qo 17 (.cl 62 [(.t 16)]),Qo 18 (.un .not (.t 17)),Mv 19 18,Gd 20 19 false (.fa 1 (.t 4)),Gd 21 19 false (.ld none (.t 20)),Gd 22 19 false (.fa 2 (.t 4)),Gd 23 19 false (.ld none (.t 22)),Gd 24 19 false (.cl 63 [(.t 21),(.t 23)]),Gd 25 19 false (.un .not (.t 24)),Qo 26 (.pk (.t 19) (.c (.bool true)) (.t 25)),Mv 27 26,Gm 28 27 false 3,Gd 29 27 false (.bo .gtr (.t 28) (.c (.int .i64 0))),Gm 30 27 false 29,Gm 31 30 true 0,Gm 32 30 true 3,Gd 33 30 true (.bo .sub (.t 32) (.c (.int .i64 1))),Gd 34 30 true (.ia 3 (.t 31) (.t 33)),Gd 35 30 true (.fa 0 (.t 34)),Gd 36 30 true (.ld none (.t 35)),Gd 37 30 true (.fa 0 (.t 4)),Gd 38 30 true (.ld none (.t 37)),Gd 39 30 true (.bo .geq (.t 36) (.t 38)),Gd 40 27 false (.pk (.t 30) (.t 39) (.c (.bool false))),Qo 41 (.pk (.t 27) (.c (.bool true)) (.t 40))] [0,8,9,10,41]) (.cd (.t 41) (.sq (.rg none [Qo 2 (.mv (.c (.int .i64 8)))] [2]) .rt) .sk)))) (.rg none [Qo 42 (.bo .add (.t 10) (.c (.int .i64 1))),Mv 10 42] [0,8,9,10]))))
def k36_1:C:=(.sq (.rg none [Qo 2 (.mv (.c (.int .i64 0)))] [2]) .rt)
def c36:FI.Fn:={ body:=(.sq (.rg none [Qo 2 (.mv (.c (.int .i64 0)))] [0]) (.sq (.sq (.rg none [Mv 5 0,Qo 6 (.ln 1 (.t 5)),Qo 7 (.bo .gtr (.t 6) (.c (.int .i64 1000)))] [0,7]) (.cd (.t 7) (.sq (.rg none [Qo 2 (.mv (.c (.int .i64 8)))] [2]) .rt) .sk)) (.sq (.sq (.rg none [Mv 8 0,Qo 9 (.ln 1 (.t 8)),Qo 10 (.mv (.c (.int .i64 0)))] [0,8,9,10]) (.bl 0 (.lp true b36_0))) k36_1))),np:=1,res:=[.t 2],mode:=.iso }
def b37_0:C:=(.sq (.rg none [Qo 11 (.bo .lss (.t 10) (.t 9))] [0,8,9,10,11]) (.sq (.cd (.t 11) .sk (.xt 0)) (.sq (.bl 1 (.sq (.rg none [Mv 12 10,Qo 13 (.ia 2 (.t 8) (.t 10)),Qo 14 (.ld (some 2) (.t 13)),Qo 4 (.al 2 (.agg [(.int .u64 0),(.int .u8 0)])),Mv 3 12,Eo (.st 2 (.t 4) (.t 14))] [0,3,4,8,9,10]) (.sq (.rg (some (List.range 18)) [Qo 15 (.fa 1 (.t 4)),Qo 16 (.ld none (.t 15)),Qo 17 (.bo .eql (.t 16) (.c (.int .u8 0))),Mv 18 17,Gm 19 18 false 3,Gd 20 18 false (.bo .gtr (.t 19) (.c (.int .i64 0))),Gm 21 18 false 20,Gm 22 21 true 0,Gm 23 21 true 3,Gd 24 21 true (.bo .sub (.t 23) (.c (.int .i64 1))),Gd 25 21 true (.ia 2 (.t 22) (.t 24)),Gd 26 21 true (.fa 0 (.t 25)),Gd 27 21 true (.ld none (.t 26)),Gd 28 21 true (.fa 0 (.t 4)),Gd 29 21 true (.ld none (.t 28)),Gd 30 21 true (.bo .geq (.t 27) (.t 29)),Gd 31 18 false (.pk (.t 21) (.t 30) (.c (.bool false))),Qo 32 (.pk (.t 18) (.c (.bool true)) (.t 31))] [0,8,9,10,32]) (.cd (.t 32) (.sq (.rg none [Qo 2 (.mv (.c (.int .i64 8)))] [2]) .rt) .sk)))) (.rg none [Qo 33 (.bo .add (.t 10) (.c (.int .i64 1))),Mv 10 33] [0,8,9,10]))))
def k37_1:C:=(.sq (.rg none [Qo 2 (.mv (.c (.int .i64 0)))] [2]) .rt)
def c37:FI.Fn:={ body:=(.sq (.rg none [Qo 2 (.mv (.c (.int .i64 0)))] [0]) (.sq (.sq (.rg none [Mv 5 0,Qo 6 (.ln 1 (.t 5)),Qo 7 (.bo .gtr (.t 6) (.c (.int .i64 4096)))] [0,7]) (.cd (.t 7) (.sq (.rg none [Qo 2 (.mv (.c (.int .i64 8)))] [2]) .rt) .sk)) (.sq (.sq (.rg none [Mv 8 0,Qo 9 (.ln 1 (.t 8)),Qo 10 (.mv (.c (.int .i64 0)))] [0,8,9,10]) (.bl 0 (.lp true b37_0))) k37_1))),np:=1,res:=[.t 2],mode:=.iso }
def b38_0:C:=(.sq (.sq (.rg none [Mv 15 9,Mv 16 10,Qo 17 (.bo .lss (.t 15) (.t 16))] [0,1,2,8,9,10,17]) (.cd (.t 17) .sk (.xt 0))) (.bl 1 (.sq (.rg none [Mv 18 9,Mv 19 10,Qo 20 (.bo .add (.t 18) (.t 19)),Qo 21 (.cv .u64 (.t 20)),Qo 22 (.bo .shr (.t 21) (.c (.int .u64 1))),Qo 23 (.cv .i64 (.t 22)),Mv 11 23] [0,1,2,8,9,10,11]) (.sq (.rg none [Mv 24 2,Mv 25 0,Mv 26 11,Qo 27 (.ia 3 (.t 25) (.t 26)),Qo 28 (.ld (some 3) (.t 27)),Mv 29 1,Qo 30 (.cw (.t 24) [(.t 28),(.t 29)]),Qo 31 (.bo .lss (.t 30) (.c (.int .i64 0)))] [0,1,2,8,9,10,11,31]) (.cd (.t 31) (.rg none [Mv 32 11,Qo 33 (.bo .add (.t 32) (.c (.int .i64 1))),Mv 9 33] [0,1,2,8,9,10]) (.rg none [Mv 34 11,Mv 10 34] [0,1,2,8,9,10]))))))
def k38_1:C:=(.sq (.rg none [Mv 35 9,Mv 36 9,Mv 37 8,Qo 38 (.bo .lss (.t 36) (.t 37)),Mv 39 38,Gm 40 39 true 2,Gm 41 39 true 0,Gm 42 39 true 9,Gd 43 39 true (.ia 3 (.t 41) (.t 42)),Gd 44 39 true (.ld (some 3) (.t 43)),Gm 45 39 true 1,Gd 46 39 true (.cw (.t 40) [(.t 44),(.t 45)]),Gd 47 39 true (.bo .eql (.t 46) (.c (.int .i64 0))),Qo 48 (.pk (.t 39) (.t 47) (.c (.bool false))),Mv 6 35,Mv 7 48] [6,7]) .rt)
def c38:FI.Fn:={ body:=(.sq (.rg none [Qo 6 (.mv (.c (.int .i64 0))),Qo 7 (.mv (.c (.bool false)))] [0,1,2]) (.sq (.rg none [Mv 12 0,Qo 13 (.ln 1 (.t 12)),Mv 8 13] [0,1,2,8]) (.sq (.rg none [Mv 14 8,Qo 9 (.mv (.c (.int .i64 0))),Mv 10 14] [0,1,2,8,9,10]) (.sq (.bl 0 (.lp true b38_0)) k38_1)))),np:=3,res:=[.t 6,.t 7],mode:=.iso }
def c39:FI.Fn:={ body:=(.sq (.rg none [Qo 2 (.bx 3 (.t 0)),Qo 4 (.mv (.c (.int .i64 0)))] [1,2]) (.sq (.rg none [Qo 5 (.fa 0 (.t 2)),Qo 6 (.ld none (.t 5)),Mv 7 1,Qo 8 (.cl 40 [(.t 6),(.t 7)]),Mv 4 8] [4]) .rt)),np:=2,res:=[.t 4],mode:=.iso }
def c40:FI.Fn:={ body:=(.sq (.rg none [Qo 4 (.mv (.c (.int .i64 0)))] [0,1]) (.sq (.rg none [Mv 5 0,Mv 6 1,Qo 7 (.cl 64 [(.t 5),(.t 6)]),Mv 4 7] [4]) .rt)),np:=2,res:=[.t 4],mode:=.iso }
def b41_0:C:=(.sq (.rg none [Qo 28 (.bo .lss (.t 27) (.t 26))] [1,2,3,7,25,26,27,28]) (.sq (.cd (.t 28) .sk (.xt 1)) (.sq (.bl 2 (.sq (.rg none [Mv 29 27,Qo 30 (.ia 6 (.t 25) (.t 27)),Qo 31 (.ld (some 6) (.t 30)),Qo 9 (.al 6 (.agg [(.int .u8 0),(.int .i64 0),(.int .u64 0),(.str []),(.int .i64 0),(.lst true [])])),Mv 8 29,Eo (.st 6 (.t 9) (.t 31))] [1,2,3,7,8,9,25,26,27]) (.rg none [Mv 32 8,Qo 33 (.ld (some 6) (.t 9)),Mv 34 1,Mv 35 2,Qo 36 (.cl 41 [(.t 33),(.t 34),(.t 35)]),Qo 37 (.aa 3 1 (.t 7) (.t 32)),Eo (.st 1 (.t 37) (.t 36))] [1,2,3,7,25,26,27]))) (.rg none [Qo 38 (.bo .add (.t 27) (.c (.int .i64 1))),Mv 27 38] [1,2,3,7,25,26,27]))))
def k41_1:C:=(.sq (.rg none [Qo 10 (.mv (.c (.int .u64 0)))] [2,3,7]) (.sq (.sq (.rg none [Qo 39 (.fa 5 (.t 3)),Qo 40 (.ld none (.t 39)),Qo 41 (.ia 6 (.t 40) (.c (.int .i64 0))),Qo 42 (.fa 1 (.t 41)),Qo 43 (.ld none (.t 42)),Mv 11 43] [2,3,7,11]) (.sq (.rg none [Qo 44 (.fa 0 (.t 3)),Qo 45 (.ld none (.t 44))] [2,3,7,11,45]) (.bl 3 (.sq (.sq (.rg none [Qo 58 (.bo .eql (.t 45) (.c (.int .u8 3))),Mv 57 58] [2,3,7,11,45,57]) (.cd (.t 57) .sk (.rg none [Qo 59 (.bo .eql (.t 45) (.c (.int .u8 4))),Mv 57 59] [2,3,7,11,45,57]))) (.cd (.t 57) (.rg none [Qo 61 (.fa 0 (.t 3)),Qo 62 (.ld none (.t 61)),Mv 63 11,Qo 64 (.aa 3 1 (.t 7) (.c (.int .i64 0))),Qo 65 (.ld none (.t 64)),Qo 66 (.cl 65 [(.t 62),(.t 63),(.t 65)]),Mv 60 66,Qo 67 (.ex (.t 60) 0),Qo 68 (.ex (.t 60) 1),Mv 10 67] [10]) (.sq (.rg none [Qo 70 (.bo .eql (.t 45) (.c (.int .u8 19))),Mv 69 70] [2,3,7,11,45,69]) (.cd (.t 69) (.rg none [Qo 71 (.aa 3 1 (.t 7) (.c (.int .i64 0))),Qo 72 (.ld none (.t 71)),Qo 73 (.bo .sub (.c (.int .u64 2)) (.t 72)),Qo 74 (.aa 3 1 (.t 7) (.t 73)),Qo 75 (.ld none (.t 74)),Mv 10 75] [10]) (.sq (.rg none [Qo 77 (.bo .eql (.t 45) (.c (.int .u8 20))),Mv 76 77] [2,3,7,11,45,76]) (.cd (.t 76) (.rg (some (List.range 15)) [Mv 79 11,Qo 80 (.aa 3 1 (.t 7) (.c (.int .i64 0))),Qo 81 (.ld none (.t 80)),Qo 82 (.fa 5 (.t 3)),Qo 83 (.ld none (.t 82)),Qo 84 (.ia 6 (.t 83) (.c (.int .i64 1))),Qo 85 (.fa 1 (.t 84)),Qo 86 (.ld none (.t 85)),Qo 87 (.aa 3 1 (.t 7) (.c (.int .i64 1))),Qo 88 (.ld none (.t 87)),Qo 89 (.cl 66 [(.t 79),(.t 81),(.t 86),(.t 88)]),Mv 78 89,Qo 90 (.ex (.t 78) 0),Qo 91 (.ex (.t 78) 1),Mv 10 90] [10]) (.sq (.rg none [Qo 93 (.bo .eql (.t 45) (.c (.int .u8 21))),Mv 92 93] [2,3,7,11,45,92]) (.cd (.t 92) (.rg none [Mv 95 11,Qo 96 (.aa 3 1 (.t 7) (.c (.int .i64 0))),Qo 97 (.ld none (.t 96)),Qo 98 (.fa 4 (.t 3)),Qo 99 (.ld none (.t 98)),Qo 100 (.fa 1 (.t 3)),Qo 101 (.ld none (.t 100)),Qo 102 (.cl 67 [(.t 95),(.t 97),(.t 99),(.t 101)]),Mv 94 102,Qo 103 (.ex (.t 94) 0),Qo 104 (.ex (.t 94) 1),Mv 10 103] [10]) (.sq (.sq (.rg none [Qo 106 (.bo .eql (.t 45) (.c (.int .u8 22))),Mv 105 106] [2,3,7,11,45,105]) (.cd (.t 105) .sk (.rg none [Qo 107 (.bo .eql (.t 45) (.c (.int .u8 23))),Mv 105 107] [2,3,7,11,45,105]))) (.cd (.t 105) (.rg none [Mv 109 11,Qo 110 (.aa 3 1 (.t 7) (.c (.int .i64 0))),Qo 111 (.ld none (.t 110)),Qo 112 (.fa 1 (.t 3)),Qo 113 (.ld none (.t 112)),Qo 114 (.fa 0 (.t 3)),Qo 115 (.ld none (.t 114)),Qo 116 (.bo .eql (.t 115) (.c (.int .u8 23))),Qo 117 (.cl 68 [(.t 109),(.t 111),(.t 113),(.t 116)]),Mv 108 117,Qo 118 (.ex (.t 108) 0),Qo 119 (.ex (.t 108) 1),Mv 10 118] [10]) (.sq (.rg none [Qo 121 (.bo .eql (.t 45) (.c (.int .u8 24))),Mv 120 121] [2,3,7,11,120]) (.cd (.t 120) (.rg none [Mv 122 2,Mv 123 11,Qo 124 (.aa 3 1 (.t 7) (.c (.int .i64 0))),Qo 125 (.ld none (.t 124)),Qo 126 (.fa 1 (.t 3)),Qo 127 (.ld none (.t 126)),Qo 128 (.cl 69 [(.t 122),(.t 123),(.t 125),(.t 127)]),Mv 10 128] [10]) (.rg none [Qo 47 (.fa 0 (.t 3)),Qo 48 (.ld none (.t 47)),Mv 49 11,Qo 50 (.aa 3 1 (.t 7) (.c (.int .i64 0))),Qo 51 (.ld none (.t 50)),Qo 52 (.aa 3 1 (.t 7) (.c (.int .i64 1))),Qo 53 (.ld none (.t 52)),Qo 54 (.cl 70 [(.t 48),(.t 49),(.t 51),(.t 53)]),Mv 46 54,Qo 55 (.ex (.t 46) 0),Qo 56 (.ex (.t 46) 1),Mv 10 55] [10])))))))))))))))) (.sq (.rg none [Mv 129 10,Mv 6 129] [6]) .rt)))
def c41:FI.Fn:={ body:=(.sq (.rg none [Qo 3 (.bx 6 (.t 0)),Qo 6 (.mv (.c (.int .u64 0)))] [1,2,3]) (.sq (.sq (.rg none [Qo 12 (.fa 0 (.t 3)),Qo 13 (.ld none (.t 12))] [1,2,3,13]) (.bl 0 (.sq (.rg none [Qo 15 (.bo .eql (.t 13) (.c (.int .u8 1))),Mv 14 15] [1,2,3,13,14]) (.cd (.t 14) (.sq (.rg none [Qo 16 (.fa 2 (.t 3)),Qo 17 (.ld none (.t 16)),Mv 6 17] [6]) .rt) (.sq (.rg none [Qo 19 (.bo .eql (.t 13) (.c (.int .u8 2))),Mv 18 19] [1,2,3,18]) (.cd (.t 18) (.sq (.rg none [Mv 20 1,Qo 21 (.fa 3 (.t 3)),Qo 22 (.ld none (.t 21)),Qo 23 (.lk 1 (.int .u64 0) false (.t 20) (.t 22)),Mv 6 23] [6]) .rt) .sk)))))) (.sq (.rg none [Qo 7 (.al 3 (.agg [(.int .u64 0),(.int .u64 0),(.int .u64 0)]))] [1,2,3,7]) (.sq (.sq (.rg none [Qo 24 (.fa 5 (.t 3)),Qo 25 (.ld none (.t 24)),Qo 26 (.ln 1 (.t 25)),Qo 27 (.mv (.c (.int .i64 0)))] [1,2,3,7,25,26,27]) (.bl 1 (.lp false b41_0))) k41_1)))),np:=3,res:=[.t 6],mode:=.shr }
def c42:FI.Fn:={ body:=(.sq (.rg none [Qo 1 (.bx 6 (.t 0)),Qo 2 (.mv (.c .nilf))] [1]) (.sq (.rg none [Qo 3 (.mf 71 [(.t 1)]),Mv 2 3] [2]) .rt)),np:=1,res:=[.t 2],mode:=.iso }
def c43:FI.Fn:={ body:=(.sq (.rg none [Qo 1 (.bx 6 (.t 0)),Qo 2 (.mv (.c (.bool false)))] [1]) (.sq (.sq (.rg none [Qo 6 (.fa 1 (.t 1)),Qo 7 (.ld none (.t 6)),Qo 8 (.cl 73 [(.t 7)]),Qo 9 (.un .not (.t 8))] [1,9]) (.cd (.t 9) (.sq (.rg none [Qo 2 (.mv (.c (.bool false)))] [2]) .rt) .sk)) (.sq (.rg none [Qo 11 (.fa 0 (.t 1)),Qo 12 (.ld none (.t 11)),Qo 13 (.cl 74 [(.t 12)]),Mv 10 13,Qo 14 (.ex (.t 10) 0),Qo 15 (.ex (.t 10) 1),Qo 3 (.al 3 (.agg [(.str []),(.int .i64 0),(.int .i64 0)])),Eo (.st 3 (.t 3) (.t 14)),Mv 4 15] [1,3,4]) (.sq (.sq (.rg none [Mv 16 4,Qo 17 (.un .not (.t 16))] [1,3,17]) (.cd (.t 17) (.sq (.rg none [Qo 18 (.fa 5 (.t 1)),Qo 19 (.ld none (.t 18)),Qo 20 (.ln 1 (.t 19)),Qo 21 (.bo .eql (.t 20) (.c (.int .i64 0))),Mv 22 21,Gd 23 22 true (.fa 4 (.t 1)),Gd 24 22 true (.ld none (.t 23)),Gd 25 22 true (.bo .eql (.t 24) (.c (.int .i64 0))),Qo 26 (.pk (.t 22) (.t 25) (.c (.bool false))),Mv 5 26] [1,5]) (.sq (.rg none [Mv 27 5,Mv 28 27,Gd 29 28 true (.fa 0 (.t 1)),Gd 30 28 true (.ld none (.t 29)),Gd 31 28 true (.bo .eql (.t 30) (.c (.int .u8 1))),Gm 32 28 true 31,Gd 33 32 true (.fa 3 (.t 1)),Gd 34 32 true (.ld none (.t 33)),Gd 35 32 true (.bo .eql (.t 34) (.c (.str []))),Gd 36 28 true (.pk (.t 32) (.t 35) (.c (.bool false))),Gm 37 28 true 36,Gd 38 37 true (.fa 1 (.t 1)),Gd 39 37 true (.ld none (.t 38)),Gd 40 37 true (.fa 2 (.t 1)),Gd 41 37 true (.ld none (.t 40)),Gd 42 37 true (.cl 63 [(.t 39),(.t 41)]),Gd 43 28 true (.pk (.t 37) (.t 42) (.c (.bool false))),Gm 44 28 true 43,Gd 45 44 false (.fa 0 (.t 1)),Gd 46 44 false (.ld none (.t 45)),Gd 47 44 false (.bo .eql (.t 46) (.c (.int .u8 2))),Gm 48 44 false 47,Gd 49 48 true (.fa 2 (.t 1)),Gd 50 48 true (.ld none (.t 49)),Gd 51 48 true (.bo .eql (.t 50) (.c (.int .u64 0))),Gd 52 44 false (.pk (.t 48) (.t 51) (.c (.bool false))),Gm 53 44 false 52,Gd 54 53 true (.fa 3 (.t 1)),Gd 55 53 true (.ld none (.t 54)),Gd 56 53 true (.cl 62 [(.t 55)]),Gd 57 44 false (.pk (.t 53) (.t 56) (.c (.bool false))),Gd 58 28 true (.pk (.t 44) (.c (.bool true)) (.t 57)),Qo 59 (.pk (.t 28) (.t 58) (.c (.bool false))),Mv 2 59] [2]) .rt)) .sk)) (.sq (.rg none [Qo 60 (.fa 2 (.t 1)),Qo 61 (.ld none (.t 60)),Qo 62 (.bo .eql (.t 61) (.c (.int .u64 0))),Mv 63 62,Gd 64 63 true (.fa 3 (.t 1)),Gd 65 63 true (.ld none (.t 64)),Gd 66 63 true (.bo .eql (.t 65) (.c (.str []))),Qo 67 (.pk (.t 63) (.t 66) (.c (.bool false))),Mv 68 67,Gd 69 68 true (.fa 4 (.t 1)),Gd 70 68 true (.ld none (.t 69)),Gd 71 68 true (.bo .eql (.t 70) (.c (.int .i64 0))),Gm 72 68 true 71,Gd 73 72 false (.fa 2 (.t 3)),Gd 74 72 false (.ld none (.t 73)),Gd 75 72 false (.bo .eql (.t 74) (.c (.int .i64 5))),Gd 76 68 true (.pk (.t 72) (.c (.bool true)) (.t 75)),Qo 77 (.pk (.t 68) (.t 76) (.c (.bool false))),Mv 78 77,Gd 79 78 true (.fa 5 (.t 1)),Gd 80 78 true (.ld none (.t 79)),Gd 81 78 true (.ln 1 (.t 80)),Gd 82 78 true (.fa 1 (.t 3)),Gd 83 78 true (.ld none (.t 82)),Gd 84 78 true (.bo .eql (.t 81) (.t 83)),Qo 85 (.pk (.t 78) (.t 84) (.c (.bool false))),Mv 86 85,Gd 87 86 true (.ld (some 6) (.t 1)),Gd 88 86 true (.fa 2 (.t 3)),Gd 89 86 true (.ld none (.t 88)),Gd 90 86 true (.cl 75 [(.t 87),(.t 89)]),Qo 91 (.pk (.t 86) (.t 90) (.c (.bool false))),Mv 2 91] [2]) .rt))))),np:=1,res:=[.t 2],mode:=.iso }
def b44_0:C:=(.bl 1 (.sq (.sq (.rg none [Qo 12 (.fa 0 (.t 5)),Qo 13 (.ld none (.t 12)),Qo 14 (.bo .neq (.t 13) (.c (.int .u8 2)))] [2,3,4,5,14]) (.cd (.t 14) (.xt 1) .sk)) (.sq (.sq (.rg none [Qo 16 (.ld none (.t 4)),Qo 17 (.fa 3 (.t 5)),Qo 18 (.ld none (.t 17)),Qo 19 (.lk 1 (.int .i64 0) true (.t 16) (.t 18)),Mv 15 19,Qo 20 (.ex (.t 15) 0),Qo 21 (.ex (.t 15) 1),Mv 6 20,Mv 7 21] [2,3,4,5,6,7]) (.sq (.rg none [Mv 22 7,Mv 23 22,Gm 24 23 true 6,Gd 25 23 true (.fa 1 (.t 5)),Gd 26 23 true (.ld none (.t 25)),Gd 27 23 true (.bo .neq (.t 24) (.t 26)),Qo 28 (.pk (.t 23) (.t 27) (.c (.bool false)))] [2,3,4,5,28]) (.cd (.t 28) (.sq (.rg none [Eo (.st 1 (.t 2) (.c .nilm)),Eo (.st 1 (.t 3) (.c (.bool false)))] [2,3]) .rt) .sk))) (.rg none [Qo 29 (.ld none (.t 4)),Qo 30 (.fa 3 (.t 5)),Qo 31 (.ld none (.t 30)),Qo 32 (.fa 1 (.t 5)),Qo 33 (.ld none (.t 32)),Eo (.mu 1 (.t 29) (.t 31) (.t 33))] []))))
def a44_1:C:=(.rg none [Qo 5 (.al 6 (.agg [(.int .u8 0),(.int .i64 0),(.int .u64 0),(.str []),(.int .i64 0),(.lst true [])])),Eo (.st 6 (.t 5) (.t 11))] [2,3,4,5])
def k44_2:C:=(.sq (.rg none [Qo 34 (.ld none (.t 4)),Eo (.st 1 (.t 2) (.t 34)),Eo (.st 1 (.t 3) (.c (.bool true)))] [2,3]) .rt)
def r1004400:FI.Rd:={ ps:=[11],ct:=[2,3,4],asg:=a44_1,body:=b44_0 }
def c44:FI.Fn:={ body:=(.sq (.rg none [Qo 1 (.bx 6 (.t 0)),Qo 2 (.al 1 .nilm),Qo 3 (.al 1 (.bool false))] [1,2,3]) (.sq (.rg none [Qo 8 (.mm),Qo 4 (.al 1 .nilm),Eo (.st 1 (.t 4) (.t 8))] [1,2,3,4]) (.sq (.sq (.rg none [Qo 9 (.ld (some 6) (.t 1)),Qo 10 (.cl 42 [(.t 9)])] [2,3,4,10]) (.bl 0 (.rf 1004400 (.t 10) [2,3,4]))) k44_2))),np:=1,res:=[.cell 2 none,.cell 3 none],mode:=.shr }
def c45:FI.Fn:={ body:=(.sq (.rg none [Mv 5 0,Qo 6 (.ln 1 (.t 5)),Mv 4 6] [0,1,4]) (.rg none [Mv 7 0,Mv 8 4,Mv 9 4,Qo 10 (.cv .u64 (.t 9)),Qo 11 (.cl 77 [(.t 10)]),Mv 12 1,Qo 13 (.cl 76 [(.t 7),(.c (.int .i64 0)),(.t 8),(.t 11),(.t 12)])] [])),np:=2,res:=[],mode:=.shr }
def c46:FI.Fn:={ body:=(.sq (.rg none [Qo 2 (.bx 3 (.t 0)),Qo 3 (.bx 3 (.t 1)),Qo 4 (.mv (.c (.int .i64 0)))] [2,3]) (.sq (.rg none [Qo 5 (.fa 0 (.t 2)),Qo 6 (.ld none (.t 5)),Qo 7 (.fa 0 (.t 3)),Qo 8 (.ld none (.t 7)),Qo 9 (.cl 40 [(.t 6),(.t 8)]),Mv 4 9] [4]) .rt)),np:=2,res:=[.t 4],mode:=.iso }
def b47_0:C:=(.bl 1 (.sq (.sq (.rg none [Qo 12 (.fa 0 (.t 8)),Qo 13 (.ld none (.t 12)),Qo 14 (.bo .eql (.t 13) (.c (.int .u8 2))),Mv 15 14,Gd 16 15 true (.fa 3 (.t 8)),Gd 17 15 true (.ld none (.t 16)),Gd 18 15 true (.ld none (.t 4)),Gd 19 15 true (.bo .eql (.t 17) (.t 18)),Qo 20 (.pk (.t 15) (.t 19) (.c (.bool false)))] [5,7,20]) (.cd (.t 20) (.rg none [Qo 21 (.ld none (.t 7)),Qo 22 (.ld none (.t 5)),Qo 23 (.bo .sub (.t 22) (.c (.int .i64 1))),Qo 24 (.bo .add (.t 21) (.t 23)),Eo (.st 1 (.t 7) (.t 24))] [7]) .sk)) (.rg none [Qo 25 (.ld none (.t 7)),Qo 26 (.bo .add (.t 25) (.c (.int .i64 1))),Eo (.st 1 (.t 7) (.t 26))] [])))
def a47_1:C:=(.rg none [Qo 8 (.al 6 (.agg [(.int .u8 0),(.int .i64 0),(.int .u64 0),(.str []),(.int .i64 0),(.lst true [])])),Eo (.st 6 (.t 8) (.t 11))] [4,5,7,8])
def k47_2:C:=(.sq (.rg none [Qo 27 (.ld none (.t 7)),Mv 6 27] [6]) .rt)
def r1004700:FI.Rd:={ ps:=[11],ct:=[4,5,7],asg:=a47_1,body:=b47_0 }
def c47:FI.Fn:={ body:=(.sq (.rg none [Qo 3 (.bx 6 (.t 0)),Qo 4 (.bx 1 (.t 1)),Qo 5 (.bx 1 (.t 2)),Qo 6 (.mv (.c (.int .i64 0)))] [3,4,5]) (.sq (.rg none [Qo 7 (.al 1 (.int .i64 0)),Eo (.st 1 (.t 7) (.c (.int .i64 0)))] [3,4,5,7]) (.sq (.sq (.rg none [Qo 9 (.ld (some 6) (.t 3)),Qo 10 (.cl 42 [(.t 9)])] [4,5,7,10]) (.bl 0 (.rf 1004700 (.t 10) [4,5,7]))) k47_2))),np:=3,res:=[.t 6],mode:=.iso }
def b48_0:C:=(.sq (.rg none [Qo 24 (.bo .lss (.t 23) (.t 22))] [1,3,5,6,7,21,22,23,24]) (.sq (.cd (.t 24) .sk (.xt 0)) (.sq (.bl 1 (.sq (.rg none [Qo 25 (.ia 6 (.t 21) (.t 23)),Qo 26 (.ld (some 6) (.t 25)),Qo 9 (.al 6 (.agg [(.int .u8 0),(.int .i64 0),(.int .u64 0),(.str []),(.int .i64 0),(.lst true [])])),Eo (.st 6 (.t 9) (.t 26))] [1,3,5,6,7,9,21,22,23]) (.rg none [Mv 27 7,Qo 28 (.ld (some 6) (.t 9)),Mv 29 1,Qo 30 (.ld (some 6) (.t 5)),Qo 31 (.cl 48 [(.t 28),(.t 29),(.t 30)]),Qo 32 (.bs 6 1 (.agg [(.int .u8 0),(.int .i64 0),(.int .u64 0),(.str []),(.int .i64 0),(.lst true [])]) [(0,(.t 31))]),Qo 33 (.ap 6 72 (.t 27) (.t 32)),Mv 7 33] [1,3,5,6,7,21,22,23]))) (.rg none [Qo 34 (.bo .add (.t 23) (.c (.int .i64 1))),Mv 23 34] [1,3,5,6,7,21,22,23]))))
def k48_1:C:=(.sq (.rg none [Mv 35 7,Qo 36 (.fa 5 (.t 3)),Eo (.st 1 (.t 36) (.t 35))] [3,6]) (.sq (.rg none [Qo 37 (.ld (some 6) (.t 3)),Eo (.st 6 (.t 6) (.t 37))] [6]) .rt))
def c48:FI.Fn:={ body:=(.sq (.rg none [Qo 3 (.bx 6 (.t 0)),Qo 5 (.bx 6 (.t 2)),Qo 6 (.al 6 (.agg [(.int .u8 0),(.int .i64 0),(.int .u64 0),(.str []),(.int .i64 0),(.lst true [])]))] [1,3,5,6]) (.sq (.sq (.rg none [Qo 10 (.fa 0 (.t 3)),Qo 11 (.ld none (.t 10)),Qo 12 (.bo .eql (.t 11) (.c (.int .u8 2))),Mv 13 12,Gd 14 13 true (.fa 3 (.t 3)),Gd 15 13 true (.ld none (.t 14)),Gm 16 13 true 1,Gd 17 13 true (.bo .eql (.t 15) (.t 16)),Qo 18 (.pk (.t 13) (.t 17) (.c (.bool false)))] [1,3,5,6,18]) (.cd (.t 18) (.sq (.rg none [Qo 19 (.ld (some 6) (.t 5)),Eo (.st 6 (.t 6) (.t 19))] [6]) .rt) .sk)) (.sq (.rg none [Qo 7 (.nl 6)] [1,3,5,6,7]) (.sq (.sq (.rg none [Qo 20 (.fa 5 (.t 3)),Qo 21 (.ld none (.t 20)),Qo 22 (.ln 1 (.t 21)),Qo 23 (.mv (.c (.int .i64 0)))] [1,3,5,6,7,21,22,23]) (.bl 0 (.lp true b48_0))) k48_1)))),np:=3,res:=[.cell 6 (some 6)],mode:=.iso }
def b49_0:C:=(.sq (.rg none [Qo 22 (.bo .lss (.t 21) (.t 20))] [1,2,19,20,21,22]) (.sq (.cd (.t 22) .sk (.xt 0)) (.sq (.bl 1 (.sq (.rg none [Qo 23 (.ia 6 (.t 19) (.t 21)),Qo 24 (.ld (some 6) (.t 23)),Qo 5 (.al 6 (.agg [(.int .u8 0),(.int .i64 0),(.int .u64 0),(.str []),(.int .i64 0),(.lst true [])])),Eo (.st 6 (.t 5) (.t 24))] [1,2,5,19,20,21]) (.sq (.rg none [Qo 25 (.fa 0 (.t 5)),Qo 26 (.ld none (.t 25)),Qo 27 (.bo .neq (.t 26) (.c (.int .u8 1)))] [1,2,19,20,21,27]) (.cd (.t 27) (.sq (.rg none [Qo 28 (.ld (some 6) (.t 1)),Eo (.st 6 (.t 2) (.t 28)),Qo 3 (.mv (.c (.bool false)))] [2,3]) .rt) .sk)))) (.rg none [Qo 29 (.bo .add (.t 21) (.c (.int .i64 1))),Mv 21 29] [1,2,19,20,21]))))
def k49_1:C:=(.sq (.rg none [Qo 31 (.ld (some 6) (.t 1)),Qo 32 (.cl 19 [(.t 31),(.c (.lst true [])),(.c (.lst true []))]),Mv 30 32,Qo 33 (.ex (.t 30) 0),Qo 34 (.ex (.t 30) 1),Mv 6 33,Mv 7 34] [1,2,6,7]) (.sq (.rg none [Qo 35 (.fa 1 (.t 1)),Qo 36 (.ld none (.t 35)),Mv 37 6,Qo 38 (.cl 78 [(.t 36),(.t 37)]),Mv 39 7,Qo 40 (.bo .eql (.t 39) (.c (.int .i64 0))),Eo (.st 6 (.t 2) (.t 38)),Mv 3 40] [2,3]) .rt))
def c49:FI.Fn:={ body:=(.sq (.rg none [Qo 1 (.bx 6 (.t 0)),Qo 2 (.al 6 (.agg [(.int .u8 0),(.int .i64 0),(.int .u64 0),(.str []),(.int .i64 0),(.lst true [])])),Qo 3 (.mv (.c (.bool false)))] [1,2]) (.sq (.sq (.rg none [Qo 8 (.fa 0 (.t 1)),Qo 9 (.ld none (.t 8)),Qo 10 (.bo .eql (.t 9) (.c (.int .u8 24))),Mv 11 10,Gd 12 11 false (.fa 5 (.t 1)),Gd 13 11 false (.ld none (.t 12)),Gd 14 11 false (.ln 1 (.t 13)),Gd 15 11 false (.bo .eql (.t 14) (.c (.int .i64 0))),Qo 16 (.pk (.t 11) (.c (.bool true)) (.t 15))] [1,2,16]) (.cd (.t 16) (.sq (.rg none [Qo 17 (.ld (some 6) (.t 1)),Eo (.st 6 (.t 2) (.t 17)),Qo 3 (.mv (.c (.bool false)))] [2,3]) .rt) .sk)) (.sq (.sq (.rg none [Qo 18 (.fa 5 (.t 1)),Qo 19 (.ld none (.t 18)),Qo 20 (.ln 1 (.t 19)),Qo 21 (.mv (.c (.int .i64 0)))] [1,2,19,20,21]) (.bl 0 (.lp true b49_0))) k49_1))),np:=1,res:=[.cell 2 (some 6),.t 3],mode:=.isc }
def c50:FI.Fn:={ body:=(.sq (.rg none [Qo 2 (.mv (.c (.lst true [])))] [0]) (.sq (.rg none [Qo 4 (.mm),Qo 5 (.bs 1 1 .nilf [(0,(.c (.fn 80 [])))]),Qo 6 (.cl 79 [(.t 5)]),Eo (.mu 0 (.t 4) (.c (.int .u8 3)) (.t 6)),Qo 7 (.bs 1 1 .nilf [(0,(.c (.fn 80 [])))]),Qo 8 (.cl 79 [(.t 7)]),Eo (.mu 0 (.t 4) (.c (.int .u8 4)) (.t 8)),Qo 9 (.cl 81 [(.c (.int .u64 0)),(.c (.fn 82 []))]),Qo 10 (.cl 83 [(.c (.int .u64 0)),(.c (.fn 84 []))]),Qo 11 (.bs 1 2 .nilf [(0,(.t 9)),(1,(.t 10))]),Qo 12 (.cl 79 [(.t 11)]),Eo (.mu 0 (.t 4) (.c (.int .u8 5)) (.t 12)),Qo 13 (.cl 83 [(.c (.int .u64 0)),(.c (.fn 84 []))]),Qo 14 (.cl 86 [(.c (.int .u64 0))]),Qo 15 (.cl 85 [(.t 14)]),Qo 16 (.bs 1 2 .nilf [(0,(.t 13)),(1,(.t 15))]),Qo 17 (.cl 79 [(.t 16)]),Eo (.mu 0 (.t 4) (.c (.int .u8 6)) (.t 17)),Qo 18 (.cl 86 [(.c (.int .u64 0))]),Qo 19 (.cl 81 [(.c (.int .u64 0)),(.t 18)]),Qo 20 (.cl 86 [(.c (.int .u64 0))]),Qo 21 (.cl 83 [(.c (.int .u64 0)),(.t 20)]),Qo 22 (.cl 81 [(.c (.int .u64 1)),(.c (.fn 82 []))]),Qo 23 (.cl 83 [(.c (.int .u64 1)),(.c (.fn 84 []))]),Qo 24 (.bs 1 4 .nilf [(0,(.t 19)),(1,(.t 21)),(2,(.t 22)),(3,(.t 23))]),Qo 25 (.cl 79 [(.t 24)]),Eo (.mu 0 (.t 4) (.c (.int .u8 7)) (.t 25)),Qo 26 (.cl 86 [(.c (.int .u64 0))]),Qo 27 (.cl 81 [(.c (.int .u64 0)),(.t 26)]),Qo 28 (.cl 86 [(.c (.int .u64 0))]),Qo 29 (.cl 83 [(.c (.int .u64 0)),(.t 28)]),Qo 30 (.cl 81 [(.c (.int .u64 18446744073709551615)),(.c (.fn 82 []))]),Qo 31 (.cl 83 [(.c (.int .u64 18446744073709551615)),(.c (.fn 84 []))]),Qo 32 (.cl 85 [(.c (.fn 84 []))]),Qo 33 (.bs 1 5 .nilf [(0,(.t 27)),(1,(.t 29)),(2,(.t 30)),(3,(.t 31)),(4,(.t 32))]),Qo 34 (.cl 79 [(.t 33)]),Eo (.mu 0 (.t 4) (.c (.int .u8 8)) (.t 34)),Qo 35 (.cl 86 [(.c (.int .u64 18446744073709551615))]),Qo 36 (.cl 81 [(.c (.int .u64 18446744073709551615)),(.t 35)]),Qo 37 (.cl 86 [(.c (.int .u64 18446744073709551615))]),Qo 38 (.cl 83 [(.c (.int .u64 18446744073709551615)),(.t 37)]),Qo 39 (.cl 81 [(.c (.int .u64 0)),(.c (.fn 82 []))]),Qo 40 (.cl 83 [(.c (.int .u64 0)),(.c (.fn 84 []))]),Qo 41 (.cl 85 [(.c (.fn 84 []))]),Qo 42 (.bs 1 5 .nilf [(0,(.t 36)),(1,(.t 38)),(2,(.t 39)),(3,(.t 40)),(4,(.t 41))]),Qo 43 (.cl 79 [(.t 42)]),Eo (.mu 0 (.t 4) (.c (.int .u8 9)) (.t 43)),Qo 44 (.cl 81 [(.c (.int .u64 0)),(.c (.fn 82 []))]),Qo 45 (.cl 83 [(.c (.int .u64 0)),(.c (.fn 84 []))]),Qo 46 (.cl 86 [(.c (.int .u64 0))]),Qo 47 (.cl 85 [(.t 46)]),Qo 48 (.bs 1 3 .nilf [(0,(.t 44)),(1,(.t 45)),(2,(.t 47))]),Qo 49 (.cl 79 [(.t 48)]),Eo (.mu 0 (.t 4) (.c (.int .u8 10)) (.t 49)),Qo 50 (.cl 83 [(.c (.int .u64 0)),(.c (.fn 84 []))]),Qo 51 (.cl 86 [(.c (.int .u64 0))]),Qo 52 (.cl 81 [(.c (.int .u64 0)),(.t 51)]),Qo 53 (.bs 1 3 .nilf [(0,(.t 50)),(1,(.c (.fn 87 []))),(2,(.t 52))]),Qo 54 (.cl 79 [(.t 53)]),Eo (.mu 0 (.t 4) (.c (.int .u8 11)) (.t 54)),Qo 55 (.cl 83 [(.c (.int .u64 0)),(.c (.fn 84 []))]),Qo 56 (.cl 86 [(.c (.int .u64 0))]),Qo 57 (.cl 81 [(.c (.int .u64 0)),(.t 56)]),Qo 58 (.bs 1 3 .nilf [(0,(.t 55)),(1,(.c (.fn 87 []))),(2,(.t 57))]),Qo 59 (.cl 79 [(.t 58)]),Eo (.mu 0 (.t 4) (.c (.int .u8 12)) (.t 59)),Qo 60 (.cl 83 [(.c (.int .u64 0)),(.c (.fn 84 []))]),Qo 61 (.cl 86 [(.c (.int .u64 0))]),Qo 62 (.cl 81 [(.c (.int .u64 0)),(.t 61)]),Qo 63 (.bs 1 2 .nilf [(0,(.t 60)),(1,(.t 62))]),Qo 64 (.cl 79 [(.t 63)]),Eo (.mu 0 (.t 4) (.c (.int .u8 13)) (.t 64)),Qo 65 (.cl 83 [(.c (.int .u64 1)),(.c (.fn 84 []))]),Qo 66 (.bs 1 1 .nilf [(0,(.t 65))]),Qo 67 (.cl 79 [(.t 66)]),Eo (.mu 0 (.t 4) (.c (.int .u8 14)) (.t 67)),Qo 68 (.cl 86 [(.c (.int .u64 0))]),Qo 69 (.cl 83 [(.c (.int .u64 1)),(.t 68)]),Qo 70 (.bs 1 1 .nilf [(0,(.t 69))]),Qo 71 (.cl 79 [(.t 70)]),Eo (.mu 0 (.t 4) (.c (.int .u8 15)) (.t 71)),Qo 72 (.cl 86 [(.c (.int .u64 1))]),Qo 73 (.cl 85 [(.t 72)]),Qo 74 (.bs 1 1 .nilf [(0,(.t 73))]),Qo 75 (.cl 79 [(.t 74)]),Eo (.mu 0 (.t 4) (.c (.int .u8 16)) (.t 75)),Qo 76 (.cl 86 [(.c (.int .u64 0))]),Qo 77 (.cl 85 [(.t 76)]),Qo 78 (.cl 86 [(.c (.int .u64 0))]),Qo 79 (.cl 83 [(.c (.int .u64 0)),(.t 78)]),Qo 80 (.bs 1 2 .nilf [(0,(.t 77)),(1,(.t 79))]),Qo 81 (.cl 79 [(.t 80)]),Eo (.mu 0 (.t 4) (.c (.int .u8 17)) (.t 81)),Qo 82 (.cl 86 [(.c (.int .u64 0))]),Qo 83 (.cl 85 [(.t 82)]),Qo 84 (.bs 1 1 .nilf [(0,(.t 83))]),Qo 85 (.cl 79 [(.t 84)]),Eo (.mu 0 (.t 4) (.c (.int .u8 18)) (.t 85)),Qo 86 (.bs 1 1 .nilf [(0,(.c (.fn 88 [])))]),Qo 87 (.cl 79 [(.t 86)]),Eo (.mu 0 (.t 4) (.c (.int .u8 19)) (.t 87)),Qo 88 (.bs 1 1 .nilf [(0,(.c (.fn 89 [])))]),Qo 89 (.cl 79 [(.t 88)]),Eo (.mu 0 (.t 4) (.c (.int .u8 20)) (.t 89)),Qo 90 (.bs 1 2 .nilf [(0,(.c (.fn 90 []))),(1,(.c (.fn 91 [])))]),Qo 91 (.cl 79 [(.t 90)]),Eo (.mu 0 (.t 4) (.c (.int .u8 21)) (.t 91)),Qo 92 (.bs 1 2 .nilf [(0,(.c (.fn 90 []))),(1,(.c (.fn 91 [])))]),Qo 93 (.cl 79 [(.t 92)]),Eo (.mu 0 (.t 4) (.c (.int .u8 22)) (.t 93)),Qo 94 (.bs 1 2 .nilf [(0,(.c (.fn 90 []))),(1,(.c (.fn 91 [])))]),Qo 95 (.cl 79 [(.t 94)]),Eo (.mu 0 (.t 4) (.c (.int .u8 23)) (.t 95)),Mv 96 4,Mv 3 96] [0,3]) (.sq (.rg none [Mv 97 3,Mv 98 0,Qo 99 (.lk 0 (.lst true []) false (.t 97) (.t 98)),Mv 2 99] [2]) .rt))),np:=1,res:=[.t 2],mode:=.iso }
def b60_0:C:=(.sq (.rg none [Qo 54 (.bo .lss (.t 53) (.t 52))] [0,1,4,5,6,52,53,54]) (.sq (.cd (.t 54) .sk (.xt 0)) (.sq (.bl 1 (.sq (.rq [Mv 55 0,Qo 56 (.cl 105 [(.t 55),(.c (.int .u8 32))])] [0,1,4,5,6,52,53]) (.rp [0,1,2,3,4,5,6,7,8,9] 5 [0,1] [Qo 57 (.fa 5 (.t 5)),Qo 58 (.ld none (.t 57)),Mv 59 0,Mv 60 1,Qo 61 (.bo .sub (.t 60) (.c (.int .i64 1))),⟨some 62,none,.cl 60 [(.t 59),(.t 61)],[(none,none,57,58)]⟩,Qo 63 (.bs 6 1 (.agg [(.int .u8 0),(.int .i64 0),(.int .u64 0),(.str []),(.int .i64 0),(.lst true [])]) [(0,(.t 62))]),Qo 64 (.ap 6 72 (.t 58) (.t 63)),Qo 65 (.fa 5 (.t 5)),Eo (.st 1 (.t 65) (.t 64))] [0,1,4,5,6,52,53]))) (.rg none [Qo 66 (.bo .add (.t 53) (.c (.int .i64 1))),Mv 53 66] [0,1,4,5,6,52,53]))))
def k60_1:C:=(.sq (.rq [Mv 67 0,Qo 68 (.cl 105 [(.t 67),(.c (.int .u8 41))])] [4,5,6]) (.sq (.sq (.rg none [Qo 69 (.fa 2 (.t 6)),Qo 70 (.ld none (.t 69))] [4,5,70]) (.bl 2 (.sq (.rg none [Qo 72 (.bo .eql (.t 70) (.c (.int .i64 1))),Mv 71 72] [4,5,70,71]) (.cd (.t 71) (.rg none [Qo 73 (.fa 5 (.t 5)),Qo 74 (.ld none (.t 73)),Qo 75 (.ia 6 (.t 74) (.c (.int .i64 0))),Qo 76 (.fa 1 (.t 75)),Qo 77 (.ld none (.t 76)),Qo 78 (.fa 1 (.t 5)),Eo (.st 1 (.t 78) (.t 77))] [4,5]) (.sq (.rg none [Qo 80 (.bo .eql (.t 70) (.c (.int .i64 2))),Mv 79 80] [4,5,70,79]) (.cd (.t 79) (.rg none [Qo 81 (.fa 1 (.t 5)),Eo (.st 1 (.t 81) (.c (.int .i64 1)))] [4,5]) (.sq (.rg none [Qo 83 (.bo .eql (.t 70) (.c (.int .i64 3))),Mv 82 83] [4,5,70,82]) (.cd (.t 82) (.rg none [Qo 84 (.fa 5 (.t 5)),Qo 85 (.ld none (.t 84)),Qo 86 (.ia 6 (.t 85) (.c (.int .i64 1))),Qo 87 (.fa 1 (.t 86)),Qo 88 (.ld none (.t 87)),Qo 89 (.fa 1 (.t 5)),Eo (.st 1 (.t 89) (.t 88))] [4,5]) (.sq (.rg none [Qo 91 (.bo .eql (.t 70) (.c (.int .i64 4))),Mv 90 91] [4,5,90]) (.cd (.t 90) (.rg (some (List.range 13)) [Qo 92 (.fa 5 (.t 5)),Qo 93 (.ld none (.t 92)),Qo 94 (.ia 6 (.t 93) (.c (.int .i64 0))),Qo 95 (.fa 1 (.t 94)),Qo 96 (.ld none (.t 95)),Qo 97 (.fa 5 (.t 5)),Qo 98 (.ld none (.t 97)),Qo 99 (.ia 6 (.t 98) (.c (.int .i64 1))),Qo 100 (.fa 1 (.t 99)),Qo 101 (.ld none (.t 100)),Qo 102 (.bo .add (.t 96) (.t 101)),Qo 103 (.fa 1 (.t 5)),Eo (.st 1 (.t 103) (.t 102))] [4,5]) .sk)))))))))) (.sq (.rg none [Qo 104 (.ld (some 6) (.t 5)),Eo (.st 6 (.t 4) (.t 104))] [4]) .rt)))
def c60:FI.Fn:={ body:=(.sq (.rg none [Qo 4 (.al 6 (.agg [(.int .u8 0),(.int .i64 0),(.int .u64 0),(.str []),(.int .i64 0),(.lst true [])]))] [0,1,4]) (.sq (.sq (.rg none [Mv 7 1,Qo 8 (.bo .eql (.t 7) (.c (.int .i64 0)))] [0,1,4,8]) (.cd (.t 8) (.rq [Qo 9 (.bd [] []),Qo 10 (.mi 88 (.t 9)),Eo (.pn (.t 10))] [0,1,4]) .sk)) (.sq (.sq (.rg none [Mv 11 0,Qo 12 (.nc (.t 11)),Qo 13 (.fa 0 (.t 12)),Qo 14 (.ld none (.t 13)),Qo 15 (.cl 103 [(.t 14),(.c (.str [40]))]),Qo 16 (.un .not (.t 15))] [0,1,4,16]) (.cd (.t 16) (.sq (.rq [Mv 17 0,Qo 18 (.cl 104 [(.t 17)]),Eo (.st 6 (.t 4) (.t 18))] [4]) .rt) .sk)) (.sq (.rq [Mv 19 0,Qo 20 (.cl 105 [(.t 19),(.c (.int .u8 40))])] [0,1,4]) (.sq (.rq [Mv 21 0,Qo 22 (.cl 107 [(.t 21)]),Qo 23 (.cl 106 [(.t 22)]),Qo 24 (.bd [(.int .u8 0),(.int .i64 0),(.int .u64 0),(.str []),(.int .i64 0),(.lst true [])] [(0,1,(.t 23))]),Qo 5 (.al 6 (.agg [(.int .u8 0),(.int .i64 0),(.int .u64 0),(.str []),(.int .i64 0),(.lst true [])])),Eo (.st 6 (.t 5) (.t 24))] [0,1,4,5]) (.sq (.rg none [Qo 25 (.fa 0 (.t 5)),Qo 26 (.ld none (.t 25)),Qo 27 (.aa 25 3 (.c (.eptr gl0 0)) (.t 26)),Qo 28 (.ld (some 3) (.t 27)),Qo 6 (.al 3 (.agg [(.str []),(.int .i64 0),(.int .i64 0)])),Eo (.st 3 (.t 6) (.t 28))] [0,1,4,5,6]) (.sq (.sq (.rg none [Qo 29 (.fa 2 (.t 6)),Qo 30 (.ld none (.t 29)),Qo 31 (.bo .eql (.t 30) (.c (.int .i64 5)))] [0,1,4,5,6,31]) (.cd (.t 31) (.rq [Mv 32 0,Qo 33 (.cl 108 [(.t 32)]),Qo 34 (.fa 4 (.t 5)),Eo (.st 1 (.t 34) (.t 33))] [0,1,4,5,6]) .sk)) (.sq (.sq (.rg none [Qo 35 (.fa 2 (.t 6)),Qo 36 (.ld none (.t 35)),Qo 37 (.bo .eql (.t 36) (.c (.int .i64 5))),Mv 38 37,Gd 39 38 false (.fa 2 (.t 6)),Gd 40 38 false (.ld none (.t 39)),Gd 41 38 false (.bo .eql (.t 40) (.c (.int .i64 6))),Qo 42 (.pk (.t 38) (.c (.bool true)) (.t 41)),Mv 43 42,Gd 44 43 false (.fa 2 (.t 6)),Gd 45 43 false (.ld none (.t 44)),Gd 46 43 false (.bo .eql (.t 45) (.c (.int .i64 7))),Qo 47 (.pk (.t 43) (.c (.bool true)) (.t 46))] [0,1,4,5,6,47]) (.cd (.t 47) (.rq [Mv 48 0,Qo 49 (.cl 108 [(.t 48)]),Qo 50 (.fa 1 (.t 5)),Eo (.st 1 (.t 50) (.t 49))] [0,1,4,5,6]) .sk)) (.sq (.sq (.rg none [Qo 51 (.fa 1 (.t 6)),Qo 52 (.ld none (.t 51)),Qo 53 (.mv (.c (.int .i64 0)))] [0,1,4,5,6,52,53]) (.bl 0 (.lp false b60_0))) k60_1))))))))),np:=2,res:=[.cell 4 (some 6)],mode:=.shr }
def b61_0:C:=(.sq (.rg none [Qo 70 (.bo .lss (.t 69) (.t 68))] [6,67,68,69,70]) (.sq (.cd (.t 70) .sk (.xt 1)) (.sq (.bl 2 (.sq (.rg none [Qo 71 (.ia 6 (.t 67) (.t 69)),Qo 72 (.ld (some 6) (.t 71)),Qo 8 (.al 6 (.agg [(.int .u8 0),(.int .i64 0),(.int .u64 0),(.str []),(.int .i64 0),(.lst true [])])),Eo (.st 6 (.t 8) (.t 72))] [6,8,67,68,69]) (.rq [Mv 73 6,Qo 74 (.ld (some 6) (.t 8)),Qo 75 (.cl 61 [(.t 74)]),Qo 76 (.bs 1 1 (.str []) [(0,(.t 75))]),Qo 77 (.ap 1 16 (.t 73) (.t 76)),Mv 6 77] [6,67,68,69]))) (.rg none [Qo 78 (.bo .add (.t 69) (.c (.int .i64 1))),Mv 69 78] [6,67,68,69]))))
def k61_1:C:=(.sq (.rq [Mv 79 6,Qo 80 (.cl 111 [(.t 79),(.c (.str [32]))]),Qo 81 (.bo .add (.c (.str [40])) (.t 80)),Qo 82 (.bo .add (.t 81) (.c (.str [41]))),Mv 2 82] [2]) .rt)
def c61:FI.Fn:={ body:=(.sq (.rg none [Qo 1 (.bx 6 (.t 0)),Qo 2 (.mv (.c (.str [])))] [1]) (.sq (.sq (.rg none [Qo 9 (.fa 0 (.t 1)),Qo 10 (.ld none (.t 9))] [1,10]) (.bl 0 (.sq (.rg none [Qo 12 (.bo .eql (.t 10) (.c (.int .u8 1))),Mv 11 12] [1,10,11]) (.cd (.t 11) (.sq (.rg none [Qo 14 (.fa 1 (.t 1)),Qo 15 (.ld none (.t 14)),Qo 16 (.fa 2 (.t 1)),Qo 17 (.ld none (.t 16)),Qo 18 (.cl 109 [(.t 15),(.t 17)]),Mv 13 18,Qo 19 (.ex (.t 13) 0),Qo 20 (.ex (.t 13) 1),Mv 3 19,Mv 4 20] [3]) (.sq (.rg none [Mv 21 3,Mv 2 21] [2]) .rt)) (.sq (.rg none [Qo 23 (.bo .eql (.t 10) (.c (.int .u8 2))),Mv 22 23] [1,22]) (.cd (.t 22) (.sq (.rg (some (List.range 8)) [Qo 24 (.fa 3 (.t 1)),Qo 25 (.ld none (.t 24)),Qo 26 (.bo .add (.t 25) (.c (.str [58]))),Qo 27 (.fa 1 (.t 1)),Qo 28 (.ld none (.t 27)),Qo 29 (.cl 110 [(.t 28)]),Qo 30 (.bo .add (.t 26) (.t 29)),Mv 2 30] [2]) .rt) .sk)))))) (.sq (.rg none [Qo 31 (.fa 0 (.t 1)),Qo 32 (.ld none (.t 31)),Qo 33 (.aa 25 3 (.c (.eptr gl0 0)) (.t 32)),Qo 34 (.ld (some 3) (.t 33)),Qo 5 (.al 3 (.agg [(.str []),(.int .i64 0),(.int .i64 0)])),Eo (.st 3 (.t 5) (.t 34))] [1,5]) (.sq (.rg none [Qo 35 (.fa 0 (.t 5)),Qo 36 (.ld none (.t 35)),Qo 37 (.bs 1 1 (.str []) [(0,(.t 36))]),Mv 6 37] [1,5,6]) (.sq (.sq (.rg none [Qo 38 (.fa 2 (.t 5)),Qo 39 (.ld none (.t 38)),Qo 40 (.bo .eql (.t 39) (.c (.int .i64 5)))] [1,5,6,40]) (.cd (.t 40) (.rg none [Mv 41 6,Qo 42 (.fa 4 (.t 1)),Qo 43 (.ld none (.t 42)),Qo 44 (.cl 110 [(.t 43)]),Qo 45 (.bs 1 1 (.str []) [(0,(.t 44))]),Qo 46 (.ap 1 16 (.t 41) (.t 45)),Mv 6 46] [1,5,6]) .sk)) (.sq (.sq (.rg none [Qo 47 (.fa 2 (.t 5)),Qo 48 (.ld none (.t 47)),Qo 49 (.bo .eql (.t 48) (.c (.int .i64 5))),Mv 50 49,Gd 51 50 false (.fa 2 (.t 5)),Gd 52 50 false (.ld none (.t 51)),Gd 53 50 false (.bo .eql (.t 52) (.c (.int .i64 6))),Qo 54 (.pk (.t 50) (.c (.bool true)) (.t 53)),Mv 55 54,Gd 56 55 false (.fa 2 (.t 5)),Gd 57 55 false (.ld none (.t 56)),Gd 58 55 false (.bo .eql (.t 57) (.c (.int .i64 7))),Qo 59 (.pk (.t 55) (.c (.bool true)) (.t 58))] [1,6,59]) (.cd (.t 59) (.rg none [Mv 60 6,Qo 61 (.fa 1 (.t 1)),Qo 62 (.ld none (.t 61)),Qo 63 (.cl 110 [(.t 62)]),Qo 64 (.bs 1 1 (.str []) [(0,(.t 63))]),Qo 65 (.ap 1 16 (.t 60) (.t 64)),Mv 6 65] [1,6]) .sk)) (.sq (.sq (.rg none [Qo 66 (.fa 5 (.t 1)),Qo 67 (.ld none (.t 66)),Qo 68 (.ln 1 (.t 67)),Qo 69 (.mv (.c (.int .i64 0)))] [6,67,68,69]) (.bl 1 (.lp true b61_0))) k61_1))))))),np:=1,res:=[.t 2],mode:=.iso }
def c62:FI.Fn:={ body:=(.sq (.rg none [Qo 2 (.mv (.c (.bool false)))] [0]) (.sq (.rg none [Mv 3 0,Qo 4 (.cl 113 [(.t 3),(.c (.str [114,46]))]),Qo 5 (.cl 112 [(.t 4)]),Mv 2 5] [2]) .rt)),np:=1,res:=[.t 2],mode:=.iso }
def c63:FI.Fn:={ body:=(.sq (.rg none [Qo 4 (.mv (.c (.bool false)))] [0,1]) (.sq (.rg none [Mv 5 0,Qo 6 (.cl 114 [(.t 5)]),Mv 7 6,Gm 8 7 true 1,Gm 9 7 true 0,Gd 10 7 true (.cl 115 [(.t 9)]),Gd 11 7 true (.bo .leq (.t 8) (.t 10)),Qo 12 (.pk (.t 7) (.t 11) (.c (.bool false))),Mv 4 12] [4]) .rt)),np:=2,res:=[.t 4],mode:=.iso }
def c64:FI.Fn:={ body:=(.sq (.rg none [Qo 4 (.mv (.c (.int .i64 0)))] [0,1]) (.sq (.rg none [Mv 5 0,Mv 6 1,Qo 7 (.sx (.t 5) (.t 6)),Mv 4 7] [4]) .rt)),np:=2,res:=[.t 4],mode:=.iso }
def c65:FI.Fn:={ body:=(.sq (.rg none [Qo 6 (.mv (.c (.int .u64 0))),Qo 7 (.mv (.c (.int .i64 0)))] [0,1,2]) (.sq (.sq (.rg none [Mv 9 1,Qo 10 (.cl 114 [(.t 9)]),Qo 11 (.un .not (.t 10))] [0,1,2,11]) (.cd (.t 11) (.sq (.rg none [Qo 6 (.mv (.c (.int .u64 0))),Qo 7 (.mv (.c (.int .i64 14)))] [6,7]) .rt) .sk)) (.sq (.sq (.rg none [Mv 12 0,Qo 13 (.bo .neq (.t 12) (.c (.int .u8 3))),Mv 14 13,Gm 15 14 true 0,Gd 16 14 true (.bo .neq (.t 15) (.c (.int .u8 4))),Qo 17 (.pk (.t 14) (.t 16) (.c (.bool false)))] [0,1,2,17]) (.cd (.t 17) (.sq (.rg none [Qo 6 (.mv (.c (.int .u64 0))),Qo 7 (.mv (.c (.int .i64 2)))] [6,7]) .rt) .sk)) (.sq (.sq (.rg none [Mv 18 1,Mv 19 2,Qo 20 (.bs 1 1 (.int .u64 0) [(0,(.t 19))]),Qo 21 (.cl 117 [(.t 18),(.t 20)]),Mv 8 21] [0,1,2,8]) (.sq (.rg none [Mv 22 8,Qo 23 (.bo .neq (.t 22) (.c (.int .i64 0)))] [0,1,2,8,23]) (.cd (.t 23) (.sq (.rg none [Mv 24 8,Qo 6 (.mv (.c (.int .u64 0))),Mv 7 24] [6,7]) .rt) .sk))) (.sq (.sq (.rg none [Mv 25 0,Qo 26 (.bo .eql (.t 25) (.c (.int .u8 3)))] [1,2,26]) (.cd (.t 26) (.sq (.rg none [Mv 27 2,Qo 28 (.un .xor (.t 27)),Mv 29 1,Qo 30 (.cl 115 [(.t 29)]),Qo 31 (.bo .and (.t 28) (.t 30)),Mv 6 31,Qo 7 (.mv (.c (.int .i64 0)))] [6,7]) .rt) .sk)) (.sq (.rg none [Mv 32 2,Qo 33 (.un .neg (.t 32)),Mv 34 1,Qo 35 (.cl 115 [(.t 34)]),Qo 36 (.bo .and (.t 33) (.t 35)),Mv 6 36,Qo 7 (.mv (.c (.int .i64 0)))] [6,7]) .rt)))))),np:=3,res:=[.t 6,.t 7],mode:=.iso }
def c66:FI.Fn:={ body:=(.sq (.rg none [Qo 8 (.mv (.c (.int .u64 0))),Qo 9 (.mv (.c (.int .i64 0)))] [0,1,2,3]) (.sq (.sq (.rg none [Mv 10 0,Qo 11 (.cl 114 [(.t 10)]),Qo 12 (.un .not (.t 11)),Mv 13 12,Gm 14 13 false 2,Gd 15 13 false (.cl 114 [(.t 14)]),Gd 16 13 false (.un .not (.t 15)),Qo 17 (.pk (.t 13) (.c (.bool true)) (.t 16)),Mv 18 17,Gm 19 18 false 0,Gm 20 18 false 2,Gd 21 18 false (.bo .add (.t 19) (.t 20)),Gd 22 18 false (.cl 114 [(.t 21)]),Gd 23 18 false (.un .not (.t 22)),Qo 24 (.pk (.t 18) (.c (.bool true)) (.t 23))] [0,1,2,3,24]) (.cd (.t 24) (.sq (.rg none [Qo 8 (.mv (.c (.int .u64 0))),Qo 9 (.mv (.c (.int .i64 14)))] [8,9]) .rt) .sk)) (.sq (.sq (.rg none [Mv 25 0,Mv 26 1,Qo 27 (.cl 63 [(.t 25),(.t 26)]),Qo 28 (.un .not (.t 27)),Mv 29 28,Gm 30 29 false 2,Gm 31 29 false 3,Gd 32 29 false (.cl 63 [(.t 30),(.t 31)]),Gd 33 29 false (.un .not (.t 32)),Qo 34 (.pk (.t 29) (.c (.bool true)) (.t 33))] [1,2,3,34]) (.cd (.t 34) (.sq (.rg none [Qo 8 (.mv (.c (.int .u64 0))),Qo 9 (.mv (.c (.int .i64 8)))] [8,9]) .rt) .sk)) (.sq (.rg none [Mv 35 1,Mv 36 2,Qo 37 (.bo .shl (.t 35) (.t 36)),Mv 38 3,Qo 39 (.bo .or (.t 37) (.t 38)),Mv 8 39,Qo 9 (.mv (.c (.int .i64 0)))] [8,9]) .rt)))),np:=4,res:=[.t 8,.t 9],mode:=.iso }
def c67:FI.Fn:={ body:=(.sq (.rg none [Qo 8 (.mv (.c (.int .u64 0))),Qo 9 (.mv (.c (.int .i64 0)))] [0,1,2,3]) (.sq (.sq (.rg none [Mv 11 0,Mv 12 1,Qo 13 (.bs 1 1 (.int .u64 0) [(0,(.t 12))]),Qo 14 (.cl 117 [(.t 11),(.t 13)]),Mv 10 14] [0,1,2,3,10]) (.sq (.rg none [Mv 15 10,Qo 16 (.bo .neq (.t 15) (.c (.int .i64 0)))] [0,1,2,3,10,16]) (.cd (.t 16) (.sq (.rg none [Mv 17 10,Qo 8 (.mv (.c (.int .u64 0))),Mv 9 17] [8,9]) .rt) .sk))) (.sq (.sq (.rg none [Mv 18 2,Qo 19 (.bo .lss (.t 18) (.c (.int .i64 0))),Mv 20 19,Gm 21 20 false 3,Gd 22 20 false (.bo .lss (.t 21) (.c (.int .i64 1))),Qo 23 (.pk (.t 20) (.c (.bool true)) (.t 22)),Mv 24 23,Gm 25 24 false 3,Gm 26 24 false 0,Gd 27 24 false (.bo .gtr (.t 25) (.t 26)),Qo 28 (.pk (.t 24) (.c (.bool true)) (.t 27)),Mv 29 28,Gm 30 29 false 2,Gm 31 29 false 0,Gm 32 29 false 3,Gd 33 29 false (.bo .sub (.t 31) (.t 32)),Gd 34 29 false (.bo .gtr (.t 30) (.t 33)),Qo 35 (.pk (.t 29) (.c (.bool true)) (.t 34))] [1,2,3,35]) (.cd (.t 35) (.sq (.rg none [Qo 8 (.mv (.c (.int .u64 0))),Qo 9 (.mv (.c (.int .i64 2)))] [8,9]) .rt) .sk)) (.sq (.rg (some (List.range 8)) [Mv 36 1,Mv 37 2,Qo 38 (.bo .shr (.t 36) (.t 37)),Mv 39 3,Qo 40 (.cl 115 [(.t 39)]),Qo 41 (.bo .and (.t 38) (.t 40)),Mv 8 41,Qo 9 (.mv (.c (.int .i64 0)))] [8,9]) .rt)))),np:=4,res:=[.t 8,.t 9],mode:=.iso }
def c68:FI.Fn:={ body:=(.sq (.rg none [Qo 8 (.mv (.c (.int .u64 0))),Qo 9 (.mv (.c (.int .i64 0)))] [0,1,2,3]) (.sq (.sq (.rg none [Mv 11 0,Qo 12 (.cl 114 [(.t 11)]),Qo 13 (.un .not (.t 12)),Mv 14 13,Gm 15 14 false 2,Gd 16 14 false (.cl 114 [(.t 15)]),Gd 17 14 false (.un .not (.t 16)),Qo 18 (.pk (.t 14) (.c (.bool true)) (.t 17)),Mv 19 18,Gm 20 19 false 2,Gm 21 19 false 0,Gd 22 19 false (.bo .lss (.t 20) (.t 21)),Qo 23 (.pk (.t 19) (.c (.bool true)) (.t 22))] [0,1,2,3,23]) (.cd (.t 23) (.sq (.rg none [Qo 8 (.mv (.c (.int .u64 0))),Qo 9 (.mv (.c (.int .i64 14)))] [8,9]) .rt) .sk)) (.sq (.sq (.rg none [Mv 24 0,Mv 25 1,Qo 26 (.bs 1 1 (.int .u64 0) [(0,(.t 25))]),Qo 27 (.cl 117 [(.t 24),(.t 26)]),Mv 10 27] [0,1,2,3,10]) (.sq (.rg none [Mv 28 10,Qo 29 (.bo .neq (.t 28) (.c (.int .i64 0)))] [0,1,2,3,10,29]) (.cd (.t 29) (.sq (.rg none [Mv 30 10,Qo 8 (.mv (.c (.int .u64 0))),Mv 9 30] [8,9]) .rt) .sk))) (.sq (.sq (.rg none [Mv 31 3] [0,1,2,31]) (.cd (.t 31) (.rg none [Mv 32 0,Mv 33 1,Qo 34 (.cl 118 [(.t 32),(.t 33)]),Qo 35 (.cv .u64 (.t 34)),Mv 36 2,Qo 37 (.cl 115 [(.t 36)]),Qo 38 (.bo .and (.t 35) (.t 37)),Mv 1 38] [1]) .sk)) (.sq (.rg none [Mv 39 1,Mv 8 39,Qo 9 (.mv (.c (.int .i64 0)))] [8,9]) .rt))))),np:=4,res:=[.t 8,.t 9],mode:=.iso }
def b69_0:C:=(.sq (.rg none [Qo 17 (.bo .lss (.t 16) (.t 15))] [0,1,2,9,15,16,17]) (.sq (.cd (.t 17) .sk (.xt 0)) (.sq (.bl 1 (.sq (.rg none [Mv 18 16,Mv 10 18] [0,1,2,9,10,15,16]) (.sq (.rg none [Mv 19 2,Mv 20 10,Qo 21 (.cv .u64 (.t 20)),Qo 22 (.bo .add (.t 19) (.t 21)),Mv 23 1,Qo 24 (.cl 115 [(.t 23)]),Qo 25 (.bo .and (.t 22) (.t 24)),Mv 11 25] [0,1,2,9,10,11,15,16]) (.sq (.rg none [Mv 27 0,Mv 28 11,Qo 29 (.cl 119 [(.t 27),(.t 28),(.c (.fn 120 []))]),Mv 26 29,Qo 30 (.ex (.t 26) 0),Qo 31 (.ex (.t 26) 1),Mv 12 30,Mv 13 31] [0,1,2,9,10,12,13,15,16]) (.sq (.rg none [Mv 32 13] [0,1,2,9,10,12,15,16,32]) (.cd (.t 32) (.rg none [Mv 33 9,Mv 34 0,Mv 35 12,Qo 36 (.ia 2 (.t 34) (.t 35)),Qo 37 (.fa 1 (.t 36)),Qo 38 (.ld none (.t 37)),Qo 39 (.cv .u64 (.t 38)),Mv 40 10,Qo 41 (.bo .mul (.c (.int .i64 8)) (.t 40)),Qo 42 (.bo .shl (.t 39) (.t 41)),Qo 43 (.bo .or (.t 33) (.t 42)),Mv 9 43] [0,1,2,9,15,16]) .sk)))))) (.rg none [Qo 44 (.bo .add (.t 16) (.c (.int .i64 1))),Mv 16 44] [0,1,2,9,15,16]))))
def k69_1:C:=(.sq (.rg none [Mv 45 9,Mv 8 45] [8]) .rt)
def c69:FI.Fn:={ body:=(.sq (.rg none [Qo 8 (.mv (.c (.int .u64 0)))] [0,1,2,3]) (.sq (.rg none [Qo 9 (.mv (.c (.int .u64 0)))] [0,1,2,3,9]) (.sq (.sq (.rg none [Mv 14 3,Qo 15 (.bo .quo (.t 14) (.c (.int .i64 8))),Qo 16 (.mv (.c (.int .i64 0)))] [0,1,2,9,15,16]) (.bl 0 (.lp true b69_0))) k69_1))),np:=4,res:=[.t 8],mode:=.iso }
def c70:FI.Fn:={ body:=(.sq (.rg none [Qo 8 (.mv (.c (.int .u64 0))),Qo 9 (.mv (.c (.int .i64 0)))] [0,1,2,3]) (.sq (.sq (.rg none [Mv 11 1,Qo 12 (.cl 114 [(.t 11)]),Qo 13 (.un .not (.t 12))] [0,1,2,3,13]) (.cd (.t 13) (.sq (.rg none [Qo 8 (.mv (.c (.int .u64 0))),Qo 9 (.mv (.c (.int .i64 14)))] [8,9]) .rt) .sk)) (.sq (.sq (.rg none [Mv 14 0,Qo 15 (.bo .lss (.t 14) (.c (.int .u8 5))),Mv 16 15,Gm 17 16 false 0,Gd 18 16 false (.bo .gtr (.t 17) (.c (.int .u8 18))),Qo 19 (.pk (.t 16) (.c (.bool true)) (.t 18))] [0,1,2,3,19]) (.cd (.t 19) (.sq (.rg none [Qo 8 (.mv (.c (.int .u64 0))),Qo 9 (.mv (.c (.int .i64 2)))] [8,9]) .rt) .sk)) (.sq (.sq (.rg none [Mv 20 1,Mv 21 2,Mv 22 3,Qo 23 (.bs 1 2 (.int .u64 0) [(0,(.t 21)),(1,(.t 22))]),Qo 24 (.cl 117 [(.t 20),(.t 23)]),Mv 10 24] [0,1,2,3,10]) (.sq (.rg none [Mv 25 10,Qo 26 (.bo .neq (.t 25) (.c (.int .i64 0)))] [0,1,2,3,10,26]) (.cd (.t 26) (.sq (.rg none [Mv 27 10,Qo 8 (.mv (.c (.int .u64 0))),Mv 9 27] [8,9]) .rt) .sk))) (.sq (.rg none [Mv 28 0,Qo 29 (.cl 121 [(.t 28)]),Mv 30 1,Mv 31 2,Mv 32 3,Qo 33 (.cw (.t 29) [(.t 30),(.t 31),(.t 32)]),Mv 34 1,Qo 35 (.cl 115 [(.t 34)]),Qo 36 (.bo .and (.t 33) (.t 35)),Mv 8 36,Qo 9 (.mv (.c (.int .i64 0)))] [8,9]) .rt))))),np:=4,res:=[.t 8,.t 9],mode:=.iso }
def c71:FI.Fn:={ body:=(.rg none [Qo 3 (.ld (some 6) (.t 1)),Mv 4 0,Qo 5 (.cl 72 [(.t 3),(.t 4)])] []),np:=2,res:=[],mode:=.shr }
def b72_0:C:=(.sq (.rg none [Qo 15 (.bo .lss (.t 14) (.t 13))] [1,12,13,14,15]) (.sq (.cd (.t 15) .sk (.xt 0)) (.sq (.bl 1 (.sq (.rg none [Qo 16 (.ia 6 (.t 12) (.t 14)),Qo 17 (.ld (some 6) (.t 16)),Qo 6 (.al 6 (.agg [(.int .u8 0),(.int .i64 0),(.int .u64 0),(.str []),(.int .i64 0),(.lst true [])])),Eo (.st 6 (.t 6) (.t 17))] [1,6,12,13,14]) (.sq (.rg none [Qo 18 (.ld (some 6) (.t 6)),Mv 19 1,Qo 20 (.cl 72 [(.t 18),(.t 19)]),Qo 21 (.un .not (.t 20))] [1,12,13,14,21]) (.cd (.t 21) (.sq (.rg none [Qo 4 (.mv (.c (.bool false)))] [4]) .rt) .sk)))) (.rg none [Qo 22 (.bo .add (.t 14) (.c (.int .i64 1))),Mv 14 22] [1,12,13,14]))))
def k72_1:C:=(.sq (.rg none [Qo 4 (.mv (.c (.bool true)))] [4]) .rt)
def c72:FI.Fn:={ body:=(.sq (.rg none [Qo 2 (.bx 6 (.t 0)),Qo 4 (.mv (.c (.bool false)))] [1,2]) (.sq (.sq (.rg none [Mv 7 1,Qo 8 (.ld (some 6) (.t 2)),Qo 9 (.cw (.t 7) [(.t 8)]),Qo 10 (.un .not (.t 9))] [1,2,10]) (.cd (.t 10) (.sq (.rg none [Qo 4 (.mv (.c (.bool false)))] [4]) .rt) .sk)) (.sq (.sq (.rg none [Qo 11 (.fa 5 (.t 2)),Qo 12 (.ld none (.t 11)),Qo 13 (.ln 1 (.t 12)),Qo 14 (.mv (.c (.int .i64 0)))] [1,12,13,14]) (.bl 0 (.lp false b72_0))) k72_1))),np:=2,res:=[.t 4],mode:=.shr }
def c73:FI.Fn:={ body:=(.sq (.rg none [Qo 2 (.mv (.c (.bool false)))] [0]) (.sq (.rg none [Mv 3 0,Qo 4 (.bo .geq (.t 3) (.c (.int .i64 1))),Mv 5 4,Gm 6 5 true 0,Gd 7 5 true (.bo .leq (.t 6) (.c (.int .i64 64))),Qo 8 (.pk (.t 5) (.t 7) (.c (.bool false))),Mv 2 8] [2]) .rt)),np:=1,res:=[.t 2],mode:=.iso }
def c74:FI.Fn:={ body:=(.sq (.rg none [Qo 2 (.al 3 (.agg [(.str []),(.int .i64 0),(.int .i64 0)])),Qo 3 (.mv (.c (.bool false)))] [0,2]) (.sq (.sq (.rg none [Mv 4 0,Qo 5 (.bo .gtr (.t 4) (.c (.int .u8 24)))] [0,2,5]) (.cd (.t 5) (.sq (.rg none [Qo 6 (.bd [(.str []),(.int .i64 0),(.int .i64 0)] []),Eo (.st 3 (.t 2) (.t 6)),Qo 3 (.mv (.c (.bool false)))] [2,3]) .rt) .sk)) (.sq (.rg (some (List.range 10)) [Mv 7 0,Qo 8 (.aa 25 3 (.c (.eptr gl0 0)) (.t 7)),Qo 9 (.ld (some 3) (.t 8)),Mv 10 0,Qo 11 (.aa 25 3 (.c (.eptr gl0 0)) (.t 10)),Qo 12 (.fa 1 (.t 11)),Qo 13 (.ld none (.t 12)),Qo 14 (.bo .gtr (.t 13) (.c (.int .i64 0))),⟨none,none,.st 3 (.t 2) (.t 9),[(none,none,12,13)]⟩,Mv 3 14] [2,3]) .rt))),np:=1,res:=[.cell 2 (some 3),.t 3],mode:=.iso }
def c75:FI.Fn:={ body:=(.sq (.rg none [Qo 2 (.bx 6 (.t 0)),Qo 4 (.mv (.c (.bool false)))] [1,2]) (.sq (.rg none [Qo 7 (.fa 1 (.t 2)),Qo 8 (.ld none (.t 7)),Qo 5 (.al 1 (.int .i64 0)),Eo (.st 1 (.t 5) (.t 8))] [1,2,5]) (.sq (.rg none [Qo 9 (.fa 5 (.t 2)),Qo 10 (.ld none (.t 9)),Qo 11 (.ia 6 (.t 10) (.c (.int .i64 0))),Qo 12 (.fa 1 (.t 11)),Qo 13 (.ld none (.t 12)),Mv 6 13] [1,2,5,6]) (.sq (.sq (.rg none [Mv 14 1] [2,5,6,14]) (.bl 0 (.sq (.rg none [Qo 16 (.bo .eql (.t 14) (.c (.int .i64 1))),Mv 15 16] [2,5,6,14,15]) (.cd (.t 15) (.sq (.rg none [Qo 17 (.fa 5 (.t 2)),Qo 18 (.ld none (.t 17)),Qo 19 (.mf 123 [(.t 5)]),Qo 20 (.cl 122 [(.t 18),(.t 19)]),Qo 21 (.un .not (.t 20)),Mv 4 21] [4]) .rt) (.sq (.rg none [Qo 23 (.bo .eql (.t 14) (.c (.int .i64 2))),Mv 22 23] [2,5,6,14,22]) (.cd (.t 22) (.sq (.rg none [Qo 24 (.ld none (.t 5)),Qo 25 (.bo .eql (.t 24) (.c (.int .i64 1))),Mv 26 25,Gd 27 26 true (.fa 5 (.t 2)),Gd 28 26 true (.ld none (.t 27)),Gd 29 26 true (.ia 6 (.t 28) (.c (.int .i64 1))),Gd 30 26 true (.fa 1 (.t 29)),Gd 31 26 true (.ld none (.t 30)),Gm 32 26 true 6,Gd 33 26 true (.bo .eql (.t 31) (.t 32)),Qo 34 (.pk (.t 26) (.t 33) (.c (.bool false))),Mv 4 34] [4]) .rt) (.sq (.rg none [Qo 36 (.bo .eql (.t 14) (.c (.int .i64 3))),Mv 35 36] [2,5,6,14,35]) (.cd (.t 35) (.sq (.rg (some (List.range 21)) [Mv 37 6,Qo 38 (.bo .eql (.t 37) (.c (.int .i64 1))),Mv 39 38,Gd 40 39 true (.fa 5 (.t 2)),Gd 41 39 true (.ld none (.t 40)),Gd 42 39 true (.ia 6 (.t 41) (.c (.int .i64 1))),Gd 43 39 true (.fa 1 (.t 42)),Gd 44 39 true (.ld none (.t 43)),Gd 45 39 true (.ld none (.t 5)),Gd 46 39 true (.bo .eql (.t 44) (.t 45)),Qo 47 (.pk (.t 39) (.t 46) (.c (.bool false))),Mv 48 47,Gd 49 48 true (.fa 5 (.t 2)),Gd 50 48 true (.ld none (.t 49)),Gd 51 48 true (.ia 6 (.t 50) (.c (.int .i64 2))),Gd 52 48 true (.fa 1 (.t 51)),Gd 53 48 true (.ld none (.t 52)),Gd 54 48 true (.ld none (.t 5)),Gd 55 48 true (.bo .eql (.t 53) (.t 54)),Qo 56 (.pk (.t 48) (.t 55) (.c (.bool false))),Mv 4 56] [4]) .rt) (.sq (.rg none [Qo 58 (.bo .eql (.t 14) (.c (.int .i64 4))),Mv 57 58] [2,5,6,14,57]) (.cd (.t 57) (.sq (.rg (some (List.range 22)) [Mv 59 6,Qo 60 (.cl 73 [(.t 59)]),Mv 61 60,Gd 62 61 true (.fa 5 (.t 2)),Gd 63 61 true (.ld none (.t 62)),Gd 64 61 true (.ia 6 (.t 63) (.c (.int .i64 1))),Gd 65 61 true (.fa 1 (.t 64)),Gd 66 61 true (.ld none (.t 65)),Gd 67 61 true (.cl 73 [(.t 66)]),Qo 68 (.pk (.t 61) (.t 67) (.c (.bool false))),Mv 69 68,Gm 70 69 true 6,Gd 71 69 true (.fa 5 (.t 2)),Gd 72 69 true (.ld none (.t 71)),Gd 73 69 true (.ia 6 (.t 72) (.c (.int .i64 1))),Gd 74 69 true (.fa 1 (.t 73)),Gd 75 69 true (.ld none (.t 74)),Gd 76 69 true (.bo .add (.t 70) (.t 75)),Gd 77 69 true (.ld none (.t 5)),Gd 78 69 true (.bo .eql (.t 76) (.t 77)),Qo 79 (.pk (.t 69) (.t 78) (.c (.bool false))),Mv 4 79] [4]) .rt) (.sq (.rg none [Qo 81 (.bo .eql (.t 14) (.c (.int .i64 5))),Mv 80 81] [2,5,6,14,80]) (.cd (.t 80) (.sq (.rg none [Qo 82 (.fa 4 (.t 2)),Qo 83 (.ld none (.t 82)),Qo 84 (.bo .geq (.t 83) (.c (.int .i64 0))),Mv 85 84,Gm 86 85 true 6,Gd 87 85 true (.cl 73 [(.t 86)]),Qo 88 (.pk (.t 85) (.t 87) (.c (.bool false))),Mv 89 88,Gd 90 89 true (.ld none (.t 5)),Gm 91 89 true 6,Gd 92 89 true (.bo .leq (.t 90) (.t 91)),Qo 93 (.pk (.t 89) (.t 92) (.c (.bool false))),Mv 94 93,Gd 95 94 true (.fa 4 (.t 2)),Gd 96 94 true (.ld none (.t 95)),Gm 97 94 true 6,Gd 98 94 true (.ld none (.t 5)),Gd 99 94 true (.bo .sub (.t 97) (.t 98)),Gd 100 94 true (.bo .leq (.t 96) (.t 99)),Qo 101 (.pk (.t 94) (.t 100) (.c (.bool false))),Mv 4 101] [4]) .rt) (.sq (.rg none [Qo 103 (.bo .eql (.t 14) (.c (.int .i64 6))),Mv 102 103] [5,6,102]) (.cd (.t 102) (.sq (.rg none [Mv 104 6,Qo 105 (.ld none (.t 5)),Qo 106 (.bo .leq (.t 104) (.t 105)),Mv 4 106] [4]) .rt) .sk)))))))))))))) (.sq (.rg none [Qo 107 (.ld none (.t 5)),Qo 108 (.cl 124 [(.t 107)]),Mv 4 108] [4]) .rt))))),np:=2,res:=[.t 4],mode:=.iso }
def q76_1:C:=(.sq (.rg none [Mv 62 2,Qo 63 (.bo .sub (.t 62) (.c (.int .i64 1))),Mv 64 13,Mv 65 1,Qo 66 (.bo .sub (.t 64) (.t 65)),Qo 67 (.bo .sub (.t 63) (.t 66)),Mv 13 67] [0,1,2,3,4,10,11,12,13]) (.rg none [Qo 14 (.mv (.c (.int .i64 1)))] [0,1,2,3,4,10,11,12,13,14]))
def q76_2:C:=(.cd (.t 97) (.sq (.rg none [Mv 98 0,Mv 99 1,Mv 100 2,Mv 101 13,Mv 102 4,Qo 103 (.cl 131 [(.t 98),(.t 99),(.t 100),(.t 101),(.t 102)]),Mv 15 103] [0,2,3,4,10,11,15]) (.sq (.rg none [Mv 104 15,Mv 1 104] [0,1,2,3,4,10,11]) (.xt 1))) .sk)
def q76_3:C:=(.sq (.rg none [Mv 114 17,Mv 11 114] [0,1,2,3,4,11,12,16]) (.sq (.rg none [Mv 115 16,Mv 116 1,Qo 117 (.bo .sub (.t 115) (.t 116)),Mv 118 2,Mv 119 16,Qo 120 (.bo .sub (.t 118) (.t 119)),Mv 18 117,Mv 19 120] [0,1,2,3,4,11,12,16,18,19]) (.sq (.rg none [Mv 121 12,Qo 122 (.bo .quo (.t 121) (.c (.int .i64 8))),Mv 20 122] [0,1,2,3,4,11,16,18,19,20]) (.sq (.rg none [Mv 123 18,Mv 124 19,Qo 125 (.bo .lss (.t 123) (.t 124))] [0,1,2,3,4,11,16,18,19,20,125]) (.cd (.t 125) (.sq (.rg none [Mv 126 18,Mv 127 20,Qo 128 (.bo .geq (.t 126) (.t 127)),Mv 10 128] [0,1,2,3,4,10,11,16]) (.sq (.rg none [Mv 129 0,Mv 130 1,Mv 131 16,Mv 132 3,Mv 133 4,Qo 134 (.cl 76 [(.t 129),(.t 130),(.t 131),(.t 132),(.t 133)])] [0,2,3,4,10,11,16]) (.rg none [Mv 135 16,Qo 136 (.bo .add (.t 135) (.c (.int .i64 1))),Mv 1 136] [0,1,2,3,4,10,11]))) (.sq (.rg none [Mv 137 19,Mv 138 20,Qo 139 (.bo .geq (.t 137) (.t 138)),Mv 10 139] [0,1,2,3,4,10,11,16]) (.sq (.rg none [Mv 140 0,Mv 141 16,Qo 142 (.bo .add (.t 141) (.c (.int .i64 1))),Mv 143 2,Mv 144 3,Mv 145 4,Qo 146 (.cl 76 [(.t 140),(.t 142),(.t 143),(.t 144),(.t 145)])] [0,1,3,4,10,11,16]) (.rg none [Mv 147 16,Mv 2 147] [0,1,2,3,4,10,11]))))))))
def q76_4:C:=(.sq (.rg none [Mv 106 0,Mv 107 1,Mv 108 2,Mv 109 13,Mv 110 4,Qo 111 (.cl 132 [(.t 106),(.t 107),(.t 108),(.t 109),(.t 110)]),Mv 105 111,Qo 112 (.ex (.t 105) 0),Qo 113 (.ex (.t 105) 1),Mv 16 112,Mv 17 113] [0,1,2,3,4,12,16,17]) q76_3)
def q76_5:C:=(.sq (.sq (.rg (some (List.range 17)) [Mv 81 1,Qo 82 (.bo .gtr (.t 81) (.c (.int .i64 0))),Mv 83 82,Gm 84 83 true 4,Gm 85 83 true 0,Gm 86 83 true 1,Gd 87 83 true (.bo .sub (.t 86) (.c (.int .i64 1))),Gd 88 83 true (.ia 3 (.t 85) (.t 87)),Gd 89 83 true (.ld (some 3) (.t 88)),Gm 90 83 true 0,Gm 91 83 true 13,Gd 92 83 true (.ia 3 (.t 90) (.t 91)),Gd 93 83 true (.ld (some 3) (.t 92)),Gd 94 83 true (.cw (.t 84) [(.t 89),(.t 93)]),Gd 95 83 true (.bo .lss (.t 94) (.c (.int .i64 0))),Gd 96 83 true (.un .not (.t 95)),Qo 97 (.pk (.t 83) (.t 96) (.c (.bool false)))] [0,1,2,3,4,10,11,12,13,97]) q76_2) q76_4)
def q76_6:C:=(.sq (.sq (.rg none [Mv 68 10,Mv 69 68,Gm 70 69 true 11,Qo 71 (.pk (.t 69) (.t 70) (.c (.bool false))),Mv 72 71,Gm 73 72 true 14,Gd 74 72 true (.bo .eql (.t 73) (.c (.int .i64 1))),Qo 75 (.pk (.t 72) (.t 74) (.c (.bool false)))] [0,1,2,3,4,10,11,12,13,75]) (.cd (.t 75) (.sq (.rg none [Mv 76 0,Mv 77 1,Mv 78 2,Mv 79 4,Qo 80 (.cl 130 [(.t 76),(.t 77),(.t 78),(.t 79)])] [0,1,2,3,4,10,11,12,13,80]) (.cd (.t 80) .rt .sk)) .sk)) q76_5)
def q76_7:C:=(.sq (.sq (.rg none [Mv 55 14,Qo 56 (.bo .eql (.t 55) (.c (.int .i64 2)))] [0,1,2,3,4,10,11,12,13,14,56]) (.cd (.t 56) (.sq (.rg none [Mv 57 0,Mv 58 1,Mv 59 2,Mv 60 4,Qo 61 (.cl 129 [(.t 57),(.t 58),(.t 59),(.t 60)])] [0,1,2,3,4,10,11,12,13]) q76_1) .sk)) q76_6)
def q76_8:C:=(.sq (.rg none [Mv 48 0,Mv 49 1,Mv 50 2,Mv 51 4,Qo 52 (.cl 128 [(.t 48),(.t 49),(.t 50),(.t 51)]),Mv 47 52,Qo 53 (.ex (.t 47) 0),Qo 54 (.ex (.t 47) 1),Mv 13 53,Mv 14 54] [0,1,2,3,4,10,11,12,13,14]) q76_7)
def q76_9:C:=(.sq (.sq (.rg none [Mv 38 10,Qo 39 (.un .not (.t 38))] [0,1,2,3,4,10,11,12,39]) (.cd (.t 39) (.sq (.rg none [Mv 40 0,Mv 41 1,Mv 42 2,Mv 43 4,Qo 44 (.cl 127 [(.t 40),(.t 41),(.t 42),(.t 43)])] [0,1,2,3,4,10,11,12]) (.rg none [Mv 45 3,Qo 46 (.bo .sub (.t 45) (.c (.int .i64 1))),Mv 3 46] [0,1,2,3,4,10,11,12])) .sk)) q76_8)
def q76_10:C:=(.sq (.sq (.rg none [Mv 31 3,Qo 32 (.bo .eql (.t 31) (.c (.int .i64 0)))] [0,1,2,3,4,10,11,12,32]) (.cd (.t 32) (.sq (.rg none [Mv 33 0,Mv 34 1,Mv 35 2,Mv 36 4,Qo 37 (.cl 126 [(.t 33),(.t 34),(.t 35),(.t 36)])] []) .rt) .sk)) q76_9)
def b76_0:C:=(.bl 1 (.sq (.rg none [Mv 21 2,Mv 22 1,Qo 23 (.bo .sub (.t 21) (.t 22)),Mv 12 23] [0,1,2,3,4,10,11,12]) (.sq (.sq (.rg none [Mv 24 12,Qo 25 (.bo .leq (.t 24) (.c (.int .i64 12)))] [0,1,2,3,4,10,11,12,25]) (.cd (.t 25) (.sq (.rg none [Mv 26 0,Mv 27 1,Mv 28 2,Mv 29 4,Qo 30 (.cl 125 [(.t 26),(.t 27),(.t 28),(.t 29)])] []) .rt) .sk)) q76_10)))
def c76:FI.Fn:={ body:=(.sq (.rg none [Qo 10 (.mv (.c (.bool true)))] [0,1,2,3,4,10]) (.sq (.rg none [Qo 11 (.mv (.c (.bool true)))] [0,1,2,3,4,10,11]) (.bl 0 (.lp false b76_0)))),np:=5,res:=[],mode:=.shr }
def c77:FI.Fn:={ body:=(.sq (.rg none [Qo 2 (.mv (.c (.int .i64 0)))] [0]) (.sq (.cd (.c (.bool false)) (.sq (.rg none [Mv 3 0,Qo 4 (.cv .u32 (.t 3)),Qo 5 (.cl 133 [(.t 4)]),Mv 2 5] [2]) .rt) .sk) (.sq (.rg none [Mv 6 0,Qo 7 (.cl 134 [(.t 6)]),Mv 2 7] [2]) .rt))),np:=1,res:=[.t 2],mode:=.iso }
def c78:FI.Fn:={ body:=(.sq (.rg none [Qo 4 (.al 6 (.agg [(.int .u8 0),(.int .i64 0),(.int .u64 0),(.str []),(.int .i64 0),(.lst true [])]))] [0,1,4]) (.sq (.rg none [Mv 5 0,Mv 6 1,Qo 7 (.bd [(.int .u8 0),(.int .i64 0),(.int .u64 0),(.str []),(.int .i64 0),(.lst true [])] [(0,1,(.c (.int .u8 1))),(1,1,(.t 5)),(2,1,(.t 6))]),Eo (.st 6 (.t 4) (.t 7))] [4]) .rt)),np:=2,res:=[.cell 4 (some 6)],mode:=.iso }
def c79:FI.Fn:={ body:=(.sq (.rg none [Qo 2 (.mv (.c (.lst true [])))] [0]) (.sq (.rg none [Mv 3 0,Mv 2 3] [2]) .rt)),np:=1,res:=[.t 2],mode:=.isc }
def c80:FI.Fn:={ body:=(.sq (.rg none [Qo 1 (.bx 6 (.t 0)),Qo 2 (.al 6 (.agg [(.int .u8 0),(.int .i64 0),(.int .u64 0),(.str []),(.int .i64 0),(.lst true [])])),Qo 3 (.mv (.c (.bool false)))] [1,2]) (.sq (.sq (.rg (some (List.range 8)) [Qo 4 (.fa 5 (.t 1)),Qo 5 (.ld none (.t 4)),Qo 6 (.ia 6 (.t 5) (.c (.int .i64 0))),Qo 7 (.fa 0 (.t 6)),Qo 8 (.ld none (.t 7)),Qo 9 (.fa 0 (.t 1)),Qo 10 (.ld none (.t 9)),Qo 11 (.bo .neq (.t 8) (.t 10))] [1,2,11]) (.cd (.t 11) (.sq (.rg none [Qo 12 (.ld (some 6) (.t 1)),Eo (.st 6 (.t 2) (.t 12)),Qo 3 (.mv (.c (.bool false)))] [2,3]) .rt) .sk)) (.sq (.rg none [Qo 13 (.fa 5 (.t 1)),Qo 14 (.ld none (.t 13)),Qo 15 (.ia 6 (.t 14) (.c (.int .i64 0))),Qo 16 (.fa 5 (.t 15)),Qo 17 (.ld none (.t 16)),Qo 18 (.ia 6 (.t 17) (.c (.int .i64 0))),Qo 19 (.ld (some 6) (.t 18)),Eo (.st 6 (.t 2) (.t 19)),Qo 3 (.mv (.c (.bool true)))] [2,3]) .rt))),np:=1,res:=[.cell 2 (some 6),.t 3],mode:=.isc }
def c81:FI.Fn:={ body:=(.sq (.rg none [Qo 2 (.bx 1 (.t 0)),Qo 3 (.bx 1 (.t 1)),Qo 4 (.mv (.c .nilf))] [2,3]) (.sq (.rg none [Qo 5 (.mf 135 [(.t 3),(.t 2)]),Mv 4 5] [4]) .rt)),np:=2,res:=[.t 4],mode:=.iso }
def c82:FI.Fn:={ body:=(.sq (.rg none [Qo 1 (.bx 6 (.t 0)),Qo 2 (.al 6 (.agg [(.int .u8 0),(.int .i64 0),(.int .u64 0),(.str []),(.int .i64 0),(.lst true [])]))] [1,2]) (.sq (.rg none [Qo 3 (.fa 5 (.t 1)),Qo 4 (.ld none (.t 3)),Qo 5 (.ia 6 (.t 4) (.c (.int .i64 1))),Qo 6 (.ld (some 6) (.t 5)),Eo (.st 6 (.t 2) (.t 6))] [2]) .rt)),np:=1,res:=[.cell 2 (some 6)],mode:=.iso }
def c83:FI.Fn:={ body:=(.sq (.rg none [Qo 2 (.bx 1 (.t 0)),Qo 3 (.bx 1 (.t 1)),Qo 4 (.mv (.c .nilf))] [2,3]) (.sq (.rg none [Qo 5 (.mf 138 [(.t 3),(.t 2)]),Mv 4 5] [4]) .rt)),np:=2,res:=[.t 4],mode:=.iso }
def c84:FI.Fn:={ body:=(.sq (.rg none [Qo 1 (.bx 6 (.t 0)),Qo 2 (.al 6 (.agg [(.int .u8 0),(.int .i64 0),(.int .u64 0),(.str []),(.int .i64 0),(.lst true [])]))] [1,2]) (.sq (.rg none [Qo 3 (.fa 5 (.t 1)),Qo 4 (.ld none (.t 3)),Qo 5 (.ia 6 (.t 4) (.c (.int .i64 0))),Qo 6 (.ld (some 6) (.t 5)),Eo (.st 6 (.t 2) (.t 6))] [2]) .rt)),np:=1,res:=[.cell 2 (some 6)],mode:=.iso }
def c85:FI.Fn:={ body:=(.sq (.rg none [Qo 1 (.bx 1 (.t 0)),Qo 2 (.mv (.c .nilf))] [1]) (.sq (.rg none [Qo 3 (.mf 139 [(.t 1)]),Mv 2 3] [2]) .rt)),np:=1,res:=[.t 2],mode:=.iso }
def c86:FI.Fn:={ body:=(.sq (.rg none [Qo 1 (.bx 1 (.t 0)),Qo 2 (.mv (.c .nilf))] [1]) (.sq (.rg none [Qo 3 (.mf 141 [(.t 1)]),Mv 2 3] [2]) .rt)),np:=1,res:=[.t 2],mode:=.iso }
def c87:FI.Fn:={ body:=(.sq (.rg none [Qo 1 (.bx 6 (.t 0)),Qo 2 (.al 6 (.agg [(.int .u8 0),(.int .i64 0),(.int .u64 0),(.str []),(.int .i64 0),(.lst true [])])),Qo 3 (.mv (.c (.bool false)))] [1,2]) (.sq (.rg none [Qo 5 (.fa 5 (.t 1)),Qo 6 (.ld none (.t 5)),Qo 7 (.ia 6 (.t 6) (.c (.int .i64 1))),Qo 8 (.ld (some 6) (.t 7)),Qo 4 (.al 6 (.agg [(.int .u8 0),(.int .i64 0),(.int .u64 0),(.str []),(.int .i64 0),(.lst true [])])),Eo (.st 6 (.t 4) (.t 8))] [1,2,4]) (.sq (.rg (some (List.range 16)) [Qo 9 (.fa 1 (.t 1)),Qo 10 (.ld none (.t 9)),Qo 11 (.cl 78 [(.t 10),(.c (.int .u64 0))]),Qo 12 (.fa 0 (.t 4)),Qo 13 (.ld none (.t 12)),Qo 14 (.bo .eql (.t 13) (.c (.int .u8 1))),Mv 15 14,Gd 16 15 true (.fa 2 (.t 4)),Gd 17 15 true (.ld none (.t 16)),Gd 18 15 true (.fa 1 (.t 1)),Gd 19 15 true (.ld none (.t 18)),Gd 20 15 true (.cv .u64 (.t 19)),Gd 21 15 true (.bo .geq (.t 17) (.t 20)),Qo 22 (.pk (.t 15) (.t 21) (.c (.bool false))),⟨none,none,.st 6 (.t 2) (.t 11),[(some (15,true),none,16,17),(some (15,true),none,18,19)]⟩,Mv 3 22] [2,3]) .rt))),np:=1,res:=[.cell 2 (some 6),.t 3],mode:=.isc }
def c88:FI.Fn:={ body:=(.sq (.rg none [Qo 1 (.bx 6 (.t 0)),Qo 2 (.al 6 (.agg [(.int .u8 0),(.int .i64 0),(.int .u64 0),(.str []),(.int .i64 0),(.lst true [])])),Qo 3 (.mv (.c (.bool false)))] [1,2]) (.sq (.sq (.rg none [Qo 4 (.fa 5 (.t 1)),Qo 5 (.ld none (.t 4)),Qo 6 (.ia 6 (.t 5) (.c (.int .i64 0))),Qo 7 (.ld (some 6) (.t 6)),Qo 8 (.cl 136 [(.t 7),(.c (.int .u64 1))])] [1,2,8]) (.cd (.t 8) (.sq (.rg none [Qo 9 (.fa 5 (.t 1)),Qo 10 (.ld none (.t 9)),Qo 11 (.ia 6 (.t 10) (.c (.int .i64 1))),Qo 12 (.ld (some 6) (.t 11)),Eo (.st 6 (.t 2) (.t 12)),Qo 3 (.mv (.c (.bool true)))] [2,3]) .rt) .sk)) (.sq (.rg (some (List.range 22)) [Qo 13 (.fa 5 (.t 1)),Qo 14 (.ld none (.t 13)),Qo 15 (.ia 6 (.t 14) (.c (.int .i64 2))),Qo 16 (.ld (some 6) (.t 15)),Qo 17 (.fa 5 (.t 1)),Qo 18 (.ld none (.t 17)),Qo 19 (.ia 6 (.t 18) (.c (.int .i64 0))),Qo 20 (.ld (some 6) (.t 19)),Qo 21 (.cl 136 [(.t 20),(.c (.int .u64 0))]),Mv 22 21,Gd 23 22 false (.fa 5 (.t 1)),Gd 24 22 false (.ld none (.t 23)),Gd 25 22 false (.ia 6 (.t 24) (.c (.int .i64 1))),Gd 26 22 false (.ld (some 6) (.t 25)),Gd 27 22 false (.fa 5 (.t 1)),Gd 28 22 false (.ld none (.t 27)),Gd 29 22 false (.ia 6 (.t 28) (.c (.int .i64 2))),Gd 30 22 false (.ld (some 6) (.t 29)),Gd 31 22 false (.cl 140 [(.t 26),(.t 30)]),Qo 32 (.pk (.t 22) (.c (.bool true)) (.t 31)),Eo (.st 6 (.t 2) (.t 16)),Mv 3 32] [2,3]) .rt))),np:=1,res:=[.cell 2 (some 6),.t 3],mode:=.isc }
def c89:FI.Fn:={ body:=(.sq (.rg none [Qo 1 (.bx 6 (.t 0)),Qo 2 (.al 6 (.agg [(.int .u8 0),(.int .i64 0),(.int .u64 0),(.str []),(.int .i64 0),(.lst true [])])),Qo 3 (.mv (.c (.bool false)))] [1,2]) (.sq (.rg none [Qo 5 (.fa 5 (.t 1)),Qo 6 (.ld none (.t 5)),Qo 7 (.ia 6 (.t 6) (.c (.int .i64 1))),Qo 8 (.ld (some 6) (.t 7)),Qo 4 (.al 6 (.agg [(.int .u8 0),(.int .i64 0),(.int .u64 0),(.str []),(.int .i64 0),(.lst true [])])),Eo (.st 6 (.t 4) (.t 8))] [1,2,4]) (.sq (.sq (.rg none [Qo 9 (.fa 0 (.t 4)),Qo 10 (.ld none (.t 9)),Qo 11 (.bo .eql (.t 10) (.c (.int .u8 22)))] [1,2,4,11]) (.cd (.t 11) (.rg none [Qo 12 (.fa 5 (.t 4)),Qo 13 (.ld none (.t 12)),Qo 14 (.ia 6 (.t 13) (.c (.int .i64 0))),Qo 15 (.ld (some 6) (.t 14)),Eo (.st 6 (.t 4) (.t 15))] [1,2,4]) .sk)) (.sq (.rg (some (List.range 12)) [Qo 16 (.fa 1 (.t 1)),Qo 17 (.ld none (.t 16)),Qo 18 (.ld (some 6) (.t 4)),Qo 19 (.bs 6 1 (.agg [(.int .u8 0),(.int .i64 0),(.int .u64 0),(.str []),(.int .i64 0),(.lst true [])]) [(0,(.t 18))]),Qo 20 (.bd [(.int .u8 0),(.int .i64 0),(.int .u64 0),(.str []),(.int .i64 0),(.lst true [])] [(0,1,(.c (.int .u8 22))),(1,1,(.t 17)),(5,1,(.t 19))]),Qo 21 (.fa 5 (.t 1)),Qo 22 (.ld none (.t 21)),Qo 23 (.ia 6 (.t 22) (.c (.int .i64 0))),Qo 24 (.ld (some 6) (.t 23)),Qo 25 (.cl 136 [(.t 24),(.c (.int .u64 0))]),Eo (.st 6 (.t 2) (.t 20)),Mv 3 25] [2,3]) .rt)))),np:=1,res:=[.cell 2 (some 6),.t 3],mode:=.isc }
def c90:FI.Fn:={ body:=(.sq (.rg none [Qo 1 (.bx 6 (.t 0)),Qo 2 (.al 6 (.agg [(.int .u8 0),(.int .i64 0),(.int .u64 0),(.str []),(.int .i64 0),(.lst true [])])),Qo 3 (.mv (.c (.bool false)))] [1,2]) (.sq (.rg (some (List.range 14)) [Qo 4 (.fa 5 (.t 1)),Qo 5 (.ld none (.t 4)),Qo 6 (.ia 6 (.t 5) (.c (.int .i64 0))),Qo 7 (.ld (some 6) (.t 6)),Qo 8 (.fa 5 (.t 1)),Qo 9 (.ld none (.t 8)),Qo 10 (.ia 6 (.t 9) (.c (.int .i64 0))),Qo 11 (.fa 1 (.t 10)),Qo 12 (.ld none (.t 11)),Qo 13 (.fa 1 (.t 1)),Qo 14 (.ld none (.t 13)),Qo 15 (.bo .eql (.t 12) (.t 14)),⟨none,none,.st 6 (.t 2) (.t 7),[(none,none,8,9),(none,none,11,12),(none,none,13,14)]⟩,Mv 3 15] [2,3]) .rt)),np:=1,res:=[.cell 2 (some 6),.t 3],mode:=.isc }
def c91:FI.Fn:={ body:=(.sq (.rg none [Qo 1 (.bx 6 (.t 0)),Qo 2 (.al 6 (.agg [(.int .u8 0),(.int .i64 0),(.int .u64 0),(.str []),(.int .i64 0),(.lst true [])])),Qo 3 (.mv (.c (.bool false)))] [1,2]) (.sq (.rg none [Qo 5 (.fa 5 (.t 1)),Qo 6 (.ld none (.t 5)),Qo 7 (.ia 6 (.t 6) (.c (.int .i64 0))),Qo 8 (.ld (some 6) (.t 7)),Qo 4 (.al 6 (.agg [(.int .u8 0),(.int .i64 0),(.int .u64 0),(.str []),(.int .i64 0),(.lst true [])])),Eo (.st 6 (.t 4) (.t 8))] [1,2,4]) (.sq (.sq (.rg none [Qo 9 (.fa 0 (.t 4)),Qo 10 (.ld none (.t 9)),Qo 11 (.fa 0 (.t 1)),Qo 12 (.ld none (.t 11)),Qo 13 (.bo .neq (.t 10) (.t 12))] [1,2,4,13]) (.cd (.t 13) (.sq (.rg none [Qo 14 (.ld (some 6) (.t 1)),Eo (.st 6 (.t 2) (.t 14)),Qo 3 (.mv (.c (.bool false)))] [2,3]) .rt) .sk)) (.sq (.rg none [Qo 15 (.fa 4 (.t 1)),Qo 16 (.ld none (.t 15)),Qo 17 (.fa 4 (.t 4)),Qo 18 (.ld none (.t 17)),Qo 19 (.bo .add (.t 16) (.t 18)),Qo 20 (.fa 4 (.t 1)),Eo (.st 1 (.t 20) (.t 19))] [1,2,4]) (.sq (.rg none [Qo 21 (.fa 5 (.t 4)),Qo 22 (.ld none (.t 21)),Qo 23 (.fa 5 (.t 1)),Eo (.st 1 (.t 23) (.t 22))] [1,2]) (.sq (.rg none [Qo 24 (.ld (some 6) (.t 1)),Eo (.st 6 (.t 2) (.t 24)),Qo 3 (.mv (.c (.bool true)))] [2,3]) .rt)))))),np:=1,res:=[.cell 2 (some 6),.t 3],mode:=.isc }
def c103:FI.Fn:={ body:=(.sq (.rg none [Qo 4 (.mv (.c (.bool false)))] [0,1]) (.sq (.rg none [Mv 5 0,Mv 6 1,Qo 7 (.cl 156 [(.t 5),(.t 6)]),Mv 4 7] [4]) .rt)),np:=2,res:=[.t 4],mode:=.iso }
def c104:FI.Fn:={ body:=(.sq (.rg none [Qo 2 (.al 6 (.agg [(.int .u8 0),(.int .i64 0),(.int .u64 0),(.str []),(.int .i64 0),(.lst true [])]))] [0,2]) (.sq (.rg none [Mv 11 0,Qo 12 (.cl 107 [(.t 11)]),Mv 3 12] [2,3]) (.sq (.sq (.rg none [Mv 14 3,Qo 15 (.cl 157 [(.t 14)]),Mv 13 15,Qo 16 (.ex (.t 13) 0),Qo 17 (.ex (.t 13) 1),Qo 18 (.ex (.t 13) 2),Mv 4 16,Mv 5 17,Mv 6 18] [2,3,4,5,6]) (.sq (.rg none [Mv 19 6,Qo 20 (.bo .eql (.t 19) (.c (.int .i64 0)))] [2,3,4,5,20]) (.cd (.t 20) (.sq (.rg none [Mv 21 4,Mv 22 5,Qo 23 (.bd [(.int .u8 0),(.int .i64 0),(.int .u64 0),(.str []),(.int .i64 0),(.lst true [])] [(0,1,(.c (.int .u8 1))),(1,1,(.t 21)),(2,1,(.t 22))]),Eo (.st 6 (.t 2) (.t 23))] [2]) .rt) .sk))) (.sq (.rg none [Mv 25 3,Qo 26 (.cl 158 [(.t 25),(.c (.str [58]))]),Mv 24 26,Qo 27 (.ex (.t 24) 0),Qo 28 (.ex (.t 24) 1),Qo 29 (.ex (.t 24) 2),Mv 7 27,Mv 8 28,Mv 9 29] [2,7,8]) (.sq (.rg none [Mv 30 8,Qo 31 (.bo .add (.c (.str [32])) (.t 30)),Qo 32 (.bd [(.str [])] [(0,1,(.t 31))]),Qo 10 (.al 1 (.agg [(.str [])])),Eo (.st 1 (.t 10) (.t 32))] [2,7,10]) (.sq (.rq [Mv 33 7,Qo 34 (.cl 108 [(.t 10)]),Qo 35 (.bd [(.int .u8 0),(.int .i64 0),(.int .u64 0),(.str []),(.int .i64 0),(.lst true [])] [(0,1,(.c (.int .u8 2))),(3,1,(.t 33)),(1,1,(.t 34))]),Eo (.st 6 (.t 2) (.t 35))] [2]) .rt)))))),np:=1,res:=[.cell 2 (some 6)],mode:=.shr }
def c105:FI.Fn:={ body:=(.sq (.sq (.rg none [Mv 4 0,Qo 5 (.nc (.t 4)),Qo 6 (.fa 0 (.t 5)),Qo 7 (.ld none (.t 6)),Qo 8 (.bo .eql (.t 7) (.c (.str []))),Mv 9 8,Gm 10 9 false 0,Gd 11 9 false (.nc (.t 10)),Gd 12 9 false (.fa 0 (.t 11)),Gd 13 9 false (.ld none (.t 12)),Gd 14 9 false (.ix (.t 13) (.c (.int .i64 0))),Gm 15 9 false 1,Gd 16 9 false (.bo .neq (.t 14) (.t 15)),Qo 17 (.pk (.t 9) (.c (.bool true)) (.t 16))] [0,17]) (.cd (.t 17) (.rq [Qo 18 (.bd [] []),Qo 19 (.mi 88 (.t 18)),Eo (.pn (.t 19))] [0]) .sk)) (.rg none [Mv 20 0,Mv 21 0,Qo 22 (.nc (.t 21)),Qo 23 (.fa 0 (.t 22)),Qo 24 (.ld none (.t 23)),Qo 25 (.sl 0 (.t 24) (some (.c (.int .i64 1))) none),Qo 26 (.nc (.t 20)),Qo 27 (.fa 0 (.t 26)),Eo (.st 1 (.t 27) (.t 25))] [])),np:=2,res:=[],mode:=.shr }
def b106_0:C:=(.sq (.rg none [Qo 7 (.bo .lss (.t 6) (.c (.int .i64 25)))] [0,2,5,6,7]) (.sq (.cd (.t 7) .sk (.xt 0)) (.sq (.bl 1 (.sq (.rg none [Mv 8 6,Qo 9 (.xa 25 3 (some 3) (.t 5) (.t 6)),Qo 4 (.al 3 (.agg [(.str []),(.int .i64 0),(.int .i64 0)])),Mv 3 8,Eo (.st 3 (.t 4) (.t 9))] [0,2,3,4,5,6]) (.sq (.rg none [Qo 10 (.fa 1 (.t 4)),Qo 11 (.ld none (.t 10)),Qo 12 (.bo .gtr (.t 11) (.c (.int .i64 0))),Mv 13 12,Gd 14 13 true (.fa 0 (.t 4)),Gd 15 13 true (.ld none (.t 14)),Gm 16 13 true 0,Gd 17 13 true (.bo .eql (.t 15) (.t 16)),Qo 18 (.pk (.t 13) (.t 17) (.c (.bool false)))] [0,2,3,5,6,18]) (.cd (.t 18) (.sq (.rg none [Mv 19 3,Qo 20 (.cv .u8 (.t 19)),Mv 2 20] [2]) .rt) .sk)))) (.rg none [Qo 21 (.bo .add (.t 6) (.c (.int .i64 1))),Mv 6 21] [0,2,5,6]))))
def k106_1:C:=(.rq [Qo 22 (.bd [] []),Qo 23 (.mi 88 (.t 22)),Eo (.pn (.t 23))] [2])
def c106:FI.Fn:={ body:=(.sq (.rg none [Qo 2 (.mv (.c (.int .u8 0)))] [0,2]) (.sq (.sq (.rg none [Qo 5 (.ld (some 75) (.c (.eptr gl0 0))),Qo 6 (.mv (.c (.int .i64 0)))] [0,2,5,6]) (.bl 0 (.lp true b106_0))) k106_1)),np:=1,res:=[.t 2],mode:=.iso }
def c107:FI.Fn:={ body:=(.sq (.rg none [Qo 2 (.mv (.c (.str [])))] [0]) (.sq (.rg none [Mv 5 0,Qo 6 (.nc (.t 5)),Qo 7 (.fa 0 (.t 6)),Qo 8 (.ld none (.t 7)),Qo 9 (.cl 159 [(.t 8),(.c (.str [32,41]))]),Mv 3 9] [0,3]) (.sq (.sq (.rg none [Mv 10 3,Qo 11 (.bo .lss (.t 10) (.c (.int .i64 0)))] [0,3,11]) (.cd (.t 11) (.rg none [Mv 12 0,Qo 13 (.nc (.t 12)),Qo 14 (.fa 0 (.t 13)),Qo 15 (.ld none (.t 14)),Qo 16 (.ln 0 (.t 15)),Mv 3 16] [0,3]) .sk)) (.sq (.rg none [Mv 17 0,Qo 18 (.nc (.t 17)),Qo 19 (.fa 0 (.t 18)),Qo 20 (.ld none (.t 19)),Mv 21 3,Qo 22 (.sl 0 (.t 20) none (some (.t 21))),Mv 4 22] [0,3,4]) (.sq (.rg none [Mv 23 0,Mv 24 0,Qo 25 (.nc (.t 24)),Qo 26 (.fa 0 (.t 25)),Qo 27 (.ld none (.t 26)),Mv 28 3,Qo 29 (.sl 0 (.t 27) (some (.t 28)) none),Qo 30 (.nc (.t 23)),Qo 31 (.fa 0 (.t 30)),Eo (.st 1 (.t 31) (.t 29))] [4]) (.sq (.rg none [Mv 32 4,Mv 2 32] [2]) .rt)))))),np:=1,res:=[.t 2],mode:=.shr }
def b108_0:C:=(.sq (.rg none [Qo 10 (.bo .lss (.t 9) (.c (.int .i64 65)))] [2,3,9,10]) (.sq (.cd (.t 10) .sk (.xt 0)) (.sq (.bl 1 (.sq (.rg none [Mv 11 9,Mv 4 11] [2,3,4,9]) (.sq (.rg none [Mv 12 4,Qo 13 (.cl 110 [(.t 12)]),Mv 14 3,Qo 15 (.bo .eql (.t 13) (.t 14))] [2,3,4,9,15]) (.cd (.t 15) (.sq (.rg none [Mv 16 4,Mv 2 16] [2]) .rt) .sk)))) (.rg none [Qo 17 (.bo .add (.t 9) (.c (.int .i64 1))),Mv 9 17] [2,3,9]))))
def k108_1:C:=(.rq [Qo 18 (.bd [] []),Qo 19 (.mi 88 (.t 18)),Eo (.pn (.t 19))] [2])
def c108:FI.Fn:={ body:=(.sq (.rg none [Qo 2 (.mv (.c (.int .i64 0)))] [0,2]) (.sq (.rq [Mv 5 0,Qo 6 (.cl 105 [(.t 5),(.c (.int .u8 32))])] [0,2]) (.sq (.rg none [Mv 7 0,Qo 8 (.cl 107 [(.t 7)]),Mv 3 8] [2,3]) (.sq (.sq (.rg none [Qo 9 (.mv (.c (.int .i64 0)))] [2,3,9]) (.bl 0 (.lp true b108_0))) k108_1)))),np:=1,res:=[.t 2],mode:=.shr }
def b109_0:C:=(.sq (.rg none [Qo 36 (.bo .lss (.t 35) (.t 34))] [1,7,8,34,35,36]) (.sq (.cd (.t 36) .sk (.xt 0)) (.sq (.bl 1 (.sq (.rg none [Mv 37 35,Mv 9 37] [1,7,8,9,34,35]) (.rg none [Mv 38 7,Mv 39 1,Mv 40 8,Qo 41 (.bo .sub (.t 40) (.c (.int .i64 1))),Mv 42 9,Qo 43 (.bo .sub (.t 41) (.t 42)),Qo 44 (.bo .mul (.c (.int .i64 4)) (.t 43)),Qo 45 (.bo .shr (.t 39) (.t 44)),Qo 46 (.bo .and (.t 45) (.c (.int .u64 15))),Qo 47 (.ix (.c (.str [48,49,50,51,52,53,54,55,56,57,97,98,99,100,101,102])) (.t 46)),Qo 48 (.bs 1 1 (.int .u8 0) [(0,(.t 47))]),Qo 49 (.ap 1 1 (.t 38) (.t 48)),Mv 7 49] [1,7,8,34,35]))) (.rg none [Qo 50 (.bo .add (.t 35) (.c (.int .i64 1))),Mv 35 50] [1,7,8,34,35]))))
def k109_1:C:=(.sq (.rg none [Mv 51 7,Qo 52 (.cs (.t 51)),Mv 4 52,Qo 5 (.mv (.c (.int .i64 0)))] [4,5]) .rt)
def c109:FI.Fn:={ body:=(.sq (.rg none [Qo 4 (.mv (.c (.str []))),Qo 5 (.mv (.c (.int .i64 0)))] [0,1]) (.sq (.sq (.rg none [Mv 10 0,Mv 11 1,Qo 12 (.bs 1 1 (.int .u64 0) [(0,(.t 11))]),Qo 13 (.cl 117 [(.t 10),(.t 12)]),Mv 6 13] [0,1,6]) (.sq (.rg none [Mv 14 6,Qo 15 (.bo .neq (.t 14) (.c (.int .i64 0)))] [0,1,6,15]) (.cd (.t 15) (.sq (.rg none [Mv 16 6,Qo 4 (.mv (.c (.str []))),Mv 5 16] [4,5]) .rt) .sk))) (.sq (.rg none [Qo 7 (.nl 1)] [0,1,7]) (.sq (.sq (.rg none [Mv 17 0,Qo 18 (.bo .gtr (.t 17) (.c (.int .i64 9)))] [0,1,7,18]) (.cd (.t 18) (.rg none [Mv 19 7,Mv 20 0,Qo 21 (.bo .quo (.t 20) (.c (.int .i64 10))),Qo 22 (.ix (.c (.str [48,49,50,51,52,53,54,55,56,57,97,98,99,100,101,102])) (.t 21)),Qo 23 (.bs 1 1 (.int .u8 0) [(0,(.t 22))]),Qo 24 (.ap 1 1 (.t 19) (.t 23)),Mv 7 24] [0,1,7]) .sk)) (.sq (.rg none [Mv 25 7,Mv 26 0,Qo 27 (.bo .rem (.t 26) (.c (.int .i64 10))),Qo 28 (.ix (.c (.str [48,49,50,51,52,53,54,55,56,57,97,98,99,100,101,102])) (.t 27)),Qo 29 (.bs 1 2 (.int .u8 0) [(0,(.t 28)),(1,(.c (.int .u8 58)))]),Qo 30 (.ap 1 1 (.t 25) (.t 29)),Mv 7 30] [0,1,7]) (.sq (.rg none [Mv 31 0,Qo 32 (.bo .add (.t 31) (.c (.int .i64 3))),Qo 33 (.bo .quo (.t 32) (.c (.int .i64 4))),Mv 8 33] [1,7,8]) (.sq (.sq (.rg none [Mv 34 8,Qo 35 (.mv (.c (.int .i64 0)))] [1,7,8,34,35]) (.bl 0 (.lp true b109_0))) k109_1))))))),np:=2,res:=[.t 4,.t 5],mode:=.iso }
def c110:FI.Fn:={ body:=(.sq (.rg none [Qo 2 (.mv (.c (.str [])))] [0]) (.sq (.sq (.rg none [Mv 3 0,Qo 4 (.bo .gtr (.t 3) (.c (.int .i64 9)))] [0,4]) (.cd (.t 4) (.sq (.rg (some (List.range 14)) [Mv 5 0,Qo 6 (.bo .quo (.t 5) (.c (.int .i64 10))),Mv 7 0,Qo 8 (.bo .quo (.t 7) (.c (.int .i64 10))),Qo 9 (.bo .add (.t 8) (.c (.int .i64 1))),Qo 10 (.sl 0 (.c (.str [48,49,50,51,52,53,54,55,56,57])) (some (.t 6)) (some (.t 9))),Mv 11 0,Qo 12 (.bo .rem (.t 11) (.c (.int .i64 10))),Mv 13 0,Qo 14 (.bo .rem (.t 13) (.c (.int .i64 10))),Qo 15 (.bo .add (.t 14) (.c (.int .i64 1))),Qo 16 (.sl 0 (.c (.str [48,49,50,51,52,53,54,55,56,57])) (some (.t 12)) (some (.t 15))),Qo 17 (.bo .add (.t 10) (.t 16)),Mv 2 17] [2]) .rt) .sk)) (.sq (.rg none [Mv 18 0,Mv 19 0,Qo 20 (.bo .add (.t 19) (.c (.int .i64 1))),Qo 21 (.sl 0 (.c (.str [48,49,50,51,52,53,54,55,56,57])) (some (.t 18)) (some (.t 20))),Mv 2 21] [2]) .rt))),np:=1,res:=[.t 2],mode:=.iso }
def b112_0:C:=(.sq (.rg none [Qo 17 (.bo .lss (.t 16) (.t 15))] [0,15,16,17]) (.sq (.cd (.t 17) .sk (.xt 0)) (.sq (.bl 1 (.sq (.rg none [Mv 18 16,Mv 3 18] [0,3,15,16]) (.sq (.rg none [Mv 19 0,Mv 20 3,Qo 21 (.ix (.t 19) (.t 20)),Mv 4 21] [0,3,4,15,16]) (.sq (.rg none [Mv 22 4,Qo 23 (.bo .geq (.t 22) (.c (.int .u8 97))),Mv 24 23,Gm 25 24 true 4,Gd 26 24 true (.bo .leq (.t 25) (.c (.int .u8 122))),Qo 27 (.pk (.t 24) (.t 26) (.c (.bool false))),Mv 28 27,Gm 29 28 false 4,Gd 30 28 false (.bo .geq (.t 29) (.c (.int .u8 65))),Gm 31 28 false 30,Gm 32 31 true 4,Gd 33 31 true (.bo .leq (.t 32) (.c (.int .u8 90))),Gd 34 28 false (.pk (.t 31) (.t 33) (.c (.bool false))),Qo 35 (.pk (.t 28) (.c (.bool true)) (.t 34)),Mv 5 35] [0,3,4,5,15,16]) (.sq (.rg none [Mv 36 5,Qo 37 (.un .not (.t 36)),Mv 38 37,Gm 39 38 true 3,Gd 40 38 true (.bo .eql (.t 39) (.c (.int .i64 0))),Gm 41 38 true 40,Gm 42 41 false 4,Gd 43 41 false (.bo .neq (.t 42) (.c (.int .u8 95))),Gm 44 41 false 43,Gm 45 44 true 4,Gd 46 44 true (.bo .lss (.t 45) (.c (.int .u8 48))),Gm 47 44 true 46,Gm 48 47 false 4,Gd 49 47 false (.bo .gtr (.t 48) (.c (.int .u8 57))),Gd 50 44 true (.pk (.t 47) (.c (.bool true)) (.t 49)),Gd 51 41 false (.pk (.t 44) (.t 50) (.c (.bool false))),Gd 52 38 true (.pk (.t 41) (.c (.bool true)) (.t 51)),Qo 53 (.pk (.t 38) (.t 52) (.c (.bool false)))] [0,15,16,53]) (.cd (.t 53) (.sq (.rg none [Qo 2 (.mv (.c (.bool false)))] [2]) .rt) .sk)))))) (.rg none [Qo 54 (.bo .add (.t 16) (.c (.int .i64 1))),Mv 16 54] [0,15,16]))))
end Go.Proofs.YtjmppkmacaeahaaGreatDoor.Fi
namespace Go.Proofs.YtjmppkmacaeahaaGreatDoor.Fi
open Go.FI Go.Shelf
def rho:Ren:=⟨fun n=>match n with | 156=>111 | 165=>160 | 166=>161 | 169=>162 | 240=>194 | 241=>195 | 276=>202 | 277=>203 | _=>0,fun n=>match n with | 0=>0 | 3=>3 | 4=>4 | 5=>5 | 9=>9 | 20=>20 | 31=>135 | 37=>173 | 70=>174 | 75=>179 | 76=>180 | 80=>130 | 127=>199 | 164=>207 | 72=>176 | _=>0,fun n=>n⟩
theorem lays:Lays.n156 Tryz.prog rho where
 mixed:=by kernel_rfl
 f156:=by kernel_rfl
 f165:=by kernel_rfl
 f166:=by kernel_rfl
 f169:=by kernel_rfl
 f240:=by kernel_rfl
 f241:=by kernel_rfl
 f276:=by kernel_rfl
 f277:=by kernel_rfl
 t0:=by kernel_rfl
 a0:=fun w=>by kernel_rfl
 z0:=fun w=>by kernel_rfl
 v0:=fun w=>by kernel_rfl
 t3:=by kernel_rfl
 a3:=fun w=>by kernel_rfl
 z3:=fun w=>by kernel_rfl
 v3:=fun w=>by kernel_rfl
 t4:=by kernel_rfl
 a4:=fun w=>by kernel_rfl
 z4:=fun w=>by kernel_rfl
 v4:=fun w=>by kernel_rfl
 t9:=by kernel_rfl
 a9:=fun w=>by kernel_rfl
 z9:=fun w=>by kernel_rfl
 v9:=fun w=>by kernel_rfl
 t20:=by kernel_rfl
 a20:=fun w=>by kernel_rfl
 z20:=fun w=>by kernel_rfl
 v20:=fun w=>by kernel_rfl
 t31:=by kernel_rfl
 a31:=fun w=>by kernel_rfl
 z31:=fun w=>by kernel_rfl
 v31:=fun w=>by kernel_rfl
 t37:=by kernel_rfl
 a37:=fun w=>by kernel_rfl
 z37:=fun w=>by kernel_rfl
 v37:=fun w=>by kernel_rfl
 t70:=by kernel_rfl
 a70:=fun w=>by kernel_rfl
 z70:=fun w=>by kernel_rfl
 v70:=fun w=>by kernel_rfl
 t72:=by kernel_rfl
 a72:=fun w=>by kernel_rfl
 z72:=fun w=>by kernel_rfl
 v72:=fun w=>by kernel_rfl
 t75:=by kernel_rfl
 a75:=fun w=>by kernel_rfl
 z75:=fun w=>by kernel_rfl
 v75:=fun w=>by kernel_rfl
 t76:=by kernel_rfl
 a76:=fun w=>by kernel_rfl
 z76:=fun w=>by kernel_rfl
 v76:=fun w=>by kernel_rfl
 t127:=by kernel_rfl
 a127:=fun w=>by kernel_rfl
 z127:=fun w=>by kernel_rfl
 v127:=fun w=>by kernel_rfl
 t164:=by kernel_rfl
 a164:=fun w=>by kernel_rfl
 z164:=fun w=>by kernel_rfl
 v164:=fun w=>by kernel_rfl
theorem extra:Builder.Extra Tryz.prog rho where
 sizeBuilder:=by kernel_rfl
 liesBuilder:=by kernel_rfl
 t5:=by kernel_rfl
 infoByte:=by kernel_rfl
 cellsByte:=by kernel_rfl
 sizeByte:=by kernel_rfl
 a5:=fun w=>by kernel_rfl
 z5:=fun w=>by kernel_rfl
 v5:=fun w=>by kernel_rfl
 neB5:=by decide
def k112_1:C:=(.sq (.rg none [Qo 2 (.mv (.c (.bool true)))] [2]) .rt)
def c112:FI.Fn:={ body:=(.sq (.rg none [Qo 2 (.mv (.c (.bool false)))] [0]) (.sq (.sq (.rg none [Mv 6 0,Qo 7 (.ln 0 (.t 6)),Qo 8 (.bo .lss (.t 7) (.c (.int .i64 1))),Mv 9 8,Gm 10 9 false 0,Gd 11 9 false (.ln 0 (.t 10)),Gd 12 9 false (.bo .gtr (.t 11) (.c (.int .i64 24))),Qo 13 (.pk (.t 9) (.c (.bool true)) (.t 12))] [0,13]) (.cd (.t 13) (.sq (.rg none [Qo 2 (.mv (.c (.bool false)))] [2]) .rt) .sk)) (.sq (.sq (.rg none [Mv 14 0,Qo 15 (.ln 0 (.t 14)),Qo 16 (.mv (.c (.int .i64 0)))] [0,15,16]) (.bl 0 (.lp true b112_0))) k112_1))),np:=1,res:=[.t 2],mode:=.iso }
def c113:FI.Fn:={ body:=(.sq (.rg none [Qo 4 (.mv (.c (.str [])))] [0,1]) (.sq (.rg none [Mv 5 0,Mv 6 1,Qo 7 (.cl 163 [(.t 5),(.t 6)]),Mv 4 7] [4]) .rt)),np:=2,res:=[.t 4],mode:=.iso }
def c114:FI.Fn:={ body:=(.sq (.rg none [Qo 2 (.mv (.c (.bool false)))] [0]) (.sq (.rg none [Mv 3 0,Qo 4 (.bo .geq (.t 3) (.c (.int .i64 1))),Mv 5 4,Gm 6 5 true 0,Gd 7 5 true (.bo .leq (.t 6) (.c (.int .i64 64))),Qo 8 (.pk (.t 5) (.t 7) (.c (.bool false))),Mv 2 8] [2]) .rt)),np:=1,res:=[.t 2],mode:=.iso }
def c115:FI.Fn:={ body:=(.sq (.rg none [Qo 2 (.mv (.c (.int .u64 0)))] [0]) (.sq (.sq (.rg none [Mv 3 0,Qo 4 (.cl 114 [(.t 3)]),Qo 5 (.un .not (.t 4))] [0,5]) (.cd (.t 5) (.sq (.rg none [Qo 2 (.mv (.c (.int .u64 0)))] [2]) .rt) .sk)) (.sq (.rg none [Mv 6 0,Qo 7 (.bo .sub (.c (.int .i64 64)) (.t 6)),Qo 8 (.bo .shr (.c (.int .u64 18446744073709551615)) (.t 7)),Mv 2 8] [2]) .rt))),np:=1,res:=[.t 2],mode:=.iso }
def b117_0:C:=(.sq (.rg none [Qo 13 (.bo .lss (.t 12) (.t 11))] [0,10,11,12,13]) (.sq (.cd (.t 13) .sk (.xt 0)) (.sq (.bl 1 (.sq (.rg none [Qo 14 (.ia 1 (.t 10) (.t 12)),Qo 15 (.ld none (.t 14)),Mv 6 15] [0,6,10,11,12]) (.sq (.rg none [Mv 16 6,Mv 17 0,Qo 18 (.cl 115 [(.t 17)]),Qo 19 (.bo .gtr (.t 16) (.t 18))] [0,10,11,12,19]) (.cd (.t 19) (.sq (.rg none [Qo 4 (.mv (.c (.int .i64 8)))] [4]) .rt) .sk)))) (.rg none [Qo 20 (.bo .add (.t 12) (.c (.int .i64 1))),Mv 12 20] [0,10,11,12]))))
def k117_1:C:=(.sq (.rg none [Qo 4 (.mv (.c (.int .i64 0)))] [4]) .rt)
def c117:FI.Fn:={ body:=(.sq (.rg none [Qo 4 (.mv (.c (.int .i64 0)))] [0,1]) (.sq (.sq (.rg none [Mv 7 0,Qo 8 (.cl 114 [(.t 7)]),Qo 9 (.un .not (.t 8))] [0,1,9]) (.cd (.t 9) (.sq (.rg none [Qo 4 (.mv (.c (.int .i64 14)))] [4]) .rt) .sk)) (.sq (.sq (.rg none [Mv 10 1,Qo 11 (.ln 1 (.t 10)),Qo 12 (.mv (.c (.int .i64 0)))] [0,10,11,12]) (.bl 0 (.lp true b117_0))) k117_1))),np:=2,res:=[.t 4],mode:=.isf }
def c118:FI.Fn:={ body:=(.sq (.rg none [Qo 4 (.mv (.c (.int .i64 0)))] [0,1]) (.sq (.rg none [Mv 6 0,Qo 7 (.bo .sub (.c (.int .i64 64)) (.t 6)),Mv 5 7] [1,5]) (.sq (.rg none [Mv 8 1,Mv 9 5,Qo 10 (.bo .shl (.t 8) (.t 9)),Qo 11 (.cv .i64 (.t 10)),Mv 12 5,Qo 13 (.bo .shr (.t 11) (.t 12)),Mv 4 13] [4]) .rt))),np:=2,res:=[.t 4],mode:=.iso }
def b119_0:C:=(.sq (.sq (.rg none [Mv 15 9,Mv 16 10,Qo 17 (.bo .lss (.t 15) (.t 16))] [0,1,2,8,9,10,17]) (.cd (.t 17) .sk (.xt 0))) (.bl 1 (.sq (.rg none [Mv 18 9,Mv 19 10,Qo 20 (.bo .add (.t 18) (.t 19)),Qo 21 (.cv .u64 (.t 20)),Qo 22 (.bo .shr (.t 21) (.c (.int .u64 1))),Qo 23 (.cv .i64 (.t 22)),Mv 11 23] [0,1,2,8,9,10,11]) (.sq (.rg none [Mv 24 2,Mv 25 0,Mv 26 11,Qo 27 (.ia 2 (.t 25) (.t 26)),Qo 28 (.ld (some 2) (.t 27)),Mv 29 1,Qo 30 (.cw (.t 24) [(.t 28),(.t 29)]),Qo 31 (.bo .lss (.t 30) (.c (.int .i64 0)))] [0,1,2,8,9,10,11,31]) (.cd (.t 31) (.rg none [Mv 32 11,Qo 33 (.bo .add (.t 32) (.c (.int .i64 1))),Mv 9 33] [0,1,2,8,9,10]) (.rg none [Mv 34 11,Mv 10 34] [0,1,2,8,9,10]))))))
def k119_1:C:=(.sq (.rg none [Mv 35 9,Mv 36 9,Mv 37 8,Qo 38 (.bo .lss (.t 36) (.t 37)),Mv 39 38,Gm 40 39 true 2,Gm 41 39 true 0,Gm 42 39 true 9,Gd 43 39 true (.ia 2 (.t 41) (.t 42)),Gd 44 39 true (.ld (some 2) (.t 43)),Gm 45 39 true 1,Gd 46 39 true (.cw (.t 40) [(.t 44),(.t 45)]),Gd 47 39 true (.bo .eql (.t 46) (.c (.int .i64 0))),Qo 48 (.pk (.t 39) (.t 47) (.c (.bool false))),Mv 6 35,Mv 7 48] [6,7]) .rt)
def c119:FI.Fn:={ body:=(.sq (.rg none [Qo 6 (.mv (.c (.int .i64 0))),Qo 7 (.mv (.c (.bool false)))] [0,1,2]) (.sq (.rg none [Mv 12 0,Qo 13 (.ln 1 (.t 12)),Mv 8 13] [0,1,2,8]) (.sq (.rg none [Mv 14 8,Qo 9 (.mv (.c (.int .i64 0))),Mv 10 14] [0,1,2,8,9,10]) (.sq (.bl 0 (.lp true b119_0)) k119_1)))),np:=3,res:=[.t 6,.t 7],mode:=.iso }
def c120:FI.Fn:={ body:=(.sq (.rg none [Qo 2 (.bx 2 (.t 0)),Qo 4 (.mv (.c (.int .i64 0)))] [1,2]) (.sq (.bl 0 (.sq (.rg none [Qo 6 (.fa 0 (.t 2)),Qo 7 (.ld none (.t 6)),Mv 8 1,Qo 9 (.bo .lss (.t 7) (.t 8)),Mv 5 9] [1,2,5]) (.cd (.t 5) (.sq (.rg none [Qo 4 (.mv (.c (.int .i64 (-1))))] [4]) .rt) (.sq (.rg none [Qo 11 (.fa 0 (.t 2)),Qo 12 (.ld none (.t 11)),Mv 13 1,Qo 14 (.bo .gtr (.t 12) (.t 13)),Mv 10 14] [10]) (.cd (.t 10) (.sq (.rg none [Qo 4 (.mv (.c (.int .i64 1)))] [4]) .rt) .sk))))) (.sq (.rg none [Qo 4 (.mv (.c (.int .i64 0)))] [4]) .rt))),np:=2,res:=[.t 4],mode:=.iso }
def c121:FI.Fn:={ body:=(.sq (.rg none [Qo 2 (.mv (.c .nilf))] [0]) (.sq (.rg none [Qo 4 (.bd [.nilf,.nilf,.nilf,.nilf,.nilf,.nilf,.nilf,.nilf,.nilf,.nilf,.nilf,.nilf,.nilf,.nilf,.nilf,.nilf,.nilf,.nilf,.nilf] [(5,1,(.c (.fn 164 []))),(6,1,(.c (.fn 165 []))),(7,1,(.c (.fn 166 []))),(8,1,(.c (.fn 167 []))),(9,1,(.c (.fn 168 []))),(10,1,(.c (.fn 169 []))),(11,1,(.c (.fn 170 []))),(12,1,(.c (.fn 172 []))),(13,1,(.c (.fn 173 []))),(14,1,(.c (.fn 174 []))),(15,1,(.c (.fn 175 []))),(16,1,(.c (.fn 176 []))),(17,1,(.c (.fn 178 []))),(18,1,(.c (.fn 179 [])))]),Qo 3 (.al 19 (.agg [.nilf,.nilf,.nilf,.nilf,.nilf,.nilf,.nilf,.nilf,.nilf,.nilf,.nilf,.nilf,.nilf,.nilf,.nilf,.nilf,.nilf,.nilf,.nilf])),Eo (.st 19 (.t 3) (.t 4))] [0,3]) (.sq (.rg none [Mv 5 0,Qo 6 (.aa 19 1 (.t 3) (.t 5)),Qo 7 (.ld none (.t 6)),Mv 2 7] [2]) .rt))),np:=1,res:=[.t 2],mode:=.iso }
def c122:FI.Fn:={ body:=(.sq (.rg none [Qo 4 (.mv (.c (.bool false)))] [0,1]) (.sq (.rg none [Mv 5 0,Mv 6 1,Qo 7 (.cl 180 [(.t 5),(.t 6)]),Qo 8 (.bo .geq (.t 7) (.c (.int .i64 0))),Mv 4 8] [4]) .rt)),np:=2,res:=[.t 4],mode:=.isf }
def c123:FI.Fn:={ body:=(.sq (.rg none [Qo 2 (.bx 6 (.t 0)),Qo 3 (.mv (.c (.bool false)))] [1,2]) (.sq (.rg none [Qo 4 (.fa 1 (.t 2)),Qo 5 (.ld none (.t 4)),Qo 6 (.ld none (.t 1)),Qo 7 (.bo .neq (.t 5) (.t 6)),Mv 3 7] [3]) .rt)),np:=2,res:=[.t 3],mode:=.iso }
def c124:FI.Fn:={ body:=(.sq (.rg none [Qo 2 (.mv (.c (.bool false)))] [0]) (.sq (.rg none [Mv 3 0,Qo 4 (.bo .eql (.t 3) (.c (.int .i64 8))),Mv 5 4,Gm 6 5 false 0,Gd 7 5 false (.bo .eql (.t 6) (.c (.int .i64 16))),Qo 8 (.pk (.t 5) (.c (.bool true)) (.t 7)),Mv 9 8,Gm 10 9 false 0,Gd 11 9 false (.bo .eql (.t 10) (.c (.int .i64 32))),Qo 12 (.pk (.t 9) (.c (.bool true)) (.t 11)),Mv 13 12,Gm 14 13 false 0,Gd 15 13 false (.bo .eql (.t 14) (.c (.int .i64 64))),Qo 16 (.pk (.t 13) (.c (.bool true)) (.t 15)),Mv 2 16] [2]) .rt)),np:=1,res:=[.t 2],mode:=.iso }
def b125_0:C:=(.sq (.sq (.rg (some (List.range 17)) [Mv 18 9,Mv 19 1,Qo 20 (.bo .gtr (.t 18) (.t 19)),Mv 21 20,Gm 22 21 true 3,Gm 23 21 true 0,Gm 24 21 true 9,Gd 25 21 true (.ia 3 (.t 23) (.t 24)),Gd 26 21 true (.ld (some 3) (.t 25)),Gm 27 21 true 0,Gm 28 21 true 9,Gd 29 21 true (.bo .sub (.t 28) (.c (.int .i64 1))),Gd 30 21 true (.ia 3 (.t 27) (.t 29)),Gd 31 21 true (.ld (some 3) (.t 30)),Gd 32 21 true (.cw (.t 22) [(.t 26),(.t 31)]),Gd 33 21 true (.bo .lss (.t 32) (.c (.int .i64 0))),Qo 34 (.pk (.t 21) (.t 33) (.c (.bool false)))] [0,1,2,3,8,9,34]) (.cd (.t 34) .sk (.xt 2))) (.sq (.bl 3 (.rg (some (List.range 18)) [Mv 37 0,Mv 38 9,Mv 39 0,Mv 40 9,Qo 41 (.bo .sub (.t 40) (.c (.int .i64 1))),Mv 42 0,Mv 43 9,Qo 44 (.bo .sub (.t 43) (.c (.int .i64 1))),Qo 45 (.ia 3 (.t 42) (.t 44)),Qo 46 (.ld (some 3) (.t 45)),Mv 47 0,Mv 48 9,Qo 49 (.ia 3 (.t 47) (.t 48)),Qo 50 (.ld (some 3) (.t 49)),Qo 51 (.ia 3 (.t 37) (.t 38)),Eo (.st 3 (.t 51) (.t 46)),Qo 52 (.ia 3 (.t 39) (.t 41)),Eo (.st 3 (.t 52) (.t 50))] [0,1,2,3,8,9])) (.rg none [Mv 35 9,Qo 36 (.bo .sub (.t 35) (.c (.int .i64 1))),Mv 9 36] [0,1,2,3,8,9])))
def k125_1:C:=(.rg none [Mv 15 8,Qo 16 (.bo .add (.t 15) (.c (.int .i64 1))),Mv 8 16] [0,1,2,3,8])
def b125_2:C:=(.sq (.sq (.rg none [Mv 12 8,Mv 13 2,Qo 14 (.bo .lss (.t 12) (.t 13))] [0,1,2,3,8,14]) (.cd (.t 14) .sk (.xt 0))) (.sq (.bl 1 (.sq (.rg none [Mv 17 8,Mv 9 17] [0,1,2,3,8,9]) (.bl 2 (.lp false b125_0)))) k125_1))
def c125:FI.Fn:={ body:=(.sq (.rg none [Mv 10 1,Qo 11 (.bo .add (.t 10) (.c (.int .i64 1))),Mv 8 11] [0,1,2,3,8]) (.bl 0 (.lp false b125_2))),np:=4,res:=[],mode:=.shr }
def b126_0:C:=(.sq (.sq (.rg none [Mv 20 11,Qo 21 (.bo .geq (.t 20) (.c (.int .i64 0)))] [0,3,8,9,10,11,21]) (.cd (.t 21) .sk (.xt 0))) (.sq (.bl 1 (.rg none [Mv 24 0,Mv 25 11,Mv 26 10,Mv 27 8,Mv 28 3,Qo 29 (.cl 181 [(.t 24),(.t 25),(.t 26),(.t 27),(.t 28)])] [0,3,8,9,10,11])) (.rg none [Mv 22 11,Qo 23 (.bo .sub (.t 22) (.c (.int .i64 1))),Mv 11 23] [0,3,8,9,10,11])))
def b126_1:C:=(.sq (.sq (.rg none [Mv 32 12,Qo 33 (.bo .geq (.t 32) (.c (.int .i64 0)))] [0,3,8,9,12,33]) (.cd (.t 33) .sk (.xt 2))) (.sq (.bl 3 (.sq (.rg (some (List.range 20)) [Mv 36 0,Mv 37 8,Mv 38 0,Mv 39 8,Mv 40 12,Qo 41 (.bo .add (.t 39) (.t 40)),Mv 42 0,Mv 43 8,Mv 44 12,Qo 45 (.bo .add (.t 43) (.t 44)),Qo 46 (.ia 3 (.t 42) (.t 45)),Qo 47 (.ld (some 3) (.t 46)),Mv 48 0,Mv 49 8,Qo 50 (.ia 3 (.t 48) (.t 49)),Qo 51 (.ld (some 3) (.t 50)),Qo 52 (.ia 3 (.t 36) (.t 37)),Eo (.st 3 (.t 52) (.t 47)),Qo 53 (.ia 3 (.t 38) (.t 41)),Eo (.st 3 (.t 53) (.t 51))] [0,3,8,9,12]) (.rg none [Mv 54 0,Mv 55 9,Mv 56 12,Mv 57 8,Mv 58 3,Qo 59 (.cl 181 [(.t 54),(.t 55),(.t 56),(.t 57),(.t 58)])] [0,3,8,9,12]))) (.rg none [Mv 34 12,Qo 35 (.bo .sub (.t 34) (.c (.int .i64 1))),Mv 12 35] [0,3,8,9,12])))
def k126_2:C:=(.sq (.rg none [Mv 30 10,Qo 31 (.bo .sub (.t 30) (.c (.int .i64 1))),Mv 12 31] [0,3,8,9,12]) (.bl 2 (.lp false b126_1)))
def c126:FI.Fn:={ body:=(.sq (.rg none [Mv 13 1,Mv 8 13] [0,1,2,3,8]) (.sq (.rg none [Qo 9 (.mv (.c (.int .i64 0)))] [0,1,2,3,8,9]) (.sq (.rg none [Mv 14 2,Mv 15 1,Qo 16 (.bo .sub (.t 14) (.t 15)),Mv 10 16] [0,3,8,9,10]) (.sq (.sq (.rg none [Mv 17 10,Qo 18 (.bo .sub (.t 17) (.c (.int .i64 1))),Qo 19 (.bo .quo (.t 18) (.c (.int .i64 2))),Mv 11 19] [0,3,8,9,10,11]) (.bl 0 (.lp false b126_0))) k126_2)))),np:=4,res:=[],mode:=.shr }
def b127_0:C:=(.sq (.sq (.rg none [Mv 28 11,Mv 29 1,Mv 30 8,Qo 31 (.bo .quo (.t 30) (.c (.int .i64 4))),Qo 32 (.bo .mul (.t 31) (.c (.int .i64 2))),Qo 33 (.bo .add (.t 29) (.t 32)),Qo 34 (.bo .add (.t 33) (.c (.int .i64 1))),Qo 35 (.bo .leq (.t 28) (.t 34))] [0,1,8,9,10,11,35]) (.cd (.t 35) .sk (.xt 0))) (.sq (.bl 1 (.sq (.rg none [Qo 38 (.cl 183 [(.t 9)]),Mv 39 10,Qo 40 (.bo .sub (.t 39) (.c (.int .u64 1))),Qo 41 (.bo .and (.t 38) (.t 40)),Qo 42 (.cv .i64 (.t 41)),Mv 12 42] [0,1,8,9,10,11,12]) (.sq (.sq (.rg none [Mv 43 12,Mv 44 8,Qo 45 (.bo .geq (.t 43) (.t 44))] [0,1,8,9,10,11,12,45]) (.cd (.t 45) (.rg none [Mv 46 12,Mv 47 8,Qo 48 (.bo .sub (.t 46) (.t 47)),Mv 12 48] [0,1,8,9,10,11,12]) .sk)) (.rg (some (List.range 20)) [Mv 49 0,Mv 50 11,Mv 51 0,Mv 52 1,Mv 53 12,Qo 54 (.bo .add (.t 52) (.t 53)),Mv 55 0,Mv 56 1,Mv 57 12,Qo 58 (.bo .add (.t 56) (.t 57)),Qo 59 (.ia 3 (.t 55) (.t 58)),Qo 60 (.ld (some 3) (.t 59)),Mv 61 0,Mv 62 11,Qo 63 (.ia 3 (.t 61) (.t 62)),Qo 64 (.ld (some 3) (.t 63)),Qo 65 (.ia 3 (.t 49) (.t 50)),Eo (.st 3 (.t 65) (.t 60)),Qo 66 (.ia 3 (.t 51) (.t 54)),Eo (.st 3 (.t 66) (.t 64))] [0,1,8,9,10,11])))) (.rg none [Mv 36 11,Qo 37 (.bo .add (.t 36) (.c (.int .i64 1))),Mv 11 37] [0,1,8,9,10,11])))
def c127:FI.Fn:={ body:=(.sq (.rg none [Mv 13 2,Mv 14 1,Qo 15 (.bo .sub (.t 13) (.t 14)),Mv 8 15] [0,1,8]) (.sq (.rg none [Mv 16 8,Qo 17 (.bo .geq (.t 16) (.c (.int .i64 8)))] [0,1,8,17]) (.cd (.t 17) (.sq (.rg none [Mv 18 8,Qo 19 (.cv .u64 (.t 18)),Qo 9 (.al 1 (.int .u64 0)),Eo (.st 1 (.t 9) (.t 19))] [0,1,8,9]) (.sq (.rg none [Mv 20 8,Qo 21 (.cl 182 [(.t 20)]),Mv 10 21] [0,1,8,9,10]) (.sq (.rg none [Mv 22 1,Mv 23 8,Qo 24 (.bo .quo (.t 23) (.c (.int .i64 4))),Qo 25 (.bo .mul (.t 24) (.c (.int .i64 2))),Qo 26 (.bo .add (.t 22) (.t 25)),Qo 27 (.bo .sub (.t 26) (.c (.int .i64 1))),Mv 11 27] [0,1,8,9,10,11]) (.bl 0 (.lp false b127_0))))) .sk))),np:=4,res:=[],mode:=.shr }
def c128:FI.Fn:={ body:=(.sq (.rg none [Qo 8 (.mv (.c (.int .i64 0))),Qo 9 (.mv (.c (.int .i64 0)))] [0,1,2,3]) (.sq (.rg none [Mv 15 2,Mv 16 1,Qo 17 (.bo .sub (.t 15) (.t 16)),Mv 10 17] [0,1,3,10]) (.sq (.rg none [Qo 11 (.al 1 (.int .i64 0))] [0,1,3,10,11]) (.sq (.rg none [Mv 18 1,Mv 19 10,Qo 20 (.bo .quo (.t 19) (.c (.int .i64 4))),Qo 21 (.bo .mul (.t 20) (.c (.int .i64 1))),Qo 22 (.bo .add (.t 18) (.t 21)),Mv 12 22] [0,1,3,10,11,12]) (.sq (.rg none [Mv 23 1,Mv 24 10,Qo 25 (.bo .quo (.t 24) (.c (.int .i64 4))),Qo 26 (.bo .mul (.t 25) (.c (.int .i64 2))),Qo 27 (.bo .add (.t 23) (.t 26)),Mv 13 27] [0,1,3,10,11,12,13]) (.sq (.rg none [Mv 28 1,Mv 29 10,Qo 30 (.bo .quo (.t 29) (.c (.int .i64 4))),Qo 31 (.bo .mul (.t 30) (.c (.int .i64 3))),Qo 32 (.bo .add (.t 28) (.t 31)),Mv 14 32] [0,3,10,11,12,13,14]) (.sq (.sq (.rg none [Mv 33 10,Qo 34 (.bo .geq (.t 33) (.c (.int .i64 8)))] [0,3,10,11,12,13,14,34]) (.cd (.t 34) (.sq (.sq (.rg none [Mv 35 10,Qo 36 (.bo .geq (.t 35) (.c (.int .i64 50)))] [0,3,11,12,13,14,36]) (.cd (.t 36) (.sq (.rg none [Mv 37 0,Mv 38 12,Mv 39 3,Qo 40 (.cl 184 [(.t 37),(.t 38),(.t 11),(.t 39)]),Mv 12 40] [0,3,11,12,13,14]) (.sq (.rg none [Mv 41 0,Mv 42 13,Mv 43 3,Qo 44 (.cl 184 [(.t 41),(.t 42),(.t 11),(.t 43)]),Mv 13 44] [0,3,11,12,13,14]) (.rg none [Mv 45 0,Mv 46 14,Mv 47 3,Qo 48 (.cl 184 [(.t 45),(.t 46),(.t 11),(.t 47)]),Mv 14 48] [0,3,11,12,13,14]))) .sk)) (.rg none [Mv 49 0,Mv 50 12,Mv 51 13,Mv 52 14,Mv 53 3,Qo 54 (.cl 185 [(.t 49),(.t 50),(.t 51),(.t 52),(.t 11),(.t 53)]),Mv 13 54] [11,13])) .sk)) (.sq (.rg none [Qo 55 (.ld none (.t 11))] [13,55]) (.bl 0 (.sq (.rg none [Qo 58 (.bo .eql (.t 55) (.c (.int .i64 0))),Mv 57 58] [13,55,57]) (.cd (.t 57) (.sq (.rg none [Mv 59 13,Mv 8 59,Qo 9 (.mv (.c (.int .i64 1)))] [8,9]) .rt) (.sq (.rg none [Qo 61 (.bo .eql (.t 55) (.c (.int .i64 12))),Mv 60 61] [13,60]) (.cd (.t 60) (.sq (.rg none [Mv 62 13,Mv 8 62,Qo 9 (.mv (.c (.int .i64 2)))] [8,9]) .rt) (.sq (.rg none [Mv 56 13,Mv 8 56,Qo 9 (.mv (.c (.int .i64 0)))] [8,9]) .rt)))))))))))))),np:=4,res:=[.t 8,.t 9],mode:=.shr }
def b129_0:C:=(.sq (.sq (.rg none [Mv 13 8,Mv 14 9,Qo 15 (.bo .lss (.t 13) (.t 14))] [0,8,9,15]) (.cd (.t 15) .sk (.xt 0))) (.bl 1 (.sq (.rg (some (List.range 16)) [Mv 16 0,Mv 17 8,Mv 18 0,Mv 19 9,Mv 20 0,Mv 21 9,Qo 22 (.ia 3 (.t 20) (.t 21)),Qo 23 (.ld (some 3) (.t 22)),Mv 24 0,Mv 25 8,Qo 26 (.ia 3 (.t 24) (.t 25)),Qo 27 (.ld (some 3) (.t 26)),Qo 28 (.ia 3 (.t 16) (.t 17)),Eo (.st 3 (.t 28) (.t 23)),Qo 29 (.ia 3 (.t 18) (.t 19)),Eo (.st 3 (.t 29) (.t 27))] [0,8,9]) (.sq (.rg none [Mv 30 8,Qo 31 (.bo .add (.t 30) (.c (.int .i64 1))),Mv 8 31] [0,8,9]) (.rg none [Mv 32 9,Qo 33 (.bo .sub (.t 32) (.c (.int .i64 1))),Mv 9 33] [0,8,9])))))
def c129:FI.Fn:={ body:=(.sq (.rg none [Mv 10 1,Mv 8 10] [0,2,8]) (.sq (.rg none [Mv 11 2,Qo 12 (.bo .sub (.t 11) (.c (.int .i64 1))),Mv 9 12] [0,8,9]) (.bl 0 (.lp false b129_0)))),np:=4,res:=[],mode:=.shr }
def b130_0:C:=(.sq (.sq (.rg (some (List.range 18)) [Mv 19 9,Mv 20 2,Qo 21 (.bo .lss (.t 19) (.t 20)),Mv 22 21,Gm 23 22 true 3,Gm 24 22 true 0,Gm 25 22 true 9,Gd 26 22 true (.ia 3 (.t 24) (.t 25)),Gd 27 22 true (.ld (some 3) (.t 26)),Gm 28 22 true 0,Gm 29 22 true 9,Gd 30 22 true (.bo .sub (.t 29) (.c (.int .i64 1))),Gd 31 22 true (.ia 3 (.t 28) (.t 30)),Gd 32 22 true (.ld (some 3) (.t 31)),Gd 33 22 true (.cw (.t 23) [(.t 27),(.t 32)]),Gd 34 22 true (.bo .lss (.t 33) (.c (.int .i64 0))),Gd 35 22 true (.un .not (.t 34)),Qo 36 (.pk (.t 22) (.t 35) (.c (.bool false)))] [0,1,2,3,9,10,36]) (.cd (.t 36) .sk (.xt 2))) (.bl 3 (.rg none [Mv 37 9,Qo 38 (.bo .add (.t 37) (.c (.int .i64 1))),Mv 9 38] [0,1,2,3,9,10])))
def b130_1:C:=(.sq (.sq (.rg none [Mv 68 11,Qo 69 (.bo .geq (.t 68) (.c (.int .i64 1)))] [0,1,2,3,9,10,11,69]) (.cd (.t 69) .sk (.xt 4))) (.sq (.bl 5 (.sq (.sq (.rg (some (List.range 13)) [Mv 72 3,Mv 73 0,Mv 74 11,Qo 75 (.ia 3 (.t 73) (.t 74)),Qo 76 (.ld (some 3) (.t 75)),Mv 77 0,Mv 78 11,Qo 79 (.bo .sub (.t 78) (.c (.int .i64 1))),Qo 80 (.ia 3 (.t 77) (.t 79)),Qo 81 (.ld (some 3) (.t 80)),Qo 82 (.cw (.t 72) [(.t 76),(.t 81)]),Qo 83 (.bo .lss (.t 82) (.c (.int .i64 0))),Qo 84 (.un .not (.t 83))] [0,1,2,3,9,10,11,84]) (.cd (.t 84) (.xt 4) .sk)) (.rg (some (List.range 18)) [Mv 85 0,Mv 86 11,Mv 87 0,Mv 88 11,Qo 89 (.bo .sub (.t 88) (.c (.int .i64 1))),Mv 90 0,Mv 91 11,Qo 92 (.bo .sub (.t 91) (.c (.int .i64 1))),Qo 93 (.ia 3 (.t 90) (.t 92)),Qo 94 (.ld (some 3) (.t 93)),Mv 95 0,Mv 96 11,Qo 97 (.ia 3 (.t 95) (.t 96)),Qo 98 (.ld (some 3) (.t 97)),Qo 99 (.ia 3 (.t 85) (.t 86)),Eo (.st 3 (.t 99) (.t 94)),Qo 100 (.ia 3 (.t 87) (.t 89)),Eo (.st 3 (.t 100) (.t 98))] [0,1,2,3,9,10,11]))) (.rg none [Mv 70 11,Qo 71 (.bo .sub (.t 70) (.c (.int .i64 1))),Mv 11 71] [0,1,2,3,9,10,11])))
def b130_2:C:=(.sq (.sq (.rg none [Mv 107 12,Mv 108 2,Qo 109 (.bo .lss (.t 107) (.t 108))] [0,1,2,3,9,10,12,109]) (.cd (.t 109) .sk (.xt 6))) (.sq (.bl 7 (.sq (.sq (.rg (some (List.range 13)) [Mv 112 3,Mv 113 0,Mv 114 12,Qo 115 (.ia 3 (.t 113) (.t 114)),Qo 116 (.ld (some 3) (.t 115)),Mv 117 0,Mv 118 12,Qo 119 (.bo .sub (.t 118) (.c (.int .i64 1))),Qo 120 (.ia 3 (.t 117) (.t 119)),Qo 121 (.ld (some 3) (.t 120)),Qo 122 (.cw (.t 112) [(.t 116),(.t 121)]),Qo 123 (.bo .lss (.t 122) (.c (.int .i64 0))),Qo 124 (.un .not (.t 123))] [0,1,2,3,9,10,12,124]) (.cd (.t 124) (.xt 6) .sk)) (.rg (some (List.range 18)) [Mv 125 0,Mv 126 12,Mv 127 0,Mv 128 12,Qo 129 (.bo .sub (.t 128) (.c (.int .i64 1))),Mv 130 0,Mv 131 12,Qo 132 (.bo .sub (.t 131) (.c (.int .i64 1))),Qo 133 (.ia 3 (.t 130) (.t 132)),Qo 134 (.ld (some 3) (.t 133)),Mv 135 0,Mv 136 12,Qo 137 (.ia 3 (.t 135) (.t 136)),Qo 138 (.ld (some 3) (.t 137)),Qo 139 (.ia 3 (.t 125) (.t 126)),Eo (.st 3 (.t 139) (.t 134)),Qo 140 (.ia 3 (.t 127) (.t 129)),Eo (.st 3 (.t 140) (.t 138))] [0,1,2,3,9,10,12]))) (.rg none [Mv 110 12,Qo 111 (.bo .add (.t 110) (.c (.int .i64 1))),Mv 12 111] [0,1,2,3,9,10,12])))
def k130_3:C:=(.sq (.rg none [Mv 101 2,Mv 102 9,Qo 103 (.bo .sub (.t 101) (.t 102)),Qo 104 (.bo .geq (.t 103) (.c (.int .i64 2)))] [0,1,2,3,9,10,104]) (.cd (.t 104) (.sq (.rg none [Mv 105 9,Qo 106 (.bo .add (.t 105) (.c (.int .i64 1))),Mv 12 106] [0,1,2,3,9,10,12]) (.bl 6 (.lp false b130_2))) .sk))
def k130_4:C:=(.sq (.sq (.rg none [Mv 39 9,Mv 40 2,Qo 41 (.bo .eql (.t 39) (.t 40))] [0,1,2,3,9,10,41]) (.cd (.t 41) (.sq (.rg none [Qo 8 (.mv (.c (.bool true)))] [8]) .rt) .sk)) (.sq (.sq (.rg none [Mv 42 2,Mv 43 1,Qo 44 (.bo .sub (.t 42) (.t 43)),Qo 45 (.bo .lss (.t 44) (.c (.int .i64 50)))] [0,1,2,3,9,10,45]) (.cd (.t 45) (.sq (.rg none [Qo 8 (.mv (.c (.bool false)))] [8]) .rt) .sk)) (.sq (.rg (some (List.range 18)) [Mv 46 0,Mv 47 9,Mv 48 0,Mv 49 9,Qo 50 (.bo .sub (.t 49) (.c (.int .i64 1))),Mv 51 0,Mv 52 9,Qo 53 (.bo .sub (.t 52) (.c (.int .i64 1))),Qo 54 (.ia 3 (.t 51) (.t 53)),Qo 55 (.ld (some 3) (.t 54)),Mv 56 0,Mv 57 9,Qo 58 (.ia 3 (.t 56) (.t 57)),Qo 59 (.ld (some 3) (.t 58)),Qo 60 (.ia 3 (.t 46) (.t 47)),Eo (.st 3 (.t 60) (.t 55)),Qo 61 (.ia 3 (.t 48) (.t 50)),Eo (.st 3 (.t 61) (.t 59))] [0,1,2,3,9,10]) (.sq (.sq (.rg none [Mv 62 9,Mv 63 1,Qo 64 (.bo .sub (.t 62) (.t 63)),Qo 65 (.bo .geq (.t 64) (.c (.int .i64 2)))] [0,1,2,3,9,10,65]) (.cd (.t 65) (.sq (.rg none [Mv 66 9,Qo 67 (.bo .sub (.t 66) (.c (.int .i64 1))),Mv 11 67] [0,1,2,3,9,10,11]) (.bl 4 (.lp false b130_1))) .sk)) k130_3))))
def k130_5:C:=(.rg none [Mv 17 10,Qo 18 (.bo .add (.t 17) (.c (.int .i64 1))),Mv 10 18] [0,1,2,3,9,10])
def b130_6:C:=(.sq (.sq (.rg none [Mv 15 10,Qo 16 (.bo .lss (.t 15) (.c (.int .i64 5)))] [0,1,2,3,9,10,16]) (.cd (.t 16) .sk (.xt 0))) (.sq (.bl 1 (.sq (.bl 2 (.lp false b130_0)) k130_4)) k130_5))
def k130_7:C:=(.sq (.rg none [Qo 8 (.mv (.c (.bool false)))] [8]) .rt)
def c130:FI.Fn:={ body:=(.sq (.rg none [Qo 8 (.mv (.c (.bool false)))] [0,1,2,3]) (.sq (.rg none [Mv 13 1,Qo 14 (.bo .add (.t 13) (.c (.int .i64 1))),Mv 9 14] [0,1,2,3,9]) (.sq (.sq (.rg none [Qo 10 (.mv (.c (.int .i64 0)))] [0,1,2,3,9,10]) (.bl 0 (.lp false b130_6))) k130_7))),np:=4,res:=[.t 8],mode:=.shr }
def b131_0:C:=(.sq (.sq (.rg (some (List.range 17)) [Mv 31 11,Mv 32 12,Qo 33 (.bo .leq (.t 31) (.t 32)),Mv 34 33,Gm 35 34 true 4,Gm 36 34 true 0,Gm 37 34 true 1,Gd 38 34 true (.ia 3 (.t 36) (.t 37)),Gd 39 34 true (.ld (some 3) (.t 38)),Gm 40 34 true 0,Gm 41 34 true 11,Gd 42 34 true (.ia 3 (.t 40) (.t 41)),Gd 43 34 true (.ld (some 3) (.t 42)),Gd 44 34 true (.cw (.t 35) [(.t 39),(.t 43)]),Gd 45 34 true (.bo .lss (.t 44) (.c (.int .i64 0))),Gd 46 34 true (.un .not (.t 45)),Qo 47 (.pk (.t 34) (.t 46) (.c (.bool false)))] [0,1,4,11,12,47]) (.cd (.t 47) .sk (.xt 2))) (.bl 3 (.rg none [Mv 48 11,Qo 49 (.bo .add (.t 48) (.c (.int .i64 1))),Mv 11 49] [0,1,4,11,12])))
def b131_1:C:=(.sq (.sq (.rg (some (List.range 16)) [Mv 50 11,Mv 51 12,Qo 52 (.bo .leq (.t 50) (.t 51)),Mv 53 52,Gm 54 53 true 4,Gm 55 53 true 0,Gm 56 53 true 1,Gd 57 53 true (.ia 3 (.t 55) (.t 56)),Gd 58 53 true (.ld (some 3) (.t 57)),Gm 59 53 true 0,Gm 60 53 true 12,Gd 61 53 true (.ia 3 (.t 59) (.t 60)),Gd 62 53 true (.ld (some 3) (.t 61)),Gd 63 53 true (.cw (.t 54) [(.t 58),(.t 62)]),Gd 64 53 true (.bo .lss (.t 63) (.c (.int .i64 0))),Qo 65 (.pk (.t 53) (.t 64) (.c (.bool false)))] [0,1,4,11,12,65]) (.cd (.t 65) .sk (.xt 4))) (.bl 5 (.rg none [Mv 66 12,Qo 67 (.bo .sub (.t 66) (.c (.int .i64 1))),Mv 12 67] [0,1,4,11,12])))
def k131_2:C:=(.sq (.sq (.rg none [Mv 68 11,Mv 69 12,Qo 70 (.bo .gtr (.t 68) (.t 69))] [0,1,4,11,12,70]) (.cd (.t 70) (.xt 0) .sk)) (.sq (.rg (some (List.range 16)) [Mv 71 0,Mv 72 11,Mv 73 0,Mv 74 12,Mv 75 0,Mv 76 12,Qo 77 (.ia 3 (.t 75) (.t 76)),Qo 78 (.ld (some 3) (.t 77)),Mv 79 0,Mv 80 11,Qo 81 (.ia 3 (.t 79) (.t 80)),Qo 82 (.ld (some 3) (.t 81)),Qo 83 (.ia 3 (.t 71) (.t 72)),Eo (.st 3 (.t 83) (.t 78)),Qo 84 (.ia 3 (.t 73) (.t 74)),Eo (.st 3 (.t 84) (.t 82))] [0,1,4,11,12]) (.sq (.rg none [Mv 85 11,Qo 86 (.bo .add (.t 85) (.c (.int .i64 1))),Mv 11 86] [0,1,4,11,12]) (.rg none [Mv 87 12,Qo 88 (.bo .sub (.t 87) (.c (.int .i64 1))),Mv 12 88] [0,1,4,11,12]))))
def k131_3:C:=(.sq (.bl 4 (.lp false b131_1)) k131_2)
def b131_4:C:=(.bl 1 (.sq (.bl 2 (.lp false b131_0)) k131_3))
def k131_5:C:=(.sq (.rg none [Mv 89 11,Mv 10 89] [10]) .rt)
def c131:FI.Fn:={ body:=(.sq (.rg none [Qo 10 (.mv (.c (.int .i64 0)))] [0,1,2,3,4]) (.sq (.rg (some (List.range 16)) [Mv 13 0,Mv 14 1,Mv 15 0,Mv 16 3,Mv 17 0,Mv 18 3,Qo 19 (.ia 3 (.t 17) (.t 18)),Qo 20 (.ld (some 3) (.t 19)),Mv 21 0,Mv 22 1,Qo 23 (.ia 3 (.t 21) (.t 22)),Qo 24 (.ld (some 3) (.t 23)),Qo 25 (.ia 3 (.t 13) (.t 14)),Eo (.st 3 (.t 25) (.t 20)),Qo 26 (.ia 3 (.t 15) (.t 16)),Eo (.st 3 (.t 26) (.t 24))] [0,1,2,4]) (.sq (.rg none [Mv 27 1,Qo 28 (.bo .add (.t 27) (.c (.int .i64 1))),Mv 29 2,Qo 30 (.bo .sub (.t 29) (.c (.int .i64 1))),Mv 11 28,Mv 12 30] [0,1,4,11,12]) (.sq (.bl 0 (.lp false b131_4)) k131_5)))),np:=5,res:=[.t 10],mode:=.shr }
def b132_0:C:=(.sq (.sq (.rg (some (List.range 16)) [Mv 32 12,Mv 33 13,Qo 34 (.bo .leq (.t 32) (.t 33)),Mv 35 34,Gm 36 35 true 4,Gm 37 35 true 0,Gm 38 35 true 12,Gd 39 35 true (.ia 3 (.t 37) (.t 38)),Gd 40 35 true (.ld (some 3) (.t 39)),Gm 41 35 true 0,Gm 42 35 true 1,Gd 43 35 true (.ia 3 (.t 41) (.t 42)),Gd 44 35 true (.ld (some 3) (.t 43)),Gd 45 35 true (.cw (.t 36) [(.t 40),(.t 44)]),Gd 46 35 true (.bo .lss (.t 45) (.c (.int .i64 0))),Qo 47 (.pk (.t 35) (.t 46) (.c (.bool false)))] [0,1,4,12,13,47]) (.cd (.t 47) .sk (.xt 0))) (.bl 1 (.rg none [Mv 48 12,Qo 49 (.bo .add (.t 48) (.c (.int .i64 1))),Mv 12 49] [0,1,4,12,13])))
def b132_1:C:=(.sq (.sq (.rg (some (List.range 17)) [Mv 50 12,Mv 51 13,Qo 52 (.bo .leq (.t 50) (.t 51)),Mv 53 52,Gm 54 53 true 4,Gm 55 53 true 0,Gm 56 53 true 13,Gd 57 53 true (.ia 3 (.t 55) (.t 56)),Gd 58 53 true (.ld (some 3) (.t 57)),Gm 59 53 true 0,Gm 60 53 true 1,Gd 61 53 true (.ia 3 (.t 59) (.t 60)),Gd 62 53 true (.ld (some 3) (.t 61)),Gd 63 53 true (.cw (.t 54) [(.t 58),(.t 62)]),Gd 64 53 true (.bo .lss (.t 63) (.c (.int .i64 0))),Gd 65 53 true (.un .not (.t 64)),Qo 66 (.pk (.t 53) (.t 65) (.c (.bool false)))] [0,1,4,12,13,66]) (.cd (.t 66) .sk (.xt 2))) (.bl 3 (.rg none [Mv 67 13,Qo 68 (.bo .sub (.t 67) (.c (.int .i64 1))),Mv 13 68] [0,1,4,12,13])))
def b132_2:C:=(.sq (.sq (.rg (some (List.range 16)) [Mv 105 12,Mv 106 13,Qo 107 (.bo .leq (.t 105) (.t 106)),Mv 108 107,Gm 109 108 true 4,Gm 110 108 true 0,Gm 111 108 true 12,Gd 112 108 true (.ia 3 (.t 110) (.t 111)),Gd 113 108 true (.ld (some 3) (.t 112)),Gm 114 108 true 0,Gm 115 108 true 1,Gd 116 108 true (.ia 3 (.t 114) (.t 115)),Gd 117 108 true (.ld (some 3) (.t 116)),Gd 118 108 true (.cw (.t 109) [(.t 113),(.t 117)]),Gd 119 108 true (.bo .lss (.t 118) (.c (.int .i64 0))),Qo 120 (.pk (.t 108) (.t 119) (.c (.bool false)))] [0,1,4,12,13,120]) (.cd (.t 120) .sk (.xt 6))) (.bl 7 (.rg none [Mv 121 12,Qo 122 (.bo .add (.t 121) (.c (.int .i64 1))),Mv 12 122] [0,1,4,12,13])))
def b132_3:C:=(.sq (.sq (.rg (some (List.range 17)) [Mv 123 12,Mv 124 13,Qo 125 (.bo .leq (.t 123) (.t 124)),Mv 126 125,Gm 127 126 true 4,Gm 128 126 true 0,Gm 129 126 true 13,Gd 130 126 true (.ia 3 (.t 128) (.t 129)),Gd 131 126 true (.ld (some 3) (.t 130)),Gm 132 126 true 0,Gm 133 126 true 1,Gd 134 126 true (.ia 3 (.t 132) (.t 133)),Gd 135 126 true (.ld (some 3) (.t 134)),Gd 136 126 true (.cw (.t 127) [(.t 131),(.t 135)]),Gd 137 126 true (.bo .lss (.t 136) (.c (.int .i64 0))),Gd 138 126 true (.un .not (.t 137)),Qo 139 (.pk (.t 126) (.t 138) (.c (.bool false)))] [0,1,4,12,13,139]) (.cd (.t 139) .sk (.xt 8))) (.bl 9 (.rg none [Mv 140 13,Qo 141 (.bo .sub (.t 140) (.c (.int .i64 1))),Mv 13 141] [0,1,4,12,13])))
def k132_4:C:=(.sq (.sq (.rg none [Mv 142 12,Mv 143 13,Qo 144 (.bo .gtr (.t 142) (.t 143))] [0,1,4,12,13,144]) (.cd (.t 144) (.xt 4) .sk)) (.sq (.rg (some (List.range 16)) [Mv 145 0,Mv 146 12,Mv 147 0,Mv 148 13,Mv 149 0,Mv 150 13,Qo 151 (.ia 3 (.t 149) (.t 150)),Qo 152 (.ld (some 3) (.t 151)),Mv 153 0,Mv 154 12,Qo 155 (.ia 3 (.t 153) (.t 154)),Qo 156 (.ld (some 3) (.t 155)),Qo 157 (.ia 3 (.t 145) (.t 146)),Eo (.st 3 (.t 157) (.t 152)),Qo 158 (.ia 3 (.t 147) (.t 148)),Eo (.st 3 (.t 158) (.t 156))] [0,1,4,12,13]) (.sq (.rg none [Mv 159 12,Qo 160 (.bo .add (.t 159) (.c (.int .i64 1))),Mv 12 160] [0,1,4,12,13]) (.rg none [Mv 161 13,Qo 162 (.bo .sub (.t 161) (.c (.int .i64 1))),Mv 13 162] [0,1,4,12,13]))))
def k132_5:C:=(.sq (.bl 8 (.lp false b132_3)) k132_4)
def b132_6:C:=(.bl 5 (.sq (.bl 6 (.lp false b132_2)) k132_5))
def k132_7:C:=(.sq (.rg (some (List.range 16)) [Mv 163 0,Mv 164 13,Mv 165 0,Mv 166 1,Mv 167 0,Mv 168 1,Qo 169 (.ia 3 (.t 167) (.t 168)),Qo 170 (.ld (some 3) (.t 169)),Mv 171 0,Mv 172 13,Qo 173 (.ia 3 (.t 171) (.t 172)),Qo 174 (.ld (some 3) (.t 173)),Qo 175 (.ia 3 (.t 163) (.t 164)),Eo (.st 3 (.t 175) (.t 170)),Qo 176 (.ia 3 (.t 165) (.t 166)),Eo (.st 3 (.t 176) (.t 174))] [13]) (.sq (.rg none [Mv 177 13,Mv 10 177,Qo 11 (.mv (.c (.bool false)))] [10,11]) .rt))
def k132_8:C:=(.sq (.sq (.rg none [Mv 69 12,Mv 70 13,Qo 71 (.bo .gtr (.t 69) (.t 70))] [0,1,4,12,13,71]) (.cd (.t 71) (.sq (.rg (some (List.range 16)) [Mv 72 0,Mv 73 13,Mv 74 0,Mv 75 1,Mv 76 0,Mv 77 1,Qo 78 (.ia 3 (.t 76) (.t 77)),Qo 79 (.ld (some 3) (.t 78)),Mv 80 0,Mv 81 13,Qo 82 (.ia 3 (.t 80) (.t 81)),Qo 83 (.ld (some 3) (.t 82)),Qo 84 (.ia 3 (.t 72) (.t 73)),Eo (.st 3 (.t 84) (.t 79)),Qo 85 (.ia 3 (.t 74) (.t 75)),Eo (.st 3 (.t 85) (.t 83))] [13]) (.sq (.rg none [Mv 86 13,Mv 10 86,Qo 11 (.mv (.c (.bool true)))] [10,11]) .rt)) .sk)) (.sq (.rg (some (List.range 16)) [Mv 87 0,Mv 88 12,Mv 89 0,Mv 90 13,Mv 91 0,Mv 92 13,Qo 93 (.ia 3 (.t 91) (.t 92)),Qo 94 (.ld (some 3) (.t 93)),Mv 95 0,Mv 96 12,Qo 97 (.ia 3 (.t 95) (.t 96)),Qo 98 (.ld (some 3) (.t 97)),Qo 99 (.ia 3 (.t 87) (.t 88)),Eo (.st 3 (.t 99) (.t 94)),Qo 100 (.ia 3 (.t 89) (.t 90)),Eo (.st 3 (.t 100) (.t 98))] [0,1,4,12,13]) (.sq (.rg none [Mv 101 12,Qo 102 (.bo .add (.t 101) (.c (.int .i64 1))),Mv 12 102] [0,1,4,12,13]) (.sq (.rg none [Mv 103 13,Qo 104 (.bo .sub (.t 103) (.c (.int .i64 1))),Mv 13 104] [0,1,4,12,13]) (.sq (.bl 4 (.lp false b132_6)) k132_7)))))
def k132_9:C:=(.sq (.bl 2 (.lp false b132_1)) k132_8)
def c132:FI.Fn:={ body:=(.sq (.rg none [Qo 10 (.mv (.c (.int .i64 0))),Qo 11 (.mv (.c (.bool false)))] [0,1,2,3,4]) (.sq (.rg (some (List.range 16)) [Mv 14 0,Mv 15 1,Mv 16 0,Mv 17 3,Mv 18 0,Mv 19 3,Qo 20 (.ia 3 (.t 18) (.t 19)),Qo 21 (.ld (some 3) (.t 20)),Mv 22 0,Mv 23 1,Qo 24 (.ia 3 (.t 22) (.t 23)),Qo 25 (.ld (some 3) (.t 24)),Qo 26 (.ia 3 (.t 14) (.t 15)),Eo (.st 3 (.t 26) (.t 21)),Qo 27 (.ia 3 (.t 16) (.t 17)),Eo (.st 3 (.t 27) (.t 25))] [0,1,2,4]) (.sq (.rg none [Mv 28 1,Qo 29 (.bo .add (.t 28) (.c (.int .i64 1))),Mv 30 2,Qo 31 (.bo .sub (.t 30) (.c (.int .i64 1))),Mv 12 29,Mv 13 31] [0,1,4,12,13]) (.sq (.bl 0 (.lp false b132_0)) k132_9)))),np:=5,res:=[.t 10,.t 11],mode:=.shr }
def c133:FI.Fn:={ body:=(.sq (.rg none [Qo 2 (.mv (.c (.int .i64 0)))] [0,2]) (.sq (.sq (.rg none [Mv 3 0,Qo 4 (.bo .geq (.t 3) (.c (.int .u32 65536)))] [0,2,4]) (.cd (.t 4) (.sq (.rg none [Mv 5 0,Qo 6 (.bo .shr (.t 5) (.c (.int .u64 16))),Mv 0 6] [0]) (.rg none [Qo 2 (.mv (.c (.int .i64 16)))] [0,2])) .sk)) (.sq (.sq (.rg none [Mv 7 0,Qo 8 (.bo .geq (.t 7) (.c (.int .u32 256)))] [0,2,8]) (.cd (.t 8) (.sq (.rg none [Mv 9 0,Qo 10 (.bo .shr (.t 9) (.c (.int .u64 8))),Mv 0 10] [0,2]) (.rg none [Mv 11 2,Qo 12 (.bo .add (.t 11) (.c (.int .i64 8))),Mv 2 12] [0,2])) .sk)) (.sq (.rg none [Mv 13 2,Mv 14 0,Qo 15 (.cv .u8 (.t 14)),Qo 16 (.ix (.c (.str [0,1,2,2,3,3,3,3,4,4,4,4,4,4,4,4,5,5,5,5,5,5,5,5,5,5,5,5,5,5,5,5,6,6,6,6,6,6,6,6,6,6,6,6,6,6,6,6,6,6,6,6,6,6,6,6,6,6,6,6,6,6,6,6,7,7,7,7,7,7,7,7,7,7,7,7,7,7,7,7,7,7,7,7,7,7,7,7,7,7,7,7,7,7,7,7,7,7,7,7,7,7,7,7,7,7,7,7,7,7,7,7,7,7,7,7,7,7,7,7,7,7,7,7,7,7,7,7,8,8,8,8,8,8,8,8,8,8,8,8,8,8,8,8,8,8,8,8,8,8,8,8,8,8,8,8,8,8,8,8,8,8,8,8,8,8,8,8,8,8,8,8,8,8,8,8,8,8,8,8,8,8,8,8,8,8,8,8,8,8,8,8,8,8,8,8,8,8,8,8,8,8,8,8,8,8,8,8,8,8,8,8,8,8,8,8,8,8,8,8,8,8,8,8,8,8,8,8,8,8,8,8,8,8,8,8,8,8,8,8,8,8,8,8,8,8,8,8,8,8,8,8,8,8,8,8])) (.t 15)),Qo 17 (.cv .i64 (.t 16)),Qo 18 (.bo .add (.t 13) (.t 17)),Mv 2 18] [2]) .rt)))),np:=1,res:=[.t 2],mode:=.iso }
def c134:FI.Fn:={ body:=(.sq (.rg none [Qo 2 (.mv (.c (.int .i64 0)))] [0,2]) (.sq (.sq (.rg none [Mv 3 0,Qo 4 (.bo .geq (.t 3) (.c (.int .u64 4294967296)))] [0,2,4]) (.cd (.t 4) (.sq (.rg none [Mv 5 0,Qo 6 (.bo .shr (.t 5) (.c (.int .u64 32))),Mv 0 6] [0]) (.rg none [Qo 2 (.mv (.c (.int .i64 32)))] [0,2])) .sk)) (.sq (.sq (.rg none [Mv 7 0,Qo 8 (.bo .geq (.t 7) (.c (.int .u64 65536)))] [0,2,8]) (.cd (.t 8) (.sq (.rg none [Mv 9 0,Qo 10 (.bo .shr (.t 9) (.c (.int .u64 16))),Mv 0 10] [0,2]) (.rg none [Mv 11 2,Qo 12 (.bo .add (.t 11) (.c (.int .i64 16))),Mv 2 12] [0,2])) .sk)) (.sq (.sq (.rg none [Mv 13 0,Qo 14 (.bo .geq (.t 13) (.c (.int .u64 256)))] [0,2,14]) (.cd (.t 14) (.sq (.rg none [Mv 15 0,Qo 16 (.bo .shr (.t 15) (.c (.int .u64 8))),Mv 0 16] [0,2]) (.rg none [Mv 17 2,Qo 18 (.bo .add (.t 17) (.c (.int .i64 8))),Mv 2 18] [0,2])) .sk)) (.sq (.rg none [Mv 19 2,Mv 20 0,Qo 21 (.cv .u8 (.t 20)),Qo 22 (.ix (.c (.str [0,1,2,2,3,3,3,3,4,4,4,4,4,4,4,4,5,5,5,5,5,5,5,5,5,5,5,5,5,5,5,5,6,6,6,6,6,6,6,6,6,6,6,6,6,6,6,6,6,6,6,6,6,6,6,6,6,6,6,6,6,6,6,6,7,7,7,7,7,7,7,7,7,7,7,7,7,7,7,7,7,7,7,7,7,7,7,7,7,7,7,7,7,7,7,7,7,7,7,7,7,7,7,7,7,7,7,7,7,7,7,7,7,7,7,7,7,7,7,7,7,7,7,7,7,7,7,7,8,8,8,8,8,8,8,8,8,8,8,8,8,8,8,8,8,8,8,8,8,8,8,8,8,8,8,8,8,8,8,8,8,8,8,8,8,8,8,8,8,8,8,8,8,8,8,8,8,8,8,8,8,8,8,8,8,8,8,8,8,8,8,8,8,8,8,8,8,8,8,8,8,8,8,8,8,8,8,8,8,8,8,8,8,8,8,8,8,8,8,8,8,8,8,8,8,8,8,8,8,8,8,8,8,8,8,8,8,8,8,8,8,8,8,8,8,8,8,8,8,8,8,8,8,8,8,8])) (.t 21)),Qo 23 (.cv .i64 (.t 22)),Qo 24 (.bo .add (.t 19) (.t 23)),Mv 2 24] [2]) .rt))))),np:=1,res:=[.t 2],mode:=.iso }
def c135:FI.Fn:={ body:=(.sq (.rg none [Qo 3 (.bx 6 (.t 0)),Qo 4 (.al 6 (.agg [(.int .u8 0),(.int .i64 0),(.int .u64 0),(.str []),(.int .i64 0),(.lst true [])])),Qo 5 (.mv (.c (.bool false)))] [1,2,3,4]) (.sq (.rg (some [0,1,3,4,5,6,7,8,9,10,11,12,2,13,14,15,16]) [Qo 6 (.ld none (.t 1)),Qo 7 (.ld (some 6) (.t 3)),Qo 9 (.fa 5 (.t 3)),Qo 10 (.ld none (.t 9)),Qo 11 (.ia 6 (.t 10) (.c (.int .i64 0))),Qo 12 (.ld (some 6) (.t 11)),Qo 13 (.fa 5 (.t 3)),Qo 14 (.ld none (.t 13)),Qo 15 (.ia 6 (.t 14) (.c (.int .i64 0))),Qo 16 (.fa 1 (.t 15)),Qo 17 (.ld none (.t 16)),Qo 18 (.ld none (.t 2)),⟨some 8,none,.cw (.t 6) [(.t 7)],[(none,none,9,10),(none,(some 6),11,12),(none,none,13,14),(none,none,16,17),(none,none,2,18)]⟩,Qo 19 (.cl 137 [(.t 17),(.t 18)]),Qo 20 (.cl 136 [(.t 12),(.t 19)]),Eo (.st 6 (.t 4) (.t 8)),Mv 5 20] [4,5]) .rt)),np:=3,res:=[.cell 4 (some 6),.t 5],mode:=.isc }
def c136:FI.Fn:={ body:=(.sq (.rg none [Qo 2 (.bx 6 (.t 0)),Qo 4 (.mv (.c (.bool false)))] [1,2]) (.sq (.rg none [Qo 5 (.fa 0 (.t 2)),Qo 6 (.ld none (.t 5)),Qo 7 (.bo .eql (.t 6) (.c (.int .u8 1))),Mv 8 7,Gd 9 8 true (.fa 2 (.t 2)),Gd 10 8 true (.ld none (.t 9)),Gm 11 8 true 1,Gd 12 8 true (.bo .eql (.t 10) (.t 11)),Qo 13 (.pk (.t 8) (.t 12) (.c (.bool false))),Mv 4 13] [4]) .rt)),np:=2,res:=[.t 4],mode:=.iso }
def c137:FI.Fn:={ body:=(.sq (.rg none [Qo 4 (.mv (.c (.int .u64 0)))] [0,1]) (.sq (.rg none [Mv 5 1,Mv 6 0,Qo 7 (.cl 115 [(.t 6)]),Qo 8 (.mn (.t 5) (.t 7)),Mv 4 8] [4]) .rt)),np:=2,res:=[.t 4],mode:=.iso }
def c138:FI.Fn:={ body:=(.sq (.rg none [Qo 3 (.bx 6 (.t 0)),Qo 4 (.al 6 (.agg [(.int .u8 0),(.int .i64 0),(.int .u64 0),(.str []),(.int .i64 0),(.lst true [])])),Qo 5 (.mv (.c (.bool false)))] [1,2,3,4]) (.sq (.rg (some [0,1,3,4,5,6,7,8,9,10,11,12,2,13,14,15,16]) [Qo 6 (.ld none (.t 1)),Qo 7 (.ld (some 6) (.t 3)),Qo 9 (.fa 5 (.t 3)),Qo 10 (.ld none (.t 9)),Qo 11 (.ia 6 (.t 10) (.c (.int .i64 1))),Qo 12 (.ld (some 6) (.t 11)),Qo 13 (.fa 5 (.t 3)),Qo 14 (.ld none (.t 13)),Qo 15 (.ia 6 (.t 14) (.c (.int .i64 1))),Qo 16 (.fa 1 (.t 15)),Qo 17 (.ld none (.t 16)),Qo 18 (.ld none (.t 2)),⟨some 8,none,.cw (.t 6) [(.t 7)],[(none,none,9,10),(none,(some 6),11,12),(none,none,13,14),(none,none,16,17),(none,none,2,18)]⟩,Qo 19 (.cl 137 [(.t 17),(.t 18)]),Qo 20 (.cl 136 [(.t 12),(.t 19)]),Eo (.st 6 (.t 4) (.t 8)),Mv 5 20] [4,5]) .rt)),np:=3,res:=[.cell 4 (some 6),.t 5],mode:=.isc }
def c139:FI.Fn:={ body:=(.sq (.rg none [Qo 2 (.bx 6 (.t 0)),Qo 3 (.al 6 (.agg [(.int .u8 0),(.int .i64 0),(.int .u64 0),(.str []),(.int .i64 0),(.lst true [])])),Qo 4 (.mv (.c (.bool false)))] [1,2,3]) (.sq (.rg (some [0,1,3,4,5,6,7,8,9,10,2,11,12,13]) [Qo 5 (.ld none (.t 1)),Qo 6 (.ld (some 6) (.t 2)),Qo 8 (.fa 5 (.t 2)),Qo 9 (.ld none (.t 8)),Qo 10 (.ia 6 (.t 9) (.c (.int .i64 0))),Qo 11 (.ld (some 6) (.t 10)),Qo 12 (.fa 5 (.t 2)),Qo 13 (.ld none (.t 12)),Qo 14 (.ia 6 (.t 13) (.c (.int .i64 1))),Qo 15 (.ld (some 6) (.t 14)),⟨some 7,none,.cw (.t 5) [(.t 6)],[(none,none,8,9),(none,(some 6),10,11),(none,none,12,13),(none,(some 6),14,15)]⟩,Qo 16 (.cl 140 [(.t 11),(.t 15)]),Eo (.st 6 (.t 3) (.t 7)),Mv 4 16] [3,4]) .rt)),np:=2,res:=[.cell 3 (some 6),.t 4],mode:=.isc }
def c140:FI.Fn:={ body:=(.sq (.rg none [Qo 2 (.bx 6 (.t 0)),Qo 3 (.bx 6 (.t 1)),Qo 4 (.mv (.c (.bool false)))] [2,3]) (.sq (.rg none [Qo 5 (.fa 0 (.t 2)),Qo 6 (.ld none (.t 5)),Qo 7 (.fa 0 (.t 3)),Qo 8 (.ld none (.t 7)),Qo 9 (.bo .eql (.t 6) (.t 8)),Mv 10 9,Gd 11 10 true (.fa 1 (.t 2)),Gd 12 10 true (.ld none (.t 11)),Gd 13 10 true (.fa 1 (.t 3)),Gd 14 10 true (.ld none (.t 13)),Gd 15 10 true (.bo .eql (.t 12) (.t 14)),Qo 16 (.pk (.t 10) (.t 15) (.c (.bool false))),Mv 17 16,Gd 18 17 true (.fa 2 (.t 2)),Gd 19 17 true (.ld none (.t 18)),Gd 20 17 true (.fa 2 (.t 3)),Gd 21 17 true (.ld none (.t 20)),Gd 22 17 true (.bo .eql (.t 19) (.t 21)),Qo 23 (.pk (.t 17) (.t 22) (.c (.bool false))),Mv 24 23,Gd 25 24 true (.fa 3 (.t 2)),Gd 26 24 true (.ld none (.t 25)),Gd 27 24 true (.fa 3 (.t 3)),Gd 28 24 true (.ld none (.t 27)),Gd 29 24 true (.bo .eql (.t 26) (.t 28)),Qo 30 (.pk (.t 24) (.t 29) (.c (.bool false))),Mv 31 30,Gd 32 31 true (.fa 4 (.t 2)),Gd 33 31 true (.ld none (.t 32)),Gd 34 31 true (.fa 4 (.t 3)),Gd 35 31 true (.ld none (.t 34)),Gd 36 31 true (.bo .eql (.t 33) (.t 35)),Qo 37 (.pk (.t 31) (.t 36) (.c (.bool false))),Mv 38 37,Gd 39 38 true (.fa 5 (.t 2)),Gd 40 38 true (.ld none (.t 39)),Gd 41 38 true (.fa 5 (.t 3)),Gd 42 38 true (.ld none (.t 41)),Gd 43 38 true (.cl 186 [(.t 40),(.t 42),(.c (.fn 140 []))]),Qo 44 (.pk (.t 38) (.t 43) (.c (.bool false))),Mv 4 44] [4]) .rt)),np:=2,res:=[.t 4],mode:=.iso }
def c141:FI.Fn:={ body:=(.sq (.rg none [Qo 2 (.bx 6 (.t 0)),Qo 3 (.al 6 (.agg [(.int .u8 0),(.int .i64 0),(.int .u64 0),(.str []),(.int .i64 0),(.lst true [])]))] [1,2,3]) (.sq (.rg (some (List.range 8)) [Qo 4 (.fa 1 (.t 2)),Qo 5 (.ld none (.t 4)),Qo 6 (.fa 1 (.t 2)),Qo 7 (.ld none (.t 6)),Qo 8 (.ld none (.t 1)),Qo 9 (.cl 137 [(.t 7),(.t 8)]),Qo 10 (.cl 78 [(.t 5),(.t 9)]),Eo (.st 6 (.t 3) (.t 10))] [3]) .rt)),np:=2,res:=[.cell 3 (some 6)],mode:=.iso }
def c156:FI.Fn:={ body:=(.sq (.rg none [Qo 4 (.mv (.c (.bool false)))] [0,1]) (.sq (.rg none [Mv 5 0,Qo 6 (.ln 0 (.t 5)),Mv 7 1,Qo 8 (.ln 0 (.t 7)),Qo 9 (.bo .geq (.t 6) (.t 8)),Mv 10 9,Gm 11 10 true 0,Gm 12 10 true 1,Gd 13 10 true (.ln 0 (.t 12)),Gd 14 10 true (.sl 0 (.t 11) none (some (.t 13))),Gm 15 10 true 1,Gd 16 10 true (.bo .eql (.t 14) (.t 15)),Qo 17 (.pk (.t 10) (.t 16) (.c (.bool false))),Mv 4 17] [4]) .rt)),np:=2,res:=[.t 4],mode:=.iso }
def b157_0:C:=(.sq (.sq (.rg none [Mv 11 5,Mv 12 0,Qo 13 (.ln 0 (.t 12)),Qo 14 (.bo .lss (.t 11) (.t 13)),Mv 15 14,Gm 16 15 true 5,Gd 17 15 true (.bo .lss (.t 16) (.c (.int .i64 2))),Qo 18 (.pk (.t 15) (.t 17) (.c (.bool false))),Mv 19 18,Gm 20 19 true 0,Gm 21 19 true 5,Gd 22 19 true (.ix (.t 20) (.t 21)),Gd 23 19 true (.bo .geq (.t 22) (.c (.int .u8 48))),Qo 24 (.pk (.t 19) (.t 23) (.c (.bool false))),Mv 25 24,Gm 26 25 true 0,Gm 27 25 true 5,Gd 28 25 true (.ix (.t 26) (.t 27)),Gd 29 25 true (.bo .leq (.t 28) (.c (.int .u8 57))),Qo 30 (.pk (.t 25) (.t 29) (.c (.bool false)))] [0,2,3,5,30]) (.cd (.t 30) .sk (.xt 0))) (.bl 1 (.sq (.rg none [Mv 31 2,Qo 32 (.bo .mul (.c (.int .i64 10)) (.t 31)),Mv 33 0,Mv 34 5,Qo 35 (.ix (.t 33) (.t 34)),Qo 36 (.bo .sub (.t 35) (.c (.int .u8 48))),Qo 37 (.cv .i64 (.t 36)),Qo 38 (.bo .add (.t 32) (.t 37)),Mv 2 38] [0,2,3,5]) (.rg none [Mv 39 5,Qo 40 (.bo .add (.t 39) (.c (.int .i64 1))),Mv 5 40] [0,2,3,5]))))
def b157_1:C:=(.sq (.sq (.rg none [Mv 43 6,Mv 44 0,Qo 45 (.ln 0 (.t 44)),Qo 46 (.bo .lss (.t 43) (.t 45)),Mv 47 46,Gm 48 47 true 6,Gm 49 47 true 5,Gd 50 47 true (.bo .add (.t 49) (.c (.int .i64 18))),Gd 51 47 true (.bo .lss (.t 48) (.t 50)),Qo 52 (.pk (.t 47) (.t 51) (.c (.bool false)))] [0,2,3,5,6,52]) (.cd (.t 52) .sk (.xt 2))) (.sq (.bl 3 (.sq (.rg none [Qo 7 (.mv (.c (.int .u64 0)))] [0,2,3,5,6,7]) (.sq (.sq (.rg none [Mv 55 0,Mv 56 6,Qo 57 (.ix (.t 55) (.t 56)),Mv 8 57] [0,2,3,5,6,7,8]) (.bl 4 (.sq (.rg none [Mv 59 8,Qo 60 (.bo .geq (.t 59) (.c (.int .u8 48))),Mv 61 60,Gm 62 61 true 8,Gd 63 61 true (.bo .leq (.t 62) (.c (.int .u8 57))),Qo 64 (.pk (.t 61) (.t 63) (.c (.bool false))),Mv 58 64] [0,2,3,5,6,7,8,58]) (.cd (.t 58) (.rg none [Mv 65 8,Qo 66 (.bo .sub (.t 65) (.c (.int .u8 48))),Qo 67 (.cv .u64 (.t 66)),Mv 7 67] [0,2,3,5,6,7]) (.sq (.rg none [Mv 69 8,Qo 70 (.bo .geq (.t 69) (.c (.int .u8 97))),Mv 71 70,Gm 72 71 true 8,Gd 73 71 true (.bo .leq (.t 72) (.c (.int .u8 102))),Qo 74 (.pk (.t 71) (.t 73) (.c (.bool false))),Mv 68 74] [0,2,3,5,6,7,8,68]) (.cd (.t 68) (.rg none [Mv 75 8,Qo 76 (.bo .sub (.t 75) (.c (.int .u8 97))),Qo 77 (.cv .u64 (.t 76)),Qo 78 (.bo .add (.t 77) (.c (.int .u64 10))),Mv 7 78] [0,2,3,5,6,7]) .sk)))))) (.rg none [Mv 79 3,Qo 80 (.bo .shl (.t 79) (.c (.int .u64 4))),Mv 81 7,Qo 82 (.bo .or (.t 80) (.t 81)),Mv 3 82] [0,2,3,5,6])))) (.rg none [Mv 53 6,Qo 54 (.bo .add (.t 53) (.c (.int .i64 1))),Mv 6 54] [0,2,3,5,6])))
def k157_2:C:=(.sq (.sq (.rg none [Mv 84 2,Mv 85 3,Qo 86 (.cl 109 [(.t 84),(.t 85)]),Mv 83 86,Qo 87 (.ex (.t 83) 0),Qo 88 (.ex (.t 83) 1),Mv 9 87,Mv 10 88] [0,2,3,9,10]) (.sq (.rg none [Mv 89 10,Qo 90 (.bo .neq (.t 89) (.c (.int .i64 0))),Mv 91 90,Gm 92 91 false 9,Gm 93 91 false 0,Gd 94 91 false (.bo .neq (.t 92) (.t 93)),Qo 95 (.pk (.t 91) (.c (.bool true)) (.t 94))] [2,3,95]) (.cd (.t 95) (.sq (.rg none [Qo 2 (.mv (.c (.int .i64 0))),Qo 3 (.mv (.c (.int .u64 0))),Qo 4 (.mv (.c (.int .i64 12)))] [2,3,4]) .rt) .sk))) (.sq (.rg none [Mv 96 2,Mv 97 3,Mv 2 96,Mv 3 97,Qo 4 (.mv (.c (.int .i64 0)))] [2,3,4]) .rt))
def k157_3:C:=(.sq (.sq (.rg none [Mv 41 5,Qo 42 (.bo .add (.t 41) (.c (.int .i64 1))),Mv 6 42] [0,2,3,5,6]) (.bl 2 (.lp true b157_1))) k157_2)
def c157:FI.Fn:={ body:=(.sq (.rg none [Qo 2 (.mv (.c (.int .i64 0))),Qo 3 (.mv (.c (.int .u64 0))),Qo 4 (.mv (.c (.int .i64 0)))] [0,2,3]) (.sq (.rg none [Qo 5 (.mv (.c (.int .i64 0)))] [0,2,3,5]) (.sq (.bl 0 (.lp true b157_0)) k157_3))),np:=1,res:=[.t 2,.t 3,.t 4],mode:=.iso }
def c158:FI.Fn:={ body:=(.sq (.rg none [Qo 4 (.mv (.c (.str []))),Qo 5 (.mv (.c (.str []))),Qo 6 (.mv (.c (.bool false)))] [0,1]) (.sq (.rg none [Mv 7 0,Mv 8 1,Qo 9 (.cl 189 [(.t 7),(.t 8)]),Qo 10 (.ex (.t 9) 0),Qo 11 (.ex (.t 9) 1),Qo 12 (.ex (.t 9) 2),Mv 4 10,Mv 5 11,Mv 6 12] [4,5,6]) .rt)),np:=2,res:=[.t 4,.t 5,.t 6],mode:=.iso }
def b159_0:C:=(.sq (.sq (.rg none [Mv 33 8,Mv 34 0,Qo 35 (.ln 0 (.t 34)),Qo 36 (.bo .lss (.t 33) (.t 35))] [0,6,8,36]) (.cd (.t 36) .sk (.xt 0))) (.sq (.bl 1 (.sq (.rg none [Mv 39 0,Mv 40 8,Qo 41 (.ix (.t 39) (.t 40)),Qo 42 (.cl 193 [(.t 6),(.t 41)])] [0,6,8,42]) (.cd (.t 42) (.sq (.rg none [Mv 43 8,Mv 4 43] [4]) .rt) .sk))) (.rg none [Mv 37 8,Qo 38 (.bo .add (.t 37) (.c (.int .i64 1))),Mv 8 38] [0,6,8])))
def k159_1:C:=(.sq (.rg none [Qo 4 (.mv (.c (.int .i64 (-1))))] [4]) .rt)
def b159_2:C:=(.sq (.rg none [Qo 46 (.ns (.t 45)),Qo 47 (.ex (.t 46) 0)] [1,45,46,47]) (.sq (.cd (.t 47) .sk (.xt 2)) (.bl 3 (.sq (.rg none [Qo 48 (.ex (.t 46) 1),Qo 49 (.ex (.t 46) 2),Mv 9 48,Mv 10 49] [1,9,10,45]) (.sq (.rg none [Mv 50 1,Mv 51 10,Qo 52 (.cl 190 [(.t 50),(.t 51)]),Qo 53 (.bo .geq (.t 52) (.c (.int .i64 0)))] [1,9,45,53]) (.cd (.t 53) (.sq (.rg none [Mv 54 9,Mv 4 54] [4]) .rt) .sk))))))
def k159_3:C:=(.sq (.rg none [Qo 4 (.mv (.c (.int .i64 (-1))))] [4]) .rt)
def k159_4:C:=(.sq (.sq (.rg none [Mv 44 0,Qo 45 (.rs (.t 44))] [1,45]) (.bl 2 (.lp true b159_2))) k159_3)
def c159:FI.Fn:={ body:=(.sq (.rg none [Qo 4 (.mv (.c (.int .i64 0)))] [0,1]) (.sq (.sq (.rg none [Mv 11 1,Qo 12 (.bo .eql (.t 11) (.c (.str [])))] [0,1,12]) (.cd (.t 12) (.sq (.rg none [Qo 4 (.mv (.c (.int .i64 (-1))))] [4]) .rt) .sk)) (.sq (.sq (.rg none [Mv 13 1,Qo 14 (.ln 0 (.t 13)),Qo 15 (.bo .eql (.t 14) (.c (.int .i64 1)))] [0,1,15]) (.cd (.t 15) (.sq (.rg none [Mv 16 1,Qo 17 (.ix (.t 16) (.c (.int .i64 0))),Qo 18 (.cv .i32 (.t 17)),Mv 5 18] [0,5]) (.sq (.sq (.rg none [Mv 19 5,Qo 20 (.bo .geq (.t 19) (.c (.int .i32 128)))] [0,5,20]) (.cd (.t 20) (.rg none [Qo 5 (.mv (.c (.int .i32 65533)))] [0,5]) .sk)) (.sq (.rg none [Mv 21 0,Mv 22 5,Qo 23 (.cl 190 [(.t 21),(.t 22)]),Mv 4 23] [4]) .rt))) .sk)) (.sq (.sq (.rg none [Mv 24 0,Qo 25 (.ln 0 (.t 24)),Qo 26 (.cl 191 [(.t 25)])] [0,1,26]) (.cd (.t 26) (.sq (.rg none [Mv 28 1,Qo 29 (.cl 192 [(.t 28)]),Mv 27 29,Qo 30 (.ex (.t 27) 0),Qo 31 (.ex (.t 27) 1),Qo 6 (.al 256 (.agg [(.bool false),(.bool false),(.bool false),(.bool false),(.bool false),(.bool false),(.bool false),(.bool false),(.bool false),(.bool false),(.bool false),(.bool false),(.bool false),(.bool false),(.bool false),(.bool false),(.bool false),(.bool false),(.bool false),(.bool false),(.bool false),(.bool false),(.bool false),(.bool false),(.bool false),(.bool false),(.bool false),(.bool false),(.bool false),(.bool false),(.bool false),(.bool false),(.bool false),(.bool false),(.bool false),(.bool false),(.bool false),(.bool false),(.bool false),(.bool false),(.bool false),(.bool false),(.bool false),(.bool false),(.bool false),(.bool false),(.bool false),(.bool false),(.bool false),(.bool false),(.bool false),(.bool false),(.bool false),(.bool false),(.bool false),(.bool false),(.bool false),(.bool false),(.bool false),(.bool false),(.bool false),(.bool false),(.bool false),(.bool false),(.bool false),(.bool false),(.bool false),(.bool false),(.bool false),(.bool false),(.bool false),(.bool false),(.bool false),(.bool false),(.bool false),(.bool false),(.bool false),(.bool false),(.bool false),(.bool false),(.bool false),(.bool false),(.bool false),(.bool false),(.bool false),(.bool false),(.bool false),(.bool false),(.bool false),(.bool false),(.bool false),(.bool false),(.bool false),(.bool false),(.bool false),(.bool false),(.bool false),(.bool false),(.bool false),(.bool false),(.bool false),(.bool false),(.bool false),(.bool false),(.bool false),(.bool false),(.bool false),(.bool false),(.bool false),(.bool false),(.bool false),(.bool false),(.bool false),(.bool false),(.bool false),(.bool false),(.bool false),(.bool false),(.bool false),(.bool false),(.bool false),(.bool false),(.bool false),(.bool false),(.bool false),(.bool false),(.bool false),(.bool false),(.bool false),(.bool false),(.bool false),(.bool false),(.bool false),(.bool false),(.bool false),(.bool false),(.bool false),(.bool false),(.bool false),(.bool false),(.bool false),(.bool false),(.bool false),(.bool false),(.bool false),(.bool false),(.bool false),(.bool false),(.bool false),(.bool false),(.bool false),(.bool false),(.bool false),(.bool false),(.bool false),(.bool false),(.bool false),(.bool false),(.bool false),(.bool false),(.bool false),(.bool false),(.bool false),(.bool false),(.bool false),(.bool false),(.bool false),(.bool false),(.bool false),(.bool false),(.bool false),(.bool false),(.bool false),(.bool false),(.bool false),(.bool false),(.bool false),(.bool false),(.bool false),(.bool false),(.bool false),(.bool false),(.bool false),(.bool false),(.bool false),(.bool false),(.bool false),(.bool false),(.bool false),(.bool false),(.bool false),(.bool false),(.bool false),(.bool false),(.bool false),(.bool false),(.bool false),(.bool false),(.bool false),(.bool false),(.bool false),(.bool false),(.bool false),(.bool false),(.bool false),(.bool false),(.bool false),(.bool false),(.bool false),(.bool false),(.bool false),(.bool false),(.bool false),(.bool false),(.bool false),(.bool false),(.bool false),(.bool false),(.bool false),(.bool false),(.bool false),(.bool false),(.bool false),(.bool false),(.bool false),(.bool false),(.bool false),(.bool false),(.bool false),(.bool false),(.bool false),(.bool false),(.bool false),(.bool false),(.bool false),(.bool false),(.bool false),(.bool false),(.bool false),(.bool false),(.bool false),(.bool false),(.bool false),(.bool false),(.bool false),(.bool false),(.bool false),(.bool false),(.bool false),(.bool false),(.bool false),(.bool false),(.bool false),(.bool false),(.bool false),(.bool false)])),Eo (.st 256 (.t 6) (.t 30)),Mv 7 31] [0,1,6,7]) (.sq (.rg none [Mv 32 7] [0,1,6,32]) (.cd (.t 32) (.sq (.sq (.rg none [Qo 8 (.mv (.c (.int .i64 0)))] [0,6,8]) (.bl 0 (.lp true b159_0))) k159_1) .sk))) .sk)) k159_4)))),np:=2,res:=[.t 4],mode:=.iso }
def c163:FI.Fn:={ body:=(.sq (.rg none [Qo 4 (.mv (.c (.str [])))] [0,1]) (.sq (.sq (.rg none [Mv 5 0,Mv 6 1,Qo 7 (.cl 156 [(.t 5),(.t 6)])] [0,1,7]) (.cd (.t 7) (.sq (.rg none [Mv 8 0,Mv 9 1,Qo 10 (.ln 0 (.t 9)),Qo 11 (.sl 0 (.t 8) (some (.t 10)) none),Mv 4 11] [4]) .rt) .sk)) (.sq (.rg none [Mv 12 0,Mv 4 12] [4]) .rt))),np:=2,res:=[.t 4],mode:=.iso }
def c164:FI.Fn:={ body:=(.sq (.rg none [Qo 6 (.mv (.c (.int .u64 0)))] [1,2]) (.sq (.rg none [Mv 7 1,Mv 8 2,Qo 9 (.bo .add (.t 7) (.t 8)),Mv 6 9] [6]) .rt)),np:=3,res:=[.t 6],mode:=.iso }
def c165:FI.Fn:={ body:=(.sq (.rg none [Qo 6 (.mv (.c (.int .u64 0)))] [1,2]) (.sq (.rg none [Mv 7 1,Mv 8 2,Qo 9 (.bo .sub (.t 7) (.t 8)),Mv 6 9] [6]) .rt)),np:=3,res:=[.t 6],mode:=.iso }
def c166:FI.Fn:={ body:=(.sq (.rg none [Qo 6 (.mv (.c (.int .u64 0)))] [1,2]) (.sq (.rg none [Mv 7 1,Mv 8 2,Qo 9 (.bo .mul (.t 7) (.t 8)),Mv 6 9] [6]) .rt)),np:=3,res:=[.t 6],mode:=.iso }
def c167:FI.Fn:={ body:=(.sq (.rg none [Qo 6 (.mv (.c (.int .u64 0)))] [1,2]) (.sq (.rg none [Mv 7 1,Mv 8 2,Qo 9 (.bo .and (.t 7) (.t 8)),Mv 6 9] [6]) .rt)),np:=3,res:=[.t 6],mode:=.iso }
def c168:FI.Fn:={ body:=(.sq (.rg none [Qo 6 (.mv (.c (.int .u64 0)))] [1,2]) (.sq (.rg none [Mv 7 1,Mv 8 2,Qo 9 (.bo .or (.t 7) (.t 8)),Mv 6 9] [6]) .rt)),np:=3,res:=[.t 6],mode:=.iso }
def c169:FI.Fn:={ body:=(.sq (.rg none [Qo 6 (.mv (.c (.int .u64 0)))] [1,2]) (.sq (.rg none [Mv 7 1,Mv 8 2,Qo 9 (.bo .xor (.t 7) (.t 8)),Mv 6 9] [6]) .rt)),np:=3,res:=[.t 6],mode:=.iso }
def c170:FI.Fn:={ body:=(.sq (.rg none [Qo 6 (.mv (.c (.int .u64 0)))] [1,2]) (.sq (.rg none [Mv 7 1,Mv 8 2,Qo 9 (.cl 171 [(.t 8)]),Qo 10 (.bo .shl (.t 7) (.t 9)),Mv 6 10] [6]) .rt)),np:=3,res:=[.t 6],mode:=.iso }
def c171:FI.Fn:={ body:=(.sq (.rg none [Qo 2 (.mv (.c (.int .u64 0)))] [0]) (.sq (.rg none [Mv 3 0,Qo 4 (.mn (.t 3) (.c (.int .u64 64))),Mv 2 4] [2]) .rt)),np:=1,res:=[.t 2],mode:=.iso }
def c172:FI.Fn:={ body:=(.sq (.rg none [Qo 6 (.mv (.c (.int .u64 0)))] [1,2]) (.sq (.rg none [Mv 7 1,Mv 8 2,Qo 9 (.cl 171 [(.t 8)]),Qo 10 (.bo .shr (.t 7) (.t 9)),Mv 6 10] [6]) .rt)),np:=3,res:=[.t 6],mode:=.iso }
def c173:FI.Fn:={ body:=(.sq (.rg none [Qo 6 (.mv (.c (.int .u64 0)))] [0,1,2]) (.sq (.rg none [Mv 7 0,Mv 8 1,Qo 9 (.cl 118 [(.t 7),(.t 8)]),Mv 10 2,Qo 11 (.cl 171 [(.t 10)]),Qo 12 (.bo .shr (.t 9) (.t 11)),Qo 13 (.cv .u64 (.t 12)),Mv 6 13] [6]) .rt)),np:=3,res:=[.t 6],mode:=.iso }
def c174:FI.Fn:={ body:=(.sq (.rg none [Qo 6 (.mv (.c (.int .u64 0)))] [1,2]) (.sq (.sq (.rg none [Mv 7 2,Qo 8 (.bo .eql (.t 7) (.c (.int .u64 0)))] [1,2,8]) (.cd (.t 8) (.sq (.rg none [Qo 6 (.mv (.c (.int .u64 18446744073709551615)))] [6]) .rt) .sk)) (.sq (.rg none [Mv 9 1,Mv 10 2,Qo 11 (.bo .quo (.t 9) (.t 10)),Mv 6 11] [6]) .rt))),np:=3,res:=[.t 6],mode:=.iso }
def c175:FI.Fn:={ body:=(.sq (.rg none [Qo 6 (.mv (.c (.int .u64 0)))] [1,2]) (.sq (.sq (.rg none [Mv 7 2,Qo 8 (.bo .eql (.t 7) (.c (.int .u64 0)))] [1,2,8]) (.cd (.t 8) (.sq (.rg none [Mv 9 1,Mv 6 9] [6]) .rt) .sk)) (.sq (.rg none [Mv 10 1,Mv 11 2,Qo 12 (.bo .rem (.t 10) (.t 11)),Mv 6 12] [6]) .rt))),np:=3,res:=[.t 6],mode:=.iso }
def c176:FI.Fn:={ body:=(.sq (.rg none [Qo 6 (.mv (.c (.int .u64 0)))] [1,2]) (.sq (.rg none [Mv 7 1,Mv 8 2,Qo 9 (.bo .eql (.t 7) (.t 8)),Qo 10 (.cl 177 [(.t 9)]),Mv 6 10] [6]) .rt)),np:=3,res:=[.t 6],mode:=.iso }
def c177:FI.Fn:={ body:=(.sq (.rg none [Qo 2 (.mv (.c (.int .u64 0)))] [0]) (.sq (.sq (.rg none [Mv 3 0] [3]) (.cd (.t 3) (.sq (.rg none [Qo 2 (.mv (.c (.int .u64 1)))] [2]) .rt) .sk)) (.sq (.rg none [Qo 2 (.mv (.c (.int .u64 0)))] [2]) .rt))),np:=1,res:=[.t 2],mode:=.iso }
def c178:FI.Fn:={ body:=(.sq (.rg none [Qo 6 (.mv (.c (.int .u64 0)))] [1,2]) (.sq (.rg none [Mv 7 1,Mv 8 2,Qo 9 (.bo .lss (.t 7) (.t 8)),Qo 10 (.cl 177 [(.t 9)]),Mv 6 10] [6]) .rt)),np:=3,res:=[.t 6],mode:=.iso }
def c179:FI.Fn:={ body:=(.sq (.rg none [Qo 6 (.mv (.c (.int .u64 0)))] [0,1,2]) (.sq (.rg none [Mv 7 0,Mv 8 1,Qo 9 (.cl 118 [(.t 7),(.t 8)]),Mv 10 0,Mv 11 2,Qo 12 (.cl 118 [(.t 10),(.t 11)]),Qo 13 (.bo .lss (.t 9) (.t 12)),Qo 14 (.cl 177 [(.t 13)]),Mv 6 14] [6]) .rt)),np:=3,res:=[.t 6],mode:=.iso }
def b180_0:C:=(.sq (.rg none [Qo 9 (.bo .lss (.t 8) (.t 7))] [0,1,7,8,9]) (.sq (.cd (.t 9) .sk (.xt 0)) (.sq (.bl 1 (.sq (.rg none [Mv 10 8,Mv 5 10] [0,1,5,7,8]) (.sq (.rg none [Mv 11 1,Mv 12 0,Mv 13 5,Qo 14 (.ia 6 (.t 12) (.t 13)),Qo 15 (.ld (some 6) (.t 14)),Qo 16 (.cw (.t 11) [(.t 15)])] [0,1,5,7,8,16]) (.cd (.t 16) (.sq (.rg none [Mv 17 5,Mv 4 17] [4]) .rt) .sk)))) (.rg none [Qo 18 (.bo .add (.t 8) (.c (.int .i64 1))),Mv 8 18] [0,1,7,8]))))
def k180_1:C:=(.sq (.rg none [Qo 4 (.mv (.c (.int .i64 (-1))))] [4]) .rt)
def c180:FI.Fn:={ body:=(.sq (.rg none [Qo 4 (.mv (.c (.int .i64 0)))] [0,1]) (.sq (.sq (.rg none [Mv 6 0,Qo 7 (.ln 1 (.t 6)),Qo 8 (.mv (.c (.int .i64 0)))] [0,1,7,8]) (.bl 0 (.lp true b180_0))) k180_1)),np:=2,res:=[.t 4],mode:=.iso }
def b181_0:C:=(.bl 1 (.sq (.rg none [Mv 13 10,Qo 14 (.bo .mul (.c (.int .i64 2)) (.t 13)),Qo 15 (.bo .add (.t 14) (.c (.int .i64 1))),Mv 11 15] [0,2,3,4,10,11]) (.sq (.sq (.rg none [Mv 16 11,Mv 17 2,Qo 18 (.bo .geq (.t 16) (.t 17))] [0,2,3,4,10,11,18]) (.cd (.t 18) (.xt 0) .sk)) (.sq (.sq (.rg (some (List.range 22)) [Mv 19 11,Qo 20 (.bo .add (.t 19) (.c (.int .i64 1))),Mv 21 2,Qo 22 (.bo .lss (.t 20) (.t 21)),Mv 23 22,Gm 24 23 true 4,Gm 25 23 true 0,Gm 26 23 true 3,Gm 27 23 true 11,Gd 28 23 true (.bo .add (.t 26) (.t 27)),Gd 29 23 true (.ia 3 (.t 25) (.t 28)),Gd 30 23 true (.ld (some 3) (.t 29)),Gm 31 23 true 0,Gm 32 23 true 3,Gm 33 23 true 11,Gd 34 23 true (.bo .add (.t 32) (.t 33)),Gd 35 23 true (.bo .add (.t 34) (.c (.int .i64 1))),Gd 36 23 true (.ia 3 (.t 31) (.t 35)),Gd 37 23 true (.ld (some 3) (.t 36)),Gd 38 23 true (.cw (.t 24) [(.t 30),(.t 37)]),Gd 39 23 true (.bo .lss (.t 38) (.c (.int .i64 0))),Qo 40 (.pk (.t 23) (.t 39) (.c (.bool false)))] [0,2,3,4,10,11,40]) (.cd (.t 40) (.rg none [Mv 41 11,Qo 42 (.bo .add (.t 41) (.c (.int .i64 1))),Mv 11 42] [0,2,3,4,10,11]) .sk)) (.sq (.sq (.rg (some (List.range 16)) [Mv 43 4,Mv 44 0,Mv 45 3,Mv 46 10,Qo 47 (.bo .add (.t 45) (.t 46)),Qo 48 (.ia 3 (.t 44) (.t 47)),Qo 49 (.ld (some 3) (.t 48)),Mv 50 0,Mv 51 3,Mv 52 11,Qo 53 (.bo .add (.t 51) (.t 52)),Qo 54 (.ia 3 (.t 50) (.t 53)),Qo 55 (.ld (some 3) (.t 54)),Qo 56 (.cw (.t 43) [(.t 49),(.t 55)]),Qo 57 (.bo .lss (.t 56) (.c (.int .i64 0))),Qo 58 (.un .not (.t 57))] [0,2,3,4,10,11,58]) (.cd (.t 58) .rt .sk)) (.sq (.rg (some (List.range 24)) [Mv 59 0,Mv 60 3,Mv 61 10,Qo 62 (.bo .add (.t 60) (.t 61)),Mv 63 0,Mv 64 3,Mv 65 11,Qo 66 (.bo .add (.t 64) (.t 65)),Mv 67 0,Mv 68 3,Mv 69 11,Qo 70 (.bo .add (.t 68) (.t 69)),Qo 71 (.ia 3 (.t 67) (.t 70)),Qo 72 (.ld (some 3) (.t 71)),Mv 73 0,Mv 74 3,Mv 75 10,Qo 76 (.bo .add (.t 74) (.t 75)),Qo 77 (.ia 3 (.t 73) (.t 76)),Qo 78 (.ld (some 3) (.t 77)),Qo 79 (.ia 3 (.t 59) (.t 62)),Eo (.st 3 (.t 79) (.t 72)),Qo 80 (.ia 3 (.t 63) (.t 66)),Eo (.st 3 (.t 80) (.t 78))] [0,2,3,4,11]) (.rg none [Mv 81 11,Mv 10 81] [0,2,3,4,10])))))))
def c181:FI.Fn:={ body:=(.sq (.rg none [Mv 12 1,Mv 10 12] [0,2,3,4,10]) (.bl 0 (.lp false b181_0))),np:=5,res:=[],mode:=.shr }
def c182:FI.Fn:={ body:=(.sq (.rg none [Qo 2 (.mv (.c (.int .u64 0)))] [0]) (.sq (.rg none [Mv 3 0,Qo 4 (.cv .u64 (.t 3)),Qo 5 (.cl 77 [(.t 4)]),Qo 6 (.bo .shl (.c (.int .u64 1)) (.t 5)),Mv 2 6] [2]) .rt)),np:=1,res:=[.t 2],mode:=.iso }
def c183:FI.Fn:={ body:=(.sq (.rg none [Qo 2 (.mv (.c (.int .u64 0)))] [0]) (.sq (.rg (some (List.range 10)) [Mv 3 0,Qo 4 (.nc (.t 3)),Qo 5 (.ld none (.t 4)),Mv 6 0,Qo 7 (.nc (.t 6)),Qo 8 (.ld none (.t 7)),Qo 9 (.bo .shl (.t 8) (.c (.int .u64 13))),Qo 10 (.bo .xor (.t 5) (.t 9)),Qo 11 (.nc (.t 3)),Eo (.st 1 (.t 11) (.t 10))] [0]) (.sq (.rg (some (List.range 10)) [Mv 12 0,Qo 13 (.nc (.t 12)),Qo 14 (.ld none (.t 13)),Mv 15 0,Qo 16 (.nc (.t 15)),Qo 17 (.ld none (.t 16)),Qo 18 (.bo .shr (.t 17) (.c (.int .u64 7))),Qo 19 (.bo .xor (.t 14) (.t 18)),Qo 20 (.nc (.t 12)),Eo (.st 1 (.t 20) (.t 19))] [0]) (.sq (.rg (some (List.range 10)) [Mv 21 0,Qo 22 (.nc (.t 21)),Qo 23 (.ld none (.t 22)),Mv 24 0,Qo 25 (.nc (.t 24)),Qo 26 (.ld none (.t 25)),Qo 27 (.bo .shl (.t 26) (.c (.int .u64 17))),Qo 28 (.bo .xor (.t 23) (.t 27)),Qo 29 (.nc (.t 21)),Eo (.st 1 (.t 29) (.t 28))] [0]) (.sq (.rg none [Mv 30 0,Qo 31 (.nc (.t 30)),Qo 32 (.ld none (.t 31)),Mv 2 32] [2]) .rt))))),np:=1,res:=[.t 2],mode:=.shr }
def c184:FI.Fn:={ body:=(.sq (.rg none [Qo 8 (.mv (.c (.int .i64 0)))] [0,1,2,3]) (.sq (.rg none [Mv 9 0,Mv 10 1,Qo 11 (.bo .sub (.t 10) (.c (.int .i64 1))),Mv 12 1,Mv 13 1,Qo 14 (.bo .add (.t 13) (.c (.int .i64 1))),Mv 15 2,Mv 16 3,Qo 17 (.cl 185 [(.t 9),(.t 11),(.t 12),(.t 14),(.t 15),(.t 16)]),Mv 8 17] [8]) .rt)),np:=4,res:=[.t 8],mode:=.shr }
def c185:FI.Fn:={ body:=(.sq (.rg none [Qo 12 (.mv (.c (.int .i64 0)))] [0,1,2,3,4,5]) (.sq (.rg none [Mv 14 0,Mv 15 1,Mv 16 2,Mv 17 4,Mv 18 5,Qo 19 (.cl 196 [(.t 14),(.t 15),(.t 16),(.t 17),(.t 18)]),Mv 13 19,Qo 20 (.ex (.t 13) 0),Qo 21 (.ex (.t 13) 1),Mv 1 20,Mv 2 21] [0,1,2,3,4,5]) (.sq (.rg none [Mv 23 0,Mv 24 2,Mv 25 3,Mv 26 4,Mv 27 5,Qo 28 (.cl 196 [(.t 23),(.t 24),(.t 25),(.t 26),(.t 27)]),Mv 22 28,Qo 29 (.ex (.t 22) 0),Qo 30 (.ex (.t 22) 1),Mv 2 29,Mv 3 30] [0,1,2,4,5]) (.sq (.rg none [Mv 32 0,Mv 33 1,Mv 34 2,Mv 35 4,Mv 36 5,Qo 37 (.cl 196 [(.t 32),(.t 33),(.t 34),(.t 35),(.t 36)]),Mv 31 37,Qo 38 (.ex (.t 31) 0),Qo 39 (.ex (.t 31) 1),Mv 1 38,Mv 2 39] [2]) (.sq (.rg none [Mv 40 2,Mv 12 40] [12]) .rt))))),np:=6,res:=[.t 12],mode:=.shr }
def b186_0:C:=(.sq (.rg none [Qo 18 (.bo .lss (.t 17) (.t 16))] [1,2,15,16,17,18]) (.sq (.cd (.t 18) .sk (.xt 0)) (.sq (.bl 1 (.sq (.rg none [Mv 19 17,Qo 20 (.ia 6 (.t 15) (.t 17)),Qo 21 (.ld (some 6) (.t 20)),Qo 8 (.al 6 (.agg [(.int .u8 0),(.int .i64 0),(.int .u64 0),(.str []),(.int .i64 0),(.lst true [])])),Mv 7 19,Eo (.st 6 (.t 8) (.t 21))] [1,2,7,8,15,16,17]) (.sq (.rg none [Mv 22 1,Mv 23 7,Qo 24 (.ia 6 (.t 22) (.t 23)),Qo 25 (.ld (some 6) (.t 24)),Qo 9 (.al 6 (.agg [(.int .u8 0),(.int .i64 0),(.int .u64 0),(.str []),(.int .i64 0),(.lst true [])])),Eo (.st 6 (.t 9) (.t 25))] [1,2,8,9,15,16,17]) (.sq (.rg none [Mv 26 2,Qo 27 (.ld (some 6) (.t 8)),Qo 28 (.ld (some 6) (.t 9)),Qo 29 (.cw (.t 26) [(.t 27),(.t 28)]),Qo 30 (.un .not (.t 29))] [1,2,15,16,17,30]) (.cd (.t 30) (.sq (.rg none [Qo 6 (.mv (.c (.bool false)))] [6]) .rt) .sk))))) (.rg none [Qo 31 (.bo .add (.t 17) (.c (.int .i64 1))),Mv 17 31] [1,2,15,16,17]))))
def k186_1:C:=(.sq (.rg none [Qo 6 (.mv (.c (.bool true)))] [6]) .rt)
def c186:FI.Fn:={ body:=(.sq (.rg none [Qo 6 (.mv (.c (.bool false)))] [0,1,2]) (.sq (.sq (.rg none [Mv 10 0,Qo 11 (.ln 1 (.t 10)),Mv 12 1,Qo 13 (.ln 1 (.t 12)),Qo 14 (.bo .neq (.t 11) (.t 13))] [0,1,2,14]) (.cd (.t 14) (.sq (.rg none [Qo 6 (.mv (.c (.bool false)))] [6]) .rt) .sk)) (.sq (.sq (.rg none [Mv 15 0,Qo 16 (.ln 1 (.t 15)),Qo 17 (.mv (.c (.int .i64 0)))] [1,2,15,16,17]) (.bl 0 (.lp true b186_0))) k186_1))),np:=3,res:=[.t 6],mode:=.iso }
def c189:FI.Fn:={ body:=(.sq (.rg none [Qo 4 (.mv (.c (.str []))),Qo 5 (.mv (.c (.str []))),Qo 6 (.mv (.c (.bool false)))] [0,1]) (.sq (.sq (.rg none [Mv 8 0,Mv 9 1,Qo 10 (.cl 197 [(.t 8),(.t 9)]),Mv 7 10] [0,1,7]) (.sq (.rg none [Mv 11 7,Qo 12 (.bo .geq (.t 11) (.c (.int .i64 0)))] [0,1,7,12]) (.cd (.t 12) (.sq (.rg (some (List.range 12)) [Mv 13 0,Mv 14 7,Qo 15 (.sl 0 (.t 13) none (some (.t 14))),Mv 16 0,Mv 17 7,Mv 18 1,Qo 19 (.ln 0 (.t 18)),Qo 20 (.bo .add (.t 17) (.t 19)),Qo 21 (.sl 0 (.t 16) (some (.t 20)) none),Mv 4 15,Mv 5 21,Qo 6 (.mv (.c (.bool true)))] [4,5,6]) .rt) .sk))) (.sq (.rg none [Mv 22 0,Mv 4 22,Qo 5 (.mv (.c (.str []))),Qo 6 (.mv (.c (.bool false)))] [4,5,6]) .rt))),np:=2,res:=[.t 4,.t 5,.t 6],mode:=.iso }
def b190_0:C:=(.sq (.rg none [Qo 176 (.ns (.t 175)),Qo 177 (.ex (.t 176) 0)] [175,176,177]) (.sq (.cd (.t 177) .sk (.xt 9)) (.bl 10 (.sq (.rg none [Qo 178 (.ex (.t 176) 1),Qo 179 (.ex (.t 176) 2),Mv 5 178,Mv 6 179] [5,6,175]) (.sq (.rg none [Mv 180 6,Qo 181 (.bo .eql (.t 180) (.c (.int .i32 65533)))] [5,175,181]) (.cd (.t 181) (.sq (.rg none [Mv 182 5,Mv 4 182] [4]) .rt) .sk))))))
def k190_1:C:=(.sq (.rg none [Qo 4 (.mv (.c (.int .i64 (-1))))] [4]) .rt)
def b190_2:C:=(.sq (.sq (.rg none [Mv 48 12,Mv 49 7,Qo 50 (.ln 0 (.t 49)),Qo 51 (.bo .lss (.t 48) (.t 50))] [0,1,7,8,9,10,12,51]) (.cd (.t 51) .sk (.xt 3))) (.sq (.bl 4 (.sq (.rg (some (List.range 11)) [Mv 54 0,Mv 55 9,Mv 56 12,Qo 57 (.bo .sub (.t 55) (.t 56)),Qo 58 (.ix (.t 54) (.t 57)),Mv 59 7,Mv 60 8,Mv 61 12,Qo 62 (.bo .sub (.t 60) (.t 61)),Qo 63 (.ix (.t 59) (.t 62)),Qo 64 (.bo .neq (.t 58) (.t 63))] [0,1,7,8,9,10,12,64]) (.cd (.t 64) (.go 0) .sk))) (.rg none [Mv 52 12,Qo 53 (.bo .add (.t 52) (.c (.int .i64 1))),Mv 12 53] [0,1,7,8,9,10,12])))
def k190_3:C:=(.sq (.sq (.rg none [Mv 65 9,Mv 66 8,Qo 67 (.bo .sub (.t 65) (.t 66)),Mv 4 67] [4]) .rt) (.sq (.lb 0) (.sq (.rg none [Mv 68 10,Qo 69 (.bo .add (.t 68) (.c (.int .i64 1))),Mv 10 69] [0,1,7,8,9,10]) (.sq (.rg none [Mv 70 9,Qo 71 (.bo .add (.t 70) (.c (.int .i64 1))),Mv 9 71] [0,1,7,8,9,10]) (.sq (.rg none [Qo 72 (.mv (.c (.bool true))),Gm 73 72 true 10,Gm 74 72 true 9,Gd 75 72 true (.cl 200 [(.t 74)]),Gd 76 72 true (.bo .gtr (.t 73) (.t 75)),Qo 77 (.pk (.t 72) (.t 76) (.c (.bool false))),Mv 78 77,Gm 79 78 true 9,Gm 80 78 true 0,Gd 81 78 true (.ln 0 (.t 80)),Gd 82 78 true (.bo .lss (.t 79) (.t 81)),Qo 83 (.pk (.t 78) (.t 82) (.c (.bool false))),Mv 84 83,Gd 85 84 false (.mv (.c (.bool false))),Gm 86 85 true 10,Gm 87 85 true 9,Gd 88 85 true (.bo .shr (.t 87) (.c (.int .u64 4))),Gd 89 85 true (.bo .add (.c (.int .i64 4)) (.t 88)),Gd 90 85 true (.bo .geq (.t 86) (.t 89)),Gd 91 84 false (.pk (.t 85) (.t 90) (.c (.bool false))),Gm 92 84 false 91,Gm 93 92 true 9,Gm 94 92 true 0,Gd 95 92 true (.ln 0 (.t 94)),Gd 96 92 true (.bo .lss (.t 93) (.t 95)),Gd 97 84 false (.pk (.t 92) (.t 96) (.c (.bool false))),Qo 98 (.pk (.t 84) (.c (.bool true)) (.t 97))] [0,1,7,8,9,10,98]) (.cd (.t 98) (.go 1) .sk))))))
def b190_4:C:=(.sq (.sq (.rg (some (List.range 7)) [Mv 27 0,Mv 28 9,Qo 29 (.ix (.t 27) (.t 28)),Mv 30 7,Mv 31 8,Qo 32 (.ix (.t 30) (.t 31)),Qo 33 (.bo .neq (.t 29) (.t 32))] [0,1,7,8,9,10,33]) (.cd (.t 33) (.sq (.rg (some (List.range 9)) [Mv 34 0,Mv 35 9,Qo 36 (.bo .add (.t 35) (.c (.int .i64 1))),Qo 37 (.sl 0 (.t 34) (some (.t 36)) none),Mv 38 7,Mv 39 8,Qo 40 (.ix (.t 38) (.t 39)),Qo 41 (.cl 198 [(.t 37),(.t 40)]),Mv 11 41] [0,1,7,8,9,10,11]) (.sq (.sq (.rg none [Mv 42 11,Qo 43 (.bo .lss (.t 42) (.c (.int .i64 0)))] [0,1,7,8,9,10,11,43]) (.cd (.t 43) (.sq (.rg none [Qo 4 (.mv (.c (.int .i64 (-1))))] [4]) .rt) .sk)) (.rg none [Mv 44 9,Mv 45 11,Qo 46 (.bo .add (.t 45) (.c (.int .i64 1))),Qo 47 (.bo .add (.t 44) (.t 46)),Mv 9 47] [0,1,7,8,9,10]))) .sk)) (.sq (.sq (.rg none [Qo 12 (.mv (.c (.int .i64 1)))] [0,1,7,8,9,10,12]) (.bl 3 (.lp true b190_2))) k190_3))
def b190_5:C:=(.sq (.sq (.rg none [Mv 23 9,Mv 24 0,Qo 25 (.ln 0 (.t 24)),Qo 26 (.bo .lss (.t 23) (.t 25))] [0,1,7,8,9,10,26]) (.cd (.t 26) .sk (.xt 1))) (.bl 2 (.sc b190_4)))
def b190_6:C:=(.sq (.sq (.rg none [Mv 140 16,Mv 141 7,Qo 142 (.ln 0 (.t 141)),Qo 143 (.bo .lss (.t 140) (.t 142))] [0,7,8,9,14,15,16,143]) (.cd (.t 143) .sk (.xt 7))) (.sq (.bl 8 (.sq (.rg (some (List.range 11)) [Mv 146 0,Mv 147 9,Mv 148 16,Qo 149 (.bo .sub (.t 147) (.t 148)),Qo 150 (.ix (.t 146) (.t 149)),Mv 151 7,Mv 152 8,Mv 153 16,Qo 154 (.bo .sub (.t 152) (.t 153)),Qo 155 (.ix (.t 151) (.t 154)),Qo 156 (.bo .neq (.t 150) (.t 155))] [0,7,8,9,14,15,16,156]) (.cd (.t 156) (.xt 6) .sk))) (.rg none [Mv 144 16,Qo 145 (.bo .add (.t 144) (.c (.int .i64 1))),Mv 16 145] [0,7,8,9,14,15,16])))
def k190_7:C:=(.sq (.rg none [Mv 157 9,Mv 158 8,Qo 159 (.bo .sub (.t 157) (.t 158)),Mv 4 159] [4]) .rt)
def k190_8:C:=(.rg none [Mv 125 9,Qo 126 (.bo .add (.t 125) (.c (.int .i64 1))),Mv 9 126] [0,7,8,9,14,15])
def b190_9:C:=(.sq (.sq (.rg none [Mv 121 9,Mv 122 0,Qo 123 (.ln 0 (.t 122)),Qo 124 (.bo .lss (.t 121) (.t 123))] [0,7,8,9,14,15,124]) (.cd (.t 124) .sk (.xt 5))) (.sq (.bl 6 (.sq (.rg none [Mv 127 0,Mv 128 9,Qo 129 (.ix (.t 127) (.t 128)),Mv 130 14,Qo 131 (.bo .eql (.t 129) (.t 130)),Mv 132 131,Gm 133 132 true 0,Gm 134 132 true 9,Gd 135 132 true (.bo .sub (.t 134) (.c (.int .i64 1))),Gd 136 132 true (.ix (.t 133) (.t 135)),Gm 137 132 true 15,Gd 138 132 true (.bo .eql (.t 136) (.t 137)),Qo 139 (.pk (.t 132) (.t 138) (.c (.bool false)))] [0,7,8,9,14,15,139]) (.cd (.t 139) (.sq (.sq (.rg none [Qo 16 (.mv (.c (.int .i64 2)))] [0,7,8,9,14,15,16]) (.bl 7 (.lp true b190_6))) k190_7) .sk))) k190_8))
def b190_10:C:=(.sq (.rg none [Mv 114 7,Mv 115 8,Qo 116 (.ix (.t 114) (.t 115)),Mv 14 116] [0,7,8,9,14]) (.sq (.rg none [Mv 117 7,Mv 118 8,Qo 119 (.bo .sub (.t 118) (.c (.int .i64 1))),Qo 120 (.ix (.t 117) (.t 119)),Mv 15 120] [0,7,8,9,14,15]) (.sq (.lb 2) (.bl 5 (.lp true b190_9)))))
def k190_11:C:=(.sq (.rg none [Qo 4 (.mv (.c (.int .i64 (-1))))] [4]) .rt)
def k190_12:C:=(.sq (.sq (.rg none [Qo 4 (.mv (.c (.int .i64 (-1))))] [4]) .rt) (.sq (.lb 1) (.sq (.cd (.c (.bool true)) (.sq (.rg none [Mv 99 0,Mv 100 9,Mv 101 8,Qo 102 (.bo .sub (.t 100) (.t 101)),Qo 103 (.sl 0 (.t 99) (some (.t 102)) none),Mv 104 1,Qo 105 (.bad),Qo 106 (.bad),Mv 13 106] [8,9,13]) (.sq (.rg none [Mv 107 13,Qo 108 (.bo .geq (.t 107) (.c (.int .i64 0)))] [8,9,13,108]) (.cd (.t 108) (.sq (.rg none [Mv 109 9,Mv 110 13,Qo 111 (.bo .add (.t 109) (.t 110)),Mv 112 8,Qo 113 (.bo .sub (.t 111) (.t 112)),Mv 4 113] [4]) .rt) .sk))) (.sc b190_10)) k190_11)))
def b190_13:C:=(.sq (.rg none [Mv 17 1,Qo 18 (.bad),Mv 7 18] [0,1,7]) (.sq (.rg none [Mv 19 7,Qo 20 (.ln 0 (.t 19)),Qo 21 (.bo .sub (.t 20) (.c (.int .i64 1))),Mv 8 21] [0,1,7,8]) (.sq (.rg none [Mv 22 8,Mv 9 22] [0,1,7,8,9]) (.sq (.rg none [Qo 10 (.mv (.c (.int .i64 0)))] [0,1,7,8,9,10]) (.sq (.bl 1 (.lp true b190_5)) k190_12)))))
def c190:FI.Fn:={ body:=(.sq (.rg none [Qo 4 (.mv (.c (.int .i64 0)))] [0,1]) (.bl 0 (.sq (.rg none [Mv 161 1,Qo 162 (.bo .leq (.c (.int .i32 0)) (.t 161)),Mv 163 162,Gm 164 163 true 1,Gd 165 163 true (.bo .lss (.t 164) (.c (.int .i32 128))),Qo 166 (.pk (.t 163) (.t 165) (.c (.bool false))),Mv 160 166] [0,1,160]) (.cd (.t 160) (.sq (.rg none [Mv 167 0,Mv 168 1,Qo 169 (.cv .u8 (.t 168)),Qo 170 (.cl 198 [(.t 167),(.t 169)]),Mv 4 170] [4]) .rt) (.sq (.rg none [Mv 172 1,Qo 173 (.bo .eql (.t 172) (.c (.int .i32 65533))),Mv 171 173] [0,1,171]) (.cd (.t 171) (.sq (.sq (.rg none [Mv 174 0,Qo 175 (.rs (.t 174))] [175]) (.bl 9 (.lp true b190_0))) k190_1) (.sq (.rg none [Mv 184 1,Qo 185 (.cl 199 [(.t 184)]),Qo 186 (.un .not (.t 185)),Mv 183 186] [0,1,183]) (.cd (.t 183) (.sq (.rg none [Qo 4 (.mv (.c (.int .i64 (-1))))] [4]) .rt) (.sc b190_13))))))))),np:=2,res:=[.t 4],mode:=.iso }
def c191:FI.Fn:={ body:=(.sq (.rg none [Qo 2 (.mv (.c (.bool false)))] [0]) (.sq (.rg none [Mv 3 0,Qo 4 (.bo .gtr (.t 3) (.c (.int .i64 8))),Mv 2 4] [2]) .rt)),np:=1,res:=[.t 2],mode:=.iso }
def b192_0:C:=(.sq (.sq (.rg none [Mv 6 4,Mv 7 0,Qo 8 (.ln 0 (.t 7)),Qo 9 (.bo .lss (.t 6) (.t 8))] [0,2,4,9]) (.cd (.t 9) .sk (.xt 0))) (.sq (.bl 1 (.sq (.rg none [Mv 12 0,Mv 13 4,Qo 14 (.ix (.t 12) (.t 13)),Mv 5 14] [0,2,4,5]) (.sq (.sq (.rg none [Mv 15 5,Qo 16 (.bo .geq (.t 15) (.c (.int .u8 128)))] [0,2,4,5,16]) (.cd (.t 16) (.sq (.rg none [Qo 17 (.ld (some 256) (.t 2)),Eo (.st 256 (.t 2) (.t 17)),Qo 3 (.mv (.c (.bool false)))] [2,3]) .rt) .sk)) (.rg none [Mv 18 5,Qo 19 (.aa 256 1 (.t 2) (.t 18)),Eo (.st 1 (.t 19) (.c (.bool true)))] [0,2,4])))) (.rg none [Mv 10 4,Qo 11 (.bo .add (.t 10) (.c (.int .i64 1))),Mv 4 11] [0,2,4])))
def k192_1:C:=(.sq (.rg none [Qo 20 (.ld (some 256) (.t 2)),Eo (.st 256 (.t 2) (.t 20)),Qo 3 (.mv (.c (.bool true)))] [2,3]) .rt)
def c192:FI.Fn:={ body:=(.sq (.rg none [Qo 2 (.al 256 (.agg [(.bool false),(.bool false),(.bool false),(.bool false),(.bool false),(.bool false),(.bool false),(.bool false),(.bool false),(.bool false),(.bool false),(.bool false),(.bool false),(.bool false),(.bool false),(.bool false),(.bool false),(.bool false),(.bool false),(.bool false),(.bool false),(.bool false),(.bool false),(.bool false),(.bool false),(.bool false),(.bool false),(.bool false),(.bool false),(.bool false),(.bool false),(.bool false),(.bool false),(.bool false),(.bool false),(.bool false),(.bool false),(.bool false),(.bool false),(.bool false),(.bool false),(.bool false),(.bool false),(.bool false),(.bool false),(.bool false),(.bool false),(.bool false),(.bool false),(.bool false),(.bool false),(.bool false),(.bool false),(.bool false),(.bool false),(.bool false),(.bool false),(.bool false),(.bool false),(.bool false),(.bool false),(.bool false),(.bool false),(.bool false),(.bool false),(.bool false),(.bool false),(.bool false),(.bool false),(.bool false),(.bool false),(.bool false),(.bool false),(.bool false),(.bool false),(.bool false),(.bool false),(.bool false),(.bool false),(.bool false),(.bool false),(.bool false),(.bool false),(.bool false),(.bool false),(.bool false),(.bool false),(.bool false),(.bool false),(.bool false),(.bool false),(.bool false),(.bool false),(.bool false),(.bool false),(.bool false),(.bool false),(.bool false),(.bool false),(.bool false),(.bool false),(.bool false),(.bool false),(.bool false),(.bool false),(.bool false),(.bool false),(.bool false),(.bool false),(.bool false),(.bool false),(.bool false),(.bool false),(.bool false),(.bool false),(.bool false),(.bool false),(.bool false),(.bool false),(.bool false),(.bool false),(.bool false),(.bool false),(.bool false),(.bool false),(.bool false),(.bool false),(.bool false),(.bool false),(.bool false),(.bool false),(.bool false),(.bool false),(.bool false),(.bool false),(.bool false),(.bool false),(.bool false),(.bool false),(.bool false),(.bool false),(.bool false),(.bool false),(.bool false),(.bool false),(.bool false),(.bool false),(.bool false),(.bool false),(.bool false),(.bool false),(.bool false),(.bool false),(.bool false),(.bool false),(.bool false),(.bool false),(.bool false),(.bool false),(.bool false),(.bool false),(.bool false),(.bool false),(.bool false),(.bool false),(.bool false),(.bool false),(.bool false),(.bool false),(.bool false),(.bool false),(.bool false),(.bool false),(.bool false),(.bool false),(.bool false),(.bool false),(.bool false),(.bool false),(.bool false),(.bool false),(.bool false),(.bool false),(.bool false),(.bool false),(.bool false),(.bool false),(.bool false),(.bool false),(.bool false),(.bool false),(.bool false),(.bool false),(.bool false),(.bool false),(.bool false),(.bool false),(.bool false),(.bool false),(.bool false),(.bool false),(.bool false),(.bool false),(.bool false),(.bool false),(.bool false),(.bool false),(.bool false),(.bool false),(.bool false),(.bool false),(.bool false),(.bool false),(.bool false),(.bool false),(.bool false),(.bool false),(.bool false),(.bool false),(.bool false),(.bool false),(.bool false),(.bool false),(.bool false),(.bool false),(.bool false),(.bool false),(.bool false),(.bool false),(.bool false),(.bool false),(.bool false),(.bool false),(.bool false),(.bool false),(.bool false),(.bool false),(.bool false),(.bool false),(.bool false),(.bool false),(.bool false),(.bool false),(.bool false),(.bool false),(.bool false),(.bool false),(.bool false),(.bool false),(.bool false),(.bool false),(.bool false),(.bool false),(.bool false),(.bool false),(.bool false)])),Qo 3 (.mv (.c (.bool false)))] [0,2]) (.sq (.sq (.rg none [Qo 4 (.mv (.c (.int .i64 0)))] [0,2,4]) (.bl 0 (.lp true b192_0))) k192_1)),np:=1,res:=[.cell 2 (some 256),.t 3],mode:=.iso }
def c193:FI.Fn:={ body:=(.sq (.rg none [Qo 4 (.mv (.c (.bool false)))] [0,1]) (.sq (.rg none [Mv 5 0,Mv 6 1,Qo 7 (.nc (.t 5)),Qo 8 (.aa 256 1 (.t 7) (.t 6)),Qo 9 (.ld none (.t 8)),Mv 4 9] [4]) .rt)),np:=2,res:=[.t 4],mode:=.shr }
def c196:FI.Fn:={ body:=(.sq (.rg none [Qo 10 (.mv (.c (.int .i64 0))),Qo 11 (.mv (.c (.int .i64 0)))] [0,1,2,3,4]) (.sq (.sq (.rg (some (List.range 11)) [Mv 12 4,Mv 13 0,Mv 14 2,Qo 15 (.ia 3 (.t 13) (.t 14)),Qo 16 (.ld (some 3) (.t 15)),Mv 17 0,Mv 18 1,Qo 19 (.ia 3 (.t 17) (.t 18)),Qo 20 (.ld (some 3) (.t 19)),Qo 21 (.cw (.t 12) [(.t 16),(.t 20)]),Qo 22 (.bo .lss (.t 21) (.c (.int .i64 0)))] [1,2,3,22]) (.cd (.t 22) (.sq (.rg none [Mv 23 3,Qo 24 (.nc (.t 23)),Qo 25 (.ld none (.t 24)),Qo 26 (.bo .add (.t 25) (.c (.int .i64 1))),Qo 27 (.nc (.t 23)),Eo (.st 1 (.t 27) (.t 26))] [1,2]) (.sq (.rg none [Mv 28 2,Mv 29 1,Mv 10 28,Mv 11 29] [10,11]) .rt)) .sk)) (.sq (.rg none [Mv 30 1,Mv 31 2,Mv 10 30,Mv 11 31] [10,11]) .rt))),np:=5,res:=[.t 10,.t 11],mode:=.shr }
def b197_0:C:=(.sq (.sq (.rg none [Mv 57 8,Mv 58 9,Qo 59 (.bo .lss (.t 57) (.t 58))] [0,1,5,6,7,8,9,10,59]) (.cd (.t 59) .sk (.xt 1))) (.bl 2 (.sq (.sq (.rg none [Mv 60 0,Mv 61 8,Qo 62 (.ix (.t 60) (.t 61)),Mv 63 6,Qo 64 (.bo .neq (.t 62) (.t 63))] [0,1,5,6,7,8,9,10,64]) (.cd (.t 64) (.sq (.rg none [Mv 65 0,Mv 66 8,Qo 67 (.bo .add (.t 66) (.c (.int .i64 1))),Mv 68 9,Qo 69 (.sl 0 (.t 65) (some (.t 67)) (some (.t 68))),Mv 70 6,Qo 71 (.cl 204 [(.t 69),(.t 70)]),Mv 11 71] [0,1,5,6,7,8,9,10,11]) (.sq (.sq (.rg none [Mv 72 11,Qo 73 (.bo .lss (.t 72) (.c (.int .i64 0)))] [0,1,5,6,7,8,9,10,11,73]) (.cd (.t 73) (.sq (.rg none [Qo 4 (.mv (.c (.int .i64 (-1))))] [4]) .rt) .sk)) (.rg none [Mv 74 8,Mv 75 11,Qo 76 (.bo .add (.t 75) (.c (.int .i64 1))),Qo 77 (.bo .add (.t 74) (.t 76)),Mv 8 77] [0,1,5,6,7,8,9,10]))) .sk)) (.sq (.sq (.rg none [Mv 78 0,Mv 79 8,Qo 80 (.bo .add (.t 79) (.c (.int .i64 1))),Qo 81 (.ix (.t 78) (.t 80)),Mv 82 7,Qo 83 (.bo .eql (.t 81) (.t 82)),Mv 84 83,Gm 85 84 true 0,Gm 86 84 true 8,Gm 87 84 true 8,Gm 88 84 true 5,Gd 89 84 true (.bo .add (.t 87) (.t 88)),Gd 90 84 true (.sl 0 (.t 85) (some (.t 86)) (some (.t 89))),Gm 91 84 true 1,Gd 92 84 true (.bo .eql (.t 90) (.t 91)),Qo 93 (.pk (.t 84) (.t 92) (.c (.bool false)))] [0,1,5,6,7,8,9,10,93]) (.cd (.t 93) (.sq (.rg none [Mv 94 8,Mv 4 94] [4]) .rt) .sk)) (.sq (.rg none [Mv 95 8,Qo 96 (.bo .add (.t 95) (.c (.int .i64 1))),Mv 8 96] [0,1,5,6,7,8,9,10]) (.sq (.rg none [Mv 97 10,Qo 98 (.bo .add (.t 97) (.c (.int .i64 1))),Mv 10 98] [0,1,5,6,7,8,9,10]) (.sq (.rg none [Mv 99 5,Qo 100 (.bad),Qo 101 (.bo .leq (.t 99) (.t 100)),Mv 102 101,Gm 103 102 true 10,Gm 104 102 true 8,Gd 105 102 true (.cl 200 [(.t 104)]),Gd 106 102 true (.bo .gtr (.t 103) (.t 105)),Qo 107 (.pk (.t 102) (.t 106) (.c (.bool false)))] [0,1,5,6,7,8,9,10,107]) (.cd (.t 107) (.sq (.rg none [Mv 108 0,Mv 109 8,Qo 110 (.sl 0 (.t 108) (some (.t 109)) none),Mv 111 1,Qo 112 (.bad),Mv 12 112] [8,12]) (.sq (.sq (.rg none [Mv 113 12,Qo 114 (.bo .geq (.t 113) (.c (.int .i64 0)))] [8,12,114]) (.cd (.t 114) (.sq (.rg none [Mv 115 12,Mv 116 8,Qo 117 (.bo .add (.t 115) (.t 116)),Mv 4 117] [4]) .rt) .sk)) (.sq (.rg none [Qo 4 (.mv (.c (.int .i64 (-1))))] [4]) .rt))) (.sq (.rg none [Mv 118 5,Qo 119 (.bad),Qo 120 (.bo .gtr (.t 118) (.t 119)),Mv 121 120,Gm 122 121 true 10,Gm 123 121 true 8,Gd 124 121 true (.bo .shr (.t 123) (.c (.int .u64 4))),Gd 125 121 true (.bo .add (.c (.int .i64 4)) (.t 124)),Gd 126 121 true (.bo .geq (.t 122) (.t 125)),Qo 127 (.pk (.t 121) (.t 126) (.c (.bool false))),Mv 128 127,Gm 129 128 true 8,Gm 130 128 true 9,Gd 131 128 true (.bo .lss (.t 129) (.t 130)),Qo 132 (.pk (.t 128) (.t 131) (.c (.bool false)))] [0,1,5,6,7,8,9,10,132]) (.cd (.t 132) (.sq (.rg none [Mv 133 0,Mv 134 8,Qo 135 (.sl 0 (.t 133) (some (.t 134)) none),Mv 136 1,Qo 137 (.cl 205 [(.t 135),(.t 136)]),Mv 13 137] [8,13]) (.sq (.sq (.rg none [Mv 138 13,Qo 139 (.bo .lss (.t 138) (.c (.int .i64 0)))] [8,13,139]) (.cd (.t 139) (.sq (.rg none [Qo 4 (.mv (.c (.int .i64 (-1))))] [4]) .rt) .sk)) (.sq (.rg none [Mv 140 8,Mv 141 13,Qo 142 (.bo .add (.t 140) (.t 141)),Mv 4 142] [4]) .rt))) .sk))))))))))
def k197_1:C:=(.sq (.rg none [Qo 4 (.mv (.c (.int .i64 (-1))))] [4]) .rt)
def c197:FI.Fn:={ body:=(.sq (.rg none [Qo 4 (.mv (.c (.int .i64 0)))] [0,1]) (.sq (.rg none [Mv 14 1,Qo 15 (.ln 0 (.t 14)),Mv 5 15] [0,1,5]) (.sq (.bl 0 (.sq (.rg none [Mv 17 5,Qo 18 (.bo .eql (.t 17) (.c (.int .i64 0))),Mv 19 18,Gm 20 19 false 1,Gm 21 19 false 0,Gd 22 19 false (.bo .eql (.t 20) (.t 21)),Qo 23 (.pk (.t 19) (.c (.bool true)) (.t 22)),Mv 16 23] [0,1,5,16]) (.cd (.t 16) (.sq (.rg none [Qo 4 (.mv (.c (.int .i64 0)))] [4]) .rt) (.sq (.rg none [Mv 25 5,Qo 26 (.bo .eql (.t 25) (.c (.int .i64 1))),Mv 24 26] [0,1,5,24]) (.cd (.t 24) (.sq (.rg none [Mv 27 0,Mv 28 1,Qo 29 (.ix (.t 28) (.c (.int .i64 0))),Qo 30 (.cl 204 [(.t 27),(.t 29)]),Mv 4 30] [4]) .rt) (.sq (.rg none [Mv 32 5,Mv 33 0,Qo 34 (.ln 0 (.t 33)),Qo 35 (.bo .geq (.t 32) (.t 34)),Mv 31 35] [0,1,5,31]) (.cd (.t 31) (.sq (.rg none [Qo 4 (.mv (.c (.int .i64 (-1))))] [4]) .rt) (.sq (.rg none [Mv 37 5,Qo 38 (.bad),Qo 39 (.bo .leq (.t 37) (.t 38)),Mv 40 39,Gm 41 40 true 0,Gd 42 40 true (.ln 0 (.t 41)),Gd 43 40 true (.bo .leq (.t 42) (.c (.int .i64 64))),Qo 44 (.pk (.t 40) (.t 43) (.c (.bool false))),Mv 36 44] [0,1,5,36]) (.cd (.t 36) (.sq (.rg none [Mv 45 0,Mv 46 1,Qo 47 (.bad),Mv 4 47] [4]) .rt) .sk))))))))) (.sq (.rg none [Mv 48 1,Qo 49 (.ix (.t 48) (.c (.int .i64 0))),Mv 6 49] [0,1,5,6]) (.sq (.rg none [Mv 50 1,Qo 51 (.ix (.t 50) (.c (.int .i64 1))),Mv 7 51] [0,1,5,6,7]) (.sq (.rg none [Qo 8 (.mv (.c (.int .i64 0)))] [0,1,5,6,7,8]) (.sq (.rg none [Mv 52 0,Qo 53 (.ln 0 (.t 52)),Mv 54 5,Qo 55 (.bo .sub (.t 53) (.t 54)),Qo 56 (.bo .add (.t 55) (.c (.int .i64 1))),Mv 9 56] [0,1,5,6,7,8,9]) (.sq (.rg none [Qo 10 (.mv (.c (.int .i64 0)))] [0,1,5,6,7,8,9,10]) (.sq (.bl 1 (.lp true b197_0)) k197_1))))))))),np:=2,res:=[.t 4],mode:=.iso }
def c198:FI.Fn:={ body:=(.sq (.rg none [Qo 4 (.mv (.c (.int .i64 0)))] [0,1]) (.sq (.rg none [Mv 5 0,Mv 6 1,Qo 7 (.cl 204 [(.t 5),(.t 6)]),Mv 4 7] [4]) .rt)),np:=2,res:=[.t 4],mode:=.iso }
def c199:FI.Fn:={ body:=(.sq (.rg none [Qo 2 (.mv (.c (.bool false)))] [0]) (.sq (.bl 0 (.sq (.rg none [Mv 4 0,Qo 5 (.bo .leq (.c (.int .i32 0)) (.t 4)),Mv 6 5,Gm 7 6 true 0,Gd 8 6 true (.bo .lss (.t 7) (.c (.int .i32 55296))),Qo 9 (.pk (.t 6) (.t 8) (.c (.bool false))),Mv 3 9] [0,3]) (.cd (.t 3) (.sq (.rg none [Qo 2 (.mv (.c (.bool true)))] [2]) .rt) (.sq (.rg none [Mv 11 0,Qo 12 (.bo .lss (.c (.int .i32 57343)) (.t 11)),Mv 13 12,Gm 14 13 true 0,Gd 15 13 true (.bo .leq (.t 14) (.c (.int .i32 1114111))),Qo 16 (.pk (.t 13) (.t 15) (.c (.bool false))),Mv 10 16] [10]) (.cd (.t 10) (.sq (.rg none [Qo 2 (.mv (.c (.bool true)))] [2]) .rt) .sk))))) (.sq (.rg none [Qo 2 (.mv (.c (.bool false)))] [2]) .rt))),np:=1,res:=[.t 2],mode:=.iso }
def c200:FI.Fn:={ body:=(.sq (.rg none [Qo 2 (.mv (.c (.int .i64 0)))] [0]) (.sq (.rg none [Mv 3 0,Qo 4 (.bo .add (.t 3) (.c (.int .i64 16))),Qo 5 (.bo .quo (.t 4) (.c (.int .i64 8))),Mv 2 5] [2]) .rt)),np:=1,res:=[.t 2],mode:=.iso }
def c204:FI.Fn:={ body:=(.sq (.rg none [Qo 4 (.mv (.c (.int .i64 0)))] [0,1]) (.sq (.rg none [Mv 5 0,Mv 6 1,Qo 7 (.ib (.t 5) (.t 6)),Mv 4 7] [4]) .rt)),np:=2,res:=[.t 4],mode:=.iso }
def b205_0:C:=(.sq (.sq (.rg none [Mv 18 9,Mv 19 7,Qo 20 (.bo .lss (.t 18) (.t 19))] [0,1,5,6,7,8,9,20]) (.cd (.t 20) .sk (.xt 0))) (.sq (.bl 1 (.rg none [Mv 23 8,Qo 24 (.bo .mul (.t 23) (.c (.int .u32 16777619))),Mv 25 0,Mv 26 9,Qo 27 (.ix (.t 25) (.t 26)),Qo 28 (.cv .u32 (.t 27)),Qo 29 (.bo .add (.t 24) (.t 28)),Mv 8 29] [0,1,5,6,7,8,9])) (.rg none [Mv 21 9,Qo 22 (.bo .add (.t 21) (.c (.int .i64 1))),Mv 9 22] [0,1,5,6,7,8,9])))
def b205_1:C:=(.sq (.sq (.rg none [Mv 41 10,Mv 42 0,Qo 43 (.ln 0 (.t 42)),Qo 44 (.bo .lss (.t 41) (.t 43))] [0,1,5,6,7,8,10,44]) (.cd (.t 44) .sk (.xt 2))) (.bl 3 (.sq (.rg none [Mv 45 8,Qo 46 (.bo .mul (.t 45) (.c (.int .u32 16777619))),Mv 8 46] [0,1,5,6,7,8,10]) (.sq (.rg none [Mv 47 8,Mv 48 0,Mv 49 10,Qo 50 (.ix (.t 48) (.t 49)),Qo 51 (.cv .u32 (.t 50)),Qo 52 (.bo .add (.t 47) (.t 51)),Mv 8 52] [0,1,5,6,7,8,10]) (.sq (.rg none [Mv 53 8,Mv 54 6,Mv 55 0,Mv 56 10,Mv 57 7,Qo 58 (.bo .sub (.t 56) (.t 57)),Qo 59 (.ix (.t 55) (.t 58)),Qo 60 (.cv .u32 (.t 59)),Qo 61 (.bo .mul (.t 54) (.t 60)),Qo 62 (.bo .sub (.t 53) (.t 61)),Mv 8 62] [0,1,5,6,7,8,10]) (.sq (.rg none [Mv 63 10,Qo 64 (.bo .add (.t 63) (.c (.int .i64 1))),Mv 10 64] [0,1,5,6,7,8,10]) (.sq (.rg none [Mv 65 8,Mv 66 5,Qo 67 (.bo .eql (.t 65) (.t 66)),Mv 68 67,Gm 69 68 true 0,Gm 70 68 true 10,Gm 71 68 true 7,Gd 72 68 true (.bo .sub (.t 70) (.t 71)),Gm 73 68 true 10,Gd 74 68 true (.sl 0 (.t 69) (some (.t 72)) (some (.t 73))),Gm 75 68 true 1,Gd 76 68 true (.bo .eql (.t 74) (.t 75)),Qo 77 (.pk (.t 68) (.t 76) (.c (.bool false)))] [0,1,5,6,7,8,10,77]) (.cd (.t 77) (.sq (.rg none [Mv 78 10,Mv 79 7,Qo 80 (.bo .sub (.t 78) (.t 79)),Mv 4 80] [4]) .rt) .sk))))))))
def k205_2:C:=(.sq (.rg none [Qo 4 (.mv (.c (.int .i64 (-1))))] [4]) .rt)
def k205_3:C:=(.sq (.sq (.rg none [Mv 30 8,Mv 31 5,Qo 32 (.bo .eql (.t 30) (.t 31)),Mv 33 32,Gm 34 33 true 0,Gm 35 33 true 7,Gd 36 33 true (.sl 0 (.t 34) none (some (.t 35))),Gm 37 33 true 1,Gd 38 33 true (.bo .eql (.t 36) (.t 37)),Qo 39 (.pk (.t 33) (.t 38) (.c (.bool false)))] [0,1,5,6,7,8,39]) (.cd (.t 39) (.sq (.rg none [Qo 4 (.mv (.c (.int .i64 0)))] [4]) .rt) .sk)) (.sq (.sq (.rg none [Mv 40 7,Mv 10 40] [0,1,5,6,7,8,10]) (.bl 2 (.lp true b205_1))) k205_2))
def c205:FI.Fn:={ body:=(.sq (.rg none [Qo 4 (.mv (.c (.int .i64 0)))] [0,1]) (.sq (.rg none [Mv 12 1,Qo 13 (.cl 207 [(.t 12)]),Mv 11 13,Qo 14 (.ex (.t 11) 0),Qo 15 (.ex (.t 11) 1),Mv 5 14,Mv 6 15] [0,1,5,6]) (.sq (.rg none [Mv 16 1,Qo 17 (.ln 0 (.t 16)),Mv 7 17] [0,1,5,6,7]) (.sq (.rg none [Qo 8 (.mv (.c (.int .u32 0)))] [0,1,5,6,7,8]) (.sq (.sq (.rg none [Qo 9 (.mv (.c (.int .i64 0)))] [0,1,5,6,7,8,9]) (.bl 0 (.lp true b205_0))) k205_3))))),np:=2,res:=[.t 4],mode:=.iso }
def b207_0:C:=(.sq (.sq (.rg none [Mv 9 5,Mv 10 0,Qo 11 (.ln 0 (.t 10)),Qo 12 (.bo .lss (.t 9) (.t 11))] [0,4,5,12]) (.cd (.t 12) .sk (.xt 0))) (.sq (.bl 1 (.rg none [Mv 15 4,Qo 16 (.bo .mul (.t 15) (.c (.int .u32 16777619))),Mv 17 0,Mv 18 5,Qo 19 (.ix (.t 17) (.t 18)),Qo 20 (.cv .u32 (.t 19)),Qo 21 (.bo .add (.t 16) (.t 20)),Mv 4 21] [0,4,5])) (.rg none [Mv 13 5,Qo 14 (.bo .add (.t 13) (.c (.int .i64 1))),Mv 5 14] [0,4,5])))
def b207_1:C:=(.sq (.sq (.rg none [Mv 24 8,Qo 25 (.bo .gtr (.t 24) (.c (.int .i64 0)))] [4,6,7,8,25]) (.cd (.t 25) .sk (.xt 2))) (.sq (.bl 3 (.sq (.sq (.rg none [Mv 28 8,Qo 29 (.bo .and (.t 28) (.c (.int .i64 1))),Qo 30 (.bo .neq (.t 29) (.c (.int .i64 0)))] [4,6,7,8,30]) (.cd (.t 30) (.rg none [Mv 31 6,Mv 32 7,Qo 33 (.bo .mul (.t 31) (.t 32)),Mv 6 33] [4,6,7,8]) .sk)) (.rg none [Mv 34 7,Mv 35 7,Qo 36 (.bo .mul (.t 34) (.t 35)),Mv 7 36] [4,6,7,8]))) (.rg none [Mv 26 8,Qo 27 (.bo .shr (.t 26) (.c (.int .u64 1))),Mv 8 27] [4,6,7,8])))
def k207_2:C:=(.sq (.rg none [Mv 37 4,Mv 38 6,Mv 2 37,Mv 3 38] [2,3]) .rt)
def k207_3:C:=(.sq (.rg none [Qo 6 (.mv (.c (.int .u32 1))),Qo 7 (.mv (.c (.int .u32 16777619)))] [0,4,6,7]) (.sq (.sq (.rg none [Mv 22 0,Qo 23 (.ln 0 (.t 22)),Mv 8 23] [4,6,7,8]) (.bl 2 (.lp true b207_1))) k207_2))
def c207:FI.Fn:={ body:=(.sq (.rg none [Qo 2 (.mv (.c (.int .u32 0))),Qo 3 (.mv (.c (.int .u32 0)))] [0]) (.sq (.rg none [Qo 4 (.mv (.c (.int .u32 0)))] [0,4]) (.sq (.sq (.rg none [Qo 5 (.mv (.c (.int .i64 0)))] [0,4,5]) (.bl 0 (.lp true b207_0))) k207_3))),np:=1,res:=[.t 2,.t 3],mode:=.iso }
def x111:List FV→Option FV:=joinX
def T:FI.Tab:=[(9,.fn c9),(10,.fn c10),(12,.fn c12),(14,.fn c14),(15,.fn c15),(17,.fn c17),(18,.fn c18),(19,.fn c19),(20,.fn c20),(21,.fn c21),(22,.mr c22),(23,.fn c23),(24,.fn c24),(25,.fn c25),(26,.fn c26),(27,.fn c27),(28,.fn c28),(29,.fn c29),(30,.fn c30),(31,.fn c31),(34,.ct c34),(35,.fn c35),(36,.fn c36),(37,.fn c37),(38,.fn c38),(39,.fn c39),(40,.fn c40),(41,.fn c41),(42,.fn c42),(43,.fn c43),(44,.fn c44),(45,.fn c45),(46,.fn c46),(47,.fn c47),(48,.fn c48),(49,.fn c49),(50,.fn c50),(60,.fn c60),(61,.fn c61),(62,.fn c62),(63,.fn c63),(64,.fn c64),(65,.fn c65),(66,.fn c66),(67,.fn c67),(68,.fn c68),(69,.fn c69),(70,.fn c70),(71,.fn c71),(72,.fn c72),(73,.fn c73),(74,.fn c74),(75,.fn c75),(76,.fn c76),(77,.fn c77),(78,.fn c78),(79,.fn c79),(80,.fn c80),(81,.fn c81),(82,.fn c82),(83,.fn c83),(84,.fn c84),(85,.fn c85),(86,.fn c86),(87,.fn c87),(88,.fn c88),(89,.fn c89),(90,.fn c90),(91,.fn c91),(103,.fn c103),(104,.fn c104),(105,.fn c105),(106,.fn c106),(107,.fn c107),(108,.fn c108),(109,.fn c109),(110,.fn c110),(112,.fn c112),(113,.fn c113),(114,.fn c114),(115,.fn c115),(117,.fn c117),(118,.fn c118),(119,.fn c119),(120,.fn c120),(121,.fn c121),(122,.fn c122),(123,.fn c123),(124,.fn c124),(125,.fn c125),(126,.fn c126),(127,.fn c127),(128,.fn c128),(129,.fn c129),(130,.fn c130),(131,.fn c131),(132,.fn c132),(133,.fn c133),(134,.fn c134),(135,.fn c135),(136,.fn c136),(137,.fn c137),(138,.fn c138),(139,.fn c139),(140,.fn c140),(141,.fn c141),(156,.fn c156),(157,.fn c157),(158,.fn c158),(159,.fn c159),(163,.fn c163),(164,.fn c164),(165,.fn c165),(166,.fn c166),(167,.fn c167),(168,.fn c168),(169,.fn c169),(170,.fn c170),(171,.fn c171),(172,.fn c172),(173,.fn c173),(174,.fn c174),(175,.fn c175),(176,.fn c176),(177,.fn c177),(178,.fn c178),(179,.fn c179),(180,.fn c180),(181,.fn c181),(182,.fn c182),(183,.fn c183),(184,.fn c184),(185,.fn c185),(186,.fn c186),(189,.fn c189),(190,.fn c190),(191,.fn c191),(192,.fn c192),(193,.fn c193),(196,.fn c196),(197,.fn c197),(198,.fn c198),(199,.fn c199),(200,.fn c200),(204,.fn c204),(205,.fn c205),(207,.fn c207),(1002000,.rd r1002000),(1002300,.rd r1002300),(1002500,.rd r1002500),(1004400,.rd r1004400),(1004700,.rd r1004700),(111,.ext x111)]
def glf (k:Nat) (cs:List FV):Bool:=(k == 0 && eqvs cs gl0)
theorem glfp (k:Nat) (cs:List FV) (h:glf k cs=true):pures cs=true:=by
 unfold glf at h
 simp only [Bool.or_eq_true,Bool.and_eq_true] at h
 rcases h with ⟨_,h⟩
 ·rw [eqvs_eq h];rfl
@[reducible] def sys0:FI.Sys:=⟨glf,fun _ _ _=>False,glfp⟩
instance sys:FI.Sys:=⟨glf,@RkOf sys0 Tryz.prog (cmOf T) (rdOf T),glfp⟩
theorem mix:Tryz.prog.follows .mixedOrders=true:=by kernel_rfl
theorem ok9:okFn Tryz.prog (cmOf T) (rdOf T) 9 c9=true:=by kernel_rfl
theorem ok10:okFn Tryz.prog (cmOf T) (rdOf T) 10 c10=true:=by kernel_rfl
theorem ok12:okFn Tryz.prog (cmOf T) (rdOf T) 12 c12=true:=by kernel_rfl
theorem ok14:okFn Tryz.prog (cmOf T) (rdOf T) 14 c14=true:=by kernel_rfl
theorem ok15:okFn Tryz.prog (cmOf T) (rdOf T) 15 c15=true:=by kernel_rfl
theorem ok17:okFn Tryz.prog (cmOf T) (rdOf T) 17 c17=true:=by kernel_rfl
theorem ok18:okFn Tryz.prog (cmOf T) (rdOf T) 18 c18=true:=by kernel_rfl
theorem ok19:okFn Tryz.prog (cmOf T) (rdOf T) 19 c19=true:=by kernel_rfl
theorem ok20:okFn Tryz.prog (cmOf T) (rdOf T) 20 c20=true:=by kernel_rfl
theorem ok21:okFn Tryz.prog (cmOf T) (rdOf T) 21 c21=true:=by kernel_rfl
theorem ok22:okMr Tryz.prog (cmOf T) (rdOf T) 22 c22=true:=by kernel_rfl
theorem ok23:okFn Tryz.prog (cmOf T) (rdOf T) 23 c23=true:=by kernel_rfl
theorem ok24:okFn Tryz.prog (cmOf T) (rdOf T) 24 c24=true:=by kernel_rfl
theorem ok25:okFn Tryz.prog (cmOf T) (rdOf T) 25 c25=true:=by kernel_rfl
theorem ok26:okFn Tryz.prog (cmOf T) (rdOf T) 26 c26=true:=by kernel_rfl
theorem ok27:okFn Tryz.prog (cmOf T) (rdOf T) 27 c27=true:=by kernel_rfl
theorem ok28:okFn Tryz.prog (cmOf T) (rdOf T) 28 c28=true:=by kernel_rfl
theorem ok29:okFn Tryz.prog (cmOf T) (rdOf T) 29 c29=true:=by kernel_rfl
theorem ok30:okFn Tryz.prog (cmOf T) (rdOf T) 30 c30=true:=by kernel_rfl
theorem ok31:okFn Tryz.prog (cmOf T) (rdOf T) 31 c31=true:=by kernel_rfl
theorem ok34:okCt Tryz.prog (cmOf T) (rdOf T) 34 c34=true:=by kernel_rfl
theorem ok35:okFn Tryz.prog (cmOf T) (rdOf T) 35 c35=true:=by kernel_rfl
theorem ok36:okFn Tryz.prog (cmOf T) (rdOf T) 36 c36=true:=by kernel_rfl
theorem ok37:okFn Tryz.prog (cmOf T) (rdOf T) 37 c37=true:=by kernel_rfl
theorem ok38:okFn Tryz.prog (cmOf T) (rdOf T) 38 c38=true:=by kernel_rfl
theorem ok39:okFn Tryz.prog (cmOf T) (rdOf T) 39 c39=true:=by kernel_rfl
theorem ok40:okFn Tryz.prog (cmOf T) (rdOf T) 40 c40=true:=by kernel_rfl
theorem ok41:okFn Tryz.prog (cmOf T) (rdOf T) 41 c41=true:=by kernel_rfl
theorem ok42:okFn Tryz.prog (cmOf T) (rdOf T) 42 c42=true:=by kernel_rfl
theorem ok43:okFn Tryz.prog (cmOf T) (rdOf T) 43 c43=true:=by kernel_rfl
theorem ok44:okFn Tryz.prog (cmOf T) (rdOf T) 44 c44=true:=by kernel_rfl
theorem ok45:okFn Tryz.prog (cmOf T) (rdOf T) 45 c45=true:=by kernel_rfl
theorem ok46:okFn Tryz.prog (cmOf T) (rdOf T) 46 c46=true:=by kernel_rfl
theorem ok47:okFn Tryz.prog (cmOf T) (rdOf T) 47 c47=true:=by kernel_rfl
theorem ok48:okFn Tryz.prog (cmOf T) (rdOf T) 48 c48=true:=by kernel_rfl
theorem ok49:okFn Tryz.prog (cmOf T) (rdOf T) 49 c49=true:=by kernel_rfl
theorem ok50:okFn Tryz.prog (cmOf T) (rdOf T) 50 c50=true:=by kernel_rfl
theorem ok60:okFn Tryz.prog (cmOf T) (rdOf T) 60 c60=true:=by kernel_rfl
theorem ok61:okFn Tryz.prog (cmOf T) (rdOf T) 61 c61=true:=by kernel_rfl
theorem ok62:okFn Tryz.prog (cmOf T) (rdOf T) 62 c62=true:=by kernel_rfl
theorem ok63:okFn Tryz.prog (cmOf T) (rdOf T) 63 c63=true:=by kernel_rfl
theorem ok64:okFn Tryz.prog (cmOf T) (rdOf T) 64 c64=true:=by kernel_rfl
theorem ok65:okFn Tryz.prog (cmOf T) (rdOf T) 65 c65=true:=by kernel_rfl
theorem ok66:okFn Tryz.prog (cmOf T) (rdOf T) 66 c66=true:=by kernel_rfl
theorem ok67:okFn Tryz.prog (cmOf T) (rdOf T) 67 c67=true:=by kernel_rfl
theorem ok68:okFn Tryz.prog (cmOf T) (rdOf T) 68 c68=true:=by kernel_rfl
theorem ok69:okFn Tryz.prog (cmOf T) (rdOf T) 69 c69=true:=by kernel_rfl
theorem ok70:okFn Tryz.prog (cmOf T) (rdOf T) 70 c70=true:=by kernel_rfl
theorem ok71:okFn Tryz.prog (cmOf T) (rdOf T) 71 c71=true:=by kernel_rfl
theorem ok72:okFn Tryz.prog (cmOf T) (rdOf T) 72 c72=true:=by kernel_rfl
theorem ok73:okFn Tryz.prog (cmOf T) (rdOf T) 73 c73=true:=by kernel_rfl
theorem ok74:okFn Tryz.prog (cmOf T) (rdOf T) 74 c74=true:=by kernel_rfl
theorem ok75:okFn Tryz.prog (cmOf T) (rdOf T) 75 c75=true:=by kernel_rfl
theorem ok76:okFn Tryz.prog (cmOf T) (rdOf T) 76 c76=true:=by kernel_rfl
theorem ok77:okFn Tryz.prog (cmOf T) (rdOf T) 77 c77=true:=by kernel_rfl
theorem ok78:okFn Tryz.prog (cmOf T) (rdOf T) 78 c78=true:=by kernel_rfl
theorem ok79:okFn Tryz.prog (cmOf T) (rdOf T) 79 c79=true:=by kernel_rfl
theorem ok80:okFn Tryz.prog (cmOf T) (rdOf T) 80 c80=true:=by kernel_rfl
theorem ok81:okFn Tryz.prog (cmOf T) (rdOf T) 81 c81=true:=by kernel_rfl
theorem ok82:okFn Tryz.prog (cmOf T) (rdOf T) 82 c82=true:=by kernel_rfl
theorem ok83:okFn Tryz.prog (cmOf T) (rdOf T) 83 c83=true:=by kernel_rfl
theorem ok84:okFn Tryz.prog (cmOf T) (rdOf T) 84 c84=true:=by kernel_rfl
theorem ok85:okFn Tryz.prog (cmOf T) (rdOf T) 85 c85=true:=by kernel_rfl
theorem ok86:okFn Tryz.prog (cmOf T) (rdOf T) 86 c86=true:=by kernel_rfl
theorem ok87:okFn Tryz.prog (cmOf T) (rdOf T) 87 c87=true:=by kernel_rfl
theorem ok88:okFn Tryz.prog (cmOf T) (rdOf T) 88 c88=true:=by kernel_rfl
theorem ok89:okFn Tryz.prog (cmOf T) (rdOf T) 89 c89=true:=by kernel_rfl
theorem ok90:okFn Tryz.prog (cmOf T) (rdOf T) 90 c90=true:=by kernel_rfl
theorem ok91:okFn Tryz.prog (cmOf T) (rdOf T) 91 c91=true:=by kernel_rfl
theorem ok103:okFn Tryz.prog (cmOf T) (rdOf T) 103 c103=true:=by kernel_rfl
theorem ok104:okFn Tryz.prog (cmOf T) (rdOf T) 104 c104=true:=by kernel_rfl
theorem ok105:okFn Tryz.prog (cmOf T) (rdOf T) 105 c105=true:=by kernel_rfl
theorem ok106:okFn Tryz.prog (cmOf T) (rdOf T) 106 c106=true:=by kernel_rfl
theorem ok107:okFn Tryz.prog (cmOf T) (rdOf T) 107 c107=true:=by kernel_rfl
theorem ok108:okFn Tryz.prog (cmOf T) (rdOf T) 108 c108=true:=by kernel_rfl
theorem ok109:okFn Tryz.prog (cmOf T) (rdOf T) 109 c109=true:=by kernel_rfl
theorem ok110:okFn Tryz.prog (cmOf T) (rdOf T) 110 c110=true:=by kernel_rfl
theorem ok112:okFn Tryz.prog (cmOf T) (rdOf T) 112 c112=true:=by kernel_rfl
theorem ok113:okFn Tryz.prog (cmOf T) (rdOf T) 113 c113=true:=by kernel_rfl
theorem ok114:okFn Tryz.prog (cmOf T) (rdOf T) 114 c114=true:=by kernel_rfl
theorem ok115:okFn Tryz.prog (cmOf T) (rdOf T) 115 c115=true:=by kernel_rfl
theorem ok117:okFn Tryz.prog (cmOf T) (rdOf T) 117 c117=true:=by kernel_rfl
theorem ok118:okFn Tryz.prog (cmOf T) (rdOf T) 118 c118=true:=by kernel_rfl
theorem ok119:okFn Tryz.prog (cmOf T) (rdOf T) 119 c119=true:=by kernel_rfl
theorem ok120:okFn Tryz.prog (cmOf T) (rdOf T) 120 c120=true:=by kernel_rfl
theorem ok121:okFn Tryz.prog (cmOf T) (rdOf T) 121 c121=true:=by kernel_rfl
theorem ok122:okFn Tryz.prog (cmOf T) (rdOf T) 122 c122=true:=by kernel_rfl
theorem ok123:okFn Tryz.prog (cmOf T) (rdOf T) 123 c123=true:=by kernel_rfl
theorem ok124:okFn Tryz.prog (cmOf T) (rdOf T) 124 c124=true:=by kernel_rfl
theorem ok125:okFn Tryz.prog (cmOf T) (rdOf T) 125 c125=true:=by kernel_rfl
theorem ok126:okFn Tryz.prog (cmOf T) (rdOf T) 126 c126=true:=by kernel_rfl
theorem ok127:okFn Tryz.prog (cmOf T) (rdOf T) 127 c127=true:=by kernel_rfl
theorem ok128:okFn Tryz.prog (cmOf T) (rdOf T) 128 c128=true:=by kernel_rfl
theorem ok129:okFn Tryz.prog (cmOf T) (rdOf T) 129 c129=true:=by kernel_rfl
theorem ok130:okFn Tryz.prog (cmOf T) (rdOf T) 130 c130=true:=by kernel_rfl
theorem ok131:okFn Tryz.prog (cmOf T) (rdOf T) 131 c131=true:=by kernel_rfl
theorem ok132:okFn Tryz.prog (cmOf T) (rdOf T) 132 c132=true:=by kernel_rfl
theorem ok133:okFn Tryz.prog (cmOf T) (rdOf T) 133 c133=true:=by kernel_rfl
theorem ok134:okFn Tryz.prog (cmOf T) (rdOf T) 134 c134=true:=by kernel_rfl
theorem ok135:okFn Tryz.prog (cmOf T) (rdOf T) 135 c135=true:=by kernel_rfl
theorem ok136:okFn Tryz.prog (cmOf T) (rdOf T) 136 c136=true:=by kernel_rfl
theorem ok137:okFn Tryz.prog (cmOf T) (rdOf T) 137 c137=true:=by kernel_rfl
theorem ok138:okFn Tryz.prog (cmOf T) (rdOf T) 138 c138=true:=by kernel_rfl
theorem ok139:okFn Tryz.prog (cmOf T) (rdOf T) 139 c139=true:=by kernel_rfl
theorem ok140:okFn Tryz.prog (cmOf T) (rdOf T) 140 c140=true:=by kernel_rfl
theorem ok141:okFn Tryz.prog (cmOf T) (rdOf T) 141 c141=true:=by kernel_rfl
theorem ok156:okFn Tryz.prog (cmOf T) (rdOf T) 156 c156=true:=by kernel_rfl
theorem ok157:okFn Tryz.prog (cmOf T) (rdOf T) 157 c157=true:=by kernel_rfl
theorem ok158:okFn Tryz.prog (cmOf T) (rdOf T) 158 c158=true:=by kernel_rfl
theorem ok159:okFn Tryz.prog (cmOf T) (rdOf T) 159 c159=true:=by kernel_rfl
theorem ok163:okFn Tryz.prog (cmOf T) (rdOf T) 163 c163=true:=by kernel_rfl
theorem ok164:okFn Tryz.prog (cmOf T) (rdOf T) 164 c164=true:=by kernel_rfl
theorem ok165:okFn Tryz.prog (cmOf T) (rdOf T) 165 c165=true:=by kernel_rfl
theorem ok166:okFn Tryz.prog (cmOf T) (rdOf T) 166 c166=true:=by kernel_rfl
theorem ok167:okFn Tryz.prog (cmOf T) (rdOf T) 167 c167=true:=by kernel_rfl
theorem ok168:okFn Tryz.prog (cmOf T) (rdOf T) 168 c168=true:=by kernel_rfl
theorem ok169:okFn Tryz.prog (cmOf T) (rdOf T) 169 c169=true:=by kernel_rfl
theorem ok170:okFn Tryz.prog (cmOf T) (rdOf T) 170 c170=true:=by kernel_rfl
theorem ok171:okFn Tryz.prog (cmOf T) (rdOf T) 171 c171=true:=by kernel_rfl
theorem ok172:okFn Tryz.prog (cmOf T) (rdOf T) 172 c172=true:=by kernel_rfl
theorem ok173:okFn Tryz.prog (cmOf T) (rdOf T) 173 c173=true:=by kernel_rfl
theorem ok174:okFn Tryz.prog (cmOf T) (rdOf T) 174 c174=true:=by kernel_rfl
theorem ok175:okFn Tryz.prog (cmOf T) (rdOf T) 175 c175=true:=by kernel_rfl
theorem ok176:okFn Tryz.prog (cmOf T) (rdOf T) 176 c176=true:=by kernel_rfl
theorem ok177:okFn Tryz.prog (cmOf T) (rdOf T) 177 c177=true:=by kernel_rfl
theorem ok178:okFn Tryz.prog (cmOf T) (rdOf T) 178 c178=true:=by kernel_rfl
theorem ok179:okFn Tryz.prog (cmOf T) (rdOf T) 179 c179=true:=by kernel_rfl
theorem ok180:okFn Tryz.prog (cmOf T) (rdOf T) 180 c180=true:=by kernel_rfl
theorem ok181:okFn Tryz.prog (cmOf T) (rdOf T) 181 c181=true:=by kernel_rfl
theorem ok182:okFn Tryz.prog (cmOf T) (rdOf T) 182 c182=true:=by kernel_rfl
theorem ok183:okFn Tryz.prog (cmOf T) (rdOf T) 183 c183=true:=by kernel_rfl
theorem ok184:okFn Tryz.prog (cmOf T) (rdOf T) 184 c184=true:=by kernel_rfl
theorem ok185:okFn Tryz.prog (cmOf T) (rdOf T) 185 c185=true:=by kernel_rfl
theorem ok186:okFn Tryz.prog (cmOf T) (rdOf T) 186 c186=true:=by kernel_rfl
theorem ok189:okFn Tryz.prog (cmOf T) (rdOf T) 189 c189=true:=by kernel_rfl
theorem ok190:okFn Tryz.prog (cmOf T) (rdOf T) 190 c190=true:=by kernel_rfl
theorem ok191:okFn Tryz.prog (cmOf T) (rdOf T) 191 c191=true:=by kernel_rfl
theorem ok192:okFn Tryz.prog (cmOf T) (rdOf T) 192 c192=true:=by kernel_rfl
theorem ok193:okFn Tryz.prog (cmOf T) (rdOf T) 193 c193=true:=by kernel_rfl
theorem ok196:okFn Tryz.prog (cmOf T) (rdOf T) 196 c196=true:=by kernel_rfl
theorem ok197:okFn Tryz.prog (cmOf T) (rdOf T) 197 c197=true:=by kernel_rfl
theorem ok198:okFn Tryz.prog (cmOf T) (rdOf T) 198 c198=true:=by kernel_rfl
theorem ok199:okFn Tryz.prog (cmOf T) (rdOf T) 199 c199=true:=by kernel_rfl
theorem ok200:okFn Tryz.prog (cmOf T) (rdOf T) 200 c200=true:=by kernel_rfl
theorem ok204:okFn Tryz.prog (cmOf T) (rdOf T) 204 c204=true:=by kernel_rfl
theorem ok205:okFn Tryz.prog (cmOf T) (rdOf T) 205 c205=true:=by kernel_rfl
theorem ok207:okFn Tryz.prog (cmOf T) (rdOf T) 207 c207=true:=by kernel_rfl
theorem ext111:ExtOk Tryz.prog 111 x111:=join_ext lays extra rfl (by kernel_rfl)
theorem tab:TabOk Tryz.prog T where
 fn:=by
  intro f d h
  obtain ⟨rfl,h0⟩ | h:=tget_any h
  ·cases h0;exact ok9
  obtain ⟨rfl,h0⟩ | h:=tget_any h
  ·cases h0;exact ok10
  obtain ⟨rfl,h0⟩ | h:=tget_any h
  ·cases h0;exact ok12
  obtain ⟨rfl,h0⟩ | h:=tget_any h
  ·cases h0;exact ok14
  obtain ⟨rfl,h0⟩ | h:=tget_any h
  ·cases h0;exact ok15
  obtain ⟨rfl,h0⟩ | h:=tget_any h
  ·cases h0;exact ok17
  obtain ⟨rfl,h0⟩ | h:=tget_any h
  ·cases h0;exact ok18
  obtain ⟨rfl,h0⟩ | h:=tget_any h
  ·cases h0;exact ok19
  obtain ⟨rfl,h0⟩ | h:=tget_any h
  ·cases h0;exact ok20
  obtain ⟨rfl,h0⟩ | h:=tget_any h
  ·cases h0;exact ok21
  obtain ⟨_,h0⟩ | h:=tget_any h
  ·cases h0
  obtain ⟨rfl,h0⟩ | h:=tget_any h
  ·cases h0;exact ok23
  obtain ⟨rfl,h0⟩ | h:=tget_any h
  ·cases h0;exact ok24
  obtain ⟨rfl,h0⟩ | h:=tget_any h
  ·cases h0;exact ok25
  obtain ⟨rfl,h0⟩ | h:=tget_any h
  ·cases h0;exact ok26
  obtain ⟨rfl,h0⟩ | h:=tget_any h
  ·cases h0;exact ok27
  obtain ⟨rfl,h0⟩ | h:=tget_any h
  ·cases h0;exact ok28
  obtain ⟨rfl,h0⟩ | h:=tget_any h
  ·cases h0;exact ok29
  obtain ⟨rfl,h0⟩ | h:=tget_any h
  ·cases h0;exact ok30
  obtain ⟨rfl,h0⟩ | h:=tget_any h
  ·cases h0;exact ok31
  obtain ⟨_,h0⟩ | h:=tget_any h
  ·cases h0
  obtain ⟨rfl,h0⟩ | h:=tget_any h
  ·cases h0;exact ok35
  obtain ⟨rfl,h0⟩ | h:=tget_any h
  ·cases h0;exact ok36
  obtain ⟨rfl,h0⟩ | h:=tget_any h
  ·cases h0;exact ok37
  obtain ⟨rfl,h0⟩ | h:=tget_any h
  ·cases h0;exact ok38
  obtain ⟨rfl,h0⟩ | h:=tget_any h
  ·cases h0;exact ok39
  obtain ⟨rfl,h0⟩ | h:=tget_any h
  ·cases h0;exact ok40
  obtain ⟨rfl,h0⟩ | h:=tget_any h
  ·cases h0;exact ok41
  obtain ⟨rfl,h0⟩ | h:=tget_any h
  ·cases h0;exact ok42
  obtain ⟨rfl,h0⟩ | h:=tget_any h
  ·cases h0;exact ok43
  obtain ⟨rfl,h0⟩ | h:=tget_any h
  ·cases h0;exact ok44
  obtain ⟨rfl,h0⟩ | h:=tget_any h
  ·cases h0;exact ok45
  obtain ⟨rfl,h0⟩ | h:=tget_any h
  ·cases h0;exact ok46
  obtain ⟨rfl,h0⟩ | h:=tget_any h
  ·cases h0;exact ok47
  obtain ⟨rfl,h0⟩ | h:=tget_any h
  ·cases h0;exact ok48
  obtain ⟨rfl,h0⟩ | h:=tget_any h
  ·cases h0;exact ok49
  obtain ⟨rfl,h0⟩ | h:=tget_any h
  ·cases h0;exact ok50
  obtain ⟨rfl,h0⟩ | h:=tget_any h
  ·cases h0;exact ok60
  obtain ⟨rfl,h0⟩ | h:=tget_any h
  ·cases h0;exact ok61
  obtain ⟨rfl,h0⟩ | h:=tget_any h
  ·cases h0;exact ok62
  obtain ⟨rfl,h0⟩ | h:=tget_any h
  ·cases h0;exact ok63
  obtain ⟨rfl,h0⟩ | h:=tget_any h
  ·cases h0;exact ok64
  obtain ⟨rfl,h0⟩ | h:=tget_any h
  ·cases h0;exact ok65
  obtain ⟨rfl,h0⟩ | h:=tget_any h
  ·cases h0;exact ok66
  obtain ⟨rfl,h0⟩ | h:=tget_any h
  ·cases h0;exact ok67
  obtain ⟨rfl,h0⟩ | h:=tget_any h
  ·cases h0;exact ok68
  obtain ⟨rfl,h0⟩ | h:=tget_any h
  ·cases h0;exact ok69
  obtain ⟨rfl,h0⟩ | h:=tget_any h
  ·cases h0;exact ok70
  obtain ⟨rfl,h0⟩ | h:=tget_any h
  ·cases h0;exact ok71
  obtain ⟨rfl,h0⟩ | h:=tget_any h
  ·cases h0;exact ok72
  obtain ⟨rfl,h0⟩ | h:=tget_any h
  ·cases h0;exact ok73
  obtain ⟨rfl,h0⟩ | h:=tget_any h
  ·cases h0;exact ok74
  obtain ⟨rfl,h0⟩ | h:=tget_any h
  ·cases h0;exact ok75
  obtain ⟨rfl,h0⟩ | h:=tget_any h
  ·cases h0;exact ok76
  obtain ⟨rfl,h0⟩ | h:=tget_any h
  ·cases h0;exact ok77
  obtain ⟨rfl,h0⟩ | h:=tget_any h
  ·cases h0;exact ok78
  obtain ⟨rfl,h0⟩ | h:=tget_any h
  ·cases h0;exact ok79
  obtain ⟨rfl,h0⟩ | h:=tget_any h
  ·cases h0;exact ok80
  obtain ⟨rfl,h0⟩ | h:=tget_any h
  ·cases h0;exact ok81
  obtain ⟨rfl,h0⟩ | h:=tget_any h
  ·cases h0;exact ok82
  obtain ⟨rfl,h0⟩ | h:=tget_any h
  ·cases h0;exact ok83
  obtain ⟨rfl,h0⟩ | h:=tget_any h
  ·cases h0;exact ok84
  obtain ⟨rfl,h0⟩ | h:=tget_any h
  ·cases h0;exact ok85
  obtain ⟨rfl,h0⟩ | h:=tget_any h
  ·cases h0;exact ok86
  obtain ⟨rfl,h0⟩ | h:=tget_any h
  ·cases h0;exact ok87
  obtain ⟨rfl,h0⟩ | h:=tget_any h
  ·cases h0;exact ok88
  obtain ⟨rfl,h0⟩ | h:=tget_any h
  ·cases h0;exact ok89
  obtain ⟨rfl,h0⟩ | h:=tget_any h
  ·cases h0;exact ok90
  obtain ⟨rfl,h0⟩ | h:=tget_any h
  ·cases h0;exact ok91
  obtain ⟨rfl,h0⟩ | h:=tget_any h
  ·cases h0;exact ok103
  obtain ⟨rfl,h0⟩ | h:=tget_any h
  ·cases h0;exact ok104
  obtain ⟨rfl,h0⟩ | h:=tget_any h
  ·cases h0;exact ok105
  obtain ⟨rfl,h0⟩ | h:=tget_any h
  ·cases h0;exact ok106
  obtain ⟨rfl,h0⟩ | h:=tget_any h
  ·cases h0;exact ok107
  obtain ⟨rfl,h0⟩ | h:=tget_any h
  ·cases h0;exact ok108
  obtain ⟨rfl,h0⟩ | h:=tget_any h
  ·cases h0;exact ok109
  obtain ⟨rfl,h0⟩ | h:=tget_any h
  ·cases h0;exact ok110
  obtain ⟨rfl,h0⟩ | h:=tget_any h
  ·cases h0;exact ok112
  obtain ⟨rfl,h0⟩ | h:=tget_any h
  ·cases h0;exact ok113
  obtain ⟨rfl,h0⟩ | h:=tget_any h
  ·cases h0;exact ok114
  obtain ⟨rfl,h0⟩ | h:=tget_any h
  ·cases h0;exact ok115
  obtain ⟨rfl,h0⟩ | h:=tget_any h
  ·cases h0;exact ok117
  obtain ⟨rfl,h0⟩ | h:=tget_any h
  ·cases h0;exact ok118
  obtain ⟨rfl,h0⟩ | h:=tget_any h
  ·cases h0;exact ok119
  obtain ⟨rfl,h0⟩ | h:=tget_any h
  ·cases h0;exact ok120
  obtain ⟨rfl,h0⟩ | h:=tget_any h
  ·cases h0;exact ok121
  obtain ⟨rfl,h0⟩ | h:=tget_any h
  ·cases h0;exact ok122
  obtain ⟨rfl,h0⟩ | h:=tget_any h
  ·cases h0;exact ok123
  obtain ⟨rfl,h0⟩ | h:=tget_any h
  ·cases h0;exact ok124
  obtain ⟨rfl,h0⟩ | h:=tget_any h
  ·cases h0;exact ok125
  obtain ⟨rfl,h0⟩ | h:=tget_any h
  ·cases h0;exact ok126
  obtain ⟨rfl,h0⟩ | h:=tget_any h
  ·cases h0;exact ok127
  obtain ⟨rfl,h0⟩ | h:=tget_any h
  ·cases h0;exact ok128
  obtain ⟨rfl,h0⟩ | h:=tget_any h
  ·cases h0;exact ok129
  obtain ⟨rfl,h0⟩ | h:=tget_any h
  ·cases h0;exact ok130
  obtain ⟨rfl,h0⟩ | h:=tget_any h
  ·cases h0;exact ok131
  obtain ⟨rfl,h0⟩ | h:=tget_any h
  ·cases h0;exact ok132
  obtain ⟨rfl,h0⟩ | h:=tget_any h
  ·cases h0;exact ok133
  obtain ⟨rfl,h0⟩ | h:=tget_any h
  ·cases h0;exact ok134
  obtain ⟨rfl,h0⟩ | h:=tget_any h
  ·cases h0;exact ok135
  obtain ⟨rfl,h0⟩ | h:=tget_any h
  ·cases h0;exact ok136
  obtain ⟨rfl,h0⟩ | h:=tget_any h
  ·cases h0;exact ok137
  obtain ⟨rfl,h0⟩ | h:=tget_any h
  ·cases h0;exact ok138
  obtain ⟨rfl,h0⟩ | h:=tget_any h
  ·cases h0;exact ok139
  obtain ⟨rfl,h0⟩ | h:=tget_any h
  ·cases h0;exact ok140
  obtain ⟨rfl,h0⟩ | h:=tget_any h
  ·cases h0;exact ok141
  obtain ⟨rfl,h0⟩ | h:=tget_any h
  ·cases h0;exact ok156
  obtain ⟨rfl,h0⟩ | h:=tget_any h
  ·cases h0;exact ok157
  obtain ⟨rfl,h0⟩ | h:=tget_any h
  ·cases h0;exact ok158
  obtain ⟨rfl,h0⟩ | h:=tget_any h
  ·cases h0;exact ok159
  obtain ⟨rfl,h0⟩ | h:=tget_any h
  ·cases h0;exact ok163
  obtain ⟨rfl,h0⟩ | h:=tget_any h
  ·cases h0;exact ok164
  obtain ⟨rfl,h0⟩ | h:=tget_any h
  ·cases h0;exact ok165
  obtain ⟨rfl,h0⟩ | h:=tget_any h
  ·cases h0;exact ok166
  obtain ⟨rfl,h0⟩ | h:=tget_any h
  ·cases h0;exact ok167
  obtain ⟨rfl,h0⟩ | h:=tget_any h
  ·cases h0;exact ok168
  obtain ⟨rfl,h0⟩ | h:=tget_any h
  ·cases h0;exact ok169
  obtain ⟨rfl,h0⟩ | h:=tget_any h
  ·cases h0;exact ok170
  obtain ⟨rfl,h0⟩ | h:=tget_any h
  ·cases h0;exact ok171
  obtain ⟨rfl,h0⟩ | h:=tget_any h
  ·cases h0;exact ok172
  obtain ⟨rfl,h0⟩ | h:=tget_any h
  ·cases h0;exact ok173
  obtain ⟨rfl,h0⟩ | h:=tget_any h
  ·cases h0;exact ok174
  obtain ⟨rfl,h0⟩ | h:=tget_any h
  ·cases h0;exact ok175
  obtain ⟨rfl,h0⟩ | h:=tget_any h
  ·cases h0;exact ok176
  obtain ⟨rfl,h0⟩ | h:=tget_any h
  ·cases h0;exact ok177
  obtain ⟨rfl,h0⟩ | h:=tget_any h
  ·cases h0;exact ok178
  obtain ⟨rfl,h0⟩ | h:=tget_any h
  ·cases h0;exact ok179
  obtain ⟨rfl,h0⟩ | h:=tget_any h
  ·cases h0;exact ok180
  obtain ⟨rfl,h0⟩ | h:=tget_any h
  ·cases h0;exact ok181
  obtain ⟨rfl,h0⟩ | h:=tget_any h
  ·cases h0;exact ok182
  obtain ⟨rfl,h0⟩ | h:=tget_any h
  ·cases h0;exact ok183
  obtain ⟨rfl,h0⟩ | h:=tget_any h
  ·cases h0;exact ok184
  obtain ⟨rfl,h0⟩ | h:=tget_any h
  ·cases h0;exact ok185
  obtain ⟨rfl,h0⟩ | h:=tget_any h
  ·cases h0;exact ok186
  obtain ⟨rfl,h0⟩ | h:=tget_any h
  ·cases h0;exact ok189
  obtain ⟨rfl,h0⟩ | h:=tget_any h
  ·cases h0;exact ok190
  obtain ⟨rfl,h0⟩ | h:=tget_any h
  ·cases h0;exact ok191
  obtain ⟨rfl,h0⟩ | h:=tget_any h
  ·cases h0;exact ok192
  obtain ⟨rfl,h0⟩ | h:=tget_any h
  ·cases h0;exact ok193
  obtain ⟨rfl,h0⟩ | h:=tget_any h
  ·cases h0;exact ok196
  obtain ⟨rfl,h0⟩ | h:=tget_any h
  ·cases h0;exact ok197
  obtain ⟨rfl,h0⟩ | h:=tget_any h
  ·cases h0;exact ok198
  obtain ⟨rfl,h0⟩ | h:=tget_any h
  ·cases h0;exact ok199
  obtain ⟨rfl,h0⟩ | h:=tget_any h
  ·cases h0;exact ok200
  obtain ⟨rfl,h0⟩ | h:=tget_any h
  ·cases h0;exact ok204
  obtain ⟨rfl,h0⟩ | h:=tget_any h
  ·cases h0;exact ok205
  obtain ⟨rfl,h0⟩ | h:=tget_any h
  ·cases h0;exact ok207
  obtain ⟨_,h0⟩ | h:=tget_any h
  ·cases h0
  obtain ⟨_,h0⟩ | h:=tget_any h
  ·cases h0
  obtain ⟨_,h0⟩ | h:=tget_any h
  ·cases h0
  obtain ⟨_,h0⟩ | h:=tget_any h
  ·cases h0
  obtain ⟨_,h0⟩ | h:=tget_any h
  ·cases h0
  obtain ⟨_,h0⟩ | h:=tget_any h
  ·cases h0
  cases h
 ext:=by
  intro f d h
  obtain ⟨_,h0⟩ | h:=tget_any h
  ·cases h0
  obtain ⟨_,h0⟩ | h:=tget_any h
  ·cases h0
  obtain ⟨_,h0⟩ | h:=tget_any h
  ·cases h0
  obtain ⟨_,h0⟩ | h:=tget_any h
  ·cases h0
  obtain ⟨_,h0⟩ | h:=tget_any h
  ·cases h0
  obtain ⟨_,h0⟩ | h:=tget_any h
  ·cases h0
  obtain ⟨_,h0⟩ | h:=tget_any h
  ·cases h0
  obtain ⟨_,h0⟩ | h:=tget_any h
  ·cases h0
  obtain ⟨_,h0⟩ | h:=tget_any h
  ·cases h0
  obtain ⟨_,h0⟩ | h:=tget_any h
  ·cases h0
  obtain ⟨_,h0⟩ | h:=tget_any h
  ·cases h0
  obtain ⟨_,h0⟩ | h:=tget_any h
  ·cases h0
  obtain ⟨_,h0⟩ | h:=tget_any h
  ·cases h0
  obtain ⟨_,h0⟩ | h:=tget_any h
  ·cases h0
  obtain ⟨_,h0⟩ | h:=tget_any h
  ·cases h0
  obtain ⟨_,h0⟩ | h:=tget_any h
  ·cases h0
  obtain ⟨_,h0⟩ | h:=tget_any h
  ·cases h0
  obtain ⟨_,h0⟩ | h:=tget_any h
  ·cases h0
  obtain ⟨_,h0⟩ | h:=tget_any h
  ·cases h0
  obtain ⟨_,h0⟩ | h:=tget_any h
  ·cases h0
  obtain ⟨_,h0⟩ | h:=tget_any h
  ·cases h0
  obtain ⟨_,h0⟩ | h:=tget_any h
  ·cases h0
  obtain ⟨_,h0⟩ | h:=tget_any h
  ·cases h0
  obtain ⟨_,h0⟩ | h:=tget_any h
  ·cases h0
  obtain ⟨_,h0⟩ | h:=tget_any h
  ·cases h0
  obtain ⟨_,h0⟩ | h:=tget_any h
  ·cases h0
  obtain ⟨_,h0⟩ | h:=tget_any h
  ·cases h0
  obtain ⟨_,h0⟩ | h:=tget_any h
  ·cases h0
  obtain ⟨_,h0⟩ | h:=tget_any h
  ·cases h0
  obtain ⟨_,h0⟩ | h:=tget_any h
  ·cases h0
  obtain ⟨_,h0⟩ | h:=tget_any h
  ·cases h0
  obtain ⟨_,h0⟩ | h:=tget_any h
  ·cases h0
  obtain ⟨_,h0⟩ | h:=tget_any h
  ·cases h0
  obtain ⟨_,h0⟩ | h:=tget_any h
  ·cases h0
  obtain ⟨_,h0⟩ | h:=tget_any h
  ·cases h0
  obtain ⟨_,h0⟩ | h:=tget_any h
  ·cases h0
  obtain ⟨_,h0⟩ | h:=tget_any h
  ·cases h0
  obtain ⟨_,h0⟩ | h:=tget_any h
  ·cases h0
  obtain ⟨_,h0⟩ | h:=tget_any h
  ·cases h0
  obtain ⟨_,h0⟩ | h:=tget_any h
  ·cases h0
  obtain ⟨_,h0⟩ | h:=tget_any h
  ·cases h0
  obtain ⟨_,h0⟩ | h:=tget_any h
  ·cases h0
  obtain ⟨_,h0⟩ | h:=tget_any h
  ·cases h0
  obtain ⟨_,h0⟩ | h:=tget_any h
  ·cases h0
  obtain ⟨_,h0⟩ | h:=tget_any h
  ·cases h0
  obtain ⟨_,h0⟩ | h:=tget_any h
  ·cases h0
  obtain ⟨_,h0⟩ | h:=tget_any h
  ·cases h0
  obtain ⟨_,h0⟩ | h:=tget_any h
  ·cases h0
  obtain ⟨_,h0⟩ | h:=tget_any h
  ·cases h0
  obtain ⟨_,h0⟩ | h:=tget_any h
  ·cases h0
  obtain ⟨_,h0⟩ | h:=tget_any h
  ·cases h0
  obtain ⟨_,h0⟩ | h:=tget_any h
  ·cases h0
  obtain ⟨_,h0⟩ | h:=tget_any h
  ·cases h0
  obtain ⟨_,h0⟩ | h:=tget_any h
  ·cases h0
  obtain ⟨_,h0⟩ | h:=tget_any h
  ·cases h0
  obtain ⟨_,h0⟩ | h:=tget_any h
  ·cases h0
  obtain ⟨_,h0⟩ | h:=tget_any h
  ·cases h0
  obtain ⟨_,h0⟩ | h:=tget_any h
  ·cases h0
  obtain ⟨_,h0⟩ | h:=tget_any h
  ·cases h0
  obtain ⟨_,h0⟩ | h:=tget_any h
  ·cases h0
  obtain ⟨_,h0⟩ | h:=tget_any h
  ·cases h0
  obtain ⟨_,h0⟩ | h:=tget_any h
  ·cases h0
  obtain ⟨_,h0⟩ | h:=tget_any h
  ·cases h0
  obtain ⟨_,h0⟩ | h:=tget_any h
  ·cases h0
  obtain ⟨_,h0⟩ | h:=tget_any h
  ·cases h0
  obtain ⟨_,h0⟩ | h:=tget_any h
  ·cases h0
  obtain ⟨_,h0⟩ | h:=tget_any h
  ·cases h0
  obtain ⟨_,h0⟩ | h:=tget_any h
  ·cases h0
  obtain ⟨_,h0⟩ | h:=tget_any h
  ·cases h0
  obtain ⟨_,h0⟩ | h:=tget_any h
  ·cases h0
  obtain ⟨_,h0⟩ | h:=tget_any h
  ·cases h0
  obtain ⟨_,h0⟩ | h:=tget_any h
  ·cases h0
  obtain ⟨_,h0⟩ | h:=tget_any h
  ·cases h0
  obtain ⟨_,h0⟩ | h:=tget_any h
  ·cases h0
  obtain ⟨_,h0⟩ | h:=tget_any h
  ·cases h0
  obtain ⟨_,h0⟩ | h:=tget_any h
  ·cases h0
  obtain ⟨_,h0⟩ | h:=tget_any h
  ·cases h0
  obtain ⟨_,h0⟩ | h:=tget_any h
  ·cases h0
  obtain ⟨_,h0⟩ | h:=tget_any h
  ·cases h0
  obtain ⟨_,h0⟩ | h:=tget_any h
  ·cases h0
  obtain ⟨_,h0⟩ | h:=tget_any h
  ·cases h0
  obtain ⟨_,h0⟩ | h:=tget_any h
  ·cases h0
  obtain ⟨_,h0⟩ | h:=tget_any h
  ·cases h0
  obtain ⟨_,h0⟩ | h:=tget_any h
  ·cases h0
  obtain ⟨_,h0⟩ | h:=tget_any h
  ·cases h0
  obtain ⟨_,h0⟩ | h:=tget_any h
  ·cases h0
  obtain ⟨_,h0⟩ | h:=tget_any h
  ·cases h0
  obtain ⟨_,h0⟩ | h:=tget_any h
  ·cases h0
  obtain ⟨_,h0⟩ | h:=tget_any h
  ·cases h0
  obtain ⟨_,h0⟩ | h:=tget_any h
  ·cases h0
  obtain ⟨_,h0⟩ | h:=tget_any h
  ·cases h0
  obtain ⟨_,h0⟩ | h:=tget_any h
  ·cases h0
  obtain ⟨_,h0⟩ | h:=tget_any h
  ·cases h0
  obtain ⟨_,h0⟩ | h:=tget_any h
  ·cases h0
  obtain ⟨_,h0⟩ | h:=tget_any h
  ·cases h0
  obtain ⟨_,h0⟩ | h:=tget_any h
  ·cases h0
  obtain ⟨_,h0⟩ | h:=tget_any h
  ·cases h0
  obtain ⟨_,h0⟩ | h:=tget_any h
  ·cases h0
  obtain ⟨_,h0⟩ | h:=tget_any h
  ·cases h0
  obtain ⟨_,h0⟩ | h:=tget_any h
  ·cases h0
  obtain ⟨_,h0⟩ | h:=tget_any h
  ·cases h0
  obtain ⟨_,h0⟩ | h:=tget_any h
  ·cases h0
  obtain ⟨_,h0⟩ | h:=tget_any h
  ·cases h0
  obtain ⟨_,h0⟩ | h:=tget_any h
  ·cases h0
  obtain ⟨_,h0⟩ | h:=tget_any h
  ·cases h0
  obtain ⟨_,h0⟩ | h:=tget_any h
  ·cases h0
  obtain ⟨_,h0⟩ | h:=tget_any h
  ·cases h0
  obtain ⟨_,h0⟩ | h:=tget_any h
  ·cases h0
  obtain ⟨_,h0⟩ | h:=tget_any h
  ·cases h0
  obtain ⟨_,h0⟩ | h:=tget_any h
  ·cases h0
  obtain ⟨_,h0⟩ | h:=tget_any h
  ·cases h0
  obtain ⟨_,h0⟩ | h:=tget_any h
  ·cases h0
  obtain ⟨_,h0⟩ | h:=tget_any h
  ·cases h0
  obtain ⟨_,h0⟩ | h:=tget_any h
  ·cases h0
  obtain ⟨_,h0⟩ | h:=tget_any h
  ·cases h0
  obtain ⟨_,h0⟩ | h:=tget_any h
  ·cases h0
  obtain ⟨_,h0⟩ | h:=tget_any h
  ·cases h0
  obtain ⟨_,h0⟩ | h:=tget_any h
  ·cases h0
  obtain ⟨_,h0⟩ | h:=tget_any h
  ·cases h0
  obtain ⟨_,h0⟩ | h:=tget_any h
  ·cases h0
  obtain ⟨_,h0⟩ | h:=tget_any h
  ·cases h0
  obtain ⟨_,h0⟩ | h:=tget_any h
  ·cases h0
  obtain ⟨_,h0⟩ | h:=tget_any h
  ·cases h0
  obtain ⟨_,h0⟩ | h:=tget_any h
  ·cases h0
  obtain ⟨_,h0⟩ | h:=tget_any h
  ·cases h0
  obtain ⟨_,h0⟩ | h:=tget_any h
  ·cases h0
  obtain ⟨_,h0⟩ | h:=tget_any h
  ·cases h0
  obtain ⟨_,h0⟩ | h:=tget_any h
  ·cases h0
  obtain ⟨_,h0⟩ | h:=tget_any h
  ·cases h0
  obtain ⟨_,h0⟩ | h:=tget_any h
  ·cases h0
  obtain ⟨_,h0⟩ | h:=tget_any h
  ·cases h0
  obtain ⟨_,h0⟩ | h:=tget_any h
  ·cases h0
  obtain ⟨_,h0⟩ | h:=tget_any h
  ·cases h0
  obtain ⟨_,h0⟩ | h:=tget_any h
  ·cases h0
  obtain ⟨_,h0⟩ | h:=tget_any h
  ·cases h0
  obtain ⟨_,h0⟩ | h:=tget_any h
  ·cases h0
  obtain ⟨_,h0⟩ | h:=tget_any h
  ·cases h0
  obtain ⟨_,h0⟩ | h:=tget_any h
  ·cases h0
  obtain ⟨_,h0⟩ | h:=tget_any h
  ·cases h0
  obtain ⟨_,h0⟩ | h:=tget_any h
  ·cases h0
  obtain ⟨_,h0⟩ | h:=tget_any h
  ·cases h0
  obtain ⟨_,h0⟩ | h:=tget_any h
  ·cases h0
  obtain ⟨_,h0⟩ | h:=tget_any h
  ·cases h0
  obtain ⟨_,h0⟩ | h:=tget_any h
  ·cases h0
  obtain ⟨_,h0⟩ | h:=tget_any h
  ·cases h0
  obtain ⟨_,h0⟩ | h:=tget_any h
  ·cases h0
  obtain ⟨_,h0⟩ | h:=tget_any h
  ·cases h0
  obtain ⟨_,h0⟩ | h:=tget_any h
  ·cases h0
  obtain ⟨_,h0⟩ | h:=tget_any h
  ·cases h0
  obtain ⟨_,h0⟩ | h:=tget_any h
  ·cases h0
  obtain ⟨_,h0⟩ | h:=tget_any h
  ·cases h0
  obtain ⟨_,h0⟩ | h:=tget_any h
  ·cases h0
  obtain ⟨rfl,h0⟩ | h:=tget_any h
  ·cases h0;exact ext111
  cases h
 ct:=by
  intro f d h
  obtain ⟨_,h0⟩ | h:=tget_any h
  ·cases h0
  obtain ⟨_,h0⟩ | h:=tget_any h
  ·cases h0
  obtain ⟨_,h0⟩ | h:=tget_any h
  ·cases h0
  obtain ⟨_,h0⟩ | h:=tget_any h
  ·cases h0
  obtain ⟨_,h0⟩ | h:=tget_any h
  ·cases h0
  obtain ⟨_,h0⟩ | h:=tget_any h
  ·cases h0
  obtain ⟨_,h0⟩ | h:=tget_any h
  ·cases h0
  obtain ⟨_,h0⟩ | h:=tget_any h
  ·cases h0
  obtain ⟨_,h0⟩ | h:=tget_any h
  ·cases h0
  obtain ⟨_,h0⟩ | h:=tget_any h
  ·cases h0
  obtain ⟨_,h0⟩ | h:=tget_any h
  ·cases h0
  obtain ⟨_,h0⟩ | h:=tget_any h
  ·cases h0
  obtain ⟨_,h0⟩ | h:=tget_any h
  ·cases h0
  obtain ⟨_,h0⟩ | h:=tget_any h
  ·cases h0
  obtain ⟨_,h0⟩ | h:=tget_any h
  ·cases h0
  obtain ⟨_,h0⟩ | h:=tget_any h
  ·cases h0
  obtain ⟨_,h0⟩ | h:=tget_any h
  ·cases h0
  obtain ⟨_,h0⟩ | h:=tget_any h
  ·cases h0
  obtain ⟨_,h0⟩ | h:=tget_any h
  ·cases h0
  obtain ⟨_,h0⟩ | h:=tget_any h
  ·cases h0
  obtain ⟨rfl,h0⟩ | h:=tget_any h
  ·cases h0;exact ok34
  obtain ⟨_,h0⟩ | h:=tget_any h
  ·cases h0
  obtain ⟨_,h0⟩ | h:=tget_any h
  ·cases h0
  obtain ⟨_,h0⟩ | h:=tget_any h
  ·cases h0
  obtain ⟨_,h0⟩ | h:=tget_any h
  ·cases h0
  obtain ⟨_,h0⟩ | h:=tget_any h
  ·cases h0
  obtain ⟨_,h0⟩ | h:=tget_any h
  ·cases h0
  obtain ⟨_,h0⟩ | h:=tget_any h
  ·cases h0
  obtain ⟨_,h0⟩ | h:=tget_any h
  ·cases h0
  obtain ⟨_,h0⟩ | h:=tget_any h
  ·cases h0
  obtain ⟨_,h0⟩ | h:=tget_any h
  ·cases h0
  obtain ⟨_,h0⟩ | h:=tget_any h
  ·cases h0
  obtain ⟨_,h0⟩ | h:=tget_any h
  ·cases h0
  obtain ⟨_,h0⟩ | h:=tget_any h
  ·cases h0
  obtain ⟨_,h0⟩ | h:=tget_any h
  ·cases h0
  obtain ⟨_,h0⟩ | h:=tget_any h
  ·cases h0
  obtain ⟨_,h0⟩ | h:=tget_any h
  ·cases h0
  obtain ⟨_,h0⟩ | h:=tget_any h
  ·cases h0
  obtain ⟨_,h0⟩ | h:=tget_any h
  ·cases h0
  obtain ⟨_,h0⟩ | h:=tget_any h
  ·cases h0
  obtain ⟨_,h0⟩ | h:=tget_any h
  ·cases h0
  obtain ⟨_,h0⟩ | h:=tget_any h
  ·cases h0
  obtain ⟨_,h0⟩ | h:=tget_any h
  ·cases h0
  obtain ⟨_,h0⟩ | h:=tget_any h
  ·cases h0
  obtain ⟨_,h0⟩ | h:=tget_any h
  ·cases h0
  obtain ⟨_,h0⟩ | h:=tget_any h
  ·cases h0
  obtain ⟨_,h0⟩ | h:=tget_any h
  ·cases h0
  obtain ⟨_,h0⟩ | h:=tget_any h
  ·cases h0
  obtain ⟨_,h0⟩ | h:=tget_any h
  ·cases h0
  obtain ⟨_,h0⟩ | h:=tget_any h
  ·cases h0
  obtain ⟨_,h0⟩ | h:=tget_any h
  ·cases h0
  obtain ⟨_,h0⟩ | h:=tget_any h
  ·cases h0
  obtain ⟨_,h0⟩ | h:=tget_any h
  ·cases h0
  obtain ⟨_,h0⟩ | h:=tget_any h
  ·cases h0
  obtain ⟨_,h0⟩ | h:=tget_any h
  ·cases h0
  obtain ⟨_,h0⟩ | h:=tget_any h
  ·cases h0
  obtain ⟨_,h0⟩ | h:=tget_any h
  ·cases h0
  obtain ⟨_,h0⟩ | h:=tget_any h
  ·cases h0
  obtain ⟨_,h0⟩ | h:=tget_any h
  ·cases h0
  obtain ⟨_,h0⟩ | h:=tget_any h
  ·cases h0
  obtain ⟨_,h0⟩ | h:=tget_any h
  ·cases h0
  obtain ⟨_,h0⟩ | h:=tget_any h
  ·cases h0
  obtain ⟨_,h0⟩ | h:=tget_any h
  ·cases h0
  obtain ⟨_,h0⟩ | h:=tget_any h
  ·cases h0
  obtain ⟨_,h0⟩ | h:=tget_any h
  ·cases h0
  obtain ⟨_,h0⟩ | h:=tget_any h
  ·cases h0
  obtain ⟨_,h0⟩ | h:=tget_any h
  ·cases h0
  obtain ⟨_,h0⟩ | h:=tget_any h
  ·cases h0
  obtain ⟨_,h0⟩ | h:=tget_any h
  ·cases h0
  obtain ⟨_,h0⟩ | h:=tget_any h
  ·cases h0
  obtain ⟨_,h0⟩ | h:=tget_any h
  ·cases h0
  obtain ⟨_,h0⟩ | h:=tget_any h
  ·cases h0
  obtain ⟨_,h0⟩ | h:=tget_any h
  ·cases h0
  obtain ⟨_,h0⟩ | h:=tget_any h
  ·cases h0
  obtain ⟨_,h0⟩ | h:=tget_any h
  ·cases h0
  obtain ⟨_,h0⟩ | h:=tget_any h
  ·cases h0
  obtain ⟨_,h0⟩ | h:=tget_any h
  ·cases h0
  obtain ⟨_,h0⟩ | h:=tget_any h
  ·cases h0
  obtain ⟨_,h0⟩ | h:=tget_any h
  ·cases h0
  obtain ⟨_,h0⟩ | h:=tget_any h
  ·cases h0
  obtain ⟨_,h0⟩ | h:=tget_any h
  ·cases h0
  obtain ⟨_,h0⟩ | h:=tget_any h
  ·cases h0
  obtain ⟨_,h0⟩ | h:=tget_any h
  ·cases h0
  obtain ⟨_,h0⟩ | h:=tget_any h
  ·cases h0
  obtain ⟨_,h0⟩ | h:=tget_any h
  ·cases h0
  obtain ⟨_,h0⟩ | h:=tget_any h
  ·cases h0
  obtain ⟨_,h0⟩ | h:=tget_any h
  ·cases h0
  obtain ⟨_,h0⟩ | h:=tget_any h
  ·cases h0
  obtain ⟨_,h0⟩ | h:=tget_any h
  ·cases h0
  obtain ⟨_,h0⟩ | h:=tget_any h
  ·cases h0
  obtain ⟨_,h0⟩ | h:=tget_any h
  ·cases h0
  obtain ⟨_,h0⟩ | h:=tget_any h
  ·cases h0
  obtain ⟨_,h0⟩ | h:=tget_any h
  ·cases h0
  obtain ⟨_,h0⟩ | h:=tget_any h
  ·cases h0
  obtain ⟨_,h0⟩ | h:=tget_any h
  ·cases h0
  obtain ⟨_,h0⟩ | h:=tget_any h
  ·cases h0
  obtain ⟨_,h0⟩ | h:=tget_any h
  ·cases h0
  obtain ⟨_,h0⟩ | h:=tget_any h
  ·cases h0
  obtain ⟨_,h0⟩ | h:=tget_any h
  ·cases h0
  obtain ⟨_,h0⟩ | h:=tget_any h
  ·cases h0
  obtain ⟨_,h0⟩ | h:=tget_any h
  ·cases h0
  obtain ⟨_,h0⟩ | h:=tget_any h
  ·cases h0
  obtain ⟨_,h0⟩ | h:=tget_any h
  ·cases h0
  obtain ⟨_,h0⟩ | h:=tget_any h
  ·cases h0
  obtain ⟨_,h0⟩ | h:=tget_any h
  ·cases h0
  obtain ⟨_,h0⟩ | h:=tget_any h
  ·cases h0
  obtain ⟨_,h0⟩ | h:=tget_any h
  ·cases h0
  obtain ⟨_,h0⟩ | h:=tget_any h
  ·cases h0
  obtain ⟨_,h0⟩ | h:=tget_any h
  ·cases h0
  obtain ⟨_,h0⟩ | h:=tget_any h
  ·cases h0
  obtain ⟨_,h0⟩ | h:=tget_any h
  ·cases h0
  obtain ⟨_,h0⟩ | h:=tget_any h
  ·cases h0
  obtain ⟨_,h0⟩ | h:=tget_any h
  ·cases h0
  obtain ⟨_,h0⟩ | h:=tget_any h
  ·cases h0
  obtain ⟨_,h0⟩ | h:=tget_any h
  ·cases h0
  obtain ⟨_,h0⟩ | h:=tget_any h
  ·cases h0
  obtain ⟨_,h0⟩ | h:=tget_any h
  ·cases h0
  obtain ⟨_,h0⟩ | h:=tget_any h
  ·cases h0
  obtain ⟨_,h0⟩ | h:=tget_any h
  ·cases h0
  obtain ⟨_,h0⟩ | h:=tget_any h
  ·cases h0
  obtain ⟨_,h0⟩ | h:=tget_any h
  ·cases h0
  obtain ⟨_,h0⟩ | h:=tget_any h
  ·cases h0
  obtain ⟨_,h0⟩ | h:=tget_any h
  ·cases h0
  obtain ⟨_,h0⟩ | h:=tget_any h
  ·cases h0
  obtain ⟨_,h0⟩ | h:=tget_any h
  ·cases h0
  obtain ⟨_,h0⟩ | h:=tget_any h
  ·cases h0
  obtain ⟨_,h0⟩ | h:=tget_any h
  ·cases h0
  obtain ⟨_,h0⟩ | h:=tget_any h
  ·cases h0
  obtain ⟨_,h0⟩ | h:=tget_any h
  ·cases h0
  obtain ⟨_,h0⟩ | h:=tget_any h
  ·cases h0
  obtain ⟨_,h0⟩ | h:=tget_any h
  ·cases h0
  obtain ⟨_,h0⟩ | h:=tget_any h
  ·cases h0
  obtain ⟨_,h0⟩ | h:=tget_any h
  ·cases h0
  obtain ⟨_,h0⟩ | h:=tget_any h
  ·cases h0
  obtain ⟨_,h0⟩ | h:=tget_any h
  ·cases h0
  obtain ⟨_,h0⟩ | h:=tget_any h
  ·cases h0
  obtain ⟨_,h0⟩ | h:=tget_any h
  ·cases h0
  obtain ⟨_,h0⟩ | h:=tget_any h
  ·cases h0
  obtain ⟨_,h0⟩ | h:=tget_any h
  ·cases h0
  obtain ⟨_,h0⟩ | h:=tget_any h
  ·cases h0
  obtain ⟨_,h0⟩ | h:=tget_any h
  ·cases h0
  obtain ⟨_,h0⟩ | h:=tget_any h
  ·cases h0
  obtain ⟨_,h0⟩ | h:=tget_any h
  ·cases h0
  obtain ⟨_,h0⟩ | h:=tget_any h
  ·cases h0
  obtain ⟨_,h0⟩ | h:=tget_any h
  ·cases h0
  obtain ⟨_,h0⟩ | h:=tget_any h
  ·cases h0
  obtain ⟨_,h0⟩ | h:=tget_any h
  ·cases h0
  obtain ⟨_,h0⟩ | h:=tget_any h
  ·cases h0
  obtain ⟨_,h0⟩ | h:=tget_any h
  ·cases h0
  obtain ⟨_,h0⟩ | h:=tget_any h
  ·cases h0
  obtain ⟨_,h0⟩ | h:=tget_any h
  ·cases h0
  obtain ⟨_,h0⟩ | h:=tget_any h
  ·cases h0
  obtain ⟨_,h0⟩ | h:=tget_any h
  ·cases h0
  cases h
 mr:=by
  intro f d h
  obtain ⟨_,h0⟩ | h:=tget_any h
  ·cases h0
  obtain ⟨_,h0⟩ | h:=tget_any h
  ·cases h0
  obtain ⟨_,h0⟩ | h:=tget_any h
  ·cases h0
  obtain ⟨_,h0⟩ | h:=tget_any h
  ·cases h0
  obtain ⟨_,h0⟩ | h:=tget_any h
  ·cases h0
  obtain ⟨_,h0⟩ | h:=tget_any h
  ·cases h0
  obtain ⟨_,h0⟩ | h:=tget_any h
  ·cases h0
  obtain ⟨_,h0⟩ | h:=tget_any h
  ·cases h0
  obtain ⟨_,h0⟩ | h:=tget_any h
  ·cases h0
  obtain ⟨_,h0⟩ | h:=tget_any h
  ·cases h0
  obtain ⟨rfl,h0⟩ | h:=tget_any h
  ·cases h0;exact ok22
  obtain ⟨_,h0⟩ | h:=tget_any h
  ·cases h0
  obtain ⟨_,h0⟩ | h:=tget_any h
  ·cases h0
  obtain ⟨_,h0⟩ | h:=tget_any h
  ·cases h0
  obtain ⟨_,h0⟩ | h:=tget_any h
  ·cases h0
  obtain ⟨_,h0⟩ | h:=tget_any h
  ·cases h0
  obtain ⟨_,h0⟩ | h:=tget_any h
  ·cases h0
  obtain ⟨_,h0⟩ | h:=tget_any h
  ·cases h0
  obtain ⟨_,h0⟩ | h:=tget_any h
  ·cases h0
  obtain ⟨_,h0⟩ | h:=tget_any h
  ·cases h0
  obtain ⟨_,h0⟩ | h:=tget_any h
  ·cases h0
  obtain ⟨_,h0⟩ | h:=tget_any h
  ·cases h0
  obtain ⟨_,h0⟩ | h:=tget_any h
  ·cases h0
  obtain ⟨_,h0⟩ | h:=tget_any h
  ·cases h0
  obtain ⟨_,h0⟩ | h:=tget_any h
  ·cases h0
  obtain ⟨_,h0⟩ | h:=tget_any h
  ·cases h0
  obtain ⟨_,h0⟩ | h:=tget_any h
  ·cases h0
  obtain ⟨_,h0⟩ | h:=tget_any h
  ·cases h0
  obtain ⟨_,h0⟩ | h:=tget_any h
  ·cases h0
  obtain ⟨_,h0⟩ | h:=tget_any h
  ·cases h0
  obtain ⟨_,h0⟩ | h:=tget_any h
  ·cases h0
  obtain ⟨_,h0⟩ | h:=tget_any h
  ·cases h0
  obtain ⟨_,h0⟩ | h:=tget_any h
  ·cases h0
  obtain ⟨_,h0⟩ | h:=tget_any h
  ·cases h0
  obtain ⟨_,h0⟩ | h:=tget_any h
  ·cases h0
  obtain ⟨_,h0⟩ | h:=tget_any h
  ·cases h0
  obtain ⟨_,h0⟩ | h:=tget_any h
  ·cases h0
  obtain ⟨_,h0⟩ | h:=tget_any h
  ·cases h0
  obtain ⟨_,h0⟩ | h:=tget_any h
  ·cases h0
  obtain ⟨_,h0⟩ | h:=tget_any h
  ·cases h0
  obtain ⟨_,h0⟩ | h:=tget_any h
  ·cases h0
  obtain ⟨_,h0⟩ | h:=tget_any h
  ·cases h0
  obtain ⟨_,h0⟩ | h:=tget_any h
  ·cases h0
  obtain ⟨_,h0⟩ | h:=tget_any h
  ·cases h0
  obtain ⟨_,h0⟩ | h:=tget_any h
  ·cases h0
  obtain ⟨_,h0⟩ | h:=tget_any h
  ·cases h0
  obtain ⟨_,h0⟩ | h:=tget_any h
  ·cases h0
  obtain ⟨_,h0⟩ | h:=tget_any h
  ·cases h0
  obtain ⟨_,h0⟩ | h:=tget_any h
  ·cases h0
  obtain ⟨_,h0⟩ | h:=tget_any h
  ·cases h0
  obtain ⟨_,h0⟩ | h:=tget_any h
  ·cases h0
  obtain ⟨_,h0⟩ | h:=tget_any h
  ·cases h0
  obtain ⟨_,h0⟩ | h:=tget_any h
  ·cases h0
  obtain ⟨_,h0⟩ | h:=tget_any h
  ·cases h0
  obtain ⟨_,h0⟩ | h:=tget_any h
  ·cases h0
  obtain ⟨_,h0⟩ | h:=tget_any h
  ·cases h0
  obtain ⟨_,h0⟩ | h:=tget_any h
  ·cases h0
  obtain ⟨_,h0⟩ | h:=tget_any h
  ·cases h0
  obtain ⟨_,h0⟩ | h:=tget_any h
  ·cases h0
  obtain ⟨_,h0⟩ | h:=tget_any h
  ·cases h0
  obtain ⟨_,h0⟩ | h:=tget_any h
  ·cases h0
  obtain ⟨_,h0⟩ | h:=tget_any h
  ·cases h0
  obtain ⟨_,h0⟩ | h:=tget_any h
  ·cases h0
  obtain ⟨_,h0⟩ | h:=tget_any h
  ·cases h0
  obtain ⟨_,h0⟩ | h:=tget_any h
  ·cases h0
  obtain ⟨_,h0⟩ | h:=tget_any h
  ·cases h0
  obtain ⟨_,h0⟩ | h:=tget_any h
  ·cases h0
  obtain ⟨_,h0⟩ | h:=tget_any h
  ·cases h0
  obtain ⟨_,h0⟩ | h:=tget_any h
  ·cases h0
  obtain ⟨_,h0⟩ | h:=tget_any h
  ·cases h0
  obtain ⟨_,h0⟩ | h:=tget_any h
  ·cases h0
  obtain ⟨_,h0⟩ | h:=tget_any h
  ·cases h0
  obtain ⟨_,h0⟩ | h:=tget_any h
  ·cases h0
  obtain ⟨_,h0⟩ | h:=tget_any h
  ·cases h0
  obtain ⟨_,h0⟩ | h:=tget_any h
  ·cases h0
  obtain ⟨_,h0⟩ | h:=tget_any h
  ·cases h0
  obtain ⟨_,h0⟩ | h:=tget_any h
  ·cases h0
  obtain ⟨_,h0⟩ | h:=tget_any h
  ·cases h0
  obtain ⟨_,h0⟩ | h:=tget_any h
  ·cases h0
  obtain ⟨_,h0⟩ | h:=tget_any h
  ·cases h0
  obtain ⟨_,h0⟩ | h:=tget_any h
  ·cases h0
  obtain ⟨_,h0⟩ | h:=tget_any h
  ·cases h0
  obtain ⟨_,h0⟩ | h:=tget_any h
  ·cases h0
  obtain ⟨_,h0⟩ | h:=tget_any h
  ·cases h0
  obtain ⟨_,h0⟩ | h:=tget_any h
  ·cases h0
  obtain ⟨_,h0⟩ | h:=tget_any h
  ·cases h0
  obtain ⟨_,h0⟩ | h:=tget_any h
  ·cases h0
  obtain ⟨_,h0⟩ | h:=tget_any h
  ·cases h0
  obtain ⟨_,h0⟩ | h:=tget_any h
  ·cases h0
  obtain ⟨_,h0⟩ | h:=tget_any h
  ·cases h0
  obtain ⟨_,h0⟩ | h:=tget_any h
  ·cases h0
  obtain ⟨_,h0⟩ | h:=tget_any h
  ·cases h0
  obtain ⟨_,h0⟩ | h:=tget_any h
  ·cases h0
  obtain ⟨_,h0⟩ | h:=tget_any h
  ·cases h0
  obtain ⟨_,h0⟩ | h:=tget_any h
  ·cases h0
  obtain ⟨_,h0⟩ | h:=tget_any h
  ·cases h0
  obtain ⟨_,h0⟩ | h:=tget_any h
  ·cases h0
  obtain ⟨_,h0⟩ | h:=tget_any h
  ·cases h0
  obtain ⟨_,h0⟩ | h:=tget_any h
  ·cases h0
  obtain ⟨_,h0⟩ | h:=tget_any h
  ·cases h0
  obtain ⟨_,h0⟩ | h:=tget_any h
  ·cases h0
  obtain ⟨_,h0⟩ | h:=tget_any h
  ·cases h0
  obtain ⟨_,h0⟩ | h:=tget_any h
  ·cases h0
  obtain ⟨_,h0⟩ | h:=tget_any h
  ·cases h0
  obtain ⟨_,h0⟩ | h:=tget_any h
  ·cases h0
  obtain ⟨_,h0⟩ | h:=tget_any h
  ·cases h0
  obtain ⟨_,h0⟩ | h:=tget_any h
  ·cases h0
  obtain ⟨_,h0⟩ | h:=tget_any h
  ·cases h0
  obtain ⟨_,h0⟩ | h:=tget_any h
  ·cases h0
  obtain ⟨_,h0⟩ | h:=tget_any h
  ·cases h0
  obtain ⟨_,h0⟩ | h:=tget_any h
  ·cases h0
  obtain ⟨_,h0⟩ | h:=tget_any h
  ·cases h0
  obtain ⟨_,h0⟩ | h:=tget_any h
  ·cases h0
  obtain ⟨_,h0⟩ | h:=tget_any h
  ·cases h0
  obtain ⟨_,h0⟩ | h:=tget_any h
  ·cases h0
  obtain ⟨_,h0⟩ | h:=tget_any h
  ·cases h0
  obtain ⟨_,h0⟩ | h:=tget_any h
  ·cases h0
  obtain ⟨_,h0⟩ | h:=tget_any h
  ·cases h0
  obtain ⟨_,h0⟩ | h:=tget_any h
  ·cases h0
  obtain ⟨_,h0⟩ | h:=tget_any h
  ·cases h0
  obtain ⟨_,h0⟩ | h:=tget_any h
  ·cases h0
  obtain ⟨_,h0⟩ | h:=tget_any h
  ·cases h0
  obtain ⟨_,h0⟩ | h:=tget_any h
  ·cases h0
  obtain ⟨_,h0⟩ | h:=tget_any h
  ·cases h0
  obtain ⟨_,h0⟩ | h:=tget_any h
  ·cases h0
  obtain ⟨_,h0⟩ | h:=tget_any h
  ·cases h0
  obtain ⟨_,h0⟩ | h:=tget_any h
  ·cases h0
  obtain ⟨_,h0⟩ | h:=tget_any h
  ·cases h0
  obtain ⟨_,h0⟩ | h:=tget_any h
  ·cases h0
  obtain ⟨_,h0⟩ | h:=tget_any h
  ·cases h0
  obtain ⟨_,h0⟩ | h:=tget_any h
  ·cases h0
  obtain ⟨_,h0⟩ | h:=tget_any h
  ·cases h0
  obtain ⟨_,h0⟩ | h:=tget_any h
  ·cases h0
  obtain ⟨_,h0⟩ | h:=tget_any h
  ·cases h0
  obtain ⟨_,h0⟩ | h:=tget_any h
  ·cases h0
  obtain ⟨_,h0⟩ | h:=tget_any h
  ·cases h0
  obtain ⟨_,h0⟩ | h:=tget_any h
  ·cases h0
  obtain ⟨_,h0⟩ | h:=tget_any h
  ·cases h0
  obtain ⟨_,h0⟩ | h:=tget_any h
  ·cases h0
  obtain ⟨_,h0⟩ | h:=tget_any h
  ·cases h0
  obtain ⟨_,h0⟩ | h:=tget_any h
  ·cases h0
  obtain ⟨_,h0⟩ | h:=tget_any h
  ·cases h0
  obtain ⟨_,h0⟩ | h:=tget_any h
  ·cases h0
  obtain ⟨_,h0⟩ | h:=tget_any h
  ·cases h0
  obtain ⟨_,h0⟩ | h:=tget_any h
  ·cases h0
  obtain ⟨_,h0⟩ | h:=tget_any h
  ·cases h0
  obtain ⟨_,h0⟩ | h:=tget_any h
  ·cases h0
  obtain ⟨_,h0⟩ | h:=tget_any h
  ·cases h0
  obtain ⟨_,h0⟩ | h:=tget_any h
  ·cases h0
  obtain ⟨_,h0⟩ | h:=tget_any h
  ·cases h0
  obtain ⟨_,h0⟩ | h:=tget_any h
  ·cases h0
  obtain ⟨_,h0⟩ | h:=tget_any h
  ·cases h0
  obtain ⟨_,h0⟩ | h:=tget_any h
  ·cases h0
  cases h
 mix:=mix
 rk:=fun f r ct=>RkOf_gl (s:=sys0) (t:=sys) rfl
theorem tg9:tget T 9=some (.fn c9):=by rfl
theorem tg10:tget T 10=some (.fn c10):=by rfl
theorem tg12:tget T 12=some (.fn c12):=by rfl
theorem tg14:tget T 14=some (.fn c14):=by rfl
theorem tg17:tget T 17=some (.fn c17):=by rfl
theorem tg18:tget T 18=some (.fn c18):=by rfl
theorem tg19:tget T 19=some (.fn c19):=by rfl
theorem tg20:tget T 20=some (.fn c20):=by rfl
theorem tg21:tget T 21=some (.fn c21):=by rfl
theorem tg22:tget T 22=some (.mr c22):=by rfl
theorem tg23:tget T 23=some (.fn c23):=by rfl
theorem tg24:tget T 24=some (.fn c24):=by rfl
theorem tg25:tget T 25=some (.fn c25):=by rfl
theorem tg26:tget T 26=some (.fn c26):=by rfl
theorem tg27:tget T 27=some (.fn c27):=by rfl
theorem tg28:tget T 28=some (.fn c28):=by rfl
theorem tg29:tget T 29=some (.fn c29):=by rfl
theorem tg30:tget T 30=some (.fn c30):=by rfl
theorem tg31:tget T 31=some (.fn c31):=by rfl
theorem tg36:tget T 36=some (.fn c36):=by rfl
theorem tg37:tget T 37=some (.fn c37):=by rfl
theorem tg38:tget T 38=some (.fn c38):=by rfl
theorem tg39:tget T 39=some (.fn c39):=by rfl
theorem tg40:tget T 40=some (.fn c40):=by rfl
theorem tg41:tget T 41=some (.fn c41):=by rfl
theorem tg42:tget T 42=some (.fn c42):=by rfl
theorem tg43:tget T 43=some (.fn c43):=by rfl
theorem tg44:tget T 44=some (.fn c44):=by rfl
theorem tg45:tget T 45=some (.fn c45):=by rfl
theorem tg46:tget T 46=some (.fn c46):=by rfl
theorem tg47:tget T 47=some (.fn c47):=by rfl
theorem tg48:tget T 48=some (.fn c48):=by rfl
theorem tg49:tget T 49=some (.fn c49):=by rfl
theorem tg50:tget T 50=some (.fn c50):=by rfl
theorem tg62:tget T 62=some (.fn c62):=by rfl
theorem tg63:tget T 63=some (.fn c63):=by rfl
theorem tg64:tget T 64=some (.fn c64):=by rfl
theorem tg65:tget T 65=some (.fn c65):=by rfl
theorem tg66:tget T 66=some (.fn c66):=by rfl
theorem tg67:tget T 67=some (.fn c67):=by rfl
theorem tg68:tget T 68=some (.fn c68):=by rfl
theorem tg69:tget T 69=some (.fn c69):=by rfl
theorem tg70:tget T 70=some (.fn c70):=by rfl
theorem tg71:tget T 71=some (.fn c71):=by rfl
theorem tg72:tget T 72=some (.fn c72):=by rfl
theorem tg73:tget T 73=some (.fn c73):=by rfl
theorem tg74:tget T 74=some (.fn c74):=by rfl
theorem tg75:tget T 75=some (.fn c75):=by rfl
theorem tg76:tget T 76=some (.fn c76):=by rfl
theorem tg77:tget T 77=some (.fn c77):=by rfl
theorem tg78:tget T 78=some (.fn c78):=by rfl
theorem tg80:tget T 80=some (.fn c80):=by rfl
theorem tg82:tget T 82=some (.fn c82):=by rfl
theorem tg84:tget T 84=some (.fn c84):=by rfl
theorem tg87:tget T 87=some (.fn c87):=by rfl
theorem tg88:tget T 88=some (.fn c88):=by rfl
theorem tg89:tget T 89=some (.fn c89):=by rfl
theorem tg90:tget T 90=some (.fn c90):=by rfl
theorem tg91:tget T 91=some (.fn c91):=by rfl
theorem tg112:tget T 112=some (.fn c112):=by rfl
theorem tg113:tget T 113=some (.fn c113):=by rfl
theorem tg114:tget T 114=some (.fn c114):=by rfl
theorem tg115:tget T 115=some (.fn c115):=by rfl
theorem tg117:tget T 117=some (.fn c117):=by rfl
theorem tg118:tget T 118=some (.fn c118):=by rfl
theorem tg119:tget T 119=some (.fn c119):=by rfl
theorem tg120:tget T 120=some (.fn c120):=by rfl
theorem tg121:tget T 121=some (.fn c121):=by rfl
theorem tg122:tget T 122=some (.fn c122):=by rfl
theorem tg123:tget T 123=some (.fn c123):=by rfl
theorem tg124:tget T 124=some (.fn c124):=by rfl
theorem tg125:tget T 125=some (.fn c125):=by rfl
theorem tg126:tget T 126=some (.fn c126):=by rfl
theorem tg127:tget T 127=some (.fn c127):=by rfl
theorem tg128:tget T 128=some (.fn c128):=by rfl
theorem tg129:tget T 129=some (.fn c129):=by rfl
theorem tg130:tget T 130=some (.fn c130):=by rfl
theorem tg131:tget T 131=some (.fn c131):=by rfl
theorem tg132:tget T 132=some (.fn c132):=by rfl
theorem tg135:tget T 135=some (.fn c135):=by rfl
theorem tg136:tget T 136=some (.fn c136):=by rfl
theorem tg137:tget T 137=some (.fn c137):=by rfl
theorem tg138:tget T 138=some (.fn c138):=by rfl
theorem tg139:tget T 139=some (.fn c139):=by rfl
theorem tg140:tget T 140=some (.fn c140):=by rfl
theorem tg141:tget T 141=some (.fn c141):=by rfl
theorem tg156:tget T 156=some (.fn c156):=by rfl
theorem tg163:tget T 163=some (.fn c163):=by rfl
theorem tg164:tget T 164=some (.fn c164):=by rfl
theorem tg165:tget T 165=some (.fn c165):=by rfl
theorem tg166:tget T 166=some (.fn c166):=by rfl
theorem tg167:tget T 167=some (.fn c167):=by rfl
theorem tg168:tget T 168=some (.fn c168):=by rfl
theorem tg169:tget T 169=some (.fn c169):=by rfl
theorem tg170:tget T 170=some (.fn c170):=by rfl
theorem tg171:tget T 171=some (.fn c171):=by rfl
theorem tg172:tget T 172=some (.fn c172):=by rfl
theorem tg173:tget T 173=some (.fn c173):=by rfl
theorem tg174:tget T 174=some (.fn c174):=by rfl
theorem tg175:tget T 175=some (.fn c175):=by rfl
theorem tg176:tget T 176=some (.fn c176):=by rfl
theorem tg177:tget T 177=some (.fn c177):=by rfl
theorem tg178:tget T 178=some (.fn c178):=by rfl
theorem tg179:tget T 179=some (.fn c179):=by rfl
theorem tg180:tget T 180=some (.fn c180):=by rfl
theorem tg181:tget T 181=some (.fn c181):=by rfl
theorem tg182:tget T 182=some (.fn c182):=by rfl
theorem tg183:tget T 183=some (.fn c183):=by rfl
theorem tg184:tget T 184=some (.fn c184):=by rfl
theorem tg185:tget T 185=some (.fn c185):=by rfl
theorem tg186:tget T 186=some (.fn c186):=by rfl
theorem tg196:tget T 196=some (.fn c196):=by rfl
theorem tg1002000:tget T 1002000=some (.rd r1002000):=by rfl
theorem tg1002300:tget T 1002300=some (.rd r1002300):=by rfl
theorem tg1002500:tget T 1002500=some (.rd r1002500):=by rfl
theorem tg1004400:tget T 1004400=some (.rd r1004400):=by rfl
theorem tg1004700:tget T 1004700=some (.rd r1004700):=by rfl
end Go.Proofs.YtjmppkmacaeahaaGreatDoor.Fi
