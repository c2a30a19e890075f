/- Parts of the proof, one behind the other. -/
import Derived.Test.YtlcbcacnbjekpaaDoorProg
import Derived.Test.YtlcbcacnbjekpaaDoorBS3
import Derived.Test.YtlcbcacnbjekpaaDoorBS4
set_option linter.all false
namespace Go.Proofs.YtlcbcacnbjekpaaDoor.Fi
open Go.FI
def gl1:List FV:=dataCells (.agg [.agg [.s [],.i .i64 0,.i .i64 0],.agg [.s [],.i .i64 0,.i .i64 0],.agg [.s [],.i .i64 0,.i .i64 0],.agg [.s [110,111,116],.i .i64 1,.i .i64 1],.agg [.s [110,101,103],.i .i64 1,.i .i64 1],.agg [.s [97,100,100],.i .i64 2,.i .i64 1],.agg [.s [115,117,98],.i .i64 2,.i .i64 1],.agg [.s [109,117,108],.i .i64 2,.i .i64 1],.agg [.s [97,110,100],.i .i64 2,.i .i64 1],.agg [.s [111,114],.i .i64 2,.i .i64 1],.agg [.s [120,111,114],.i .i64 2,.i .i64 1],.agg [.s [115,104,108],.i .i64 2,.i .i64 1],.agg [.s [115,104,114],.i .i64 2,.i .i64 1],.agg [.s [115,97,114],.i .i64 2,.i .i64 1],.agg [.s [117,100,105,118],.i .i64 2,.i .i64 1],.agg [.s [117,114,101,109],.i .i64 2,.i .i64 1],.agg [.s [101,113],.i .i64 2,.i .i64 2],.agg [.s [117,108,116],.i .i64 2,.i .i64 2],.agg [.s [115,108,116],.i .i64 2,.i .i64 2],.agg [.s [105,116,101],.i .i64 3,.i .i64 3],.agg [.s [99,111,110,99,97,116],.i .i64 2,.i .i64 4],.agg [.s [101,120,116,114,97,99,116],.i .i64 1,.i .i64 5],.agg [.s [122,101,120,116],.i .i64 1,.i .i64 6],.agg [.s [115,101,120,116],.i .i64 1,.i .i64 6],.agg [.s [108,111,97,100],.i .i64 1,.i .i64 7]]:Dt)
def c5:FI.Fn:={ body:=(.sq (.rg none [Qo 4 (.bx 3 (.t 0)),Qo 8 (.mv (.c (.bool false)))] [1,2,3,4]) (.sq (.rg none [Qo 17 (.cl 6 []),Mv 9 17] [1,2,3,4,9]) (.sq (.sq (.rg none [Qo 18 (.ld (some 3) (.t 4)),Qo 19 (.cl 20 [(.t 18)]),Mv 20 19,Gd 21 20 false (.fa 1 (.t 4)),Gd 22 20 false (.ld none (.t 21)),Gd 23 20 false (.ln 1 (.t 22)),Gd 24 20 false (.bo .gtr (.t 23) (.c (.int .i64 2000))),Qo 25 (.pk (.t 20) (.c (.bool true)) (.t 24)),Mv 26 25,Gm 27 26 false 1,Gd 28 26 false (.ln 1 (.t 27)),Gd 29 26 false (.bo .gtr (.t 28) (.c (.int .i64 700))),Qo 30 (.pk (.t 26) (.c (.bool true)) (.t 29)),Mv 31 30,Gm 32 31 false 9,Gd 33 31 false (.un .not (.t 32)),Qo 34 (.pk (.t 31) (.c (.bool true)) (.t 33))] [1,2,3,4,9,34]) (.cd (.t 34) (.sq (.rg none [Mv 35 9,Mv 8 35] [8]) .rt) .sk)) (.sq (.rg none [Qo 37 (.ld (some 3) (.t 4)),Mv 38 2,Qo 39 (.cl 17 [(.t 37),(.t 38)]),Mv 36 39,Qo 40 (.ex (.t 36) 0),Qo 41 (.ex (.t 36) 1),Qo 42 (.ex (.t 36) 2),Mv 10 40,Mv 11 41,Mv 12 42] [1,2,3,4,9,11,12]) (.sq (.rg none [Qo 44 (.ld (some 3) (.t 4)),Mv 45 1,Qo 46 (.cl 15 [(.t 44),(.t 45)]),Mv 43 46,Qo 47 (.ex (.t 43) 0),Qo 48 (.ex (.t 43) 1),Mv 13 47,Mv 14 48] [1,2,3,4,9,11,12,13,14]) (.sq (.sq (.rg none [Mv 49 12,Qo 50 (.bo .neq (.t 49) (.c (.int .i64 0))),Mv 51 50,Gm 52 51 false 14,Gd 53 51 false (.bo .neq (.t 52) (.c (.int .i64 0))),Qo 54 (.pk (.t 51) (.c (.bool true)) (.t 53))] [1,2,3,4,9,11,13,54]) (.cd (.t 54) (.sq (.rg none [Mv 55 9,Mv 8 55] [8]) .rt) .sk)) (.sq (.rg none [Qo 56 (.ld (some 3) (.t 4)),Mv 57 1,Qo 58 (.cl 21 [(.t 56),(.t 57)]),Mv 15 58] [2,3,4,9,11,13,15]) (.sq (.sq (.rg (some (List.range 14)) [Mv 59 2,Mv 60 13,Qo 61 (.ln 1 (.t 60)),Qo 62 (.bo .geq (.t 59) (.t 61)),Mv 63 62,Gm 64 63 false 11,Gm 65 63 false 15,Gd 66 63 false (.cl 22 [(.t 64),(.t 65)]),Gm 67 63 false 13,Gm 68 63 false 2,Gd 69 63 false (.ia 1 (.t 67) (.t 68)),Gd 70 63 false (.ld none (.t 69)),Gd 71 63 false (.be true (.t 66) (.t 70)),Qo 72 (.pk (.t 63) (.c (.bool true)) (.t 71))] [3,4,9,11,15,72]) (.cd (.t 72) (.sq (.rg none [Qo 8 (.mv (.c (.bool false)))] [8]) .rt) .sk)) (.sq (.rg none [Qo 73 (.fa 0 (.t 4)),Qo 74 (.ld none (.t 73)),Qo 75 (.ln 1 (.t 74)),Qo 76 (.bo .add (.c (.int .i64 1)) (.t 75)),Mv 16 76] [3,9,11,15,16]) (.sq (.sq (.rg none [Mv 77 3,Mv 78 16,Qo 79 (.bo .lss (.t 77) (.t 78)),Mv 80 79,Gm 81 80 false 3,Gm 82 80 false 15,Gd 83 80 false (.ln 1 (.t 82)),Gd 84 80 false (.bo .geq (.t 81) (.t 83)),Qo 85 (.pk (.t 80) (.c (.bool true)) (.t 84))] [3,9,11,15,85]) (.cd (.t 85) (.sq (.rg none [Mv 86 9,Mv 8 86] [8]) .rt) .sk)) (.sq (.rg none [Mv 87 15,Mv 88 3,Mv 89 15,Mv 90 3,Qo 91 (.ia 1 (.t 89) (.t 90)),Qo 92 (.ld none (.t 91)),Qo 93 (.un .not (.t 92)),Qo 94 (.ia 1 (.t 87) (.t 88)),Eo (.st 1 (.t 94) (.t 93))] [9,11,15]) (.sq (.rg none [Mv 95 9,Mv 96 95,Gm 97 96 true 11,Gm 98 96 true 15,Gd 99 96 true (.cl 22 [(.t 97),(.t 98)]),Gd 100 96 true (.un .not (.t 99)),Qo 101 (.pk (.t 96) (.t 100) (.c (.bool false))),Mv 8 101] [8]) .rt)))))))))))),np:=4,res:=[.t 8],mode:=.iso }
def c6:FI.Fn:={ body:=(.sq (.rg none [Qo 0 (.mv (.c (.bool false)))] []) (.sq (.rg none [Qo 8 (.cl 13 [(.c (.str [97])),(.c (.int .i64 2))]),Qo 9 (.cl 13 [(.c (.str [98])),(.c (.int .i64 2))]),Qo 10 (.bs 6 2 (.agg [(.int .u8 0),(.int .i64 0),(.int .u64 0),(.str []),(.int .i64 0),(.lst true [])]) [(0,(.t 8)),(1,(.t 9))]),Qo 11 (.cl 14 [(.c (.int .u8 8)),(.c (.int .i64 2)),(.t 10)]),Qo 12 (.cl 8 [(.t 11)]),Mv 7 12,Qo 13 (.ex (.t 7) 0),Qo 14 (.ex (.t 7) 1),Qo 1 (.al 3 (.agg [(.lst true []),(.lst true []),(.lst true [])])),Eo (.st 3 (.t 1) (.t 13)),Mv 2 14] [1,2]) (.sq (.rg none [Qo 16 (.ld (some 3) (.t 1)),Qo 17 (.bd [(.str []),(.int .i64 0),(.int .u64 0)] [(0,1,(.c (.str [97]))),(1,1,(.c (.int .i64 2))),(2,1,(.c (.int .u64 3)))]),Qo 18 (.bd [(.str []),(.int .i64 0),(.int .u64 0)] [(0,1,(.c (.str [98]))),(1,1,(.c (.int .i64 2))),(2,1,(.c (.int .u64 2)))]),Qo 19 (.bs 3 2 (.agg [(.str []),(.int .i64 0),(.int .u64 0)]) [(0,(.t 17)),(1,(.t 18))]),Qo 20 (.cl 16 [(.t 16),(.t 19)]),Mv 15 20,Qo 21 (.ex (.t 15) 0),Qo 22 (.ex (.t 15) 1),Mv 3 21,Mv 4 22] [1,2,3,4]) (.sq (.rg none [Qo 24 (.ld (some 3) (.t 1)),Mv 25 3,Qo 26 (.cl 15 [(.t 24),(.t 25)]),Mv 23 26,Qo 27 (.ex (.t 23) 0),Qo 28 (.ex (.t 23) 1),Mv 5 27,Mv 6 28] [1,2,3,4,5,6]) (.sq (.rg none [Mv 29 2,Qo 30 (.bo .eql (.t 29) (.c (.int .i64 0))),Mv 31 30,Gd 32 31 true (.fa 0 (.t 1)),Gd 33 31 true (.ld none (.t 32)),Gd 34 31 true (.ln 1 (.t 33)),Gd 35 31 true (.bo .eql (.t 34) (.c (.int .i64 4))),Qo 36 (.pk (.t 31) (.t 35) (.c (.bool false))),Mv 37 36,Gd 38 37 true (.fa 0 (.t 1)),Gd 39 37 true (.ld none (.t 38)),Gd 40 37 true (.ia 2 (.t 39) (.c (.int .i64 1))),Gd 41 37 true (.ld (some 2) (.t 40)),Gd 42 37 true (.bd [(.str []),(.int .i64 0)] [(0,1,(.c (.str [97]))),(1,1,(.c (.int .i64 1)))]),Gd 43 37 true (.eq false [1,0] (.t 41) (.t 42)),Qo 44 (.pk (.t 37) (.t 43) (.c (.bool false))),Mv 45 44,Gm 46 45 true 4,Gd 47 45 true (.bo .eql (.t 46) (.c (.int .i64 0))),Qo 48 (.pk (.t 45) (.t 47) (.c (.bool false))),Mv 49 48,Gm 50 49 true 3,Gd 51 49 true (.bs 1 4 (.bool false) [(0,(.c (.bool true))),(1,(.c (.bool true))),(2,(.c (.bool false))),(3,(.c (.bool true)))]),Gd 52 49 true (.cl 18 [(.t 50),(.t 51)]),Qo 53 (.pk (.t 49) (.t 52) (.c (.bool false))),Mv 54 53,Gm 55 54 true 6,Gd 56 54 true (.bo .eql (.t 55) (.c (.int .i64 0))),Qo 57 (.pk (.t 54) (.t 56) (.c (.bool false))),Mv 58 57,Gm 59 58 true 5,Gd 60 58 true (.bs 1 2 (.bool false) [(0,(.c (.bool false))),(1,(.c (.bool true)))]),Gd 61 58 true (.cl 18 [(.t 59),(.t 60)]),Qo 62 (.pk (.t 58) (.t 61) (.c (.bool false))),Mv 0 62] [0]) .rt))))),np:=0,res:=[.t 0],mode:=.iso }
def b8_0:C:=(.sq (.rg none [Qo 37 (.bo .lss (.t 36) (.t 35))] [1,2,6,8,28,29,30,35,36,37]) (.sq (.cd (.t 37) .sk (.xt 2)) (.sq (.bl 3 (.sq (.rg none [Mv 38 36,Mv 9 38] [1,2,6,8,9,28,29,30,35,36]) (.sq (.rg none [Qo 39 (.fa 0 (.t 8)),Qo 40 (.ld none (.t 39)),Mv 41 9,Qo 42 (.bd [(.str []),(.int .i64 0)] [(0,1,(.t 40)),(1,1,(.t 41))]),Qo 10 (.al 2 (.agg [(.str []),(.int .i64 0)])),Eo (.st 2 (.t 10) (.t 42))] [1,2,6,8,10,28,29,30,35,36]) (.sq (.rg (some (List.range 13)) [Mv 43 6,Mv 44 6,Qo 45 (.nc (.t 44)),Qo 46 (.fa 0 (.t 45)),Qo 47 (.fa 0 (.t 46)),Qo 48 (.ld none (.t 47)),Qo 49 (.ld (some 2) (.t 10)),Qo 50 (.bs 2 1 (.agg [(.str []),(.int .i64 0)]) [(0,(.t 49))]),Qo 51 (.ap 2 24 (.t 48) (.t 50)),Qo 52 (.nc (.t 43)),Qo 53 (.fa 0 (.t 52)),Qo 54 (.fa 0 (.t 53)),Eo (.st 1 (.t 54) (.t 51))] [1,2,6,8,10,28,29,30,35,36]) (.rg (some (List.range 13)) [Mv 55 6,Qo 56 (.nc (.t 55)),Qo 57 (.fa 4 (.t 56)),Qo 58 (.ld none (.t 57)),Qo 59 (.ld (some 2) (.t 10)),Mv 60 6,Qo 61 (.nc (.t 60)),Qo 62 (.fa 0 (.t 61)),Qo 63 (.fa 0 (.t 62)),Qo 64 (.ld none (.t 63)),Qo 65 (.ln 1 (.t 64)),Qo 66 (.bo .mul (.c (.int .i64 2)) (.t 65)),Eo (.mu 3 (.t 58) (.t 59) (.t 66))] [1,2,6,8,28,29,30,35,36]))))) (.rg none [Qo 67 (.bo .add (.t 36) (.c (.int .i64 1))),Mv 36 67] [1,2,6,8,28,29,30,35,36]))))
def k8_1:C:=(.rg none [Qo 68 (.bo .add (.t 30) (.c (.int .i64 1))),Mv 30 68] [1,2,6,28,29,30])
def b8_2:C:=(.sq (.rg none [Qo 31 (.bo .lss (.t 30) (.t 29))] [1,2,6,28,29,30,31]) (.sq (.cd (.t 31) .sk (.xt 0)) (.sq (.bl 1 (.sq (.rg none [Qo 32 (.ia 3 (.t 28) (.t 30)),Qo 33 (.ld (some 3) (.t 32)),Qo 8 (.al 3 (.agg [(.str []),(.int .i64 0),(.int .u64 0)])),Eo (.st 3 (.t 8) (.t 33))] [1,2,6,8,28,29,30]) (.sq (.rg none [Qo 34 (.fa 1 (.t 8)),Qo 35 (.ld none (.t 34)),Qo 36 (.mv (.c (.int .i64 0)))] [1,2,6,8,28,29,30,35,36]) (.bl 2 (.lp false b8_0))))) k8_1)))
def k8_3:C:=(.sq (.sq (.rg none [Mv 69 6,Qo 70 (.nc (.t 69)),Qo 71 (.fa 0 (.t 70)),Qo 72 (.fa 0 (.t 71)),Qo 73 (.ld none (.t 72)),Qo 74 (.ln 1 (.t 73)),Qo 75 (.bo .gtr (.t 74) (.c (.int .i64 512))),Mv 76 75,Gd 77 76 false (.ld (some 6) (.t 1)),Gd 78 76 false (.cl 25 [(.t 77)]),Gd 79 76 false (.bo .gtr (.t 78) (.c (.int .i64 100000))),Qo 80 (.pk (.t 76) (.c (.bool true)) (.t 79))] [1,2,6,80]) (.cd (.t 80) (.sq (.rg none [Qo 81 (.bd [(.lst true []),(.lst true []),(.lst true [])] []),Eo (.st 3 (.t 2) (.t 81)),Qo 3 (.mv (.c (.int .i64 4)))] [2,3]) .rt) .sk)) (.sq (.rg none [Mv 82 6,Mv 83 6,Qo 84 (.ld (some 6) (.t 1)),Qo 85 (.cl 27 [(.t 83),(.t 84)]),Qo 86 (.cl 26 [(.t 85)]),Qo 87 (.nc (.t 82)),Qo 88 (.fa 0 (.t 87)),Qo 89 (.fa 2 (.t 88)),Eo (.st 1 (.t 89) (.t 86))] [2,6]) (.sq (.rg none [Mv 90 6,Qo 91 (.nc (.t 90)),Qo 92 (.fa 0 (.t 91)),Qo 93 (.ld (some 3) (.t 92)),Eo (.st 3 (.t 2) (.t 93)),Qo 3 (.mv (.c (.int .i64 0)))] [2,3]) .rt)))
def c8:FI.Fn:={ body:=(.sq (.rg none [Qo 1 (.bx 6 (.t 0)),Qo 2 (.al 3 (.agg [(.lst true []),(.lst true []),(.lst true [])])),Qo 3 (.mv (.c (.int .i64 0)))] [1,2]) (.sq (.rg none [Qo 12 (.ld (some 6) (.t 1)),Qo 13 (.cl 9 [(.t 12)]),Mv 11 13,Qo 14 (.ex (.t 11) 0),Qo 15 (.ex (.t 11) 1),Mv 4 14,Mv 5 15] [1,2,4,5]) (.sq (.sq (.rg none [Mv 16 5,Qo 17 (.bo .neq (.t 16) (.c (.int .i64 0)))] [1,2,4,5,17]) (.cd (.t 17) (.sq (.rg none [Qo 18 (.bd [(.lst true []),(.lst true []),(.lst true [])] []),Mv 19 5,Eo (.st 3 (.t 2) (.t 18)),Mv 3 19] [2,3]) .rt) .sk)) (.sq (.sq (.rg none [Qo 20 (.ld (some 6) (.t 1)),Qo 21 (.cl 10 [(.t 20)]),Qo 22 (.un .not (.t 21))] [1,2,4,22]) (.cd (.t 22) (.sq (.rg none [Qo 23 (.bd [(.lst true []),(.lst true []),(.lst true [])] []),Eo (.st 3 (.t 2) (.t 23)),Qo 3 (.mv (.c (.int .i64 2)))] [2,3]) .rt) .sk)) (.sq (.rg none [Qo 24 (.mm),Qo 25 (.mm),Qo 26 (.bd [(.lst true []),(.lst true []),(.lst true []),.nilm,.nilm] [(3,1,(.t 24)),(4,1,(.t 25))]),Qo 27 (.bx 5 (.t 26)),Mv 6 27] [1,2,4,6]) (.sq (.sq (.rg none [Mv 28 4,Qo 29 (.ln 1 (.t 28)),Qo 30 (.mv (.c (.int .i64 0)))] [1,2,6,28,29,30]) (.bl 0 (.lp false b8_2))) k8_3)))))),np:=1,res:=[.cell 2 (some 3),.t 3],mode:=.iso }
def b9_0:C:=(.rg none [Mv 27 7,Mv 28 8,Mv 29 9,Qo 30 (.bd [(.str []),(.int .i64 0),(.int .u64 0)] [(0,1,(.t 28)),(1,1,(.t 29))]),Qo 31 (.bs 3 1 (.agg [(.str []),(.int .i64 0),(.int .u64 0)]) [(0,(.t 30))]),Qo 32 (.ap 3 32 (.t 27) (.t 31)),Mv 7 32] [2,3,7,21])
def k9_1:C:=(.sq (.rg none [Mv 33 7,Qo 34 (.cl 30 [(.t 33),(.c (.fn 31 []))])] [2,3,7]) (.sq (.rg none [Mv 35 7,Mv 2 35,Qo 3 (.mv (.c (.int .i64 0)))] [2,3]) .rt))
def c9:FI.Mr:={ pre:=[(.rg none [Qo 1 (.bx 6 (.t 0)),Qo 2 (.mv (.c (.lst true []))),Qo 3 (.mv (.c (.int .i64 0)))] [1,2,3]),(.sq (.rg none [Qo 10 (.ld (some 6) (.t 1)),Qo 11 (.cl 28 [(.t 10)]),Mv 4 11] [1,2,3,4]) (.sq (.rg none [Mv 12 4,Qo 13 (.bo .neq (.t 12) (.c (.int .i64 0)))] [1,2,3,4,13]) (.cd (.t 13) (.sq (.rg none [Mv 14 4,Qo 2 (.mv (.c (.lst true []))),Mv 3 14] [2,3]) .rt) .sk))),(.rg none [Qo 16 (.ld (some 6) (.t 1)),Qo 17 (.cl 29 [(.t 16)]),Mv 15 17,Qo 18 (.ex (.t 15) 0),Qo 19 (.ex (.t 15) 1),Mv 5 18,Mv 6 19] [2,3,5]),(.rg none [Qo 7 (.nl 3)] [2,3,5,7])],keep0:=[2,3,7,21],mp:=5,it:=21,d:=24,ops:=[Qo 25 (.ex (.t 24) 0),Qo 26 (.ex (.t 24) 1),Mv 8 25,Mv 9 26],keep:=[2,3,7,8,9,21],body:=b9_0,post:=k9_1,np:=1,res:=[.t 2,.t 3] }
def b10_0:C:=(.bl 1 (.sq (.rg none [Qo 10 (.fa 0 (.t 3)),Qo 11 (.ld none (.t 10)),Qo 12 (.bo .eql (.t 11) (.c (.int .u8 24)))] [2,12]) (.cd (.t 12) (.sq (.rg none [Eo (.st 1 (.t 2) (.c (.bool false)))] [2]) .rt) .sk)))
def a10_1:C:=(.rg none [Qo 3 (.al 6 (.agg [(.int .u8 0),(.int .i64 0),(.int .u64 0),(.str []),(.int .i64 0),(.lst true [])])),Eo (.st 6 (.t 3) (.t 9))] [2,3])
def k10_2:C:=(.sq (.rg none [Eo (.st 1 (.t 2) (.c (.bool true)))] [2]) .rt)
def r1001000:FI.Rd:={ ps:=[9],ct:=[2],asg:=a10_1,body:=b10_0 }
def c10:FI.Fn:={ body:=(.sq (.rg none [Qo 1 (.bx 6 (.t 0)),Qo 2 (.al 1 (.bool false))] [1,2]) (.sq (.sq (.rg none [Qo 4 (.ld (some 6) (.t 1)),Qo 5 (.cl 28 [(.t 4)]),Qo 6 (.bo .neq (.t 5) (.c (.int .i64 0)))] [1,2,6]) (.cd (.t 6) (.sq (.rg none [Eo (.st 1 (.t 2) (.c (.bool false)))] [2]) .rt) .sk)) (.sq (.sq (.rg none [Qo 7 (.ld (some 6) (.t 1)),Qo 8 (.cl 33 [(.t 7)])] [2,8]) (.bl 0 (.rf 1001000 (.t 8) [2]))) k10_2))),np:=1,res:=[.cell 2 none],mode:=.iso }
def b12_0:C:=(.sq (.rg none [Qo 32 (.bo .lss (.t 31) (.t 30))] [1,29,30,31,32]) (.sq (.cd (.t 32) .sk (.xt 0)) (.sq (.bl 1 (.sq (.rg none [Mv 33 31,Qo 34 (.ia 2 (.t 29) (.t 31)),Qo 35 (.ld (some 2) (.t 34)),Qo 4 (.al 2 (.agg [(.str []),(.int .i64 0)])),Mv 3 33,Eo (.st 2 (.t 4) (.t 35))] [1,3,4,29,30,31]) (.sq (.rg none [Qo 36 (.fa 0 (.t 4)),Qo 37 (.ld none (.t 36)),Qo 38 (.cl 35 [(.t 37),(.c (.str [114,46]))]),Qo 39 (.cl 34 [(.t 38)]),Mv 5 39] [1,3,4,5,29,30,31]) (.sq (.rg (some (List.range 27)) [Mv 40 5,Qo 41 (.un .not (.t 40)),Mv 42 41,Gd 43 42 false (.fa 1 (.t 4)),Gd 44 42 false (.ld none (.t 43)),Gd 45 42 false (.bo .lss (.t 44) (.c (.int .i64 0))),Qo 46 (.pk (.t 42) (.c (.bool true)) (.t 45)),Mv 47 46,Gd 48 47 false (.fa 1 (.t 4)),Gd 49 47 false (.ld none (.t 48)),Gd 50 47 false (.bo .geq (.t 49) (.c (.int .i64 64))),Qo 51 (.pk (.t 47) (.c (.bool true)) (.t 50)),Mv 52 51,Gm 53 52 false 3,Gd 54 52 false (.bo .gtr (.t 53) (.c (.int .i64 0))),Gm 55 52 false 54,Gd 56 55 true (.fa 0 (.t 1)),Gd 57 55 true (.ld none (.t 56)),Gm 58 55 true 3,Gd 59 55 true (.bo .sub (.t 58) (.c (.int .i64 1))),Gd 60 55 true (.ia 2 (.t 57) (.t 59)),Gd 61 55 true (.ld (some 2) (.t 60)),Gd 62 55 true (.ld (some 2) (.t 4)),Gd 63 55 true (.cl 36 [(.t 61),(.t 62)]),Gd 64 55 true (.un .not (.t 63)),Gd 65 52 false (.pk (.t 55) (.t 64) (.c (.bool false))),Qo 66 (.pk (.t 52) (.c (.bool true)) (.t 65))] [1,29,30,31,66]) (.cd (.t 66) (.sq (.rg none [Qo 2 (.mv (.c (.int .i64 8)))] [2]) .rt) .sk))))) (.rg none [Qo 67 (.bo .add (.t 31) (.c (.int .i64 1))),Mv 31 67] [1,29,30,31]))))
def b12_1:C:=(.sq (.rg none [Qo 76 (.bo .lss (.t 75) (.t 74))] [1,6,73,74,75,76]) (.sq (.cd (.t 76) .sk (.xt 2)) (.sq (.bl 3 (.sq (.rg none [Mv 77 75,Qo 78 (.ia 2 (.t 73) (.t 75)),Qo 79 (.ld (some 2) (.t 78)),Qo 8 (.al 2 (.agg [(.int .i64 0),(.int .i64 0)])),Mv 7 77,Eo (.st 2 (.t 8) (.t 79))] [1,6,7,8,73,74,75]) (.sq (.rg none [Mv 80 6,Mv 81 7,Qo 82 (.bo .add (.t 80) (.t 81)),Qo 83 (.bo .mul (.c (.int .i64 2)) (.t 82)),Mv 9 83] [1,6,8,9,73,74,75]) (.sq (.rg none [Qo 84 (.fa 0 (.t 8)),Qo 85 (.ld none (.t 84)),Qo 86 (.fa 1 (.t 8)),Qo 87 (.ld none (.t 86)),Qo 88 (.mn (.t 85) (.t 87)),Qo 89 (.bo .lss (.t 88) (.c (.int .i64 0))),Mv 90 89,Gd 91 90 false (.fa 0 (.t 8)),Gd 92 90 false (.ld none (.t 91)),Gd 93 90 false (.fa 1 (.t 8)),Gd 94 90 false (.ld none (.t 93)),Gd 95 90 false (.mx (.t 92) (.t 94)),Gm 96 90 false 9,Gd 97 90 false (.bo .geq (.t 95) (.t 96)),Qo 98 (.pk (.t 90) (.c (.bool true)) (.t 97))] [1,6,73,74,75,98]) (.cd (.t 98) (.sq (.rg none [Qo 2 (.mv (.c (.int .i64 8)))] [2]) .rt) .sk))))) (.rg none [Qo 99 (.bo .add (.t 75) (.c (.int .i64 1))),Mv 75 99] [1,6,73,74,75]))))
def b12_2:C:=(.sq (.rg none [Qo 104 (.bo .lss (.t 103) (.t 102))] [1,6,101,102,103,104]) (.sq (.cd (.t 104) .sk (.xt 4)) (.sq (.bl 5 (.sq (.rg none [Qo 105 (.ia 1 (.t 101) (.t 103)),Qo 106 (.ld none (.t 105)),Mv 11 106] [1,6,11,101,102,103]) (.sq (.rg none [Mv 107 11,Qo 108 (.bo .lss (.t 107) (.c (.int .i64 0))),Mv 109 108,Gm 110 109 false 11,Gm 111 109 false 6,Gd 112 109 false (.fa 1 (.t 1)),Gd 113 109 false (.ld none (.t 112)),Gd 114 109 false (.ln 1 (.t 113)),Gd 115 109 false (.bo .add (.t 111) (.t 114)),Gd 116 109 false (.bo .mul (.c (.int .i64 2)) (.t 115)),Gd 117 109 false (.bo .geq (.t 110) (.t 116)),Qo 118 (.pk (.t 109) (.c (.bool true)) (.t 117))] [1,6,101,102,103,118]) (.cd (.t 118) (.sq (.rg none [Qo 2 (.mv (.c (.int .i64 8)))] [2]) .rt) .sk)))) (.rg none [Qo 119 (.bo .add (.t 103) (.c (.int .i64 1))),Mv 103 119] [1,6,101,102,103]))))
def k12_3:C:=(.sq (.rg none [Qo 2 (.mv (.c (.int .i64 0)))] [2]) .rt)
def k12_4:C:=(.sq (.sq (.rg none [Qo 100 (.fa 2 (.t 1)),Qo 101 (.ld none (.t 100)),Qo 102 (.ln 1 (.t 101)),Qo 103 (.mv (.c (.int .i64 0)))] [1,6,101,102,103]) (.bl 4 (.lp true b12_2))) k12_3)
def k12_5:C:=(.sq (.rg none [Qo 68 (.fa 0 (.t 1)),Qo 69 (.ld none (.t 68)),Qo 70 (.ln 1 (.t 69)),Qo 71 (.bo .add (.c (.int .i64 1)) (.t 70)),Mv 6 71] [1,6]) (.sq (.sq (.rg none [Qo 72 (.fa 1 (.t 1)),Qo 73 (.ld none (.t 72)),Qo 74 (.ln 1 (.t 73)),Qo 75 (.mv (.c (.int .i64 0)))] [1,6,73,74,75]) (.bl 2 (.lp true b12_1))) k12_4))
def c12:FI.Fn:={ body:=(.sq (.rg none [Qo 1 (.bx 3 (.t 0)),Qo 2 (.mv (.c (.int .i64 0)))] [1]) (.sq (.sq (.rg none [Qo 12 (.fa 0 (.t 1)),Qo 13 (.ld none (.t 12)),Qo 14 (.ln 1 (.t 13)),Qo 15 (.bo .gtr (.t 14) (.c (.int .i64 512))),Mv 16 15,Gd 17 16 false (.fa 1 (.t 1)),Gd 18 16 false (.ld none (.t 17)),Gd 19 16 false (.ln 1 (.t 18)),Gd 20 16 false (.bo .gtr (.t 19) (.c (.int .i64 100000))),Qo 21 (.pk (.t 16) (.c (.bool true)) (.t 20)),Mv 22 21,Gd 23 22 false (.fa 2 (.t 1)),Gd 24 22 false (.ld none (.t 23)),Gd 25 22 false (.ln 1 (.t 24)),Gd 26 22 false (.bo .gtr (.t 25) (.c (.int .i64 64))),Qo 27 (.pk (.t 22) (.c (.bool true)) (.t 26))] [1,27]) (.cd (.t 27) (.sq (.rg none [Qo 2 (.mv (.c (.int .i64 4)))] [2]) .rt) .sk)) (.sq (.sq (.rg none [Qo 28 (.fa 0 (.t 1)),Qo 29 (.ld none (.t 28)),Qo 30 (.ln 1 (.t 29)),Qo 31 (.mv (.c (.int .i64 0)))] [1,29,30,31]) (.bl 0 (.lp true b12_0))) k12_5))),np:=1,res:=[.t 2],mode:=.iso }
def c13:FI.Fn:={ body:=(.sq (.rg none [Qo 4 (.al 6 (.agg [(.int .u8 0),(.int .i64 0),(.int .u64 0),(.str []),(.int .i64 0),(.lst true [])]))] [0,1,4]) (.sq (.rg none [Mv 5 1,Mv 6 0,Qo 7 (.bd [(.int .u8 0),(.int .i64 0),(.int .u64 0),(.str []),(.int .i64 0),(.lst true [])] [(0,1,(.c (.int .u8 2))),(1,1,(.t 5)),(3,1,(.t 6))]),Eo (.st 6 (.t 4) (.t 7))] [4]) .rt)),np:=2,res:=[.cell 4 (some 6)],mode:=.iso }
def c14:FI.Fn:={ body:=(.sq (.rg none [Qo 6 (.al 6 (.agg [(.int .u8 0),(.int .i64 0),(.int .u64 0),(.str []),(.int .i64 0),(.lst true [])]))] [0,1,2,6]) (.sq (.rg none [Mv 7 0,Mv 8 1,Mv 9 2,Qo 10 (.bd [(.int .u8 0),(.int .i64 0),(.int .u64 0),(.str []),(.int .i64 0),(.lst true [])] [(0,1,(.t 7)),(1,1,(.t 8)),(5,1,(.t 9))]),Eo (.st 6 (.t 6) (.t 10))] [6]) .rt)),np:=3,res:=[.cell 6 (some 6)],mode:=.isc }
def b15_0:C:=(.sq (.rg none [Qo 33 (.bo .lss (.t 32) (.t 31))] [2,7,8,30,31,32,33]) (.sq (.cd (.t 33) .sk (.xt 0)) (.sq (.bl 1 (.sq (.rg none [Qo 34 (.ia 2 (.t 30) (.t 32)),Qo 35 (.ld (some 2) (.t 34)),Qo 10 (.al 2 (.agg [(.int .i64 0),(.int .i64 0)])),Eo (.st 2 (.t 10) (.t 35))] [2,7,8,10,30,31,32]) (.rg (some (List.range 14)) [Qo 36 (.ld none (.t 7)),Mv 37 8,Qo 38 (.fa 0 (.t 10)),Qo 39 (.ld none (.t 38)),⟨some 40,none,.cw (.t 37) [(.t 39)],[(none,none,7,36)]⟩,Mv 41 40,Gm 42 41 true 8,Gd 43 41 true (.fa 1 (.t 10)),Gd 44 41 true (.ld none (.t 43)),⟨some 45,some (41,true),.cw (.t 42) [(.t 44)],[(none,none,7,36)]⟩,Qo 46 (.pk (.t 41) (.t 45) (.c (.bool false))),Qo 47 (.bs 1 1 (.bool false) [(0,(.t 46))]),Qo 48 (.ap 1 1 (.t 36) (.t 47)),Eo (.st 1 (.t 7) (.t 48))] [2,7,8,30,31,32]))) (.rg none [Qo 49 (.bo .add (.t 32) (.c (.int .i64 1))),Mv 32 49] [2,7,8,30,31,32]))))
def b15_1:C:=(.sq (.rg none [Qo 54 (.bo .lss (.t 53) (.t 52))] [8,11,51,52,53,54]) (.sq (.cd (.t 54) .sk (.xt 2)) (.sq (.bl 3 (.sq (.rg none [Qo 55 (.ia 1 (.t 51) (.t 53)),Qo 56 (.ld none (.t 55)),Mv 13 56] [8,11,13,51,52,53]) (.rg none [Mv 57 11,Mv 58 8,Mv 59 13,Qo 60 (.cw (.t 58) [(.t 59)]),Qo 61 (.bs 1 1 (.bool false) [(0,(.t 60))]),Qo 62 (.ap 1 1 (.t 57) (.t 61)),Mv 11 62] [8,11,51,52,53]))) (.rg none [Qo 63 (.bo .add (.t 53) (.c (.int .i64 1))),Mv 53 63] [8,11,51,52,53]))))
def k15_2:C:=(.sq (.rg none [Mv 64 11,Mv 4 64,Qo 5 (.mv (.c (.int .i64 0)))] [4,5]) .rt)
def k15_3:C:=(.sq (.rg none [Qo 11 (.nl 1)] [2,8,11]) (.sq (.sq (.rg none [Qo 50 (.fa 2 (.t 2)),Qo 51 (.ld none (.t 50)),Qo 52 (.ln 1 (.t 51)),Qo 53 (.mv (.c (.int .i64 0)))] [8,11,51,52,53]) (.bl 2 (.lp true b15_1))) k15_2))
def c15:FI.Fn:={ body:=(.sq (.rg none [Qo 2 (.bx 3 (.t 0)),Qo 4 (.mv (.c (.lst true []))),Qo 5 (.mv (.c (.int .i64 0)))] [1,2]) (.sq (.sq (.rg none [Qo 14 (.ld (some 3) (.t 2)),Qo 15 (.cl 12 [(.t 14)]),Mv 6 15] [1,2,6]) (.sq (.rg none [Mv 16 6,Qo 17 (.bo .neq (.t 16) (.c (.int .i64 0)))] [1,2,6,17]) (.cd (.t 17) (.sq (.rg none [Mv 18 6,Qo 4 (.mv (.c (.lst true []))),Mv 5 18] [4,5]) .rt) .sk))) (.sq (.sq (.rg none [Mv 19 1,Qo 20 (.ln 1 (.t 19)),Qo 21 (.fa 0 (.t 2)),Qo 22 (.ld none (.t 21)),Qo 23 (.ln 1 (.t 22)),Qo 24 (.bo .neq (.t 20) (.t 23))] [1,2,24]) (.cd (.t 24) (.sq (.rg none [Qo 4 (.mv (.c (.lst true []))),Qo 5 (.mv (.c (.int .i64 2)))] [4,5]) .rt) .sk)) (.sq (.rg none [Qo 25 (.bs 1 1 (.bool false) [(0,(.c (.bool false)))]),Mv 26 1,Qo 27 (.ap 1 1 (.t 25) (.t 26)),Qo 7 (.al 1 (.lst true [])),Eo (.st 1 (.t 7) (.t 27))] [2,7]) (.sq (.rg none [Qo 28 (.mf 37 [(.t 7)]),Mv 8 28] [2,7,8]) (.sq (.sq (.rg none [Qo 29 (.fa 1 (.t 2)),Qo 30 (.ld none (.t 29)),Qo 31 (.ln 1 (.t 30)),Qo 32 (.mv (.c (.int .i64 0)))] [2,7,8,30,31,32]) (.bl 0 (.lp true b15_0))) k15_3)))))),np:=2,res:=[.t 4,.t 5],mode:=.iso }
def b16_0:C:=(.sq (.rg none [Qo 27 (.bo .lss (.t 26) (.t 25))] [1,8,24,25,26,27]) (.sq (.cd (.t 27) .sk (.xt 0)) (.sq (.bl 1 (.sq (.rg none [Qo 28 (.ia 2 (.t 24) (.t 26)),Qo 29 (.ld (some 2) (.t 28)),Qo 10 (.al 2 (.agg [(.str []),(.int .i64 0)])),Eo (.st 2 (.t 10) (.t 29))] [1,8,10,24,25,26]) (.sq (.rg none [Mv 31 1,Qo 32 (.fa 0 (.t 10)),Qo 33 (.ld none (.t 32)),Qo 34 (.cl 39 [(.t 31),(.t 33),(.c (.fn 40 []))]),Mv 30 34,Qo 35 (.ex (.t 30) 0),Qo 36 (.ex (.t 30) 1),Mv 11 35,Mv 12 36] [1,8,10,11,12,24,25,26]) (.sq (.sq (.rg none [Mv 37 12,Qo 38 (.un .not (.t 37))] [1,8,10,11,24,25,26,38]) (.cd (.t 38) (.sq (.rg none [Qo 4 (.mv (.c (.lst true []))),Qo 5 (.mv (.c (.int .i64 16)))] [4,5]) .rt) .sk)) (.sq (.sq (.rg (some (List.range 8)) [Qo 39 (.fa 1 (.t 10)),Qo 40 (.ld none (.t 39)),Mv 41 1,Mv 42 11,Qo 43 (.ia 3 (.t 41) (.t 42)),Qo 44 (.fa 1 (.t 43)),Qo 45 (.ld none (.t 44)),Qo 46 (.bo .geq (.t 40) (.t 45))] [1,8,10,11,24,25,26,46]) (.cd (.t 46) (.sq (.rg none [Qo 4 (.mv (.c (.lst true []))),Qo 5 (.mv (.c (.int .i64 2)))] [4,5]) .rt) .sk)) (.rg (some (List.range 14)) [Mv 47 8,Mv 48 1,Mv 49 11,Qo 50 (.ia 3 (.t 48) (.t 49)),Qo 51 (.fa 2 (.t 50)),Qo 52 (.ld none (.t 51)),Qo 53 (.fa 1 (.t 10)),Qo 54 (.ld none (.t 53)),Qo 55 (.bo .shr (.t 52) (.t 54)),Qo 56 (.bo .and (.t 55) (.c (.int .u64 1))),Qo 57 (.bo .eql (.t 56) (.c (.int .u64 1))),Qo 58 (.bs 1 1 (.bool false) [(0,(.t 57))]),Qo 59 (.ap 1 1 (.t 47) (.t 58)),Mv 8 59] [1,8,24,25,26])))))) (.rg none [Qo 60 (.bo .add (.t 26) (.c (.int .i64 1))),Mv 26 60] [1,8,24,25,26]))))
def k16_1:C:=(.sq (.rg none [Mv 61 8,Mv 4 61,Qo 5 (.mv (.c (.int .i64 0)))] [4,5]) .rt)
def c16:FI.Fn:={ body:=(.sq (.rg none [Qo 2 (.bx 3 (.t 0)),Qo 4 (.mv (.c (.lst true []))),Qo 5 (.mv (.c (.int .i64 0)))] [1,2]) (.sq (.sq (.rg none [Qo 13 (.ld (some 3) (.t 2)),Qo 14 (.cl 12 [(.t 13)]),Mv 6 14] [1,2,6]) (.sq (.rg none [Mv 15 6,Qo 16 (.bo .neq (.t 15) (.c (.int .i64 0)))] [1,2,6,16]) (.cd (.t 16) (.sq (.rg none [Mv 17 6,Qo 4 (.mv (.c (.lst true []))),Mv 5 17] [4,5]) .rt) .sk))) (.sq (.sq (.rg none [Mv 18 1,Qo 19 (.cl 38 [(.t 18)]),Mv 7 19] [1,2,7]) (.sq (.rg none [Mv 20 7,Qo 21 (.bo .neq (.t 20) (.c (.int .i64 0)))] [1,2,7,21]) (.cd (.t 21) (.sq (.rg none [Mv 22 7,Qo 4 (.mv (.c (.lst true []))),Mv 5 22] [4,5]) .rt) .sk))) (.sq (.rg none [Qo 8 (.nl 1)] [1,2,8]) (.sq (.sq (.rg none [Qo 23 (.fa 0 (.t 2)),Qo 24 (.ld none (.t 23)),Qo 25 (.ln 1 (.t 24)),Qo 26 (.mv (.c (.int .i64 0)))] [1,8,24,25,26]) (.bl 0 (.lp true b16_0))) k16_1))))),np:=2,res:=[.t 4,.t 5],mode:=.isc }
def b17_0:C:=(.sq (.rg none [Qo 45 (.bo .lss (.t 44) (.t 43))] [1,2,4,5,42,43,44,45]) (.sq (.cd (.t 45) .sk (.xt 0)) (.sq (.bl 1 (.sq (.rg none [Mv 46 44,Qo 47 (.ia 2 (.t 42) (.t 44)),Qo 48 (.ld (some 2) (.t 47)),Qo 9 (.al 2 (.agg [(.int .i64 0),(.int .i64 0)])),Mv 8 46,Eo (.st 2 (.t 9) (.t 48))] [1,2,4,5,8,9,42,43,44]) (.sq (.rg (some (List.range 15)) [Qo 49 (.fa 0 (.t 2)),Qo 50 (.ld none (.t 49)),Qo 51 (.ln 1 (.t 50)),Qo 52 (.bo .add (.c (.int .i64 2)) (.t 51)),Mv 53 8,Qo 54 (.bo .add (.t 52) (.t 53)),Qo 55 (.fa 0 (.t 9)),Qo 56 (.ld none (.t 55)),Qo 57 (.cl 41 [(.t 56)]),Qo 58 (.fa 1 (.t 9)),Qo 59 (.ld none (.t 58)),Qo 60 (.cl 41 [(.t 59)]),Mv 10 54,Mv 11 57,Mv 12 60] [1,2,4,5,10,11,12,42,43,44]) (.rg none [Mv 61 5,Mv 62 10,Qo 63 (.un .neg (.t 62)),Mv 64 11,Qo 65 (.bs 1 2 (.int .i64 0) [(0,(.t 63)),(1,(.t 64))]),Mv 66 10,Qo 67 (.un .neg (.t 66)),Mv 68 12,Qo 69 (.bs 1 2 (.int .i64 0) [(0,(.t 67)),(1,(.t 68))]),Mv 70 10,Mv 71 11,Qo 72 (.un .neg (.t 71)),Mv 73 12,Qo 74 (.un .neg (.t 73)),Qo 75 (.bs 1 3 (.int .i64 0) [(0,(.t 70)),(1,(.t 72)),(2,(.t 74))]),Qo 76 (.bs 1 3 (.lst true []) [(0,(.t 65)),(1,(.t 69)),(2,(.t 75))]),Qo 77 (.ap 1 24 (.t 61) (.t 76)),Mv 5 77] [1,2,4,5,42,43,44])))) (.rg none [Qo 78 (.bo .add (.t 44) (.c (.int .i64 1))),Mv 44 78] [1,2,4,5,42,43,44]))))
def k17_1:C:=(.sq (.rg none [Mv 79 4,Mv 80 5,Qo 81 (.fa 2 (.t 2)),Qo 82 (.ld none (.t 81)),Mv 83 1,Qo 84 (.ia 1 (.t 82) (.t 83)),Qo 85 (.ld none (.t 84)),Qo 86 (.cl 41 [(.t 85)]),Qo 87 (.bs 1 1 (.int .i64 0) [(0,(.t 86))]),Qo 88 (.bs 1 1 (.lst true []) [(0,(.t 87))]),Qo 89 (.ap 1 24 (.t 80) (.t 88)),Mv 4 79,Mv 5 89,Qo 6 (.mv (.c (.int .i64 0)))] [4,5,6]) .rt)
def c17:FI.Fn:={ body:=(.sq (.rg none [Qo 2 (.bx 3 (.t 0)),Qo 4 (.mv (.c (.int .i64 0))),Qo 5 (.nl 1),Qo 6 (.mv (.c (.int .i64 0)))] [1,2,5]) (.sq (.sq (.rg none [Qo 13 (.ld (some 3) (.t 2)),Qo 14 (.cl 12 [(.t 13)]),Mv 7 14] [1,2,5,7]) (.sq (.rg none [Mv 15 7,Qo 16 (.bo .neq (.t 15) (.c (.int .i64 0)))] [1,2,5,7,16]) (.cd (.t 16) (.sq (.rg none [Mv 17 7,Qo 4 (.mv (.c (.int .i64 0))),Qo 5 (.nl 1),Mv 6 17] [4,5,6]) .rt) .sk))) (.sq (.sq (.rg none [Mv 18 1,Qo 19 (.bo .lss (.t 18) (.c (.int .i64 0))),Mv 20 19,Gm 21 20 false 1,Gd 22 20 false (.fa 2 (.t 2)),Gd 23 20 false (.ld none (.t 22)),Gd 24 20 false (.ln 1 (.t 23)),Gd 25 20 false (.bo .geq (.t 21) (.t 24)),Qo 26 (.pk (.t 20) (.c (.bool true)) (.t 25))] [1,2,5,26]) (.cd (.t 26) (.sq (.rg none [Qo 4 (.mv (.c (.int .i64 0))),Qo 5 (.nl 1),Qo 6 (.mv (.c (.int .i64 2)))] [4,5,6]) .rt) .sk)) (.sq (.rg none [Qo 27 (.fa 0 (.t 2)),Qo 28 (.ld none (.t 27)),Qo 29 (.ln 1 (.t 28)),Qo 30 (.bo .add (.c (.int .i64 1)) (.t 29)),Qo 31 (.fa 1 (.t 2)),Qo 32 (.ld none (.t 31)),Qo 33 (.ln 1 (.t 32)),Qo 34 (.bo .add (.t 30) (.t 33)),Mv 4 34] [1,2,4,5]) (.sq (.sq (.rg none [Mv 35 4,Qo 36 (.bo .gtr (.t 35) (.c (.int .i64 5000)))] [1,2,4,5,36]) (.cd (.t 36) (.sq (.rg none [Qo 4 (.mv (.c (.int .i64 0))),Qo 5 (.nl 1),Qo 6 (.mv (.c (.int .i64 4)))] [4,5,6]) .rt) .sk)) (.sq (.rg none [Mv 37 5,Qo 38 (.bs 1 1 (.int .i64 0) [(0,(.c (.int .i64 (-1))))]),Qo 39 (.bs 1 1 (.lst true []) [(0,(.t 38))]),Qo 40 (.ap 1 24 (.t 37) (.t 39)),Mv 5 40] [1,2,4,5]) (.sq (.sq (.rg none [Qo 41 (.fa 1 (.t 2)),Qo 42 (.ld none (.t 41)),Qo 43 (.ln 1 (.t 42)),Qo 44 (.mv (.c (.int .i64 0)))] [1,2,4,5,42,43,44]) (.bl 0 (.lp false b17_0))) k17_1))))))),np:=2,res:=[.t 4,.t 5,.t 6],mode:=.iso }
def b18_0:C:=(.sq (.sq (.rg none [Mv 11 5,Mv 12 0,Qo 13 (.ln 1 (.t 12)),Qo 14 (.bo .lss (.t 11) (.t 13))] [0,1,5,14]) (.cd (.t 14) .sk (.xt 0))) (.sq (.bl 1 (.sq (.rg (some (List.range 9)) [Mv 17 0,Mv 18 5,Qo 19 (.ia 1 (.t 17) (.t 18)),Qo 20 (.ld none (.t 19)),Mv 21 1,Mv 22 5,Qo 23 (.ia 1 (.t 21) (.t 22)),Qo 24 (.ld none (.t 23)),Qo 25 (.be true (.t 20) (.t 24))] [0,1,5,25]) (.cd (.t 25) (.sq (.rg none [Qo 4 (.mv (.c (.bool false)))] [4]) .rt) .sk))) (.rg none [Mv 15 5,Qo 16 (.bo .add (.t 15) (.c (.int .i64 1))),Mv 5 16] [0,1,5])))
def k18_1:C:=(.sq (.rg none [Qo 4 (.mv (.c (.bool true)))] [4]) .rt)
def c18:FI.Fn:={ body:=(.sq (.rg none [Qo 4 (.mv (.c (.bool false)))] [0,1]) (.sq (.sq (.rg none [Mv 6 0,Qo 7 (.ln 1 (.t 6)),Mv 8 1,Qo 9 (.ln 1 (.t 8)),Qo 10 (.bo .neq (.t 7) (.t 9))] [0,1,10]) (.cd (.t 10) (.sq (.rg none [Qo 4 (.mv (.c (.bool false)))] [4]) .rt) .sk)) (.sq (.sq (.rg none [Qo 5 (.mv (.c (.int .i64 0)))] [0,1,5]) (.bl 0 (.lp true b18_0))) k18_1))),np:=2,res:=[.t 4],mode:=.isf }
def b20_0:C:=(.sq (.sq (.rg none [Mv 4 3,Qo 5 (.fa 0 (.t 1)),Qo 6 (.ld none (.t 5)),Qo 7 (.ln 1 (.t 6)),Qo 8 (.bo .lss (.t 4) (.t 7)),Mv 9 8,Gm 10 9 true 3,Gd 11 9 true (.bo .leq (.t 10) (.c (.int .i64 600))),Qo 12 (.pk (.t 9) (.t 11) (.c (.bool false)))] [1,3,12]) (.cd (.t 12) .sk (.xt 0))) (.sq (.bl 1 (.sq (.rg none [Qo 15 (.fa 0 (.t 1)),Qo 16 (.ld none (.t 15)),Mv 17 3,Qo 18 (.ia 2 (.t 16) (.t 17)),Qo 19 (.fa 0 (.t 18)),Qo 20 (.ld none (.t 19)),Qo 21 (.ln 0 (.t 20)),Qo 22 (.bo .gtr (.t 21) (.c (.int .i64 200)))] [1,3,22]) (.cd (.t 22) (.sq (.rg none [Qo 2 (.mv (.c (.bool true)))] [2]) .rt) .sk))) (.rg none [Mv 13 3,Qo 14 (.bo .add (.t 13) (.c (.int .i64 1))),Mv 3 14] [1,3])))
def k20_1:C:=(.sq (.rg none [Qo 23 (.fa 0 (.t 1)),Qo 24 (.ld none (.t 23)),Qo 25 (.ln 1 (.t 24)),Qo 26 (.bo .gtr (.t 25) (.c (.int .i64 600))),Mv 27 26,Gd 28 27 false (.fa 1 (.t 1)),Gd 29 27 false (.ld none (.t 28)),Gd 30 27 false (.ln 1 (.t 29)),Gd 31 27 false (.bo .gtr (.t 30) (.c (.int .i64 100100))),Qo 32 (.pk (.t 27) (.c (.bool true)) (.t 31)),Mv 33 32,Gd 34 33 false (.fa 2 (.t 1)),Gd 35 33 false (.ld none (.t 34)),Gd 36 33 false (.ln 1 (.t 35)),Gd 37 33 false (.bo .gtr (.t 36) (.c (.int .i64 100))),Qo 38 (.pk (.t 33) (.c (.bool true)) (.t 37)),Mv 2 38] [2]) .rt)
def c20:FI.Fn:={ body:=(.sq (.rg none [Qo 1 (.bx 3 (.t 0)),Qo 2 (.mv (.c (.bool false)))] [1]) (.sq (.sq (.rg none [Qo 3 (.mv (.c (.int .i64 0)))] [1,3]) (.bl 0 (.lp true b20_0))) k20_1)),np:=1,res:=[.t 2],mode:=.iso }
def b21_0:C:=(.sq (.sq (.rg none [Mv 10 6,Qo 11 (.fa 1 (.t 2)),Qo 12 (.ld none (.t 11)),Qo 13 (.ln 1 (.t 12)),Qo 14 (.bo .lss (.t 10) (.t 13))] [2,5,6,14]) (.cd (.t 14) .sk (.xt 0))) (.sq (.bl 1 (.rg none [Mv 17 5,Mv 18 5,Qo 19 (.fa 1 (.t 2)),Qo 20 (.ld none (.t 19)),Mv 21 6,Qo 22 (.ia 2 (.t 20) (.t 21)),Qo 23 (.fa 0 (.t 22)),Qo 24 (.ld none (.t 23)),Qo 25 (.cl 42 [(.t 18),(.t 24)]),Mv 26 25,Gm 27 26 true 5,Gd 28 26 true (.fa 1 (.t 2)),Gd 29 26 true (.ld none (.t 28)),Gm 30 26 true 6,Gd 31 26 true (.ia 2 (.t 29) (.t 30)),Gd 32 26 true (.fa 1 (.t 31)),Gd 33 26 true (.ld none (.t 32)),Gd 34 26 true (.cl 42 [(.t 27),(.t 33)]),Qo 35 (.pk (.t 26) (.t 34) (.c (.bool false))),Qo 36 (.bs 1 1 (.bool false) [(0,(.t 35))]),Qo 37 (.ap 1 1 (.t 17) (.t 36)),Mv 5 37] [2,5,6])) (.rg none [Mv 15 6,Qo 16 (.bo .add (.t 15) (.c (.int .i64 1))),Mv 6 16] [2,5,6])))
def k21_1:C:=(.sq (.rg none [Mv 38 5,Mv 4 38] [4]) .rt)
def c21:FI.Fn:={ body:=(.sq (.rg none [Qo 2 (.bx 3 (.t 0)),Qo 4 (.mv (.c (.lst true [])))] [1,2]) (.sq (.rg none [Qo 7 (.bs 1 1 (.bool false) [(0,(.c (.bool false)))]),Mv 8 1,Qo 9 (.ap 1 1 (.t 7) (.t 8)),Mv 5 9] [2,5]) (.sq (.sq (.rg none [Qo 6 (.mv (.c (.int .i64 0)))] [2,5,6]) (.bl 0 (.lp false b21_0))) k21_1))),np:=2,res:=[.t 4],mode:=.shr }
def b22_0:C:=(.sq (.sq (.rg none [Mv 15 7,Mv 16 0,Mv 17 5,Qo 18 (.ia 1 (.t 16) (.t 17)),Qo 19 (.ld none (.t 18)),Qo 20 (.ln 1 (.t 19)),Qo 21 (.bo .lss (.t 15) (.t 20))] [0,1,5,6,7,21]) (.cd (.t 21) .sk (.xt 2))) (.sq (.bl 3 (.sq (.rg none [Mv 24 0,Mv 25 5,Qo 26 (.ia 1 (.t 24) (.t 25)),Qo 27 (.ld none (.t 26)),Mv 28 7,Qo 29 (.ia 1 (.t 27) (.t 28)),Qo 30 (.ld none (.t 29)),Mv 8 30] [0,1,5,6,7,8]) (.sq (.sq (.rg none [Mv 31 8,Qo 32 (.bo .gtr (.t 31) (.c (.int .i64 0))),Mv 33 32,Gm 34 33 true 8,Gm 35 33 true 1,Gd 36 33 true (.ln 1 (.t 35)),Gd 37 33 true (.bo .leq (.t 34) (.t 36)),Qo 38 (.pk (.t 33) (.t 37) (.c (.bool false)))] [0,1,5,6,7,8,38]) (.cd (.t 38) (.rg none [Mv 39 6,Mv 40 39,Gm 41 40 false 1,Gm 42 40 false 8,Gd 43 40 false (.bo .sub (.t 42) (.c (.int .i64 1))),Gd 44 40 false (.ia 1 (.t 41) (.t 43)),Gd 45 40 false (.ld none (.t 44)),Qo 46 (.pk (.t 40) (.c (.bool true)) (.t 45)),Mv 6 46] [0,1,5,6,7,8]) .sk)) (.sq (.rg none [Mv 47 8,Qo 48 (.bo .lss (.t 47) (.c (.int .i64 0))),Mv 49 48,Gm 50 49 true 8,Gm 51 49 true 1,Gd 52 49 true (.ln 1 (.t 51)),Gd 53 49 true (.un .neg (.t 52)),Gd 54 49 true (.bo .geq (.t 50) (.t 53)),Qo 55 (.pk (.t 49) (.t 54) (.c (.bool false)))] [0,1,5,6,7,8,55]) (.cd (.t 55) (.rg none [Mv 56 6,Mv 57 56,Gm 58 57 false 1,Gm 59 57 false 8,Gd 60 57 false (.un .neg (.t 59)),Gd 61 57 false (.bo .sub (.t 60) (.c (.int .i64 1))),Gd 62 57 false (.ia 1 (.t 58) (.t 61)),Gd 63 57 false (.ld none (.t 62)),Gd 64 57 false (.un .not (.t 63)),Qo 65 (.pk (.t 57) (.c (.bool true)) (.t 64)),Mv 6 65] [0,1,5,6,7]) .sk))))) (.rg none [Mv 22 7,Qo 23 (.bo .add (.t 22) (.c (.int .i64 1))),Mv 7 23] [0,1,5,6,7])))
def k22_1:C:=(.sq (.rg none [Mv 66 6,Qo 67 (.un .not (.t 66))] [0,1,5,67]) (.cd (.t 67) (.sq (.rg none [Qo 4 (.mv (.c (.bool false)))] [4]) .rt) .sk))
def k22_2:C:=(.rg none [Mv 13 5,Qo 14 (.bo .add (.t 13) (.c (.int .i64 1))),Mv 5 14] [0,1,5])
def b22_3:C:=(.sq (.sq (.rg none [Mv 9 5,Mv 10 0,Qo 11 (.ln 1 (.t 10)),Qo 12 (.bo .lss (.t 9) (.t 11))] [0,1,5,12]) (.cd (.t 12) .sk (.xt 0))) (.sq (.bl 1 (.sq (.rg none [Qo 6 (.mv (.c (.bool false)))] [0,1,5,6]) (.sq (.sq (.rg none [Qo 7 (.mv (.c (.int .i64 0)))] [0,1,5,6,7]) (.bl 2 (.lp true b22_0))) k22_1))) k22_2))
def k22_4:C:=(.sq (.rg none [Qo 4 (.mv (.c (.bool true)))] [4]) .rt)
def c22:FI.Fn:={ body:=(.sq (.rg none [Qo 4 (.mv (.c (.bool false)))] [0,1]) (.sq (.sq (.rg none [Qo 5 (.mv (.c (.int .i64 0)))] [0,1,5]) (.bl 0 (.lp true b22_3))) k22_4)),np:=2,res:=[.t 4],mode:=.isf }
def b25_0:C:=(.sq (.rg none [Qo 12 (.bo .lss (.t 11) (.t 10))] [3,9,10,11,12]) (.sq (.cd (.t 12) .sk (.xt 0)) (.sq (.bl 1 (.sq (.rg none [Qo 13 (.ia 6 (.t 9) (.t 11)),Qo 14 (.ld (some 6) (.t 13)),Qo 5 (.al 6 (.agg [(.int .u8 0),(.int .i64 0),(.int .u64 0),(.str []),(.int .i64 0),(.lst true [])])),Eo (.st 6 (.t 5) (.t 14))] [3,5,9,10,11]) (.rg none [Mv 15 3,Qo 16 (.ld (some 6) (.t 5)),Qo 17 (.cl 25 [(.t 16)]),Qo 18 (.bo .add (.t 15) (.t 17)),Mv 3 18] [3,9,10,11]))) (.rg none [Qo 19 (.bo .add (.t 11) (.c (.int .i64 1))),Mv 11 19] [3,9,10,11]))))
def k25_1:C:=(.sq (.rg none [Mv 20 3,Mv 2 20] [2]) .rt)
def c25:FI.Fn:={ body:=(.sq (.rg none [Qo 1 (.bx 6 (.t 0)),Qo 2 (.mv (.c (.int .i64 0)))] [1]) (.sq (.rg none [Qo 6 (.ld (some 6) (.t 1)),Qo 7 (.cl 43 [(.t 6)]),Mv 3 7] [1,3]) (.sq (.sq (.rg none [Qo 8 (.fa 5 (.t 1)),Qo 9 (.ld none (.t 8)),Qo 10 (.ln 1 (.t 9)),Qo 11 (.mv (.c (.int .i64 0)))] [3,9,10,11]) (.bl 0 (.lp true b25_0))) k25_1))),np:=1,res:=[.t 2],mode:=.iso }
def c26:FI.Fn:={ body:=(.sq (.rg none [Qo 2 (.mv (.c (.lst true [])))] [0]) (.sq (.sq (.rg none [Mv 3 0,Qo 4 (.sn false (.t 3))] [0,4]) (.cd (.t 4) (.sq (.rg none [Qo 2 (.mv (.c (.lst true [])))] [2]) .rt) .sk)) (.sq (.rg none [Qo 5 (.bs 1 0 (.int .i64 0) []),Mv 6 0,Qo 7 (.ap 1 8 (.t 5) (.t 6)),Mv 2 7] [2]) .rt))),np:=1,res:=[.t 2],mode:=.isc }
def b27_0:C:=(.sq (.rg none [Qo 22 (.bo .lss (.t 21) (.t 20))] [2,3,5,19,20,21,22]) (.sq (.cd (.t 22) .sk (.xt 0)) (.sq (.bl 1 (.sq (.rg none [Qo 23 (.ia 6 (.t 19) (.t 21)),Qo 24 (.ld (some 6) (.t 23)),Qo 7 (.al 6 (.agg [(.int .u8 0),(.int .i64 0),(.int .u64 0),(.str []),(.int .i64 0),(.lst true [])])),Eo (.st 6 (.t 7) (.t 24))] [2,3,5,7,19,20,21]) (.rg none [Mv 25 5,Qo 26 (.ld none (.t 2)),Qo 27 (.ld (some 6) (.t 7)),Qo 28 (.cl 27 [(.t 26),(.t 27)]),Qo 29 (.bs 1 1 (.lst true []) [(0,(.t 28))]),Qo 30 (.ap 1 24 (.t 25) (.t 29)),Mv 5 30] [2,3,5,19,20,21]))) (.rg none [Qo 31 (.bo .add (.t 21) (.c (.int .i64 1))),Mv 21 31] [2,3,5,19,20,21]))))
def k27_1:C:=(.sq (.rg none [Mv 32 5,Qo 33 (.ia 1 (.t 32) (.c (.int .i64 0))),Qo 34 (.ld none (.t 33)),Qo 8 (.al 1 (.lst true [])),Eo (.st 1 (.t 8) (.t 34))] [2,3,5,8]) (.sq (.sq (.rg none [Qo 35 (.fa 0 (.t 3)),Qo 36 (.ld none (.t 35))] [2,3,5,8,36]) (.bl 2 (.sq (.rg none [Qo 38 (.bo .eql (.t 36) (.c (.int .u8 3))),Mv 37 38] [2,3,5,8,36,37]) (.cd (.t 37) (.sq (.rg none [Qo 39 (.ld none (.t 8)),Qo 40 (.cl 45 [(.t 39)]),Mv 4 40] [4]) .rt) (.sq (.rg none [Qo 42 (.bo .eql (.t 36) (.c (.int .u8 4))),Mv 41 42] [2,3,5,8,36,41]) (.cd (.t 41) (.sq (.rg (some (List.range 12)) [Qo 44 (.ld none (.t 2)),Qo 45 (.ld none (.t 8)),Qo 46 (.ln 1 (.t 45)),Qo 47 (.cl 47 [(.c (.int .i64 0)),(.t 46)]),Qo 48 (.ld none (.t 8)),Qo 49 (.cl 45 [(.t 48)]),Qo 50 (.cl 46 [(.t 44),(.t 47),(.t 49),(.c (.int .i64 1))]),Mv 43 50,Qo 51 (.ex (.t 43) 0),Qo 52 (.ex (.t 43) 1),Mv 9 51,Mv 10 52] [9]) (.sq (.rg none [Mv 53 9,Mv 4 53] [4]) .rt)) (.sq (.rg none [Qo 55 (.bo .eql (.t 36) (.c (.int .u8 21))),Mv 54 55] [2,3,5,8,36,54]) (.cd (.t 54) (.sq (.rg none [Qo 56 (.ld none (.t 8)),Qo 57 (.fa 4 (.t 3)),Qo 58 (.ld none (.t 57)),Qo 59 (.fa 4 (.t 3)),Qo 60 (.ld none (.t 59)),Qo 61 (.fa 1 (.t 3)),Qo 62 (.ld none (.t 61)),Qo 63 (.bo .add (.t 60) (.t 62)),Qo 64 (.sl 1 (.t 56) (some (.t 58)) (some (.t 63))),Mv 4 64] [4]) .rt) (.sq (.rg none [Qo 66 (.bo .eql (.t 36) (.c (.int .u8 22))),Mv 65 66] [2,3,5,8,36,65]) (.cd (.t 65) (.sq (.rg (some [0,2,3,4,5,6,1,7,8,9]) [Qo 67 (.ld none (.t 8)),Qo 69 (.fa 1 (.t 3)),Qo 70 (.ld none (.t 69)),Qo 71 (.ld none (.t 8)),Qo 72 (.ln 1 (.t 71)),Qo 73 (.bo .sub (.t 70) (.t 72)),⟨some 68,none,.cl 26 [(.t 67)],[(none,none,69,70),(none,none,8,71)]⟩,Qo 74 (.cl 47 [(.c (.int .i64 0)),(.t 73)]),Qo 75 (.ap 1 8 (.t 68) (.t 74)),Mv 4 75] [4]) .rt) (.sq (.rg none [Qo 77 (.bo .eql (.t 36) (.c (.int .u8 23))),Mv 76 77] [2,3,5,8,36,76]) (.cd (.t 76) (.sq (.rg (some [0,2,3,4,5,6,7,8,9,10,11,12,1,13,14,15]) [Qo 78 (.ld none (.t 8)),Qo 80 (.ld none (.t 8)),Qo 81 (.ld none (.t 8)),Qo 82 (.ln 1 (.t 81)),Qo 83 (.bo .sub (.t 82) (.c (.int .i64 1))),Qo 84 (.ia 1 (.t 80) (.t 83)),Qo 85 (.ld none (.t 84)),Qo 86 (.fa 1 (.t 3)),Qo 87 (.ld none (.t 86)),Qo 88 (.ld none (.t 8)),Qo 89 (.ln 1 (.t 88)),Qo 90 (.bo .sub (.t 87) (.t 89)),⟨some 79,none,.cl 26 [(.t 78)],[(none,none,8,80),(none,none,8,81),(none,none,84,85),(none,none,86,87),(none,none,8,88)]⟩,Qo 91 (.cl 47 [(.t 85),(.t 90)]),Qo 92 (.ap 1 8 (.t 79) (.t 91)),Mv 4 92] [4]) .rt) (.sq (.rg none [Qo 94 (.bo .eql (.t 36) (.c (.int .u8 19))),Mv 93 94] [2,3,5,8,93]) (.cd (.t 93) (.sq (.rg (some (List.range 9)) [Mv 95 5,Qo 96 (.ia 1 (.t 95) (.c (.int .i64 1))),Qo 97 (.ld none (.t 96)),Mv 98 5,Qo 99 (.ia 1 (.t 98) (.c (.int .i64 2))),Qo 100 (.ld none (.t 99)),Qo 101 (.mf 49 [(.t 2),(.t 8)]),Qo 102 (.cl 48 [(.t 97),(.t 100),(.t 101)]),Mv 4 102] [4]) .rt) .sk)))))))))))))) (.sq (.rg (some (List.range 9)) [Qo 103 (.ld none (.t 2)),Qo 104 (.fa 0 (.t 3)),Qo 105 (.ld none (.t 104)),Qo 106 (.ld none (.t 8)),Mv 107 5,Qo 108 (.ia 1 (.t 107) (.c (.int .i64 1))),Qo 109 (.ld none (.t 108)),Qo 110 (.cl 51 [(.t 103),(.t 105),(.t 106),(.t 109)]),Mv 4 110] [4]) .rt)))
def c27:FI.Fn:={ body:=(.sq (.rg none [Qo 2 (.bx 1 (.t 0)),Qo 3 (.bx 6 (.t 1)),Qo 4 (.mv (.c (.lst true [])))] [2,3]) (.sq (.sq (.rg none [Qo 11 (.fa 5 (.t 3)),Qo 12 (.ld none (.t 11)),Qo 13 (.ln 1 (.t 12)),Qo 14 (.bo .eql (.t 13) (.c (.int .i64 0)))] [2,3,14]) (.cd (.t 14) (.sq (.rg none [Qo 15 (.ld none (.t 2)),Qo 16 (.ld (some 6) (.t 3)),Qo 17 (.cl 44 [(.t 15),(.t 16)]),Mv 4 17] [4]) .rt) .sk)) (.sq (.rg none [Qo 5 (.nl 1)] [2,3,5]) (.sq (.sq (.rg none [Qo 18 (.fa 5 (.t 3)),Qo 19 (.ld none (.t 18)),Qo 20 (.ln 1 (.t 19)),Qo 21 (.mv (.c (.int .i64 0)))] [2,3,5,19,20,21]) (.bl 0 (.lp false b27_0))) k27_1)))),np:=2,res:=[.t 4],mode:=.shr }
def b28_0:C:=(.bl 1 (.sq (.rg none [Qo 17 (.ld (some 6) (.t 3)),Qo 18 (.cl 54 [(.t 17)]),Qo 19 (.un .not (.t 18))] [2,19]) (.cd (.t 19) (.sq (.rg none [Eo (.st 1 (.t 2) (.c (.int .i64 8)))] [2]) .rt) .sk)))
def a28_1:C:=(.rg none [Qo 3 (.al 6 (.agg [(.int .u8 0),(.int .i64 0),(.int .u64 0),(.str []),(.int .i64 0),(.lst true [])])),Eo (.st 6 (.t 3) (.t 16))] [2,3])
def k28_2:C:=(.sq (.sq (.rg none [Qo 21 (.ld (some 6) (.t 1)),Qo 22 (.cl 29 [(.t 21)]),Mv 20 22,Qo 23 (.ex (.t 20) 0),Qo 24 (.ex (.t 20) 1),Mv 4 23,Mv 5 24] [2,5]) (.sq (.rg none [Mv 25 5,Qo 26 (.un .not (.t 25))] [2,26]) (.cd (.t 26) (.sq (.rg none [Eo (.st 1 (.t 2) (.c (.int .i64 14)))] [2]) .rt) .sk))) (.sq (.rg none [Eo (.st 1 (.t 2) (.c (.int .i64 0)))] [2]) .rt))
def r1002800:FI.Rd:={ ps:=[16],ct:=[2],asg:=a28_1,body:=b28_0 }
def c28:FI.Fn:={ body:=(.sq (.rg none [Qo 1 (.bx 6 (.t 0)),Qo 2 (.al 1 (.int .i64 0))] [1,2]) (.sq (.sq (.rg none [Qo 6 (.ld (some 6) (.t 1)),Qo 7 (.cl 52 [(.t 6)]),Qo 8 (.bo .gtr (.t 7) (.c (.int .i64 400))),Mv 9 8,Gd 10 9 false (.ld (some 6) (.t 1)),Gd 11 9 false (.cl 53 [(.t 10)]),Gd 12 9 false (.bo .gtr (.t 11) (.c (.int .i64 60))),Qo 13 (.pk (.t 9) (.c (.bool true)) (.t 12))] [1,2,13]) (.cd (.t 13) (.sq (.rg none [Eo (.st 1 (.t 2) (.c (.int .i64 4)))] [2]) .rt) .sk)) (.sq (.sq (.rg none [Qo 14 (.ld (some 6) (.t 1)),Qo 15 (.cl 33 [(.t 14)])] [1,2,15]) (.bl 0 (.rf 1002800 (.t 15) [2]))) k28_2))),np:=1,res:=[.cell 2 none],mode:=.isf }
def b29_0:C:=(.bl 1 (.sq (.sq (.rg none [Qo 12 (.fa 0 (.t 5)),Qo 13 (.ld none (.t 12)),Qo 14 (.bo .neq (.t 13) (.c (.int .u8 2)))] [2,3,4,5,14]) (.cd (.t 14) (.xt 1) .sk)) (.sq (.sq (.rg none [Qo 16 (.ld none (.t 4)),Qo 17 (.fa 3 (.t 5)),Qo 18 (.ld none (.t 17)),Qo 19 (.lk 1 (.int .i64 0) true (.t 16) (.t 18)),Mv 15 19,Qo 20 (.ex (.t 15) 0),Qo 21 (.ex (.t 15) 1),Mv 6 20,Mv 7 21] [2,3,4,5,6,7]) (.sq (.rg none [Mv 22 7,Mv 23 22,Gm 24 23 true 6,Gd 25 23 true (.fa 1 (.t 5)),Gd 26 23 true (.ld none (.t 25)),Gd 27 23 true (.bo .neq (.t 24) (.t 26)),Qo 28 (.pk (.t 23) (.t 27) (.c (.bool false)))] [2,3,4,5,28]) (.cd (.t 28) (.sq (.rg none [Eo (.st 1 (.t 2) (.c .nilm)),Eo (.st 1 (.t 3) (.c (.bool false)))] [2,3]) .rt) .sk))) (.rg none [Qo 29 (.ld none (.t 4)),Qo 30 (.fa 3 (.t 5)),Qo 31 (.ld none (.t 30)),Qo 32 (.fa 1 (.t 5)),Qo 33 (.ld none (.t 32)),Eo (.mu 1 (.t 29) (.t 31) (.t 33))] []))))
def a29_1:C:=(.rg none [Qo 5 (.al 6 (.agg [(.int .u8 0),(.int .i64 0),(.int .u64 0),(.str []),(.int .i64 0),(.lst true [])])),Eo (.st 6 (.t 5) (.t 11))] [2,3,4,5])
def k29_2:C:=(.sq (.rg none [Qo 34 (.ld none (.t 4)),Eo (.st 1 (.t 2) (.t 34)),Eo (.st 1 (.t 3) (.c (.bool true)))] [2,3]) .rt)
def r1002900:FI.Rd:={ ps:=[11],ct:=[2,3,4],asg:=a29_1,body:=b29_0 }
def c29:FI.Fn:={ body:=(.sq (.rg none [Qo 1 (.bx 6 (.t 0)),Qo 2 (.al 1 .nilm),Qo 3 (.al 1 (.bool false))] [1,2,3]) (.sq (.rg none [Qo 8 (.mm),Qo 4 (.al 1 .nilm),Eo (.st 1 (.t 4) (.t 8))] [1,2,3,4]) (.sq (.sq (.rg none [Qo 9 (.ld (some 6) (.t 1)),Qo 10 (.cl 33 [(.t 9)])] [2,3,4,10]) (.bl 0 (.rf 1002900 (.t 10) [2,3,4]))) k29_2))),np:=1,res:=[.cell 2 none,.cell 3 none],mode:=.shr }
def c30:FI.Fn:={ body:=(.sq (.rg none [Mv 5 0,Qo 6 (.ln 1 (.t 5)),Mv 4 6] [0,1,4]) (.rg none [Mv 7 0,Mv 8 4,Mv 9 4,Qo 10 (.cv .u64 (.t 9)),Qo 11 (.cl 56 [(.t 10)]),Mv 12 1,Qo 13 (.cl 55 [(.t 7),(.c (.int .i64 0)),(.t 8),(.t 11),(.t 12)])] [])),np:=2,res:=[],mode:=.shr }
def c31:FI.Fn:={ body:=(.sq (.rg none [Qo 2 (.bx 3 (.t 0)),Qo 3 (.bx 3 (.t 1)),Qo 4 (.mv (.c (.int .i64 0)))] [2,3]) (.sq (.rg none [Qo 5 (.fa 0 (.t 2)),Qo 6 (.ld none (.t 5)),Qo 7 (.fa 0 (.t 3)),Qo 8 (.ld none (.t 7)),Qo 9 (.cl 32 [(.t 6),(.t 8)]),Mv 4 9] [4]) .rt)),np:=2,res:=[.t 4],mode:=.iso }
def c32:FI.Fn:={ body:=(.sq (.rg none [Qo 4 (.mv (.c (.int .i64 0)))] [0,1]) (.sq (.rg none [Mv 5 0,Mv 6 1,Qo 7 (.cl 57 [(.t 5),(.t 6)]),Mv 4 7] [4]) .rt)),np:=2,res:=[.t 4],mode:=.iso }
def c33:FI.Fn:={ body:=(.sq (.rg none [Qo 1 (.bx 6 (.t 0)),Qo 2 (.mv (.c .nilf))] [1]) (.sq (.rg none [Qo 3 (.mf 58 [(.t 1)]),Mv 2 3] [2]) .rt)),np:=1,res:=[.t 2],mode:=.iso }
def b34_0:C:=(.sq (.rg none [Qo 17 (.bo .lss (.t 16) (.t 15))] [0,15,16,17]) (.sq (.cd (.t 17) .sk (.xt 0)) (.sq (.bl 1 (.sq (.rg none [Mv 18 16,Mv 3 18] [0,3,15,16]) (.sq (.rg none [Mv 19 0,Mv 20 3,Qo 21 (.ix (.t 19) (.t 20)),Mv 4 21] [0,3,4,15,16]) (.sq (.rg none [Mv 22 4,Qo 23 (.bo .geq (.t 22) (.c (.int .u8 97))),Mv 24 23,Gm 25 24 true 4,Gd 26 24 true (.bo .leq (.t 25) (.c (.int .u8 122))),Qo 27 (.pk (.t 24) (.t 26) (.c (.bool false))),Mv 28 27,Gm 29 28 false 4,Gd 30 28 false (.bo .geq (.t 29) (.c (.int .u8 65))),Gm 31 28 false 30,Gm 32 31 true 4,Gd 33 31 true (.bo .leq (.t 32) (.c (.int .u8 90))),Gd 34 28 false (.pk (.t 31) (.t 33) (.c (.bool false))),Qo 35 (.pk (.t 28) (.c (.bool true)) (.t 34)),Mv 5 35] [0,3,4,5,15,16]) (.sq (.rg none [Mv 36 5,Qo 37 (.un .not (.t 36)),Mv 38 37,Gm 39 38 true 3,Gd 40 38 true (.bo .eql (.t 39) (.c (.int .i64 0))),Gm 41 38 true 40,Gm 42 41 false 4,Gd 43 41 false (.bo .neq (.t 42) (.c (.int .u8 95))),Gm 44 41 false 43,Gm 45 44 true 4,Gd 46 44 true (.bo .lss (.t 45) (.c (.int .u8 48))),Gm 47 44 true 46,Gm 48 47 false 4,Gd 49 47 false (.bo .gtr (.t 48) (.c (.int .u8 57))),Gd 50 44 true (.pk (.t 47) (.c (.bool true)) (.t 49)),Gd 51 41 false (.pk (.t 44) (.t 50) (.c (.bool false))),Gd 52 38 true (.pk (.t 41) (.c (.bool true)) (.t 51)),Qo 53 (.pk (.t 38) (.t 52) (.c (.bool false)))] [0,15,16,53]) (.cd (.t 53) (.sq (.rg none [Qo 2 (.mv (.c (.bool false)))] [2]) .rt) .sk)))))) (.rg none [Qo 54 (.bo .add (.t 16) (.c (.int .i64 1))),Mv 16 54] [0,15,16]))))
def k34_1:C:=(.sq (.rg none [Qo 2 (.mv (.c (.bool true)))] [2]) .rt)
def c34:FI.Fn:={ body:=(.sq (.rg none [Qo 2 (.mv (.c (.bool false)))] [0]) (.sq (.sq (.rg none [Mv 6 0,Qo 7 (.ln 0 (.t 6)),Qo 8 (.bo .lss (.t 7) (.c (.int .i64 1))),Mv 9 8,Gm 10 9 false 0,Gd 11 9 false (.ln 0 (.t 10)),Gd 12 9 false (.bo .gtr (.t 11) (.c (.int .i64 24))),Qo 13 (.pk (.t 9) (.c (.bool true)) (.t 12))] [0,13]) (.cd (.t 13) (.sq (.rg none [Qo 2 (.mv (.c (.bool false)))] [2]) .rt) .sk)) (.sq (.sq (.rg none [Mv 14 0,Qo 15 (.ln 0 (.t 14)),Qo 16 (.mv (.c (.int .i64 0)))] [0,15,16]) (.bl 0 (.lp true b34_0))) k34_1))),np:=1,res:=[.t 2],mode:=.iso }
def c35:FI.Fn:={ body:=(.sq (.rg none [Qo 4 (.mv (.c (.str [])))] [0,1]) (.sq (.rg none [Mv 5 0,Mv 6 1,Qo 7 (.cl 60 [(.t 5),(.t 6)]),Mv 4 7] [4]) .rt)),np:=2,res:=[.t 4],mode:=.iso }
def c36:FI.Fn:={ body:=(.sq (.rg none [Qo 2 (.bx 2 (.t 0)),Qo 3 (.bx 2 (.t 1)),Qo 4 (.mv (.c (.bool false)))] [2,3]) (.sq (.rg none [Qo 5 (.fa 0 (.t 2)),Qo 6 (.ld none (.t 5)),Qo 7 (.fa 0 (.t 3)),Qo 8 (.ld none (.t 7)),Qo 9 (.bo .lss (.t 6) (.t 8)),Mv 10 9,Gd 11 10 false (.fa 0 (.t 2)),Gd 12 10 false (.ld none (.t 11)),Gd 13 10 false (.fa 0 (.t 3)),Gd 14 10 false (.ld none (.t 13)),Gd 15 10 false (.bo .eql (.t 12) (.t 14)),Gm 16 10 false 15,Gd 17 16 true (.fa 1 (.t 2)),Gd 18 16 true (.ld none (.t 17)),Gd 19 16 true (.fa 1 (.t 3)),Gd 20 16 true (.ld none (.t 19)),Gd 21 16 true (.bo .lss (.t 18) (.t 20)),Gd 22 10 false (.pk (.t 16) (.t 21) (.c (.bool false))),Qo 23 (.pk (.t 10) (.c (.bool true)) (.t 22)),Mv 4 23] [4]) .rt)),np:=2,res:=[.t 4],mode:=.iso }
def c37:FI.Fn:={ body:=(.sq (.rg none [Qo 3 (.mv (.c (.bool false)))] [0,1]) (.sq (.rg none [Qo 4 (.ld none (.t 1)),Mv 5 0,Qo 6 (.bo .quo (.t 5) (.c (.int .i64 2))),Qo 7 (.ia 1 (.t 4) (.t 6)),Qo 8 (.ld none (.t 7)),Mv 9 0,Qo 10 (.bo .rem (.t 9) (.c (.int .i64 2))),Qo 11 (.bo .eql (.t 10) (.c (.int .i64 1))),Qo 12 (.be true (.t 8) (.t 11)),Mv 3 12] [3]) .rt)),np:=2,res:=[.t 3],mode:=.shr }
def b38_0:C:=(.sq (.rg none [Qo 11 (.bo .lss (.t 10) (.t 9))] [0,8,9,10,11]) (.sq (.cd (.t 11) .sk (.xt 0)) (.sq (.bl 1 (.sq (.rg none [Mv 12 10,Qo 13 (.ia 3 (.t 8) (.t 10)),Qo 14 (.ld (some 3) (.t 13)),Qo 4 (.al 3 (.agg [(.str []),(.int .i64 0),(.int .u64 0)])),Mv 3 12,Eo (.st 3 (.t 4) (.t 14))] [0,3,4,8,9,10]) (.sq (.rg (some (List.range 27)) [Qo 15 (.fa 0 (.t 4)),Qo 16 (.ld none (.t 15)),Qo 17 (.cl 61 [(.t 16)]),Qo 18 (.un .not (.t 17)),Mv 19 18,Gd 20 19 false (.fa 1 (.t 4)),Gd 21 19 false (.ld none (.t 20)),Gd 22 19 false (.fa 2 (.t 4)),Gd 23 19 false (.ld none (.t 22)),Gd 24 19 false (.cl 62 [(.t 21),(.t 23)]),Gd 25 19 false (.un .not (.t 24)),Qo 26 (.pk (.t 19) (.c (.bool true)) (.t 25)),Mv 27 26,Gm 28 27 false 3,Gd 29 27 false (.bo .gtr (.t 28) (.c (.int .i64 0))),Gm 30 27 false 29,Gm 31 30 true 0,Gm 32 30 true 3,Gd 33 30 true (.bo .sub (.t 32) (.c (.int .i64 1))),Gd 34 30 true (.ia 3 (.t 31) (.t 33)),Gd 35 30 true (.fa 0 (.t 34)),Gd 36 30 true (.ld none (.t 35)),Gd 37 30 true (.fa 0 (.t 4)),Gd 38 30 true (.ld none (.t 37)),Gd 39 30 true (.bo .geq (.t 36) (.t 38)),Gd 40 27 false (.pk (.t 30) (.t 39) (.c (.bool false))),Qo 41 (.pk (.t 27) (.c (.bool true)) (.t 40))] [0,8,9,10,41]) (.cd (.t 41) (.sq (.rg none [Qo 2 (.mv (.c (.int .i64 8)))] [2]) .rt) .sk)))) (.rg none [Qo 42 (.bo .add (.t 10) (.c (.int .i64 1))),Mv 10 42] [0,8,9,10]))))
def k38_1:C:=(.sq (.rg none [Qo 2 (.mv (.c (.int .i64 0)))] [2]) .rt)
def c38:FI.Fn:={ body:=(.sq (.rg none [Qo 2 (.mv (.c (.int .i64 0)))] [0]) (.sq (.sq (.rg none [Mv 5 0,Qo 6 (.ln 1 (.t 5)),Qo 7 (.bo .gtr (.t 6) (.c (.int .i64 1000)))] [0,7]) (.cd (.t 7) (.sq (.rg none [Qo 2 (.mv (.c (.int .i64 8)))] [2]) .rt) .sk)) (.sq (.sq (.rg none [Mv 8 0,Qo 9 (.ln 1 (.t 8)),Qo 10 (.mv (.c (.int .i64 0)))] [0,8,9,10]) (.bl 0 (.lp true b38_0))) k38_1))),np:=1,res:=[.t 2],mode:=.iso }
def b39_0:C:=(.sq (.sq (.rg none [Mv 15 9,Mv 16 10,Qo 17 (.bo .lss (.t 15) (.t 16))] [0,1,2,8,9,10,17]) (.cd (.t 17) .sk (.xt 0))) (.bl 1 (.sq (.rg none [Mv 18 9,Mv 19 10,Qo 20 (.bo .add (.t 18) (.t 19)),Qo 21 (.cv .u64 (.t 20)),Qo 22 (.bo .shr (.t 21) (.c (.int .u64 1))),Qo 23 (.cv .i64 (.t 22)),Mv 11 23] [0,1,2,8,9,10,11]) (.sq (.rg none [Mv 24 2,Mv 25 0,Mv 26 11,Qo 27 (.ia 3 (.t 25) (.t 26)),Qo 28 (.ld (some 3) (.t 27)),Mv 29 1,Qo 30 (.cw (.t 24) [(.t 28),(.t 29)]),Qo 31 (.bo .lss (.t 30) (.c (.int .i64 0)))] [0,1,2,8,9,10,11,31]) (.cd (.t 31) (.rg none [Mv 32 11,Qo 33 (.bo .add (.t 32) (.c (.int .i64 1))),Mv 9 33] [0,1,2,8,9,10]) (.rg none [Mv 34 11,Mv 10 34] [0,1,2,8,9,10]))))))
def k39_1:C:=(.sq (.rg none [Mv 35 9,Mv 36 9,Mv 37 8,Qo 38 (.bo .lss (.t 36) (.t 37)),Mv 39 38,Gm 40 39 true 2,Gm 41 39 true 0,Gm 42 39 true 9,Gd 43 39 true (.ia 3 (.t 41) (.t 42)),Gd 44 39 true (.ld (some 3) (.t 43)),Gm 45 39 true 1,Gd 46 39 true (.cw (.t 40) [(.t 44),(.t 45)]),Gd 47 39 true (.bo .eql (.t 46) (.c (.int .i64 0))),Qo 48 (.pk (.t 39) (.t 47) (.c (.bool false))),Mv 6 35,Mv 7 48] [6,7]) .rt)
def c39:FI.Fn:={ body:=(.sq (.rg none [Qo 6 (.mv (.c (.int .i64 0))),Qo 7 (.mv (.c (.bool false)))] [0,1,2]) (.sq (.rg none [Mv 12 0,Qo 13 (.ln 1 (.t 12)),Mv 8 13] [0,1,2,8]) (.sq (.rg none [Mv 14 8,Qo 9 (.mv (.c (.int .i64 0))),Mv 10 14] [0,1,2,8,9,10]) (.sq (.bl 0 (.lp true b39_0)) k39_1)))),np:=3,res:=[.t 6,.t 7],mode:=.iso }
def c40:FI.Fn:={ body:=(.sq (.rg none [Qo 2 (.bx 3 (.t 0)),Qo 4 (.mv (.c (.int .i64 0)))] [1,2]) (.sq (.rg none [Qo 5 (.fa 0 (.t 2)),Qo 6 (.ld none (.t 5)),Mv 7 1,Qo 8 (.cl 32 [(.t 6),(.t 7)]),Mv 4 8] [4]) .rt)),np:=2,res:=[.t 4],mode:=.iso }
def c41:FI.Fn:={ body:=(.sq (.rg none [Qo 2 (.mv (.c (.int .i64 0)))] [0]) (.sq (.sq (.rg none [Mv 3 0,Qo 4 (.bo .rem (.t 3) (.c (.int .i64 2))),Qo 5 (.bo .eql (.t 4) (.c (.int .i64 1)))] [0,5]) (.cd (.t 5) (.sq (.rg none [Mv 6 0,Qo 7 (.bo .quo (.t 6) (.c (.int .i64 2))),Qo 8 (.bo .add (.t 7) (.c (.int .i64 1))),Qo 9 (.un .neg (.t 8)),Mv 2 9] [2]) .rt) .sk)) (.sq (.rg none [Mv 10 0,Qo 11 (.bo .quo (.t 10) (.c (.int .i64 2))),Qo 12 (.bo .add (.t 11) (.c (.int .i64 1))),Mv 2 12] [2]) .rt))),np:=1,res:=[.t 2],mode:=.iso }
def c42:FI.Fn:={ body:=(.sq (.rg none [Qo 4 (.mv (.c (.bool false)))] [0,1]) (.sq (.sq (.rg none [Mv 5 1,Qo 6 (.bo .rem (.t 5) (.c (.int .i64 2))),Qo 7 (.bo .eql (.t 6) (.c (.int .i64 1)))] [0,1,7]) (.cd (.t 7) (.sq (.rg none [Mv 8 0,Mv 9 1,Qo 10 (.bo .quo (.t 9) (.c (.int .i64 2))),Qo 11 (.ia 1 (.t 8) (.t 10)),Qo 12 (.ld none (.t 11)),Qo 13 (.un .not (.t 12)),Mv 4 13] [4]) .rt) .sk)) (.sq (.rg none [Mv 14 0,Mv 15 1,Qo 16 (.bo .quo (.t 15) (.c (.int .i64 2))),Qo 17 (.ia 1 (.t 14) (.t 16)),Qo 18 (.ld none (.t 17)),Mv 4 18] [4]) .rt))),np:=2,res:=[.t 4],mode:=.isf }
def c43:FI.Fn:={ body:=(.sq (.rg none [Qo 1 (.bx 6 (.t 0)),Qo 2 (.mv (.c (.int .i64 0)))] [1]) (.sq (.rg none [Qo 4 (.fa 1 (.t 1)),Qo 5 (.ld none (.t 4)),Mv 3 5] [1,3]) (.sq (.sq (.rg none [Qo 6 (.fa 5 (.t 1)),Qo 7 (.ld none (.t 6)),Qo 8 (.ln 1 (.t 7)),Qo 9 (.bo .gtr (.t 8) (.c (.int .i64 0)))] [1,3,9]) (.cd (.t 9) (.rg none [Qo 10 (.fa 5 (.t 1)),Qo 11 (.ld none (.t 10)),Qo 12 (.ia 6 (.t 11) (.c (.int .i64 0))),Qo 13 (.fa 1 (.t 12)),Qo 14 (.ld none (.t 13)),Mv 3 14] [1,3]) .sk)) (.sq (.sq (.rg none [Qo 15 (.fa 0 (.t 1)),Qo 16 (.ld none (.t 15))] [1,3,16]) (.bl 0 (.sq (.sq (.rg none [Qo 18 (.bo .eql (.t 16) (.c (.int .u8 4))),Mv 17 18] [1,3,16,17]) (.cd (.t 17) .sk (.sq (.rg none [Qo 19 (.bo .eql (.t 16) (.c (.int .u8 5))),Mv 17 19] [1,3,16,17]) (.cd (.t 17) .sk (.sq (.rg none [Qo 20 (.bo .eql (.t 16) (.c (.int .u8 6))),Mv 17 20] [1,3,16,17]) (.cd (.t 17) .sk (.sq (.rg none [Qo 21 (.bo .eql (.t 16) (.c (.int .u8 16))),Mv 17 21] [1,3,16,17]) (.cd (.t 17) .sk (.sq (.rg none [Qo 22 (.bo .eql (.t 16) (.c (.int .u8 17))),Mv 17 22] [1,3,16,17]) (.cd (.t 17) .sk (.rg none [Qo 23 (.bo .eql (.t 16) (.c (.int .u8 18))),Mv 17 23] [1,3,16,17]))))))))))) (.cd (.t 17) (.sq (.rg none [Mv 24 3,Qo 25 (.bo .mul (.c (.int .i64 20)) (.t 24)),Mv 2 25] [2]) .rt) (.sq (.rg none [Qo 27 (.bo .eql (.t 16) (.c (.int .u8 7))),Mv 26 27] [1,3,16,26]) (.cd (.t 26) (.sq (.rg none [Mv 28 3,Qo 29 (.bo .mul (.c (.int .i64 20)) (.t 28)),Mv 30 3,Qo 31 (.bo .mul (.t 29) (.t 30)),Mv 2 31] [2]) .rt) (.sq (.sq (.rg none [Qo 33 (.bo .eql (.t 16) (.c (.int .u8 14))),Mv 32 33] [1,3,16,32]) (.cd (.t 32) .sk (.rg none [Qo 34 (.bo .eql (.t 16) (.c (.int .u8 15))),Mv 32 34] [1,3,16,32]))) (.cd (.t 32) (.sq (.rg none [Mv 35 3,Qo 36 (.bo .mul (.c (.int .i64 40)) (.t 35)),Mv 37 3,Qo 38 (.bo .mul (.t 36) (.t 37)),Mv 2 38] [2]) .rt) (.sq (.sq (.rg none [Qo 40 (.bo .eql (.t 16) (.c (.int .u8 8))),Mv 39 40] [1,3,16,39]) (.cd (.t 39) .sk (.rg none [Qo 41 (.bo .eql (.t 16) (.c (.int .u8 9))),Mv 39 41] [1,3,16,39]))) (.cd (.t 39) (.sq (.rg none [Mv 42 3,Mv 2 42] [2]) .rt) (.sq (.rg none [Qo 44 (.bo .eql (.t 16) (.c (.int .u8 10))),Mv 43 44] [1,3,16,43]) (.cd (.t 43) (.sq (.rg none [Mv 45 3,Qo 46 (.bo .mul (.c (.int .i64 4)) (.t 45)),Mv 2 46] [2]) .rt) (.sq (.sq (.rg none [Qo 48 (.bo .eql (.t 16) (.c (.int .u8 11))),Mv 47 48] [1,3,16,47]) (.cd (.t 47) .sk (.sq (.rg none [Qo 49 (.bo .eql (.t 16) (.c (.int .u8 12))),Mv 47 49] [1,3,16,47]) (.cd (.t 47) .sk (.rg none [Qo 50 (.bo .eql (.t 16) (.c (.int .u8 13))),Mv 47 50] [1,3,16,47]))))) (.cd (.t 47) (.sq (.rg none [Mv 51 3,Qo 52 (.bo .mul (.c (.int .i64 40)) (.t 51)),Mv 2 52] [2]) .rt) (.sq (.rg none [Qo 54 (.bo .eql (.t 16) (.c (.int .u8 19))),Mv 53 54] [1,53]) (.cd (.t 53) (.sq (.rg none [Qo 55 (.fa 1 (.t 1)),Qo 56 (.ld none (.t 55)),Qo 57 (.bo .mul (.c (.int .i64 4)) (.t 56)),Mv 2 57] [2]) .rt) .sk)))))))))))))))) (.sq (.rg none [Qo 2 (.mv (.c (.int .i64 0)))] [2]) .rt))))),np:=1,res:=[.t 2],mode:=.iso }
def b44_0:C:=(.sq (.rg none [Qo 11 (.bo .lss (.t 10) (.t 9))] [0,3,5,9,10,11]) (.sq (.cd (.t 11) .sk (.xt 0)) (.sq (.bl 1 (.sq (.rg none [Mv 12 10,Mv 6 12] [0,3,5,6,9,10]) (.sq (.rg none [Qo 13 (.fa 2 (.t 3)),Qo 14 (.ld none (.t 13)),Mv 15 6,Qo 16 (.bo .shr (.t 14) (.t 15)),Qo 17 (.bo .and (.t 16) (.c (.int .u64 1))),Qo 18 (.cv .i64 (.t 17)),Mv 7 18] [0,3,5,6,7,9,10]) (.sq (.sq (.rg none [Qo 19 (.fa 0 (.t 3)),Qo 20 (.ld none (.t 19)),Qo 21 (.bo .eql (.t 20) (.c (.int .u8 2)))] [0,3,5,6,7,9,10,21]) (.cd (.t 21) (.rg (some (List.range 10)) [Mv 22 0,Qo 23 (.nc (.t 22)),Qo 24 (.fa 4 (.t 23)),Qo 25 (.ld none (.t 24)),Qo 26 (.fa 3 (.t 3)),Qo 27 (.ld none (.t 26)),Mv 28 6,Qo 29 (.bd [(.str []),(.int .i64 0)] [(0,1,(.t 27)),(1,1,(.t 28))]),Qo 30 (.lk 3 (.int .i64 0) false (.t 25) (.t 29)),Mv 7 30] [0,3,5,7,9,10]) .sk)) (.rg none [Mv 31 5,Mv 32 7,Qo 33 (.bs 1 1 (.int .i64 0) [(0,(.t 32))]),Qo 34 (.ap 1 8 (.t 31) (.t 33)),Mv 5 34] [0,3,5,9,10]))))) (.rg none [Qo 35 (.bo .add (.t 10) (.c (.int .i64 1))),Mv 10 35] [0,3,5,9,10]))))
def k44_1:C:=(.sq (.rg none [Mv 36 5,Mv 4 36] [4]) .rt)
def c44:FI.Fn:={ body:=(.sq (.rg none [Qo 3 (.bx 6 (.t 1)),Qo 4 (.mv (.c (.lst true [])))] [0,3]) (.sq (.rg none [Qo 5 (.nl 1)] [0,3,5]) (.sq (.sq (.rg none [Qo 8 (.fa 1 (.t 3)),Qo 9 (.ld none (.t 8)),Qo 10 (.mv (.c (.int .i64 0)))] [0,3,5,9,10]) (.bl 0 (.lp true b44_0))) k44_1))),np:=2,res:=[.t 4],mode:=.shr }
def b45_0:C:=(.sq (.rg none [Qo 9 (.bo .lss (.t 8) (.t 7))] [3,6,7,8,9]) (.sq (.cd (.t 9) .sk (.xt 0)) (.sq (.bl 1 (.sq (.rg none [Qo 10 (.ia 1 (.t 6) (.t 8)),Qo 11 (.ld none (.t 10)),Mv 5 11] [3,5,6,7,8]) (.rg none [Mv 12 3,Mv 13 5,Qo 14 (.bo .xor (.t 13) (.c (.int .i64 1))),Qo 15 (.bs 1 1 (.int .i64 0) [(0,(.t 14))]),Qo 16 (.ap 1 8 (.t 12) (.t 15)),Mv 3 16] [3,6,7,8]))) (.rg none [Qo 17 (.bo .add (.t 8) (.c (.int .i64 1))),Mv 8 17] [3,6,7,8]))))
def k45_1:C:=(.sq (.rg none [Mv 18 3,Mv 2 18] [2]) .rt)
def c45:FI.Fn:={ body:=(.sq (.rg none [Qo 2 (.mv (.c (.lst true [])))] [0]) (.sq (.rg none [Qo 3 (.nl 1)] [0,3]) (.sq (.sq (.rg none [Mv 6 0,Qo 7 (.ln 1 (.t 6)),Qo 8 (.mv (.c (.int .i64 0)))] [3,6,7,8]) (.bl 0 (.lp true b45_0))) k45_1))),np:=1,res:=[.t 2],mode:=.iso }
def c46:FI.Fn:={ body:=(.sq (.rg none [Qo 4 (.bx 1 (.t 0)),Qo 7 (.bx 1 (.t 3)),Qo 8 (.mv (.c (.lst true []))),Qo 9 (.mv (.c (.int .i64 0)))] [1,2,4,7]) (.sq (.rg none [Qo 12 (.mf 63 [(.t 4),(.t 7)]),Mv 10 12] [1,2,7,10]) (.sq (.rg none [Mv 13 1,Mv 14 2,Mv 15 10,Qo 16 (.cl 48 [(.t 13),(.t 14),(.t 15)]),Mv 11 16] [7,11]) (.sq (.rg (some (List.range 4)) [Mv 17 11,Qo 18 (.ld none (.t 7)),Mv 8 17,Mv 9 18] [8,9]) .rt)))),np:=4,res:=[.t 8,.t 9],mode:=.iso }
def c47:FI.Fn:={ body:=(.sq (.rg none [Qo 4 (.mv (.c (.lst true [])))] [0,1]) (.sq (.rg none [Mv 5 0,Qo 6 (.bs 1 1 (.int .i64 0) [(0,(.t 5))]),Mv 7 1,Qo 8 (.cl 67 [(.t 6),(.t 7)]),Mv 4 8] [4]) .rt)),np:=2,res:=[.t 4],mode:=.iso }
def b48_0:C:=(.sq (.rg none [Qo 12 (.bo .lss (.t 11) (.t 10))] [0,1,2,7,10,11,12]) (.sq (.cd (.t 12) .sk (.xt 0)) (.sq (.bl 1 (.sq (.rg none [Mv 13 11,Mv 8 13] [0,1,2,7,8,10,11]) (.rg (some (List.range 14)) [Mv 14 7,Mv 15 2,Mv 16 0,Mv 17 8,Qo 18 (.ia 1 (.t 16) (.t 17)),Qo 19 (.ld none (.t 18)),Mv 20 1,Mv 21 8,Qo 22 (.ia 1 (.t 20) (.t 21)),Qo 23 (.ld none (.t 22)),Qo 24 (.cw (.t 15) [(.t 19),(.t 23)]),Qo 25 (.bs 1 1 (.int .i64 0) [(0,(.t 24))]),Qo 26 (.ap 1 8 (.t 14) (.t 25)),Mv 7 26] [0,1,2,7,10,11]))) (.rg none [Qo 27 (.bo .add (.t 11) (.c (.int .i64 1))),Mv 11 27] [0,1,2,7,10,11]))))
def k48_1:C:=(.sq (.rg none [Mv 28 7,Mv 6 28] [6]) .rt)
def c48:FI.Fn:={ body:=(.sq (.rg none [Qo 6 (.mv (.c (.lst true [])))] [0,1,2]) (.sq (.rg none [Qo 7 (.nl 1)] [0,1,2,7]) (.sq (.sq (.rg none [Mv 9 0,Qo 10 (.ln 1 (.t 9)),Qo 11 (.mv (.c (.int .i64 0)))] [0,1,2,7,10,11]) (.bl 0 (.lp false b48_0))) k48_1))),np:=3,res:=[.t 6],mode:=.shr }
def c49:FI.Fn:={ body:=(.sq (.rg none [Qo 6 (.mv (.c (.int .i64 0)))] [0,1,2,3]) (.sq (.rg (some (List.range 8)) [Qo 7 (.ld none (.t 2)),Qo 8 (.ld none (.t 3)),Qo 9 (.ia 1 (.t 8) (.c (.int .i64 0))),Qo 10 (.ld none (.t 9)),Mv 11 0,Mv 12 1,Qo 13 (.cl 50 [(.t 7),(.t 10),(.t 11),(.t 12)]),Mv 6 13] [6]) .rt)),np:=4,res:=[.t 6],mode:=.iso }
def c50:FI.Fn:={ body:=(.sq (.rg none [Qo 8 (.mv (.c (.int .i64 0)))] [0,1,2,3]) (.sq (.rg none [Mv 9 0,Mv 10 0,Mv 11 1,Mv 12 2,Qo 13 (.cl 66 [(.t 10),(.t 11),(.t 12)]),Mv 14 0,Mv 15 1,Qo 16 (.bo .xor (.t 15) (.c (.int .i64 1))),Mv 17 3,Qo 18 (.cl 66 [(.t 14),(.t 16),(.t 17)]),Qo 19 (.cl 65 [(.t 9),(.t 13),(.t 18)]),Mv 8 19] [8]) .rt)),np:=4,res:=[.t 8],mode:=.iso }
def c51:FI.Fn:={ body:=(.sq (.rg none [Qo 8 (.mv (.c (.lst true [])))] [0,1,2,3]) (.sq (.sq (.rg none [Mv 17 1] [0,2,3,17]) (.bl 0 (.sq (.rg none [Qo 19 (.bo .eql (.t 17) (.c (.int .u8 20))),Mv 18 19] [0,2,3,17,18]) (.cd (.t 18) (.sq (.rg none [Mv 20 3,Qo 21 (.cl 26 [(.t 20)]),Mv 22 2,Qo 23 (.ap 1 8 (.t 21) (.t 22)),Mv 8 23] [8]) .rt) (.sq (.rg none [Qo 25 (.bo .eql (.t 17) (.c (.int .u8 5))),Mv 24 25] [0,2,3,17,24]) (.cd (.t 24) (.sq (.rg none [Mv 27 0,Mv 28 2,Mv 29 3,Qo 30 (.cl 46 [(.t 27),(.t 28),(.t 29),(.c (.int .i64 0))]),Mv 26 30,Qo 31 (.ex (.t 26) 0),Qo 32 (.ex (.t 26) 1),Mv 9 31,Mv 10 32] [9]) (.sq (.rg none [Mv 33 9,Mv 8 33] [8]) .rt)) (.sq (.rg none [Qo 35 (.bo .eql (.t 17) (.c (.int .u8 6))),Mv 34 35] [0,2,3,17,34]) (.cd (.t 34) (.sq (.rg none [Mv 37 0,Mv 38 2,Mv 39 3,Qo 40 (.cl 45 [(.t 39)]),Qo 41 (.cl 46 [(.t 37),(.t 38),(.t 40),(.c (.int .i64 1))]),Mv 36 41,Qo 42 (.ex (.t 36) 0),Qo 43 (.ex (.t 36) 1),Mv 11 42,Mv 12 43] [11]) (.sq (.rg none [Mv 44 11,Mv 8 44] [8]) .rt)) (.sq (.rg none [Qo 46 (.bo .eql (.t 17) (.c (.int .u8 7))),Mv 45 46] [0,2,3,17,45]) (.cd (.t 45) (.sq (.rg none [Mv 47 0,Mv 48 2,Mv 49 3,Qo 50 (.cl 68 [(.t 47),(.t 48),(.t 49)]),Mv 8 50] [8]) .rt) (.sq (.rg none [Qo 52 (.bo .eql (.t 17) (.c (.int .u8 8))),Mv 51 52] [0,2,3,17,51]) (.cd (.t 51) (.sq (.rg none [Mv 53 2,Mv 54 3,Mv 55 0,Qo 56 (.mf 2000066 [(.t 55)]),Qo 57 (.cl 48 [(.t 53),(.t 54),(.t 56)]),Mv 8 57] [8]) .rt) (.sq (.rg none [Qo 59 (.bo .eql (.t 17) (.c (.int .u8 9))),Mv 58 59] [0,2,3,17,58]) (.cd (.t 58) (.sq (.rg none [Mv 60 2,Mv 61 3,Mv 62 0,Qo 63 (.mf 2000065 [(.t 62)]),Qo 64 (.cl 48 [(.t 60),(.t 61),(.t 63)]),Mv 8 64] [8]) .rt) (.sq (.rg none [Qo 66 (.bo .eql (.t 17) (.c (.int .u8 10))),Mv 65 66] [0,2,3,17,65]) (.cd (.t 65) (.sq (.rg none [Mv 67 2,Mv 68 3,Mv 69 0,Qo 70 (.mf 2000064 [(.t 69)]),Qo 71 (.cl 48 [(.t 67),(.t 68),(.t 70)]),Mv 8 71] [8]) .rt) (.sq (.rg none [Qo 73 (.bo .eql (.t 17) (.c (.int .u8 11))),Mv 72 73] [0,2,3,17,72]) (.cd (.t 72) (.sq (.rg none [Mv 74 0,Mv 75 2,Mv 76 3,Qo 77 (.cl 69 [(.t 74),(.t 75),(.t 76),(.c (.bool true)),(.c (.int .i64 0))]),Mv 8 77] [8]) .rt) (.sq (.rg none [Qo 79 (.bo .eql (.t 17) (.c (.int .u8 12))),Mv 78 79] [0,2,3,17,78]) (.cd (.t 78) (.sq (.rg none [Mv 80 0,Mv 81 2,Mv 82 3,Qo 83 (.cl 69 [(.t 80),(.t 81),(.t 82),(.c (.bool false)),(.c (.int .i64 0))]),Mv 8 83] [8]) .rt) (.sq (.rg none [Qo 85 (.bo .eql (.t 17) (.c (.int .u8 13))),Mv 84 85] [0,2,3,17,84]) (.cd (.t 84) (.sq (.rg none [Mv 86 0,Mv 87 2,Mv 88 3,Mv 89 2,Mv 90 2,Qo 91 (.ln 1 (.t 90)),Qo 92 (.bo .sub (.t 91) (.c (.int .i64 1))),Qo 93 (.ia 1 (.t 89) (.t 92)),Qo 94 (.ld none (.t 93)),Qo 95 (.cl 69 [(.t 86),(.t 87),(.t 88),(.c (.bool false)),(.t 94)]),Mv 8 95] [8]) .rt) (.sq (.rg none [Qo 97 (.bo .eql (.t 17) (.c (.int .u8 14))),Mv 96 97] [0,2,3,17,96]) (.cd (.t 96) (.sq (.rg none [Mv 99 0,Mv 100 2,Mv 101 3,Qo 102 (.cl 70 [(.t 99),(.t 100),(.t 101)]),Mv 98 102,Qo 103 (.ex (.t 98) 0),Qo 104 (.ex (.t 98) 1),Mv 13 103,Mv 14 104] [13]) (.sq (.rg none [Mv 105 13,Mv 8 105] [8]) .rt)) (.sq (.rg none [Qo 107 (.bo .eql (.t 17) (.c (.int .u8 15))),Mv 106 107] [0,2,3,17,106]) (.cd (.t 106) (.sq (.rg none [Mv 109 0,Mv 110 2,Mv 111 3,Qo 112 (.cl 70 [(.t 109),(.t 110),(.t 111)]),Mv 108 112,Qo 113 (.ex (.t 108) 0),Qo 114 (.ex (.t 108) 1),Mv 15 113,Mv 16 114] [16]) (.sq (.rg none [Mv 115 16,Mv 8 115] [8]) .rt)) (.sq (.rg none [Qo 117 (.bo .eql (.t 17) (.c (.int .u8 16))),Mv 116 117] [0,2,3,17,116]) (.cd (.t 116) (.sq (.rg none [Mv 118 0,Mv 119 2,Mv 120 3,Qo 121 (.cl 71 [(.t 118),(.t 119),(.t 120)]),Qo 122 (.bs 1 1 (.int .i64 0) [(0,(.t 121))]),Mv 8 122] [8]) .rt) (.sq (.rg none [Qo 124 (.bo .eql (.t 17) (.c (.int .u8 17))),Mv 123 124] [0,2,3,123]) (.cd (.t 123) (.sq (.rg none [Mv 125 0,Mv 126 2,Mv 127 3,Qo 128 (.cl 72 [(.t 125),(.t 126),(.t 127)]),Qo 129 (.bs 1 1 (.int .i64 0) [(0,(.t 128))]),Mv 8 129] [8]) .rt) .sk)))))))))))))))))))))))))))))) (.sq (.rg none [Mv 130 0,Mv 131 2,Qo 132 (.cl 73 [(.t 131)]),Mv 133 3,Qo 134 (.cl 73 [(.t 133)]),Qo 135 (.cl 72 [(.t 130),(.t 132),(.t 134)]),Qo 136 (.bs 1 1 (.int .i64 0) [(0,(.t 135))]),Mv 8 136] [8]) .rt))),np:=4,res:=[.t 8],mode:=.shr }
def b52_0:C:=(.bl 1 (.rg none [Qo 7 (.ld none (.t 3)),Qo 8 (.bo .add (.t 7) (.c (.int .i64 1))),Eo (.st 1 (.t 3) (.t 8))] []))
def k52_1:C:=(.sq (.rg none [Qo 9 (.ld none (.t 3)),Mv 2 9] [2]) .rt)
def r1005200:FI.Rd:={ ps:=[6],ct:=[3],asg:=.sk,body:=b52_0 }
def c52:FI.Fn:={ body:=(.sq (.rg none [Qo 1 (.bx 6 (.t 0)),Qo 2 (.mv (.c (.int .i64 0)))] [1]) (.sq (.rg none [Qo 3 (.al 1 (.int .i64 0)),Eo (.st 1 (.t 3) (.c (.int .i64 0)))] [1,3]) (.sq (.sq (.rg none [Qo 4 (.ld (some 6) (.t 1)),Qo 5 (.cl 33 [(.t 4)])] [3,5]) (.bl 0 (.rf 1005200 (.t 5) [3]))) k52_1))),np:=1,res:=[.t 2],mode:=.iso }
def b53_0:C:=(.sq (.rg none [Qo 10 (.bo .lss (.t 9) (.t 8))] [3,7,8,9,10]) (.sq (.cd (.t 10) .sk (.xt 0)) (.sq (.bl 1 (.sq (.rg none [Qo 11 (.ia 6 (.t 7) (.t 9)),Qo 12 (.ld (some 6) (.t 11)),Qo 5 (.al 6 (.agg [(.int .u8 0),(.int .i64 0),(.int .u64 0),(.str []),(.int .i64 0),(.lst true [])])),Eo (.st 6 (.t 5) (.t 12))] [3,5,7,8,9]) (.rg none [Mv 13 3,Qo 14 (.ld (some 6) (.t 5)),Qo 15 (.cl 53 [(.t 14)]),Qo 16 (.mx (.t 13) (.t 15)),Mv 3 16] [3,7,8,9]))) (.rg none [Qo 17 (.bo .add (.t 9) (.c (.int .i64 1))),Mv 9 17] [3,7,8,9]))))
def k53_1:C:=(.sq (.rg none [Mv 18 3,Qo 19 (.bo .add (.t 18) (.c (.int .i64 1))),Mv 2 19] [2]) .rt)
def c53:FI.Fn:={ body:=(.sq (.rg none [Qo 1 (.bx 6 (.t 0)),Qo 2 (.mv (.c (.int .i64 0)))] [1]) (.sq (.rg none [Qo 3 (.mv (.c (.int .i64 0)))] [1,3]) (.sq (.sq (.rg none [Qo 6 (.fa 5 (.t 1)),Qo 7 (.ld none (.t 6)),Qo 8 (.ln 1 (.t 7)),Qo 9 (.mv (.c (.int .i64 0)))] [3,7,8,9]) (.bl 0 (.lp true b53_0))) k53_1))),np:=1,res:=[.t 2],mode:=.iso }
def c54:FI.Fn:={ body:=(.sq (.rg none [Qo 1 (.bx 6 (.t 0)),Qo 2 (.mv (.c (.bool false)))] [1]) (.sq (.sq (.rg none [Qo 6 (.fa 1 (.t 1)),Qo 7 (.ld none (.t 6)),Qo 8 (.cl 74 [(.t 7)]),Qo 9 (.un .not (.t 8))] [1,9]) (.cd (.t 9) (.sq (.rg none [Qo 2 (.mv (.c (.bool false)))] [2]) .rt) .sk)) (.sq (.rg none [Qo 11 (.fa 0 (.t 1)),Qo 12 (.ld none (.t 11)),Qo 13 (.cl 75 [(.t 12)]),Mv 10 13,Qo 14 (.ex (.t 10) 0),Qo 15 (.ex (.t 10) 1),Qo 3 (.al 3 (.agg [(.str []),(.int .i64 0),(.int .i64 0)])),Eo (.st 3 (.t 3) (.t 14)),Mv 4 15] [1,3,4]) (.sq (.sq (.rg none [Mv 16 4,Qo 17 (.un .not (.t 16))] [1,3,17]) (.cd (.t 17) (.sq (.rg none [Qo 18 (.fa 5 (.t 1)),Qo 19 (.ld none (.t 18)),Qo 20 (.ln 1 (.t 19)),Qo 21 (.bo .eql (.t 20) (.c (.int .i64 0))),Mv 22 21,Gd 23 22 true (.fa 4 (.t 1)),Gd 24 22 true (.ld none (.t 23)),Gd 25 22 true (.bo .eql (.t 24) (.c (.int .i64 0))),Qo 26 (.pk (.t 22) (.t 25) (.c (.bool false))),Mv 5 26] [1,5]) (.sq (.rg none [Mv 27 5,Mv 28 27,Gd 29 28 true (.fa 0 (.t 1)),Gd 30 28 true (.ld none (.t 29)),Gd 31 28 true (.bo .eql (.t 30) (.c (.int .u8 1))),Gm 32 28 true 31,Gd 33 32 true (.fa 3 (.t 1)),Gd 34 32 true (.ld none (.t 33)),Gd 35 32 true (.bo .eql (.t 34) (.c (.str []))),Gd 36 28 true (.pk (.t 32) (.t 35) (.c (.bool false))),Gm 37 28 true 36,Gd 38 37 true (.fa 1 (.t 1)),Gd 39 37 true (.ld none (.t 38)),Gd 40 37 true (.fa 2 (.t 1)),Gd 41 37 true (.ld none (.t 40)),Gd 42 37 true (.cl 62 [(.t 39),(.t 41)]),Gd 43 28 true (.pk (.t 37) (.t 42) (.c (.bool false))),Gm 44 28 true 43,Gd 45 44 false (.fa 0 (.t 1)),Gd 46 44 false (.ld none (.t 45)),Gd 47 44 false (.bo .eql (.t 46) (.c (.int .u8 2))),Gm 48 44 false 47,Gd 49 48 true (.fa 2 (.t 1)),Gd 50 48 true (.ld none (.t 49)),Gd 51 48 true (.bo .eql (.t 50) (.c (.int .u64 0))),Gd 52 44 false (.pk (.t 48) (.t 51) (.c (.bool false))),Gm 53 44 false 52,Gd 54 53 true (.fa 3 (.t 1)),Gd 55 53 true (.ld none (.t 54)),Gd 56 53 true (.cl 61 [(.t 55)]),Gd 57 44 false (.pk (.t 53) (.t 56) (.c (.bool false))),Gd 58 28 true (.pk (.t 44) (.c (.bool true)) (.t 57)),Qo 59 (.pk (.t 28) (.t 58) (.c (.bool false))),Mv 2 59] [2]) .rt)) .sk)) (.sq (.rg none [Qo 60 (.fa 2 (.t 1)),Qo 61 (.ld none (.t 60)),Qo 62 (.bo .eql (.t 61) (.c (.int .u64 0))),Mv 63 62,Gd 64 63 true (.fa 3 (.t 1)),Gd 65 63 true (.ld none (.t 64)),Gd 66 63 true (.bo .eql (.t 65) (.c (.str []))),Qo 67 (.pk (.t 63) (.t 66) (.c (.bool false))),Mv 68 67,Gd 69 68 true (.fa 4 (.t 1)),Gd 70 68 true (.ld none (.t 69)),Gd 71 68 true (.bo .eql (.t 70) (.c (.int .i64 0))),Gm 72 68 true 71,Gd 73 72 false (.fa 2 (.t 3)),Gd 74 72 false (.ld none (.t 73)),Gd 75 72 false (.bo .eql (.t 74) (.c (.int .i64 5))),Gd 76 68 true (.pk (.t 72) (.c (.bool true)) (.t 75)),Qo 77 (.pk (.t 68) (.t 76) (.c (.bool false))),Mv 78 77,Gd 79 78 true (.fa 5 (.t 1)),Gd 80 78 true (.ld none (.t 79)),Gd 81 78 true (.ln 1 (.t 80)),Gd 82 78 true (.fa 1 (.t 3)),Gd 83 78 true (.ld none (.t 82)),Gd 84 78 true (.bo .eql (.t 81) (.t 83)),Qo 85 (.pk (.t 78) (.t 84) (.c (.bool false))),Mv 86 85,Gd 87 86 true (.ld (some 6) (.t 1)),Gd 88 86 true (.fa 2 (.t 3)),Gd 89 86 true (.ld none (.t 88)),Gd 90 86 true (.cl 76 [(.t 87),(.t 89)]),Qo 91 (.pk (.t 86) (.t 90) (.c (.bool false))),Mv 2 91] [2]) .rt))))),np:=1,res:=[.t 2],mode:=.iso }
def q55_1:C:=(.sq (.rg none [Mv 62 2,Qo 63 (.bo .sub (.t 62) (.c (.int .i64 1))),Mv 64 13,Mv 65 1,Qo 66 (.bo .sub (.t 64) (.t 65)),Qo 67 (.bo .sub (.t 63) (.t 66)),Mv 13 67] [0,1,2,3,4,10,11,12,13]) (.rg none [Qo 14 (.mv (.c (.int .i64 1)))] [0,1,2,3,4,10,11,12,13,14]))
def q55_2:C:=(.cd (.t 97) (.sq (.rg none [Mv 98 0,Mv 99 1,Mv 100 2,Mv 101 13,Mv 102 4,Qo 103 (.cl 83 [(.t 98),(.t 99),(.t 100),(.t 101),(.t 102)]),Mv 15 103] [0,2,3,4,10,11,15]) (.sq (.rg none [Mv 104 15,Mv 1 104] [0,1,2,3,4,10,11]) (.xt 1))) .sk)
def q55_3:C:=(.sq (.rg none [Mv 114 17,Mv 11 114] [0,1,2,3,4,11,12,16]) (.sq (.rg none [Mv 115 16,Mv 116 1,Qo 117 (.bo .sub (.t 115) (.t 116)),Mv 118 2,Mv 119 16,Qo 120 (.bo .sub (.t 118) (.t 119)),Mv 18 117,Mv 19 120] [0,1,2,3,4,11,12,16,18,19]) (.sq (.rg none [Mv 121 12,Qo 122 (.bo .quo (.t 121) (.c (.int .i64 8))),Mv 20 122] [0,1,2,3,4,11,16,18,19,20]) (.sq (.rg none [Mv 123 18,Mv 124 19,Qo 125 (.bo .lss (.t 123) (.t 124))] [0,1,2,3,4,11,16,18,19,20,125]) (.cd (.t 125) (.sq (.rg none [Mv 126 18,Mv 127 20,Qo 128 (.bo .geq (.t 126) (.t 127)),Mv 10 128] [0,1,2,3,4,10,11,16]) (.sq (.rg none [Mv 129 0,Mv 130 1,Mv 131 16,Mv 132 3,Mv 133 4,Qo 134 (.cl 55 [(.t 129),(.t 130),(.t 131),(.t 132),(.t 133)])] [0,2,3,4,10,11,16]) (.rg none [Mv 135 16,Qo 136 (.bo .add (.t 135) (.c (.int .i64 1))),Mv 1 136] [0,1,2,3,4,10,11]))) (.sq (.rg none [Mv 137 19,Mv 138 20,Qo 139 (.bo .geq (.t 137) (.t 138)),Mv 10 139] [0,1,2,3,4,10,11,16]) (.sq (.rg none [Mv 140 0,Mv 141 16,Qo 142 (.bo .add (.t 141) (.c (.int .i64 1))),Mv 143 2,Mv 144 3,Mv 145 4,Qo 146 (.cl 55 [(.t 140),(.t 142),(.t 143),(.t 144),(.t 145)])] [0,1,3,4,10,11,16]) (.rg none [Mv 147 16,Mv 2 147] [0,1,2,3,4,10,11]))))))))
def q55_4:C:=(.sq (.rg none [Mv 106 0,Mv 107 1,Mv 108 2,Mv 109 13,Mv 110 4,Qo 111 (.cl 84 [(.t 106),(.t 107),(.t 108),(.t 109),(.t 110)]),Mv 105 111,Qo 112 (.ex (.t 105) 0),Qo 113 (.ex (.t 105) 1),Mv 16 112,Mv 17 113] [0,1,2,3,4,12,16,17]) q55_3)
def q55_5:C:=(.sq (.sq (.rg (some (List.range 17)) [Mv 81 1,Qo 82 (.bo .gtr (.t 81) (.c (.int .i64 0))),Mv 83 82,Gm 84 83 true 4,Gm 85 83 true 0,Gm 86 83 true 1,Gd 87 83 true (.bo .sub (.t 86) (.c (.int .i64 1))),Gd 88 83 true (.ia 3 (.t 85) (.t 87)),Gd 89 83 true (.ld (some 3) (.t 88)),Gm 90 83 true 0,Gm 91 83 true 13,Gd 92 83 true (.ia 3 (.t 90) (.t 91)),Gd 93 83 true (.ld (some 3) (.t 92)),Gd 94 83 true (.cw (.t 84) [(.t 89),(.t 93)]),Gd 95 83 true (.bo .lss (.t 94) (.c (.int .i64 0))),Gd 96 83 true (.un .not (.t 95)),Qo 97 (.pk (.t 83) (.t 96) (.c (.bool false)))] [0,1,2,3,4,10,11,12,13,97]) q55_2) q55_4)
def q55_6:C:=(.sq (.sq (.rg none [Mv 68 10,Mv 69 68,Gm 70 69 true 11,Qo 71 (.pk (.t 69) (.t 70) (.c (.bool false))),Mv 72 71,Gm 73 72 true 14,Gd 74 72 true (.bo .eql (.t 73) (.c (.int .i64 1))),Qo 75 (.pk (.t 72) (.t 74) (.c (.bool false)))] [0,1,2,3,4,10,11,12,13,75]) (.cd (.t 75) (.sq (.rg none [Mv 76 0,Mv 77 1,Mv 78 2,Mv 79 4,Qo 80 (.cl 82 [(.t 76),(.t 77),(.t 78),(.t 79)])] [0,1,2,3,4,10,11,12,13,80]) (.cd (.t 80) .rt .sk)) .sk)) q55_5)
def q55_7:C:=(.sq (.sq (.rg none [Mv 55 14,Qo 56 (.bo .eql (.t 55) (.c (.int .i64 2)))] [0,1,2,3,4,10,11,12,13,14,56]) (.cd (.t 56) (.sq (.rg none [Mv 57 0,Mv 58 1,Mv 59 2,Mv 60 4,Qo 61 (.cl 81 [(.t 57),(.t 58),(.t 59),(.t 60)])] [0,1,2,3,4,10,11,12,13]) q55_1) .sk)) q55_6)
def q55_8:C:=(.sq (.rg none [Mv 48 0,Mv 49 1,Mv 50 2,Mv 51 4,Qo 52 (.cl 80 [(.t 48),(.t 49),(.t 50),(.t 51)]),Mv 47 52,Qo 53 (.ex (.t 47) 0),Qo 54 (.ex (.t 47) 1),Mv 13 53,Mv 14 54] [0,1,2,3,4,10,11,12,13,14]) q55_7)
def q55_9:C:=(.sq (.sq (.rg none [Mv 38 10,Qo 39 (.un .not (.t 38))] [0,1,2,3,4,10,11,12,39]) (.cd (.t 39) (.sq (.rg none [Mv 40 0,Mv 41 1,Mv 42 2,Mv 43 4,Qo 44 (.cl 79 [(.t 40),(.t 41),(.t 42),(.t 43)])] [0,1,2,3,4,10,11,12]) (.rg none [Mv 45 3,Qo 46 (.bo .sub (.t 45) (.c (.int .i64 1))),Mv 3 46] [0,1,2,3,4,10,11,12])) .sk)) q55_8)
def q55_10:C:=(.sq (.sq (.rg none [Mv 31 3,Qo 32 (.bo .eql (.t 31) (.c (.int .i64 0)))] [0,1,2,3,4,10,11,12,32]) (.cd (.t 32) (.sq (.rg none [Mv 33 0,Mv 34 1,Mv 35 2,Mv 36 4,Qo 37 (.cl 78 [(.t 33),(.t 34),(.t 35),(.t 36)])] []) .rt) .sk)) q55_9)
def b55_0:C:=(.bl 1 (.sq (.rg none [Mv 21 2,Mv 22 1,Qo 23 (.bo .sub (.t 21) (.t 22)),Mv 12 23] [0,1,2,3,4,10,11,12]) (.sq (.sq (.rg none [Mv 24 12,Qo 25 (.bo .leq (.t 24) (.c (.int .i64 12)))] [0,1,2,3,4,10,11,12,25]) (.cd (.t 25) (.sq (.rg none [Mv 26 0,Mv 27 1,Mv 28 2,Mv 29 4,Qo 30 (.cl 77 [(.t 26),(.t 27),(.t 28),(.t 29)])] []) .rt) .sk)) q55_10)))
def c55:FI.Fn:={ body:=(.sq (.rg none [Qo 10 (.mv (.c (.bool true)))] [0,1,2,3,4,10]) (.sq (.rg none [Qo 11 (.mv (.c (.bool true)))] [0,1,2,3,4,10,11]) (.bl 0 (.lp false b55_0)))),np:=5,res:=[],mode:=.shr }
def c56:FI.Fn:={ body:=(.sq (.rg none [Qo 2 (.mv (.c (.int .i64 0)))] [0]) (.sq (.cd (.c (.bool false)) (.sq (.rg none [Mv 3 0,Qo 4 (.cv .u32 (.t 3)),Qo 5 (.cl 85 [(.t 4)]),Mv 2 5] [2]) .rt) .sk) (.sq (.rg none [Mv 6 0,Qo 7 (.cl 86 [(.t 6)]),Mv 2 7] [2]) .rt))),np:=1,res:=[.t 2],mode:=.iso }
def c57:FI.Fn:={ body:=(.sq (.rg none [Qo 4 (.mv (.c (.int .i64 0)))] [0,1]) (.sq (.rg none [Mv 5 0,Mv 6 1,Qo 7 (.sx (.t 5) (.t 6)),Mv 4 7] [4]) .rt)),np:=2,res:=[.t 4],mode:=.iso }
def c58:FI.Fn:={ body:=(.rg none [Qo 3 (.ld (some 6) (.t 1)),Mv 4 0,Qo 5 (.cl 59 [(.t 3),(.t 4)])] []),np:=2,res:=[],mode:=.shr }
def b59_0:C:=(.sq (.rg none [Qo 15 (.bo .lss (.t 14) (.t 13))] [1,12,13,14,15]) (.sq (.cd (.t 15) .sk (.xt 0)) (.sq (.bl 1 (.sq (.rg none [Qo 16 (.ia 6 (.t 12) (.t 14)),Qo 17 (.ld (some 6) (.t 16)),Qo 6 (.al 6 (.agg [(.int .u8 0),(.int .i64 0),(.int .u64 0),(.str []),(.int .i64 0),(.lst true [])])),Eo (.st 6 (.t 6) (.t 17))] [1,6,12,13,14]) (.sq (.rg none [Qo 18 (.ld (some 6) (.t 6)),Mv 19 1,Qo 20 (.cl 59 [(.t 18),(.t 19)]),Qo 21 (.un .not (.t 20))] [1,12,13,14,21]) (.cd (.t 21) (.sq (.rg none [Qo 4 (.mv (.c (.bool false)))] [4]) .rt) .sk)))) (.rg none [Qo 22 (.bo .add (.t 14) (.c (.int .i64 1))),Mv 14 22] [1,12,13,14]))))
def k59_1:C:=(.sq (.rg none [Qo 4 (.mv (.c (.bool true)))] [4]) .rt)
def c59:FI.Fn:={ body:=(.sq (.rg none [Qo 2 (.bx 6 (.t 0)),Qo 4 (.mv (.c (.bool false)))] [1,2]) (.sq (.sq (.rg none [Mv 7 1,Qo 8 (.ld (some 6) (.t 2)),Qo 9 (.cw (.t 7) [(.t 8)]),Qo 10 (.un .not (.t 9))] [1,2,10]) (.cd (.t 10) (.sq (.rg none [Qo 4 (.mv (.c (.bool false)))] [4]) .rt) .sk)) (.sq (.sq (.rg none [Qo 11 (.fa 5 (.t 2)),Qo 12 (.ld none (.t 11)),Qo 13 (.ln 1 (.t 12)),Qo 14 (.mv (.c (.int .i64 0)))] [1,12,13,14]) (.bl 0 (.lp false b59_0))) k59_1))),np:=2,res:=[.t 4],mode:=.shr }
def c60:FI.Fn:={ body:=(.sq (.rg none [Qo 4 (.mv (.c (.str [])))] [0,1]) (.sq (.sq (.rg none [Mv 5 0,Mv 6 1,Qo 7 (.cl 88 [(.t 5),(.t 6)])] [0,1,7]) (.cd (.t 7) (.sq (.rg none [Mv 8 0,Mv 9 1,Qo 10 (.ln 0 (.t 9)),Qo 11 (.sl 0 (.t 8) (some (.t 10)) none),Mv 4 11] [4]) .rt) .sk)) (.sq (.rg none [Mv 12 0,Mv 4 12] [4]) .rt))),np:=2,res:=[.t 4],mode:=.iso }
def c61:FI.Fn:={ body:=(.sq (.rg none [Qo 2 (.mv (.c (.bool false)))] [0]) (.sq (.rg none [Mv 3 0,Qo 4 (.cl 35 [(.t 3),(.c (.str [114,46]))]),Qo 5 (.cl 34 [(.t 4)]),Mv 2 5] [2]) .rt)),np:=1,res:=[.t 2],mode:=.iso }
def c62:FI.Fn:={ body:=(.sq (.rg none [Qo 4 (.mv (.c (.bool false)))] [0,1]) (.sq (.rg none [Mv 5 0,Qo 6 (.cl 89 [(.t 5)]),Mv 7 6,Gm 8 7 true 1,Gm 9 7 true 0,Gd 10 7 true (.cl 90 [(.t 9)]),Gd 11 7 true (.bo .leq (.t 8) (.t 10)),Qo 12 (.pk (.t 7) (.t 11) (.c (.bool false))),Mv 4 12] [4]) .rt)),np:=2,res:=[.t 4],mode:=.iso }
def c63:FI.Fn:={ body:=(.sq (.rg none [Qo 6 (.mv (.c (.int .i64 0)))] [0,1,2,3]) (.sq (.rg none [Qo 9 (.ld none (.t 2)),Mv 10 0,Mv 11 1,Qo 12 (.cl 64 [(.t 9),(.t 10),(.t 11)]),Mv 7 12] [0,1,2,3,7]) (.sq (.rg none [Qo 13 (.ld none (.t 2)),Mv 14 7,Qo 15 (.ld none (.t 3)),Qo 16 (.cl 64 [(.t 13),(.t 14),(.t 15)]),Mv 8 16] [0,1,2,3,7,8]) (.sq (.rg (some [0,1,2,3,5,6,7,4,8,9,10]) [Qo 17 (.ld none (.t 2)),Qo 18 (.ld none (.t 2)),Mv 19 0,Mv 20 1,Qo 22 (.ld none (.t 2)),Mv 23 7,Qo 24 (.ld none (.t 3)),⟨some 21,none,.cl 66 [(.t 18),(.t 19),(.t 20)],[(none,none,2,17),(none,none,2,22),(none,none,3,24)]⟩,⟨some 25,none,.cl 66 [(.t 22),(.t 23),(.t 24)],[(none,none,2,17)]⟩,Qo 26 (.cl 65 [(.t 17),(.t 21),(.t 25)]),Eo (.st 1 (.t 3) (.t 26))] [8]) (.sq (.rg none [Mv 27 8,Mv 6 27] [6]) .rt))))),np:=4,res:=[.t 6],mode:=.iso }
def c64:FI.Fn:={ body:=(.sq (.rg none [Qo 6 (.mv (.c (.int .i64 0)))] [0,1,2]) (.sq (.rg none [Mv 7 0,Mv 8 0,Mv 9 1,Mv 10 2,Qo 11 (.cl 66 [(.t 8),(.t 9),(.t 10)]),Qo 12 (.bo .xor (.t 11) (.c (.int .i64 1))),Mv 13 0,Mv 14 1,Mv 15 2,Qo 16 (.cl 65 [(.t 13),(.t 14),(.t 15)]),Qo 17 (.cl 66 [(.t 7),(.t 12),(.t 16)]),Mv 6 17] [6]) .rt)),np:=3,res:=[.t 6],mode:=.iso }
def c65:FI.Fn:={ body:=(.sq (.rg none [Qo 6 (.mv (.c (.int .i64 0)))] [0,1,2]) (.sq (.rg none [Mv 7 0,Mv 8 1,Qo 9 (.bo .xor (.t 8) (.c (.int .i64 1))),Mv 10 2,Qo 11 (.bo .xor (.t 10) (.c (.int .i64 1))),Qo 12 (.cl 66 [(.t 7),(.t 9),(.t 11)]),Qo 13 (.bo .xor (.t 12) (.c (.int .i64 1))),Mv 6 13] [6]) .rt)),np:=3,res:=[.t 6],mode:=.iso }
def c66:FI.Fn:={ body:=(.sq (.rg none [Qo 6 (.mv (.c (.int .i64 0)))] [0,1,2]) (.sq (.rg none [Mv 11 1,Mv 12 2,Qo 13 (.mn (.t 11) (.t 12)),Mv 14 1,Mv 15 2,Qo 16 (.mx (.t 14) (.t 15)),Mv 1 13,Mv 2 16] [0,1,2]) (.sq (.bl 0 (.sq (.rg none [Mv 18 1,Qo 19 (.bo .eql (.t 18) (.c (.int .i64 0))),Mv 20 19,Gm 21 20 false 1,Gd 22 20 false (.bo .xor (.t 21) (.c (.int .i64 1))),Gm 23 20 false 2,Gd 24 20 false (.bo .eql (.t 22) (.t 23)),Qo 25 (.pk (.t 20) (.c (.bool true)) (.t 24)),Mv 17 25] [0,1,2,17]) (.cd (.t 17) (.sq (.rg none [Qo 6 (.mv (.c (.int .i64 0)))] [6]) .rt) (.sq (.rg none [Mv 27 1,Qo 28 (.bo .eql (.t 27) (.c (.int .i64 1))),Mv 29 28,Gm 30 29 false 1,Gm 31 29 false 2,Gd 32 29 false (.bo .eql (.t 30) (.t 31)),Qo 33 (.pk (.t 29) (.c (.bool true)) (.t 32)),Mv 26 33] [0,1,2,26]) (.cd (.t 26) (.sq (.rg none [Mv 34 2,Mv 6 34] [6]) .rt) .sk))))) (.sq (.rg none [Mv 35 1,Mv 36 2,Qo 37 (.bd [(.int .i64 0),(.int .i64 0)] [(0,1,(.t 35)),(1,1,(.t 36))]),Qo 7 (.al 2 (.agg [(.int .i64 0),(.int .i64 0)])),Eo (.st 2 (.t 7) (.t 37))] [0,7]) (.sq (.sq (.rg (some (List.range 11)) [Mv 39 0,Qo 40 (.nc (.t 39)),Qo 41 (.fa 3 (.t 40)),Qo 42 (.ld none (.t 41)),Qo 43 (.ld (some 2) (.t 7)),Qo 44 (.lk 2 (.int .i64 0) true (.t 42) (.t 43)),Mv 38 44,Qo 45 (.ex (.t 38) 0),Qo 46 (.ex (.t 38) 1),Mv 8 45,Mv 9 46] [0,7,8,9]) (.sq (.rg none [Mv 47 9] [0,7,8,47]) (.cd (.t 47) (.sq (.rg none [Mv 48 8,Mv 6 48] [6]) .rt) .sk))) (.sq (.rg (some (List.range 13)) [Mv 49 0,Mv 50 0,Qo 51 (.nc (.t 50)),Qo 52 (.fa 0 (.t 51)),Qo 53 (.fa 1 (.t 52)),Qo 54 (.ld none (.t 53)),Qo 55 (.ld (some 2) (.t 7)),Qo 56 (.bs 2 1 (.agg [(.int .i64 0),(.int .i64 0)]) [(0,(.t 55))]),Qo 57 (.ap 2 16 (.t 54) (.t 56)),Qo 58 (.nc (.t 49)),Qo 59 (.fa 0 (.t 58)),Qo 60 (.fa 1 (.t 59)),Eo (.st 1 (.t 60) (.t 57))] [0,7]) (.sq (.rg (some (List.range 15)) [Mv 61 0,Qo 62 (.nc (.t 61)),Qo 63 (.fa 0 (.t 62)),Qo 64 (.fa 0 (.t 63)),Qo 65 (.ld none (.t 64)),Qo 66 (.ln 1 (.t 65)),Mv 67 0,Qo 68 (.nc (.t 67)),Qo 69 (.fa 0 (.t 68)),Qo 70 (.fa 1 (.t 69)),Qo 71 (.ld none (.t 70)),Qo 72 (.ln 1 (.t 71)),Qo 73 (.bo .add (.t 66) (.t 72)),Qo 74 (.bo .mul (.c (.int .i64 2)) (.t 73)),Mv 10 74] [0,7,10]) (.sq (.rg (some (List.range 7)) [Mv 75 0,Qo 76 (.nc (.t 75)),Qo 77 (.fa 3 (.t 76)),Qo 78 (.ld none (.t 77)),Qo 79 (.ld (some 2) (.t 7)),Mv 80 10,Eo (.mu 2 (.t 78) (.t 79) (.t 80))] [10]) (.sq (.rg none [Mv 81 10,Mv 6 81] [6]) .rt))))))))),np:=3,res:=[.t 6],mode:=.shr }
def b67_0:C:=(.sq (.sq (.rg none [Mv 34 8,Mv 35 7,Qo 36 (.ln 1 (.t 35)),Qo 37 (.bo .lss (.t 34) (.t 36))] [7,8,37]) (.cd (.t 37) .sk (.xt 0))) (.bl 1 (.rg (some (List.range 10)) [Mv 38 8,Mv 39 7,Mv 40 8,Qo 41 (.sl 1 (.t 39) (some (.t 40)) none),Mv 42 7,Mv 43 8,Qo 44 (.sl 1 (.t 42) none (some (.t 43))),Qo 45 (.bad),Qo 46 (.bo .add (.t 38) (.t 45)),Mv 8 46] [7,8])))
def k67_1:C:=(.sq (.rg none [Mv 47 7,Mv 4 47] [4]) .rt)
def c67:FI.Fn:={ body:=(.sq (.rg none [Qo 4 (.mv (.c (.lst true [])))] [0,1]) (.sq (.sq (.rg none [Mv 9 1,Qo 10 (.bo .lss (.t 9) (.c (.int .i64 0)))] [0,1,10]) (.cd (.t 10) (.rq [Qo 11 (.mi 9 (.c (.str [99,97,110,110,111,116,32,98,101,32,110,101,103,97,116,105,118,101]))),Eo (.pn (.t 11))] [0,1]) .sk)) (.sq (.rg none [Mv 13 0,Qo 14 (.ln 1 (.t 13)),Qo 15 (.cv .u64 (.t 14)),Mv 16 1,Qo 17 (.cv .u64 (.t 16)),Qo 18 (.cl 91 [(.t 15),(.t 17)]),Mv 12 18,Qo 19 (.ex (.t 12) 0),Qo 20 (.ex (.t 12) 1),Mv 5 19,Mv 6 20] [0,5,6]) (.sq (.sq (.rg none [Mv 21 5,Qo 22 (.bo .gtr (.t 21) (.c (.int .u64 0))),Mv 23 22,Gm 24 23 false 6,Gd 25 23 false (.bo .gtr (.t 24) (.c (.int .u64 9223372036854775807))),Qo 26 (.pk (.t 23) (.c (.bool true)) (.t 25))] [0,6,26]) (.cd (.t 26) (.rq [Qo 27 (.mi 9 (.c (.str [116,104,101,32,114,101,115,117,108,116,32,111,102,32,40,108,101,110,40,120,41,32,42,32,99,111,117,110,116,41,32,111,118,101,114,102,108,111,119,115]))),Eo (.pn (.t 27))] [0,6]) .sk)) (.sq (.rg none [Mv 28 6,Qo 29 (.cv .i64 (.t 28)),Qo 30 (.ms 1 (.int .i64 0) (.t 29) (.t 29)),Mv 7 30] [0,7]) (.sq (.rg none [Mv 31 7,Mv 32 0,Qo 33 (.bad),Mv 8 33] [7,8]) (.sq (.bl 0 (.lp true b67_0)) k67_1))))))),np:=2,res:=[.t 4],mode:=.iso }
def b68_0:C:=(.sq (.rg none [Qo 26 (.bo .lss (.t 25) (.t 24))] [0,1,2,7,8,9,10,18,19,24,25,26]) (.sq (.cd (.t 26) .sk (.xt 2)) (.sq (.bl 3 (.sq (.rg none [Mv 27 25,Mv 11 27] [0,1,2,7,8,9,10,11,18,19,24,25]) (.rg (some (List.range 14)) [Mv 28 10,Mv 29 0,Mv 30 1,Mv 31 11,Qo 32 (.ia 1 (.t 30) (.t 31)),Qo 33 (.ld none (.t 32)),Mv 34 2,Mv 35 9,Qo 36 (.ia 1 (.t 34) (.t 35)),Qo 37 (.ld none (.t 36)),Qo 38 (.cl 66 [(.t 29),(.t 33),(.t 37)]),Qo 39 (.bs 1 1 (.int .i64 0) [(0,(.t 38))]),Qo 40 (.ap 1 8 (.t 28) (.t 39)),Mv 10 40] [0,1,2,7,8,9,10,18,19,24,25]))) (.rg none [Qo 41 (.bo .add (.t 25) (.c (.int .i64 1))),Mv 25 41] [0,1,2,7,8,9,10,18,19,24,25]))))
def k68_1:C:=(.sq (.rg none [Mv 43 0,Mv 44 8,Mv 45 9,Qo 46 (.sl 1 (.t 44) (some (.t 45)) none),Mv 47 10,Qo 48 (.cl 46 [(.t 43),(.t 46),(.t 47),(.c (.int .i64 0))]),Mv 42 48,Qo 49 (.ex (.t 42) 0),Qo 50 (.ex (.t 42) 1),Mv 12 49,Mv 13 50] [0,1,2,7,8,9,12,18,19]) (.rg none [Mv 51 8,Mv 52 9,Mv 53 9,Qo 54 (.bad),Mv 55 12,Qo 56 (.ap 1 8 (.t 54) (.t 55)),Mv 8 56] [0,1,2,7,8,18,19]))
def k68_2:C:=(.rg none [Qo 57 (.bo .add (.t 19) (.c (.int .i64 1))),Mv 19 57] [0,1,2,7,8,18,19])
def b68_3:C:=(.sq (.rg none [Qo 20 (.bo .lss (.t 19) (.t 18))] [0,1,2,7,8,18,19,20]) (.sq (.cd (.t 20) .sk (.xt 0)) (.sq (.bl 1 (.sq (.rg none [Mv 21 19,Mv 9 21] [0,1,2,7,8,9,18,19]) (.sq (.rg none [Qo 10 (.nl 1)] [0,1,2,7,8,9,10,18,19]) (.sq (.sq (.rg none [Mv 22 7,Mv 23 9,Qo 24 (.bo .sub (.t 22) (.t 23)),Qo 25 (.mv (.c (.int .i64 0)))] [0,1,2,7,8,9,10,18,19,24,25]) (.bl 2 (.lp true b68_0))) k68_1)))) k68_2)))
def k68_4:C:=(.sq (.rg none [Mv 58 8,Mv 6 58] [6]) .rt)
def c68:FI.Fn:={ body:=(.sq (.rg none [Qo 6 (.mv (.c (.lst true [])))] [0,1,2]) (.sq (.rg none [Mv 14 1,Qo 15 (.ln 1 (.t 14)),Mv 7 15] [0,1,2,7]) (.sq (.rg none [Mv 16 7,Qo 17 (.cl 47 [(.c (.int .i64 0)),(.t 16)]),Mv 8 17] [0,1,2,7,8]) (.sq (.sq (.rg none [Mv 18 7,Qo 19 (.mv (.c (.int .i64 0)))] [0,1,2,7,8,18,19]) (.bl 0 (.lp true b68_3))) k68_4)))),np:=3,res:=[.t 6],mode:=.iso }
def b69_0:C:=(.sq (.rg none [Qo 22 (.bo .lss (.t 21) (.t 20))] [1,3,4,5,11,12,19,20,21,22]) (.sq (.cd (.t 22) .sk (.xt 0)) (.sq (.bl 1 (.sq (.rg none [Mv 23 21,Qo 24 (.ia 1 (.t 19) (.t 21)),Qo 25 (.ld none (.t 24)),Qo 14 (.al 1 (.int .i64 0)),Mv 13 23,Eo (.st 1 (.t 14) (.t 25))] [1,3,4,5,11,12,13,14,19,20,21]) (.sq (.sq (.rg none [Mv 26 13,Qo 27 (.bo .gtr (.t 26) (.c (.int .i64 6))),Mv 28 27,Gm 29 28 false 13,Gd 30 28 false (.bo .shl (.c (.int .i64 1)) (.t 29)),Gm 31 28 false 11,Gd 32 28 false (.bo .geq (.t 30) (.t 31)),Qo 33 (.pk (.t 28) (.c (.bool true)) (.t 32))] [1,3,4,5,11,12,13,14,19,20,21,33]) (.cd (.t 33) (.sq (.rg none [Qo 34 (.ld none (.t 5)),Qo 35 (.ld none (.t 12)),Qo 36 (.ld none (.t 14)),Qo 37 (.cl 65 [(.t 34),(.t 35),(.t 36)]),Eo (.st 1 (.t 12) (.t 37))] [1,3,4,5,11,12,19,20,21]) (.xt 1)) .sk)) (.sq (.rg none [Mv 38 13,Qo 39 (.bo .shl (.c (.int .i64 1)) (.t 38)),Mv 15 39] [1,3,4,5,11,12,14,15,19,20,21]) (.sq (.rg none [Qo 16 (.mv (.c (.lst true [])))] [1,3,4,5,11,12,14,15,19,20,21]) (.sq (.sq (.rg none [Mv 40 3] [1,3,4,5,11,12,14,15,19,20,21,40]) (.cd (.t 40) (.rg (some (List.range 9)) [Mv 41 15,Qo 42 (.cl 47 [(.c (.int .i64 0)),(.t 41)]),Mv 43 1,Mv 44 11,Mv 45 15,Qo 46 (.bo .sub (.t 44) (.t 45)),Qo 47 (.sl 1 (.t 43) none (some (.t 46))),Qo 48 (.ap 1 8 (.t 42) (.t 47)),Mv 16 48] [1,3,4,5,11,12,14,16,19,20,21]) (.rg none [Mv 49 1,Mv 50 15,Qo 51 (.sl 1 (.t 49) (some (.t 50)) none),Qo 52 (.cl 26 [(.t 51)]),Mv 53 4,Mv 54 15,Qo 55 (.cl 47 [(.t 53),(.t 54)]),Qo 56 (.ap 1 8 (.t 52) (.t 55)),Mv 16 56] [1,3,4,5,11,12,14,16,19,20,21]))) (.rg none [Mv 57 16,Mv 58 1,Qo 59 (.mf 92 [(.t 5),(.t 14)]),Qo 60 (.cl 48 [(.t 57),(.t 58),(.t 59)]),Mv 1 60] [1,3,4,5,11,12,19,20,21]))))))) (.rg none [Qo 61 (.bo .add (.t 21) (.c (.int .i64 1))),Mv 21 61] [1,3,4,5,11,12,19,20,21]))))
def k69_1:C:=(.sq (.rg none [Mv 62 4,Mv 63 11,Qo 64 (.cl 47 [(.t 62),(.t 63)]),Mv 65 1,Qo 66 (.mf 93 [(.t 5),(.t 12)]),Qo 67 (.cl 48 [(.t 64),(.t 65),(.t 66)]),Mv 10 67] [10]) .rt)
def c69:FI.Fn:={ body:=(.sq (.rg none [Qo 5 (.bx 1 (.t 0)),Qo 10 (.mv (.c (.lst true [])))] [1,2,3,4,5]) (.sq (.rg none [Mv 17 1,Qo 18 (.ln 1 (.t 17)),Mv 11 18] [1,2,3,4,5,11]) (.sq (.rg none [Qo 12 (.al 1 (.int .i64 0)),Eo (.st 1 (.t 12) (.c (.int .i64 0)))] [1,2,3,4,5,11,12]) (.sq (.sq (.rg none [Mv 19 2,Qo 20 (.ln 1 (.t 19)),Qo 21 (.mv (.c (.int .i64 0)))] [1,3,4,5,11,12,19,20,21]) (.bl 0 (.lp true b69_0))) k69_1)))),np:=5,res:=[.t 10],mode:=.iso }
def b70_0:C:=(.sq (.sq (.rg none [Qo 21 (.ld none (.t 9)),Qo 22 (.bo .geq (.t 21) (.c (.int .i64 0)))] [1,2,3,6,7,8,9,22]) (.cd (.t 22) .sk (.xt 0))) (.sq (.bl 1 (.sq (.rg none [Mv 25 7,Mv 26 8,Qo 27 (.bo .sub (.t 26) (.c (.int .i64 1))),Qo 28 (.ia 1 (.t 25) (.t 27)),Qo 29 (.ld none (.t 28)),Mv 10 29] [1,2,3,6,7,8,9,10]) (.sq (.rg (some (List.range 11)) [Mv 30 1,Qo 31 (.ld none (.t 9)),Qo 32 (.ia 1 (.t 30) (.t 31)),Qo 33 (.ld none (.t 32)),Qo 34 (.bs 1 1 (.int .i64 0) [(0,(.t 33))]),Mv 35 7,Mv 36 8,Qo 37 (.bo .sub (.t 36) (.c (.int .i64 1))),Qo 38 (.sl 1 (.t 35) none (some (.t 37))),Qo 39 (.ap 1 8 (.t 34) (.t 38)),Mv 7 39] [1,2,3,6,7,8,9,10]) (.sq (.rg (some (List.range 10)) [Qo 41 (.ld none (.t 3)),Mv 42 7,Mv 43 2,Qo 44 (.cl 45 [(.t 43)]),Qo 45 (.cl 46 [(.t 41),(.t 42),(.t 44),(.c (.int .i64 1))]),Mv 40 45,Qo 46 (.ex (.t 40) 0),Qo 47 (.ex (.t 40) 1),Mv 11 46,Mv 12 47] [1,2,3,6,7,8,9,10,11,12]) (.sq (.rg (some (List.range 8)) [Qo 48 (.ld none (.t 6)),Qo 49 (.ld none (.t 9)),Qo 50 (.ld none (.t 3)),Mv 51 10,Mv 52 12,Qo 53 (.cl 65 [(.t 50),(.t 51),(.t 52)]),Qo 54 (.ia 1 (.t 48) (.t 49)),Eo (.st 1 (.t 54) (.t 53))] [1,2,3,6,7,8,9,11]) (.rg none [Mv 55 11,Mv 56 7,Qo 57 (.mf 94 [(.t 3),(.t 6),(.t 9)]),Qo 58 (.cl 48 [(.t 55),(.t 56),(.t 57)]),Mv 7 58] [1,2,3,6,7,8,9])))))) (.sq (.sq (.rg none [Qo 59 (.ld none (.t 9))] [1,2,3,6,7,8,59]) (.rg none [Qo 9 (.al 1 (.int .i64 0)),Eo (.st 1 (.t 9) (.t 59))] [1,2,3,6,7,8,9])) (.rg none [Qo 23 (.ld none (.t 9)),Qo 24 (.bo .sub (.t 23) (.c (.int .i64 1))),Eo (.st 1 (.t 9) (.t 24))] [1,2,3,6,7,8,9]))))
def k70_1:C:=(.sq (.rg none [Qo 60 (.ld none (.t 6)),Mv 61 7,Eo (.st 1 (.t 6) (.t 60)),Mv 7 61] [6,7]) .rt)
def c70:FI.Fn:={ body:=(.sq (.rg none [Qo 3 (.bx 1 (.t 0)),Qo 6 (.al 1 (.lst true [])),Qo 7 (.mv (.c (.lst true [])))] [1,2,3,6]) (.sq (.rg none [Mv 13 1,Qo 14 (.ln 1 (.t 13)),Mv 8 14] [1,2,3,6,8]) (.sq (.rg none [Mv 15 8,Qo 16 (.cl 47 [(.c (.int .i64 0)),(.t 15)]),Eo (.st 1 (.t 6) (.t 16))] [1,2,3,6,8]) (.sq (.rg none [Mv 17 8,Qo 18 (.cl 47 [(.c (.int .i64 0)),(.t 17)]),Mv 7 18] [1,2,3,6,7,8]) (.sq (.sq (.rg none [Mv 19 8,Qo 20 (.bo .sub (.t 19) (.c (.int .i64 1))),Qo 9 (.al 1 (.int .i64 0)),Eo (.st 1 (.t 9) (.t 20))] [1,2,3,6,7,8,9]) (.bl 0 (.lp true b70_0))) k70_1))))),np:=3,res:=[.cell 6 none,.t 7],mode:=.iso }
def b71_0:C:=(.sq (.rg none [Qo 12 (.bo .lss (.t 11) (.t 10))] [0,1,2,7,10,11,12]) (.sq (.cd (.t 12) .sk (.xt 0)) (.sq (.bl 1 (.sq (.rg none [Mv 13 11,Mv 8 13] [0,1,2,7,8,10,11]) (.rg (some (List.range 15)) [Mv 14 0,Mv 15 7,Mv 16 0,Mv 17 1,Mv 18 8,Qo 19 (.ia 1 (.t 17) (.t 18)),Qo 20 (.ld none (.t 19)),Mv 21 2,Mv 22 8,Qo 23 (.ia 1 (.t 21) (.t 22)),Qo 24 (.ld none (.t 23)),Qo 25 (.cl 64 [(.t 16),(.t 20),(.t 24)]),Qo 26 (.bo .xor (.t 25) (.c (.int .i64 1))),Qo 27 (.cl 66 [(.t 14),(.t 15),(.t 26)]),Mv 7 27] [0,1,2,7,10,11]))) (.rg none [Qo 28 (.bo .add (.t 11) (.c (.int .i64 1))),Mv 11 28] [0,1,2,7,10,11]))))
def k71_1:C:=(.sq (.rg none [Mv 29 7,Mv 6 29] [6]) .rt)
def c71:FI.Fn:={ body:=(.sq (.rg none [Qo 6 (.mv (.c (.int .i64 0)))] [0,1,2]) (.sq (.rg none [Qo 7 (.mv (.c (.int .i64 1)))] [0,1,2,7]) (.sq (.sq (.rg none [Mv 9 1,Qo 10 (.ln 1 (.t 9)),Qo 11 (.mv (.c (.int .i64 0)))] [0,1,2,7,10,11]) (.bl 0 (.lp true b71_0))) k71_1))),np:=3,res:=[.t 6],mode:=.iso }
def c72:FI.Fn:={ body:=(.sq (.rg none [Qo 6 (.mv (.c (.int .i64 0)))] [0,1,2]) (.sq (.rg none [Mv 10 0,Mv 11 1,Mv 12 2,Qo 13 (.cl 45 [(.t 12)]),Qo 14 (.cl 46 [(.t 10),(.t 11),(.t 13),(.c (.int .i64 1))]),Mv 9 14,Qo 15 (.ex (.t 9) 0),Qo 16 (.ex (.t 9) 1),Mv 7 15,Mv 8 16] [8]) (.sq (.rg none [Mv 17 8,Qo 18 (.bo .xor (.t 17) (.c (.int .i64 1))),Mv 6 18] [6]) .rt))),np:=3,res:=[.t 6],mode:=.iso }
def c73:FI.Fn:={ body:=(.sq (.rg none [Qo 2 (.mv (.c (.lst true [])))] [0]) (.sq (.rg none [Mv 4 0,Qo 5 (.cl 26 [(.t 4)]),Mv 3 5] [3]) (.sq (.rg none [Mv 6 3,Mv 7 3,Qo 8 (.ln 1 (.t 7)),Qo 9 (.bo .sub (.t 8) (.c (.int .i64 1))),Qo 10 (.ia 1 (.t 6) (.t 9)),Qo 11 (.ld none (.t 10)),Qo 12 (.bo .xor (.t 11) (.c (.int .i64 1))),Qo 13 (.ia 1 (.t 6) (.t 9)),Eo (.st 1 (.t 13) (.t 12))] [3]) (.sq (.rg none [Mv 14 3,Mv 2 14] [2]) .rt)))),np:=1,res:=[.t 2],mode:=.iso }
def c74:FI.Fn:={ body:=(.sq (.rg none [Qo 2 (.mv (.c (.bool false)))] [0]) (.sq (.rg none [Mv 3 0,Qo 4 (.bo .geq (.t 3) (.c (.int .i64 1))),Mv 5 4,Gm 6 5 true 0,Gd 7 5 true (.bo .leq (.t 6) (.c (.int .i64 64))),Qo 8 (.pk (.t 5) (.t 7) (.c (.bool false))),Mv 2 8] [2]) .rt)),np:=1,res:=[.t 2],mode:=.iso }
def c75:FI.Fn:={ body:=(.sq (.rg none [Qo 2 (.al 3 (.agg [(.str []),(.int .i64 0),(.int .i64 0)])),Qo 3 (.mv (.c (.bool false)))] [0,2]) (.sq (.sq (.rg none [Mv 4 0,Qo 5 (.bo .gtr (.t 4) (.c (.int .u8 24)))] [0,2,5]) (.cd (.t 5) (.sq (.rg none [Qo 6 (.bd [(.str []),(.int .i64 0),(.int .i64 0)] []),Eo (.st 3 (.t 2) (.t 6)),Qo 3 (.mv (.c (.bool false)))] [2,3]) .rt) .sk)) (.sq (.rg (some (List.range 10)) [Mv 7 0,Qo 8 (.aa 25 3 (.c (.eptr gl1 0)) (.t 7)),Qo 9 (.ld (some 3) (.t 8)),Mv 10 0,Qo 11 (.aa 25 3 (.c (.eptr gl1 0)) (.t 10)),Qo 12 (.fa 1 (.t 11)),Qo 13 (.ld none (.t 12)),Qo 14 (.bo .gtr (.t 13) (.c (.int .i64 0))),⟨none,none,.st 3 (.t 2) (.t 9),[(none,none,12,13)]⟩,Mv 3 14] [2,3]) .rt))),np:=1,res:=[.cell 2 (some 3),.t 3],mode:=.iso }
def c76:FI.Fn:={ body:=(.sq (.rg none [Qo 2 (.bx 6 (.t 0)),Qo 4 (.mv (.c (.bool false)))] [1,2]) (.sq (.rg none [Qo 7 (.fa 1 (.t 2)),Qo 8 (.ld none (.t 7)),Qo 5 (.al 1 (.int .i64 0)),Eo (.st 1 (.t 5) (.t 8))] [1,2,5]) (.sq (.rg none [Qo 9 (.fa 5 (.t 2)),Qo 10 (.ld none (.t 9)),Qo 11 (.ia 6 (.t 10) (.c (.int .i64 0))),Qo 12 (.fa 1 (.t 11)),Qo 13 (.ld none (.t 12)),Mv 6 13] [1,2,5,6]) (.sq (.sq (.rg none [Mv 14 1] [2,5,6,14]) (.bl 0 (.sq (.rg none [Qo 16 (.bo .eql (.t 14) (.c (.int .i64 1))),Mv 15 16] [2,5,6,14,15]) (.cd (.t 15) (.sq (.rg none [Qo 17 (.fa 5 (.t 2)),Qo 18 (.ld none (.t 17)),Qo 19 (.mf 96 [(.t 5)]),Qo 20 (.cl 95 [(.t 18),(.t 19)]),Qo 21 (.un .not (.t 20)),Mv 4 21] [4]) .rt) (.sq (.rg none [Qo 23 (.bo .eql (.t 14) (.c (.int .i64 2))),Mv 22 23] [2,5,6,14,22]) (.cd (.t 22) (.sq (.rg none [Qo 24 (.ld none (.t 5)),Qo 25 (.bo .eql (.t 24) (.c (.int .i64 1))),Mv 26 25,Gd 27 26 true (.fa 5 (.t 2)),Gd 28 26 true (.ld none (.t 27)),Gd 29 26 true (.ia 6 (.t 28) (.c (.int .i64 1))),Gd 30 26 true (.fa 1 (.t 29)),Gd 31 26 true (.ld none (.t 30)),Gm 32 26 true 6,Gd 33 26 true (.bo .eql (.t 31) (.t 32)),Qo 34 (.pk (.t 26) (.t 33) (.c (.bool false))),Mv 4 34] [4]) .rt) (.sq (.rg none [Qo 36 (.bo .eql (.t 14) (.c (.int .i64 3))),Mv 35 36] [2,5,6,14,35]) (.cd (.t 35) (.sq (.rg (some (List.range 21)) [Mv 37 6,Qo 38 (.bo .eql (.t 37) (.c (.int .i64 1))),Mv 39 38,Gd 40 39 true (.fa 5 (.t 2)),Gd 41 39 true (.ld none (.t 40)),Gd 42 39 true (.ia 6 (.t 41) (.c (.int .i64 1))),Gd 43 39 true (.fa 1 (.t 42)),Gd 44 39 true (.ld none (.t 43)),Gd 45 39 true (.ld none (.t 5)),Gd 46 39 true (.bo .eql (.t 44) (.t 45)),Qo 47 (.pk (.t 39) (.t 46) (.c (.bool false))),Mv 48 47,Gd 49 48 true (.fa 5 (.t 2)),Gd 50 48 true (.ld none (.t 49)),Gd 51 48 true (.ia 6 (.t 50) (.c (.int .i64 2))),Gd 52 48 true (.fa 1 (.t 51)),Gd 53 48 true (.ld none (.t 52)),Gd 54 48 true (.ld none (.t 5)),Gd 55 48 true (.bo .eql (.t 53) (.t 54)),Qo 56 (.pk (.t 48) (.t 55) (.c (.bool false))),Mv 4 56] [4]) .rt) (.sq (.rg none [Qo 58 (.bo .eql (.t 14) (.c (.int .i64 4))),Mv 57 58] [2,5,6,14,57]) (.cd (.t 57) (.sq (.rg (some (List.range 22)) [Mv 59 6,Qo 60 (.cl 74 [(.t 59)]),Mv 61 60,Gd 62 61 true (.fa 5 (.t 2)),Gd 63 61 true (.ld none (.t 62)),Gd 64 61 true (.ia 6 (.t 63) (.c (.int .i64 1))),Gd 65 61 true (.fa 1 (.t 64)),Gd 66 61 true (.ld none (.t 65)),Gd 67 61 true (.cl 74 [(.t 66)]),Qo 68 (.pk (.t 61) (.t 67) (.c (.bool false))),Mv 69 68,Gm 70 69 true 6,Gd 71 69 true (.fa 5 (.t 2)),Gd 72 69 true (.ld none (.t 71)),Gd 73 69 true (.ia 6 (.t 72) (.c (.int .i64 1))),Gd 74 69 true (.fa 1 (.t 73)),Gd 75 69 true (.ld none (.t 74)),Gd 76 69 true (.bo .add (.t 70) (.t 75)),Gd 77 69 true (.ld none (.t 5)),Gd 78 69 true (.bo .eql (.t 76) (.t 77)),Qo 79 (.pk (.t 69) (.t 78) (.c (.bool false))),Mv 4 79] [4]) .rt) (.sq (.rg none [Qo 81 (.bo .eql (.t 14) (.c (.int .i64 5))),Mv 80 81] [2,5,6,14,80]) (.cd (.t 80) (.sq (.rg none [Qo 82 (.fa 4 (.t 2)),Qo 83 (.ld none (.t 82)),Qo 84 (.bo .geq (.t 83) (.c (.int .i64 0))),Mv 85 84,Gm 86 85 true 6,Gd 87 85 true (.cl 74 [(.t 86)]),Qo 88 (.pk (.t 85) (.t 87) (.c (.bool false))),Mv 89 88,Gd 90 89 true (.ld none (.t 5)),Gm 91 89 true 6,Gd 92 89 true (.bo .leq (.t 90) (.t 91)),Qo 93 (.pk (.t 89) (.t 92) (.c (.bool false))),Mv 94 93,Gd 95 94 true (.fa 4 (.t 2)),Gd 96 94 true (.ld none (.t 95)),Gm 97 94 true 6,Gd 98 94 true (.ld none (.t 5)),Gd 99 94 true (.bo .sub (.t 97) (.t 98)),Gd 100 94 true (.bo .leq (.t 96) (.t 99)),Qo 101 (.pk (.t 94) (.t 100) (.c (.bool false))),Mv 4 101] [4]) .rt) (.sq (.rg none [Qo 103 (.bo .eql (.t 14) (.c (.int .i64 6))),Mv 102 103] [5,6,102]) (.cd (.t 102) (.sq (.rg none [Mv 104 6,Qo 105 (.ld none (.t 5)),Qo 106 (.bo .leq (.t 104) (.t 105)),Mv 4 106] [4]) .rt) .sk)))))))))))))) (.sq (.rg none [Qo 107 (.ld none (.t 5)),Qo 108 (.cl 97 [(.t 107)]),Mv 4 108] [4]) .rt))))),np:=2,res:=[.t 4],mode:=.iso }
def b77_0:C:=(.sq (.sq (.rg (some (List.range 17)) [Mv 18 9,Mv 19 1,Qo 20 (.bo .gtr (.t 18) (.t 19)),Mv 21 20,Gm 22 21 true 3,Gm 23 21 true 0,Gm 24 21 true 9,Gd 25 21 true (.ia 3 (.t 23) (.t 24)),Gd 26 21 true (.ld (some 3) (.t 25)),Gm 27 21 true 0,Gm 28 21 true 9,Gd 29 21 true (.bo .sub (.t 28) (.c (.int .i64 1))),Gd 30 21 true (.ia 3 (.t 27) (.t 29)),Gd 31 21 true (.ld (some 3) (.t 30)),Gd 32 21 true (.cw (.t 22) [(.t 26),(.t 31)]),Gd 33 21 true (.bo .lss (.t 32) (.c (.int .i64 0))),Qo 34 (.pk (.t 21) (.t 33) (.c (.bool false)))] [0,1,2,3,8,9,34]) (.cd (.t 34) .sk (.xt 2))) (.sq (.bl 3 (.rg (some (List.range 18)) [Mv 37 0,Mv 38 9,Mv 39 0,Mv 40 9,Qo 41 (.bo .sub (.t 40) (.c (.int .i64 1))),Mv 42 0,Mv 43 9,Qo 44 (.bo .sub (.t 43) (.c (.int .i64 1))),Qo 45 (.ia 3 (.t 42) (.t 44)),Qo 46 (.ld (some 3) (.t 45)),Mv 47 0,Mv 48 9,Qo 49 (.ia 3 (.t 47) (.t 48)),Qo 50 (.ld (some 3) (.t 49)),Qo 51 (.ia 3 (.t 37) (.t 38)),Eo (.st 3 (.t 51) (.t 46)),Qo 52 (.ia 3 (.t 39) (.t 41)),Eo (.st 3 (.t 52) (.t 50))] [0,1,2,3,8,9])) (.rg none [Mv 35 9,Qo 36 (.bo .sub (.t 35) (.c (.int .i64 1))),Mv 9 36] [0,1,2,3,8,9])))
def k77_1:C:=(.rg none [Mv 15 8,Qo 16 (.bo .add (.t 15) (.c (.int .i64 1))),Mv 8 16] [0,1,2,3,8])
def b77_2:C:=(.sq (.sq (.rg none [Mv 12 8,Mv 13 2,Qo 14 (.bo .lss (.t 12) (.t 13))] [0,1,2,3,8,14]) (.cd (.t 14) .sk (.xt 0))) (.sq (.bl 1 (.sq (.rg none [Mv 17 8,Mv 9 17] [0,1,2,3,8,9]) (.bl 2 (.lp false b77_0)))) k77_1))
def c77:FI.Fn:={ body:=(.sq (.rg none [Mv 10 1,Qo 11 (.bo .add (.t 10) (.c (.int .i64 1))),Mv 8 11] [0,1,2,3,8]) (.bl 0 (.lp false b77_2))),np:=4,res:=[],mode:=.shr }
def b78_0:C:=(.sq (.sq (.rg none [Mv 20 11,Qo 21 (.bo .geq (.t 20) (.c (.int .i64 0)))] [0,3,8,9,10,11,21]) (.cd (.t 21) .sk (.xt 0))) (.sq (.bl 1 (.rg none [Mv 24 0,Mv 25 11,Mv 26 10,Mv 27 8,Mv 28 3,Qo 29 (.cl 98 [(.t 24),(.t 25),(.t 26),(.t 27),(.t 28)])] [0,3,8,9,10,11])) (.rg none [Mv 22 11,Qo 23 (.bo .sub (.t 22) (.c (.int .i64 1))),Mv 11 23] [0,3,8,9,10,11])))
def b78_1:C:=(.sq (.sq (.rg none [Mv 32 12,Qo 33 (.bo .geq (.t 32) (.c (.int .i64 0)))] [0,3,8,9,12,33]) (.cd (.t 33) .sk (.xt 2))) (.sq (.bl 3 (.sq (.rg (some (List.range 20)) [Mv 36 0,Mv 37 8,Mv 38 0,Mv 39 8,Mv 40 12,Qo 41 (.bo .add (.t 39) (.t 40)),Mv 42 0,Mv 43 8,Mv 44 12,Qo 45 (.bo .add (.t 43) (.t 44)),Qo 46 (.ia 3 (.t 42) (.t 45)),Qo 47 (.ld (some 3) (.t 46)),Mv 48 0,Mv 49 8,Qo 50 (.ia 3 (.t 48) (.t 49)),Qo 51 (.ld (some 3) (.t 50)),Qo 52 (.ia 3 (.t 36) (.t 37)),Eo (.st 3 (.t 52) (.t 47)),Qo 53 (.ia 3 (.t 38) (.t 41)),Eo (.st 3 (.t 53) (.t 51))] [0,3,8,9,12]) (.rg none [Mv 54 0,Mv 55 9,Mv 56 12,Mv 57 8,Mv 58 3,Qo 59 (.cl 98 [(.t 54),(.t 55),(.t 56),(.t 57),(.t 58)])] [0,3,8,9,12]))) (.rg none [Mv 34 12,Qo 35 (.bo .sub (.t 34) (.c (.int .i64 1))),Mv 12 35] [0,3,8,9,12])))
def k78_2:C:=(.sq (.rg none [Mv 30 10,Qo 31 (.bo .sub (.t 30) (.c (.int .i64 1))),Mv 12 31] [0,3,8,9,12]) (.bl 2 (.lp false b78_1)))
def c78:FI.Fn:={ body:=(.sq (.rg none [Mv 13 1,Mv 8 13] [0,1,2,3,8]) (.sq (.rg none [Qo 9 (.mv (.c (.int .i64 0)))] [0,1,2,3,8,9]) (.sq (.rg none [Mv 14 2,Mv 15 1,Qo 16 (.bo .sub (.t 14) (.t 15)),Mv 10 16] [0,3,8,9,10]) (.sq (.sq (.rg none [Mv 17 10,Qo 18 (.bo .sub (.t 17) (.c (.int .i64 1))),Qo 19 (.bo .quo (.t 18) (.c (.int .i64 2))),Mv 11 19] [0,3,8,9,10,11]) (.bl 0 (.lp false b78_0))) k78_2)))),np:=4,res:=[],mode:=.shr }
def b79_0:C:=(.sq (.sq (.rg none [Mv 28 11,Mv 29 1,Mv 30 8,Qo 31 (.bo .quo (.t 30) (.c (.int .i64 4))),Qo 32 (.bo .mul (.t 31) (.c (.int .i64 2))),Qo 33 (.bo .add (.t 29) (.t 32)),Qo 34 (.bo .add (.t 33) (.c (.int .i64 1))),Qo 35 (.bo .leq (.t 28) (.t 34))] [0,1,8,9,10,11,35]) (.cd (.t 35) .sk (.xt 0))) (.sq (.bl 1 (.sq (.rg none [Qo 38 (.cl 100 [(.t 9)]),Mv 39 10,Qo 40 (.bo .sub (.t 39) (.c (.int .u64 1))),Qo 41 (.bo .and (.t 38) (.t 40)),Qo 42 (.cv .i64 (.t 41)),Mv 12 42] [0,1,8,9,10,11,12]) (.sq (.sq (.rg none [Mv 43 12,Mv 44 8,Qo 45 (.bo .geq (.t 43) (.t 44))] [0,1,8,9,10,11,12,45]) (.cd (.t 45) (.rg none [Mv 46 12,Mv 47 8,Qo 48 (.bo .sub (.t 46) (.t 47)),Mv 12 48] [0,1,8,9,10,11,12]) .sk)) (.rg (some (List.range 20)) [Mv 49 0,Mv 50 11,Mv 51 0,Mv 52 1,Mv 53 12,Qo 54 (.bo .add (.t 52) (.t 53)),Mv 55 0,Mv 56 1,Mv 57 12,Qo 58 (.bo .add (.t 56) (.t 57)),Qo 59 (.ia 3 (.t 55) (.t 58)),Qo 60 (.ld (some 3) (.t 59)),Mv 61 0,Mv 62 11,Qo 63 (.ia 3 (.t 61) (.t 62)),Qo 64 (.ld (some 3) (.t 63)),Qo 65 (.ia 3 (.t 49) (.t 50)),Eo (.st 3 (.t 65) (.t 60)),Qo 66 (.ia 3 (.t 51) (.t 54)),Eo (.st 3 (.t 66) (.t 64))] [0,1,8,9,10,11])))) (.rg none [Mv 36 11,Qo 37 (.bo .add (.t 36) (.c (.int .i64 1))),Mv 11 37] [0,1,8,9,10,11])))
def c79:FI.Fn:={ body:=(.sq (.rg none [Mv 13 2,Mv 14 1,Qo 15 (.bo .sub (.t 13) (.t 14)),Mv 8 15] [0,1,8]) (.sq (.rg none [Mv 16 8,Qo 17 (.bo .geq (.t 16) (.c (.int .i64 8)))] [0,1,8,17]) (.cd (.t 17) (.sq (.rg none [Mv 18 8,Qo 19 (.cv .u64 (.t 18)),Qo 9 (.al 1 (.int .u64 0)),Eo (.st 1 (.t 9) (.t 19))] [0,1,8,9]) (.sq (.rg none [Mv 20 8,Qo 21 (.cl 99 [(.t 20)]),Mv 10 21] [0,1,8,9,10]) (.sq (.rg none [Mv 22 1,Mv 23 8,Qo 24 (.bo .quo (.t 23) (.c (.int .i64 4))),Qo 25 (.bo .mul (.t 24) (.c (.int .i64 2))),Qo 26 (.bo .add (.t 22) (.t 25)),Qo 27 (.bo .sub (.t 26) (.c (.int .i64 1))),Mv 11 27] [0,1,8,9,10,11]) (.bl 0 (.lp false b79_0))))) .sk))),np:=4,res:=[],mode:=.shr }
def c80:FI.Fn:={ body:=(.sq (.rg none [Qo 8 (.mv (.c (.int .i64 0))),Qo 9 (.mv (.c (.int .i64 0)))] [0,1,2,3]) (.sq (.rg none [Mv 15 2,Mv 16 1,Qo 17 (.bo .sub (.t 15) (.t 16)),Mv 10 17] [0,1,3,10]) (.sq (.rg none [Qo 11 (.al 1 (.int .i64 0))] [0,1,3,10,11]) (.sq (.rg none [Mv 18 1,Mv 19 10,Qo 20 (.bo .quo (.t 19) (.c (.int .i64 4))),Qo 21 (.bo .mul (.t 20) (.c (.int .i64 1))),Qo 22 (.bo .add (.t 18) (.t 21)),Mv 12 22] [0,1,3,10,11,12]) (.sq (.rg none [Mv 23 1,Mv 24 10,Qo 25 (.bo .quo (.t 24) (.c (.int .i64 4))),Qo 26 (.bo .mul (.t 25) (.c (.int .i64 2))),Qo 27 (.bo .add (.t 23) (.t 26)),Mv 13 27] [0,1,3,10,11,12,13]) (.sq (.rg none [Mv 28 1,Mv 29 10,Qo 30 (.bo .quo (.t 29) (.c (.int .i64 4))),Qo 31 (.bo .mul (.t 30) (.c (.int .i64 3))),Qo 32 (.bo .add (.t 28) (.t 31)),Mv 14 32] [0,3,10,11,12,13,14]) (.sq (.sq (.rg none [Mv 33 10,Qo 34 (.bo .geq (.t 33) (.c (.int .i64 8)))] [0,3,10,11,12,13,14,34]) (.cd (.t 34) (.sq (.sq (.rg none [Mv 35 10,Qo 36 (.bo .geq (.t 35) (.c (.int .i64 50)))] [0,3,11,12,13,14,36]) (.cd (.t 36) (.sq (.rg none [Mv 37 0,Mv 38 12,Mv 39 3,Qo 40 (.cl 101 [(.t 37),(.t 38),(.t 11),(.t 39)]),Mv 12 40] [0,3,11,12,13,14]) (.sq (.rg none [Mv 41 0,Mv 42 13,Mv 43 3,Qo 44 (.cl 101 [(.t 41),(.t 42),(.t 11),(.t 43)]),Mv 13 44] [0,3,11,12,13,14]) (.rg none [Mv 45 0,Mv 46 14,Mv 47 3,Qo 48 (.cl 101 [(.t 45),(.t 46),(.t 11),(.t 47)]),Mv 14 48] [0,3,11,12,13,14]))) .sk)) (.rg none [Mv 49 0,Mv 50 12,Mv 51 13,Mv 52 14,Mv 53 3,Qo 54 (.cl 102 [(.t 49),(.t 50),(.t 51),(.t 52),(.t 11),(.t 53)]),Mv 13 54] [11,13])) .sk)) (.sq (.rg none [Qo 55 (.ld none (.t 11))] [13,55]) (.bl 0 (.sq (.rg none [Qo 58 (.bo .eql (.t 55) (.c (.int .i64 0))),Mv 57 58] [13,55,57]) (.cd (.t 57) (.sq (.rg none [Mv 59 13,Mv 8 59,Qo 9 (.mv (.c (.int .i64 1)))] [8,9]) .rt) (.sq (.rg none [Qo 61 (.bo .eql (.t 55) (.c (.int .i64 12))),Mv 60 61] [13,60]) (.cd (.t 60) (.sq (.rg none [Mv 62 13,Mv 8 62,Qo 9 (.mv (.c (.int .i64 2)))] [8,9]) .rt) (.sq (.rg none [Mv 56 13,Mv 8 56,Qo 9 (.mv (.c (.int .i64 0)))] [8,9]) .rt)))))))))))))),np:=4,res:=[.t 8,.t 9],mode:=.shr }
def b81_0:C:=(.sq (.sq (.rg none [Mv 13 8,Mv 14 9,Qo 15 (.bo .lss (.t 13) (.t 14))] [0,8,9,15]) (.cd (.t 15) .sk (.xt 0))) (.bl 1 (.sq (.rg (some (List.range 16)) [Mv 16 0,Mv 17 8,Mv 18 0,Mv 19 9,Mv 20 0,Mv 21 9,Qo 22 (.ia 3 (.t 20) (.t 21)),Qo 23 (.ld (some 3) (.t 22)),Mv 24 0,Mv 25 8,Qo 26 (.ia 3 (.t 24) (.t 25)),Qo 27 (.ld (some 3) (.t 26)),Qo 28 (.ia 3 (.t 16) (.t 17)),Eo (.st 3 (.t 28) (.t 23)),Qo 29 (.ia 3 (.t 18) (.t 19)),Eo (.st 3 (.t 29) (.t 27))] [0,8,9]) (.sq (.rg none [Mv 30 8,Qo 31 (.bo .add (.t 30) (.c (.int .i64 1))),Mv 8 31] [0,8,9]) (.rg none [Mv 32 9,Qo 33 (.bo .sub (.t 32) (.c (.int .i64 1))),Mv 9 33] [0,8,9])))))
def c81:FI.Fn:={ body:=(.sq (.rg none [Mv 10 1,Mv 8 10] [0,2,8]) (.sq (.rg none [Mv 11 2,Qo 12 (.bo .sub (.t 11) (.c (.int .i64 1))),Mv 9 12] [0,8,9]) (.bl 0 (.lp false b81_0)))),np:=4,res:=[],mode:=.shr }
def b82_0:C:=(.sq (.sq (.rg (some (List.range 18)) [Mv 19 9,Mv 20 2,Qo 21 (.bo .lss (.t 19) (.t 20)),Mv 22 21,Gm 23 22 true 3,Gm 24 22 true 0,Gm 25 22 true 9,Gd 26 22 true (.ia 3 (.t 24) (.t 25)),Gd 27 22 true (.ld (some 3) (.t 26)),Gm 28 22 true 0,Gm 29 22 true 9,Gd 30 22 true (.bo .sub (.t 29) (.c (.int .i64 1))),Gd 31 22 true (.ia 3 (.t 28) (.t 30)),Gd 32 22 true (.ld (some 3) (.t 31)),Gd 33 22 true (.cw (.t 23) [(.t 27),(.t 32)]),Gd 34 22 true (.bo .lss (.t 33) (.c (.int .i64 0))),Gd 35 22 true (.un .not (.t 34)),Qo 36 (.pk (.t 22) (.t 35) (.c (.bool false)))] [0,1,2,3,9,10,36]) (.cd (.t 36) .sk (.xt 2))) (.bl 3 (.rg none [Mv 37 9,Qo 38 (.bo .add (.t 37) (.c (.int .i64 1))),Mv 9 38] [0,1,2,3,9,10])))
def b82_1:C:=(.sq (.sq (.rg none [Mv 68 11,Qo 69 (.bo .geq (.t 68) (.c (.int .i64 1)))] [0,1,2,3,9,10,11,69]) (.cd (.t 69) .sk (.xt 4))) (.sq (.bl 5 (.sq (.sq (.rg (some (List.range 13)) [Mv 72 3,Mv 73 0,Mv 74 11,Qo 75 (.ia 3 (.t 73) (.t 74)),Qo 76 (.ld (some 3) (.t 75)),Mv 77 0,Mv 78 11,Qo 79 (.bo .sub (.t 78) (.c (.int .i64 1))),Qo 80 (.ia 3 (.t 77) (.t 79)),Qo 81 (.ld (some 3) (.t 80)),Qo 82 (.cw (.t 72) [(.t 76),(.t 81)]),Qo 83 (.bo .lss (.t 82) (.c (.int .i64 0))),Qo 84 (.un .not (.t 83))] [0,1,2,3,9,10,11,84]) (.cd (.t 84) (.xt 4) .sk)) (.rg (some (List.range 18)) [Mv 85 0,Mv 86 11,Mv 87 0,Mv 88 11,Qo 89 (.bo .sub (.t 88) (.c (.int .i64 1))),Mv 90 0,Mv 91 11,Qo 92 (.bo .sub (.t 91) (.c (.int .i64 1))),Qo 93 (.ia 3 (.t 90) (.t 92)),Qo 94 (.ld (some 3) (.t 93)),Mv 95 0,Mv 96 11,Qo 97 (.ia 3 (.t 95) (.t 96)),Qo 98 (.ld (some 3) (.t 97)),Qo 99 (.ia 3 (.t 85) (.t 86)),Eo (.st 3 (.t 99) (.t 94)),Qo 100 (.ia 3 (.t 87) (.t 89)),Eo (.st 3 (.t 100) (.t 98))] [0,1,2,3,9,10,11]))) (.rg none [Mv 70 11,Qo 71 (.bo .sub (.t 70) (.c (.int .i64 1))),Mv 11 71] [0,1,2,3,9,10,11])))
def b82_2:C:=(.sq (.sq (.rg none [Mv 107 12,Mv 108 2,Qo 109 (.bo .lss (.t 107) (.t 108))] [0,1,2,3,9,10,12,109]) (.cd (.t 109) .sk (.xt 6))) (.sq (.bl 7 (.sq (.sq (.rg (some (List.range 13)) [Mv 112 3,Mv 113 0,Mv 114 12,Qo 115 (.ia 3 (.t 113) (.t 114)),Qo 116 (.ld (some 3) (.t 115)),Mv 117 0,Mv 118 12,Qo 119 (.bo .sub (.t 118) (.c (.int .i64 1))),Qo 120 (.ia 3 (.t 117) (.t 119)),Qo 121 (.ld (some 3) (.t 120)),Qo 122 (.cw (.t 112) [(.t 116),(.t 121)]),Qo 123 (.bo .lss (.t 122) (.c (.int .i64 0))),Qo 124 (.un .not (.t 123))] [0,1,2,3,9,10,12,124]) (.cd (.t 124) (.xt 6) .sk)) (.rg (some (List.range 18)) [Mv 125 0,Mv 126 12,Mv 127 0,Mv 128 12,Qo 129 (.bo .sub (.t 128) (.c (.int .i64 1))),Mv 130 0,Mv 131 12,Qo 132 (.bo .sub (.t 131) (.c (.int .i64 1))),Qo 133 (.ia 3 (.t 130) (.t 132)),Qo 134 (.ld (some 3) (.t 133)),Mv 135 0,Mv 136 12,Qo 137 (.ia 3 (.t 135) (.t 136)),Qo 138 (.ld (some 3) (.t 137)),Qo 139 (.ia 3 (.t 125) (.t 126)),Eo (.st 3 (.t 139) (.t 134)),Qo 140 (.ia 3 (.t 127) (.t 129)),Eo (.st 3 (.t 140) (.t 138))] [0,1,2,3,9,10,12]))) (.rg none [Mv 110 12,Qo 111 (.bo .add (.t 110) (.c (.int .i64 1))),Mv 12 111] [0,1,2,3,9,10,12])))
def k82_3:C:=(.sq (.rg none [Mv 101 2,Mv 102 9,Qo 103 (.bo .sub (.t 101) (.t 102)),Qo 104 (.bo .geq (.t 103) (.c (.int .i64 2)))] [0,1,2,3,9,10,104]) (.cd (.t 104) (.sq (.rg none [Mv 105 9,Qo 106 (.bo .add (.t 105) (.c (.int .i64 1))),Mv 12 106] [0,1,2,3,9,10,12]) (.bl 6 (.lp false b82_2))) .sk))
def k82_4:C:=(.sq (.sq (.rg none [Mv 39 9,Mv 40 2,Qo 41 (.bo .eql (.t 39) (.t 40))] [0,1,2,3,9,10,41]) (.cd (.t 41) (.sq (.rg none [Qo 8 (.mv (.c (.bool true)))] [8]) .rt) .sk)) (.sq (.sq (.rg none [Mv 42 2,Mv 43 1,Qo 44 (.bo .sub (.t 42) (.t 43)),Qo 45 (.bo .lss (.t 44) (.c (.int .i64 50)))] [0,1,2,3,9,10,45]) (.cd (.t 45) (.sq (.rg none [Qo 8 (.mv (.c (.bool false)))] [8]) .rt) .sk)) (.sq (.rg (some (List.range 18)) [Mv 46 0,Mv 47 9,Mv 48 0,Mv 49 9,Qo 50 (.bo .sub (.t 49) (.c (.int .i64 1))),Mv 51 0,Mv 52 9,Qo 53 (.bo .sub (.t 52) (.c (.int .i64 1))),Qo 54 (.ia 3 (.t 51) (.t 53)),Qo 55 (.ld (some 3) (.t 54)),Mv 56 0,Mv 57 9,Qo 58 (.ia 3 (.t 56) (.t 57)),Qo 59 (.ld (some 3) (.t 58)),Qo 60 (.ia 3 (.t 46) (.t 47)),Eo (.st 3 (.t 60) (.t 55)),Qo 61 (.ia 3 (.t 48) (.t 50)),Eo (.st 3 (.t 61) (.t 59))] [0,1,2,3,9,10]) (.sq (.sq (.rg none [Mv 62 9,Mv 63 1,Qo 64 (.bo .sub (.t 62) (.t 63)),Qo 65 (.bo .geq (.t 64) (.c (.int .i64 2)))] [0,1,2,3,9,10,65]) (.cd (.t 65) (.sq (.rg none [Mv 66 9,Qo 67 (.bo .sub (.t 66) (.c (.int .i64 1))),Mv 11 67] [0,1,2,3,9,10,11]) (.bl 4 (.lp false b82_1))) .sk)) k82_3))))
def k82_5:C:=(.rg none [Mv 17 10,Qo 18 (.bo .add (.t 17) (.c (.int .i64 1))),Mv 10 18] [0,1,2,3,9,10])
def b82_6:C:=(.sq (.sq (.rg none [Mv 15 10,Qo 16 (.bo .lss (.t 15) (.c (.int .i64 5)))] [0,1,2,3,9,10,16]) (.cd (.t 16) .sk (.xt 0))) (.sq (.bl 1 (.sq (.bl 2 (.lp false b82_0)) k82_4)) k82_5))
def k82_7:C:=(.sq (.rg none [Qo 8 (.mv (.c (.bool false)))] [8]) .rt)
def c82:FI.Fn:={ body:=(.sq (.rg none [Qo 8 (.mv (.c (.bool false)))] [0,1,2,3]) (.sq (.rg none [Mv 13 1,Qo 14 (.bo .add (.t 13) (.c (.int .i64 1))),Mv 9 14] [0,1,2,3,9]) (.sq (.sq (.rg none [Qo 10 (.mv (.c (.int .i64 0)))] [0,1,2,3,9,10]) (.bl 0 (.lp false b82_6))) k82_7))),np:=4,res:=[.t 8],mode:=.shr }
def b83_0:C:=(.sq (.sq (.rg (some (List.range 17)) [Mv 31 11,Mv 32 12,Qo 33 (.bo .leq (.t 31) (.t 32)),Mv 34 33,Gm 35 34 true 4,Gm 36 34 true 0,Gm 37 34 true 1,Gd 38 34 true (.ia 3 (.t 36) (.t 37)),Gd 39 34 true (.ld (some 3) (.t 38)),Gm 40 34 true 0,Gm 41 34 true 11,Gd 42 34 true (.ia 3 (.t 40) (.t 41)),Gd 43 34 true (.ld (some 3) (.t 42)),Gd 44 34 true (.cw (.t 35) [(.t 39),(.t 43)]),Gd 45 34 true (.bo .lss (.t 44) (.c (.int .i64 0))),Gd 46 34 true (.un .not (.t 45)),Qo 47 (.pk (.t 34) (.t 46) (.c (.bool false)))] [0,1,4,11,12,47]) (.cd (.t 47) .sk (.xt 2))) (.bl 3 (.rg none [Mv 48 11,Qo 49 (.bo .add (.t 48) (.c (.int .i64 1))),Mv 11 49] [0,1,4,11,12])))
def b83_1:C:=(.sq (.sq (.rg (some (List.range 16)) [Mv 50 11,Mv 51 12,Qo 52 (.bo .leq (.t 50) (.t 51)),Mv 53 52,Gm 54 53 true 4,Gm 55 53 true 0,Gm 56 53 true 1,Gd 57 53 true (.ia 3 (.t 55) (.t 56)),Gd 58 53 true (.ld (some 3) (.t 57)),Gm 59 53 true 0,Gm 60 53 true 12,Gd 61 53 true (.ia 3 (.t 59) (.t 60)),Gd 62 53 true (.ld (some 3) (.t 61)),Gd 63 53 true (.cw (.t 54) [(.t 58),(.t 62)]),Gd 64 53 true (.bo .lss (.t 63) (.c (.int .i64 0))),Qo 65 (.pk (.t 53) (.t 64) (.c (.bool false)))] [0,1,4,11,12,65]) (.cd (.t 65) .sk (.xt 4))) (.bl 5 (.rg none [Mv 66 12,Qo 67 (.bo .sub (.t 66) (.c (.int .i64 1))),Mv 12 67] [0,1,4,11,12])))
def k83_2:C:=(.sq (.sq (.rg none [Mv 68 11,Mv 69 12,Qo 70 (.bo .gtr (.t 68) (.t 69))] [0,1,4,11,12,70]) (.cd (.t 70) (.xt 0) .sk)) (.sq (.rg (some (List.range 16)) [Mv 71 0,Mv 72 11,Mv 73 0,Mv 74 12,Mv 75 0,Mv 76 12,Qo 77 (.ia 3 (.t 75) (.t 76)),Qo 78 (.ld (some 3) (.t 77)),Mv 79 0,Mv 80 11,Qo 81 (.ia 3 (.t 79) (.t 80)),Qo 82 (.ld (some 3) (.t 81)),Qo 83 (.ia 3 (.t 71) (.t 72)),Eo (.st 3 (.t 83) (.t 78)),Qo 84 (.ia 3 (.t 73) (.t 74)),Eo (.st 3 (.t 84) (.t 82))] [0,1,4,11,12]) (.sq (.rg none [Mv 85 11,Qo 86 (.bo .add (.t 85) (.c (.int .i64 1))),Mv 11 86] [0,1,4,11,12]) (.rg none [Mv 87 12,Qo 88 (.bo .sub (.t 87) (.c (.int .i64 1))),Mv 12 88] [0,1,4,11,12]))))
def k83_3:C:=(.sq (.bl 4 (.lp false b83_1)) k83_2)
def b83_4:C:=(.bl 1 (.sq (.bl 2 (.lp false b83_0)) k83_3))
def k83_5:C:=(.sq (.rg none [Mv 89 11,Mv 10 89] [10]) .rt)
def c83:FI.Fn:={ body:=(.sq (.rg none [Qo 10 (.mv (.c (.int .i64 0)))] [0,1,2,3,4]) (.sq (.rg (some (List.range 16)) [Mv 13 0,Mv 14 1,Mv 15 0,Mv 16 3,Mv 17 0,Mv 18 3,Qo 19 (.ia 3 (.t 17) (.t 18)),Qo 20 (.ld (some 3) (.t 19)),Mv 21 0,Mv 22 1,Qo 23 (.ia 3 (.t 21) (.t 22)),Qo 24 (.ld (some 3) (.t 23)),Qo 25 (.ia 3 (.t 13) (.t 14)),Eo (.st 3 (.t 25) (.t 20)),Qo 26 (.ia 3 (.t 15) (.t 16)),Eo (.st 3 (.t 26) (.t 24))] [0,1,2,4]) (.sq (.rg none [Mv 27 1,Qo 28 (.bo .add (.t 27) (.c (.int .i64 1))),Mv 29 2,Qo 30 (.bo .sub (.t 29) (.c (.int .i64 1))),Mv 11 28,Mv 12 30] [0,1,4,11,12]) (.sq (.bl 0 (.lp false b83_4)) k83_5)))),np:=5,res:=[.t 10],mode:=.shr }
def b84_0:C:=(.sq (.sq (.rg (some (List.range 16)) [Mv 32 12,Mv 33 13,Qo 34 (.bo .leq (.t 32) (.t 33)),Mv 35 34,Gm 36 35 true 4,Gm 37 35 true 0,Gm 38 35 true 12,Gd 39 35 true (.ia 3 (.t 37) (.t 38)),Gd 40 35 true (.ld (some 3) (.t 39)),Gm 41 35 true 0,Gm 42 35 true 1,Gd 43 35 true (.ia 3 (.t 41) (.t 42)),Gd 44 35 true (.ld (some 3) (.t 43)),Gd 45 35 true (.cw (.t 36) [(.t 40),(.t 44)]),Gd 46 35 true (.bo .lss (.t 45) (.c (.int .i64 0))),Qo 47 (.pk (.t 35) (.t 46) (.c (.bool false)))] [0,1,4,12,13,47]) (.cd (.t 47) .sk (.xt 0))) (.bl 1 (.rg none [Mv 48 12,Qo 49 (.bo .add (.t 48) (.c (.int .i64 1))),Mv 12 49] [0,1,4,12,13])))
def b84_1:C:=(.sq (.sq (.rg (some (List.range 17)) [Mv 50 12,Mv 51 13,Qo 52 (.bo .leq (.t 50) (.t 51)),Mv 53 52,Gm 54 53 true 4,Gm 55 53 true 0,Gm 56 53 true 13,Gd 57 53 true (.ia 3 (.t 55) (.t 56)),Gd 58 53 true (.ld (some 3) (.t 57)),Gm 59 53 true 0,Gm 60 53 true 1,Gd 61 53 true (.ia 3 (.t 59) (.t 60)),Gd 62 53 true (.ld (some 3) (.t 61)),Gd 63 53 true (.cw (.t 54) [(.t 58),(.t 62)]),Gd 64 53 true (.bo .lss (.t 63) (.c (.int .i64 0))),Gd 65 53 true (.un .not (.t 64)),Qo 66 (.pk (.t 53) (.t 65) (.c (.bool false)))] [0,1,4,12,13,66]) (.cd (.t 66) .sk (.xt 2))) (.bl 3 (.rg none [Mv 67 13,Qo 68 (.bo .sub (.t 67) (.c (.int .i64 1))),Mv 13 68] [0,1,4,12,13])))
def b84_2:C:=(.sq (.sq (.rg (some (List.range 16)) [Mv 105 12,Mv 106 13,Qo 107 (.bo .leq (.t 105) (.t 106)),Mv 108 107,Gm 109 108 true 4,Gm 110 108 true 0,Gm 111 108 true 12,Gd 112 108 true (.ia 3 (.t 110) (.t 111)),Gd 113 108 true (.ld (some 3) (.t 112)),Gm 114 108 true 0,Gm 115 108 true 1,Gd 116 108 true (.ia 3 (.t 114) (.t 115)),Gd 117 108 true (.ld (some 3) (.t 116)),Gd 118 108 true (.cw (.t 109) [(.t 113),(.t 117)]),Gd 119 108 true (.bo .lss (.t 118) (.c (.int .i64 0))),Qo 120 (.pk (.t 108) (.t 119) (.c (.bool false)))] [0,1,4,12,13,120]) (.cd (.t 120) .sk (.xt 6))) (.bl 7 (.rg none [Mv 121 12,Qo 122 (.bo .add (.t 121) (.c (.int .i64 1))),Mv 12 122] [0,1,4,12,13])))
def b84_3:C:=(.sq (.sq (.rg (some (List.range 17)) [Mv 123 12,Mv 124 13,Qo 125 (.bo .leq (.t 123) (.t 124)),Mv 126 125,Gm 127 126 true 4,Gm 128 126 true 0,Gm 129 126 true 13,Gd 130 126 true (.ia 3 (.t 128) (.t 129)),Gd 131 126 true (.ld (some 3) (.t 130)),Gm 132 126 true 0,Gm 133 126 true 1,Gd 134 126 true (.ia 3 (.t 132) (.t 133)),Gd 135 126 true (.ld (some 3) (.t 134)),Gd 136 126 true (.cw (.t 127) [(.t 131),(.t 135)]),Gd 137 126 true (.bo .lss (.t 136) (.c (.int .i64 0))),Gd 138 126 true (.un .not (.t 137)),Qo 139 (.pk (.t 126) (.t 138) (.c (.bool false)))] [0,1,4,12,13,139]) (.cd (.t 139) .sk (.xt 8))) (.bl 9 (.rg none [Mv 140 13,Qo 141 (.bo .sub (.t 140) (.c (.int .i64 1))),Mv 13 141] [0,1,4,12,13])))
def k84_4:C:=(.sq (.sq (.rg none [Mv 142 12,Mv 143 13,Qo 144 (.bo .gtr (.t 142) (.t 143))] [0,1,4,12,13,144]) (.cd (.t 144) (.xt 4) .sk)) (.sq (.rg (some (List.range 16)) [Mv 145 0,Mv 146 12,Mv 147 0,Mv 148 13,Mv 149 0,Mv 150 13,Qo 151 (.ia 3 (.t 149) (.t 150)),Qo 152 (.ld (some 3) (.t 151)),Mv 153 0,Mv 154 12,Qo 155 (.ia 3 (.t 153) (.t 154)),Qo 156 (.ld (some 3) (.t 155)),Qo 157 (.ia 3 (.t 145) (.t 146)),Eo (.st 3 (.t 157) (.t 152)),Qo 158 (.ia 3 (.t 147) (.t 148)),Eo (.st 3 (.t 158) (.t 156))] [0,1,4,12,13]) (.sq (.rg none [Mv 159 12,Qo 160 (.bo .add (.t 159) (.c (.int .i64 1))),Mv 12 160] [0,1,4,12,13]) (.rg none [Mv 161 13,Qo 162 (.bo .sub (.t 161) (.c (.int .i64 1))),Mv 13 162] [0,1,4,12,13]))))
def k84_5:C:=(.sq (.bl 8 (.lp false b84_3)) k84_4)
def b84_6:C:=(.bl 5 (.sq (.bl 6 (.lp false b84_2)) k84_5))
def k84_7:C:=(.sq (.rg (some (List.range 16)) [Mv 163 0,Mv 164 13,Mv 165 0,Mv 166 1,Mv 167 0,Mv 168 1,Qo 169 (.ia 3 (.t 167) (.t 168)),Qo 170 (.ld (some 3) (.t 169)),Mv 171 0,Mv 172 13,Qo 173 (.ia 3 (.t 171) (.t 172)),Qo 174 (.ld (some 3) (.t 173)),Qo 175 (.ia 3 (.t 163) (.t 164)),Eo (.st 3 (.t 175) (.t 170)),Qo 176 (.ia 3 (.t 165) (.t 166)),Eo (.st 3 (.t 176) (.t 174))] [13]) (.sq (.rg none [Mv 177 13,Mv 10 177,Qo 11 (.mv (.c (.bool false)))] [10,11]) .rt))
def k84_8:C:=(.sq (.sq (.rg none [Mv 69 12,Mv 70 13,Qo 71 (.bo .gtr (.t 69) (.t 70))] [0,1,4,12,13,71]) (.cd (.t 71) (.sq (.rg (some (List.range 16)) [Mv 72 0,Mv 73 13,Mv 74 0,Mv 75 1,Mv 76 0,Mv 77 1,Qo 78 (.ia 3 (.t 76) (.t 77)),Qo 79 (.ld (some 3) (.t 78)),Mv 80 0,Mv 81 13,Qo 82 (.ia 3 (.t 80) (.t 81)),Qo 83 (.ld (some 3) (.t 82)),Qo 84 (.ia 3 (.t 72) (.t 73)),Eo (.st 3 (.t 84) (.t 79)),Qo 85 (.ia 3 (.t 74) (.t 75)),Eo (.st 3 (.t 85) (.t 83))] [13]) (.sq (.rg none [Mv 86 13,Mv 10 86,Qo 11 (.mv (.c (.bool true)))] [10,11]) .rt)) .sk)) (.sq (.rg (some (List.range 16)) [Mv 87 0,Mv 88 12,Mv 89 0,Mv 90 13,Mv 91 0,Mv 92 13,Qo 93 (.ia 3 (.t 91) (.t 92)),Qo 94 (.ld (some 3) (.t 93)),Mv 95 0,Mv 96 12,Qo 97 (.ia 3 (.t 95) (.t 96)),Qo 98 (.ld (some 3) (.t 97)),Qo 99 (.ia 3 (.t 87) (.t 88)),Eo (.st 3 (.t 99) (.t 94)),Qo 100 (.ia 3 (.t 89) (.t 90)),Eo (.st 3 (.t 100) (.t 98))] [0,1,4,12,13]) (.sq (.rg none [Mv 101 12,Qo 102 (.bo .add (.t 101) (.c (.int .i64 1))),Mv 12 102] [0,1,4,12,13]) (.sq (.rg none [Mv 103 13,Qo 104 (.bo .sub (.t 103) (.c (.int .i64 1))),Mv 13 104] [0,1,4,12,13]) (.sq (.bl 4 (.lp false b84_6)) k84_7)))))
def k84_9:C:=(.sq (.bl 2 (.lp false b84_1)) k84_8)
def c84:FI.Fn:={ body:=(.sq (.rg none [Qo 10 (.mv (.c (.int .i64 0))),Qo 11 (.mv (.c (.bool false)))] [0,1,2,3,4]) (.sq (.rg (some (List.range 16)) [Mv 14 0,Mv 15 1,Mv 16 0,Mv 17 3,Mv 18 0,Mv 19 3,Qo 20 (.ia 3 (.t 18) (.t 19)),Qo 21 (.ld (some 3) (.t 20)),Mv 22 0,Mv 23 1,Qo 24 (.ia 3 (.t 22) (.t 23)),Qo 25 (.ld (some 3) (.t 24)),Qo 26 (.ia 3 (.t 14) (.t 15)),Eo (.st 3 (.t 26) (.t 21)),Qo 27 (.ia 3 (.t 16) (.t 17)),Eo (.st 3 (.t 27) (.t 25))] [0,1,2,4]) (.sq (.rg none [Mv 28 1,Qo 29 (.bo .add (.t 28) (.c (.int .i64 1))),Mv 30 2,Qo 31 (.bo .sub (.t 30) (.c (.int .i64 1))),Mv 12 29,Mv 13 31] [0,1,4,12,13]) (.sq (.bl 0 (.lp false b84_0)) k84_9)))),np:=5,res:=[.t 10,.t 11],mode:=.shr }
def c85:FI.Fn:={ body:=(.sq (.rg none [Qo 2 (.mv (.c (.int .i64 0)))] [0,2]) (.sq (.sq (.rg none [Mv 3 0,Qo 4 (.bo .geq (.t 3) (.c (.int .u32 65536)))] [0,2,4]) (.cd (.t 4) (.sq (.rg none [Mv 5 0,Qo 6 (.bo .shr (.t 5) (.c (.int .u64 16))),Mv 0 6] [0]) (.rg none [Qo 2 (.mv (.c (.int .i64 16)))] [0,2])) .sk)) (.sq (.sq (.rg none [Mv 7 0,Qo 8 (.bo .geq (.t 7) (.c (.int .u32 256)))] [0,2,8]) (.cd (.t 8) (.sq (.rg none [Mv 9 0,Qo 10 (.bo .shr (.t 9) (.c (.int .u64 8))),Mv 0 10] [0,2]) (.rg none [Mv 11 2,Qo 12 (.bo .add (.t 11) (.c (.int .i64 8))),Mv 2 12] [0,2])) .sk)) (.sq (.rg none [Mv 13 2,Mv 14 0,Qo 15 (.cv .u8 (.t 14)),Qo 16 (.ix (.c (.str [0,1,2,2,3,3,3,3,4,4,4,4,4,4,4,4,5,5,5,5,5,5,5,5,5,5,5,5,5,5,5,5,6,6,6,6,6,6,6,6,6,6,6,6,6,6,6,6,6,6,6,6,6,6,6,6,6,6,6,6,6,6,6,6,7,7,7,7,7,7,7,7,7,7,7,7,7,7,7,7,7,7,7,7,7,7,7,7,7,7,7,7,7,7,7,7,7,7,7,7,7,7,7,7,7,7,7,7,7,7,7,7,7,7,7,7,7,7,7,7,7,7,7,7,7,7,7,7,8,8,8,8,8,8,8,8,8,8,8,8,8,8,8,8,8,8,8,8,8,8,8,8,8,8,8,8,8,8,8,8,8,8,8,8,8,8,8,8,8,8,8,8,8,8,8,8,8,8,8,8,8,8,8,8,8,8,8,8,8,8,8,8,8,8,8,8,8,8,8,8,8,8,8,8,8,8,8,8,8,8,8,8,8,8,8,8,8,8,8,8,8,8,8,8,8,8,8,8,8,8,8,8,8,8,8,8,8,8,8,8,8,8,8,8,8,8,8,8,8,8,8,8,8,8,8,8])) (.t 15)),Qo 17 (.cv .i64 (.t 16)),Qo 18 (.bo .add (.t 13) (.t 17)),Mv 2 18] [2]) .rt)))),np:=1,res:=[.t 2],mode:=.iso }
def c86:FI.Fn:={ body:=(.sq (.rg none [Qo 2 (.mv (.c (.int .i64 0)))] [0,2]) (.sq (.sq (.rg none [Mv 3 0,Qo 4 (.bo .geq (.t 3) (.c (.int .u64 4294967296)))] [0,2,4]) (.cd (.t 4) (.sq (.rg none [Mv 5 0,Qo 6 (.bo .shr (.t 5) (.c (.int .u64 32))),Mv 0 6] [0]) (.rg none [Qo 2 (.mv (.c (.int .i64 32)))] [0,2])) .sk)) (.sq (.sq (.rg none [Mv 7 0,Qo 8 (.bo .geq (.t 7) (.c (.int .u64 65536)))] [0,2,8]) (.cd (.t 8) (.sq (.rg none [Mv 9 0,Qo 10 (.bo .shr (.t 9) (.c (.int .u64 16))),Mv 0 10] [0,2]) (.rg none [Mv 11 2,Qo 12 (.bo .add (.t 11) (.c (.int .i64 16))),Mv 2 12] [0,2])) .sk)) (.sq (.sq (.rg none [Mv 13 0,Qo 14 (.bo .geq (.t 13) (.c (.int .u64 256)))] [0,2,14]) (.cd (.t 14) (.sq (.rg none [Mv 15 0,Qo 16 (.bo .shr (.t 15) (.c (.int .u64 8))),Mv 0 16] [0,2]) (.rg none [Mv 17 2,Qo 18 (.bo .add (.t 17) (.c (.int .i64 8))),Mv 2 18] [0,2])) .sk)) (.sq (.rg none [Mv 19 2,Mv 20 0,Qo 21 (.cv .u8 (.t 20)),Qo 22 (.ix (.c (.str [0,1,2,2,3,3,3,3,4,4,4,4,4,4,4,4,5,5,5,5,5,5,5,5,5,5,5,5,5,5,5,5,6,6,6,6,6,6,6,6,6,6,6,6,6,6,6,6,6,6,6,6,6,6,6,6,6,6,6,6,6,6,6,6,7,7,7,7,7,7,7,7,7,7,7,7,7,7,7,7,7,7,7,7,7,7,7,7,7,7,7,7,7,7,7,7,7,7,7,7,7,7,7,7,7,7,7,7,7,7,7,7,7,7,7,7,7,7,7,7,7,7,7,7,7,7,7,7,8,8,8,8,8,8,8,8,8,8,8,8,8,8,8,8,8,8,8,8,8,8,8,8,8,8,8,8,8,8,8,8,8,8,8,8,8,8,8,8,8,8,8,8,8,8,8,8,8,8,8,8,8,8,8,8,8,8,8,8,8,8,8,8,8,8,8,8,8,8,8,8,8,8,8,8,8,8,8,8,8,8,8,8,8,8,8,8,8,8,8,8,8,8,8,8,8,8,8,8,8,8,8,8,8,8,8,8,8,8,8,8,8,8,8,8,8,8,8,8,8,8,8,8,8,8,8,8])) (.t 21)),Qo 23 (.cv .i64 (.t 22)),Qo 24 (.bo .add (.t 19) (.t 23)),Mv 2 24] [2]) .rt))))),np:=1,res:=[.t 2],mode:=.iso }
def c88:FI.Fn:={ body:=(.sq (.rg none [Qo 4 (.mv (.c (.bool false)))] [0,1]) (.sq (.rg none [Mv 5 0,Qo 6 (.ln 0 (.t 5)),Mv 7 1,Qo 8 (.ln 0 (.t 7)),Qo 9 (.bo .geq (.t 6) (.t 8)),Mv 10 9,Gm 11 10 true 0,Gm 12 10 true 1,Gd 13 10 true (.ln 0 (.t 12)),Gd 14 10 true (.sl 0 (.t 11) none (some (.t 13))),Gm 15 10 true 1,Gd 16 10 true (.bo .eql (.t 14) (.t 15)),Qo 17 (.pk (.t 10) (.t 16) (.c (.bool false))),Mv 4 17] [4]) .rt)),np:=2,res:=[.t 4],mode:=.iso }
def c89:FI.Fn:={ body:=(.sq (.rg none [Qo 2 (.mv (.c (.bool false)))] [0]) (.sq (.rg none [Mv 3 0,Qo 4 (.bo .geq (.t 3) (.c (.int .i64 1))),Mv 5 4,Gm 6 5 true 0,Gd 7 5 true (.bo .leq (.t 6) (.c (.int .i64 64))),Qo 8 (.pk (.t 5) (.t 7) (.c (.bool false))),Mv 2 8] [2]) .rt)),np:=1,res:=[.t 2],mode:=.iso }
def c90:FI.Fn:={ body:=(.sq (.rg none [Qo 2 (.mv (.c (.int .u64 0)))] [0]) (.sq (.sq (.rg none [Mv 3 0,Qo 4 (.cl 89 [(.t 3)]),Qo 5 (.un .not (.t 4))] [0,5]) (.cd (.t 5) (.sq (.rg none [Qo 2 (.mv (.c (.int .u64 0)))] [2]) .rt) .sk)) (.sq (.rg none [Mv 6 0,Qo 7 (.bo .sub (.c (.int .i64 64)) (.t 6)),Qo 8 (.bo .shr (.c (.int .u64 18446744073709551615)) (.t 7)),Mv 2 8] [2]) .rt))),np:=1,res:=[.t 2],mode:=.iso }
def c91:FI.Fn:={ body:=(.sq (.rg none [Qo 4 (.mv (.c (.int .u64 0))),Qo 5 (.mv (.c (.int .u64 0)))] [0,1]) (.sq (.cd (.c (.bool false)) (.sq (.rg none [Mv 11 0,Qo 12 (.cv .u32 (.t 11)),Mv 13 1,Qo 14 (.cv .u32 (.t 13)),Qo 15 (.cl 103 [(.t 12),(.t 14)]),Mv 10 15,Qo 16 (.ex (.t 10) 0),Qo 17 (.ex (.t 10) 1),Mv 6 16,Mv 7 17] [6,7]) (.sq (.rg none [Mv 18 6,Qo 19 (.cv .u64 (.t 18)),Mv 20 7,Qo 21 (.cv .u64 (.t 20)),Mv 4 19,Mv 5 21] [4,5]) .rt)) .sk) (.sq (.rg none [Mv 23 0,Mv 24 1,Qo 25 (.cl 104 [(.t 23),(.t 24)]),Mv 22 25,Qo 26 (.ex (.t 22) 0),Qo 27 (.ex (.t 22) 1),Mv 8 26,Mv 9 27] [8,9]) (.sq (.rg none [Mv 28 8,Mv 29 9,Mv 4 28,Mv 5 29] [4,5]) .rt)))),np:=2,res:=[.t 4,.t 5],mode:=.iso }
def c92:FI.Fn:={ body:=(.sq (.rg none [Qo 6 (.mv (.c (.int .i64 0)))] [0,1,2,3]) (.sq (.rg none [Qo 7 (.ld none (.t 2)),Qo 8 (.ld none (.t 3)),Mv 9 0,Mv 10 1,Qo 11 (.cl 50 [(.t 7),(.t 8),(.t 9),(.t 10)]),Mv 6 11] [6]) .rt)),np:=4,res:=[.t 6],mode:=.iso }
def c93:FI.Fn:={ body:=(.sq (.rg none [Qo 6 (.mv (.c (.int .i64 0)))] [0,1,2,3]) (.sq (.rg none [Qo 7 (.ld none (.t 2)),Qo 8 (.ld none (.t 3)),Mv 9 0,Mv 10 1,Qo 11 (.cl 50 [(.t 7),(.t 8),(.t 9),(.t 10)]),Mv 6 11] [6]) .rt)),np:=4,res:=[.t 6],mode:=.iso }
def c94:FI.Fn:={ body:=(.sq (.rg none [Qo 7 (.mv (.c (.int .i64 0)))] [0,1,2,3,4]) (.sq (.rg (some (List.range 9)) [Qo 8 (.ld none (.t 2)),Qo 9 (.ld none (.t 3)),Qo 10 (.ld none (.t 4)),Qo 11 (.ia 1 (.t 9) (.t 10)),Qo 12 (.ld none (.t 11)),Mv 13 0,Mv 14 1,Qo 15 (.cl 50 [(.t 8),(.t 12),(.t 13),(.t 14)]),Mv 7 15] [7]) .rt)),np:=5,res:=[.t 7],mode:=.iso }
def c95:FI.Fn:={ body:=(.sq (.rg none [Qo 4 (.mv (.c (.bool false)))] [0,1]) (.sq (.rg none [Mv 5 0,Mv 6 1,Qo 7 (.cl 105 [(.t 5),(.t 6)]),Qo 8 (.bo .geq (.t 7) (.c (.int .i64 0))),Mv 4 8] [4]) .rt)),np:=2,res:=[.t 4],mode:=.isf }
def c96:FI.Fn:={ body:=(.sq (.rg none [Qo 2 (.bx 6 (.t 0)),Qo 3 (.mv (.c (.bool false)))] [1,2]) (.sq (.rg none [Qo 4 (.fa 1 (.t 2)),Qo 5 (.ld none (.t 4)),Qo 6 (.ld none (.t 1)),Qo 7 (.bo .neq (.t 5) (.t 6)),Mv 3 7] [3]) .rt)),np:=2,res:=[.t 3],mode:=.iso }
def c97:FI.Fn:={ body:=(.sq (.rg none [Qo 2 (.mv (.c (.bool false)))] [0]) (.sq (.rg none [Mv 3 0,Qo 4 (.bo .eql (.t 3) (.c (.int .i64 8))),Mv 5 4,Gm 6 5 false 0,Gd 7 5 false (.bo .eql (.t 6) (.c (.int .i64 16))),Qo 8 (.pk (.t 5) (.c (.bool true)) (.t 7)),Mv 9 8,Gm 10 9 false 0,Gd 11 9 false (.bo .eql (.t 10) (.c (.int .i64 32))),Qo 12 (.pk (.t 9) (.c (.bool true)) (.t 11)),Mv 13 12,Gm 14 13 false 0,Gd 15 13 false (.bo .eql (.t 14) (.c (.int .i64 64))),Qo 16 (.pk (.t 13) (.c (.bool true)) (.t 15)),Mv 2 16] [2]) .rt)),np:=1,res:=[.t 2],mode:=.iso }
def b98_0:C:=(.bl 1 (.sq (.rg none [Mv 13 10,Qo 14 (.bo .mul (.c (.int .i64 2)) (.t 13)),Qo 15 (.bo .add (.t 14) (.c (.int .i64 1))),Mv 11 15] [0,2,3,4,10,11]) (.sq (.sq (.rg none [Mv 16 11,Mv 17 2,Qo 18 (.bo .geq (.t 16) (.t 17))] [0,2,3,4,10,11,18]) (.cd (.t 18) (.xt 0) .sk)) (.sq (.sq (.rg (some (List.range 22)) [Mv 19 11,Qo 20 (.bo .add (.t 19) (.c (.int .i64 1))),Mv 21 2,Qo 22 (.bo .lss (.t 20) (.t 21)),Mv 23 22,Gm 24 23 true 4,Gm 25 23 true 0,Gm 26 23 true 3,Gm 27 23 true 11,Gd 28 23 true (.bo .add (.t 26) (.t 27)),Gd 29 23 true (.ia 3 (.t 25) (.t 28)),Gd 30 23 true (.ld (some 3) (.t 29)),Gm 31 23 true 0,Gm 32 23 true 3,Gm 33 23 true 11,Gd 34 23 true (.bo .add (.t 32) (.t 33)),Gd 35 23 true (.bo .add (.t 34) (.c (.int .i64 1))),Gd 36 23 true (.ia 3 (.t 31) (.t 35)),Gd 37 23 true (.ld (some 3) (.t 36)),Gd 38 23 true (.cw (.t 24) [(.t 30),(.t 37)]),Gd 39 23 true (.bo .lss (.t 38) (.c (.int .i64 0))),Qo 40 (.pk (.t 23) (.t 39) (.c (.bool false)))] [0,2,3,4,10,11,40]) (.cd (.t 40) (.rg none [Mv 41 11,Qo 42 (.bo .add (.t 41) (.c (.int .i64 1))),Mv 11 42] [0,2,3,4,10,11]) .sk)) (.sq (.sq (.rg (some (List.range 16)) [Mv 43 4,Mv 44 0,Mv 45 3,Mv 46 10,Qo 47 (.bo .add (.t 45) (.t 46)),Qo 48 (.ia 3 (.t 44) (.t 47)),Qo 49 (.ld (some 3) (.t 48)),Mv 50 0,Mv 51 3,Mv 52 11,Qo 53 (.bo .add (.t 51) (.t 52)),Qo 54 (.ia 3 (.t 50) (.t 53)),Qo 55 (.ld (some 3) (.t 54)),Qo 56 (.cw (.t 43) [(.t 49),(.t 55)]),Qo 57 (.bo .lss (.t 56) (.c (.int .i64 0))),Qo 58 (.un .not (.t 57))] [0,2,3,4,10,11,58]) (.cd (.t 58) .rt .sk)) (.sq (.rg (some (List.range 24)) [Mv 59 0,Mv 60 3,Mv 61 10,Qo 62 (.bo .add (.t 60) (.t 61)),Mv 63 0,Mv 64 3,Mv 65 11,Qo 66 (.bo .add (.t 64) (.t 65)),Mv 67 0,Mv 68 3,Mv 69 11,Qo 70 (.bo .add (.t 68) (.t 69)),Qo 71 (.ia 3 (.t 67) (.t 70)),Qo 72 (.ld (some 3) (.t 71)),Mv 73 0,Mv 74 3,Mv 75 10,Qo 76 (.bo .add (.t 74) (.t 75)),Qo 77 (.ia 3 (.t 73) (.t 76)),Qo 78 (.ld (some 3) (.t 77)),Qo 79 (.ia 3 (.t 59) (.t 62)),Eo (.st 3 (.t 79) (.t 72)),Qo 80 (.ia 3 (.t 63) (.t 66)),Eo (.st 3 (.t 80) (.t 78))] [0,2,3,4,11]) (.rg none [Mv 81 11,Mv 10 81] [0,2,3,4,10])))))))
def c98:FI.Fn:={ body:=(.sq (.rg none [Mv 12 1,Mv 10 12] [0,2,3,4,10]) (.bl 0 (.lp false b98_0))),np:=5,res:=[],mode:=.shr }
def c99:FI.Fn:={ body:=(.sq (.rg none [Qo 2 (.mv (.c (.int .u64 0)))] [0]) (.sq (.rg none [Mv 3 0,Qo 4 (.cv .u64 (.t 3)),Qo 5 (.cl 56 [(.t 4)]),Qo 6 (.bo .shl (.c (.int .u64 1)) (.t 5)),Mv 2 6] [2]) .rt)),np:=1,res:=[.t 2],mode:=.iso }
def c100:FI.Fn:={ body:=(.sq (.rg none [Qo 2 (.mv (.c (.int .u64 0)))] [0]) (.sq (.rg (some (List.range 10)) [Mv 3 0,Qo 4 (.nc (.t 3)),Qo 5 (.ld none (.t 4)),Mv 6 0,Qo 7 (.nc (.t 6)),Qo 8 (.ld none (.t 7)),Qo 9 (.bo .shl (.t 8) (.c (.int .u64 13))),Qo 10 (.bo .xor (.t 5) (.t 9)),Qo 11 (.nc (.t 3)),Eo (.st 1 (.t 11) (.t 10))] [0]) (.sq (.rg (some (List.range 10)) [Mv 12 0,Qo 13 (.nc (.t 12)),Qo 14 (.ld none (.t 13)),Mv 15 0,Qo 16 (.nc (.t 15)),Qo 17 (.ld none (.t 16)),Qo 18 (.bo .shr (.t 17) (.c (.int .u64 7))),Qo 19 (.bo .xor (.t 14) (.t 18)),Qo 20 (.nc (.t 12)),Eo (.st 1 (.t 20) (.t 19))] [0]) (.sq (.rg (some (List.range 10)) [Mv 21 0,Qo 22 (.nc (.t 21)),Qo 23 (.ld none (.t 22)),Mv 24 0,Qo 25 (.nc (.t 24)),Qo 26 (.ld none (.t 25)),Qo 27 (.bo .shl (.t 26) (.c (.int .u64 17))),Qo 28 (.bo .xor (.t 23) (.t 27)),Qo 29 (.nc (.t 21)),Eo (.st 1 (.t 29) (.t 28))] [0]) (.sq (.rg none [Mv 30 0,Qo 31 (.nc (.t 30)),Qo 32 (.ld none (.t 31)),Mv 2 32] [2]) .rt))))),np:=1,res:=[.t 2],mode:=.shr }
def c101:FI.Fn:={ body:=(.sq (.rg none [Qo 8 (.mv (.c (.int .i64 0)))] [0,1,2,3]) (.sq (.rg none [Mv 9 0,Mv 10 1,Qo 11 (.bo .sub (.t 10) (.c (.int .i64 1))),Mv 12 1,Mv 13 1,Qo 14 (.bo .add (.t 13) (.c (.int .i64 1))),Mv 15 2,Mv 16 3,Qo 17 (.cl 102 [(.t 9),(.t 11),(.t 12),(.t 14),(.t 15),(.t 16)]),Mv 8 17] [8]) .rt)),np:=4,res:=[.t 8],mode:=.shr }
def c102:FI.Fn:={ body:=(.sq (.rg none [Qo 12 (.mv (.c (.int .i64 0)))] [0,1,2,3,4,5]) (.sq (.rg none [Mv 14 0,Mv 15 1,Mv 16 2,Mv 17 4,Mv 18 5,Qo 19 (.cl 106 [(.t 14),(.t 15),(.t 16),(.t 17),(.t 18)]),Mv 13 19,Qo 20 (.ex (.t 13) 0),Qo 21 (.ex (.t 13) 1),Mv 1 20,Mv 2 21] [0,1,2,3,4,5]) (.sq (.rg none [Mv 23 0,Mv 24 2,Mv 25 3,Mv 26 4,Mv 27 5,Qo 28 (.cl 106 [(.t 23),(.t 24),(.t 25),(.t 26),(.t 27)]),Mv 22 28,Qo 29 (.ex (.t 22) 0),Qo 30 (.ex (.t 22) 1),Mv 2 29,Mv 3 30] [0,1,2,4,5]) (.sq (.rg none [Mv 32 0,Mv 33 1,Mv 34 2,Mv 35 4,Mv 36 5,Qo 37 (.cl 106 [(.t 32),(.t 33),(.t 34),(.t 35),(.t 36)]),Mv 31 37,Qo 38 (.ex (.t 31) 0),Qo 39 (.ex (.t 31) 1),Mv 1 38,Mv 2 39] [2]) (.sq (.rg none [Mv 40 2,Mv 12 40] [12]) .rt))))),np:=6,res:=[.t 12],mode:=.shr }
def c103:FI.Fn:={ body:=(.sq (.rg none [Qo 4 (.mv (.c (.int .u32 0))),Qo 5 (.mv (.c (.int .u32 0)))] [0,1]) (.sq (.rg none [Mv 7 0,Qo 8 (.cv .u64 (.t 7)),Mv 9 1,Qo 10 (.cv .u64 (.t 9)),Qo 11 (.bo .mul (.t 8) (.t 10)),Mv 6 11] [6]) (.sq (.rg none [Mv 12 6,Qo 13 (.bo .shr (.t 12) (.c (.int .u64 32))),Qo 14 (.cv .u32 (.t 13)),Mv 15 6,Qo 16 (.cv .u32 (.t 15)),Mv 4 14,Mv 5 16] [4,5]) .rt))),np:=2,res:=[.t 4,.t 5],mode:=.iso }
def c104:FI.Fn:={ body:=(.sq (.rg none [Qo 4 (.mv (.c (.int .u64 0))),Qo 5 (.mv (.c (.int .u64 0)))] [0,1]) (.sq (.rg none [Mv 14 0,Qo 15 (.bo .and (.t 14) (.c (.int .u64 4294967295))),Mv 6 15] [0,1,6]) (.sq (.rg none [Mv 16 0,Qo 17 (.bo .shr (.t 16) (.c (.int .u64 32))),Mv 7 17] [0,1,6,7]) (.sq (.rg none [Mv 18 1,Qo 19 (.bo .and (.t 18) (.c (.int .u64 4294967295))),Mv 8 19] [0,1,6,7,8]) (.sq (.rg none [Mv 20 1,Qo 21 (.bo .shr (.t 20) (.c (.int .u64 32))),Mv 9 21] [0,1,6,7,8,9]) (.sq (.rg none [Mv 22 6,Mv 23 8,Qo 24 (.bo .mul (.t 22) (.t 23)),Mv 10 24] [0,1,6,7,8,9,10]) (.sq (.rg none [Mv 25 7,Mv 26 8,Qo 27 (.bo .mul (.t 25) (.t 26)),Mv 28 10,Qo 29 (.bo .shr (.t 28) (.c (.int .u64 32))),Qo 30 (.bo .add (.t 27) (.t 29)),Mv 11 30] [0,1,6,7,9,11]) (.sq (.rg none [Mv 31 11,Qo 32 (.bo .and (.t 31) (.c (.int .u64 4294967295))),Mv 12 32] [0,1,6,7,9,11,12]) (.sq (.rg none [Mv 33 11,Qo 34 (.bo .shr (.t 33) (.c (.int .u64 32))),Mv 13 34] [0,1,6,7,9,12,13]) (.sq (.rg none [Mv 35 12,Mv 36 6,Mv 37 9,Qo 38 (.bo .mul (.t 36) (.t 37)),Qo 39 (.bo .add (.t 35) (.t 38)),Mv 12 39] [0,1,7,9,12,13]) (.sq (.rg none [Mv 40 7,Mv 41 9,Qo 42 (.bo .mul (.t 40) (.t 41)),Mv 43 13,Qo 44 (.bo .add (.t 42) (.t 43)),Mv 45 12,Qo 46 (.bo .shr (.t 45) (.c (.int .u64 32))),Qo 47 (.bo .add (.t 44) (.t 46)),Mv 4 47] [0,1,4]) (.sq (.rg none [Mv 48 0,Mv 49 1,Qo 50 (.bo .mul (.t 48) (.t 49)),Mv 5 50] [4,5]) .rt)))))))))))),np:=2,res:=[.t 4,.t 5],mode:=.iso }
def b105_0:C:=(.sq (.rg none [Qo 9 (.bo .lss (.t 8) (.t 7))] [0,1,7,8,9]) (.sq (.cd (.t 9) .sk (.xt 0)) (.sq (.bl 1 (.sq (.rg none [Mv 10 8,Mv 5 10] [0,1,5,7,8]) (.sq (.rg none [Mv 11 1,Mv 12 0,Mv 13 5,Qo 14 (.ia 6 (.t 12) (.t 13)),Qo 15 (.ld (some 6) (.t 14)),Qo 16 (.cw (.t 11) [(.t 15)])] [0,1,5,7,8,16]) (.cd (.t 16) (.sq (.rg none [Mv 17 5,Mv 4 17] [4]) .rt) .sk)))) (.rg none [Qo 18 (.bo .add (.t 8) (.c (.int .i64 1))),Mv 8 18] [0,1,7,8]))))
def k105_1:C:=(.sq (.rg none [Qo 4 (.mv (.c (.int .i64 (-1))))] [4]) .rt)
def c105:FI.Fn:={ body:=(.sq (.rg none [Qo 4 (.mv (.c (.int .i64 0)))] [0,1]) (.sq (.sq (.rg none [Mv 6 0,Qo 7 (.ln 1 (.t 6)),Qo 8 (.mv (.c (.int .i64 0)))] [0,1,7,8]) (.bl 0 (.lp true b105_0))) k105_1)),np:=2,res:=[.t 4],mode:=.iso }
def c106:FI.Fn:={ body:=(.sq (.rg none [Qo 10 (.mv (.c (.int .i64 0))),Qo 11 (.mv (.c (.int .i64 0)))] [0,1,2,3,4]) (.sq (.sq (.rg (some (List.range 11)) [Mv 12 4,Mv 13 0,Mv 14 2,Qo 15 (.ia 3 (.t 13) (.t 14)),Qo 16 (.ld (some 3) (.t 15)),Mv 17 0,Mv 18 1,Qo 19 (.ia 3 (.t 17) (.t 18)),Qo 20 (.ld (some 3) (.t 19)),Qo 21 (.cw (.t 12) [(.t 16),(.t 20)]),Qo 22 (.bo .lss (.t 21) (.c (.int .i64 0)))] [1,2,3,22]) (.cd (.t 22) (.sq (.rg none [Mv 23 3,Qo 24 (.nc (.t 23)),Qo 25 (.ld none (.t 24)),Qo 26 (.bo .add (.t 25) (.c (.int .i64 1))),Qo 27 (.nc (.t 23)),Eo (.st 1 (.t 27) (.t 26))] [1,2]) (.sq (.rg none [Mv 28 2,Mv 29 1,Mv 10 28,Mv 11 29] [10,11]) .rt)) .sk)) (.sq (.rg none [Mv 30 1,Mv 31 2,Mv 10 30,Mv 11 31] [10,11]) .rt))),np:=5,res:=[.t 10,.t 11],mode:=.shr }
def T:FI.Tab:=[(5,.fn c5),(6,.fn c6),(8,.fn c8),(9,.mr c9),(10,.fn c10),(12,.fn c12),(13,.fn c13),(14,.fn c14),(15,.fn c15),(16,.fn c16),(17,.fn c17),(18,.fn c18),(20,.fn c20),(21,.fn c21),(22,.fn c22),(25,.fn c25),(26,.fn c26),(27,.fn c27),(28,.fn c28),(29,.fn c29),(30,.fn c30),(31,.fn c31),(32,.fn c32),(33,.fn c33),(34,.fn c34),(35,.fn c35),(36,.fn c36),(37,.fn c37),(38,.fn c38),(39,.fn c39),(40,.fn c40),(41,.fn c41),(42,.fn c42),(43,.fn c43),(44,.fn c44),(45,.fn c45),(46,.fn c46),(47,.fn c47),(48,.fn c48),(49,.fn c49),(50,.fn c50),(51,.fn c51),(52,.fn c52),(53,.fn c53),(54,.fn c54),(55,.fn c55),(56,.fn c56),(57,.fn c57),(58,.fn c58),(59,.fn c59),(60,.fn c60),(61,.fn c61),(62,.fn c62),(63,.fn c63),(64,.fn c64),(65,.fn c65),(66,.fn c66),(67,.fn c67),(68,.fn c68),(69,.fn c69),(70,.fn c70),(71,.fn c71),(72,.fn c72),(73,.fn c73),(74,.fn c74),(75,.fn c75),(76,.fn c76),(77,.fn c77),(78,.fn c78),(79,.fn c79),(80,.fn c80),(81,.fn c81),(82,.fn c82),(83,.fn c83),(84,.fn c84),(85,.fn c85),(86,.fn c86),(88,.fn c88),(89,.fn c89),(90,.fn c90),(91,.fn c91),(92,.fn c92),(93,.fn c93),(94,.fn c94),(95,.fn c95),(96,.fn c96),(97,.fn c97),(98,.fn c98),(99,.fn c99),(100,.fn c100),(101,.fn c101),(102,.fn c102),(103,.fn c103),(104,.fn c104),(105,.fn c105),(106,.fn c106),(1001000,.rd r1001000),(1002800,.rd r1002800),(1002900,.rd r1002900),(1005200,.rd r1005200)]
def glf (k:Nat) (cs:List FV):Bool:=(k == 1 && eqvs cs gl1)
theorem glfp (k:Nat) (cs:List FV) (h:glf k cs=true):pures cs=true:=by
 unfold glf at h
 simp only [Bool.or_eq_true,Bool.and_eq_true] at h
 rcases h with ⟨_,h⟩
 ·rw [eqvs_eq h];rfl
@[reducible] def sys0:FI.Sys:=⟨glf,fun _ _ _=>False,glfp⟩
instance sys:FI.Sys:=⟨glf,@RkOf sys0 Tryd.prog (cmOf T) (rdOf T),glfp⟩
theorem mix:Tryd.prog.follows .mixedOrders=true:=by kernel_rfl
theorem ok5:okFn Tryd.prog (cmOf T) (rdOf T) 5 c5=true:=by kernel_rfl
theorem ok6:okFn Tryd.prog (cmOf T) (rdOf T) 6 c6=true:=by kernel_rfl
theorem ok8:okFn Tryd.prog (cmOf T) (rdOf T) 8 c8=true:=by kernel_rfl
theorem ok9:okMr Tryd.prog (cmOf T) (rdOf T) 9 c9=true:=by kernel_rfl
theorem ok10:okFn Tryd.prog (cmOf T) (rdOf T) 10 c10=true:=by kernel_rfl
theorem ok12:okFn Tryd.prog (cmOf T) (rdOf T) 12 c12=true:=by kernel_rfl
theorem ok13:okFn Tryd.prog (cmOf T) (rdOf T) 13 c13=true:=by kernel_rfl
theorem ok14:okFn Tryd.prog (cmOf T) (rdOf T) 14 c14=true:=by kernel_rfl
theorem ok15:okFn Tryd.prog (cmOf T) (rdOf T) 15 c15=true:=by kernel_rfl
theorem ok16:okFn Tryd.prog (cmOf T) (rdOf T) 16 c16=true:=by kernel_rfl
theorem ok17:okFn Tryd.prog (cmOf T) (rdOf T) 17 c17=true:=by kernel_rfl
theorem ok18:okFn Tryd.prog (cmOf T) (rdOf T) 18 c18=true:=by kernel_rfl
theorem ok20:okFn Tryd.prog (cmOf T) (rdOf T) 20 c20=true:=by kernel_rfl
theorem ok21:okFn Tryd.prog (cmOf T) (rdOf T) 21 c21=true:=by kernel_rfl
theorem ok22:okFn Tryd.prog (cmOf T) (rdOf T) 22 c22=true:=by kernel_rfl
theorem ok25:okFn Tryd.prog (cmOf T) (rdOf T) 25 c25=true:=by kernel_rfl
theorem ok26:okFn Tryd.prog (cmOf T) (rdOf T) 26 c26=true:=by kernel_rfl
theorem ok27:okFn Tryd.prog (cmOf T) (rdOf T) 27 c27=true:=by kernel_rfl
theorem ok28:okFn Tryd.prog (cmOf T) (rdOf T) 28 c28=true:=by kernel_rfl
theorem ok29:okFn Tryd.prog (cmOf T) (rdOf T) 29 c29=true:=by kernel_rfl
theorem ok30:okFn Tryd.prog (cmOf T) (rdOf T) 30 c30=true:=by kernel_rfl
theorem ok31:okFn Tryd.prog (cmOf T) (rdOf T) 31 c31=true:=by kernel_rfl
theorem ok32:okFn Tryd.prog (cmOf T) (rdOf T) 32 c32=true:=by kernel_rfl
theorem ok33:okFn Tryd.prog (cmOf T) (rdOf T) 33 c33=true:=by kernel_rfl
theorem ok34:okFn Tryd.prog (cmOf T) (rdOf T) 34 c34=true:=by kernel_rfl
theorem ok35:okFn Tryd.prog (cmOf T) (rdOf T) 35 c35=true:=by kernel_rfl
theorem ok36:okFn Tryd.prog (cmOf T) (rdOf T) 36 c36=true:=by kernel_rfl
theorem ok37:okFn Tryd.prog (cmOf T) (rdOf T) 37 c37=true:=by kernel_rfl
theorem ok38:okFn Tryd.prog (cmOf T) (rdOf T) 38 c38=true:=by kernel_rfl
theorem ok39:okFn Tryd.prog (cmOf T) (rdOf T) 39 c39=true:=by kernel_rfl
theorem ok40:okFn Tryd.prog (cmOf T) (rdOf T) 40 c40=true:=by kernel_rfl
theorem ok41:okFn Tryd.prog (cmOf T) (rdOf T) 41 c41=true:=by kernel_rfl
theorem ok42:okFn Tryd.prog (cmOf T) (rdOf T) 42 c42=true:=by kernel_rfl
theorem ok43:okFn Tryd.prog (cmOf T) (rdOf T) 43 c43=true:=by kernel_rfl
theorem ok44:okFn Tryd.prog (cmOf T) (rdOf T) 44 c44=true:=by kernel_rfl
theorem ok45:okFn Tryd.prog (cmOf T) (rdOf T) 45 c45=true:=by kernel_rfl
theorem ok46:okFn Tryd.prog (cmOf T) (rdOf T) 46 c46=true:=by kernel_rfl
theorem ok47:okFn Tryd.prog (cmOf T) (rdOf T) 47 c47=true:=by kernel_rfl
theorem ok48:okFn Tryd.prog (cmOf T) (rdOf T) 48 c48=true:=by kernel_rfl
theorem ok49:okFn Tryd.prog (cmOf T) (rdOf T) 49 c49=true:=by kernel_rfl
theorem ok50:okFn Tryd.prog (cmOf T) (rdOf T) 50 c50=true:=by kernel_rfl
theorem ok51:okFn Tryd.prog (cmOf T) (rdOf T) 51 c51=true:=by kernel_rfl
theorem ok52:okFn Tryd.prog (cmOf T) (rdOf T) 52 c52=true:=by kernel_rfl
theorem ok53:okFn Tryd.prog (cmOf T) (rdOf T) 53 c53=true:=by kernel_rfl
theorem ok54:okFn Tryd.prog (cmOf T) (rdOf T) 54 c54=true:=by kernel_rfl
theorem ok55:okFn Tryd.prog (cmOf T) (rdOf T) 55 c55=true:=by kernel_rfl
theorem ok56:okFn Tryd.prog (cmOf T) (rdOf T) 56 c56=true:=by kernel_rfl
theorem ok57:okFn Tryd.prog (cmOf T) (rdOf T) 57 c57=true:=by kernel_rfl
theorem ok58:okFn Tryd.prog (cmOf T) (rdOf T) 58 c58=true:=by kernel_rfl
theorem ok59:okFn Tryd.prog (cmOf T) (rdOf T) 59 c59=true:=by kernel_rfl
theorem ok60:okFn Tryd.prog (cmOf T) (rdOf T) 60 c60=true:=by kernel_rfl
theorem ok61:okFn Tryd.prog (cmOf T) (rdOf T) 61 c61=true:=by kernel_rfl
theorem ok62:okFn Tryd.prog (cmOf T) (rdOf T) 62 c62=true:=by kernel_rfl
theorem ok63:okFn Tryd.prog (cmOf T) (rdOf T) 63 c63=true:=by kernel_rfl
theorem ok64:okFn Tryd.prog (cmOf T) (rdOf T) 64 c64=true:=by kernel_rfl
theorem ok65:okFn Tryd.prog (cmOf T) (rdOf T) 65 c65=true:=by kernel_rfl
theorem ok66:okFn Tryd.prog (cmOf T) (rdOf T) 66 c66=true:=by kernel_rfl
theorem ok67:okFn Tryd.prog (cmOf T) (rdOf T) 67 c67=true:=by kernel_rfl
theorem ok68:okFn Tryd.prog (cmOf T) (rdOf T) 68 c68=true:=by kernel_rfl
theorem ok69:okFn Tryd.prog (cmOf T) (rdOf T) 69 c69=true:=by kernel_rfl
theorem ok70:okFn Tryd.prog (cmOf T) (rdOf T) 70 c70=true:=by kernel_rfl
theorem ok71:okFn Tryd.prog (cmOf T) (rdOf T) 71 c71=true:=by kernel_rfl
theorem ok72:okFn Tryd.prog (cmOf T) (rdOf T) 72 c72=true:=by kernel_rfl
theorem ok73:okFn Tryd.prog (cmOf T) (rdOf T) 73 c73=true:=by kernel_rfl
theorem ok74:okFn Tryd.prog (cmOf T) (rdOf T) 74 c74=true:=by kernel_rfl
theorem ok75:okFn Tryd.prog (cmOf T) (rdOf T) 75 c75=true:=by kernel_rfl
theorem ok76:okFn Tryd.prog (cmOf T) (rdOf T) 76 c76=true:=by kernel_rfl
theorem ok77:okFn Tryd.prog (cmOf T) (rdOf T) 77 c77=true:=by kernel_rfl
theorem ok78:okFn Tryd.prog (cmOf T) (rdOf T) 78 c78=true:=by kernel_rfl
theorem ok79:okFn Tryd.prog (cmOf T) (rdOf T) 79 c79=true:=by kernel_rfl
theorem ok80:okFn Tryd.prog (cmOf T) (rdOf T) 80 c80=true:=by kernel_rfl
theorem ok81:okFn Tryd.prog (cmOf T) (rdOf T) 81 c81=true:=by kernel_rfl
theorem ok82:okFn Tryd.prog (cmOf T) (rdOf T) 82 c82=true:=by kernel_rfl
theorem ok83:okFn Tryd.prog (cmOf T) (rdOf T) 83 c83=true:=by kernel_rfl
theorem ok84:okFn Tryd.prog (cmOf T) (rdOf T) 84 c84=true:=by kernel_rfl
theorem ok85:okFn Tryd.prog (cmOf T) (rdOf T) 85 c85=true:=by kernel_rfl
theorem ok86:okFn Tryd.prog (cmOf T) (rdOf T) 86 c86=true:=by kernel_rfl
theorem ok88:okFn Tryd.prog (cmOf T) (rdOf T) 88 c88=true:=by kernel_rfl
theorem ok89:okFn Tryd.prog (cmOf T) (rdOf T) 89 c89=true:=by kernel_rfl
theorem ok90:okFn Tryd.prog (cmOf T) (rdOf T) 90 c90=true:=by kernel_rfl
theorem ok91:okFn Tryd.prog (cmOf T) (rdOf T) 91 c91=true:=by kernel_rfl
theorem ok92:okFn Tryd.prog (cmOf T) (rdOf T) 92 c92=true:=by kernel_rfl
theorem ok93:okFn Tryd.prog (cmOf T) (rdOf T) 93 c93=true:=by kernel_rfl
theorem ok94:okFn Tryd.prog (cmOf T) (rdOf T) 94 c94=true:=by kernel_rfl
theorem ok95:okFn Tryd.prog (cmOf T) (rdOf T) 95 c95=true:=by kernel_rfl
theorem ok96:okFn Tryd.prog (cmOf T) (rdOf T) 96 c96=true:=by kernel_rfl
theorem ok97:okFn Tryd.prog (cmOf T) (rdOf T) 97 c97=true:=by kernel_rfl
theorem ok98:okFn Tryd.prog (cmOf T) (rdOf T) 98 c98=true:=by kernel_rfl
theorem ok99:okFn Tryd.prog (cmOf T) (rdOf T) 99 c99=true:=by kernel_rfl
theorem ok100:okFn Tryd.prog (cmOf T) (rdOf T) 100 c100=true:=by kernel_rfl
theorem ok101:okFn Tryd.prog (cmOf T) (rdOf T) 101 c101=true:=by kernel_rfl
theorem ok102:okFn Tryd.prog (cmOf T) (rdOf T) 102 c102=true:=by kernel_rfl
theorem ok103:okFn Tryd.prog (cmOf T) (rdOf T) 103 c103=true:=by kernel_rfl
theorem ok104:okFn Tryd.prog (cmOf T) (rdOf T) 104 c104=true:=by kernel_rfl
theorem ok105:okFn Tryd.prog (cmOf T) (rdOf T) 105 c105=true:=by kernel_rfl
theorem ok106:okFn Tryd.prog (cmOf T) (rdOf T) 106 c106=true:=by kernel_rfl
theorem tab:TabOk Tryd.prog T where
 fn:=by
  intro f d h
  obtain ⟨rfl,h0⟩ | h:=tget_any h
  ·cases h0;exact ok5
  obtain ⟨rfl,h0⟩ | h:=tget_any h
  ·cases h0;exact ok6
  obtain ⟨rfl,h0⟩ | h:=tget_any h
  ·cases h0;exact ok8
  obtain ⟨_,h0⟩ | h:=tget_any h
  ·cases h0
  obtain ⟨rfl,h0⟩ | h:=tget_any h
  ·cases h0;exact ok10
  obtain ⟨rfl,h0⟩ | h:=tget_any h
  ·cases h0;exact ok12
  obtain ⟨rfl,h0⟩ | h:=tget_any h
  ·cases h0;exact ok13
  obtain ⟨rfl,h0⟩ | h:=tget_any h
  ·cases h0;exact ok14
  obtain ⟨rfl,h0⟩ | h:=tget_any h
  ·cases h0;exact ok15
  obtain ⟨rfl,h0⟩ | h:=tget_any h
  ·cases h0;exact ok16
  obtain ⟨rfl,h0⟩ | h:=tget_any h
  ·cases h0;exact ok17
  obtain ⟨rfl,h0⟩ | h:=tget_any h
  ·cases h0;exact ok18
  obtain ⟨rfl,h0⟩ | h:=tget_any h
  ·cases h0;exact ok20
  obtain ⟨rfl,h0⟩ | h:=tget_any h
  ·cases h0;exact ok21
  obtain ⟨rfl,h0⟩ | h:=tget_any h
  ·cases h0;exact ok22
  obtain ⟨rfl,h0⟩ | h:=tget_any h
  ·cases h0;exact ok25
  obtain ⟨rfl,h0⟩ | h:=tget_any h
  ·cases h0;exact ok26
  obtain ⟨rfl,h0⟩ | h:=tget_any h
  ·cases h0;exact ok27
  obtain ⟨rfl,h0⟩ | h:=tget_any h
  ·cases h0;exact ok28
  obtain ⟨rfl,h0⟩ | h:=tget_any h
  ·cases h0;exact ok29
  obtain ⟨rfl,h0⟩ | h:=tget_any h
  ·cases h0;exact ok30
  obtain ⟨rfl,h0⟩ | h:=tget_any h
  ·cases h0;exact ok31
  obtain ⟨rfl,h0⟩ | h:=tget_any h
  ·cases h0;exact ok32
  obtain ⟨rfl,h0⟩ | h:=tget_any h
  ·cases h0;exact ok33
  obtain ⟨rfl,h0⟩ | h:=tget_any h
  ·cases h0;exact ok34
  obtain ⟨rfl,h0⟩ | h:=tget_any h
  ·cases h0;exact ok35
  obtain ⟨rfl,h0⟩ | h:=tget_any h
  ·cases h0;exact ok36
  obtain ⟨rfl,h0⟩ | h:=tget_any h
  ·cases h0;exact ok37
  obtain ⟨rfl,h0⟩ | h:=tget_any h
  ·cases h0;exact ok38
  obtain ⟨rfl,h0⟩ | h:=tget_any h
  ·cases h0;exact ok39
  obtain ⟨rfl,h0⟩ | h:=tget_any h
  ·cases h0;exact ok40
  obtain ⟨rfl,h0⟩ | h:=tget_any h
  ·cases h0;exact ok41
  obtain ⟨rfl,h0⟩ | h:=tget_any h
  ·cases h0;exact ok42
  obtain ⟨rfl,h0⟩ | h:=tget_any h
  ·cases h0;exact ok43
  obtain ⟨rfl,h0⟩ | h:=tget_any h
  ·cases h0;exact ok44
  obtain ⟨rfl,h0⟩ | h:=tget_any h
  ·cases h0;exact ok45
  obtain ⟨rfl,h0⟩ | h:=tget_any h
  ·cases h0;exact ok46
  obtain ⟨rfl,h0⟩ | h:=tget_any h
  ·cases h0;exact ok47
  obtain ⟨rfl,h0⟩ | h:=tget_any h
  ·cases h0;exact ok48
  obtain ⟨rfl,h0⟩ | h:=tget_any h
  ·cases h0;exact ok49
  obtain ⟨rfl,h0⟩ | h:=tget_any h
  ·cases h0;exact ok50
  obtain ⟨rfl,h0⟩ | h:=tget_any h
  ·cases h0;exact ok51
  obtain ⟨rfl,h0⟩ | h:=tget_any h
  ·cases h0;exact ok52
  obtain ⟨rfl,h0⟩ | h:=tget_any h
  ·cases h0;exact ok53
  obtain ⟨rfl,h0⟩ | h:=tget_any h
  ·cases h0;exact ok54
  obtain ⟨rfl,h0⟩ | h:=tget_any h
  ·cases h0;exact ok55
  obtain ⟨rfl,h0⟩ | h:=tget_any h
  ·cases h0;exact ok56
  obtain ⟨rfl,h0⟩ | h:=tget_any h
  ·cases h0;exact ok57
  obtain ⟨rfl,h0⟩ | h:=tget_any h
  ·cases h0;exact ok58
  obtain ⟨rfl,h0⟩ | h:=tget_any h
  ·cases h0;exact ok59
  obtain ⟨rfl,h0⟩ | h:=tget_any h
  ·cases h0;exact ok60
  obtain ⟨rfl,h0⟩ | h:=tget_any h
  ·cases h0;exact ok61
  obtain ⟨rfl,h0⟩ | h:=tget_any h
  ·cases h0;exact ok62
  obtain ⟨rfl,h0⟩ | h:=tget_any h
  ·cases h0;exact ok63
  obtain ⟨rfl,h0⟩ | h:=tget_any h
  ·cases h0;exact ok64
  obtain ⟨rfl,h0⟩ | h:=tget_any h
  ·cases h0;exact ok65
  obtain ⟨rfl,h0⟩ | h:=tget_any h
  ·cases h0;exact ok66
  obtain ⟨rfl,h0⟩ | h:=tget_any h
  ·cases h0;exact ok67
  obtain ⟨rfl,h0⟩ | h:=tget_any h
  ·cases h0;exact ok68
  obtain ⟨rfl,h0⟩ | h:=tget_any h
  ·cases h0;exact ok69
  obtain ⟨rfl,h0⟩ | h:=tget_any h
  ·cases h0;exact ok70
  obtain ⟨rfl,h0⟩ | h:=tget_any h
  ·cases h0;exact ok71
  obtain ⟨rfl,h0⟩ | h:=tget_any h
  ·cases h0;exact ok72
  obtain ⟨rfl,h0⟩ | h:=tget_any h
  ·cases h0;exact ok73
  obtain ⟨rfl,h0⟩ | h:=tget_any h
  ·cases h0;exact ok74
  obtain ⟨rfl,h0⟩ | h:=tget_any h
  ·cases h0;exact ok75
  obtain ⟨rfl,h0⟩ | h:=tget_any h
  ·cases h0;exact ok76
  obtain ⟨rfl,h0⟩ | h:=tget_any h
  ·cases h0;exact ok77
  obtain ⟨rfl,h0⟩ | h:=tget_any h
  ·cases h0;exact ok78
  obtain ⟨rfl,h0⟩ | h:=tget_any h
  ·cases h0;exact ok79
  obtain ⟨rfl,h0⟩ | h:=tget_any h
  ·cases h0;exact ok80
  obtain ⟨rfl,h0⟩ | h:=tget_any h
  ·cases h0;exact ok81
  obtain ⟨rfl,h0⟩ | h:=tget_any h
  ·cases h0;exact ok82
  obtain ⟨rfl,h0⟩ | h:=tget_any h
  ·cases h0;exact ok83
  obtain ⟨rfl,h0⟩ | h:=tget_any h
  ·cases h0;exact ok84
  obtain ⟨rfl,h0⟩ | h:=tget_any h
  ·cases h0;exact ok85
  obtain ⟨rfl,h0⟩ | h:=tget_any h
  ·cases h0;exact ok86
  obtain ⟨rfl,h0⟩ | h:=tget_any h
  ·cases h0;exact ok88
  obtain ⟨rfl,h0⟩ | h:=tget_any h
  ·cases h0;exact ok89
  obtain ⟨rfl,h0⟩ | h:=tget_any h
  ·cases h0;exact ok90
  obtain ⟨rfl,h0⟩ | h:=tget_any h
  ·cases h0;exact ok91
  obtain ⟨rfl,h0⟩ | h:=tget_any h
  ·cases h0;exact ok92
  obtain ⟨rfl,h0⟩ | h:=tget_any h
  ·cases h0;exact ok93
  obtain ⟨rfl,h0⟩ | h:=tget_any h
  ·cases h0;exact ok94
  obtain ⟨rfl,h0⟩ | h:=tget_any h
  ·cases h0;exact ok95
  obtain ⟨rfl,h0⟩ | h:=tget_any h
  ·cases h0;exact ok96
  obtain ⟨rfl,h0⟩ | h:=tget_any h
  ·cases h0;exact ok97
  obtain ⟨rfl,h0⟩ | h:=tget_any h
  ·cases h0;exact ok98
  obtain ⟨rfl,h0⟩ | h:=tget_any h
  ·cases h0;exact ok99
  obtain ⟨rfl,h0⟩ | h:=tget_any h
  ·cases h0;exact ok100
  obtain ⟨rfl,h0⟩ | h:=tget_any h
  ·cases h0;exact ok101
  obtain ⟨rfl,h0⟩ | h:=tget_any h
  ·cases h0;exact ok102
  obtain ⟨rfl,h0⟩ | h:=tget_any h
  ·cases h0;exact ok103
  obtain ⟨rfl,h0⟩ | h:=tget_any h
  ·cases h0;exact ok104
  obtain ⟨rfl,h0⟩ | h:=tget_any h
  ·cases h0;exact ok105
  obtain ⟨rfl,h0⟩ | h:=tget_any h
  ·cases h0;exact ok106
  obtain ⟨_,h0⟩ | h:=tget_any h
  ·cases h0
  obtain ⟨_,h0⟩ | h:=tget_any h
  ·cases h0
  obtain ⟨_,h0⟩ | h:=tget_any h
  ·cases h0
  obtain ⟨_,h0⟩ | h:=tget_any h
  ·cases h0
  cases h
 ext:=by
  intro f d h
  obtain ⟨_,h0⟩ | h:=tget_any h
  ·cases h0
  obtain ⟨_,h0⟩ | h:=tget_any h
  ·cases h0
  obtain ⟨_,h0⟩ | h:=tget_any h
  ·cases h0
  obtain ⟨_,h0⟩ | h:=tget_any h
  ·cases h0
  obtain ⟨_,h0⟩ | h:=tget_any h
  ·cases h0
  obtain ⟨_,h0⟩ | h:=tget_any h
  ·cases h0
  obtain ⟨_,h0⟩ | h:=tget_any h
  ·cases h0
  obtain ⟨_,h0⟩ | h:=tget_any h
  ·cases h0
  obtain ⟨_,h0⟩ | h:=tget_any h
  ·cases h0
  obtain ⟨_,h0⟩ | h:=tget_any h
  ·cases h0
  obtain ⟨_,h0⟩ | h:=tget_any h
  ·cases h0
  obtain ⟨_,h0⟩ | h:=tget_any h
  ·cases h0
  obtain ⟨_,h0⟩ | h:=tget_any h
  ·cases h0
  obtain ⟨_,h0⟩ | h:=tget_any h
  ·cases h0
  obtain ⟨_,h0⟩ | h:=tget_any h
  ·cases h0
  obtain ⟨_,h0⟩ | h:=tget_any h
  ·cases h0
  obtain ⟨_,h0⟩ | h:=tget_any h
  ·cases h0
  obtain ⟨_,h0⟩ | h:=tget_any h
  ·cases h0
  obtain ⟨_,h0⟩ | h:=tget_any h
  ·cases h0
  obtain ⟨_,h0⟩ | h:=tget_any h
  ·cases h0
  obtain ⟨_,h0⟩ | h:=tget_any h
  ·cases h0
  obtain ⟨_,h0⟩ | h:=tget_any h
  ·cases h0
  obtain ⟨_,h0⟩ | h:=tget_any h
  ·cases h0
  obtain ⟨_,h0⟩ | h:=tget_any h
  ·cases h0
  obtain ⟨_,h0⟩ | h:=tget_any h
  ·cases h0
  obtain ⟨_,h0⟩ | h:=tget_any h
  ·cases h0
  obtain ⟨_,h0⟩ | h:=tget_any h
  ·cases h0
  obtain ⟨_,h0⟩ | h:=tget_any h
  ·cases h0
  obtain ⟨_,h0⟩ | h:=tget_any h
  ·cases h0
  obtain ⟨_,h0⟩ | h:=tget_any h
  ·cases h0
  obtain ⟨_,h0⟩ | h:=tget_any h
  ·cases h0
  obtain ⟨_,h0⟩ | h:=tget_any h
  ·cases h0
  obtain ⟨_,h0⟩ | h:=tget_any h
  ·cases h0
  obtain ⟨_,h0⟩ | h:=tget_any h
  ·cases h0
  obtain ⟨_,h0⟩ | h:=tget_any h
  ·cases h0
  obtain ⟨_,h0⟩ | h:=tget_any h
  ·cases h0
  obtain ⟨_,h0⟩ | h:=tget_any h
  ·cases h0
  obtain ⟨_,h0⟩ | h:=tget_any h
  ·cases h0
  obtain ⟨_,h0⟩ | h:=tget_any h
  ·cases h0
  obtain ⟨_,h0⟩ | h:=tget_any h
  ·cases h0
  obtain ⟨_,h0⟩ | h:=tget_any h
  ·cases h0
  obtain ⟨_,h0⟩ | h:=tget_any h
  ·cases h0
  obtain ⟨_,h0⟩ | h:=tget_any h
  ·cases h0
  obtain ⟨_,h0⟩ | h:=tget_any h
  ·cases h0
  obtain ⟨_,h0⟩ | h:=tget_any h
  ·cases h0
  obtain ⟨_,h0⟩ | h:=tget_any h
  ·cases h0
  obtain ⟨_,h0⟩ | h:=tget_any h
  ·cases h0
  obtain ⟨_,h0⟩ | h:=tget_any h
  ·cases h0
  obtain ⟨_,h0⟩ | h:=tget_any h
  ·cases h0
  obtain ⟨_,h0⟩ | h:=tget_any h
  ·cases h0
  obtain ⟨_,h0⟩ | h:=tget_any h
  ·cases h0
  obtain ⟨_,h0⟩ | h:=tget_any h
  ·cases h0
  obtain ⟨_,h0⟩ | h:=tget_any h
  ·cases h0
  obtain ⟨_,h0⟩ | h:=tget_any h
  ·cases h0
  obtain ⟨_,h0⟩ | h:=tget_any h
  ·cases h0
  obtain ⟨_,h0⟩ | h:=tget_any h
  ·cases h0
  obtain ⟨_,h0⟩ | h:=tget_any h
  ·cases h0
  obtain ⟨_,h0⟩ | h:=tget_any h
  ·cases h0
  obtain ⟨_,h0⟩ | h:=tget_any h
  ·cases h0
  obtain ⟨_,h0⟩ | h:=tget_any h
  ·cases h0
  obtain ⟨_,h0⟩ | h:=tget_any h
  ·cases h0
  obtain ⟨_,h0⟩ | h:=tget_any h
  ·cases h0
  obtain ⟨_,h0⟩ | h:=tget_any h
  ·cases h0
  obtain ⟨_,h0⟩ | h:=tget_any h
  ·cases h0
  obtain ⟨_,h0⟩ | h:=tget_any h
  ·cases h0
  obtain ⟨_,h0⟩ | h:=tget_any h
  ·cases h0
  obtain ⟨_,h0⟩ | h:=tget_any h
  ·cases h0
  obtain ⟨_,h0⟩ | h:=tget_any h
  ·cases h0
  obtain ⟨_,h0⟩ | h:=tget_any h
  ·cases h0
  obtain ⟨_,h0⟩ | h:=tget_any h
  ·cases h0
  obtain ⟨_,h0⟩ | h:=tget_any h
  ·cases h0
  obtain ⟨_,h0⟩ | h:=tget_any h
  ·cases h0
  obtain ⟨_,h0⟩ | h:=tget_any h
  ·cases h0
  obtain ⟨_,h0⟩ | h:=tget_any h
  ·cases h0
  obtain ⟨_,h0⟩ | h:=tget_any h
  ·cases h0
  obtain ⟨_,h0⟩ | h:=tget_any h
  ·cases h0
  obtain ⟨_,h0⟩ | h:=tget_any h
  ·cases h0
  obtain ⟨_,h0⟩ | h:=tget_any h
  ·cases h0
  obtain ⟨_,h0⟩ | h:=tget_any h
  ·cases h0
  obtain ⟨_,h0⟩ | h:=tget_any h
  ·cases h0
  obtain ⟨_,h0⟩ | h:=tget_any h
  ·cases h0
  obtain ⟨_,h0⟩ | h:=tget_any h
  ·cases h0
  obtain ⟨_,h0⟩ | h:=tget_any h
  ·cases h0
  obtain ⟨_,h0⟩ | h:=tget_any h
  ·cases h0
  obtain ⟨_,h0⟩ | h:=tget_any h
  ·cases h0
  obtain ⟨_,h0⟩ | h:=tget_any h
  ·cases h0
  obtain ⟨_,h0⟩ | h:=tget_any h
  ·cases h0
  obtain ⟨_,h0⟩ | h:=tget_any h
  ·cases h0
  obtain ⟨_,h0⟩ | h:=tget_any h
  ·cases h0
  obtain ⟨_,h0⟩ | h:=tget_any h
  ·cases h0
  obtain ⟨_,h0⟩ | h:=tget_any h
  ·cases h0
  obtain ⟨_,h0⟩ | h:=tget_any h
  ·cases h0
  obtain ⟨_,h0⟩ | h:=tget_any h
  ·cases h0
  obtain ⟨_,h0⟩ | h:=tget_any h
  ·cases h0
  obtain ⟨_,h0⟩ | h:=tget_any h
  ·cases h0
  obtain ⟨_,h0⟩ | h:=tget_any h
  ·cases h0
  obtain ⟨_,h0⟩ | h:=tget_any h
  ·cases h0
  obtain ⟨_,h0⟩ | h:=tget_any h
  ·cases h0
  obtain ⟨_,h0⟩ | h:=tget_any h
  ·cases h0
  obtain ⟨_,h0⟩ | h:=tget_any h
  ·cases h0
  cases h
 ct:=by
  intro f d h
  obtain ⟨_,h0⟩ | h:=tget_any h
  ·cases h0
  obtain ⟨_,h0⟩ | h:=tget_any h
  ·cases h0
  obtain ⟨_,h0⟩ | h:=tget_any h
  ·cases h0
  obtain ⟨_,h0⟩ | h:=tget_any h
  ·cases h0
  obtain ⟨_,h0⟩ | h:=tget_any h
  ·cases h0
  obtain ⟨_,h0⟩ | h:=tget_any h
  ·cases h0
  obtain ⟨_,h0⟩ | h:=tget_any h
  ·cases h0
  obtain ⟨_,h0⟩ | h:=tget_any h
  ·cases h0
  obtain ⟨_,h0⟩ | h:=tget_any h
  ·cases h0
  obtain ⟨_,h0⟩ | h:=tget_any h
  ·cases h0
  obtain ⟨_,h0⟩ | h:=tget_any h
  ·cases h0
  obtain ⟨_,h0⟩ | h:=tget_any h
  ·cases h0
  obtain ⟨_,h0⟩ | h:=tget_any h
  ·cases h0
  obtain ⟨_,h0⟩ | h:=tget_any h
  ·cases h0
  obtain ⟨_,h0⟩ | h:=tget_any h
  ·cases h0
  obtain ⟨_,h0⟩ | h:=tget_any h
  ·cases h0
  obtain ⟨_,h0⟩ | h:=tget_any h
  ·cases h0
  obtain ⟨_,h0⟩ | h:=tget_any h
  ·cases h0
  obtain ⟨_,h0⟩ | h:=tget_any h
  ·cases h0
  obtain ⟨_,h0⟩ | h:=tget_any h
  ·cases h0
  obtain ⟨_,h0⟩ | h:=tget_any h
  ·cases h0
  obtain ⟨_,h0⟩ | h:=tget_any h
  ·cases h0
  obtain ⟨_,h0⟩ | h:=tget_any h
  ·cases h0
  obtain ⟨_,h0⟩ | h:=tget_any h
  ·cases h0
  obtain ⟨_,h0⟩ | h:=tget_any h
  ·cases h0
  obtain ⟨_,h0⟩ | h:=tget_any h
  ·cases h0
  obtain ⟨_,h0⟩ | h:=tget_any h
  ·cases h0
  obtain ⟨_,h0⟩ | h:=tget_any h
  ·cases h0
  obtain ⟨_,h0⟩ | h:=tget_any h
  ·cases h0
  obtain ⟨_,h0⟩ | h:=tget_any h
  ·cases h0
  obtain ⟨_,h0⟩ | h:=tget_any h
  ·cases h0
  obtain ⟨_,h0⟩ | h:=tget_any h
  ·cases h0
  obtain ⟨_,h0⟩ | h:=tget_any h
  ·cases h0
  obtain ⟨_,h0⟩ | h:=tget_any h
  ·cases h0
  obtain ⟨_,h0⟩ | h:=tget_any h
  ·cases h0
  obtain ⟨_,h0⟩ | h:=tget_any h
  ·cases h0
  obtain ⟨_,h0⟩ | h:=tget_any h
  ·cases h0
  obtain ⟨_,h0⟩ | h:=tget_any h
  ·cases h0
  obtain ⟨_,h0⟩ | h:=tget_any h
  ·cases h0
  obtain ⟨_,h0⟩ | h:=tget_any h
  ·cases h0
  obtain ⟨_,h0⟩ | h:=tget_any h
  ·cases h0
  obtain ⟨_,h0⟩ | h:=tget_any h
  ·cases h0
  obtain ⟨_,h0⟩ | h:=tget_any h
  ·cases h0
  obtain ⟨_,h0⟩ | h:=tget_any h
  ·cases h0
  obtain ⟨_,h0⟩ | h:=tget_any h
  ·cases h0
  obtain ⟨_,h0⟩ | h:=tget_any h
  ·cases h0
  obtain ⟨_,h0⟩ | h:=tget_any h
  ·cases h0
  obtain ⟨_,h0⟩ | h:=tget_any h
  ·cases h0
  obtain ⟨_,h0⟩ | h:=tget_any h
  ·cases h0
  obtain ⟨_,h0⟩ | h:=tget_any h
  ·cases h0
  obtain ⟨_,h0⟩ | h:=tget_any h
  ·cases h0
  obtain ⟨_,h0⟩ | h:=tget_any h
  ·cases h0
  obtain ⟨_,h0⟩ | h:=tget_any h
  ·cases h0
  obtain ⟨_,h0⟩ | h:=tget_any h
  ·cases h0
  obtain ⟨_,h0⟩ | h:=tget_any h
  ·cases h0
  obtain ⟨_,h0⟩ | h:=tget_any h
  ·cases h0
  obtain ⟨_,h0⟩ | h:=tget_any h
  ·cases h0
  obtain ⟨_,h0⟩ | h:=tget_any h
  ·cases h0
  obtain ⟨_,h0⟩ | h:=tget_any h
  ·cases h0
  obtain ⟨_,h0⟩ | h:=tget_any h
  ·cases h0
  obtain ⟨_,h0⟩ | h:=tget_any h
  ·cases h0
  obtain ⟨_,h0⟩ | h:=tget_any h
  ·cases h0
  obtain ⟨_,h0⟩ | h:=tget_any h
  ·cases h0
  obtain ⟨_,h0⟩ | h:=tget_any h
  ·cases h0
  obtain ⟨_,h0⟩ | h:=tget_any h
  ·cases h0
  obtain ⟨_,h0⟩ | h:=tget_any h
  ·cases h0
  obtain ⟨_,h0⟩ | h:=tget_any h
  ·cases h0
  obtain ⟨_,h0⟩ | h:=tget_any h
  ·cases h0
  obtain ⟨_,h0⟩ | h:=tget_any h
  ·cases h0
  obtain ⟨_,h0⟩ | h:=tget_any h
  ·cases h0
  obtain ⟨_,h0⟩ | h:=tget_any h
  ·cases h0
  obtain ⟨_,h0⟩ | h:=tget_any h
  ·cases h0
  obtain ⟨_,h0⟩ | h:=tget_any h
  ·cases h0
  obtain ⟨_,h0⟩ | h:=tget_any h
  ·cases h0
  obtain ⟨_,h0⟩ | h:=tget_any h
  ·cases h0
  obtain ⟨_,h0⟩ | h:=tget_any h
  ·cases h0
  obtain ⟨_,h0⟩ | h:=tget_any h
  ·cases h0
  obtain ⟨_,h0⟩ | h:=tget_any h
  ·cases h0
  obtain ⟨_,h0⟩ | h:=tget_any h
  ·cases h0
  obtain ⟨_,h0⟩ | h:=tget_any h
  ·cases h0
  obtain ⟨_,h0⟩ | h:=tget_any h
  ·cases h0
  obtain ⟨_,h0⟩ | h:=tget_any h
  ·cases h0
  obtain ⟨_,h0⟩ | h:=tget_any h
  ·cases h0
  obtain ⟨_,h0⟩ | h:=tget_any h
  ·cases h0
  obtain ⟨_,h0⟩ | h:=tget_any h
  ·cases h0
  obtain ⟨_,h0⟩ | h:=tget_any h
  ·cases h0
  obtain ⟨_,h0⟩ | h:=tget_any h
  ·cases h0
  obtain ⟨_,h0⟩ | h:=tget_any h
  ·cases h0
  obtain ⟨_,h0⟩ | h:=tget_any h
  ·cases h0
  obtain ⟨_,h0⟩ | h:=tget_any h
  ·cases h0
  obtain ⟨_,h0⟩ | h:=tget_any h
  ·cases h0
  obtain ⟨_,h0⟩ | h:=tget_any h
  ·cases h0
  obtain ⟨_,h0⟩ | h:=tget_any h
  ·cases h0
  obtain ⟨_,h0⟩ | h:=tget_any h
  ·cases h0
  obtain ⟨_,h0⟩ | h:=tget_any h
  ·cases h0
  obtain ⟨_,h0⟩ | h:=tget_any h
  ·cases h0
  obtain ⟨_,h0⟩ | h:=tget_any h
  ·cases h0
  obtain ⟨_,h0⟩ | h:=tget_any h
  ·cases h0
  obtain ⟨_,h0⟩ | h:=tget_any h
  ·cases h0
  obtain ⟨_,h0⟩ | h:=tget_any h
  ·cases h0
  cases h
 mr:=by
  intro f d h
  obtain ⟨_,h0⟩ | h:=tget_any h
  ·cases h0
  obtain ⟨_,h0⟩ | h:=tget_any h
  ·cases h0
  obtain ⟨_,h0⟩ | h:=tget_any h
  ·cases h0
  obtain ⟨rfl,h0⟩ | h:=tget_any h
  ·cases h0;exact ok9
  obtain ⟨_,h0⟩ | h:=tget_any h
  ·cases h0
  obtain ⟨_,h0⟩ | h:=tget_any h
  ·cases h0
  obtain ⟨_,h0⟩ | h:=tget_any h
  ·cases h0
  obtain ⟨_,h0⟩ | h:=tget_any h
  ·cases h0
  obtain ⟨_,h0⟩ | h:=tget_any h
  ·cases h0
  obtain ⟨_,h0⟩ | h:=tget_any h
  ·cases h0
  obtain ⟨_,h0⟩ | h:=tget_any h
  ·cases h0
  obtain ⟨_,h0⟩ | h:=tget_any h
  ·cases h0
  obtain ⟨_,h0⟩ | h:=tget_any h
  ·cases h0
  obtain ⟨_,h0⟩ | h:=tget_any h
  ·cases h0
  obtain ⟨_,h0⟩ | h:=tget_any h
  ·cases h0
  obtain ⟨_,h0⟩ | h:=tget_any h
  ·cases h0
  obtain ⟨_,h0⟩ | h:=tget_any h
  ·cases h0
  obtain ⟨_,h0⟩ | h:=tget_any h
  ·cases h0
  obtain ⟨_,h0⟩ | h:=tget_any h
  ·cases h0
  obtain ⟨_,h0⟩ | h:=tget_any h
  ·cases h0
  obtain ⟨_,h0⟩ | h:=tget_any h
  ·cases h0
  obtain ⟨_,h0⟩ | h:=tget_any h
  ·cases h0
  obtain ⟨_,h0⟩ | h:=tget_any h
  ·cases h0
  obtain ⟨_,h0⟩ | h:=tget_any h
  ·cases h0
  obtain ⟨_,h0⟩ | h:=tget_any h
  ·cases h0
  obtain ⟨_,h0⟩ | h:=tget_any h
  ·cases h0
  obtain ⟨_,h0⟩ | h:=tget_any h
  ·cases h0
  obtain ⟨_,h0⟩ | h:=tget_any h
  ·cases h0
  obtain ⟨_,h0⟩ | h:=tget_any h
  ·cases h0
  obtain ⟨_,h0⟩ | h:=tget_any h
  ·cases h0
  obtain ⟨_,h0⟩ | h:=tget_any h
  ·cases h0
  obtain ⟨_,h0⟩ | h:=tget_any h
  ·cases h0
  obtain ⟨_,h0⟩ | h:=tget_any h
  ·cases h0
  obtain ⟨_,h0⟩ | h:=tget_any h
  ·cases h0
  obtain ⟨_,h0⟩ | h:=tget_any h
  ·cases h0
  obtain ⟨_,h0⟩ | h:=tget_any h
  ·cases h0
  obtain ⟨_,h0⟩ | h:=tget_any h
  ·cases h0
  obtain ⟨_,h0⟩ | h:=tget_any h
  ·cases h0
  obtain ⟨_,h0⟩ | h:=tget_any h
  ·cases h0
  obtain ⟨_,h0⟩ | h:=tget_any h
  ·cases h0
  obtain ⟨_,h0⟩ | h:=tget_any h
  ·cases h0
  obtain ⟨_,h0⟩ | h:=tget_any h
  ·cases h0
  obtain ⟨_,h0⟩ | h:=tget_any h
  ·cases h0
  obtain ⟨_,h0⟩ | h:=tget_any h
  ·cases h0
  obtain ⟨_,h0⟩ | h:=tget_any h
  ·cases h0
  obtain ⟨_,h0⟩ | h:=tget_any h
  ·cases h0
  obtain ⟨_,h0⟩ | h:=tget_any h
  ·cases h0
  obtain ⟨_,h0⟩ | h:=tget_any h
  ·cases h0
  obtain ⟨_,h0⟩ | h:=tget_any h
  ·cases h0
  obtain ⟨_,h0⟩ | h:=tget_any h
  ·cases h0
  obtain ⟨_,h0⟩ | h:=tget_any h
  ·cases h0
  obtain ⟨_,h0⟩ | h:=tget_any h
  ·cases h0
  obtain ⟨_,h0⟩ | h:=tget_any h
  ·cases h0
  obtain ⟨_,h0⟩ | h:=tget_any h
  ·cases h0
  obtain ⟨_,h0⟩ | h:=tget_any h
  ·cases h0
  obtain ⟨_,h0⟩ | h:=tget_any h
  ·cases h0
  obtain ⟨_,h0⟩ | h:=tget_any h
  ·cases h0
  obtain ⟨_,h0⟩ | h:=tget_any h
  ·cases h0
  obtain ⟨_,h0⟩ | h:=tget_any h
  ·cases h0
  obtain ⟨_,h0⟩ | h:=tget_any h
  ·cases h0
  obtain ⟨_,h0⟩ | h:=tget_any h
  ·cases h0
  obtain ⟨_,h0⟩ | h:=tget_any h
  ·cases h0
  obtain ⟨_,h0⟩ | h:=tget_any h
  ·cases h0
  obtain ⟨_,h0⟩ | h:=tget_any h
  ·cases h0
  obtain ⟨_,h0⟩ | h:=tget_any h
  ·cases h0
  obtain ⟨_,h0⟩ | h:=tget_any h
  ·cases h0
  obtain ⟨_,h0⟩ | h:=tget_any h
  ·cases h0
  obtain ⟨_,h0⟩ | h:=tget_any h
  ·cases h0
  obtain ⟨_,h0⟩ | h:=tget_any h
  ·cases h0
  obtain ⟨_,h0⟩ | h:=tget_any h
  ·cases h0
  obtain ⟨_,h0⟩ | h:=tget_any h
  ·cases h0
  obtain ⟨_,h0⟩ | h:=tget_any h
  ·cases h0
  obtain ⟨_,h0⟩ | h:=tget_any h
  ·cases h0
  obtain ⟨_,h0⟩ | h:=tget_any h
  ·cases h0
  obtain ⟨_,h0⟩ | h:=tget_any h
  ·cases h0
  obtain ⟨_,h0⟩ | h:=tget_any h
  ·cases h0
  obtain ⟨_,h0⟩ | h:=tget_any h
  ·cases h0
  obtain ⟨_,h0⟩ | h:=tget_any h
  ·cases h0
  obtain ⟨_,h0⟩ | h:=tget_any h
  ·cases h0
  obtain ⟨_,h0⟩ | h:=tget_any h
  ·cases h0
  obtain ⟨_,h0⟩ | h:=tget_any h
  ·cases h0
  obtain ⟨_,h0⟩ | h:=tget_any h
  ·cases h0
  obtain ⟨_,h0⟩ | h:=tget_any h
  ·cases h0
  obtain ⟨_,h0⟩ | h:=tget_any h
  ·cases h0
  obtain ⟨_,h0⟩ | h:=tget_any h
  ·cases h0
  obtain ⟨_,h0⟩ | h:=tget_any h
  ·cases h0
  obtain ⟨_,h0⟩ | h:=tget_any h
  ·cases h0
  obtain ⟨_,h0⟩ | h:=tget_any h
  ·cases h0
  obtain ⟨_,h0⟩ | h:=tget_any h
  ·cases h0
  obtain ⟨_,h0⟩ | h:=tget_any h
  ·cases h0
  obtain ⟨_,h0⟩ | h:=tget_any h
  ·cases h0
  obtain ⟨_,h0⟩ | h:=tget_any h
  ·cases h0
  obtain ⟨_,h0⟩ | h:=tget_any h
  ·cases h0
  obtain ⟨_,h0⟩ | h:=tget_any h
  ·cases h0
  obtain ⟨_,h0⟩ | h:=tget_any h
  ·cases h0
  obtain ⟨_,h0⟩ | h:=tget_any h
  ·cases h0
  obtain ⟨_,h0⟩ | h:=tget_any h
  ·cases h0
  obtain ⟨_,h0⟩ | h:=tget_any h
  ·cases h0
  obtain ⟨_,h0⟩ | h:=tget_any h
  ·cases h0
  obtain ⟨_,h0⟩ | h:=tget_any h
  ·cases h0
  cases h
 mix:=mix
 rk:=fun f r ct=>RkOf_gl (s:=sys0) (t:=sys) rfl
theorem tg5:tget T 5=some (.fn c5):=by rfl
theorem tg6:tget T 6=some (.fn c6):=by rfl
theorem tg12:tget T 12=some (.fn c12):=by rfl
theorem tg15:tget T 15=some (.fn c15):=by rfl
theorem tg17:tget T 17=some (.fn c17):=by rfl
theorem tg20:tget T 20=some (.fn c20):=by rfl
theorem tg21:tget T 21=some (.fn c21):=by rfl
theorem tg22:tget T 22=some (.fn c22):=by rfl
theorem tg34:tget T 34=some (.fn c34):=by rfl
theorem tg35:tget T 35=some (.fn c35):=by rfl
theorem tg36:tget T 36=some (.fn c36):=by rfl
theorem tg37:tget T 37=some (.fn c37):=by rfl
theorem tg41:tget T 41=some (.fn c41):=by rfl
theorem tg42:tget T 42=some (.fn c42):=by rfl
theorem tg60:tget T 60=some (.fn c60):=by rfl
theorem tg88:tget T 88=some (.fn c88):=by rfl
end Go.Proofs.YtlcbcacnbjekpaaDoor.Fi
namespace Go.Proofs.YtlcbcacnbjekpaaDoor.Fi
open Go.FI.BC
open Go.FI
theorem d_C1 {P:Prop} (h:P:=by first|omega|(simp only[EVL]<;>omega)|(simp only[hget_c,Nat.reduceEqDiff,↓reduceIte];done)|assumption|(simp (disch:=omega) only[hg_ne,hg_eq,hgs_ne, *];done)|(simp only [LAWS];done)|with_unfolding_all rfl):P:=h
open Classical in
theorem name_loop (s:List UInt8) (h1:1 ≤ s.length) (h2:s.length ≤ 24):∀ (k i:Nat),i + k=s.length→(∀ j,j < i→okAt s j) →
  @Ok Out (runs T [.code b34_0,.inL (some 12) b34_0,.inB 0,.code k34_1] [(0,.str s),(15,.int .i64 s.length),(16,.int .i64 i)] [] 12) ⟨fun x=>resV c34.res x=some (.bool (decide (nameS s)))⟩:=by
 intro k
 induction k with
 |zero =>
  intro i hi hok
  have:¬ (i:Int) < s.length:=by omega
  simp (disch:=first | exact d_C1 | fail) only [unf b34_0.eq_1,unf k34_1.eq_1,c34,this,EVS,Nat.reduceAdd,Nat.reduceSub,Int.reduceToNat,Nat.reduceMul,Nat.reduceEqDiff,Nat.reduceLeDiff,Int.reduceEq,Int.reduceLT,Int.reduceLE,↓reduceIte]
  exact (decide_eq_true ⟨h1,h2,fun j hj=>hok j (by omega)⟩).symm
 |succ k ih =>
  intro i hi hok
  have hs:okAt s i→∀ j,j < i + 1→okAt s j:=fun ho j hj=>by
   by_cases e:j=i
   ·subst e;exact ho
   ·exact hok j (by omega)
  have:(i:Int) < s.length:=by omega
  simp (disch:=first | exact d_C1 | fail) only [unf b34_0.eq_1,c34,this,EVS,Nat.reduceAdd,Nat.reduceSub,Int.reduceToNat,Nat.reduceMul,Nat.reduceEqDiff,Nat.reduceLeDiff,Int.reduceEq,Int.reduceLT,Int.reduceLE,↓reduceIte]
  repeat' (refine Ok_if (fun hb=>?_) (fun hb=>?_)<;>have h:=hb<;>(try simp only [decide_eq_true_eq,decide_eq_false_iff_not,Int.not_lt,Int.not_le] at h)<;>(simp (disch:=first | exact d_C1 | fail) only [hb,c34,EVS,Nat.reduceAdd,Nat.reduceSub,Int.reduceToNat,Nat.reduceMul,Nat.reduceEqDiff,Nat.reduceLeDiff,Int.reduceEq,Int.reduceLT,Int.reduceLE,↓reduceIte])<;>(try clear hb))
  all_goals first
   |exact Ok_inL (by decide) (by simp [lowTm,low]) (by simp [lowHeap,cutH]) (ih (i + 1) (by omega) (hs (by unfold okAt;omega)))
   |exact (decide_eq_false fun hn=>by have:=hn.2.2 i (by omega);unfold okAt at this;omega).symm
open Classical in
theorem name_spec (s:List UInt8):∀ h nx,lim T 34 [.str s] h nx=some (.bool (decide (nameS s)),h,nx):=by
 refine lim_iso tg34 rfl rfl rfl ?_
 simp (disch:=first | exact d_C1 | fail) only [c34,EVS,Nat.reduceAdd,Nat.reduceSub,Int.reduceToNat,Nat.reduceMul,Nat.reduceEqDiff,Nat.reduceLeDiff,Int.reduceEq,Int.reduceLT,Int.reduceLE,↓reduceIte]
 repeat' (refine Ok_if (fun hb=>?_) (fun hb=>?_)<;>have h:=hb<;>(try simp only [decide_eq_true_eq,decide_eq_false_iff_not,Int.not_lt,Int.not_le] at h)<;>(simp (disch:=first | exact d_C1 | fail) only [hb,c34,EVS,Nat.reduceAdd,Nat.reduceSub,Int.reduceToNat,Nat.reduceMul,Nat.reduceEqDiff,Nat.reduceLeDiff,Int.reduceEq,Int.reduceLT,Int.reduceLE,↓reduceIte])<;>(try clear hb))
 ·exact (decide_eq_false fun hn=>by have:=hn.1;omega).symm
 ·exact (decide_eq_false fun hn=>by have:=hn.2.1;omega).symm
 ·exact name_loop s (by omega) (by omega) s.length 0 (by omega) (by omega)
theorem hasPrefix_spec (s p:List UInt8):∀ h nx,lim T 88 [.str s,.str p] h nx=some (.bool (decide (p.length ≤ s.length∧s.take p.length=p)),h,nx):=by
 refine lim_iso tg88 rfl rfl rfl ?_
 simp (disch:=first | exact d_C1 | fail) only [c88,EVS,Nat.reduceAdd,Nat.reduceSub,Int.reduceToNat,Nat.reduceMul,Nat.reduceEqDiff,Nat.reduceLeDiff,Int.reduceEq,Int.reduceLT,Int.reduceLE,↓reduceIte]
 repeat' (refine Ok_if (fun hb=>?_) (fun hb=>?_)<;>have h:=hb<;>(try simp only [decide_eq_true_eq,decide_eq_false_iff_not,Int.not_lt,Int.not_le] at h)<;>(simp (disch:=first | exact d_C1 | fail) only [hb,c88,EVS,Nat.reduceAdd,Nat.reduceSub,Int.reduceToNat,Nat.reduceMul,Nat.reduceEqDiff,Nat.reduceLeDiff,Int.reduceEq,Int.reduceLT,Int.reduceLE,↓reduceIte])<;>(try clear hb))
 ·have h:p.length ≤ s.length:=by omega
  by_cases e:s.take p.length=p
  ·simp [e,h]
  ·simp [e,h]
 ·simp only [eq_comm (a:=false),decide_eq_false_iff_not];omega
theorem trimPrefix_spec (s p:List UInt8):∀ h nx,lim T 60 [.str s,.str p] h nx=some (.str (if p.length ≤ s.length∧s.take p.length=p then s.drop p.length else s),h,nx):=by
 refine lim_iso tg60 rfl rfl rfl ?_
 simp (disch:=first | exact d_C1 | fail) only [c60,hasPrefix_spec,EVS,Nat.reduceAdd,Nat.reduceSub,Int.reduceToNat,Nat.reduceMul,Nat.reduceEqDiff,Nat.reduceLeDiff,Int.reduceEq,Int.reduceLT,Int.reduceLE,↓reduceIte]
 repeat' (refine Ok_if (fun hb=>?_) (fun hb=>?_)<;>have h:=hb<;>(try simp only [decide_eq_true_eq,decide_eq_false_iff_not,Int.not_lt,Int.not_le] at h)<;>(simp (disch:=first | exact d_C1 | fail) only [hb,c60,hasPrefix_spec,EVS,Nat.reduceAdd,Nat.reduceSub,Int.reduceToNat,Nat.reduceMul,Nat.reduceEqDiff,Nat.reduceLeDiff,Int.reduceEq,Int.reduceLT,Int.reduceLE,↓reduceIte])<;>(try clear hb))
 ·first | rfl | rw [if_pos h]
 ·first | rfl | rw [if_neg h]
theorem trim_spec (s:List UInt8):∀ h nx,lim T 35 [.str s,.str [114,46]] h nx=some (.str (strip s),h,nx):=by
 refine lim_iso tg35 rfl rfl rfl ?_
 simp (disch:=first | exact d_C1 | fail) only [c35,trimPrefix_spec,EVS,Nat.reduceAdd,Nat.reduceSub,Int.reduceToNat,Nat.reduceMul,Nat.reduceEqDiff,Nat.reduceLeDiff,Int.reduceEq,Int.reduceLT,Int.reduceLE,↓reduceIte]
 rfl
theorem before_spec (s p:List UInt8 × Int):∀ h nx,lim T 36 [inV s,inV p] h nx=some (.bool (befS s p),h,nx):=by
 refine lim_iso tg36 rfl rfl rfl ?_
 simp (disch:=first | exact d_C1 | fail) only [c36,inV,EVS,Nat.reduceAdd,Nat.reduceSub,Int.reduceToNat,Nat.reduceMul,Nat.reduceEqDiff,Nat.reduceLeDiff,Int.reduceEq,Int.reduceLT,Int.reduceLE,↓reduceIte]
 repeat' (refine Ok_if (fun hb=>?_) (fun hb=>?_)<;>have h:=hb<;>(try simp only [decide_eq_true_eq,decide_eq_false_iff_not,Int.not_lt,Int.not_le] at h)<;>(simp (disch:=first | exact d_C1 | fail) only [hb,c36,EVS,Nat.reduceAdd,Nat.reduceSub,Int.reduceToNat,Nat.reduceMul,Nat.reduceEqDiff,Nat.reduceLeDiff,Int.reduceEq,Int.reduceLT,Int.reduceLE,↓reduceIte])<;>(try clear hb))
 all_goals simp_all [befS]
theorem literal_spec (l:Int) (h0:0 ≤ l) (h1:l < 1152921504606846976):∀ h nx,lim T 41 [.int .i64 l] h nx=some (.int .i64 (litS l),h,nx):=by
 refine lim_iso tg41 rfl rfl rfl ?_
 simp (disch:=first | exact d_C1 | fail) only [c41,tdiv_nn,tmod_nn,EVS,Nat.reduceAdd,Nat.reduceSub,Int.reduceToNat,Nat.reduceMul,Nat.reduceEqDiff,Nat.reduceLeDiff,Int.reduceEq,Int.reduceLT,Int.reduceLE,↓reduceIte]
 repeat' (refine Ok_if (fun hb=>?_) (fun hb=>?_)<;>have h:=hb<;>(try simp only [decide_eq_true_eq,decide_eq_false_iff_not,Int.not_lt,Int.not_le] at h)<;>(simp (disch:=first | exact d_C1 | fail) only [hb,c41,tdiv_nn,tmod_nn,EVS,Nat.reduceAdd,Nat.reduceSub,Int.reduceToNat,Nat.reduceMul,Nat.reduceEqDiff,Nat.reduceLeDiff,Int.reduceEq,Int.reduceLT,Int.reduceLE,↓reduceIte])<;>(try clear hb))
 all_goals unfold litS
 all_goals split<;>omega
end Go.Proofs.YtlcbcacnbjekpaaDoor.Fi
namespace Go.Proofs.YtlcbcacnbjekpaaDoor.Fi
open Go.FI.BC
open Go.FI
theorem d_C5 {P:Prop} (h:P:=by first|omega|(simp only[EVL]<;>omega)|(simp only[hget_c,Nat.reduceEqDiff,↓reduceIte];done)|assumption|(simp (disch:=omega) only[hg_ne,hg_eq,hgs_ne, *];done)|(simp only [LAWS,pu5,pu6];done)|with_unfolding_all rfl):P:=h
abbrev P5 (ins:List (List UInt8 × Int)) (gs:List (Int × Int)) (outs:List Int) (r:FV):Prop:=∃ b,r=.bool b∧(b=false→Small ins gs outs)
theorem great_loop {e1 e2 e3} (ins:List (List UInt8 × Int)) (gs:List (Int × Int)) (outs:List Int) (h0:ins.length ≤ 9223372036854775807):∀ (k i:Nat),i + k=ins.length →
  @Ok Out (runs T [.code b20_0,.inL (some 3) b20_0,.inB 0,.code k20_1] [(1,.ptr 0 1 0 0),(3,.int .i64 i)] [(0,.row 3 [circV e1 e2 e3 ins gs outs])] 3) ⟨fun x=>@Ok FV (resV c20.res x) ⟨P5 ins gs outs⟩⟩:=by
 intro k
 induction k with
 |zero =>
  intro i hi
  have:¬ (i:Int) < ins.length:=by omega
  simp (disch:=first | exact d_C5 | fail) only [unf b20_0.eq_1,unf k20_1.eq_1,c20,circV,this,LAWS,EVS,Nat.reduceAdd,Nat.reduceSub,Int.reduceToNat,Nat.reduceMul,Nat.reduceEqDiff,Nat.reduceLeDiff,Int.reduceEq,Int.reduceLT,Int.reduceLE,↓reduceIte]
  repeat' (refine Ok_if (fun hb=>?_) (fun hb=>?_)<;>have h:=hb<;>(try simp only [decide_eq_true_eq,decide_eq_false_iff_not,Int.not_lt,Int.not_le] at h)<;>(simp (disch:=first | exact d_C5 | fail) only [hb,c20,LAWS,unf k20_1.eq_1,EVS,Nat.reduceAdd,Nat.reduceSub,Int.reduceToNat,Nat.reduceMul,Nat.reduceEqDiff,Nat.reduceLeDiff,Int.reduceEq,Int.reduceLT,Int.reduceLE,↓reduceIte])<;>(try clear hb))
  ·exact ⟨_,rfl,fun e=>by cases e⟩
  ·exact ⟨_,rfl,fun e=>by cases e⟩
  ·exact ⟨_,rfl,fun e=>by simp only [decide_eq_false_iff_not] at e;exact ⟨by omega,by omega,by omega⟩⟩
 |succ k ih =>
  intro i hi
  have:(i:Int) < ins.length:=by omega
  simp (disch:=first | exact d_C5 | fail) only [unf b20_0.eq_1,unf k20_1.eq_1,c20,circV,this,LAWS,EVS,Nat.reduceAdd,Nat.reduceSub,Int.reduceToNat,Nat.reduceMul,Nat.reduceEqDiff,Nat.reduceLeDiff,Int.reduceEq,Int.reduceLT,Int.reduceLE,↓reduceIte]
  repeat' (refine Ok_if (fun hb=>?_) (fun hb=>?_)<;>have h:=hb<;>(try simp only [decide_eq_true_eq,decide_eq_false_iff_not,Int.not_lt,Int.not_le] at h)<;>(simp (disch:=first | exact d_C5 | fail) only [hb,c20,LAWS,unf k20_1.eq_1,EVS,Nat.reduceAdd,Nat.reduceSub,Int.reduceToNat,Nat.reduceMul,Nat.reduceEqDiff,Nat.reduceLeDiff,Int.reduceEq,Int.reduceLT,Int.reduceLE,↓reduceIte])<;>(try clear hb))
  all_goals first
   |exact Ok_inL (by decide) (by simp [lowTm,low]) (by simp [cutH,lowHeap,lowObj,lows,low,LAWS]) (ih (i + 1) (by omega))
   |exact ⟨_,rfl,fun e=>by cases e⟩
   |exact ⟨_,rfl,fun e=>by simp only [decide_eq_false_iff_not] at e;exact ⟨by omega,by omega,by omega⟩⟩
theorem great_spec {e1 e2 e3 ins gs outs} (h0:ins.length ≤ 9223372036854775807):∃ r,P5 ins gs outs r∧∀ h nx,lim T 20 [circV e1 e2 e3 ins gs outs] h nx=some (r,h,nx):=by
 refine lim_isoP tg20 rfl rfl (by simp [pures,pure_circ]) ?_
 simp (disch:=first | exact d_C5 | fail) only [c20,circV,EVS,Nat.reduceAdd,Nat.reduceSub,Int.reduceToNat,Nat.reduceMul,Nat.reduceEqDiff,Nat.reduceLeDiff,Int.reduceEq,Int.reduceLT,Int.reduceLE,↓reduceIte]
 exact great_loop ins gs outs h0 ins.length 0 (by omega)
theorem lit_spec (ns:List Bool) (l:Int) (h0:0 ≤ l) (h1:l < 2 * ns.length) (h2:ns.length ≤ 1000000):∀ h nx,isfR T c42 [.lst false (ns.map .bool),.int .i64 l] h nx=some (.bool (litB ns l),h,nx):=by
 intro h nx
 refine isfR_of rfl ?_
 simp (disch:=first | exact d_C5 | fail) only [c42,tdiv_nn,tmod_nn,EVS,Nat.reduceAdd,Nat.reduceSub,Int.reduceToNat,Nat.reduceMul,Nat.reduceEqDiff,Nat.reduceLeDiff,Int.reduceEq,Int.reduceLT,Int.reduceLE,↓reduceIte]
 repeat' (refine Ok_if (fun hb=>?_) (fun hb=>?_)<;>have h:=hb<;>(try simp only [decide_eq_true_eq,decide_eq_false_iff_not,Int.not_lt,Int.not_le] at h)<;>(simp (disch:=first | exact d_C5 | fail) only [hb,c42,tdiv_nn,tmod_nn,LAWS3,EVS,Nat.reduceAdd,Nat.reduceSub,Int.reduceToNat,Nat.reduceMul,Nat.reduceEqDiff,Nat.reduceLeDiff,Int.reduceEq,Int.reduceLT,Int.reduceLE,↓reduceIte])<;>(try clear hb))
 all_goals simp_all [litB]
theorem lim42 (a b:FV) (h:Heap) (nx:Nat):lim T 42 [a,b] h nx=@FI.B (List FV) (FV × Heap × Nat) (frzs h deep [a,b]) ⟨fun q=>isfR T c42 q h nx⟩:=lim_isf tg42 rfl rfl
theorem frz_bools {h:Heap} {id n:Nat} {l:List Bool} (hn:n=l.length) (hg:hget h id=some (.row 1 (l.map .bool))) (hl:l.length ≤ 4000) (k:Nat) (hk:5000 ≤ k):frz h k (.sref 1 id n 0 n)=some (.lst false (l.map .bool)):=by
 subst hn
 obtain ⟨k,rfl⟩:∃ q,k=q + 1:=⟨k - 1,by omega⟩
 rw [fz_ref (by decide),el_r,hg,elRow_r,Ck_pos ⟨by simp,by omega⟩,B_some,cut_d]
 have:List.take (0 + l.length - 0) (List.drop 0 (l.map FV.bool))=l.map FV.bool:=by
  rw [Nat.zero_add,Nat.sub_zero,List.drop_zero];exact take_full (by simp)
 rw [this,frzs_pure (pu5 l) (by simp;omega)]
 rfl
theorem frz_two {h:Heap} {id n:Nat} {l:List Bool} {x:Int} (hn:n=l.length) (hg:hget h id=some (.row 1 (l.map .bool))) (hl:l.length ≤ 4000):frzs h deep [.sref 1 id n 0 n,.int .i64 x]=some [.lst false (l.map .bool),.int .i64 x]:=by
 rw [show deep=(deep - 2) + 1 + 1 from rfl,fzs_c,frz_bools hn hg hl _ (by unfold deep;omega),B_some,frzs_pure (by simp [pures,pure_]) (by simp)]
 rfl
def NewN (h:Heap) (nx:Nat) (l:List Bool) (r:FV × Heap × Nat):Prop:=(∃ id,r.1=.sref 1 id l.length 0 l.length∧nx ≤ id∧id < r.2.2∧hget r.2.1 id=some (.row 1 (l.map .bool)))∧nx ≤ r.2.2∧∀ i,i < nx→hget r.2.1 i=hget h i
theorem nodes_loop {e1 e2 e3} (ins:In) (gs:Ga) (outs:List Int) (inb:List Bool) (hs:Small ins gs outs) (hl:inb.length=ins.length) (hg:goodC ins gs outs) (hg2:gs.length ≤ 2000) (h0:Heap) (n0 id ic:Nat) (hid:n0 ≤ id) (hic:ic ≠ id):∀ (k i n:Nat) (ns:List Bool) (h:Heap) (nx:Nat),i + k=gs.length→ns=nodesS inb gs i→n=ns.length→id < nx→ic < nx→n0 ≤ nx→hget h ic=some (.row 3 [circV e1 e2 e3 ins gs outs])→hget h id=some (.row 1 (ns.map .bool))→(∀ q,q < n0→hget h q=hget h0 q) →
  @Ok Out (runs T [.code b21_0,.inL none b21_0,.inB 0,.code k21_1] [(2,.ptr ic 1 0 0),(5,.sref 1 id n 0 n),(6,.int .i64 i)] h nx) ⟨fun y=>@Ok FV (finV c21.res y) ⟨fun v=>NewN h0 n0 (nodesS inb gs gs.length) (v,y.2.2.1,y.2.2.2)⟩⟩:=by
 obtain ⟨h1,h2,h3⟩:=hs
 intro k
 induction k with
 |zero =>
  intro i n ns h nx hi hns hn hn1 hn2 hn3 hc hr hf
  have:¬ (i:Int) < gs.length:=by omega
  have hlen:=nodesS_len inb gs i
  rw [← hns] at hlen
  unfold circV at hc
  simp (disch:=first | exact d_C5 | fail) only [unf b21_0.eq_1,unf k21_1.eq_1,c21,circV,this,LAWS,LAWS3,hc,hr,EVS,Nat.reduceAdd,Nat.reduceSub,Int.reduceToNat,Nat.reduceMul,Nat.reduceEqDiff,Nat.reduceLeDiff,Int.reduceEq,Int.reduceLT,Int.reduceLE,↓reduceIte]
  have hi':i=gs.length:=by omega
  subst hi'
  exact ⟨⟨id,by rw [hn,hns],hid,by dsimp only;omega,by rw [← hns];exact hr⟩,by dsimp only;omega,hf⟩
 |succ k ih =>
  intro i n ns h nx hi hns hn hn1 hn2 hn3 hc hr hf
  have:(i:Int) < gs.length:=by omega
  have hlen:=nodesS_len inb gs i
  rw [← hns] at hlen
  have gi:=hg.2.1 i (by omega)
  unfold goodG at gi
  have e:∀ b,b=(litB ns (gs.getD i (0,0)).1 && litB ns (gs.getD i (0,0)).2)→ns ++ [b]=nodesS inb gs (i + 1):=fun b hb=>by
   rw [hb,hns];rfl
  unfold circV at hc
  have z1:∀ (h':Heap) (x:Int),hget h' id=some (.row 1 (ns.map .bool))→frzs h' deep [.sref 1 id n 0 n,.int .i64 x]=some [.lst false (ns.map .bool),.int .i64 x]:=fun h' x hh=>frz_two hn hh (by omega)
  simp (disch:=first | exact d_C5 | fail) only [unf b21_0.eq_1,c21,circV,this,LAWS,LAWS3,lim42,lit_spec,hc,hr,z1,EVS,Nat.reduceAdd,Nat.reduceSub,Int.reduceToNat,Nat.reduceMul,Nat.reduceEqDiff,Nat.reduceLeDiff,Int.reduceEq,Int.reduceLT,Int.reduceLE,↓reduceIte]
  repeat' (refine Ok_if (fun hb=>?_) (fun hb=>?_)<;>have h:=hb<;>(try simp only [decide_eq_true_eq,decide_eq_false_iff_not,Int.not_lt,Int.not_le] at h)<;>(simp (disch:=first | exact d_C5 | fail) only [hb,c21,circV,LAWS,LAWS3,lim42,lit_spec,hc,hr,z1,EVS,Nat.reduceAdd,Nat.reduceSub,Int.reduceToNat,Nat.reduceMul,Nat.reduceEqDiff,Nat.reduceLeDiff,Int.reduceEq,Int.reduceLT,Int.reduceLE,↓reduceIte])<;>(try clear hb))
  all_goals refine Ok_inL0 (ih (i + 1) _ (nodesS inb gs (i + 1)) _ _ (by omega) rfl ?_ (by omega) (by omega) (by omega) ?_ ?_ fun q hq=>?_)
  all_goals first
   |(rw [hg_ne (by omega),hgs_ne (by omega)];exact hf q hq)
   |(rw [hg_ne (by omega),hgs_ne (by omega)];exact hc)
   |(rw [nodesS_len];omega)
   |(rw [hg_ne (by omega),hgs_eq hr,snocB,e _ (by simp_all)];done)
theorem nodes_spec {e1 e2 e3 e ins gs outs} (inb:List Bool) (hs:Small ins gs outs) (hl:inb.length=ins.length) (hg:goodC ins gs outs) (hg2:gs.length ≤ 2000) (h:Heap) (nx:Nat):∃ r,lim T 21 [circV e1 e2 e3 ins gs outs,.lst e (inb.map .bool)] h nx=some r∧NewN h nx (nodesS inb gs gs.length) r:=by
 obtain ⟨h1,h2,h3⟩:=id hs
 refine shr_ex tg21 rfl rfl ?_
 simp (disch:=first | exact d_C5 | fail) only [c21,circV,LAWS3,EVS,Nat.reduceAdd,Nat.reduceSub,Int.reduceToNat,Nat.reduceMul,Nat.reduceEqDiff,Nat.reduceLeDiff,Int.reduceEq,Int.reduceLT,Int.reduceLE,↓reduceIte]
 refine nodes_loop (e1:=e1) (e2:=e2) (e3:=e3) ins gs outs inb hs hl hg hg2 h nx (nx + 2) nx (by omega) (by omega) gs.length 0 _ (false::inb) _ _ (by omega) rfl (by simp;omega) (by omega) (by omega) (by omega) ?_ ?_ ?_
 ·rw [hg_ne (by omega)];exact hg_eq
 ·exact hg_eq
 ·intro q hq;rw [hg_ne (by omega),hg_ne (by omega)]
end Go.Proofs.YtlcbcacnbjekpaaDoor.Fi
namespace Go.Proofs.YtlcbcacnbjekpaaDoor.Fi
open Go.FI.BC
open Go.FI
theorem d_C2 {P:Prop} (h:P:=by first|omega|(simp only[EVL]<;>omega)|(simp only[hget_c,Nat.reduceEqDiff,↓reduceIte];done)|assumption|(simp (disch:=omega) only[hg_ne,hg_eq,hgs_ne, *];done)|(simp only [LAWS];done)|with_unfolding_all rfl):P:=h
theorem before_spec' (a:List UInt8) (b:Int) (c:List UInt8) (d:Int):∀ h nx,lim T 36 [.agg [.str a,.int .i64 b],.agg [.str c,.int .i64 d]] h nx=some (.bool (befS (a,b) (c,d)),h,nx):=before_spec (a,b) (c,d)
abbrev Q12 (ins:In) (gs:Ga) (outs:List Int):Post Out:=⟨fun x=>resV c12.res x=some (.int .i64 (chkS ins gs outs))⟩
theorem c16_l3 {e1 e2 e3} (ins:In) (gs:Ga) (outs:List Int) (hf:Fits ins gs outs) (g1:∀ i,i < ins.length→goodIn ins i) (g2:∀ i,i < gs.length→goodG ins.length gs i):∀ (k i:Nat),i + k=outs.length→(∀ j,j < i→goodO (ins.length + gs.length) outs j) →
  @Ok Out (runs T [.code b12_2,.inL (some 37) b12_2,.inB 4,.code k12_3] [(1,.ptr 0 1 0 0),(6,.int .i64 (1 + ins.length)),(101,.lst e3 (outs.map intV)),(102,.int .i64 outs.length),(103,.int .i64 i)] (H1 e1 e2 e3 ins gs outs) 37) (Q12 ins gs outs):=by
 obtain ⟨f1,f2,f3⟩:=id hf
 intro k
 induction k with
 |zero =>
  intro i hi hok
  have:¬ (i:Int) < outs.length:=by omega
  simp (disch:=first | exact d_C2 | fail) only [unf b12_2.eq_1,unf k12_3.eq_1,c12,circV,this,LAWS,EVS,Nat.reduceAdd,Nat.reduceSub,Int.reduceToNat,Nat.reduceMul,Nat.reduceEqDiff,Nat.reduceLeDiff,Int.reduceEq,Int.reduceLT,Int.reduceLE,↓reduceIte]
  exact chk_ok hf ⟨g1,g2,fun j hj=>hok j (by omega)⟩
 |succ k ih =>
  intro i hi hok
  have:(i:Int) < outs.length:=by omega
  simp (disch:=first | exact d_C2 | fail) only [unf b12_2.eq_1,c12,circV,this,LAWS,EVS,Nat.reduceAdd,Nat.reduceSub,Int.reduceToNat,Nat.reduceMul,Nat.reduceEqDiff,Nat.reduceLeDiff,Int.reduceEq,Int.reduceLT,Int.reduceLE,↓reduceIte]
  repeat' (refine Ok_if (fun hb=>?_) (fun hb=>?_)<;>have h:=hb<;>(try simp only [decide_eq_true_eq,decide_eq_false_iff_not,Int.not_lt,Int.not_le] at h)<;>(simp (disch:=first | exact d_C2 | fail) only [hb,c12,circV,LAWS,EVS,Nat.reduceAdd,Nat.reduceSub,Int.reduceToNat,Nat.reduceMul,Nat.reduceEqDiff,Nat.reduceLeDiff,Int.reduceEq,Int.reduceLT,Int.reduceLE,↓reduceIte])<;>(try clear hb))
  all_goals first
   |exact Ok_inL (by decide) (by simp [lowTm,low,LAWS]) (by simp [cutH,lowHeap,lowObj,lows,low,LAWS,circV]) (ih (i + 1) (by omega) (upTo hok (by unfold goodO;omega)))
   |exact chk_bad hf fun hg=>by have:=hg.2.2 i (by omega);unfold goodO at this;omega
theorem c16_l2 {e1 e2 e3} (ins:In) (gs:Ga) (outs:List Int) (hf:Fits ins gs outs) (g1:∀ i,i < ins.length→goodIn ins i):∀ (k i:Nat),i + k=gs.length→(∀ j,j < i→goodG ins.length gs j) →
  @Ok Out (runs T [.code b12_1,.inL (some 32) b12_1,.inB 2,.code k12_4] [(1,.ptr 0 1 0 0),(6,.int .i64 (1 + ins.length)),(73,.lst e2 (gs.map gateV)),(74,.int .i64 gs.length),(75,.int .i64 i)] (H1 e1 e2 e3 ins gs outs) 32) (Q12 ins gs outs):=by
 obtain ⟨f1,f2,f3⟩:=id hf
 intro k
 induction k with
 |zero =>
  intro i hi hok
  have:¬ (i:Int) < gs.length:=by omega
  simp (disch:=first | exact d_C2 | fail) only [unf b12_1.eq_1,unf k12_4.eq_1,c12,circV,this,LAWS,EVS,Nat.reduceAdd,Nat.reduceSub,Int.reduceToNat,Nat.reduceMul,Nat.reduceEqDiff,Nat.reduceLeDiff,Int.reduceEq,Int.reduceLT,Int.reduceLE,↓reduceIte]
  all_goals first
   |exact c16_l3 ins gs outs hf g1 (fun j hj=>hok j (by omega)) outs.length 0 (by omega) (by omega)
 |succ k ih =>
  intro i hi hok
  have:(i:Int) < gs.length:=by omega
  simp (disch:=first | exact d_C2 | fail) only [unf b12_1.eq_1,c12,circV,this,LAWS,EVS,Nat.reduceAdd,Nat.reduceSub,Int.reduceToNat,Nat.reduceMul,Nat.reduceEqDiff,Nat.reduceLeDiff,Int.reduceEq,Int.reduceLT,Int.reduceLE,↓reduceIte]
  repeat' (refine Ok_if (fun hb=>?_) (fun hb=>?_)<;>have h:=hb<;>(try simp only [decide_eq_true_eq,decide_eq_false_iff_not,Int.not_lt,Int.not_le] at h)<;>(simp (disch:=first | exact d_C2 | fail) only [hb,c12,circV,LAWS,EVS,Nat.reduceAdd,Nat.reduceSub,Int.reduceToNat,Nat.reduceMul,Nat.reduceEqDiff,Nat.reduceLeDiff,Int.reduceEq,Int.reduceLT,Int.reduceLE,↓reduceIte])<;>(try clear hb))
  all_goals first
   |exact Ok_inL (by decide) (by simp [lowTm,low,LAWS]) (by simp [cutH,lowHeap,lowObj,lows,low,LAWS,circV]) (ih (i + 1) (by omega) (upTo hok (by unfold goodG;omega)))
   |exact chk_bad hf fun hg=>by have:=hg.2.1 i (by omega);unfold goodG at this;omega
theorem c16_l1 {e1 e2 e3} (ins:In) (gs:Ga) (outs:List Int) (hf:Fits ins gs outs):∀ (k i:Nat),i + k=ins.length→(∀ j,j < i→goodIn ins j) →
  @Ok Out (runs T [.code b12_0,.inL (some 22) b12_0,.inB 0,.code k12_5] [(1,.ptr 0 1 0 0),(29,.lst e1 (ins.map inV)),(30,.int .i64 ins.length),(31,.int .i64 i)] (H1 e1 e2 e3 ins gs outs) 22) (Q12 ins gs outs):=by
 obtain ⟨f1,f2,f3⟩:=id hf
 intro k
 induction k with
 |zero =>
  intro i hi hok
  have:¬ (i:Int) < ins.length:=by omega
  simp (disch:=first | exact d_C2 | fail) only [unf b12_0.eq_1,unf k12_5.eq_1,c12,circV,this,LAWS,EVS,Nat.reduceAdd,Nat.reduceSub,Int.reduceToNat,Nat.reduceMul,Nat.reduceEqDiff,Nat.reduceLeDiff,Int.reduceEq,Int.reduceLT,Int.reduceLE,↓reduceIte]
  all_goals first
   |exact c16_l2 ins gs outs hf (fun j hj=>hok j (by omega)) gs.length 0 (by omega) (by omega)
 |succ k ih =>
  intro i hi hok
  have:(i:Int) < ins.length:=by omega
  simp (disch:=first | exact d_C2 | fail) only [unf b12_0.eq_1,c12,circV,this,LAWS,trim_spec,name_spec,EVS,Nat.reduceAdd,Nat.reduceSub,Int.reduceToNat,Nat.reduceMul,Nat.reduceEqDiff,Nat.reduceLeDiff,Int.reduceEq,Int.reduceLT,Int.reduceLE,↓reduceIte]
  repeat' (refine Ok_if (fun hb=>?_) (fun hb=>?_)<;>have h:=hb<;>(try simp only [decide_eq_true_eq,decide_eq_false_iff_not,Int.not_lt,Int.not_le] at h)<;>(simp (disch:=first | exact d_C2 | fail) only [hb,c12,circV,LAWS,toNat_sub1,gd1,before_spec',pr_eta,EVS,Nat.reduceAdd,Nat.reduceSub,Int.reduceToNat,Nat.reduceMul,Nat.reduceEqDiff,Nat.reduceLeDiff,Int.reduceEq,Int.reduceLT,Int.reduceLE,↓reduceIte])<;>(try clear hb))
  all_goals first
   |exact Ok_inL (by decide) (by simp [lowTm,low,LAWS]) (by simp [cutH,lowHeap,lowObj,lows,low,LAWS,circV]) (ih (i + 1) (by omega) (upTo hok ⟨by assumption,by omega,by omega,fun _=>by first | omega | assumption⟩))
   |exact chk_bad hf fun hg=>by
     obtain ⟨q1,q2,q3,q4⟩:=hg.1 i (by omega)
     first | omega | exact absurd q1 (by assumption) | exact absurd (q4 (by omega)) (by simp_all)
theorem check_spec {e1 e2 e3 ins gs outs} (hs:Small ins gs outs):∀ h nx,lim T 12 [circV e1 e2 e3 ins gs outs] h nx=some (.int .i64 (chkS ins gs outs),h,nx):=by
 obtain ⟨h1,h2,h3⟩:=hs
 refine lim_iso tg12 rfl rfl (by simp [pures,pure_circ]) ?_
 simp (disch:=first | exact d_C2 | fail) only [c12,circV,EVS,Nat.reduceAdd,Nat.reduceSub,Int.reduceToNat,Nat.reduceMul,Nat.reduceEqDiff,Nat.reduceLeDiff,Int.reduceEq,Int.reduceLT,Int.reduceLE,↓reduceIte]
 repeat' (refine Ok_if (fun hb=>?_) (fun hb=>?_)<;>have h:=hb<;>(try simp only [decide_eq_true_eq,decide_eq_false_iff_not,Int.not_lt,Int.not_le] at h)<;>(simp (disch:=first | exact d_C2 | fail) only [hb,c12,EVS,Nat.reduceAdd,Nat.reduceSub,Int.reduceToNat,Nat.reduceMul,Nat.reduceEqDiff,Nat.reduceLeDiff,Int.reduceEq,Int.reduceLT,Int.reduceLE,↓reduceIte])<;>(try clear hb))
 all_goals first
  |exact chk_many fun hf=>by have:=hf.1;have:=hf.2.1;have:=hf.2.2;omega
  |exact c16_l1 ins gs outs ⟨by omega,by omega,by omega⟩ ins.length 0 (by omega) (by omega)
end Go.Proofs.YtlcbcacnbjekpaaDoor.Fi
namespace Go.Proofs.YtlcbcacnbjekpaaDoor.Fi
open Go.FI.BC
open Go.FI
theorem d_C6 {P:Prop} (h:P:=by first|omega|(simp only[EVL]<;>omega)|(simp only[hget_c,Nat.reduceEqDiff,↓reduceIte];done)|assumption|(simp (disch:=omega) only[hg_ne,hg_eq,hgs_ne, *];done)|(simp only [LAWS2,LAWS3];done)|with_unfolding_all rfl):P:=h
abbrev QS (q:List (List Int)) (ns:List Bool):Post Out:=⟨fun x=>finV c22.res x=some (.bool (satS q ns))⟩
theorem sat_in (q:List (List Int)) (ns:List Bool) (hq:q.length ≤ 1000000) (hn:ns.length ≤ 4000) (i:Nat) (hi:i < q.length) (hb:(q.getD i []).length ≤ 1000)
  (stop:(q.getD i []).any (litA ns)=false→satS q ns=false)
  (next:(q.getD i []).any (litA ns)=true→@Ok Out (runs T [.code b22_3,.inL (some 2) b22_3,.inB 0,.code k22_4] [(0,.lst false (q.map clV)),(1,.lst false (ns.map .bool)),(5,.int .i64 ((i + 1:Nat):Int))] [] 2) (QS q ns)):∀ (k j:Nat) (s:Bool),j + k=(q.getD i []).length→((q.getD i []).take j).any (litA ns)=s →
  @Ok Out (runs T [.code b22_0,.inL (some 8) b22_0,.inB 2,.code k22_1,.inB 1,.code k22_2,.inL (some 2) b22_3,.inB 0,.code k22_4] [(0,.lst false (q.map clV)),(1,.lst false (ns.map .bool)),(5,.int .i64 i),(6,.bool s),(7,.int .i64 j)] [] 8) (QS q ns):=by
 intro k
 induction k with
 |zero =>
  intro j s hj hs
  have:¬ (j:Int) < (q.getD i []).length:=by omega
  rw [List.take_of_length_le (by omega)] at hs
  cases s with
  |true =>
   simp (disch:=first | exact d_C6 | fail) only [unf b22_0.eq_1,unf k22_1.eq_1,unf k22_2.eq_1,c22,LAWS2,LAWS3,this,EVS,Nat.reduceAdd,Nat.reduceSub,Int.reduceToNat,Nat.reduceMul,Nat.reduceEqDiff,Nat.reduceLeDiff,Int.reduceEq,Int.reduceLT,Int.reduceLE,↓reduceIte]
   exact Ok_inL (by decide) (by simp [lowTm,low,LAWS2,LAWS3]) (by simp [cutH,lowHeap]) (next hs)
  |false =>
   simp (disch:=first | exact d_C6 | fail) only [unf b22_0.eq_1,unf k22_1.eq_1,unf k22_2.eq_1,c22,LAWS2,LAWS3,this,EVS,Nat.reduceAdd,Nat.reduceSub,Int.reduceToNat,Nat.reduceMul,Nat.reduceEqDiff,Nat.reduceLeDiff,Int.reduceEq,Int.reduceLT,Int.reduceLE,↓reduceIte]
   exact (stop hs).symm
 |succ k ih =>
  intro j s hj hs
  have:(j:Int) < (q.getD i []).length:=by omega
  have e:∀ b,b=(s || litA ns ((q.getD i []).getD j 0))→((q.getD i []).take (j + 1)).any (litA ns)=b:=fun b hb=>by
   rw [← take_snoc _ j 0 (by omega),List.any_append,hs,hb];simp
  cases s with
  |true =>
   simp (disch:=first | exact d_C6 | fail) only [unf b22_0.eq_1,c22,LAWS2,LAWS3,this,EVS,Nat.reduceAdd,Nat.reduceSub,Int.reduceToNat,Nat.reduceMul,Nat.reduceEqDiff,Nat.reduceLeDiff,Int.reduceEq,Int.reduceLT,Int.reduceLE,↓reduceIte]
   repeat' (refine Ok_if (fun hb=>?_) (fun hb=>?_)<;>have h:=hb<;>(try simp only [decide_eq_true_eq,decide_eq_false_iff_not,Int.not_lt,Int.not_le] at h)<;>(simp (disch:=first | exact d_C6 | fail) only [hb,c22,LAWS2,LAWS3,EVS,Nat.reduceAdd,Nat.reduceSub,Int.reduceToNat,Nat.reduceMul,Nat.reduceEqDiff,Nat.reduceLeDiff,Int.reduceEq,Int.reduceLT,Int.reduceLE,↓reduceIte])<;>(try clear hb))
   all_goals first
    |(exfalso;omega)
    |(refine Ok_inL (by decide) (by simp [lowTm,low,LAWS2,LAWS3]) (by simp [cutH,lowHeap]) (ih (j + 1) _ (by omega) (e _ ?_));first | rfl | rw [litA_a (by omega) (by omega),Bool.false_or] | rw [litA_c (by omega) (by omega),Bool.false_or] | (rw [litA_o (by omega) (by omega)];rfl) | (rw [litA_a (by omega) (by omega)];simp_all;done) | (rw [litA_c (by omega) (by omega)];simp_all;done))
  |false =>
   simp (disch:=first | exact d_C6 | fail) only [unf b22_0.eq_1,c22,LAWS2,LAWS3,this,EVS,Nat.reduceAdd,Nat.reduceSub,Int.reduceToNat,Nat.reduceMul,Nat.reduceEqDiff,Nat.reduceLeDiff,Int.reduceEq,Int.reduceLT,Int.reduceLE,↓reduceIte]
   repeat' (refine Ok_if (fun hb=>?_) (fun hb=>?_)<;>have h:=hb<;>(try simp only [decide_eq_true_eq,decide_eq_false_iff_not,Int.not_lt,Int.not_le] at h)<;>(simp (disch:=first | exact d_C6 | fail) only [hb,c22,LAWS2,LAWS3,EVS,Nat.reduceAdd,Nat.reduceSub,Int.reduceToNat,Nat.reduceMul,Nat.reduceEqDiff,Nat.reduceLeDiff,Int.reduceEq,Int.reduceLT,Int.reduceLE,↓reduceIte])<;>(try clear hb))
   all_goals first
    |(exfalso;omega)
    |(refine Ok_inL (by decide) (by simp [lowTm,low,LAWS2,LAWS3]) (by simp [cutH,lowHeap]) (ih (j + 1) _ (by omega) (e _ ?_));first | rfl | rw [litA_a (by omega) (by omega),Bool.false_or] | rw [litA_c (by omega) (by omega),Bool.false_or] | (rw [litA_o (by omega) (by omega)];rfl) | (rw [litA_a (by omega) (by omega)];simp_all;done) | (rw [litA_c (by omega) (by omega)];simp_all;done))
theorem sat_out (q:List (List Int)) (ns:List Bool) (hq:q.length ≤ 1000000) (hn:ns.length ≤ 4000) (hb:∀ i,(q.getD i []).length ≤ 1000):∀ (k i:Nat),i + k=q.length→(q.take i).all (fun l=>l.any (litA ns))=true →
  @Ok Out (runs T [.code b22_3,.inL (some 2) b22_3,.inB 0,.code k22_4] [(0,.lst false (q.map clV)),(1,.lst false (ns.map .bool)),(5,.int .i64 i)] [] 2) (QS q ns):=by
 intro k
 induction k with
 |zero =>
  intro i hi ha
  have:¬ (i:Int) < q.length:=by omega
  rw [List.take_of_length_le (by omega)] at ha
  simp (disch:=first | exact d_C6 | fail) only [unf b22_3.eq_1,unf k22_4.eq_1,c22,LAWS2,LAWS3,this,EVS,Nat.reduceAdd,Nat.reduceSub,Int.reduceToNat,Nat.reduceMul,Nat.reduceEqDiff,Nat.reduceLeDiff,Int.reduceEq,Int.reduceLT,Int.reduceLE,↓reduceIte]
  exact ha.symm
 |succ k ih =>
  intro i hi ha
  have:(i:Int) < q.length:=by omega
  simp (disch:=first | exact d_C6 | fail) only [unf b22_3.eq_1,c22,LAWS2,LAWS3,this,EVS,Nat.reduceAdd,Nat.reduceSub,Int.reduceToNat,Nat.reduceMul,Nat.reduceEqDiff,Nat.reduceLeDiff,Int.reduceEq,Int.reduceLT,Int.reduceLE,↓reduceIte]
  refine sat_in q ns hq hn i (by omega) (hb i) (fun h=>?_) (fun h=>ih (i + 1) (by omega) ?_) (q.getD i []).length 0 false (by omega) rfl
  ·unfold satS
   rw [← Bool.not_eq_true]
   intro hh
   rw [List.all_eq_true] at hh
   have:=hh (q.getD i []) (by simp [List.getD,List.getElem?_eq_getElem (show i < q.length by omega)])
   rw [h] at this;cases this
  ·rw [← take_snoc q i [] (by omega),List.all_append,ha]
   simp only [List.all_cons,List.all_nil,Bool.and_true,Bool.true_and];exact h
theorem sat_spec (q:List (List Int)) (ns:List Bool) (hq:q.length ≤ 1000000) (hn:ns.length ≤ 4000) (hb:∀ i,(q.getD i []).length ≤ 1000):∀ h nx,isfR T c22 [.lst false (q.map clV),.lst false (ns.map .bool)] h nx=some (.bool (satS q ns),h,nx):=by
 intro h nx
 refine isfR_of rfl ?_
 simp (disch:=first | exact d_C6 | fail) only [c22,LAWS2,LAWS3,EVS,Nat.reduceAdd,Nat.reduceSub,Int.reduceToNat,Nat.reduceMul,Nat.reduceEqDiff,Nat.reduceLeDiff,Int.reduceEq,Int.reduceLT,Int.reduceLE,↓reduceIte]
 exact sat_out q ns hq hn hb q.length 0 (by omega) rfl
end Go.Proofs.YtlcbcacnbjekpaaDoor.Fi
namespace Go.Proofs.YtlcbcacnbjekpaaDoor.Fi
open Go.FI.BC
open Go.FI
theorem d_C4 {P:Prop} (h:P:=by first|omega|(simp only[EVL]<;>omega)|(simp only[hget_c,Nat.reduceEqDiff,↓reduceIte];done)|assumption|(simp (disch:=omega) only[hg_ne,hg_eq,hgs_ne, *];done)|(simp only [LAWS,pu5,pu6];done)|with_unfolding_all rfl):P:=h
theorem lim37 (a b:FV) (h:Heap) (nx:Nat):lim T 37 [a,b] h nx=@FI.B Out (FV × Heap × Nat) (runs T [.code c37.body] (params 0 [a,b]) h nx) ⟨fun x=>@FI.B FV (FV × Heap × Nat) (finV c37.res x) ⟨fun v=>some (v,x.2.2.1,x.2.2.2)⟩⟩:=lim_shr tg37 rfl rfl
theorem c12_loop2 {e1 e2 e3} (ins:In) (gs:Ga) (outs:List Int) (inb:List Bool) (hs:Small ins gs outs) (hl:inb.length=ins.length) (hk:chkS ins gs outs=0) (ns:List Bool) (hns:ns=nodesS inb gs gs.length) (m:Nat) (hm:m=ns.length):∀ (k i n:Nat) (os:List Bool),i + k=outs.length→os=(outs.take i).map (litB ns)→n=os.length →
  @Ok Out (runs T [.code b15_1,.inL (some 31) b15_1,.inB 2,.code k15_2] [(8,.fn 37 [.ptr 17 1 0 0]),(11,.sref 1 26 n 0 n),(51,.lst e3 (outs.map intV)),(52,.int .i64 outs.length),(53,.int .i64 i)] [(26,.row 1 (os.map .bool)),(17,.row 1 [.sref 1 14 m 0 m]),(14,.row 1 (ns.map .bool)),(0,.row 3 [circV e1 e2 e3 ins gs outs])] 31) ⟨fun x=>resV c15.res x=some (runS false ins gs outs inb)⟩:=by
 have hg:=chk_good hk
 obtain ⟨h1,h2,h3⟩:=hs
 have hlen:=nodesS_len inb gs gs.length
 rw [← hns] at hlen
 intro k
 induction k with
 |zero =>
  intro i n os hi hos hn
  have:¬ (i:Int) < outs.length:=by omega
  have hol:os.length=i:=by rw [hos];simp;omega
  simp (disch:=first | exact d_C4 | fail) only [unf b15_1.eq_1,unf k15_2.eq_1,c15,circV,this,LAWS,LAWS3,EVS,Nat.reduceAdd,Nat.reduceSub,Int.reduceToNat,Nat.reduceMul,Nat.reduceEqDiff,Nat.reduceLeDiff,Int.reduceEq,Int.reduceLT,Int.reduceLE,↓reduceIte]
  unfold runS
  rw [if_pos hk,if_pos hl,hos,hns,List.take_of_length_le (by omega)]
  rfl
 |succ k ih =>
  intro i n os hi hos hn
  have:(i:Int) < outs.length:=by omega
  have hol:os.length=i:=by rw [hos];simp;omega
  have gi:=hg.2.2 i (by omega)
  unfold goodO at gi
  simp (disch:=first | exact d_C4 | fail) only [unf b15_1.eq_1,c15,circV,this,LAWS,LAWS3,lim37,c37,tdiv_nn,tmod_nn,EVS,Nat.reduceAdd,Nat.reduceSub,Int.reduceToNat,Nat.reduceMul,Nat.reduceEqDiff,Nat.reduceLeDiff,Int.reduceEq,Int.reduceLT,Int.reduceLE,↓reduceIte]
  rw [snocB]
  refine Ok_inL (by decide) (by simp [lowTm,low,lows,LAWS,LAWS3]) (by simp [cutH,lowHeap,lowObj,lows,low,LAWS,LAWS3,circV,lows_app]) (ih (i + 1) _ _ (by omega) ?_ (by simp;omega))
  rw [hos,← take_snoc outs i 0 (by omega)]
  simp [litB,bne]
theorem c12_loop1 {e1 e2 e3} (ins:In) (gs:Ga) (outs:List Int) (inb:List Bool) (hs:Small ins gs outs) (hl:inb.length=ins.length) (hk:chkS ins gs outs=0):∀ (k i n:Nat) (ns:List Bool),i + k=gs.length→ns=nodesS inb gs i→n=ns.length →
  @Ok Out (runs T [.code b15_0,.inL (some 25) b15_0,.inB 0,.code k15_3] [(2,.ptr 0 1 0 0),(7,.ptr 17 1 0 0),(8,.fn 37 [.ptr 17 1 0 0]),(30,.lst e2 (gs.map gateV)),(31,.int .i64 gs.length),(32,.int .i64 i)] [(17,.row 1 [.sref 1 14 n 0 n]),(14,.row 1 (ns.map .bool)),(0,.row 3 [circV e1 e2 e3 ins gs outs])] 25) ⟨fun x=>resV c15.res x=some (runS false ins gs outs inb)⟩:=by
 have hg:=chk_good hk
 obtain ⟨h1,h2,h3⟩:=id hs
 intro k
 induction k with
 |zero =>
  intro i n ns hi hns hn
  have:¬ (i:Int) < gs.length:=by omega
  have hlen:=nodesS_len inb gs i
  rw [← hns] at hlen
  simp (disch:=first | exact d_C4 | fail) only [unf b15_0.eq_1,unf k15_3.eq_1,c15,circV,this,LAWS,LAWS3,EVS,Nat.reduceAdd,Nat.reduceSub,Int.reduceToNat,Nat.reduceMul,Nat.reduceEqDiff,Nat.reduceLeDiff,Int.reduceEq,Int.reduceLT,Int.reduceLE,↓reduceIte]
  subst hns
  have hi':i=gs.length:=by omega
  subst hi'
  refine c12_loop2 ins gs outs inb hs hl hk _ rfl n hn outs.length 0 0 [] (by omega) (by simp) rfl
 |succ k ih =>
  intro i n ns hi hns hn
  have:(i:Int) < gs.length:=by omega
  have hlen:=nodesS_len inb gs i
  rw [← hns] at hlen
  have gi:=hg.2.1 i (by omega)
  unfold goodG at gi
  have e:∀ b,b=(litB ns (gs.getD i (0,0)).1 && litB ns (gs.getD i (0,0)).2)→ns ++ [b]=nodesS inb gs (i + 1):=fun b hb=>by
   rw [hb,hns];rfl
  simp (disch:=first | exact d_C4 | fail) only [unf b15_0.eq_1,c15,circV,this,LAWS,LAWS3,lim37,c37,tdiv_nn,tmod_nn,EVS,Nat.reduceAdd,Nat.reduceSub,Int.reduceToNat,Nat.reduceMul,Nat.reduceEqDiff,Nat.reduceLeDiff,Int.reduceEq,Int.reduceLT,Int.reduceLE,↓reduceIte]
  repeat' (refine Ok_if (fun hb=>?_) (fun hb=>?_)<;>have h:=hb<;>(try simp only [decide_eq_true_eq,decide_eq_false_iff_not,Int.not_lt,Int.not_le] at h)<;>(simp (disch:=first | exact d_C4 | fail) only [hb,c15,circV,LAWS,LAWS3,lim37,c37,tdiv_nn,tmod_nn,EVS,Nat.reduceAdd,Nat.reduceSub,Int.reduceToNat,Nat.reduceMul,Nat.reduceEqDiff,Nat.reduceLeDiff,Int.reduceEq,Int.reduceLT,Int.reduceLE,↓reduceIte])<;>(try clear hb))
  all_goals rw [snocB]
  all_goals refine Ok_inL (by decide) (by simp [lowTm,low,lows,LAWS,LAWS3]) (by simp [cutH,lowHeap,lowObj,lows,low,LAWS,LAWS3,circV,lows_app]) (ih (i + 1) _ _ (by omega) (e _ ?_) (by simp;omega))
  all_goals simp_all [litB,bne]
theorem run_spec {e1 e2 e3 e ins gs outs} (inb:List Bool) (hs:Small ins gs outs) (hl:inb.length ≤ 700):∀ h nx,lim T 15 [circV e1 e2 e3 ins gs outs,.lst e (inb.map .bool)] h nx=some (runS false ins gs outs inb,h,nx):=by
 have c1:=@check_spec e1 e2 e3 ins gs outs hs
 unfold circV at c1
 obtain ⟨h1,h2,h3⟩:=id hs
 refine lim_iso tg15 rfl rfl (by simp [pures,pure_circ,pure_,pu5]) ?_
 simp (disch:=first | exact d_C4 | fail) only [c15,circV,c1,EVS,Nat.reduceAdd,Nat.reduceSub,Int.reduceToNat,Nat.reduceMul,Nat.reduceEqDiff,Nat.reduceLeDiff,Int.reduceEq,Int.reduceLT,Int.reduceLE,↓reduceIte]
 repeat' (refine Ok_if (fun hb=>?_) (fun hb=>?_)<;>have h:=hb<;>(try simp only [decide_eq_true_eq,decide_eq_false_iff_not,Int.not_lt,Int.not_le] at h)<;>(simp (disch:=first | exact d_C4 | fail) only [hb,c15,LAWS3,EVS,Nat.reduceAdd,Nat.reduceSub,Int.reduceToNat,Nat.reduceMul,Nat.reduceEqDiff,Nat.reduceLeDiff,Int.reduceEq,Int.reduceLT,Int.reduceLE,↓reduceIte])<;>(try clear hb))
 ·exact c12_loop1 ins gs outs inb hs (by omega) (by assumption) gs.length 0 _ (false::inb) (by omega) rfl (by simp;omega)
 ·unfold runS;rw [if_pos (by assumption),if_neg (by omega)]
 ·unfold runS;rw [if_neg (by assumption)]
end Go.Proofs.YtlcbcacnbjekpaaDoor.Fi
namespace Go.Proofs.YtlcbcacnbjekpaaDoor.Fi
open Go.FI.BC
open Go.FI
theorem d_C3 {P:Prop} (h:P:=by first|omega|(simp only[EVL]<;>omega)|(simp only[hget_c,Nat.reduceEqDiff,↓reduceIte];done)|assumption|(simp (disch:=omega) only[hg_ne,hg_eq,hgs_ne, *];done)|(simp only [LAWS];done)|with_unfolding_all rfl):P:=h
theorem check_spec' {e1 e2 e3 ins gs outs} (hs:Small ins gs outs):∀ h nx,lim T 12 [.agg [.lst e1 (ins.map inV),.lst e2 (gs.map gateV),.lst e3 (outs.map intV)]] h nx=some (.int .i64 (chkS ins gs outs),h,nx):=check_spec hs
theorem c7_loop {e1 e2 e3} (ins:In) (gs:Ga) (outs:List Int) (o:Int) (hs:Small ins gs outs) (hk:chkS ins gs outs=0) (ho:0 ≤ o) (ho':o < outs.length) (hn:(1:Int) + ins.length + gs.length ≤ 5000) :
  ∀ (k i n nx:Nat) (h:Heap) (rs:List FV),i + k=gs.length→n=rs.length→38 ≤ nx→hget h 0=some (.row 3 [circV e1 e2 e3 ins gs outs])→hget h 2=some (.row 1 rs)→RdL h 2 nx rs (clS ins.length gs i) →
  @Ok Out (runs T [.code b17_0,.inL none b17_0,.inB 0,.code k17_1] [(1,.int .i64 o),(2,.ptr 0 1 0 0),(4,.int .i64 (1 + ins.length + gs.length)),(5,.sref 1 2 n 0 n),(42,.lst e2 (gs.map gateV)),(43,.int .i64 gs.length),(44,.int .i64 i)] h nx)
   ⟨fun x=>resV c17.res x=some (clausesS false ins gs outs o)⟩:=by
 obtain ⟨g1,g2,g3⟩:=chk_good hk
 intro k
 induction k with
 |zero =>
  intro i n nx h rs hi hrs hnx h0 h2 hrd
  have:¬ (i:Int) < gs.length:=by omega
  have ol:=g3 o.toNat (by omega)
  unfold goodO at ol
  have lo:=literal_spec (outs.getD o.toNat 0) (by omega) (by omega)
  have hoc:(o.toNat:Int)=o:=by omega
  have hl:=hrd.length
  rw [clS_len] at hl
  simp (disch:=first | exact d_C3 | fail) only [unf b17_0.eq_1,unf k17_1.eq_1,c17,circV,this,LAWS,Nat.add_assoc,h0,h2,lo,hgs_eq h2,EVS,Nat.reduceAdd,Nat.reduceSub,Int.reduceToNat,Nat.reduceMul,Nat.reduceEqDiff,Nat.reduceLeDiff,Int.reduceEq,Int.reduceLT,Int.reduceLE,↓reduceIte]
  have hi':i=gs.length:=by omega
  subst hi'
  rw [RdL.frz (q:=clS ins.length gs gs.length ++ [[litS (outs.getD o.toNat 0)]]) (a:=2) (b:=nx + 10)]
  ·unfold clausesS
   rw [if_pos hk,if_neg (by omega),if_neg (by omega)]
   simp (disch:=first | exact d_C3 | fail) only [EVS,Nat.reduceAdd,Nat.reduceSub,Int.reduceToNat,Nat.reduceMul,Nat.reduceEqDiff,Nat.reduceLeDiff,Int.reduceEq,Int.reduceLT,Int.reduceLE,↓reduceIte]
  ·refine RdL.append ?_ (hrd.mono (by omega) fun id k1 k2=>?_)
   ·refine ⟨⟨nx + 9,rfl,by omega,by omega,?_⟩,trivial⟩
    simp (disch:=omega) only [hg_ne,hgs_ne,hg_eq,List.map_cons,List.map_nil,intV]
   ·simp (disch:=omega) only [hg_ne,hgs_ne]
  ·intro l hl
   rw [List.mem_append] at hl
   rcases hl with hl | hl
   ·exact clS_short _ _ _ l hl
   ·simp at hl;subst hl;simp
  ·simp only [List.length_append,List.length_cons,List.length_nil];obtain ⟨s1,s2,s3⟩:=hs;omega
 |succ k ih =>
  intro i n nx h rs hi hrs hnx h0 h2 hrd
  have:(i:Int) < gs.length:=by omega
  have gi:=g2 i (by omega)
  unfold goodG at gi
  have la:=literal_spec (gs.getD i (0,0)).1 (by omega) (by omega)
  have lb:=literal_spec (gs.getD i (0,0)).2 (by omega) (by omega)
  have ba:=litS_bd (l:=(gs.getD i (0,0)).1) (by omega) (by omega)
  have bb:=litS_bd (l:=(gs.getD i (0,0)).2) (by omega) (by omega)
  have hl:=hrd.length
  rw [clS_len] at hl
  simp (disch:=first | exact d_C3 | fail) only [unf b17_0.eq_1,c17,circV,this,LAWS,Nat.add_assoc,la,lb,h0,h2,EVS,Nat.reduceAdd,Nat.reduceSub,Int.reduceToNat,Nat.reduceMul,Nat.reduceEqDiff,Nat.reduceLeDiff,Int.reduceEq,Int.reduceLT,Int.reduceLE,↓reduceIte]
  refine Ok_inL0 (ih (i + 1) _ _ _ (rs ++ [.sref 1 (nx + 26) 2 0 2,.sref 1 (nx + 30) 2 0 2,.sref 1 (nx + 36) 3 0 3]) (by omega) ?_ (by omega) ?_ ?_ ?_)
  rotate_left 3
  ·refine RdL.append ?_ (hrd.mono (by omega) fun id k1 k2=>?_)
   rotate_left
   ·simp (disch:=omega) only [hg_ne,hgs_ne]
   ·refine ⟨⟨nx + 26,rfl,by omega,by omega,?_⟩,⟨nx + 30,rfl,by omega,by omega,?_⟩,⟨nx + 36,rfl,by omega,by omega,?_⟩,trivial⟩
    all_goals simp (disch:=omega) only [hg_ne,hgs_ne,hg_eq]
    all_goals simp [intV]
    all_goals omega
  ·simp only [List.length_append,List.length_cons,List.length_nil];omega
  ·simp (disch:=omega) only [hg_ne,hgs_ne,h0]
  ·simp (disch:=omega) only [hg_ne,hgs_eq h2]
theorem clauses_spec {e1 e2 e3 ins gs outs} (o:Int) (hs:Small ins gs outs):∀ h nx,lim T 17 [circV e1 e2 e3 ins gs outs,.int .i64 o] h nx=some (clausesS false ins gs outs o,h,nx):=by
 have c1:=@check_spec' e1 e2 e3 ins gs outs hs
 obtain ⟨h1,h2,h3⟩:=id hs
 refine lim_iso tg17 rfl rfl (by simp [pures,pure_circ,pure_]) ?_
 simp (disch:=first | exact d_C3 | fail) only [c17,circV,c1,EVS,Nat.reduceAdd,Nat.reduceSub,Int.reduceToNat,Nat.reduceMul,Nat.reduceEqDiff,Nat.reduceLeDiff,Int.reduceEq,Int.reduceLT,Int.reduceLE,↓reduceIte]
 repeat' (refine Ok_if (fun hb=>?_) (fun hb=>?_)<;>have h:=hb<;>(try simp only [decide_eq_true_eq,decide_eq_false_iff_not,Int.not_lt,Int.not_le] at h)<;>(simp (disch:=first | exact d_C3 | fail) only [hb,c17,EVS,Nat.reduceAdd,Nat.reduceSub,Int.reduceToNat,Nat.reduceMul,Nat.reduceEqDiff,Nat.reduceLeDiff,Int.reduceEq,Int.reduceLT,Int.reduceLE,↓reduceIte])<;>(try clear hb))
 ·unfold clausesS;rw [if_pos (by assumption),if_pos (by omega)]
 ·unfold clausesS;rw [if_pos (by assumption),if_pos (by omega)]
 ·unfold clausesS;rw [if_pos (by assumption),if_neg (by omega),if_pos (by omega)]
 ·refine c7_loop (e1:=e1) (e2:=e2) (e3:=e3) ins gs outs o hs (by assumption) (by omega) (by omega) (by omega) gs.length 0 1 38 _ [.sref 1 30 1 0 1] (by omega) rfl (by omega) ?_ ?_ ?_
  ·rfl
  ·rfl
  ·exact ⟨⟨30,rfl,by omega,by omega,rfl⟩,trivial⟩
 ·unfold clausesS;rw [if_neg (by assumption)]
end Go.Proofs.YtlcbcacnbjekpaaDoor.Fi
