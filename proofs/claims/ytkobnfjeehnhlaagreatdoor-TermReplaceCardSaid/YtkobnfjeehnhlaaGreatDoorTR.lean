/- The code of the functions,in the interpreter's form: the other half,and the table. -/
import Derived.Test.YtkobnfjeehnhlaaGreatDoorTRa
set_option linter.all false
namespace Go.Proofs.YtkobnfjeehnhlaaGreatDoor.Fi
open Go.FI
def b115_0:C:=(.sq (.rg none [Qo 10 (.bo .lss (.t 9) (.c (.int .i64 65)))] [2,3,9,10]) (.sq (.cd (.t 10) .sk (.xt 0)) (.sq (.bl 1 (.sq (.rg none [Mv 11 9,Mv 4 11] [2,3,4,9]) (.sq (.rg none [Mv 12 4,Qo 13 (.cl 108 [(.t 12)]),Mv 14 3,Qo 15 (.bo .eql (.t 13) (.t 14))] [2,3,4,9,15]) (.cd (.t 15) (.sq (.rg none [Mv 16 4,Mv 2 16] [2]) .rt) .sk)))) (.rg none [Qo 17 (.bo .add (.t 9) (.c (.int .i64 1))),Mv 9 17] [2,3,9]))))
def k115_1:C:=(.rq [Qo 18 (.bd [] []),Qo 19 (.mi 105 (.t 18)),Eo (.pn (.t 19))] [2])
def c115:FI.Fn:={ body:=(.sq (.rg none [Qo 2 (.mv (.c (.int .i64 0)))] [0,2]) (.sq (.rq [Mv 5 0,Qo 6 (.cl 112 [(.t 5),(.c (.int .u8 32))])] [0,2]) (.sq (.rg none [Mv 7 0,Qo 8 (.cl 114 [(.t 7)]),Mv 3 8] [2,3]) (.sq (.sq (.rg none [Qo 9 (.mv (.c (.int .i64 0)))] [2,3,9]) (.bl 0 (.lp true b115_0))) k115_1)))),np:=1,res:=[.t 2],mode:=.shr }
def c116:FI.Fn:={ body:=(.rg none [Qo 3 (.ld (some 6) (.t 1)),Mv 4 0,Qo 5 (.cl 117 [(.t 3),(.t 4)])] []),np:=2,res:=[],mode:=.shr }
def b117_0:C:=(.sq (.rg none [Qo 15 (.bo .lss (.t 14) (.t 13))] [1,12,13,14,15]) (.sq (.cd (.t 15) .sk (.xt 0)) (.sq (.bl 1 (.sq (.rg none [Qo 16 (.ia 6 (.t 12) (.t 14)),Qo 17 (.ld (some 6) (.t 16)),Qo 6 (.al 6 (.agg [(.int .u8 0),(.int .i64 0),(.int .u64 0),(.str []),(.int .i64 0),(.lst true [])])),Eo (.st 6 (.t 6) (.t 17))] [1,6,12,13,14]) (.sq (.rg none [Qo 18 (.ld (some 6) (.t 6)),Mv 19 1,Qo 20 (.cl 117 [(.t 18),(.t 19)]),Qo 21 (.un .not (.t 20))] [1,12,13,14,21]) (.cd (.t 21) (.sq (.rg none [Qo 4 (.mv (.c (.bool false)))] [4]) .rt) .sk)))) (.rg none [Qo 22 (.bo .add (.t 14) (.c (.int .i64 1))),Mv 14 22] [1,12,13,14]))))
def k117_1:C:=(.sq (.rg none [Qo 4 (.mv (.c (.bool true)))] [4]) .rt)
def c117:FI.Fn:={ body:=(.sq (.rg none [Qo 2 (.bx 6 (.t 0)),Qo 4 (.mv (.c (.bool false)))] [1,2]) (.sq (.sq (.rg none [Mv 7 1,Qo 8 (.ld (some 6) (.t 2)),Qo 9 (.cw (.t 7) [(.t 8)]),Qo 10 (.un .not (.t 9))] [1,2,10]) (.cd (.t 10) (.sq (.rg none [Qo 4 (.mv (.c (.bool false)))] [4]) .rt) .sk)) (.sq (.sq (.rg none [Qo 11 (.fa 5 (.t 2)),Qo 12 (.ld none (.t 11)),Qo 13 (.ln 1 (.t 12)),Qo 14 (.mv (.c (.int .i64 0)))] [1,12,13,14]) (.bl 0 (.lp false b117_0))) k117_1))),np:=2,res:=[.t 4],mode:=.shr }
def c118:FI.Fn:={ body:=(.sq (.rg none [Qo 2 (.al 3 (.agg [(.str []),(.int .i64 0),(.int .i64 0)])),Qo 3 (.mv (.c (.bool false)))] [0,2]) (.sq (.sq (.rg none [Mv 4 0,Qo 5 (.bo .gtr (.t 4) (.c (.int .u8 24)))] [0,2,5]) (.cd (.t 5) (.sq (.rg none [Qo 6 (.bd [(.str []),(.int .i64 0),(.int .i64 0)] []),Eo (.st 3 (.t 2) (.t 6)),Qo 3 (.mv (.c (.bool false)))] [2,3]) .rt) .sk)) (.sq (.rg (some (List.range 10)) [Mv 7 0,Qo 8 (.aa 25 3 (.c (.eptr gl0 0)) (.t 7)),Qo 9 (.ld (some 3) (.t 8)),Mv 10 0,Qo 11 (.aa 25 3 (.c (.eptr gl0 0)) (.t 10)),Qo 12 (.fa 1 (.t 11)),Qo 13 (.ld none (.t 12)),Qo 14 (.bo .gtr (.t 13) (.c (.int .i64 0))),⟨none,none,.st 3 (.t 2) (.t 9),[(none,none,12,13)]⟩,Mv 3 14] [2,3]) .rt))),np:=1,res:=[.cell 2 (some 3),.t 3],mode:=.iso }
def c119:FI.Fn:={ body:=(.sq (.rg none [Qo 2 (.bx 6 (.t 0)),Qo 4 (.mv (.c (.bool false)))] [1,2]) (.sq (.rg none [Qo 7 (.fa 1 (.t 2)),Qo 8 (.ld none (.t 7)),Qo 5 (.al 1 (.int .i64 0)),Eo (.st 1 (.t 5) (.t 8))] [1,2,5]) (.sq (.rg none [Qo 9 (.fa 5 (.t 2)),Qo 10 (.ld none (.t 9)),Qo 11 (.ia 6 (.t 10) (.c (.int .i64 0))),Qo 12 (.fa 1 (.t 11)),Qo 13 (.ld none (.t 12)),Mv 6 13] [1,2,5,6]) (.sq (.sq (.rg none [Mv 14 1] [2,5,6,14]) (.bl 0 (.sq (.rg none [Qo 16 (.bo .eql (.t 14) (.c (.int .i64 1))),Mv 15 16] [2,5,6,14,15]) (.cd (.t 15) (.sq (.rg none [Qo 17 (.fa 5 (.t 2)),Qo 18 (.ld none (.t 17)),Qo 19 (.mf 154 [(.t 5)]),Qo 20 (.cl 153 [(.t 18),(.t 19)]),Qo 21 (.un .not (.t 20)),Mv 4 21] [4]) .rt) (.sq (.rg none [Qo 23 (.bo .eql (.t 14) (.c (.int .i64 2))),Mv 22 23] [2,5,6,14,22]) (.cd (.t 22) (.sq (.rg none [Qo 24 (.ld none (.t 5)),Qo 25 (.bo .eql (.t 24) (.c (.int .i64 1))),Mv 26 25,Gd 27 26 true (.fa 5 (.t 2)),Gd 28 26 true (.ld none (.t 27)),Gd 29 26 true (.ia 6 (.t 28) (.c (.int .i64 1))),Gd 30 26 true (.fa 1 (.t 29)),Gd 31 26 true (.ld none (.t 30)),Gm 32 26 true 6,Gd 33 26 true (.bo .eql (.t 31) (.t 32)),Qo 34 (.pk (.t 26) (.t 33) (.c (.bool false))),Mv 4 34] [4]) .rt) (.sq (.rg none [Qo 36 (.bo .eql (.t 14) (.c (.int .i64 3))),Mv 35 36] [2,5,6,14,35]) (.cd (.t 35) (.sq (.rg (some (List.range 21)) [Mv 37 6,Qo 38 (.bo .eql (.t 37) (.c (.int .i64 1))),Mv 39 38,Gd 40 39 true (.fa 5 (.t 2)),Gd 41 39 true (.ld none (.t 40)),Gd 42 39 true (.ia 6 (.t 41) (.c (.int .i64 1))),Gd 43 39 true (.fa 1 (.t 42)),Gd 44 39 true (.ld none (.t 43)),Gd 45 39 true (.ld none (.t 5)),Gd 46 39 true (.bo .eql (.t 44) (.t 45)),Qo 47 (.pk (.t 39) (.t 46) (.c (.bool false))),Mv 48 47,Gd 49 48 true (.fa 5 (.t 2)),Gd 50 48 true (.ld none (.t 49)),Gd 51 48 true (.ia 6 (.t 50) (.c (.int .i64 2))),Gd 52 48 true (.fa 1 (.t 51)),Gd 53 48 true (.ld none (.t 52)),Gd 54 48 true (.ld none (.t 5)),Gd 55 48 true (.bo .eql (.t 53) (.t 54)),Qo 56 (.pk (.t 48) (.t 55) (.c (.bool false))),Mv 4 56] [4]) .rt) (.sq (.rg none [Qo 58 (.bo .eql (.t 14) (.c (.int .i64 4))),Mv 57 58] [2,5,6,14,57]) (.cd (.t 57) (.sq (.rg (some (List.range 22)) [Mv 59 6,Qo 60 (.cl 48 [(.t 59)]),Mv 61 60,Gd 62 61 true (.fa 5 (.t 2)),Gd 63 61 true (.ld none (.t 62)),Gd 64 61 true (.ia 6 (.t 63) (.c (.int .i64 1))),Gd 65 61 true (.fa 1 (.t 64)),Gd 66 61 true (.ld none (.t 65)),Gd 67 61 true (.cl 48 [(.t 66)]),Qo 68 (.pk (.t 61) (.t 67) (.c (.bool false))),Mv 69 68,Gm 70 69 true 6,Gd 71 69 true (.fa 5 (.t 2)),Gd 72 69 true (.ld none (.t 71)),Gd 73 69 true (.ia 6 (.t 72) (.c (.int .i64 1))),Gd 74 69 true (.fa 1 (.t 73)),Gd 75 69 true (.ld none (.t 74)),Gd 76 69 true (.bo .add (.t 70) (.t 75)),Gd 77 69 true (.ld none (.t 5)),Gd 78 69 true (.bo .eql (.t 76) (.t 77)),Qo 79 (.pk (.t 69) (.t 78) (.c (.bool false))),Mv 4 79] [4]) .rt) (.sq (.rg none [Qo 81 (.bo .eql (.t 14) (.c (.int .i64 5))),Mv 80 81] [2,5,6,14,80]) (.cd (.t 80) (.sq (.rg none [Qo 82 (.fa 4 (.t 2)),Qo 83 (.ld none (.t 82)),Qo 84 (.bo .geq (.t 83) (.c (.int .i64 0))),Mv 85 84,Gm 86 85 true 6,Gd 87 85 true (.cl 48 [(.t 86)]),Qo 88 (.pk (.t 85) (.t 87) (.c (.bool false))),Mv 89 88,Gd 90 89 true (.ld none (.t 5)),Gm 91 89 true 6,Gd 92 89 true (.bo .leq (.t 90) (.t 91)),Qo 93 (.pk (.t 89) (.t 92) (.c (.bool false))),Mv 94 93,Gd 95 94 true (.fa 4 (.t 2)),Gd 96 94 true (.ld none (.t 95)),Gm 97 94 true 6,Gd 98 94 true (.ld none (.t 5)),Gd 99 94 true (.bo .sub (.t 97) (.t 98)),Gd 100 94 true (.bo .leq (.t 96) (.t 99)),Qo 101 (.pk (.t 94) (.t 100) (.c (.bool false))),Mv 4 101] [4]) .rt) (.sq (.rg none [Qo 103 (.bo .eql (.t 14) (.c (.int .i64 6))),Mv 102 103] [5,6,102]) (.cd (.t 102) (.sq (.rg none [Mv 104 6,Qo 105 (.ld none (.t 5)),Qo 106 (.bo .leq (.t 104) (.t 105)),Mv 4 106] [4]) .rt) .sk)))))))))))))) (.sq (.rg none [Qo 107 (.ld none (.t 5)),Qo 108 (.cl 49 [(.t 107)]),Mv 4 108] [4]) .rt))))),np:=2,res:=[.t 4],mode:=.iso }
def c135:FI.Fn:={ body:=(.sq (.rg none [Qo 4 (.mv (.c (.str [])))] [0,1]) (.sq (.sq (.rg none [Mv 5 0,Mv 6 1,Qo 7 (.cl 149 [(.t 5),(.t 6)])] [0,1,7]) (.cd (.t 7) (.sq (.rg none [Mv 8 0,Mv 9 1,Qo 10 (.ln 0 (.t 9)),Qo 11 (.sl 0 (.t 8) (some (.t 10)) none),Mv 4 11] [4]) .rt) .sk)) (.sq (.rg none [Mv 12 0,Mv 4 12] [4]) .rt))),np:=2,res:=[.t 4],mode:=.iso }
def b136_0:C:=(.sq (.sq (.rg (some (List.range 17)) [Mv 18 9,Mv 19 1,Qo 20 (.bo .gtr (.t 18) (.t 19)),Mv 21 20,Gm 22 21 true 3,Gm 23 21 true 0,Gm 24 21 true 9,Gd 25 21 true (.ia 3 (.t 23) (.t 24)),Gd 26 21 true (.ld (some 3) (.t 25)),Gm 27 21 true 0,Gm 28 21 true 9,Gd 29 21 true (.bo .sub (.t 28) (.c (.int .i64 1))),Gd 30 21 true (.ia 3 (.t 27) (.t 29)),Gd 31 21 true (.ld (some 3) (.t 30)),Gd 32 21 true (.cw (.t 22) [(.t 26),(.t 31)]),Gd 33 21 true (.bo .lss (.t 32) (.c (.int .i64 0))),Qo 34 (.pk (.t 21) (.t 33) (.c (.bool false)))] [0,1,2,3,8,9,34]) (.cd (.t 34) .sk (.xt 2))) (.sq (.bl 3 (.rg (some (List.range 18)) [Mv 37 0,Mv 38 9,Mv 39 0,Mv 40 9,Qo 41 (.bo .sub (.t 40) (.c (.int .i64 1))),Mv 42 0,Mv 43 9,Qo 44 (.bo .sub (.t 43) (.c (.int .i64 1))),Qo 45 (.ia 3 (.t 42) (.t 44)),Qo 46 (.ld (some 3) (.t 45)),Mv 47 0,Mv 48 9,Qo 49 (.ia 3 (.t 47) (.t 48)),Qo 50 (.ld (some 3) (.t 49)),Qo 51 (.ia 3 (.t 37) (.t 38)),Eo (.st 3 (.t 51) (.t 46)),Qo 52 (.ia 3 (.t 39) (.t 41)),Eo (.st 3 (.t 52) (.t 50))] [0,1,2,3,8,9])) (.rg none [Mv 35 9,Qo 36 (.bo .sub (.t 35) (.c (.int .i64 1))),Mv 9 36] [0,1,2,3,8,9])))
def k136_1:C:=(.rg none [Mv 15 8,Qo 16 (.bo .add (.t 15) (.c (.int .i64 1))),Mv 8 16] [0,1,2,3,8])
def b136_2:C:=(.sq (.sq (.rg none [Mv 12 8,Mv 13 2,Qo 14 (.bo .lss (.t 12) (.t 13))] [0,1,2,3,8,14]) (.cd (.t 14) .sk (.xt 0))) (.sq (.bl 1 (.sq (.rg none [Mv 17 8,Mv 9 17] [0,1,2,3,8,9]) (.bl 2 (.lp false b136_0)))) k136_1))
def c136:FI.Fn:={ body:=(.sq (.rg none [Mv 10 1,Qo 11 (.bo .add (.t 10) (.c (.int .i64 1))),Mv 8 11] [0,1,2,3,8]) (.bl 0 (.lp false b136_2))),np:=4,res:=[],mode:=.shr }
def b137_0:C:=(.sq (.sq (.rg none [Mv 20 11,Qo 21 (.bo .geq (.t 20) (.c (.int .i64 0)))] [0,3,8,9,10,11,21]) (.cd (.t 21) .sk (.xt 0))) (.sq (.bl 1 (.rg none [Mv 24 0,Mv 25 11,Mv 26 10,Mv 27 8,Mv 28 3,Qo 29 (.cl 157 [(.t 24),(.t 25),(.t 26),(.t 27),(.t 28)])] [0,3,8,9,10,11])) (.rg none [Mv 22 11,Qo 23 (.bo .sub (.t 22) (.c (.int .i64 1))),Mv 11 23] [0,3,8,9,10,11])))
def b137_1:C:=(.sq (.sq (.rg none [Mv 32 12,Qo 33 (.bo .geq (.t 32) (.c (.int .i64 0)))] [0,3,8,9,12,33]) (.cd (.t 33) .sk (.xt 2))) (.sq (.bl 3 (.sq (.rg (some (List.range 20)) [Mv 36 0,Mv 37 8,Mv 38 0,Mv 39 8,Mv 40 12,Qo 41 (.bo .add (.t 39) (.t 40)),Mv 42 0,Mv 43 8,Mv 44 12,Qo 45 (.bo .add (.t 43) (.t 44)),Qo 46 (.ia 3 (.t 42) (.t 45)),Qo 47 (.ld (some 3) (.t 46)),Mv 48 0,Mv 49 8,Qo 50 (.ia 3 (.t 48) (.t 49)),Qo 51 (.ld (some 3) (.t 50)),Qo 52 (.ia 3 (.t 36) (.t 37)),Eo (.st 3 (.t 52) (.t 47)),Qo 53 (.ia 3 (.t 38) (.t 41)),Eo (.st 3 (.t 53) (.t 51))] [0,3,8,9,12]) (.rg none [Mv 54 0,Mv 55 9,Mv 56 12,Mv 57 8,Mv 58 3,Qo 59 (.cl 157 [(.t 54),(.t 55),(.t 56),(.t 57),(.t 58)])] [0,3,8,9,12]))) (.rg none [Mv 34 12,Qo 35 (.bo .sub (.t 34) (.c (.int .i64 1))),Mv 12 35] [0,3,8,9,12])))
def k137_2:C:=(.sq (.rg none [Mv 30 10,Qo 31 (.bo .sub (.t 30) (.c (.int .i64 1))),Mv 12 31] [0,3,8,9,12]) (.bl 2 (.lp false b137_1)))
def c137:FI.Fn:={ body:=(.sq (.rg none [Mv 13 1,Mv 8 13] [0,1,2,3,8]) (.sq (.rg none [Qo 9 (.mv (.c (.int .i64 0)))] [0,1,2,3,8,9]) (.sq (.rg none [Mv 14 2,Mv 15 1,Qo 16 (.bo .sub (.t 14) (.t 15)),Mv 10 16] [0,3,8,9,10]) (.sq (.sq (.rg none [Mv 17 10,Qo 18 (.bo .sub (.t 17) (.c (.int .i64 1))),Qo 19 (.bo .quo (.t 18) (.c (.int .i64 2))),Mv 11 19] [0,3,8,9,10,11]) (.bl 0 (.lp false b137_0))) k137_2)))),np:=4,res:=[],mode:=.shr }
def b138_0:C:=(.sq (.sq (.rg none [Mv 28 11,Mv 29 1,Mv 30 8,Qo 31 (.bo .quo (.t 30) (.c (.int .i64 4))),Qo 32 (.bo .mul (.t 31) (.c (.int .i64 2))),Qo 33 (.bo .add (.t 29) (.t 32)),Qo 34 (.bo .add (.t 33) (.c (.int .i64 1))),Qo 35 (.bo .leq (.t 28) (.t 34))] [0,1,8,9,10,11,35]) (.cd (.t 35) .sk (.xt 0))) (.sq (.bl 1 (.sq (.rg none [Qo 38 (.cl 159 [(.t 9)]),Mv 39 10,Qo 40 (.bo .sub (.t 39) (.c (.int .u64 1))),Qo 41 (.bo .and (.t 38) (.t 40)),Qo 42 (.cv .i64 (.t 41)),Mv 12 42] [0,1,8,9,10,11,12]) (.sq (.sq (.rg none [Mv 43 12,Mv 44 8,Qo 45 (.bo .geq (.t 43) (.t 44))] [0,1,8,9,10,11,12,45]) (.cd (.t 45) (.rg none [Mv 46 12,Mv 47 8,Qo 48 (.bo .sub (.t 46) (.t 47)),Mv 12 48] [0,1,8,9,10,11,12]) .sk)) (.rg (some (List.range 20)) [Mv 49 0,Mv 50 11,Mv 51 0,Mv 52 1,Mv 53 12,Qo 54 (.bo .add (.t 52) (.t 53)),Mv 55 0,Mv 56 1,Mv 57 12,Qo 58 (.bo .add (.t 56) (.t 57)),Qo 59 (.ia 3 (.t 55) (.t 58)),Qo 60 (.ld (some 3) (.t 59)),Mv 61 0,Mv 62 11,Qo 63 (.ia 3 (.t 61) (.t 62)),Qo 64 (.ld (some 3) (.t 63)),Qo 65 (.ia 3 (.t 49) (.t 50)),Eo (.st 3 (.t 65) (.t 60)),Qo 66 (.ia 3 (.t 51) (.t 54)),Eo (.st 3 (.t 66) (.t 64))] [0,1,8,9,10,11])))) (.rg none [Mv 36 11,Qo 37 (.bo .add (.t 36) (.c (.int .i64 1))),Mv 11 37] [0,1,8,9,10,11])))
def c138:FI.Fn:={ body:=(.sq (.rg none [Mv 13 2,Mv 14 1,Qo 15 (.bo .sub (.t 13) (.t 14)),Mv 8 15] [0,1,8]) (.sq (.rg none [Mv 16 8,Qo 17 (.bo .geq (.t 16) (.c (.int .i64 8)))] [0,1,8,17]) (.cd (.t 17) (.sq (.rg none [Mv 18 8,Qo 19 (.cv .u64 (.t 18)),Qo 9 (.al 1 (.int .u64 0)),Eo (.st 1 (.t 9) (.t 19))] [0,1,8,9]) (.sq (.rg none [Mv 20 8,Qo 21 (.cl 158 [(.t 20)]),Mv 10 21] [0,1,8,9,10]) (.sq (.rg none [Mv 22 1,Mv 23 8,Qo 24 (.bo .quo (.t 23) (.c (.int .i64 4))),Qo 25 (.bo .mul (.t 24) (.c (.int .i64 2))),Qo 26 (.bo .add (.t 22) (.t 25)),Qo 27 (.bo .sub (.t 26) (.c (.int .i64 1))),Mv 11 27] [0,1,8,9,10,11]) (.bl 0 (.lp false b138_0))))) .sk))),np:=4,res:=[],mode:=.shr }
def c139:FI.Fn:={ body:=(.sq (.rg none [Qo 8 (.mv (.c (.int .i64 0))),Qo 9 (.mv (.c (.int .i64 0)))] [0,1,2,3]) (.sq (.rg none [Mv 15 2,Mv 16 1,Qo 17 (.bo .sub (.t 15) (.t 16)),Mv 10 17] [0,1,3,10]) (.sq (.rg none [Qo 11 (.al 1 (.int .i64 0))] [0,1,3,10,11]) (.sq (.rg none [Mv 18 1,Mv 19 10,Qo 20 (.bo .quo (.t 19) (.c (.int .i64 4))),Qo 21 (.bo .mul (.t 20) (.c (.int .i64 1))),Qo 22 (.bo .add (.t 18) (.t 21)),Mv 12 22] [0,1,3,10,11,12]) (.sq (.rg none [Mv 23 1,Mv 24 10,Qo 25 (.bo .quo (.t 24) (.c (.int .i64 4))),Qo 26 (.bo .mul (.t 25) (.c (.int .i64 2))),Qo 27 (.bo .add (.t 23) (.t 26)),Mv 13 27] [0,1,3,10,11,12,13]) (.sq (.rg none [Mv 28 1,Mv 29 10,Qo 30 (.bo .quo (.t 29) (.c (.int .i64 4))),Qo 31 (.bo .mul (.t 30) (.c (.int .i64 3))),Qo 32 (.bo .add (.t 28) (.t 31)),Mv 14 32] [0,3,10,11,12,13,14]) (.sq (.sq (.rg none [Mv 33 10,Qo 34 (.bo .geq (.t 33) (.c (.int .i64 8)))] [0,3,10,11,12,13,14,34]) (.cd (.t 34) (.sq (.sq (.rg none [Mv 35 10,Qo 36 (.bo .geq (.t 35) (.c (.int .i64 50)))] [0,3,11,12,13,14,36]) (.cd (.t 36) (.sq (.rg none [Mv 37 0,Mv 38 12,Mv 39 3,Qo 40 (.cl 160 [(.t 37),(.t 38),(.t 11),(.t 39)]),Mv 12 40] [0,3,11,12,13,14]) (.sq (.rg none [Mv 41 0,Mv 42 13,Mv 43 3,Qo 44 (.cl 160 [(.t 41),(.t 42),(.t 11),(.t 43)]),Mv 13 44] [0,3,11,12,13,14]) (.rg none [Mv 45 0,Mv 46 14,Mv 47 3,Qo 48 (.cl 160 [(.t 45),(.t 46),(.t 11),(.t 47)]),Mv 14 48] [0,3,11,12,13,14]))) .sk)) (.rg none [Mv 49 0,Mv 50 12,Mv 51 13,Mv 52 14,Mv 53 3,Qo 54 (.cl 161 [(.t 49),(.t 50),(.t 51),(.t 52),(.t 11),(.t 53)]),Mv 13 54] [11,13])) .sk)) (.sq (.rg none [Qo 55 (.ld none (.t 11))] [13,55]) (.bl 0 (.sq (.rg none [Qo 58 (.bo .eql (.t 55) (.c (.int .i64 0))),Mv 57 58] [13,55,57]) (.cd (.t 57) (.sq (.rg none [Mv 59 13,Mv 8 59,Qo 9 (.mv (.c (.int .i64 1)))] [8,9]) .rt) (.sq (.rg none [Qo 61 (.bo .eql (.t 55) (.c (.int .i64 12))),Mv 60 61] [13,60]) (.cd (.t 60) (.sq (.rg none [Mv 62 13,Mv 8 62,Qo 9 (.mv (.c (.int .i64 2)))] [8,9]) .rt) (.sq (.rg none [Mv 56 13,Mv 8 56,Qo 9 (.mv (.c (.int .i64 0)))] [8,9]) .rt)))))))))))))),np:=4,res:=[.t 8,.t 9],mode:=.shr }
def b140_0:C:=(.sq (.sq (.rg none [Mv 13 8,Mv 14 9,Qo 15 (.bo .lss (.t 13) (.t 14))] [0,8,9,15]) (.cd (.t 15) .sk (.xt 0))) (.bl 1 (.sq (.rg (some (List.range 16)) [Mv 16 0,Mv 17 8,Mv 18 0,Mv 19 9,Mv 20 0,Mv 21 9,Qo 22 (.ia 3 (.t 20) (.t 21)),Qo 23 (.ld (some 3) (.t 22)),Mv 24 0,Mv 25 8,Qo 26 (.ia 3 (.t 24) (.t 25)),Qo 27 (.ld (some 3) (.t 26)),Qo 28 (.ia 3 (.t 16) (.t 17)),Eo (.st 3 (.t 28) (.t 23)),Qo 29 (.ia 3 (.t 18) (.t 19)),Eo (.st 3 (.t 29) (.t 27))] [0,8,9]) (.sq (.rg none [Mv 30 8,Qo 31 (.bo .add (.t 30) (.c (.int .i64 1))),Mv 8 31] [0,8,9]) (.rg none [Mv 32 9,Qo 33 (.bo .sub (.t 32) (.c (.int .i64 1))),Mv 9 33] [0,8,9])))))
def c140:FI.Fn:={ body:=(.sq (.rg none [Mv 10 1,Mv 8 10] [0,2,8]) (.sq (.rg none [Mv 11 2,Qo 12 (.bo .sub (.t 11) (.c (.int .i64 1))),Mv 9 12] [0,8,9]) (.bl 0 (.lp false b140_0)))),np:=4,res:=[],mode:=.shr }
def b141_0:C:=(.sq (.sq (.rg (some (List.range 18)) [Mv 19 9,Mv 20 2,Qo 21 (.bo .lss (.t 19) (.t 20)),Mv 22 21,Gm 23 22 true 3,Gm 24 22 true 0,Gm 25 22 true 9,Gd 26 22 true (.ia 3 (.t 24) (.t 25)),Gd 27 22 true (.ld (some 3) (.t 26)),Gm 28 22 true 0,Gm 29 22 true 9,Gd 30 22 true (.bo .sub (.t 29) (.c (.int .i64 1))),Gd 31 22 true (.ia 3 (.t 28) (.t 30)),Gd 32 22 true (.ld (some 3) (.t 31)),Gd 33 22 true (.cw (.t 23) [(.t 27),(.t 32)]),Gd 34 22 true (.bo .lss (.t 33) (.c (.int .i64 0))),Gd 35 22 true (.un .not (.t 34)),Qo 36 (.pk (.t 22) (.t 35) (.c (.bool false)))] [0,1,2,3,9,10,36]) (.cd (.t 36) .sk (.xt 2))) (.bl 3 (.rg none [Mv 37 9,Qo 38 (.bo .add (.t 37) (.c (.int .i64 1))),Mv 9 38] [0,1,2,3,9,10])))
def b141_1:C:=(.sq (.sq (.rg none [Mv 68 11,Qo 69 (.bo .geq (.t 68) (.c (.int .i64 1)))] [0,1,2,3,9,10,11,69]) (.cd (.t 69) .sk (.xt 4))) (.sq (.bl 5 (.sq (.sq (.rg (some (List.range 13)) [Mv 72 3,Mv 73 0,Mv 74 11,Qo 75 (.ia 3 (.t 73) (.t 74)),Qo 76 (.ld (some 3) (.t 75)),Mv 77 0,Mv 78 11,Qo 79 (.bo .sub (.t 78) (.c (.int .i64 1))),Qo 80 (.ia 3 (.t 77) (.t 79)),Qo 81 (.ld (some 3) (.t 80)),Qo 82 (.cw (.t 72) [(.t 76),(.t 81)]),Qo 83 (.bo .lss (.t 82) (.c (.int .i64 0))),Qo 84 (.un .not (.t 83))] [0,1,2,3,9,10,11,84]) (.cd (.t 84) (.xt 4) .sk)) (.rg (some (List.range 18)) [Mv 85 0,Mv 86 11,Mv 87 0,Mv 88 11,Qo 89 (.bo .sub (.t 88) (.c (.int .i64 1))),Mv 90 0,Mv 91 11,Qo 92 (.bo .sub (.t 91) (.c (.int .i64 1))),Qo 93 (.ia 3 (.t 90) (.t 92)),Qo 94 (.ld (some 3) (.t 93)),Mv 95 0,Mv 96 11,Qo 97 (.ia 3 (.t 95) (.t 96)),Qo 98 (.ld (some 3) (.t 97)),Qo 99 (.ia 3 (.t 85) (.t 86)),Eo (.st 3 (.t 99) (.t 94)),Qo 100 (.ia 3 (.t 87) (.t 89)),Eo (.st 3 (.t 100) (.t 98))] [0,1,2,3,9,10,11]))) (.rg none [Mv 70 11,Qo 71 (.bo .sub (.t 70) (.c (.int .i64 1))),Mv 11 71] [0,1,2,3,9,10,11])))
def b141_2:C:=(.sq (.sq (.rg none [Mv 107 12,Mv 108 2,Qo 109 (.bo .lss (.t 107) (.t 108))] [0,1,2,3,9,10,12,109]) (.cd (.t 109) .sk (.xt 6))) (.sq (.bl 7 (.sq (.sq (.rg (some (List.range 13)) [Mv 112 3,Mv 113 0,Mv 114 12,Qo 115 (.ia 3 (.t 113) (.t 114)),Qo 116 (.ld (some 3) (.t 115)),Mv 117 0,Mv 118 12,Qo 119 (.bo .sub (.t 118) (.c (.int .i64 1))),Qo 120 (.ia 3 (.t 117) (.t 119)),Qo 121 (.ld (some 3) (.t 120)),Qo 122 (.cw (.t 112) [(.t 116),(.t 121)]),Qo 123 (.bo .lss (.t 122) (.c (.int .i64 0))),Qo 124 (.un .not (.t 123))] [0,1,2,3,9,10,12,124]) (.cd (.t 124) (.xt 6) .sk)) (.rg (some (List.range 18)) [Mv 125 0,Mv 126 12,Mv 127 0,Mv 128 12,Qo 129 (.bo .sub (.t 128) (.c (.int .i64 1))),Mv 130 0,Mv 131 12,Qo 132 (.bo .sub (.t 131) (.c (.int .i64 1))),Qo 133 (.ia 3 (.t 130) (.t 132)),Qo 134 (.ld (some 3) (.t 133)),Mv 135 0,Mv 136 12,Qo 137 (.ia 3 (.t 135) (.t 136)),Qo 138 (.ld (some 3) (.t 137)),Qo 139 (.ia 3 (.t 125) (.t 126)),Eo (.st 3 (.t 139) (.t 134)),Qo 140 (.ia 3 (.t 127) (.t 129)),Eo (.st 3 (.t 140) (.t 138))] [0,1,2,3,9,10,12]))) (.rg none [Mv 110 12,Qo 111 (.bo .add (.t 110) (.c (.int .i64 1))),Mv 12 111] [0,1,2,3,9,10,12])))
def k141_3:C:=(.sq (.rg none [Mv 101 2,Mv 102 9,Qo 103 (.bo .sub (.t 101) (.t 102)),Qo 104 (.bo .geq (.t 103) (.c (.int .i64 2)))] [0,1,2,3,9,10,104]) (.cd (.t 104) (.sq (.rg none [Mv 105 9,Qo 106 (.bo .add (.t 105) (.c (.int .i64 1))),Mv 12 106] [0,1,2,3,9,10,12]) (.bl 6 (.lp false b141_2))) .sk))
def k141_4:C:=(.sq (.sq (.rg none [Mv 39 9,Mv 40 2,Qo 41 (.bo .eql (.t 39) (.t 40))] [0,1,2,3,9,10,41]) (.cd (.t 41) (.sq (.rg none [Qo 8 (.mv (.c (.bool true)))] [8]) .rt) .sk)) (.sq (.sq (.rg none [Mv 42 2,Mv 43 1,Qo 44 (.bo .sub (.t 42) (.t 43)),Qo 45 (.bo .lss (.t 44) (.c (.int .i64 50)))] [0,1,2,3,9,10,45]) (.cd (.t 45) (.sq (.rg none [Qo 8 (.mv (.c (.bool false)))] [8]) .rt) .sk)) (.sq (.rg (some (List.range 18)) [Mv 46 0,Mv 47 9,Mv 48 0,Mv 49 9,Qo 50 (.bo .sub (.t 49) (.c (.int .i64 1))),Mv 51 0,Mv 52 9,Qo 53 (.bo .sub (.t 52) (.c (.int .i64 1))),Qo 54 (.ia 3 (.t 51) (.t 53)),Qo 55 (.ld (some 3) (.t 54)),Mv 56 0,Mv 57 9,Qo 58 (.ia 3 (.t 56) (.t 57)),Qo 59 (.ld (some 3) (.t 58)),Qo 60 (.ia 3 (.t 46) (.t 47)),Eo (.st 3 (.t 60) (.t 55)),Qo 61 (.ia 3 (.t 48) (.t 50)),Eo (.st 3 (.t 61) (.t 59))] [0,1,2,3,9,10]) (.sq (.sq (.rg none [Mv 62 9,Mv 63 1,Qo 64 (.bo .sub (.t 62) (.t 63)),Qo 65 (.bo .geq (.t 64) (.c (.int .i64 2)))] [0,1,2,3,9,10,65]) (.cd (.t 65) (.sq (.rg none [Mv 66 9,Qo 67 (.bo .sub (.t 66) (.c (.int .i64 1))),Mv 11 67] [0,1,2,3,9,10,11]) (.bl 4 (.lp false b141_1))) .sk)) k141_3))))
def k141_5:C:=(.rg none [Mv 17 10,Qo 18 (.bo .add (.t 17) (.c (.int .i64 1))),Mv 10 18] [0,1,2,3,9,10])
def b141_6:C:=(.sq (.sq (.rg none [Mv 15 10,Qo 16 (.bo .lss (.t 15) (.c (.int .i64 5)))] [0,1,2,3,9,10,16]) (.cd (.t 16) .sk (.xt 0))) (.sq (.bl 1 (.sq (.bl 2 (.lp false b141_0)) k141_4)) k141_5))
def k141_7:C:=(.sq (.rg none [Qo 8 (.mv (.c (.bool false)))] [8]) .rt)
def c141:FI.Fn:={ body:=(.sq (.rg none [Qo 8 (.mv (.c (.bool false)))] [0,1,2,3]) (.sq (.rg none [Mv 13 1,Qo 14 (.bo .add (.t 13) (.c (.int .i64 1))),Mv 9 14] [0,1,2,3,9]) (.sq (.sq (.rg none [Qo 10 (.mv (.c (.int .i64 0)))] [0,1,2,3,9,10]) (.bl 0 (.lp false b141_6))) k141_7))),np:=4,res:=[.t 8],mode:=.shr }
def b142_0:C:=(.sq (.sq (.rg (some (List.range 17)) [Mv 31 11,Mv 32 12,Qo 33 (.bo .leq (.t 31) (.t 32)),Mv 34 33,Gm 35 34 true 4,Gm 36 34 true 0,Gm 37 34 true 1,Gd 38 34 true (.ia 3 (.t 36) (.t 37)),Gd 39 34 true (.ld (some 3) (.t 38)),Gm 40 34 true 0,Gm 41 34 true 11,Gd 42 34 true (.ia 3 (.t 40) (.t 41)),Gd 43 34 true (.ld (some 3) (.t 42)),Gd 44 34 true (.cw (.t 35) [(.t 39),(.t 43)]),Gd 45 34 true (.bo .lss (.t 44) (.c (.int .i64 0))),Gd 46 34 true (.un .not (.t 45)),Qo 47 (.pk (.t 34) (.t 46) (.c (.bool false)))] [0,1,4,11,12,47]) (.cd (.t 47) .sk (.xt 2))) (.bl 3 (.rg none [Mv 48 11,Qo 49 (.bo .add (.t 48) (.c (.int .i64 1))),Mv 11 49] [0,1,4,11,12])))
def b142_1:C:=(.sq (.sq (.rg (some (List.range 16)) [Mv 50 11,Mv 51 12,Qo 52 (.bo .leq (.t 50) (.t 51)),Mv 53 52,Gm 54 53 true 4,Gm 55 53 true 0,Gm 56 53 true 1,Gd 57 53 true (.ia 3 (.t 55) (.t 56)),Gd 58 53 true (.ld (some 3) (.t 57)),Gm 59 53 true 0,Gm 60 53 true 12,Gd 61 53 true (.ia 3 (.t 59) (.t 60)),Gd 62 53 true (.ld (some 3) (.t 61)),Gd 63 53 true (.cw (.t 54) [(.t 58),(.t 62)]),Gd 64 53 true (.bo .lss (.t 63) (.c (.int .i64 0))),Qo 65 (.pk (.t 53) (.t 64) (.c (.bool false)))] [0,1,4,11,12,65]) (.cd (.t 65) .sk (.xt 4))) (.bl 5 (.rg none [Mv 66 12,Qo 67 (.bo .sub (.t 66) (.c (.int .i64 1))),Mv 12 67] [0,1,4,11,12])))
def k142_2:C:=(.sq (.sq (.rg none [Mv 68 11,Mv 69 12,Qo 70 (.bo .gtr (.t 68) (.t 69))] [0,1,4,11,12,70]) (.cd (.t 70) (.xt 0) .sk)) (.sq (.rg (some (List.range 16)) [Mv 71 0,Mv 72 11,Mv 73 0,Mv 74 12,Mv 75 0,Mv 76 12,Qo 77 (.ia 3 (.t 75) (.t 76)),Qo 78 (.ld (some 3) (.t 77)),Mv 79 0,Mv 80 11,Qo 81 (.ia 3 (.t 79) (.t 80)),Qo 82 (.ld (some 3) (.t 81)),Qo 83 (.ia 3 (.t 71) (.t 72)),Eo (.st 3 (.t 83) (.t 78)),Qo 84 (.ia 3 (.t 73) (.t 74)),Eo (.st 3 (.t 84) (.t 82))] [0,1,4,11,12]) (.sq (.rg none [Mv 85 11,Qo 86 (.bo .add (.t 85) (.c (.int .i64 1))),Mv 11 86] [0,1,4,11,12]) (.rg none [Mv 87 12,Qo 88 (.bo .sub (.t 87) (.c (.int .i64 1))),Mv 12 88] [0,1,4,11,12]))))
def k142_3:C:=(.sq (.bl 4 (.lp false b142_1)) k142_2)
def b142_4:C:=(.bl 1 (.sq (.bl 2 (.lp false b142_0)) k142_3))
def k142_5:C:=(.sq (.rg none [Mv 89 11,Mv 10 89] [10]) .rt)
def c142:FI.Fn:={ body:=(.sq (.rg none [Qo 10 (.mv (.c (.int .i64 0)))] [0,1,2,3,4]) (.sq (.rg (some (List.range 16)) [Mv 13 0,Mv 14 1,Mv 15 0,Mv 16 3,Mv 17 0,Mv 18 3,Qo 19 (.ia 3 (.t 17) (.t 18)),Qo 20 (.ld (some 3) (.t 19)),Mv 21 0,Mv 22 1,Qo 23 (.ia 3 (.t 21) (.t 22)),Qo 24 (.ld (some 3) (.t 23)),Qo 25 (.ia 3 (.t 13) (.t 14)),Eo (.st 3 (.t 25) (.t 20)),Qo 26 (.ia 3 (.t 15) (.t 16)),Eo (.st 3 (.t 26) (.t 24))] [0,1,2,4]) (.sq (.rg none [Mv 27 1,Qo 28 (.bo .add (.t 27) (.c (.int .i64 1))),Mv 29 2,Qo 30 (.bo .sub (.t 29) (.c (.int .i64 1))),Mv 11 28,Mv 12 30] [0,1,4,11,12]) (.sq (.bl 0 (.lp false b142_4)) k142_5)))),np:=5,res:=[.t 10],mode:=.shr }
def b143_0:C:=(.sq (.sq (.rg (some (List.range 16)) [Mv 32 12,Mv 33 13,Qo 34 (.bo .leq (.t 32) (.t 33)),Mv 35 34,Gm 36 35 true 4,Gm 37 35 true 0,Gm 38 35 true 12,Gd 39 35 true (.ia 3 (.t 37) (.t 38)),Gd 40 35 true (.ld (some 3) (.t 39)),Gm 41 35 true 0,Gm 42 35 true 1,Gd 43 35 true (.ia 3 (.t 41) (.t 42)),Gd 44 35 true (.ld (some 3) (.t 43)),Gd 45 35 true (.cw (.t 36) [(.t 40),(.t 44)]),Gd 46 35 true (.bo .lss (.t 45) (.c (.int .i64 0))),Qo 47 (.pk (.t 35) (.t 46) (.c (.bool false)))] [0,1,4,12,13,47]) (.cd (.t 47) .sk (.xt 0))) (.bl 1 (.rg none [Mv 48 12,Qo 49 (.bo .add (.t 48) (.c (.int .i64 1))),Mv 12 49] [0,1,4,12,13])))
def b143_1:C:=(.sq (.sq (.rg (some (List.range 17)) [Mv 50 12,Mv 51 13,Qo 52 (.bo .leq (.t 50) (.t 51)),Mv 53 52,Gm 54 53 true 4,Gm 55 53 true 0,Gm 56 53 true 13,Gd 57 53 true (.ia 3 (.t 55) (.t 56)),Gd 58 53 true (.ld (some 3) (.t 57)),Gm 59 53 true 0,Gm 60 53 true 1,Gd 61 53 true (.ia 3 (.t 59) (.t 60)),Gd 62 53 true (.ld (some 3) (.t 61)),Gd 63 53 true (.cw (.t 54) [(.t 58),(.t 62)]),Gd 64 53 true (.bo .lss (.t 63) (.c (.int .i64 0))),Gd 65 53 true (.un .not (.t 64)),Qo 66 (.pk (.t 53) (.t 65) (.c (.bool false)))] [0,1,4,12,13,66]) (.cd (.t 66) .sk (.xt 2))) (.bl 3 (.rg none [Mv 67 13,Qo 68 (.bo .sub (.t 67) (.c (.int .i64 1))),Mv 13 68] [0,1,4,12,13])))
def b143_2:C:=(.sq (.sq (.rg (some (List.range 16)) [Mv 105 12,Mv 106 13,Qo 107 (.bo .leq (.t 105) (.t 106)),Mv 108 107,Gm 109 108 true 4,Gm 110 108 true 0,Gm 111 108 true 12,Gd 112 108 true (.ia 3 (.t 110) (.t 111)),Gd 113 108 true (.ld (some 3) (.t 112)),Gm 114 108 true 0,Gm 115 108 true 1,Gd 116 108 true (.ia 3 (.t 114) (.t 115)),Gd 117 108 true (.ld (some 3) (.t 116)),Gd 118 108 true (.cw (.t 109) [(.t 113),(.t 117)]),Gd 119 108 true (.bo .lss (.t 118) (.c (.int .i64 0))),Qo 120 (.pk (.t 108) (.t 119) (.c (.bool false)))] [0,1,4,12,13,120]) (.cd (.t 120) .sk (.xt 6))) (.bl 7 (.rg none [Mv 121 12,Qo 122 (.bo .add (.t 121) (.c (.int .i64 1))),Mv 12 122] [0,1,4,12,13])))
def b143_3:C:=(.sq (.sq (.rg (some (List.range 17)) [Mv 123 12,Mv 124 13,Qo 125 (.bo .leq (.t 123) (.t 124)),Mv 126 125,Gm 127 126 true 4,Gm 128 126 true 0,Gm 129 126 true 13,Gd 130 126 true (.ia 3 (.t 128) (.t 129)),Gd 131 126 true (.ld (some 3) (.t 130)),Gm 132 126 true 0,Gm 133 126 true 1,Gd 134 126 true (.ia 3 (.t 132) (.t 133)),Gd 135 126 true (.ld (some 3) (.t 134)),Gd 136 126 true (.cw (.t 127) [(.t 131),(.t 135)]),Gd 137 126 true (.bo .lss (.t 136) (.c (.int .i64 0))),Gd 138 126 true (.un .not (.t 137)),Qo 139 (.pk (.t 126) (.t 138) (.c (.bool false)))] [0,1,4,12,13,139]) (.cd (.t 139) .sk (.xt 8))) (.bl 9 (.rg none [Mv 140 13,Qo 141 (.bo .sub (.t 140) (.c (.int .i64 1))),Mv 13 141] [0,1,4,12,13])))
def k143_4:C:=(.sq (.sq (.rg none [Mv 142 12,Mv 143 13,Qo 144 (.bo .gtr (.t 142) (.t 143))] [0,1,4,12,13,144]) (.cd (.t 144) (.xt 4) .sk)) (.sq (.rg (some (List.range 16)) [Mv 145 0,Mv 146 12,Mv 147 0,Mv 148 13,Mv 149 0,Mv 150 13,Qo 151 (.ia 3 (.t 149) (.t 150)),Qo 152 (.ld (some 3) (.t 151)),Mv 153 0,Mv 154 12,Qo 155 (.ia 3 (.t 153) (.t 154)),Qo 156 (.ld (some 3) (.t 155)),Qo 157 (.ia 3 (.t 145) (.t 146)),Eo (.st 3 (.t 157) (.t 152)),Qo 158 (.ia 3 (.t 147) (.t 148)),Eo (.st 3 (.t 158) (.t 156))] [0,1,4,12,13]) (.sq (.rg none [Mv 159 12,Qo 160 (.bo .add (.t 159) (.c (.int .i64 1))),Mv 12 160] [0,1,4,12,13]) (.rg none [Mv 161 13,Qo 162 (.bo .sub (.t 161) (.c (.int .i64 1))),Mv 13 162] [0,1,4,12,13]))))
def k143_5:C:=(.sq (.bl 8 (.lp false b143_3)) k143_4)
def b143_6:C:=(.bl 5 (.sq (.bl 6 (.lp false b143_2)) k143_5))
def k143_7:C:=(.sq (.rg (some (List.range 16)) [Mv 163 0,Mv 164 13,Mv 165 0,Mv 166 1,Mv 167 0,Mv 168 1,Qo 169 (.ia 3 (.t 167) (.t 168)),Qo 170 (.ld (some 3) (.t 169)),Mv 171 0,Mv 172 13,Qo 173 (.ia 3 (.t 171) (.t 172)),Qo 174 (.ld (some 3) (.t 173)),Qo 175 (.ia 3 (.t 163) (.t 164)),Eo (.st 3 (.t 175) (.t 170)),Qo 176 (.ia 3 (.t 165) (.t 166)),Eo (.st 3 (.t 176) (.t 174))] [13]) (.sq (.rg none [Mv 177 13,Mv 10 177,Qo 11 (.mv (.c (.bool false)))] [10,11]) .rt))
def k143_8:C:=(.sq (.sq (.rg none [Mv 69 12,Mv 70 13,Qo 71 (.bo .gtr (.t 69) (.t 70))] [0,1,4,12,13,71]) (.cd (.t 71) (.sq (.rg (some (List.range 16)) [Mv 72 0,Mv 73 13,Mv 74 0,Mv 75 1,Mv 76 0,Mv 77 1,Qo 78 (.ia 3 (.t 76) (.t 77)),Qo 79 (.ld (some 3) (.t 78)),Mv 80 0,Mv 81 13,Qo 82 (.ia 3 (.t 80) (.t 81)),Qo 83 (.ld (some 3) (.t 82)),Qo 84 (.ia 3 (.t 72) (.t 73)),Eo (.st 3 (.t 84) (.t 79)),Qo 85 (.ia 3 (.t 74) (.t 75)),Eo (.st 3 (.t 85) (.t 83))] [13]) (.sq (.rg none [Mv 86 13,Mv 10 86,Qo 11 (.mv (.c (.bool true)))] [10,11]) .rt)) .sk)) (.sq (.rg (some (List.range 16)) [Mv 87 0,Mv 88 12,Mv 89 0,Mv 90 13,Mv 91 0,Mv 92 13,Qo 93 (.ia 3 (.t 91) (.t 92)),Qo 94 (.ld (some 3) (.t 93)),Mv 95 0,Mv 96 12,Qo 97 (.ia 3 (.t 95) (.t 96)),Qo 98 (.ld (some 3) (.t 97)),Qo 99 (.ia 3 (.t 87) (.t 88)),Eo (.st 3 (.t 99) (.t 94)),Qo 100 (.ia 3 (.t 89) (.t 90)),Eo (.st 3 (.t 100) (.t 98))] [0,1,4,12,13]) (.sq (.rg none [Mv 101 12,Qo 102 (.bo .add (.t 101) (.c (.int .i64 1))),Mv 12 102] [0,1,4,12,13]) (.sq (.rg none [Mv 103 13,Qo 104 (.bo .sub (.t 103) (.c (.int .i64 1))),Mv 13 104] [0,1,4,12,13]) (.sq (.bl 4 (.lp false b143_6)) k143_7)))))
def k143_9:C:=(.sq (.bl 2 (.lp false b143_1)) k143_8)
def c143:FI.Fn:={ body:=(.sq (.rg none [Qo 10 (.mv (.c (.int .i64 0))),Qo 11 (.mv (.c (.bool false)))] [0,1,2,3,4]) (.sq (.rg (some (List.range 16)) [Mv 14 0,Mv 15 1,Mv 16 0,Mv 17 3,Mv 18 0,Mv 19 3,Qo 20 (.ia 3 (.t 18) (.t 19)),Qo 21 (.ld (some 3) (.t 20)),Mv 22 0,Mv 23 1,Qo 24 (.ia 3 (.t 22) (.t 23)),Qo 25 (.ld (some 3) (.t 24)),Qo 26 (.ia 3 (.t 14) (.t 15)),Eo (.st 3 (.t 26) (.t 21)),Qo 27 (.ia 3 (.t 16) (.t 17)),Eo (.st 3 (.t 27) (.t 25))] [0,1,2,4]) (.sq (.rg none [Mv 28 1,Qo 29 (.bo .add (.t 28) (.c (.int .i64 1))),Mv 30 2,Qo 31 (.bo .sub (.t 30) (.c (.int .i64 1))),Mv 12 29,Mv 13 31] [0,1,4,12,13]) (.sq (.bl 0 (.lp false b143_0)) k143_9)))),np:=5,res:=[.t 10,.t 11],mode:=.shr }
def c144:FI.Fn:={ body:=(.sq (.rg none [Qo 2 (.mv (.c (.int .i64 0)))] [0,2]) (.sq (.sq (.rg none [Mv 3 0,Qo 4 (.bo .geq (.t 3) (.c (.int .u32 65536)))] [0,2,4]) (.cd (.t 4) (.sq (.rg none [Mv 5 0,Qo 6 (.bo .shr (.t 5) (.c (.int .u64 16))),Mv 0 6] [0]) (.rg none [Qo 2 (.mv (.c (.int .i64 16)))] [0,2])) .sk)) (.sq (.sq (.rg none [Mv 7 0,Qo 8 (.bo .geq (.t 7) (.c (.int .u32 256)))] [0,2,8]) (.cd (.t 8) (.sq (.rg none [Mv 9 0,Qo 10 (.bo .shr (.t 9) (.c (.int .u64 8))),Mv 0 10] [0,2]) (.rg none [Mv 11 2,Qo 12 (.bo .add (.t 11) (.c (.int .i64 8))),Mv 2 12] [0,2])) .sk)) (.sq (.rg none [Mv 13 2,Mv 14 0,Qo 15 (.cv .u8 (.t 14)),Qo 16 (.ix (.c (.str [0,1,2,2,3,3,3,3,4,4,4,4,4,4,4,4,5,5,5,5,5,5,5,5,5,5,5,5,5,5,5,5,6,6,6,6,6,6,6,6,6,6,6,6,6,6,6,6,6,6,6,6,6,6,6,6,6,6,6,6,6,6,6,6,7,7,7,7,7,7,7,7,7,7,7,7,7,7,7,7,7,7,7,7,7,7,7,7,7,7,7,7,7,7,7,7,7,7,7,7,7,7,7,7,7,7,7,7,7,7,7,7,7,7,7,7,7,7,7,7,7,7,7,7,7,7,7,7,8,8,8,8,8,8,8,8,8,8,8,8,8,8,8,8,8,8,8,8,8,8,8,8,8,8,8,8,8,8,8,8,8,8,8,8,8,8,8,8,8,8,8,8,8,8,8,8,8,8,8,8,8,8,8,8,8,8,8,8,8,8,8,8,8,8,8,8,8,8,8,8,8,8,8,8,8,8,8,8,8,8,8,8,8,8,8,8,8,8,8,8,8,8,8,8,8,8,8,8,8,8,8,8,8,8,8,8,8,8,8,8,8,8,8,8,8,8,8,8,8,8,8,8,8,8,8,8])) (.t 15)),Qo 17 (.cv .i64 (.t 16)),Qo 18 (.bo .add (.t 13) (.t 17)),Mv 2 18] [2]) .rt)))),np:=1,res:=[.t 2],mode:=.iso }
def c145:FI.Fn:={ body:=(.sq (.rg none [Qo 2 (.mv (.c (.int .i64 0)))] [0,2]) (.sq (.sq (.rg none [Mv 3 0,Qo 4 (.bo .geq (.t 3) (.c (.int .u64 4294967296)))] [0,2,4]) (.cd (.t 4) (.sq (.rg none [Mv 5 0,Qo 6 (.bo .shr (.t 5) (.c (.int .u64 32))),Mv 0 6] [0]) (.rg none [Qo 2 (.mv (.c (.int .i64 32)))] [0,2])) .sk)) (.sq (.sq (.rg none [Mv 7 0,Qo 8 (.bo .geq (.t 7) (.c (.int .u64 65536)))] [0,2,8]) (.cd (.t 8) (.sq (.rg none [Mv 9 0,Qo 10 (.bo .shr (.t 9) (.c (.int .u64 16))),Mv 0 10] [0,2]) (.rg none [Mv 11 2,Qo 12 (.bo .add (.t 11) (.c (.int .i64 16))),Mv 2 12] [0,2])) .sk)) (.sq (.sq (.rg none [Mv 13 0,Qo 14 (.bo .geq (.t 13) (.c (.int .u64 256)))] [0,2,14]) (.cd (.t 14) (.sq (.rg none [Mv 15 0,Qo 16 (.bo .shr (.t 15) (.c (.int .u64 8))),Mv 0 16] [0,2]) (.rg none [Mv 17 2,Qo 18 (.bo .add (.t 17) (.c (.int .i64 8))),Mv 2 18] [0,2])) .sk)) (.sq (.rg none [Mv 19 2,Mv 20 0,Qo 21 (.cv .u8 (.t 20)),Qo 22 (.ix (.c (.str [0,1,2,2,3,3,3,3,4,4,4,4,4,4,4,4,5,5,5,5,5,5,5,5,5,5,5,5,5,5,5,5,6,6,6,6,6,6,6,6,6,6,6,6,6,6,6,6,6,6,6,6,6,6,6,6,6,6,6,6,6,6,6,6,7,7,7,7,7,7,7,7,7,7,7,7,7,7,7,7,7,7,7,7,7,7,7,7,7,7,7,7,7,7,7,7,7,7,7,7,7,7,7,7,7,7,7,7,7,7,7,7,7,7,7,7,7,7,7,7,7,7,7,7,7,7,7,7,8,8,8,8,8,8,8,8,8,8,8,8,8,8,8,8,8,8,8,8,8,8,8,8,8,8,8,8,8,8,8,8,8,8,8,8,8,8,8,8,8,8,8,8,8,8,8,8,8,8,8,8,8,8,8,8,8,8,8,8,8,8,8,8,8,8,8,8,8,8,8,8,8,8,8,8,8,8,8,8,8,8,8,8,8,8,8,8,8,8,8,8,8,8,8,8,8,8,8,8,8,8,8,8,8,8,8,8,8,8,8,8,8,8,8,8,8,8,8,8,8,8,8,8,8,8,8,8])) (.t 21)),Qo 23 (.cv .i64 (.t 22)),Qo 24 (.bo .add (.t 19) (.t 23)),Mv 2 24] [2]) .rt))))),np:=1,res:=[.t 2],mode:=.iso }
def c149:FI.Fn:={ body:=(.sq (.rg none [Qo 4 (.mv (.c (.bool false)))] [0,1]) (.sq (.rg none [Mv 5 0,Qo 6 (.ln 0 (.t 5)),Mv 7 1,Qo 8 (.ln 0 (.t 7)),Qo 9 (.bo .geq (.t 6) (.t 8)),Mv 10 9,Gm 11 10 true 0,Gm 12 10 true 1,Gd 13 10 true (.ln 0 (.t 12)),Gd 14 10 true (.sl 0 (.t 11) none (some (.t 13))),Gm 15 10 true 1,Gd 16 10 true (.bo .eql (.t 14) (.t 15)),Qo 17 (.pk (.t 10) (.t 16) (.c (.bool false))),Mv 4 17] [4]) .rt)),np:=2,res:=[.t 4],mode:=.iso }
def b150_0:C:=(.sq (.sq (.rg none [Mv 11 5,Mv 12 0,Qo 13 (.ln 0 (.t 12)),Qo 14 (.bo .lss (.t 11) (.t 13)),Mv 15 14,Gm 16 15 true 5,Gd 17 15 true (.bo .lss (.t 16) (.c (.int .i64 2))),Qo 18 (.pk (.t 15) (.t 17) (.c (.bool false))),Mv 19 18,Gm 20 19 true 0,Gm 21 19 true 5,Gd 22 19 true (.ix (.t 20) (.t 21)),Gd 23 19 true (.bo .geq (.t 22) (.c (.int .u8 48))),Qo 24 (.pk (.t 19) (.t 23) (.c (.bool false))),Mv 25 24,Gm 26 25 true 0,Gm 27 25 true 5,Gd 28 25 true (.ix (.t 26) (.t 27)),Gd 29 25 true (.bo .leq (.t 28) (.c (.int .u8 57))),Qo 30 (.pk (.t 25) (.t 29) (.c (.bool false)))] [0,2,3,5,30]) (.cd (.t 30) .sk (.xt 0))) (.bl 1 (.sq (.rg none [Mv 31 2,Qo 32 (.bo .mul (.c (.int .i64 10)) (.t 31)),Mv 33 0,Mv 34 5,Qo 35 (.ix (.t 33) (.t 34)),Qo 36 (.bo .sub (.t 35) (.c (.int .u8 48))),Qo 37 (.cv .i64 (.t 36)),Qo 38 (.bo .add (.t 32) (.t 37)),Mv 2 38] [0,2,3,5]) (.rg none [Mv 39 5,Qo 40 (.bo .add (.t 39) (.c (.int .i64 1))),Mv 5 40] [0,2,3,5]))))
def b150_1:C:=(.sq (.sq (.rg none [Mv 43 6,Mv 44 0,Qo 45 (.ln 0 (.t 44)),Qo 46 (.bo .lss (.t 43) (.t 45)),Mv 47 46,Gm 48 47 true 6,Gm 49 47 true 5,Gd 50 47 true (.bo .add (.t 49) (.c (.int .i64 18))),Gd 51 47 true (.bo .lss (.t 48) (.t 50)),Qo 52 (.pk (.t 47) (.t 51) (.c (.bool false)))] [0,2,3,5,6,52]) (.cd (.t 52) .sk (.xt 2))) (.sq (.bl 3 (.sq (.rg none [Qo 7 (.mv (.c (.int .u64 0)))] [0,2,3,5,6,7]) (.sq (.sq (.rg none [Mv 55 0,Mv 56 6,Qo 57 (.ix (.t 55) (.t 56)),Mv 8 57] [0,2,3,5,6,7,8]) (.bl 4 (.sq (.rg none [Mv 59 8,Qo 60 (.bo .geq (.t 59) (.c (.int .u8 48))),Mv 61 60,Gm 62 61 true 8,Gd 63 61 true (.bo .leq (.t 62) (.c (.int .u8 57))),Qo 64 (.pk (.t 61) (.t 63) (.c (.bool false))),Mv 58 64] [0,2,3,5,6,7,8,58]) (.cd (.t 58) (.rg none [Mv 65 8,Qo 66 (.bo .sub (.t 65) (.c (.int .u8 48))),Qo 67 (.cv .u64 (.t 66)),Mv 7 67] [0,2,3,5,6,7]) (.sq (.rg none [Mv 69 8,Qo 70 (.bo .geq (.t 69) (.c (.int .u8 97))),Mv 71 70,Gm 72 71 true 8,Gd 73 71 true (.bo .leq (.t 72) (.c (.int .u8 102))),Qo 74 (.pk (.t 71) (.t 73) (.c (.bool false))),Mv 68 74] [0,2,3,5,6,7,8,68]) (.cd (.t 68) (.rg none [Mv 75 8,Qo 76 (.bo .sub (.t 75) (.c (.int .u8 97))),Qo 77 (.cv .u64 (.t 76)),Qo 78 (.bo .add (.t 77) (.c (.int .u64 10))),Mv 7 78] [0,2,3,5,6,7]) .sk)))))) (.rg none [Mv 79 3,Qo 80 (.bo .shl (.t 79) (.c (.int .u64 4))),Mv 81 7,Qo 82 (.bo .or (.t 80) (.t 81)),Mv 3 82] [0,2,3,5,6])))) (.rg none [Mv 53 6,Qo 54 (.bo .add (.t 53) (.c (.int .i64 1))),Mv 6 54] [0,2,3,5,6])))
def k150_2:C:=(.sq (.sq (.rg none [Mv 84 2,Mv 85 3,Qo 86 (.cl 107 [(.t 84),(.t 85)]),Mv 83 86,Qo 87 (.ex (.t 83) 0),Qo 88 (.ex (.t 83) 1),Mv 9 87,Mv 10 88] [0,2,3,9,10]) (.sq (.rg none [Mv 89 10,Qo 90 (.bo .neq (.t 89) (.c (.int .i64 0))),Mv 91 90,Gm 92 91 false 9,Gm 93 91 false 0,Gd 94 91 false (.bo .neq (.t 92) (.t 93)),Qo 95 (.pk (.t 91) (.c (.bool true)) (.t 94))] [2,3,95]) (.cd (.t 95) (.sq (.rg none [Qo 2 (.mv (.c (.int .i64 0))),Qo 3 (.mv (.c (.int .u64 0))),Qo 4 (.mv (.c (.int .i64 12)))] [2,3,4]) .rt) .sk))) (.sq (.rg none [Mv 96 2,Mv 97 3,Mv 2 96,Mv 3 97,Qo 4 (.mv (.c (.int .i64 0)))] [2,3,4]) .rt))
def k150_3:C:=(.sq (.sq (.rg none [Mv 41 5,Qo 42 (.bo .add (.t 41) (.c (.int .i64 1))),Mv 6 42] [0,2,3,5,6]) (.bl 2 (.lp true b150_1))) k150_2)
def c150:FI.Fn:={ body:=(.sq (.rg none [Qo 2 (.mv (.c (.int .i64 0))),Qo 3 (.mv (.c (.int .u64 0))),Qo 4 (.mv (.c (.int .i64 0)))] [0,2,3]) (.sq (.rg none [Qo 5 (.mv (.c (.int .i64 0)))] [0,2,3,5]) (.sq (.bl 0 (.lp true b150_0)) k150_3))),np:=1,res:=[.t 2,.t 3,.t 4],mode:=.iso }
def c151:FI.Fn:={ body:=(.sq (.rg none [Qo 4 (.mv (.c (.str []))),Qo 5 (.mv (.c (.str []))),Qo 6 (.mv (.c (.bool false)))] [0,1]) (.sq (.rg none [Mv 7 0,Mv 8 1,Qo 9 (.cl 164 [(.t 7),(.t 8)]),Qo 10 (.ex (.t 9) 0),Qo 11 (.ex (.t 9) 1),Qo 12 (.ex (.t 9) 2),Mv 4 10,Mv 5 11,Mv 6 12] [4,5,6]) .rt)),np:=2,res:=[.t 4,.t 5,.t 6],mode:=.iso }
def b152_0:C:=(.sq (.sq (.rg none [Mv 33 8,Mv 34 0,Qo 35 (.ln 0 (.t 34)),Qo 36 (.bo .lss (.t 33) (.t 35))] [0,6,8,36]) (.cd (.t 36) .sk (.xt 0))) (.sq (.bl 1 (.sq (.rg none [Mv 39 0,Mv 40 8,Qo 41 (.ix (.t 39) (.t 40)),Qo 42 (.cl 168 [(.t 6),(.t 41)])] [0,6,8,42]) (.cd (.t 42) (.sq (.rg none [Mv 43 8,Mv 4 43] [4]) .rt) .sk))) (.rg none [Mv 37 8,Qo 38 (.bo .add (.t 37) (.c (.int .i64 1))),Mv 8 38] [0,6,8])))
def k152_1:C:=(.sq (.rg none [Qo 4 (.mv (.c (.int .i64 (-1))))] [4]) .rt)
def b152_2:C:=(.sq (.rg none [Qo 46 (.ns (.t 45)),Qo 47 (.ex (.t 46) 0)] [1,45,46,47]) (.sq (.cd (.t 47) .sk (.xt 2)) (.bl 3 (.sq (.rg none [Qo 48 (.ex (.t 46) 1),Qo 49 (.ex (.t 46) 2),Mv 9 48,Mv 10 49] [1,9,10,45]) (.sq (.rg none [Mv 50 1,Mv 51 10,Qo 52 (.cl 165 [(.t 50),(.t 51)]),Qo 53 (.bo .geq (.t 52) (.c (.int .i64 0)))] [1,9,45,53]) (.cd (.t 53) (.sq (.rg none [Mv 54 9,Mv 4 54] [4]) .rt) .sk))))))
def k152_3:C:=(.sq (.rg none [Qo 4 (.mv (.c (.int .i64 (-1))))] [4]) .rt)
def k152_4:C:=(.sq (.sq (.rg none [Mv 44 0,Qo 45 (.rs (.t 44))] [1,45]) (.bl 2 (.lp true b152_2))) k152_3)
def c152:FI.Fn:={ body:=(.sq (.rg none [Qo 4 (.mv (.c (.int .i64 0)))] [0,1]) (.sq (.sq (.rg none [Mv 11 1,Qo 12 (.bo .eql (.t 11) (.c (.str [])))] [0,1,12]) (.cd (.t 12) (.sq (.rg none [Qo 4 (.mv (.c (.int .i64 (-1))))] [4]) .rt) .sk)) (.sq (.sq (.rg none [Mv 13 1,Qo 14 (.ln 0 (.t 13)),Qo 15 (.bo .eql (.t 14) (.c (.int .i64 1)))] [0,1,15]) (.cd (.t 15) (.sq (.rg none [Mv 16 1,Qo 17 (.ix (.t 16) (.c (.int .i64 0))),Qo 18 (.cv .i32 (.t 17)),Mv 5 18] [0,5]) (.sq (.sq (.rg none [Mv 19 5,Qo 20 (.bo .geq (.t 19) (.c (.int .i32 128)))] [0,5,20]) (.cd (.t 20) (.rg none [Qo 5 (.mv (.c (.int .i32 65533)))] [0,5]) .sk)) (.sq (.rg none [Mv 21 0,Mv 22 5,Qo 23 (.cl 165 [(.t 21),(.t 22)]),Mv 4 23] [4]) .rt))) .sk)) (.sq (.sq (.rg none [Mv 24 0,Qo 25 (.ln 0 (.t 24)),Qo 26 (.cl 166 [(.t 25)])] [0,1,26]) (.cd (.t 26) (.sq (.rg none [Mv 28 1,Qo 29 (.cl 167 [(.t 28)]),Mv 27 29,Qo 30 (.ex (.t 27) 0),Qo 31 (.ex (.t 27) 1),Qo 6 (.al 256 (.agg [(.bool false),(.bool false),(.bool false),(.bool false),(.bool false),(.bool false),(.bool false),(.bool false),(.bool false),(.bool false),(.bool false),(.bool false),(.bool false),(.bool false),(.bool false),(.bool false),(.bool false),(.bool false),(.bool false),(.bool false),(.bool false),(.bool false),(.bool false),(.bool false),(.bool false),(.bool false),(.bool false),(.bool false),(.bool false),(.bool false),(.bool false),(.bool false),(.bool false),(.bool false),(.bool false),(.bool false),(.bool false),(.bool false),(.bool false),(.bool false),(.bool false),(.bool false),(.bool false),(.bool false),(.bool false),(.bool false),(.bool false),(.bool false),(.bool false),(.bool false),(.bool false),(.bool false),(.bool false),(.bool false),(.bool false),(.bool false),(.bool false),(.bool false),(.bool false),(.bool false),(.bool false),(.bool false),(.bool false),(.bool false),(.bool false),(.bool false),(.bool false),(.bool false),(.bool false),(.bool false),(.bool false),(.bool false),(.bool false),(.bool false),(.bool false),(.bool false),(.bool false),(.bool false),(.bool false),(.bool false),(.bool false),(.bool false),(.bool false),(.bool false),(.bool false),(.bool false),(.bool false),(.bool false),(.bool false),(.bool false),(.bool false),(.bool false),(.bool false),(.bool false),(.bool false),(.bool false),(.bool false),(.bool false),(.bool false),(.bool false),(.bool false),(.bool false),(.bool false),(.bool false),(.bool false),(.bool false),(.bool false),(.bool false),(.bool false),(.bool false),(.bool false),(.bool false),(.bool false),(.bool false),(.bool false),(.bool false),(.bool false),(.bool false),(.bool false),(.bool false),(.bool false),(.bool false),(.bool false),(.bool false),(.bool false),(.bool false),(.bool false),(.bool false),(.bool false),(.bool false),(.bool false),(.bool false),(.bool false),(.bool false),(.bool false),(.bool false),(.bool false),(.bool false),(.bool false),(.bool false),(.bool false),(.bool false),(.bool false),(.bool false),(.bool false),(.bool false),(.bool false),(.bool false),(.bool false),(.bool false),(.bool false),(.bool false),(.bool false),(.bool false),(.bool false),(.bool false),(.bool false),(.bool false),(.bool false),(.bool false),(.bool false),(.bool false),(.bool false),(.bool false),(.bool false),(.bool false),(.bool false),(.bool false),(.bool false),(.bool false),(.bool false),(.bool false),(.bool false),(.bool false),(.bool false),(.bool false),(.bool false),(.bool false),(.bool false),(.bool false),(.bool false),(.bool false),(.bool false),(.bool false),(.bool false),(.bool false),(.bool false),(.bool false),(.bool false),(.bool false),(.bool false),(.bool false),(.bool false),(.bool false),(.bool false),(.bool false),(.bool false),(.bool false),(.bool false),(.bool false),(.bool false),(.bool false),(.bool false),(.bool false),(.bool false),(.bool false),(.bool false),(.bool false),(.bool false),(.bool false),(.bool false),(.bool false),(.bool false),(.bool false),(.bool false),(.bool false),(.bool false),(.bool false),(.bool false),(.bool false),(.bool false),(.bool false),(.bool false),(.bool false),(.bool false),(.bool false),(.bool false),(.bool false),(.bool false),(.bool false),(.bool false),(.bool false),(.bool false),(.bool false),(.bool false),(.bool false),(.bool false),(.bool false),(.bool false),(.bool false),(.bool false),(.bool false),(.bool false),(.bool false),(.bool false),(.bool false),(.bool false),(.bool false),(.bool false),(.bool false),(.bool false),(.bool false),(.bool false),(.bool false),(.bool false),(.bool false)])),Eo (.st 256 (.t 6) (.t 30)),Mv 7 31] [0,1,6,7]) (.sq (.rg none [Mv 32 7] [0,1,6,32]) (.cd (.t 32) (.sq (.sq (.rg none [Qo 8 (.mv (.c (.int .i64 0)))] [0,6,8]) (.bl 0 (.lp true b152_0))) k152_1) .sk))) .sk)) k152_4)))),np:=2,res:=[.t 4],mode:=.iso }
def c153:FI.Fn:={ body:=(.sq (.rg none [Qo 4 (.mv (.c (.bool false)))] [0,1]) (.sq (.rg none [Mv 5 0,Mv 6 1,Qo 7 (.cl 169 [(.t 5),(.t 6)]),Qo 8 (.bo .geq (.t 7) (.c (.int .i64 0))),Mv 4 8] [4]) .rt)),np:=2,res:=[.t 4],mode:=.isf }
def c154:FI.Fn:={ body:=(.sq (.rg none [Qo 2 (.bx 6 (.t 0)),Qo 3 (.mv (.c (.bool false)))] [1,2]) (.sq (.rg none [Qo 4 (.fa 1 (.t 2)),Qo 5 (.ld none (.t 4)),Qo 6 (.ld none (.t 1)),Qo 7 (.bo .neq (.t 5) (.t 6)),Mv 3 7] [3]) .rt)),np:=2,res:=[.t 3],mode:=.iso }
def b157_0:C:=(.bl 1 (.sq (.rg none [Mv 13 10,Qo 14 (.bo .mul (.c (.int .i64 2)) (.t 13)),Qo 15 (.bo .add (.t 14) (.c (.int .i64 1))),Mv 11 15] [0,2,3,4,10,11]) (.sq (.sq (.rg none [Mv 16 11,Mv 17 2,Qo 18 (.bo .geq (.t 16) (.t 17))] [0,2,3,4,10,11,18]) (.cd (.t 18) (.xt 0) .sk)) (.sq (.sq (.rg (some (List.range 22)) [Mv 19 11,Qo 20 (.bo .add (.t 19) (.c (.int .i64 1))),Mv 21 2,Qo 22 (.bo .lss (.t 20) (.t 21)),Mv 23 22,Gm 24 23 true 4,Gm 25 23 true 0,Gm 26 23 true 3,Gm 27 23 true 11,Gd 28 23 true (.bo .add (.t 26) (.t 27)),Gd 29 23 true (.ia 3 (.t 25) (.t 28)),Gd 30 23 true (.ld (some 3) (.t 29)),Gm 31 23 true 0,Gm 32 23 true 3,Gm 33 23 true 11,Gd 34 23 true (.bo .add (.t 32) (.t 33)),Gd 35 23 true (.bo .add (.t 34) (.c (.int .i64 1))),Gd 36 23 true (.ia 3 (.t 31) (.t 35)),Gd 37 23 true (.ld (some 3) (.t 36)),Gd 38 23 true (.cw (.t 24) [(.t 30),(.t 37)]),Gd 39 23 true (.bo .lss (.t 38) (.c (.int .i64 0))),Qo 40 (.pk (.t 23) (.t 39) (.c (.bool false)))] [0,2,3,4,10,11,40]) (.cd (.t 40) (.rg none [Mv 41 11,Qo 42 (.bo .add (.t 41) (.c (.int .i64 1))),Mv 11 42] [0,2,3,4,10,11]) .sk)) (.sq (.sq (.rg (some (List.range 16)) [Mv 43 4,Mv 44 0,Mv 45 3,Mv 46 10,Qo 47 (.bo .add (.t 45) (.t 46)),Qo 48 (.ia 3 (.t 44) (.t 47)),Qo 49 (.ld (some 3) (.t 48)),Mv 50 0,Mv 51 3,Mv 52 11,Qo 53 (.bo .add (.t 51) (.t 52)),Qo 54 (.ia 3 (.t 50) (.t 53)),Qo 55 (.ld (some 3) (.t 54)),Qo 56 (.cw (.t 43) [(.t 49),(.t 55)]),Qo 57 (.bo .lss (.t 56) (.c (.int .i64 0))),Qo 58 (.un .not (.t 57))] [0,2,3,4,10,11,58]) (.cd (.t 58) .rt .sk)) (.sq (.rg (some (List.range 24)) [Mv 59 0,Mv 60 3,Mv 61 10,Qo 62 (.bo .add (.t 60) (.t 61)),Mv 63 0,Mv 64 3,Mv 65 11,Qo 66 (.bo .add (.t 64) (.t 65)),Mv 67 0,Mv 68 3,Mv 69 11,Qo 70 (.bo .add (.t 68) (.t 69)),Qo 71 (.ia 3 (.t 67) (.t 70)),Qo 72 (.ld (some 3) (.t 71)),Mv 73 0,Mv 74 3,Mv 75 10,Qo 76 (.bo .add (.t 74) (.t 75)),Qo 77 (.ia 3 (.t 73) (.t 76)),Qo 78 (.ld (some 3) (.t 77)),Qo 79 (.ia 3 (.t 59) (.t 62)),Eo (.st 3 (.t 79) (.t 72)),Qo 80 (.ia 3 (.t 63) (.t 66)),Eo (.st 3 (.t 80) (.t 78))] [0,2,3,4,11]) (.rg none [Mv 81 11,Mv 10 81] [0,2,3,4,10])))))))
def c157:FI.Fn:={ body:=(.sq (.rg none [Mv 12 1,Mv 10 12] [0,2,3,4,10]) (.bl 0 (.lp false b157_0))),np:=5,res:=[],mode:=.shr }
def c158:FI.Fn:={ body:=(.sq (.rg none [Qo 2 (.mv (.c (.int .u64 0)))] [0]) (.sq (.rg none [Mv 3 0,Qo 4 (.cv .u64 (.t 3)),Qo 5 (.cl 106 [(.t 4)]),Qo 6 (.bo .shl (.c (.int .u64 1)) (.t 5)),Mv 2 6] [2]) .rt)),np:=1,res:=[.t 2],mode:=.iso }
def c159:FI.Fn:={ body:=(.sq (.rg none [Qo 2 (.mv (.c (.int .u64 0)))] [0]) (.sq (.rg (some (List.range 10)) [Mv 3 0,Qo 4 (.nc (.t 3)),Qo 5 (.ld none (.t 4)),Mv 6 0,Qo 7 (.nc (.t 6)),Qo 8 (.ld none (.t 7)),Qo 9 (.bo .shl (.t 8) (.c (.int .u64 13))),Qo 10 (.bo .xor (.t 5) (.t 9)),Qo 11 (.nc (.t 3)),Eo (.st 1 (.t 11) (.t 10))] [0]) (.sq (.rg (some (List.range 10)) [Mv 12 0,Qo 13 (.nc (.t 12)),Qo 14 (.ld none (.t 13)),Mv 15 0,Qo 16 (.nc (.t 15)),Qo 17 (.ld none (.t 16)),Qo 18 (.bo .shr (.t 17) (.c (.int .u64 7))),Qo 19 (.bo .xor (.t 14) (.t 18)),Qo 20 (.nc (.t 12)),Eo (.st 1 (.t 20) (.t 19))] [0]) (.sq (.rg (some (List.range 10)) [Mv 21 0,Qo 22 (.nc (.t 21)),Qo 23 (.ld none (.t 22)),Mv 24 0,Qo 25 (.nc (.t 24)),Qo 26 (.ld none (.t 25)),Qo 27 (.bo .shl (.t 26) (.c (.int .u64 17))),Qo 28 (.bo .xor (.t 23) (.t 27)),Qo 29 (.nc (.t 21)),Eo (.st 1 (.t 29) (.t 28))] [0]) (.sq (.rg none [Mv 30 0,Qo 31 (.nc (.t 30)),Qo 32 (.ld none (.t 31)),Mv 2 32] [2]) .rt))))),np:=1,res:=[.t 2],mode:=.shr }
def c160:FI.Fn:={ body:=(.sq (.rg none [Qo 8 (.mv (.c (.int .i64 0)))] [0,1,2,3]) (.sq (.rg none [Mv 9 0,Mv 10 1,Qo 11 (.bo .sub (.t 10) (.c (.int .i64 1))),Mv 12 1,Mv 13 1,Qo 14 (.bo .add (.t 13) (.c (.int .i64 1))),Mv 15 2,Mv 16 3,Qo 17 (.cl 161 [(.t 9),(.t 11),(.t 12),(.t 14),(.t 15),(.t 16)]),Mv 8 17] [8]) .rt)),np:=4,res:=[.t 8],mode:=.shr }
def c161:FI.Fn:={ body:=(.sq (.rg none [Qo 12 (.mv (.c (.int .i64 0)))] [0,1,2,3,4,5]) (.sq (.rg none [Mv 14 0,Mv 15 1,Mv 16 2,Mv 17 4,Mv 18 5,Qo 19 (.cl 170 [(.t 14),(.t 15),(.t 16),(.t 17),(.t 18)]),Mv 13 19,Qo 20 (.ex (.t 13) 0),Qo 21 (.ex (.t 13) 1),Mv 1 20,Mv 2 21] [0,1,2,3,4,5]) (.sq (.rg none [Mv 23 0,Mv 24 2,Mv 25 3,Mv 26 4,Mv 27 5,Qo 28 (.cl 170 [(.t 23),(.t 24),(.t 25),(.t 26),(.t 27)]),Mv 22 28,Qo 29 (.ex (.t 22) 0),Qo 30 (.ex (.t 22) 1),Mv 2 29,Mv 3 30] [0,1,2,4,5]) (.sq (.rg none [Mv 32 0,Mv 33 1,Mv 34 2,Mv 35 4,Mv 36 5,Qo 37 (.cl 170 [(.t 32),(.t 33),(.t 34),(.t 35),(.t 36)]),Mv 31 37,Qo 38 (.ex (.t 31) 0),Qo 39 (.ex (.t 31) 1),Mv 1 38,Mv 2 39] [2]) (.sq (.rg none [Mv 40 2,Mv 12 40] [12]) .rt))))),np:=6,res:=[.t 12],mode:=.shr }
def c164:FI.Fn:={ body:=(.sq (.rg none [Qo 4 (.mv (.c (.str []))),Qo 5 (.mv (.c (.str []))),Qo 6 (.mv (.c (.bool false)))] [0,1]) (.sq (.sq (.rg none [Mv 8 0,Mv 9 1,Qo 10 (.cl 173 [(.t 8),(.t 9)]),Mv 7 10] [0,1,7]) (.sq (.rg none [Mv 11 7,Qo 12 (.bo .geq (.t 11) (.c (.int .i64 0)))] [0,1,7,12]) (.cd (.t 12) (.sq (.rg (some (List.range 12)) [Mv 13 0,Mv 14 7,Qo 15 (.sl 0 (.t 13) none (some (.t 14))),Mv 16 0,Mv 17 7,Mv 18 1,Qo 19 (.ln 0 (.t 18)),Qo 20 (.bo .add (.t 17) (.t 19)),Qo 21 (.sl 0 (.t 16) (some (.t 20)) none),Mv 4 15,Mv 5 21,Qo 6 (.mv (.c (.bool true)))] [4,5,6]) .rt) .sk))) (.sq (.rg none [Mv 22 0,Mv 4 22,Qo 5 (.mv (.c (.str []))),Qo 6 (.mv (.c (.bool false)))] [4,5,6]) .rt))),np:=2,res:=[.t 4,.t 5,.t 6],mode:=.iso }
def b165_0:C:=(.sq (.rg none [Qo 176 (.ns (.t 175)),Qo 177 (.ex (.t 176) 0)] [175,176,177]) (.sq (.cd (.t 177) .sk (.xt 9)) (.bl 10 (.sq (.rg none [Qo 178 (.ex (.t 176) 1),Qo 179 (.ex (.t 176) 2),Mv 5 178,Mv 6 179] [5,6,175]) (.sq (.rg none [Mv 180 6,Qo 181 (.bo .eql (.t 180) (.c (.int .i32 65533)))] [5,175,181]) (.cd (.t 181) (.sq (.rg none [Mv 182 5,Mv 4 182] [4]) .rt) .sk))))))
def k165_1:C:=(.sq (.rg none [Qo 4 (.mv (.c (.int .i64 (-1))))] [4]) .rt)
def b165_2:C:=(.sq (.sq (.rg none [Mv 48 12,Mv 49 7,Qo 50 (.ln 0 (.t 49)),Qo 51 (.bo .lss (.t 48) (.t 50))] [0,1,7,8,9,10,12,51]) (.cd (.t 51) .sk (.xt 3))) (.sq (.bl 4 (.sq (.rg (some (List.range 11)) [Mv 54 0,Mv 55 9,Mv 56 12,Qo 57 (.bo .sub (.t 55) (.t 56)),Qo 58 (.ix (.t 54) (.t 57)),Mv 59 7,Mv 60 8,Mv 61 12,Qo 62 (.bo .sub (.t 60) (.t 61)),Qo 63 (.ix (.t 59) (.t 62)),Qo 64 (.bo .neq (.t 58) (.t 63))] [0,1,7,8,9,10,12,64]) (.cd (.t 64) (.go 0) .sk))) (.rg none [Mv 52 12,Qo 53 (.bo .add (.t 52) (.c (.int .i64 1))),Mv 12 53] [0,1,7,8,9,10,12])))
def k165_3:C:=(.sq (.sq (.rg none [Mv 65 9,Mv 66 8,Qo 67 (.bo .sub (.t 65) (.t 66)),Mv 4 67] [4]) .rt) (.sq (.lb 0) (.sq (.rg none [Mv 68 10,Qo 69 (.bo .add (.t 68) (.c (.int .i64 1))),Mv 10 69] [0,1,7,8,9,10]) (.sq (.rg none [Mv 70 9,Qo 71 (.bo .add (.t 70) (.c (.int .i64 1))),Mv 9 71] [0,1,7,8,9,10]) (.sq (.rg none [Qo 72 (.mv (.c (.bool true))),Gm 73 72 true 10,Gm 74 72 true 9,Gd 75 72 true (.cl 176 [(.t 74)]),Gd 76 72 true (.bo .gtr (.t 73) (.t 75)),Qo 77 (.pk (.t 72) (.t 76) (.c (.bool false))),Mv 78 77,Gm 79 78 true 9,Gm 80 78 true 0,Gd 81 78 true (.ln 0 (.t 80)),Gd 82 78 true (.bo .lss (.t 79) (.t 81)),Qo 83 (.pk (.t 78) (.t 82) (.c (.bool false))),Mv 84 83,Gd 85 84 false (.mv (.c (.bool false))),Gm 86 85 true 10,Gm 87 85 true 9,Gd 88 85 true (.bo .shr (.t 87) (.c (.int .u64 4))),Gd 89 85 true (.bo .add (.c (.int .i64 4)) (.t 88)),Gd 90 85 true (.bo .geq (.t 86) (.t 89)),Gd 91 84 false (.pk (.t 85) (.t 90) (.c (.bool false))),Gm 92 84 false 91,Gm 93 92 true 9,Gm 94 92 true 0,Gd 95 92 true (.ln 0 (.t 94)),Gd 96 92 true (.bo .lss (.t 93) (.t 95)),Gd 97 84 false (.pk (.t 92) (.t 96) (.c (.bool false))),Qo 98 (.pk (.t 84) (.c (.bool true)) (.t 97))] [0,1,7,8,9,10,98]) (.cd (.t 98) (.go 1) .sk))))))
def b165_4:C:=(.sq (.sq (.rg (some (List.range 7)) [Mv 27 0,Mv 28 9,Qo 29 (.ix (.t 27) (.t 28)),Mv 30 7,Mv 31 8,Qo 32 (.ix (.t 30) (.t 31)),Qo 33 (.bo .neq (.t 29) (.t 32))] [0,1,7,8,9,10,33]) (.cd (.t 33) (.sq (.rg (some (List.range 9)) [Mv 34 0,Mv 35 9,Qo 36 (.bo .add (.t 35) (.c (.int .i64 1))),Qo 37 (.sl 0 (.t 34) (some (.t 36)) none),Mv 38 7,Mv 39 8,Qo 40 (.ix (.t 38) (.t 39)),Qo 41 (.cl 174 [(.t 37),(.t 40)]),Mv 11 41] [0,1,7,8,9,10,11]) (.sq (.sq (.rg none [Mv 42 11,Qo 43 (.bo .lss (.t 42) (.c (.int .i64 0)))] [0,1,7,8,9,10,11,43]) (.cd (.t 43) (.sq (.rg none [Qo 4 (.mv (.c (.int .i64 (-1))))] [4]) .rt) .sk)) (.rg none [Mv 44 9,Mv 45 11,Qo 46 (.bo .add (.t 45) (.c (.int .i64 1))),Qo 47 (.bo .add (.t 44) (.t 46)),Mv 9 47] [0,1,7,8,9,10]))) .sk)) (.sq (.sq (.rg none [Qo 12 (.mv (.c (.int .i64 1)))] [0,1,7,8,9,10,12]) (.bl 3 (.lp true b165_2))) k165_3))
def b165_5:C:=(.sq (.sq (.rg none [Mv 23 9,Mv 24 0,Qo 25 (.ln 0 (.t 24)),Qo 26 (.bo .lss (.t 23) (.t 25))] [0,1,7,8,9,10,26]) (.cd (.t 26) .sk (.xt 1))) (.bl 2 (.sc b165_4)))
def b165_6:C:=(.sq (.sq (.rg none [Mv 140 16,Mv 141 7,Qo 142 (.ln 0 (.t 141)),Qo 143 (.bo .lss (.t 140) (.t 142))] [0,7,8,9,14,15,16,143]) (.cd (.t 143) .sk (.xt 7))) (.sq (.bl 8 (.sq (.rg (some (List.range 11)) [Mv 146 0,Mv 147 9,Mv 148 16,Qo 149 (.bo .sub (.t 147) (.t 148)),Qo 150 (.ix (.t 146) (.t 149)),Mv 151 7,Mv 152 8,Mv 153 16,Qo 154 (.bo .sub (.t 152) (.t 153)),Qo 155 (.ix (.t 151) (.t 154)),Qo 156 (.bo .neq (.t 150) (.t 155))] [0,7,8,9,14,15,16,156]) (.cd (.t 156) (.xt 6) .sk))) (.rg none [Mv 144 16,Qo 145 (.bo .add (.t 144) (.c (.int .i64 1))),Mv 16 145] [0,7,8,9,14,15,16])))
def k165_7:C:=(.sq (.rg none [Mv 157 9,Mv 158 8,Qo 159 (.bo .sub (.t 157) (.t 158)),Mv 4 159] [4]) .rt)
def k165_8:C:=(.rg none [Mv 125 9,Qo 126 (.bo .add (.t 125) (.c (.int .i64 1))),Mv 9 126] [0,7,8,9,14,15])
def b165_9:C:=(.sq (.sq (.rg none [Mv 121 9,Mv 122 0,Qo 123 (.ln 0 (.t 122)),Qo 124 (.bo .lss (.t 121) (.t 123))] [0,7,8,9,14,15,124]) (.cd (.t 124) .sk (.xt 5))) (.sq (.bl 6 (.sq (.rg none [Mv 127 0,Mv 128 9,Qo 129 (.ix (.t 127) (.t 128)),Mv 130 14,Qo 131 (.bo .eql (.t 129) (.t 130)),Mv 132 131,Gm 133 132 true 0,Gm 134 132 true 9,Gd 135 132 true (.bo .sub (.t 134) (.c (.int .i64 1))),Gd 136 132 true (.ix (.t 133) (.t 135)),Gm 137 132 true 15,Gd 138 132 true (.bo .eql (.t 136) (.t 137)),Qo 139 (.pk (.t 132) (.t 138) (.c (.bool false)))] [0,7,8,9,14,15,139]) (.cd (.t 139) (.sq (.sq (.rg none [Qo 16 (.mv (.c (.int .i64 2)))] [0,7,8,9,14,15,16]) (.bl 7 (.lp true b165_6))) k165_7) .sk))) k165_8))
def b165_10:C:=(.sq (.rg none [Mv 114 7,Mv 115 8,Qo 116 (.ix (.t 114) (.t 115)),Mv 14 116] [0,7,8,9,14]) (.sq (.rg none [Mv 117 7,Mv 118 8,Qo 119 (.bo .sub (.t 118) (.c (.int .i64 1))),Qo 120 (.ix (.t 117) (.t 119)),Mv 15 120] [0,7,8,9,14,15]) (.sq (.lb 2) (.bl 5 (.lp true b165_9)))))
def k165_11:C:=(.sq (.rg none [Qo 4 (.mv (.c (.int .i64 (-1))))] [4]) .rt)
def k165_12:C:=(.sq (.sq (.rg none [Qo 4 (.mv (.c (.int .i64 (-1))))] [4]) .rt) (.sq (.lb 1) (.sq (.cd (.c (.bool true)) (.sq (.rg none [Mv 99 0,Mv 100 9,Mv 101 8,Qo 102 (.bo .sub (.t 100) (.t 101)),Qo 103 (.sl 0 (.t 99) (some (.t 102)) none),Mv 104 1,Qo 105 (.bad),Qo 106 (.bad),Mv 13 106] [8,9,13]) (.sq (.rg none [Mv 107 13,Qo 108 (.bo .geq (.t 107) (.c (.int .i64 0)))] [8,9,13,108]) (.cd (.t 108) (.sq (.rg none [Mv 109 9,Mv 110 13,Qo 111 (.bo .add (.t 109) (.t 110)),Mv 112 8,Qo 113 (.bo .sub (.t 111) (.t 112)),Mv 4 113] [4]) .rt) .sk))) (.sc b165_10)) k165_11)))
def b165_13:C:=(.sq (.rg none [Mv 17 1,Qo 18 (.bad),Mv 7 18] [0,1,7]) (.sq (.rg none [Mv 19 7,Qo 20 (.ln 0 (.t 19)),Qo 21 (.bo .sub (.t 20) (.c (.int .i64 1))),Mv 8 21] [0,1,7,8]) (.sq (.rg none [Mv 22 8,Mv 9 22] [0,1,7,8,9]) (.sq (.rg none [Qo 10 (.mv (.c (.int .i64 0)))] [0,1,7,8,9,10]) (.sq (.bl 1 (.lp true b165_5)) k165_12)))))
def c165:FI.Fn:={ body:=(.sq (.rg none [Qo 4 (.mv (.c (.int .i64 0)))] [0,1]) (.bl 0 (.sq (.rg none [Mv 161 1,Qo 162 (.bo .leq (.c (.int .i32 0)) (.t 161)),Mv 163 162,Gm 164 163 true 1,Gd 165 163 true (.bo .lss (.t 164) (.c (.int .i32 128))),Qo 166 (.pk (.t 163) (.t 165) (.c (.bool false))),Mv 160 166] [0,1,160]) (.cd (.t 160) (.sq (.rg none [Mv 167 0,Mv 168 1,Qo 169 (.cv .u8 (.t 168)),Qo 170 (.cl 174 [(.t 167),(.t 169)]),Mv 4 170] [4]) .rt) (.sq (.rg none [Mv 172 1,Qo 173 (.bo .eql (.t 172) (.c (.int .i32 65533))),Mv 171 173] [0,1,171]) (.cd (.t 171) (.sq (.sq (.rg none [Mv 174 0,Qo 175 (.rs (.t 174))] [175]) (.bl 9 (.lp true b165_0))) k165_1) (.sq (.rg none [Mv 184 1,Qo 185 (.cl 175 [(.t 184)]),Qo 186 (.un .not (.t 185)),Mv 183 186] [0,1,183]) (.cd (.t 183) (.sq (.rg none [Qo 4 (.mv (.c (.int .i64 (-1))))] [4]) .rt) (.sc b165_13))))))))),np:=2,res:=[.t 4],mode:=.iso }
def c166:FI.Fn:={ body:=(.sq (.rg none [Qo 2 (.mv (.c (.bool false)))] [0]) (.sq (.rg none [Mv 3 0,Qo 4 (.bo .gtr (.t 3) (.c (.int .i64 8))),Mv 2 4] [2]) .rt)),np:=1,res:=[.t 2],mode:=.iso }
def b167_0:C:=(.sq (.sq (.rg none [Mv 6 4,Mv 7 0,Qo 8 (.ln 0 (.t 7)),Qo 9 (.bo .lss (.t 6) (.t 8))] [0,2,4,9]) (.cd (.t 9) .sk (.xt 0))) (.sq (.bl 1 (.sq (.rg none [Mv 12 0,Mv 13 4,Qo 14 (.ix (.t 12) (.t 13)),Mv 5 14] [0,2,4,5]) (.sq (.sq (.rg none [Mv 15 5,Qo 16 (.bo .geq (.t 15) (.c (.int .u8 128)))] [0,2,4,5,16]) (.cd (.t 16) (.sq (.rg none [Qo 17 (.ld (some 256) (.t 2)),Eo (.st 256 (.t 2) (.t 17)),Qo 3 (.mv (.c (.bool false)))] [2,3]) .rt) .sk)) (.rg none [Mv 18 5,Qo 19 (.aa 256 1 (.t 2) (.t 18)),Eo (.st 1 (.t 19) (.c (.bool true)))] [0,2,4])))) (.rg none [Mv 10 4,Qo 11 (.bo .add (.t 10) (.c (.int .i64 1))),Mv 4 11] [0,2,4])))
def k167_1:C:=(.sq (.rg none [Qo 20 (.ld (some 256) (.t 2)),Eo (.st 256 (.t 2) (.t 20)),Qo 3 (.mv (.c (.bool true)))] [2,3]) .rt)
def c167:FI.Fn:={ body:=(.sq (.rg none [Qo 2 (.al 256 (.agg [(.bool false),(.bool false),(.bool false),(.bool false),(.bool false),(.bool false),(.bool false),(.bool false),(.bool false),(.bool false),(.bool false),(.bool false),(.bool false),(.bool false),(.bool false),(.bool false),(.bool false),(.bool false),(.bool false),(.bool false),(.bool false),(.bool false),(.bool false),(.bool false),(.bool false),(.bool false),(.bool false),(.bool false),(.bool false),(.bool false),(.bool false),(.bool false),(.bool false),(.bool false),(.bool false),(.bool false),(.bool false),(.bool false),(.bool false),(.bool false),(.bool false),(.bool false),(.bool false),(.bool false),(.bool false),(.bool false),(.bool false),(.bool false),(.bool false),(.bool false),(.bool false),(.bool false),(.bool false),(.bool false),(.bool false),(.bool false),(.bool false),(.bool false),(.bool false),(.bool false),(.bool false),(.bool false),(.bool false),(.bool false),(.bool false),(.bool false),(.bool false),(.bool false),(.bool false),(.bool false),(.bool false),(.bool false),(.bool false),(.bool false),(.bool false),(.bool false),(.bool false),(.bool false),(.bool false),(.bool false),(.bool false),(.bool false),(.bool false),(.bool false),(.bool false),(.bool false),(.bool false),(.bool false),(.bool false),(.bool false),(.bool false),(.bool false),(.bool false),(.bool false),(.bool false),(.bool false),(.bool false),(.bool false),(.bool false),(.bool false),(.bool false),(.bool false),(.bool false),(.bool false),(.bool false),(.bool false),(.bool false),(.bool false),(.bool false),(.bool false),(.bool false),(.bool false),(.bool false),(.bool false),(.bool false),(.bool false),(.bool false),(.bool false),(.bool false),(.bool false),(.bool false),(.bool false),(.bool false),(.bool false),(.bool false),(.bool false),(.bool false),(.bool false),(.bool false),(.bool false),(.bool false),(.bool false),(.bool false),(.bool false),(.bool false),(.bool false),(.bool false),(.bool false),(.bool false),(.bool false),(.bool false),(.bool false),(.bool false),(.bool false),(.bool false),(.bool false),(.bool false),(.bool false),(.bool false),(.bool false),(.bool false),(.bool false),(.bool false),(.bool false),(.bool false),(.bool false),(.bool false),(.bool false),(.bool false),(.bool false),(.bool false),(.bool false),(.bool false),(.bool false),(.bool false),(.bool false),(.bool false),(.bool false),(.bool false),(.bool false),(.bool false),(.bool false),(.bool false),(.bool false),(.bool false),(.bool false),(.bool false),(.bool false),(.bool false),(.bool false),(.bool false),(.bool false),(.bool false),(.bool false),(.bool false),(.bool false),(.bool false),(.bool false),(.bool false),(.bool false),(.bool false),(.bool false),(.bool false),(.bool false),(.bool false),(.bool false),(.bool false),(.bool false),(.bool false),(.bool false),(.bool false),(.bool false),(.bool false),(.bool false),(.bool false),(.bool false),(.bool false),(.bool false),(.bool false),(.bool false),(.bool false),(.bool false),(.bool false),(.bool false),(.bool false),(.bool false),(.bool false),(.bool false),(.bool false),(.bool false),(.bool false),(.bool false),(.bool false),(.bool false),(.bool false),(.bool false),(.bool false),(.bool false),(.bool false),(.bool false),(.bool false),(.bool false),(.bool false),(.bool false),(.bool false),(.bool false),(.bool false),(.bool false),(.bool false),(.bool false),(.bool false),(.bool false),(.bool false),(.bool false),(.bool false),(.bool false),(.bool false),(.bool false),(.bool false),(.bool false),(.bool false),(.bool false),(.bool false),(.bool false),(.bool false),(.bool false)])),Qo 3 (.mv (.c (.bool false)))] [0,2]) (.sq (.sq (.rg none [Qo 4 (.mv (.c (.int .i64 0)))] [0,2,4]) (.bl 0 (.lp true b167_0))) k167_1)),np:=1,res:=[.cell 2 (some 256),.t 3],mode:=.iso }
def c168:FI.Fn:={ body:=(.sq (.rg none [Qo 4 (.mv (.c (.bool false)))] [0,1]) (.sq (.rg none [Mv 5 0,Mv 6 1,Qo 7 (.nc (.t 5)),Qo 8 (.aa 256 1 (.t 7) (.t 6)),Qo 9 (.ld none (.t 8)),Mv 4 9] [4]) .rt)),np:=2,res:=[.t 4],mode:=.shr }
def b169_0:C:=(.sq (.rg none [Qo 9 (.bo .lss (.t 8) (.t 7))] [0,1,7,8,9]) (.sq (.cd (.t 9) .sk (.xt 0)) (.sq (.bl 1 (.sq (.rg none [Mv 10 8,Mv 5 10] [0,1,5,7,8]) (.sq (.rg none [Mv 11 1,Mv 12 0,Mv 13 5,Qo 14 (.ia 6 (.t 12) (.t 13)),Qo 15 (.ld (some 6) (.t 14)),Qo 16 (.cw (.t 11) [(.t 15)])] [0,1,5,7,8,16]) (.cd (.t 16) (.sq (.rg none [Mv 17 5,Mv 4 17] [4]) .rt) .sk)))) (.rg none [Qo 18 (.bo .add (.t 8) (.c (.int .i64 1))),Mv 8 18] [0,1,7,8]))))
def k169_1:C:=(.sq (.rg none [Qo 4 (.mv (.c (.int .i64 (-1))))] [4]) .rt)
def c169:FI.Fn:={ body:=(.sq (.rg none [Qo 4 (.mv (.c (.int .i64 0)))] [0,1]) (.sq (.sq (.rg none [Mv 6 0,Qo 7 (.ln 1 (.t 6)),Qo 8 (.mv (.c (.int .i64 0)))] [0,1,7,8]) (.bl 0 (.lp true b169_0))) k169_1)),np:=2,res:=[.t 4],mode:=.iso }
def c170:FI.Fn:={ body:=(.sq (.rg none [Qo 10 (.mv (.c (.int .i64 0))),Qo 11 (.mv (.c (.int .i64 0)))] [0,1,2,3,4]) (.sq (.sq (.rg (some (List.range 11)) [Mv 12 4,Mv 13 0,Mv 14 2,Qo 15 (.ia 3 (.t 13) (.t 14)),Qo 16 (.ld (some 3) (.t 15)),Mv 17 0,Mv 18 1,Qo 19 (.ia 3 (.t 17) (.t 18)),Qo 20 (.ld (some 3) (.t 19)),Qo 21 (.cw (.t 12) [(.t 16),(.t 20)]),Qo 22 (.bo .lss (.t 21) (.c (.int .i64 0)))] [1,2,3,22]) (.cd (.t 22) (.sq (.rg none [Mv 23 3,Qo 24 (.nc (.t 23)),Qo 25 (.ld none (.t 24)),Qo 26 (.bo .add (.t 25) (.c (.int .i64 1))),Qo 27 (.nc (.t 23)),Eo (.st 1 (.t 27) (.t 26))] [1,2]) (.sq (.rg none [Mv 28 2,Mv 29 1,Mv 10 28,Mv 11 29] [10,11]) .rt)) .sk)) (.sq (.rg none [Mv 30 1,Mv 31 2,Mv 10 30,Mv 11 31] [10,11]) .rt))),np:=5,res:=[.t 10,.t 11],mode:=.shr }
def b173_0:C:=(.sq (.sq (.rg none [Mv 57 8,Mv 58 9,Qo 59 (.bo .lss (.t 57) (.t 58))] [0,1,5,6,7,8,9,10,59]) (.cd (.t 59) .sk (.xt 1))) (.bl 2 (.sq (.sq (.rg none [Mv 60 0,Mv 61 8,Qo 62 (.ix (.t 60) (.t 61)),Mv 63 6,Qo 64 (.bo .neq (.t 62) (.t 63))] [0,1,5,6,7,8,9,10,64]) (.cd (.t 64) (.sq (.rg none [Mv 65 0,Mv 66 8,Qo 67 (.bo .add (.t 66) (.c (.int .i64 1))),Mv 68 9,Qo 69 (.sl 0 (.t 65) (some (.t 67)) (some (.t 68))),Mv 70 6,Qo 71 (.cl 178 [(.t 69),(.t 70)]),Mv 11 71] [0,1,5,6,7,8,9,10,11]) (.sq (.sq (.rg none [Mv 72 11,Qo 73 (.bo .lss (.t 72) (.c (.int .i64 0)))] [0,1,5,6,7,8,9,10,11,73]) (.cd (.t 73) (.sq (.rg none [Qo 4 (.mv (.c (.int .i64 (-1))))] [4]) .rt) .sk)) (.rg none [Mv 74 8,Mv 75 11,Qo 76 (.bo .add (.t 75) (.c (.int .i64 1))),Qo 77 (.bo .add (.t 74) (.t 76)),Mv 8 77] [0,1,5,6,7,8,9,10]))) .sk)) (.sq (.sq (.rg none [Mv 78 0,Mv 79 8,Qo 80 (.bo .add (.t 79) (.c (.int .i64 1))),Qo 81 (.ix (.t 78) (.t 80)),Mv 82 7,Qo 83 (.bo .eql (.t 81) (.t 82)),Mv 84 83,Gm 85 84 true 0,Gm 86 84 true 8,Gm 87 84 true 8,Gm 88 84 true 5,Gd 89 84 true (.bo .add (.t 87) (.t 88)),Gd 90 84 true (.sl 0 (.t 85) (some (.t 86)) (some (.t 89))),Gm 91 84 true 1,Gd 92 84 true (.bo .eql (.t 90) (.t 91)),Qo 93 (.pk (.t 84) (.t 92) (.c (.bool false)))] [0,1,5,6,7,8,9,10,93]) (.cd (.t 93) (.sq (.rg none [Mv 94 8,Mv 4 94] [4]) .rt) .sk)) (.sq (.rg none [Mv 95 8,Qo 96 (.bo .add (.t 95) (.c (.int .i64 1))),Mv 8 96] [0,1,5,6,7,8,9,10]) (.sq (.rg none [Mv 97 10,Qo 98 (.bo .add (.t 97) (.c (.int .i64 1))),Mv 10 98] [0,1,5,6,7,8,9,10]) (.sq (.rg none [Mv 99 5,Qo 100 (.bad),Qo 101 (.bo .leq (.t 99) (.t 100)),Mv 102 101,Gm 103 102 true 10,Gm 104 102 true 8,Gd 105 102 true (.cl 176 [(.t 104)]),Gd 106 102 true (.bo .gtr (.t 103) (.t 105)),Qo 107 (.pk (.t 102) (.t 106) (.c (.bool false)))] [0,1,5,6,7,8,9,10,107]) (.cd (.t 107) (.sq (.rg none [Mv 108 0,Mv 109 8,Qo 110 (.sl 0 (.t 108) (some (.t 109)) none),Mv 111 1,Qo 112 (.bad),Mv 12 112] [8,12]) (.sq (.sq (.rg none [Mv 113 12,Qo 114 (.bo .geq (.t 113) (.c (.int .i64 0)))] [8,12,114]) (.cd (.t 114) (.sq (.rg none [Mv 115 12,Mv 116 8,Qo 117 (.bo .add (.t 115) (.t 116)),Mv 4 117] [4]) .rt) .sk)) (.sq (.rg none [Qo 4 (.mv (.c (.int .i64 (-1))))] [4]) .rt))) (.sq (.rg none [Mv 118 5,Qo 119 (.bad),Qo 120 (.bo .gtr (.t 118) (.t 119)),Mv 121 120,Gm 122 121 true 10,Gm 123 121 true 8,Gd 124 121 true (.bo .shr (.t 123) (.c (.int .u64 4))),Gd 125 121 true (.bo .add (.c (.int .i64 4)) (.t 124)),Gd 126 121 true (.bo .geq (.t 122) (.t 125)),Qo 127 (.pk (.t 121) (.t 126) (.c (.bool false))),Mv 128 127,Gm 129 128 true 8,Gm 130 128 true 9,Gd 131 128 true (.bo .lss (.t 129) (.t 130)),Qo 132 (.pk (.t 128) (.t 131) (.c (.bool false)))] [0,1,5,6,7,8,9,10,132]) (.cd (.t 132) (.sq (.rg none [Mv 133 0,Mv 134 8,Qo 135 (.sl 0 (.t 133) (some (.t 134)) none),Mv 136 1,Qo 137 (.cl 179 [(.t 135),(.t 136)]),Mv 13 137] [8,13]) (.sq (.sq (.rg none [Mv 138 13,Qo 139 (.bo .lss (.t 138) (.c (.int .i64 0)))] [8,13,139]) (.cd (.t 139) (.sq (.rg none [Qo 4 (.mv (.c (.int .i64 (-1))))] [4]) .rt) .sk)) (.sq (.rg none [Mv 140 8,Mv 141 13,Qo 142 (.bo .add (.t 140) (.t 141)),Mv 4 142] [4]) .rt))) .sk))))))))))
def k173_1:C:=(.sq (.rg none [Qo 4 (.mv (.c (.int .i64 (-1))))] [4]) .rt)
def c173:FI.Fn:={ body:=(.sq (.rg none [Qo 4 (.mv (.c (.int .i64 0)))] [0,1]) (.sq (.rg none [Mv 14 1,Qo 15 (.ln 0 (.t 14)),Mv 5 15] [0,1,5]) (.sq (.bl 0 (.sq (.rg none [Mv 17 5,Qo 18 (.bo .eql (.t 17) (.c (.int .i64 0))),Mv 19 18,Gm 20 19 false 1,Gm 21 19 false 0,Gd 22 19 false (.bo .eql (.t 20) (.t 21)),Qo 23 (.pk (.t 19) (.c (.bool true)) (.t 22)),Mv 16 23] [0,1,5,16]) (.cd (.t 16) (.sq (.rg none [Qo 4 (.mv (.c (.int .i64 0)))] [4]) .rt) (.sq (.rg none [Mv 25 5,Qo 26 (.bo .eql (.t 25) (.c (.int .i64 1))),Mv 24 26] [0,1,5,24]) (.cd (.t 24) (.sq (.rg none [Mv 27 0,Mv 28 1,Qo 29 (.ix (.t 28) (.c (.int .i64 0))),Qo 30 (.cl 178 [(.t 27),(.t 29)]),Mv 4 30] [4]) .rt) (.sq (.rg none [Mv 32 5,Mv 33 0,Qo 34 (.ln 0 (.t 33)),Qo 35 (.bo .geq (.t 32) (.t 34)),Mv 31 35] [0,1,5,31]) (.cd (.t 31) (.sq (.rg none [Qo 4 (.mv (.c (.int .i64 (-1))))] [4]) .rt) (.sq (.rg none [Mv 37 5,Qo 38 (.bad),Qo 39 (.bo .leq (.t 37) (.t 38)),Mv 40 39,Gm 41 40 true 0,Gd 42 40 true (.ln 0 (.t 41)),Gd 43 40 true (.bo .leq (.t 42) (.c (.int .i64 64))),Qo 44 (.pk (.t 40) (.t 43) (.c (.bool false))),Mv 36 44] [0,1,5,36]) (.cd (.t 36) (.sq (.rg none [Mv 45 0,Mv 46 1,Qo 47 (.bad),Mv 4 47] [4]) .rt) .sk))))))))) (.sq (.rg none [Mv 48 1,Qo 49 (.ix (.t 48) (.c (.int .i64 0))),Mv 6 49] [0,1,5,6]) (.sq (.rg none [Mv 50 1,Qo 51 (.ix (.t 50) (.c (.int .i64 1))),Mv 7 51] [0,1,5,6,7]) (.sq (.rg none [Qo 8 (.mv (.c (.int .i64 0)))] [0,1,5,6,7,8]) (.sq (.rg none [Mv 52 0,Qo 53 (.ln 0 (.t 52)),Mv 54 5,Qo 55 (.bo .sub (.t 53) (.t 54)),Qo 56 (.bo .add (.t 55) (.c (.int .i64 1))),Mv 9 56] [0,1,5,6,7,8,9]) (.sq (.rg none [Qo 10 (.mv (.c (.int .i64 0)))] [0,1,5,6,7,8,9,10]) (.sq (.bl 1 (.lp true b173_0)) k173_1))))))))),np:=2,res:=[.t 4],mode:=.iso }
def c174:FI.Fn:={ body:=(.sq (.rg none [Qo 4 (.mv (.c (.int .i64 0)))] [0,1]) (.sq (.rg none [Mv 5 0,Mv 6 1,Qo 7 (.cl 178 [(.t 5),(.t 6)]),Mv 4 7] [4]) .rt)),np:=2,res:=[.t 4],mode:=.iso }
def c175:FI.Fn:={ body:=(.sq (.rg none [Qo 2 (.mv (.c (.bool false)))] [0]) (.sq (.bl 0 (.sq (.rg none [Mv 4 0,Qo 5 (.bo .leq (.c (.int .i32 0)) (.t 4)),Mv 6 5,Gm 7 6 true 0,Gd 8 6 true (.bo .lss (.t 7) (.c (.int .i32 55296))),Qo 9 (.pk (.t 6) (.t 8) (.c (.bool false))),Mv 3 9] [0,3]) (.cd (.t 3) (.sq (.rg none [Qo 2 (.mv (.c (.bool true)))] [2]) .rt) (.sq (.rg none [Mv 11 0,Qo 12 (.bo .lss (.c (.int .i32 57343)) (.t 11)),Mv 13 12,Gm 14 13 true 0,Gd 15 13 true (.bo .leq (.t 14) (.c (.int .i32 1114111))),Qo 16 (.pk (.t 13) (.t 15) (.c (.bool false))),Mv 10 16] [10]) (.cd (.t 10) (.sq (.rg none [Qo 2 (.mv (.c (.bool true)))] [2]) .rt) .sk))))) (.sq (.rg none [Qo 2 (.mv (.c (.bool false)))] [2]) .rt))),np:=1,res:=[.t 2],mode:=.iso }
def c176:FI.Fn:={ body:=(.sq (.rg none [Qo 2 (.mv (.c (.int .i64 0)))] [0]) (.sq (.rg none [Mv 3 0,Qo 4 (.bo .add (.t 3) (.c (.int .i64 16))),Qo 5 (.bo .quo (.t 4) (.c (.int .i64 8))),Mv 2 5] [2]) .rt)),np:=1,res:=[.t 2],mode:=.iso }
def c178:FI.Fn:={ body:=(.sq (.rg none [Qo 4 (.mv (.c (.int .i64 0)))] [0,1]) (.sq (.rg none [Mv 5 0,Mv 6 1,Qo 7 (.ib (.t 5) (.t 6)),Mv 4 7] [4]) .rt)),np:=2,res:=[.t 4],mode:=.iso }
def b179_0:C:=(.sq (.sq (.rg none [Mv 18 9,Mv 19 7,Qo 20 (.bo .lss (.t 18) (.t 19))] [0,1,5,6,7,8,9,20]) (.cd (.t 20) .sk (.xt 0))) (.sq (.bl 1 (.rg none [Mv 23 8,Qo 24 (.bo .mul (.t 23) (.c (.int .u32 16777619))),Mv 25 0,Mv 26 9,Qo 27 (.ix (.t 25) (.t 26)),Qo 28 (.cv .u32 (.t 27)),Qo 29 (.bo .add (.t 24) (.t 28)),Mv 8 29] [0,1,5,6,7,8,9])) (.rg none [Mv 21 9,Qo 22 (.bo .add (.t 21) (.c (.int .i64 1))),Mv 9 22] [0,1,5,6,7,8,9])))
def b179_1:C:=(.sq (.sq (.rg none [Mv 41 10,Mv 42 0,Qo 43 (.ln 0 (.t 42)),Qo 44 (.bo .lss (.t 41) (.t 43))] [0,1,5,6,7,8,10,44]) (.cd (.t 44) .sk (.xt 2))) (.bl 3 (.sq (.rg none [Mv 45 8,Qo 46 (.bo .mul (.t 45) (.c (.int .u32 16777619))),Mv 8 46] [0,1,5,6,7,8,10]) (.sq (.rg none [Mv 47 8,Mv 48 0,Mv 49 10,Qo 50 (.ix (.t 48) (.t 49)),Qo 51 (.cv .u32 (.t 50)),Qo 52 (.bo .add (.t 47) (.t 51)),Mv 8 52] [0,1,5,6,7,8,10]) (.sq (.rg none [Mv 53 8,Mv 54 6,Mv 55 0,Mv 56 10,Mv 57 7,Qo 58 (.bo .sub (.t 56) (.t 57)),Qo 59 (.ix (.t 55) (.t 58)),Qo 60 (.cv .u32 (.t 59)),Qo 61 (.bo .mul (.t 54) (.t 60)),Qo 62 (.bo .sub (.t 53) (.t 61)),Mv 8 62] [0,1,5,6,7,8,10]) (.sq (.rg none [Mv 63 10,Qo 64 (.bo .add (.t 63) (.c (.int .i64 1))),Mv 10 64] [0,1,5,6,7,8,10]) (.sq (.rg none [Mv 65 8,Mv 66 5,Qo 67 (.bo .eql (.t 65) (.t 66)),Mv 68 67,Gm 69 68 true 0,Gm 70 68 true 10,Gm 71 68 true 7,Gd 72 68 true (.bo .sub (.t 70) (.t 71)),Gm 73 68 true 10,Gd 74 68 true (.sl 0 (.t 69) (some (.t 72)) (some (.t 73))),Gm 75 68 true 1,Gd 76 68 true (.bo .eql (.t 74) (.t 75)),Qo 77 (.pk (.t 68) (.t 76) (.c (.bool false)))] [0,1,5,6,7,8,10,77]) (.cd (.t 77) (.sq (.rg none [Mv 78 10,Mv 79 7,Qo 80 (.bo .sub (.t 78) (.t 79)),Mv 4 80] [4]) .rt) .sk))))))))
def k179_2:C:=(.sq (.rg none [Qo 4 (.mv (.c (.int .i64 (-1))))] [4]) .rt)
def k179_3:C:=(.sq (.sq (.rg none [Mv 30 8,Mv 31 5,Qo 32 (.bo .eql (.t 30) (.t 31)),Mv 33 32,Gm 34 33 true 0,Gm 35 33 true 7,Gd 36 33 true (.sl 0 (.t 34) none (some (.t 35))),Gm 37 33 true 1,Gd 38 33 true (.bo .eql (.t 36) (.t 37)),Qo 39 (.pk (.t 33) (.t 38) (.c (.bool false)))] [0,1,5,6,7,8,39]) (.cd (.t 39) (.sq (.rg none [Qo 4 (.mv (.c (.int .i64 0)))] [4]) .rt) .sk)) (.sq (.sq (.rg none [Mv 40 7,Mv 10 40] [0,1,5,6,7,8,10]) (.bl 2 (.lp true b179_1))) k179_2))
def c179:FI.Fn:={ body:=(.sq (.rg none [Qo 4 (.mv (.c (.int .i64 0)))] [0,1]) (.sq (.rg none [Mv 12 1,Qo 13 (.cl 181 [(.t 12)]),Mv 11 13,Qo 14 (.ex (.t 11) 0),Qo 15 (.ex (.t 11) 1),Mv 5 14,Mv 6 15] [0,1,5,6]) (.sq (.rg none [Mv 16 1,Qo 17 (.ln 0 (.t 16)),Mv 7 17] [0,1,5,6,7]) (.sq (.rg none [Qo 8 (.mv (.c (.int .u32 0)))] [0,1,5,6,7,8]) (.sq (.sq (.rg none [Qo 9 (.mv (.c (.int .i64 0)))] [0,1,5,6,7,8,9]) (.bl 0 (.lp true b179_0))) k179_3))))),np:=2,res:=[.t 4],mode:=.iso }
def b181_0:C:=(.sq (.sq (.rg none [Mv 9 5,Mv 10 0,Qo 11 (.ln 0 (.t 10)),Qo 12 (.bo .lss (.t 9) (.t 11))] [0,4,5,12]) (.cd (.t 12) .sk (.xt 0))) (.sq (.bl 1 (.rg none [Mv 15 4,Qo 16 (.bo .mul (.t 15) (.c (.int .u32 16777619))),Mv 17 0,Mv 18 5,Qo 19 (.ix (.t 17) (.t 18)),Qo 20 (.cv .u32 (.t 19)),Qo 21 (.bo .add (.t 16) (.t 20)),Mv 4 21] [0,4,5])) (.rg none [Mv 13 5,Qo 14 (.bo .add (.t 13) (.c (.int .i64 1))),Mv 5 14] [0,4,5])))
def b181_1:C:=(.sq (.sq (.rg none [Mv 24 8,Qo 25 (.bo .gtr (.t 24) (.c (.int .i64 0)))] [4,6,7,8,25]) (.cd (.t 25) .sk (.xt 2))) (.sq (.bl 3 (.sq (.sq (.rg none [Mv 28 8,Qo 29 (.bo .and (.t 28) (.c (.int .i64 1))),Qo 30 (.bo .neq (.t 29) (.c (.int .i64 0)))] [4,6,7,8,30]) (.cd (.t 30) (.rg none [Mv 31 6,Mv 32 7,Qo 33 (.bo .mul (.t 31) (.t 32)),Mv 6 33] [4,6,7,8]) .sk)) (.rg none [Mv 34 7,Mv 35 7,Qo 36 (.bo .mul (.t 34) (.t 35)),Mv 7 36] [4,6,7,8]))) (.rg none [Mv 26 8,Qo 27 (.bo .shr (.t 26) (.c (.int .u64 1))),Mv 8 27] [4,6,7,8])))
def k181_2:C:=(.sq (.rg none [Mv 37 4,Mv 38 6,Mv 2 37,Mv 3 38] [2,3]) .rt)
def k181_3:C:=(.sq (.rg none [Qo 6 (.mv (.c (.int .u32 1))),Qo 7 (.mv (.c (.int .u32 16777619)))] [0,4,6,7]) (.sq (.sq (.rg none [Mv 22 0,Qo 23 (.ln 0 (.t 22)),Mv 8 23] [4,6,7,8]) (.bl 2 (.lp true b181_1))) k181_2))
def c181:FI.Fn:={ body:=(.sq (.rg none [Qo 2 (.mv (.c (.int .u32 0))),Qo 3 (.mv (.c (.int .u32 0)))] [0]) (.sq (.rg none [Qo 4 (.mv (.c (.int .u32 0)))] [0,4]) (.sq (.sq (.rg none [Qo 5 (.mv (.c (.int .i64 0)))] [0,4,5]) (.bl 0 (.lp true b181_0))) k181_3))),np:=1,res:=[.t 2,.t 3],mode:=.iso }
def T:FI.Tab:=[(6,.fn c6),(9,.fn c9),(10,.fn c10),(11,.fn c11),(15,.fn c15),(17,.fn c17),(19,.fn c19),(20,.fn c20),(21,.fn c21),(22,.fn c22),(23,.fn c23),(24,.fn c24),(25,.fn c25),(26,.fn c26),(27,.mr c27),(28,.fn c28),(30,.ct c30),(31,.fn c31),(32,.fn c32),(33,.fn c33),(34,.fn c34),(37,.fn c37),(38,.fn c38),(39,.fn c39),(40,.fn c40),(41,.fn c41),(42,.fn c42),(43,.fn c43),(44,.fn c44),(48,.fn c48),(49,.fn c49),(50,.fn c50),(55,.fn c55),(57,.fn c57),(58,.fn c58),(59,.fn c59),(60,.fn c60),(61,.fn c61),(62,.fn c62),(63,.fn c63),(64,.fn c64),(65,.fn c65),(66,.fn c66),(67,.fn c67),(70,.fn c70),(71,.fn c71),(72,.fn c72),(73,.fn c73),(81,.fn c81),(82,.fn c82),(86,.fn c86),(87,.fn c87),(89,.fn c89),(90,.fn c90),(91,.fn c91),(92,.fn c92),(93,.fn c93),(94,.fn c94),(95,.fn c95),(96,.fn c96),(97,.fn c97),(98,.fn c98),(99,.fn c99),(100,.fn c100),(101,.fn c101),(102,.fn c102),(103,.fn c103),(104,.fn c104),(105,.fn c105),(106,.fn c106),(107,.fn c107),(108,.fn c108),(110,.fn c110),(111,.fn c111),(112,.fn c112),(113,.fn c113),(114,.fn c114),(115,.fn c115),(116,.fn c116),(117,.fn c117),(118,.fn c118),(119,.fn c119),(135,.fn c135),(136,.fn c136),(137,.fn c137),(138,.fn c138),(139,.fn c139),(140,.fn c140),(141,.fn c141),(142,.fn c142),(143,.fn c143),(144,.fn c144),(145,.fn c145),(149,.fn c149),(150,.fn c150),(151,.fn c151),(152,.fn c152),(153,.fn c153),(154,.fn c154),(157,.fn c157),(158,.fn c158),(159,.fn c159),(160,.fn c160),(161,.fn c161),(164,.fn c164),(165,.fn c165),(166,.fn c166),(167,.fn c167),(168,.fn c168),(169,.fn c169),(170,.fn c170),(173,.fn c173),(174,.fn c174),(175,.fn c175),(176,.fn c176),(178,.fn c178),(179,.fn c179),(181,.fn c181),(1003100,.rd r1003100),(1003800,.rd r1003800),(1006200,.rd r1006200),(1006300,.rd r1006300)]
def glf (k:Nat) (cs:List FV):Bool:=(k == 0 && eqvs cs gl0)
theorem glfp (k:Nat) (cs:List FV) (h:glf k cs=true):pures cs=true:=by
 unfold glf at h
 simp only [Bool.or_eq_true,Bool.and_eq_true] at h
 rcases h with ⟨_,h⟩
 ·rw [eqvs_eq h];rfl
@[reducible] def sys0:FI.Sys:=⟨glf,fun _ _ _=>False,glfp⟩
instance sys:FI.Sys:=⟨glf,@RkOf sys0 Tryz.prog (cmOf T) (rdOf T),glfp⟩
theorem mix:Tryz.prog.follows .mixedOrders=true:=by kernel_rfl
theorem ok6:okFn Tryz.prog (cmOf T) (rdOf T) 6 c6=true:=by kernel_rfl
theorem ok9:okFn Tryz.prog (cmOf T) (rdOf T) 9 c9=true:=by kernel_rfl
theorem ok10:okFn Tryz.prog (cmOf T) (rdOf T) 10 c10=true:=by kernel_rfl
theorem ok11:okFn Tryz.prog (cmOf T) (rdOf T) 11 c11=true:=by kernel_rfl
theorem ok15:okFn Tryz.prog (cmOf T) (rdOf T) 15 c15=true:=by kernel_rfl
theorem ok17:okFn Tryz.prog (cmOf T) (rdOf T) 17 c17=true:=by kernel_rfl
theorem ok19:okFn Tryz.prog (cmOf T) (rdOf T) 19 c19=true:=by kernel_rfl
theorem ok20:okFn Tryz.prog (cmOf T) (rdOf T) 20 c20=true:=by kernel_rfl
theorem ok21:okFn Tryz.prog (cmOf T) (rdOf T) 21 c21=true:=by kernel_rfl
theorem ok22:okFn Tryz.prog (cmOf T) (rdOf T) 22 c22=true:=by kernel_rfl
theorem ok23:okFn Tryz.prog (cmOf T) (rdOf T) 23 c23=true:=by kernel_rfl
theorem ok24:okFn Tryz.prog (cmOf T) (rdOf T) 24 c24=true:=by kernel_rfl
theorem ok25:okFn Tryz.prog (cmOf T) (rdOf T) 25 c25=true:=by kernel_rfl
theorem ok26:okFn Tryz.prog (cmOf T) (rdOf T) 26 c26=true:=by kernel_rfl
theorem ok27:okMr Tryz.prog (cmOf T) (rdOf T) 27 c27=true:=by kernel_rfl
theorem ok28:okFn Tryz.prog (cmOf T) (rdOf T) 28 c28=true:=by kernel_rfl
theorem ok30:okCt Tryz.prog (cmOf T) (rdOf T) 30 c30=true:=by kernel_rfl
theorem ok31:okFn Tryz.prog (cmOf T) (rdOf T) 31 c31=true:=by kernel_rfl
theorem ok32:okFn Tryz.prog (cmOf T) (rdOf T) 32 c32=true:=by kernel_rfl
theorem ok33:okFn Tryz.prog (cmOf T) (rdOf T) 33 c33=true:=by kernel_rfl
theorem ok34:okFn Tryz.prog (cmOf T) (rdOf T) 34 c34=true:=by kernel_rfl
theorem ok37:okFn Tryz.prog (cmOf T) (rdOf T) 37 c37=true:=by kernel_rfl
theorem ok38:okFn Tryz.prog (cmOf T) (rdOf T) 38 c38=true:=by kernel_rfl
theorem ok39:okFn Tryz.prog (cmOf T) (rdOf T) 39 c39=true:=by kernel_rfl
theorem ok40:okFn Tryz.prog (cmOf T) (rdOf T) 40 c40=true:=by kernel_rfl
theorem ok41:okFn Tryz.prog (cmOf T) (rdOf T) 41 c41=true:=by kernel_rfl
theorem ok42:okFn Tryz.prog (cmOf T) (rdOf T) 42 c42=true:=by kernel_rfl
theorem ok43:okFn Tryz.prog (cmOf T) (rdOf T) 43 c43=true:=by kernel_rfl
theorem ok44:okFn Tryz.prog (cmOf T) (rdOf T) 44 c44=true:=by kernel_rfl
theorem ok48:okFn Tryz.prog (cmOf T) (rdOf T) 48 c48=true:=by kernel_rfl
theorem ok49:okFn Tryz.prog (cmOf T) (rdOf T) 49 c49=true:=by kernel_rfl
theorem ok50:okFn Tryz.prog (cmOf T) (rdOf T) 50 c50=true:=by kernel_rfl
theorem ok55:okFn Tryz.prog (cmOf T) (rdOf T) 55 c55=true:=by kernel_rfl
theorem ok57:okFn Tryz.prog (cmOf T) (rdOf T) 57 c57=true:=by kernel_rfl
theorem ok58:okFn Tryz.prog (cmOf T) (rdOf T) 58 c58=true:=by kernel_rfl
theorem ok59:okFn Tryz.prog (cmOf T) (rdOf T) 59 c59=true:=by kernel_rfl
theorem ok60:okFn Tryz.prog (cmOf T) (rdOf T) 60 c60=true:=by kernel_rfl
theorem ok61:okFn Tryz.prog (cmOf T) (rdOf T) 61 c61=true:=by kernel_rfl
theorem ok62:okFn Tryz.prog (cmOf T) (rdOf T) 62 c62=true:=by kernel_rfl
theorem ok63:okFn Tryz.prog (cmOf T) (rdOf T) 63 c63=true:=by kernel_rfl
theorem ok64:okFn Tryz.prog (cmOf T) (rdOf T) 64 c64=true:=by kernel_rfl
theorem ok65:okFn Tryz.prog (cmOf T) (rdOf T) 65 c65=true:=by kernel_rfl
theorem ok66:okFn Tryz.prog (cmOf T) (rdOf T) 66 c66=true:=by kernel_rfl
theorem ok67:okFn Tryz.prog (cmOf T) (rdOf T) 67 c67=true:=by kernel_rfl
theorem ok70:okFn Tryz.prog (cmOf T) (rdOf T) 70 c70=true:=by kernel_rfl
theorem ok71:okFn Tryz.prog (cmOf T) (rdOf T) 71 c71=true:=by kernel_rfl
theorem ok72:okFn Tryz.prog (cmOf T) (rdOf T) 72 c72=true:=by kernel_rfl
theorem ok73:okFn Tryz.prog (cmOf T) (rdOf T) 73 c73=true:=by kernel_rfl
theorem ok81:okFn Tryz.prog (cmOf T) (rdOf T) 81 c81=true:=by kernel_rfl
theorem ok82:okFn Tryz.prog (cmOf T) (rdOf T) 82 c82=true:=by kernel_rfl
theorem ok86:okFn Tryz.prog (cmOf T) (rdOf T) 86 c86=true:=by kernel_rfl
theorem ok87:okFn Tryz.prog (cmOf T) (rdOf T) 87 c87=true:=by kernel_rfl
theorem ok89:okFn Tryz.prog (cmOf T) (rdOf T) 89 c89=true:=by kernel_rfl
theorem ok90:okFn Tryz.prog (cmOf T) (rdOf T) 90 c90=true:=by kernel_rfl
theorem ok91:okFn Tryz.prog (cmOf T) (rdOf T) 91 c91=true:=by kernel_rfl
theorem ok92:okFn Tryz.prog (cmOf T) (rdOf T) 92 c92=true:=by kernel_rfl
theorem ok93:okFn Tryz.prog (cmOf T) (rdOf T) 93 c93=true:=by kernel_rfl
theorem ok94:okFn Tryz.prog (cmOf T) (rdOf T) 94 c94=true:=by kernel_rfl
theorem ok95:okFn Tryz.prog (cmOf T) (rdOf T) 95 c95=true:=by kernel_rfl
theorem ok96:okFn Tryz.prog (cmOf T) (rdOf T) 96 c96=true:=by kernel_rfl
theorem ok97:okFn Tryz.prog (cmOf T) (rdOf T) 97 c97=true:=by kernel_rfl
theorem ok98:okFn Tryz.prog (cmOf T) (rdOf T) 98 c98=true:=by kernel_rfl
theorem ok99:okFn Tryz.prog (cmOf T) (rdOf T) 99 c99=true:=by kernel_rfl
theorem ok100:okFn Tryz.prog (cmOf T) (rdOf T) 100 c100=true:=by kernel_rfl
theorem ok101:okFn Tryz.prog (cmOf T) (rdOf T) 101 c101=true:=by kernel_rfl
theorem ok102:okFn Tryz.prog (cmOf T) (rdOf T) 102 c102=true:=by kernel_rfl
theorem ok103:okFn Tryz.prog (cmOf T) (rdOf T) 103 c103=true:=by kernel_rfl
theorem ok104:okFn Tryz.prog (cmOf T) (rdOf T) 104 c104=true:=by kernel_rfl
theorem ok105:okFn Tryz.prog (cmOf T) (rdOf T) 105 c105=true:=by kernel_rfl
theorem ok106:okFn Tryz.prog (cmOf T) (rdOf T) 106 c106=true:=by kernel_rfl
theorem ok107:okFn Tryz.prog (cmOf T) (rdOf T) 107 c107=true:=by kernel_rfl
theorem ok108:okFn Tryz.prog (cmOf T) (rdOf T) 108 c108=true:=by kernel_rfl
theorem ok110:okFn Tryz.prog (cmOf T) (rdOf T) 110 c110=true:=by kernel_rfl
theorem ok111:okFn Tryz.prog (cmOf T) (rdOf T) 111 c111=true:=by kernel_rfl
theorem ok112:okFn Tryz.prog (cmOf T) (rdOf T) 112 c112=true:=by kernel_rfl
theorem ok113:okFn Tryz.prog (cmOf T) (rdOf T) 113 c113=true:=by kernel_rfl
theorem ok114:okFn Tryz.prog (cmOf T) (rdOf T) 114 c114=true:=by kernel_rfl
theorem ok115:okFn Tryz.prog (cmOf T) (rdOf T) 115 c115=true:=by kernel_rfl
theorem ok116:okFn Tryz.prog (cmOf T) (rdOf T) 116 c116=true:=by kernel_rfl
theorem ok117:okFn Tryz.prog (cmOf T) (rdOf T) 117 c117=true:=by kernel_rfl
theorem ok118:okFn Tryz.prog (cmOf T) (rdOf T) 118 c118=true:=by kernel_rfl
theorem ok119:okFn Tryz.prog (cmOf T) (rdOf T) 119 c119=true:=by kernel_rfl
theorem ok135:okFn Tryz.prog (cmOf T) (rdOf T) 135 c135=true:=by kernel_rfl
theorem ok136:okFn Tryz.prog (cmOf T) (rdOf T) 136 c136=true:=by kernel_rfl
theorem ok137:okFn Tryz.prog (cmOf T) (rdOf T) 137 c137=true:=by kernel_rfl
theorem ok138:okFn Tryz.prog (cmOf T) (rdOf T) 138 c138=true:=by kernel_rfl
theorem ok139:okFn Tryz.prog (cmOf T) (rdOf T) 139 c139=true:=by kernel_rfl
theorem ok140:okFn Tryz.prog (cmOf T) (rdOf T) 140 c140=true:=by kernel_rfl
theorem ok141:okFn Tryz.prog (cmOf T) (rdOf T) 141 c141=true:=by kernel_rfl
theorem ok142:okFn Tryz.prog (cmOf T) (rdOf T) 142 c142=true:=by kernel_rfl
theorem ok143:okFn Tryz.prog (cmOf T) (rdOf T) 143 c143=true:=by kernel_rfl
theorem ok144:okFn Tryz.prog (cmOf T) (rdOf T) 144 c144=true:=by kernel_rfl
theorem ok145:okFn Tryz.prog (cmOf T) (rdOf T) 145 c145=true:=by kernel_rfl
theorem ok149:okFn Tryz.prog (cmOf T) (rdOf T) 149 c149=true:=by kernel_rfl
theorem ok150:okFn Tryz.prog (cmOf T) (rdOf T) 150 c150=true:=by kernel_rfl
theorem ok151:okFn Tryz.prog (cmOf T) (rdOf T) 151 c151=true:=by kernel_rfl
theorem ok152:okFn Tryz.prog (cmOf T) (rdOf T) 152 c152=true:=by kernel_rfl
theorem ok153:okFn Tryz.prog (cmOf T) (rdOf T) 153 c153=true:=by kernel_rfl
theorem ok154:okFn Tryz.prog (cmOf T) (rdOf T) 154 c154=true:=by kernel_rfl
theorem ok157:okFn Tryz.prog (cmOf T) (rdOf T) 157 c157=true:=by kernel_rfl
theorem ok158:okFn Tryz.prog (cmOf T) (rdOf T) 158 c158=true:=by kernel_rfl
theorem ok159:okFn Tryz.prog (cmOf T) (rdOf T) 159 c159=true:=by kernel_rfl
theorem ok160:okFn Tryz.prog (cmOf T) (rdOf T) 160 c160=true:=by kernel_rfl
theorem ok161:okFn Tryz.prog (cmOf T) (rdOf T) 161 c161=true:=by kernel_rfl
theorem ok164:okFn Tryz.prog (cmOf T) (rdOf T) 164 c164=true:=by kernel_rfl
theorem ok165:okFn Tryz.prog (cmOf T) (rdOf T) 165 c165=true:=by kernel_rfl
theorem ok166:okFn Tryz.prog (cmOf T) (rdOf T) 166 c166=true:=by kernel_rfl
theorem ok167:okFn Tryz.prog (cmOf T) (rdOf T) 167 c167=true:=by kernel_rfl
theorem ok168:okFn Tryz.prog (cmOf T) (rdOf T) 168 c168=true:=by kernel_rfl
theorem ok169:okFn Tryz.prog (cmOf T) (rdOf T) 169 c169=true:=by kernel_rfl
theorem ok170:okFn Tryz.prog (cmOf T) (rdOf T) 170 c170=true:=by kernel_rfl
theorem ok173:okFn Tryz.prog (cmOf T) (rdOf T) 173 c173=true:=by kernel_rfl
theorem ok174:okFn Tryz.prog (cmOf T) (rdOf T) 174 c174=true:=by kernel_rfl
theorem ok175:okFn Tryz.prog (cmOf T) (rdOf T) 175 c175=true:=by kernel_rfl
theorem ok176:okFn Tryz.prog (cmOf T) (rdOf T) 176 c176=true:=by kernel_rfl
theorem ok178:okFn Tryz.prog (cmOf T) (rdOf T) 178 c178=true:=by kernel_rfl
theorem ok179:okFn Tryz.prog (cmOf T) (rdOf T) 179 c179=true:=by kernel_rfl
theorem ok181:okFn Tryz.prog (cmOf T) (rdOf T) 181 c181=true:=by kernel_rfl
theorem tab:TabOk Tryz.prog T where
 fn:=by
  intro f d h
  obtain ⟨rfl,h0⟩ | h:=tget_any h
  ·cases h0;exact ok6
  obtain ⟨rfl,h0⟩ | h:=tget_any h
  ·cases h0;exact ok9
  obtain ⟨rfl,h0⟩ | h:=tget_any h
  ·cases h0;exact ok10
  obtain ⟨rfl,h0⟩ | h:=tget_any h
  ·cases h0;exact ok11
  obtain ⟨rfl,h0⟩ | h:=tget_any h
  ·cases h0;exact ok15
  obtain ⟨rfl,h0⟩ | h:=tget_any h
  ·cases h0;exact ok17
  obtain ⟨rfl,h0⟩ | h:=tget_any h
  ·cases h0;exact ok19
  obtain ⟨rfl,h0⟩ | h:=tget_any h
  ·cases h0;exact ok20
  obtain ⟨rfl,h0⟩ | h:=tget_any h
  ·cases h0;exact ok21
  obtain ⟨rfl,h0⟩ | h:=tget_any h
  ·cases h0;exact ok22
  obtain ⟨rfl,h0⟩ | h:=tget_any h
  ·cases h0;exact ok23
  obtain ⟨rfl,h0⟩ | h:=tget_any h
  ·cases h0;exact ok24
  obtain ⟨rfl,h0⟩ | h:=tget_any h
  ·cases h0;exact ok25
  obtain ⟨rfl,h0⟩ | h:=tget_any h
  ·cases h0;exact ok26
  obtain ⟨_,h0⟩ | h:=tget_any h
  ·cases h0
  obtain ⟨rfl,h0⟩ | h:=tget_any h
  ·cases h0;exact ok28
  obtain ⟨_,h0⟩ | h:=tget_any h
  ·cases h0
  obtain ⟨rfl,h0⟩ | h:=tget_any h
  ·cases h0;exact ok31
  obtain ⟨rfl,h0⟩ | h:=tget_any h
  ·cases h0;exact ok32
  obtain ⟨rfl,h0⟩ | h:=tget_any h
  ·cases h0;exact ok33
  obtain ⟨rfl,h0⟩ | h:=tget_any h
  ·cases h0;exact ok34
  obtain ⟨rfl,h0⟩ | h:=tget_any h
  ·cases h0;exact ok37
  obtain ⟨rfl,h0⟩ | h:=tget_any h
  ·cases h0;exact ok38
  obtain ⟨rfl,h0⟩ | h:=tget_any h
  ·cases h0;exact ok39
  obtain ⟨rfl,h0⟩ | h:=tget_any h
  ·cases h0;exact ok40
  obtain ⟨rfl,h0⟩ | h:=tget_any h
  ·cases h0;exact ok41
  obtain ⟨rfl,h0⟩ | h:=tget_any h
  ·cases h0;exact ok42
  obtain ⟨rfl,h0⟩ | h:=tget_any h
  ·cases h0;exact ok43
  obtain ⟨rfl,h0⟩ | h:=tget_any h
  ·cases h0;exact ok44
  obtain ⟨rfl,h0⟩ | h:=tget_any h
  ·cases h0;exact ok48
  obtain ⟨rfl,h0⟩ | h:=tget_any h
  ·cases h0;exact ok49
  obtain ⟨rfl,h0⟩ | h:=tget_any h
  ·cases h0;exact ok50
  obtain ⟨rfl,h0⟩ | h:=tget_any h
  ·cases h0;exact ok55
  obtain ⟨rfl,h0⟩ | h:=tget_any h
  ·cases h0;exact ok57
  obtain ⟨rfl,h0⟩ | h:=tget_any h
  ·cases h0;exact ok58
  obtain ⟨rfl,h0⟩ | h:=tget_any h
  ·cases h0;exact ok59
  obtain ⟨rfl,h0⟩ | h:=tget_any h
  ·cases h0;exact ok60
  obtain ⟨rfl,h0⟩ | h:=tget_any h
  ·cases h0;exact ok61
  obtain ⟨rfl,h0⟩ | h:=tget_any h
  ·cases h0;exact ok62
  obtain ⟨rfl,h0⟩ | h:=tget_any h
  ·cases h0;exact ok63
  obtain ⟨rfl,h0⟩ | h:=tget_any h
  ·cases h0;exact ok64
  obtain ⟨rfl,h0⟩ | h:=tget_any h
  ·cases h0;exact ok65
  obtain ⟨rfl,h0⟩ | h:=tget_any h
  ·cases h0;exact ok66
  obtain ⟨rfl,h0⟩ | h:=tget_any h
  ·cases h0;exact ok67
  obtain ⟨rfl,h0⟩ | h:=tget_any h
  ·cases h0;exact ok70
  obtain ⟨rfl,h0⟩ | h:=tget_any h
  ·cases h0;exact ok71
  obtain ⟨rfl,h0⟩ | h:=tget_any h
  ·cases h0;exact ok72
  obtain ⟨rfl,h0⟩ | h:=tget_any h
  ·cases h0;exact ok73
  obtain ⟨rfl,h0⟩ | h:=tget_any h
  ·cases h0;exact ok81
  obtain ⟨rfl,h0⟩ | h:=tget_any h
  ·cases h0;exact ok82
  obtain ⟨rfl,h0⟩ | h:=tget_any h
  ·cases h0;exact ok86
  obtain ⟨rfl,h0⟩ | h:=tget_any h
  ·cases h0;exact ok87
  obtain ⟨rfl,h0⟩ | h:=tget_any h
  ·cases h0;exact ok89
  obtain ⟨rfl,h0⟩ | h:=tget_any h
  ·cases h0;exact ok90
  obtain ⟨rfl,h0⟩ | h:=tget_any h
  ·cases h0;exact ok91
  obtain ⟨rfl,h0⟩ | h:=tget_any h
  ·cases h0;exact ok92
  obtain ⟨rfl,h0⟩ | h:=tget_any h
  ·cases h0;exact ok93
  obtain ⟨rfl,h0⟩ | h:=tget_any h
  ·cases h0;exact ok94
  obtain ⟨rfl,h0⟩ | h:=tget_any h
  ·cases h0;exact ok95
  obtain ⟨rfl,h0⟩ | h:=tget_any h
  ·cases h0;exact ok96
  obtain ⟨rfl,h0⟩ | h:=tget_any h
  ·cases h0;exact ok97
  obtain ⟨rfl,h0⟩ | h:=tget_any h
  ·cases h0;exact ok98
  obtain ⟨rfl,h0⟩ | h:=tget_any h
  ·cases h0;exact ok99
  obtain ⟨rfl,h0⟩ | h:=tget_any h
  ·cases h0;exact ok100
  obtain ⟨rfl,h0⟩ | h:=tget_any h
  ·cases h0;exact ok101
  obtain ⟨rfl,h0⟩ | h:=tget_any h
  ·cases h0;exact ok102
  obtain ⟨rfl,h0⟩ | h:=tget_any h
  ·cases h0;exact ok103
  obtain ⟨rfl,h0⟩ | h:=tget_any h
  ·cases h0;exact ok104
  obtain ⟨rfl,h0⟩ | h:=tget_any h
  ·cases h0;exact ok105
  obtain ⟨rfl,h0⟩ | h:=tget_any h
  ·cases h0;exact ok106
  obtain ⟨rfl,h0⟩ | h:=tget_any h
  ·cases h0;exact ok107
  obtain ⟨rfl,h0⟩ | h:=tget_any h
  ·cases h0;exact ok108
  obtain ⟨rfl,h0⟩ | h:=tget_any h
  ·cases h0;exact ok110
  obtain ⟨rfl,h0⟩ | h:=tget_any h
  ·cases h0;exact ok111
  obtain ⟨rfl,h0⟩ | h:=tget_any h
  ·cases h0;exact ok112
  obtain ⟨rfl,h0⟩ | h:=tget_any h
  ·cases h0;exact ok113
  obtain ⟨rfl,h0⟩ | h:=tget_any h
  ·cases h0;exact ok114
  obtain ⟨rfl,h0⟩ | h:=tget_any h
  ·cases h0;exact ok115
  obtain ⟨rfl,h0⟩ | h:=tget_any h
  ·cases h0;exact ok116
  obtain ⟨rfl,h0⟩ | h:=tget_any h
  ·cases h0;exact ok117
  obtain ⟨rfl,h0⟩ | h:=tget_any h
  ·cases h0;exact ok118
  obtain ⟨rfl,h0⟩ | h:=tget_any h
  ·cases h0;exact ok119
  obtain ⟨rfl,h0⟩ | h:=tget_any h
  ·cases h0;exact ok135
  obtain ⟨rfl,h0⟩ | h:=tget_any h
  ·cases h0;exact ok136
  obtain ⟨rfl,h0⟩ | h:=tget_any h
  ·cases h0;exact ok137
  obtain ⟨rfl,h0⟩ | h:=tget_any h
  ·cases h0;exact ok138
  obtain ⟨rfl,h0⟩ | h:=tget_any h
  ·cases h0;exact ok139
  obtain ⟨rfl,h0⟩ | h:=tget_any h
  ·cases h0;exact ok140
  obtain ⟨rfl,h0⟩ | h:=tget_any h
  ·cases h0;exact ok141
  obtain ⟨rfl,h0⟩ | h:=tget_any h
  ·cases h0;exact ok142
  obtain ⟨rfl,h0⟩ | h:=tget_any h
  ·cases h0;exact ok143
  obtain ⟨rfl,h0⟩ | h:=tget_any h
  ·cases h0;exact ok144
  obtain ⟨rfl,h0⟩ | h:=tget_any h
  ·cases h0;exact ok145
  obtain ⟨rfl,h0⟩ | h:=tget_any h
  ·cases h0;exact ok149
  obtain ⟨rfl,h0⟩ | h:=tget_any h
  ·cases h0;exact ok150
  obtain ⟨rfl,h0⟩ | h:=tget_any h
  ·cases h0;exact ok151
  obtain ⟨rfl,h0⟩ | h:=tget_any h
  ·cases h0;exact ok152
  obtain ⟨rfl,h0⟩ | h:=tget_any h
  ·cases h0;exact ok153
  obtain ⟨rfl,h0⟩ | h:=tget_any h
  ·cases h0;exact ok154
  obtain ⟨rfl,h0⟩ | h:=tget_any h
  ·cases h0;exact ok157
  obtain ⟨rfl,h0⟩ | h:=tget_any h
  ·cases h0;exact ok158
  obtain ⟨rfl,h0⟩ | h:=tget_any h
  ·cases h0;exact ok159
  obtain ⟨rfl,h0⟩ | h:=tget_any h
  ·cases h0;exact ok160
  obtain ⟨rfl,h0⟩ | h:=tget_any h
  ·cases h0;exact ok161
  obtain ⟨rfl,h0⟩ | h:=tget_any h
  ·cases h0;exact ok164
  obtain ⟨rfl,h0⟩ | h:=tget_any h
  ·cases h0;exact ok165
  obtain ⟨rfl,h0⟩ | h:=tget_any h
  ·cases h0;exact ok166
  obtain ⟨rfl,h0⟩ | h:=tget_any h
  ·cases h0;exact ok167
  obtain ⟨rfl,h0⟩ | h:=tget_any h
  ·cases h0;exact ok168
  obtain ⟨rfl,h0⟩ | h:=tget_any h
  ·cases h0;exact ok169
  obtain ⟨rfl,h0⟩ | h:=tget_any h
  ·cases h0;exact ok170
  obtain ⟨rfl,h0⟩ | h:=tget_any h
  ·cases h0;exact ok173
  obtain ⟨rfl,h0⟩ | h:=tget_any h
  ·cases h0;exact ok174
  obtain ⟨rfl,h0⟩ | h:=tget_any h
  ·cases h0;exact ok175
  obtain ⟨rfl,h0⟩ | h:=tget_any h
  ·cases h0;exact ok176
  obtain ⟨rfl,h0⟩ | h:=tget_any h
  ·cases h0;exact ok178
  obtain ⟨rfl,h0⟩ | h:=tget_any h
  ·cases h0;exact ok179
  obtain ⟨rfl,h0⟩ | h:=tget_any h
  ·cases h0;exact ok181
  obtain ⟨_,h0⟩ | h:=tget_any h
  ·cases h0
  obtain ⟨_,h0⟩ | h:=tget_any h
  ·cases h0
  obtain ⟨_,h0⟩ | h:=tget_any h
  ·cases h0
  obtain ⟨_,h0⟩ | h:=tget_any h
  ·cases h0
  cases h
 ext:=by
  intro f d h
  obtain ⟨_,h0⟩ | h:=tget_any h
  ·cases h0
  obtain ⟨_,h0⟩ | h:=tget_any h
  ·cases h0
  obtain ⟨_,h0⟩ | h:=tget_any h
  ·cases h0
  obtain ⟨_,h0⟩ | h:=tget_any h
  ·cases h0
  obtain ⟨_,h0⟩ | h:=tget_any h
  ·cases h0
  obtain ⟨_,h0⟩ | h:=tget_any h
  ·cases h0
  obtain ⟨_,h0⟩ | h:=tget_any h
  ·cases h0
  obtain ⟨_,h0⟩ | h:=tget_any h
  ·cases h0
  obtain ⟨_,h0⟩ | h:=tget_any h
  ·cases h0
  obtain ⟨_,h0⟩ | h:=tget_any h
  ·cases h0
  obtain ⟨_,h0⟩ | h:=tget_any h
  ·cases h0
  obtain ⟨_,h0⟩ | h:=tget_any h
  ·cases h0
  obtain ⟨_,h0⟩ | h:=tget_any h
  ·cases h0
  obtain ⟨_,h0⟩ | h:=tget_any h
  ·cases h0
  obtain ⟨_,h0⟩ | h:=tget_any h
  ·cases h0
  obtain ⟨_,h0⟩ | h:=tget_any h
  ·cases h0
  obtain ⟨_,h0⟩ | h:=tget_any h
  ·cases h0
  obtain ⟨_,h0⟩ | h:=tget_any h
  ·cases h0
  obtain ⟨_,h0⟩ | h:=tget_any h
  ·cases h0
  obtain ⟨_,h0⟩ | h:=tget_any h
  ·cases h0
  obtain ⟨_,h0⟩ | h:=tget_any h
  ·cases h0
  obtain ⟨_,h0⟩ | h:=tget_any h
  ·cases h0
  obtain ⟨_,h0⟩ | h:=tget_any h
  ·cases h0
  obtain ⟨_,h0⟩ | h:=tget_any h
  ·cases h0
  obtain ⟨_,h0⟩ | h:=tget_any h
  ·cases h0
  obtain ⟨_,h0⟩ | h:=tget_any h
  ·cases h0
  obtain ⟨_,h0⟩ | h:=tget_any h
  ·cases h0
  obtain ⟨_,h0⟩ | h:=tget_any h
  ·cases h0
  obtain ⟨_,h0⟩ | h:=tget_any h
  ·cases h0
  obtain ⟨_,h0⟩ | h:=tget_any h
  ·cases h0
  obtain ⟨_,h0⟩ | h:=tget_any h
  ·cases h0
  obtain ⟨_,h0⟩ | h:=tget_any h
  ·cases h0
  obtain ⟨_,h0⟩ | h:=tget_any h
  ·cases h0
  obtain ⟨_,h0⟩ | h:=tget_any h
  ·cases h0
  obtain ⟨_,h0⟩ | h:=tget_any h
  ·cases h0
  obtain ⟨_,h0⟩ | h:=tget_any h
  ·cases h0
  obtain ⟨_,h0⟩ | h:=tget_any h
  ·cases h0
  obtain ⟨_,h0⟩ | h:=tget_any h
  ·cases h0
  obtain ⟨_,h0⟩ | h:=tget_any h
  ·cases h0
  obtain ⟨_,h0⟩ | h:=tget_any h
  ·cases h0
  obtain ⟨_,h0⟩ | h:=tget_any h
  ·cases h0
  obtain ⟨_,h0⟩ | h:=tget_any h
  ·cases h0
  obtain ⟨_,h0⟩ | h:=tget_any h
  ·cases h0
  obtain ⟨_,h0⟩ | h:=tget_any h
  ·cases h0
  obtain ⟨_,h0⟩ | h:=tget_any h
  ·cases h0
  obtain ⟨_,h0⟩ | h:=tget_any h
  ·cases h0
  obtain ⟨_,h0⟩ | h:=tget_any h
  ·cases h0
  obtain ⟨_,h0⟩ | h:=tget_any h
  ·cases h0
  obtain ⟨_,h0⟩ | h:=tget_any h
  ·cases h0
  obtain ⟨_,h0⟩ | h:=tget_any h
  ·cases h0
  obtain ⟨_,h0⟩ | h:=tget_any h
  ·cases h0
  obtain ⟨_,h0⟩ | h:=tget_any h
  ·cases h0
  obtain ⟨_,h0⟩ | h:=tget_any h
  ·cases h0
  obtain ⟨_,h0⟩ | h:=tget_any h
  ·cases h0
  obtain ⟨_,h0⟩ | h:=tget_any h
  ·cases h0
  obtain ⟨_,h0⟩ | h:=tget_any h
  ·cases h0
  obtain ⟨_,h0⟩ | h:=tget_any h
  ·cases h0
  obtain ⟨_,h0⟩ | h:=tget_any h
  ·cases h0
  obtain ⟨_,h0⟩ | h:=tget_any h
  ·cases h0
  obtain ⟨_,h0⟩ | h:=tget_any h
  ·cases h0
  obtain ⟨_,h0⟩ | h:=tget_any h
  ·cases h0
  obtain ⟨_,h0⟩ | h:=tget_any h
  ·cases h0
  obtain ⟨_,h0⟩ | h:=tget_any h
  ·cases h0
  obtain ⟨_,h0⟩ | h:=tget_any h
  ·cases h0
  obtain ⟨_,h0⟩ | h:=tget_any h
  ·cases h0
  obtain ⟨_,h0⟩ | h:=tget_any h
  ·cases h0
  obtain ⟨_,h0⟩ | h:=tget_any h
  ·cases h0
  obtain ⟨_,h0⟩ | h:=tget_any h
  ·cases h0
  obtain ⟨_,h0⟩ | h:=tget_any h
  ·cases h0
  obtain ⟨_,h0⟩ | h:=tget_any h
  ·cases h0
  obtain ⟨_,h0⟩ | h:=tget_any h
  ·cases h0
  obtain ⟨_,h0⟩ | h:=tget_any h
  ·cases h0
  obtain ⟨_,h0⟩ | h:=tget_any h
  ·cases h0
  obtain ⟨_,h0⟩ | h:=tget_any h
  ·cases h0
  obtain ⟨_,h0⟩ | h:=tget_any h
  ·cases h0
  obtain ⟨_,h0⟩ | h:=tget_any h
  ·cases h0
  obtain ⟨_,h0⟩ | h:=tget_any h
  ·cases h0
  obtain ⟨_,h0⟩ | h:=tget_any h
  ·cases h0
  obtain ⟨_,h0⟩ | h:=tget_any h
  ·cases h0
  obtain ⟨_,h0⟩ | h:=tget_any h
  ·cases h0
  obtain ⟨_,h0⟩ | h:=tget_any h
  ·cases h0
  obtain ⟨_,h0⟩ | h:=tget_any h
  ·cases h0
  obtain ⟨_,h0⟩ | h:=tget_any h
  ·cases h0
  obtain ⟨_,h0⟩ | h:=tget_any h
  ·cases h0
  obtain ⟨_,h0⟩ | h:=tget_any h
  ·cases h0
  obtain ⟨_,h0⟩ | h:=tget_any h
  ·cases h0
  obtain ⟨_,h0⟩ | h:=tget_any h
  ·cases h0
  obtain ⟨_,h0⟩ | h:=tget_any h
  ·cases h0
  obtain ⟨_,h0⟩ | h:=tget_any h
  ·cases h0
  obtain ⟨_,h0⟩ | h:=tget_any h
  ·cases h0
  obtain ⟨_,h0⟩ | h:=tget_any h
  ·cases h0
  obtain ⟨_,h0⟩ | h:=tget_any h
  ·cases h0
  obtain ⟨_,h0⟩ | h:=tget_any h
  ·cases h0
  obtain ⟨_,h0⟩ | h:=tget_any h
  ·cases h0
  obtain ⟨_,h0⟩ | h:=tget_any h
  ·cases h0
  obtain ⟨_,h0⟩ | h:=tget_any h
  ·cases h0
  obtain ⟨_,h0⟩ | h:=tget_any h
  ·cases h0
  obtain ⟨_,h0⟩ | h:=tget_any h
  ·cases h0
  obtain ⟨_,h0⟩ | h:=tget_any h
  ·cases h0
  obtain ⟨_,h0⟩ | h:=tget_any h
  ·cases h0
  obtain ⟨_,h0⟩ | h:=tget_any h
  ·cases h0
  obtain ⟨_,h0⟩ | h:=tget_any h
  ·cases h0
  obtain ⟨_,h0⟩ | h:=tget_any h
  ·cases h0
  obtain ⟨_,h0⟩ | h:=tget_any h
  ·cases h0
  obtain ⟨_,h0⟩ | h:=tget_any h
  ·cases h0
  obtain ⟨_,h0⟩ | h:=tget_any h
  ·cases h0
  obtain ⟨_,h0⟩ | h:=tget_any h
  ·cases h0
  obtain ⟨_,h0⟩ | h:=tget_any h
  ·cases h0
  obtain ⟨_,h0⟩ | h:=tget_any h
  ·cases h0
  obtain ⟨_,h0⟩ | h:=tget_any h
  ·cases h0
  obtain ⟨_,h0⟩ | h:=tget_any h
  ·cases h0
  obtain ⟨_,h0⟩ | h:=tget_any h
  ·cases h0
  obtain ⟨_,h0⟩ | h:=tget_any h
  ·cases h0
  obtain ⟨_,h0⟩ | h:=tget_any h
  ·cases h0
  obtain ⟨_,h0⟩ | h:=tget_any h
  ·cases h0
  obtain ⟨_,h0⟩ | h:=tget_any h
  ·cases h0
  obtain ⟨_,h0⟩ | h:=tget_any h
  ·cases h0
  obtain ⟨_,h0⟩ | h:=tget_any h
  ·cases h0
  obtain ⟨_,h0⟩ | h:=tget_any h
  ·cases h0
  obtain ⟨_,h0⟩ | h:=tget_any h
  ·cases h0
  obtain ⟨_,h0⟩ | h:=tget_any h
  ·cases h0
  obtain ⟨_,h0⟩ | h:=tget_any h
  ·cases h0
  cases h
 ct:=by
  intro f d h
  obtain ⟨_,h0⟩ | h:=tget_any h
  ·cases h0
  obtain ⟨_,h0⟩ | h:=tget_any h
  ·cases h0
  obtain ⟨_,h0⟩ | h:=tget_any h
  ·cases h0
  obtain ⟨_,h0⟩ | h:=tget_any h
  ·cases h0
  obtain ⟨_,h0⟩ | h:=tget_any h
  ·cases h0
  obtain ⟨_,h0⟩ | h:=tget_any h
  ·cases h0
  obtain ⟨_,h0⟩ | h:=tget_any h
  ·cases h0
  obtain ⟨_,h0⟩ | h:=tget_any h
  ·cases h0
  obtain ⟨_,h0⟩ | h:=tget_any h
  ·cases h0
  obtain ⟨_,h0⟩ | h:=tget_any h
  ·cases h0
  obtain ⟨_,h0⟩ | h:=tget_any h
  ·cases h0
  obtain ⟨_,h0⟩ | h:=tget_any h
  ·cases h0
  obtain ⟨_,h0⟩ | h:=tget_any h
  ·cases h0
  obtain ⟨_,h0⟩ | h:=tget_any h
  ·cases h0
  obtain ⟨_,h0⟩ | h:=tget_any h
  ·cases h0
  obtain ⟨_,h0⟩ | h:=tget_any h
  ·cases h0
  obtain ⟨rfl,h0⟩ | h:=tget_any h
  ·cases h0;exact ok30
  obtain ⟨_,h0⟩ | h:=tget_any h
  ·cases h0
  obtain ⟨_,h0⟩ | h:=tget_any h
  ·cases h0
  obtain ⟨_,h0⟩ | h:=tget_any h
  ·cases h0
  obtain ⟨_,h0⟩ | h:=tget_any h
  ·cases h0
  obtain ⟨_,h0⟩ | h:=tget_any h
  ·cases h0
  obtain ⟨_,h0⟩ | h:=tget_any h
  ·cases h0
  obtain ⟨_,h0⟩ | h:=tget_any h
  ·cases h0
  obtain ⟨_,h0⟩ | h:=tget_any h
  ·cases h0
  obtain ⟨_,h0⟩ | h:=tget_any h
  ·cases h0
  obtain ⟨_,h0⟩ | h:=tget_any h
  ·cases h0
  obtain ⟨_,h0⟩ | h:=tget_any h
  ·cases h0
  obtain ⟨_,h0⟩ | h:=tget_any h
  ·cases h0
  obtain ⟨_,h0⟩ | h:=tget_any h
  ·cases h0
  obtain ⟨_,h0⟩ | h:=tget_any h
  ·cases h0
  obtain ⟨_,h0⟩ | h:=tget_any h
  ·cases h0
  obtain ⟨_,h0⟩ | h:=tget_any h
  ·cases h0
  obtain ⟨_,h0⟩ | h:=tget_any h
  ·cases h0
  obtain ⟨_,h0⟩ | h:=tget_any h
  ·cases h0
  obtain ⟨_,h0⟩ | h:=tget_any h
  ·cases h0
  obtain ⟨_,h0⟩ | h:=tget_any h
  ·cases h0
  obtain ⟨_,h0⟩ | h:=tget_any h
  ·cases h0
  obtain ⟨_,h0⟩ | h:=tget_any h
  ·cases h0
  obtain ⟨_,h0⟩ | h:=tget_any h
  ·cases h0
  obtain ⟨_,h0⟩ | h:=tget_any h
  ·cases h0
  obtain ⟨_,h0⟩ | h:=tget_any h
  ·cases h0
  obtain ⟨_,h0⟩ | h:=tget_any h
  ·cases h0
  obtain ⟨_,h0⟩ | h:=tget_any h
  ·cases h0
  obtain ⟨_,h0⟩ | h:=tget_any h
  ·cases h0
  obtain ⟨_,h0⟩ | h:=tget_any h
  ·cases h0
  obtain ⟨_,h0⟩ | h:=tget_any h
  ·cases h0
  obtain ⟨_,h0⟩ | h:=tget_any h
  ·cases h0
  obtain ⟨_,h0⟩ | h:=tget_any h
  ·cases h0
  obtain ⟨_,h0⟩ | h:=tget_any h
  ·cases h0
  obtain ⟨_,h0⟩ | h:=tget_any h
  ·cases h0
  obtain ⟨_,h0⟩ | h:=tget_any h
  ·cases h0
  obtain ⟨_,h0⟩ | h:=tget_any h
  ·cases h0
  obtain ⟨_,h0⟩ | h:=tget_any h
  ·cases h0
  obtain ⟨_,h0⟩ | h:=tget_any h
  ·cases h0
  obtain ⟨_,h0⟩ | h:=tget_any h
  ·cases h0
  obtain ⟨_,h0⟩ | h:=tget_any h
  ·cases h0
  obtain ⟨_,h0⟩ | h:=tget_any h
  ·cases h0
  obtain ⟨_,h0⟩ | h:=tget_any h
  ·cases h0
  obtain ⟨_,h0⟩ | h:=tget_any h
  ·cases h0
  obtain ⟨_,h0⟩ | h:=tget_any h
  ·cases h0
  obtain ⟨_,h0⟩ | h:=tget_any h
  ·cases h0
  obtain ⟨_,h0⟩ | h:=tget_any h
  ·cases h0
  obtain ⟨_,h0⟩ | h:=tget_any h
  ·cases h0
  obtain ⟨_,h0⟩ | h:=tget_any h
  ·cases h0
  obtain ⟨_,h0⟩ | h:=tget_any h
  ·cases h0
  obtain ⟨_,h0⟩ | h:=tget_any h
  ·cases h0
  obtain ⟨_,h0⟩ | h:=tget_any h
  ·cases h0
  obtain ⟨_,h0⟩ | h:=tget_any h
  ·cases h0
  obtain ⟨_,h0⟩ | h:=tget_any h
  ·cases h0
  obtain ⟨_,h0⟩ | h:=tget_any h
  ·cases h0
  obtain ⟨_,h0⟩ | h:=tget_any h
  ·cases h0
  obtain ⟨_,h0⟩ | h:=tget_any h
  ·cases h0
  obtain ⟨_,h0⟩ | h:=tget_any h
  ·cases h0
  obtain ⟨_,h0⟩ | h:=tget_any h
  ·cases h0
  obtain ⟨_,h0⟩ | h:=tget_any h
  ·cases h0
  obtain ⟨_,h0⟩ | h:=tget_any h
  ·cases h0
  obtain ⟨_,h0⟩ | h:=tget_any h
  ·cases h0
  obtain ⟨_,h0⟩ | h:=tget_any h
  ·cases h0
  obtain ⟨_,h0⟩ | h:=tget_any h
  ·cases h0
  obtain ⟨_,h0⟩ | h:=tget_any h
  ·cases h0
  obtain ⟨_,h0⟩ | h:=tget_any h
  ·cases h0
  obtain ⟨_,h0⟩ | h:=tget_any h
  ·cases h0
  obtain ⟨_,h0⟩ | h:=tget_any h
  ·cases h0
  obtain ⟨_,h0⟩ | h:=tget_any h
  ·cases h0
  obtain ⟨_,h0⟩ | h:=tget_any h
  ·cases h0
  obtain ⟨_,h0⟩ | h:=tget_any h
  ·cases h0
  obtain ⟨_,h0⟩ | h:=tget_any h
  ·cases h0
  obtain ⟨_,h0⟩ | h:=tget_any h
  ·cases h0
  obtain ⟨_,h0⟩ | h:=tget_any h
  ·cases h0
  obtain ⟨_,h0⟩ | h:=tget_any h
  ·cases h0
  obtain ⟨_,h0⟩ | h:=tget_any h
  ·cases h0
  obtain ⟨_,h0⟩ | h:=tget_any h
  ·cases h0
  obtain ⟨_,h0⟩ | h:=tget_any h
  ·cases h0
  obtain ⟨_,h0⟩ | h:=tget_any h
  ·cases h0
  obtain ⟨_,h0⟩ | h:=tget_any h
  ·cases h0
  obtain ⟨_,h0⟩ | h:=tget_any h
  ·cases h0
  obtain ⟨_,h0⟩ | h:=tget_any h
  ·cases h0
  obtain ⟨_,h0⟩ | h:=tget_any h
  ·cases h0
  obtain ⟨_,h0⟩ | h:=tget_any h
  ·cases h0
  obtain ⟨_,h0⟩ | h:=tget_any h
  ·cases h0
  obtain ⟨_,h0⟩ | h:=tget_any h
  ·cases h0
  obtain ⟨_,h0⟩ | h:=tget_any h
  ·cases h0
  obtain ⟨_,h0⟩ | h:=tget_any h
  ·cases h0
  obtain ⟨_,h0⟩ | h:=tget_any h
  ·cases h0
  obtain ⟨_,h0⟩ | h:=tget_any h
  ·cases h0
  obtain ⟨_,h0⟩ | h:=tget_any h
  ·cases h0
  obtain ⟨_,h0⟩ | h:=tget_any h
  ·cases h0
  obtain ⟨_,h0⟩ | h:=tget_any h
  ·cases h0
  obtain ⟨_,h0⟩ | h:=tget_any h
  ·cases h0
  obtain ⟨_,h0⟩ | h:=tget_any h
  ·cases h0
  obtain ⟨_,h0⟩ | h:=tget_any h
  ·cases h0
  obtain ⟨_,h0⟩ | h:=tget_any h
  ·cases h0
  obtain ⟨_,h0⟩ | h:=tget_any h
  ·cases h0
  obtain ⟨_,h0⟩ | h:=tget_any h
  ·cases h0
  obtain ⟨_,h0⟩ | h:=tget_any h
  ·cases h0
  obtain ⟨_,h0⟩ | h:=tget_any h
  ·cases h0
  obtain ⟨_,h0⟩ | h:=tget_any h
  ·cases h0
  obtain ⟨_,h0⟩ | h:=tget_any h
  ·cases h0
  obtain ⟨_,h0⟩ | h:=tget_any h
  ·cases h0
  obtain ⟨_,h0⟩ | h:=tget_any h
  ·cases h0
  obtain ⟨_,h0⟩ | h:=tget_any h
  ·cases h0
  cases h
 mr:=by
  intro f d h
  obtain ⟨_,h0⟩ | h:=tget_any h
  ·cases h0
  obtain ⟨_,h0⟩ | h:=tget_any h
  ·cases h0
  obtain ⟨_,h0⟩ | h:=tget_any h
  ·cases h0
  obtain ⟨_,h0⟩ | h:=tget_any h
  ·cases h0
  obtain ⟨_,h0⟩ | h:=tget_any h
  ·cases h0
  obtain ⟨_,h0⟩ | h:=tget_any h
  ·cases h0
  obtain ⟨_,h0⟩ | h:=tget_any h
  ·cases h0
  obtain ⟨_,h0⟩ | h:=tget_any h
  ·cases h0
  obtain ⟨_,h0⟩ | h:=tget_any h
  ·cases h0
  obtain ⟨_,h0⟩ | h:=tget_any h
  ·cases h0
  obtain ⟨_,h0⟩ | h:=tget_any h
  ·cases h0
  obtain ⟨_,h0⟩ | h:=tget_any h
  ·cases h0
  obtain ⟨_,h0⟩ | h:=tget_any h
  ·cases h0
  obtain ⟨_,h0⟩ | h:=tget_any h
  ·cases h0
  obtain ⟨rfl,h0⟩ | h:=tget_any h
  ·cases h0;exact ok27
  obtain ⟨_,h0⟩ | h:=tget_any h
  ·cases h0
  obtain ⟨_,h0⟩ | h:=tget_any h
  ·cases h0
  obtain ⟨_,h0⟩ | h:=tget_any h
  ·cases h0
  obtain ⟨_,h0⟩ | h:=tget_any h
  ·cases h0
  obtain ⟨_,h0⟩ | h:=tget_any h
  ·cases h0
  obtain ⟨_,h0⟩ | h:=tget_any h
  ·cases h0
  obtain ⟨_,h0⟩ | h:=tget_any h
  ·cases h0
  obtain ⟨_,h0⟩ | h:=tget_any h
  ·cases h0
  obtain ⟨_,h0⟩ | h:=tget_any h
  ·cases h0
  obtain ⟨_,h0⟩ | h:=tget_any h
  ·cases h0
  obtain ⟨_,h0⟩ | h:=tget_any h
  ·cases h0
  obtain ⟨_,h0⟩ | h:=tget_any h
  ·cases h0
  obtain ⟨_,h0⟩ | h:=tget_any h
  ·cases h0
  obtain ⟨_,h0⟩ | h:=tget_any h
  ·cases h0
  obtain ⟨_,h0⟩ | h:=tget_any h
  ·cases h0
  obtain ⟨_,h0⟩ | h:=tget_any h
  ·cases h0
  obtain ⟨_,h0⟩ | h:=tget_any h
  ·cases h0
  obtain ⟨_,h0⟩ | h:=tget_any h
  ·cases h0
  obtain ⟨_,h0⟩ | h:=tget_any h
  ·cases h0
  obtain ⟨_,h0⟩ | h:=tget_any h
  ·cases h0
  obtain ⟨_,h0⟩ | h:=tget_any h
  ·cases h0
  obtain ⟨_,h0⟩ | h:=tget_any h
  ·cases h0
  obtain ⟨_,h0⟩ | h:=tget_any h
  ·cases h0
  obtain ⟨_,h0⟩ | h:=tget_any h
  ·cases h0
  obtain ⟨_,h0⟩ | h:=tget_any h
  ·cases h0
  obtain ⟨_,h0⟩ | h:=tget_any h
  ·cases h0
  obtain ⟨_,h0⟩ | h:=tget_any h
  ·cases h0
  obtain ⟨_,h0⟩ | h:=tget_any h
  ·cases h0
  obtain ⟨_,h0⟩ | h:=tget_any h
  ·cases h0
  obtain ⟨_,h0⟩ | h:=tget_any h
  ·cases h0
  obtain ⟨_,h0⟩ | h:=tget_any h
  ·cases h0
  obtain ⟨_,h0⟩ | h:=tget_any h
  ·cases h0
  obtain ⟨_,h0⟩ | h:=tget_any h
  ·cases h0
  obtain ⟨_,h0⟩ | h:=tget_any h
  ·cases h0
  obtain ⟨_,h0⟩ | h:=tget_any h
  ·cases h0
  obtain ⟨_,h0⟩ | h:=tget_any h
  ·cases h0
  obtain ⟨_,h0⟩ | h:=tget_any h
  ·cases h0
  obtain ⟨_,h0⟩ | h:=tget_any h
  ·cases h0
  obtain ⟨_,h0⟩ | h:=tget_any h
  ·cases h0
  obtain ⟨_,h0⟩ | h:=tget_any h
  ·cases h0
  obtain ⟨_,h0⟩ | h:=tget_any h
  ·cases h0
  obtain ⟨_,h0⟩ | h:=tget_any h
  ·cases h0
  obtain ⟨_,h0⟩ | h:=tget_any h
  ·cases h0
  obtain ⟨_,h0⟩ | h:=tget_any h
  ·cases h0
  obtain ⟨_,h0⟩ | h:=tget_any h
  ·cases h0
  obtain ⟨_,h0⟩ | h:=tget_any h
  ·cases h0
  obtain ⟨_,h0⟩ | h:=tget_any h
  ·cases h0
  obtain ⟨_,h0⟩ | h:=tget_any h
  ·cases h0
  obtain ⟨_,h0⟩ | h:=tget_any h
  ·cases h0
  obtain ⟨_,h0⟩ | h:=tget_any h
  ·cases h0
  obtain ⟨_,h0⟩ | h:=tget_any h
  ·cases h0
  obtain ⟨_,h0⟩ | h:=tget_any h
  ·cases h0
  obtain ⟨_,h0⟩ | h:=tget_any h
  ·cases h0
  obtain ⟨_,h0⟩ | h:=tget_any h
  ·cases h0
  obtain ⟨_,h0⟩ | h:=tget_any h
  ·cases h0
  obtain ⟨_,h0⟩ | h:=tget_any h
  ·cases h0
  obtain ⟨_,h0⟩ | h:=tget_any h
  ·cases h0
  obtain ⟨_,h0⟩ | h:=tget_any h
  ·cases h0
  obtain ⟨_,h0⟩ | h:=tget_any h
  ·cases h0
  obtain ⟨_,h0⟩ | h:=tget_any h
  ·cases h0
  obtain ⟨_,h0⟩ | h:=tget_any h
  ·cases h0
  obtain ⟨_,h0⟩ | h:=tget_any h
  ·cases h0
  obtain ⟨_,h0⟩ | h:=tget_any h
  ·cases h0
  obtain ⟨_,h0⟩ | h:=tget_any h
  ·cases h0
  obtain ⟨_,h0⟩ | h:=tget_any h
  ·cases h0
  obtain ⟨_,h0⟩ | h:=tget_any h
  ·cases h0
  obtain ⟨_,h0⟩ | h:=tget_any h
  ·cases h0
  obtain ⟨_,h0⟩ | h:=tget_any h
  ·cases h0
  obtain ⟨_,h0⟩ | h:=tget_any h
  ·cases h0
  obtain ⟨_,h0⟩ | h:=tget_any h
  ·cases h0
  obtain ⟨_,h0⟩ | h:=tget_any h
  ·cases h0
  obtain ⟨_,h0⟩ | h:=tget_any h
  ·cases h0
  obtain ⟨_,h0⟩ | h:=tget_any h
  ·cases h0
  obtain ⟨_,h0⟩ | h:=tget_any h
  ·cases h0
  obtain ⟨_,h0⟩ | h:=tget_any h
  ·cases h0
  obtain ⟨_,h0⟩ | h:=tget_any h
  ·cases h0
  obtain ⟨_,h0⟩ | h:=tget_any h
  ·cases h0
  obtain ⟨_,h0⟩ | h:=tget_any h
  ·cases h0
  obtain ⟨_,h0⟩ | h:=tget_any h
  ·cases h0
  obtain ⟨_,h0⟩ | h:=tget_any h
  ·cases h0
  obtain ⟨_,h0⟩ | h:=tget_any h
  ·cases h0
  obtain ⟨_,h0⟩ | h:=tget_any h
  ·cases h0
  obtain ⟨_,h0⟩ | h:=tget_any h
  ·cases h0
  obtain ⟨_,h0⟩ | h:=tget_any h
  ·cases h0
  obtain ⟨_,h0⟩ | h:=tget_any h
  ·cases h0
  obtain ⟨_,h0⟩ | h:=tget_any h
  ·cases h0
  obtain ⟨_,h0⟩ | h:=tget_any h
  ·cases h0
  obtain ⟨_,h0⟩ | h:=tget_any h
  ·cases h0
  obtain ⟨_,h0⟩ | h:=tget_any h
  ·cases h0
  obtain ⟨_,h0⟩ | h:=tget_any h
  ·cases h0
  obtain ⟨_,h0⟩ | h:=tget_any h
  ·cases h0
  obtain ⟨_,h0⟩ | h:=tget_any h
  ·cases h0
  obtain ⟨_,h0⟩ | h:=tget_any h
  ·cases h0
  obtain ⟨_,h0⟩ | h:=tget_any h
  ·cases h0
  obtain ⟨_,h0⟩ | h:=tget_any h
  ·cases h0
  obtain ⟨_,h0⟩ | h:=tget_any h
  ·cases h0
  obtain ⟨_,h0⟩ | h:=tget_any h
  ·cases h0
  obtain ⟨_,h0⟩ | h:=tget_any h
  ·cases h0
  obtain ⟨_,h0⟩ | h:=tget_any h
  ·cases h0
  obtain ⟨_,h0⟩ | h:=tget_any h
  ·cases h0
  obtain ⟨_,h0⟩ | h:=tget_any h
  ·cases h0
  obtain ⟨_,h0⟩ | h:=tget_any h
  ·cases h0
  obtain ⟨_,h0⟩ | h:=tget_any h
  ·cases h0
  obtain ⟨_,h0⟩ | h:=tget_any h
  ·cases h0
  obtain ⟨_,h0⟩ | h:=tget_any h
  ·cases h0
  obtain ⟨_,h0⟩ | h:=tget_any h
  ·cases h0
  obtain ⟨_,h0⟩ | h:=tget_any h
  ·cases h0
  cases h
 mix:=mix
 rk:=fun f r ct=>RkOf_gl (s:=sys0) (t:=sys) rfl
theorem tg6:tget T 6=some (.fn c6):=by rfl
theorem tg9:tget T 9=some (.fn c9):=by rfl
theorem tg10:tget T 10=some (.fn c10):=by rfl
theorem tg11:tget T 11=some (.fn c11):=by rfl
theorem tg15:tget T 15=some (.fn c15):=by rfl
theorem tg17:tget T 17=some (.fn c17):=by rfl
theorem tg19:tget T 19=some (.fn c19):=by rfl
theorem tg20:tget T 20=some (.fn c20):=by rfl
theorem tg21:tget T 21=some (.fn c21):=by rfl
theorem tg22:tget T 22=some (.fn c22):=by rfl
theorem tg23:tget T 23=some (.fn c23):=by rfl
theorem tg24:tget T 24=some (.fn c24):=by rfl
theorem tg25:tget T 25=some (.fn c25):=by rfl
theorem tg26:tget T 26=some (.fn c26):=by rfl
theorem tg27:tget T 27=some (.mr c27):=by rfl
theorem tg28:tget T 28=some (.fn c28):=by rfl
theorem tg31:tget T 31=some (.fn c31):=by rfl
theorem tg37:tget T 37=some (.fn c37):=by rfl
theorem tg38:tget T 38=some (.fn c38):=by rfl
theorem tg39:tget T 39=some (.fn c39):=by rfl
theorem tg40:tget T 40=some (.fn c40):=by rfl
theorem tg41:tget T 41=some (.fn c41):=by rfl
theorem tg42:tget T 42=some (.fn c42):=by rfl
theorem tg43:tget T 43=some (.fn c43):=by rfl
theorem tg44:tget T 44=some (.fn c44):=by rfl
theorem tg48:tget T 48=some (.fn c48):=by rfl
theorem tg49:tget T 49=some (.fn c49):=by rfl
theorem tg50:tget T 50=some (.fn c50):=by rfl
theorem tg55:tget T 55=some (.fn c55):=by rfl
theorem tg57:tget T 57=some (.fn c57):=by rfl
theorem tg58:tget T 58=some (.fn c58):=by rfl
theorem tg59:tget T 59=some (.fn c59):=by rfl
theorem tg60:tget T 60=some (.fn c60):=by rfl
theorem tg61:tget T 61=some (.fn c61):=by rfl
theorem tg62:tget T 62=some (.fn c62):=by rfl
theorem tg63:tget T 63=some (.fn c63):=by rfl
theorem tg64:tget T 64=some (.fn c64):=by rfl
theorem tg65:tget T 65=some (.fn c65):=by rfl
theorem tg66:tget T 66=some (.fn c66):=by rfl
theorem tg67:tget T 67=some (.fn c67):=by rfl
theorem tg71:tget T 71=some (.fn c71):=by rfl
theorem tg72:tget T 72=some (.fn c72):=by rfl
theorem tg73:tget T 73=some (.fn c73):=by rfl
theorem tg81:tget T 81=some (.fn c81):=by rfl
theorem tg82:tget T 82=some (.fn c82):=by rfl
theorem tg86:tget T 86=some (.fn c86):=by rfl
theorem tg87:tget T 87=some (.fn c87):=by rfl
theorem tg89:tget T 89=some (.fn c89):=by rfl
theorem tg90:tget T 90=some (.fn c90):=by rfl
theorem tg91:tget T 91=some (.fn c91):=by rfl
theorem tg92:tget T 92=some (.fn c92):=by rfl
theorem tg93:tget T 93=some (.fn c93):=by rfl
theorem tg94:tget T 94=some (.fn c94):=by rfl
theorem tg95:tget T 95=some (.fn c95):=by rfl
theorem tg96:tget T 96=some (.fn c96):=by rfl
theorem tg97:tget T 97=some (.fn c97):=by rfl
theorem tg98:tget T 98=some (.fn c98):=by rfl
theorem tg99:tget T 99=some (.fn c99):=by rfl
theorem tg100:tget T 100=some (.fn c100):=by rfl
theorem tg101:tget T 101=some (.fn c101):=by rfl
theorem tg102:tget T 102=some (.fn c102):=by rfl
theorem tg103:tget T 103=some (.fn c103):=by rfl
theorem tg104:tget T 104=some (.fn c104):=by rfl
theorem tg105:tget T 105=some (.fn c105):=by rfl
theorem tg106:tget T 106=some (.fn c106):=by rfl
theorem tg116:tget T 116=some (.fn c116):=by rfl
theorem tg117:tget T 117=some (.fn c117):=by rfl
theorem tg118:tget T 118=some (.fn c118):=by rfl
theorem tg119:tget T 119=some (.fn c119):=by rfl
theorem tg135:tget T 135=some (.fn c135):=by rfl
theorem tg136:tget T 136=some (.fn c136):=by rfl
theorem tg137:tget T 137=some (.fn c137):=by rfl
theorem tg138:tget T 138=some (.fn c138):=by rfl
theorem tg139:tget T 139=some (.fn c139):=by rfl
theorem tg140:tget T 140=some (.fn c140):=by rfl
theorem tg141:tget T 141=some (.fn c141):=by rfl
theorem tg142:tget T 142=some (.fn c142):=by rfl
theorem tg143:tget T 143=some (.fn c143):=by rfl
theorem tg149:tget T 149=some (.fn c149):=by rfl
theorem tg153:tget T 153=some (.fn c153):=by rfl
theorem tg154:tget T 154=some (.fn c154):=by rfl
theorem tg157:tget T 157=some (.fn c157):=by rfl
theorem tg158:tget T 158=some (.fn c158):=by rfl
theorem tg159:tget T 159=some (.fn c159):=by rfl
theorem tg160:tget T 160=some (.fn c160):=by rfl
theorem tg161:tget T 161=some (.fn c161):=by rfl
theorem tg169:tget T 169=some (.fn c169):=by rfl
theorem tg170:tget T 170=some (.fn c170):=by rfl
theorem tg1003100:tget T 1003100=some (.rd r1003100):=by rfl
theorem tg1003800:tget T 1003800=some (.rd r1003800):=by rfl
theorem tg1006200:tget T 1006200=some (.rd r1006200):=by rfl
theorem tg1006300:tget T 1006300=some (.rd r1006300):=by rfl
end Go.Proofs.YtkobnfjeehnhlaaGreatDoor.Fi
