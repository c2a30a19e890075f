/- The code of the functions, in the interpreter's form: the other half, and the table. -/
import Derived.Test.YtkobnfjeehnhlaaGreatDoorTKa
import Derived.Test.YtkobnfjeehnhlaaGreatDoorTKj
import Derived.Test.YtkobnfjeehnhlaaGreatDoorFIJoin
set_option linter.all false
set_option linter.unusedSimpArgs false
set_option linter.unusedVariables false
set_option linter.unusedSectionVars false
namespace Go.Proofs.YtkobnfjeehnhlaaGreatDoor.Fi
open Go.FI
def k107_1 : C := (.sq (.rg none [⟨some 51, none, .mv (.t 7), []⟩, ⟨some 52, none, .cs (.t 51), []⟩, ⟨some 4, none, .mv (.t 52), []⟩, ⟨some 5, none, .mv (.c (.int .i64 0)), []⟩] [4, 5]) .rt)
/-- retarget/bits.Text -/
def c107 : FI.Fn := { body := (.sq (.rg none [⟨some 4, none, .mv (.c (.str [])), []⟩, ⟨some 5, none, .mv (.c (.int .i64 0)), []⟩] [0, 1]) (.sq (.sq (.rg none [⟨some 10, none, .mv (.t 0), []⟩, ⟨some 11, none, .mv (.t 1), []⟩, ⟨some 12, none, .bs 1 1 (.int .u64 0) [(0, (.t 11))], []⟩, ⟨some 13, none, .cl 59 [(.t 10), (.t 12)], []⟩, ⟨some 6, none, .mv (.t 13), []⟩] [0, 1, 6]) (.sq (.rg none [⟨some 14, none, .mv (.t 6), []⟩, ⟨some 15, none, .bo .neq (.t 14) (.c (.int .i64 0)), []⟩] [0, 1, 6, 15]) (.cd (.t 15) (.sq (.rg none [⟨some 16, none, .mv (.t 6), []⟩, ⟨some 4, none, .mv (.c (.str [])), []⟩, ⟨some 5, none, .mv (.t 16), []⟩] [4, 5]) .rt) .sk))) (.sq (.rg none [⟨some 7, none, .nl 1, []⟩] [0, 1, 7]) (.sq (.sq (.rg none [⟨some 17, none, .mv (.t 0), []⟩, ⟨some 18, none, .bo .gtr (.t 17) (.c (.int .i64 9)), []⟩] [0, 1, 7, 18]) (.cd (.t 18) (.rg none [⟨some 19, none, .mv (.t 7), []⟩, ⟨some 20, none, .mv (.t 0), []⟩, ⟨some 21, none, .bo .quo (.t 20) (.c (.int .i64 10)), []⟩, ⟨some 22, none, .ix (.c (.str [48, 49, 50, 51, 52, 53, 54, 55, 56, 57, 97, 98, 99, 100, 101, 102])) (.t 21), []⟩, ⟨some 23, none, .bs 1 1 (.int .u8 0) [(0, (.t 22))], []⟩, ⟨some 24, none, .ap 1 1 (.t 19) (.t 23), []⟩, ⟨some 7, none, .mv (.t 24), []⟩] [0, 1, 7]) .sk)) (.sq (.rg none [⟨some 25, none, .mv (.t 7), []⟩, ⟨some 26, none, .mv (.t 0), []⟩, ⟨some 27, none, .bo .rem (.t 26) (.c (.int .i64 10)), []⟩, ⟨some 28, none, .ix (.c (.str [48, 49, 50, 51, 52, 53, 54, 55, 56, 57, 97, 98, 99, 100, 101, 102])) (.t 27), []⟩, ⟨some 29, none, .bs 1 2 (.int .u8 0) [(0, (.t 28)), (1, (.c (.int .u8 58)))], []⟩, ⟨some 30, none, .ap 1 1 (.t 25) (.t 29), []⟩, ⟨some 7, none, .mv (.t 30), []⟩] [0, 1, 7]) (.sq (.rg none [⟨some 31, none, .mv (.t 0), []⟩, ⟨some 32, none, .bo .add (.t 31) (.c (.int .i64 3)), []⟩, ⟨some 33, none, .bo .quo (.t 32) (.c (.int .i64 4)), []⟩, ⟨some 8, none, .mv (.t 33), []⟩] [1, 7, 8]) (.sq (.sq (.rg none [⟨some 34, none, .mv (.t 8), []⟩, ⟨some 35, none, .mv (.c (.int .i64 0)), []⟩] [1, 7, 8, 34, 35]) (.bl 0 (.lp true b107_0))) k107_1))))))), np := 2, res := [.t 4, .t 5], mode := .iso }
/-- retarget/term.number -/
def c108 : FI.Fn := { body := (.sq (.rg none [⟨some 2, none, .mv (.c (.str [])), []⟩] [0]) (.sq (.sq (.rg none [⟨some 3, none, .mv (.t 0), []⟩, ⟨some 4, none, .bo .gtr (.t 3) (.c (.int .i64 9)), []⟩] [0, 4]) (.cd (.t 4) (.sq (.rg (some [0, 1, 2, 3, 4, 5, 6, 7, 8, 9, 10, 11, 12, 13]) [⟨some 5, none, .mv (.t 0), []⟩, ⟨some 6, none, .bo .quo (.t 5) (.c (.int .i64 10)), []⟩, ⟨some 7, none, .mv (.t 0), []⟩, ⟨some 8, none, .bo .quo (.t 7) (.c (.int .i64 10)), []⟩, ⟨some 9, none, .bo .add (.t 8) (.c (.int .i64 1)), []⟩, ⟨some 10, none, .sl 0 (.c (.str [48, 49, 50, 51, 52, 53, 54, 55, 56, 57])) (some (.t 6)) (some (.t 9)), []⟩, ⟨some 11, none, .mv (.t 0), []⟩, ⟨some 12, none, .bo .rem (.t 11) (.c (.int .i64 10)), []⟩, ⟨some 13, none, .mv (.t 0), []⟩, ⟨some 14, none, .bo .rem (.t 13) (.c (.int .i64 10)), []⟩, ⟨some 15, none, .bo .add (.t 14) (.c (.int .i64 1)), []⟩, ⟨some 16, none, .sl 0 (.c (.str [48, 49, 50, 51, 52, 53, 54, 55, 56, 57])) (some (.t 12)) (some (.t 15)), []⟩, ⟨some 17, none, .bo .add (.t 10) (.t 16), []⟩, ⟨some 2, none, .mv (.t 17), []⟩] [2]) .rt) .sk)) (.sq (.rg none [⟨some 18, none, .mv (.t 0), []⟩, ⟨some 19, none, .mv (.t 0), []⟩, ⟨some 20, none, .bo .add (.t 19) (.c (.int .i64 1)), []⟩, ⟨some 21, none, .sl 0 (.c (.str [48, 49, 50, 51, 52, 53, 54, 55, 56, 57])) (some (.t 18)) (some (.t 20)), []⟩, ⟨some 2, none, .mv (.t 21), []⟩] [2]) .rt))), np := 1, res := [.t 2], mode := .iso }
/-- strings.HasPrefix -/
def c110 : FI.Fn := { body := (.sq (.rg none [⟨some 4, none, .mv (.c (.bool false)), []⟩] [0, 1]) (.sq (.rg none [⟨some 5, none, .mv (.t 0), []⟩, ⟨some 6, none, .mv (.t 1), []⟩, ⟨some 7, none, .cl 149 [(.t 5), (.t 6)], []⟩, ⟨some 4, none, .mv (.t 7), []⟩] [4]) .rt)), np := 2, res := [.t 4], mode := .iso }
/-- (*retarget/term.reader).leaf -/
def c111 : FI.Fn := { body := (.sq (.rg none [⟨some 2, none, .al 6 (.agg [(.int .u8 0), (.int .i64 0), (.int .u64 0), (.str []), (.int .i64 0), (.lst true [])]), []⟩] [0, 2]) (.sq (.rg none [⟨some 11, none, .mv (.t 0), []⟩, ⟨some 12, none, .cl 114 [(.t 11)], []⟩, ⟨some 3, none, .mv (.t 12), []⟩] [2, 3]) (.sq (.sq (.rg none [⟨some 14, none, .mv (.t 3), []⟩, ⟨some 15, none, .cl 150 [(.t 14)], []⟩, ⟨some 13, none, .mv (.t 15), []⟩, ⟨some 16, none, .ex (.t 13) 0, []⟩, ⟨some 17, none, .ex (.t 13) 1, []⟩, ⟨some 18, none, .ex (.t 13) 2, []⟩, ⟨some 4, none, .mv (.t 16), []⟩, ⟨some 5, none, .mv (.t 17), []⟩, ⟨some 6, none, .mv (.t 18), []⟩] [2, 3, 4, 5, 6]) (.sq (.rg none [⟨some 19, none, .mv (.t 6), []⟩, ⟨some 20, none, .bo .eql (.t 19) (.c (.int .i64 0)), []⟩] [2, 3, 4, 5, 20]) (.cd (.t 20) (.sq (.rg none [⟨some 21, none, .mv (.t 4), []⟩, ⟨some 22, none, .mv (.t 5), []⟩, ⟨some 23, none, .bd [(.int .u8 0), (.int .i64 0), (.int .u64 0), (.str []), (.int .i64 0), (.lst true [])] [(0, 1, (.c (.int .u8 1))), (1, 1, (.t 21)), (2, 1, (.t 22))], []⟩, ⟨none, none, .st 6 (.t 2) (.t 23), []⟩] [2]) .rt) .sk))) (.sq (.rg none [⟨some 25, none, .mv (.t 3), []⟩, ⟨some 26, none, .cl 151 [(.t 25), (.c (.str [58]))], []⟩, ⟨some 24, none, .mv (.t 26), []⟩, ⟨some 27, none, .ex (.t 24) 0, []⟩, ⟨some 28, none, .ex (.t 24) 1, []⟩, ⟨some 29, none, .ex (.t 24) 2, []⟩, ⟨some 7, none, .mv (.t 27), []⟩, ⟨some 8, none, .mv (.t 28), []⟩, ⟨some 9, none, .mv (.t 29), []⟩] [2, 7, 8]) (.sq (.rg none [⟨some 30, none, .mv (.t 8), []⟩, ⟨some 31, none, .bo .add (.c (.str [32])) (.t 30), []⟩, ⟨some 32, none, .bd [(.str [])] [(0, 1, (.t 31))], []⟩, ⟨some 10, none, .al 1 (.agg [(.str [])]), []⟩, ⟨none, none, .st 1 (.t 10) (.t 32), []⟩] [2, 7, 10]) (.sq (.rq [⟨some 33, none, .mv (.t 7), []⟩, ⟨some 34, none, .cl 115 [(.t 10)], []⟩, ⟨some 35, none, .bd [(.int .u8 0), (.int .i64 0), (.int .u64 0), (.str []), (.int .i64 0), (.lst true [])] [(0, 1, (.c (.int .u8 2))), (3, 1, (.t 33)), (1, 1, (.t 34))], []⟩, ⟨none, none, .st 6 (.t 2) (.t 35), []⟩] [2]) .rt)))))), np := 1, res := [.cell 2 (some 6)], mode := .shr }
/-- (*retarget/term.reader).must -/
def c112 : FI.Fn := { body := (.sq (.sq (.rg none [⟨some 4, none, .mv (.t 0), []⟩, ⟨some 5, none, .nc (.t 4), []⟩, ⟨some 6, none, .fa 0 (.t 5), []⟩, ⟨some 7, none, .ld none (.t 6), []⟩, ⟨some 8, none, .bo .eql (.t 7) (.c (.str [])), []⟩, ⟨some 9, none, .mv (.t 8), []⟩, ⟨some 10, some (9, false), .mv (.t 0), []⟩, ⟨some 11, some (9, false), .nc (.t 10), []⟩, ⟨some 12, some (9, false), .fa 0 (.t 11), []⟩, ⟨some 13, some (9, false), .ld none (.t 12), []⟩, ⟨some 14, some (9, false), .ix (.t 13) (.c (.int .i64 0)), []⟩, ⟨some 15, some (9, false), .mv (.t 1), []⟩, ⟨some 16, some (9, false), .bo .neq (.t 14) (.t 15), []⟩, ⟨some 17, none, .pk (.t 9) (.c (.bool true)) (.t 16), []⟩] [0, 17]) (.cd (.t 17) (.rq [⟨some 18, none, .bd [] [], []⟩, ⟨some 19, none, .mi 105 (.t 18), []⟩, ⟨none, none, .pn (.t 19), []⟩] [0]) .sk)) (.rg none [⟨some 20, none, .mv (.t 0), []⟩, ⟨some 21, none, .mv (.t 0), []⟩, ⟨some 22, none, .nc (.t 21), []⟩, ⟨some 23, none, .fa 0 (.t 22), []⟩, ⟨some 24, none, .ld none (.t 23), []⟩, ⟨some 25, none, .sl 0 (.t 24) (some (.c (.int .i64 1))) none, []⟩, ⟨some 26, none, .nc (.t 20), []⟩, ⟨some 27, none, .fa 0 (.t 26), []⟩, ⟨none, none, .st 1 (.t 27) (.t 25), []⟩] [])), np := 2, res := [], mode := .shr }
def b113_0 : C := (.sq (.rg none [⟨some 7, none, .bo .lss (.t 6) (.c (.int .i64 25)), []⟩] [0, 2, 5, 6, 7]) (.sq (.cd (.t 7) .sk (.xt 0)) (.sq (.bl 1 (.sq (.rg none [⟨some 8, none, .mv (.t 6), []⟩, ⟨some 9, none, .xa 25 3 (some 3) (.t 5) (.t 6), []⟩, ⟨some 4, none, .al 3 (.agg [(.str []), (.int .i64 0), (.int .i64 0)]), []⟩, ⟨some 3, none, .mv (.t 8), []⟩, ⟨none, none, .st 3 (.t 4) (.t 9), []⟩] [0, 2, 3, 4, 5, 6]) (.sq (.rg none [⟨some 10, none, .fa 1 (.t 4), []⟩, ⟨some 11, none, .ld none (.t 10), []⟩, ⟨some 12, none, .bo .gtr (.t 11) (.c (.int .i64 0)), []⟩, ⟨some 13, none, .mv (.t 12), []⟩, ⟨some 14, some (13, true), .fa 0 (.t 4), []⟩, ⟨some 15, some (13, true), .ld none (.t 14), []⟩, ⟨some 16, some (13, true), .mv (.t 0), []⟩, ⟨some 17, some (13, true), .bo .eql (.t 15) (.t 16), []⟩, ⟨some 18, none, .pk (.t 13) (.t 17) (.c (.bool false)), []⟩] [0, 2, 3, 5, 6, 18]) (.cd (.t 18) (.sq (.rg none [⟨some 19, none, .mv (.t 3), []⟩, ⟨some 20, none, .cv .u8 (.t 19), []⟩, ⟨some 2, none, .mv (.t 20), []⟩] [2]) .rt) .sk)))) (.rg none [⟨some 21, none, .bo .add (.t 6) (.c (.int .i64 1)), []⟩, ⟨some 6, none, .mv (.t 21), []⟩] [0, 2, 5, 6]))))
def k113_1 : C := (.rq [⟨some 22, none, .bd [] [], []⟩, ⟨some 23, none, .mi 105 (.t 22), []⟩, ⟨none, none, .pn (.t 23), []⟩] [2])
/-- retarget/term.kind -/
def c113 : FI.Fn := { body := (.sq (.rg none [⟨some 2, none, .mv (.c (.int .u8 0)), []⟩] [0, 2]) (.sq (.sq (.rg none [⟨some 5, none, .ld (some 75) (.c (.eptr gl0 0)), []⟩, ⟨some 6, none, .mv (.c (.int .i64 0)), []⟩] [0, 2, 5, 6]) (.bl 0 (.lp true b113_0))) k113_1)), np := 1, res := [.t 2], mode := .iso }
/-- (*retarget/term.reader).word -/
def c114 : FI.Fn := { body := (.sq (.rg none [⟨some 2, none, .mv (.c (.str [])), []⟩] [0]) (.sq (.rg none [⟨some 5, none, .mv (.t 0), []⟩, ⟨some 6, none, .nc (.t 5), []⟩, ⟨some 7, none, .fa 0 (.t 6), []⟩, ⟨some 8, none, .ld none (.t 7), []⟩, ⟨some 9, none, .cl 152 [(.t 8), (.c (.str [32, 41]))], []⟩, ⟨some 3, none, .mv (.t 9), []⟩] [0, 3]) (.sq (.sq (.rg none [⟨some 10, none, .mv (.t 3), []⟩, ⟨some 11, none, .bo .lss (.t 10) (.c (.int .i64 0)), []⟩] [0, 3, 11]) (.cd (.t 11) (.rg none [⟨some 12, none, .mv (.t 0), []⟩, ⟨some 13, none, .nc (.t 12), []⟩, ⟨some 14, none, .fa 0 (.t 13), []⟩, ⟨some 15, none, .ld none (.t 14), []⟩, ⟨some 16, none, .ln 0 (.t 15), []⟩, ⟨some 3, none, .mv (.t 16), []⟩] [0, 3]) .sk)) (.sq (.rg none [⟨some 17, none, .mv (.t 0), []⟩, ⟨some 18, none, .nc (.t 17), []⟩, ⟨some 19, none, .fa 0 (.t 18), []⟩, ⟨some 20, none, .ld none (.t 19), []⟩, ⟨some 21, none, .mv (.t 3), []⟩, ⟨some 22, none, .sl 0 (.t 20) none (some (.t 21)), []⟩, ⟨some 4, none, .mv (.t 22), []⟩] [0, 3, 4]) (.sq (.rg none [⟨some 23, none, .mv (.t 0), []⟩, ⟨some 24, none, .mv (.t 0), []⟩, ⟨some 25, none, .nc (.t 24), []⟩, ⟨some 26, none, .fa 0 (.t 25), []⟩, ⟨some 27, none, .ld none (.t 26), []⟩, ⟨some 28, none, .mv (.t 3), []⟩, ⟨some 29, none, .sl 0 (.t 27) (some (.t 28)) none, []⟩, ⟨some 30, none, .nc (.t 23), []⟩, ⟨some 31, none, .fa 0 (.t 30), []⟩, ⟨none, none, .st 1 (.t 31) (.t 29), []⟩] [4]) (.sq (.rg none [⟨some 32, none, .mv (.t 4), []⟩, ⟨some 2, none, .mv (.t 32), []⟩] [2]) .rt)))))), np := 1, res := [.t 2], mode := .shr }
def b115_0 : C := (.sq (.rg none [⟨some 10, none, .bo .lss (.t 9) (.c (.int .i64 65)), []⟩] [2, 3, 9, 10]) (.sq (.cd (.t 10) .sk (.xt 0)) (.sq (.bl 1 (.sq (.rg none [⟨some 11, none, .mv (.t 9), []⟩, ⟨some 4, none, .mv (.t 11), []⟩] [2, 3, 4, 9]) (.sq (.rg none [⟨some 12, none, .mv (.t 4), []⟩, ⟨some 13, none, .cl 108 [(.t 12)], []⟩, ⟨some 14, none, .mv (.t 3), []⟩, ⟨some 15, none, .bo .eql (.t 13) (.t 14), []⟩] [2, 3, 4, 9, 15]) (.cd (.t 15) (.sq (.rg none [⟨some 16, none, .mv (.t 4), []⟩, ⟨some 2, none, .mv (.t 16), []⟩] [2]) .rt) .sk)))) (.rg none [⟨some 17, none, .bo .add (.t 9) (.c (.int .i64 1)), []⟩, ⟨some 9, none, .mv (.t 17), []⟩] [2, 3, 9]))))
def k115_1 : C := (.rq [⟨some 18, none, .bd [] [], []⟩, ⟨some 19, none, .mi 105 (.t 18), []⟩, ⟨none, none, .pn (.t 19), []⟩] [2])
/-- (*retarget/term.reader).digits -/
def c115 : FI.Fn := { body := (.sq (.rg none [⟨some 2, none, .mv (.c (.int .i64 0)), []⟩] [0, 2]) (.sq (.rq [⟨some 5, none, .mv (.t 0), []⟩, ⟨some 6, none, .cl 112 [(.t 5), (.c (.int .u8 32))], []⟩] [0, 2]) (.sq (.rg none [⟨some 7, none, .mv (.t 0), []⟩, ⟨some 8, none, .cl 114 [(.t 7)], []⟩, ⟨some 3, none, .mv (.t 8), []⟩] [2, 3]) (.sq (.sq (.rg none [⟨some 9, none, .mv (.c (.int .i64 0)), []⟩] [2, 3, 9]) (.bl 0 (.lp true b115_0))) k115_1)))), np := 1, res := [.t 2], mode := .shr }
/-- retarget/term.nodes$1 -/
def c116 : FI.Fn := { body := (.rg none [⟨some 3, none, .ld (some 6) (.t 1), []⟩, ⟨some 4, none, .mv (.t 0), []⟩, ⟨some 5, none, .cl 117 [(.t 3), (.t 4)], []⟩] []), np := 2, res := [], mode := .shr }
def b117_0 : C := (.sq (.rg none [⟨some 15, none, .bo .lss (.t 14) (.t 13), []⟩] [1, 12, 13, 14, 15]) (.sq (.cd (.t 15) .sk (.xt 0)) (.sq (.bl 1 (.sq (.rg none [⟨some 16, none, .ia 6 (.t 12) (.t 14), []⟩, ⟨some 17, none, .ld (some 6) (.t 16), []⟩, ⟨some 6, none, .al 6 (.agg [(.int .u8 0), (.int .i64 0), (.int .u64 0), (.str []), (.int .i64 0), (.lst true [])]), []⟩, ⟨none, none, .st 6 (.t 6) (.t 17), []⟩] [1, 6, 12, 13, 14]) (.sq (.rg none [⟨some 18, none, .ld (some 6) (.t 6), []⟩, ⟨some 19, none, .mv (.t 1), []⟩, ⟨some 20, none, .cl 117 [(.t 18), (.t 19)], []⟩, ⟨some 21, none, .un .not (.t 20), []⟩] [1, 12, 13, 14, 21]) (.cd (.t 21) (.sq (.rg none [⟨some 4, none, .mv (.c (.bool false)), []⟩] [4]) .rt) .sk)))) (.rg none [⟨some 22, none, .bo .add (.t 14) (.c (.int .i64 1)), []⟩, ⟨some 14, none, .mv (.t 22), []⟩] [1, 12, 13, 14]))))
def k117_1 : C := (.sq (.rg none [⟨some 4, none, .mv (.c (.bool true)), []⟩] [4]) .rt)
/-- retarget/term.visit -/
def c117 : FI.Fn := { body := (.sq (.rg none [⟨some 2, none, .bx 6 (.t 0), []⟩, ⟨some 4, none, .mv (.c (.bool false)), []⟩] [1, 2]) (.sq (.sq (.rg none [⟨some 7, none, .mv (.t 1), []⟩, ⟨some 8, none, .ld (some 6) (.t 2), []⟩, ⟨some 9, none, .cw (.t 7) [(.t 8)], []⟩, ⟨some 10, none, .un .not (.t 9), []⟩] [1, 2, 10]) (.cd (.t 10) (.sq (.rg none [⟨some 4, none, .mv (.c (.bool false)), []⟩] [4]) .rt) .sk)) (.sq (.sq (.rg none [⟨some 11, none, .fa 5 (.t 2), []⟩, ⟨some 12, none, .ld none (.t 11), []⟩, ⟨some 13, none, .ln 1 (.t 12), []⟩, ⟨some 14, none, .mv (.c (.int .i64 0)), []⟩] [1, 12, 13, 14]) (.bl 0 (.lp false b117_0))) k117_1))), np := 2, res := [.t 4], mode := .shr }
/-- retarget/term.shaped -/
def c118 : FI.Fn := { body := (.sq (.rg none [⟨some 2, none, .al 3 (.agg [(.str []), (.int .i64 0), (.int .i64 0)]), []⟩, ⟨some 3, none, .mv (.c (.bool false)), []⟩] [0, 2]) (.sq (.sq (.rg none [⟨some 4, none, .mv (.t 0), []⟩, ⟨some 5, none, .bo .gtr (.t 4) (.c (.int .u8 24)), []⟩] [0, 2, 5]) (.cd (.t 5) (.sq (.rg none [⟨some 6, none, .bd [(.str []), (.int .i64 0), (.int .i64 0)] [], []⟩, ⟨none, none, .st 3 (.t 2) (.t 6), []⟩, ⟨some 3, none, .mv (.c (.bool false)), []⟩] [2, 3]) .rt) .sk)) (.sq (.rg (some [0, 1, 2, 3, 4, 5, 6, 7, 8, 9]) [⟨some 7, none, .mv (.t 0), []⟩, ⟨some 8, none, .aa 25 3 (.c (.eptr gl0 0)) (.t 7), []⟩, ⟨some 9, none, .ld (some 3) (.t 8), []⟩, ⟨some 10, none, .mv (.t 0), []⟩, ⟨some 11, none, .aa 25 3 (.c (.eptr gl0 0)) (.t 10), []⟩, ⟨some 12, none, .fa 1 (.t 11), []⟩, ⟨some 13, none, .ld none (.t 12), []⟩, ⟨some 14, none, .bo .gtr (.t 13) (.c (.int .i64 0)), []⟩, ⟨none, none, .st 3 (.t 2) (.t 9), [(none, none, 12, 13)]⟩, ⟨some 3, none, .mv (.t 14), []⟩] [2, 3]) .rt))), np := 1, res := [.cell 2 (some 3), .t 3], mode := .iso }
/-- retarget/term.widths -/
def c119 : FI.Fn := { body := (.sq (.rg none [⟨some 2, none, .bx 6 (.t 0), []⟩, ⟨some 4, none, .mv (.c (.bool false)), []⟩] [1, 2]) (.sq (.rg none [⟨some 7, none, .fa 1 (.t 2), []⟩, ⟨some 8, none, .ld none (.t 7), []⟩, ⟨some 5, none, .al 1 (.int .i64 0), []⟩, ⟨none, none, .st 1 (.t 5) (.t 8), []⟩] [1, 2, 5]) (.sq (.rg none [⟨some 9, none, .fa 5 (.t 2), []⟩, ⟨some 10, none, .ld none (.t 9), []⟩, ⟨some 11, none, .ia 6 (.t 10) (.c (.int .i64 0)), []⟩, ⟨some 12, none, .fa 1 (.t 11), []⟩, ⟨some 13, none, .ld none (.t 12), []⟩, ⟨some 6, none, .mv (.t 13), []⟩] [1, 2, 5, 6]) (.sq (.sq (.rg none [⟨some 14, none, .mv (.t 1), []⟩] [2, 5, 6, 14]) (.bl 0 (.sq (.rg none [⟨some 16, none, .bo .eql (.t 14) (.c (.int .i64 1)), []⟩, ⟨some 15, none, .mv (.t 16), []⟩] [2, 5, 6, 14, 15]) (.cd (.t 15) (.sq (.rg none [⟨some 17, none, .fa 5 (.t 2), []⟩, ⟨some 18, none, .ld none (.t 17), []⟩, ⟨some 19, none, .mf 154 [(.t 5)], []⟩, ⟨some 20, none, .cl 153 [(.t 18), (.t 19)], []⟩, ⟨some 21, none, .un .not (.t 20), []⟩, ⟨some 4, none, .mv (.t 21), []⟩] [4]) .rt) (.sq (.rg none [⟨some 23, none, .bo .eql (.t 14) (.c (.int .i64 2)), []⟩, ⟨some 22, none, .mv (.t 23), []⟩] [2, 5, 6, 14, 22]) (.cd (.t 22) (.sq (.rg none [⟨some 24, none, .ld none (.t 5), []⟩, ⟨some 25, none, .bo .eql (.t 24) (.c (.int .i64 1)), []⟩, ⟨some 26, none, .mv (.t 25), []⟩, ⟨some 27, some (26, true), .fa 5 (.t 2), []⟩, ⟨some 28, some (26, true), .ld none (.t 27), []⟩, ⟨some 29, some (26, true), .ia 6 (.t 28) (.c (.int .i64 1)), []⟩, ⟨some 30, some (26, true), .fa 1 (.t 29), []⟩, ⟨some 31, some (26, true), .ld none (.t 30), []⟩, ⟨some 32, some (26, true), .mv (.t 6), []⟩, ⟨some 33, some (26, true), .bo .eql (.t 31) (.t 32), []⟩, ⟨some 34, none, .pk (.t 26) (.t 33) (.c (.bool false)), []⟩, ⟨some 4, none, .mv (.t 34), []⟩] [4]) .rt) (.sq (.rg none [⟨some 36, none, .bo .eql (.t 14) (.c (.int .i64 3)), []⟩, ⟨some 35, none, .mv (.t 36), []⟩] [2, 5, 6, 14, 35]) (.cd (.t 35) (.sq (.rg (some [0, 1, 2, 3, 4, 5, 6, 7, 8, 9, 10, 11, 12, 13, 14, 15, 16, 17, 18, 19, 20]) [⟨some 37, none, .mv (.t 6), []⟩, ⟨some 38, none, .bo .eql (.t 37) (.c (.int .i64 1)), []⟩, ⟨some 39, none, .mv (.t 38), []⟩, ⟨some 40, some (39, true), .fa 5 (.t 2), []⟩, ⟨some 41, some (39, true), .ld none (.t 40), []⟩, ⟨some 42, some (39, true), .ia 6 (.t 41) (.c (.int .i64 1)), []⟩, ⟨some 43, some (39, true), .fa 1 (.t 42), []⟩, ⟨some 44, some (39, true), .ld none (.t 43), []⟩, ⟨some 45, some (39, true), .ld none (.t 5), []⟩, ⟨some 46, some (39, true), .bo .eql (.t 44) (.t 45), []⟩, ⟨some 47, none, .pk (.t 39) (.t 46) (.c (.bool false)), []⟩, ⟨some 48, none, .mv (.t 47), []⟩, ⟨some 49, some (48, true), .fa 5 (.t 2), []⟩, ⟨some 50, some (48, true), .ld none (.t 49), []⟩, ⟨some 51, some (48, true), .ia 6 (.t 50) (.c (.int .i64 2)), []⟩, ⟨some 52, some (48, true), .fa 1 (.t 51), []⟩, ⟨some 53, some (48, true), .ld none (.t 52), []⟩, ⟨some 54, some (48, true), .ld none (.t 5), []⟩, ⟨some 55, some (48, true), .bo .eql (.t 53) (.t 54), []⟩, ⟨some 56, none, .pk (.t 48) (.t 55) (.c (.bool false)), []⟩, ⟨some 4, none, .mv (.t 56), []⟩] [4]) .rt) (.sq (.rg none [⟨some 58, none, .bo .eql (.t 14) (.c (.int .i64 4)), []⟩, ⟨some 57, none, .mv (.t 58), []⟩] [2, 5, 6, 14, 57]) (.cd (.t 57) (.sq (.rg (some [0, 1, 2, 3, 4, 5, 6, 7, 8, 9, 10, 11, 12, 13, 14, 15, 16, 17, 18, 19, 20, 21]) [⟨some 59, none, .mv (.t 6), []⟩, ⟨some 60, none, .cl 48 [(.t 59)], []⟩, ⟨some 61, none, .mv (.t 60), []⟩, ⟨some 62, some (61, true), .fa 5 (.t 2), []⟩, ⟨some 63, some (61, true), .ld none (.t 62), []⟩, ⟨some 64, some (61, true), .ia 6 (.t 63) (.c (.int .i64 1)), []⟩, ⟨some 65, some (61, true), .fa 1 (.t 64), []⟩, ⟨some 66, some (61, true), .ld none (.t 65), []⟩, ⟨some 67, some (61, true), .cl 48 [(.t 66)], []⟩, ⟨some 68, none, .pk (.t 61) (.t 67) (.c (.bool false)), []⟩, ⟨some 69, none, .mv (.t 68), []⟩, ⟨some 70, some (69, true), .mv (.t 6), []⟩, ⟨some 71, some (69, true), .fa 5 (.t 2), []⟩, ⟨some 72, some (69, true), .ld none (.t 71), []⟩, ⟨some 73, some (69, true), .ia 6 (.t 72) (.c (.int .i64 1)), []⟩, ⟨some 74, some (69, true), .fa 1 (.t 73), []⟩, ⟨some 75, some (69, true), .ld none (.t 74), []⟩, ⟨some 76, some (69, true), .bo .add (.t 70) (.t 75), []⟩, ⟨some 77, some (69, true), .ld none (.t 5), []⟩, ⟨some 78, some (69, true), .bo .eql (.t 76) (.t 77), []⟩, ⟨some 79, none, .pk (.t 69) (.t 78) (.c (.bool false)), []⟩, ⟨some 4, none, .mv (.t 79), []⟩] [4]) .rt) (.sq (.rg none [⟨some 81, none, .bo .eql (.t 14) (.c (.int .i64 5)), []⟩, ⟨some 80, none, .mv (.t 81), []⟩] [2, 5, 6, 14, 80]) (.cd (.t 80) (.sq (.rg none [⟨some 82, none, .fa 4 (.t 2), []⟩, ⟨some 83, none, .ld none (.t 82), []⟩, ⟨some 84, none, .bo .geq (.t 83) (.c (.int .i64 0)), []⟩, ⟨some 85, none, .mv (.t 84), []⟩, ⟨some 86, some (85, true), .mv (.t 6), []⟩, ⟨some 87, some (85, true), .cl 48 [(.t 86)], []⟩, ⟨some 88, none, .pk (.t 85) (.t 87) (.c (.bool false)), []⟩, ⟨some 89, none, .mv (.t 88), []⟩, ⟨some 90, some (89, true), .ld none (.t 5), []⟩, ⟨some 91, some (89, true), .mv (.t 6), []⟩, ⟨some 92, some (89, true), .bo .leq (.t 90) (.t 91), []⟩, ⟨some 93, none, .pk (.t 89) (.t 92) (.c (.bool false)), []⟩, ⟨some 94, none, .mv (.t 93), []⟩, ⟨some 95, some (94, true), .fa 4 (.t 2), []⟩, ⟨some 96, some (94, true), .ld none (.t 95), []⟩, ⟨some 97, some (94, true), .mv (.t 6), []⟩, ⟨some 98, some (94, true), .ld none (.t 5), []⟩, ⟨some 99, some (94, true), .bo .sub (.t 97) (.t 98), []⟩, ⟨some 100, some (94, true), .bo .leq (.t 96) (.t 99), []⟩, ⟨some 101, none, .pk (.t 94) (.t 100) (.c (.bool false)), []⟩, ⟨some 4, none, .mv (.t 101), []⟩] [4]) .rt) (.sq (.rg none [⟨some 103, none, .bo .eql (.t 14) (.c (.int .i64 6)), []⟩, ⟨some 102, none, .mv (.t 103), []⟩] [5, 6, 102]) (.cd (.t 102) (.sq (.rg none [⟨some 104, none, .mv (.t 6), []⟩, ⟨some 105, none, .ld none (.t 5), []⟩, ⟨some 106, none, .bo .leq (.t 104) (.t 105), []⟩, ⟨some 4, none, .mv (.t 106), []⟩] [4]) .rt) .sk)))))))))))))) (.sq (.rg none [⟨some 107, none, .ld none (.t 5), []⟩, ⟨some 108, none, .cl 49 [(.t 107)], []⟩, ⟨some 4, none, .mv (.t 108), []⟩] [4]) .rt))))), np := 2, res := [.t 4], mode := .iso }
/-- internal/stringslite.TrimPrefix -/
def c135 : FI.Fn := { body := (.sq (.rg none [⟨some 4, none, .mv (.c (.str [])), []⟩] [0, 1]) (.sq (.sq (.rg none [⟨some 5, none, .mv (.t 0), []⟩, ⟨some 6, none, .mv (.t 1), []⟩, ⟨some 7, none, .cl 149 [(.t 5), (.t 6)], []⟩] [0, 1, 7]) (.cd (.t 7) (.sq (.rg none [⟨some 8, none, .mv (.t 0), []⟩, ⟨some 9, none, .mv (.t 1), []⟩, ⟨some 10, none, .ln 0 (.t 9), []⟩, ⟨some 11, none, .sl 0 (.t 8) (some (.t 10)) none, []⟩, ⟨some 4, none, .mv (.t 11), []⟩] [4]) .rt) .sk)) (.sq (.rg none [⟨some 12, none, .mv (.t 0), []⟩, ⟨some 4, none, .mv (.t 12), []⟩] [4]) .rt))), np := 2, res := [.t 4], mode := .iso }
def b136_0 : C := (.sq (.sq (.rg (some [0, 1, 2, 3, 4, 5, 6, 7, 8, 9, 10, 11, 12, 13, 14, 15, 16]) [⟨some 18, none, .mv (.t 9), []⟩, ⟨some 19, none, .mv (.t 1), []⟩, ⟨some 20, none, .bo .gtr (.t 18) (.t 19), []⟩, ⟨some 21, none, .mv (.t 20), []⟩, ⟨some 22, some (21, true), .mv (.t 3), []⟩, ⟨some 23, some (21, true), .mv (.t 0), []⟩, ⟨some 24, some (21, true), .mv (.t 9), []⟩, ⟨some 25, some (21, true), .ia 3 (.t 23) (.t 24), []⟩, ⟨some 26, some (21, true), .ld (some 3) (.t 25), []⟩, ⟨some 27, some (21, true), .mv (.t 0), []⟩, ⟨some 28, some (21, true), .mv (.t 9), []⟩, ⟨some 29, some (21, true), .bo .sub (.t 28) (.c (.int .i64 1)), []⟩, ⟨some 30, some (21, true), .ia 3 (.t 27) (.t 29), []⟩, ⟨some 31, some (21, true), .ld (some 3) (.t 30), []⟩, ⟨some 32, some (21, true), .cw (.t 22) [(.t 26), (.t 31)], []⟩, ⟨some 33, some (21, true), .bo .lss (.t 32) (.c (.int .i64 0)), []⟩, ⟨some 34, none, .pk (.t 21) (.t 33) (.c (.bool false)), []⟩] [0, 1, 2, 3, 8, 9, 34]) (.cd (.t 34) .sk (.xt 2))) (.sq (.bl 3 (.rg (some [0, 1, 2, 3, 4, 5, 6, 7, 8, 9, 10, 11, 12, 13, 14, 15, 16, 17]) [⟨some 37, none, .mv (.t 0), []⟩, ⟨some 38, none, .mv (.t 9), []⟩, ⟨some 39, none, .mv (.t 0), []⟩, ⟨some 40, none, .mv (.t 9), []⟩, ⟨some 41, none, .bo .sub (.t 40) (.c (.int .i64 1)), []⟩, ⟨some 42, none, .mv (.t 0), []⟩, ⟨some 43, none, .mv (.t 9), []⟩, ⟨some 44, none, .bo .sub (.t 43) (.c (.int .i64 1)), []⟩, ⟨some 45, none, .ia 3 (.t 42) (.t 44), []⟩, ⟨some 46, none, .ld (some 3) (.t 45), []⟩, ⟨some 47, none, .mv (.t 0), []⟩, ⟨some 48, none, .mv (.t 9), []⟩, ⟨some 49, none, .ia 3 (.t 47) (.t 48), []⟩, ⟨some 50, none, .ld (some 3) (.t 49), []⟩, ⟨some 51, none, .ia 3 (.t 37) (.t 38), []⟩, ⟨none, none, .st 3 (.t 51) (.t 46), []⟩, ⟨some 52, none, .ia 3 (.t 39) (.t 41), []⟩, ⟨none, none, .st 3 (.t 52) (.t 50), []⟩] [0, 1, 2, 3, 8, 9])) (.rg none [⟨some 35, none, .mv (.t 9), []⟩, ⟨some 36, none, .bo .sub (.t 35) (.c (.int .i64 1)), []⟩, ⟨some 9, none, .mv (.t 36), []⟩] [0, 1, 2, 3, 8, 9])))
def k136_1 : C := (.rg none [⟨some 15, none, .mv (.t 8), []⟩, ⟨some 16, none, .bo .add (.t 15) (.c (.int .i64 1)), []⟩, ⟨some 8, none, .mv (.t 16), []⟩] [0, 1, 2, 3, 8])
def b136_2 : C := (.sq (.sq (.rg none [⟨some 12, none, .mv (.t 8), []⟩, ⟨some 13, none, .mv (.t 2), []⟩, ⟨some 14, none, .bo .lss (.t 12) (.t 13), []⟩] [0, 1, 2, 3, 8, 14]) (.cd (.t 14) .sk (.xt 0))) (.sq (.bl 1 (.sq (.rg none [⟨some 17, none, .mv (.t 8), []⟩, ⟨some 9, none, .mv (.t 17), []⟩] [0, 1, 2, 3, 8, 9]) (.bl 2 (.lp true b136_0)))) k136_1))
/-- slices.insertionSortCmpFunc[retarget/api.Binding] -/
def c136 : FI.Fn := { body := (.sq (.rg none [⟨some 10, none, .mv (.t 1), []⟩, ⟨some 11, none, .bo .add (.t 10) (.c (.int .i64 1)), []⟩, ⟨some 8, none, .mv (.t 11), []⟩] [0, 1, 2, 3, 8]) (.bl 0 (.lp true b136_2))), np := 4, res := [], mode := .shr }
def b137_0 : C := (.sq (.sq (.rg none [⟨some 20, none, .mv (.t 11), []⟩, ⟨some 21, none, .bo .geq (.t 20) (.c (.int .i64 0)), []⟩] [0, 3, 8, 9, 10, 11, 21]) (.cd (.t 21) .sk (.xt 0))) (.sq (.bl 1 (.rg none [⟨some 24, none, .mv (.t 0), []⟩, ⟨some 25, none, .mv (.t 11), []⟩, ⟨some 26, none, .mv (.t 10), []⟩, ⟨some 27, none, .mv (.t 8), []⟩, ⟨some 28, none, .mv (.t 3), []⟩, ⟨some 29, none, .cl 157 [(.t 24), (.t 25), (.t 26), (.t 27), (.t 28)], []⟩] [0, 3, 8, 9, 10, 11])) (.rg none [⟨some 22, none, .mv (.t 11), []⟩, ⟨some 23, none, .bo .sub (.t 22) (.c (.int .i64 1)), []⟩, ⟨some 11, none, .mv (.t 23), []⟩] [0, 3, 8, 9, 10, 11])))
def b137_1 : C := (.sq (.sq (.rg none [⟨some 32, none, .mv (.t 12), []⟩, ⟨some 33, none, .bo .geq (.t 32) (.c (.int .i64 0)), []⟩] [0, 3, 8, 9, 12, 33]) (.cd (.t 33) .sk (.xt 2))) (.sq (.bl 3 (.sq (.rg (some [0, 1, 2, 3, 4, 5, 6, 7, 8, 9, 10, 11, 12, 13, 14, 15, 16, 17, 18, 19]) [⟨some 36, none, .mv (.t 0), []⟩, ⟨some 37, none, .mv (.t 8), []⟩, ⟨some 38, none, .mv (.t 0), []⟩, ⟨some 39, none, .mv (.t 8), []⟩, ⟨some 40, none, .mv (.t 12), []⟩, ⟨some 41, none, .bo .add (.t 39) (.t 40), []⟩, ⟨some 42, none, .mv (.t 0), []⟩, ⟨some 43, none, .mv (.t 8), []⟩, ⟨some 44, none, .mv (.t 12), []⟩, ⟨some 45, none, .bo .add (.t 43) (.t 44), []⟩, ⟨some 46, none, .ia 3 (.t 42) (.t 45), []⟩, ⟨some 47, none, .ld (some 3) (.t 46), []⟩, ⟨some 48, none, .mv (.t 0), []⟩, ⟨some 49, none, .mv (.t 8), []⟩, ⟨some 50, none, .ia 3 (.t 48) (.t 49), []⟩, ⟨some 51, none, .ld (some 3) (.t 50), []⟩, ⟨some 52, none, .ia 3 (.t 36) (.t 37), []⟩, ⟨none, none, .st 3 (.t 52) (.t 47), []⟩, ⟨some 53, none, .ia 3 (.t 38) (.t 41), []⟩, ⟨none, none, .st 3 (.t 53) (.t 51), []⟩] [0, 3, 8, 9, 12]) (.rg none [⟨some 54, none, .mv (.t 0), []⟩, ⟨some 55, none, .mv (.t 9), []⟩, ⟨some 56, none, .mv (.t 12), []⟩, ⟨some 57, none, .mv (.t 8), []⟩, ⟨some 58, none, .mv (.t 3), []⟩, ⟨some 59, none, .cl 157 [(.t 54), (.t 55), (.t 56), (.t 57), (.t 58)], []⟩] [0, 3, 8, 9, 12]))) (.rg none [⟨some 34, none, .mv (.t 12), []⟩, ⟨some 35, none, .bo .sub (.t 34) (.c (.int .i64 1)), []⟩, ⟨some 12, none, .mv (.t 35), []⟩] [0, 3, 8, 9, 12])))
def k137_2 : C := (.sq (.rg none [⟨some 30, none, .mv (.t 10), []⟩, ⟨some 31, none, .bo .sub (.t 30) (.c (.int .i64 1)), []⟩, ⟨some 12, none, .mv (.t 31), []⟩] [0, 3, 8, 9, 12]) (.bl 2 (.lp true b137_1)))
/-- slices.heapSortCmpFunc[retarget/api.Binding] -/
def c137 : FI.Fn := { body := (.sq (.rg none [⟨some 13, none, .mv (.t 1), []⟩, ⟨some 8, none, .mv (.t 13), []⟩] [0, 1, 2, 3, 8]) (.sq (.rg none [⟨some 9, none, .mv (.c (.int .i64 0)), []⟩] [0, 1, 2, 3, 8, 9]) (.sq (.rg none [⟨some 14, none, .mv (.t 2), []⟩, ⟨some 15, none, .mv (.t 1), []⟩, ⟨some 16, none, .bo .sub (.t 14) (.t 15), []⟩, ⟨some 10, none, .mv (.t 16), []⟩] [0, 3, 8, 9, 10]) (.sq (.sq (.rg none [⟨some 17, none, .mv (.t 10), []⟩, ⟨some 18, none, .bo .sub (.t 17) (.c (.int .i64 1)), []⟩, ⟨some 19, none, .bo .quo (.t 18) (.c (.int .i64 2)), []⟩, ⟨some 11, none, .mv (.t 19), []⟩] [0, 3, 8, 9, 10, 11]) (.bl 0 (.lp true b137_0))) k137_2)))), np := 4, res := [], mode := .shr }
def b138_0 : C := (.sq (.sq (.rg none [⟨some 28, none, .mv (.t 11), []⟩, ⟨some 29, none, .mv (.t 1), []⟩, ⟨some 30, none, .mv (.t 8), []⟩, ⟨some 31, none, .bo .quo (.t 30) (.c (.int .i64 4)), []⟩, ⟨some 32, none, .bo .mul (.t 31) (.c (.int .i64 2)), []⟩, ⟨some 33, none, .bo .add (.t 29) (.t 32), []⟩, ⟨some 34, none, .bo .add (.t 33) (.c (.int .i64 1)), []⟩, ⟨some 35, none, .bo .leq (.t 28) (.t 34), []⟩] [0, 1, 8, 9, 10, 11, 35]) (.cd (.t 35) .sk (.xt 0))) (.sq (.bl 1 (.sq (.rg none [⟨some 38, none, .cl 159 [(.t 9)], []⟩, ⟨some 39, none, .mv (.t 10), []⟩, ⟨some 40, none, .bo .sub (.t 39) (.c (.int .u64 1)), []⟩, ⟨some 41, none, .bo .and (.t 38) (.t 40), []⟩, ⟨some 42, none, .cv .i64 (.t 41), []⟩, ⟨some 12, none, .mv (.t 42), []⟩] [0, 1, 8, 9, 10, 11, 12]) (.sq (.sq (.rg none [⟨some 43, none, .mv (.t 12), []⟩, ⟨some 44, none, .mv (.t 8), []⟩, ⟨some 45, none, .bo .geq (.t 43) (.t 44), []⟩] [0, 1, 8, 9, 10, 11, 12, 45]) (.cd (.t 45) (.rg none [⟨some 46, none, .mv (.t 12), []⟩, ⟨some 47, none, .mv (.t 8), []⟩, ⟨some 48, none, .bo .sub (.t 46) (.t 47), []⟩, ⟨some 12, none, .mv (.t 48), []⟩] [0, 1, 8, 9, 10, 11, 12]) .sk)) (.rg (some [0, 1, 2, 3, 4, 5, 6, 7, 8, 9, 10, 11, 12, 13, 14, 15, 16, 17, 18, 19]) [⟨some 49, none, .mv (.t 0), []⟩, ⟨some 50, none, .mv (.t 11), []⟩, ⟨some 51, none, .mv (.t 0), []⟩, ⟨some 52, none, .mv (.t 1), []⟩, ⟨some 53, none, .mv (.t 12), []⟩, ⟨some 54, none, .bo .add (.t 52) (.t 53), []⟩, ⟨some 55, none, .mv (.t 0), []⟩, ⟨some 56, none, .mv (.t 1), []⟩, ⟨some 57, none, .mv (.t 12), []⟩, ⟨some 58, none, .bo .add (.t 56) (.t 57), []⟩, ⟨some 59, none, .ia 3 (.t 55) (.t 58), []⟩, ⟨some 60, none, .ld (some 3) (.t 59), []⟩, ⟨some 61, none, .mv (.t 0), []⟩, ⟨some 62, none, .mv (.t 11), []⟩, ⟨some 63, none, .ia 3 (.t 61) (.t 62), []⟩, ⟨some 64, none, .ld (some 3) (.t 63), []⟩, ⟨some 65, none, .ia 3 (.t 49) (.t 50), []⟩, ⟨none, none, .st 3 (.t 65) (.t 60), []⟩, ⟨some 66, none, .ia 3 (.t 51) (.t 54), []⟩, ⟨none, none, .st 3 (.t 66) (.t 64), []⟩] [0, 1, 8, 9, 10, 11])))) (.rg none [⟨some 36, none, .mv (.t 11), []⟩, ⟨some 37, none, .bo .add (.t 36) (.c (.int .i64 1)), []⟩, ⟨some 11, none, .mv (.t 37), []⟩] [0, 1, 8, 9, 10, 11])))
/-- slices.breakPatternsCmpFunc[retarget/api.Binding] -/
def c138 : FI.Fn := { body := (.sq (.rg none [⟨some 13, none, .mv (.t 2), []⟩, ⟨some 14, none, .mv (.t 1), []⟩, ⟨some 15, none, .bo .sub (.t 13) (.t 14), []⟩, ⟨some 8, none, .mv (.t 15), []⟩] [0, 1, 8]) (.sq (.rg none [⟨some 16, none, .mv (.t 8), []⟩, ⟨some 17, none, .bo .geq (.t 16) (.c (.int .i64 8)), []⟩] [0, 1, 8, 17]) (.cd (.t 17) (.sq (.rg none [⟨some 18, none, .mv (.t 8), []⟩, ⟨some 19, none, .cv .u64 (.t 18), []⟩, ⟨some 9, none, .al 1 (.int .u64 0), []⟩, ⟨none, none, .st 1 (.t 9) (.t 19), []⟩] [0, 1, 8, 9]) (.sq (.rg none [⟨some 20, none, .mv (.t 8), []⟩, ⟨some 21, none, .cl 158 [(.t 20)], []⟩, ⟨some 10, none, .mv (.t 21), []⟩] [0, 1, 8, 9, 10]) (.sq (.rg none [⟨some 22, none, .mv (.t 1), []⟩, ⟨some 23, none, .mv (.t 8), []⟩, ⟨some 24, none, .bo .quo (.t 23) (.c (.int .i64 4)), []⟩, ⟨some 25, none, .bo .mul (.t 24) (.c (.int .i64 2)), []⟩, ⟨some 26, none, .bo .add (.t 22) (.t 25), []⟩, ⟨some 27, none, .bo .sub (.t 26) (.c (.int .i64 1)), []⟩, ⟨some 11, none, .mv (.t 27), []⟩] [0, 1, 8, 9, 10, 11]) (.bl 0 (.lp true b138_0))))) .sk))), np := 4, res := [], mode := .shr }
/-- slices.choosePivotCmpFunc[retarget/api.Binding] -/
def c139 : FI.Fn := { body := (.sq (.rg none [⟨some 8, none, .mv (.c (.int .i64 0)), []⟩, ⟨some 9, none, .mv (.c (.int .i64 0)), []⟩] [0, 1, 2, 3]) (.sq (.rg none [⟨some 15, none, .mv (.t 2), []⟩, ⟨some 16, none, .mv (.t 1), []⟩, ⟨some 17, none, .bo .sub (.t 15) (.t 16), []⟩, ⟨some 10, none, .mv (.t 17), []⟩] [0, 1, 3, 10]) (.sq (.rg none [⟨some 11, none, .al 1 (.int .i64 0), []⟩] [0, 1, 3, 10, 11]) (.sq (.rg none [⟨some 18, none, .mv (.t 1), []⟩, ⟨some 19, none, .mv (.t 10), []⟩, ⟨some 20, none, .bo .quo (.t 19) (.c (.int .i64 4)), []⟩, ⟨some 21, none, .bo .mul (.t 20) (.c (.int .i64 1)), []⟩, ⟨some 22, none, .bo .add (.t 18) (.t 21), []⟩, ⟨some 12, none, .mv (.t 22), []⟩] [0, 1, 3, 10, 11, 12]) (.sq (.rg none [⟨some 23, none, .mv (.t 1), []⟩, ⟨some 24, none, .mv (.t 10), []⟩, ⟨some 25, none, .bo .quo (.t 24) (.c (.int .i64 4)), []⟩, ⟨some 26, none, .bo .mul (.t 25) (.c (.int .i64 2)), []⟩, ⟨some 27, none, .bo .add (.t 23) (.t 26), []⟩, ⟨some 13, none, .mv (.t 27), []⟩] [0, 1, 3, 10, 11, 12, 13]) (.sq (.rg none [⟨some 28, none, .mv (.t 1), []⟩, ⟨some 29, none, .mv (.t 10), []⟩, ⟨some 30, none, .bo .quo (.t 29) (.c (.int .i64 4)), []⟩, ⟨some 31, none, .bo .mul (.t 30) (.c (.int .i64 3)), []⟩, ⟨some 32, none, .bo .add (.t 28) (.t 31), []⟩, ⟨some 14, none, .mv (.t 32), []⟩] [0, 3, 10, 11, 12, 13, 14]) (.sq (.sq (.rg none [⟨some 33, none, .mv (.t 10), []⟩, ⟨some 34, none, .bo .geq (.t 33) (.c (.int .i64 8)), []⟩] [0, 3, 10, 11, 12, 13, 14, 34]) (.cd (.t 34) (.sq (.sq (.rg none [⟨some 35, none, .mv (.t 10), []⟩, ⟨some 36, none, .bo .geq (.t 35) (.c (.int .i64 50)), []⟩] [0, 3, 11, 12, 13, 14, 36]) (.cd (.t 36) (.sq (.rg none [⟨some 37, none, .mv (.t 0), []⟩, ⟨some 38, none, .mv (.t 12), []⟩, ⟨some 39, none, .mv (.t 3), []⟩, ⟨some 40, none, .cl 160 [(.t 37), (.t 38), (.t 11), (.t 39)], []⟩, ⟨some 12, none, .mv (.t 40), []⟩] [0, 3, 11, 12, 13, 14]) (.sq (.rg none [⟨some 41, none, .mv (.t 0), []⟩, ⟨some 42, none, .mv (.t 13), []⟩, ⟨some 43, none, .mv (.t 3), []⟩, ⟨some 44, none, .cl 160 [(.t 41), (.t 42), (.t 11), (.t 43)], []⟩, ⟨some 13, none, .mv (.t 44), []⟩] [0, 3, 11, 12, 13, 14]) (.rg none [⟨some 45, none, .mv (.t 0), []⟩, ⟨some 46, none, .mv (.t 14), []⟩, ⟨some 47, none, .mv (.t 3), []⟩, ⟨some 48, none, .cl 160 [(.t 45), (.t 46), (.t 11), (.t 47)], []⟩, ⟨some 14, none, .mv (.t 48), []⟩] [0, 3, 11, 12, 13, 14]))) .sk)) (.rg none [⟨some 49, none, .mv (.t 0), []⟩, ⟨some 50, none, .mv (.t 12), []⟩, ⟨some 51, none, .mv (.t 13), []⟩, ⟨some 52, none, .mv (.t 14), []⟩, ⟨some 53, none, .mv (.t 3), []⟩, ⟨some 54, none, .cl 161 [(.t 49), (.t 50), (.t 51), (.t 52), (.t 11), (.t 53)], []⟩, ⟨some 13, none, .mv (.t 54), []⟩] [11, 13])) .sk)) (.sq (.rg none [⟨some 55, none, .ld none (.t 11), []⟩] [13, 55]) (.bl 0 (.sq (.rg none [⟨some 58, none, .bo .eql (.t 55) (.c (.int .i64 0)), []⟩, ⟨some 57, none, .mv (.t 58), []⟩] [13, 55, 57]) (.cd (.t 57) (.sq (.rg none [⟨some 59, none, .mv (.t 13), []⟩, ⟨some 8, none, .mv (.t 59), []⟩, ⟨some 9, none, .mv (.c (.int .i64 1)), []⟩] [8, 9]) .rt) (.sq (.rg none [⟨some 61, none, .bo .eql (.t 55) (.c (.int .i64 12)), []⟩, ⟨some 60, none, .mv (.t 61), []⟩] [13, 60]) (.cd (.t 60) (.sq (.rg none [⟨some 62, none, .mv (.t 13), []⟩, ⟨some 8, none, .mv (.t 62), []⟩, ⟨some 9, none, .mv (.c (.int .i64 2)), []⟩] [8, 9]) .rt) (.sq (.rg none [⟨some 56, none, .mv (.t 13), []⟩, ⟨some 8, none, .mv (.t 56), []⟩, ⟨some 9, none, .mv (.c (.int .i64 0)), []⟩] [8, 9]) .rt)))))))))))))), np := 4, res := [.t 8, .t 9], mode := .shr }
def b140_0 : C := (.sq (.sq (.rg none [⟨some 13, none, .mv (.t 8), []⟩, ⟨some 14, none, .mv (.t 9), []⟩, ⟨some 15, none, .bo .lss (.t 13) (.t 14), []⟩] [0, 8, 9, 15]) (.cd (.t 15) .sk (.xt 0))) (.bl 1 (.sq (.rg (some [0, 1, 2, 3, 4, 5, 6, 7, 8, 9, 10, 11, 12, 13, 14, 15]) [⟨some 16, none, .mv (.t 0), []⟩, ⟨some 17, none, .mv (.t 8), []⟩, ⟨some 18, none, .mv (.t 0), []⟩, ⟨some 19, none, .mv (.t 9), []⟩, ⟨some 20, none, .mv (.t 0), []⟩, ⟨some 21, none, .mv (.t 9), []⟩, ⟨some 22, none, .ia 3 (.t 20) (.t 21), []⟩, ⟨some 23, none, .ld (some 3) (.t 22), []⟩, ⟨some 24, none, .mv (.t 0), []⟩, ⟨some 25, none, .mv (.t 8), []⟩, ⟨some 26, none, .ia 3 (.t 24) (.t 25), []⟩, ⟨some 27, none, .ld (some 3) (.t 26), []⟩, ⟨some 28, none, .ia 3 (.t 16) (.t 17), []⟩, ⟨none, none, .st 3 (.t 28) (.t 23), []⟩, ⟨some 29, none, .ia 3 (.t 18) (.t 19), []⟩, ⟨none, none, .st 3 (.t 29) (.t 27), []⟩] [0, 8, 9]) (.sq (.rg none [⟨some 30, none, .mv (.t 8), []⟩, ⟨some 31, none, .bo .add (.t 30) (.c (.int .i64 1)), []⟩, ⟨some 8, none, .mv (.t 31), []⟩] [0, 8, 9]) (.rg none [⟨some 32, none, .mv (.t 9), []⟩, ⟨some 33, none, .bo .sub (.t 32) (.c (.int .i64 1)), []⟩, ⟨some 9, none, .mv (.t 33), []⟩] [0, 8, 9])))))
/-- slices.reverseRangeCmpFunc[retarget/api.Binding] -/
def c140 : FI.Fn := { body := (.sq (.rg none [⟨some 10, none, .mv (.t 1), []⟩, ⟨some 8, none, .mv (.t 10), []⟩] [0, 2, 8]) (.sq (.rg none [⟨some 11, none, .mv (.t 2), []⟩, ⟨some 12, none, .bo .sub (.t 11) (.c (.int .i64 1)), []⟩, ⟨some 9, none, .mv (.t 12), []⟩] [0, 8, 9]) (.bl 0 (.lp true b140_0)))), np := 4, res := [], mode := .shr }
def b141_0 : C := (.sq (.sq (.rg (some [0, 1, 2, 3, 4, 5, 6, 7, 8, 9, 10, 11, 12, 13, 14, 15, 16, 17]) [⟨some 19, none, .mv (.t 9), []⟩, ⟨some 20, none, .mv (.t 2), []⟩, ⟨some 21, none, .bo .lss (.t 19) (.t 20), []⟩, ⟨some 22, none, .mv (.t 21), []⟩, ⟨some 23, some (22, true), .mv (.t 3), []⟩, ⟨some 24, some (22, true), .mv (.t 0), []⟩, ⟨some 25, some (22, true), .mv (.t 9), []⟩, ⟨some 26, some (22, true), .ia 3 (.t 24) (.t 25), []⟩, ⟨some 27, some (22, true), .ld (some 3) (.t 26), []⟩, ⟨some 28, some (22, true), .mv (.t 0), []⟩, ⟨some 29, some (22, true), .mv (.t 9), []⟩, ⟨some 30, some (22, true), .bo .sub (.t 29) (.c (.int .i64 1)), []⟩, ⟨some 31, some (22, true), .ia 3 (.t 28) (.t 30), []⟩, ⟨some 32, some (22, true), .ld (some 3) (.t 31), []⟩, ⟨some 33, some (22, true), .cw (.t 23) [(.t 27), (.t 32)], []⟩, ⟨some 34, some (22, true), .bo .lss (.t 33) (.c (.int .i64 0)), []⟩, ⟨some 35, some (22, true), .un .not (.t 34), []⟩, ⟨some 36, none, .pk (.t 22) (.t 35) (.c (.bool false)), []⟩] [0, 1, 2, 3, 9, 10, 36]) (.cd (.t 36) .sk (.xt 2))) (.bl 3 (.rg none [⟨some 37, none, .mv (.t 9), []⟩, ⟨some 38, none, .bo .add (.t 37) (.c (.int .i64 1)), []⟩, ⟨some 9, none, .mv (.t 38), []⟩] [0, 1, 2, 3, 9, 10])))
def b141_1 : C := (.sq (.sq (.rg none [⟨some 68, none, .mv (.t 11), []⟩, ⟨some 69, none, .bo .geq (.t 68) (.c (.int .i64 1)), []⟩] [0, 1, 2, 3, 9, 10, 11, 69]) (.cd (.t 69) .sk (.xt 4))) (.sq (.bl 5 (.sq (.sq (.rg (some [0, 1, 2, 3, 4, 5, 6, 7, 8, 9, 10, 11, 12]) [⟨some 72, none, .mv (.t 3), []⟩, ⟨some 73, none, .mv (.t 0), []⟩, ⟨some 74, none, .mv (.t 11), []⟩, ⟨some 75, none, .ia 3 (.t 73) (.t 74), []⟩, ⟨some 76, none, .ld (some 3) (.t 75), []⟩, ⟨some 77, none, .mv (.t 0), []⟩, ⟨some 78, none, .mv (.t 11), []⟩, ⟨some 79, none, .bo .sub (.t 78) (.c (.int .i64 1)), []⟩, ⟨some 80, none, .ia 3 (.t 77) (.t 79), []⟩, ⟨some 81, none, .ld (some 3) (.t 80), []⟩, ⟨some 82, none, .cw (.t 72) [(.t 76), (.t 81)], []⟩, ⟨some 83, none, .bo .lss (.t 82) (.c (.int .i64 0)), []⟩, ⟨some 84, none, .un .not (.t 83), []⟩] [0, 1, 2, 3, 9, 10, 11, 84]) (.cd (.t 84) (.xt 4) .sk)) (.rg (some [0, 1, 2, 3, 4, 5, 6, 7, 8, 9, 10, 11, 12, 13, 14, 15, 16, 17]) [⟨some 85, none, .mv (.t 0), []⟩, ⟨some 86, none, .mv (.t 11), []⟩, ⟨some 87, none, .mv (.t 0), []⟩, ⟨some 88, none, .mv (.t 11), []⟩, ⟨some 89, none, .bo .sub (.t 88) (.c (.int .i64 1)), []⟩, ⟨some 90, none, .mv (.t 0), []⟩, ⟨some 91, none, .mv (.t 11), []⟩, ⟨some 92, none, .bo .sub (.t 91) (.c (.int .i64 1)), []⟩, ⟨some 93, none, .ia 3 (.t 90) (.t 92), []⟩, ⟨some 94, none, .ld (some 3) (.t 93), []⟩, ⟨some 95, none, .mv (.t 0), []⟩, ⟨some 96, none, .mv (.t 11), []⟩, ⟨some 97, none, .ia 3 (.t 95) (.t 96), []⟩, ⟨some 98, none, .ld (some 3) (.t 97), []⟩, ⟨some 99, none, .ia 3 (.t 85) (.t 86), []⟩, ⟨none, none, .st 3 (.t 99) (.t 94), []⟩, ⟨some 100, none, .ia 3 (.t 87) (.t 89), []⟩, ⟨none, none, .st 3 (.t 100) (.t 98), []⟩] [0, 1, 2, 3, 9, 10, 11]))) (.rg none [⟨some 70, none, .mv (.t 11), []⟩, ⟨some 71, none, .bo .sub (.t 70) (.c (.int .i64 1)), []⟩, ⟨some 11, none, .mv (.t 71), []⟩] [0, 1, 2, 3, 9, 10, 11])))
def b141_2 : C := (.sq (.sq (.rg none [⟨some 107, none, .mv (.t 12), []⟩, ⟨some 108, none, .mv (.t 2), []⟩, ⟨some 109, none, .bo .lss (.t 107) (.t 108), []⟩] [0, 1, 2, 3, 9, 10, 12, 109]) (.cd (.t 109) .sk (.xt 6))) (.sq (.bl 7 (.sq (.sq (.rg (some [0, 1, 2, 3, 4, 5, 6, 7, 8, 9, 10, 11, 12]) [⟨some 112, none, .mv (.t 3), []⟩, ⟨some 113, none, .mv (.t 0), []⟩, ⟨some 114, none, .mv (.t 12), []⟩, ⟨some 115, none, .ia 3 (.t 113) (.t 114), []⟩, ⟨some 116, none, .ld (some 3) (.t 115), []⟩, ⟨some 117, none, .mv (.t 0), []⟩, ⟨some 118, none, .mv (.t 12), []⟩, ⟨some 119, none, .bo .sub (.t 118) (.c (.int .i64 1)), []⟩, ⟨some 120, none, .ia 3 (.t 117) (.t 119), []⟩, ⟨some 121, none, .ld (some 3) (.t 120), []⟩, ⟨some 122, none, .cw (.t 112) [(.t 116), (.t 121)], []⟩, ⟨some 123, none, .bo .lss (.t 122) (.c (.int .i64 0)), []⟩, ⟨some 124, none, .un .not (.t 123), []⟩] [0, 1, 2, 3, 9, 10, 12, 124]) (.cd (.t 124) (.xt 6) .sk)) (.rg (some [0, 1, 2, 3, 4, 5, 6, 7, 8, 9, 10, 11, 12, 13, 14, 15, 16, 17]) [⟨some 125, none, .mv (.t 0), []⟩, ⟨some 126, none, .mv (.t 12), []⟩, ⟨some 127, none, .mv (.t 0), []⟩, ⟨some 128, none, .mv (.t 12), []⟩, ⟨some 129, none, .bo .sub (.t 128) (.c (.int .i64 1)), []⟩, ⟨some 130, none, .mv (.t 0), []⟩, ⟨some 131, none, .mv (.t 12), []⟩, ⟨some 132, none, .bo .sub (.t 131) (.c (.int .i64 1)), []⟩, ⟨some 133, none, .ia 3 (.t 130) (.t 132), []⟩, ⟨some 134, none, .ld (some 3) (.t 133), []⟩, ⟨some 135, none, .mv (.t 0), []⟩, ⟨some 136, none, .mv (.t 12), []⟩, ⟨some 137, none, .ia 3 (.t 135) (.t 136), []⟩, ⟨some 138, none, .ld (some 3) (.t 137), []⟩, ⟨some 139, none, .ia 3 (.t 125) (.t 126), []⟩, ⟨none, none, .st 3 (.t 139) (.t 134), []⟩, ⟨some 140, none, .ia 3 (.t 127) (.t 129), []⟩, ⟨none, none, .st 3 (.t 140) (.t 138), []⟩] [0, 1, 2, 3, 9, 10, 12]))) (.rg none [⟨some 110, none, .mv (.t 12), []⟩, ⟨some 111, none, .bo .add (.t 110) (.c (.int .i64 1)), []⟩, ⟨some 12, none, .mv (.t 111), []⟩] [0, 1, 2, 3, 9, 10, 12])))
def k141_3 : C := (.sq (.rg none [⟨some 101, none, .mv (.t 2), []⟩, ⟨some 102, none, .mv (.t 9), []⟩, ⟨some 103, none, .bo .sub (.t 101) (.t 102), []⟩, ⟨some 104, none, .bo .geq (.t 103) (.c (.int .i64 2)), []⟩] [0, 1, 2, 3, 9, 10, 104]) (.cd (.t 104) (.sq (.rg none [⟨some 105, none, .mv (.t 9), []⟩, ⟨some 106, none, .bo .add (.t 105) (.c (.int .i64 1)), []⟩, ⟨some 12, none, .mv (.t 106), []⟩] [0, 1, 2, 3, 9, 10, 12]) (.bl 6 (.lp true b141_2))) .sk))
def k141_4 : C := (.sq (.sq (.rg none [⟨some 39, none, .mv (.t 9), []⟩, ⟨some 40, none, .mv (.t 2), []⟩, ⟨some 41, none, .bo .eql (.t 39) (.t 40), []⟩] [0, 1, 2, 3, 9, 10, 41]) (.cd (.t 41) (.sq (.rg none [⟨some 8, none, .mv (.c (.bool true)), []⟩] [8]) .rt) .sk)) (.sq (.sq (.rg none [⟨some 42, none, .mv (.t 2), []⟩, ⟨some 43, none, .mv (.t 1), []⟩, ⟨some 44, none, .bo .sub (.t 42) (.t 43), []⟩, ⟨some 45, none, .bo .lss (.t 44) (.c (.int .i64 50)), []⟩] [0, 1, 2, 3, 9, 10, 45]) (.cd (.t 45) (.sq (.rg none [⟨some 8, none, .mv (.c (.bool false)), []⟩] [8]) .rt) .sk)) (.sq (.rg (some [0, 1, 2, 3, 4, 5, 6, 7, 8, 9, 10, 11, 12, 13, 14, 15, 16, 17]) [⟨some 46, none, .mv (.t 0), []⟩, ⟨some 47, none, .mv (.t 9), []⟩, ⟨some 48, none, .mv (.t 0), []⟩, ⟨some 49, none, .mv (.t 9), []⟩, ⟨some 50, none, .bo .sub (.t 49) (.c (.int .i64 1)), []⟩, ⟨some 51, none, .mv (.t 0), []⟩, ⟨some 52, none, .mv (.t 9), []⟩, ⟨some 53, none, .bo .sub (.t 52) (.c (.int .i64 1)), []⟩, ⟨some 54, none, .ia 3 (.t 51) (.t 53), []⟩, ⟨some 55, none, .ld (some 3) (.t 54), []⟩, ⟨some 56, none, .mv (.t 0), []⟩, ⟨some 57, none, .mv (.t 9), []⟩, ⟨some 58, none, .ia 3 (.t 56) (.t 57), []⟩, ⟨some 59, none, .ld (some 3) (.t 58), []⟩, ⟨some 60, none, .ia 3 (.t 46) (.t 47), []⟩, ⟨none, none, .st 3 (.t 60) (.t 55), []⟩, ⟨some 61, none, .ia 3 (.t 48) (.t 50), []⟩, ⟨none, none, .st 3 (.t 61) (.t 59), []⟩] [0, 1, 2, 3, 9, 10]) (.sq (.sq (.rg none [⟨some 62, none, .mv (.t 9), []⟩, ⟨some 63, none, .mv (.t 1), []⟩, ⟨some 64, none, .bo .sub (.t 62) (.t 63), []⟩, ⟨some 65, none, .bo .geq (.t 64) (.c (.int .i64 2)), []⟩] [0, 1, 2, 3, 9, 10, 65]) (.cd (.t 65) (.sq (.rg none [⟨some 66, none, .mv (.t 9), []⟩, ⟨some 67, none, .bo .sub (.t 66) (.c (.int .i64 1)), []⟩, ⟨some 11, none, .mv (.t 67), []⟩] [0, 1, 2, 3, 9, 10, 11]) (.bl 4 (.lp true b141_1))) .sk)) k141_3))))
def k141_5 : C := (.rg none [⟨some 17, none, .mv (.t 10), []⟩, ⟨some 18, none, .bo .add (.t 17) (.c (.int .i64 1)), []⟩, ⟨some 10, none, .mv (.t 18), []⟩] [0, 1, 2, 3, 9, 10])
def b141_6 : C := (.sq (.sq (.rg none [⟨some 15, none, .mv (.t 10), []⟩, ⟨some 16, none, .bo .lss (.t 15) (.c (.int .i64 5)), []⟩] [0, 1, 2, 3, 9, 10, 16]) (.cd (.t 16) .sk (.xt 0))) (.sq (.bl 1 (.sq (.bl 2 (.lp true b141_0)) k141_4)) k141_5))
def k141_7 : C := (.sq (.rg none [⟨some 8, none, .mv (.c (.bool false)), []⟩] [8]) .rt)
/-- slices.partialInsertionSortCmpFunc[retarget/api.Binding] -/
def c141 : FI.Fn := { body := (.sq (.rg none [⟨some 8, none, .mv (.c (.bool false)), []⟩] [0, 1, 2, 3]) (.sq (.rg none [⟨some 13, none, .mv (.t 1), []⟩, ⟨some 14, none, .bo .add (.t 13) (.c (.int .i64 1)), []⟩, ⟨some 9, none, .mv (.t 14), []⟩] [0, 1, 2, 3, 9]) (.sq (.sq (.rg none [⟨some 10, none, .mv (.c (.int .i64 0)), []⟩] [0, 1, 2, 3, 9, 10]) (.bl 0 (.lp true b141_6))) k141_7))), np := 4, res := [.t 8], mode := .shr }
def b142_0 : C := (.sq (.sq (.rg (some [0, 1, 2, 3, 4, 5, 6, 7, 8, 9, 10, 11, 12, 13, 14, 15, 16]) [⟨some 31, none, .mv (.t 11), []⟩, ⟨some 32, none, .mv (.t 12), []⟩, ⟨some 33, none, .bo .leq (.t 31) (.t 32), []⟩, ⟨some 34, none, .mv (.t 33), []⟩, ⟨some 35, some (34, true), .mv (.t 4), []⟩, ⟨some 36, some (34, true), .mv (.t 0), []⟩, ⟨some 37, some (34, true), .mv (.t 1), []⟩, ⟨some 38, some (34, true), .ia 3 (.t 36) (.t 37), []⟩, ⟨some 39, some (34, true), .ld (some 3) (.t 38), []⟩, ⟨some 40, some (34, true), .mv (.t 0), []⟩, ⟨some 41, some (34, true), .mv (.t 11), []⟩, ⟨some 42, some (34, true), .ia 3 (.t 40) (.t 41), []⟩, ⟨some 43, some (34, true), .ld (some 3) (.t 42), []⟩, ⟨some 44, some (34, true), .cw (.t 35) [(.t 39), (.t 43)], []⟩, ⟨some 45, some (34, true), .bo .lss (.t 44) (.c (.int .i64 0)), []⟩, ⟨some 46, some (34, true), .un .not (.t 45), []⟩, ⟨some 47, none, .pk (.t 34) (.t 46) (.c (.bool false)), []⟩] [0, 1, 4, 11, 12, 47]) (.cd (.t 47) .sk (.xt 2))) (.bl 3 (.rg none [⟨some 48, none, .mv (.t 11), []⟩, ⟨some 49, none, .bo .add (.t 48) (.c (.int .i64 1)), []⟩, ⟨some 11, none, .mv (.t 49), []⟩] [0, 1, 4, 11, 12])))
def b142_1 : C := (.sq (.sq (.rg (some [0, 1, 2, 3, 4, 5, 6, 7, 8, 9, 10, 11, 12, 13, 14, 15]) [⟨some 50, none, .mv (.t 11), []⟩, ⟨some 51, none, .mv (.t 12), []⟩, ⟨some 52, none, .bo .leq (.t 50) (.t 51), []⟩, ⟨some 53, none, .mv (.t 52), []⟩, ⟨some 54, some (53, true), .mv (.t 4), []⟩, ⟨some 55, some (53, true), .mv (.t 0), []⟩, ⟨some 56, some (53, true), .mv (.t 1), []⟩, ⟨some 57, some (53, true), .ia 3 (.t 55) (.t 56), []⟩, ⟨some 58, some (53, true), .ld (some 3) (.t 57), []⟩, ⟨some 59, some (53, true), .mv (.t 0), []⟩, ⟨some 60, some (53, true), .mv (.t 12), []⟩, ⟨some 61, some (53, true), .ia 3 (.t 59) (.t 60), []⟩, ⟨some 62, some (53, true), .ld (some 3) (.t 61), []⟩, ⟨some 63, some (53, true), .cw (.t 54) [(.t 58), (.t 62)], []⟩, ⟨some 64, some (53, true), .bo .lss (.t 63) (.c (.int .i64 0)), []⟩, ⟨some 65, none, .pk (.t 53) (.t 64) (.c (.bool false)), []⟩] [0, 1, 4, 11, 12, 65]) (.cd (.t 65) .sk (.xt 4))) (.bl 5 (.rg none [⟨some 66, none, .mv (.t 12), []⟩, ⟨some 67, none, .bo .sub (.t 66) (.c (.int .i64 1)), []⟩, ⟨some 12, none, .mv (.t 67), []⟩] [0, 1, 4, 11, 12])))
def k142_2 : C := (.sq (.sq (.rg none [⟨some 68, none, .mv (.t 11), []⟩, ⟨some 69, none, .mv (.t 12), []⟩, ⟨some 70, none, .bo .gtr (.t 68) (.t 69), []⟩] [0, 1, 4, 11, 12, 70]) (.cd (.t 70) (.xt 0) .sk)) (.sq (.rg (some [0, 1, 2, 3, 4, 5, 6, 7, 8, 9, 10, 11, 12, 13, 14, 15]) [⟨some 71, none, .mv (.t 0), []⟩, ⟨some 72, none, .mv (.t 11), []⟩, ⟨some 73, none, .mv (.t 0), []⟩, ⟨some 74, none, .mv (.t 12), []⟩, ⟨some 75, none, .mv (.t 0), []⟩, ⟨some 76, none, .mv (.t 12), []⟩, ⟨some 77, none, .ia 3 (.t 75) (.t 76), []⟩, ⟨some 78, none, .ld (some 3) (.t 77), []⟩, ⟨some 79, none, .mv (.t 0), []⟩, ⟨some 80, none, .mv (.t 11), []⟩, ⟨some 81, none, .ia 3 (.t 79) (.t 80), []⟩, ⟨some 82, none, .ld (some 3) (.t 81), []⟩, ⟨some 83, none, .ia 3 (.t 71) (.t 72), []⟩, ⟨none, none, .st 3 (.t 83) (.t 78), []⟩, ⟨some 84, none, .ia 3 (.t 73) (.t 74), []⟩, ⟨none, none, .st 3 (.t 84) (.t 82), []⟩] [0, 1, 4, 11, 12]) (.sq (.rg none [⟨some 85, none, .mv (.t 11), []⟩, ⟨some 86, none, .bo .add (.t 85) (.c (.int .i64 1)), []⟩, ⟨some 11, none, .mv (.t 86), []⟩] [0, 1, 4, 11, 12]) (.rg none [⟨some 87, none, .mv (.t 12), []⟩, ⟨some 88, none, .bo .sub (.t 87) (.c (.int .i64 1)), []⟩, ⟨some 12, none, .mv (.t 88), []⟩] [0, 1, 4, 11, 12]))))
def k142_3 : C := (.sq (.bl 4 (.lp true b142_1)) k142_2)
def b142_4 : C := (.bl 1 (.sq (.bl 2 (.lp true b142_0)) k142_3))
def k142_5 : C := (.sq (.rg none [⟨some 89, none, .mv (.t 11), []⟩, ⟨some 10, none, .mv (.t 89), []⟩] [10]) .rt)
/-- slices.partitionEqualCmpFunc[retarget/api.Binding] -/
def c142 : FI.Fn := { body := (.sq (.rg none [⟨some 10, none, .mv (.c (.int .i64 0)), []⟩] [0, 1, 2, 3, 4]) (.sq (.rg (some [0, 1, 2, 3, 4, 5, 6, 7, 8, 9, 10, 11, 12, 13, 14, 15]) [⟨some 13, none, .mv (.t 0), []⟩, ⟨some 14, none, .mv (.t 1), []⟩, ⟨some 15, none, .mv (.t 0), []⟩, ⟨some 16, none, .mv (.t 3), []⟩, ⟨some 17, none, .mv (.t 0), []⟩, ⟨some 18, none, .mv (.t 3), []⟩, ⟨some 19, none, .ia 3 (.t 17) (.t 18), []⟩, ⟨some 20, none, .ld (some 3) (.t 19), []⟩, ⟨some 21, none, .mv (.t 0), []⟩, ⟨some 22, none, .mv (.t 1), []⟩, ⟨some 23, none, .ia 3 (.t 21) (.t 22), []⟩, ⟨some 24, none, .ld (some 3) (.t 23), []⟩, ⟨some 25, none, .ia 3 (.t 13) (.t 14), []⟩, ⟨none, none, .st 3 (.t 25) (.t 20), []⟩, ⟨some 26, none, .ia 3 (.t 15) (.t 16), []⟩, ⟨none, none, .st 3 (.t 26) (.t 24), []⟩] [0, 1, 2, 4]) (.sq (.rg none [⟨some 27, none, .mv (.t 1), []⟩, ⟨some 28, none, .bo .add (.t 27) (.c (.int .i64 1)), []⟩, ⟨some 29, none, .mv (.t 2), []⟩, ⟨some 30, none, .bo .sub (.t 29) (.c (.int .i64 1)), []⟩, ⟨some 11, none, .mv (.t 28), []⟩, ⟨some 12, none, .mv (.t 30), []⟩] [0, 1, 4, 11, 12]) (.sq (.bl 0 (.lp true b142_4)) k142_5)))), np := 5, res := [.t 10], mode := .shr }
def b143_0 : C := (.sq (.sq (.rg (some [0, 1, 2, 3, 4, 5, 6, 7, 8, 9, 10, 11, 12, 13, 14, 15]) [⟨some 32, none, .mv (.t 12), []⟩, ⟨some 33, none, .mv (.t 13), []⟩, ⟨some 34, none, .bo .leq (.t 32) (.t 33), []⟩, ⟨some 35, none, .mv (.t 34), []⟩, ⟨some 36, some (35, true), .mv (.t 4), []⟩, ⟨some 37, some (35, true), .mv (.t 0), []⟩, ⟨some 38, some (35, true), .mv (.t 12), []⟩, ⟨some 39, some (35, true), .ia 3 (.t 37) (.t 38), []⟩, ⟨some 40, some (35, true), .ld (some 3) (.t 39), []⟩, ⟨some 41, some (35, true), .mv (.t 0), []⟩, ⟨some 42, some (35, true), .mv (.t 1), []⟩, ⟨some 43, some (35, true), .ia 3 (.t 41) (.t 42), []⟩, ⟨some 44, some (35, true), .ld (some 3) (.t 43), []⟩, ⟨some 45, some (35, true), .cw (.t 36) [(.t 40), (.t 44)], []⟩, ⟨some 46, some (35, true), .bo .lss (.t 45) (.c (.int .i64 0)), []⟩, ⟨some 47, none, .pk (.t 35) (.t 46) (.c (.bool false)), []⟩] [0, 1, 4, 12, 13, 47]) (.cd (.t 47) .sk (.xt 0))) (.bl 1 (.rg none [⟨some 48, none, .mv (.t 12), []⟩, ⟨some 49, none, .bo .add (.t 48) (.c (.int .i64 1)), []⟩, ⟨some 12, none, .mv (.t 49), []⟩] [0, 1, 4, 12, 13])))
def b143_1 : C := (.sq (.sq (.rg (some [0, 1, 2, 3, 4, 5, 6, 7, 8, 9, 10, 11, 12, 13, 14, 15, 16]) [⟨some 50, none, .mv (.t 12), []⟩, ⟨some 51, none, .mv (.t 13), []⟩, ⟨some 52, none, .bo .leq (.t 50) (.t 51), []⟩, ⟨some 53, none, .mv (.t 52), []⟩, ⟨some 54, some (53, true), .mv (.t 4), []⟩, ⟨some 55, some (53, true), .mv (.t 0), []⟩, ⟨some 56, some (53, true), .mv (.t 13), []⟩, ⟨some 57, some (53, true), .ia 3 (.t 55) (.t 56), []⟩, ⟨some 58, some (53, true), .ld (some 3) (.t 57), []⟩, ⟨some 59, some (53, true), .mv (.t 0), []⟩, ⟨some 60, some (53, true), .mv (.t 1), []⟩, ⟨some 61, some (53, true), .ia 3 (.t 59) (.t 60), []⟩, ⟨some 62, some (53, true), .ld (some 3) (.t 61), []⟩, ⟨some 63, some (53, true), .cw (.t 54) [(.t 58), (.t 62)], []⟩, ⟨some 64, some (53, true), .bo .lss (.t 63) (.c (.int .i64 0)), []⟩, ⟨some 65, some (53, true), .un .not (.t 64), []⟩, ⟨some 66, none, .pk (.t 53) (.t 65) (.c (.bool false)), []⟩] [0, 1, 4, 12, 13, 66]) (.cd (.t 66) .sk (.xt 2))) (.bl 3 (.rg none [⟨some 67, none, .mv (.t 13), []⟩, ⟨some 68, none, .bo .sub (.t 67) (.c (.int .i64 1)), []⟩, ⟨some 13, none, .mv (.t 68), []⟩] [0, 1, 4, 12, 13])))
def b143_2 : C := (.sq (.sq (.rg (some [0, 1, 2, 3, 4, 5, 6, 7, 8, 9, 10, 11, 12, 13, 14, 15]) [⟨some 105, none, .mv (.t 12), []⟩, ⟨some 106, none, .mv (.t 13), []⟩, ⟨some 107, none, .bo .leq (.t 105) (.t 106), []⟩, ⟨some 108, none, .mv (.t 107), []⟩, ⟨some 109, some (108, true), .mv (.t 4), []⟩, ⟨some 110, some (108, true), .mv (.t 0), []⟩, ⟨some 111, some (108, true), .mv (.t 12), []⟩, ⟨some 112, some (108, true), .ia 3 (.t 110) (.t 111), []⟩, ⟨some 113, some (108, true), .ld (some 3) (.t 112), []⟩, ⟨some 114, some (108, true), .mv (.t 0), []⟩, ⟨some 115, some (108, true), .mv (.t 1), []⟩, ⟨some 116, some (108, true), .ia 3 (.t 114) (.t 115), []⟩, ⟨some 117, some (108, true), .ld (some 3) (.t 116), []⟩, ⟨some 118, some (108, true), .cw (.t 109) [(.t 113), (.t 117)], []⟩, ⟨some 119, some (108, true), .bo .lss (.t 118) (.c (.int .i64 0)), []⟩, ⟨some 120, none, .pk (.t 108) (.t 119) (.c (.bool false)), []⟩] [0, 1, 4, 12, 13, 120]) (.cd (.t 120) .sk (.xt 6))) (.bl 7 (.rg none [⟨some 121, none, .mv (.t 12), []⟩, ⟨some 122, none, .bo .add (.t 121) (.c (.int .i64 1)), []⟩, ⟨some 12, none, .mv (.t 122), []⟩] [0, 1, 4, 12, 13])))
def b143_3 : C := (.sq (.sq (.rg (some [0, 1, 2, 3, 4, 5, 6, 7, 8, 9, 10, 11, 12, 13, 14, 15, 16]) [⟨some 123, none, .mv (.t 12), []⟩, ⟨some 124, none, .mv (.t 13), []⟩, ⟨some 125, none, .bo .leq (.t 123) (.t 124), []⟩, ⟨some 126, none, .mv (.t 125), []⟩, ⟨some 127, some (126, true), .mv (.t 4), []⟩, ⟨some 128, some (126, true), .mv (.t 0), []⟩, ⟨some 129, some (126, true), .mv (.t 13), []⟩, ⟨some 130, some (126, true), .ia 3 (.t 128) (.t 129), []⟩, ⟨some 131, some (126, true), .ld (some 3) (.t 130), []⟩, ⟨some 132, some (126, true), .mv (.t 0), []⟩, ⟨some 133, some (126, true), .mv (.t 1), []⟩, ⟨some 134, some (126, true), .ia 3 (.t 132) (.t 133), []⟩, ⟨some 135, some (126, true), .ld (some 3) (.t 134), []⟩, ⟨some 136, some (126, true), .cw (.t 127) [(.t 131), (.t 135)], []⟩, ⟨some 137, some (126, true), .bo .lss (.t 136) (.c (.int .i64 0)), []⟩, ⟨some 138, some (126, true), .un .not (.t 137), []⟩, ⟨some 139, none, .pk (.t 126) (.t 138) (.c (.bool false)), []⟩] [0, 1, 4, 12, 13, 139]) (.cd (.t 139) .sk (.xt 8))) (.bl 9 (.rg none [⟨some 140, none, .mv (.t 13), []⟩, ⟨some 141, none, .bo .sub (.t 140) (.c (.int .i64 1)), []⟩, ⟨some 13, none, .mv (.t 141), []⟩] [0, 1, 4, 12, 13])))
def k143_4 : C := (.sq (.sq (.rg none [⟨some 142, none, .mv (.t 12), []⟩, ⟨some 143, none, .mv (.t 13), []⟩, ⟨some 144, none, .bo .gtr (.t 142) (.t 143), []⟩] [0, 1, 4, 12, 13, 144]) (.cd (.t 144) (.xt 4) .sk)) (.sq (.rg (some [0, 1, 2, 3, 4, 5, 6, 7, 8, 9, 10, 11, 12, 13, 14, 15]) [⟨some 145, none, .mv (.t 0), []⟩, ⟨some 146, none, .mv (.t 12), []⟩, ⟨some 147, none, .mv (.t 0), []⟩, ⟨some 148, none, .mv (.t 13), []⟩, ⟨some 149, none, .mv (.t 0), []⟩, ⟨some 150, none, .mv (.t 13), []⟩, ⟨some 151, none, .ia 3 (.t 149) (.t 150), []⟩, ⟨some 152, none, .ld (some 3) (.t 151), []⟩, ⟨some 153, none, .mv (.t 0), []⟩, ⟨some 154, none, .mv (.t 12), []⟩, ⟨some 155, none, .ia 3 (.t 153) (.t 154), []⟩, ⟨some 156, none, .ld (some 3) (.t 155), []⟩, ⟨some 157, none, .ia 3 (.t 145) (.t 146), []⟩, ⟨none, none, .st 3 (.t 157) (.t 152), []⟩, ⟨some 158, none, .ia 3 (.t 147) (.t 148), []⟩, ⟨none, none, .st 3 (.t 158) (.t 156), []⟩] [0, 1, 4, 12, 13]) (.sq (.rg none [⟨some 159, none, .mv (.t 12), []⟩, ⟨some 160, none, .bo .add (.t 159) (.c (.int .i64 1)), []⟩, ⟨some 12, none, .mv (.t 160), []⟩] [0, 1, 4, 12, 13]) (.rg none [⟨some 161, none, .mv (.t 13), []⟩, ⟨some 162, none, .bo .sub (.t 161) (.c (.int .i64 1)), []⟩, ⟨some 13, none, .mv (.t 162), []⟩] [0, 1, 4, 12, 13]))))
def k143_5 : C := (.sq (.bl 8 (.lp true b143_3)) k143_4)
def b143_6 : C := (.bl 5 (.sq (.bl 6 (.lp true b143_2)) k143_5))
def k143_7 : C := (.sq (.rg (some [0, 1, 2, 3, 4, 5, 6, 7, 8, 9, 10, 11, 12, 13, 14, 15]) [⟨some 163, none, .mv (.t 0), []⟩, ⟨some 164, none, .mv (.t 13), []⟩, ⟨some 165, none, .mv (.t 0), []⟩, ⟨some 166, none, .mv (.t 1), []⟩, ⟨some 167, none, .mv (.t 0), []⟩, ⟨some 168, none, .mv (.t 1), []⟩, ⟨some 169, none, .ia 3 (.t 167) (.t 168), []⟩, ⟨some 170, none, .ld (some 3) (.t 169), []⟩, ⟨some 171, none, .mv (.t 0), []⟩, ⟨some 172, none, .mv (.t 13), []⟩, ⟨some 173, none, .ia 3 (.t 171) (.t 172), []⟩, ⟨some 174, none, .ld (some 3) (.t 173), []⟩, ⟨some 175, none, .ia 3 (.t 163) (.t 164), []⟩, ⟨none, none, .st 3 (.t 175) (.t 170), []⟩, ⟨some 176, none, .ia 3 (.t 165) (.t 166), []⟩, ⟨none, none, .st 3 (.t 176) (.t 174), []⟩] [13]) (.sq (.rg none [⟨some 177, none, .mv (.t 13), []⟩, ⟨some 10, none, .mv (.t 177), []⟩, ⟨some 11, none, .mv (.c (.bool false)), []⟩] [10, 11]) .rt))
def k143_8 : C := (.sq (.sq (.rg none [⟨some 69, none, .mv (.t 12), []⟩, ⟨some 70, none, .mv (.t 13), []⟩, ⟨some 71, none, .bo .gtr (.t 69) (.t 70), []⟩] [0, 1, 4, 12, 13, 71]) (.cd (.t 71) (.sq (.rg (some [0, 1, 2, 3, 4, 5, 6, 7, 8, 9, 10, 11, 12, 13, 14, 15]) [⟨some 72, none, .mv (.t 0), []⟩, ⟨some 73, none, .mv (.t 13), []⟩, ⟨some 74, none, .mv (.t 0), []⟩, ⟨some 75, none, .mv (.t 1), []⟩, ⟨some 76, none, .mv (.t 0), []⟩, ⟨some 77, none, .mv (.t 1), []⟩, ⟨some 78, none, .ia 3 (.t 76) (.t 77), []⟩, ⟨some 79, none, .ld (some 3) (.t 78), []⟩, ⟨some 80, none, .mv (.t 0), []⟩, ⟨some 81, none, .mv (.t 13), []⟩, ⟨some 82, none, .ia 3 (.t 80) (.t 81), []⟩, ⟨some 83, none, .ld (some 3) (.t 82), []⟩, ⟨some 84, none, .ia 3 (.t 72) (.t 73), []⟩, ⟨none, none, .st 3 (.t 84) (.t 79), []⟩, ⟨some 85, none, .ia 3 (.t 74) (.t 75), []⟩, ⟨none, none, .st 3 (.t 85) (.t 83), []⟩] [13]) (.sq (.rg none [⟨some 86, none, .mv (.t 13), []⟩, ⟨some 10, none, .mv (.t 86), []⟩, ⟨some 11, none, .mv (.c (.bool true)), []⟩] [10, 11]) .rt)) .sk)) (.sq (.rg (some [0, 1, 2, 3, 4, 5, 6, 7, 8, 9, 10, 11, 12, 13, 14, 15]) [⟨some 87, none, .mv (.t 0), []⟩, ⟨some 88, none, .mv (.t 12), []⟩, ⟨some 89, none, .mv (.t 0), []⟩, ⟨some 90, none, .mv (.t 13), []⟩, ⟨some 91, none, .mv (.t 0), []⟩, ⟨some 92, none, .mv (.t 13), []⟩, ⟨some 93, none, .ia 3 (.t 91) (.t 92), []⟩, ⟨some 94, none, .ld (some 3) (.t 93), []⟩, ⟨some 95, none, .mv (.t 0), []⟩, ⟨some 96, none, .mv (.t 12), []⟩, ⟨some 97, none, .ia 3 (.t 95) (.t 96), []⟩, ⟨some 98, none, .ld (some 3) (.t 97), []⟩, ⟨some 99, none, .ia 3 (.t 87) (.t 88), []⟩, ⟨none, none, .st 3 (.t 99) (.t 94), []⟩, ⟨some 100, none, .ia 3 (.t 89) (.t 90), []⟩, ⟨none, none, .st 3 (.t 100) (.t 98), []⟩] [0, 1, 4, 12, 13]) (.sq (.rg none [⟨some 101, none, .mv (.t 12), []⟩, ⟨some 102, none, .bo .add (.t 101) (.c (.int .i64 1)), []⟩, ⟨some 12, none, .mv (.t 102), []⟩] [0, 1, 4, 12, 13]) (.sq (.rg none [⟨some 103, none, .mv (.t 13), []⟩, ⟨some 104, none, .bo .sub (.t 103) (.c (.int .i64 1)), []⟩, ⟨some 13, none, .mv (.t 104), []⟩] [0, 1, 4, 12, 13]) (.sq (.bl 4 (.lp true b143_6)) k143_7)))))
def k143_9 : C := (.sq (.bl 2 (.lp true b143_1)) k143_8)
/-- slices.partitionCmpFunc[retarget/api.Binding] -/
def c143 : FI.Fn := { body := (.sq (.rg none [⟨some 10, none, .mv (.c (.int .i64 0)), []⟩, ⟨some 11, none, .mv (.c (.bool false)), []⟩] [0, 1, 2, 3, 4]) (.sq (.rg (some [0, 1, 2, 3, 4, 5, 6, 7, 8, 9, 10, 11, 12, 13, 14, 15]) [⟨some 14, none, .mv (.t 0), []⟩, ⟨some 15, none, .mv (.t 1), []⟩, ⟨some 16, none, .mv (.t 0), []⟩, ⟨some 17, none, .mv (.t 3), []⟩, ⟨some 18, none, .mv (.t 0), []⟩, ⟨some 19, none, .mv (.t 3), []⟩, ⟨some 20, none, .ia 3 (.t 18) (.t 19), []⟩, ⟨some 21, none, .ld (some 3) (.t 20), []⟩, ⟨some 22, none, .mv (.t 0), []⟩, ⟨some 23, none, .mv (.t 1), []⟩, ⟨some 24, none, .ia 3 (.t 22) (.t 23), []⟩, ⟨some 25, none, .ld (some 3) (.t 24), []⟩, ⟨some 26, none, .ia 3 (.t 14) (.t 15), []⟩, ⟨none, none, .st 3 (.t 26) (.t 21), []⟩, ⟨some 27, none, .ia 3 (.t 16) (.t 17), []⟩, ⟨none, none, .st 3 (.t 27) (.t 25), []⟩] [0, 1, 2, 4]) (.sq (.rg none [⟨some 28, none, .mv (.t 1), []⟩, ⟨some 29, none, .bo .add (.t 28) (.c (.int .i64 1)), []⟩, ⟨some 30, none, .mv (.t 2), []⟩, ⟨some 31, none, .bo .sub (.t 30) (.c (.int .i64 1)), []⟩, ⟨some 12, none, .mv (.t 29), []⟩, ⟨some 13, none, .mv (.t 31), []⟩] [0, 1, 4, 12, 13]) (.sq (.bl 0 (.lp true b143_0)) k143_9)))), np := 5, res := [.t 10, .t 11], mode := .shr }
/-- math/bits.Len32 -/
def c144 : FI.Fn := { body := (.sq (.rg none [⟨some 2, none, .mv (.c (.int .i64 0)), []⟩] [0, 2]) (.sq (.sq (.rg none [⟨some 3, none, .mv (.t 0), []⟩, ⟨some 4, none, .bo .geq (.t 3) (.c (.int .u32 65536)), []⟩] [0, 2, 4]) (.cd (.t 4) (.sq (.rg none [⟨some 5, none, .mv (.t 0), []⟩, ⟨some 6, none, .bo .shr (.t 5) (.c (.int .u64 16)), []⟩, ⟨some 0, none, .mv (.t 6), []⟩] [0]) (.rg none [⟨some 2, none, .mv (.c (.int .i64 16)), []⟩] [0, 2])) .sk)) (.sq (.sq (.rg none [⟨some 7, none, .mv (.t 0), []⟩, ⟨some 8, none, .bo .geq (.t 7) (.c (.int .u32 256)), []⟩] [0, 2, 8]) (.cd (.t 8) (.sq (.rg none [⟨some 9, none, .mv (.t 0), []⟩, ⟨some 10, none, .bo .shr (.t 9) (.c (.int .u64 8)), []⟩, ⟨some 0, none, .mv (.t 10), []⟩] [0, 2]) (.rg none [⟨some 11, none, .mv (.t 2), []⟩, ⟨some 12, none, .bo .add (.t 11) (.c (.int .i64 8)), []⟩, ⟨some 2, none, .mv (.t 12), []⟩] [0, 2])) .sk)) (.sq (.rg none [⟨some 13, none, .mv (.t 2), []⟩, ⟨some 14, none, .mv (.t 0), []⟩, ⟨some 15, none, .cv .u8 (.t 14), []⟩, ⟨some 16, none, .ix (.c (.str [0, 1, 2, 2, 3, 3, 3, 3, 4, 4, 4, 4, 4, 4, 4, 4, 5, 5, 5, 5, 5, 5, 5, 5, 5, 5, 5, 5, 5, 5, 5, 5, 6, 6, 6, 6, 6, 6, 6, 6, 6, 6, 6, 6, 6, 6, 6, 6, 6, 6, 6, 6, 6, 6, 6, 6, 6, 6, 6, 6, 6, 6, 6, 6, 7, 7, 7, 7, 7, 7, 7, 7, 7, 7, 7, 7, 7, 7, 7, 7, 7, 7, 7, 7, 7, 7, 7, 7, 7, 7, 7, 7, 7, 7, 7, 7, 7, 7, 7, 7, 7, 7, 7, 7, 7, 7, 7, 7, 7, 7, 7, 7, 7, 7, 7, 7, 7, 7, 7, 7, 7, 7, 7, 7, 7, 7, 7, 7, 8, 8, 8, 8, 8, 8, 8, 8, 8, 8, 8, 8, 8, 8, 8, 8, 8, 8, 8, 8, 8, 8, 8, 8, 8, 8, 8, 8, 8, 8, 8, 8, 8, 8, 8, 8, 8, 8, 8, 8, 8, 8, 8, 8, 8, 8, 8, 8, 8, 8, 8, 8, 8, 8, 8, 8, 8, 8, 8, 8, 8, 8, 8, 8, 8, 8, 8, 8, 8, 8, 8, 8, 8, 8, 8, 8, 8, 8, 8, 8, 8, 8, 8, 8, 8, 8, 8, 8, 8, 8, 8, 8, 8, 8, 8, 8, 8, 8, 8, 8, 8, 8, 8, 8, 8, 8, 8, 8, 8, 8, 8, 8, 8, 8, 8, 8, 8, 8, 8, 8, 8, 8, 8, 8, 8, 8, 8, 8])) (.t 15), []⟩, ⟨some 17, none, .cv .i64 (.t 16), []⟩, ⟨some 18, none, .bo .add (.t 13) (.t 17), []⟩, ⟨some 2, none, .mv (.t 18), []⟩] [2]) .rt)))), np := 1, res := [.t 2], mode := .iso }
/-- math/bits.Len64 -/
def c145 : FI.Fn := { body := (.sq (.rg none [⟨some 2, none, .mv (.c (.int .i64 0)), []⟩] [0, 2]) (.sq (.sq (.rg none [⟨some 3, none, .mv (.t 0), []⟩, ⟨some 4, none, .bo .geq (.t 3) (.c (.int .u64 4294967296)), []⟩] [0, 2, 4]) (.cd (.t 4) (.sq (.rg none [⟨some 5, none, .mv (.t 0), []⟩, ⟨some 6, none, .bo .shr (.t 5) (.c (.int .u64 32)), []⟩, ⟨some 0, none, .mv (.t 6), []⟩] [0]) (.rg none [⟨some 2, none, .mv (.c (.int .i64 32)), []⟩] [0, 2])) .sk)) (.sq (.sq (.rg none [⟨some 7, none, .mv (.t 0), []⟩, ⟨some 8, none, .bo .geq (.t 7) (.c (.int .u64 65536)), []⟩] [0, 2, 8]) (.cd (.t 8) (.sq (.rg none [⟨some 9, none, .mv (.t 0), []⟩, ⟨some 10, none, .bo .shr (.t 9) (.c (.int .u64 16)), []⟩, ⟨some 0, none, .mv (.t 10), []⟩] [0, 2]) (.rg none [⟨some 11, none, .mv (.t 2), []⟩, ⟨some 12, none, .bo .add (.t 11) (.c (.int .i64 16)), []⟩, ⟨some 2, none, .mv (.t 12), []⟩] [0, 2])) .sk)) (.sq (.sq (.rg none [⟨some 13, none, .mv (.t 0), []⟩, ⟨some 14, none, .bo .geq (.t 13) (.c (.int .u64 256)), []⟩] [0, 2, 14]) (.cd (.t 14) (.sq (.rg none [⟨some 15, none, .mv (.t 0), []⟩, ⟨some 16, none, .bo .shr (.t 15) (.c (.int .u64 8)), []⟩, ⟨some 0, none, .mv (.t 16), []⟩] [0, 2]) (.rg none [⟨some 17, none, .mv (.t 2), []⟩, ⟨some 18, none, .bo .add (.t 17) (.c (.int .i64 8)), []⟩, ⟨some 2, none, .mv (.t 18), []⟩] [0, 2])) .sk)) (.sq (.rg none [⟨some 19, none, .mv (.t 2), []⟩, ⟨some 20, none, .mv (.t 0), []⟩, ⟨some 21, none, .cv .u8 (.t 20), []⟩, ⟨some 22, none, .ix (.c (.str [0, 1, 2, 2, 3, 3, 3, 3, 4, 4, 4, 4, 4, 4, 4, 4, 5, 5, 5, 5, 5, 5, 5, 5, 5, 5, 5, 5, 5, 5, 5, 5, 6, 6, 6, 6, 6, 6, 6, 6, 6, 6, 6, 6, 6, 6, 6, 6, 6, 6, 6, 6, 6, 6, 6, 6, 6, 6, 6, 6, 6, 6, 6, 6, 7, 7, 7, 7, 7, 7, 7, 7, 7, 7, 7, 7, 7, 7, 7, 7, 7, 7, 7, 7, 7, 7, 7, 7, 7, 7, 7, 7, 7, 7, 7, 7, 7, 7, 7, 7, 7, 7, 7, 7, 7, 7, 7, 7, 7, 7, 7, 7, 7, 7, 7, 7, 7, 7, 7, 7, 7, 7, 7, 7, 7, 7, 7, 7, 8, 8, 8, 8, 8, 8, 8, 8, 8, 8, 8, 8, 8, 8, 8, 8, 8, 8, 8, 8, 8, 8, 8, 8, 8, 8, 8, 8, 8, 8, 8, 8, 8, 8, 8, 8, 8, 8, 8, 8, 8, 8, 8, 8, 8, 8, 8, 8, 8, 8, 8, 8, 8, 8, 8, 8, 8, 8, 8, 8, 8, 8, 8, 8, 8, 8, 8, 8, 8, 8, 8, 8, 8, 8, 8, 8, 8, 8, 8, 8, 8, 8, 8, 8, 8, 8, 8, 8, 8, 8, 8, 8, 8, 8, 8, 8, 8, 8, 8, 8, 8, 8, 8, 8, 8, 8, 8, 8, 8, 8, 8, 8, 8, 8, 8, 8, 8, 8, 8, 8, 8, 8, 8, 8, 8, 8, 8, 8])) (.t 21), []⟩, ⟨some 23, none, .cv .i64 (.t 22), []⟩, ⟨some 24, none, .bo .add (.t 19) (.t 23), []⟩, ⟨some 2, none, .mv (.t 24), []⟩] [2]) .rt))))), np := 1, res := [.t 2], mode := .iso }
/-- internal/stringslite.HasPrefix -/
def c149 : FI.Fn := { body := (.sq (.rg none [⟨some 4, none, .mv (.c (.bool false)), []⟩] [0, 1]) (.sq (.rg none [⟨some 5, none, .mv (.t 0), []⟩, ⟨some 6, none, .ln 0 (.t 5), []⟩, ⟨some 7, none, .mv (.t 1), []⟩, ⟨some 8, none, .ln 0 (.t 7), []⟩, ⟨some 9, none, .bo .geq (.t 6) (.t 8), []⟩, ⟨some 10, none, .mv (.t 9), []⟩, ⟨some 11, some (10, true), .mv (.t 0), []⟩, ⟨some 12, some (10, true), .mv (.t 1), []⟩, ⟨some 13, some (10, true), .ln 0 (.t 12), []⟩, ⟨some 14, some (10, true), .sl 0 (.t 11) none (some (.t 13)), []⟩, ⟨some 15, some (10, true), .mv (.t 1), []⟩, ⟨some 16, some (10, true), .bo .eql (.t 14) (.t 15), []⟩, ⟨some 17, none, .pk (.t 10) (.t 16) (.c (.bool false)), []⟩, ⟨some 4, none, .mv (.t 17), []⟩] [4]) .rt)), np := 2, res := [.t 4], mode := .iso }
def b150_0 : C := (.sq (.sq (.rg none [⟨some 11, none, .mv (.t 5), []⟩, ⟨some 12, none, .mv (.t 0), []⟩, ⟨some 13, none, .ln 0 (.t 12), []⟩, ⟨some 14, none, .bo .lss (.t 11) (.t 13), []⟩, ⟨some 15, none, .mv (.t 14), []⟩, ⟨some 16, some (15, true), .mv (.t 5), []⟩, ⟨some 17, some (15, true), .bo .lss (.t 16) (.c (.int .i64 2)), []⟩, ⟨some 18, none, .pk (.t 15) (.t 17) (.c (.bool false)), []⟩, ⟨some 19, none, .mv (.t 18), []⟩, ⟨some 20, some (19, true), .mv (.t 0), []⟩, ⟨some 21, some (19, true), .mv (.t 5), []⟩, ⟨some 22, some (19, true), .ix (.t 20) (.t 21), []⟩, ⟨some 23, some (19, true), .bo .geq (.t 22) (.c (.int .u8 48)), []⟩, ⟨some 24, none, .pk (.t 19) (.t 23) (.c (.bool false)), []⟩, ⟨some 25, none, .mv (.t 24), []⟩, ⟨some 26, some (25, true), .mv (.t 0), []⟩, ⟨some 27, some (25, true), .mv (.t 5), []⟩, ⟨some 28, some (25, true), .ix (.t 26) (.t 27), []⟩, ⟨some 29, some (25, true), .bo .leq (.t 28) (.c (.int .u8 57)), []⟩, ⟨some 30, none, .pk (.t 25) (.t 29) (.c (.bool false)), []⟩] [0, 2, 3, 5, 30]) (.cd (.t 30) .sk (.xt 0))) (.bl 1 (.sq (.rg none [⟨some 31, none, .mv (.t 2), []⟩, ⟨some 32, none, .bo .mul (.c (.int .i64 10)) (.t 31), []⟩, ⟨some 33, none, .mv (.t 0), []⟩, ⟨some 34, none, .mv (.t 5), []⟩, ⟨some 35, none, .ix (.t 33) (.t 34), []⟩, ⟨some 36, none, .bo .sub (.t 35) (.c (.int .u8 48)), []⟩, ⟨some 37, none, .cv .i64 (.t 36), []⟩, ⟨some 38, none, .bo .add (.t 32) (.t 37), []⟩, ⟨some 2, none, .mv (.t 38), []⟩] [0, 2, 3, 5]) (.rg none [⟨some 39, none, .mv (.t 5), []⟩, ⟨some 40, none, .bo .add (.t 39) (.c (.int .i64 1)), []⟩, ⟨some 5, none, .mv (.t 40), []⟩] [0, 2, 3, 5]))))
def b150_1 : C := (.sq (.sq (.rg none [⟨some 43, none, .mv (.t 6), []⟩, ⟨some 44, none, .mv (.t 0), []⟩, ⟨some 45, none, .ln 0 (.t 44), []⟩, ⟨some 46, none, .bo .lss (.t 43) (.t 45), []⟩, ⟨some 47, none, .mv (.t 46), []⟩, ⟨some 48, some (47, true), .mv (.t 6), []⟩, ⟨some 49, some (47, true), .mv (.t 5), []⟩, ⟨some 50, some (47, true), .bo .add (.t 49) (.c (.int .i64 18)), []⟩, ⟨some 51, some (47, true), .bo .lss (.t 48) (.t 50), []⟩, ⟨some 52, none, .pk (.t 47) (.t 51) (.c (.bool false)), []⟩] [0, 2, 3, 5, 6, 52]) (.cd (.t 52) .sk (.xt 2))) (.sq (.bl 3 (.sq (.rg none [⟨some 7, none, .mv (.c (.int .u64 0)), []⟩] [0, 2, 3, 5, 6, 7]) (.sq (.sq (.rg none [⟨some 55, none, .mv (.t 0), []⟩, ⟨some 56, none, .mv (.t 6), []⟩, ⟨some 57, none, .ix (.t 55) (.t 56), []⟩, ⟨some 8, none, .mv (.t 57), []⟩] [0, 2, 3, 5, 6, 7, 8]) (.bl 4 (.sq (.rg none [⟨some 59, none, .mv (.t 8), []⟩, ⟨some 60, none, .bo .geq (.t 59) (.c (.int .u8 48)), []⟩, ⟨some 61, none, .mv (.t 60), []⟩, ⟨some 62, some (61, true), .mv (.t 8), []⟩, ⟨some 63, some (61, true), .bo .leq (.t 62) (.c (.int .u8 57)), []⟩, ⟨some 64, none, .pk (.t 61) (.t 63) (.c (.bool false)), []⟩, ⟨some 58, none, .mv (.t 64), []⟩] [0, 2, 3, 5, 6, 7, 8, 58]) (.cd (.t 58) (.rg none [⟨some 65, none, .mv (.t 8), []⟩, ⟨some 66, none, .bo .sub (.t 65) (.c (.int .u8 48)), []⟩, ⟨some 67, none, .cv .u64 (.t 66), []⟩, ⟨some 7, none, .mv (.t 67), []⟩] [0, 2, 3, 5, 6, 7]) (.sq (.rg none [⟨some 69, none, .mv (.t 8), []⟩, ⟨some 70, none, .bo .geq (.t 69) (.c (.int .u8 97)), []⟩, ⟨some 71, none, .mv (.t 70), []⟩, ⟨some 72, some (71, true), .mv (.t 8), []⟩, ⟨some 73, some (71, true), .bo .leq (.t 72) (.c (.int .u8 102)), []⟩, ⟨some 74, none, .pk (.t 71) (.t 73) (.c (.bool false)), []⟩, ⟨some 68, none, .mv (.t 74), []⟩] [0, 2, 3, 5, 6, 7, 8, 68]) (.cd (.t 68) (.rg none [⟨some 75, none, .mv (.t 8), []⟩, ⟨some 76, none, .bo .sub (.t 75) (.c (.int .u8 97)), []⟩, ⟨some 77, none, .cv .u64 (.t 76), []⟩, ⟨some 78, none, .bo .add (.t 77) (.c (.int .u64 10)), []⟩, ⟨some 7, none, .mv (.t 78), []⟩] [0, 2, 3, 5, 6, 7]) .sk)))))) (.rg none [⟨some 79, none, .mv (.t 3), []⟩, ⟨some 80, none, .bo .shl (.t 79) (.c (.int .u64 4)), []⟩, ⟨some 81, none, .mv (.t 7), []⟩, ⟨some 82, none, .bo .or (.t 80) (.t 81), []⟩, ⟨some 3, none, .mv (.t 82), []⟩] [0, 2, 3, 5, 6])))) (.rg none [⟨some 53, none, .mv (.t 6), []⟩, ⟨some 54, none, .bo .add (.t 53) (.c (.int .i64 1)), []⟩, ⟨some 6, none, .mv (.t 54), []⟩] [0, 2, 3, 5, 6])))
def k150_2 : C := (.sq (.sq (.rg none [⟨some 84, none, .mv (.t 2), []⟩, ⟨some 85, none, .mv (.t 3), []⟩, ⟨some 86, none, .cl 107 [(.t 84), (.t 85)], []⟩, ⟨some 83, none, .mv (.t 86), []⟩, ⟨some 87, none, .ex (.t 83) 0, []⟩, ⟨some 88, none, .ex (.t 83) 1, []⟩, ⟨some 9, none, .mv (.t 87), []⟩, ⟨some 10, none, .mv (.t 88), []⟩] [0, 2, 3, 9, 10]) (.sq (.rg none [⟨some 89, none, .mv (.t 10), []⟩, ⟨some 90, none, .bo .neq (.t 89) (.c (.int .i64 0)), []⟩, ⟨some 91, none, .mv (.t 90), []⟩, ⟨some 92, some (91, false), .mv (.t 9), []⟩, ⟨some 93, some (91, false), .mv (.t 0), []⟩, ⟨some 94, some (91, false), .bo .neq (.t 92) (.t 93), []⟩, ⟨some 95, none, .pk (.t 91) (.c (.bool true)) (.t 94), []⟩] [2, 3, 95]) (.cd (.t 95) (.sq (.rg none [⟨some 2, none, .mv (.c (.int .i64 0)), []⟩, ⟨some 3, none, .mv (.c (.int .u64 0)), []⟩, ⟨some 4, none, .mv (.c (.int .i64 12)), []⟩] [2, 3, 4]) .rt) .sk))) (.sq (.rg none [⟨some 96, none, .mv (.t 2), []⟩, ⟨some 97, none, .mv (.t 3), []⟩, ⟨some 2, none, .mv (.t 96), []⟩, ⟨some 3, none, .mv (.t 97), []⟩, ⟨some 4, none, .mv (.c (.int .i64 0)), []⟩] [2, 3, 4]) .rt))
def k150_3 : C := (.sq (.sq (.rg none [⟨some 41, none, .mv (.t 5), []⟩, ⟨some 42, none, .bo .add (.t 41) (.c (.int .i64 1)), []⟩, ⟨some 6, none, .mv (.t 42), []⟩] [0, 2, 3, 5, 6]) (.bl 2 (.lp true b150_1))) k150_2)
/-- retarget/bits.Parse -/
def c150 : FI.Fn := { body := (.sq (.rg none [⟨some 2, none, .mv (.c (.int .i64 0)), []⟩, ⟨some 3, none, .mv (.c (.int .u64 0)), []⟩, ⟨some 4, none, .mv (.c (.int .i64 0)), []⟩] [0, 2, 3]) (.sq (.rg none [⟨some 5, none, .mv (.c (.int .i64 0)), []⟩] [0, 2, 3, 5]) (.sq (.bl 0 (.lp true b150_0)) k150_3))), np := 1, res := [.t 2, .t 3, .t 4], mode := .iso }
/-- strings.Cut -/
def c151 : FI.Fn := { body := (.sq (.rg none [⟨some 4, none, .mv (.c (.str [])), []⟩, ⟨some 5, none, .mv (.c (.str [])), []⟩, ⟨some 6, none, .mv (.c (.bool false)), []⟩] [0, 1]) (.sq (.rg none [⟨some 7, none, .mv (.t 0), []⟩, ⟨some 8, none, .mv (.t 1), []⟩, ⟨some 9, none, .cl 164 [(.t 7), (.t 8)], []⟩, ⟨some 10, none, .ex (.t 9) 0, []⟩, ⟨some 11, none, .ex (.t 9) 1, []⟩, ⟨some 12, none, .ex (.t 9) 2, []⟩, ⟨some 4, none, .mv (.t 10), []⟩, ⟨some 5, none, .mv (.t 11), []⟩, ⟨some 6, none, .mv (.t 12), []⟩] [4, 5, 6]) .rt)), np := 2, res := [.t 4, .t 5, .t 6], mode := .iso }
def b152_0 : C := (.sq (.sq (.rg none [⟨some 33, none, .mv (.t 8), []⟩, ⟨some 34, none, .mv (.t 0), []⟩, ⟨some 35, none, .ln 0 (.t 34), []⟩, ⟨some 36, none, .bo .lss (.t 33) (.t 35), []⟩] [0, 6, 8, 36]) (.cd (.t 36) .sk (.xt 0))) (.sq (.bl 1 (.sq (.rg none [⟨some 39, none, .mv (.t 0), []⟩, ⟨some 40, none, .mv (.t 8), []⟩, ⟨some 41, none, .ix (.t 39) (.t 40), []⟩, ⟨some 42, none, .cl 168 [(.t 6), (.t 41)], []⟩] [0, 6, 8, 42]) (.cd (.t 42) (.sq (.rg none [⟨some 43, none, .mv (.t 8), []⟩, ⟨some 4, none, .mv (.t 43), []⟩] [4]) .rt) .sk))) (.rg none [⟨some 37, none, .mv (.t 8), []⟩, ⟨some 38, none, .bo .add (.t 37) (.c (.int .i64 1)), []⟩, ⟨some 8, none, .mv (.t 38), []⟩] [0, 6, 8])))
def k152_1 : C := (.sq (.rg none [⟨some 4, none, .mv (.c (.int .i64 (-1))), []⟩] [4]) .rt)
def b152_2 : C := (.sq (.rg none [⟨some 46, none, .ns (.t 45), []⟩, ⟨some 47, none, .ex (.t 46) 0, []⟩] [1, 45, 46, 47]) (.sq (.cd (.t 47) .sk (.xt 2)) (.bl 3 (.sq (.rg none [⟨some 48, none, .ex (.t 46) 1, []⟩, ⟨some 49, none, .ex (.t 46) 2, []⟩, ⟨some 9, none, .mv (.t 48), []⟩, ⟨some 10, none, .mv (.t 49), []⟩] [1, 9, 10, 45]) (.sq (.rg none [⟨some 50, none, .mv (.t 1), []⟩, ⟨some 51, none, .mv (.t 10), []⟩, ⟨some 52, none, .cl 165 [(.t 50), (.t 51)], []⟩, ⟨some 53, none, .bo .geq (.t 52) (.c (.int .i64 0)), []⟩] [1, 9, 45, 53]) (.cd (.t 53) (.sq (.rg none [⟨some 54, none, .mv (.t 9), []⟩, ⟨some 4, none, .mv (.t 54), []⟩] [4]) .rt) .sk))))))
def k152_3 : C := (.sq (.rg none [⟨some 4, none, .mv (.c (.int .i64 (-1))), []⟩] [4]) .rt)
def k152_4 : C := (.sq (.sq (.rg none [⟨some 44, none, .mv (.t 0), []⟩, ⟨some 45, none, .rs (.t 44), []⟩] [1, 45]) (.bl 2 (.lp true b152_2))) k152_3)
/-- strings.IndexAny -/
def c152 : FI.Fn := { body := (.sq (.rg none [⟨some 4, none, .mv (.c (.int .i64 0)), []⟩] [0, 1]) (.sq (.sq (.rg none [⟨some 11, none, .mv (.t 1), []⟩, ⟨some 12, none, .bo .eql (.t 11) (.c (.str [])), []⟩] [0, 1, 12]) (.cd (.t 12) (.sq (.rg none [⟨some 4, none, .mv (.c (.int .i64 (-1))), []⟩] [4]) .rt) .sk)) (.sq (.sq (.rg none [⟨some 13, none, .mv (.t 1), []⟩, ⟨some 14, none, .ln 0 (.t 13), []⟩, ⟨some 15, none, .bo .eql (.t 14) (.c (.int .i64 1)), []⟩] [0, 1, 15]) (.cd (.t 15) (.sq (.rg none [⟨some 16, none, .mv (.t 1), []⟩, ⟨some 17, none, .ix (.t 16) (.c (.int .i64 0)), []⟩, ⟨some 18, none, .cv .i32 (.t 17), []⟩, ⟨some 5, none, .mv (.t 18), []⟩] [0, 5]) (.sq (.sq (.rg none [⟨some 19, none, .mv (.t 5), []⟩, ⟨some 20, none, .bo .geq (.t 19) (.c (.int .i32 128)), []⟩] [0, 5, 20]) (.cd (.t 20) (.rg none [⟨some 5, none, .mv (.c (.int .i32 65533)), []⟩] [0, 5]) .sk)) (.sq (.rg none [⟨some 21, none, .mv (.t 0), []⟩, ⟨some 22, none, .mv (.t 5), []⟩, ⟨some 23, none, .cl 165 [(.t 21), (.t 22)], []⟩, ⟨some 4, none, .mv (.t 23), []⟩] [4]) .rt))) .sk)) (.sq (.sq (.rg none [⟨some 24, none, .mv (.t 0), []⟩, ⟨some 25, none, .ln 0 (.t 24), []⟩, ⟨some 26, none, .cl 166 [(.t 25)], []⟩] [0, 1, 26]) (.cd (.t 26) (.sq (.rg none [⟨some 28, none, .mv (.t 1), []⟩, ⟨some 29, none, .cl 167 [(.t 28)], []⟩, ⟨some 27, none, .mv (.t 29), []⟩, ⟨some 30, none, .ex (.t 27) 0, []⟩, ⟨some 31, none, .ex (.t 27) 1, []⟩, ⟨some 6, none, .al 256 (.agg [(.bool false), (.bool false), (.bool false), (.bool false), (.bool false), (.bool false), (.bool false), (.bool false), (.bool false), (.bool false), (.bool false), (.bool false), (.bool false), (.bool false), (.bool false), (.bool false), (.bool false), (.bool false), (.bool false), (.bool false), (.bool false), (.bool false), (.bool false), (.bool false), (.bool false), (.bool false), (.bool false), (.bool false), (.bool false), (.bool false), (.bool false), (.bool false), (.bool false), (.bool false), (.bool false), (.bool false), (.bool false), (.bool false), (.bool false), (.bool false), (.bool false), (.bool false), (.bool false), (.bool false), (.bool false), (.bool false), (.bool false), (.bool false), (.bool false), (.bool false), (.bool false), (.bool false), (.bool false), (.bool false), (.bool false), (.bool false), (.bool false), (.bool false), (.bool false), (.bool false), (.bool false), (.bool false), (.bool false), (.bool false), (.bool false), (.bool false), (.bool false), (.bool false), (.bool false), (.bool false), (.bool false), (.bool false), (.bool false), (.bool false), (.bool false), (.bool false), (.bool false), (.bool false), (.bool false), (.bool false), (.bool false), (.bool false), (.bool false), (.bool false), (.bool false), (.bool false), (.bool false), (.bool false), (.bool false), (.bool false), (.bool false), (.bool false), (.bool false), (.bool false), (.bool false), (.bool false), (.bool false), (.bool false), (.bool false), (.bool false), (.bool false), (.bool false), (.bool false), (.bool false), (.bool false), (.bool false), (.bool false), (.bool false), (.bool false), (.bool false), (.bool false), (.bool false), (.bool false), (.bool false), (.bool false), (.bool false), (.bool false), (.bool false), (.bool false), (.bool false), (.bool false), (.bool false), (.bool false), (.bool false), (.bool false), (.bool false), (.bool false), (.bool false), (.bool false), (.bool false), (.bool false), (.bool false), (.bool false), (.bool false), (.bool false), (.bool false), (.bool false), (.bool false), (.bool false), (.bool false), (.bool false), (.bool false), (.bool false), (.bool false), (.bool false), (.bool false), (.bool false), (.bool false), (.bool false), (.bool false), (.bool false), (.bool false), (.bool false), (.bool false), (.bool false), (.bool false), (.bool false), (.bool false), (.bool false), (.bool false), (.bool false), (.bool false), (.bool false), (.bool false), (.bool false), (.bool false), (.bool false), (.bool false), (.bool false), (.bool false), (.bool false), (.bool false), (.bool false), (.bool false), (.bool false), (.bool false), (.bool false), (.bool false), (.bool false), (.bool false), (.bool false), (.bool false), (.bool false), (.bool false), (.bool false), (.bool false), (.bool false), (.bool false), (.bool false), (.bool false), (.bool false), (.bool false), (.bool false), (.bool false), (.bool false), (.bool false), (.bool false), (.bool false), (.bool false), (.bool false), (.bool false), (.bool false), (.bool false), (.bool false), (.bool false), (.bool false), (.bool false), (.bool false), (.bool false), (.bool false), (.bool false), (.bool false), (.bool false), (.bool false), (.bool false), (.bool false), (.bool false), (.bool false), (.bool false), (.bool false), (.bool false), (.bool false), (.bool false), (.bool false), (.bool false), (.bool false), (.bool false), (.bool false), (.bool false), (.bool false), (.bool false), (.bool false), (.bool false), (.bool false), (.bool false), (.bool false), (.bool false), (.bool false), (.bool false), (.bool false), (.bool false), (.bool false), (.bool false), (.bool false), (.bool false), (.bool false), (.bool false), (.bool false), (.bool false), (.bool false), (.bool false), (.bool false), (.bool false), (.bool false), (.bool false), (.bool false)]), []⟩, ⟨none, none, .st 256 (.t 6) (.t 30), []⟩, ⟨some 7, none, .mv (.t 31), []⟩] [0, 1, 6, 7]) (.sq (.rg none [⟨some 32, none, .mv (.t 7), []⟩] [0, 1, 6, 32]) (.cd (.t 32) (.sq (.sq (.rg none [⟨some 8, none, .mv (.c (.int .i64 0)), []⟩] [0, 6, 8]) (.bl 0 (.lp true b152_0))) k152_1) .sk))) .sk)) k152_4)))), np := 2, res := [.t 4], mode := .iso }
/-- slices.ContainsFunc[[]retarget/api.Term,retarget/api.Term] -/
def c153 : FI.Fn := { body := (.sq (.rg none [⟨some 4, none, .mv (.c (.bool false)), []⟩] [0, 1]) (.sq (.rg none [⟨some 5, none, .mv (.t 0), []⟩, ⟨some 6, none, .mv (.t 1), []⟩, ⟨some 7, none, .cl 169 [(.t 5), (.t 6)], []⟩, ⟨some 8, none, .bo .geq (.t 7) (.c (.int .i64 0)), []⟩, ⟨some 4, none, .mv (.t 8), []⟩] [4]) .rt)), np := 2, res := [.t 4], mode := .isf }
/-- retarget/term.widths$1 -/
def c154 : FI.Fn := { body := (.sq (.rg none [⟨some 2, none, .bx 6 (.t 0), []⟩, ⟨some 3, none, .mv (.c (.bool false)), []⟩] [1, 2]) (.sq (.rg none [⟨some 4, none, .fa 1 (.t 2), []⟩, ⟨some 5, none, .ld none (.t 4), []⟩, ⟨some 6, none, .ld none (.t 1), []⟩, ⟨some 7, none, .bo .neq (.t 5) (.t 6), []⟩, ⟨some 3, none, .mv (.t 7), []⟩] [3]) .rt)), np := 2, res := [.t 3], mode := .iso }
def b157_0 : C := (.bl 1 (.sq (.rg none [⟨some 13, none, .mv (.t 10), []⟩, ⟨some 14, none, .bo .mul (.c (.int .i64 2)) (.t 13), []⟩, ⟨some 15, none, .bo .add (.t 14) (.c (.int .i64 1)), []⟩, ⟨some 11, none, .mv (.t 15), []⟩] [0, 2, 3, 4, 10, 11]) (.sq (.sq (.rg none [⟨some 16, none, .mv (.t 11), []⟩, ⟨some 17, none, .mv (.t 2), []⟩, ⟨some 18, none, .bo .geq (.t 16) (.t 17), []⟩] [0, 2, 3, 4, 10, 11, 18]) (.cd (.t 18) (.xt 0) .sk)) (.sq (.sq (.rg (some [0, 1, 2, 3, 4, 5, 6, 7, 8, 9, 10, 11, 12, 13, 14, 15, 16, 17, 18, 19, 20, 21]) [⟨some 19, none, .mv (.t 11), []⟩, ⟨some 20, none, .bo .add (.t 19) (.c (.int .i64 1)), []⟩, ⟨some 21, none, .mv (.t 2), []⟩, ⟨some 22, none, .bo .lss (.t 20) (.t 21), []⟩, ⟨some 23, none, .mv (.t 22), []⟩, ⟨some 24, some (23, true), .mv (.t 4), []⟩, ⟨some 25, some (23, true), .mv (.t 0), []⟩, ⟨some 26, some (23, true), .mv (.t 3), []⟩, ⟨some 27, some (23, true), .mv (.t 11), []⟩, ⟨some 28, some (23, true), .bo .add (.t 26) (.t 27), []⟩, ⟨some 29, some (23, true), .ia 3 (.t 25) (.t 28), []⟩, ⟨some 30, some (23, true), .ld (some 3) (.t 29), []⟩, ⟨some 31, some (23, true), .mv (.t 0), []⟩, ⟨some 32, some (23, true), .mv (.t 3), []⟩, ⟨some 33, some (23, true), .mv (.t 11), []⟩, ⟨some 34, some (23, true), .bo .add (.t 32) (.t 33), []⟩, ⟨some 35, some (23, true), .bo .add (.t 34) (.c (.int .i64 1)), []⟩, ⟨some 36, some (23, true), .ia 3 (.t 31) (.t 35), []⟩, ⟨some 37, some (23, true), .ld (some 3) (.t 36), []⟩, ⟨some 38, some (23, true), .cw (.t 24) [(.t 30), (.t 37)], []⟩, ⟨some 39, some (23, true), .bo .lss (.t 38) (.c (.int .i64 0)), []⟩, ⟨some 40, none, .pk (.t 23) (.t 39) (.c (.bool false)), []⟩] [0, 2, 3, 4, 10, 11, 40]) (.cd (.t 40) (.rg none [⟨some 41, none, .mv (.t 11), []⟩, ⟨some 42, none, .bo .add (.t 41) (.c (.int .i64 1)), []⟩, ⟨some 11, none, .mv (.t 42), []⟩] [0, 2, 3, 4, 10, 11]) .sk)) (.sq (.sq (.rg (some [0, 1, 2, 3, 4, 5, 6, 7, 8, 9, 10, 11, 12, 13, 14, 15]) [⟨some 43, none, .mv (.t 4), []⟩, ⟨some 44, none, .mv (.t 0), []⟩, ⟨some 45, none, .mv (.t 3), []⟩, ⟨some 46, none, .mv (.t 10), []⟩, ⟨some 47, none, .bo .add (.t 45) (.t 46), []⟩, ⟨some 48, none, .ia 3 (.t 44) (.t 47), []⟩, ⟨some 49, none, .ld (some 3) (.t 48), []⟩, ⟨some 50, none, .mv (.t 0), []⟩, ⟨some 51, none, .mv (.t 3), []⟩, ⟨some 52, none, .mv (.t 11), []⟩, ⟨some 53, none, .bo .add (.t 51) (.t 52), []⟩, ⟨some 54, none, .ia 3 (.t 50) (.t 53), []⟩, ⟨some 55, none, .ld (some 3) (.t 54), []⟩, ⟨some 56, none, .cw (.t 43) [(.t 49), (.t 55)], []⟩, ⟨some 57, none, .bo .lss (.t 56) (.c (.int .i64 0)), []⟩, ⟨some 58, none, .un .not (.t 57), []⟩] [0, 2, 3, 4, 10, 11, 58]) (.cd (.t 58) .rt .sk)) (.sq (.rg (some [0, 1, 2, 3, 4, 5, 6, 7, 8, 9, 10, 11, 12, 13, 14, 15, 16, 17, 18, 19, 20, 21, 22, 23]) [⟨some 59, none, .mv (.t 0), []⟩, ⟨some 60, none, .mv (.t 3), []⟩, ⟨some 61, none, .mv (.t 10), []⟩, ⟨some 62, none, .bo .add (.t 60) (.t 61), []⟩, ⟨some 63, none, .mv (.t 0), []⟩, ⟨some 64, none, .mv (.t 3), []⟩, ⟨some 65, none, .mv (.t 11), []⟩, ⟨some 66, none, .bo .add (.t 64) (.t 65), []⟩, ⟨some 67, none, .mv (.t 0), []⟩, ⟨some 68, none, .mv (.t 3), []⟩, ⟨some 69, none, .mv (.t 11), []⟩, ⟨some 70, none, .bo .add (.t 68) (.t 69), []⟩, ⟨some 71, none, .ia 3 (.t 67) (.t 70), []⟩, ⟨some 72, none, .ld (some 3) (.t 71), []⟩, ⟨some 73, none, .mv (.t 0), []⟩, ⟨some 74, none, .mv (.t 3), []⟩, ⟨some 75, none, .mv (.t 10), []⟩, ⟨some 76, none, .bo .add (.t 74) (.t 75), []⟩, ⟨some 77, none, .ia 3 (.t 73) (.t 76), []⟩, ⟨some 78, none, .ld (some 3) (.t 77), []⟩, ⟨some 79, none, .ia 3 (.t 59) (.t 62), []⟩, ⟨none, none, .st 3 (.t 79) (.t 72), []⟩, ⟨some 80, none, .ia 3 (.t 63) (.t 66), []⟩, ⟨none, none, .st 3 (.t 80) (.t 78), []⟩] [0, 2, 3, 4, 11]) (.rg none [⟨some 81, none, .mv (.t 11), []⟩, ⟨some 10, none, .mv (.t 81), []⟩] [0, 2, 3, 4, 10])))))))
/-- slices.siftDownCmpFunc[retarget/api.Binding] -/
def c157 : FI.Fn := { body := (.sq (.rg none [⟨some 12, none, .mv (.t 1), []⟩, ⟨some 10, none, .mv (.t 12), []⟩] [0, 2, 3, 4, 10]) (.bl 0 (.lp true b157_0))), np := 5, res := [], mode := .shr }
/-- slices.nextPowerOfTwo -/
def c158 : FI.Fn := { body := (.sq (.rg none [⟨some 2, none, .mv (.c (.int .u64 0)), []⟩] [0]) (.sq (.rg none [⟨some 3, none, .mv (.t 0), []⟩, ⟨some 4, none, .cv .u64 (.t 3), []⟩, ⟨some 5, none, .cl 106 [(.t 4)], []⟩, ⟨some 6, none, .bo .shl (.c (.int .u64 1)) (.t 5), []⟩, ⟨some 2, none, .mv (.t 6), []⟩] [2]) .rt)), np := 1, res := [.t 2], mode := .iso }
/-- (*slices.xorshift).Next -/
def c159 : FI.Fn := { body := (.sq (.rg none [⟨some 2, none, .mv (.c (.int .u64 0)), []⟩] [0]) (.sq (.rg (some [0, 1, 2, 3, 4, 5, 6, 7, 8, 9]) [⟨some 3, none, .mv (.t 0), []⟩, ⟨some 4, none, .nc (.t 3), []⟩, ⟨some 5, none, .ld none (.t 4), []⟩, ⟨some 6, none, .mv (.t 0), []⟩, ⟨some 7, none, .nc (.t 6), []⟩, ⟨some 8, none, .ld none (.t 7), []⟩, ⟨some 9, none, .bo .shl (.t 8) (.c (.int .u64 13)), []⟩, ⟨some 10, none, .bo .xor (.t 5) (.t 9), []⟩, ⟨some 11, none, .nc (.t 3), []⟩, ⟨none, none, .st 1 (.t 11) (.t 10), []⟩] [0]) (.sq (.rg (some [0, 1, 2, 3, 4, 5, 6, 7, 8, 9]) [⟨some 12, none, .mv (.t 0), []⟩, ⟨some 13, none, .nc (.t 12), []⟩, ⟨some 14, none, .ld none (.t 13), []⟩, ⟨some 15, none, .mv (.t 0), []⟩, ⟨some 16, none, .nc (.t 15), []⟩, ⟨some 17, none, .ld none (.t 16), []⟩, ⟨some 18, none, .bo .shr (.t 17) (.c (.int .u64 7)), []⟩, ⟨some 19, none, .bo .xor (.t 14) (.t 18), []⟩, ⟨some 20, none, .nc (.t 12), []⟩, ⟨none, none, .st 1 (.t 20) (.t 19), []⟩] [0]) (.sq (.rg (some [0, 1, 2, 3, 4, 5, 6, 7, 8, 9]) [⟨some 21, none, .mv (.t 0), []⟩, ⟨some 22, none, .nc (.t 21), []⟩, ⟨some 23, none, .ld none (.t 22), []⟩, ⟨some 24, none, .mv (.t 0), []⟩, ⟨some 25, none, .nc (.t 24), []⟩, ⟨some 26, none, .ld none (.t 25), []⟩, ⟨some 27, none, .bo .shl (.t 26) (.c (.int .u64 17)), []⟩, ⟨some 28, none, .bo .xor (.t 23) (.t 27), []⟩, ⟨some 29, none, .nc (.t 21), []⟩, ⟨none, none, .st 1 (.t 29) (.t 28), []⟩] [0]) (.sq (.rg none [⟨some 30, none, .mv (.t 0), []⟩, ⟨some 31, none, .nc (.t 30), []⟩, ⟨some 32, none, .ld none (.t 31), []⟩, ⟨some 2, none, .mv (.t 32), []⟩] [2]) .rt))))), np := 1, res := [.t 2], mode := .shr }
/-- slices.medianAdjacentCmpFunc[retarget/api.Binding] -/
def c160 : FI.Fn := { body := (.sq (.rg none [⟨some 8, none, .mv (.c (.int .i64 0)), []⟩] [0, 1, 2, 3]) (.sq (.rg none [⟨some 9, none, .mv (.t 0), []⟩, ⟨some 10, none, .mv (.t 1), []⟩, ⟨some 11, none, .bo .sub (.t 10) (.c (.int .i64 1)), []⟩, ⟨some 12, none, .mv (.t 1), []⟩, ⟨some 13, none, .mv (.t 1), []⟩, ⟨some 14, none, .bo .add (.t 13) (.c (.int .i64 1)), []⟩, ⟨some 15, none, .mv (.t 2), []⟩, ⟨some 16, none, .mv (.t 3), []⟩, ⟨some 17, none, .cl 161 [(.t 9), (.t 11), (.t 12), (.t 14), (.t 15), (.t 16)], []⟩, ⟨some 8, none, .mv (.t 17), []⟩] [8]) .rt)), np := 4, res := [.t 8], mode := .shr }
/-- slices.medianCmpFunc[retarget/api.Binding] -/
def c161 : FI.Fn := { body := (.sq (.rg none [⟨some 12, none, .mv (.c (.int .i64 0)), []⟩] [0, 1, 2, 3, 4, 5]) (.sq (.rg none [⟨some 14, none, .mv (.t 0), []⟩, ⟨some 15, none, .mv (.t 1), []⟩, ⟨some 16, none, .mv (.t 2), []⟩, ⟨some 17, none, .mv (.t 4), []⟩, ⟨some 18, none, .mv (.t 5), []⟩, ⟨some 19, none, .cl 170 [(.t 14), (.t 15), (.t 16), (.t 17), (.t 18)], []⟩, ⟨some 13, none, .mv (.t 19), []⟩, ⟨some 20, none, .ex (.t 13) 0, []⟩, ⟨some 21, none, .ex (.t 13) 1, []⟩, ⟨some 1, none, .mv (.t 20), []⟩, ⟨some 2, none, .mv (.t 21), []⟩] [0, 1, 2, 3, 4, 5]) (.sq (.rg none [⟨some 23, none, .mv (.t 0), []⟩, ⟨some 24, none, .mv (.t 2), []⟩, ⟨some 25, none, .mv (.t 3), []⟩, ⟨some 26, none, .mv (.t 4), []⟩, ⟨some 27, none, .mv (.t 5), []⟩, ⟨some 28, none, .cl 170 [(.t 23), (.t 24), (.t 25), (.t 26), (.t 27)], []⟩, ⟨some 22, none, .mv (.t 28), []⟩, ⟨some 29, none, .ex (.t 22) 0, []⟩, ⟨some 30, none, .ex (.t 22) 1, []⟩, ⟨some 2, none, .mv (.t 29), []⟩, ⟨some 3, none, .mv (.t 30), []⟩] [0, 1, 2, 4, 5]) (.sq (.rg none [⟨some 32, none, .mv (.t 0), []⟩, ⟨some 33, none, .mv (.t 1), []⟩, ⟨some 34, none, .mv (.t 2), []⟩, ⟨some 35, none, .mv (.t 4), []⟩, ⟨some 36, none, .mv (.t 5), []⟩, ⟨some 37, none, .cl 170 [(.t 32), (.t 33), (.t 34), (.t 35), (.t 36)], []⟩, ⟨some 31, none, .mv (.t 37), []⟩, ⟨some 38, none, .ex (.t 31) 0, []⟩, ⟨some 39, none, .ex (.t 31) 1, []⟩, ⟨some 1, none, .mv (.t 38), []⟩, ⟨some 2, none, .mv (.t 39), []⟩] [2]) (.sq (.rg none [⟨some 40, none, .mv (.t 2), []⟩, ⟨some 12, none, .mv (.t 40), []⟩] [12]) .rt))))), np := 6, res := [.t 12], mode := .shr }
/-- internal/stringslite.Cut -/
def c164 : FI.Fn := { body := (.sq (.rg none [⟨some 4, none, .mv (.c (.str [])), []⟩, ⟨some 5, none, .mv (.c (.str [])), []⟩, ⟨some 6, none, .mv (.c (.bool false)), []⟩] [0, 1]) (.sq (.sq (.rg none [⟨some 8, none, .mv (.t 0), []⟩, ⟨some 9, none, .mv (.t 1), []⟩, ⟨some 10, none, .cl 173 [(.t 8), (.t 9)], []⟩, ⟨some 7, none, .mv (.t 10), []⟩] [0, 1, 7]) (.sq (.rg none [⟨some 11, none, .mv (.t 7), []⟩, ⟨some 12, none, .bo .geq (.t 11) (.c (.int .i64 0)), []⟩] [0, 1, 7, 12]) (.cd (.t 12) (.sq (.rg (some [0, 1, 2, 3, 4, 5, 6, 7, 8, 9, 10, 11]) [⟨some 13, none, .mv (.t 0), []⟩, ⟨some 14, none, .mv (.t 7), []⟩, ⟨some 15, none, .sl 0 (.t 13) none (some (.t 14)), []⟩, ⟨some 16, none, .mv (.t 0), []⟩, ⟨some 17, none, .mv (.t 7), []⟩, ⟨some 18, none, .mv (.t 1), []⟩, ⟨some 19, none, .ln 0 (.t 18), []⟩, ⟨some 20, none, .bo .add (.t 17) (.t 19), []⟩, ⟨some 21, none, .sl 0 (.t 16) (some (.t 20)) none, []⟩, ⟨some 4, none, .mv (.t 15), []⟩, ⟨some 5, none, .mv (.t 21), []⟩, ⟨some 6, none, .mv (.c (.bool true)), []⟩] [4, 5, 6]) .rt) .sk))) (.sq (.rg none [⟨some 22, none, .mv (.t 0), []⟩, ⟨some 4, none, .mv (.t 22), []⟩, ⟨some 5, none, .mv (.c (.str [])), []⟩, ⟨some 6, none, .mv (.c (.bool false)), []⟩] [4, 5, 6]) .rt))), np := 2, res := [.t 4, .t 5, .t 6], mode := .iso }
def b165_0 : C := (.sq (.rg none [⟨some 176, none, .ns (.t 175), []⟩, ⟨some 177, none, .ex (.t 176) 0, []⟩] [175, 176, 177]) (.sq (.cd (.t 177) .sk (.xt 9)) (.bl 10 (.sq (.rg none [⟨some 178, none, .ex (.t 176) 1, []⟩, ⟨some 179, none, .ex (.t 176) 2, []⟩, ⟨some 5, none, .mv (.t 178), []⟩, ⟨some 6, none, .mv (.t 179), []⟩] [5, 6, 175]) (.sq (.rg none [⟨some 180, none, .mv (.t 6), []⟩, ⟨some 181, none, .bo .eql (.t 180) (.c (.int .i32 65533)), []⟩] [5, 175, 181]) (.cd (.t 181) (.sq (.rg none [⟨some 182, none, .mv (.t 5), []⟩, ⟨some 4, none, .mv (.t 182), []⟩] [4]) .rt) .sk))))))
def k165_1 : C := (.sq (.rg none [⟨some 4, none, .mv (.c (.int .i64 (-1))), []⟩] [4]) .rt)
def b165_2 : C := (.sq (.sq (.rg none [⟨some 48, none, .mv (.t 12), []⟩, ⟨some 49, none, .mv (.t 7), []⟩, ⟨some 50, none, .ln 0 (.t 49), []⟩, ⟨some 51, none, .bo .lss (.t 48) (.t 50), []⟩] [0, 1, 7, 8, 9, 10, 12, 51]) (.cd (.t 51) .sk (.xt 3))) (.sq (.bl 4 (.sq (.rg (some [0, 1, 2, 3, 4, 5, 6, 7, 8, 9, 10]) [⟨some 54, none, .mv (.t 0), []⟩, ⟨some 55, none, .mv (.t 9), []⟩, ⟨some 56, none, .mv (.t 12), []⟩, ⟨some 57, none, .bo .sub (.t 55) (.t 56), []⟩, ⟨some 58, none, .ix (.t 54) (.t 57), []⟩, ⟨some 59, none, .mv (.t 7), []⟩, ⟨some 60, none, .mv (.t 8), []⟩, ⟨some 61, none, .mv (.t 12), []⟩, ⟨some 62, none, .bo .sub (.t 60) (.t 61), []⟩, ⟨some 63, none, .ix (.t 59) (.t 62), []⟩, ⟨some 64, none, .bo .neq (.t 58) (.t 63), []⟩] [0, 1, 7, 8, 9, 10, 12, 64]) (.cd (.t 64) (.go 0) .sk))) (.rg none [⟨some 52, none, .mv (.t 12), []⟩, ⟨some 53, none, .bo .add (.t 52) (.c (.int .i64 1)), []⟩, ⟨some 12, none, .mv (.t 53), []⟩] [0, 1, 7, 8, 9, 10, 12])))
def k165_3 : C := (.sq (.sq (.rg none [⟨some 65, none, .mv (.t 9), []⟩, ⟨some 66, none, .mv (.t 8), []⟩, ⟨some 67, none, .bo .sub (.t 65) (.t 66), []⟩, ⟨some 4, none, .mv (.t 67), []⟩] [4]) .rt) (.sq (.lb 0) (.sq (.rg none [⟨some 68, none, .mv (.t 10), []⟩, ⟨some 69, none, .bo .add (.t 68) (.c (.int .i64 1)), []⟩, ⟨some 10, none, .mv (.t 69), []⟩] [0, 1, 7, 8, 9, 10]) (.sq (.rg none [⟨some 70, none, .mv (.t 9), []⟩, ⟨some 71, none, .bo .add (.t 70) (.c (.int .i64 1)), []⟩, ⟨some 9, none, .mv (.t 71), []⟩] [0, 1, 7, 8, 9, 10]) (.sq (.rg none [⟨some 72, none, .mv (.c (.bool true)), []⟩, ⟨some 73, some (72, true), .mv (.t 10), []⟩, ⟨some 74, some (72, true), .mv (.t 9), []⟩, ⟨some 75, some (72, true), .cl 176 [(.t 74)], []⟩, ⟨some 76, some (72, true), .bo .gtr (.t 73) (.t 75), []⟩, ⟨some 77, none, .pk (.t 72) (.t 76) (.c (.bool false)), []⟩, ⟨some 78, none, .mv (.t 77), []⟩, ⟨some 79, some (78, true), .mv (.t 9), []⟩, ⟨some 80, some (78, true), .mv (.t 0), []⟩, ⟨some 81, some (78, true), .ln 0 (.t 80), []⟩, ⟨some 82, some (78, true), .bo .lss (.t 79) (.t 81), []⟩, ⟨some 83, none, .pk (.t 78) (.t 82) (.c (.bool false)), []⟩, ⟨some 84, none, .mv (.t 83), []⟩, ⟨some 85, some (84, false), .mv (.c (.bool false)), []⟩, ⟨some 86, some (85, true), .mv (.t 10), []⟩, ⟨some 87, some (85, true), .mv (.t 9), []⟩, ⟨some 88, some (85, true), .bo .shr (.t 87) (.c (.int .u64 4)), []⟩, ⟨some 89, some (85, true), .bo .add (.c (.int .i64 4)) (.t 88), []⟩, ⟨some 90, some (85, true), .bo .geq (.t 86) (.t 89), []⟩, ⟨some 91, some (84, false), .pk (.t 85) (.t 90) (.c (.bool false)), []⟩, ⟨some 92, some (84, false), .mv (.t 91), []⟩, ⟨some 93, some (92, true), .mv (.t 9), []⟩, ⟨some 94, some (92, true), .mv (.t 0), []⟩, ⟨some 95, some (92, true), .ln 0 (.t 94), []⟩, ⟨some 96, some (92, true), .bo .lss (.t 93) (.t 95), []⟩, ⟨some 97, some (84, false), .pk (.t 92) (.t 96) (.c (.bool false)), []⟩, ⟨some 98, none, .pk (.t 84) (.c (.bool true)) (.t 97), []⟩] [0, 1, 7, 8, 9, 10, 98]) (.cd (.t 98) (.go 1) .sk))))))
def b165_4 : C := (.sq (.sq (.rg (some [0, 1, 2, 3, 4, 5, 6]) [⟨some 27, none, .mv (.t 0), []⟩, ⟨some 28, none, .mv (.t 9), []⟩, ⟨some 29, none, .ix (.t 27) (.t 28), []⟩, ⟨some 30, none, .mv (.t 7), []⟩, ⟨some 31, none, .mv (.t 8), []⟩, ⟨some 32, none, .ix (.t 30) (.t 31), []⟩, ⟨some 33, none, .bo .neq (.t 29) (.t 32), []⟩] [0, 1, 7, 8, 9, 10, 33]) (.cd (.t 33) (.sq (.rg (some [0, 1, 2, 3, 4, 5, 6, 7, 8]) [⟨some 34, none, .mv (.t 0), []⟩, ⟨some 35, none, .mv (.t 9), []⟩, ⟨some 36, none, .bo .add (.t 35) (.c (.int .i64 1)), []⟩, ⟨some 37, none, .sl 0 (.t 34) (some (.t 36)) none, []⟩, ⟨some 38, none, .mv (.t 7), []⟩, ⟨some 39, none, .mv (.t 8), []⟩, ⟨some 40, none, .ix (.t 38) (.t 39), []⟩, ⟨some 41, none, .cl 174 [(.t 37), (.t 40)], []⟩, ⟨some 11, none, .mv (.t 41), []⟩] [0, 1, 7, 8, 9, 10, 11]) (.sq (.sq (.rg none [⟨some 42, none, .mv (.t 11), []⟩, ⟨some 43, none, .bo .lss (.t 42) (.c (.int .i64 0)), []⟩] [0, 1, 7, 8, 9, 10, 11, 43]) (.cd (.t 43) (.sq (.rg none [⟨some 4, none, .mv (.c (.int .i64 (-1))), []⟩] [4]) .rt) .sk)) (.rg none [⟨some 44, none, .mv (.t 9), []⟩, ⟨some 45, none, .mv (.t 11), []⟩, ⟨some 46, none, .bo .add (.t 45) (.c (.int .i64 1)), []⟩, ⟨some 47, none, .bo .add (.t 44) (.t 46), []⟩, ⟨some 9, none, .mv (.t 47), []⟩] [0, 1, 7, 8, 9, 10]))) .sk)) (.sq (.sq (.rg none [⟨some 12, none, .mv (.c (.int .i64 1)), []⟩] [0, 1, 7, 8, 9, 10, 12]) (.bl 3 (.lp true b165_2))) k165_3))
def b165_5 : C := (.sq (.sq (.rg none [⟨some 23, none, .mv (.t 9), []⟩, ⟨some 24, none, .mv (.t 0), []⟩, ⟨some 25, none, .ln 0 (.t 24), []⟩, ⟨some 26, none, .bo .lss (.t 23) (.t 25), []⟩] [0, 1, 7, 8, 9, 10, 26]) (.cd (.t 26) .sk (.xt 1))) (.bl 2 (.sc b165_4)))
def b165_6 : C := (.sq (.sq (.rg none [⟨some 140, none, .mv (.t 16), []⟩, ⟨some 141, none, .mv (.t 7), []⟩, ⟨some 142, none, .ln 0 (.t 141), []⟩, ⟨some 143, none, .bo .lss (.t 140) (.t 142), []⟩] [0, 7, 8, 9, 14, 15, 16, 143]) (.cd (.t 143) .sk (.xt 7))) (.sq (.bl 8 (.sq (.rg (some [0, 1, 2, 3, 4, 5, 6, 7, 8, 9, 10]) [⟨some 146, none, .mv (.t 0), []⟩, ⟨some 147, none, .mv (.t 9), []⟩, ⟨some 148, none, .mv (.t 16), []⟩, ⟨some 149, none, .bo .sub (.t 147) (.t 148), []⟩, ⟨some 150, none, .ix (.t 146) (.t 149), []⟩, ⟨some 151, none, .mv (.t 7), []⟩, ⟨some 152, none, .mv (.t 8), []⟩, ⟨some 153, none, .mv (.t 16), []⟩, ⟨some 154, none, .bo .sub (.t 152) (.t 153), []⟩, ⟨some 155, none, .ix (.t 151) (.t 154), []⟩, ⟨some 156, none, .bo .neq (.t 150) (.t 155), []⟩] [0, 7, 8, 9, 14, 15, 16, 156]) (.cd (.t 156) (.xt 6) .sk))) (.rg none [⟨some 144, none, .mv (.t 16), []⟩, ⟨some 145, none, .bo .add (.t 144) (.c (.int .i64 1)), []⟩, ⟨some 16, none, .mv (.t 145), []⟩] [0, 7, 8, 9, 14, 15, 16])))
def k165_7 : C := (.sq (.rg none [⟨some 157, none, .mv (.t 9), []⟩, ⟨some 158, none, .mv (.t 8), []⟩, ⟨some 159, none, .bo .sub (.t 157) (.t 158), []⟩, ⟨some 4, none, .mv (.t 159), []⟩] [4]) .rt)
def k165_8 : C := (.rg none [⟨some 125, none, .mv (.t 9), []⟩, ⟨some 126, none, .bo .add (.t 125) (.c (.int .i64 1)), []⟩, ⟨some 9, none, .mv (.t 126), []⟩] [0, 7, 8, 9, 14, 15])
def b165_9 : C := (.sq (.sq (.rg none [⟨some 121, none, .mv (.t 9), []⟩, ⟨some 122, none, .mv (.t 0), []⟩, ⟨some 123, none, .ln 0 (.t 122), []⟩, ⟨some 124, none, .bo .lss (.t 121) (.t 123), []⟩] [0, 7, 8, 9, 14, 15, 124]) (.cd (.t 124) .sk (.xt 5))) (.sq (.bl 6 (.sq (.rg none [⟨some 127, none, .mv (.t 0), []⟩, ⟨some 128, none, .mv (.t 9), []⟩, ⟨some 129, none, .ix (.t 127) (.t 128), []⟩, ⟨some 130, none, .mv (.t 14), []⟩, ⟨some 131, none, .bo .eql (.t 129) (.t 130), []⟩, ⟨some 132, none, .mv (.t 131), []⟩, ⟨some 133, some (132, true), .mv (.t 0), []⟩, ⟨some 134, some (132, true), .mv (.t 9), []⟩, ⟨some 135, some (132, true), .bo .sub (.t 134) (.c (.int .i64 1)), []⟩, ⟨some 136, some (132, true), .ix (.t 133) (.t 135), []⟩, ⟨some 137, some (132, true), .mv (.t 15), []⟩, ⟨some 138, some (132, true), .bo .eql (.t 136) (.t 137), []⟩, ⟨some 139, none, .pk (.t 132) (.t 138) (.c (.bool false)), []⟩] [0, 7, 8, 9, 14, 15, 139]) (.cd (.t 139) (.sq (.sq (.rg none [⟨some 16, none, .mv (.c (.int .i64 2)), []⟩] [0, 7, 8, 9, 14, 15, 16]) (.bl 7 (.lp true b165_6))) k165_7) .sk))) k165_8))
def b165_10 : C := (.sq (.rg none [⟨some 114, none, .mv (.t 7), []⟩, ⟨some 115, none, .mv (.t 8), []⟩, ⟨some 116, none, .ix (.t 114) (.t 115), []⟩, ⟨some 14, none, .mv (.t 116), []⟩] [0, 7, 8, 9, 14]) (.sq (.rg none [⟨some 117, none, .mv (.t 7), []⟩, ⟨some 118, none, .mv (.t 8), []⟩, ⟨some 119, none, .bo .sub (.t 118) (.c (.int .i64 1)), []⟩, ⟨some 120, none, .ix (.t 117) (.t 119), []⟩, ⟨some 15, none, .mv (.t 120), []⟩] [0, 7, 8, 9, 14, 15]) (.sq (.lb 2) (.bl 5 (.lp true b165_9)))))
def k165_11 : C := (.sq (.rg none [⟨some 4, none, .mv (.c (.int .i64 (-1))), []⟩] [4]) .rt)
def k165_12 : C := (.sq (.sq (.rg none [⟨some 4, none, .mv (.c (.int .i64 (-1))), []⟩] [4]) .rt) (.sq (.lb 1) (.sq (.cd (.c (.bool true)) (.sq (.rg none [⟨some 99, none, .mv (.t 0), []⟩, ⟨some 100, none, .mv (.t 9), []⟩, ⟨some 101, none, .mv (.t 8), []⟩, ⟨some 102, none, .bo .sub (.t 100) (.t 101), []⟩, ⟨some 103, none, .sl 0 (.t 99) (some (.t 102)) none, []⟩, ⟨some 104, none, .mv (.t 1), []⟩, ⟨some 105, none, .bad, []⟩, ⟨some 106, none, .bad, []⟩, ⟨some 13, none, .mv (.t 106), []⟩] [8, 9, 13]) (.sq (.rg none [⟨some 107, none, .mv (.t 13), []⟩, ⟨some 108, none, .bo .geq (.t 107) (.c (.int .i64 0)), []⟩] [8, 9, 13, 108]) (.cd (.t 108) (.sq (.rg none [⟨some 109, none, .mv (.t 9), []⟩, ⟨some 110, none, .mv (.t 13), []⟩, ⟨some 111, none, .bo .add (.t 109) (.t 110), []⟩, ⟨some 112, none, .mv (.t 8), []⟩, ⟨some 113, none, .bo .sub (.t 111) (.t 112), []⟩, ⟨some 4, none, .mv (.t 113), []⟩] [4]) .rt) .sk))) (.sc b165_10)) k165_11)))
def b165_13 : C := (.sq (.rg none [⟨some 17, none, .mv (.t 1), []⟩, ⟨some 18, none, .bad, []⟩, ⟨some 7, none, .mv (.t 18), []⟩] [0, 1, 7]) (.sq (.rg none [⟨some 19, none, .mv (.t 7), []⟩, ⟨some 20, none, .ln 0 (.t 19), []⟩, ⟨some 21, none, .bo .sub (.t 20) (.c (.int .i64 1)), []⟩, ⟨some 8, none, .mv (.t 21), []⟩] [0, 1, 7, 8]) (.sq (.rg none [⟨some 22, none, .mv (.t 8), []⟩, ⟨some 9, none, .mv (.t 22), []⟩] [0, 1, 7, 8, 9]) (.sq (.rg none [⟨some 10, none, .mv (.c (.int .i64 0)), []⟩] [0, 1, 7, 8, 9, 10]) (.sq (.bl 1 (.lp true b165_5)) k165_12)))))
/-- strings.IndexRune -/
def c165 : FI.Fn := { body := (.sq (.rg none [⟨some 4, none, .mv (.c (.int .i64 0)), []⟩] [0, 1]) (.bl 0 (.sq (.rg none [⟨some 161, none, .mv (.t 1), []⟩, ⟨some 162, none, .bo .leq (.c (.int .i32 0)) (.t 161), []⟩, ⟨some 163, none, .mv (.t 162), []⟩, ⟨some 164, some (163, true), .mv (.t 1), []⟩, ⟨some 165, some (163, true), .bo .lss (.t 164) (.c (.int .i32 128)), []⟩, ⟨some 166, none, .pk (.t 163) (.t 165) (.c (.bool false)), []⟩, ⟨some 160, none, .mv (.t 166), []⟩] [0, 1, 160]) (.cd (.t 160) (.sq (.rg none [⟨some 167, none, .mv (.t 0), []⟩, ⟨some 168, none, .mv (.t 1), []⟩, ⟨some 169, none, .cv .u8 (.t 168), []⟩, ⟨some 170, none, .cl 174 [(.t 167), (.t 169)], []⟩, ⟨some 4, none, .mv (.t 170), []⟩] [4]) .rt) (.sq (.rg none [⟨some 172, none, .mv (.t 1), []⟩, ⟨some 173, none, .bo .eql (.t 172) (.c (.int .i32 65533)), []⟩, ⟨some 171, none, .mv (.t 173), []⟩] [0, 1, 171]) (.cd (.t 171) (.sq (.sq (.rg none [⟨some 174, none, .mv (.t 0), []⟩, ⟨some 175, none, .rs (.t 174), []⟩] [175]) (.bl 9 (.lp true b165_0))) k165_1) (.sq (.rg none [⟨some 184, none, .mv (.t 1), []⟩, ⟨some 185, none, .cl 175 [(.t 184)], []⟩, ⟨some 186, none, .un .not (.t 185), []⟩, ⟨some 183, none, .mv (.t 186), []⟩] [0, 1, 183]) (.cd (.t 183) (.sq (.rg none [⟨some 4, none, .mv (.c (.int .i64 (-1))), []⟩] [4]) .rt) (.sc b165_13))))))))), np := 2, res := [.t 4], mode := .iso }
/-- strings.shouldUseASCIISet -/
def c166 : FI.Fn := { body := (.sq (.rg none [⟨some 2, none, .mv (.c (.bool false)), []⟩] [0]) (.sq (.rg none [⟨some 3, none, .mv (.t 0), []⟩, ⟨some 4, none, .bo .gtr (.t 3) (.c (.int .i64 8)), []⟩, ⟨some 2, none, .mv (.t 4), []⟩] [2]) .rt)), np := 1, res := [.t 2], mode := .iso }
def b167_0 : C := (.sq (.sq (.rg none [⟨some 6, none, .mv (.t 4), []⟩, ⟨some 7, none, .mv (.t 0), []⟩, ⟨some 8, none, .ln 0 (.t 7), []⟩, ⟨some 9, none, .bo .lss (.t 6) (.t 8), []⟩] [0, 2, 4, 9]) (.cd (.t 9) .sk (.xt 0))) (.sq (.bl 1 (.sq (.rg none [⟨some 12, none, .mv (.t 0), []⟩, ⟨some 13, none, .mv (.t 4), []⟩, ⟨some 14, none, .ix (.t 12) (.t 13), []⟩, ⟨some 5, none, .mv (.t 14), []⟩] [0, 2, 4, 5]) (.sq (.sq (.rg none [⟨some 15, none, .mv (.t 5), []⟩, ⟨some 16, none, .bo .geq (.t 15) (.c (.int .u8 128)), []⟩] [0, 2, 4, 5, 16]) (.cd (.t 16) (.sq (.rg none [⟨some 17, none, .ld (some 256) (.t 2), []⟩, ⟨none, none, .st 256 (.t 2) (.t 17), []⟩, ⟨some 3, none, .mv (.c (.bool false)), []⟩] [2, 3]) .rt) .sk)) (.rg none [⟨some 18, none, .mv (.t 5), []⟩, ⟨some 19, none, .aa 256 1 (.t 2) (.t 18), []⟩, ⟨none, none, .st 1 (.t 19) (.c (.bool true)), []⟩] [0, 2, 4])))) (.rg none [⟨some 10, none, .mv (.t 4), []⟩, ⟨some 11, none, .bo .add (.t 10) (.c (.int .i64 1)), []⟩, ⟨some 4, none, .mv (.t 11), []⟩] [0, 2, 4])))
def k167_1 : C := (.sq (.rg none [⟨some 20, none, .ld (some 256) (.t 2), []⟩, ⟨none, none, .st 256 (.t 2) (.t 20), []⟩, ⟨some 3, none, .mv (.c (.bool true)), []⟩] [2, 3]) .rt)
/-- strings.makeASCIISet -/
def c167 : FI.Fn := { body := (.sq (.rg none [⟨some 2, none, .al 256 (.agg [(.bool false), (.bool false), (.bool false), (.bool false), (.bool false), (.bool false), (.bool false), (.bool false), (.bool false), (.bool false), (.bool false), (.bool false), (.bool false), (.bool false), (.bool false), (.bool false), (.bool false), (.bool false), (.bool false), (.bool false), (.bool false), (.bool false), (.bool false), (.bool false), (.bool false), (.bool false), (.bool false), (.bool false), (.bool false), (.bool false), (.bool false), (.bool false), (.bool false), (.bool false), (.bool false), (.bool false), (.bool false), (.bool false), (.bool false), (.bool false), (.bool false), (.bool false), (.bool false), (.bool false), (.bool false), (.bool false), (.bool false), (.bool false), (.bool false), (.bool false), (.bool false), (.bool false), (.bool false), (.bool false), (.bool false), (.bool false), (.bool false), (.bool false), (.bool false), (.bool false), (.bool false), (.bool false), (.bool false), (.bool false), (.bool false), (.bool false), (.bool false), (.bool false), (.bool false), (.bool false), (.bool false), (.bool false), (.bool false), (.bool false), (.bool false), (.bool false), (.bool false), (.bool false), (.bool false), (.bool false), (.bool false), (.bool false), (.bool false), (.bool false), (.bool false), (.bool false), (.bool false), (.bool false), (.bool false), (.bool false), (.bool false), (.bool false), (.bool false), (.bool false), (.bool false), (.bool false), (.bool false), (.bool false), (.bool false), (.bool false), (.bool false), (.bool false), (.bool false), (.bool false), (.bool false), (.bool false), (.bool false), (.bool false), (.bool false), (.bool false), (.bool false), (.bool false), (.bool false), (.bool false), (.bool false), (.bool false), (.bool false), (.bool false), (.bool false), (.bool false), (.bool false), (.bool false), (.bool false), (.bool false), (.bool false), (.bool false), (.bool false), (.bool false), (.bool false), (.bool false), (.bool false), (.bool false), (.bool false), (.bool false), (.bool false), (.bool false), (.bool false), (.bool false), (.bool false), (.bool false), (.bool false), (.bool false), (.bool false), (.bool false), (.bool false), (.bool false), (.bool false), (.bool false), (.bool false), (.bool false), (.bool false), (.bool false), (.bool false), (.bool false), (.bool false), (.bool false), (.bool false), (.bool false), (.bool false), (.bool false), (.bool false), (.bool false), (.bool false), (.bool false), (.bool false), (.bool false), (.bool false), (.bool false), (.bool false), (.bool false), (.bool false), (.bool false), (.bool false), (.bool false), (.bool false), (.bool false), (.bool false), (.bool false), (.bool false), (.bool false), (.bool false), (.bool false), (.bool false), (.bool false), (.bool false), (.bool false), (.bool false), (.bool false), (.bool false), (.bool false), (.bool false), (.bool false), (.bool false), (.bool false), (.bool false), (.bool false), (.bool false), (.bool false), (.bool false), (.bool false), (.bool false), (.bool false), (.bool false), (.bool false), (.bool false), (.bool false), (.bool false), (.bool false), (.bool false), (.bool false), (.bool false), (.bool false), (.bool false), (.bool false), (.bool false), (.bool false), (.bool false), (.bool false), (.bool false), (.bool false), (.bool false), (.bool false), (.bool false), (.bool false), (.bool false), (.bool false), (.bool false), (.bool false), (.bool false), (.bool false), (.bool false), (.bool false), (.bool false), (.bool false), (.bool false), (.bool false), (.bool false), (.bool false), (.bool false), (.bool false), (.bool false), (.bool false), (.bool false), (.bool false), (.bool false), (.bool false), (.bool false), (.bool false), (.bool false), (.bool false), (.bool false), (.bool false), (.bool false), (.bool false), (.bool false), (.bool false)]), []⟩, ⟨some 3, none, .mv (.c (.bool false)), []⟩] [0, 2]) (.sq (.sq (.rg none [⟨some 4, none, .mv (.c (.int .i64 0)), []⟩] [0, 2, 4]) (.bl 0 (.lp true b167_0))) k167_1)), np := 1, res := [.cell 2 (some 256), .t 3], mode := .iso }
/-- (*strings.asciiSet).contains -/
def c168 : FI.Fn := { body := (.sq (.rg none [⟨some 4, none, .mv (.c (.bool false)), []⟩] [0, 1]) (.sq (.rg none [⟨some 5, none, .mv (.t 0), []⟩, ⟨some 6, none, .mv (.t 1), []⟩, ⟨some 7, none, .nc (.t 5), []⟩, ⟨some 8, none, .aa 256 1 (.t 7) (.t 6), []⟩, ⟨some 9, none, .ld none (.t 8), []⟩, ⟨some 4, none, .mv (.t 9), []⟩] [4]) .rt)), np := 2, res := [.t 4], mode := .shr }
def b169_0 : C := (.sq (.rg none [⟨some 9, none, .bo .lss (.t 8) (.t 7), []⟩] [0, 1, 7, 8, 9]) (.sq (.cd (.t 9) .sk (.xt 0)) (.sq (.bl 1 (.sq (.rg none [⟨some 10, none, .mv (.t 8), []⟩, ⟨some 5, none, .mv (.t 10), []⟩] [0, 1, 5, 7, 8]) (.sq (.rg none [⟨some 11, none, .mv (.t 1), []⟩, ⟨some 12, none, .mv (.t 0), []⟩, ⟨some 13, none, .mv (.t 5), []⟩, ⟨some 14, none, .ia 6 (.t 12) (.t 13), []⟩, ⟨some 15, none, .ld (some 6) (.t 14), []⟩, ⟨some 16, none, .cw (.t 11) [(.t 15)], []⟩] [0, 1, 5, 7, 8, 16]) (.cd (.t 16) (.sq (.rg none [⟨some 17, none, .mv (.t 5), []⟩, ⟨some 4, none, .mv (.t 17), []⟩] [4]) .rt) .sk)))) (.rg none [⟨some 18, none, .bo .add (.t 8) (.c (.int .i64 1)), []⟩, ⟨some 8, none, .mv (.t 18), []⟩] [0, 1, 7, 8]))))
def k169_1 : C := (.sq (.rg none [⟨some 4, none, .mv (.c (.int .i64 (-1))), []⟩] [4]) .rt)
/-- slices.IndexFunc[[]retarget/api.Term,retarget/api.Term] -/
def c169 : FI.Fn := { body := (.sq (.rg none [⟨some 4, none, .mv (.c (.int .i64 0)), []⟩] [0, 1]) (.sq (.sq (.rg none [⟨some 6, none, .mv (.t 0), []⟩, ⟨some 7, none, .ln 1 (.t 6), []⟩, ⟨some 8, none, .mv (.c (.int .i64 0)), []⟩] [0, 1, 7, 8]) (.bl 0 (.lp true b169_0))) k169_1)), np := 2, res := [.t 4], mode := .iso }
/-- slices.order2CmpFunc[retarget/api.Binding] -/
def c170 : FI.Fn := { body := (.sq (.rg none [⟨some 10, none, .mv (.c (.int .i64 0)), []⟩, ⟨some 11, none, .mv (.c (.int .i64 0)), []⟩] [0, 1, 2, 3, 4]) (.sq (.sq (.rg (some [0, 1, 2, 3, 4, 5, 6, 7, 8, 9, 10]) [⟨some 12, none, .mv (.t 4), []⟩, ⟨some 13, none, .mv (.t 0), []⟩, ⟨some 14, none, .mv (.t 2), []⟩, ⟨some 15, none, .ia 3 (.t 13) (.t 14), []⟩, ⟨some 16, none, .ld (some 3) (.t 15), []⟩, ⟨some 17, none, .mv (.t 0), []⟩, ⟨some 18, none, .mv (.t 1), []⟩, ⟨some 19, none, .ia 3 (.t 17) (.t 18), []⟩, ⟨some 20, none, .ld (some 3) (.t 19), []⟩, ⟨some 21, none, .cw (.t 12) [(.t 16), (.t 20)], []⟩, ⟨some 22, none, .bo .lss (.t 21) (.c (.int .i64 0)), []⟩] [1, 2, 3, 22]) (.cd (.t 22) (.sq (.rg none [⟨some 23, none, .mv (.t 3), []⟩, ⟨some 24, none, .nc (.t 23), []⟩, ⟨some 25, none, .ld none (.t 24), []⟩, ⟨some 26, none, .bo .add (.t 25) (.c (.int .i64 1)), []⟩, ⟨some 27, none, .nc (.t 23), []⟩, ⟨none, none, .st 1 (.t 27) (.t 26), []⟩] [1, 2]) (.sq (.rg none [⟨some 28, none, .mv (.t 2), []⟩, ⟨some 29, none, .mv (.t 1), []⟩, ⟨some 10, none, .mv (.t 28), []⟩, ⟨some 11, none, .mv (.t 29), []⟩] [10, 11]) .rt)) .sk)) (.sq (.rg none [⟨some 30, none, .mv (.t 1), []⟩, ⟨some 31, none, .mv (.t 2), []⟩, ⟨some 10, none, .mv (.t 30), []⟩, ⟨some 11, none, .mv (.t 31), []⟩] [10, 11]) .rt))), np := 5, res := [.t 10, .t 11], mode := .shr }
def b173_0 : C := (.sq (.sq (.rg none [⟨some 57, none, .mv (.t 8), []⟩, ⟨some 58, none, .mv (.t 9), []⟩, ⟨some 59, none, .bo .lss (.t 57) (.t 58), []⟩] [0, 1, 5, 6, 7, 8, 9, 10, 59]) (.cd (.t 59) .sk (.xt 1))) (.bl 2 (.sq (.sq (.rg none [⟨some 60, none, .mv (.t 0), []⟩, ⟨some 61, none, .mv (.t 8), []⟩, ⟨some 62, none, .ix (.t 60) (.t 61), []⟩, ⟨some 63, none, .mv (.t 6), []⟩, ⟨some 64, none, .bo .neq (.t 62) (.t 63), []⟩] [0, 1, 5, 6, 7, 8, 9, 10, 64]) (.cd (.t 64) (.sq (.rg none [⟨some 65, none, .mv (.t 0), []⟩, ⟨some 66, none, .mv (.t 8), []⟩, ⟨some 67, none, .bo .add (.t 66) (.c (.int .i64 1)), []⟩, ⟨some 68, none, .mv (.t 9), []⟩, ⟨some 69, none, .sl 0 (.t 65) (some (.t 67)) (some (.t 68)), []⟩, ⟨some 70, none, .mv (.t 6), []⟩, ⟨some 71, none, .cl 178 [(.t 69), (.t 70)], []⟩, ⟨some 11, none, .mv (.t 71), []⟩] [0, 1, 5, 6, 7, 8, 9, 10, 11]) (.sq (.sq (.rg none [⟨some 72, none, .mv (.t 11), []⟩, ⟨some 73, none, .bo .lss (.t 72) (.c (.int .i64 0)), []⟩] [0, 1, 5, 6, 7, 8, 9, 10, 11, 73]) (.cd (.t 73) (.sq (.rg none [⟨some 4, none, .mv (.c (.int .i64 (-1))), []⟩] [4]) .rt) .sk)) (.rg none [⟨some 74, none, .mv (.t 8), []⟩, ⟨some 75, none, .mv (.t 11), []⟩, ⟨some 76, none, .bo .add (.t 75) (.c (.int .i64 1)), []⟩, ⟨some 77, none, .bo .add (.t 74) (.t 76), []⟩, ⟨some 8, none, .mv (.t 77), []⟩] [0, 1, 5, 6, 7, 8, 9, 10]))) .sk)) (.sq (.sq (.rg none [⟨some 78, none, .mv (.t 0), []⟩, ⟨some 79, none, .mv (.t 8), []⟩, ⟨some 80, none, .bo .add (.t 79) (.c (.int .i64 1)), []⟩, ⟨some 81, none, .ix (.t 78) (.t 80), []⟩, ⟨some 82, none, .mv (.t 7), []⟩, ⟨some 83, none, .bo .eql (.t 81) (.t 82), []⟩, ⟨some 84, none, .mv (.t 83), []⟩, ⟨some 85, some (84, true), .mv (.t 0), []⟩, ⟨some 86, some (84, true), .mv (.t 8), []⟩, ⟨some 87, some (84, true), .mv (.t 8), []⟩, ⟨some 88, some (84, true), .mv (.t 5), []⟩, ⟨some 89, some (84, true), .bo .add (.t 87) (.t 88), []⟩, ⟨some 90, some (84, true), .sl 0 (.t 85) (some (.t 86)) (some (.t 89)), []⟩, ⟨some 91, some (84, true), .mv (.t 1), []⟩, ⟨some 92, some (84, true), .bo .eql (.t 90) (.t 91), []⟩, ⟨some 93, none, .pk (.t 84) (.t 92) (.c (.bool false)), []⟩] [0, 1, 5, 6, 7, 8, 9, 10, 93]) (.cd (.t 93) (.sq (.rg none [⟨some 94, none, .mv (.t 8), []⟩, ⟨some 4, none, .mv (.t 94), []⟩] [4]) .rt) .sk)) (.sq (.rg none [⟨some 95, none, .mv (.t 8), []⟩, ⟨some 96, none, .bo .add (.t 95) (.c (.int .i64 1)), []⟩, ⟨some 8, none, .mv (.t 96), []⟩] [0, 1, 5, 6, 7, 8, 9, 10]) (.sq (.rg none [⟨some 97, none, .mv (.t 10), []⟩, ⟨some 98, none, .bo .add (.t 97) (.c (.int .i64 1)), []⟩, ⟨some 10, none, .mv (.t 98), []⟩] [0, 1, 5, 6, 7, 8, 9, 10]) (.sq (.rg none [⟨some 99, none, .mv (.t 5), []⟩, ⟨some 100, none, .bad, []⟩, ⟨some 101, none, .bo .leq (.t 99) (.t 100), []⟩, ⟨some 102, none, .mv (.t 101), []⟩, ⟨some 103, some (102, true), .mv (.t 10), []⟩, ⟨some 104, some (102, true), .mv (.t 8), []⟩, ⟨some 105, some (102, true), .cl 176 [(.t 104)], []⟩, ⟨some 106, some (102, true), .bo .gtr (.t 103) (.t 105), []⟩, ⟨some 107, none, .pk (.t 102) (.t 106) (.c (.bool false)), []⟩] [0, 1, 5, 6, 7, 8, 9, 10, 107]) (.cd (.t 107) (.sq (.rg none [⟨some 108, none, .mv (.t 0), []⟩, ⟨some 109, none, .mv (.t 8), []⟩, ⟨some 110, none, .sl 0 (.t 108) (some (.t 109)) none, []⟩, ⟨some 111, none, .mv (.t 1), []⟩, ⟨some 112, none, .bad, []⟩, ⟨some 12, none, .mv (.t 112), []⟩] [8, 12]) (.sq (.sq (.rg none [⟨some 113, none, .mv (.t 12), []⟩, ⟨some 114, none, .bo .geq (.t 113) (.c (.int .i64 0)), []⟩] [8, 12, 114]) (.cd (.t 114) (.sq (.rg none [⟨some 115, none, .mv (.t 12), []⟩, ⟨some 116, none, .mv (.t 8), []⟩, ⟨some 117, none, .bo .add (.t 115) (.t 116), []⟩, ⟨some 4, none, .mv (.t 117), []⟩] [4]) .rt) .sk)) (.sq (.rg none [⟨some 4, none, .mv (.c (.int .i64 (-1))), []⟩] [4]) .rt))) (.sq (.rg none [⟨some 118, none, .mv (.t 5), []⟩, ⟨some 119, none, .bad, []⟩, ⟨some 120, none, .bo .gtr (.t 118) (.t 119), []⟩, ⟨some 121, none, .mv (.t 120), []⟩, ⟨some 122, some (121, true), .mv (.t 10), []⟩, ⟨some 123, some (121, true), .mv (.t 8), []⟩, ⟨some 124, some (121, true), .bo .shr (.t 123) (.c (.int .u64 4)), []⟩, ⟨some 125, some (121, true), .bo .add (.c (.int .i64 4)) (.t 124), []⟩, ⟨some 126, some (121, true), .bo .geq (.t 122) (.t 125), []⟩, ⟨some 127, none, .pk (.t 121) (.t 126) (.c (.bool false)), []⟩, ⟨some 128, none, .mv (.t 127), []⟩, ⟨some 129, some (128, true), .mv (.t 8), []⟩, ⟨some 130, some (128, true), .mv (.t 9), []⟩, ⟨some 131, some (128, true), .bo .lss (.t 129) (.t 130), []⟩, ⟨some 132, none, .pk (.t 128) (.t 131) (.c (.bool false)), []⟩] [0, 1, 5, 6, 7, 8, 9, 10, 132]) (.cd (.t 132) (.sq (.rg none [⟨some 133, none, .mv (.t 0), []⟩, ⟨some 134, none, .mv (.t 8), []⟩, ⟨some 135, none, .sl 0 (.t 133) (some (.t 134)) none, []⟩, ⟨some 136, none, .mv (.t 1), []⟩, ⟨some 137, none, .cl 179 [(.t 135), (.t 136)], []⟩, ⟨some 13, none, .mv (.t 137), []⟩] [8, 13]) (.sq (.sq (.rg none [⟨some 138, none, .mv (.t 13), []⟩, ⟨some 139, none, .bo .lss (.t 138) (.c (.int .i64 0)), []⟩] [8, 13, 139]) (.cd (.t 139) (.sq (.rg none [⟨some 4, none, .mv (.c (.int .i64 (-1))), []⟩] [4]) .rt) .sk)) (.sq (.rg none [⟨some 140, none, .mv (.t 8), []⟩, ⟨some 141, none, .mv (.t 13), []⟩, ⟨some 142, none, .bo .add (.t 140) (.t 141), []⟩, ⟨some 4, none, .mv (.t 142), []⟩] [4]) .rt))) .sk))))))))))
def k173_1 : C := (.sq (.rg none [⟨some 4, none, .mv (.c (.int .i64 (-1))), []⟩] [4]) .rt)
/-- internal/stringslite.Index -/
def c173 : FI.Fn := { body := (.sq (.rg none [⟨some 4, none, .mv (.c (.int .i64 0)), []⟩] [0, 1]) (.sq (.rg none [⟨some 14, none, .mv (.t 1), []⟩, ⟨some 15, none, .ln 0 (.t 14), []⟩, ⟨some 5, none, .mv (.t 15), []⟩] [0, 1, 5]) (.sq (.bl 0 (.sq (.rg none [⟨some 17, none, .mv (.t 5), []⟩, ⟨some 18, none, .bo .eql (.t 17) (.c (.int .i64 0)), []⟩, ⟨some 19, none, .mv (.t 18), []⟩, ⟨some 20, some (19, false), .mv (.t 1), []⟩, ⟨some 21, some (19, false), .mv (.t 0), []⟩, ⟨some 22, some (19, false), .bo .eql (.t 20) (.t 21), []⟩, ⟨some 23, none, .pk (.t 19) (.c (.bool true)) (.t 22), []⟩, ⟨some 16, none, .mv (.t 23), []⟩] [0, 1, 5, 16]) (.cd (.t 16) (.sq (.rg none [⟨some 4, none, .mv (.c (.int .i64 0)), []⟩] [4]) .rt) (.sq (.rg none [⟨some 25, none, .mv (.t 5), []⟩, ⟨some 26, none, .bo .eql (.t 25) (.c (.int .i64 1)), []⟩, ⟨some 24, none, .mv (.t 26), []⟩] [0, 1, 5, 24]) (.cd (.t 24) (.sq (.rg none [⟨some 27, none, .mv (.t 0), []⟩, ⟨some 28, none, .mv (.t 1), []⟩, ⟨some 29, none, .ix (.t 28) (.c (.int .i64 0)), []⟩, ⟨some 30, none, .cl 178 [(.t 27), (.t 29)], []⟩, ⟨some 4, none, .mv (.t 30), []⟩] [4]) .rt) (.sq (.rg none [⟨some 32, none, .mv (.t 5), []⟩, ⟨some 33, none, .mv (.t 0), []⟩, ⟨some 34, none, .ln 0 (.t 33), []⟩, ⟨some 35, none, .bo .geq (.t 32) (.t 34), []⟩, ⟨some 31, none, .mv (.t 35), []⟩] [0, 1, 5, 31]) (.cd (.t 31) (.sq (.rg none [⟨some 4, none, .mv (.c (.int .i64 (-1))), []⟩] [4]) .rt) (.sq (.rg none [⟨some 37, none, .mv (.t 5), []⟩, ⟨some 38, none, .bad, []⟩, ⟨some 39, none, .bo .leq (.t 37) (.t 38), []⟩, ⟨some 40, none, .mv (.t 39), []⟩, ⟨some 41, some (40, true), .mv (.t 0), []⟩, ⟨some 42, some (40, true), .ln 0 (.t 41), []⟩, ⟨some 43, some (40, true), .bo .leq (.t 42) (.c (.int .i64 64)), []⟩, ⟨some 44, none, .pk (.t 40) (.t 43) (.c (.bool false)), []⟩, ⟨some 36, none, .mv (.t 44), []⟩] [0, 1, 5, 36]) (.cd (.t 36) (.sq (.rg none [⟨some 45, none, .mv (.t 0), []⟩, ⟨some 46, none, .mv (.t 1), []⟩, ⟨some 47, none, .bad, []⟩, ⟨some 4, none, .mv (.t 47), []⟩] [4]) .rt) .sk))))))))) (.sq (.rg none [⟨some 48, none, .mv (.t 1), []⟩, ⟨some 49, none, .ix (.t 48) (.c (.int .i64 0)), []⟩, ⟨some 6, none, .mv (.t 49), []⟩] [0, 1, 5, 6]) (.sq (.rg none [⟨some 50, none, .mv (.t 1), []⟩, ⟨some 51, none, .ix (.t 50) (.c (.int .i64 1)), []⟩, ⟨some 7, none, .mv (.t 51), []⟩] [0, 1, 5, 6, 7]) (.sq (.rg none [⟨some 8, none, .mv (.c (.int .i64 0)), []⟩] [0, 1, 5, 6, 7, 8]) (.sq (.rg none [⟨some 52, none, .mv (.t 0), []⟩, ⟨some 53, none, .ln 0 (.t 52), []⟩, ⟨some 54, none, .mv (.t 5), []⟩, ⟨some 55, none, .bo .sub (.t 53) (.t 54), []⟩, ⟨some 56, none, .bo .add (.t 55) (.c (.int .i64 1)), []⟩, ⟨some 9, none, .mv (.t 56), []⟩] [0, 1, 5, 6, 7, 8, 9]) (.sq (.rg none [⟨some 10, none, .mv (.c (.int .i64 0)), []⟩] [0, 1, 5, 6, 7, 8, 9, 10]) (.sq (.bl 1 (.lp true b173_0)) k173_1))))))))), np := 2, res := [.t 4], mode := .iso }
/-- strings.IndexByte -/
def c174 : FI.Fn := { body := (.sq (.rg none [⟨some 4, none, .mv (.c (.int .i64 0)), []⟩] [0, 1]) (.sq (.rg none [⟨some 5, none, .mv (.t 0), []⟩, ⟨some 6, none, .mv (.t 1), []⟩, ⟨some 7, none, .cl 178 [(.t 5), (.t 6)], []⟩, ⟨some 4, none, .mv (.t 7), []⟩] [4]) .rt)), np := 2, res := [.t 4], mode := .iso }
/-- unicode/utf8.ValidRune -/
def c175 : FI.Fn := { body := (.sq (.rg none [⟨some 2, none, .mv (.c (.bool false)), []⟩] [0]) (.sq (.bl 0 (.sq (.rg none [⟨some 4, none, .mv (.t 0), []⟩, ⟨some 5, none, .bo .leq (.c (.int .i32 0)) (.t 4), []⟩, ⟨some 6, none, .mv (.t 5), []⟩, ⟨some 7, some (6, true), .mv (.t 0), []⟩, ⟨some 8, some (6, true), .bo .lss (.t 7) (.c (.int .i32 55296)), []⟩, ⟨some 9, none, .pk (.t 6) (.t 8) (.c (.bool false)), []⟩, ⟨some 3, none, .mv (.t 9), []⟩] [0, 3]) (.cd (.t 3) (.sq (.rg none [⟨some 2, none, .mv (.c (.bool true)), []⟩] [2]) .rt) (.sq (.rg none [⟨some 11, none, .mv (.t 0), []⟩, ⟨some 12, none, .bo .lss (.c (.int .i32 57343)) (.t 11), []⟩, ⟨some 13, none, .mv (.t 12), []⟩, ⟨some 14, some (13, true), .mv (.t 0), []⟩, ⟨some 15, some (13, true), .bo .leq (.t 14) (.c (.int .i32 1114111)), []⟩, ⟨some 16, none, .pk (.t 13) (.t 15) (.c (.bool false)), []⟩, ⟨some 10, none, .mv (.t 16), []⟩] [10]) (.cd (.t 10) (.sq (.rg none [⟨some 2, none, .mv (.c (.bool true)), []⟩] [2]) .rt) .sk))))) (.sq (.rg none [⟨some 2, none, .mv (.c (.bool false)), []⟩] [2]) .rt))), np := 1, res := [.t 2], mode := .iso }
/-- internal/bytealg.Cutover -/
def c176 : FI.Fn := { body := (.sq (.rg none [⟨some 2, none, .mv (.c (.int .i64 0)), []⟩] [0]) (.sq (.rg none [⟨some 3, none, .mv (.t 0), []⟩, ⟨some 4, none, .bo .add (.t 3) (.c (.int .i64 16)), []⟩, ⟨some 5, none, .bo .quo (.t 4) (.c (.int .i64 8)), []⟩, ⟨some 2, none, .mv (.t 5), []⟩] [2]) .rt)), np := 1, res := [.t 2], mode := .iso }
/-- internal/stringslite.IndexByte -/
def c178 : FI.Fn := { body := (.sq (.rg none [⟨some 4, none, .mv (.c (.int .i64 0)), []⟩] [0, 1]) (.sq (.rg none [⟨some 5, none, .mv (.t 0), []⟩, ⟨some 6, none, .mv (.t 1), []⟩, ⟨some 7, none, .ib (.t 5) (.t 6), []⟩, ⟨some 4, none, .mv (.t 7), []⟩] [4]) .rt)), np := 2, res := [.t 4], mode := .iso }
def b179_0 : C := (.sq (.sq (.rg none [⟨some 18, none, .mv (.t 9), []⟩, ⟨some 19, none, .mv (.t 7), []⟩, ⟨some 20, none, .bo .lss (.t 18) (.t 19), []⟩] [0, 1, 5, 6, 7, 8, 9, 20]) (.cd (.t 20) .sk (.xt 0))) (.sq (.bl 1 (.rg none [⟨some 23, none, .mv (.t 8), []⟩, ⟨some 24, none, .bo .mul (.t 23) (.c (.int .u32 16777619)), []⟩, ⟨some 25, none, .mv (.t 0), []⟩, ⟨some 26, none, .mv (.t 9), []⟩, ⟨some 27, none, .ix (.t 25) (.t 26), []⟩, ⟨some 28, none, .cv .u32 (.t 27), []⟩, ⟨some 29, none, .bo .add (.t 24) (.t 28), []⟩, ⟨some 8, none, .mv (.t 29), []⟩] [0, 1, 5, 6, 7, 8, 9])) (.rg none [⟨some 21, none, .mv (.t 9), []⟩, ⟨some 22, none, .bo .add (.t 21) (.c (.int .i64 1)), []⟩, ⟨some 9, none, .mv (.t 22), []⟩] [0, 1, 5, 6, 7, 8, 9])))
def b179_1 : C := (.sq (.sq (.rg none [⟨some 41, none, .mv (.t 10), []⟩, ⟨some 42, none, .mv (.t 0), []⟩, ⟨some 43, none, .ln 0 (.t 42), []⟩, ⟨some 44, none, .bo .lss (.t 41) (.t 43), []⟩] [0, 1, 5, 6, 7, 8, 10, 44]) (.cd (.t 44) .sk (.xt 2))) (.bl 3 (.sq (.rg none [⟨some 45, none, .mv (.t 8), []⟩, ⟨some 46, none, .bo .mul (.t 45) (.c (.int .u32 16777619)), []⟩, ⟨some 8, none, .mv (.t 46), []⟩] [0, 1, 5, 6, 7, 8, 10]) (.sq (.rg none [⟨some 47, none, .mv (.t 8), []⟩, ⟨some 48, none, .mv (.t 0), []⟩, ⟨some 49, none, .mv (.t 10), []⟩, ⟨some 50, none, .ix (.t 48) (.t 49), []⟩, ⟨some 51, none, .cv .u32 (.t 50), []⟩, ⟨some 52, none, .bo .add (.t 47) (.t 51), []⟩, ⟨some 8, none, .mv (.t 52), []⟩] [0, 1, 5, 6, 7, 8, 10]) (.sq (.rg none [⟨some 53, none, .mv (.t 8), []⟩, ⟨some 54, none, .mv (.t 6), []⟩, ⟨some 55, none, .mv (.t 0), []⟩, ⟨some 56, none, .mv (.t 10), []⟩, ⟨some 57, none, .mv (.t 7), []⟩, ⟨some 58, none, .bo .sub (.t 56) (.t 57), []⟩, ⟨some 59, none, .ix (.t 55) (.t 58), []⟩, ⟨some 60, none, .cv .u32 (.t 59), []⟩, ⟨some 61, none, .bo .mul (.t 54) (.t 60), []⟩, ⟨some 62, none, .bo .sub (.t 53) (.t 61), []⟩, ⟨some 8, none, .mv (.t 62), []⟩] [0, 1, 5, 6, 7, 8, 10]) (.sq (.rg none [⟨some 63, none, .mv (.t 10), []⟩, ⟨some 64, none, .bo .add (.t 63) (.c (.int .i64 1)), []⟩, ⟨some 10, none, .mv (.t 64), []⟩] [0, 1, 5, 6, 7, 8, 10]) (.sq (.rg none [⟨some 65, none, .mv (.t 8), []⟩, ⟨some 66, none, .mv (.t 5), []⟩, ⟨some 67, none, .bo .eql (.t 65) (.t 66), []⟩, ⟨some 68, none, .mv (.t 67), []⟩, ⟨some 69, some (68, true), .mv (.t 0), []⟩, ⟨some 70, some (68, true), .mv (.t 10), []⟩, ⟨some 71, some (68, true), .mv (.t 7), []⟩, ⟨some 72, some (68, true), .bo .sub (.t 70) (.t 71), []⟩, ⟨some 73, some (68, true), .mv (.t 10), []⟩, ⟨some 74, some (68, true), .sl 0 (.t 69) (some (.t 72)) (some (.t 73)), []⟩, ⟨some 75, some (68, true), .mv (.t 1), []⟩, ⟨some 76, some (68, true), .bo .eql (.t 74) (.t 75), []⟩, ⟨some 77, none, .pk (.t 68) (.t 76) (.c (.bool false)), []⟩] [0, 1, 5, 6, 7, 8, 10, 77]) (.cd (.t 77) (.sq (.rg none [⟨some 78, none, .mv (.t 10), []⟩, ⟨some 79, none, .mv (.t 7), []⟩, ⟨some 80, none, .bo .sub (.t 78) (.t 79), []⟩, ⟨some 4, none, .mv (.t 80), []⟩] [4]) .rt) .sk))))))))
def k179_2 : C := (.sq (.rg none [⟨some 4, none, .mv (.c (.int .i64 (-1))), []⟩] [4]) .rt)
def k179_3 : C := (.sq (.sq (.rg none [⟨some 30, none, .mv (.t 8), []⟩, ⟨some 31, none, .mv (.t 5), []⟩, ⟨some 32, none, .bo .eql (.t 30) (.t 31), []⟩, ⟨some 33, none, .mv (.t 32), []⟩, ⟨some 34, some (33, true), .mv (.t 0), []⟩, ⟨some 35, some (33, true), .mv (.t 7), []⟩, ⟨some 36, some (33, true), .sl 0 (.t 34) none (some (.t 35)), []⟩, ⟨some 37, some (33, true), .mv (.t 1), []⟩, ⟨some 38, some (33, true), .bo .eql (.t 36) (.t 37), []⟩, ⟨some 39, none, .pk (.t 33) (.t 38) (.c (.bool false)), []⟩] [0, 1, 5, 6, 7, 8, 39]) (.cd (.t 39) (.sq (.rg none [⟨some 4, none, .mv (.c (.int .i64 0)), []⟩] [4]) .rt) .sk)) (.sq (.sq (.rg none [⟨some 40, none, .mv (.t 7), []⟩, ⟨some 10, none, .mv (.t 40), []⟩] [0, 1, 5, 6, 7, 8, 10]) (.bl 2 (.lp true b179_1))) k179_2))
/-- internal/bytealg.IndexRabinKarp[string] -/
def c179 : FI.Fn := { body := (.sq (.rg none [⟨some 4, none, .mv (.c (.int .i64 0)), []⟩] [0, 1]) (.sq (.rg none [⟨some 12, none, .mv (.t 1), []⟩, ⟨some 13, none, .cl 181 [(.t 12)], []⟩, ⟨some 11, none, .mv (.t 13), []⟩, ⟨some 14, none, .ex (.t 11) 0, []⟩, ⟨some 15, none, .ex (.t 11) 1, []⟩, ⟨some 5, none, .mv (.t 14), []⟩, ⟨some 6, none, .mv (.t 15), []⟩] [0, 1, 5, 6]) (.sq (.rg none [⟨some 16, none, .mv (.t 1), []⟩, ⟨some 17, none, .ln 0 (.t 16), []⟩, ⟨some 7, none, .mv (.t 17), []⟩] [0, 1, 5, 6, 7]) (.sq (.rg none [⟨some 8, none, .mv (.c (.int .u32 0)), []⟩] [0, 1, 5, 6, 7, 8]) (.sq (.sq (.rg none [⟨some 9, none, .mv (.c (.int .i64 0)), []⟩] [0, 1, 5, 6, 7, 8, 9]) (.bl 0 (.lp true b179_0))) k179_3))))), np := 2, res := [.t 4], mode := .iso }
def b181_0 : C := (.sq (.sq (.rg none [⟨some 9, none, .mv (.t 5), []⟩, ⟨some 10, none, .mv (.t 0), []⟩, ⟨some 11, none, .ln 0 (.t 10), []⟩, ⟨some 12, none, .bo .lss (.t 9) (.t 11), []⟩] [0, 4, 5, 12]) (.cd (.t 12) .sk (.xt 0))) (.sq (.bl 1 (.rg none [⟨some 15, none, .mv (.t 4), []⟩, ⟨some 16, none, .bo .mul (.t 15) (.c (.int .u32 16777619)), []⟩, ⟨some 17, none, .mv (.t 0), []⟩, ⟨some 18, none, .mv (.t 5), []⟩, ⟨some 19, none, .ix (.t 17) (.t 18), []⟩, ⟨some 20, none, .cv .u32 (.t 19), []⟩, ⟨some 21, none, .bo .add (.t 16) (.t 20), []⟩, ⟨some 4, none, .mv (.t 21), []⟩] [0, 4, 5])) (.rg none [⟨some 13, none, .mv (.t 5), []⟩, ⟨some 14, none, .bo .add (.t 13) (.c (.int .i64 1)), []⟩, ⟨some 5, none, .mv (.t 14), []⟩] [0, 4, 5])))
def b181_1 : C := (.sq (.sq (.rg none [⟨some 24, none, .mv (.t 8), []⟩, ⟨some 25, none, .bo .gtr (.t 24) (.c (.int .i64 0)), []⟩] [4, 6, 7, 8, 25]) (.cd (.t 25) .sk (.xt 2))) (.sq (.bl 3 (.sq (.sq (.rg none [⟨some 28, none, .mv (.t 8), []⟩, ⟨some 29, none, .bo .and (.t 28) (.c (.int .i64 1)), []⟩, ⟨some 30, none, .bo .neq (.t 29) (.c (.int .i64 0)), []⟩] [4, 6, 7, 8, 30]) (.cd (.t 30) (.rg none [⟨some 31, none, .mv (.t 6), []⟩, ⟨some 32, none, .mv (.t 7), []⟩, ⟨some 33, none, .bo .mul (.t 31) (.t 32), []⟩, ⟨some 6, none, .mv (.t 33), []⟩] [4, 6, 7, 8]) .sk)) (.rg none [⟨some 34, none, .mv (.t 7), []⟩, ⟨some 35, none, .mv (.t 7), []⟩, ⟨some 36, none, .bo .mul (.t 34) (.t 35), []⟩, ⟨some 7, none, .mv (.t 36), []⟩] [4, 6, 7, 8]))) (.rg none [⟨some 26, none, .mv (.t 8), []⟩, ⟨some 27, none, .bo .shr (.t 26) (.c (.int .u64 1)), []⟩, ⟨some 8, none, .mv (.t 27), []⟩] [4, 6, 7, 8])))
def k181_2 : C := (.sq (.rg none [⟨some 37, none, .mv (.t 4), []⟩, ⟨some 38, none, .mv (.t 6), []⟩, ⟨some 2, none, .mv (.t 37), []⟩, ⟨some 3, none, .mv (.t 38), []⟩] [2, 3]) .rt)
def k181_3 : C := (.sq (.rg none [⟨some 6, none, .mv (.c (.int .u32 1)), []⟩, ⟨some 7, none, .mv (.c (.int .u32 16777619)), []⟩] [0, 4, 6, 7]) (.sq (.sq (.rg none [⟨some 22, none, .mv (.t 0), []⟩, ⟨some 23, none, .ln 0 (.t 22), []⟩, ⟨some 8, none, .mv (.t 23), []⟩] [4, 6, 7, 8]) (.bl 2 (.lp true b181_1))) k181_2))
/-- internal/bytealg.hashStr[string] -/
def c181 : FI.Fn := { body := (.sq (.rg none [⟨some 2, none, .mv (.c (.int .u32 0)), []⟩, ⟨some 3, none, .mv (.c (.int .u32 0)), []⟩] [0]) (.sq (.rg none [⟨some 4, none, .mv (.c (.int .u32 0)), []⟩] [0, 4]) (.sq (.sq (.rg none [⟨some 5, none, .mv (.c (.int .i64 0)), []⟩] [0, 4, 5]) (.bl 0 (.lp true b181_0))) k181_3))), np := 1, res := [.t 2, .t 3], mode := .iso }
/-- strings.Join -/
def x109 : List FV → Option FV := joinX
def T : FI.Tab := [(4, .fn c4), (5, .fn c5), (6, .fn c6), (7, .fn c7), (9, .fn c9), (10, .fn c10), (11, .fn c11), (13, .fn c13), (15, .fn c15), (17, .fn c17), (19, .fn c19), (20, .fn c20), (21, .fn c21), (22, .fn c22), (23, .fn c23), (24, .fn c24), (25, .fn c25), (26, .fn c26), (27, .mr c27), (28, .fn c28), (29, .fn c29), (30, .ct c30), (31, .fn c31), (32, .fn c32), (33, .fn c33), (34, .fn c34), (37, .fn c37), (38, .fn c38), (39, .fn c39), (40, .fn c40), (41, .fn c41), (42, .fn c42), (43, .fn c43), (44, .fn c44), (48, .fn c48), (49, .fn c49), (50, .fn c50), (55, .fn c55), (57, .fn c57), (58, .fn c58), (59, .fn c59), (60, .fn c60), (61, .fn c61), (62, .fn c62), (63, .fn c63), (64, .fn c64), (65, .fn c65), (66, .fn c66), (67, .fn c67), (68, .fn c68), (70, .fn c70), (71, .fn c71), (72, .fn c72), (73, .fn c73), (81, .fn c81), (82, .fn c82), (86, .fn c86), (87, .fn c87), (89, .fn c89), (90, .fn c90), (91, .fn c91), (92, .fn c92), (93, .fn c93), (94, .fn c94), (95, .fn c95), (96, .fn c96), (97, .fn c97), (98, .fn c98), (99, .fn c99), (100, .fn c100), (101, .fn c101), (102, .fn c102), (103, .fn c103), (104, .fn c104), (105, .fn c105), (106, .fn c106), (107, .fn c107), (108, .fn c108), (110, .fn c110), (111, .fn c111), (112, .fn c112), (113, .fn c113), (114, .fn c114), (115, .fn c115), (116, .fn c116), (117, .fn c117), (118, .fn c118), (119, .fn c119), (135, .fn c135), (136, .fn c136), (137, .fn c137), (138, .fn c138), (139, .fn c139), (140, .fn c140), (141, .fn c141), (142, .fn c142), (143, .fn c143), (144, .fn c144), (145, .fn c145), (149, .fn c149), (150, .fn c150), (151, .fn c151), (152, .fn c152), (153, .fn c153), (154, .fn c154), (157, .fn c157), (158, .fn c158), (159, .fn c159), (160, .fn c160), (161, .fn c161), (164, .fn c164), (165, .fn c165), (166, .fn c166), (167, .fn c167), (168, .fn c168), (169, .fn c169), (170, .fn c170), (173, .fn c173), (174, .fn c174), (175, .fn c175), (176, .fn c176), (178, .fn c178), (179, .fn c179), (181, .fn c181), (1003100, .rd r1003100), (1003800, .rd r1003800), (1006200, .rd r1006200), (1006300, .rd r1006300), (109, .ext x109)]
def glf (k : Nat) (cs : List FV) : Bool := (k == 0 && eqvs cs gl0)
theorem glfp (k : Nat) (cs : List FV) (h : glf k cs = true) : pures cs = true := by
  unfold glf at h
  simp only [Bool.or_eq_true, Bool.and_eq_true] at h
  rcases h with ⟨_, h⟩
  · rw [eqvs_eq h]; rfl
@[reducible] def sys0 : FI.Sys := ⟨glf, fun _ _ _ => False, glfp⟩
instance sys : FI.Sys := ⟨glf, @RkOf sys0 Tryz.prog (cmOf T) (rdOf T), glfp⟩
theorem mix : Tryz.prog.follows .mixedOrders = true := by kernel_rfl
theorem ok4 : okFn Tryz.prog (cmOf T) (rdOf T) 4 c4 = true := by kernel_rfl
theorem ok5 : okFn Tryz.prog (cmOf T) (rdOf T) 5 c5 = true := by kernel_rfl
theorem ok6 : okFn Tryz.prog (cmOf T) (rdOf T) 6 c6 = true := by kernel_rfl
theorem ok7 : okFn Tryz.prog (cmOf T) (rdOf T) 7 c7 = true := by kernel_rfl
theorem ok9 : okFn Tryz.prog (cmOf T) (rdOf T) 9 c9 = true := by kernel_rfl
theorem ok10 : okFn Tryz.prog (cmOf T) (rdOf T) 10 c10 = true := by kernel_rfl
theorem ok11 : okFn Tryz.prog (cmOf T) (rdOf T) 11 c11 = true := by kernel_rfl
theorem ok13 : okFn Tryz.prog (cmOf T) (rdOf T) 13 c13 = true := by kernel_rfl
theorem ok15 : okFn Tryz.prog (cmOf T) (rdOf T) 15 c15 = true := by kernel_rfl
theorem ok17 : okFn Tryz.prog (cmOf T) (rdOf T) 17 c17 = true := by kernel_rfl
theorem ok19 : okFn Tryz.prog (cmOf T) (rdOf T) 19 c19 = true := by kernel_rfl
theorem ok20 : okFn Tryz.prog (cmOf T) (rdOf T) 20 c20 = true := by kernel_rfl
theorem ok21 : okFn Tryz.prog (cmOf T) (rdOf T) 21 c21 = true := by kernel_rfl
theorem ok22 : okFn Tryz.prog (cmOf T) (rdOf T) 22 c22 = true := by kernel_rfl
theorem ok23 : okFn Tryz.prog (cmOf T) (rdOf T) 23 c23 = true := by kernel_rfl
theorem ok24 : okFn Tryz.prog (cmOf T) (rdOf T) 24 c24 = true := by kernel_rfl
theorem ok25 : okFn Tryz.prog (cmOf T) (rdOf T) 25 c25 = true := by kernel_rfl
theorem ok26 : okFn Tryz.prog (cmOf T) (rdOf T) 26 c26 = true := by kernel_rfl
theorem ok27 : okMr Tryz.prog (cmOf T) (rdOf T) 27 c27 = true := by kernel_rfl
theorem ok28 : okFn Tryz.prog (cmOf T) (rdOf T) 28 c28 = true := by kernel_rfl
theorem ok29 : okFn Tryz.prog (cmOf T) (rdOf T) 29 c29 = true := by kernel_rfl
theorem ok30 : okCt Tryz.prog (cmOf T) (rdOf T) 30 c30 = true := by kernel_rfl
theorem ok31 : okFn Tryz.prog (cmOf T) (rdOf T) 31 c31 = true := by kernel_rfl
theorem ok32 : okFn Tryz.prog (cmOf T) (rdOf T) 32 c32 = true := by kernel_rfl
theorem ok33 : okFn Tryz.prog (cmOf T) (rdOf T) 33 c33 = true := by kernel_rfl
theorem ok34 : okFn Tryz.prog (cmOf T) (rdOf T) 34 c34 = true := by kernel_rfl
theorem ok37 : okFn Tryz.prog (cmOf T) (rdOf T) 37 c37 = true := by kernel_rfl
theorem ok38 : okFn Tryz.prog (cmOf T) (rdOf T) 38 c38 = true := by kernel_rfl
theorem ok39 : okFn Tryz.prog (cmOf T) (rdOf T) 39 c39 = true := by kernel_rfl
theorem ok40 : okFn Tryz.prog (cmOf T) (rdOf T) 40 c40 = true := by kernel_rfl
theorem ok41 : okFn Tryz.prog (cmOf T) (rdOf T) 41 c41 = true := by kernel_rfl
theorem ok42 : okFn Tryz.prog (cmOf T) (rdOf T) 42 c42 = true := by kernel_rfl
theorem ok43 : okFn Tryz.prog (cmOf T) (rdOf T) 43 c43 = true := by kernel_rfl
theorem ok44 : okFn Tryz.prog (cmOf T) (rdOf T) 44 c44 = true := by kernel_rfl
theorem ok48 : okFn Tryz.prog (cmOf T) (rdOf T) 48 c48 = true := by kernel_rfl
theorem ok49 : okFn Tryz.prog (cmOf T) (rdOf T) 49 c49 = true := by kernel_rfl
theorem ok50 : okFn Tryz.prog (cmOf T) (rdOf T) 50 c50 = true := by kernel_rfl
theorem ok55 : okFn Tryz.prog (cmOf T) (rdOf T) 55 c55 = true := by kernel_rfl
theorem ok57 : okFn Tryz.prog (cmOf T) (rdOf T) 57 c57 = true := by kernel_rfl
theorem ok58 : okFn Tryz.prog (cmOf T) (rdOf T) 58 c58 = true := by kernel_rfl
theorem ok59 : okFn Tryz.prog (cmOf T) (rdOf T) 59 c59 = true := by kernel_rfl
theorem ok60 : okFn Tryz.prog (cmOf T) (rdOf T) 60 c60 = true := by kernel_rfl
theorem ok61 : okFn Tryz.prog (cmOf T) (rdOf T) 61 c61 = true := by kernel_rfl
theorem ok62 : okFn Tryz.prog (cmOf T) (rdOf T) 62 c62 = true := by kernel_rfl
theorem ok63 : okFn Tryz.prog (cmOf T) (rdOf T) 63 c63 = true := by kernel_rfl
theorem ok64 : okFn Tryz.prog (cmOf T) (rdOf T) 64 c64 = true := by kernel_rfl
theorem ok65 : okFn Tryz.prog (cmOf T) (rdOf T) 65 c65 = true := by kernel_rfl
theorem ok66 : okFn Tryz.prog (cmOf T) (rdOf T) 66 c66 = true := by kernel_rfl
theorem ok67 : okFn Tryz.prog (cmOf T) (rdOf T) 67 c67 = true := by kernel_rfl
theorem ok68 : okFn Tryz.prog (cmOf T) (rdOf T) 68 c68 = true := by kernel_rfl
theorem ok70 : okFn Tryz.prog (cmOf T) (rdOf T) 70 c70 = true := by kernel_rfl
theorem ok71 : okFn Tryz.prog (cmOf T) (rdOf T) 71 c71 = true := by kernel_rfl
theorem ok72 : okFn Tryz.prog (cmOf T) (rdOf T) 72 c72 = true := by kernel_rfl
theorem ok73 : okFn Tryz.prog (cmOf T) (rdOf T) 73 c73 = true := by kernel_rfl
theorem ok81 : okFn Tryz.prog (cmOf T) (rdOf T) 81 c81 = true := by kernel_rfl
theorem ok82 : okFn Tryz.prog (cmOf T) (rdOf T) 82 c82 = true := by kernel_rfl
theorem ok86 : okFn Tryz.prog (cmOf T) (rdOf T) 86 c86 = true := by kernel_rfl
theorem ok87 : okFn Tryz.prog (cmOf T) (rdOf T) 87 c87 = true := by kernel_rfl
theorem ok89 : okFn Tryz.prog (cmOf T) (rdOf T) 89 c89 = true := by kernel_rfl
theorem ok90 : okFn Tryz.prog (cmOf T) (rdOf T) 90 c90 = true := by kernel_rfl
theorem ok91 : okFn Tryz.prog (cmOf T) (rdOf T) 91 c91 = true := by kernel_rfl
theorem ok92 : okFn Tryz.prog (cmOf T) (rdOf T) 92 c92 = true := by kernel_rfl
theorem ok93 : okFn Tryz.prog (cmOf T) (rdOf T) 93 c93 = true := by kernel_rfl
theorem ok94 : okFn Tryz.prog (cmOf T) (rdOf T) 94 c94 = true := by kernel_rfl
theorem ok95 : okFn Tryz.prog (cmOf T) (rdOf T) 95 c95 = true := by kernel_rfl
theorem ok96 : okFn Tryz.prog (cmOf T) (rdOf T) 96 c96 = true := by kernel_rfl
theorem ok97 : okFn Tryz.prog (cmOf T) (rdOf T) 97 c97 = true := by kernel_rfl
theorem ok98 : okFn Tryz.prog (cmOf T) (rdOf T) 98 c98 = true := by kernel_rfl
theorem ok99 : okFn Tryz.prog (cmOf T) (rdOf T) 99 c99 = true := by kernel_rfl
theorem ok100 : okFn Tryz.prog (cmOf T) (rdOf T) 100 c100 = true := by kernel_rfl
theorem ok101 : okFn Tryz.prog (cmOf T) (rdOf T) 101 c101 = true := by kernel_rfl
theorem ok102 : okFn Tryz.prog (cmOf T) (rdOf T) 102 c102 = true := by kernel_rfl
theorem ok103 : okFn Tryz.prog (cmOf T) (rdOf T) 103 c103 = true := by kernel_rfl
theorem ok104 : okFn Tryz.prog (cmOf T) (rdOf T) 104 c104 = true := by kernel_rfl
theorem ok105 : okFn Tryz.prog (cmOf T) (rdOf T) 105 c105 = true := by kernel_rfl
theorem ok106 : okFn Tryz.prog (cmOf T) (rdOf T) 106 c106 = true := by kernel_rfl
theorem ok107 : okFn Tryz.prog (cmOf T) (rdOf T) 107 c107 = true := by kernel_rfl
theorem ok108 : okFn Tryz.prog (cmOf T) (rdOf T) 108 c108 = true := by kernel_rfl
theorem ok110 : okFn Tryz.prog (cmOf T) (rdOf T) 110 c110 = true := by kernel_rfl
theorem ok111 : okFn Tryz.prog (cmOf T) (rdOf T) 111 c111 = true := by kernel_rfl
theorem ok112 : okFn Tryz.prog (cmOf T) (rdOf T) 112 c112 = true := by kernel_rfl
theorem ok113 : okFn Tryz.prog (cmOf T) (rdOf T) 113 c113 = true := by kernel_rfl
theorem ok114 : okFn Tryz.prog (cmOf T) (rdOf T) 114 c114 = true := by kernel_rfl
theorem ok115 : okFn Tryz.prog (cmOf T) (rdOf T) 115 c115 = true := by kernel_rfl
theorem ok116 : okFn Tryz.prog (cmOf T) (rdOf T) 116 c116 = true := by kernel_rfl
theorem ok117 : okFn Tryz.prog (cmOf T) (rdOf T) 117 c117 = true := by kernel_rfl
theorem ok118 : okFn Tryz.prog (cmOf T) (rdOf T) 118 c118 = true := by kernel_rfl
theorem ok119 : okFn Tryz.prog (cmOf T) (rdOf T) 119 c119 = true := by kernel_rfl
theorem ok135 : okFn Tryz.prog (cmOf T) (rdOf T) 135 c135 = true := by kernel_rfl
theorem ok136 : okFn Tryz.prog (cmOf T) (rdOf T) 136 c136 = true := by kernel_rfl
theorem ok137 : okFn Tryz.prog (cmOf T) (rdOf T) 137 c137 = true := by kernel_rfl
theorem ok138 : okFn Tryz.prog (cmOf T) (rdOf T) 138 c138 = true := by kernel_rfl
theorem ok139 : okFn Tryz.prog (cmOf T) (rdOf T) 139 c139 = true := by kernel_rfl
theorem ok140 : okFn Tryz.prog (cmOf T) (rdOf T) 140 c140 = true := by kernel_rfl
theorem ok141 : okFn Tryz.prog (cmOf T) (rdOf T) 141 c141 = true := by kernel_rfl
theorem ok142 : okFn Tryz.prog (cmOf T) (rdOf T) 142 c142 = true := by kernel_rfl
theorem ok143 : okFn Tryz.prog (cmOf T) (rdOf T) 143 c143 = true := by kernel_rfl
theorem ok144 : okFn Tryz.prog (cmOf T) (rdOf T) 144 c144 = true := by kernel_rfl
theorem ok145 : okFn Tryz.prog (cmOf T) (rdOf T) 145 c145 = true := by kernel_rfl
theorem ok149 : okFn Tryz.prog (cmOf T) (rdOf T) 149 c149 = true := by kernel_rfl
theorem ok150 : okFn Tryz.prog (cmOf T) (rdOf T) 150 c150 = true := by kernel_rfl
theorem ok151 : okFn Tryz.prog (cmOf T) (rdOf T) 151 c151 = true := by kernel_rfl
theorem ok152 : okFn Tryz.prog (cmOf T) (rdOf T) 152 c152 = true := by kernel_rfl
theorem ok153 : okFn Tryz.prog (cmOf T) (rdOf T) 153 c153 = true := by kernel_rfl
theorem ok154 : okFn Tryz.prog (cmOf T) (rdOf T) 154 c154 = true := by kernel_rfl
theorem ok157 : okFn Tryz.prog (cmOf T) (rdOf T) 157 c157 = true := by kernel_rfl
theorem ok158 : okFn Tryz.prog (cmOf T) (rdOf T) 158 c158 = true := by kernel_rfl
theorem ok159 : okFn Tryz.prog (cmOf T) (rdOf T) 159 c159 = true := by kernel_rfl
theorem ok160 : okFn Tryz.prog (cmOf T) (rdOf T) 160 c160 = true := by kernel_rfl
theorem ok161 : okFn Tryz.prog (cmOf T) (rdOf T) 161 c161 = true := by kernel_rfl
theorem ok164 : okFn Tryz.prog (cmOf T) (rdOf T) 164 c164 = true := by kernel_rfl
theorem ok165 : okFn Tryz.prog (cmOf T) (rdOf T) 165 c165 = true := by kernel_rfl
theorem ok166 : okFn Tryz.prog (cmOf T) (rdOf T) 166 c166 = true := by kernel_rfl
theorem ok167 : okFn Tryz.prog (cmOf T) (rdOf T) 167 c167 = true := by kernel_rfl
theorem ok168 : okFn Tryz.prog (cmOf T) (rdOf T) 168 c168 = true := by kernel_rfl
theorem ok169 : okFn Tryz.prog (cmOf T) (rdOf T) 169 c169 = true := by kernel_rfl
theorem ok170 : okFn Tryz.prog (cmOf T) (rdOf T) 170 c170 = true := by kernel_rfl
theorem ok173 : okFn Tryz.prog (cmOf T) (rdOf T) 173 c173 = true := by kernel_rfl
theorem ok174 : okFn Tryz.prog (cmOf T) (rdOf T) 174 c174 = true := by kernel_rfl
theorem ok175 : okFn Tryz.prog (cmOf T) (rdOf T) 175 c175 = true := by kernel_rfl
theorem ok176 : okFn Tryz.prog (cmOf T) (rdOf T) 176 c176 = true := by kernel_rfl
theorem ok178 : okFn Tryz.prog (cmOf T) (rdOf T) 178 c178 = true := by kernel_rfl
theorem ok179 : okFn Tryz.prog (cmOf T) (rdOf T) 179 c179 = true := by kernel_rfl
theorem ok181 : okFn Tryz.prog (cmOf T) (rdOf T) 181 c181 = true := by kernel_rfl
theorem ext109 : ExtOk Tryz.prog 109 x109 := join_ext lays extra rfl (by kernel_rfl)
theorem tab : TabOk Tryz.prog T where
  fn := by
    intro f d h
    obtain ⟨rfl, h0⟩ | h := tget_any h
    · cases h0; exact ok4
    obtain ⟨rfl, h0⟩ | h := tget_any h
    · cases h0; exact ok5
    obtain ⟨rfl, h0⟩ | h := tget_any h
    · cases h0; exact ok6
    obtain ⟨rfl, h0⟩ | h := tget_any h
    · cases h0; exact ok7
    obtain ⟨rfl, h0⟩ | h := tget_any h
    · cases h0; exact ok9
    obtain ⟨rfl, h0⟩ | h := tget_any h
    · cases h0; exact ok10
    obtain ⟨rfl, h0⟩ | h := tget_any h
    · cases h0; exact ok11
    obtain ⟨rfl, h0⟩ | h := tget_any h
    · cases h0; exact ok13
    obtain ⟨rfl, h0⟩ | h := tget_any h
    · cases h0; exact ok15
    obtain ⟨rfl, h0⟩ | h := tget_any h
    · cases h0; exact ok17
    obtain ⟨rfl, h0⟩ | h := tget_any h
    · cases h0; exact ok19
    obtain ⟨rfl, h0⟩ | h := tget_any h
    · cases h0; exact ok20
    obtain ⟨rfl, h0⟩ | h := tget_any h
    · cases h0; exact ok21
    obtain ⟨rfl, h0⟩ | h := tget_any h
    · cases h0; exact ok22
    obtain ⟨rfl, h0⟩ | h := tget_any h
    · cases h0; exact ok23
    obtain ⟨rfl, h0⟩ | h := tget_any h
    · cases h0; exact ok24
    obtain ⟨rfl, h0⟩ | h := tget_any h
    · cases h0; exact ok25
    obtain ⟨rfl, h0⟩ | h := tget_any h
    · cases h0; exact ok26
    obtain ⟨_, h0⟩ | h := tget_any h
    · cases h0
    obtain ⟨rfl, h0⟩ | h := tget_any h
    · cases h0; exact ok28
    obtain ⟨rfl, h0⟩ | h := tget_any h
    · cases h0; exact ok29
    obtain ⟨_, h0⟩ | h := tget_any h
    · cases h0
    obtain ⟨rfl, h0⟩ | h := tget_any h
    · cases h0; exact ok31
    obtain ⟨rfl, h0⟩ | h := tget_any h
    · cases h0; exact ok32
    obtain ⟨rfl, h0⟩ | h := tget_any h
    · cases h0; exact ok33
    obtain ⟨rfl, h0⟩ | h := tget_any h
    · cases h0; exact ok34
    obtain ⟨rfl, h0⟩ | h := tget_any h
    · cases h0; exact ok37
    obtain ⟨rfl, h0⟩ | h := tget_any h
    · cases h0; exact ok38
    obtain ⟨rfl, h0⟩ | h := tget_any h
    · cases h0; exact ok39
    obtain ⟨rfl, h0⟩ | h := tget_any h
    · cases h0; exact ok40
    obtain ⟨rfl, h0⟩ | h := tget_any h
    · cases h0; exact ok41
    obtain ⟨rfl, h0⟩ | h := tget_any h
    · cases h0; exact ok42
    obtain ⟨rfl, h0⟩ | h := tget_any h
    · cases h0; exact ok43
    obtain ⟨rfl, h0⟩ | h := tget_any h
    · cases h0; exact ok44
    obtain ⟨rfl, h0⟩ | h := tget_any h
    · cases h0; exact ok48
    obtain ⟨rfl, h0⟩ | h := tget_any h
    · cases h0; exact ok49
    obtain ⟨rfl, h0⟩ | h := tget_any h
    · cases h0; exact ok50
    obtain ⟨rfl, h0⟩ | h := tget_any h
    · cases h0; exact ok55
    obtain ⟨rfl, h0⟩ | h := tget_any h
    · cases h0; exact ok57
    obtain ⟨rfl, h0⟩ | h := tget_any h
    · cases h0; exact ok58
    obtain ⟨rfl, h0⟩ | h := tget_any h
    · cases h0; exact ok59
    obtain ⟨rfl, h0⟩ | h := tget_any h
    · cases h0; exact ok60
    obtain ⟨rfl, h0⟩ | h := tget_any h
    · cases h0; exact ok61
    obtain ⟨rfl, h0⟩ | h := tget_any h
    · cases h0; exact ok62
    obtain ⟨rfl, h0⟩ | h := tget_any h
    · cases h0; exact ok63
    obtain ⟨rfl, h0⟩ | h := tget_any h
    · cases h0; exact ok64
    obtain ⟨rfl, h0⟩ | h := tget_any h
    · cases h0; exact ok65
    obtain ⟨rfl, h0⟩ | h := tget_any h
    · cases h0; exact ok66
    obtain ⟨rfl, h0⟩ | h := tget_any h
    · cases h0; exact ok67
    obtain ⟨rfl, h0⟩ | h := tget_any h
    · cases h0; exact ok68
    obtain ⟨rfl, h0⟩ | h := tget_any h
    · cases h0; exact ok70
    obtain ⟨rfl, h0⟩ | h := tget_any h
    · cases h0; exact ok71
    obtain ⟨rfl, h0⟩ | h := tget_any h
    · cases h0; exact ok72
    obtain ⟨rfl, h0⟩ | h := tget_any h
    · cases h0; exact ok73
    obtain ⟨rfl, h0⟩ | h := tget_any h
    · cases h0; exact ok81
    obtain ⟨rfl, h0⟩ | h := tget_any h
    · cases h0; exact ok82
    obtain ⟨rfl, h0⟩ | h := tget_any h
    · cases h0; exact ok86
    obtain ⟨rfl, h0⟩ | h := tget_any h
    · cases h0; exact ok87
    obtain ⟨rfl, h0⟩ | h := tget_any h
    · cases h0; exact ok89
    obtain ⟨rfl, h0⟩ | h := tget_any h
    · cases h0; exact ok90
    obtain ⟨rfl, h0⟩ | h := tget_any h
    · cases h0; exact ok91
    obtain ⟨rfl, h0⟩ | h := tget_any h
    · cases h0; exact ok92
    obtain ⟨rfl, h0⟩ | h := tget_any h
    · cases h0; exact ok93
    obtain ⟨rfl, h0⟩ | h := tget_any h
    · cases h0; exact ok94
    obtain ⟨rfl, h0⟩ | h := tget_any h
    · cases h0; exact ok95
    obtain ⟨rfl, h0⟩ | h := tget_any h
    · cases h0; exact ok96
    obtain ⟨rfl, h0⟩ | h := tget_any h
    · cases h0; exact ok97
    obtain ⟨rfl, h0⟩ | h := tget_any h
    · cases h0; exact ok98
    obtain ⟨rfl, h0⟩ | h := tget_any h
    · cases h0; exact ok99
    obtain ⟨rfl, h0⟩ | h := tget_any h
    · cases h0; exact ok100
    obtain ⟨rfl, h0⟩ | h := tget_any h
    · cases h0; exact ok101
    obtain ⟨rfl, h0⟩ | h := tget_any h
    · cases h0; exact ok102
    obtain ⟨rfl, h0⟩ | h := tget_any h
    · cases h0; exact ok103
    obtain ⟨rfl, h0⟩ | h := tget_any h
    · cases h0; exact ok104
    obtain ⟨rfl, h0⟩ | h := tget_any h
    · cases h0; exact ok105
    obtain ⟨rfl, h0⟩ | h := tget_any h
    · cases h0; exact ok106
    obtain ⟨rfl, h0⟩ | h := tget_any h
    · cases h0; exact ok107
    obtain ⟨rfl, h0⟩ | h := tget_any h
    · cases h0; exact ok108
    obtain ⟨rfl, h0⟩ | h := tget_any h
    · cases h0; exact ok110
    obtain ⟨rfl, h0⟩ | h := tget_any h
    · cases h0; exact ok111
    obtain ⟨rfl, h0⟩ | h := tget_any h
    · cases h0; exact ok112
    obtain ⟨rfl, h0⟩ | h := tget_any h
    · cases h0; exact ok113
    obtain ⟨rfl, h0⟩ | h := tget_any h
    · cases h0; exact ok114
    obtain ⟨rfl, h0⟩ | h := tget_any h
    · cases h0; exact ok115
    obtain ⟨rfl, h0⟩ | h := tget_any h
    · cases h0; exact ok116
    obtain ⟨rfl, h0⟩ | h := tget_any h
    · cases h0; exact ok117
    obtain ⟨rfl, h0⟩ | h := tget_any h
    · cases h0; exact ok118
    obtain ⟨rfl, h0⟩ | h := tget_any h
    · cases h0; exact ok119
    obtain ⟨rfl, h0⟩ | h := tget_any h
    · cases h0; exact ok135
    obtain ⟨rfl, h0⟩ | h := tget_any h
    · cases h0; exact ok136
    obtain ⟨rfl, h0⟩ | h := tget_any h
    · cases h0; exact ok137
    obtain ⟨rfl, h0⟩ | h := tget_any h
    · cases h0; exact ok138
    obtain ⟨rfl, h0⟩ | h := tget_any h
    · cases h0; exact ok139
    obtain ⟨rfl, h0⟩ | h := tget_any h
    · cases h0; exact ok140
    obtain ⟨rfl, h0⟩ | h := tget_any h
    · cases h0; exact ok141
    obtain ⟨rfl, h0⟩ | h := tget_any h
    · cases h0; exact ok142
    obtain ⟨rfl, h0⟩ | h := tget_any h
    · cases h0; exact ok143
    obtain ⟨rfl, h0⟩ | h := tget_any h
    · cases h0; exact ok144
    obtain ⟨rfl, h0⟩ | h := tget_any h
    · cases h0; exact ok145
    obtain ⟨rfl, h0⟩ | h := tget_any h
    · cases h0; exact ok149
    obtain ⟨rfl, h0⟩ | h := tget_any h
    · cases h0; exact ok150
    obtain ⟨rfl, h0⟩ | h := tget_any h
    · cases h0; exact ok151
    obtain ⟨rfl, h0⟩ | h := tget_any h
    · cases h0; exact ok152
    obtain ⟨rfl, h0⟩ | h := tget_any h
    · cases h0; exact ok153
    obtain ⟨rfl, h0⟩ | h := tget_any h
    · cases h0; exact ok154
    obtain ⟨rfl, h0⟩ | h := tget_any h
    · cases h0; exact ok157
    obtain ⟨rfl, h0⟩ | h := tget_any h
    · cases h0; exact ok158
    obtain ⟨rfl, h0⟩ | h := tget_any h
    · cases h0; exact ok159
    obtain ⟨rfl, h0⟩ | h := tget_any h
    · cases h0; exact ok160
    obtain ⟨rfl, h0⟩ | h := tget_any h
    · cases h0; exact ok161
    obtain ⟨rfl, h0⟩ | h := tget_any h
    · cases h0; exact ok164
    obtain ⟨rfl, h0⟩ | h := tget_any h
    · cases h0; exact ok165
    obtain ⟨rfl, h0⟩ | h := tget_any h
    · cases h0; exact ok166
    obtain ⟨rfl, h0⟩ | h := tget_any h
    · cases h0; exact ok167
    obtain ⟨rfl, h0⟩ | h := tget_any h
    · cases h0; exact ok168
    obtain ⟨rfl, h0⟩ | h := tget_any h
    · cases h0; exact ok169
    obtain ⟨rfl, h0⟩ | h := tget_any h
    · cases h0; exact ok170
    obtain ⟨rfl, h0⟩ | h := tget_any h
    · cases h0; exact ok173
    obtain ⟨rfl, h0⟩ | h := tget_any h
    · cases h0; exact ok174
    obtain ⟨rfl, h0⟩ | h := tget_any h
    · cases h0; exact ok175
    obtain ⟨rfl, h0⟩ | h := tget_any h
    · cases h0; exact ok176
    obtain ⟨rfl, h0⟩ | h := tget_any h
    · cases h0; exact ok178
    obtain ⟨rfl, h0⟩ | h := tget_any h
    · cases h0; exact ok179
    obtain ⟨rfl, h0⟩ | h := tget_any h
    · cases h0; exact ok181
    obtain ⟨_, h0⟩ | h := tget_any h
    · cases h0
    obtain ⟨_, h0⟩ | h := tget_any h
    · cases h0
    obtain ⟨_, h0⟩ | h := tget_any h
    · cases h0
    obtain ⟨_, h0⟩ | h := tget_any h
    · cases h0
    obtain ⟨_, h0⟩ | h := tget_any h
    · cases h0
    cases h
  ext := by
    intro f d h
    obtain ⟨_, h0⟩ | h := tget_any h
    · cases h0
    obtain ⟨_, h0⟩ | h := tget_any h
    · cases h0
    obtain ⟨_, h0⟩ | h := tget_any h
    · cases h0
    obtain ⟨_, h0⟩ | h := tget_any h
    · cases h0
    obtain ⟨_, h0⟩ | h := tget_any h
    · cases h0
    obtain ⟨_, h0⟩ | h := tget_any h
    · cases h0
    obtain ⟨_, h0⟩ | h := tget_any h
    · cases h0
    obtain ⟨_, h0⟩ | h := tget_any h
    · cases h0
    obtain ⟨_, h0⟩ | h := tget_any h
    · cases h0
    obtain ⟨_, h0⟩ | h := tget_any h
    · cases h0
    obtain ⟨_, h0⟩ | h := tget_any h
    · cases h0
    obtain ⟨_, h0⟩ | h := tget_any h
    · cases h0
    obtain ⟨_, h0⟩ | h := tget_any h
    · cases h0
    obtain ⟨_, h0⟩ | h := tget_any h
    · cases h0
    obtain ⟨_, h0⟩ | h := tget_any h
    · cases h0
    obtain ⟨_, h0⟩ | h := tget_any h
    · cases h0
    obtain ⟨_, h0⟩ | h := tget_any h
    · cases h0
    obtain ⟨_, h0⟩ | h := tget_any h
    · cases h0
    obtain ⟨_, h0⟩ | h := tget_any h
    · cases h0
    obtain ⟨_, h0⟩ | h := tget_any h
    · cases h0
    obtain ⟨_, h0⟩ | h := tget_any h
    · cases h0
    obtain ⟨_, h0⟩ | h := tget_any h
    · cases h0
    obtain ⟨_, h0⟩ | h := tget_any h
    · cases h0
    obtain ⟨_, h0⟩ | h := tget_any h
    · cases h0
    obtain ⟨_, h0⟩ | h := tget_any h
    · cases h0
    obtain ⟨_, h0⟩ | h := tget_any h
    · cases h0
    obtain ⟨_, h0⟩ | h := tget_any h
    · cases h0
    obtain ⟨_, h0⟩ | h := tget_any h
    · cases h0
    obtain ⟨_, h0⟩ | h := tget_any h
    · cases h0
    obtain ⟨_, h0⟩ | h := tget_any h
    · cases h0
    obtain ⟨_, h0⟩ | h := tget_any h
    · cases h0
    obtain ⟨_, h0⟩ | h := tget_any h
    · cases h0
    obtain ⟨_, h0⟩ | h := tget_any h
    · cases h0
    obtain ⟨_, h0⟩ | h := tget_any h
    · cases h0
    obtain ⟨_, h0⟩ | h := tget_any h
    · cases h0
    obtain ⟨_, h0⟩ | h := tget_any h
    · cases h0
    obtain ⟨_, h0⟩ | h := tget_any h
    · cases h0
    obtain ⟨_, h0⟩ | h := tget_any h
    · cases h0
    obtain ⟨_, h0⟩ | h := tget_any h
    · cases h0
    obtain ⟨_, h0⟩ | h := tget_any h
    · cases h0
    obtain ⟨_, h0⟩ | h := tget_any h
    · cases h0
    obtain ⟨_, h0⟩ | h := tget_any h
    · cases h0
    obtain ⟨_, h0⟩ | h := tget_any h
    · cases h0
    obtain ⟨_, h0⟩ | h := tget_any h
    · cases h0
    obtain ⟨_, h0⟩ | h := tget_any h
    · cases h0
    obtain ⟨_, h0⟩ | h := tget_any h
    · cases h0
    obtain ⟨_, h0⟩ | h := tget_any h
    · cases h0
    obtain ⟨_, h0⟩ | h := tget_any h
    · cases h0
    obtain ⟨_, h0⟩ | h := tget_any h
    · cases h0
    obtain ⟨_, h0⟩ | h := tget_any h
    · cases h0
    obtain ⟨_, h0⟩ | h := tget_any h
    · cases h0
    obtain ⟨_, h0⟩ | h := tget_any h
    · cases h0
    obtain ⟨_, h0⟩ | h := tget_any h
    · cases h0
    obtain ⟨_, h0⟩ | h := tget_any h
    · cases h0
    obtain ⟨_, h0⟩ | h := tget_any h
    · cases h0
    obtain ⟨_, h0⟩ | h := tget_any h
    · cases h0
    obtain ⟨_, h0⟩ | h := tget_any h
    · cases h0
    obtain ⟨_, h0⟩ | h := tget_any h
    · cases h0
    obtain ⟨_, h0⟩ | h := tget_any h
    · cases h0
    obtain ⟨_, h0⟩ | h := tget_any h
    · cases h0
    obtain ⟨_, h0⟩ | h := tget_any h
    · cases h0
    obtain ⟨_, h0⟩ | h := tget_any h
    · cases h0
    obtain ⟨_, h0⟩ | h := tget_any h
    · cases h0
    obtain ⟨_, h0⟩ | h := tget_any h
    · cases h0
    obtain ⟨_, h0⟩ | h := tget_any h
    · cases h0
    obtain ⟨_, h0⟩ | h := tget_any h
    · cases h0
    obtain ⟨_, h0⟩ | h := tget_any h
    · cases h0
    obtain ⟨_, h0⟩ | h := tget_any h
    · cases h0
    obtain ⟨_, h0⟩ | h := tget_any h
    · cases h0
    obtain ⟨_, h0⟩ | h := tget_any h
    · cases h0
    obtain ⟨_, h0⟩ | h := tget_any h
    · cases h0
    obtain ⟨_, h0⟩ | h := tget_any h
    · cases h0
    obtain ⟨_, h0⟩ | h := tget_any h
    · cases h0
    obtain ⟨_, h0⟩ | h := tget_any h
    · cases h0
    obtain ⟨_, h0⟩ | h := tget_any h
    · cases h0
    obtain ⟨_, h0⟩ | h := tget_any h
    · cases h0
    obtain ⟨_, h0⟩ | h := tget_any h
    · cases h0
    obtain ⟨_, h0⟩ | h := tget_any h
    · cases h0
    obtain ⟨_, h0⟩ | h := tget_any h
    · cases h0
    obtain ⟨_, h0⟩ | h := tget_any h
    · cases h0
    obtain ⟨_, h0⟩ | h := tget_any h
    · cases h0
    obtain ⟨_, h0⟩ | h := tget_any h
    · cases h0
    obtain ⟨_, h0⟩ | h := tget_any h
    · cases h0
    obtain ⟨_, h0⟩ | h := tget_any h
    · cases h0
    obtain ⟨_, h0⟩ | h := tget_any h
    · cases h0
    obtain ⟨_, h0⟩ | h := tget_any h
    · cases h0
    obtain ⟨_, h0⟩ | h := tget_any h
    · cases h0
    obtain ⟨_, h0⟩ | h := tget_any h
    · cases h0
    obtain ⟨_, h0⟩ | h := tget_any h
    · cases h0
    obtain ⟨_, h0⟩ | h := tget_any h
    · cases h0
    obtain ⟨_, h0⟩ | h := tget_any h
    · cases h0
    obtain ⟨_, h0⟩ | h := tget_any h
    · cases h0
    obtain ⟨_, h0⟩ | h := tget_any h
    · cases h0
    obtain ⟨_, h0⟩ | h := tget_any h
    · cases h0
    obtain ⟨_, h0⟩ | h := tget_any h
    · cases h0
    obtain ⟨_, h0⟩ | h := tget_any h
    · cases h0
    obtain ⟨_, h0⟩ | h := tget_any h
    · cases h0
    obtain ⟨_, h0⟩ | h := tget_any h
    · cases h0
    obtain ⟨_, h0⟩ | h := tget_any h
    · cases h0
    obtain ⟨_, h0⟩ | h := tget_any h
    · cases h0
    obtain ⟨_, h0⟩ | h := tget_any h
    · cases h0
    obtain ⟨_, h0⟩ | h := tget_any h
    · cases h0
    obtain ⟨_, h0⟩ | h := tget_any h
    · cases h0
    obtain ⟨_, h0⟩ | h := tget_any h
    · cases h0
    obtain ⟨_, h0⟩ | h := tget_any h
    · cases h0
    obtain ⟨_, h0⟩ | h := tget_any h
    · cases h0
    obtain ⟨_, h0⟩ | h := tget_any h
    · cases h0
    obtain ⟨_, h0⟩ | h := tget_any h
    · cases h0
    obtain ⟨_, h0⟩ | h := tget_any h
    · cases h0
    obtain ⟨_, h0⟩ | h := tget_any h
    · cases h0
    obtain ⟨_, h0⟩ | h := tget_any h
    · cases h0
    obtain ⟨_, h0⟩ | h := tget_any h
    · cases h0
    obtain ⟨_, h0⟩ | h := tget_any h
    · cases h0
    obtain ⟨_, h0⟩ | h := tget_any h
    · cases h0
    obtain ⟨_, h0⟩ | h := tget_any h
    · cases h0
    obtain ⟨_, h0⟩ | h := tget_any h
    · cases h0
    obtain ⟨_, h0⟩ | h := tget_any h
    · cases h0
    obtain ⟨_, h0⟩ | h := tget_any h
    · cases h0
    obtain ⟨_, h0⟩ | h := tget_any h
    · cases h0
    obtain ⟨_, h0⟩ | h := tget_any h
    · cases h0
    obtain ⟨_, h0⟩ | h := tget_any h
    · cases h0
    obtain ⟨_, h0⟩ | h := tget_any h
    · cases h0
    obtain ⟨_, h0⟩ | h := tget_any h
    · cases h0
    obtain ⟨_, h0⟩ | h := tget_any h
    · cases h0
    obtain ⟨_, h0⟩ | h := tget_any h
    · cases h0
    obtain ⟨_, h0⟩ | h := tget_any h
    · cases h0
    obtain ⟨_, h0⟩ | h := tget_any h
    · cases h0
    obtain ⟨_, h0⟩ | h := tget_any h
    · cases h0
    obtain ⟨rfl, h0⟩ | h := tget_any h
    · cases h0; exact ext109
    cases h
  ct := by
    intro f d h
    obtain ⟨_, h0⟩ | h := tget_any h
    · cases h0
    obtain ⟨_, h0⟩ | h := tget_any h
    · cases h0
    obtain ⟨_, h0⟩ | h := tget_any h
    · cases h0
    obtain ⟨_, h0⟩ | h := tget_any h
    · cases h0
    obtain ⟨_, h0⟩ | h := tget_any h
    · cases h0
    obtain ⟨_, h0⟩ | h := tget_any h
    · cases h0
    obtain ⟨_, h0⟩ | h := tget_any h
    · cases h0
    obtain ⟨_, h0⟩ | h := tget_any h
    · cases h0
    obtain ⟨_, h0⟩ | h := tget_any h
    · cases h0
    obtain ⟨_, h0⟩ | h := tget_any h
    · cases h0
    obtain ⟨_, h0⟩ | h := tget_any h
    · cases h0
    obtain ⟨_, h0⟩ | h := tget_any h
    · cases h0
    obtain ⟨_, h0⟩ | h := tget_any h
    · cases h0
    obtain ⟨_, h0⟩ | h := tget_any h
    · cases h0
    obtain ⟨_, h0⟩ | h := tget_any h
    · cases h0
    obtain ⟨_, h0⟩ | h := tget_any h
    · cases h0
    obtain ⟨_, h0⟩ | h := tget_any h
    · cases h0
    obtain ⟨_, h0⟩ | h := tget_any h
    · cases h0
    obtain ⟨_, h0⟩ | h := tget_any h
    · cases h0
    obtain ⟨_, h0⟩ | h := tget_any h
    · cases h0
    obtain ⟨_, h0⟩ | h := tget_any h
    · cases h0
    obtain ⟨rfl, h0⟩ | h := tget_any h
    · cases h0; exact ok30
    obtain ⟨_, h0⟩ | h := tget_any h
    · cases h0
    obtain ⟨_, h0⟩ | h := tget_any h
    · cases h0
    obtain ⟨_, h0⟩ | h := tget_any h
    · cases h0
    obtain ⟨_, h0⟩ | h := tget_any h
    · cases h0
    obtain ⟨_, h0⟩ | h := tget_any h
    · cases h0
    obtain ⟨_, h0⟩ | h := tget_any h
    · cases h0
    obtain ⟨_, h0⟩ | h := tget_any h
    · cases h0
    obtain ⟨_, h0⟩ | h := tget_any h
    · cases h0
    obtain ⟨_, h0⟩ | h := tget_any h
    · cases h0
    obtain ⟨_, h0⟩ | h := tget_any h
    · cases h0
    obtain ⟨_, h0⟩ | h := tget_any h
    · cases h0
    obtain ⟨_, h0⟩ | h := tget_any h
    · cases h0
    obtain ⟨_, h0⟩ | h := tget_any h
    · cases h0
    obtain ⟨_, h0⟩ | h := tget_any h
    · cases h0
    obtain ⟨_, h0⟩ | h := tget_any h
    · cases h0
    obtain ⟨_, h0⟩ | h := tget_any h
    · cases h0
    obtain ⟨_, h0⟩ | h := tget_any h
    · cases h0
    obtain ⟨_, h0⟩ | h := tget_any h
    · cases h0
    obtain ⟨_, h0⟩ | h := tget_any h
    · cases h0
    obtain ⟨_, h0⟩ | h := tget_any h
    · cases h0
    obtain ⟨_, h0⟩ | h := tget_any h
    · cases h0
    obtain ⟨_, h0⟩ | h := tget_any h
    · cases h0
    obtain ⟨_, h0⟩ | h := tget_any h
    · cases h0
    obtain ⟨_, h0⟩ | h := tget_any h
    · cases h0
    obtain ⟨_, h0⟩ | h := tget_any h
    · cases h0
    obtain ⟨_, h0⟩ | h := tget_any h
    · cases h0
    obtain ⟨_, h0⟩ | h := tget_any h
    · cases h0
    obtain ⟨_, h0⟩ | h := tget_any h
    · cases h0
    obtain ⟨_, h0⟩ | h := tget_any h
    · cases h0
    obtain ⟨_, h0⟩ | h := tget_any h
    · cases h0
    obtain ⟨_, h0⟩ | h := tget_any h
    · cases h0
    obtain ⟨_, h0⟩ | h := tget_any h
    · cases h0
    obtain ⟨_, h0⟩ | h := tget_any h
    · cases h0
    obtain ⟨_, h0⟩ | h := tget_any h
    · cases h0
    obtain ⟨_, h0⟩ | h := tget_any h
    · cases h0
    obtain ⟨_, h0⟩ | h := tget_any h
    · cases h0
    obtain ⟨_, h0⟩ | h := tget_any h
    · cases h0
    obtain ⟨_, h0⟩ | h := tget_any h
    · cases h0
    obtain ⟨_, h0⟩ | h := tget_any h
    · cases h0
    obtain ⟨_, h0⟩ | h := tget_any h
    · cases h0
    obtain ⟨_, h0⟩ | h := tget_any h
    · cases h0
    obtain ⟨_, h0⟩ | h := tget_any h
    · cases h0
    obtain ⟨_, h0⟩ | h := tget_any h
    · cases h0
    obtain ⟨_, h0⟩ | h := tget_any h
    · cases h0
    obtain ⟨_, h0⟩ | h := tget_any h
    · cases h0
    obtain ⟨_, h0⟩ | h := tget_any h
    · cases h0
    obtain ⟨_, h0⟩ | h := tget_any h
    · cases h0
    obtain ⟨_, h0⟩ | h := tget_any h
    · cases h0
    obtain ⟨_, h0⟩ | h := tget_any h
    · cases h0
    obtain ⟨_, h0⟩ | h := tget_any h
    · cases h0
    obtain ⟨_, h0⟩ | h := tget_any h
    · cases h0
    obtain ⟨_, h0⟩ | h := tget_any h
    · cases h0
    obtain ⟨_, h0⟩ | h := tget_any h
    · cases h0
    obtain ⟨_, h0⟩ | h := tget_any h
    · cases h0
    obtain ⟨_, h0⟩ | h := tget_any h
    · cases h0
    obtain ⟨_, h0⟩ | h := tget_any h
    · cases h0
    obtain ⟨_, h0⟩ | h := tget_any h
    · cases h0
    obtain ⟨_, h0⟩ | h := tget_any h
    · cases h0
    obtain ⟨_, h0⟩ | h := tget_any h
    · cases h0
    obtain ⟨_, h0⟩ | h := tget_any h
    · cases h0
    obtain ⟨_, h0⟩ | h := tget_any h
    · cases h0
    obtain ⟨_, h0⟩ | h := tget_any h
    · cases h0
    obtain ⟨_, h0⟩ | h := tget_any h
    · cases h0
    obtain ⟨_, h0⟩ | h := tget_any h
    · cases h0
    obtain ⟨_, h0⟩ | h := tget_any h
    · cases h0
    obtain ⟨_, h0⟩ | h := tget_any h
    · cases h0
    obtain ⟨_, h0⟩ | h := tget_any h
    · cases h0
    obtain ⟨_, h0⟩ | h := tget_any h
    · cases h0
    obtain ⟨_, h0⟩ | h := tget_any h
    · cases h0
    obtain ⟨_, h0⟩ | h := tget_any h
    · cases h0
    obtain ⟨_, h0⟩ | h := tget_any h
    · cases h0
    obtain ⟨_, h0⟩ | h := tget_any h
    · cases h0
    obtain ⟨_, h0⟩ | h := tget_any h
    · cases h0
    obtain ⟨_, h0⟩ | h := tget_any h
    · cases h0
    obtain ⟨_, h0⟩ | h := tget_any h
    · cases h0
    obtain ⟨_, h0⟩ | h := tget_any h
    · cases h0
    obtain ⟨_, h0⟩ | h := tget_any h
    · cases h0
    obtain ⟨_, h0⟩ | h := tget_any h
    · cases h0
    obtain ⟨_, h0⟩ | h := tget_any h
    · cases h0
    obtain ⟨_, h0⟩ | h := tget_any h
    · cases h0
    obtain ⟨_, h0⟩ | h := tget_any h
    · cases h0
    obtain ⟨_, h0⟩ | h := tget_any h
    · cases h0
    obtain ⟨_, h0⟩ | h := tget_any h
    · cases h0
    obtain ⟨_, h0⟩ | h := tget_any h
    · cases h0
    obtain ⟨_, h0⟩ | h := tget_any h
    · cases h0
    obtain ⟨_, h0⟩ | h := tget_any h
    · cases h0
    obtain ⟨_, h0⟩ | h := tget_any h
    · cases h0
    obtain ⟨_, h0⟩ | h := tget_any h
    · cases h0
    obtain ⟨_, h0⟩ | h := tget_any h
    · cases h0
    obtain ⟨_, h0⟩ | h := tget_any h
    · cases h0
    obtain ⟨_, h0⟩ | h := tget_any h
    · cases h0
    obtain ⟨_, h0⟩ | h := tget_any h
    · cases h0
    obtain ⟨_, h0⟩ | h := tget_any h
    · cases h0
    obtain ⟨_, h0⟩ | h := tget_any h
    · cases h0
    obtain ⟨_, h0⟩ | h := tget_any h
    · cases h0
    obtain ⟨_, h0⟩ | h := tget_any h
    · cases h0
    obtain ⟨_, h0⟩ | h := tget_any h
    · cases h0
    obtain ⟨_, h0⟩ | h := tget_any h
    · cases h0
    obtain ⟨_, h0⟩ | h := tget_any h
    · cases h0
    obtain ⟨_, h0⟩ | h := tget_any h
    · cases h0
    obtain ⟨_, h0⟩ | h := tget_any h
    · cases h0
    obtain ⟨_, h0⟩ | h := tget_any h
    · cases h0
    obtain ⟨_, h0⟩ | h := tget_any h
    · cases h0
    obtain ⟨_, h0⟩ | h := tget_any h
    · cases h0
    obtain ⟨_, h0⟩ | h := tget_any h
    · cases h0
    obtain ⟨_, h0⟩ | h := tget_any h
    · cases h0
    obtain ⟨_, h0⟩ | h := tget_any h
    · cases h0
    cases h
  mr := by
    intro f d h
    obtain ⟨_, h0⟩ | h := tget_any h
    · cases h0
    obtain ⟨_, h0⟩ | h := tget_any h
    · cases h0
    obtain ⟨_, h0⟩ | h := tget_any h
    · cases h0
    obtain ⟨_, h0⟩ | h := tget_any h
    · cases h0
    obtain ⟨_, h0⟩ | h := tget_any h
    · cases h0
    obtain ⟨_, h0⟩ | h := tget_any h
    · cases h0
    obtain ⟨_, h0⟩ | h := tget_any h
    · cases h0
    obtain ⟨_, h0⟩ | h := tget_any h
    · cases h0
    obtain ⟨_, h0⟩ | h := tget_any h
    · cases h0
    obtain ⟨_, h0⟩ | h := tget_any h
    · cases h0
    obtain ⟨_, h0⟩ | h := tget_any h
    · cases h0
    obtain ⟨_, h0⟩ | h := tget_any h
    · cases h0
    obtain ⟨_, h0⟩ | h := tget_any h
    · cases h0
    obtain ⟨_, h0⟩ | h := tget_any h
    · cases h0
    obtain ⟨_, h0⟩ | h := tget_any h
    · cases h0
    obtain ⟨_, h0⟩ | h := tget_any h
    · cases h0
    obtain ⟨_, h0⟩ | h := tget_any h
    · cases h0
    obtain ⟨_, h0⟩ | h := tget_any h
    · cases h0
    obtain ⟨rfl, h0⟩ | h := tget_any h
    · cases h0; exact ok27
    obtain ⟨_, h0⟩ | h := tget_any h
    · cases h0
    obtain ⟨_, h0⟩ | h := tget_any h
    · cases h0
    obtain ⟨_, h0⟩ | h := tget_any h
    · cases h0
    obtain ⟨_, h0⟩ | h := tget_any h
    · cases h0
    obtain ⟨_, h0⟩ | h := tget_any h
    · cases h0
    obtain ⟨_, h0⟩ | h := tget_any h
    · cases h0
    obtain ⟨_, h0⟩ | h := tget_any h
    · cases h0
    obtain ⟨_, h0⟩ | h := tget_any h
    · cases h0
    obtain ⟨_, h0⟩ | h := tget_any h
    · cases h0
    obtain ⟨_, h0⟩ | h := tget_any h
    · cases h0
    obtain ⟨_, h0⟩ | h := tget_any h
    · cases h0
    obtain ⟨_, h0⟩ | h := tget_any h
    · cases h0
    obtain ⟨_, h0⟩ | h := tget_any h
    · cases h0
    obtain ⟨_, h0⟩ | h := tget_any h
    · cases h0
    obtain ⟨_, h0⟩ | h := tget_any h
    · cases h0
    obtain ⟨_, h0⟩ | h := tget_any h
    · cases h0
    obtain ⟨_, h0⟩ | h := tget_any h
    · cases h0
    obtain ⟨_, h0⟩ | h := tget_any h
    · cases h0
    obtain ⟨_, h0⟩ | h := tget_any h
    · cases h0
    obtain ⟨_, h0⟩ | h := tget_any h
    · cases h0
    obtain ⟨_, h0⟩ | h := tget_any h
    · cases h0
    obtain ⟨_, h0⟩ | h := tget_any h
    · cases h0
    obtain ⟨_, h0⟩ | h := tget_any h
    · cases h0
    obtain ⟨_, h0⟩ | h := tget_any h
    · cases h0
    obtain ⟨_, h0⟩ | h := tget_any h
    · cases h0
    obtain ⟨_, h0⟩ | h := tget_any h
    · cases h0
    obtain ⟨_, h0⟩ | h := tget_any h
    · cases h0
    obtain ⟨_, h0⟩ | h := tget_any h
    · cases h0
    obtain ⟨_, h0⟩ | h := tget_any h
    · cases h0
    obtain ⟨_, h0⟩ | h := tget_any h
    · cases h0
    obtain ⟨_, h0⟩ | h := tget_any h
    · cases h0
    obtain ⟨_, h0⟩ | h := tget_any h
    · cases h0
    obtain ⟨_, h0⟩ | h := tget_any h
    · cases h0
    obtain ⟨_, h0⟩ | h := tget_any h
    · cases h0
    obtain ⟨_, h0⟩ | h := tget_any h
    · cases h0
    obtain ⟨_, h0⟩ | h := tget_any h
    · cases h0
    obtain ⟨_, h0⟩ | h := tget_any h
    · cases h0
    obtain ⟨_, h0⟩ | h := tget_any h
    · cases h0
    obtain ⟨_, h0⟩ | h := tget_any h
    · cases h0
    obtain ⟨_, h0⟩ | h := tget_any h
    · cases h0
    obtain ⟨_, h0⟩ | h := tget_any h
    · cases h0
    obtain ⟨_, h0⟩ | h := tget_any h
    · cases h0
    obtain ⟨_, h0⟩ | h := tget_any h
    · cases h0
    obtain ⟨_, h0⟩ | h := tget_any h
    · cases h0
    obtain ⟨_, h0⟩ | h := tget_any h
    · cases h0
    obtain ⟨_, h0⟩ | h := tget_any h
    · cases h0
    obtain ⟨_, h0⟩ | h := tget_any h
    · cases h0
    obtain ⟨_, h0⟩ | h := tget_any h
    · cases h0
    obtain ⟨_, h0⟩ | h := tget_any h
    · cases h0
    obtain ⟨_, h0⟩ | h := tget_any h
    · cases h0
    obtain ⟨_, h0⟩ | h := tget_any h
    · cases h0
    obtain ⟨_, h0⟩ | h := tget_any h
    · cases h0
    obtain ⟨_, h0⟩ | h := tget_any h
    · cases h0
    obtain ⟨_, h0⟩ | h := tget_any h
    · cases h0
    obtain ⟨_, h0⟩ | h := tget_any h
    · cases h0
    obtain ⟨_, h0⟩ | h := tget_any h
    · cases h0
    obtain ⟨_, h0⟩ | h := tget_any h
    · cases h0
    obtain ⟨_, h0⟩ | h := tget_any h
    · cases h0
    obtain ⟨_, h0⟩ | h := tget_any h
    · cases h0
    obtain ⟨_, h0⟩ | h := tget_any h
    · cases h0
    obtain ⟨_, h0⟩ | h := tget_any h
    · cases h0
    obtain ⟨_, h0⟩ | h := tget_any h
    · cases h0
    obtain ⟨_, h0⟩ | h := tget_any h
    · cases h0
    obtain ⟨_, h0⟩ | h := tget_any h
    · cases h0
    obtain ⟨_, h0⟩ | h := tget_any h
    · cases h0
    obtain ⟨_, h0⟩ | h := tget_any h
    · cases h0
    obtain ⟨_, h0⟩ | h := tget_any h
    · cases h0
    obtain ⟨_, h0⟩ | h := tget_any h
    · cases h0
    obtain ⟨_, h0⟩ | h := tget_any h
    · cases h0
    obtain ⟨_, h0⟩ | h := tget_any h
    · cases h0
    obtain ⟨_, h0⟩ | h := tget_any h
    · cases h0
    obtain ⟨_, h0⟩ | h := tget_any h
    · cases h0
    obtain ⟨_, h0⟩ | h := tget_any h
    · cases h0
    obtain ⟨_, h0⟩ | h := tget_any h
    · cases h0
    obtain ⟨_, h0⟩ | h := tget_any h
    · cases h0
    obtain ⟨_, h0⟩ | h := tget_any h
    · cases h0
    obtain ⟨_, h0⟩ | h := tget_any h
    · cases h0
    obtain ⟨_, h0⟩ | h := tget_any h
    · cases h0
    obtain ⟨_, h0⟩ | h := tget_any h
    · cases h0
    obtain ⟨_, h0⟩ | h := tget_any h
    · cases h0
    obtain ⟨_, h0⟩ | h := tget_any h
    · cases h0
    obtain ⟨_, h0⟩ | h := tget_any h
    · cases h0
    obtain ⟨_, h0⟩ | h := tget_any h
    · cases h0
    obtain ⟨_, h0⟩ | h := tget_any h
    · cases h0
    obtain ⟨_, h0⟩ | h := tget_any h
    · cases h0
    obtain ⟨_, h0⟩ | h := tget_any h
    · cases h0
    obtain ⟨_, h0⟩ | h := tget_any h
    · cases h0
    obtain ⟨_, h0⟩ | h := tget_any h
    · cases h0
    obtain ⟨_, h0⟩ | h := tget_any h
    · cases h0
    obtain ⟨_, h0⟩ | h := tget_any h
    · cases h0
    obtain ⟨_, h0⟩ | h := tget_any h
    · cases h0
    obtain ⟨_, h0⟩ | h := tget_any h
    · cases h0
    obtain ⟨_, h0⟩ | h := tget_any h
    · cases h0
    obtain ⟨_, h0⟩ | h := tget_any h
    · cases h0
    obtain ⟨_, h0⟩ | h := tget_any h
    · cases h0
    obtain ⟨_, h0⟩ | h := tget_any h
    · cases h0
    obtain ⟨_, h0⟩ | h := tget_any h
    · cases h0
    obtain ⟨_, h0⟩ | h := tget_any h
    · cases h0
    obtain ⟨_, h0⟩ | h := tget_any h
    · cases h0
    obtain ⟨_, h0⟩ | h := tget_any h
    · cases h0
    obtain ⟨_, h0⟩ | h := tget_any h
    · cases h0
    obtain ⟨_, h0⟩ | h := tget_any h
    · cases h0
    obtain ⟨_, h0⟩ | h := tget_any h
    · cases h0
    obtain ⟨_, h0⟩ | h := tget_any h
    · cases h0
    obtain ⟨_, h0⟩ | h := tget_any h
    · cases h0
    obtain ⟨_, h0⟩ | h := tget_any h
    · cases h0
    obtain ⟨_, h0⟩ | h := tget_any h
    · cases h0
    obtain ⟨_, h0⟩ | h := tget_any h
    · cases h0
    obtain ⟨_, h0⟩ | h := tget_any h
    · cases h0
    obtain ⟨_, h0⟩ | h := tget_any h
    · cases h0
    cases h
  mix := mix
  rk := fun f r ct => RkOf_gl (s := sys0) (t := sys) rfl
theorem tg4 : tget T 4 = some (.fn c4) := by rfl
theorem tg5 : tget T 5 = some (.fn c5) := by rfl
theorem tg6 : tget T 6 = some (.fn c6) := by rfl
theorem tg7 : tget T 7 = some (.fn c7) := by rfl
theorem tg9 : tget T 9 = some (.fn c9) := by rfl
theorem tg10 : tget T 10 = some (.fn c10) := by rfl
theorem tg11 : tget T 11 = some (.fn c11) := by rfl
theorem tg13 : tget T 13 = some (.fn c13) := by rfl
theorem tg15 : tget T 15 = some (.fn c15) := by rfl
theorem tg17 : tget T 17 = some (.fn c17) := by rfl
theorem tg19 : tget T 19 = some (.fn c19) := by rfl
theorem tg20 : tget T 20 = some (.fn c20) := by rfl
theorem tg21 : tget T 21 = some (.fn c21) := by rfl
theorem tg22 : tget T 22 = some (.fn c22) := by rfl
theorem tg23 : tget T 23 = some (.fn c23) := by rfl
theorem tg24 : tget T 24 = some (.fn c24) := by rfl
theorem tg25 : tget T 25 = some (.fn c25) := by rfl
theorem tg26 : tget T 26 = some (.fn c26) := by rfl
theorem tg27 : tget T 27 = some (.mr c27) := by rfl
theorem tg28 : tget T 28 = some (.fn c28) := by rfl
theorem tg29 : tget T 29 = some (.fn c29) := by rfl
theorem tg30 : tget T 30 = some (.ct c30) := by rfl
theorem tg31 : tget T 31 = some (.fn c31) := by rfl
theorem tg32 : tget T 32 = some (.fn c32) := by rfl
theorem tg33 : tget T 33 = some (.fn c33) := by rfl
theorem tg34 : tget T 34 = some (.fn c34) := by rfl
theorem tg37 : tget T 37 = some (.fn c37) := by rfl
theorem tg38 : tget T 38 = some (.fn c38) := by rfl
theorem tg39 : tget T 39 = some (.fn c39) := by rfl
theorem tg40 : tget T 40 = some (.fn c40) := by rfl
theorem tg41 : tget T 41 = some (.fn c41) := by rfl
theorem tg42 : tget T 42 = some (.fn c42) := by rfl
theorem tg43 : tget T 43 = some (.fn c43) := by rfl
theorem tg44 : tget T 44 = some (.fn c44) := by rfl
theorem tg48 : tget T 48 = some (.fn c48) := by rfl
theorem tg49 : tget T 49 = some (.fn c49) := by rfl
theorem tg50 : tget T 50 = some (.fn c50) := by rfl
theorem tg55 : tget T 55 = some (.fn c55) := by rfl
theorem tg57 : tget T 57 = some (.fn c57) := by rfl
theorem tg58 : tget T 58 = some (.fn c58) := by rfl
theorem tg59 : tget T 59 = some (.fn c59) := by rfl
theorem tg60 : tget T 60 = some (.fn c60) := by rfl
theorem tg61 : tget T 61 = some (.fn c61) := by rfl
theorem tg62 : tget T 62 = some (.fn c62) := by rfl
theorem tg63 : tget T 63 = some (.fn c63) := by rfl
theorem tg64 : tget T 64 = some (.fn c64) := by rfl
theorem tg65 : tget T 65 = some (.fn c65) := by rfl
theorem tg66 : tget T 66 = some (.fn c66) := by rfl
theorem tg67 : tget T 67 = some (.fn c67) := by rfl
theorem tg68 : tget T 68 = some (.fn c68) := by rfl
theorem tg70 : tget T 70 = some (.fn c70) := by rfl
theorem tg71 : tget T 71 = some (.fn c71) := by rfl
theorem tg72 : tget T 72 = some (.fn c72) := by rfl
theorem tg73 : tget T 73 = some (.fn c73) := by rfl
theorem tg81 : tget T 81 = some (.fn c81) := by rfl
theorem tg82 : tget T 82 = some (.fn c82) := by rfl
theorem tg86 : tget T 86 = some (.fn c86) := by rfl
theorem tg87 : tget T 87 = some (.fn c87) := by rfl
theorem tg89 : tget T 89 = some (.fn c89) := by rfl
theorem tg90 : tget T 90 = some (.fn c90) := by rfl
theorem tg91 : tget T 91 = some (.fn c91) := by rfl
theorem tg92 : tget T 92 = some (.fn c92) := by rfl
theorem tg93 : tget T 93 = some (.fn c93) := by rfl
theorem tg94 : tget T 94 = some (.fn c94) := by rfl
theorem tg95 : tget T 95 = some (.fn c95) := by rfl
theorem tg96 : tget T 96 = some (.fn c96) := by rfl
theorem tg97 : tget T 97 = some (.fn c97) := by rfl
theorem tg98 : tget T 98 = some (.fn c98) := by rfl
theorem tg99 : tget T 99 = some (.fn c99) := by rfl
theorem tg100 : tget T 100 = some (.fn c100) := by rfl
theorem tg101 : tget T 101 = some (.fn c101) := by rfl
theorem tg102 : tget T 102 = some (.fn c102) := by rfl
theorem tg103 : tget T 103 = some (.fn c103) := by rfl
theorem tg104 : tget T 104 = some (.fn c104) := by rfl
theorem tg105 : tget T 105 = some (.fn c105) := by rfl
theorem tg106 : tget T 106 = some (.fn c106) := by rfl
theorem tg107 : tget T 107 = some (.fn c107) := by rfl
theorem tg108 : tget T 108 = some (.fn c108) := by rfl
theorem tg110 : tget T 110 = some (.fn c110) := by rfl
theorem tg111 : tget T 111 = some (.fn c111) := by rfl
theorem tg112 : tget T 112 = some (.fn c112) := by rfl
theorem tg113 : tget T 113 = some (.fn c113) := by rfl
theorem tg114 : tget T 114 = some (.fn c114) := by rfl
theorem tg115 : tget T 115 = some (.fn c115) := by rfl
theorem tg116 : tget T 116 = some (.fn c116) := by rfl
theorem tg117 : tget T 117 = some (.fn c117) := by rfl
theorem tg118 : tget T 118 = some (.fn c118) := by rfl
theorem tg119 : tget T 119 = some (.fn c119) := by rfl
theorem tg135 : tget T 135 = some (.fn c135) := by rfl
theorem tg136 : tget T 136 = some (.fn c136) := by rfl
theorem tg137 : tget T 137 = some (.fn c137) := by rfl
theorem tg138 : tget T 138 = some (.fn c138) := by rfl
theorem tg139 : tget T 139 = some (.fn c139) := by rfl
theorem tg140 : tget T 140 = some (.fn c140) := by rfl
theorem tg141 : tget T 141 = some (.fn c141) := by rfl
theorem tg142 : tget T 142 = some (.fn c142) := by rfl
theorem tg143 : tget T 143 = some (.fn c143) := by rfl
theorem tg144 : tget T 144 = some (.fn c144) := by rfl
theorem tg145 : tget T 145 = some (.fn c145) := by rfl
theorem tg149 : tget T 149 = some (.fn c149) := by rfl
theorem tg150 : tget T 150 = some (.fn c150) := by rfl
theorem tg151 : tget T 151 = some (.fn c151) := by rfl
theorem tg152 : tget T 152 = some (.fn c152) := by rfl
theorem tg153 : tget T 153 = some (.fn c153) := by rfl
theorem tg154 : tget T 154 = some (.fn c154) := by rfl
theorem tg157 : tget T 157 = some (.fn c157) := by rfl
theorem tg158 : tget T 158 = some (.fn c158) := by rfl
theorem tg159 : tget T 159 = some (.fn c159) := by rfl
theorem tg160 : tget T 160 = some (.fn c160) := by rfl
theorem tg161 : tget T 161 = some (.fn c161) := by rfl
theorem tg164 : tget T 164 = some (.fn c164) := by rfl
theorem tg165 : tget T 165 = some (.fn c165) := by rfl
theorem tg166 : tget T 166 = some (.fn c166) := by rfl
theorem tg167 : tget T 167 = some (.fn c167) := by rfl
theorem tg168 : tget T 168 = some (.fn c168) := by rfl
theorem tg169 : tget T 169 = some (.fn c169) := by rfl
theorem tg170 : tget T 170 = some (.fn c170) := by rfl
theorem tg173 : tget T 173 = some (.fn c173) := by rfl
theorem tg174 : tget T 174 = some (.fn c174) := by rfl
theorem tg175 : tget T 175 = some (.fn c175) := by rfl
theorem tg176 : tget T 176 = some (.fn c176) := by rfl
theorem tg178 : tget T 178 = some (.fn c178) := by rfl
theorem tg179 : tget T 179 = some (.fn c179) := by rfl
theorem tg181 : tget T 181 = some (.fn c181) := by rfl
theorem tg1003100 : tget T 1003100 = some (.rd r1003100) := by rfl
theorem tg1003800 : tget T 1003800 = some (.rd r1003800) := by rfl
theorem tg1006200 : tget T 1006200 = some (.rd r1006200) := by rfl
theorem tg1006300 : tget T 1006300 = some (.rd r1006300) := by rfl
end Go.Proofs.YtkobnfjeehnhlaaGreatDoor.Fi
