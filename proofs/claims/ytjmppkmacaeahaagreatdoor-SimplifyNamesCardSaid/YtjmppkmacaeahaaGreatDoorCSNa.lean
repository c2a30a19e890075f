/- The code of the functions, in the interpreter's form: the other half, and the table. -/
import Derived.Test.YtjmppkmacaeahaaGreatDoorCSNa1
import Derived.Test.YtjmppkmacaeahaaGreatDoorCSNj
import Derived.Test.YtjmppkmacaeahaaGreatDoorFIJoin
set_option linter.all false
set_option linter.unusedSimpArgs false
set_option linter.unusedVariables false
set_option linter.unusedSectionVars false
namespace Go.Proofs.YtjmppkmacaeahaaGreatDoor.Fi
open Go.FI
/-- slices.ContainsFunc[[]retarget/api.Term,retarget/api.Term] -/
def c122 : FI.Fn := { body := (.sq (.rg none [⟨some 4, none, .mv (.c (.bool false)), []⟩] [0, 1]) (.sq (.rg none [⟨some 5, none, .mv (.t 0), []⟩, ⟨some 6, none, .mv (.t 1), []⟩, ⟨some 7, none, .cl 180 [(.t 5), (.t 6)], []⟩, ⟨some 8, none, .bo .geq (.t 7) (.c (.int .i64 0)), []⟩, ⟨some 4, none, .mv (.t 8), []⟩] [4]) .rt)), np := 2, res := [.t 4], mode := .isf }
/-- retarget/term.widths$1 -/
def c123 : FI.Fn := { body := (.sq (.rg none [⟨some 2, none, .bx 6 (.t 0), []⟩, ⟨some 3, none, .mv (.c (.bool false)), []⟩] [1, 2]) (.sq (.rg none [⟨some 4, none, .fa 1 (.t 2), []⟩, ⟨some 5, none, .ld none (.t 4), []⟩, ⟨some 6, none, .ld none (.t 1), []⟩, ⟨some 7, none, .bo .neq (.t 5) (.t 6), []⟩, ⟨some 3, none, .mv (.t 7), []⟩] [3]) .rt)), np := 2, res := [.t 3], mode := .iso }
/-- retarget/term.loadable -/
def c124 : FI.Fn := { body := (.sq (.rg none [⟨some 2, none, .mv (.c (.bool false)), []⟩] [0]) (.sq (.rg none [⟨some 3, none, .mv (.t 0), []⟩, ⟨some 4, none, .bo .eql (.t 3) (.c (.int .i64 8)), []⟩, ⟨some 5, none, .mv (.t 4), []⟩, ⟨some 6, some (5, false), .mv (.t 0), []⟩, ⟨some 7, some (5, false), .bo .eql (.t 6) (.c (.int .i64 16)), []⟩, ⟨some 8, none, .pk (.t 5) (.c (.bool true)) (.t 7), []⟩, ⟨some 9, none, .mv (.t 8), []⟩, ⟨some 10, some (9, false), .mv (.t 0), []⟩, ⟨some 11, some (9, false), .bo .eql (.t 10) (.c (.int .i64 32)), []⟩, ⟨some 12, none, .pk (.t 9) (.c (.bool true)) (.t 11), []⟩, ⟨some 13, none, .mv (.t 12), []⟩, ⟨some 14, some (13, false), .mv (.t 0), []⟩, ⟨some 15, some (13, false), .bo .eql (.t 14) (.c (.int .i64 64)), []⟩, ⟨some 16, none, .pk (.t 13) (.c (.bool true)) (.t 15), []⟩, ⟨some 2, none, .mv (.t 16), []⟩] [2]) .rt)), np := 1, res := [.t 2], mode := .iso }
def b125_0 : C := (.sq (.sq (.rg (some [0, 1, 2, 3, 4, 5, 6, 7, 8, 9, 10, 11, 12, 13, 14, 15, 16]) [⟨some 18, none, .mv (.t 9), []⟩, ⟨some 19, none, .mv (.t 1), []⟩, ⟨some 20, none, .bo .gtr (.t 18) (.t 19), []⟩, ⟨some 21, none, .mv (.t 20), []⟩, ⟨some 22, some (21, true), .mv (.t 3), []⟩, ⟨some 23, some (21, true), .mv (.t 0), []⟩, ⟨some 24, some (21, true), .mv (.t 9), []⟩, ⟨some 25, some (21, true), .ia 3 (.t 23) (.t 24), []⟩, ⟨some 26, some (21, true), .ld (some 3) (.t 25), []⟩, ⟨some 27, some (21, true), .mv (.t 0), []⟩, ⟨some 28, some (21, true), .mv (.t 9), []⟩, ⟨some 29, some (21, true), .bo .sub (.t 28) (.c (.int .i64 1)), []⟩, ⟨some 30, some (21, true), .ia 3 (.t 27) (.t 29), []⟩, ⟨some 31, some (21, true), .ld (some 3) (.t 30), []⟩, ⟨some 32, some (21, true), .cw (.t 22) [(.t 26), (.t 31)], []⟩, ⟨some 33, some (21, true), .bo .lss (.t 32) (.c (.int .i64 0)), []⟩, ⟨some 34, none, .pk (.t 21) (.t 33) (.c (.bool false)), []⟩] [0, 1, 2, 3, 8, 9, 34]) (.cd (.t 34) .sk (.xt 2))) (.sq (.bl 3 (.rg (some [0, 1, 2, 3, 4, 5, 6, 7, 8, 9, 10, 11, 12, 13, 14, 15, 16, 17]) [⟨some 37, none, .mv (.t 0), []⟩, ⟨some 38, none, .mv (.t 9), []⟩, ⟨some 39, none, .mv (.t 0), []⟩, ⟨some 40, none, .mv (.t 9), []⟩, ⟨some 41, none, .bo .sub (.t 40) (.c (.int .i64 1)), []⟩, ⟨some 42, none, .mv (.t 0), []⟩, ⟨some 43, none, .mv (.t 9), []⟩, ⟨some 44, none, .bo .sub (.t 43) (.c (.int .i64 1)), []⟩, ⟨some 45, none, .ia 3 (.t 42) (.t 44), []⟩, ⟨some 46, none, .ld (some 3) (.t 45), []⟩, ⟨some 47, none, .mv (.t 0), []⟩, ⟨some 48, none, .mv (.t 9), []⟩, ⟨some 49, none, .ia 3 (.t 47) (.t 48), []⟩, ⟨some 50, none, .ld (some 3) (.t 49), []⟩, ⟨some 51, none, .ia 3 (.t 37) (.t 38), []⟩, ⟨none, none, .st 3 (.t 51) (.t 46), []⟩, ⟨some 52, none, .ia 3 (.t 39) (.t 41), []⟩, ⟨none, none, .st 3 (.t 52) (.t 50), []⟩] [0, 1, 2, 3, 8, 9])) (.rg none [⟨some 35, none, .mv (.t 9), []⟩, ⟨some 36, none, .bo .sub (.t 35) (.c (.int .i64 1)), []⟩, ⟨some 9, none, .mv (.t 36), []⟩] [0, 1, 2, 3, 8, 9])))
def k125_1 : C := (.rg none [⟨some 15, none, .mv (.t 8), []⟩, ⟨some 16, none, .bo .add (.t 15) (.c (.int .i64 1)), []⟩, ⟨some 8, none, .mv (.t 16), []⟩] [0, 1, 2, 3, 8])
def b125_2 : C := (.sq (.sq (.rg none [⟨some 12, none, .mv (.t 8), []⟩, ⟨some 13, none, .mv (.t 2), []⟩, ⟨some 14, none, .bo .lss (.t 12) (.t 13), []⟩] [0, 1, 2, 3, 8, 14]) (.cd (.t 14) .sk (.xt 0))) (.sq (.bl 1 (.sq (.rg none [⟨some 17, none, .mv (.t 8), []⟩, ⟨some 9, none, .mv (.t 17), []⟩] [0, 1, 2, 3, 8, 9]) (.bl 2 (.lp true b125_0)))) k125_1))
/-- slices.insertionSortCmpFunc[retarget/api.Binding] -/
def c125 : FI.Fn := { body := (.sq (.rg none [⟨some 10, none, .mv (.t 1), []⟩, ⟨some 11, none, .bo .add (.t 10) (.c (.int .i64 1)), []⟩, ⟨some 8, none, .mv (.t 11), []⟩] [0, 1, 2, 3, 8]) (.bl 0 (.lp true b125_2))), np := 4, res := [], mode := .iso }
def b126_0 : C := (.sq (.sq (.rg none [⟨some 20, none, .mv (.t 11), []⟩, ⟨some 21, none, .bo .geq (.t 20) (.c (.int .i64 0)), []⟩] [0, 3, 8, 9, 10, 11, 21]) (.cd (.t 21) .sk (.xt 0))) (.sq (.bl 1 (.rg none [⟨some 24, none, .mv (.t 0), []⟩, ⟨some 25, none, .mv (.t 11), []⟩, ⟨some 26, none, .mv (.t 10), []⟩, ⟨some 27, none, .mv (.t 8), []⟩, ⟨some 28, none, .mv (.t 3), []⟩, ⟨some 29, none, .cl 181 [(.t 24), (.t 25), (.t 26), (.t 27), (.t 28)], []⟩] [0, 3, 8, 9, 10, 11])) (.rg none [⟨some 22, none, .mv (.t 11), []⟩, ⟨some 23, none, .bo .sub (.t 22) (.c (.int .i64 1)), []⟩, ⟨some 11, none, .mv (.t 23), []⟩] [0, 3, 8, 9, 10, 11])))
def b126_1 : C := (.sq (.sq (.rg none [⟨some 32, none, .mv (.t 12), []⟩, ⟨some 33, none, .bo .geq (.t 32) (.c (.int .i64 0)), []⟩] [0, 3, 8, 9, 12, 33]) (.cd (.t 33) .sk (.xt 2))) (.sq (.bl 3 (.sq (.rg (some [0, 1, 2, 3, 4, 5, 6, 7, 8, 9, 10, 11, 12, 13, 14, 15, 16, 17, 18, 19]) [⟨some 36, none, .mv (.t 0), []⟩, ⟨some 37, none, .mv (.t 8), []⟩, ⟨some 38, none, .mv (.t 0), []⟩, ⟨some 39, none, .mv (.t 8), []⟩, ⟨some 40, none, .mv (.t 12), []⟩, ⟨some 41, none, .bo .add (.t 39) (.t 40), []⟩, ⟨some 42, none, .mv (.t 0), []⟩, ⟨some 43, none, .mv (.t 8), []⟩, ⟨some 44, none, .mv (.t 12), []⟩, ⟨some 45, none, .bo .add (.t 43) (.t 44), []⟩, ⟨some 46, none, .ia 3 (.t 42) (.t 45), []⟩, ⟨some 47, none, .ld (some 3) (.t 46), []⟩, ⟨some 48, none, .mv (.t 0), []⟩, ⟨some 49, none, .mv (.t 8), []⟩, ⟨some 50, none, .ia 3 (.t 48) (.t 49), []⟩, ⟨some 51, none, .ld (some 3) (.t 50), []⟩, ⟨some 52, none, .ia 3 (.t 36) (.t 37), []⟩, ⟨none, none, .st 3 (.t 52) (.t 47), []⟩, ⟨some 53, none, .ia 3 (.t 38) (.t 41), []⟩, ⟨none, none, .st 3 (.t 53) (.t 51), []⟩] [0, 3, 8, 9, 12]) (.rg none [⟨some 54, none, .mv (.t 0), []⟩, ⟨some 55, none, .mv (.t 9), []⟩, ⟨some 56, none, .mv (.t 12), []⟩, ⟨some 57, none, .mv (.t 8), []⟩, ⟨some 58, none, .mv (.t 3), []⟩, ⟨some 59, none, .cl 181 [(.t 54), (.t 55), (.t 56), (.t 57), (.t 58)], []⟩] [0, 3, 8, 9, 12]))) (.rg none [⟨some 34, none, .mv (.t 12), []⟩, ⟨some 35, none, .bo .sub (.t 34) (.c (.int .i64 1)), []⟩, ⟨some 12, none, .mv (.t 35), []⟩] [0, 3, 8, 9, 12])))
def k126_2 : C := (.sq (.rg none [⟨some 30, none, .mv (.t 10), []⟩, ⟨some 31, none, .bo .sub (.t 30) (.c (.int .i64 1)), []⟩, ⟨some 12, none, .mv (.t 31), []⟩] [0, 3, 8, 9, 12]) (.bl 2 (.lp true b126_1)))
/-- slices.heapSortCmpFunc[retarget/api.Binding] -/
def c126 : FI.Fn := { body := (.sq (.rg none [⟨some 13, none, .mv (.t 1), []⟩, ⟨some 8, none, .mv (.t 13), []⟩] [0, 1, 2, 3, 8]) (.sq (.rg none [⟨some 9, none, .mv (.c (.int .i64 0)), []⟩] [0, 1, 2, 3, 8, 9]) (.sq (.rg none [⟨some 14, none, .mv (.t 2), []⟩, ⟨some 15, none, .mv (.t 1), []⟩, ⟨some 16, none, .bo .sub (.t 14) (.t 15), []⟩, ⟨some 10, none, .mv (.t 16), []⟩] [0, 3, 8, 9, 10]) (.sq (.sq (.rg none [⟨some 17, none, .mv (.t 10), []⟩, ⟨some 18, none, .bo .sub (.t 17) (.c (.int .i64 1)), []⟩, ⟨some 19, none, .bo .quo (.t 18) (.c (.int .i64 2)), []⟩, ⟨some 11, none, .mv (.t 19), []⟩] [0, 3, 8, 9, 10, 11]) (.bl 0 (.lp true b126_0))) k126_2)))), np := 4, res := [], mode := .iso }
def b127_0 : C := (.sq (.sq (.rg none [⟨some 28, none, .mv (.t 11), []⟩, ⟨some 29, none, .mv (.t 1), []⟩, ⟨some 30, none, .mv (.t 8), []⟩, ⟨some 31, none, .bo .quo (.t 30) (.c (.int .i64 4)), []⟩, ⟨some 32, none, .bo .mul (.t 31) (.c (.int .i64 2)), []⟩, ⟨some 33, none, .bo .add (.t 29) (.t 32), []⟩, ⟨some 34, none, .bo .add (.t 33) (.c (.int .i64 1)), []⟩, ⟨some 35, none, .bo .leq (.t 28) (.t 34), []⟩] [0, 1, 8, 9, 10, 11, 35]) (.cd (.t 35) .sk (.xt 0))) (.sq (.bl 1 (.sq (.rg none [⟨some 38, none, .cl 183 [(.t 9)], []⟩, ⟨some 39, none, .mv (.t 10), []⟩, ⟨some 40, none, .bo .sub (.t 39) (.c (.int .u64 1)), []⟩, ⟨some 41, none, .bo .and (.t 38) (.t 40), []⟩, ⟨some 42, none, .cv .i64 (.t 41), []⟩, ⟨some 12, none, .mv (.t 42), []⟩] [0, 1, 8, 9, 10, 11, 12]) (.sq (.sq (.rg none [⟨some 43, none, .mv (.t 12), []⟩, ⟨some 44, none, .mv (.t 8), []⟩, ⟨some 45, none, .bo .geq (.t 43) (.t 44), []⟩] [0, 1, 8, 9, 10, 11, 12, 45]) (.cd (.t 45) (.rg none [⟨some 46, none, .mv (.t 12), []⟩, ⟨some 47, none, .mv (.t 8), []⟩, ⟨some 48, none, .bo .sub (.t 46) (.t 47), []⟩, ⟨some 12, none, .mv (.t 48), []⟩] [0, 1, 8, 9, 10, 11, 12]) .sk)) (.rg (some [0, 1, 2, 3, 4, 5, 6, 7, 8, 9, 10, 11, 12, 13, 14, 15, 16, 17, 18, 19]) [⟨some 49, none, .mv (.t 0), []⟩, ⟨some 50, none, .mv (.t 11), []⟩, ⟨some 51, none, .mv (.t 0), []⟩, ⟨some 52, none, .mv (.t 1), []⟩, ⟨some 53, none, .mv (.t 12), []⟩, ⟨some 54, none, .bo .add (.t 52) (.t 53), []⟩, ⟨some 55, none, .mv (.t 0), []⟩, ⟨some 56, none, .mv (.t 1), []⟩, ⟨some 57, none, .mv (.t 12), []⟩, ⟨some 58, none, .bo .add (.t 56) (.t 57), []⟩, ⟨some 59, none, .ia 3 (.t 55) (.t 58), []⟩, ⟨some 60, none, .ld (some 3) (.t 59), []⟩, ⟨some 61, none, .mv (.t 0), []⟩, ⟨some 62, none, .mv (.t 11), []⟩, ⟨some 63, none, .ia 3 (.t 61) (.t 62), []⟩, ⟨some 64, none, .ld (some 3) (.t 63), []⟩, ⟨some 65, none, .ia 3 (.t 49) (.t 50), []⟩, ⟨none, none, .st 3 (.t 65) (.t 60), []⟩, ⟨some 66, none, .ia 3 (.t 51) (.t 54), []⟩, ⟨none, none, .st 3 (.t 66) (.t 64), []⟩] [0, 1, 8, 9, 10, 11])))) (.rg none [⟨some 36, none, .mv (.t 11), []⟩, ⟨some 37, none, .bo .add (.t 36) (.c (.int .i64 1)), []⟩, ⟨some 11, none, .mv (.t 37), []⟩] [0, 1, 8, 9, 10, 11])))
/-- slices.breakPatternsCmpFunc[retarget/api.Binding] -/
def c127 : FI.Fn := { body := (.sq (.rg none [⟨some 13, none, .mv (.t 2), []⟩, ⟨some 14, none, .mv (.t 1), []⟩, ⟨some 15, none, .bo .sub (.t 13) (.t 14), []⟩, ⟨some 8, none, .mv (.t 15), []⟩] [0, 1, 8]) (.sq (.rg none [⟨some 16, none, .mv (.t 8), []⟩, ⟨some 17, none, .bo .geq (.t 16) (.c (.int .i64 8)), []⟩] [0, 1, 8, 17]) (.cd (.t 17) (.sq (.rg none [⟨some 18, none, .mv (.t 8), []⟩, ⟨some 19, none, .cv .u64 (.t 18), []⟩, ⟨some 9, none, .al 1 (.int .u64 0), []⟩, ⟨none, none, .st 1 (.t 9) (.t 19), []⟩] [0, 1, 8, 9]) (.sq (.rg none [⟨some 20, none, .mv (.t 8), []⟩, ⟨some 21, none, .cl 182 [(.t 20)], []⟩, ⟨some 10, none, .mv (.t 21), []⟩] [0, 1, 8, 9, 10]) (.sq (.rg none [⟨some 22, none, .mv (.t 1), []⟩, ⟨some 23, none, .mv (.t 8), []⟩, ⟨some 24, none, .bo .quo (.t 23) (.c (.int .i64 4)), []⟩, ⟨some 25, none, .bo .mul (.t 24) (.c (.int .i64 2)), []⟩, ⟨some 26, none, .bo .add (.t 22) (.t 25), []⟩, ⟨some 27, none, .bo .sub (.t 26) (.c (.int .i64 1)), []⟩, ⟨some 11, none, .mv (.t 27), []⟩] [0, 1, 8, 9, 10, 11]) (.bl 0 (.lp true b127_0))))) .sk))), np := 4, res := [], mode := .iso }
/-- slices.choosePivotCmpFunc[retarget/api.Binding] -/
def c128 : FI.Fn := { body := (.sq (.rg none [⟨some 8, none, .mv (.c (.int .i64 0)), []⟩, ⟨some 9, none, .mv (.c (.int .i64 0)), []⟩] [0, 1, 2, 3]) (.sq (.rg none [⟨some 15, none, .mv (.t 2), []⟩, ⟨some 16, none, .mv (.t 1), []⟩, ⟨some 17, none, .bo .sub (.t 15) (.t 16), []⟩, ⟨some 10, none, .mv (.t 17), []⟩] [0, 1, 3, 10]) (.sq (.rg none [⟨some 11, none, .al 1 (.int .i64 0), []⟩] [0, 1, 3, 10, 11]) (.sq (.rg none [⟨some 18, none, .mv (.t 1), []⟩, ⟨some 19, none, .mv (.t 10), []⟩, ⟨some 20, none, .bo .quo (.t 19) (.c (.int .i64 4)), []⟩, ⟨some 21, none, .bo .mul (.t 20) (.c (.int .i64 1)), []⟩, ⟨some 22, none, .bo .add (.t 18) (.t 21), []⟩, ⟨some 12, none, .mv (.t 22), []⟩] [0, 1, 3, 10, 11, 12]) (.sq (.rg none [⟨some 23, none, .mv (.t 1), []⟩, ⟨some 24, none, .mv (.t 10), []⟩, ⟨some 25, none, .bo .quo (.t 24) (.c (.int .i64 4)), []⟩, ⟨some 26, none, .bo .mul (.t 25) (.c (.int .i64 2)), []⟩, ⟨some 27, none, .bo .add (.t 23) (.t 26), []⟩, ⟨some 13, none, .mv (.t 27), []⟩] [0, 1, 3, 10, 11, 12, 13]) (.sq (.rg none [⟨some 28, none, .mv (.t 1), []⟩, ⟨some 29, none, .mv (.t 10), []⟩, ⟨some 30, none, .bo .quo (.t 29) (.c (.int .i64 4)), []⟩, ⟨some 31, none, .bo .mul (.t 30) (.c (.int .i64 3)), []⟩, ⟨some 32, none, .bo .add (.t 28) (.t 31), []⟩, ⟨some 14, none, .mv (.t 32), []⟩] [0, 3, 10, 11, 12, 13, 14]) (.sq (.sq (.rg none [⟨some 33, none, .mv (.t 10), []⟩, ⟨some 34, none, .bo .geq (.t 33) (.c (.int .i64 8)), []⟩] [0, 3, 10, 11, 12, 13, 14, 34]) (.cd (.t 34) (.sq (.sq (.rg none [⟨some 35, none, .mv (.t 10), []⟩, ⟨some 36, none, .bo .geq (.t 35) (.c (.int .i64 50)), []⟩] [0, 3, 11, 12, 13, 14, 36]) (.cd (.t 36) (.sq (.rg none [⟨some 37, none, .mv (.t 0), []⟩, ⟨some 38, none, .mv (.t 12), []⟩, ⟨some 39, none, .mv (.t 3), []⟩, ⟨some 40, none, .cl 184 [(.t 37), (.t 38), (.t 11), (.t 39)], []⟩, ⟨some 12, none, .mv (.t 40), []⟩] [0, 3, 11, 12, 13, 14]) (.sq (.rg none [⟨some 41, none, .mv (.t 0), []⟩, ⟨some 42, none, .mv (.t 13), []⟩, ⟨some 43, none, .mv (.t 3), []⟩, ⟨some 44, none, .cl 184 [(.t 41), (.t 42), (.t 11), (.t 43)], []⟩, ⟨some 13, none, .mv (.t 44), []⟩] [0, 3, 11, 12, 13, 14]) (.rg none [⟨some 45, none, .mv (.t 0), []⟩, ⟨some 46, none, .mv (.t 14), []⟩, ⟨some 47, none, .mv (.t 3), []⟩, ⟨some 48, none, .cl 184 [(.t 45), (.t 46), (.t 11), (.t 47)], []⟩, ⟨some 14, none, .mv (.t 48), []⟩] [0, 3, 11, 12, 13, 14]))) .sk)) (.rg none [⟨some 49, none, .mv (.t 0), []⟩, ⟨some 50, none, .mv (.t 12), []⟩, ⟨some 51, none, .mv (.t 13), []⟩, ⟨some 52, none, .mv (.t 14), []⟩, ⟨some 53, none, .mv (.t 3), []⟩, ⟨some 54, none, .cl 185 [(.t 49), (.t 50), (.t 51), (.t 52), (.t 11), (.t 53)], []⟩, ⟨some 13, none, .mv (.t 54), []⟩] [11, 13])) .sk)) (.sq (.rg none [⟨some 55, none, .ld none (.t 11), []⟩] [13, 55]) (.bl 0 (.sq (.rg none [⟨some 58, none, .bo .eql (.t 55) (.c (.int .i64 0)), []⟩, ⟨some 57, none, .mv (.t 58), []⟩] [13, 55, 57]) (.cd (.t 57) (.sq (.rg none [⟨some 59, none, .mv (.t 13), []⟩, ⟨some 8, none, .mv (.t 59), []⟩, ⟨some 9, none, .mv (.c (.int .i64 1)), []⟩] [8, 9]) .rt) (.sq (.rg none [⟨some 61, none, .bo .eql (.t 55) (.c (.int .i64 12)), []⟩, ⟨some 60, none, .mv (.t 61), []⟩] [13, 60]) (.cd (.t 60) (.sq (.rg none [⟨some 62, none, .mv (.t 13), []⟩, ⟨some 8, none, .mv (.t 62), []⟩, ⟨some 9, none, .mv (.c (.int .i64 2)), []⟩] [8, 9]) .rt) (.sq (.rg none [⟨some 56, none, .mv (.t 13), []⟩, ⟨some 8, none, .mv (.t 56), []⟩, ⟨some 9, none, .mv (.c (.int .i64 0)), []⟩] [8, 9]) .rt)))))))))))))), np := 4, res := [.t 8, .t 9], mode := .iso }
def b129_0 : C := (.sq (.sq (.rg none [⟨some 13, none, .mv (.t 8), []⟩, ⟨some 14, none, .mv (.t 9), []⟩, ⟨some 15, none, .bo .lss (.t 13) (.t 14), []⟩] [0, 8, 9, 15]) (.cd (.t 15) .sk (.xt 0))) (.bl 1 (.sq (.rg (some [0, 1, 2, 3, 4, 5, 6, 7, 8, 9, 10, 11, 12, 13, 14, 15]) [⟨some 16, none, .mv (.t 0), []⟩, ⟨some 17, none, .mv (.t 8), []⟩, ⟨some 18, none, .mv (.t 0), []⟩, ⟨some 19, none, .mv (.t 9), []⟩, ⟨some 20, none, .mv (.t 0), []⟩, ⟨some 21, none, .mv (.t 9), []⟩, ⟨some 22, none, .ia 3 (.t 20) (.t 21), []⟩, ⟨some 23, none, .ld (some 3) (.t 22), []⟩, ⟨some 24, none, .mv (.t 0), []⟩, ⟨some 25, none, .mv (.t 8), []⟩, ⟨some 26, none, .ia 3 (.t 24) (.t 25), []⟩, ⟨some 27, none, .ld (some 3) (.t 26), []⟩, ⟨some 28, none, .ia 3 (.t 16) (.t 17), []⟩, ⟨none, none, .st 3 (.t 28) (.t 23), []⟩, ⟨some 29, none, .ia 3 (.t 18) (.t 19), []⟩, ⟨none, none, .st 3 (.t 29) (.t 27), []⟩] [0, 8, 9]) (.sq (.rg none [⟨some 30, none, .mv (.t 8), []⟩, ⟨some 31, none, .bo .add (.t 30) (.c (.int .i64 1)), []⟩, ⟨some 8, none, .mv (.t 31), []⟩] [0, 8, 9]) (.rg none [⟨some 32, none, .mv (.t 9), []⟩, ⟨some 33, none, .bo .sub (.t 32) (.c (.int .i64 1)), []⟩, ⟨some 9, none, .mv (.t 33), []⟩] [0, 8, 9])))))
/-- slices.reverseRangeCmpFunc[retarget/api.Binding] -/
def c129 : FI.Fn := { body := (.sq (.rg none [⟨some 10, none, .mv (.t 1), []⟩, ⟨some 8, none, .mv (.t 10), []⟩] [0, 2, 8]) (.sq (.rg none [⟨some 11, none, .mv (.t 2), []⟩, ⟨some 12, none, .bo .sub (.t 11) (.c (.int .i64 1)), []⟩, ⟨some 9, none, .mv (.t 12), []⟩] [0, 8, 9]) (.bl 0 (.lp true b129_0)))), np := 4, res := [], mode := .iso }
def b130_0 : C := (.sq (.sq (.rg (some [0, 1, 2, 3, 4, 5, 6, 7, 8, 9, 10, 11, 12, 13, 14, 15, 16, 17]) [⟨some 19, none, .mv (.t 9), []⟩, ⟨some 20, none, .mv (.t 2), []⟩, ⟨some 21, none, .bo .lss (.t 19) (.t 20), []⟩, ⟨some 22, none, .mv (.t 21), []⟩, ⟨some 23, some (22, true), .mv (.t 3), []⟩, ⟨some 24, some (22, true), .mv (.t 0), []⟩, ⟨some 25, some (22, true), .mv (.t 9), []⟩, ⟨some 26, some (22, true), .ia 3 (.t 24) (.t 25), []⟩, ⟨some 27, some (22, true), .ld (some 3) (.t 26), []⟩, ⟨some 28, some (22, true), .mv (.t 0), []⟩, ⟨some 29, some (22, true), .mv (.t 9), []⟩, ⟨some 30, some (22, true), .bo .sub (.t 29) (.c (.int .i64 1)), []⟩, ⟨some 31, some (22, true), .ia 3 (.t 28) (.t 30), []⟩, ⟨some 32, some (22, true), .ld (some 3) (.t 31), []⟩, ⟨some 33, some (22, true), .cw (.t 23) [(.t 27), (.t 32)], []⟩, ⟨some 34, some (22, true), .bo .lss (.t 33) (.c (.int .i64 0)), []⟩, ⟨some 35, some (22, true), .un .not (.t 34), []⟩, ⟨some 36, none, .pk (.t 22) (.t 35) (.c (.bool false)), []⟩] [0, 1, 2, 3, 9, 10, 36]) (.cd (.t 36) .sk (.xt 2))) (.bl 3 (.rg none [⟨some 37, none, .mv (.t 9), []⟩, ⟨some 38, none, .bo .add (.t 37) (.c (.int .i64 1)), []⟩, ⟨some 9, none, .mv (.t 38), []⟩] [0, 1, 2, 3, 9, 10])))
def b130_1 : C := (.sq (.sq (.rg none [⟨some 68, none, .mv (.t 11), []⟩, ⟨some 69, none, .bo .geq (.t 68) (.c (.int .i64 1)), []⟩] [0, 1, 2, 3, 9, 10, 11, 69]) (.cd (.t 69) .sk (.xt 4))) (.sq (.bl 5 (.sq (.sq (.rg (some [0, 1, 2, 3, 4, 5, 6, 7, 8, 9, 10, 11, 12]) [⟨some 72, none, .mv (.t 3), []⟩, ⟨some 73, none, .mv (.t 0), []⟩, ⟨some 74, none, .mv (.t 11), []⟩, ⟨some 75, none, .ia 3 (.t 73) (.t 74), []⟩, ⟨some 76, none, .ld (some 3) (.t 75), []⟩, ⟨some 77, none, .mv (.t 0), []⟩, ⟨some 78, none, .mv (.t 11), []⟩, ⟨some 79, none, .bo .sub (.t 78) (.c (.int .i64 1)), []⟩, ⟨some 80, none, .ia 3 (.t 77) (.t 79), []⟩, ⟨some 81, none, .ld (some 3) (.t 80), []⟩, ⟨some 82, none, .cw (.t 72) [(.t 76), (.t 81)], []⟩, ⟨some 83, none, .bo .lss (.t 82) (.c (.int .i64 0)), []⟩, ⟨some 84, none, .un .not (.t 83), []⟩] [0, 1, 2, 3, 9, 10, 11, 84]) (.cd (.t 84) (.xt 4) .sk)) (.rg (some [0, 1, 2, 3, 4, 5, 6, 7, 8, 9, 10, 11, 12, 13, 14, 15, 16, 17]) [⟨some 85, none, .mv (.t 0), []⟩, ⟨some 86, none, .mv (.t 11), []⟩, ⟨some 87, none, .mv (.t 0), []⟩, ⟨some 88, none, .mv (.t 11), []⟩, ⟨some 89, none, .bo .sub (.t 88) (.c (.int .i64 1)), []⟩, ⟨some 90, none, .mv (.t 0), []⟩, ⟨some 91, none, .mv (.t 11), []⟩, ⟨some 92, none, .bo .sub (.t 91) (.c (.int .i64 1)), []⟩, ⟨some 93, none, .ia 3 (.t 90) (.t 92), []⟩, ⟨some 94, none, .ld (some 3) (.t 93), []⟩, ⟨some 95, none, .mv (.t 0), []⟩, ⟨some 96, none, .mv (.t 11), []⟩, ⟨some 97, none, .ia 3 (.t 95) (.t 96), []⟩, ⟨some 98, none, .ld (some 3) (.t 97), []⟩, ⟨some 99, none, .ia 3 (.t 85) (.t 86), []⟩, ⟨none, none, .st 3 (.t 99) (.t 94), []⟩, ⟨some 100, none, .ia 3 (.t 87) (.t 89), []⟩, ⟨none, none, .st 3 (.t 100) (.t 98), []⟩] [0, 1, 2, 3, 9, 10, 11]))) (.rg none [⟨some 70, none, .mv (.t 11), []⟩, ⟨some 71, none, .bo .sub (.t 70) (.c (.int .i64 1)), []⟩, ⟨some 11, none, .mv (.t 71), []⟩] [0, 1, 2, 3, 9, 10, 11])))
def b130_2 : C := (.sq (.sq (.rg none [⟨some 107, none, .mv (.t 12), []⟩, ⟨some 108, none, .mv (.t 2), []⟩, ⟨some 109, none, .bo .lss (.t 107) (.t 108), []⟩] [0, 1, 2, 3, 9, 10, 12, 109]) (.cd (.t 109) .sk (.xt 6))) (.sq (.bl 7 (.sq (.sq (.rg (some [0, 1, 2, 3, 4, 5, 6, 7, 8, 9, 10, 11, 12]) [⟨some 112, none, .mv (.t 3), []⟩, ⟨some 113, none, .mv (.t 0), []⟩, ⟨some 114, none, .mv (.t 12), []⟩, ⟨some 115, none, .ia 3 (.t 113) (.t 114), []⟩, ⟨some 116, none, .ld (some 3) (.t 115), []⟩, ⟨some 117, none, .mv (.t 0), []⟩, ⟨some 118, none, .mv (.t 12), []⟩, ⟨some 119, none, .bo .sub (.t 118) (.c (.int .i64 1)), []⟩, ⟨some 120, none, .ia 3 (.t 117) (.t 119), []⟩, ⟨some 121, none, .ld (some 3) (.t 120), []⟩, ⟨some 122, none, .cw (.t 112) [(.t 116), (.t 121)], []⟩, ⟨some 123, none, .bo .lss (.t 122) (.c (.int .i64 0)), []⟩, ⟨some 124, none, .un .not (.t 123), []⟩] [0, 1, 2, 3, 9, 10, 12, 124]) (.cd (.t 124) (.xt 6) .sk)) (.rg (some [0, 1, 2, 3, 4, 5, 6, 7, 8, 9, 10, 11, 12, 13, 14, 15, 16, 17]) [⟨some 125, none, .mv (.t 0), []⟩, ⟨some 126, none, .mv (.t 12), []⟩, ⟨some 127, none, .mv (.t 0), []⟩, ⟨some 128, none, .mv (.t 12), []⟩, ⟨some 129, none, .bo .sub (.t 128) (.c (.int .i64 1)), []⟩, ⟨some 130, none, .mv (.t 0), []⟩, ⟨some 131, none, .mv (.t 12), []⟩, ⟨some 132, none, .bo .sub (.t 131) (.c (.int .i64 1)), []⟩, ⟨some 133, none, .ia 3 (.t 130) (.t 132), []⟩, ⟨some 134, none, .ld (some 3) (.t 133), []⟩, ⟨some 135, none, .mv (.t 0), []⟩, ⟨some 136, none, .mv (.t 12), []⟩, ⟨some 137, none, .ia 3 (.t 135) (.t 136), []⟩, ⟨some 138, none, .ld (some 3) (.t 137), []⟩, ⟨some 139, none, .ia 3 (.t 125) (.t 126), []⟩, ⟨none, none, .st 3 (.t 139) (.t 134), []⟩, ⟨some 140, none, .ia 3 (.t 127) (.t 129), []⟩, ⟨none, none, .st 3 (.t 140) (.t 138), []⟩] [0, 1, 2, 3, 9, 10, 12]))) (.rg none [⟨some 110, none, .mv (.t 12), []⟩, ⟨some 111, none, .bo .add (.t 110) (.c (.int .i64 1)), []⟩, ⟨some 12, none, .mv (.t 111), []⟩] [0, 1, 2, 3, 9, 10, 12])))
def k130_3 : C := (.sq (.rg none [⟨some 101, none, .mv (.t 2), []⟩, ⟨some 102, none, .mv (.t 9), []⟩, ⟨some 103, none, .bo .sub (.t 101) (.t 102), []⟩, ⟨some 104, none, .bo .geq (.t 103) (.c (.int .i64 2)), []⟩] [0, 1, 2, 3, 9, 10, 104]) (.cd (.t 104) (.sq (.rg none [⟨some 105, none, .mv (.t 9), []⟩, ⟨some 106, none, .bo .add (.t 105) (.c (.int .i64 1)), []⟩, ⟨some 12, none, .mv (.t 106), []⟩] [0, 1, 2, 3, 9, 10, 12]) (.bl 6 (.lp true b130_2))) .sk))
def k130_4 : C := (.sq (.sq (.rg none [⟨some 39, none, .mv (.t 9), []⟩, ⟨some 40, none, .mv (.t 2), []⟩, ⟨some 41, none, .bo .eql (.t 39) (.t 40), []⟩] [0, 1, 2, 3, 9, 10, 41]) (.cd (.t 41) (.sq (.rg none [⟨some 8, none, .mv (.c (.bool true)), []⟩] [8]) .rt) .sk)) (.sq (.sq (.rg none [⟨some 42, none, .mv (.t 2), []⟩, ⟨some 43, none, .mv (.t 1), []⟩, ⟨some 44, none, .bo .sub (.t 42) (.t 43), []⟩, ⟨some 45, none, .bo .lss (.t 44) (.c (.int .i64 50)), []⟩] [0, 1, 2, 3, 9, 10, 45]) (.cd (.t 45) (.sq (.rg none [⟨some 8, none, .mv (.c (.bool false)), []⟩] [8]) .rt) .sk)) (.sq (.rg (some [0, 1, 2, 3, 4, 5, 6, 7, 8, 9, 10, 11, 12, 13, 14, 15, 16, 17]) [⟨some 46, none, .mv (.t 0), []⟩, ⟨some 47, none, .mv (.t 9), []⟩, ⟨some 48, none, .mv (.t 0), []⟩, ⟨some 49, none, .mv (.t 9), []⟩, ⟨some 50, none, .bo .sub (.t 49) (.c (.int .i64 1)), []⟩, ⟨some 51, none, .mv (.t 0), []⟩, ⟨some 52, none, .mv (.t 9), []⟩, ⟨some 53, none, .bo .sub (.t 52) (.c (.int .i64 1)), []⟩, ⟨some 54, none, .ia 3 (.t 51) (.t 53), []⟩, ⟨some 55, none, .ld (some 3) (.t 54), []⟩, ⟨some 56, none, .mv (.t 0), []⟩, ⟨some 57, none, .mv (.t 9), []⟩, ⟨some 58, none, .ia 3 (.t 56) (.t 57), []⟩, ⟨some 59, none, .ld (some 3) (.t 58), []⟩, ⟨some 60, none, .ia 3 (.t 46) (.t 47), []⟩, ⟨none, none, .st 3 (.t 60) (.t 55), []⟩, ⟨some 61, none, .ia 3 (.t 48) (.t 50), []⟩, ⟨none, none, .st 3 (.t 61) (.t 59), []⟩] [0, 1, 2, 3, 9, 10]) (.sq (.sq (.rg none [⟨some 62, none, .mv (.t 9), []⟩, ⟨some 63, none, .mv (.t 1), []⟩, ⟨some 64, none, .bo .sub (.t 62) (.t 63), []⟩, ⟨some 65, none, .bo .geq (.t 64) (.c (.int .i64 2)), []⟩] [0, 1, 2, 3, 9, 10, 65]) (.cd (.t 65) (.sq (.rg none [⟨some 66, none, .mv (.t 9), []⟩, ⟨some 67, none, .bo .sub (.t 66) (.c (.int .i64 1)), []⟩, ⟨some 11, none, .mv (.t 67), []⟩] [0, 1, 2, 3, 9, 10, 11]) (.bl 4 (.lp true b130_1))) .sk)) k130_3))))
def k130_5 : C := (.rg none [⟨some 17, none, .mv (.t 10), []⟩, ⟨some 18, none, .bo .add (.t 17) (.c (.int .i64 1)), []⟩, ⟨some 10, none, .mv (.t 18), []⟩] [0, 1, 2, 3, 9, 10])
def b130_6 : C := (.sq (.sq (.rg none [⟨some 15, none, .mv (.t 10), []⟩, ⟨some 16, none, .bo .lss (.t 15) (.c (.int .i64 5)), []⟩] [0, 1, 2, 3, 9, 10, 16]) (.cd (.t 16) .sk (.xt 0))) (.sq (.bl 1 (.sq (.bl 2 (.lp true b130_0)) k130_4)) k130_5))
def k130_7 : C := (.sq (.rg none [⟨some 8, none, .mv (.c (.bool false)), []⟩] [8]) .rt)
/-- slices.partialInsertionSortCmpFunc[retarget/api.Binding] -/
def c130 : FI.Fn := { body := (.sq (.rg none [⟨some 8, none, .mv (.c (.bool false)), []⟩] [0, 1, 2, 3]) (.sq (.rg none [⟨some 13, none, .mv (.t 1), []⟩, ⟨some 14, none, .bo .add (.t 13) (.c (.int .i64 1)), []⟩, ⟨some 9, none, .mv (.t 14), []⟩] [0, 1, 2, 3, 9]) (.sq (.sq (.rg none [⟨some 10, none, .mv (.c (.int .i64 0)), []⟩] [0, 1, 2, 3, 9, 10]) (.bl 0 (.lp true b130_6))) k130_7))), np := 4, res := [.t 8], mode := .iso }
def b131_0 : C := (.sq (.sq (.rg (some [0, 1, 2, 3, 4, 5, 6, 7, 8, 9, 10, 11, 12, 13, 14, 15, 16]) [⟨some 31, none, .mv (.t 11), []⟩, ⟨some 32, none, .mv (.t 12), []⟩, ⟨some 33, none, .bo .leq (.t 31) (.t 32), []⟩, ⟨some 34, none, .mv (.t 33), []⟩, ⟨some 35, some (34, true), .mv (.t 4), []⟩, ⟨some 36, some (34, true), .mv (.t 0), []⟩, ⟨some 37, some (34, true), .mv (.t 1), []⟩, ⟨some 38, some (34, true), .ia 3 (.t 36) (.t 37), []⟩, ⟨some 39, some (34, true), .ld (some 3) (.t 38), []⟩, ⟨some 40, some (34, true), .mv (.t 0), []⟩, ⟨some 41, some (34, true), .mv (.t 11), []⟩, ⟨some 42, some (34, true), .ia 3 (.t 40) (.t 41), []⟩, ⟨some 43, some (34, true), .ld (some 3) (.t 42), []⟩, ⟨some 44, some (34, true), .cw (.t 35) [(.t 39), (.t 43)], []⟩, ⟨some 45, some (34, true), .bo .lss (.t 44) (.c (.int .i64 0)), []⟩, ⟨some 46, some (34, true), .un .not (.t 45), []⟩, ⟨some 47, none, .pk (.t 34) (.t 46) (.c (.bool false)), []⟩] [0, 1, 4, 11, 12, 47]) (.cd (.t 47) .sk (.xt 2))) (.bl 3 (.rg none [⟨some 48, none, .mv (.t 11), []⟩, ⟨some 49, none, .bo .add (.t 48) (.c (.int .i64 1)), []⟩, ⟨some 11, none, .mv (.t 49), []⟩] [0, 1, 4, 11, 12])))
def b131_1 : C := (.sq (.sq (.rg (some [0, 1, 2, 3, 4, 5, 6, 7, 8, 9, 10, 11, 12, 13, 14, 15]) [⟨some 50, none, .mv (.t 11), []⟩, ⟨some 51, none, .mv (.t 12), []⟩, ⟨some 52, none, .bo .leq (.t 50) (.t 51), []⟩, ⟨some 53, none, .mv (.t 52), []⟩, ⟨some 54, some (53, true), .mv (.t 4), []⟩, ⟨some 55, some (53, true), .mv (.t 0), []⟩, ⟨some 56, some (53, true), .mv (.t 1), []⟩, ⟨some 57, some (53, true), .ia 3 (.t 55) (.t 56), []⟩, ⟨some 58, some (53, true), .ld (some 3) (.t 57), []⟩, ⟨some 59, some (53, true), .mv (.t 0), []⟩, ⟨some 60, some (53, true), .mv (.t 12), []⟩, ⟨some 61, some (53, true), .ia 3 (.t 59) (.t 60), []⟩, ⟨some 62, some (53, true), .ld (some 3) (.t 61), []⟩, ⟨some 63, some (53, true), .cw (.t 54) [(.t 58), (.t 62)], []⟩, ⟨some 64, some (53, true), .bo .lss (.t 63) (.c (.int .i64 0)), []⟩, ⟨some 65, none, .pk (.t 53) (.t 64) (.c (.bool false)), []⟩] [0, 1, 4, 11, 12, 65]) (.cd (.t 65) .sk (.xt 4))) (.bl 5 (.rg none [⟨some 66, none, .mv (.t 12), []⟩, ⟨some 67, none, .bo .sub (.t 66) (.c (.int .i64 1)), []⟩, ⟨some 12, none, .mv (.t 67), []⟩] [0, 1, 4, 11, 12])))
def k131_2 : C := (.sq (.sq (.rg none [⟨some 68, none, .mv (.t 11), []⟩, ⟨some 69, none, .mv (.t 12), []⟩, ⟨some 70, none, .bo .gtr (.t 68) (.t 69), []⟩] [0, 1, 4, 11, 12, 70]) (.cd (.t 70) (.xt 0) .sk)) (.sq (.rg (some [0, 1, 2, 3, 4, 5, 6, 7, 8, 9, 10, 11, 12, 13, 14, 15]) [⟨some 71, none, .mv (.t 0), []⟩, ⟨some 72, none, .mv (.t 11), []⟩, ⟨some 73, none, .mv (.t 0), []⟩, ⟨some 74, none, .mv (.t 12), []⟩, ⟨some 75, none, .mv (.t 0), []⟩, ⟨some 76, none, .mv (.t 12), []⟩, ⟨some 77, none, .ia 3 (.t 75) (.t 76), []⟩, ⟨some 78, none, .ld (some 3) (.t 77), []⟩, ⟨some 79, none, .mv (.t 0), []⟩, ⟨some 80, none, .mv (.t 11), []⟩, ⟨some 81, none, .ia 3 (.t 79) (.t 80), []⟩, ⟨some 82, none, .ld (some 3) (.t 81), []⟩, ⟨some 83, none, .ia 3 (.t 71) (.t 72), []⟩, ⟨none, none, .st 3 (.t 83) (.t 78), []⟩, ⟨some 84, none, .ia 3 (.t 73) (.t 74), []⟩, ⟨none, none, .st 3 (.t 84) (.t 82), []⟩] [0, 1, 4, 11, 12]) (.sq (.rg none [⟨some 85, none, .mv (.t 11), []⟩, ⟨some 86, none, .bo .add (.t 85) (.c (.int .i64 1)), []⟩, ⟨some 11, none, .mv (.t 86), []⟩] [0, 1, 4, 11, 12]) (.rg none [⟨some 87, none, .mv (.t 12), []⟩, ⟨some 88, none, .bo .sub (.t 87) (.c (.int .i64 1)), []⟩, ⟨some 12, none, .mv (.t 88), []⟩] [0, 1, 4, 11, 12]))))
def k131_3 : C := (.sq (.bl 4 (.lp true b131_1)) k131_2)
def b131_4 : C := (.bl 1 (.sq (.bl 2 (.lp true b131_0)) k131_3))
def k131_5 : C := (.sq (.rg none [⟨some 89, none, .mv (.t 11), []⟩, ⟨some 10, none, .mv (.t 89), []⟩] [10]) .rt)
/-- slices.partitionEqualCmpFunc[retarget/api.Binding] -/
def c131 : FI.Fn := { body := (.sq (.rg none [⟨some 10, none, .mv (.c (.int .i64 0)), []⟩] [0, 1, 2, 3, 4]) (.sq (.rg (some [0, 1, 2, 3, 4, 5, 6, 7, 8, 9, 10, 11, 12, 13, 14, 15]) [⟨some 13, none, .mv (.t 0), []⟩, ⟨some 14, none, .mv (.t 1), []⟩, ⟨some 15, none, .mv (.t 0), []⟩, ⟨some 16, none, .mv (.t 3), []⟩, ⟨some 17, none, .mv (.t 0), []⟩, ⟨some 18, none, .mv (.t 3), []⟩, ⟨some 19, none, .ia 3 (.t 17) (.t 18), []⟩, ⟨some 20, none, .ld (some 3) (.t 19), []⟩, ⟨some 21, none, .mv (.t 0), []⟩, ⟨some 22, none, .mv (.t 1), []⟩, ⟨some 23, none, .ia 3 (.t 21) (.t 22), []⟩, ⟨some 24, none, .ld (some 3) (.t 23), []⟩, ⟨some 25, none, .ia 3 (.t 13) (.t 14), []⟩, ⟨none, none, .st 3 (.t 25) (.t 20), []⟩, ⟨some 26, none, .ia 3 (.t 15) (.t 16), []⟩, ⟨none, none, .st 3 (.t 26) (.t 24), []⟩] [0, 1, 2, 4]) (.sq (.rg none [⟨some 27, none, .mv (.t 1), []⟩, ⟨some 28, none, .bo .add (.t 27) (.c (.int .i64 1)), []⟩, ⟨some 29, none, .mv (.t 2), []⟩, ⟨some 30, none, .bo .sub (.t 29) (.c (.int .i64 1)), []⟩, ⟨some 11, none, .mv (.t 28), []⟩, ⟨some 12, none, .mv (.t 30), []⟩] [0, 1, 4, 11, 12]) (.sq (.bl 0 (.lp true b131_4)) k131_5)))), np := 5, res := [.t 10], mode := .iso }
def b132_0 : C := (.sq (.sq (.rg (some [0, 1, 2, 3, 4, 5, 6, 7, 8, 9, 10, 11, 12, 13, 14, 15]) [⟨some 32, none, .mv (.t 12), []⟩, ⟨some 33, none, .mv (.t 13), []⟩, ⟨some 34, none, .bo .leq (.t 32) (.t 33), []⟩, ⟨some 35, none, .mv (.t 34), []⟩, ⟨some 36, some (35, true), .mv (.t 4), []⟩, ⟨some 37, some (35, true), .mv (.t 0), []⟩, ⟨some 38, some (35, true), .mv (.t 12), []⟩, ⟨some 39, some (35, true), .ia 3 (.t 37) (.t 38), []⟩, ⟨some 40, some (35, true), .ld (some 3) (.t 39), []⟩, ⟨some 41, some (35, true), .mv (.t 0), []⟩, ⟨some 42, some (35, true), .mv (.t 1), []⟩, ⟨some 43, some (35, true), .ia 3 (.t 41) (.t 42), []⟩, ⟨some 44, some (35, true), .ld (some 3) (.t 43), []⟩, ⟨some 45, some (35, true), .cw (.t 36) [(.t 40), (.t 44)], []⟩, ⟨some 46, some (35, true), .bo .lss (.t 45) (.c (.int .i64 0)), []⟩, ⟨some 47, none, .pk (.t 35) (.t 46) (.c (.bool false)), []⟩] [0, 1, 4, 12, 13, 47]) (.cd (.t 47) .sk (.xt 0))) (.bl 1 (.rg none [⟨some 48, none, .mv (.t 12), []⟩, ⟨some 49, none, .bo .add (.t 48) (.c (.int .i64 1)), []⟩, ⟨some 12, none, .mv (.t 49), []⟩] [0, 1, 4, 12, 13])))
def b132_1 : C := (.sq (.sq (.rg (some [0, 1, 2, 3, 4, 5, 6, 7, 8, 9, 10, 11, 12, 13, 14, 15, 16]) [⟨some 50, none, .mv (.t 12), []⟩, ⟨some 51, none, .mv (.t 13), []⟩, ⟨some 52, none, .bo .leq (.t 50) (.t 51), []⟩, ⟨some 53, none, .mv (.t 52), []⟩, ⟨some 54, some (53, true), .mv (.t 4), []⟩, ⟨some 55, some (53, true), .mv (.t 0), []⟩, ⟨some 56, some (53, true), .mv (.t 13), []⟩, ⟨some 57, some (53, true), .ia 3 (.t 55) (.t 56), []⟩, ⟨some 58, some (53, true), .ld (some 3) (.t 57), []⟩, ⟨some 59, some (53, true), .mv (.t 0), []⟩, ⟨some 60, some (53, true), .mv (.t 1), []⟩, ⟨some 61, some (53, true), .ia 3 (.t 59) (.t 60), []⟩, ⟨some 62, some (53, true), .ld (some 3) (.t 61), []⟩, ⟨some 63, some (53, true), .cw (.t 54) [(.t 58), (.t 62)], []⟩, ⟨some 64, some (53, true), .bo .lss (.t 63) (.c (.int .i64 0)), []⟩, ⟨some 65, some (53, true), .un .not (.t 64), []⟩, ⟨some 66, none, .pk (.t 53) (.t 65) (.c (.bool false)), []⟩] [0, 1, 4, 12, 13, 66]) (.cd (.t 66) .sk (.xt 2))) (.bl 3 (.rg none [⟨some 67, none, .mv (.t 13), []⟩, ⟨some 68, none, .bo .sub (.t 67) (.c (.int .i64 1)), []⟩, ⟨some 13, none, .mv (.t 68), []⟩] [0, 1, 4, 12, 13])))
def b132_2 : C := (.sq (.sq (.rg (some [0, 1, 2, 3, 4, 5, 6, 7, 8, 9, 10, 11, 12, 13, 14, 15]) [⟨some 105, none, .mv (.t 12), []⟩, ⟨some 106, none, .mv (.t 13), []⟩, ⟨some 107, none, .bo .leq (.t 105) (.t 106), []⟩, ⟨some 108, none, .mv (.t 107), []⟩, ⟨some 109, some (108, true), .mv (.t 4), []⟩, ⟨some 110, some (108, true), .mv (.t 0), []⟩, ⟨some 111, some (108, true), .mv (.t 12), []⟩, ⟨some 112, some (108, true), .ia 3 (.t 110) (.t 111), []⟩, ⟨some 113, some (108, true), .ld (some 3) (.t 112), []⟩, ⟨some 114, some (108, true), .mv (.t 0), []⟩, ⟨some 115, some (108, true), .mv (.t 1), []⟩, ⟨some 116, some (108, true), .ia 3 (.t 114) (.t 115), []⟩, ⟨some 117, some (108, true), .ld (some 3) (.t 116), []⟩, ⟨some 118, some (108, true), .cw (.t 109) [(.t 113), (.t 117)], []⟩, ⟨some 119, some (108, true), .bo .lss (.t 118) (.c (.int .i64 0)), []⟩, ⟨some 120, none, .pk (.t 108) (.t 119) (.c (.bool false)), []⟩] [0, 1, 4, 12, 13, 120]) (.cd (.t 120) .sk (.xt 6))) (.bl 7 (.rg none [⟨some 121, none, .mv (.t 12), []⟩, ⟨some 122, none, .bo .add (.t 121) (.c (.int .i64 1)), []⟩, ⟨some 12, none, .mv (.t 122), []⟩] [0, 1, 4, 12, 13])))
def b132_3 : C := (.sq (.sq (.rg (some [0, 1, 2, 3, 4, 5, 6, 7, 8, 9, 10, 11, 12, 13, 14, 15, 16]) [⟨some 123, none, .mv (.t 12), []⟩, ⟨some 124, none, .mv (.t 13), []⟩, ⟨some 125, none, .bo .leq (.t 123) (.t 124), []⟩, ⟨some 126, none, .mv (.t 125), []⟩, ⟨some 127, some (126, true), .mv (.t 4), []⟩, ⟨some 128, some (126, true), .mv (.t 0), []⟩, ⟨some 129, some (126, true), .mv (.t 13), []⟩, ⟨some 130, some (126, true), .ia 3 (.t 128) (.t 129), []⟩, ⟨some 131, some (126, true), .ld (some 3) (.t 130), []⟩, ⟨some 132, some (126, true), .mv (.t 0), []⟩, ⟨some 133, some (126, true), .mv (.t 1), []⟩, ⟨some 134, some (126, true), .ia 3 (.t 132) (.t 133), []⟩, ⟨some 135, some (126, true), .ld (some 3) (.t 134), []⟩, ⟨some 136, some (126, true), .cw (.t 127) [(.t 131), (.t 135)], []⟩, ⟨some 137, some (126, true), .bo .lss (.t 136) (.c (.int .i64 0)), []⟩, ⟨some 138, some (126, true), .un .not (.t 137), []⟩, ⟨some 139, none, .pk (.t 126) (.t 138) (.c (.bool false)), []⟩] [0, 1, 4, 12, 13, 139]) (.cd (.t 139) .sk (.xt 8))) (.bl 9 (.rg none [⟨some 140, none, .mv (.t 13), []⟩, ⟨some 141, none, .bo .sub (.t 140) (.c (.int .i64 1)), []⟩, ⟨some 13, none, .mv (.t 141), []⟩] [0, 1, 4, 12, 13])))
def k132_4 : C := (.sq (.sq (.rg none [⟨some 142, none, .mv (.t 12), []⟩, ⟨some 143, none, .mv (.t 13), []⟩, ⟨some 144, none, .bo .gtr (.t 142) (.t 143), []⟩] [0, 1, 4, 12, 13, 144]) (.cd (.t 144) (.xt 4) .sk)) (.sq (.rg (some [0, 1, 2, 3, 4, 5, 6, 7, 8, 9, 10, 11, 12, 13, 14, 15]) [⟨some 145, none, .mv (.t 0), []⟩, ⟨some 146, none, .mv (.t 12), []⟩, ⟨some 147, none, .mv (.t 0), []⟩, ⟨some 148, none, .mv (.t 13), []⟩, ⟨some 149, none, .mv (.t 0), []⟩, ⟨some 150, none, .mv (.t 13), []⟩, ⟨some 151, none, .ia 3 (.t 149) (.t 150), []⟩, ⟨some 152, none, .ld (some 3) (.t 151), []⟩, ⟨some 153, none, .mv (.t 0), []⟩, ⟨some 154, none, .mv (.t 12), []⟩, ⟨some 155, none, .ia 3 (.t 153) (.t 154), []⟩, ⟨some 156, none, .ld (some 3) (.t 155), []⟩, ⟨some 157, none, .ia 3 (.t 145) (.t 146), []⟩, ⟨none, none, .st 3 (.t 157) (.t 152), []⟩, ⟨some 158, none, .ia 3 (.t 147) (.t 148), []⟩, ⟨none, none, .st 3 (.t 158) (.t 156), []⟩] [0, 1, 4, 12, 13]) (.sq (.rg none [⟨some 159, none, .mv (.t 12), []⟩, ⟨some 160, none, .bo .add (.t 159) (.c (.int .i64 1)), []⟩, ⟨some 12, none, .mv (.t 160), []⟩] [0, 1, 4, 12, 13]) (.rg none [⟨some 161, none, .mv (.t 13), []⟩, ⟨some 162, none, .bo .sub (.t 161) (.c (.int .i64 1)), []⟩, ⟨some 13, none, .mv (.t 162), []⟩] [0, 1, 4, 12, 13]))))
def k132_5 : C := (.sq (.bl 8 (.lp true b132_3)) k132_4)
def b132_6 : C := (.bl 5 (.sq (.bl 6 (.lp true b132_2)) k132_5))
def k132_7 : C := (.sq (.rg (some [0, 1, 2, 3, 4, 5, 6, 7, 8, 9, 10, 11, 12, 13, 14, 15]) [⟨some 163, none, .mv (.t 0), []⟩, ⟨some 164, none, .mv (.t 13), []⟩, ⟨some 165, none, .mv (.t 0), []⟩, ⟨some 166, none, .mv (.t 1), []⟩, ⟨some 167, none, .mv (.t 0), []⟩, ⟨some 168, none, .mv (.t 1), []⟩, ⟨some 169, none, .ia 3 (.t 167) (.t 168), []⟩, ⟨some 170, none, .ld (some 3) (.t 169), []⟩, ⟨some 171, none, .mv (.t 0), []⟩, ⟨some 172, none, .mv (.t 13), []⟩, ⟨some 173, none, .ia 3 (.t 171) (.t 172), []⟩, ⟨some 174, none, .ld (some 3) (.t 173), []⟩, ⟨some 175, none, .ia 3 (.t 163) (.t 164), []⟩, ⟨none, none, .st 3 (.t 175) (.t 170), []⟩, ⟨some 176, none, .ia 3 (.t 165) (.t 166), []⟩, ⟨none, none, .st 3 (.t 176) (.t 174), []⟩] [13]) (.sq (.rg none [⟨some 177, none, .mv (.t 13), []⟩, ⟨some 10, none, .mv (.t 177), []⟩, ⟨some 11, none, .mv (.c (.bool false)), []⟩] [10, 11]) .rt))
def k132_8 : C := (.sq (.sq (.rg none [⟨some 69, none, .mv (.t 12), []⟩, ⟨some 70, none, .mv (.t 13), []⟩, ⟨some 71, none, .bo .gtr (.t 69) (.t 70), []⟩] [0, 1, 4, 12, 13, 71]) (.cd (.t 71) (.sq (.rg (some [0, 1, 2, 3, 4, 5, 6, 7, 8, 9, 10, 11, 12, 13, 14, 15]) [⟨some 72, none, .mv (.t 0), []⟩, ⟨some 73, none, .mv (.t 13), []⟩, ⟨some 74, none, .mv (.t 0), []⟩, ⟨some 75, none, .mv (.t 1), []⟩, ⟨some 76, none, .mv (.t 0), []⟩, ⟨some 77, none, .mv (.t 1), []⟩, ⟨some 78, none, .ia 3 (.t 76) (.t 77), []⟩, ⟨some 79, none, .ld (some 3) (.t 78), []⟩, ⟨some 80, none, .mv (.t 0), []⟩, ⟨some 81, none, .mv (.t 13), []⟩, ⟨some 82, none, .ia 3 (.t 80) (.t 81), []⟩, ⟨some 83, none, .ld (some 3) (.t 82), []⟩, ⟨some 84, none, .ia 3 (.t 72) (.t 73), []⟩, ⟨none, none, .st 3 (.t 84) (.t 79), []⟩, ⟨some 85, none, .ia 3 (.t 74) (.t 75), []⟩, ⟨none, none, .st 3 (.t 85) (.t 83), []⟩] [13]) (.sq (.rg none [⟨some 86, none, .mv (.t 13), []⟩, ⟨some 10, none, .mv (.t 86), []⟩, ⟨some 11, none, .mv (.c (.bool true)), []⟩] [10, 11]) .rt)) .sk)) (.sq (.rg (some [0, 1, 2, 3, 4, 5, 6, 7, 8, 9, 10, 11, 12, 13, 14, 15]) [⟨some 87, none, .mv (.t 0), []⟩, ⟨some 88, none, .mv (.t 12), []⟩, ⟨some 89, none, .mv (.t 0), []⟩, ⟨some 90, none, .mv (.t 13), []⟩, ⟨some 91, none, .mv (.t 0), []⟩, ⟨some 92, none, .mv (.t 13), []⟩, ⟨some 93, none, .ia 3 (.t 91) (.t 92), []⟩, ⟨some 94, none, .ld (some 3) (.t 93), []⟩, ⟨some 95, none, .mv (.t 0), []⟩, ⟨some 96, none, .mv (.t 12), []⟩, ⟨some 97, none, .ia 3 (.t 95) (.t 96), []⟩, ⟨some 98, none, .ld (some 3) (.t 97), []⟩, ⟨some 99, none, .ia 3 (.t 87) (.t 88), []⟩, ⟨none, none, .st 3 (.t 99) (.t 94), []⟩, ⟨some 100, none, .ia 3 (.t 89) (.t 90), []⟩, ⟨none, none, .st 3 (.t 100) (.t 98), []⟩] [0, 1, 4, 12, 13]) (.sq (.rg none [⟨some 101, none, .mv (.t 12), []⟩, ⟨some 102, none, .bo .add (.t 101) (.c (.int .i64 1)), []⟩, ⟨some 12, none, .mv (.t 102), []⟩] [0, 1, 4, 12, 13]) (.sq (.rg none [⟨some 103, none, .mv (.t 13), []⟩, ⟨some 104, none, .bo .sub (.t 103) (.c (.int .i64 1)), []⟩, ⟨some 13, none, .mv (.t 104), []⟩] [0, 1, 4, 12, 13]) (.sq (.bl 4 (.lp true b132_6)) k132_7)))))
def k132_9 : C := (.sq (.bl 2 (.lp true b132_1)) k132_8)
/-- slices.partitionCmpFunc[retarget/api.Binding] -/
def c132 : FI.Fn := { body := (.sq (.rg none [⟨some 10, none, .mv (.c (.int .i64 0)), []⟩, ⟨some 11, none, .mv (.c (.bool false)), []⟩] [0, 1, 2, 3, 4]) (.sq (.rg (some [0, 1, 2, 3, 4, 5, 6, 7, 8, 9, 10, 11, 12, 13, 14, 15]) [⟨some 14, none, .mv (.t 0), []⟩, ⟨some 15, none, .mv (.t 1), []⟩, ⟨some 16, none, .mv (.t 0), []⟩, ⟨some 17, none, .mv (.t 3), []⟩, ⟨some 18, none, .mv (.t 0), []⟩, ⟨some 19, none, .mv (.t 3), []⟩, ⟨some 20, none, .ia 3 (.t 18) (.t 19), []⟩, ⟨some 21, none, .ld (some 3) (.t 20), []⟩, ⟨some 22, none, .mv (.t 0), []⟩, ⟨some 23, none, .mv (.t 1), []⟩, ⟨some 24, none, .ia 3 (.t 22) (.t 23), []⟩, ⟨some 25, none, .ld (some 3) (.t 24), []⟩, ⟨some 26, none, .ia 3 (.t 14) (.t 15), []⟩, ⟨none, none, .st 3 (.t 26) (.t 21), []⟩, ⟨some 27, none, .ia 3 (.t 16) (.t 17), []⟩, ⟨none, none, .st 3 (.t 27) (.t 25), []⟩] [0, 1, 2, 4]) (.sq (.rg none [⟨some 28, none, .mv (.t 1), []⟩, ⟨some 29, none, .bo .add (.t 28) (.c (.int .i64 1)), []⟩, ⟨some 30, none, .mv (.t 2), []⟩, ⟨some 31, none, .bo .sub (.t 30) (.c (.int .i64 1)), []⟩, ⟨some 12, none, .mv (.t 29), []⟩, ⟨some 13, none, .mv (.t 31), []⟩] [0, 1, 4, 12, 13]) (.sq (.bl 0 (.lp true b132_0)) k132_9)))), np := 5, res := [.t 10, .t 11], mode := .iso }
/-- math/bits.Len32 -/
def c133 : FI.Fn := { body := (.sq (.rg none [⟨some 2, none, .mv (.c (.int .i64 0)), []⟩] [0, 2]) (.sq (.sq (.rg none [⟨some 3, none, .mv (.t 0), []⟩, ⟨some 4, none, .bo .geq (.t 3) (.c (.int .u32 65536)), []⟩] [0, 2, 4]) (.cd (.t 4) (.sq (.rg none [⟨some 5, none, .mv (.t 0), []⟩, ⟨some 6, none, .bo .shr (.t 5) (.c (.int .u64 16)), []⟩, ⟨some 0, none, .mv (.t 6), []⟩] [0]) (.rg none [⟨some 2, none, .mv (.c (.int .i64 16)), []⟩] [0, 2])) .sk)) (.sq (.sq (.rg none [⟨some 7, none, .mv (.t 0), []⟩, ⟨some 8, none, .bo .geq (.t 7) (.c (.int .u32 256)), []⟩] [0, 2, 8]) (.cd (.t 8) (.sq (.rg none [⟨some 9, none, .mv (.t 0), []⟩, ⟨some 10, none, .bo .shr (.t 9) (.c (.int .u64 8)), []⟩, ⟨some 0, none, .mv (.t 10), []⟩] [0, 2]) (.rg none [⟨some 11, none, .mv (.t 2), []⟩, ⟨some 12, none, .bo .add (.t 11) (.c (.int .i64 8)), []⟩, ⟨some 2, none, .mv (.t 12), []⟩] [0, 2])) .sk)) (.sq (.rg none [⟨some 13, none, .mv (.t 2), []⟩, ⟨some 14, none, .mv (.t 0), []⟩, ⟨some 15, none, .cv .u8 (.t 14), []⟩, ⟨some 16, none, .ix (.c (.str [0, 1, 2, 2, 3, 3, 3, 3, 4, 4, 4, 4, 4, 4, 4, 4, 5, 5, 5, 5, 5, 5, 5, 5, 5, 5, 5, 5, 5, 5, 5, 5, 6, 6, 6, 6, 6, 6, 6, 6, 6, 6, 6, 6, 6, 6, 6, 6, 6, 6, 6, 6, 6, 6, 6, 6, 6, 6, 6, 6, 6, 6, 6, 6, 7, 7, 7, 7, 7, 7, 7, 7, 7, 7, 7, 7, 7, 7, 7, 7, 7, 7, 7, 7, 7, 7, 7, 7, 7, 7, 7, 7, 7, 7, 7, 7, 7, 7, 7, 7, 7, 7, 7, 7, 7, 7, 7, 7, 7, 7, 7, 7, 7, 7, 7, 7, 7, 7, 7, 7, 7, 7, 7, 7, 7, 7, 7, 7, 8, 8, 8, 8, 8, 8, 8, 8, 8, 8, 8, 8, 8, 8, 8, 8, 8, 8, 8, 8, 8, 8, 8, 8, 8, 8, 8, 8, 8, 8, 8, 8, 8, 8, 8, 8, 8, 8, 8, 8, 8, 8, 8, 8, 8, 8, 8, 8, 8, 8, 8, 8, 8, 8, 8, 8, 8, 8, 8, 8, 8, 8, 8, 8, 8, 8, 8, 8, 8, 8, 8, 8, 8, 8, 8, 8, 8, 8, 8, 8, 8, 8, 8, 8, 8, 8, 8, 8, 8, 8, 8, 8, 8, 8, 8, 8, 8, 8, 8, 8, 8, 8, 8, 8, 8, 8, 8, 8, 8, 8, 8, 8, 8, 8, 8, 8, 8, 8, 8, 8, 8, 8, 8, 8, 8, 8, 8, 8])) (.t 15), []⟩, ⟨some 17, none, .cv .i64 (.t 16), []⟩, ⟨some 18, none, .bo .add (.t 13) (.t 17), []⟩, ⟨some 2, none, .mv (.t 18), []⟩] [2]) .rt)))), np := 1, res := [.t 2], mode := .iso }
/-- math/bits.Len64 -/
def c134 : FI.Fn := { body := (.sq (.rg none [⟨some 2, none, .mv (.c (.int .i64 0)), []⟩] [0, 2]) (.sq (.sq (.rg none [⟨some 3, none, .mv (.t 0), []⟩, ⟨some 4, none, .bo .geq (.t 3) (.c (.int .u64 4294967296)), []⟩] [0, 2, 4]) (.cd (.t 4) (.sq (.rg none [⟨some 5, none, .mv (.t 0), []⟩, ⟨some 6, none, .bo .shr (.t 5) (.c (.int .u64 32)), []⟩, ⟨some 0, none, .mv (.t 6), []⟩] [0]) (.rg none [⟨some 2, none, .mv (.c (.int .i64 32)), []⟩] [0, 2])) .sk)) (.sq (.sq (.rg none [⟨some 7, none, .mv (.t 0), []⟩, ⟨some 8, none, .bo .geq (.t 7) (.c (.int .u64 65536)), []⟩] [0, 2, 8]) (.cd (.t 8) (.sq (.rg none [⟨some 9, none, .mv (.t 0), []⟩, ⟨some 10, none, .bo .shr (.t 9) (.c (.int .u64 16)), []⟩, ⟨some 0, none, .mv (.t 10), []⟩] [0, 2]) (.rg none [⟨some 11, none, .mv (.t 2), []⟩, ⟨some 12, none, .bo .add (.t 11) (.c (.int .i64 16)), []⟩, ⟨some 2, none, .mv (.t 12), []⟩] [0, 2])) .sk)) (.sq (.sq (.rg none [⟨some 13, none, .mv (.t 0), []⟩, ⟨some 14, none, .bo .geq (.t 13) (.c (.int .u64 256)), []⟩] [0, 2, 14]) (.cd (.t 14) (.sq (.rg none [⟨some 15, none, .mv (.t 0), []⟩, ⟨some 16, none, .bo .shr (.t 15) (.c (.int .u64 8)), []⟩, ⟨some 0, none, .mv (.t 16), []⟩] [0, 2]) (.rg none [⟨some 17, none, .mv (.t 2), []⟩, ⟨some 18, none, .bo .add (.t 17) (.c (.int .i64 8)), []⟩, ⟨some 2, none, .mv (.t 18), []⟩] [0, 2])) .sk)) (.sq (.rg none [⟨some 19, none, .mv (.t 2), []⟩, ⟨some 20, none, .mv (.t 0), []⟩, ⟨some 21, none, .cv .u8 (.t 20), []⟩, ⟨some 22, none, .ix (.c (.str [0, 1, 2, 2, 3, 3, 3, 3, 4, 4, 4, 4, 4, 4, 4, 4, 5, 5, 5, 5, 5, 5, 5, 5, 5, 5, 5, 5, 5, 5, 5, 5, 6, 6, 6, 6, 6, 6, 6, 6, 6, 6, 6, 6, 6, 6, 6, 6, 6, 6, 6, 6, 6, 6, 6, 6, 6, 6, 6, 6, 6, 6, 6, 6, 7, 7, 7, 7, 7, 7, 7, 7, 7, 7, 7, 7, 7, 7, 7, 7, 7, 7, 7, 7, 7, 7, 7, 7, 7, 7, 7, 7, 7, 7, 7, 7, 7, 7, 7, 7, 7, 7, 7, 7, 7, 7, 7, 7, 7, 7, 7, 7, 7, 7, 7, 7, 7, 7, 7, 7, 7, 7, 7, 7, 7, 7, 7, 7, 8, 8, 8, 8, 8, 8, 8, 8, 8, 8, 8, 8, 8, 8, 8, 8, 8, 8, 8, 8, 8, 8, 8, 8, 8, 8, 8, 8, 8, 8, 8, 8, 8, 8, 8, 8, 8, 8, 8, 8, 8, 8, 8, 8, 8, 8, 8, 8, 8, 8, 8, 8, 8, 8, 8, 8, 8, 8, 8, 8, 8, 8, 8, 8, 8, 8, 8, 8, 8, 8, 8, 8, 8, 8, 8, 8, 8, 8, 8, 8, 8, 8, 8, 8, 8, 8, 8, 8, 8, 8, 8, 8, 8, 8, 8, 8, 8, 8, 8, 8, 8, 8, 8, 8, 8, 8, 8, 8, 8, 8, 8, 8, 8, 8, 8, 8, 8, 8, 8, 8, 8, 8, 8, 8, 8, 8, 8, 8])) (.t 21), []⟩, ⟨some 23, none, .cv .i64 (.t 22), []⟩, ⟨some 24, none, .bo .add (.t 19) (.t 23), []⟩, ⟨some 2, none, .mv (.t 24), []⟩] [2]) .rt))))), np := 1, res := [.t 2], mode := .iso }
/-- retarget/simplify.left$1 -/
def c135 : FI.Fn := { body := (.sq (.rg none [⟨some 3, none, .bx 6 (.t 0), []⟩, ⟨some 4, none, .al 6 (.agg [(.int .u8 0), (.int .i64 0), (.int .u64 0), (.str []), (.int .i64 0), (.lst true [])]), []⟩, ⟨some 5, none, .mv (.c (.bool false)), []⟩] [1, 2, 3, 4]) (.sq (.rg (some [0, 1, 3, 4, 5, 6, 7, 8, 9, 10, 11, 12, 2, 13, 14, 15, 16]) [⟨some 6, none, .ld none (.t 1), []⟩, ⟨some 7, none, .ld (some 6) (.t 3), []⟩, ⟨some 9, none, .fa 5 (.t 3), []⟩, ⟨some 10, none, .ld none (.t 9), []⟩, ⟨some 11, none, .ia 6 (.t 10) (.c (.int .i64 0)), []⟩, ⟨some 12, none, .ld (some 6) (.t 11), []⟩, ⟨some 13, none, .fa 5 (.t 3), []⟩, ⟨some 14, none, .ld none (.t 13), []⟩, ⟨some 15, none, .ia 6 (.t 14) (.c (.int .i64 0)), []⟩, ⟨some 16, none, .fa 1 (.t 15), []⟩, ⟨some 17, none, .ld none (.t 16), []⟩, ⟨some 18, none, .ld none (.t 2), []⟩, ⟨some 8, none, .cw (.t 6) [(.t 7)], [(none, none, 9, 10), (none, (some 6), 11, 12), (none, none, 13, 14), (none, none, 16, 17), (none, none, 2, 18)]⟩, ⟨some 19, none, .cl 137 [(.t 17), (.t 18)], []⟩, ⟨some 20, none, .cl 136 [(.t 12), (.t 19)], []⟩, ⟨none, none, .st 6 (.t 4) (.t 8), []⟩, ⟨some 5, none, .mv (.t 20), []⟩] [4, 5]) .rt)), np := 3, res := [.cell 4 (some 6), .t 5], mode := .isc }
/-- retarget/simplify.is -/
def c136 : FI.Fn := { body := (.sq (.rg none [⟨some 2, none, .bx 6 (.t 0), []⟩, ⟨some 4, none, .mv (.c (.bool false)), []⟩] [1, 2]) (.sq (.rg none [⟨some 5, none, .fa 0 (.t 2), []⟩, ⟨some 6, none, .ld none (.t 5), []⟩, ⟨some 7, none, .bo .eql (.t 6) (.c (.int .u8 1)), []⟩, ⟨some 8, none, .mv (.t 7), []⟩, ⟨some 9, some (8, true), .fa 2 (.t 2), []⟩, ⟨some 10, some (8, true), .ld none (.t 9), []⟩, ⟨some 11, some (8, true), .mv (.t 1), []⟩, ⟨some 12, some (8, true), .bo .eql (.t 10) (.t 11), []⟩, ⟨some 13, none, .pk (.t 8) (.t 12) (.c (.bool false)), []⟩, ⟨some 4, none, .mv (.t 13), []⟩] [4]) .rt)), np := 2, res := [.t 4], mode := .iso }
/-- retarget/simplify.value -/
def c137 : FI.Fn := { body := (.sq (.rg none [⟨some 4, none, .mv (.c (.int .u64 0)), []⟩] [0, 1]) (.sq (.rg none [⟨some 5, none, .mv (.t 1), []⟩, ⟨some 6, none, .mv (.t 0), []⟩, ⟨some 7, none, .cl 115 [(.t 6)], []⟩, ⟨some 8, none, .mn (.t 5) (.t 7), []⟩, ⟨some 4, none, .mv (.t 8), []⟩] [4]) .rt)), np := 2, res := [.t 4], mode := .iso }
/-- retarget/simplify.right$1 -/
def c138 : FI.Fn := { body := (.sq (.rg none [⟨some 3, none, .bx 6 (.t 0), []⟩, ⟨some 4, none, .al 6 (.agg [(.int .u8 0), (.int .i64 0), (.int .u64 0), (.str []), (.int .i64 0), (.lst true [])]), []⟩, ⟨some 5, none, .mv (.c (.bool false)), []⟩] [1, 2, 3, 4]) (.sq (.rg (some [0, 1, 3, 4, 5, 6, 7, 8, 9, 10, 11, 12, 2, 13, 14, 15, 16]) [⟨some 6, none, .ld none (.t 1), []⟩, ⟨some 7, none, .ld (some 6) (.t 3), []⟩, ⟨some 9, none, .fa 5 (.t 3), []⟩, ⟨some 10, none, .ld none (.t 9), []⟩, ⟨some 11, none, .ia 6 (.t 10) (.c (.int .i64 1)), []⟩, ⟨some 12, none, .ld (some 6) (.t 11), []⟩, ⟨some 13, none, .fa 5 (.t 3), []⟩, ⟨some 14, none, .ld none (.t 13), []⟩, ⟨some 15, none, .ia 6 (.t 14) (.c (.int .i64 1)), []⟩, ⟨some 16, none, .fa 1 (.t 15), []⟩, ⟨some 17, none, .ld none (.t 16), []⟩, ⟨some 18, none, .ld none (.t 2), []⟩, ⟨some 8, none, .cw (.t 6) [(.t 7)], [(none, none, 9, 10), (none, (some 6), 11, 12), (none, none, 13, 14), (none, none, 16, 17), (none, none, 2, 18)]⟩, ⟨some 19, none, .cl 137 [(.t 17), (.t 18)], []⟩, ⟨some 20, none, .cl 136 [(.t 12), (.t 19)], []⟩, ⟨none, none, .st 6 (.t 4) (.t 8), []⟩, ⟨some 5, none, .mv (.t 20), []⟩] [4, 5]) .rt)), np := 3, res := [.cell 4 (some 6), .t 5], mode := .isc }
/-- retarget/simplify.same$1 -/
def c139 : FI.Fn := { body := (.sq (.rg none [⟨some 2, none, .bx 6 (.t 0), []⟩, ⟨some 3, none, .al 6 (.agg [(.int .u8 0), (.int .i64 0), (.int .u64 0), (.str []), (.int .i64 0), (.lst true [])]), []⟩, ⟨some 4, none, .mv (.c (.bool false)), []⟩] [1, 2, 3]) (.sq (.rg (some [0, 1, 3, 4, 5, 6, 7, 8, 9, 10, 2, 11, 12, 13]) [⟨some 5, none, .ld none (.t 1), []⟩, ⟨some 6, none, .ld (some 6) (.t 2), []⟩, ⟨some 8, none, .fa 5 (.t 2), []⟩, ⟨some 9, none, .ld none (.t 8), []⟩, ⟨some 10, none, .ia 6 (.t 9) (.c (.int .i64 0)), []⟩, ⟨some 11, none, .ld (some 6) (.t 10), []⟩, ⟨some 12, none, .fa 5 (.t 2), []⟩, ⟨some 13, none, .ld none (.t 12), []⟩, ⟨some 14, none, .ia 6 (.t 13) (.c (.int .i64 1)), []⟩, ⟨some 15, none, .ld (some 6) (.t 14), []⟩, ⟨some 7, none, .cw (.t 5) [(.t 6)], [(none, none, 8, 9), (none, (some 6), 10, 11), (none, none, 12, 13), (none, (some 6), 14, 15)]⟩, ⟨some 16, none, .cl 140 [(.t 11), (.t 15)], []⟩, ⟨none, none, .st 6 (.t 3) (.t 7), []⟩, ⟨some 4, none, .mv (.t 16), []⟩] [3, 4]) .rt)), np := 2, res := [.cell 3 (some 6), .t 4], mode := .isc }
/-- retarget/term.Same -/
def c140 : FI.Fn := { body := (.sq (.rg none [⟨some 2, none, .bx 6 (.t 0), []⟩, ⟨some 3, none, .bx 6 (.t 1), []⟩, ⟨some 4, none, .mv (.c (.bool false)), []⟩] [2, 3]) (.sq (.rg none [⟨some 5, none, .fa 0 (.t 2), []⟩, ⟨some 6, none, .ld none (.t 5), []⟩, ⟨some 7, none, .fa 0 (.t 3), []⟩, ⟨some 8, none, .ld none (.t 7), []⟩, ⟨some 9, none, .bo .eql (.t 6) (.t 8), []⟩, ⟨some 10, none, .mv (.t 9), []⟩, ⟨some 11, some (10, true), .fa 1 (.t 2), []⟩, ⟨some 12, some (10, true), .ld none (.t 11), []⟩, ⟨some 13, some (10, true), .fa 1 (.t 3), []⟩, ⟨some 14, some (10, true), .ld none (.t 13), []⟩, ⟨some 15, some (10, true), .bo .eql (.t 12) (.t 14), []⟩, ⟨some 16, none, .pk (.t 10) (.t 15) (.c (.bool false)), []⟩, ⟨some 17, none, .mv (.t 16), []⟩, ⟨some 18, some (17, true), .fa 2 (.t 2), []⟩, ⟨some 19, some (17, true), .ld none (.t 18), []⟩, ⟨some 20, some (17, true), .fa 2 (.t 3), []⟩, ⟨some 21, some (17, true), .ld none (.t 20), []⟩, ⟨some 22, some (17, true), .bo .eql (.t 19) (.t 21), []⟩, ⟨some 23, none, .pk (.t 17) (.t 22) (.c (.bool false)), []⟩, ⟨some 24, none, .mv (.t 23), []⟩, ⟨some 25, some (24, true), .fa 3 (.t 2), []⟩, ⟨some 26, some (24, true), .ld none (.t 25), []⟩, ⟨some 27, some (24, true), .fa 3 (.t 3), []⟩, ⟨some 28, some (24, true), .ld none (.t 27), []⟩, ⟨some 29, some (24, true), .bo .eql (.t 26) (.t 28), []⟩, ⟨some 30, none, .pk (.t 24) (.t 29) (.c (.bool false)), []⟩, ⟨some 31, none, .mv (.t 30), []⟩, ⟨some 32, some (31, true), .fa 4 (.t 2), []⟩, ⟨some 33, some (31, true), .ld none (.t 32), []⟩, ⟨some 34, some (31, true), .fa 4 (.t 3), []⟩, ⟨some 35, some (31, true), .ld none (.t 34), []⟩, ⟨some 36, some (31, true), .bo .eql (.t 33) (.t 35), []⟩, ⟨some 37, none, .pk (.t 31) (.t 36) (.c (.bool false)), []⟩, ⟨some 38, none, .mv (.t 37), []⟩, ⟨some 39, some (38, true), .fa 5 (.t 2), []⟩, ⟨some 40, some (38, true), .ld none (.t 39), []⟩, ⟨some 41, some (38, true), .fa 5 (.t 3), []⟩, ⟨some 42, some (38, true), .ld none (.t 41), []⟩, ⟨some 43, some (38, true), .cl 186 [(.t 40), (.t 42), (.c (.fn 140 []))], []⟩, ⟨some 44, none, .pk (.t 38) (.t 43) (.c (.bool false)), []⟩, ⟨some 4, none, .mv (.t 44), []⟩] [4]) .rt)), np := 2, res := [.t 4], mode := .iso }
/-- retarget/simplify.number$1 -/
def c141 : FI.Fn := { body := (.sq (.rg none [⟨some 2, none, .bx 6 (.t 0), []⟩, ⟨some 3, none, .al 6 (.agg [(.int .u8 0), (.int .i64 0), (.int .u64 0), (.str []), (.int .i64 0), (.lst true [])]), []⟩] [1, 2, 3]) (.sq (.rg (some [0, 1, 2, 3, 4, 5, 6, 7]) [⟨some 4, none, .fa 1 (.t 2), []⟩, ⟨some 5, none, .ld none (.t 4), []⟩, ⟨some 6, none, .fa 1 (.t 2), []⟩, ⟨some 7, none, .ld none (.t 6), []⟩, ⟨some 8, none, .ld none (.t 1), []⟩, ⟨some 9, none, .cl 137 [(.t 7), (.t 8)], []⟩, ⟨some 10, none, .cl 78 [(.t 5), (.t 9)], []⟩, ⟨none, none, .st 6 (.t 3) (.t 10), []⟩] [3]) .rt)), np := 2, res := [.cell 3 (some 6)], mode := .iso }
/-- internal/stringslite.HasPrefix -/
def c156 : FI.Fn := { body := (.sq (.rg none [⟨some 4, none, .mv (.c (.bool false)), []⟩] [0, 1]) (.sq (.rg none [⟨some 5, none, .mv (.t 0), []⟩, ⟨some 6, none, .ln 0 (.t 5), []⟩, ⟨some 7, none, .mv (.t 1), []⟩, ⟨some 8, none, .ln 0 (.t 7), []⟩, ⟨some 9, none, .bo .geq (.t 6) (.t 8), []⟩, ⟨some 10, none, .mv (.t 9), []⟩, ⟨some 11, some (10, true), .mv (.t 0), []⟩, ⟨some 12, some (10, true), .mv (.t 1), []⟩, ⟨some 13, some (10, true), .ln 0 (.t 12), []⟩, ⟨some 14, some (10, true), .sl 0 (.t 11) none (some (.t 13)), []⟩, ⟨some 15, some (10, true), .mv (.t 1), []⟩, ⟨some 16, some (10, true), .bo .eql (.t 14) (.t 15), []⟩, ⟨some 17, none, .pk (.t 10) (.t 16) (.c (.bool false)), []⟩, ⟨some 4, none, .mv (.t 17), []⟩] [4]) .rt)), np := 2, res := [.t 4], mode := .iso }
def b157_0 : C := (.sq (.sq (.rg none [⟨some 11, none, .mv (.t 5), []⟩, ⟨some 12, none, .mv (.t 0), []⟩, ⟨some 13, none, .ln 0 (.t 12), []⟩, ⟨some 14, none, .bo .lss (.t 11) (.t 13), []⟩, ⟨some 15, none, .mv (.t 14), []⟩, ⟨some 16, some (15, true), .mv (.t 5), []⟩, ⟨some 17, some (15, true), .bo .lss (.t 16) (.c (.int .i64 2)), []⟩, ⟨some 18, none, .pk (.t 15) (.t 17) (.c (.bool false)), []⟩, ⟨some 19, none, .mv (.t 18), []⟩, ⟨some 20, some (19, true), .mv (.t 0), []⟩, ⟨some 21, some (19, true), .mv (.t 5), []⟩, ⟨some 22, some (19, true), .ix (.t 20) (.t 21), []⟩, ⟨some 23, some (19, true), .bo .geq (.t 22) (.c (.int .u8 48)), []⟩, ⟨some 24, none, .pk (.t 19) (.t 23) (.c (.bool false)), []⟩, ⟨some 25, none, .mv (.t 24), []⟩, ⟨some 26, some (25, true), .mv (.t 0), []⟩, ⟨some 27, some (25, true), .mv (.t 5), []⟩, ⟨some 28, some (25, true), .ix (.t 26) (.t 27), []⟩, ⟨some 29, some (25, true), .bo .leq (.t 28) (.c (.int .u8 57)), []⟩, ⟨some 30, none, .pk (.t 25) (.t 29) (.c (.bool false)), []⟩] [0, 2, 3, 5, 30]) (.cd (.t 30) .sk (.xt 0))) (.bl 1 (.sq (.rg none [⟨some 31, none, .mv (.t 2), []⟩, ⟨some 32, none, .bo .mul (.c (.int .i64 10)) (.t 31), []⟩, ⟨some 33, none, .mv (.t 0), []⟩, ⟨some 34, none, .mv (.t 5), []⟩, ⟨some 35, none, .ix (.t 33) (.t 34), []⟩, ⟨some 36, none, .bo .sub (.t 35) (.c (.int .u8 48)), []⟩, ⟨some 37, none, .cv .i64 (.t 36), []⟩, ⟨some 38, none, .bo .add (.t 32) (.t 37), []⟩, ⟨some 2, none, .mv (.t 38), []⟩] [0, 2, 3, 5]) (.rg none [⟨some 39, none, .mv (.t 5), []⟩, ⟨some 40, none, .bo .add (.t 39) (.c (.int .i64 1)), []⟩, ⟨some 5, none, .mv (.t 40), []⟩] [0, 2, 3, 5]))))
def b157_1 : C := (.sq (.sq (.rg none [⟨some 43, none, .mv (.t 6), []⟩, ⟨some 44, none, .mv (.t 0), []⟩, ⟨some 45, none, .ln 0 (.t 44), []⟩, ⟨some 46, none, .bo .lss (.t 43) (.t 45), []⟩, ⟨some 47, none, .mv (.t 46), []⟩, ⟨some 48, some (47, true), .mv (.t 6), []⟩, ⟨some 49, some (47, true), .mv (.t 5), []⟩, ⟨some 50, some (47, true), .bo .add (.t 49) (.c (.int .i64 18)), []⟩, ⟨some 51, some (47, true), .bo .lss (.t 48) (.t 50), []⟩, ⟨some 52, none, .pk (.t 47) (.t 51) (.c (.bool false)), []⟩] [0, 2, 3, 5, 6, 52]) (.cd (.t 52) .sk (.xt 2))) (.sq (.bl 3 (.sq (.rg none [⟨some 7, none, .mv (.c (.int .u64 0)), []⟩] [0, 2, 3, 5, 6, 7]) (.sq (.sq (.rg none [⟨some 55, none, .mv (.t 0), []⟩, ⟨some 56, none, .mv (.t 6), []⟩, ⟨some 57, none, .ix (.t 55) (.t 56), []⟩, ⟨some 8, none, .mv (.t 57), []⟩] [0, 2, 3, 5, 6, 7, 8]) (.bl 4 (.sq (.rg none [⟨some 59, none, .mv (.t 8), []⟩, ⟨some 60, none, .bo .geq (.t 59) (.c (.int .u8 48)), []⟩, ⟨some 61, none, .mv (.t 60), []⟩, ⟨some 62, some (61, true), .mv (.t 8), []⟩, ⟨some 63, some (61, true), .bo .leq (.t 62) (.c (.int .u8 57)), []⟩, ⟨some 64, none, .pk (.t 61) (.t 63) (.c (.bool false)), []⟩, ⟨some 58, none, .mv (.t 64), []⟩] [0, 2, 3, 5, 6, 7, 8, 58]) (.cd (.t 58) (.rg none [⟨some 65, none, .mv (.t 8), []⟩, ⟨some 66, none, .bo .sub (.t 65) (.c (.int .u8 48)), []⟩, ⟨some 67, none, .cv .u64 (.t 66), []⟩, ⟨some 7, none, .mv (.t 67), []⟩] [0, 2, 3, 5, 6, 7]) (.sq (.rg none [⟨some 69, none, .mv (.t 8), []⟩, ⟨some 70, none, .bo .geq (.t 69) (.c (.int .u8 97)), []⟩, ⟨some 71, none, .mv (.t 70), []⟩, ⟨some 72, some (71, true), .mv (.t 8), []⟩, ⟨some 73, some (71, true), .bo .leq (.t 72) (.c (.int .u8 102)), []⟩, ⟨some 74, none, .pk (.t 71) (.t 73) (.c (.bool false)), []⟩, ⟨some 68, none, .mv (.t 74), []⟩] [0, 2, 3, 5, 6, 7, 8, 68]) (.cd (.t 68) (.rg none [⟨some 75, none, .mv (.t 8), []⟩, ⟨some 76, none, .bo .sub (.t 75) (.c (.int .u8 97)), []⟩, ⟨some 77, none, .cv .u64 (.t 76), []⟩, ⟨some 78, none, .bo .add (.t 77) (.c (.int .u64 10)), []⟩, ⟨some 7, none, .mv (.t 78), []⟩] [0, 2, 3, 5, 6, 7]) .sk)))))) (.rg none [⟨some 79, none, .mv (.t 3), []⟩, ⟨some 80, none, .bo .shl (.t 79) (.c (.int .u64 4)), []⟩, ⟨some 81, none, .mv (.t 7), []⟩, ⟨some 82, none, .bo .or (.t 80) (.t 81), []⟩, ⟨some 3, none, .mv (.t 82), []⟩] [0, 2, 3, 5, 6])))) (.rg none [⟨some 53, none, .mv (.t 6), []⟩, ⟨some 54, none, .bo .add (.t 53) (.c (.int .i64 1)), []⟩, ⟨some 6, none, .mv (.t 54), []⟩] [0, 2, 3, 5, 6])))
def k157_2 : C := (.sq (.sq (.rg none [⟨some 84, none, .mv (.t 2), []⟩, ⟨some 85, none, .mv (.t 3), []⟩, ⟨some 86, none, .cl 109 [(.t 84), (.t 85)], []⟩, ⟨some 83, none, .mv (.t 86), []⟩, ⟨some 87, none, .ex (.t 83) 0, []⟩, ⟨some 88, none, .ex (.t 83) 1, []⟩, ⟨some 9, none, .mv (.t 87), []⟩, ⟨some 10, none, .mv (.t 88), []⟩] [0, 2, 3, 9, 10]) (.sq (.rg none [⟨some 89, none, .mv (.t 10), []⟩, ⟨some 90, none, .bo .neq (.t 89) (.c (.int .i64 0)), []⟩, ⟨some 91, none, .mv (.t 90), []⟩, ⟨some 92, some (91, false), .mv (.t 9), []⟩, ⟨some 93, some (91, false), .mv (.t 0), []⟩, ⟨some 94, some (91, false), .bo .neq (.t 92) (.t 93), []⟩, ⟨some 95, none, .pk (.t 91) (.c (.bool true)) (.t 94), []⟩] [2, 3, 95]) (.cd (.t 95) (.sq (.rg none [⟨some 2, none, .mv (.c (.int .i64 0)), []⟩, ⟨some 3, none, .mv (.c (.int .u64 0)), []⟩, ⟨some 4, none, .mv (.c (.int .i64 12)), []⟩] [2, 3, 4]) .rt) .sk))) (.sq (.rg none [⟨some 96, none, .mv (.t 2), []⟩, ⟨some 97, none, .mv (.t 3), []⟩, ⟨some 2, none, .mv (.t 96), []⟩, ⟨some 3, none, .mv (.t 97), []⟩, ⟨some 4, none, .mv (.c (.int .i64 0)), []⟩] [2, 3, 4]) .rt))
def k157_3 : C := (.sq (.sq (.rg none [⟨some 41, none, .mv (.t 5), []⟩, ⟨some 42, none, .bo .add (.t 41) (.c (.int .i64 1)), []⟩, ⟨some 6, none, .mv (.t 42), []⟩] [0, 2, 3, 5, 6]) (.bl 2 (.lp true b157_1))) k157_2)
/-- retarget/bits.Parse -/
def c157 : FI.Fn := { body := (.sq (.rg none [⟨some 2, none, .mv (.c (.int .i64 0)), []⟩, ⟨some 3, none, .mv (.c (.int .u64 0)), []⟩, ⟨some 4, none, .mv (.c (.int .i64 0)), []⟩] [0, 2, 3]) (.sq (.rg none [⟨some 5, none, .mv (.c (.int .i64 0)), []⟩] [0, 2, 3, 5]) (.sq (.bl 0 (.lp true b157_0)) k157_3))), np := 1, res := [.t 2, .t 3, .t 4], mode := .iso }
/-- strings.Cut -/
def c158 : FI.Fn := { body := (.sq (.rg none [⟨some 4, none, .mv (.c (.str [])), []⟩, ⟨some 5, none, .mv (.c (.str [])), []⟩, ⟨some 6, none, .mv (.c (.bool false)), []⟩] [0, 1]) (.sq (.rg none [⟨some 7, none, .mv (.t 0), []⟩, ⟨some 8, none, .mv (.t 1), []⟩, ⟨some 9, none, .cl 189 [(.t 7), (.t 8)], []⟩, ⟨some 10, none, .ex (.t 9) 0, []⟩, ⟨some 11, none, .ex (.t 9) 1, []⟩, ⟨some 12, none, .ex (.t 9) 2, []⟩, ⟨some 4, none, .mv (.t 10), []⟩, ⟨some 5, none, .mv (.t 11), []⟩, ⟨some 6, none, .mv (.t 12), []⟩] [4, 5, 6]) .rt)), np := 2, res := [.t 4, .t 5, .t 6], mode := .iso }
def b159_0 : C := (.sq (.sq (.rg none [⟨some 33, none, .mv (.t 8), []⟩, ⟨some 34, none, .mv (.t 0), []⟩, ⟨some 35, none, .ln 0 (.t 34), []⟩, ⟨some 36, none, .bo .lss (.t 33) (.t 35), []⟩] [0, 6, 8, 36]) (.cd (.t 36) .sk (.xt 0))) (.sq (.bl 1 (.sq (.rg none [⟨some 39, none, .mv (.t 0), []⟩, ⟨some 40, none, .mv (.t 8), []⟩, ⟨some 41, none, .ix (.t 39) (.t 40), []⟩, ⟨some 42, none, .cl 193 [(.t 6), (.t 41)], []⟩] [0, 6, 8, 42]) (.cd (.t 42) (.sq (.rg none [⟨some 43, none, .mv (.t 8), []⟩, ⟨some 4, none, .mv (.t 43), []⟩] [4]) .rt) .sk))) (.rg none [⟨some 37, none, .mv (.t 8), []⟩, ⟨some 38, none, .bo .add (.t 37) (.c (.int .i64 1)), []⟩, ⟨some 8, none, .mv (.t 38), []⟩] [0, 6, 8])))
def k159_1 : C := (.sq (.rg none [⟨some 4, none, .mv (.c (.int .i64 (-1))), []⟩] [4]) .rt)
def b159_2 : C := (.sq (.rg none [⟨some 46, none, .ns (.t 45), []⟩, ⟨some 47, none, .ex (.t 46) 0, []⟩] [1, 45, 46, 47]) (.sq (.cd (.t 47) .sk (.xt 2)) (.bl 3 (.sq (.rg none [⟨some 48, none, .ex (.t 46) 1, []⟩, ⟨some 49, none, .ex (.t 46) 2, []⟩, ⟨some 9, none, .mv (.t 48), []⟩, ⟨some 10, none, .mv (.t 49), []⟩] [1, 9, 10, 45]) (.sq (.rg none [⟨some 50, none, .mv (.t 1), []⟩, ⟨some 51, none, .mv (.t 10), []⟩, ⟨some 52, none, .cl 190 [(.t 50), (.t 51)], []⟩, ⟨some 53, none, .bo .geq (.t 52) (.c (.int .i64 0)), []⟩] [1, 9, 45, 53]) (.cd (.t 53) (.sq (.rg none [⟨some 54, none, .mv (.t 9), []⟩, ⟨some 4, none, .mv (.t 54), []⟩] [4]) .rt) .sk))))))
def k159_3 : C := (.sq (.rg none [⟨some 4, none, .mv (.c (.int .i64 (-1))), []⟩] [4]) .rt)
def k159_4 : C := (.sq (.sq (.rg none [⟨some 44, none, .mv (.t 0), []⟩, ⟨some 45, none, .rs (.t 44), []⟩] [1, 45]) (.bl 2 (.lp true b159_2))) k159_3)
/-- strings.IndexAny -/
def c159 : FI.Fn := { body := (.sq (.rg none [⟨some 4, none, .mv (.c (.int .i64 0)), []⟩] [0, 1]) (.sq (.sq (.rg none [⟨some 11, none, .mv (.t 1), []⟩, ⟨some 12, none, .bo .eql (.t 11) (.c (.str [])), []⟩] [0, 1, 12]) (.cd (.t 12) (.sq (.rg none [⟨some 4, none, .mv (.c (.int .i64 (-1))), []⟩] [4]) .rt) .sk)) (.sq (.sq (.rg none [⟨some 13, none, .mv (.t 1), []⟩, ⟨some 14, none, .ln 0 (.t 13), []⟩, ⟨some 15, none, .bo .eql (.t 14) (.c (.int .i64 1)), []⟩] [0, 1, 15]) (.cd (.t 15) (.sq (.rg none [⟨some 16, none, .mv (.t 1), []⟩, ⟨some 17, none, .ix (.t 16) (.c (.int .i64 0)), []⟩, ⟨some 18, none, .cv .i32 (.t 17), []⟩, ⟨some 5, none, .mv (.t 18), []⟩] [0, 5]) (.sq (.sq (.rg none [⟨some 19, none, .mv (.t 5), []⟩, ⟨some 20, none, .bo .geq (.t 19) (.c (.int .i32 128)), []⟩] [0, 5, 20]) (.cd (.t 20) (.rg none [⟨some 5, none, .mv (.c (.int .i32 65533)), []⟩] [0, 5]) .sk)) (.sq (.rg none [⟨some 21, none, .mv (.t 0), []⟩, ⟨some 22, none, .mv (.t 5), []⟩, ⟨some 23, none, .cl 190 [(.t 21), (.t 22)], []⟩, ⟨some 4, none, .mv (.t 23), []⟩] [4]) .rt))) .sk)) (.sq (.sq (.rg none [⟨some 24, none, .mv (.t 0), []⟩, ⟨some 25, none, .ln 0 (.t 24), []⟩, ⟨some 26, none, .cl 191 [(.t 25)], []⟩] [0, 1, 26]) (.cd (.t 26) (.sq (.rg none [⟨some 28, none, .mv (.t 1), []⟩, ⟨some 29, none, .cl 192 [(.t 28)], []⟩, ⟨some 27, none, .mv (.t 29), []⟩, ⟨some 30, none, .ex (.t 27) 0, []⟩, ⟨some 31, none, .ex (.t 27) 1, []⟩, ⟨some 6, none, .al 256 (.agg [(.bool false), (.bool false), (.bool false), (.bool false), (.bool false), (.bool false), (.bool false), (.bool false), (.bool false), (.bool false), (.bool false), (.bool false), (.bool false), (.bool false), (.bool false), (.bool false), (.bool false), (.bool false), (.bool false), (.bool false), (.bool false), (.bool false), (.bool false), (.bool false), (.bool false), (.bool false), (.bool false), (.bool false), (.bool false), (.bool false), (.bool false), (.bool false), (.bool false), (.bool false), (.bool false), (.bool false), (.bool false), (.bool false), (.bool false), (.bool false), (.bool false), (.bool false), (.bool false), (.bool false), (.bool false), (.bool false), (.bool false), (.bool false), (.bool false), (.bool false), (.bool false), (.bool false), (.bool false), (.bool false), (.bool false), (.bool false), (.bool false), (.bool false), (.bool false), (.bool false), (.bool false), (.bool false), (.bool false), (.bool false), (.bool false), (.bool false), (.bool false), (.bool false), (.bool false), (.bool false), (.bool false), (.bool false), (.bool false), (.bool false), (.bool false), (.bool false), (.bool false), (.bool false), (.bool false), (.bool false), (.bool false), (.bool false), (.bool false), (.bool false), (.bool false), (.bool false), (.bool false), (.bool false), (.bool false), (.bool false), (.bool false), (.bool false), (.bool false), (.bool false), (.bool false), (.bool false), (.bool false), (.bool false), (.bool false), (.bool false), (.bool false), (.bool false), (.bool false), (.bool false), (.bool false), (.bool false), (.bool false), (.bool false), (.bool false), (.bool false), (.bool false), (.bool false), (.bool false), (.bool false), (.bool false), (.bool false), (.bool false), (.bool false), (.bool false), (.bool false), (.bool false), (.bool false), (.bool false), (.bool false), (.bool false), (.bool false), (.bool false), (.bool false), (.bool false), (.bool false), (.bool false), (.bool false), (.bool false), (.bool false), (.bool false), (.bool false), (.bool false), (.bool false), (.bool false), (.bool false), (.bool false), (.bool false), (.bool false), (.bool false), (.bool false), (.bool false), (.bool false), (.bool false), (.bool false), (.bool false), (.bool false), (.bool false), (.bool false), (.bool false), (.bool false), (.bool false), (.bool false), (.bool false), (.bool false), (.bool false), (.bool false), (.bool false), (.bool false), (.bool false), (.bool false), (.bool false), (.bool false), (.bool false), (.bool false), (.bool false), (.bool false), (.bool false), (.bool false), (.bool false), (.bool false), (.bool false), (.bool false), (.bool false), (.bool false), (.bool false), (.bool false), (.bool false), (.bool false), (.bool false), (.bool false), (.bool false), (.bool false), (.bool false), (.bool false), (.bool false), (.bool false), (.bool false), (.bool false), (.bool false), (.bool false), (.bool false), (.bool false), (.bool false), (.bool false), (.bool false), (.bool false), (.bool false), (.bool false), (.bool false), (.bool false), (.bool false), (.bool false), (.bool false), (.bool false), (.bool false), (.bool false), (.bool false), (.bool false), (.bool false), (.bool false), (.bool false), (.bool false), (.bool false), (.bool false), (.bool false), (.bool false), (.bool false), (.bool false), (.bool false), (.bool false), (.bool false), (.bool false), (.bool false), (.bool false), (.bool false), (.bool false), (.bool false), (.bool false), (.bool false), (.bool false), (.bool false), (.bool false), (.bool false), (.bool false), (.bool false), (.bool false), (.bool false), (.bool false), (.bool false), (.bool false), (.bool false), (.bool false), (.bool false), (.bool false), (.bool false), (.bool false), (.bool false), (.bool false), (.bool false), (.bool false), (.bool false)]), []⟩, ⟨none, none, .st 256 (.t 6) (.t 30), []⟩, ⟨some 7, none, .mv (.t 31), []⟩] [0, 1, 6, 7]) (.sq (.rg none [⟨some 32, none, .mv (.t 7), []⟩] [0, 1, 6, 32]) (.cd (.t 32) (.sq (.sq (.rg none [⟨some 8, none, .mv (.c (.int .i64 0)), []⟩] [0, 6, 8]) (.bl 0 (.lp true b159_0))) k159_1) .sk))) .sk)) k159_4)))), np := 2, res := [.t 4], mode := .iso }
/-- internal/stringslite.TrimPrefix -/
def c163 : FI.Fn := { body := (.sq (.rg none [⟨some 4, none, .mv (.c (.str [])), []⟩] [0, 1]) (.sq (.sq (.rg none [⟨some 5, none, .mv (.t 0), []⟩, ⟨some 6, none, .mv (.t 1), []⟩, ⟨some 7, none, .cl 156 [(.t 5), (.t 6)], []⟩] [0, 1, 7]) (.cd (.t 7) (.sq (.rg none [⟨some 8, none, .mv (.t 0), []⟩, ⟨some 9, none, .mv (.t 1), []⟩, ⟨some 10, none, .ln 0 (.t 9), []⟩, ⟨some 11, none, .sl 0 (.t 8) (some (.t 10)) none, []⟩, ⟨some 4, none, .mv (.t 11), []⟩] [4]) .rt) .sk)) (.sq (.rg none [⟨some 12, none, .mv (.t 0), []⟩, ⟨some 4, none, .mv (.t 12), []⟩] [4]) .rt))), np := 2, res := [.t 4], mode := .iso }
/-- retarget/bits.operation$1 -/
def c164 : FI.Fn := { body := (.sq (.rg none [⟨some 6, none, .mv (.c (.int .u64 0)), []⟩] [1, 2]) (.sq (.rg none [⟨some 7, none, .mv (.t 1), []⟩, ⟨some 8, none, .mv (.t 2), []⟩, ⟨some 9, none, .bo .add (.t 7) (.t 8), []⟩, ⟨some 6, none, .mv (.t 9), []⟩] [6]) .rt)), np := 3, res := [.t 6], mode := .iso }
/-- retarget/bits.operation$2 -/
def c165 : FI.Fn := { body := (.sq (.rg none [⟨some 6, none, .mv (.c (.int .u64 0)), []⟩] [1, 2]) (.sq (.rg none [⟨some 7, none, .mv (.t 1), []⟩, ⟨some 8, none, .mv (.t 2), []⟩, ⟨some 9, none, .bo .sub (.t 7) (.t 8), []⟩, ⟨some 6, none, .mv (.t 9), []⟩] [6]) .rt)), np := 3, res := [.t 6], mode := .iso }
/-- retarget/bits.operation$3 -/
def c166 : FI.Fn := { body := (.sq (.rg none [⟨some 6, none, .mv (.c (.int .u64 0)), []⟩] [1, 2]) (.sq (.rg none [⟨some 7, none, .mv (.t 1), []⟩, ⟨some 8, none, .mv (.t 2), []⟩, ⟨some 9, none, .bo .mul (.t 7) (.t 8), []⟩, ⟨some 6, none, .mv (.t 9), []⟩] [6]) .rt)), np := 3, res := [.t 6], mode := .iso }
/-- retarget/bits.operation$4 -/
def c167 : FI.Fn := { body := (.sq (.rg none [⟨some 6, none, .mv (.c (.int .u64 0)), []⟩] [1, 2]) (.sq (.rg none [⟨some 7, none, .mv (.t 1), []⟩, ⟨some 8, none, .mv (.t 2), []⟩, ⟨some 9, none, .bo .and (.t 7) (.t 8), []⟩, ⟨some 6, none, .mv (.t 9), []⟩] [6]) .rt)), np := 3, res := [.t 6], mode := .iso }
/-- retarget/bits.operation$5 -/
def c168 : FI.Fn := { body := (.sq (.rg none [⟨some 6, none, .mv (.c (.int .u64 0)), []⟩] [1, 2]) (.sq (.rg none [⟨some 7, none, .mv (.t 1), []⟩, ⟨some 8, none, .mv (.t 2), []⟩, ⟨some 9, none, .bo .or (.t 7) (.t 8), []⟩, ⟨some 6, none, .mv (.t 9), []⟩] [6]) .rt)), np := 3, res := [.t 6], mode := .iso }
/-- retarget/bits.operation$6 -/
def c169 : FI.Fn := { body := (.sq (.rg none [⟨some 6, none, .mv (.c (.int .u64 0)), []⟩] [1, 2]) (.sq (.rg none [⟨some 7, none, .mv (.t 1), []⟩, ⟨some 8, none, .mv (.t 2), []⟩, ⟨some 9, none, .bo .xor (.t 7) (.t 8), []⟩, ⟨some 6, none, .mv (.t 9), []⟩] [6]) .rt)), np := 3, res := [.t 6], mode := .iso }
/-- retarget/bits.operation$7 -/
def c170 : FI.Fn := { body := (.sq (.rg none [⟨some 6, none, .mv (.c (.int .u64 0)), []⟩] [1, 2]) (.sq (.rg none [⟨some 7, none, .mv (.t 1), []⟩, ⟨some 8, none, .mv (.t 2), []⟩, ⟨some 9, none, .cl 171 [(.t 8)], []⟩, ⟨some 10, none, .bo .shl (.t 7) (.t 9), []⟩, ⟨some 6, none, .mv (.t 10), []⟩] [6]) .rt)), np := 3, res := [.t 6], mode := .iso }
/-- retarget/bits.few -/
def c171 : FI.Fn := { body := (.sq (.rg none [⟨some 2, none, .mv (.c (.int .u64 0)), []⟩] [0]) (.sq (.rg none [⟨some 3, none, .mv (.t 0), []⟩, ⟨some 4, none, .mn (.t 3) (.c (.int .u64 64)), []⟩, ⟨some 2, none, .mv (.t 4), []⟩] [2]) .rt)), np := 1, res := [.t 2], mode := .iso }
/-- retarget/bits.operation$8 -/
def c172 : FI.Fn := { body := (.sq (.rg none [⟨some 6, none, .mv (.c (.int .u64 0)), []⟩] [1, 2]) (.sq (.rg none [⟨some 7, none, .mv (.t 1), []⟩, ⟨some 8, none, .mv (.t 2), []⟩, ⟨some 9, none, .cl 171 [(.t 8)], []⟩, ⟨some 10, none, .bo .shr (.t 7) (.t 9), []⟩, ⟨some 6, none, .mv (.t 10), []⟩] [6]) .rt)), np := 3, res := [.t 6], mode := .iso }
/-- retarget/bits.operation$9 -/
def c173 : FI.Fn := { body := (.sq (.rg none [⟨some 6, none, .mv (.c (.int .u64 0)), []⟩] [0, 1, 2]) (.sq (.rg none [⟨some 7, none, .mv (.t 0), []⟩, ⟨some 8, none, .mv (.t 1), []⟩, ⟨some 9, none, .cl 118 [(.t 7), (.t 8)], []⟩, ⟨some 10, none, .mv (.t 2), []⟩, ⟨some 11, none, .cl 171 [(.t 10)], []⟩, ⟨some 12, none, .bo .shr (.t 9) (.t 11), []⟩, ⟨some 13, none, .cv .u64 (.t 12), []⟩, ⟨some 6, none, .mv (.t 13), []⟩] [6]) .rt)), np := 3, res := [.t 6], mode := .iso }
/-- retarget/bits.operation$10 -/
def c174 : FI.Fn := { body := (.sq (.rg none [⟨some 6, none, .mv (.c (.int .u64 0)), []⟩] [1, 2]) (.sq (.sq (.rg none [⟨some 7, none, .mv (.t 2), []⟩, ⟨some 8, none, .bo .eql (.t 7) (.c (.int .u64 0)), []⟩] [1, 2, 8]) (.cd (.t 8) (.sq (.rg none [⟨some 6, none, .mv (.c (.int .u64 18446744073709551615)), []⟩] [6]) .rt) .sk)) (.sq (.rg none [⟨some 9, none, .mv (.t 1), []⟩, ⟨some 10, none, .mv (.t 2), []⟩, ⟨some 11, none, .bo .quo (.t 9) (.t 10), []⟩, ⟨some 6, none, .mv (.t 11), []⟩] [6]) .rt))), np := 3, res := [.t 6], mode := .iso }
/-- retarget/bits.operation$11 -/
def c175 : FI.Fn := { body := (.sq (.rg none [⟨some 6, none, .mv (.c (.int .u64 0)), []⟩] [1, 2]) (.sq (.sq (.rg none [⟨some 7, none, .mv (.t 2), []⟩, ⟨some 8, none, .bo .eql (.t 7) (.c (.int .u64 0)), []⟩] [1, 2, 8]) (.cd (.t 8) (.sq (.rg none [⟨some 9, none, .mv (.t 1), []⟩, ⟨some 6, none, .mv (.t 9), []⟩] [6]) .rt) .sk)) (.sq (.rg none [⟨some 10, none, .mv (.t 1), []⟩, ⟨some 11, none, .mv (.t 2), []⟩, ⟨some 12, none, .bo .rem (.t 10) (.t 11), []⟩, ⟨some 6, none, .mv (.t 12), []⟩] [6]) .rt))), np := 3, res := [.t 6], mode := .iso }
/-- retarget/bits.operation$12 -/
def c176 : FI.Fn := { body := (.sq (.rg none [⟨some 6, none, .mv (.c (.int .u64 0)), []⟩] [1, 2]) (.sq (.rg none [⟨some 7, none, .mv (.t 1), []⟩, ⟨some 8, none, .mv (.t 2), []⟩, ⟨some 9, none, .bo .eql (.t 7) (.t 8), []⟩, ⟨some 10, none, .cl 177 [(.t 9)], []⟩, ⟨some 6, none, .mv (.t 10), []⟩] [6]) .rt)), np := 3, res := [.t 6], mode := .iso }
/-- retarget/bits.one -/
def c177 : FI.Fn := { body := (.sq (.rg none [⟨some 2, none, .mv (.c (.int .u64 0)), []⟩] [0]) (.sq (.sq (.rg none [⟨some 3, none, .mv (.t 0), []⟩] [3]) (.cd (.t 3) (.sq (.rg none [⟨some 2, none, .mv (.c (.int .u64 1)), []⟩] [2]) .rt) .sk)) (.sq (.rg none [⟨some 2, none, .mv (.c (.int .u64 0)), []⟩] [2]) .rt))), np := 1, res := [.t 2], mode := .iso }
/-- retarget/bits.operation$13 -/
def c178 : FI.Fn := { body := (.sq (.rg none [⟨some 6, none, .mv (.c (.int .u64 0)), []⟩] [1, 2]) (.sq (.rg none [⟨some 7, none, .mv (.t 1), []⟩, ⟨some 8, none, .mv (.t 2), []⟩, ⟨some 9, none, .bo .lss (.t 7) (.t 8), []⟩, ⟨some 10, none, .cl 177 [(.t 9)], []⟩, ⟨some 6, none, .mv (.t 10), []⟩] [6]) .rt)), np := 3, res := [.t 6], mode := .iso }
/-- retarget/bits.operation$14 -/
def c179 : FI.Fn := { body := (.sq (.rg none [⟨some 6, none, .mv (.c (.int .u64 0)), []⟩] [0, 1, 2]) (.sq (.rg none [⟨some 7, none, .mv (.t 0), []⟩, ⟨some 8, none, .mv (.t 1), []⟩, ⟨some 9, none, .cl 118 [(.t 7), (.t 8)], []⟩, ⟨some 10, none, .mv (.t 0), []⟩, ⟨some 11, none, .mv (.t 2), []⟩, ⟨some 12, none, .cl 118 [(.t 10), (.t 11)], []⟩, ⟨some 13, none, .bo .lss (.t 9) (.t 12), []⟩, ⟨some 14, none, .cl 177 [(.t 13)], []⟩, ⟨some 6, none, .mv (.t 14), []⟩] [6]) .rt)), np := 3, res := [.t 6], mode := .iso }
def b180_0 : C := (.sq (.rg none [⟨some 9, none, .bo .lss (.t 8) (.t 7), []⟩] [0, 1, 7, 8, 9]) (.sq (.cd (.t 9) .sk (.xt 0)) (.sq (.bl 1 (.sq (.rg none [⟨some 10, none, .mv (.t 8), []⟩, ⟨some 5, none, .mv (.t 10), []⟩] [0, 1, 5, 7, 8]) (.sq (.rg none [⟨some 11, none, .mv (.t 1), []⟩, ⟨some 12, none, .mv (.t 0), []⟩, ⟨some 13, none, .mv (.t 5), []⟩, ⟨some 14, none, .ia 6 (.t 12) (.t 13), []⟩, ⟨some 15, none, .ld (some 6) (.t 14), []⟩, ⟨some 16, none, .cw (.t 11) [(.t 15)], []⟩] [0, 1, 5, 7, 8, 16]) (.cd (.t 16) (.sq (.rg none [⟨some 17, none, .mv (.t 5), []⟩, ⟨some 4, none, .mv (.t 17), []⟩] [4]) .rt) .sk)))) (.rg none [⟨some 18, none, .bo .add (.t 8) (.c (.int .i64 1)), []⟩, ⟨some 8, none, .mv (.t 18), []⟩] [0, 1, 7, 8]))))
def k180_1 : C := (.sq (.rg none [⟨some 4, none, .mv (.c (.int .i64 (-1))), []⟩] [4]) .rt)
/-- slices.IndexFunc[[]retarget/api.Term,retarget/api.Term] -/
def c180 : FI.Fn := { body := (.sq (.rg none [⟨some 4, none, .mv (.c (.int .i64 0)), []⟩] [0, 1]) (.sq (.sq (.rg none [⟨some 6, none, .mv (.t 0), []⟩, ⟨some 7, none, .ln 1 (.t 6), []⟩, ⟨some 8, none, .mv (.c (.int .i64 0)), []⟩] [0, 1, 7, 8]) (.bl 0 (.lp true b180_0))) k180_1)), np := 2, res := [.t 4], mode := .iso }
def b181_0 : C := (.bl 1 (.sq (.rg none [⟨some 13, none, .mv (.t 10), []⟩, ⟨some 14, none, .bo .mul (.c (.int .i64 2)) (.t 13), []⟩, ⟨some 15, none, .bo .add (.t 14) (.c (.int .i64 1)), []⟩, ⟨some 11, none, .mv (.t 15), []⟩] [0, 2, 3, 4, 10, 11]) (.sq (.sq (.rg none [⟨some 16, none, .mv (.t 11), []⟩, ⟨some 17, none, .mv (.t 2), []⟩, ⟨some 18, none, .bo .geq (.t 16) (.t 17), []⟩] [0, 2, 3, 4, 10, 11, 18]) (.cd (.t 18) (.xt 0) .sk)) (.sq (.sq (.rg (some [0, 1, 2, 3, 4, 5, 6, 7, 8, 9, 10, 11, 12, 13, 14, 15, 16, 17, 18, 19, 20, 21]) [⟨some 19, none, .mv (.t 11), []⟩, ⟨some 20, none, .bo .add (.t 19) (.c (.int .i64 1)), []⟩, ⟨some 21, none, .mv (.t 2), []⟩, ⟨some 22, none, .bo .lss (.t 20) (.t 21), []⟩, ⟨some 23, none, .mv (.t 22), []⟩, ⟨some 24, some (23, true), .mv (.t 4), []⟩, ⟨some 25, some (23, true), .mv (.t 0), []⟩, ⟨some 26, some (23, true), .mv (.t 3), []⟩, ⟨some 27, some (23, true), .mv (.t 11), []⟩, ⟨some 28, some (23, true), .bo .add (.t 26) (.t 27), []⟩, ⟨some 29, some (23, true), .ia 3 (.t 25) (.t 28), []⟩, ⟨some 30, some (23, true), .ld (some 3) (.t 29), []⟩, ⟨some 31, some (23, true), .mv (.t 0), []⟩, ⟨some 32, some (23, true), .mv (.t 3), []⟩, ⟨some 33, some (23, true), .mv (.t 11), []⟩, ⟨some 34, some (23, true), .bo .add (.t 32) (.t 33), []⟩, ⟨some 35, some (23, true), .bo .add (.t 34) (.c (.int .i64 1)), []⟩, ⟨some 36, some (23, true), .ia 3 (.t 31) (.t 35), []⟩, ⟨some 37, some (23, true), .ld (some 3) (.t 36), []⟩, ⟨some 38, some (23, true), .cw (.t 24) [(.t 30), (.t 37)], []⟩, ⟨some 39, some (23, true), .bo .lss (.t 38) (.c (.int .i64 0)), []⟩, ⟨some 40, none, .pk (.t 23) (.t 39) (.c (.bool false)), []⟩] [0, 2, 3, 4, 10, 11, 40]) (.cd (.t 40) (.rg none [⟨some 41, none, .mv (.t 11), []⟩, ⟨some 42, none, .bo .add (.t 41) (.c (.int .i64 1)), []⟩, ⟨some 11, none, .mv (.t 42), []⟩] [0, 2, 3, 4, 10, 11]) .sk)) (.sq (.sq (.rg (some [0, 1, 2, 3, 4, 5, 6, 7, 8, 9, 10, 11, 12, 13, 14, 15]) [⟨some 43, none, .mv (.t 4), []⟩, ⟨some 44, none, .mv (.t 0), []⟩, ⟨some 45, none, .mv (.t 3), []⟩, ⟨some 46, none, .mv (.t 10), []⟩, ⟨some 47, none, .bo .add (.t 45) (.t 46), []⟩, ⟨some 48, none, .ia 3 (.t 44) (.t 47), []⟩, ⟨some 49, none, .ld (some 3) (.t 48), []⟩, ⟨some 50, none, .mv (.t 0), []⟩, ⟨some 51, none, .mv (.t 3), []⟩, ⟨some 52, none, .mv (.t 11), []⟩, ⟨some 53, none, .bo .add (.t 51) (.t 52), []⟩, ⟨some 54, none, .ia 3 (.t 50) (.t 53), []⟩, ⟨some 55, none, .ld (some 3) (.t 54), []⟩, ⟨some 56, none, .cw (.t 43) [(.t 49), (.t 55)], []⟩, ⟨some 57, none, .bo .lss (.t 56) (.c (.int .i64 0)), []⟩, ⟨some 58, none, .un .not (.t 57), []⟩] [0, 2, 3, 4, 10, 11, 58]) (.cd (.t 58) .rt .sk)) (.sq (.rg (some [0, 1, 2, 3, 4, 5, 6, 7, 8, 9, 10, 11, 12, 13, 14, 15, 16, 17, 18, 19, 20, 21, 22, 23]) [⟨some 59, none, .mv (.t 0), []⟩, ⟨some 60, none, .mv (.t 3), []⟩, ⟨some 61, none, .mv (.t 10), []⟩, ⟨some 62, none, .bo .add (.t 60) (.t 61), []⟩, ⟨some 63, none, .mv (.t 0), []⟩, ⟨some 64, none, .mv (.t 3), []⟩, ⟨some 65, none, .mv (.t 11), []⟩, ⟨some 66, none, .bo .add (.t 64) (.t 65), []⟩, ⟨some 67, none, .mv (.t 0), []⟩, ⟨some 68, none, .mv (.t 3), []⟩, ⟨some 69, none, .mv (.t 11), []⟩, ⟨some 70, none, .bo .add (.t 68) (.t 69), []⟩, ⟨some 71, none, .ia 3 (.t 67) (.t 70), []⟩, ⟨some 72, none, .ld (some 3) (.t 71), []⟩, ⟨some 73, none, .mv (.t 0), []⟩, ⟨some 74, none, .mv (.t 3), []⟩, ⟨some 75, none, .mv (.t 10), []⟩, ⟨some 76, none, .bo .add (.t 74) (.t 75), []⟩, ⟨some 77, none, .ia 3 (.t 73) (.t 76), []⟩, ⟨some 78, none, .ld (some 3) (.t 77), []⟩, ⟨some 79, none, .ia 3 (.t 59) (.t 62), []⟩, ⟨none, none, .st 3 (.t 79) (.t 72), []⟩, ⟨some 80, none, .ia 3 (.t 63) (.t 66), []⟩, ⟨none, none, .st 3 (.t 80) (.t 78), []⟩] [0, 2, 3, 4, 11]) (.rg none [⟨some 81, none, .mv (.t 11), []⟩, ⟨some 10, none, .mv (.t 81), []⟩] [0, 2, 3, 4, 10])))))))
/-- slices.siftDownCmpFunc[retarget/api.Binding] -/
def c181 : FI.Fn := { body := (.sq (.rg none [⟨some 12, none, .mv (.t 1), []⟩, ⟨some 10, none, .mv (.t 12), []⟩] [0, 2, 3, 4, 10]) (.bl 0 (.lp true b181_0))), np := 5, res := [], mode := .iso }
/-- slices.nextPowerOfTwo -/
def c182 : FI.Fn := { body := (.sq (.rg none [⟨some 2, none, .mv (.c (.int .u64 0)), []⟩] [0]) (.sq (.rg none [⟨some 3, none, .mv (.t 0), []⟩, ⟨some 4, none, .cv .u64 (.t 3), []⟩, ⟨some 5, none, .cl 77 [(.t 4)], []⟩, ⟨some 6, none, .bo .shl (.c (.int .u64 1)) (.t 5), []⟩, ⟨some 2, none, .mv (.t 6), []⟩] [2]) .rt)), np := 1, res := [.t 2], mode := .iso }
/-- (*slices.xorshift).Next -/
def c183 : FI.Fn := { body := (.sq (.rg none [⟨some 2, none, .mv (.c (.int .u64 0)), []⟩] [0]) (.sq (.rg (some [0, 1, 2, 3, 4, 5, 6, 7, 8, 9]) [⟨some 3, none, .mv (.t 0), []⟩, ⟨some 4, none, .nc (.t 3), []⟩, ⟨some 5, none, .ld none (.t 4), []⟩, ⟨some 6, none, .mv (.t 0), []⟩, ⟨some 7, none, .nc (.t 6), []⟩, ⟨some 8, none, .ld none (.t 7), []⟩, ⟨some 9, none, .bo .shl (.t 8) (.c (.int .u64 13)), []⟩, ⟨some 10, none, .bo .xor (.t 5) (.t 9), []⟩, ⟨some 11, none, .nc (.t 3), []⟩, ⟨none, none, .st 1 (.t 11) (.t 10), []⟩] [0]) (.sq (.rg (some [0, 1, 2, 3, 4, 5, 6, 7, 8, 9]) [⟨some 12, none, .mv (.t 0), []⟩, ⟨some 13, none, .nc (.t 12), []⟩, ⟨some 14, none, .ld none (.t 13), []⟩, ⟨some 15, none, .mv (.t 0), []⟩, ⟨some 16, none, .nc (.t 15), []⟩, ⟨some 17, none, .ld none (.t 16), []⟩, ⟨some 18, none, .bo .shr (.t 17) (.c (.int .u64 7)), []⟩, ⟨some 19, none, .bo .xor (.t 14) (.t 18), []⟩, ⟨some 20, none, .nc (.t 12), []⟩, ⟨none, none, .st 1 (.t 20) (.t 19), []⟩] [0]) (.sq (.rg (some [0, 1, 2, 3, 4, 5, 6, 7, 8, 9]) [⟨some 21, none, .mv (.t 0), []⟩, ⟨some 22, none, .nc (.t 21), []⟩, ⟨some 23, none, .ld none (.t 22), []⟩, ⟨some 24, none, .mv (.t 0), []⟩, ⟨some 25, none, .nc (.t 24), []⟩, ⟨some 26, none, .ld none (.t 25), []⟩, ⟨some 27, none, .bo .shl (.t 26) (.c (.int .u64 17)), []⟩, ⟨some 28, none, .bo .xor (.t 23) (.t 27), []⟩, ⟨some 29, none, .nc (.t 21), []⟩, ⟨none, none, .st 1 (.t 29) (.t 28), []⟩] [0]) (.sq (.rg none [⟨some 30, none, .mv (.t 0), []⟩, ⟨some 31, none, .nc (.t 30), []⟩, ⟨some 32, none, .ld none (.t 31), []⟩, ⟨some 2, none, .mv (.t 32), []⟩] [2]) .rt))))), np := 1, res := [.t 2], mode := .iso }
/-- slices.medianAdjacentCmpFunc[retarget/api.Binding] -/
def c184 : FI.Fn := { body := (.sq (.rg none [⟨some 8, none, .mv (.c (.int .i64 0)), []⟩] [0, 1, 2, 3]) (.sq (.rg none [⟨some 9, none, .mv (.t 0), []⟩, ⟨some 10, none, .mv (.t 1), []⟩, ⟨some 11, none, .bo .sub (.t 10) (.c (.int .i64 1)), []⟩, ⟨some 12, none, .mv (.t 1), []⟩, ⟨some 13, none, .mv (.t 1), []⟩, ⟨some 14, none, .bo .add (.t 13) (.c (.int .i64 1)), []⟩, ⟨some 15, none, .mv (.t 2), []⟩, ⟨some 16, none, .mv (.t 3), []⟩, ⟨some 17, none, .cl 185 [(.t 9), (.t 11), (.t 12), (.t 14), (.t 15), (.t 16)], []⟩, ⟨some 8, none, .mv (.t 17), []⟩] [8]) .rt)), np := 4, res := [.t 8], mode := .iso }
/-- slices.medianCmpFunc[retarget/api.Binding] -/
def c185 : FI.Fn := { body := (.sq (.rg none [⟨some 12, none, .mv (.c (.int .i64 0)), []⟩] [0, 1, 2, 3, 4, 5]) (.sq (.rg none [⟨some 14, none, .mv (.t 0), []⟩, ⟨some 15, none, .mv (.t 1), []⟩, ⟨some 16, none, .mv (.t 2), []⟩, ⟨some 17, none, .mv (.t 4), []⟩, ⟨some 18, none, .mv (.t 5), []⟩, ⟨some 19, none, .cl 196 [(.t 14), (.t 15), (.t 16), (.t 17), (.t 18)], []⟩, ⟨some 13, none, .mv (.t 19), []⟩, ⟨some 20, none, .ex (.t 13) 0, []⟩, ⟨some 21, none, .ex (.t 13) 1, []⟩, ⟨some 1, none, .mv (.t 20), []⟩, ⟨some 2, none, .mv (.t 21), []⟩] [0, 1, 2, 3, 4, 5]) (.sq (.rg none [⟨some 23, none, .mv (.t 0), []⟩, ⟨some 24, none, .mv (.t 2), []⟩, ⟨some 25, none, .mv (.t 3), []⟩, ⟨some 26, none, .mv (.t 4), []⟩, ⟨some 27, none, .mv (.t 5), []⟩, ⟨some 28, none, .cl 196 [(.t 23), (.t 24), (.t 25), (.t 26), (.t 27)], []⟩, ⟨some 22, none, .mv (.t 28), []⟩, ⟨some 29, none, .ex (.t 22) 0, []⟩, ⟨some 30, none, .ex (.t 22) 1, []⟩, ⟨some 2, none, .mv (.t 29), []⟩, ⟨some 3, none, .mv (.t 30), []⟩] [0, 1, 2, 4, 5]) (.sq (.rg none [⟨some 32, none, .mv (.t 0), []⟩, ⟨some 33, none, .mv (.t 1), []⟩, ⟨some 34, none, .mv (.t 2), []⟩, ⟨some 35, none, .mv (.t 4), []⟩, ⟨some 36, none, .mv (.t 5), []⟩, ⟨some 37, none, .cl 196 [(.t 32), (.t 33), (.t 34), (.t 35), (.t 36)], []⟩, ⟨some 31, none, .mv (.t 37), []⟩, ⟨some 38, none, .ex (.t 31) 0, []⟩, ⟨some 39, none, .ex (.t 31) 1, []⟩, ⟨some 1, none, .mv (.t 38), []⟩, ⟨some 2, none, .mv (.t 39), []⟩] [2]) (.sq (.rg none [⟨some 40, none, .mv (.t 2), []⟩, ⟨some 12, none, .mv (.t 40), []⟩] [12]) .rt))))), np := 6, res := [.t 12], mode := .iso }
def b186_0 : C := (.sq (.rg none [⟨some 18, none, .bo .lss (.t 17) (.t 16), []⟩] [1, 2, 15, 16, 17, 18]) (.sq (.cd (.t 18) .sk (.xt 0)) (.sq (.bl 1 (.sq (.rg none [⟨some 19, none, .mv (.t 17), []⟩, ⟨some 20, none, .ia 6 (.t 15) (.t 17), []⟩, ⟨some 21, none, .ld (some 6) (.t 20), []⟩, ⟨some 8, none, .al 6 (.agg [(.int .u8 0), (.int .i64 0), (.int .u64 0), (.str []), (.int .i64 0), (.lst true [])]), []⟩, ⟨some 7, none, .mv (.t 19), []⟩, ⟨none, none, .st 6 (.t 8) (.t 21), []⟩] [1, 2, 7, 8, 15, 16, 17]) (.sq (.rg none [⟨some 22, none, .mv (.t 1), []⟩, ⟨some 23, none, .mv (.t 7), []⟩, ⟨some 24, none, .ia 6 (.t 22) (.t 23), []⟩, ⟨some 25, none, .ld (some 6) (.t 24), []⟩, ⟨some 9, none, .al 6 (.agg [(.int .u8 0), (.int .i64 0), (.int .u64 0), (.str []), (.int .i64 0), (.lst true [])]), []⟩, ⟨none, none, .st 6 (.t 9) (.t 25), []⟩] [1, 2, 8, 9, 15, 16, 17]) (.sq (.rg none [⟨some 26, none, .mv (.t 2), []⟩, ⟨some 27, none, .ld (some 6) (.t 8), []⟩, ⟨some 28, none, .ld (some 6) (.t 9), []⟩, ⟨some 29, none, .cw (.t 26) [(.t 27), (.t 28)], []⟩, ⟨some 30, none, .un .not (.t 29), []⟩] [1, 2, 15, 16, 17, 30]) (.cd (.t 30) (.sq (.rg none [⟨some 6, none, .mv (.c (.bool false)), []⟩] [6]) .rt) .sk))))) (.rg none [⟨some 31, none, .bo .add (.t 17) (.c (.int .i64 1)), []⟩, ⟨some 17, none, .mv (.t 31), []⟩] [1, 2, 15, 16, 17]))))
def k186_1 : C := (.sq (.rg none [⟨some 6, none, .mv (.c (.bool true)), []⟩] [6]) .rt)
/-- slices.EqualFunc[[]retarget/api.Term,[]retarget/api.Term,retarget/api.Term,retarget/api.Term] -/
def c186 : FI.Fn := { body := (.sq (.rg none [⟨some 6, none, .mv (.c (.bool false)), []⟩] [0, 1, 2]) (.sq (.sq (.rg none [⟨some 10, none, .mv (.t 0), []⟩, ⟨some 11, none, .ln 1 (.t 10), []⟩, ⟨some 12, none, .mv (.t 1), []⟩, ⟨some 13, none, .ln 1 (.t 12), []⟩, ⟨some 14, none, .bo .neq (.t 11) (.t 13), []⟩] [0, 1, 2, 14]) (.cd (.t 14) (.sq (.rg none [⟨some 6, none, .mv (.c (.bool false)), []⟩] [6]) .rt) .sk)) (.sq (.sq (.rg none [⟨some 15, none, .mv (.t 0), []⟩, ⟨some 16, none, .ln 1 (.t 15), []⟩, ⟨some 17, none, .mv (.c (.int .i64 0)), []⟩] [1, 2, 15, 16, 17]) (.bl 0 (.lp true b186_0))) k186_1))), np := 3, res := [.t 6], mode := .iso }
/-- internal/stringslite.Cut -/
def c189 : FI.Fn := { body := (.sq (.rg none [⟨some 4, none, .mv (.c (.str [])), []⟩, ⟨some 5, none, .mv (.c (.str [])), []⟩, ⟨some 6, none, .mv (.c (.bool false)), []⟩] [0, 1]) (.sq (.sq (.rg none [⟨some 8, none, .mv (.t 0), []⟩, ⟨some 9, none, .mv (.t 1), []⟩, ⟨some 10, none, .cl 197 [(.t 8), (.t 9)], []⟩, ⟨some 7, none, .mv (.t 10), []⟩] [0, 1, 7]) (.sq (.rg none [⟨some 11, none, .mv (.t 7), []⟩, ⟨some 12, none, .bo .geq (.t 11) (.c (.int .i64 0)), []⟩] [0, 1, 7, 12]) (.cd (.t 12) (.sq (.rg (some [0, 1, 2, 3, 4, 5, 6, 7, 8, 9, 10, 11]) [⟨some 13, none, .mv (.t 0), []⟩, ⟨some 14, none, .mv (.t 7), []⟩, ⟨some 15, none, .sl 0 (.t 13) none (some (.t 14)), []⟩, ⟨some 16, none, .mv (.t 0), []⟩, ⟨some 17, none, .mv (.t 7), []⟩, ⟨some 18, none, .mv (.t 1), []⟩, ⟨some 19, none, .ln 0 (.t 18), []⟩, ⟨some 20, none, .bo .add (.t 17) (.t 19), []⟩, ⟨some 21, none, .sl 0 (.t 16) (some (.t 20)) none, []⟩, ⟨some 4, none, .mv (.t 15), []⟩, ⟨some 5, none, .mv (.t 21), []⟩, ⟨some 6, none, .mv (.c (.bool true)), []⟩] [4, 5, 6]) .rt) .sk))) (.sq (.rg none [⟨some 22, none, .mv (.t 0), []⟩, ⟨some 4, none, .mv (.t 22), []⟩, ⟨some 5, none, .mv (.c (.str [])), []⟩, ⟨some 6, none, .mv (.c (.bool false)), []⟩] [4, 5, 6]) .rt))), np := 2, res := [.t 4, .t 5, .t 6], mode := .iso }
def b190_0 : C := (.sq (.rg none [⟨some 176, none, .ns (.t 175), []⟩, ⟨some 177, none, .ex (.t 176) 0, []⟩] [175, 176, 177]) (.sq (.cd (.t 177) .sk (.xt 9)) (.bl 10 (.sq (.rg none [⟨some 178, none, .ex (.t 176) 1, []⟩, ⟨some 179, none, .ex (.t 176) 2, []⟩, ⟨some 5, none, .mv (.t 178), []⟩, ⟨some 6, none, .mv (.t 179), []⟩] [5, 6, 175]) (.sq (.rg none [⟨some 180, none, .mv (.t 6), []⟩, ⟨some 181, none, .bo .eql (.t 180) (.c (.int .i32 65533)), []⟩] [5, 175, 181]) (.cd (.t 181) (.sq (.rg none [⟨some 182, none, .mv (.t 5), []⟩, ⟨some 4, none, .mv (.t 182), []⟩] [4]) .rt) .sk))))))
def k190_1 : C := (.sq (.rg none [⟨some 4, none, .mv (.c (.int .i64 (-1))), []⟩] [4]) .rt)
def b190_2 : C := (.sq (.sq (.rg none [⟨some 48, none, .mv (.t 12), []⟩, ⟨some 49, none, .mv (.t 7), []⟩, ⟨some 50, none, .ln 0 (.t 49), []⟩, ⟨some 51, none, .bo .lss (.t 48) (.t 50), []⟩] [0, 1, 7, 8, 9, 10, 12, 51]) (.cd (.t 51) .sk (.xt 3))) (.sq (.bl 4 (.sq (.rg (some [0, 1, 2, 3, 4, 5, 6, 7, 8, 9, 10]) [⟨some 54, none, .mv (.t 0), []⟩, ⟨some 55, none, .mv (.t 9), []⟩, ⟨some 56, none, .mv (.t 12), []⟩, ⟨some 57, none, .bo .sub (.t 55) (.t 56), []⟩, ⟨some 58, none, .ix (.t 54) (.t 57), []⟩, ⟨some 59, none, .mv (.t 7), []⟩, ⟨some 60, none, .mv (.t 8), []⟩, ⟨some 61, none, .mv (.t 12), []⟩, ⟨some 62, none, .bo .sub (.t 60) (.t 61), []⟩, ⟨some 63, none, .ix (.t 59) (.t 62), []⟩, ⟨some 64, none, .bo .neq (.t 58) (.t 63), []⟩] [0, 1, 7, 8, 9, 10, 12, 64]) (.cd (.t 64) (.go 0) .sk))) (.rg none [⟨some 52, none, .mv (.t 12), []⟩, ⟨some 53, none, .bo .add (.t 52) (.c (.int .i64 1)), []⟩, ⟨some 12, none, .mv (.t 53), []⟩] [0, 1, 7, 8, 9, 10, 12])))
def k190_3 : C := (.sq (.sq (.rg none [⟨some 65, none, .mv (.t 9), []⟩, ⟨some 66, none, .mv (.t 8), []⟩, ⟨some 67, none, .bo .sub (.t 65) (.t 66), []⟩, ⟨some 4, none, .mv (.t 67), []⟩] [4]) .rt) (.sq (.lb 0) (.sq (.rg none [⟨some 68, none, .mv (.t 10), []⟩, ⟨some 69, none, .bo .add (.t 68) (.c (.int .i64 1)), []⟩, ⟨some 10, none, .mv (.t 69), []⟩] [0, 1, 7, 8, 9, 10]) (.sq (.rg none [⟨some 70, none, .mv (.t 9), []⟩, ⟨some 71, none, .bo .add (.t 70) (.c (.int .i64 1)), []⟩, ⟨some 9, none, .mv (.t 71), []⟩] [0, 1, 7, 8, 9, 10]) (.sq (.rg none [⟨some 72, none, .mv (.c (.bool true)), []⟩, ⟨some 73, some (72, true), .mv (.t 10), []⟩, ⟨some 74, some (72, true), .mv (.t 9), []⟩, ⟨some 75, some (72, true), .cl 200 [(.t 74)], []⟩, ⟨some 76, some (72, true), .bo .gtr (.t 73) (.t 75), []⟩, ⟨some 77, none, .pk (.t 72) (.t 76) (.c (.bool false)), []⟩, ⟨some 78, none, .mv (.t 77), []⟩, ⟨some 79, some (78, true), .mv (.t 9), []⟩, ⟨some 80, some (78, true), .mv (.t 0), []⟩, ⟨some 81, some (78, true), .ln 0 (.t 80), []⟩, ⟨some 82, some (78, true), .bo .lss (.t 79) (.t 81), []⟩, ⟨some 83, none, .pk (.t 78) (.t 82) (.c (.bool false)), []⟩, ⟨some 84, none, .mv (.t 83), []⟩, ⟨some 85, some (84, false), .mv (.c (.bool false)), []⟩, ⟨some 86, some (85, true), .mv (.t 10), []⟩, ⟨some 87, some (85, true), .mv (.t 9), []⟩, ⟨some 88, some (85, true), .bo .shr (.t 87) (.c (.int .u64 4)), []⟩, ⟨some 89, some (85, true), .bo .add (.c (.int .i64 4)) (.t 88), []⟩, ⟨some 90, some (85, true), .bo .geq (.t 86) (.t 89), []⟩, ⟨some 91, some (84, false), .pk (.t 85) (.t 90) (.c (.bool false)), []⟩, ⟨some 92, some (84, false), .mv (.t 91), []⟩, ⟨some 93, some (92, true), .mv (.t 9), []⟩, ⟨some 94, some (92, true), .mv (.t 0), []⟩, ⟨some 95, some (92, true), .ln 0 (.t 94), []⟩, ⟨some 96, some (92, true), .bo .lss (.t 93) (.t 95), []⟩, ⟨some 97, some (84, false), .pk (.t 92) (.t 96) (.c (.bool false)), []⟩, ⟨some 98, none, .pk (.t 84) (.c (.bool true)) (.t 97), []⟩] [0, 1, 7, 8, 9, 10, 98]) (.cd (.t 98) (.go 1) .sk))))))
def b190_4 : C := (.sq (.sq (.rg (some [0, 1, 2, 3, 4, 5, 6]) [⟨some 27, none, .mv (.t 0), []⟩, ⟨some 28, none, .mv (.t 9), []⟩, ⟨some 29, none, .ix (.t 27) (.t 28), []⟩, ⟨some 30, none, .mv (.t 7), []⟩, ⟨some 31, none, .mv (.t 8), []⟩, ⟨some 32, none, .ix (.t 30) (.t 31), []⟩, ⟨some 33, none, .bo .neq (.t 29) (.t 32), []⟩] [0, 1, 7, 8, 9, 10, 33]) (.cd (.t 33) (.sq (.rg (some [0, 1, 2, 3, 4, 5, 6, 7, 8]) [⟨some 34, none, .mv (.t 0), []⟩, ⟨some 35, none, .mv (.t 9), []⟩, ⟨some 36, none, .bo .add (.t 35) (.c (.int .i64 1)), []⟩, ⟨some 37, none, .sl 0 (.t 34) (some (.t 36)) none, []⟩, ⟨some 38, none, .mv (.t 7), []⟩, ⟨some 39, none, .mv (.t 8), []⟩, ⟨some 40, none, .ix (.t 38) (.t 39), []⟩, ⟨some 41, none, .cl 198 [(.t 37), (.t 40)], []⟩, ⟨some 11, none, .mv (.t 41), []⟩] [0, 1, 7, 8, 9, 10, 11]) (.sq (.sq (.rg none [⟨some 42, none, .mv (.t 11), []⟩, ⟨some 43, none, .bo .lss (.t 42) (.c (.int .i64 0)), []⟩] [0, 1, 7, 8, 9, 10, 11, 43]) (.cd (.t 43) (.sq (.rg none [⟨some 4, none, .mv (.c (.int .i64 (-1))), []⟩] [4]) .rt) .sk)) (.rg none [⟨some 44, none, .mv (.t 9), []⟩, ⟨some 45, none, .mv (.t 11), []⟩, ⟨some 46, none, .bo .add (.t 45) (.c (.int .i64 1)), []⟩, ⟨some 47, none, .bo .add (.t 44) (.t 46), []⟩, ⟨some 9, none, .mv (.t 47), []⟩] [0, 1, 7, 8, 9, 10]))) .sk)) (.sq (.sq (.rg none [⟨some 12, none, .mv (.c (.int .i64 1)), []⟩] [0, 1, 7, 8, 9, 10, 12]) (.bl 3 (.lp true b190_2))) k190_3))
def b190_5 : C := (.sq (.sq (.rg none [⟨some 23, none, .mv (.t 9), []⟩, ⟨some 24, none, .mv (.t 0), []⟩, ⟨some 25, none, .ln 0 (.t 24), []⟩, ⟨some 26, none, .bo .lss (.t 23) (.t 25), []⟩] [0, 1, 7, 8, 9, 10, 26]) (.cd (.t 26) .sk (.xt 1))) (.bl 2 (.sc b190_4)))
def b190_6 : C := (.sq (.sq (.rg none [⟨some 140, none, .mv (.t 16), []⟩, ⟨some 141, none, .mv (.t 7), []⟩, ⟨some 142, none, .ln 0 (.t 141), []⟩, ⟨some 143, none, .bo .lss (.t 140) (.t 142), []⟩] [0, 7, 8, 9, 14, 15, 16, 143]) (.cd (.t 143) .sk (.xt 7))) (.sq (.bl 8 (.sq (.rg (some [0, 1, 2, 3, 4, 5, 6, 7, 8, 9, 10]) [⟨some 146, none, .mv (.t 0), []⟩, ⟨some 147, none, .mv (.t 9), []⟩, ⟨some 148, none, .mv (.t 16), []⟩, ⟨some 149, none, .bo .sub (.t 147) (.t 148), []⟩, ⟨some 150, none, .ix (.t 146) (.t 149), []⟩, ⟨some 151, none, .mv (.t 7), []⟩, ⟨some 152, none, .mv (.t 8), []⟩, ⟨some 153, none, .mv (.t 16), []⟩, ⟨some 154, none, .bo .sub (.t 152) (.t 153), []⟩, ⟨some 155, none, .ix (.t 151) (.t 154), []⟩, ⟨some 156, none, .bo .neq (.t 150) (.t 155), []⟩] [0, 7, 8, 9, 14, 15, 16, 156]) (.cd (.t 156) (.xt 6) .sk))) (.rg none [⟨some 144, none, .mv (.t 16), []⟩, ⟨some 145, none, .bo .add (.t 144) (.c (.int .i64 1)), []⟩, ⟨some 16, none, .mv (.t 145), []⟩] [0, 7, 8, 9, 14, 15, 16])))
def k190_7 : C := (.sq (.rg none [⟨some 157, none, .mv (.t 9), []⟩, ⟨some 158, none, .mv (.t 8), []⟩, ⟨some 159, none, .bo .sub (.t 157) (.t 158), []⟩, ⟨some 4, none, .mv (.t 159), []⟩] [4]) .rt)
def k190_8 : C := (.rg none [⟨some 125, none, .mv (.t 9), []⟩, ⟨some 126, none, .bo .add (.t 125) (.c (.int .i64 1)), []⟩, ⟨some 9, none, .mv (.t 126), []⟩] [0, 7, 8, 9, 14, 15])
def b190_9 : C := (.sq (.sq (.rg none [⟨some 121, none, .mv (.t 9), []⟩, ⟨some 122, none, .mv (.t 0), []⟩, ⟨some 123, none, .ln 0 (.t 122), []⟩, ⟨some 124, none, .bo .lss (.t 121) (.t 123), []⟩] [0, 7, 8, 9, 14, 15, 124]) (.cd (.t 124) .sk (.xt 5))) (.sq (.bl 6 (.sq (.rg none [⟨some 127, none, .mv (.t 0), []⟩, ⟨some 128, none, .mv (.t 9), []⟩, ⟨some 129, none, .ix (.t 127) (.t 128), []⟩, ⟨some 130, none, .mv (.t 14), []⟩, ⟨some 131, none, .bo .eql (.t 129) (.t 130), []⟩, ⟨some 132, none, .mv (.t 131), []⟩, ⟨some 133, some (132, true), .mv (.t 0), []⟩, ⟨some 134, some (132, true), .mv (.t 9), []⟩, ⟨some 135, some (132, true), .bo .sub (.t 134) (.c (.int .i64 1)), []⟩, ⟨some 136, some (132, true), .ix (.t 133) (.t 135), []⟩, ⟨some 137, some (132, true), .mv (.t 15), []⟩, ⟨some 138, some (132, true), .bo .eql (.t 136) (.t 137), []⟩, ⟨some 139, none, .pk (.t 132) (.t 138) (.c (.bool false)), []⟩] [0, 7, 8, 9, 14, 15, 139]) (.cd (.t 139) (.sq (.sq (.rg none [⟨some 16, none, .mv (.c (.int .i64 2)), []⟩] [0, 7, 8, 9, 14, 15, 16]) (.bl 7 (.lp true b190_6))) k190_7) .sk))) k190_8))
def b190_10 : C := (.sq (.rg none [⟨some 114, none, .mv (.t 7), []⟩, ⟨some 115, none, .mv (.t 8), []⟩, ⟨some 116, none, .ix (.t 114) (.t 115), []⟩, ⟨some 14, none, .mv (.t 116), []⟩] [0, 7, 8, 9, 14]) (.sq (.rg none [⟨some 117, none, .mv (.t 7), []⟩, ⟨some 118, none, .mv (.t 8), []⟩, ⟨some 119, none, .bo .sub (.t 118) (.c (.int .i64 1)), []⟩, ⟨some 120, none, .ix (.t 117) (.t 119), []⟩, ⟨some 15, none, .mv (.t 120), []⟩] [0, 7, 8, 9, 14, 15]) (.sq (.lb 2) (.bl 5 (.lp true b190_9)))))
def k190_11 : C := (.sq (.rg none [⟨some 4, none, .mv (.c (.int .i64 (-1))), []⟩] [4]) .rt)
def k190_12 : C := (.sq (.sq (.rg none [⟨some 4, none, .mv (.c (.int .i64 (-1))), []⟩] [4]) .rt) (.sq (.lb 1) (.sq (.cd (.c (.bool true)) (.sq (.rg none [⟨some 99, none, .mv (.t 0), []⟩, ⟨some 100, none, .mv (.t 9), []⟩, ⟨some 101, none, .mv (.t 8), []⟩, ⟨some 102, none, .bo .sub (.t 100) (.t 101), []⟩, ⟨some 103, none, .sl 0 (.t 99) (some (.t 102)) none, []⟩, ⟨some 104, none, .mv (.t 1), []⟩, ⟨some 105, none, .bad, []⟩, ⟨some 106, none, .bad, []⟩, ⟨some 13, none, .mv (.t 106), []⟩] [8, 9, 13]) (.sq (.rg none [⟨some 107, none, .mv (.t 13), []⟩, ⟨some 108, none, .bo .geq (.t 107) (.c (.int .i64 0)), []⟩] [8, 9, 13, 108]) (.cd (.t 108) (.sq (.rg none [⟨some 109, none, .mv (.t 9), []⟩, ⟨some 110, none, .mv (.t 13), []⟩, ⟨some 111, none, .bo .add (.t 109) (.t 110), []⟩, ⟨some 112, none, .mv (.t 8), []⟩, ⟨some 113, none, .bo .sub (.t 111) (.t 112), []⟩, ⟨some 4, none, .mv (.t 113), []⟩] [4]) .rt) .sk))) (.sc b190_10)) k190_11)))
def b190_13 : C := (.sq (.rg none [⟨some 17, none, .mv (.t 1), []⟩, ⟨some 18, none, .bad, []⟩, ⟨some 7, none, .mv (.t 18), []⟩] [0, 1, 7]) (.sq (.rg none [⟨some 19, none, .mv (.t 7), []⟩, ⟨some 20, none, .ln 0 (.t 19), []⟩, ⟨some 21, none, .bo .sub (.t 20) (.c (.int .i64 1)), []⟩, ⟨some 8, none, .mv (.t 21), []⟩] [0, 1, 7, 8]) (.sq (.rg none [⟨some 22, none, .mv (.t 8), []⟩, ⟨some 9, none, .mv (.t 22), []⟩] [0, 1, 7, 8, 9]) (.sq (.rg none [⟨some 10, none, .mv (.c (.int .i64 0)), []⟩] [0, 1, 7, 8, 9, 10]) (.sq (.bl 1 (.lp true b190_5)) k190_12)))))
/-- strings.IndexRune -/
def c190 : FI.Fn := { body := (.sq (.rg none [⟨some 4, none, .mv (.c (.int .i64 0)), []⟩] [0, 1]) (.bl 0 (.sq (.rg none [⟨some 161, none, .mv (.t 1), []⟩, ⟨some 162, none, .bo .leq (.c (.int .i32 0)) (.t 161), []⟩, ⟨some 163, none, .mv (.t 162), []⟩, ⟨some 164, some (163, true), .mv (.t 1), []⟩, ⟨some 165, some (163, true), .bo .lss (.t 164) (.c (.int .i32 128)), []⟩, ⟨some 166, none, .pk (.t 163) (.t 165) (.c (.bool false)), []⟩, ⟨some 160, none, .mv (.t 166), []⟩] [0, 1, 160]) (.cd (.t 160) (.sq (.rg none [⟨some 167, none, .mv (.t 0), []⟩, ⟨some 168, none, .mv (.t 1), []⟩, ⟨some 169, none, .cv .u8 (.t 168), []⟩, ⟨some 170, none, .cl 198 [(.t 167), (.t 169)], []⟩, ⟨some 4, none, .mv (.t 170), []⟩] [4]) .rt) (.sq (.rg none [⟨some 172, none, .mv (.t 1), []⟩, ⟨some 173, none, .bo .eql (.t 172) (.c (.int .i32 65533)), []⟩, ⟨some 171, none, .mv (.t 173), []⟩] [0, 1, 171]) (.cd (.t 171) (.sq (.sq (.rg none [⟨some 174, none, .mv (.t 0), []⟩, ⟨some 175, none, .rs (.t 174), []⟩] [175]) (.bl 9 (.lp true b190_0))) k190_1) (.sq (.rg none [⟨some 184, none, .mv (.t 1), []⟩, ⟨some 185, none, .cl 199 [(.t 184)], []⟩, ⟨some 186, none, .un .not (.t 185), []⟩, ⟨some 183, none, .mv (.t 186), []⟩] [0, 1, 183]) (.cd (.t 183) (.sq (.rg none [⟨some 4, none, .mv (.c (.int .i64 (-1))), []⟩] [4]) .rt) (.sc b190_13))))))))), np := 2, res := [.t 4], mode := .iso }
/-- strings.shouldUseASCIISet -/
def c191 : FI.Fn := { body := (.sq (.rg none [⟨some 2, none, .mv (.c (.bool false)), []⟩] [0]) (.sq (.rg none [⟨some 3, none, .mv (.t 0), []⟩, ⟨some 4, none, .bo .gtr (.t 3) (.c (.int .i64 8)), []⟩, ⟨some 2, none, .mv (.t 4), []⟩] [2]) .rt)), np := 1, res := [.t 2], mode := .iso }
def b192_0 : C := (.sq (.sq (.rg none [⟨some 6, none, .mv (.t 4), []⟩, ⟨some 7, none, .mv (.t 0), []⟩, ⟨some 8, none, .ln 0 (.t 7), []⟩, ⟨some 9, none, .bo .lss (.t 6) (.t 8), []⟩] [0, 2, 4, 9]) (.cd (.t 9) .sk (.xt 0))) (.sq (.bl 1 (.sq (.rg none [⟨some 12, none, .mv (.t 0), []⟩, ⟨some 13, none, .mv (.t 4), []⟩, ⟨some 14, none, .ix (.t 12) (.t 13), []⟩, ⟨some 5, none, .mv (.t 14), []⟩] [0, 2, 4, 5]) (.sq (.sq (.rg none [⟨some 15, none, .mv (.t 5), []⟩, ⟨some 16, none, .bo .geq (.t 15) (.c (.int .u8 128)), []⟩] [0, 2, 4, 5, 16]) (.cd (.t 16) (.sq (.rg none [⟨some 17, none, .ld (some 256) (.t 2), []⟩, ⟨none, none, .st 256 (.t 2) (.t 17), []⟩, ⟨some 3, none, .mv (.c (.bool false)), []⟩] [2, 3]) .rt) .sk)) (.rg none [⟨some 18, none, .mv (.t 5), []⟩, ⟨some 19, none, .aa 256 1 (.t 2) (.t 18), []⟩, ⟨none, none, .st 1 (.t 19) (.c (.bool true)), []⟩] [0, 2, 4])))) (.rg none [⟨some 10, none, .mv (.t 4), []⟩, ⟨some 11, none, .bo .add (.t 10) (.c (.int .i64 1)), []⟩, ⟨some 4, none, .mv (.t 11), []⟩] [0, 2, 4])))
def k192_1 : C := (.sq (.rg none [⟨some 20, none, .ld (some 256) (.t 2), []⟩, ⟨none, none, .st 256 (.t 2) (.t 20), []⟩, ⟨some 3, none, .mv (.c (.bool true)), []⟩] [2, 3]) .rt)
/-- strings.makeASCIISet -/
def c192 : FI.Fn := { body := (.sq (.rg none [⟨some 2, none, .al 256 (.agg [(.bool false), (.bool false), (.bool false), (.bool false), (.bool false), (.bool false), (.bool false), (.bool false), (.bool false), (.bool false), (.bool false), (.bool false), (.bool false), (.bool false), (.bool false), (.bool false), (.bool false), (.bool false), (.bool false), (.bool false), (.bool false), (.bool false), (.bool false), (.bool false), (.bool false), (.bool false), (.bool false), (.bool false), (.bool false), (.bool false), (.bool false), (.bool false), (.bool false), (.bool false), (.bool false), (.bool false), (.bool false), (.bool false), (.bool false), (.bool false), (.bool false), (.bool false), (.bool false), (.bool false), (.bool false), (.bool false), (.bool false), (.bool false), (.bool false), (.bool false), (.bool false), (.bool false), (.bool false), (.bool false), (.bool false), (.bool false), (.bool false), (.bool false), (.bool false), (.bool false), (.bool false), (.bool false), (.bool false), (.bool false), (.bool false), (.bool false), (.bool false), (.bool false), (.bool false), (.bool false), (.bool false), (.bool false), (.bool false), (.bool false), (.bool false), (.bool false), (.bool false), (.bool false), (.bool false), (.bool false), (.bool false), (.bool false), (.bool false), (.bool false), (.bool false), (.bool false), (.bool false), (.bool false), (.bool false), (.bool false), (.bool false), (.bool false), (.bool false), (.bool false), (.bool false), (.bool false), (.bool false), (.bool false), (.bool false), (.bool false), (.bool false), (.bool false), (.bool false), (.bool false), (.bool false), (.bool false), (.bool false), (.bool false), (.bool false), (.bool false), (.bool false), (.bool false), (.bool false), (.bool false), (.bool false), (.bool false), (.bool false), (.bool false), (.bool false), (.bool false), (.bool false), (.bool false), (.bool false), (.bool false), (.bool false), (.bool false), (.bool false), (.bool false), (.bool false), (.bool false), (.bool false), (.bool false), (.bool false), (.bool false), (.bool false), (.bool false), (.bool false), (.bool false), (.bool false), (.bool false), (.bool false), (.bool false), (.bool false), (.bool false), (.bool false), (.bool false), (.bool false), (.bool false), (.bool false), (.bool false), (.bool false), (.bool false), (.bool false), (.bool false), (.bool false), (.bool false), (.bool false), (.bool false), (.bool false), (.bool false), (.bool false), (.bool false), (.bool false), (.bool false), (.bool false), (.bool false), (.bool false), (.bool false), (.bool false), (.bool false), (.bool false), (.bool false), (.bool false), (.bool false), (.bool false), (.bool false), (.bool false), (.bool false), (.bool false), (.bool false), (.bool false), (.bool false), (.bool false), (.bool false), (.bool false), (.bool false), (.bool false), (.bool false), (.bool false), (.bool false), (.bool false), (.bool false), (.bool false), (.bool false), (.bool false), (.bool false), (.bool false), (.bool false), (.bool false), (.bool false), (.bool false), (.bool false), (.bool false), (.bool false), (.bool false), (.bool false), (.bool false), (.bool false), (.bool false), (.bool false), (.bool false), (.bool false), (.bool false), (.bool false), (.bool false), (.bool false), (.bool false), (.bool false), (.bool false), (.bool false), (.bool false), (.bool false), (.bool false), (.bool false), (.bool false), (.bool false), (.bool false), (.bool false), (.bool false), (.bool false), (.bool false), (.bool false), (.bool false), (.bool false), (.bool false), (.bool false), (.bool false), (.bool false), (.bool false), (.bool false), (.bool false), (.bool false), (.bool false), (.bool false), (.bool false), (.bool false), (.bool false), (.bool false), (.bool false), (.bool false), (.bool false), (.bool false), (.bool false), (.bool false), (.bool false), (.bool false)]), []⟩, ⟨some 3, none, .mv (.c (.bool false)), []⟩] [0, 2]) (.sq (.sq (.rg none [⟨some 4, none, .mv (.c (.int .i64 0)), []⟩] [0, 2, 4]) (.bl 0 (.lp true b192_0))) k192_1)), np := 1, res := [.cell 2 (some 256), .t 3], mode := .iso }
/-- (*strings.asciiSet).contains -/
def c193 : FI.Fn := { body := (.sq (.rg none [⟨some 4, none, .mv (.c (.bool false)), []⟩] [0, 1]) (.sq (.rg none [⟨some 5, none, .mv (.t 0), []⟩, ⟨some 6, none, .mv (.t 1), []⟩, ⟨some 7, none, .nc (.t 5), []⟩, ⟨some 8, none, .aa 256 1 (.t 7) (.t 6), []⟩, ⟨some 9, none, .ld none (.t 8), []⟩, ⟨some 4, none, .mv (.t 9), []⟩] [4]) .rt)), np := 2, res := [.t 4], mode := .shr }
/-- slices.order2CmpFunc[retarget/api.Binding] -/
def c196 : FI.Fn := { body := (.sq (.rg none [⟨some 10, none, .mv (.c (.int .i64 0)), []⟩, ⟨some 11, none, .mv (.c (.int .i64 0)), []⟩] [0, 1, 2, 3, 4]) (.sq (.sq (.rg (some [0, 1, 2, 3, 4, 5, 6, 7, 8, 9, 10]) [⟨some 12, none, .mv (.t 4), []⟩, ⟨some 13, none, .mv (.t 0), []⟩, ⟨some 14, none, .mv (.t 2), []⟩, ⟨some 15, none, .ia 3 (.t 13) (.t 14), []⟩, ⟨some 16, none, .ld (some 3) (.t 15), []⟩, ⟨some 17, none, .mv (.t 0), []⟩, ⟨some 18, none, .mv (.t 1), []⟩, ⟨some 19, none, .ia 3 (.t 17) (.t 18), []⟩, ⟨some 20, none, .ld (some 3) (.t 19), []⟩, ⟨some 21, none, .cw (.t 12) [(.t 16), (.t 20)], []⟩, ⟨some 22, none, .bo .lss (.t 21) (.c (.int .i64 0)), []⟩] [1, 2, 3, 22]) (.cd (.t 22) (.sq (.rg none [⟨some 23, none, .mv (.t 3), []⟩, ⟨some 24, none, .nc (.t 23), []⟩, ⟨some 25, none, .ld none (.t 24), []⟩, ⟨some 26, none, .bo .add (.t 25) (.c (.int .i64 1)), []⟩, ⟨some 27, none, .nc (.t 23), []⟩, ⟨none, none, .st 1 (.t 27) (.t 26), []⟩] [1, 2]) (.sq (.rg none [⟨some 28, none, .mv (.t 2), []⟩, ⟨some 29, none, .mv (.t 1), []⟩, ⟨some 10, none, .mv (.t 28), []⟩, ⟨some 11, none, .mv (.t 29), []⟩] [10, 11]) .rt)) .sk)) (.sq (.rg none [⟨some 30, none, .mv (.t 1), []⟩, ⟨some 31, none, .mv (.t 2), []⟩, ⟨some 10, none, .mv (.t 30), []⟩, ⟨some 11, none, .mv (.t 31), []⟩] [10, 11]) .rt))), np := 5, res := [.t 10, .t 11], mode := .iso }
def b197_0 : C := (.sq (.sq (.rg none [⟨some 57, none, .mv (.t 8), []⟩, ⟨some 58, none, .mv (.t 9), []⟩, ⟨some 59, none, .bo .lss (.t 57) (.t 58), []⟩] [0, 1, 5, 6, 7, 8, 9, 10, 59]) (.cd (.t 59) .sk (.xt 1))) (.bl 2 (.sq (.sq (.rg none [⟨some 60, none, .mv (.t 0), []⟩, ⟨some 61, none, .mv (.t 8), []⟩, ⟨some 62, none, .ix (.t 60) (.t 61), []⟩, ⟨some 63, none, .mv (.t 6), []⟩, ⟨some 64, none, .bo .neq (.t 62) (.t 63), []⟩] [0, 1, 5, 6, 7, 8, 9, 10, 64]) (.cd (.t 64) (.sq (.rg none [⟨some 65, none, .mv (.t 0), []⟩, ⟨some 66, none, .mv (.t 8), []⟩, ⟨some 67, none, .bo .add (.t 66) (.c (.int .i64 1)), []⟩, ⟨some 68, none, .mv (.t 9), []⟩, ⟨some 69, none, .sl 0 (.t 65) (some (.t 67)) (some (.t 68)), []⟩, ⟨some 70, none, .mv (.t 6), []⟩, ⟨some 71, none, .cl 204 [(.t 69), (.t 70)], []⟩, ⟨some 11, none, .mv (.t 71), []⟩] [0, 1, 5, 6, 7, 8, 9, 10, 11]) (.sq (.sq (.rg none [⟨some 72, none, .mv (.t 11), []⟩, ⟨some 73, none, .bo .lss (.t 72) (.c (.int .i64 0)), []⟩] [0, 1, 5, 6, 7, 8, 9, 10, 11, 73]) (.cd (.t 73) (.sq (.rg none [⟨some 4, none, .mv (.c (.int .i64 (-1))), []⟩] [4]) .rt) .sk)) (.rg none [⟨some 74, none, .mv (.t 8), []⟩, ⟨some 75, none, .mv (.t 11), []⟩, ⟨some 76, none, .bo .add (.t 75) (.c (.int .i64 1)), []⟩, ⟨some 77, none, .bo .add (.t 74) (.t 76), []⟩, ⟨some 8, none, .mv (.t 77), []⟩] [0, 1, 5, 6, 7, 8, 9, 10]))) .sk)) (.sq (.sq (.rg none [⟨some 78, none, .mv (.t 0), []⟩, ⟨some 79, none, .mv (.t 8), []⟩, ⟨some 80, none, .bo .add (.t 79) (.c (.int .i64 1)), []⟩, ⟨some 81, none, .ix (.t 78) (.t 80), []⟩, ⟨some 82, none, .mv (.t 7), []⟩, ⟨some 83, none, .bo .eql (.t 81) (.t 82), []⟩, ⟨some 84, none, .mv (.t 83), []⟩, ⟨some 85, some (84, true), .mv (.t 0), []⟩, ⟨some 86, some (84, true), .mv (.t 8), []⟩, ⟨some 87, some (84, true), .mv (.t 8), []⟩, ⟨some 88, some (84, true), .mv (.t 5), []⟩, ⟨some 89, some (84, true), .bo .add (.t 87) (.t 88), []⟩, ⟨some 90, some (84, true), .sl 0 (.t 85) (some (.t 86)) (some (.t 89)), []⟩, ⟨some 91, some (84, true), .mv (.t 1), []⟩, ⟨some 92, some (84, true), .bo .eql (.t 90) (.t 91), []⟩, ⟨some 93, none, .pk (.t 84) (.t 92) (.c (.bool false)), []⟩] [0, 1, 5, 6, 7, 8, 9, 10, 93]) (.cd (.t 93) (.sq (.rg none [⟨some 94, none, .mv (.t 8), []⟩, ⟨some 4, none, .mv (.t 94), []⟩] [4]) .rt) .sk)) (.sq (.rg none [⟨some 95, none, .mv (.t 8), []⟩, ⟨some 96, none, .bo .add (.t 95) (.c (.int .i64 1)), []⟩, ⟨some 8, none, .mv (.t 96), []⟩] [0, 1, 5, 6, 7, 8, 9, 10]) (.sq (.rg none [⟨some 97, none, .mv (.t 10), []⟩, ⟨some 98, none, .bo .add (.t 97) (.c (.int .i64 1)), []⟩, ⟨some 10, none, .mv (.t 98), []⟩] [0, 1, 5, 6, 7, 8, 9, 10]) (.sq (.rg none [⟨some 99, none, .mv (.t 5), []⟩, ⟨some 100, none, .bad, []⟩, ⟨some 101, none, .bo .leq (.t 99) (.t 100), []⟩, ⟨some 102, none, .mv (.t 101), []⟩, ⟨some 103, some (102, true), .mv (.t 10), []⟩, ⟨some 104, some (102, true), .mv (.t 8), []⟩, ⟨some 105, some (102, true), .cl 200 [(.t 104)], []⟩, ⟨some 106, some (102, true), .bo .gtr (.t 103) (.t 105), []⟩, ⟨some 107, none, .pk (.t 102) (.t 106) (.c (.bool false)), []⟩] [0, 1, 5, 6, 7, 8, 9, 10, 107]) (.cd (.t 107) (.sq (.rg none [⟨some 108, none, .mv (.t 0), []⟩, ⟨some 109, none, .mv (.t 8), []⟩, ⟨some 110, none, .sl 0 (.t 108) (some (.t 109)) none, []⟩, ⟨some 111, none, .mv (.t 1), []⟩, ⟨some 112, none, .bad, []⟩, ⟨some 12, none, .mv (.t 112), []⟩] [8, 12]) (.sq (.sq (.rg none [⟨some 113, none, .mv (.t 12), []⟩, ⟨some 114, none, .bo .geq (.t 113) (.c (.int .i64 0)), []⟩] [8, 12, 114]) (.cd (.t 114) (.sq (.rg none [⟨some 115, none, .mv (.t 12), []⟩, ⟨some 116, none, .mv (.t 8), []⟩, ⟨some 117, none, .bo .add (.t 115) (.t 116), []⟩, ⟨some 4, none, .mv (.t 117), []⟩] [4]) .rt) .sk)) (.sq (.rg none [⟨some 4, none, .mv (.c (.int .i64 (-1))), []⟩] [4]) .rt))) (.sq (.rg none [⟨some 118, none, .mv (.t 5), []⟩, ⟨some 119, none, .bad, []⟩, ⟨some 120, none, .bo .gtr (.t 118) (.t 119), []⟩, ⟨some 121, none, .mv (.t 120), []⟩, ⟨some 122, some (121, true), .mv (.t 10), []⟩, ⟨some 123, some (121, true), .mv (.t 8), []⟩, ⟨some 124, some (121, true), .bo .shr (.t 123) (.c (.int .u64 4)), []⟩, ⟨some 125, some (121, true), .bo .add (.c (.int .i64 4)) (.t 124), []⟩, ⟨some 126, some (121, true), .bo .geq (.t 122) (.t 125), []⟩, ⟨some 127, none, .pk (.t 121) (.t 126) (.c (.bool false)), []⟩, ⟨some 128, none, .mv (.t 127), []⟩, ⟨some 129, some (128, true), .mv (.t 8), []⟩, ⟨some 130, some (128, true), .mv (.t 9), []⟩, ⟨some 131, some (128, true), .bo .lss (.t 129) (.t 130), []⟩, ⟨some 132, none, .pk (.t 128) (.t 131) (.c (.bool false)), []⟩] [0, 1, 5, 6, 7, 8, 9, 10, 132]) (.cd (.t 132) (.sq (.rg none [⟨some 133, none, .mv (.t 0), []⟩, ⟨some 134, none, .mv (.t 8), []⟩, ⟨some 135, none, .sl 0 (.t 133) (some (.t 134)) none, []⟩, ⟨some 136, none, .mv (.t 1), []⟩, ⟨some 137, none, .cl 205 [(.t 135), (.t 136)], []⟩, ⟨some 13, none, .mv (.t 137), []⟩] [8, 13]) (.sq (.sq (.rg none [⟨some 138, none, .mv (.t 13), []⟩, ⟨some 139, none, .bo .lss (.t 138) (.c (.int .i64 0)), []⟩] [8, 13, 139]) (.cd (.t 139) (.sq (.rg none [⟨some 4, none, .mv (.c (.int .i64 (-1))), []⟩] [4]) .rt) .sk)) (.sq (.rg none [⟨some 140, none, .mv (.t 8), []⟩, ⟨some 141, none, .mv (.t 13), []⟩, ⟨some 142, none, .bo .add (.t 140) (.t 141), []⟩, ⟨some 4, none, .mv (.t 142), []⟩] [4]) .rt))) .sk))))))))))
def k197_1 : C := (.sq (.rg none [⟨some 4, none, .mv (.c (.int .i64 (-1))), []⟩] [4]) .rt)
/-- internal/stringslite.Index -/
def c197 : FI.Fn := { body := (.sq (.rg none [⟨some 4, none, .mv (.c (.int .i64 0)), []⟩] [0, 1]) (.sq (.rg none [⟨some 14, none, .mv (.t 1), []⟩, ⟨some 15, none, .ln 0 (.t 14), []⟩, ⟨some 5, none, .mv (.t 15), []⟩] [0, 1, 5]) (.sq (.bl 0 (.sq (.rg none [⟨some 17, none, .mv (.t 5), []⟩, ⟨some 18, none, .bo .eql (.t 17) (.c (.int .i64 0)), []⟩, ⟨some 19, none, .mv (.t 18), []⟩, ⟨some 20, some (19, false), .mv (.t 1), []⟩, ⟨some 21, some (19, false), .mv (.t 0), []⟩, ⟨some 22, some (19, false), .bo .eql (.t 20) (.t 21), []⟩, ⟨some 23, none, .pk (.t 19) (.c (.bool true)) (.t 22), []⟩, ⟨some 16, none, .mv (.t 23), []⟩] [0, 1, 5, 16]) (.cd (.t 16) (.sq (.rg none [⟨some 4, none, .mv (.c (.int .i64 0)), []⟩] [4]) .rt) (.sq (.rg none [⟨some 25, none, .mv (.t 5), []⟩, ⟨some 26, none, .bo .eql (.t 25) (.c (.int .i64 1)), []⟩, ⟨some 24, none, .mv (.t 26), []⟩] [0, 1, 5, 24]) (.cd (.t 24) (.sq (.rg none [⟨some 27, none, .mv (.t 0), []⟩, ⟨some 28, none, .mv (.t 1), []⟩, ⟨some 29, none, .ix (.t 28) (.c (.int .i64 0)), []⟩, ⟨some 30, none, .cl 204 [(.t 27), (.t 29)], []⟩, ⟨some 4, none, .mv (.t 30), []⟩] [4]) .rt) (.sq (.rg none [⟨some 32, none, .mv (.t 5), []⟩, ⟨some 33, none, .mv (.t 0), []⟩, ⟨some 34, none, .ln 0 (.t 33), []⟩, ⟨some 35, none, .bo .geq (.t 32) (.t 34), []⟩, ⟨some 31, none, .mv (.t 35), []⟩] [0, 1, 5, 31]) (.cd (.t 31) (.sq (.rg none [⟨some 4, none, .mv (.c (.int .i64 (-1))), []⟩] [4]) .rt) (.sq (.rg none [⟨some 37, none, .mv (.t 5), []⟩, ⟨some 38, none, .bad, []⟩, ⟨some 39, none, .bo .leq (.t 37) (.t 38), []⟩, ⟨some 40, none, .mv (.t 39), []⟩, ⟨some 41, some (40, true), .mv (.t 0), []⟩, ⟨some 42, some (40, true), .ln 0 (.t 41), []⟩, ⟨some 43, some (40, true), .bo .leq (.t 42) (.c (.int .i64 64)), []⟩, ⟨some 44, none, .pk (.t 40) (.t 43) (.c (.bool false)), []⟩, ⟨some 36, none, .mv (.t 44), []⟩] [0, 1, 5, 36]) (.cd (.t 36) (.sq (.rg none [⟨some 45, none, .mv (.t 0), []⟩, ⟨some 46, none, .mv (.t 1), []⟩, ⟨some 47, none, .bad, []⟩, ⟨some 4, none, .mv (.t 47), []⟩] [4]) .rt) .sk))))))))) (.sq (.rg none [⟨some 48, none, .mv (.t 1), []⟩, ⟨some 49, none, .ix (.t 48) (.c (.int .i64 0)), []⟩, ⟨some 6, none, .mv (.t 49), []⟩] [0, 1, 5, 6]) (.sq (.rg none [⟨some 50, none, .mv (.t 1), []⟩, ⟨some 51, none, .ix (.t 50) (.c (.int .i64 1)), []⟩, ⟨some 7, none, .mv (.t 51), []⟩] [0, 1, 5, 6, 7]) (.sq (.rg none [⟨some 8, none, .mv (.c (.int .i64 0)), []⟩] [0, 1, 5, 6, 7, 8]) (.sq (.rg none [⟨some 52, none, .mv (.t 0), []⟩, ⟨some 53, none, .ln 0 (.t 52), []⟩, ⟨some 54, none, .mv (.t 5), []⟩, ⟨some 55, none, .bo .sub (.t 53) (.t 54), []⟩, ⟨some 56, none, .bo .add (.t 55) (.c (.int .i64 1)), []⟩, ⟨some 9, none, .mv (.t 56), []⟩] [0, 1, 5, 6, 7, 8, 9]) (.sq (.rg none [⟨some 10, none, .mv (.c (.int .i64 0)), []⟩] [0, 1, 5, 6, 7, 8, 9, 10]) (.sq (.bl 1 (.lp true b197_0)) k197_1))))))))), np := 2, res := [.t 4], mode := .iso }
/-- strings.IndexByte -/
def c198 : FI.Fn := { body := (.sq (.rg none [⟨some 4, none, .mv (.c (.int .i64 0)), []⟩] [0, 1]) (.sq (.rg none [⟨some 5, none, .mv (.t 0), []⟩, ⟨some 6, none, .mv (.t 1), []⟩, ⟨some 7, none, .cl 204 [(.t 5), (.t 6)], []⟩, ⟨some 4, none, .mv (.t 7), []⟩] [4]) .rt)), np := 2, res := [.t 4], mode := .iso }
/-- unicode/utf8.ValidRune -/
def c199 : FI.Fn := { body := (.sq (.rg none [⟨some 2, none, .mv (.c (.bool false)), []⟩] [0]) (.sq (.bl 0 (.sq (.rg none [⟨some 4, none, .mv (.t 0), []⟩, ⟨some 5, none, .bo .leq (.c (.int .i32 0)) (.t 4), []⟩, ⟨some 6, none, .mv (.t 5), []⟩, ⟨some 7, some (6, true), .mv (.t 0), []⟩, ⟨some 8, some (6, true), .bo .lss (.t 7) (.c (.int .i32 55296)), []⟩, ⟨some 9, none, .pk (.t 6) (.t 8) (.c (.bool false)), []⟩, ⟨some 3, none, .mv (.t 9), []⟩] [0, 3]) (.cd (.t 3) (.sq (.rg none [⟨some 2, none, .mv (.c (.bool true)), []⟩] [2]) .rt) (.sq (.rg none [⟨some 11, none, .mv (.t 0), []⟩, ⟨some 12, none, .bo .lss (.c (.int .i32 57343)) (.t 11), []⟩, ⟨some 13, none, .mv (.t 12), []⟩, ⟨some 14, some (13, true), .mv (.t 0), []⟩, ⟨some 15, some (13, true), .bo .leq (.t 14) (.c (.int .i32 1114111)), []⟩, ⟨some 16, none, .pk (.t 13) (.t 15) (.c (.bool false)), []⟩, ⟨some 10, none, .mv (.t 16), []⟩] [10]) (.cd (.t 10) (.sq (.rg none [⟨some 2, none, .mv (.c (.bool true)), []⟩] [2]) .rt) .sk))))) (.sq (.rg none [⟨some 2, none, .mv (.c (.bool false)), []⟩] [2]) .rt))), np := 1, res := [.t 2], mode := .iso }
/-- internal/bytealg.Cutover -/
def c200 : FI.Fn := { body := (.sq (.rg none [⟨some 2, none, .mv (.c (.int .i64 0)), []⟩] [0]) (.sq (.rg none [⟨some 3, none, .mv (.t 0), []⟩, ⟨some 4, none, .bo .add (.t 3) (.c (.int .i64 16)), []⟩, ⟨some 5, none, .bo .quo (.t 4) (.c (.int .i64 8)), []⟩, ⟨some 2, none, .mv (.t 5), []⟩] [2]) .rt)), np := 1, res := [.t 2], mode := .iso }
/-- internal/stringslite.IndexByte -/
def c204 : FI.Fn := { body := (.sq (.rg none [⟨some 4, none, .mv (.c (.int .i64 0)), []⟩] [0, 1]) (.sq (.rg none [⟨some 5, none, .mv (.t 0), []⟩, ⟨some 6, none, .mv (.t 1), []⟩, ⟨some 7, none, .ib (.t 5) (.t 6), []⟩, ⟨some 4, none, .mv (.t 7), []⟩] [4]) .rt)), np := 2, res := [.t 4], mode := .iso }
def b205_0 : C := (.sq (.sq (.rg none [⟨some 18, none, .mv (.t 9), []⟩, ⟨some 19, none, .mv (.t 7), []⟩, ⟨some 20, none, .bo .lss (.t 18) (.t 19), []⟩] [0, 1, 5, 6, 7, 8, 9, 20]) (.cd (.t 20) .sk (.xt 0))) (.sq (.bl 1 (.rg none [⟨some 23, none, .mv (.t 8), []⟩, ⟨some 24, none, .bo .mul (.t 23) (.c (.int .u32 16777619)), []⟩, ⟨some 25, none, .mv (.t 0), []⟩, ⟨some 26, none, .mv (.t 9), []⟩, ⟨some 27, none, .ix (.t 25) (.t 26), []⟩, ⟨some 28, none, .cv .u32 (.t 27), []⟩, ⟨some 29, none, .bo .add (.t 24) (.t 28), []⟩, ⟨some 8, none, .mv (.t 29), []⟩] [0, 1, 5, 6, 7, 8, 9])) (.rg none [⟨some 21, none, .mv (.t 9), []⟩, ⟨some 22, none, .bo .add (.t 21) (.c (.int .i64 1)), []⟩, ⟨some 9, none, .mv (.t 22), []⟩] [0, 1, 5, 6, 7, 8, 9])))
def b205_1 : C := (.sq (.sq (.rg none [⟨some 41, none, .mv (.t 10), []⟩, ⟨some 42, none, .mv (.t 0), []⟩, ⟨some 43, none, .ln 0 (.t 42), []⟩, ⟨some 44, none, .bo .lss (.t 41) (.t 43), []⟩] [0, 1, 5, 6, 7, 8, 10, 44]) (.cd (.t 44) .sk (.xt 2))) (.bl 3 (.sq (.rg none [⟨some 45, none, .mv (.t 8), []⟩, ⟨some 46, none, .bo .mul (.t 45) (.c (.int .u32 16777619)), []⟩, ⟨some 8, none, .mv (.t 46), []⟩] [0, 1, 5, 6, 7, 8, 10]) (.sq (.rg none [⟨some 47, none, .mv (.t 8), []⟩, ⟨some 48, none, .mv (.t 0), []⟩, ⟨some 49, none, .mv (.t 10), []⟩, ⟨some 50, none, .ix (.t 48) (.t 49), []⟩, ⟨some 51, none, .cv .u32 (.t 50), []⟩, ⟨some 52, none, .bo .add (.t 47) (.t 51), []⟩, ⟨some 8, none, .mv (.t 52), []⟩] [0, 1, 5, 6, 7, 8, 10]) (.sq (.rg none [⟨some 53, none, .mv (.t 8), []⟩, ⟨some 54, none, .mv (.t 6), []⟩, ⟨some 55, none, .mv (.t 0), []⟩, ⟨some 56, none, .mv (.t 10), []⟩, ⟨some 57, none, .mv (.t 7), []⟩, ⟨some 58, none, .bo .sub (.t 56) (.t 57), []⟩, ⟨some 59, none, .ix (.t 55) (.t 58), []⟩, ⟨some 60, none, .cv .u32 (.t 59), []⟩, ⟨some 61, none, .bo .mul (.t 54) (.t 60), []⟩, ⟨some 62, none, .bo .sub (.t 53) (.t 61), []⟩, ⟨some 8, none, .mv (.t 62), []⟩] [0, 1, 5, 6, 7, 8, 10]) (.sq (.rg none [⟨some 63, none, .mv (.t 10), []⟩, ⟨some 64, none, .bo .add (.t 63) (.c (.int .i64 1)), []⟩, ⟨some 10, none, .mv (.t 64), []⟩] [0, 1, 5, 6, 7, 8, 10]) (.sq (.rg none [⟨some 65, none, .mv (.t 8), []⟩, ⟨some 66, none, .mv (.t 5), []⟩, ⟨some 67, none, .bo .eql (.t 65) (.t 66), []⟩, ⟨some 68, none, .mv (.t 67), []⟩, ⟨some 69, some (68, true), .mv (.t 0), []⟩, ⟨some 70, some (68, true), .mv (.t 10), []⟩, ⟨some 71, some (68, true), .mv (.t 7), []⟩, ⟨some 72, some (68, true), .bo .sub (.t 70) (.t 71), []⟩, ⟨some 73, some (68, true), .mv (.t 10), []⟩, ⟨some 74, some (68, true), .sl 0 (.t 69) (some (.t 72)) (some (.t 73)), []⟩, ⟨some 75, some (68, true), .mv (.t 1), []⟩, ⟨some 76, some (68, true), .bo .eql (.t 74) (.t 75), []⟩, ⟨some 77, none, .pk (.t 68) (.t 76) (.c (.bool false)), []⟩] [0, 1, 5, 6, 7, 8, 10, 77]) (.cd (.t 77) (.sq (.rg none [⟨some 78, none, .mv (.t 10), []⟩, ⟨some 79, none, .mv (.t 7), []⟩, ⟨some 80, none, .bo .sub (.t 78) (.t 79), []⟩, ⟨some 4, none, .mv (.t 80), []⟩] [4]) .rt) .sk))))))))
def k205_2 : C := (.sq (.rg none [⟨some 4, none, .mv (.c (.int .i64 (-1))), []⟩] [4]) .rt)
def k205_3 : C := (.sq (.sq (.rg none [⟨some 30, none, .mv (.t 8), []⟩, ⟨some 31, none, .mv (.t 5), []⟩, ⟨some 32, none, .bo .eql (.t 30) (.t 31), []⟩, ⟨some 33, none, .mv (.t 32), []⟩, ⟨some 34, some (33, true), .mv (.t 0), []⟩, ⟨some 35, some (33, true), .mv (.t 7), []⟩, ⟨some 36, some (33, true), .sl 0 (.t 34) none (some (.t 35)), []⟩, ⟨some 37, some (33, true), .mv (.t 1), []⟩, ⟨some 38, some (33, true), .bo .eql (.t 36) (.t 37), []⟩, ⟨some 39, none, .pk (.t 33) (.t 38) (.c (.bool false)), []⟩] [0, 1, 5, 6, 7, 8, 39]) (.cd (.t 39) (.sq (.rg none [⟨some 4, none, .mv (.c (.int .i64 0)), []⟩] [4]) .rt) .sk)) (.sq (.sq (.rg none [⟨some 40, none, .mv (.t 7), []⟩, ⟨some 10, none, .mv (.t 40), []⟩] [0, 1, 5, 6, 7, 8, 10]) (.bl 2 (.lp true b205_1))) k205_2))
/-- internal/bytealg.IndexRabinKarp[string] -/
def c205 : FI.Fn := { body := (.sq (.rg none [⟨some 4, none, .mv (.c (.int .i64 0)), []⟩] [0, 1]) (.sq (.rg none [⟨some 12, none, .mv (.t 1), []⟩, ⟨some 13, none, .cl 207 [(.t 12)], []⟩, ⟨some 11, none, .mv (.t 13), []⟩, ⟨some 14, none, .ex (.t 11) 0, []⟩, ⟨some 15, none, .ex (.t 11) 1, []⟩, ⟨some 5, none, .mv (.t 14), []⟩, ⟨some 6, none, .mv (.t 15), []⟩] [0, 1, 5, 6]) (.sq (.rg none [⟨some 16, none, .mv (.t 1), []⟩, ⟨some 17, none, .ln 0 (.t 16), []⟩, ⟨some 7, none, .mv (.t 17), []⟩] [0, 1, 5, 6, 7]) (.sq (.rg none [⟨some 8, none, .mv (.c (.int .u32 0)), []⟩] [0, 1, 5, 6, 7, 8]) (.sq (.sq (.rg none [⟨some 9, none, .mv (.c (.int .i64 0)), []⟩] [0, 1, 5, 6, 7, 8, 9]) (.bl 0 (.lp true b205_0))) k205_3))))), np := 2, res := [.t 4], mode := .iso }
def b207_0 : C := (.sq (.sq (.rg none [⟨some 9, none, .mv (.t 5), []⟩, ⟨some 10, none, .mv (.t 0), []⟩, ⟨some 11, none, .ln 0 (.t 10), []⟩, ⟨some 12, none, .bo .lss (.t 9) (.t 11), []⟩] [0, 4, 5, 12]) (.cd (.t 12) .sk (.xt 0))) (.sq (.bl 1 (.rg none [⟨some 15, none, .mv (.t 4), []⟩, ⟨some 16, none, .bo .mul (.t 15) (.c (.int .u32 16777619)), []⟩, ⟨some 17, none, .mv (.t 0), []⟩, ⟨some 18, none, .mv (.t 5), []⟩, ⟨some 19, none, .ix (.t 17) (.t 18), []⟩, ⟨some 20, none, .cv .u32 (.t 19), []⟩, ⟨some 21, none, .bo .add (.t 16) (.t 20), []⟩, ⟨some 4, none, .mv (.t 21), []⟩] [0, 4, 5])) (.rg none [⟨some 13, none, .mv (.t 5), []⟩, ⟨some 14, none, .bo .add (.t 13) (.c (.int .i64 1)), []⟩, ⟨some 5, none, .mv (.t 14), []⟩] [0, 4, 5])))
def b207_1 : C := (.sq (.sq (.rg none [⟨some 24, none, .mv (.t 8), []⟩, ⟨some 25, none, .bo .gtr (.t 24) (.c (.int .i64 0)), []⟩] [4, 6, 7, 8, 25]) (.cd (.t 25) .sk (.xt 2))) (.sq (.bl 3 (.sq (.sq (.rg none [⟨some 28, none, .mv (.t 8), []⟩, ⟨some 29, none, .bo .and (.t 28) (.c (.int .i64 1)), []⟩, ⟨some 30, none, .bo .neq (.t 29) (.c (.int .i64 0)), []⟩] [4, 6, 7, 8, 30]) (.cd (.t 30) (.rg none [⟨some 31, none, .mv (.t 6), []⟩, ⟨some 32, none, .mv (.t 7), []⟩, ⟨some 33, none, .bo .mul (.t 31) (.t 32), []⟩, ⟨some 6, none, .mv (.t 33), []⟩] [4, 6, 7, 8]) .sk)) (.rg none [⟨some 34, none, .mv (.t 7), []⟩, ⟨some 35, none, .mv (.t 7), []⟩, ⟨some 36, none, .bo .mul (.t 34) (.t 35), []⟩, ⟨some 7, none, .mv (.t 36), []⟩] [4, 6, 7, 8]))) (.rg none [⟨some 26, none, .mv (.t 8), []⟩, ⟨some 27, none, .bo .shr (.t 26) (.c (.int .u64 1)), []⟩, ⟨some 8, none, .mv (.t 27), []⟩] [4, 6, 7, 8])))
def k207_2 : C := (.sq (.rg none [⟨some 37, none, .mv (.t 4), []⟩, ⟨some 38, none, .mv (.t 6), []⟩, ⟨some 2, none, .mv (.t 37), []⟩, ⟨some 3, none, .mv (.t 38), []⟩] [2, 3]) .rt)
def k207_3 : C := (.sq (.rg none [⟨some 6, none, .mv (.c (.int .u32 1)), []⟩, ⟨some 7, none, .mv (.c (.int .u32 16777619)), []⟩] [0, 4, 6, 7]) (.sq (.sq (.rg none [⟨some 22, none, .mv (.t 0), []⟩, ⟨some 23, none, .ln 0 (.t 22), []⟩, ⟨some 8, none, .mv (.t 23), []⟩] [4, 6, 7, 8]) (.bl 2 (.lp true b207_1))) k207_2))
/-- internal/bytealg.hashStr[string] -/
def c207 : FI.Fn := { body := (.sq (.rg none [⟨some 2, none, .mv (.c (.int .u32 0)), []⟩, ⟨some 3, none, .mv (.c (.int .u32 0)), []⟩] [0]) (.sq (.rg none [⟨some 4, none, .mv (.c (.int .u32 0)), []⟩] [0, 4]) (.sq (.sq (.rg none [⟨some 5, none, .mv (.c (.int .i64 0)), []⟩] [0, 4, 5]) (.bl 0 (.lp true b207_0))) k207_3))), np := 1, res := [.t 2, .t 3], mode := .iso }
/-- strings.Join -/
def x111 : List FV → Option FV := joinX
def T : FI.Tab := [(4, .fn c4), (12, .fn c12), (15, .fn c15), (16, .fn c16), (17, .fn c17), (19, .fn c19), (20, .fn c20), (22, .mr c22), (23, .fn c23), (24, .fn c24), (30, .fn c30), (31, .fn c31), (34, .ct c34), (35, .fn c35), (36, .fn c36), (37, .fn c37), (38, .fn c38), (39, .fn c39), (40, .fn c40), (41, .fn c41), (42, .fn c42), (43, .fn c43), (44, .fn c44), (45, .fn c45), (46, .fn c46), (49, .fn c49), (50, .fn c50), (60, .fn c60), (61, .fn c61), (62, .fn c62), (63, .fn c63), (64, .fn c64), (65, .fn c65), (66, .fn c66), (67, .fn c67), (68, .fn c68), (69, .fn c69), (70, .fn c70), (71, .fn c71), (72, .fn c72), (73, .fn c73), (74, .fn c74), (75, .fn c75), (76, .fn c76), (77, .fn c77), (78, .fn c78), (79, .fn c79), (80, .fn c80), (81, .fn c81), (82, .fn c82), (83, .fn c83), (84, .fn c84), (85, .fn c85), (86, .fn c86), (87, .fn c87), (88, .fn c88), (89, .fn c89), (90, .fn c90), (91, .fn c91), (103, .fn c103), (104, .fn c104), (105, .fn c105), (106, .fn c106), (107, .fn c107), (108, .fn c108), (109, .fn c109), (110, .fn c110), (112, .fn c112), (113, .fn c113), (114, .fn c114), (115, .fn c115), (117, .fn c117), (118, .fn c118), (119, .fn c119), (120, .fn c120), (121, .fn c121), (122, .fn c122), (123, .fn c123), (124, .fn c124), (125, .fn c125), (126, .fn c126), (127, .fn c127), (128, .fn c128), (129, .fn c129), (130, .fn c130), (131, .fn c131), (132, .fn c132), (133, .fn c133), (134, .fn c134), (135, .fn c135), (136, .fn c136), (137, .fn c137), (138, .fn c138), (139, .fn c139), (140, .fn c140), (141, .fn c141), (156, .fn c156), (157, .fn c157), (158, .fn c158), (159, .fn c159), (163, .fn c163), (164, .fn c164), (165, .fn c165), (166, .fn c166), (167, .fn c167), (168, .fn c168), (169, .fn c169), (170, .fn c170), (171, .fn c171), (172, .fn c172), (173, .fn c173), (174, .fn c174), (175, .fn c175), (176, .fn c176), (177, .fn c177), (178, .fn c178), (179, .fn c179), (180, .fn c180), (181, .fn c181), (182, .fn c182), (183, .fn c183), (184, .fn c184), (185, .fn c185), (186, .fn c186), (189, .fn c189), (190, .fn c190), (191, .fn c191), (192, .fn c192), (193, .fn c193), (196, .fn c196), (197, .fn c197), (198, .fn c198), (199, .fn c199), (200, .fn c200), (204, .fn c204), (205, .fn c205), (207, .fn c207), (1002000, .rd r1002000), (1002300, .rd r1002300), (1004400, .rd r1004400), (111, .ext x111)]
def glf (k : Nat) (cs : List FV) : Bool := (k == 0 && eqvs cs gl0)
theorem glfp (k : Nat) (cs : List FV) (h : glf k cs = true) : pures cs = true := by
  unfold glf at h
  simp only [Bool.or_eq_true, Bool.and_eq_true] at h
  rcases h with ⟨_, h⟩
  · rw [eqvs_eq h]; rfl
@[reducible] def sys0 : FI.Sys := ⟨glf, fun _ _ _ => False, glfp⟩
instance sys : FI.Sys := ⟨glf, @RkOf sys0 Tryz.prog (cmOf T) (rdOf T), glfp⟩
theorem mix : Tryz.prog.follows .mixedOrders = true := by kernel_rfl
theorem ok4 : okFn Tryz.prog (cmOf T) (rdOf T) 4 c4 = true := by kernel_rfl
theorem ok12 : okFn Tryz.prog (cmOf T) (rdOf T) 12 c12 = true := by kernel_rfl
theorem ok15 : okFn Tryz.prog (cmOf T) (rdOf T) 15 c15 = true := by kernel_rfl
theorem ok16 : okFn Tryz.prog (cmOf T) (rdOf T) 16 c16 = true := by kernel_rfl
theorem ok17 : okFn Tryz.prog (cmOf T) (rdOf T) 17 c17 = true := by kernel_rfl
theorem ok19 : okFn Tryz.prog (cmOf T) (rdOf T) 19 c19 = true := by kernel_rfl
theorem ok20 : okFn Tryz.prog (cmOf T) (rdOf T) 20 c20 = true := by kernel_rfl
theorem ok22 : okMr Tryz.prog (cmOf T) (rdOf T) 22 c22 = true := by kernel_rfl
theorem ok23 : okFn Tryz.prog (cmOf T) (rdOf T) 23 c23 = true := by kernel_rfl
theorem ok24 : okFn Tryz.prog (cmOf T) (rdOf T) 24 c24 = true := by kernel_rfl
theorem ok30 : okFn Tryz.prog (cmOf T) (rdOf T) 30 c30 = true := by kernel_rfl
theorem ok31 : okFn Tryz.prog (cmOf T) (rdOf T) 31 c31 = true := by kernel_rfl
theorem ok34 : okCt Tryz.prog (cmOf T) (rdOf T) 34 c34 = true := by kernel_rfl
theorem ok35 : okFn Tryz.prog (cmOf T) (rdOf T) 35 c35 = true := by kernel_rfl
theorem ok36 : okFn Tryz.prog (cmOf T) (rdOf T) 36 c36 = true := by kernel_rfl
theorem ok37 : okFn Tryz.prog (cmOf T) (rdOf T) 37 c37 = true := by kernel_rfl
theorem ok38 : okFn Tryz.prog (cmOf T) (rdOf T) 38 c38 = true := by kernel_rfl
theorem ok39 : okFn Tryz.prog (cmOf T) (rdOf T) 39 c39 = true := by kernel_rfl
theorem ok40 : okFn Tryz.prog (cmOf T) (rdOf T) 40 c40 = true := by kernel_rfl
theorem ok41 : okFn Tryz.prog (cmOf T) (rdOf T) 41 c41 = true := by kernel_rfl
theorem ok42 : okFn Tryz.prog (cmOf T) (rdOf T) 42 c42 = true := by kernel_rfl
theorem ok43 : okFn Tryz.prog (cmOf T) (rdOf T) 43 c43 = true := by kernel_rfl
theorem ok44 : okFn Tryz.prog (cmOf T) (rdOf T) 44 c44 = true := by kernel_rfl
theorem ok45 : okFn Tryz.prog (cmOf T) (rdOf T) 45 c45 = true := by kernel_rfl
theorem ok46 : okFn Tryz.prog (cmOf T) (rdOf T) 46 c46 = true := by kernel_rfl
theorem ok49 : okFn Tryz.prog (cmOf T) (rdOf T) 49 c49 = true := by kernel_rfl
theorem ok50 : okFn Tryz.prog (cmOf T) (rdOf T) 50 c50 = true := by kernel_rfl
theorem ok60 : okFn Tryz.prog (cmOf T) (rdOf T) 60 c60 = true := by kernel_rfl
theorem ok61 : okFn Tryz.prog (cmOf T) (rdOf T) 61 c61 = true := by kernel_rfl
theorem ok62 : okFn Tryz.prog (cmOf T) (rdOf T) 62 c62 = true := by kernel_rfl
theorem ok63 : okFn Tryz.prog (cmOf T) (rdOf T) 63 c63 = true := by kernel_rfl
theorem ok64 : okFn Tryz.prog (cmOf T) (rdOf T) 64 c64 = true := by kernel_rfl
theorem ok65 : okFn Tryz.prog (cmOf T) (rdOf T) 65 c65 = true := by kernel_rfl
theorem ok66 : okFn Tryz.prog (cmOf T) (rdOf T) 66 c66 = true := by kernel_rfl
theorem ok67 : okFn Tryz.prog (cmOf T) (rdOf T) 67 c67 = true := by kernel_rfl
theorem ok68 : okFn Tryz.prog (cmOf T) (rdOf T) 68 c68 = true := by kernel_rfl
theorem ok69 : okFn Tryz.prog (cmOf T) (rdOf T) 69 c69 = true := by kernel_rfl
theorem ok70 : okFn Tryz.prog (cmOf T) (rdOf T) 70 c70 = true := by kernel_rfl
theorem ok71 : okFn Tryz.prog (cmOf T) (rdOf T) 71 c71 = true := by kernel_rfl
theorem ok72 : okFn Tryz.prog (cmOf T) (rdOf T) 72 c72 = true := by kernel_rfl
theorem ok73 : okFn Tryz.prog (cmOf T) (rdOf T) 73 c73 = true := by kernel_rfl
theorem ok74 : okFn Tryz.prog (cmOf T) (rdOf T) 74 c74 = true := by kernel_rfl
theorem ok75 : okFn Tryz.prog (cmOf T) (rdOf T) 75 c75 = true := by kernel_rfl
theorem ok76 : okFn Tryz.prog (cmOf T) (rdOf T) 76 c76 = true := by kernel_rfl
theorem ok77 : okFn Tryz.prog (cmOf T) (rdOf T) 77 c77 = true := by kernel_rfl
theorem ok78 : okFn Tryz.prog (cmOf T) (rdOf T) 78 c78 = true := by kernel_rfl
theorem ok79 : okFn Tryz.prog (cmOf T) (rdOf T) 79 c79 = true := by kernel_rfl
theorem ok80 : okFn Tryz.prog (cmOf T) (rdOf T) 80 c80 = true := by kernel_rfl
theorem ok81 : okFn Tryz.prog (cmOf T) (rdOf T) 81 c81 = true := by kernel_rfl
theorem ok82 : okFn Tryz.prog (cmOf T) (rdOf T) 82 c82 = true := by kernel_rfl
theorem ok83 : okFn Tryz.prog (cmOf T) (rdOf T) 83 c83 = true := by kernel_rfl
theorem ok84 : okFn Tryz.prog (cmOf T) (rdOf T) 84 c84 = true := by kernel_rfl
theorem ok85 : okFn Tryz.prog (cmOf T) (rdOf T) 85 c85 = true := by kernel_rfl
theorem ok86 : okFn Tryz.prog (cmOf T) (rdOf T) 86 c86 = true := by kernel_rfl
theorem ok87 : okFn Tryz.prog (cmOf T) (rdOf T) 87 c87 = true := by kernel_rfl
theorem ok88 : okFn Tryz.prog (cmOf T) (rdOf T) 88 c88 = true := by kernel_rfl
theorem ok89 : okFn Tryz.prog (cmOf T) (rdOf T) 89 c89 = true := by kernel_rfl
theorem ok90 : okFn Tryz.prog (cmOf T) (rdOf T) 90 c90 = true := by kernel_rfl
theorem ok91 : okFn Tryz.prog (cmOf T) (rdOf T) 91 c91 = true := by kernel_rfl
theorem ok103 : okFn Tryz.prog (cmOf T) (rdOf T) 103 c103 = true := by kernel_rfl
theorem ok104 : okFn Tryz.prog (cmOf T) (rdOf T) 104 c104 = true := by kernel_rfl
theorem ok105 : okFn Tryz.prog (cmOf T) (rdOf T) 105 c105 = true := by kernel_rfl
theorem ok106 : okFn Tryz.prog (cmOf T) (rdOf T) 106 c106 = true := by kernel_rfl
theorem ok107 : okFn Tryz.prog (cmOf T) (rdOf T) 107 c107 = true := by kernel_rfl
theorem ok108 : okFn Tryz.prog (cmOf T) (rdOf T) 108 c108 = true := by kernel_rfl
theorem ok109 : okFn Tryz.prog (cmOf T) (rdOf T) 109 c109 = true := by kernel_rfl
theorem ok110 : okFn Tryz.prog (cmOf T) (rdOf T) 110 c110 = true := by kernel_rfl
theorem ok112 : okFn Tryz.prog (cmOf T) (rdOf T) 112 c112 = true := by kernel_rfl
theorem ok113 : okFn Tryz.prog (cmOf T) (rdOf T) 113 c113 = true := by kernel_rfl
theorem ok114 : okFn Tryz.prog (cmOf T) (rdOf T) 114 c114 = true := by kernel_rfl
theorem ok115 : okFn Tryz.prog (cmOf T) (rdOf T) 115 c115 = true := by kernel_rfl
theorem ok117 : okFn Tryz.prog (cmOf T) (rdOf T) 117 c117 = true := by kernel_rfl
theorem ok118 : okFn Tryz.prog (cmOf T) (rdOf T) 118 c118 = true := by kernel_rfl
theorem ok119 : okFn Tryz.prog (cmOf T) (rdOf T) 119 c119 = true := by kernel_rfl
theorem ok120 : okFn Tryz.prog (cmOf T) (rdOf T) 120 c120 = true := by kernel_rfl
theorem ok121 : okFn Tryz.prog (cmOf T) (rdOf T) 121 c121 = true := by kernel_rfl
theorem ok122 : okFn Tryz.prog (cmOf T) (rdOf T) 122 c122 = true := by kernel_rfl
theorem ok123 : okFn Tryz.prog (cmOf T) (rdOf T) 123 c123 = true := by kernel_rfl
theorem ok124 : okFn Tryz.prog (cmOf T) (rdOf T) 124 c124 = true := by kernel_rfl
theorem ok125 : okFn Tryz.prog (cmOf T) (rdOf T) 125 c125 = true := by kernel_rfl
theorem ok126 : okFn Tryz.prog (cmOf T) (rdOf T) 126 c126 = true := by kernel_rfl
theorem ok127 : okFn Tryz.prog (cmOf T) (rdOf T) 127 c127 = true := by kernel_rfl
theorem ok128 : okFn Tryz.prog (cmOf T) (rdOf T) 128 c128 = true := by kernel_rfl
theorem ok129 : okFn Tryz.prog (cmOf T) (rdOf T) 129 c129 = true := by kernel_rfl
theorem ok130 : okFn Tryz.prog (cmOf T) (rdOf T) 130 c130 = true := by kernel_rfl
theorem ok131 : okFn Tryz.prog (cmOf T) (rdOf T) 131 c131 = true := by kernel_rfl
theorem ok132 : okFn Tryz.prog (cmOf T) (rdOf T) 132 c132 = true := by kernel_rfl
theorem ok133 : okFn Tryz.prog (cmOf T) (rdOf T) 133 c133 = true := by kernel_rfl
theorem ok134 : okFn Tryz.prog (cmOf T) (rdOf T) 134 c134 = true := by kernel_rfl
theorem ok135 : okFn Tryz.prog (cmOf T) (rdOf T) 135 c135 = true := by kernel_rfl
theorem ok136 : okFn Tryz.prog (cmOf T) (rdOf T) 136 c136 = true := by kernel_rfl
theorem ok137 : okFn Tryz.prog (cmOf T) (rdOf T) 137 c137 = true := by kernel_rfl
theorem ok138 : okFn Tryz.prog (cmOf T) (rdOf T) 138 c138 = true := by kernel_rfl
theorem ok139 : okFn Tryz.prog (cmOf T) (rdOf T) 139 c139 = true := by kernel_rfl
theorem ok140 : okFn Tryz.prog (cmOf T) (rdOf T) 140 c140 = true := by kernel_rfl
theorem ok141 : okFn Tryz.prog (cmOf T) (rdOf T) 141 c141 = true := by kernel_rfl
theorem ok156 : okFn Tryz.prog (cmOf T) (rdOf T) 156 c156 = true := by kernel_rfl
theorem ok157 : okFn Tryz.prog (cmOf T) (rdOf T) 157 c157 = true := by kernel_rfl
theorem ok158 : okFn Tryz.prog (cmOf T) (rdOf T) 158 c158 = true := by kernel_rfl
theorem ok159 : okFn Tryz.prog (cmOf T) (rdOf T) 159 c159 = true := by kernel_rfl
theorem ok163 : okFn Tryz.prog (cmOf T) (rdOf T) 163 c163 = true := by kernel_rfl
theorem ok164 : okFn Tryz.prog (cmOf T) (rdOf T) 164 c164 = true := by kernel_rfl
theorem ok165 : okFn Tryz.prog (cmOf T) (rdOf T) 165 c165 = true := by kernel_rfl
theorem ok166 : okFn Tryz.prog (cmOf T) (rdOf T) 166 c166 = true := by kernel_rfl
theorem ok167 : okFn Tryz.prog (cmOf T) (rdOf T) 167 c167 = true := by kernel_rfl
theorem ok168 : okFn Tryz.prog (cmOf T) (rdOf T) 168 c168 = true := by kernel_rfl
theorem ok169 : okFn Tryz.prog (cmOf T) (rdOf T) 169 c169 = true := by kernel_rfl
theorem ok170 : okFn Tryz.prog (cmOf T) (rdOf T) 170 c170 = true := by kernel_rfl
theorem ok171 : okFn Tryz.prog (cmOf T) (rdOf T) 171 c171 = true := by kernel_rfl
theorem ok172 : okFn Tryz.prog (cmOf T) (rdOf T) 172 c172 = true := by kernel_rfl
theorem ok173 : okFn Tryz.prog (cmOf T) (rdOf T) 173 c173 = true := by kernel_rfl
theorem ok174 : okFn Tryz.prog (cmOf T) (rdOf T) 174 c174 = true := by kernel_rfl
theorem ok175 : okFn Tryz.prog (cmOf T) (rdOf T) 175 c175 = true := by kernel_rfl
theorem ok176 : okFn Tryz.prog (cmOf T) (rdOf T) 176 c176 = true := by kernel_rfl
theorem ok177 : okFn Tryz.prog (cmOf T) (rdOf T) 177 c177 = true := by kernel_rfl
theorem ok178 : okFn Tryz.prog (cmOf T) (rdOf T) 178 c178 = true := by kernel_rfl
theorem ok179 : okFn Tryz.prog (cmOf T) (rdOf T) 179 c179 = true := by kernel_rfl
theorem ok180 : okFn Tryz.prog (cmOf T) (rdOf T) 180 c180 = true := by kernel_rfl
theorem ok181 : okFn Tryz.prog (cmOf T) (rdOf T) 181 c181 = true := by kernel_rfl
theorem ok182 : okFn Tryz.prog (cmOf T) (rdOf T) 182 c182 = true := by kernel_rfl
theorem ok183 : okFn Tryz.prog (cmOf T) (rdOf T) 183 c183 = true := by kernel_rfl
theorem ok184 : okFn Tryz.prog (cmOf T) (rdOf T) 184 c184 = true := by kernel_rfl
theorem ok185 : okFn Tryz.prog (cmOf T) (rdOf T) 185 c185 = true := by kernel_rfl
theorem ok186 : okFn Tryz.prog (cmOf T) (rdOf T) 186 c186 = true := by kernel_rfl
theorem ok189 : okFn Tryz.prog (cmOf T) (rdOf T) 189 c189 = true := by kernel_rfl
theorem ok190 : okFn Tryz.prog (cmOf T) (rdOf T) 190 c190 = true := by kernel_rfl
theorem ok191 : okFn Tryz.prog (cmOf T) (rdOf T) 191 c191 = true := by kernel_rfl
theorem ok192 : okFn Tryz.prog (cmOf T) (rdOf T) 192 c192 = true := by kernel_rfl
theorem ok193 : okFn Tryz.prog (cmOf T) (rdOf T) 193 c193 = true := by kernel_rfl
theorem ok196 : okFn Tryz.prog (cmOf T) (rdOf T) 196 c196 = true := by kernel_rfl
theorem ok197 : okFn Tryz.prog (cmOf T) (rdOf T) 197 c197 = true := by kernel_rfl
theorem ok198 : okFn Tryz.prog (cmOf T) (rdOf T) 198 c198 = true := by kernel_rfl
theorem ok199 : okFn Tryz.prog (cmOf T) (rdOf T) 199 c199 = true := by kernel_rfl
theorem ok200 : okFn Tryz.prog (cmOf T) (rdOf T) 200 c200 = true := by kernel_rfl
theorem ok204 : okFn Tryz.prog (cmOf T) (rdOf T) 204 c204 = true := by kernel_rfl
theorem ok205 : okFn Tryz.prog (cmOf T) (rdOf T) 205 c205 = true := by kernel_rfl
theorem ok207 : okFn Tryz.prog (cmOf T) (rdOf T) 207 c207 = true := by kernel_rfl
theorem ext111 : ExtOk Tryz.prog 111 x111 := join_ext lays extra rfl (by kernel_rfl)
theorem tab : TabOk Tryz.prog T where
  fn := by
    intro f d h
    obtain ⟨rfl, h0⟩ | h := tget_any h
    · cases h0; exact ok4
    obtain ⟨rfl, h0⟩ | h := tget_any h
    · cases h0; exact ok12
    obtain ⟨rfl, h0⟩ | h := tget_any h
    · cases h0; exact ok15
    obtain ⟨rfl, h0⟩ | h := tget_any h
    · cases h0; exact ok16
    obtain ⟨rfl, h0⟩ | h := tget_any h
    · cases h0; exact ok17
    obtain ⟨rfl, h0⟩ | h := tget_any h
    · cases h0; exact ok19
    obtain ⟨rfl, h0⟩ | h := tget_any h
    · cases h0; exact ok20
    obtain ⟨_, h0⟩ | h := tget_any h
    · cases h0
    obtain ⟨rfl, h0⟩ | h := tget_any h
    · cases h0; exact ok23
    obtain ⟨rfl, h0⟩ | h := tget_any h
    · cases h0; exact ok24
    obtain ⟨rfl, h0⟩ | h := tget_any h
    · cases h0; exact ok30
    obtain ⟨rfl, h0⟩ | h := tget_any h
    · cases h0; exact ok31
    obtain ⟨_, h0⟩ | h := tget_any h
    · cases h0
    obtain ⟨rfl, h0⟩ | h := tget_any h
    · cases h0; exact ok35
    obtain ⟨rfl, h0⟩ | h := tget_any h
    · cases h0; exact ok36
    obtain ⟨rfl, h0⟩ | h := tget_any h
    · cases h0; exact ok37
    obtain ⟨rfl, h0⟩ | h := tget_any h
    · cases h0; exact ok38
    obtain ⟨rfl, h0⟩ | h := tget_any h
    · cases h0; exact ok39
    obtain ⟨rfl, h0⟩ | h := tget_any h
    · cases h0; exact ok40
    obtain ⟨rfl, h0⟩ | h := tget_any h
    · cases h0; exact ok41
    obtain ⟨rfl, h0⟩ | h := tget_any h
    · cases h0; exact ok42
    obtain ⟨rfl, h0⟩ | h := tget_any h
    · cases h0; exact ok43
    obtain ⟨rfl, h0⟩ | h := tget_any h
    · cases h0; exact ok44
    obtain ⟨rfl, h0⟩ | h := tget_any h
    · cases h0; exact ok45
    obtain ⟨rfl, h0⟩ | h := tget_any h
    · cases h0; exact ok46
    obtain ⟨rfl, h0⟩ | h := tget_any h
    · cases h0; exact ok49
    obtain ⟨rfl, h0⟩ | h := tget_any h
    · cases h0; exact ok50
    obtain ⟨rfl, h0⟩ | h := tget_any h
    · cases h0; exact ok60
    obtain ⟨rfl, h0⟩ | h := tget_any h
    · cases h0; exact ok61
    obtain ⟨rfl, h0⟩ | h := tget_any h
    · cases h0; exact ok62
    obtain ⟨rfl, h0⟩ | h := tget_any h
    · cases h0; exact ok63
    obtain ⟨rfl, h0⟩ | h := tget_any h
    · cases h0; exact ok64
    obtain ⟨rfl, h0⟩ | h := tget_any h
    · cases h0; exact ok65
    obtain ⟨rfl, h0⟩ | h := tget_any h
    · cases h0; exact ok66
    obtain ⟨rfl, h0⟩ | h := tget_any h
    · cases h0; exact ok67
    obtain ⟨rfl, h0⟩ | h := tget_any h
    · cases h0; exact ok68
    obtain ⟨rfl, h0⟩ | h := tget_any h
    · cases h0; exact ok69
    obtain ⟨rfl, h0⟩ | h := tget_any h
    · cases h0; exact ok70
    obtain ⟨rfl, h0⟩ | h := tget_any h
    · cases h0; exact ok71
    obtain ⟨rfl, h0⟩ | h := tget_any h
    · cases h0; exact ok72
    obtain ⟨rfl, h0⟩ | h := tget_any h
    · cases h0; exact ok73
    obtain ⟨rfl, h0⟩ | h := tget_any h
    · cases h0; exact ok74
    obtain ⟨rfl, h0⟩ | h := tget_any h
    · cases h0; exact ok75
    obtain ⟨rfl, h0⟩ | h := tget_any h
    · cases h0; exact ok76
    obtain ⟨rfl, h0⟩ | h := tget_any h
    · cases h0; exact ok77
    obtain ⟨rfl, h0⟩ | h := tget_any h
    · cases h0; exact ok78
    obtain ⟨rfl, h0⟩ | h := tget_any h
    · cases h0; exact ok79
    obtain ⟨rfl, h0⟩ | h := tget_any h
    · cases h0; exact ok80
    obtain ⟨rfl, h0⟩ | h := tget_any h
    · cases h0; exact ok81
    obtain ⟨rfl, h0⟩ | h := tget_any h
    · cases h0; exact ok82
    obtain ⟨rfl, h0⟩ | h := tget_any h
    · cases h0; exact ok83
    obtain ⟨rfl, h0⟩ | h := tget_any h
    · cases h0; exact ok84
    obtain ⟨rfl, h0⟩ | h := tget_any h
    · cases h0; exact ok85
    obtain ⟨rfl, h0⟩ | h := tget_any h
    · cases h0; exact ok86
    obtain ⟨rfl, h0⟩ | h := tget_any h
    · cases h0; exact ok87
    obtain ⟨rfl, h0⟩ | h := tget_any h
    · cases h0; exact ok88
    obtain ⟨rfl, h0⟩ | h := tget_any h
    · cases h0; exact ok89
    obtain ⟨rfl, h0⟩ | h := tget_any h
    · cases h0; exact ok90
    obtain ⟨rfl, h0⟩ | h := tget_any h
    · cases h0; exact ok91
    obtain ⟨rfl, h0⟩ | h := tget_any h
    · cases h0; exact ok103
    obtain ⟨rfl, h0⟩ | h := tget_any h
    · cases h0; exact ok104
    obtain ⟨rfl, h0⟩ | h := tget_any h
    · cases h0; exact ok105
    obtain ⟨rfl, h0⟩ | h := tget_any h
    · cases h0; exact ok106
    obtain ⟨rfl, h0⟩ | h := tget_any h
    · cases h0; exact ok107
    obtain ⟨rfl, h0⟩ | h := tget_any h
    · cases h0; exact ok108
    obtain ⟨rfl, h0⟩ | h := tget_any h
    · cases h0; exact ok109
    obtain ⟨rfl, h0⟩ | h := tget_any h
    · cases h0; exact ok110
    obtain ⟨rfl, h0⟩ | h := tget_any h
    · cases h0; exact ok112
    obtain ⟨rfl, h0⟩ | h := tget_any h
    · cases h0; exact ok113
    obtain ⟨rfl, h0⟩ | h := tget_any h
    · cases h0; exact ok114
    obtain ⟨rfl, h0⟩ | h := tget_any h
    · cases h0; exact ok115
    obtain ⟨rfl, h0⟩ | h := tget_any h
    · cases h0; exact ok117
    obtain ⟨rfl, h0⟩ | h := tget_any h
    · cases h0; exact ok118
    obtain ⟨rfl, h0⟩ | h := tget_any h
    · cases h0; exact ok119
    obtain ⟨rfl, h0⟩ | h := tget_any h
    · cases h0; exact ok120
    obtain ⟨rfl, h0⟩ | h := tget_any h
    · cases h0; exact ok121
    obtain ⟨rfl, h0⟩ | h := tget_any h
    · cases h0; exact ok122
    obtain ⟨rfl, h0⟩ | h := tget_any h
    · cases h0; exact ok123
    obtain ⟨rfl, h0⟩ | h := tget_any h
    · cases h0; exact ok124
    obtain ⟨rfl, h0⟩ | h := tget_any h
    · cases h0; exact ok125
    obtain ⟨rfl, h0⟩ | h := tget_any h
    · cases h0; exact ok126
    obtain ⟨rfl, h0⟩ | h := tget_any h
    · cases h0; exact ok127
    obtain ⟨rfl, h0⟩ | h := tget_any h
    · cases h0; exact ok128
    obtain ⟨rfl, h0⟩ | h := tget_any h
    · cases h0; exact ok129
    obtain ⟨rfl, h0⟩ | h := tget_any h
    · cases h0; exact ok130
    obtain ⟨rfl, h0⟩ | h := tget_any h
    · cases h0; exact ok131
    obtain ⟨rfl, h0⟩ | h := tget_any h
    · cases h0; exact ok132
    obtain ⟨rfl, h0⟩ | h := tget_any h
    · cases h0; exact ok133
    obtain ⟨rfl, h0⟩ | h := tget_any h
    · cases h0; exact ok134
    obtain ⟨rfl, h0⟩ | h := tget_any h
    · cases h0; exact ok135
    obtain ⟨rfl, h0⟩ | h := tget_any h
    · cases h0; exact ok136
    obtain ⟨rfl, h0⟩ | h := tget_any h
    · cases h0; exact ok137
    obtain ⟨rfl, h0⟩ | h := tget_any h
    · cases h0; exact ok138
    obtain ⟨rfl, h0⟩ | h := tget_any h
    · cases h0; exact ok139
    obtain ⟨rfl, h0⟩ | h := tget_any h
    · cases h0; exact ok140
    obtain ⟨rfl, h0⟩ | h := tget_any h
    · cases h0; exact ok141
    obtain ⟨rfl, h0⟩ | h := tget_any h
    · cases h0; exact ok156
    obtain ⟨rfl, h0⟩ | h := tget_any h
    · cases h0; exact ok157
    obtain ⟨rfl, h0⟩ | h := tget_any h
    · cases h0; exact ok158
    obtain ⟨rfl, h0⟩ | h := tget_any h
    · cases h0; exact ok159
    obtain ⟨rfl, h0⟩ | h := tget_any h
    · cases h0; exact ok163
    obtain ⟨rfl, h0⟩ | h := tget_any h
    · cases h0; exact ok164
    obtain ⟨rfl, h0⟩ | h := tget_any h
    · cases h0; exact ok165
    obtain ⟨rfl, h0⟩ | h := tget_any h
    · cases h0; exact ok166
    obtain ⟨rfl, h0⟩ | h := tget_any h
    · cases h0; exact ok167
    obtain ⟨rfl, h0⟩ | h := tget_any h
    · cases h0; exact ok168
    obtain ⟨rfl, h0⟩ | h := tget_any h
    · cases h0; exact ok169
    obtain ⟨rfl, h0⟩ | h := tget_any h
    · cases h0; exact ok170
    obtain ⟨rfl, h0⟩ | h := tget_any h
    · cases h0; exact ok171
    obtain ⟨rfl, h0⟩ | h := tget_any h
    · cases h0; exact ok172
    obtain ⟨rfl, h0⟩ | h := tget_any h
    · cases h0; exact ok173
    obtain ⟨rfl, h0⟩ | h := tget_any h
    · cases h0; exact ok174
    obtain ⟨rfl, h0⟩ | h := tget_any h
    · cases h0; exact ok175
    obtain ⟨rfl, h0⟩ | h := tget_any h
    · cases h0; exact ok176
    obtain ⟨rfl, h0⟩ | h := tget_any h
    · cases h0; exact ok177
    obtain ⟨rfl, h0⟩ | h := tget_any h
    · cases h0; exact ok178
    obtain ⟨rfl, h0⟩ | h := tget_any h
    · cases h0; exact ok179
    obtain ⟨rfl, h0⟩ | h := tget_any h
    · cases h0; exact ok180
    obtain ⟨rfl, h0⟩ | h := tget_any h
    · cases h0; exact ok181
    obtain ⟨rfl, h0⟩ | h := tget_any h
    · cases h0; exact ok182
    obtain ⟨rfl, h0⟩ | h := tget_any h
    · cases h0; exact ok183
    obtain ⟨rfl, h0⟩ | h := tget_any h
    · cases h0; exact ok184
    obtain ⟨rfl, h0⟩ | h := tget_any h
    · cases h0; exact ok185
    obtain ⟨rfl, h0⟩ | h := tget_any h
    · cases h0; exact ok186
    obtain ⟨rfl, h0⟩ | h := tget_any h
    · cases h0; exact ok189
    obtain ⟨rfl, h0⟩ | h := tget_any h
    · cases h0; exact ok190
    obtain ⟨rfl, h0⟩ | h := tget_any h
    · cases h0; exact ok191
    obtain ⟨rfl, h0⟩ | h := tget_any h
    · cases h0; exact ok192
    obtain ⟨rfl, h0⟩ | h := tget_any h
    · cases h0; exact ok193
    obtain ⟨rfl, h0⟩ | h := tget_any h
    · cases h0; exact ok196
    obtain ⟨rfl, h0⟩ | h := tget_any h
    · cases h0; exact ok197
    obtain ⟨rfl, h0⟩ | h := tget_any h
    · cases h0; exact ok198
    obtain ⟨rfl, h0⟩ | h := tget_any h
    · cases h0; exact ok199
    obtain ⟨rfl, h0⟩ | h := tget_any h
    · cases h0; exact ok200
    obtain ⟨rfl, h0⟩ | h := tget_any h
    · cases h0; exact ok204
    obtain ⟨rfl, h0⟩ | h := tget_any h
    · cases h0; exact ok205
    obtain ⟨rfl, h0⟩ | h := tget_any h
    · cases h0; exact ok207
    obtain ⟨_, h0⟩ | h := tget_any h
    · cases h0
    obtain ⟨_, h0⟩ | h := tget_any h
    · cases h0
    obtain ⟨_, h0⟩ | h := tget_any h
    · cases h0
    obtain ⟨_, h0⟩ | h := tget_any h
    · cases h0
    cases h
  ext := by
    intro f d h
    obtain ⟨_, h0⟩ | h := tget_any h
    · cases h0
    obtain ⟨_, h0⟩ | h := tget_any h
    · cases h0
    obtain ⟨_, h0⟩ | h := tget_any h
    · cases h0
    obtain ⟨_, h0⟩ | h := tget_any h
    · cases h0
    obtain ⟨_, h0⟩ | h := tget_any h
    · cases h0
    obtain ⟨_, h0⟩ | h := tget_any h
    · cases h0
    obtain ⟨_, h0⟩ | h := tget_any h
    · cases h0
    obtain ⟨_, h0⟩ | h := tget_any h
    · cases h0
    obtain ⟨_, h0⟩ | h := tget_any h
    · cases h0
    obtain ⟨_, h0⟩ | h := tget_any h
    · cases h0
    obtain ⟨_, h0⟩ | h := tget_any h
    · cases h0
    obtain ⟨_, h0⟩ | h := tget_any h
    · cases h0
    obtain ⟨_, h0⟩ | h := tget_any h
    · cases h0
    obtain ⟨_, h0⟩ | h := tget_any h
    · cases h0
    obtain ⟨_, h0⟩ | h := tget_any h
    · cases h0
    obtain ⟨_, h0⟩ | h := tget_any h
    · cases h0
    obtain ⟨_, h0⟩ | h := tget_any h
    · cases h0
    obtain ⟨_, h0⟩ | h := tget_any h
    · cases h0
    obtain ⟨_, h0⟩ | h := tget_any h
    · cases h0
    obtain ⟨_, h0⟩ | h := tget_any h
    · cases h0
    obtain ⟨_, h0⟩ | h := tget_any h
    · cases h0
    obtain ⟨_, h0⟩ | h := tget_any h
    · cases h0
    obtain ⟨_, h0⟩ | h := tget_any h
    · cases h0
    obtain ⟨_, h0⟩ | h := tget_any h
    · cases h0
    obtain ⟨_, h0⟩ | h := tget_any h
    · cases h0
    obtain ⟨_, h0⟩ | h := tget_any h
    · cases h0
    obtain ⟨_, h0⟩ | h := tget_any h
    · cases h0
    obtain ⟨_, h0⟩ | h := tget_any h
    · cases h0
    obtain ⟨_, h0⟩ | h := tget_any h
    · cases h0
    obtain ⟨_, h0⟩ | h := tget_any h
    · cases h0
    obtain ⟨_, h0⟩ | h := tget_any h
    · cases h0
    obtain ⟨_, h0⟩ | h := tget_any h
    · cases h0
    obtain ⟨_, h0⟩ | h := tget_any h
    · cases h0
    obtain ⟨_, h0⟩ | h := tget_any h
    · cases h0
    obtain ⟨_, h0⟩ | h := tget_any h
    · cases h0
    obtain ⟨_, h0⟩ | h := tget_any h
    · cases h0
    obtain ⟨_, h0⟩ | h := tget_any h
    · cases h0
    obtain ⟨_, h0⟩ | h := tget_any h
    · cases h0
    obtain ⟨_, h0⟩ | h := tget_any h
    · cases h0
    obtain ⟨_, h0⟩ | h := tget_any h
    · cases h0
    obtain ⟨_, h0⟩ | h := tget_any h
    · cases h0
    obtain ⟨_, h0⟩ | h := tget_any h
    · cases h0
    obtain ⟨_, h0⟩ | h := tget_any h
    · cases h0
    obtain ⟨_, h0⟩ | h := tget_any h
    · cases h0
    obtain ⟨_, h0⟩ | h := tget_any h
    · cases h0
    obtain ⟨_, h0⟩ | h := tget_any h
    · cases h0
    obtain ⟨_, h0⟩ | h := tget_any h
    · cases h0
    obtain ⟨_, h0⟩ | h := tget_any h
    · cases h0
    obtain ⟨_, h0⟩ | h := tget_any h
    · cases h0
    obtain ⟨_, h0⟩ | h := tget_any h
    · cases h0
    obtain ⟨_, h0⟩ | h := tget_any h
    · cases h0
    obtain ⟨_, h0⟩ | h := tget_any h
    · cases h0
    obtain ⟨_, h0⟩ | h := tget_any h
    · cases h0
    obtain ⟨_, h0⟩ | h := tget_any h
    · cases h0
    obtain ⟨_, h0⟩ | h := tget_any h
    · cases h0
    obtain ⟨_, h0⟩ | h := tget_any h
    · cases h0
    obtain ⟨_, h0⟩ | h := tget_any h
    · cases h0
    obtain ⟨_, h0⟩ | h := tget_any h
    · cases h0
    obtain ⟨_, h0⟩ | h := tget_any h
    · cases h0
    obtain ⟨_, h0⟩ | h := tget_any h
    · cases h0
    obtain ⟨_, h0⟩ | h := tget_any h
    · cases h0
    obtain ⟨_, h0⟩ | h := tget_any h
    · cases h0
    obtain ⟨_, h0⟩ | h := tget_any h
    · cases h0
    obtain ⟨_, h0⟩ | h := tget_any h
    · cases h0
    obtain ⟨_, h0⟩ | h := tget_any h
    · cases h0
    obtain ⟨_, h0⟩ | h := tget_any h
    · cases h0
    obtain ⟨_, h0⟩ | h := tget_any h
    · cases h0
    obtain ⟨_, h0⟩ | h := tget_any h
    · cases h0
    obtain ⟨_, h0⟩ | h := tget_any h
    · cases h0
    obtain ⟨_, h0⟩ | h := tget_any h
    · cases h0
    obtain ⟨_, h0⟩ | h := tget_any h
    · cases h0
    obtain ⟨_, h0⟩ | h := tget_any h
    · cases h0
    obtain ⟨_, h0⟩ | h := tget_any h
    · cases h0
    obtain ⟨_, h0⟩ | h := tget_any h
    · cases h0
    obtain ⟨_, h0⟩ | h := tget_any h
    · cases h0
    obtain ⟨_, h0⟩ | h := tget_any h
    · cases h0
    obtain ⟨_, h0⟩ | h := tget_any h
    · cases h0
    obtain ⟨_, h0⟩ | h := tget_any h
    · cases h0
    obtain ⟨_, h0⟩ | h := tget_any h
    · cases h0
    obtain ⟨_, h0⟩ | h := tget_any h
    · cases h0
    obtain ⟨_, h0⟩ | h := tget_any h
    · cases h0
    obtain ⟨_, h0⟩ | h := tget_any h
    · cases h0
    obtain ⟨_, h0⟩ | h := tget_any h
    · cases h0
    obtain ⟨_, h0⟩ | h := tget_any h
    · cases h0
    obtain ⟨_, h0⟩ | h := tget_any h
    · cases h0
    obtain ⟨_, h0⟩ | h := tget_any h
    · cases h0
    obtain ⟨_, h0⟩ | h := tget_any h
    · cases h0
    obtain ⟨_, h0⟩ | h := tget_any h
    · cases h0
    obtain ⟨_, h0⟩ | h := tget_any h
    · cases h0
    obtain ⟨_, h0⟩ | h := tget_any h
    · cases h0
    obtain ⟨_, h0⟩ | h := tget_any h
    · cases h0
    obtain ⟨_, h0⟩ | h := tget_any h
    · cases h0
    obtain ⟨_, h0⟩ | h := tget_any h
    · cases h0
    obtain ⟨_, h0⟩ | h := tget_any h
    · cases h0
    obtain ⟨_, h0⟩ | h := tget_any h
    · cases h0
    obtain ⟨_, h0⟩ | h := tget_any h
    · cases h0
    obtain ⟨_, h0⟩ | h := tget_any h
    · cases h0
    obtain ⟨_, h0⟩ | h := tget_any h
    · cases h0
    obtain ⟨_, h0⟩ | h := tget_any h
    · cases h0
    obtain ⟨_, h0⟩ | h := tget_any h
    · cases h0
    obtain ⟨_, h0⟩ | h := tget_any h
    · cases h0
    obtain ⟨_, h0⟩ | h := tget_any h
    · cases h0
    obtain ⟨_, h0⟩ | h := tget_any h
    · cases h0
    obtain ⟨_, h0⟩ | h := tget_any h
    · cases h0
    obtain ⟨_, h0⟩ | h := tget_any h
    · cases h0
    obtain ⟨_, h0⟩ | h := tget_any h
    · cases h0
    obtain ⟨_, h0⟩ | h := tget_any h
    · cases h0
    obtain ⟨_, h0⟩ | h := tget_any h
    · cases h0
    obtain ⟨_, h0⟩ | h := tget_any h
    · cases h0
    obtain ⟨_, h0⟩ | h := tget_any h
    · cases h0
    obtain ⟨_, h0⟩ | h := tget_any h
    · cases h0
    obtain ⟨_, h0⟩ | h := tget_any h
    · cases h0
    obtain ⟨_, h0⟩ | h := tget_any h
    · cases h0
    obtain ⟨_, h0⟩ | h := tget_any h
    · cases h0
    obtain ⟨_, h0⟩ | h := tget_any h
    · cases h0
    obtain ⟨_, h0⟩ | h := tget_any h
    · cases h0
    obtain ⟨_, h0⟩ | h := tget_any h
    · cases h0
    obtain ⟨_, h0⟩ | h := tget_any h
    · cases h0
    obtain ⟨_, h0⟩ | h := tget_any h
    · cases h0
    obtain ⟨_, h0⟩ | h := tget_any h
    · cases h0
    obtain ⟨_, h0⟩ | h := tget_any h
    · cases h0
    obtain ⟨_, h0⟩ | h := tget_any h
    · cases h0
    obtain ⟨_, h0⟩ | h := tget_any h
    · cases h0
    obtain ⟨_, h0⟩ | h := tget_any h
    · cases h0
    obtain ⟨_, h0⟩ | h := tget_any h
    · cases h0
    obtain ⟨_, h0⟩ | h := tget_any h
    · cases h0
    obtain ⟨_, h0⟩ | h := tget_any h
    · cases h0
    obtain ⟨_, h0⟩ | h := tget_any h
    · cases h0
    obtain ⟨_, h0⟩ | h := tget_any h
    · cases h0
    obtain ⟨_, h0⟩ | h := tget_any h
    · cases h0
    obtain ⟨_, h0⟩ | h := tget_any h
    · cases h0
    obtain ⟨_, h0⟩ | h := tget_any h
    · cases h0
    obtain ⟨_, h0⟩ | h := tget_any h
    · cases h0
    obtain ⟨_, h0⟩ | h := tget_any h
    · cases h0
    obtain ⟨_, h0⟩ | h := tget_any h
    · cases h0
    obtain ⟨_, h0⟩ | h := tget_any h
    · cases h0
    obtain ⟨_, h0⟩ | h := tget_any h
    · cases h0
    obtain ⟨_, h0⟩ | h := tget_any h
    · cases h0
    obtain ⟨_, h0⟩ | h := tget_any h
    · cases h0
    obtain ⟨_, h0⟩ | h := tget_any h
    · cases h0
    obtain ⟨rfl, h0⟩ | h := tget_any h
    · cases h0; exact ext111
    cases h
  ct := by
    intro f d h
    obtain ⟨_, h0⟩ | h := tget_any h
    · cases h0
    obtain ⟨_, h0⟩ | h := tget_any h
    · cases h0
    obtain ⟨_, h0⟩ | h := tget_any h
    · cases h0
    obtain ⟨_, h0⟩ | h := tget_any h
    · cases h0
    obtain ⟨_, h0⟩ | h := tget_any h
    · cases h0
    obtain ⟨_, h0⟩ | h := tget_any h
    · cases h0
    obtain ⟨_, h0⟩ | h := tget_any h
    · cases h0
    obtain ⟨_, h0⟩ | h := tget_any h
    · cases h0
    obtain ⟨_, h0⟩ | h := tget_any h
    · cases h0
    obtain ⟨_, h0⟩ | h := tget_any h
    · cases h0
    obtain ⟨_, h0⟩ | h := tget_any h
    · cases h0
    obtain ⟨_, h0⟩ | h := tget_any h
    · cases h0
    obtain ⟨rfl, h0⟩ | h := tget_any h
    · cases h0; exact ok34
    obtain ⟨_, h0⟩ | h := tget_any h
    · cases h0
    obtain ⟨_, h0⟩ | h := tget_any h
    · cases h0
    obtain ⟨_, h0⟩ | h := tget_any h
    · cases h0
    obtain ⟨_, h0⟩ | h := tget_any h
    · cases h0
    obtain ⟨_, h0⟩ | h := tget_any h
    · cases h0
    obtain ⟨_, h0⟩ | h := tget_any h
    · cases h0
    obtain ⟨_, h0⟩ | h := tget_any h
    · cases h0
    obtain ⟨_, h0⟩ | h := tget_any h
    · cases h0
    obtain ⟨_, h0⟩ | h := tget_any h
    · cases h0
    obtain ⟨_, h0⟩ | h := tget_any h
    · cases h0
    obtain ⟨_, h0⟩ | h := tget_any h
    · cases h0
    obtain ⟨_, h0⟩ | h := tget_any h
    · cases h0
    obtain ⟨_, h0⟩ | h := tget_any h
    · cases h0
    obtain ⟨_, h0⟩ | h := tget_any h
    · cases h0
    obtain ⟨_, h0⟩ | h := tget_any h
    · cases h0
    obtain ⟨_, h0⟩ | h := tget_any h
    · cases h0
    obtain ⟨_, h0⟩ | h := tget_any h
    · cases h0
    obtain ⟨_, h0⟩ | h := tget_any h
    · cases h0
    obtain ⟨_, h0⟩ | h := tget_any h
    · cases h0
    obtain ⟨_, h0⟩ | h := tget_any h
    · cases h0
    obtain ⟨_, h0⟩ | h := tget_any h
    · cases h0
    obtain ⟨_, h0⟩ | h := tget_any h
    · cases h0
    obtain ⟨_, h0⟩ | h := tget_any h
    · cases h0
    obtain ⟨_, h0⟩ | h := tget_any h
    · cases h0
    obtain ⟨_, h0⟩ | h := tget_any h
    · cases h0
    obtain ⟨_, h0⟩ | h := tget_any h
    · cases h0
    obtain ⟨_, h0⟩ | h := tget_any h
    · cases h0
    obtain ⟨_, h0⟩ | h := tget_any h
    · cases h0
    obtain ⟨_, h0⟩ | h := tget_any h
    · cases h0
    obtain ⟨_, h0⟩ | h := tget_any h
    · cases h0
    obtain ⟨_, h0⟩ | h := tget_any h
    · cases h0
    obtain ⟨_, h0⟩ | h := tget_any h
    · cases h0
    obtain ⟨_, h0⟩ | h := tget_any h
    · cases h0
    obtain ⟨_, h0⟩ | h := tget_any h
    · cases h0
    obtain ⟨_, h0⟩ | h := tget_any h
    · cases h0
    obtain ⟨_, h0⟩ | h := tget_any h
    · cases h0
    obtain ⟨_, h0⟩ | h := tget_any h
    · cases h0
    obtain ⟨_, h0⟩ | h := tget_any h
    · cases h0
    obtain ⟨_, h0⟩ | h := tget_any h
    · cases h0
    obtain ⟨_, h0⟩ | h := tget_any h
    · cases h0
    obtain ⟨_, h0⟩ | h := tget_any h
    · cases h0
    obtain ⟨_, h0⟩ | h := tget_any h
    · cases h0
    obtain ⟨_, h0⟩ | h := tget_any h
    · cases h0
    obtain ⟨_, h0⟩ | h := tget_any h
    · cases h0
    obtain ⟨_, h0⟩ | h := tget_any h
    · cases h0
    obtain ⟨_, h0⟩ | h := tget_any h
    · cases h0
    obtain ⟨_, h0⟩ | h := tget_any h
    · cases h0
    obtain ⟨_, h0⟩ | h := tget_any h
    · cases h0
    obtain ⟨_, h0⟩ | h := tget_any h
    · cases h0
    obtain ⟨_, h0⟩ | h := tget_any h
    · cases h0
    obtain ⟨_, h0⟩ | h := tget_any h
    · cases h0
    obtain ⟨_, h0⟩ | h := tget_any h
    · cases h0
    obtain ⟨_, h0⟩ | h := tget_any h
    · cases h0
    obtain ⟨_, h0⟩ | h := tget_any h
    · cases h0
    obtain ⟨_, h0⟩ | h := tget_any h
    · cases h0
    obtain ⟨_, h0⟩ | h := tget_any h
    · cases h0
    obtain ⟨_, h0⟩ | h := tget_any h
    · cases h0
    obtain ⟨_, h0⟩ | h := tget_any h
    · cases h0
    obtain ⟨_, h0⟩ | h := tget_any h
    · cases h0
    obtain ⟨_, h0⟩ | h := tget_any h
    · cases h0
    obtain ⟨_, h0⟩ | h := tget_any h
    · cases h0
    obtain ⟨_, h0⟩ | h := tget_any h
    · cases h0
    obtain ⟨_, h0⟩ | h := tget_any h
    · cases h0
    obtain ⟨_, h0⟩ | h := tget_any h
    · cases h0
    obtain ⟨_, h0⟩ | h := tget_any h
    · cases h0
    obtain ⟨_, h0⟩ | h := tget_any h
    · cases h0
    obtain ⟨_, h0⟩ | h := tget_any h
    · cases h0
    obtain ⟨_, h0⟩ | h := tget_any h
    · cases h0
    obtain ⟨_, h0⟩ | h := tget_any h
    · cases h0
    obtain ⟨_, h0⟩ | h := tget_any h
    · cases h0
    obtain ⟨_, h0⟩ | h := tget_any h
    · cases h0
    obtain ⟨_, h0⟩ | h := tget_any h
    · cases h0
    obtain ⟨_, h0⟩ | h := tget_any h
    · cases h0
    obtain ⟨_, h0⟩ | h := tget_any h
    · cases h0
    obtain ⟨_, h0⟩ | h := tget_any h
    · cases h0
    obtain ⟨_, h0⟩ | h := tget_any h
    · cases h0
    obtain ⟨_, h0⟩ | h := tget_any h
    · cases h0
    obtain ⟨_, h0⟩ | h := tget_any h
    · cases h0
    obtain ⟨_, h0⟩ | h := tget_any h
    · cases h0
    obtain ⟨_, h0⟩ | h := tget_any h
    · cases h0
    obtain ⟨_, h0⟩ | h := tget_any h
    · cases h0
    obtain ⟨_, h0⟩ | h := tget_any h
    · cases h0
    obtain ⟨_, h0⟩ | h := tget_any h
    · cases h0
    obtain ⟨_, h0⟩ | h := tget_any h
    · cases h0
    obtain ⟨_, h0⟩ | h := tget_any h
    · cases h0
    obtain ⟨_, h0⟩ | h := tget_any h
    · cases h0
    obtain ⟨_, h0⟩ | h := tget_any h
    · cases h0
    obtain ⟨_, h0⟩ | h := tget_any h
    · cases h0
    obtain ⟨_, h0⟩ | h := tget_any h
    · cases h0
    obtain ⟨_, h0⟩ | h := tget_any h
    · cases h0
    obtain ⟨_, h0⟩ | h := tget_any h
    · cases h0
    obtain ⟨_, h0⟩ | h := tget_any h
    · cases h0
    obtain ⟨_, h0⟩ | h := tget_any h
    · cases h0
    obtain ⟨_, h0⟩ | h := tget_any h
    · cases h0
    obtain ⟨_, h0⟩ | h := tget_any h
    · cases h0
    obtain ⟨_, h0⟩ | h := tget_any h
    · cases h0
    obtain ⟨_, h0⟩ | h := tget_any h
    · cases h0
    obtain ⟨_, h0⟩ | h := tget_any h
    · cases h0
    obtain ⟨_, h0⟩ | h := tget_any h
    · cases h0
    obtain ⟨_, h0⟩ | h := tget_any h
    · cases h0
    obtain ⟨_, h0⟩ | h := tget_any h
    · cases h0
    obtain ⟨_, h0⟩ | h := tget_any h
    · cases h0
    obtain ⟨_, h0⟩ | h := tget_any h
    · cases h0
    obtain ⟨_, h0⟩ | h := tget_any h
    · cases h0
    obtain ⟨_, h0⟩ | h := tget_any h
    · cases h0
    obtain ⟨_, h0⟩ | h := tget_any h
    · cases h0
    obtain ⟨_, h0⟩ | h := tget_any h
    · cases h0
    obtain ⟨_, h0⟩ | h := tget_any h
    · cases h0
    obtain ⟨_, h0⟩ | h := tget_any h
    · cases h0
    obtain ⟨_, h0⟩ | h := tget_any h
    · cases h0
    obtain ⟨_, h0⟩ | h := tget_any h
    · cases h0
    obtain ⟨_, h0⟩ | h := tget_any h
    · cases h0
    obtain ⟨_, h0⟩ | h := tget_any h
    · cases h0
    obtain ⟨_, h0⟩ | h := tget_any h
    · cases h0
    obtain ⟨_, h0⟩ | h := tget_any h
    · cases h0
    obtain ⟨_, h0⟩ | h := tget_any h
    · cases h0
    obtain ⟨_, h0⟩ | h := tget_any h
    · cases h0
    obtain ⟨_, h0⟩ | h := tget_any h
    · cases h0
    obtain ⟨_, h0⟩ | h := tget_any h
    · cases h0
    obtain ⟨_, h0⟩ | h := tget_any h
    · cases h0
    obtain ⟨_, h0⟩ | h := tget_any h
    · cases h0
    obtain ⟨_, h0⟩ | h := tget_any h
    · cases h0
    obtain ⟨_, h0⟩ | h := tget_any h
    · cases h0
    obtain ⟨_, h0⟩ | h := tget_any h
    · cases h0
    obtain ⟨_, h0⟩ | h := tget_any h
    · cases h0
    obtain ⟨_, h0⟩ | h := tget_any h
    · cases h0
    obtain ⟨_, h0⟩ | h := tget_any h
    · cases h0
    obtain ⟨_, h0⟩ | h := tget_any h
    · cases h0
    cases h
  mr := by
    intro f d h
    obtain ⟨_, h0⟩ | h := tget_any h
    · cases h0
    obtain ⟨_, h0⟩ | h := tget_any h
    · cases h0
    obtain ⟨_, h0⟩ | h := tget_any h
    · cases h0
    obtain ⟨_, h0⟩ | h := tget_any h
    · cases h0
    obtain ⟨_, h0⟩ | h := tget_any h
    · cases h0
    obtain ⟨_, h0⟩ | h := tget_any h
    · cases h0
    obtain ⟨_, h0⟩ | h := tget_any h
    · cases h0
    obtain ⟨rfl, h0⟩ | h := tget_any h
    · cases h0; exact ok22
    obtain ⟨_, h0⟩ | h := tget_any h
    · cases h0
    obtain ⟨_, h0⟩ | h := tget_any h
    · cases h0
    obtain ⟨_, h0⟩ | h := tget_any h
    · cases h0
    obtain ⟨_, h0⟩ | h := tget_any h
    · cases h0
    obtain ⟨_, h0⟩ | h := tget_any h
    · cases h0
    obtain ⟨_, h0⟩ | h := tget_any h
    · cases h0
    obtain ⟨_, h0⟩ | h := tget_any h
    · cases h0
    obtain ⟨_, h0⟩ | h := tget_any h
    · cases h0
    obtain ⟨_, h0⟩ | h := tget_any h
    · cases h0
    obtain ⟨_, h0⟩ | h := tget_any h
    · cases h0
    obtain ⟨_, h0⟩ | h := tget_any h
    · cases h0
    obtain ⟨_, h0⟩ | h := tget_any h
    · cases h0
    obtain ⟨_, h0⟩ | h := tget_any h
    · cases h0
    obtain ⟨_, h0⟩ | h := tget_any h
    · cases h0
    obtain ⟨_, h0⟩ | h := tget_any h
    · cases h0
    obtain ⟨_, h0⟩ | h := tget_any h
    · cases h0
    obtain ⟨_, h0⟩ | h := tget_any h
    · cases h0
    obtain ⟨_, h0⟩ | h := tget_any h
    · cases h0
    obtain ⟨_, h0⟩ | h := tget_any h
    · cases h0
    obtain ⟨_, h0⟩ | h := tget_any h
    · cases h0
    obtain ⟨_, h0⟩ | h := tget_any h
    · cases h0
    obtain ⟨_, h0⟩ | h := tget_any h
    · cases h0
    obtain ⟨_, h0⟩ | h := tget_any h
    · cases h0
    obtain ⟨_, h0⟩ | h := tget_any h
    · cases h0
    obtain ⟨_, h0⟩ | h := tget_any h
    · cases h0
    obtain ⟨_, h0⟩ | h := tget_any h
    · cases h0
    obtain ⟨_, h0⟩ | h := tget_any h
    · cases h0
    obtain ⟨_, h0⟩ | h := tget_any h
    · cases h0
    obtain ⟨_, h0⟩ | h := tget_any h
    · cases h0
    obtain ⟨_, h0⟩ | h := tget_any h
    · cases h0
    obtain ⟨_, h0⟩ | h := tget_any h
    · cases h0
    obtain ⟨_, h0⟩ | h := tget_any h
    · cases h0
    obtain ⟨_, h0⟩ | h := tget_any h
    · cases h0
    obtain ⟨_, h0⟩ | h := tget_any h
    · cases h0
    obtain ⟨_, h0⟩ | h := tget_any h
    · cases h0
    obtain ⟨_, h0⟩ | h := tget_any h
    · cases h0
    obtain ⟨_, h0⟩ | h := tget_any h
    · cases h0
    obtain ⟨_, h0⟩ | h := tget_any h
    · cases h0
    obtain ⟨_, h0⟩ | h := tget_any h
    · cases h0
    obtain ⟨_, h0⟩ | h := tget_any h
    · cases h0
    obtain ⟨_, h0⟩ | h := tget_any h
    · cases h0
    obtain ⟨_, h0⟩ | h := tget_any h
    · cases h0
    obtain ⟨_, h0⟩ | h := tget_any h
    · cases h0
    obtain ⟨_, h0⟩ | h := tget_any h
    · cases h0
    obtain ⟨_, h0⟩ | h := tget_any h
    · cases h0
    obtain ⟨_, h0⟩ | h := tget_any h
    · cases h0
    obtain ⟨_, h0⟩ | h := tget_any h
    · cases h0
    obtain ⟨_, h0⟩ | h := tget_any h
    · cases h0
    obtain ⟨_, h0⟩ | h := tget_any h
    · cases h0
    obtain ⟨_, h0⟩ | h := tget_any h
    · cases h0
    obtain ⟨_, h0⟩ | h := tget_any h
    · cases h0
    obtain ⟨_, h0⟩ | h := tget_any h
    · cases h0
    obtain ⟨_, h0⟩ | h := tget_any h
    · cases h0
    obtain ⟨_, h0⟩ | h := tget_any h
    · cases h0
    obtain ⟨_, h0⟩ | h := tget_any h
    · cases h0
    obtain ⟨_, h0⟩ | h := tget_any h
    · cases h0
    obtain ⟨_, h0⟩ | h := tget_any h
    · cases h0
    obtain ⟨_, h0⟩ | h := tget_any h
    · cases h0
    obtain ⟨_, h0⟩ | h := tget_any h
    · cases h0
    obtain ⟨_, h0⟩ | h := tget_any h
    · cases h0
    obtain ⟨_, h0⟩ | h := tget_any h
    · cases h0
    obtain ⟨_, h0⟩ | h := tget_any h
    · cases h0
    obtain ⟨_, h0⟩ | h := tget_any h
    · cases h0
    obtain ⟨_, h0⟩ | h := tget_any h
    · cases h0
    obtain ⟨_, h0⟩ | h := tget_any h
    · cases h0
    obtain ⟨_, h0⟩ | h := tget_any h
    · cases h0
    obtain ⟨_, h0⟩ | h := tget_any h
    · cases h0
    obtain ⟨_, h0⟩ | h := tget_any h
    · cases h0
    obtain ⟨_, h0⟩ | h := tget_any h
    · cases h0
    obtain ⟨_, h0⟩ | h := tget_any h
    · cases h0
    obtain ⟨_, h0⟩ | h := tget_any h
    · cases h0
    obtain ⟨_, h0⟩ | h := tget_any h
    · cases h0
    obtain ⟨_, h0⟩ | h := tget_any h
    · cases h0
    obtain ⟨_, h0⟩ | h := tget_any h
    · cases h0
    obtain ⟨_, h0⟩ | h := tget_any h
    · cases h0
    obtain ⟨_, h0⟩ | h := tget_any h
    · cases h0
    obtain ⟨_, h0⟩ | h := tget_any h
    · cases h0
    obtain ⟨_, h0⟩ | h := tget_any h
    · cases h0
    obtain ⟨_, h0⟩ | h := tget_any h
    · cases h0
    obtain ⟨_, h0⟩ | h := tget_any h
    · cases h0
    obtain ⟨_, h0⟩ | h := tget_any h
    · cases h0
    obtain ⟨_, h0⟩ | h := tget_any h
    · cases h0
    obtain ⟨_, h0⟩ | h := tget_any h
    · cases h0
    obtain ⟨_, h0⟩ | h := tget_any h
    · cases h0
    obtain ⟨_, h0⟩ | h := tget_any h
    · cases h0
    obtain ⟨_, h0⟩ | h := tget_any h
    · cases h0
    obtain ⟨_, h0⟩ | h := tget_any h
    · cases h0
    obtain ⟨_, h0⟩ | h := tget_any h
    · cases h0
    obtain ⟨_, h0⟩ | h := tget_any h
    · cases h0
    obtain ⟨_, h0⟩ | h := tget_any h
    · cases h0
    obtain ⟨_, h0⟩ | h := tget_any h
    · cases h0
    obtain ⟨_, h0⟩ | h := tget_any h
    · cases h0
    obtain ⟨_, h0⟩ | h := tget_any h
    · cases h0
    obtain ⟨_, h0⟩ | h := tget_any h
    · cases h0
    obtain ⟨_, h0⟩ | h := tget_any h
    · cases h0
    obtain ⟨_, h0⟩ | h := tget_any h
    · cases h0
    obtain ⟨_, h0⟩ | h := tget_any h
    · cases h0
    obtain ⟨_, h0⟩ | h := tget_any h
    · cases h0
    obtain ⟨_, h0⟩ | h := tget_any h
    · cases h0
    obtain ⟨_, h0⟩ | h := tget_any h
    · cases h0
    obtain ⟨_, h0⟩ | h := tget_any h
    · cases h0
    obtain ⟨_, h0⟩ | h := tget_any h
    · cases h0
    obtain ⟨_, h0⟩ | h := tget_any h
    · cases h0
    obtain ⟨_, h0⟩ | h := tget_any h
    · cases h0
    obtain ⟨_, h0⟩ | h := tget_any h
    · cases h0
    obtain ⟨_, h0⟩ | h := tget_any h
    · cases h0
    obtain ⟨_, h0⟩ | h := tget_any h
    · cases h0
    obtain ⟨_, h0⟩ | h := tget_any h
    · cases h0
    obtain ⟨_, h0⟩ | h := tget_any h
    · cases h0
    obtain ⟨_, h0⟩ | h := tget_any h
    · cases h0
    obtain ⟨_, h0⟩ | h := tget_any h
    · cases h0
    obtain ⟨_, h0⟩ | h := tget_any h
    · cases h0
    obtain ⟨_, h0⟩ | h := tget_any h
    · cases h0
    obtain ⟨_, h0⟩ | h := tget_any h
    · cases h0
    obtain ⟨_, h0⟩ | h := tget_any h
    · cases h0
    obtain ⟨_, h0⟩ | h := tget_any h
    · cases h0
    obtain ⟨_, h0⟩ | h := tget_any h
    · cases h0
    obtain ⟨_, h0⟩ | h := tget_any h
    · cases h0
    obtain ⟨_, h0⟩ | h := tget_any h
    · cases h0
    obtain ⟨_, h0⟩ | h := tget_any h
    · cases h0
    obtain ⟨_, h0⟩ | h := tget_any h
    · cases h0
    obtain ⟨_, h0⟩ | h := tget_any h
    · cases h0
    obtain ⟨_, h0⟩ | h := tget_any h
    · cases h0
    obtain ⟨_, h0⟩ | h := tget_any h
    · cases h0
    obtain ⟨_, h0⟩ | h := tget_any h
    · cases h0
    obtain ⟨_, h0⟩ | h := tget_any h
    · cases h0
    obtain ⟨_, h0⟩ | h := tget_any h
    · cases h0
    obtain ⟨_, h0⟩ | h := tget_any h
    · cases h0
    obtain ⟨_, h0⟩ | h := tget_any h
    · cases h0
    obtain ⟨_, h0⟩ | h := tget_any h
    · cases h0
    obtain ⟨_, h0⟩ | h := tget_any h
    · cases h0
    obtain ⟨_, h0⟩ | h := tget_any h
    · cases h0
    obtain ⟨_, h0⟩ | h := tget_any h
    · cases h0
    cases h
  mix := mix
  rk := fun f r ct => RkOf_gl (s := sys0) (t := sys) rfl
end Go.Proofs.YtjmppkmacaeahaaGreatDoor.Fi
