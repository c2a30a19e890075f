/- The code of the functions, in the interpreter's form: the other half, and the table. -/
import Derived.Test.YtkobnfjeehnhlaaDoorTCa
set_option linter.all false
set_option linter.unusedSimpArgs false
set_option linter.unusedVariables false
set_option linter.unusedSectionVars false
namespace Go.Proofs.YtkobnfjeehnhlaaDoor.Fi
open Go.FI
def c58 : FI.Fn := { body := (.sq (.rg none [⟨some 2, none, .mv (.c (.bool false)), []⟩] [0]) (.sq (.rg none [⟨some 3, none, .mv (.t 0), []⟩, ⟨some 4, none, .bo .geq (.t 3) (.c (.int .i64 1)), []⟩, ⟨some 5, none, .mv (.t 4), []⟩, ⟨some 6, some (5, true), .mv (.t 0), []⟩, ⟨some 7, some (5, true), .bo .leq (.t 6) (.c (.int .i64 64)), []⟩, ⟨some 8, none, .pk (.t 5) (.t 7) (.c (.bool false)), []⟩, ⟨some 2, none, .mv (.t 8), []⟩] [2]) .rt)), np := 1, res := [.t 2], mode := .iso }
def c59 : FI.Fn := { body := (.sq (.rg none [⟨some 4, none, .mv (.c (.bool false)), []⟩] [0, 1]) (.sq (.rg none [⟨some 5, none, .mv (.t 0), []⟩, ⟨some 6, none, .cl 58 [(.t 5)], []⟩, ⟨some 7, none, .mv (.t 6), []⟩, ⟨some 8, some (7, true), .mv (.t 0), []⟩, ⟨some 9, some (7, true), .bo .eql (.t 8) (.c (.int .i64 64)), []⟩, ⟨some 10, some (7, true), .mv (.t 9), []⟩, ⟨some 11, some (10, false), .mv (.t 1), []⟩, ⟨some 12, some (10, false), .mv (.t 0), []⟩, ⟨some 13, some (10, false), .cl 94 [(.t 12)], []⟩, ⟨some 14, some (10, false), .bo .lss (.t 11) (.t 13), []⟩, ⟨some 15, some (7, true), .pk (.t 10) (.c (.bool true)) (.t 14), []⟩, ⟨some 16, none, .pk (.t 7) (.t 15) (.c (.bool false)), []⟩, ⟨some 4, none, .mv (.t 16), []⟩] [4]) .rt)), np := 2, res := [.t 4], mode := .iso }
def c60 : FI.Fn := { body := (.sq (.rg none [⟨some 2, none, .mv (.c (.bool false)), []⟩] [0]) (.sq (.sq (.rg none [⟨some 3, none, .mv (.t 0), []⟩, ⟨some 4, none, .ln 0 (.t 3), []⟩, ⟨some 5, none, .bo .gtr (.t 4) (.c (.int .i64 2)), []⟩, ⟨some 6, none, .mv (.t 5), []⟩, ⟨some 7, some (6, true), .mv (.t 0), []⟩, ⟨some 8, some (6, true), .sl 0 (.t 7) none (some (.c (.int .i64 2))), []⟩, ⟨some 9, some (6, true), .bo .eql (.t 8) (.c (.str [114, 46])), []⟩, ⟨some 10, none, .pk (.t 6) (.t 9) (.c (.bool false)), []⟩] [0, 10]) (.cd (.t 10) (.sq (.rg none [⟨some 11, none, .mv (.t 0), []⟩, ⟨some 12, none, .sl 0 (.t 11) (some (.c (.int .i64 2))) none, []⟩, ⟨some 13, none, .cl 95 [(.t 12)], []⟩, ⟨some 2, none, .mv (.t 13), []⟩] [2]) .rt) .sk)) (.sq (.rg none [⟨some 14, none, .mv (.t 0), []⟩, ⟨some 15, none, .cl 95 [(.t 14)], []⟩, ⟨some 2, none, .mv (.t 15), []⟩] [2]) .rt))), np := 1, res := [.t 2], mode := .iso }
def c61 : FI.Fn := { body := (.sq (.rg none [⟨some 2, none, .mv (.c (.bool false)), []⟩] [0]) (.sq (.rg none [⟨some 3, none, .mv (.t 0), []⟩, ⟨some 4, none, .bo .eql (.t 3) (.c (.int .i64 8)), []⟩, ⟨some 5, none, .mv (.t 4), []⟩, ⟨some 6, some (5, false), .mv (.t 0), []⟩, ⟨some 7, some (5, false), .bo .eql (.t 6) (.c (.int .i64 16)), []⟩, ⟨some 8, none, .pk (.t 5) (.c (.bool true)) (.t 7), []⟩, ⟨some 9, none, .mv (.t 8), []⟩, ⟨some 10, some (9, false), .mv (.t 0), []⟩, ⟨some 11, some (9, false), .bo .eql (.t 10) (.c (.int .i64 32)), []⟩, ⟨some 12, none, .pk (.t 9) (.c (.bool true)) (.t 11), []⟩, ⟨some 13, none, .mv (.t 12), []⟩, ⟨some 14, some (13, false), .mv (.t 0), []⟩, ⟨some 15, some (13, false), .bo .eql (.t 14) (.c (.int .i64 64)), []⟩, ⟨some 16, none, .pk (.t 13) (.c (.bool true)) (.t 15), []⟩, ⟨some 2, none, .mv (.t 16), []⟩] [2]) .rt)), np := 1, res := [.t 2], mode := .iso }
def b76_0 : C := (.sq (.sq (.rg (some [0, 1, 2, 3, 4, 5, 6, 7, 8, 9, 10, 11, 12, 13, 14, 15, 16]) [⟨some 18, none, .mv (.t 9), []⟩, ⟨some 19, none, .mv (.t 1), []⟩, ⟨some 20, none, .bo .gtr (.t 18) (.t 19), []⟩, ⟨some 21, none, .mv (.t 20), []⟩, ⟨some 22, some (21, true), .mv (.t 3), []⟩, ⟨some 23, some (21, true), .mv (.t 0), []⟩, ⟨some 24, some (21, true), .mv (.t 9), []⟩, ⟨some 25, some (21, true), .ia 3 (.t 23) (.t 24), []⟩, ⟨some 26, some (21, true), .ld (some 3) (.t 25), []⟩, ⟨some 27, some (21, true), .mv (.t 0), []⟩, ⟨some 28, some (21, true), .mv (.t 9), []⟩, ⟨some 29, some (21, true), .bo .sub (.t 28) (.c (.int .i64 1)), []⟩, ⟨some 30, some (21, true), .ia 3 (.t 27) (.t 29), []⟩, ⟨some 31, some (21, true), .ld (some 3) (.t 30), []⟩, ⟨some 32, some (21, true), .cw (.t 22) [(.t 26), (.t 31)], []⟩, ⟨some 33, some (21, true), .bo .lss (.t 32) (.c (.int .i64 0)), []⟩, ⟨some 34, none, .pk (.t 21) (.t 33) (.c (.bool false)), []⟩] [0, 1, 2, 3, 8, 9, 34]) (.cd (.t 34) .sk (.xt 2))) (.sq (.bl 3 (.rg (some [0, 1, 2, 3, 4, 5, 6, 7, 8, 9, 10, 11, 12, 13, 14, 15, 16, 17]) [⟨some 37, none, .mv (.t 0), []⟩, ⟨some 38, none, .mv (.t 9), []⟩, ⟨some 39, none, .mv (.t 0), []⟩, ⟨some 40, none, .mv (.t 9), []⟩, ⟨some 41, none, .bo .sub (.t 40) (.c (.int .i64 1)), []⟩, ⟨some 42, none, .mv (.t 0), []⟩, ⟨some 43, none, .mv (.t 9), []⟩, ⟨some 44, none, .bo .sub (.t 43) (.c (.int .i64 1)), []⟩, ⟨some 45, none, .ia 3 (.t 42) (.t 44), []⟩, ⟨some 46, none, .ld (some 3) (.t 45), []⟩, ⟨some 47, none, .mv (.t 0), []⟩, ⟨some 48, none, .mv (.t 9), []⟩, ⟨some 49, none, .ia 3 (.t 47) (.t 48), []⟩, ⟨some 50, none, .ld (some 3) (.t 49), []⟩, ⟨some 51, none, .ia 3 (.t 37) (.t 38), []⟩, ⟨none, none, .st 3 (.t 51) (.t 46), []⟩, ⟨some 52, none, .ia 3 (.t 39) (.t 41), []⟩, ⟨none, none, .st 3 (.t 52) (.t 50), []⟩] [0, 1, 2, 3, 8, 9])) (.rg none [⟨some 35, none, .mv (.t 9), []⟩, ⟨some 36, none, .bo .sub (.t 35) (.c (.int .i64 1)), []⟩, ⟨some 9, none, .mv (.t 36), []⟩] [0, 1, 2, 3, 8, 9])))
def k76_1 : C := (.rg none [⟨some 15, none, .mv (.t 8), []⟩, ⟨some 16, none, .bo .add (.t 15) (.c (.int .i64 1)), []⟩, ⟨some 8, none, .mv (.t 16), []⟩] [0, 1, 2, 3, 8])
def b76_2 : C := (.sq (.sq (.rg none [⟨some 12, none, .mv (.t 8), []⟩, ⟨some 13, none, .mv (.t 2), []⟩, ⟨some 14, none, .bo .lss (.t 12) (.t 13), []⟩] [0, 1, 2, 3, 8, 14]) (.cd (.t 14) .sk (.xt 0))) (.sq (.bl 1 (.sq (.rg none [⟨some 17, none, .mv (.t 8), []⟩, ⟨some 9, none, .mv (.t 17), []⟩] [0, 1, 2, 3, 8, 9]) (.bl 2 (.lp false b76_0)))) k76_1))
def c76 : FI.Fn := { body := (.sq (.rg none [⟨some 10, none, .mv (.t 1), []⟩, ⟨some 11, none, .bo .add (.t 10) (.c (.int .i64 1)), []⟩, ⟨some 8, none, .mv (.t 11), []⟩] [0, 1, 2, 3, 8]) (.bl 0 (.lp false b76_2))), np := 4, res := [], mode := .shr }
def b77_0 : C := (.sq (.sq (.rg none [⟨some 20, none, .mv (.t 11), []⟩, ⟨some 21, none, .bo .geq (.t 20) (.c (.int .i64 0)), []⟩] [0, 3, 8, 9, 10, 11, 21]) (.cd (.t 21) .sk (.xt 0))) (.sq (.bl 1 (.rg none [⟨some 24, none, .mv (.t 0), []⟩, ⟨some 25, none, .mv (.t 11), []⟩, ⟨some 26, none, .mv (.t 10), []⟩, ⟨some 27, none, .mv (.t 8), []⟩, ⟨some 28, none, .mv (.t 3), []⟩, ⟨some 29, none, .cl 105 [(.t 24), (.t 25), (.t 26), (.t 27), (.t 28)], []⟩] [0, 3, 8, 9, 10, 11])) (.rg none [⟨some 22, none, .mv (.t 11), []⟩, ⟨some 23, none, .bo .sub (.t 22) (.c (.int .i64 1)), []⟩, ⟨some 11, none, .mv (.t 23), []⟩] [0, 3, 8, 9, 10, 11])))
def b77_1 : C := (.sq (.sq (.rg none [⟨some 32, none, .mv (.t 12), []⟩, ⟨some 33, none, .bo .geq (.t 32) (.c (.int .i64 0)), []⟩] [0, 3, 8, 9, 12, 33]) (.cd (.t 33) .sk (.xt 2))) (.sq (.bl 3 (.sq (.rg (some [0, 1, 2, 3, 4, 5, 6, 7, 8, 9, 10, 11, 12, 13, 14, 15, 16, 17, 18, 19]) [⟨some 36, none, .mv (.t 0), []⟩, ⟨some 37, none, .mv (.t 8), []⟩, ⟨some 38, none, .mv (.t 0), []⟩, ⟨some 39, none, .mv (.t 8), []⟩, ⟨some 40, none, .mv (.t 12), []⟩, ⟨some 41, none, .bo .add (.t 39) (.t 40), []⟩, ⟨some 42, none, .mv (.t 0), []⟩, ⟨some 43, none, .mv (.t 8), []⟩, ⟨some 44, none, .mv (.t 12), []⟩, ⟨some 45, none, .bo .add (.t 43) (.t 44), []⟩, ⟨some 46, none, .ia 3 (.t 42) (.t 45), []⟩, ⟨some 47, none, .ld (some 3) (.t 46), []⟩, ⟨some 48, none, .mv (.t 0), []⟩, ⟨some 49, none, .mv (.t 8), []⟩, ⟨some 50, none, .ia 3 (.t 48) (.t 49), []⟩, ⟨some 51, none, .ld (some 3) (.t 50), []⟩, ⟨some 52, none, .ia 3 (.t 36) (.t 37), []⟩, ⟨none, none, .st 3 (.t 52) (.t 47), []⟩, ⟨some 53, none, .ia 3 (.t 38) (.t 41), []⟩, ⟨none, none, .st 3 (.t 53) (.t 51), []⟩] [0, 3, 8, 9, 12]) (.rg none [⟨some 54, none, .mv (.t 0), []⟩, ⟨some 55, none, .mv (.t 9), []⟩, ⟨some 56, none, .mv (.t 12), []⟩, ⟨some 57, none, .mv (.t 8), []⟩, ⟨some 58, none, .mv (.t 3), []⟩, ⟨some 59, none, .cl 105 [(.t 54), (.t 55), (.t 56), (.t 57), (.t 58)], []⟩] [0, 3, 8, 9, 12]))) (.rg none [⟨some 34, none, .mv (.t 12), []⟩, ⟨some 35, none, .bo .sub (.t 34) (.c (.int .i64 1)), []⟩, ⟨some 12, none, .mv (.t 35), []⟩] [0, 3, 8, 9, 12])))
def k77_2 : C := (.sq (.rg none [⟨some 30, none, .mv (.t 10), []⟩, ⟨some 31, none, .bo .sub (.t 30) (.c (.int .i64 1)), []⟩, ⟨some 12, none, .mv (.t 31), []⟩] [0, 3, 8, 9, 12]) (.bl 2 (.lp false b77_1)))
def c77 : FI.Fn := { body := (.sq (.rg none [⟨some 13, none, .mv (.t 1), []⟩, ⟨some 8, none, .mv (.t 13), []⟩] [0, 1, 2, 3, 8]) (.sq (.rg none [⟨some 9, none, .mv (.c (.int .i64 0)), []⟩] [0, 1, 2, 3, 8, 9]) (.sq (.rg none [⟨some 14, none, .mv (.t 2), []⟩, ⟨some 15, none, .mv (.t 1), []⟩, ⟨some 16, none, .bo .sub (.t 14) (.t 15), []⟩, ⟨some 10, none, .mv (.t 16), []⟩] [0, 3, 8, 9, 10]) (.sq (.sq (.rg none [⟨some 17, none, .mv (.t 10), []⟩, ⟨some 18, none, .bo .sub (.t 17) (.c (.int .i64 1)), []⟩, ⟨some 19, none, .bo .quo (.t 18) (.c (.int .i64 2)), []⟩, ⟨some 11, none, .mv (.t 19), []⟩] [0, 3, 8, 9, 10, 11]) (.bl 0 (.lp false b77_0))) k77_2)))), np := 4, res := [], mode := .shr }
def b78_0 : C := (.sq (.sq (.rg none [⟨some 28, none, .mv (.t 11), []⟩, ⟨some 29, none, .mv (.t 1), []⟩, ⟨some 30, none, .mv (.t 8), []⟩, ⟨some 31, none, .bo .quo (.t 30) (.c (.int .i64 4)), []⟩, ⟨some 32, none, .bo .mul (.t 31) (.c (.int .i64 2)), []⟩, ⟨some 33, none, .bo .add (.t 29) (.t 32), []⟩, ⟨some 34, none, .bo .add (.t 33) (.c (.int .i64 1)), []⟩, ⟨some 35, none, .bo .leq (.t 28) (.t 34), []⟩] [0, 1, 8, 9, 10, 11, 35]) (.cd (.t 35) .sk (.xt 0))) (.sq (.bl 1 (.sq (.rg none [⟨some 38, none, .cl 107 [(.t 9)], []⟩, ⟨some 39, none, .mv (.t 10), []⟩, ⟨some 40, none, .bo .sub (.t 39) (.c (.int .u64 1)), []⟩, ⟨some 41, none, .bo .and (.t 38) (.t 40), []⟩, ⟨some 42, none, .cv .i64 (.t 41), []⟩, ⟨some 12, none, .mv (.t 42), []⟩] [0, 1, 8, 9, 10, 11, 12]) (.sq (.sq (.rg none [⟨some 43, none, .mv (.t 12), []⟩, ⟨some 44, none, .mv (.t 8), []⟩, ⟨some 45, none, .bo .geq (.t 43) (.t 44), []⟩] [0, 1, 8, 9, 10, 11, 12, 45]) (.cd (.t 45) (.rg none [⟨some 46, none, .mv (.t 12), []⟩, ⟨some 47, none, .mv (.t 8), []⟩, ⟨some 48, none, .bo .sub (.t 46) (.t 47), []⟩, ⟨some 12, none, .mv (.t 48), []⟩] [0, 1, 8, 9, 10, 11, 12]) .sk)) (.rg (some [0, 1, 2, 3, 4, 5, 6, 7, 8, 9, 10, 11, 12, 13, 14, 15, 16, 17, 18, 19]) [⟨some 49, none, .mv (.t 0), []⟩, ⟨some 50, none, .mv (.t 11), []⟩, ⟨some 51, none, .mv (.t 0), []⟩, ⟨some 52, none, .mv (.t 1), []⟩, ⟨some 53, none, .mv (.t 12), []⟩, ⟨some 54, none, .bo .add (.t 52) (.t 53), []⟩, ⟨some 55, none, .mv (.t 0), []⟩, ⟨some 56, none, .mv (.t 1), []⟩, ⟨some 57, none, .mv (.t 12), []⟩, ⟨some 58, none, .bo .add (.t 56) (.t 57), []⟩, ⟨some 59, none, .ia 3 (.t 55) (.t 58), []⟩, ⟨some 60, none, .ld (some 3) (.t 59), []⟩, ⟨some 61, none, .mv (.t 0), []⟩, ⟨some 62, none, .mv (.t 11), []⟩, ⟨some 63, none, .ia 3 (.t 61) (.t 62), []⟩, ⟨some 64, none, .ld (some 3) (.t 63), []⟩, ⟨some 65, none, .ia 3 (.t 49) (.t 50), []⟩, ⟨none, none, .st 3 (.t 65) (.t 60), []⟩, ⟨some 66, none, .ia 3 (.t 51) (.t 54), []⟩, ⟨none, none, .st 3 (.t 66) (.t 64), []⟩] [0, 1, 8, 9, 10, 11])))) (.rg none [⟨some 36, none, .mv (.t 11), []⟩, ⟨some 37, none, .bo .add (.t 36) (.c (.int .i64 1)), []⟩, ⟨some 11, none, .mv (.t 37), []⟩] [0, 1, 8, 9, 10, 11])))
def c78 : FI.Fn := { body := (.sq (.rg none [⟨some 13, none, .mv (.t 2), []⟩, ⟨some 14, none, .mv (.t 1), []⟩, ⟨some 15, none, .bo .sub (.t 13) (.t 14), []⟩, ⟨some 8, none, .mv (.t 15), []⟩] [0, 1, 8]) (.sq (.rg none [⟨some 16, none, .mv (.t 8), []⟩, ⟨some 17, none, .bo .geq (.t 16) (.c (.int .i64 8)), []⟩] [0, 1, 8, 17]) (.cd (.t 17) (.sq (.rg none [⟨some 18, none, .mv (.t 8), []⟩, ⟨some 19, none, .cv .u64 (.t 18), []⟩, ⟨some 9, none, .al 1 (.int .u64 0), []⟩, ⟨none, none, .st 1 (.t 9) (.t 19), []⟩] [0, 1, 8, 9]) (.sq (.rg none [⟨some 20, none, .mv (.t 8), []⟩, ⟨some 21, none, .cl 106 [(.t 20)], []⟩, ⟨some 10, none, .mv (.t 21), []⟩] [0, 1, 8, 9, 10]) (.sq (.rg none [⟨some 22, none, .mv (.t 1), []⟩, ⟨some 23, none, .mv (.t 8), []⟩, ⟨some 24, none, .bo .quo (.t 23) (.c (.int .i64 4)), []⟩, ⟨some 25, none, .bo .mul (.t 24) (.c (.int .i64 2)), []⟩, ⟨some 26, none, .bo .add (.t 22) (.t 25), []⟩, ⟨some 27, none, .bo .sub (.t 26) (.c (.int .i64 1)), []⟩, ⟨some 11, none, .mv (.t 27), []⟩] [0, 1, 8, 9, 10, 11]) (.bl 0 (.lp false b78_0))))) .sk))), np := 4, res := [], mode := .shr }
def c79 : FI.Fn := { body := (.sq (.rg none [⟨some 8, none, .mv (.c (.int .i64 0)), []⟩, ⟨some 9, none, .mv (.c (.int .i64 0)), []⟩] [0, 1, 2, 3]) (.sq (.rg none [⟨some 15, none, .mv (.t 2), []⟩, ⟨some 16, none, .mv (.t 1), []⟩, ⟨some 17, none, .bo .sub (.t 15) (.t 16), []⟩, ⟨some 10, none, .mv (.t 17), []⟩] [0, 1, 3, 10]) (.sq (.rg none [⟨some 11, none, .al 1 (.int .i64 0), []⟩] [0, 1, 3, 10, 11]) (.sq (.rg none [⟨some 18, none, .mv (.t 1), []⟩, ⟨some 19, none, .mv (.t 10), []⟩, ⟨some 20, none, .bo .quo (.t 19) (.c (.int .i64 4)), []⟩, ⟨some 21, none, .bo .mul (.t 20) (.c (.int .i64 1)), []⟩, ⟨some 22, none, .bo .add (.t 18) (.t 21), []⟩, ⟨some 12, none, .mv (.t 22), []⟩] [0, 1, 3, 10, 11, 12]) (.sq (.rg none [⟨some 23, none, .mv (.t 1), []⟩, ⟨some 24, none, .mv (.t 10), []⟩, ⟨some 25, none, .bo .quo (.t 24) (.c (.int .i64 4)), []⟩, ⟨some 26, none, .bo .mul (.t 25) (.c (.int .i64 2)), []⟩, ⟨some 27, none, .bo .add (.t 23) (.t 26), []⟩, ⟨some 13, none, .mv (.t 27), []⟩] [0, 1, 3, 10, 11, 12, 13]) (.sq (.rg none [⟨some 28, none, .mv (.t 1), []⟩, ⟨some 29, none, .mv (.t 10), []⟩, ⟨some 30, none, .bo .quo (.t 29) (.c (.int .i64 4)), []⟩, ⟨some 31, none, .bo .mul (.t 30) (.c (.int .i64 3)), []⟩, ⟨some 32, none, .bo .add (.t 28) (.t 31), []⟩, ⟨some 14, none, .mv (.t 32), []⟩] [0, 3, 10, 11, 12, 13, 14]) (.sq (.sq (.rg none [⟨some 33, none, .mv (.t 10), []⟩, ⟨some 34, none, .bo .geq (.t 33) (.c (.int .i64 8)), []⟩] [0, 3, 10, 11, 12, 13, 14, 34]) (.cd (.t 34) (.sq (.sq (.rg none [⟨some 35, none, .mv (.t 10), []⟩, ⟨some 36, none, .bo .geq (.t 35) (.c (.int .i64 50)), []⟩] [0, 3, 11, 12, 13, 14, 36]) (.cd (.t 36) (.sq (.rg none [⟨some 37, none, .mv (.t 0), []⟩, ⟨some 38, none, .mv (.t 12), []⟩, ⟨some 39, none, .mv (.t 3), []⟩, ⟨some 40, none, .cl 108 [(.t 37), (.t 38), (.t 11), (.t 39)], []⟩, ⟨some 12, none, .mv (.t 40), []⟩] [0, 3, 11, 12, 13, 14]) (.sq (.rg none [⟨some 41, none, .mv (.t 0), []⟩, ⟨some 42, none, .mv (.t 13), []⟩, ⟨some 43, none, .mv (.t 3), []⟩, ⟨some 44, none, .cl 108 [(.t 41), (.t 42), (.t 11), (.t 43)], []⟩, ⟨some 13, none, .mv (.t 44), []⟩] [0, 3, 11, 12, 13, 14]) (.rg none [⟨some 45, none, .mv (.t 0), []⟩, ⟨some 46, none, .mv (.t 14), []⟩, ⟨some 47, none, .mv (.t 3), []⟩, ⟨some 48, none, .cl 108 [(.t 45), (.t 46), (.t 11), (.t 47)], []⟩, ⟨some 14, none, .mv (.t 48), []⟩] [0, 3, 11, 12, 13, 14]))) .sk)) (.rg none [⟨some 49, none, .mv (.t 0), []⟩, ⟨some 50, none, .mv (.t 12), []⟩, ⟨some 51, none, .mv (.t 13), []⟩, ⟨some 52, none, .mv (.t 14), []⟩, ⟨some 53, none, .mv (.t 3), []⟩, ⟨some 54, none, .cl 109 [(.t 49), (.t 50), (.t 51), (.t 52), (.t 11), (.t 53)], []⟩, ⟨some 13, none, .mv (.t 54), []⟩] [11, 13])) .sk)) (.sq (.rg none [⟨some 55, none, .ld none (.t 11), []⟩] [13, 55]) (.bl 0 (.sq (.rg none [⟨some 58, none, .bo .eql (.t 55) (.c (.int .i64 0)), []⟩, ⟨some 57, none, .mv (.t 58), []⟩] [13, 55, 57]) (.cd (.t 57) (.sq (.rg none [⟨some 59, none, .mv (.t 13), []⟩, ⟨some 8, none, .mv (.t 59), []⟩, ⟨some 9, none, .mv (.c (.int .i64 1)), []⟩] [8, 9]) .rt) (.sq (.rg none [⟨some 61, none, .bo .eql (.t 55) (.c (.int .i64 12)), []⟩, ⟨some 60, none, .mv (.t 61), []⟩] [13, 60]) (.cd (.t 60) (.sq (.rg none [⟨some 62, none, .mv (.t 13), []⟩, ⟨some 8, none, .mv (.t 62), []⟩, ⟨some 9, none, .mv (.c (.int .i64 2)), []⟩] [8, 9]) .rt) (.sq (.rg none [⟨some 56, none, .mv (.t 13), []⟩, ⟨some 8, none, .mv (.t 56), []⟩, ⟨some 9, none, .mv (.c (.int .i64 0)), []⟩] [8, 9]) .rt)))))))))))))), np := 4, res := [.t 8, .t 9], mode := .shr }
def b80_0 : C := (.sq (.sq (.rg none [⟨some 13, none, .mv (.t 8), []⟩, ⟨some 14, none, .mv (.t 9), []⟩, ⟨some 15, none, .bo .lss (.t 13) (.t 14), []⟩] [0, 8, 9, 15]) (.cd (.t 15) .sk (.xt 0))) (.bl 1 (.sq (.rg (some [0, 1, 2, 3, 4, 5, 6, 7, 8, 9, 10, 11, 12, 13, 14, 15]) [⟨some 16, none, .mv (.t 0), []⟩, ⟨some 17, none, .mv (.t 8), []⟩, ⟨some 18, none, .mv (.t 0), []⟩, ⟨some 19, none, .mv (.t 9), []⟩, ⟨some 20, none, .mv (.t 0), []⟩, ⟨some 21, none, .mv (.t 9), []⟩, ⟨some 22, none, .ia 3 (.t 20) (.t 21), []⟩, ⟨some 23, none, .ld (some 3) (.t 22), []⟩, ⟨some 24, none, .mv (.t 0), []⟩, ⟨some 25, none, .mv (.t 8), []⟩, ⟨some 26, none, .ia 3 (.t 24) (.t 25), []⟩, ⟨some 27, none, .ld (some 3) (.t 26), []⟩, ⟨some 28, none, .ia 3 (.t 16) (.t 17), []⟩, ⟨none, none, .st 3 (.t 28) (.t 23), []⟩, ⟨some 29, none, .ia 3 (.t 18) (.t 19), []⟩, ⟨none, none, .st 3 (.t 29) (.t 27), []⟩] [0, 8, 9]) (.sq (.rg none [⟨some 30, none, .mv (.t 8), []⟩, ⟨some 31, none, .bo .add (.t 30) (.c (.int .i64 1)), []⟩, ⟨some 8, none, .mv (.t 31), []⟩] [0, 8, 9]) (.rg none [⟨some 32, none, .mv (.t 9), []⟩, ⟨some 33, none, .bo .sub (.t 32) (.c (.int .i64 1)), []⟩, ⟨some 9, none, .mv (.t 33), []⟩] [0, 8, 9])))))
def c80 : FI.Fn := { body := (.sq (.rg none [⟨some 10, none, .mv (.t 1), []⟩, ⟨some 8, none, .mv (.t 10), []⟩] [0, 2, 8]) (.sq (.rg none [⟨some 11, none, .mv (.t 2), []⟩, ⟨some 12, none, .bo .sub (.t 11) (.c (.int .i64 1)), []⟩, ⟨some 9, none, .mv (.t 12), []⟩] [0, 8, 9]) (.bl 0 (.lp false b80_0)))), np := 4, res := [], mode := .shr }
def b81_0 : C := (.sq (.sq (.rg (some [0, 1, 2, 3, 4, 5, 6, 7, 8, 9, 10, 11, 12, 13, 14, 15, 16, 17]) [⟨some 19, none, .mv (.t 9), []⟩, ⟨some 20, none, .mv (.t 2), []⟩, ⟨some 21, none, .bo .lss (.t 19) (.t 20), []⟩, ⟨some 22, none, .mv (.t 21), []⟩, ⟨some 23, some (22, true), .mv (.t 3), []⟩, ⟨some 24, some (22, true), .mv (.t 0), []⟩, ⟨some 25, some (22, true), .mv (.t 9), []⟩, ⟨some 26, some (22, true), .ia 3 (.t 24) (.t 25), []⟩, ⟨some 27, some (22, true), .ld (some 3) (.t 26), []⟩, ⟨some 28, some (22, true), .mv (.t 0), []⟩, ⟨some 29, some (22, true), .mv (.t 9), []⟩, ⟨some 30, some (22, true), .bo .sub (.t 29) (.c (.int .i64 1)), []⟩, ⟨some 31, some (22, true), .ia 3 (.t 28) (.t 30), []⟩, ⟨some 32, some (22, true), .ld (some 3) (.t 31), []⟩, ⟨some 33, some (22, true), .cw (.t 23) [(.t 27), (.t 32)], []⟩, ⟨some 34, some (22, true), .bo .lss (.t 33) (.c (.int .i64 0)), []⟩, ⟨some 35, some (22, true), .un .not (.t 34), []⟩, ⟨some 36, none, .pk (.t 22) (.t 35) (.c (.bool false)), []⟩] [0, 1, 2, 3, 9, 10, 36]) (.cd (.t 36) .sk (.xt 2))) (.bl 3 (.rg none [⟨some 37, none, .mv (.t 9), []⟩, ⟨some 38, none, .bo .add (.t 37) (.c (.int .i64 1)), []⟩, ⟨some 9, none, .mv (.t 38), []⟩] [0, 1, 2, 3, 9, 10])))
def b81_1 : C := (.sq (.sq (.rg none [⟨some 68, none, .mv (.t 11), []⟩, ⟨some 69, none, .bo .geq (.t 68) (.c (.int .i64 1)), []⟩] [0, 1, 2, 3, 9, 10, 11, 69]) (.cd (.t 69) .sk (.xt 4))) (.sq (.bl 5 (.sq (.sq (.rg (some [0, 1, 2, 3, 4, 5, 6, 7, 8, 9, 10, 11, 12]) [⟨some 72, none, .mv (.t 3), []⟩, ⟨some 73, none, .mv (.t 0), []⟩, ⟨some 74, none, .mv (.t 11), []⟩, ⟨some 75, none, .ia 3 (.t 73) (.t 74), []⟩, ⟨some 76, none, .ld (some 3) (.t 75), []⟩, ⟨some 77, none, .mv (.t 0), []⟩, ⟨some 78, none, .mv (.t 11), []⟩, ⟨some 79, none, .bo .sub (.t 78) (.c (.int .i64 1)), []⟩, ⟨some 80, none, .ia 3 (.t 77) (.t 79), []⟩, ⟨some 81, none, .ld (some 3) (.t 80), []⟩, ⟨some 82, none, .cw (.t 72) [(.t 76), (.t 81)], []⟩, ⟨some 83, none, .bo .lss (.t 82) (.c (.int .i64 0)), []⟩, ⟨some 84, none, .un .not (.t 83), []⟩] [0, 1, 2, 3, 9, 10, 11, 84]) (.cd (.t 84) (.xt 4) .sk)) (.rg (some [0, 1, 2, 3, 4, 5, 6, 7, 8, 9, 10, 11, 12, 13, 14, 15, 16, 17]) [⟨some 85, none, .mv (.t 0), []⟩, ⟨some 86, none, .mv (.t 11), []⟩, ⟨some 87, none, .mv (.t 0), []⟩, ⟨some 88, none, .mv (.t 11), []⟩, ⟨some 89, none, .bo .sub (.t 88) (.c (.int .i64 1)), []⟩, ⟨some 90, none, .mv (.t 0), []⟩, ⟨some 91, none, .mv (.t 11), []⟩, ⟨some 92, none, .bo .sub (.t 91) (.c (.int .i64 1)), []⟩, ⟨some 93, none, .ia 3 (.t 90) (.t 92), []⟩, ⟨some 94, none, .ld (some 3) (.t 93), []⟩, ⟨some 95, none, .mv (.t 0), []⟩, ⟨some 96, none, .mv (.t 11), []⟩, ⟨some 97, none, .ia 3 (.t 95) (.t 96), []⟩, ⟨some 98, none, .ld (some 3) (.t 97), []⟩, ⟨some 99, none, .ia 3 (.t 85) (.t 86), []⟩, ⟨none, none, .st 3 (.t 99) (.t 94), []⟩, ⟨some 100, none, .ia 3 (.t 87) (.t 89), []⟩, ⟨none, none, .st 3 (.t 100) (.t 98), []⟩] [0, 1, 2, 3, 9, 10, 11]))) (.rg none [⟨some 70, none, .mv (.t 11), []⟩, ⟨some 71, none, .bo .sub (.t 70) (.c (.int .i64 1)), []⟩, ⟨some 11, none, .mv (.t 71), []⟩] [0, 1, 2, 3, 9, 10, 11])))
def b81_2 : C := (.sq (.sq (.rg none [⟨some 107, none, .mv (.t 12), []⟩, ⟨some 108, none, .mv (.t 2), []⟩, ⟨some 109, none, .bo .lss (.t 107) (.t 108), []⟩] [0, 1, 2, 3, 9, 10, 12, 109]) (.cd (.t 109) .sk (.xt 6))) (.sq (.bl 7 (.sq (.sq (.rg (some [0, 1, 2, 3, 4, 5, 6, 7, 8, 9, 10, 11, 12]) [⟨some 112, none, .mv (.t 3), []⟩, ⟨some 113, none, .mv (.t 0), []⟩, ⟨some 114, none, .mv (.t 12), []⟩, ⟨some 115, none, .ia 3 (.t 113) (.t 114), []⟩, ⟨some 116, none, .ld (some 3) (.t 115), []⟩, ⟨some 117, none, .mv (.t 0), []⟩, ⟨some 118, none, .mv (.t 12), []⟩, ⟨some 119, none, .bo .sub (.t 118) (.c (.int .i64 1)), []⟩, ⟨some 120, none, .ia 3 (.t 117) (.t 119), []⟩, ⟨some 121, none, .ld (some 3) (.t 120), []⟩, ⟨some 122, none, .cw (.t 112) [(.t 116), (.t 121)], []⟩, ⟨some 123, none, .bo .lss (.t 122) (.c (.int .i64 0)), []⟩, ⟨some 124, none, .un .not (.t 123), []⟩] [0, 1, 2, 3, 9, 10, 12, 124]) (.cd (.t 124) (.xt 6) .sk)) (.rg (some [0, 1, 2, 3, 4, 5, 6, 7, 8, 9, 10, 11, 12, 13, 14, 15, 16, 17]) [⟨some 125, none, .mv (.t 0), []⟩, ⟨some 126, none, .mv (.t 12), []⟩, ⟨some 127, none, .mv (.t 0), []⟩, ⟨some 128, none, .mv (.t 12), []⟩, ⟨some 129, none, .bo .sub (.t 128) (.c (.int .i64 1)), []⟩, ⟨some 130, none, .mv (.t 0), []⟩, ⟨some 131, none, .mv (.t 12), []⟩, ⟨some 132, none, .bo .sub (.t 131) (.c (.int .i64 1)), []⟩, ⟨some 133, none, .ia 3 (.t 130) (.t 132), []⟩, ⟨some 134, none, .ld (some 3) (.t 133), []⟩, ⟨some 135, none, .mv (.t 0), []⟩, ⟨some 136, none, .mv (.t 12), []⟩, ⟨some 137, none, .ia 3 (.t 135) (.t 136), []⟩, ⟨some 138, none, .ld (some 3) (.t 137), []⟩, ⟨some 139, none, .ia 3 (.t 125) (.t 126), []⟩, ⟨none, none, .st 3 (.t 139) (.t 134), []⟩, ⟨some 140, none, .ia 3 (.t 127) (.t 129), []⟩, ⟨none, none, .st 3 (.t 140) (.t 138), []⟩] [0, 1, 2, 3, 9, 10, 12]))) (.rg none [⟨some 110, none, .mv (.t 12), []⟩, ⟨some 111, none, .bo .add (.t 110) (.c (.int .i64 1)), []⟩, ⟨some 12, none, .mv (.t 111), []⟩] [0, 1, 2, 3, 9, 10, 12])))
def k81_3 : C := (.sq (.rg none [⟨some 101, none, .mv (.t 2), []⟩, ⟨some 102, none, .mv (.t 9), []⟩, ⟨some 103, none, .bo .sub (.t 101) (.t 102), []⟩, ⟨some 104, none, .bo .geq (.t 103) (.c (.int .i64 2)), []⟩] [0, 1, 2, 3, 9, 10, 104]) (.cd (.t 104) (.sq (.rg none [⟨some 105, none, .mv (.t 9), []⟩, ⟨some 106, none, .bo .add (.t 105) (.c (.int .i64 1)), []⟩, ⟨some 12, none, .mv (.t 106), []⟩] [0, 1, 2, 3, 9, 10, 12]) (.bl 6 (.lp false b81_2))) .sk))
def k81_4 : C := (.sq (.sq (.rg none [⟨some 39, none, .mv (.t 9), []⟩, ⟨some 40, none, .mv (.t 2), []⟩, ⟨some 41, none, .bo .eql (.t 39) (.t 40), []⟩] [0, 1, 2, 3, 9, 10, 41]) (.cd (.t 41) (.sq (.rg none [⟨some 8, none, .mv (.c (.bool true)), []⟩] [8]) .rt) .sk)) (.sq (.sq (.rg none [⟨some 42, none, .mv (.t 2), []⟩, ⟨some 43, none, .mv (.t 1), []⟩, ⟨some 44, none, .bo .sub (.t 42) (.t 43), []⟩, ⟨some 45, none, .bo .lss (.t 44) (.c (.int .i64 50)), []⟩] [0, 1, 2, 3, 9, 10, 45]) (.cd (.t 45) (.sq (.rg none [⟨some 8, none, .mv (.c (.bool false)), []⟩] [8]) .rt) .sk)) (.sq (.rg (some [0, 1, 2, 3, 4, 5, 6, 7, 8, 9, 10, 11, 12, 13, 14, 15, 16, 17]) [⟨some 46, none, .mv (.t 0), []⟩, ⟨some 47, none, .mv (.t 9), []⟩, ⟨some 48, none, .mv (.t 0), []⟩, ⟨some 49, none, .mv (.t 9), []⟩, ⟨some 50, none, .bo .sub (.t 49) (.c (.int .i64 1)), []⟩, ⟨some 51, none, .mv (.t 0), []⟩, ⟨some 52, none, .mv (.t 9), []⟩, ⟨some 53, none, .bo .sub (.t 52) (.c (.int .i64 1)), []⟩, ⟨some 54, none, .ia 3 (.t 51) (.t 53), []⟩, ⟨some 55, none, .ld (some 3) (.t 54), []⟩, ⟨some 56, none, .mv (.t 0), []⟩, ⟨some 57, none, .mv (.t 9), []⟩, ⟨some 58, none, .ia 3 (.t 56) (.t 57), []⟩, ⟨some 59, none, .ld (some 3) (.t 58), []⟩, ⟨some 60, none, .ia 3 (.t 46) (.t 47), []⟩, ⟨none, none, .st 3 (.t 60) (.t 55), []⟩, ⟨some 61, none, .ia 3 (.t 48) (.t 50), []⟩, ⟨none, none, .st 3 (.t 61) (.t 59), []⟩] [0, 1, 2, 3, 9, 10]) (.sq (.sq (.rg none [⟨some 62, none, .mv (.t 9), []⟩, ⟨some 63, none, .mv (.t 1), []⟩, ⟨some 64, none, .bo .sub (.t 62) (.t 63), []⟩, ⟨some 65, none, .bo .geq (.t 64) (.c (.int .i64 2)), []⟩] [0, 1, 2, 3, 9, 10, 65]) (.cd (.t 65) (.sq (.rg none [⟨some 66, none, .mv (.t 9), []⟩, ⟨some 67, none, .bo .sub (.t 66) (.c (.int .i64 1)), []⟩, ⟨some 11, none, .mv (.t 67), []⟩] [0, 1, 2, 3, 9, 10, 11]) (.bl 4 (.lp false b81_1))) .sk)) k81_3))))
def k81_5 : C := (.rg none [⟨some 17, none, .mv (.t 10), []⟩, ⟨some 18, none, .bo .add (.t 17) (.c (.int .i64 1)), []⟩, ⟨some 10, none, .mv (.t 18), []⟩] [0, 1, 2, 3, 9, 10])
def b81_6 : C := (.sq (.sq (.rg none [⟨some 15, none, .mv (.t 10), []⟩, ⟨some 16, none, .bo .lss (.t 15) (.c (.int .i64 5)), []⟩] [0, 1, 2, 3, 9, 10, 16]) (.cd (.t 16) .sk (.xt 0))) (.sq (.bl 1 (.sq (.bl 2 (.lp false b81_0)) k81_4)) k81_5))
def k81_7 : C := (.sq (.rg none [⟨some 8, none, .mv (.c (.bool false)), []⟩] [8]) .rt)
def c81 : FI.Fn := { body := (.sq (.rg none [⟨some 8, none, .mv (.c (.bool false)), []⟩] [0, 1, 2, 3]) (.sq (.rg none [⟨some 13, none, .mv (.t 1), []⟩, ⟨some 14, none, .bo .add (.t 13) (.c (.int .i64 1)), []⟩, ⟨some 9, none, .mv (.t 14), []⟩] [0, 1, 2, 3, 9]) (.sq (.sq (.rg none [⟨some 10, none, .mv (.c (.int .i64 0)), []⟩] [0, 1, 2, 3, 9, 10]) (.bl 0 (.lp false b81_6))) k81_7))), np := 4, res := [.t 8], mode := .shr }
def b82_0 : C := (.sq (.sq (.rg (some [0, 1, 2, 3, 4, 5, 6, 7, 8, 9, 10, 11, 12, 13, 14, 15, 16]) [⟨some 31, none, .mv (.t 11), []⟩, ⟨some 32, none, .mv (.t 12), []⟩, ⟨some 33, none, .bo .leq (.t 31) (.t 32), []⟩, ⟨some 34, none, .mv (.t 33), []⟩, ⟨some 35, some (34, true), .mv (.t 4), []⟩, ⟨some 36, some (34, true), .mv (.t 0), []⟩, ⟨some 37, some (34, true), .mv (.t 1), []⟩, ⟨some 38, some (34, true), .ia 3 (.t 36) (.t 37), []⟩, ⟨some 39, some (34, true), .ld (some 3) (.t 38), []⟩, ⟨some 40, some (34, true), .mv (.t 0), []⟩, ⟨some 41, some (34, true), .mv (.t 11), []⟩, ⟨some 42, some (34, true), .ia 3 (.t 40) (.t 41), []⟩, ⟨some 43, some (34, true), .ld (some 3) (.t 42), []⟩, ⟨some 44, some (34, true), .cw (.t 35) [(.t 39), (.t 43)], []⟩, ⟨some 45, some (34, true), .bo .lss (.t 44) (.c (.int .i64 0)), []⟩, ⟨some 46, some (34, true), .un .not (.t 45), []⟩, ⟨some 47, none, .pk (.t 34) (.t 46) (.c (.bool false)), []⟩] [0, 1, 4, 11, 12, 47]) (.cd (.t 47) .sk (.xt 2))) (.bl 3 (.rg none [⟨some 48, none, .mv (.t 11), []⟩, ⟨some 49, none, .bo .add (.t 48) (.c (.int .i64 1)), []⟩, ⟨some 11, none, .mv (.t 49), []⟩] [0, 1, 4, 11, 12])))
def b82_1 : C := (.sq (.sq (.rg (some [0, 1, 2, 3, 4, 5, 6, 7, 8, 9, 10, 11, 12, 13, 14, 15]) [⟨some 50, none, .mv (.t 11), []⟩, ⟨some 51, none, .mv (.t 12), []⟩, ⟨some 52, none, .bo .leq (.t 50) (.t 51), []⟩, ⟨some 53, none, .mv (.t 52), []⟩, ⟨some 54, some (53, true), .mv (.t 4), []⟩, ⟨some 55, some (53, true), .mv (.t 0), []⟩, ⟨some 56, some (53, true), .mv (.t 1), []⟩, ⟨some 57, some (53, true), .ia 3 (.t 55) (.t 56), []⟩, ⟨some 58, some (53, true), .ld (some 3) (.t 57), []⟩, ⟨some 59, some (53, true), .mv (.t 0), []⟩, ⟨some 60, some (53, true), .mv (.t 12), []⟩, ⟨some 61, some (53, true), .ia 3 (.t 59) (.t 60), []⟩, ⟨some 62, some (53, true), .ld (some 3) (.t 61), []⟩, ⟨some 63, some (53, true), .cw (.t 54) [(.t 58), (.t 62)], []⟩, ⟨some 64, some (53, true), .bo .lss (.t 63) (.c (.int .i64 0)), []⟩, ⟨some 65, none, .pk (.t 53) (.t 64) (.c (.bool false)), []⟩] [0, 1, 4, 11, 12, 65]) (.cd (.t 65) .sk (.xt 4))) (.bl 5 (.rg none [⟨some 66, none, .mv (.t 12), []⟩, ⟨some 67, none, .bo .sub (.t 66) (.c (.int .i64 1)), []⟩, ⟨some 12, none, .mv (.t 67), []⟩] [0, 1, 4, 11, 12])))
def k82_2 : C := (.sq (.sq (.rg none [⟨some 68, none, .mv (.t 11), []⟩, ⟨some 69, none, .mv (.t 12), []⟩, ⟨some 70, none, .bo .gtr (.t 68) (.t 69), []⟩] [0, 1, 4, 11, 12, 70]) (.cd (.t 70) (.xt 0) .sk)) (.sq (.rg (some [0, 1, 2, 3, 4, 5, 6, 7, 8, 9, 10, 11, 12, 13, 14, 15]) [⟨some 71, none, .mv (.t 0), []⟩, ⟨some 72, none, .mv (.t 11), []⟩, ⟨some 73, none, .mv (.t 0), []⟩, ⟨some 74, none, .mv (.t 12), []⟩, ⟨some 75, none, .mv (.t 0), []⟩, ⟨some 76, none, .mv (.t 12), []⟩, ⟨some 77, none, .ia 3 (.t 75) (.t 76), []⟩, ⟨some 78, none, .ld (some 3) (.t 77), []⟩, ⟨some 79, none, .mv (.t 0), []⟩, ⟨some 80, none, .mv (.t 11), []⟩, ⟨some 81, none, .ia 3 (.t 79) (.t 80), []⟩, ⟨some 82, none, .ld (some 3) (.t 81), []⟩, ⟨some 83, none, .ia 3 (.t 71) (.t 72), []⟩, ⟨none, none, .st 3 (.t 83) (.t 78), []⟩, ⟨some 84, none, .ia 3 (.t 73) (.t 74), []⟩, ⟨none, none, .st 3 (.t 84) (.t 82), []⟩] [0, 1, 4, 11, 12]) (.sq (.rg none [⟨some 85, none, .mv (.t 11), []⟩, ⟨some 86, none, .bo .add (.t 85) (.c (.int .i64 1)), []⟩, ⟨some 11, none, .mv (.t 86), []⟩] [0, 1, 4, 11, 12]) (.rg none [⟨some 87, none, .mv (.t 12), []⟩, ⟨some 88, none, .bo .sub (.t 87) (.c (.int .i64 1)), []⟩, ⟨some 12, none, .mv (.t 88), []⟩] [0, 1, 4, 11, 12]))))
def k82_3 : C := (.sq (.bl 4 (.lp false b82_1)) k82_2)
def b82_4 : C := (.bl 1 (.sq (.bl 2 (.lp false b82_0)) k82_3))
def k82_5 : C := (.sq (.rg none [⟨some 89, none, .mv (.t 11), []⟩, ⟨some 10, none, .mv (.t 89), []⟩] [10]) .rt)
def c82 : FI.Fn := { body := (.sq (.rg none [⟨some 10, none, .mv (.c (.int .i64 0)), []⟩] [0, 1, 2, 3, 4]) (.sq (.rg (some [0, 1, 2, 3, 4, 5, 6, 7, 8, 9, 10, 11, 12, 13, 14, 15]) [⟨some 13, none, .mv (.t 0), []⟩, ⟨some 14, none, .mv (.t 1), []⟩, ⟨some 15, none, .mv (.t 0), []⟩, ⟨some 16, none, .mv (.t 3), []⟩, ⟨some 17, none, .mv (.t 0), []⟩, ⟨some 18, none, .mv (.t 3), []⟩, ⟨some 19, none, .ia 3 (.t 17) (.t 18), []⟩, ⟨some 20, none, .ld (some 3) (.t 19), []⟩, ⟨some 21, none, .mv (.t 0), []⟩, ⟨some 22, none, .mv (.t 1), []⟩, ⟨some 23, none, .ia 3 (.t 21) (.t 22), []⟩, ⟨some 24, none, .ld (some 3) (.t 23), []⟩, ⟨some 25, none, .ia 3 (.t 13) (.t 14), []⟩, ⟨none, none, .st 3 (.t 25) (.t 20), []⟩, ⟨some 26, none, .ia 3 (.t 15) (.t 16), []⟩, ⟨none, none, .st 3 (.t 26) (.t 24), []⟩] [0, 1, 2, 4]) (.sq (.rg none [⟨some 27, none, .mv (.t 1), []⟩, ⟨some 28, none, .bo .add (.t 27) (.c (.int .i64 1)), []⟩, ⟨some 29, none, .mv (.t 2), []⟩, ⟨some 30, none, .bo .sub (.t 29) (.c (.int .i64 1)), []⟩, ⟨some 11, none, .mv (.t 28), []⟩, ⟨some 12, none, .mv (.t 30), []⟩] [0, 1, 4, 11, 12]) (.sq (.bl 0 (.lp false b82_4)) k82_5)))), np := 5, res := [.t 10], mode := .shr }
def b83_0 : C := (.sq (.sq (.rg (some [0, 1, 2, 3, 4, 5, 6, 7, 8, 9, 10, 11, 12, 13, 14, 15]) [⟨some 32, none, .mv (.t 12), []⟩, ⟨some 33, none, .mv (.t 13), []⟩, ⟨some 34, none, .bo .leq (.t 32) (.t 33), []⟩, ⟨some 35, none, .mv (.t 34), []⟩, ⟨some 36, some (35, true), .mv (.t 4), []⟩, ⟨some 37, some (35, true), .mv (.t 0), []⟩, ⟨some 38, some (35, true), .mv (.t 12), []⟩, ⟨some 39, some (35, true), .ia 3 (.t 37) (.t 38), []⟩, ⟨some 40, some (35, true), .ld (some 3) (.t 39), []⟩, ⟨some 41, some (35, true), .mv (.t 0), []⟩, ⟨some 42, some (35, true), .mv (.t 1), []⟩, ⟨some 43, some (35, true), .ia 3 (.t 41) (.t 42), []⟩, ⟨some 44, some (35, true), .ld (some 3) (.t 43), []⟩, ⟨some 45, some (35, true), .cw (.t 36) [(.t 40), (.t 44)], []⟩, ⟨some 46, some (35, true), .bo .lss (.t 45) (.c (.int .i64 0)), []⟩, ⟨some 47, none, .pk (.t 35) (.t 46) (.c (.bool false)), []⟩] [0, 1, 4, 12, 13, 47]) (.cd (.t 47) .sk (.xt 0))) (.bl 1 (.rg none [⟨some 48, none, .mv (.t 12), []⟩, ⟨some 49, none, .bo .add (.t 48) (.c (.int .i64 1)), []⟩, ⟨some 12, none, .mv (.t 49), []⟩] [0, 1, 4, 12, 13])))
def b83_1 : C := (.sq (.sq (.rg (some [0, 1, 2, 3, 4, 5, 6, 7, 8, 9, 10, 11, 12, 13, 14, 15, 16]) [⟨some 50, none, .mv (.t 12), []⟩, ⟨some 51, none, .mv (.t 13), []⟩, ⟨some 52, none, .bo .leq (.t 50) (.t 51), []⟩, ⟨some 53, none, .mv (.t 52), []⟩, ⟨some 54, some (53, true), .mv (.t 4), []⟩, ⟨some 55, some (53, true), .mv (.t 0), []⟩, ⟨some 56, some (53, true), .mv (.t 13), []⟩, ⟨some 57, some (53, true), .ia 3 (.t 55) (.t 56), []⟩, ⟨some 58, some (53, true), .ld (some 3) (.t 57), []⟩, ⟨some 59, some (53, true), .mv (.t 0), []⟩, ⟨some 60, some (53, true), .mv (.t 1), []⟩, ⟨some 61, some (53, true), .ia 3 (.t 59) (.t 60), []⟩, ⟨some 62, some (53, true), .ld (some 3) (.t 61), []⟩, ⟨some 63, some (53, true), .cw (.t 54) [(.t 58), (.t 62)], []⟩, ⟨some 64, some (53, true), .bo .lss (.t 63) (.c (.int .i64 0)), []⟩, ⟨some 65, some (53, true), .un .not (.t 64), []⟩, ⟨some 66, none, .pk (.t 53) (.t 65) (.c (.bool false)), []⟩] [0, 1, 4, 12, 13, 66]) (.cd (.t 66) .sk (.xt 2))) (.bl 3 (.rg none [⟨some 67, none, .mv (.t 13), []⟩, ⟨some 68, none, .bo .sub (.t 67) (.c (.int .i64 1)), []⟩, ⟨some 13, none, .mv (.t 68), []⟩] [0, 1, 4, 12, 13])))
def b83_2 : C := (.sq (.sq (.rg (some [0, 1, 2, 3, 4, 5, 6, 7, 8, 9, 10, 11, 12, 13, 14, 15]) [⟨some 105, none, .mv (.t 12), []⟩, ⟨some 106, none, .mv (.t 13), []⟩, ⟨some 107, none, .bo .leq (.t 105) (.t 106), []⟩, ⟨some 108, none, .mv (.t 107), []⟩, ⟨some 109, some (108, true), .mv (.t 4), []⟩, ⟨some 110, some (108, true), .mv (.t 0), []⟩, ⟨some 111, some (108, true), .mv (.t 12), []⟩, ⟨some 112, some (108, true), .ia 3 (.t 110) (.t 111), []⟩, ⟨some 113, some (108, true), .ld (some 3) (.t 112), []⟩, ⟨some 114, some (108, true), .mv (.t 0), []⟩, ⟨some 115, some (108, true), .mv (.t 1), []⟩, ⟨some 116, some (108, true), .ia 3 (.t 114) (.t 115), []⟩, ⟨some 117, some (108, true), .ld (some 3) (.t 116), []⟩, ⟨some 118, some (108, true), .cw (.t 109) [(.t 113), (.t 117)], []⟩, ⟨some 119, some (108, true), .bo .lss (.t 118) (.c (.int .i64 0)), []⟩, ⟨some 120, none, .pk (.t 108) (.t 119) (.c (.bool false)), []⟩] [0, 1, 4, 12, 13, 120]) (.cd (.t 120) .sk (.xt 6))) (.bl 7 (.rg none [⟨some 121, none, .mv (.t 12), []⟩, ⟨some 122, none, .bo .add (.t 121) (.c (.int .i64 1)), []⟩, ⟨some 12, none, .mv (.t 122), []⟩] [0, 1, 4, 12, 13])))
def b83_3 : C := (.sq (.sq (.rg (some [0, 1, 2, 3, 4, 5, 6, 7, 8, 9, 10, 11, 12, 13, 14, 15, 16]) [⟨some 123, none, .mv (.t 12), []⟩, ⟨some 124, none, .mv (.t 13), []⟩, ⟨some 125, none, .bo .leq (.t 123) (.t 124), []⟩, ⟨some 126, none, .mv (.t 125), []⟩, ⟨some 127, some (126, true), .mv (.t 4), []⟩, ⟨some 128, some (126, true), .mv (.t 0), []⟩, ⟨some 129, some (126, true), .mv (.t 13), []⟩, ⟨some 130, some (126, true), .ia 3 (.t 128) (.t 129), []⟩, ⟨some 131, some (126, true), .ld (some 3) (.t 130), []⟩, ⟨some 132, some (126, true), .mv (.t 0), []⟩, ⟨some 133, some (126, true), .mv (.t 1), []⟩, ⟨some 134, some (126, true), .ia 3 (.t 132) (.t 133), []⟩, ⟨some 135, some (126, true), .ld (some 3) (.t 134), []⟩, ⟨some 136, some (126, true), .cw (.t 127) [(.t 131), (.t 135)], []⟩, ⟨some 137, some (126, true), .bo .lss (.t 136) (.c (.int .i64 0)), []⟩, ⟨some 138, some (126, true), .un .not (.t 137), []⟩, ⟨some 139, none, .pk (.t 126) (.t 138) (.c (.bool false)), []⟩] [0, 1, 4, 12, 13, 139]) (.cd (.t 139) .sk (.xt 8))) (.bl 9 (.rg none [⟨some 140, none, .mv (.t 13), []⟩, ⟨some 141, none, .bo .sub (.t 140) (.c (.int .i64 1)), []⟩, ⟨some 13, none, .mv (.t 141), []⟩] [0, 1, 4, 12, 13])))
def k83_4 : C := (.sq (.sq (.rg none [⟨some 142, none, .mv (.t 12), []⟩, ⟨some 143, none, .mv (.t 13), []⟩, ⟨some 144, none, .bo .gtr (.t 142) (.t 143), []⟩] [0, 1, 4, 12, 13, 144]) (.cd (.t 144) (.xt 4) .sk)) (.sq (.rg (some [0, 1, 2, 3, 4, 5, 6, 7, 8, 9, 10, 11, 12, 13, 14, 15]) [⟨some 145, none, .mv (.t 0), []⟩, ⟨some 146, none, .mv (.t 12), []⟩, ⟨some 147, none, .mv (.t 0), []⟩, ⟨some 148, none, .mv (.t 13), []⟩, ⟨some 149, none, .mv (.t 0), []⟩, ⟨some 150, none, .mv (.t 13), []⟩, ⟨some 151, none, .ia 3 (.t 149) (.t 150), []⟩, ⟨some 152, none, .ld (some 3) (.t 151), []⟩, ⟨some 153, none, .mv (.t 0), []⟩, ⟨some 154, none, .mv (.t 12), []⟩, ⟨some 155, none, .ia 3 (.t 153) (.t 154), []⟩, ⟨some 156, none, .ld (some 3) (.t 155), []⟩, ⟨some 157, none, .ia 3 (.t 145) (.t 146), []⟩, ⟨none, none, .st 3 (.t 157) (.t 152), []⟩, ⟨some 158, none, .ia 3 (.t 147) (.t 148), []⟩, ⟨none, none, .st 3 (.t 158) (.t 156), []⟩] [0, 1, 4, 12, 13]) (.sq (.rg none [⟨some 159, none, .mv (.t 12), []⟩, ⟨some 160, none, .bo .add (.t 159) (.c (.int .i64 1)), []⟩, ⟨some 12, none, .mv (.t 160), []⟩] [0, 1, 4, 12, 13]) (.rg none [⟨some 161, none, .mv (.t 13), []⟩, ⟨some 162, none, .bo .sub (.t 161) (.c (.int .i64 1)), []⟩, ⟨some 13, none, .mv (.t 162), []⟩] [0, 1, 4, 12, 13]))))
def k83_5 : C := (.sq (.bl 8 (.lp false b83_3)) k83_4)
def b83_6 : C := (.bl 5 (.sq (.bl 6 (.lp false b83_2)) k83_5))
def k83_7 : C := (.sq (.rg (some [0, 1, 2, 3, 4, 5, 6, 7, 8, 9, 10, 11, 12, 13, 14, 15]) [⟨some 163, none, .mv (.t 0), []⟩, ⟨some 164, none, .mv (.t 13), []⟩, ⟨some 165, none, .mv (.t 0), []⟩, ⟨some 166, none, .mv (.t 1), []⟩, ⟨some 167, none, .mv (.t 0), []⟩, ⟨some 168, none, .mv (.t 1), []⟩, ⟨some 169, none, .ia 3 (.t 167) (.t 168), []⟩, ⟨some 170, none, .ld (some 3) (.t 169), []⟩, ⟨some 171, none, .mv (.t 0), []⟩, ⟨some 172, none, .mv (.t 13), []⟩, ⟨some 173, none, .ia 3 (.t 171) (.t 172), []⟩, ⟨some 174, none, .ld (some 3) (.t 173), []⟩, ⟨some 175, none, .ia 3 (.t 163) (.t 164), []⟩, ⟨none, none, .st 3 (.t 175) (.t 170), []⟩, ⟨some 176, none, .ia 3 (.t 165) (.t 166), []⟩, ⟨none, none, .st 3 (.t 176) (.t 174), []⟩] [13]) (.sq (.rg none [⟨some 177, none, .mv (.t 13), []⟩, ⟨some 10, none, .mv (.t 177), []⟩, ⟨some 11, none, .mv (.c (.bool false)), []⟩] [10, 11]) .rt))
def k83_8 : C := (.sq (.sq (.rg none [⟨some 69, none, .mv (.t 12), []⟩, ⟨some 70, none, .mv (.t 13), []⟩, ⟨some 71, none, .bo .gtr (.t 69) (.t 70), []⟩] [0, 1, 4, 12, 13, 71]) (.cd (.t 71) (.sq (.rg (some [0, 1, 2, 3, 4, 5, 6, 7, 8, 9, 10, 11, 12, 13, 14, 15]) [⟨some 72, none, .mv (.t 0), []⟩, ⟨some 73, none, .mv (.t 13), []⟩, ⟨some 74, none, .mv (.t 0), []⟩, ⟨some 75, none, .mv (.t 1), []⟩, ⟨some 76, none, .mv (.t 0), []⟩, ⟨some 77, none, .mv (.t 1), []⟩, ⟨some 78, none, .ia 3 (.t 76) (.t 77), []⟩, ⟨some 79, none, .ld (some 3) (.t 78), []⟩, ⟨some 80, none, .mv (.t 0), []⟩, ⟨some 81, none, .mv (.t 13), []⟩, ⟨some 82, none, .ia 3 (.t 80) (.t 81), []⟩, ⟨some 83, none, .ld (some 3) (.t 82), []⟩, ⟨some 84, none, .ia 3 (.t 72) (.t 73), []⟩, ⟨none, none, .st 3 (.t 84) (.t 79), []⟩, ⟨some 85, none, .ia 3 (.t 74) (.t 75), []⟩, ⟨none, none, .st 3 (.t 85) (.t 83), []⟩] [13]) (.sq (.rg none [⟨some 86, none, .mv (.t 13), []⟩, ⟨some 10, none, .mv (.t 86), []⟩, ⟨some 11, none, .mv (.c (.bool true)), []⟩] [10, 11]) .rt)) .sk)) (.sq (.rg (some [0, 1, 2, 3, 4, 5, 6, 7, 8, 9, 10, 11, 12, 13, 14, 15]) [⟨some 87, none, .mv (.t 0), []⟩, ⟨some 88, none, .mv (.t 12), []⟩, ⟨some 89, none, .mv (.t 0), []⟩, ⟨some 90, none, .mv (.t 13), []⟩, ⟨some 91, none, .mv (.t 0), []⟩, ⟨some 92, none, .mv (.t 13), []⟩, ⟨some 93, none, .ia 3 (.t 91) (.t 92), []⟩, ⟨some 94, none, .ld (some 3) (.t 93), []⟩, ⟨some 95, none, .mv (.t 0), []⟩, ⟨some 96, none, .mv (.t 12), []⟩, ⟨some 97, none, .ia 3 (.t 95) (.t 96), []⟩, ⟨some 98, none, .ld (some 3) (.t 97), []⟩, ⟨some 99, none, .ia 3 (.t 87) (.t 88), []⟩, ⟨none, none, .st 3 (.t 99) (.t 94), []⟩, ⟨some 100, none, .ia 3 (.t 89) (.t 90), []⟩, ⟨none, none, .st 3 (.t 100) (.t 98), []⟩] [0, 1, 4, 12, 13]) (.sq (.rg none [⟨some 101, none, .mv (.t 12), []⟩, ⟨some 102, none, .bo .add (.t 101) (.c (.int .i64 1)), []⟩, ⟨some 12, none, .mv (.t 102), []⟩] [0, 1, 4, 12, 13]) (.sq (.rg none [⟨some 103, none, .mv (.t 13), []⟩, ⟨some 104, none, .bo .sub (.t 103) (.c (.int .i64 1)), []⟩, ⟨some 13, none, .mv (.t 104), []⟩] [0, 1, 4, 12, 13]) (.sq (.bl 4 (.lp false b83_6)) k83_7)))))
def k83_9 : C := (.sq (.bl 2 (.lp false b83_1)) k83_8)
def c83 : FI.Fn := { body := (.sq (.rg none [⟨some 10, none, .mv (.c (.int .i64 0)), []⟩, ⟨some 11, none, .mv (.c (.bool false)), []⟩] [0, 1, 2, 3, 4]) (.sq (.rg (some [0, 1, 2, 3, 4, 5, 6, 7, 8, 9, 10, 11, 12, 13, 14, 15]) [⟨some 14, none, .mv (.t 0), []⟩, ⟨some 15, none, .mv (.t 1), []⟩, ⟨some 16, none, .mv (.t 0), []⟩, ⟨some 17, none, .mv (.t 3), []⟩, ⟨some 18, none, .mv (.t 0), []⟩, ⟨some 19, none, .mv (.t 3), []⟩, ⟨some 20, none, .ia 3 (.t 18) (.t 19), []⟩, ⟨some 21, none, .ld (some 3) (.t 20), []⟩, ⟨some 22, none, .mv (.t 0), []⟩, ⟨some 23, none, .mv (.t 1), []⟩, ⟨some 24, none, .ia 3 (.t 22) (.t 23), []⟩, ⟨some 25, none, .ld (some 3) (.t 24), []⟩, ⟨some 26, none, .ia 3 (.t 14) (.t 15), []⟩, ⟨none, none, .st 3 (.t 26) (.t 21), []⟩, ⟨some 27, none, .ia 3 (.t 16) (.t 17), []⟩, ⟨none, none, .st 3 (.t 27) (.t 25), []⟩] [0, 1, 2, 4]) (.sq (.rg none [⟨some 28, none, .mv (.t 1), []⟩, ⟨some 29, none, .bo .add (.t 28) (.c (.int .i64 1)), []⟩, ⟨some 30, none, .mv (.t 2), []⟩, ⟨some 31, none, .bo .sub (.t 30) (.c (.int .i64 1)), []⟩, ⟨some 12, none, .mv (.t 29), []⟩, ⟨some 13, none, .mv (.t 31), []⟩] [0, 1, 4, 12, 13]) (.sq (.bl 0 (.lp false b83_0)) k83_9)))), np := 5, res := [.t 10, .t 11], mode := .shr }
def c84 : FI.Fn := { body := (.sq (.rg none [⟨some 2, none, .mv (.c (.int .i64 0)), []⟩] [0, 2]) (.sq (.sq (.rg none [⟨some 3, none, .mv (.t 0), []⟩, ⟨some 4, none, .bo .geq (.t 3) (.c (.int .u32 65536)), []⟩] [0, 2, 4]) (.cd (.t 4) (.sq (.rg none [⟨some 5, none, .mv (.t 0), []⟩, ⟨some 6, none, .bo .shr (.t 5) (.c (.int .u64 16)), []⟩, ⟨some 0, none, .mv (.t 6), []⟩] [0]) (.rg none [⟨some 2, none, .mv (.c (.int .i64 16)), []⟩] [0, 2])) .sk)) (.sq (.sq (.rg none [⟨some 7, none, .mv (.t 0), []⟩, ⟨some 8, none, .bo .geq (.t 7) (.c (.int .u32 256)), []⟩] [0, 2, 8]) (.cd (.t 8) (.sq (.rg none [⟨some 9, none, .mv (.t 0), []⟩, ⟨some 10, none, .bo .shr (.t 9) (.c (.int .u64 8)), []⟩, ⟨some 0, none, .mv (.t 10), []⟩] [0, 2]) (.rg none [⟨some 11, none, .mv (.t 2), []⟩, ⟨some 12, none, .bo .add (.t 11) (.c (.int .i64 8)), []⟩, ⟨some 2, none, .mv (.t 12), []⟩] [0, 2])) .sk)) (.sq (.rg none [⟨some 13, none, .mv (.t 2), []⟩, ⟨some 14, none, .mv (.t 0), []⟩, ⟨some 15, none, .cv .u8 (.t 14), []⟩, ⟨some 16, none, .ix (.c (.str [0, 1, 2, 2, 3, 3, 3, 3, 4, 4, 4, 4, 4, 4, 4, 4, 5, 5, 5, 5, 5, 5, 5, 5, 5, 5, 5, 5, 5, 5, 5, 5, 6, 6, 6, 6, 6, 6, 6, 6, 6, 6, 6, 6, 6, 6, 6, 6, 6, 6, 6, 6, 6, 6, 6, 6, 6, 6, 6, 6, 6, 6, 6, 6, 7, 7, 7, 7, 7, 7, 7, 7, 7, 7, 7, 7, 7, 7, 7, 7, 7, 7, 7, 7, 7, 7, 7, 7, 7, 7, 7, 7, 7, 7, 7, 7, 7, 7, 7, 7, 7, 7, 7, 7, 7, 7, 7, 7, 7, 7, 7, 7, 7, 7, 7, 7, 7, 7, 7, 7, 7, 7, 7, 7, 7, 7, 7, 7, 8, 8, 8, 8, 8, 8, 8, 8, 8, 8, 8, 8, 8, 8, 8, 8, 8, 8, 8, 8, 8, 8, 8, 8, 8, 8, 8, 8, 8, 8, 8, 8, 8, 8, 8, 8, 8, 8, 8, 8, 8, 8, 8, 8, 8, 8, 8, 8, 8, 8, 8, 8, 8, 8, 8, 8, 8, 8, 8, 8, 8, 8, 8, 8, 8, 8, 8, 8, 8, 8, 8, 8, 8, 8, 8, 8, 8, 8, 8, 8, 8, 8, 8, 8, 8, 8, 8, 8, 8, 8, 8, 8, 8, 8, 8, 8, 8, 8, 8, 8, 8, 8, 8, 8, 8, 8, 8, 8, 8, 8, 8, 8, 8, 8, 8, 8, 8, 8, 8, 8, 8, 8, 8, 8, 8, 8, 8, 8])) (.t 15), []⟩, ⟨some 17, none, .cv .i64 (.t 16), []⟩, ⟨some 18, none, .bo .add (.t 13) (.t 17), []⟩, ⟨some 2, none, .mv (.t 18), []⟩] [2]) .rt)))), np := 1, res := [.t 2], mode := .iso }
def c85 : FI.Fn := { body := (.sq (.rg none [⟨some 2, none, .mv (.c (.int .i64 0)), []⟩] [0, 2]) (.sq (.sq (.rg none [⟨some 3, none, .mv (.t 0), []⟩, ⟨some 4, none, .bo .geq (.t 3) (.c (.int .u64 4294967296)), []⟩] [0, 2, 4]) (.cd (.t 4) (.sq (.rg none [⟨some 5, none, .mv (.t 0), []⟩, ⟨some 6, none, .bo .shr (.t 5) (.c (.int .u64 32)), []⟩, ⟨some 0, none, .mv (.t 6), []⟩] [0]) (.rg none [⟨some 2, none, .mv (.c (.int .i64 32)), []⟩] [0, 2])) .sk)) (.sq (.sq (.rg none [⟨some 7, none, .mv (.t 0), []⟩, ⟨some 8, none, .bo .geq (.t 7) (.c (.int .u64 65536)), []⟩] [0, 2, 8]) (.cd (.t 8) (.sq (.rg none [⟨some 9, none, .mv (.t 0), []⟩, ⟨some 10, none, .bo .shr (.t 9) (.c (.int .u64 16)), []⟩, ⟨some 0, none, .mv (.t 10), []⟩] [0, 2]) (.rg none [⟨some 11, none, .mv (.t 2), []⟩, ⟨some 12, none, .bo .add (.t 11) (.c (.int .i64 16)), []⟩, ⟨some 2, none, .mv (.t 12), []⟩] [0, 2])) .sk)) (.sq (.sq (.rg none [⟨some 13, none, .mv (.t 0), []⟩, ⟨some 14, none, .bo .geq (.t 13) (.c (.int .u64 256)), []⟩] [0, 2, 14]) (.cd (.t 14) (.sq (.rg none [⟨some 15, none, .mv (.t 0), []⟩, ⟨some 16, none, .bo .shr (.t 15) (.c (.int .u64 8)), []⟩, ⟨some 0, none, .mv (.t 16), []⟩] [0, 2]) (.rg none [⟨some 17, none, .mv (.t 2), []⟩, ⟨some 18, none, .bo .add (.t 17) (.c (.int .i64 8)), []⟩, ⟨some 2, none, .mv (.t 18), []⟩] [0, 2])) .sk)) (.sq (.rg none [⟨some 19, none, .mv (.t 2), []⟩, ⟨some 20, none, .mv (.t 0), []⟩, ⟨some 21, none, .cv .u8 (.t 20), []⟩, ⟨some 22, none, .ix (.c (.str [0, 1, 2, 2, 3, 3, 3, 3, 4, 4, 4, 4, 4, 4, 4, 4, 5, 5, 5, 5, 5, 5, 5, 5, 5, 5, 5, 5, 5, 5, 5, 5, 6, 6, 6, 6, 6, 6, 6, 6, 6, 6, 6, 6, 6, 6, 6, 6, 6, 6, 6, 6, 6, 6, 6, 6, 6, 6, 6, 6, 6, 6, 6, 6, 7, 7, 7, 7, 7, 7, 7, 7, 7, 7, 7, 7, 7, 7, 7, 7, 7, 7, 7, 7, 7, 7, 7, 7, 7, 7, 7, 7, 7, 7, 7, 7, 7, 7, 7, 7, 7, 7, 7, 7, 7, 7, 7, 7, 7, 7, 7, 7, 7, 7, 7, 7, 7, 7, 7, 7, 7, 7, 7, 7, 7, 7, 7, 7, 8, 8, 8, 8, 8, 8, 8, 8, 8, 8, 8, 8, 8, 8, 8, 8, 8, 8, 8, 8, 8, 8, 8, 8, 8, 8, 8, 8, 8, 8, 8, 8, 8, 8, 8, 8, 8, 8, 8, 8, 8, 8, 8, 8, 8, 8, 8, 8, 8, 8, 8, 8, 8, 8, 8, 8, 8, 8, 8, 8, 8, 8, 8, 8, 8, 8, 8, 8, 8, 8, 8, 8, 8, 8, 8, 8, 8, 8, 8, 8, 8, 8, 8, 8, 8, 8, 8, 8, 8, 8, 8, 8, 8, 8, 8, 8, 8, 8, 8, 8, 8, 8, 8, 8, 8, 8, 8, 8, 8, 8, 8, 8, 8, 8, 8, 8, 8, 8, 8, 8, 8, 8, 8, 8, 8, 8, 8, 8])) (.t 21), []⟩, ⟨some 23, none, .cv .i64 (.t 22), []⟩, ⟨some 24, none, .bo .add (.t 19) (.t 23), []⟩, ⟨some 2, none, .mv (.t 24), []⟩] [2]) .rt))))), np := 1, res := [.t 2], mode := .iso }
def c87 : FI.Fn := { body := (.sq (.rg none [⟨some 2, none, .mv (.c (.bool false)), []⟩] [0]) (.sq (.rg none [⟨some 3, none, .mv (.t 0), []⟩, ⟨some 4, none, .bo .geq (.t 3) (.c (.int .i64 1)), []⟩, ⟨some 5, none, .mv (.t 4), []⟩, ⟨some 6, some (5, true), .mv (.t 0), []⟩, ⟨some 7, some (5, true), .bo .leq (.t 6) (.c (.int .i64 64)), []⟩, ⟨some 8, none, .pk (.t 5) (.t 7) (.c (.bool false)), []⟩, ⟨some 2, none, .mv (.t 8), []⟩] [2]) .rt)), np := 1, res := [.t 2], mode := .iso }
def c88 : FI.Fn := { body := (.sq (.rg none [⟨some 2, none, .mv (.c (.int .u64 0)), []⟩] [0]) (.sq (.sq (.rg none [⟨some 3, none, .mv (.t 0), []⟩, ⟨some 4, none, .cl 87 [(.t 3)], []⟩, ⟨some 5, none, .un .not (.t 4), []⟩] [0, 5]) (.cd (.t 5) (.sq (.rg none [⟨some 2, none, .mv (.c (.int .u64 0)), []⟩] [2]) .rt) .sk)) (.sq (.rg none [⟨some 6, none, .mv (.t 0), []⟩, ⟨some 7, none, .bo .sub (.c (.int .i64 64)) (.t 6), []⟩, ⟨some 8, none, .bo .shr (.c (.int .u64 18446744073709551615)) (.t 7), []⟩, ⟨some 2, none, .mv (.t 8), []⟩] [2]) .rt))), np := 1, res := [.t 2], mode := .iso }
def b89_0 : C := (.sq (.rg none [⟨some 17, none, .bo .lss (.t 16) (.t 15), []⟩] [0, 15, 16, 17]) (.sq (.cd (.t 17) .sk (.xt 0)) (.sq (.bl 1 (.sq (.rg none [⟨some 18, none, .mv (.t 16), []⟩, ⟨some 3, none, .mv (.t 18), []⟩] [0, 3, 15, 16]) (.sq (.rg none [⟨some 19, none, .mv (.t 0), []⟩, ⟨some 20, none, .mv (.t 3), []⟩, ⟨some 21, none, .ix (.t 19) (.t 20), []⟩, ⟨some 4, none, .mv (.t 21), []⟩] [0, 3, 4, 15, 16]) (.sq (.rg none [⟨some 22, none, .mv (.t 4), []⟩, ⟨some 23, none, .bo .geq (.t 22) (.c (.int .u8 97)), []⟩, ⟨some 24, none, .mv (.t 23), []⟩, ⟨some 25, some (24, true), .mv (.t 4), []⟩, ⟨some 26, some (24, true), .bo .leq (.t 25) (.c (.int .u8 122)), []⟩, ⟨some 27, none, .pk (.t 24) (.t 26) (.c (.bool false)), []⟩, ⟨some 28, none, .mv (.t 27), []⟩, ⟨some 29, some (28, false), .mv (.t 4), []⟩, ⟨some 30, some (28, false), .bo .geq (.t 29) (.c (.int .u8 65)), []⟩, ⟨some 31, some (28, false), .mv (.t 30), []⟩, ⟨some 32, some (31, true), .mv (.t 4), []⟩, ⟨some 33, some (31, true), .bo .leq (.t 32) (.c (.int .u8 90)), []⟩, ⟨some 34, some (28, false), .pk (.t 31) (.t 33) (.c (.bool false)), []⟩, ⟨some 35, none, .pk (.t 28) (.c (.bool true)) (.t 34), []⟩, ⟨some 5, none, .mv (.t 35), []⟩] [0, 3, 4, 5, 15, 16]) (.sq (.rg none [⟨some 36, none, .mv (.t 5), []⟩, ⟨some 37, none, .un .not (.t 36), []⟩, ⟨some 38, none, .mv (.t 37), []⟩, ⟨some 39, some (38, true), .mv (.t 3), []⟩, ⟨some 40, some (38, true), .bo .eql (.t 39) (.c (.int .i64 0)), []⟩, ⟨some 41, some (38, true), .mv (.t 40), []⟩, ⟨some 42, some (41, false), .mv (.t 4), []⟩, ⟨some 43, some (41, false), .bo .neq (.t 42) (.c (.int .u8 95)), []⟩, ⟨some 44, some (41, false), .mv (.t 43), []⟩, ⟨some 45, some (44, true), .mv (.t 4), []⟩, ⟨some 46, some (44, true), .bo .lss (.t 45) (.c (.int .u8 48)), []⟩, ⟨some 47, some (44, true), .mv (.t 46), []⟩, ⟨some 48, some (47, false), .mv (.t 4), []⟩, ⟨some 49, some (47, false), .bo .gtr (.t 48) (.c (.int .u8 57)), []⟩, ⟨some 50, some (44, true), .pk (.t 47) (.c (.bool true)) (.t 49), []⟩, ⟨some 51, some (41, false), .pk (.t 44) (.t 50) (.c (.bool false)), []⟩, ⟨some 52, some (38, true), .pk (.t 41) (.c (.bool true)) (.t 51), []⟩, ⟨some 53, none, .pk (.t 38) (.t 52) (.c (.bool false)), []⟩] [0, 15, 16, 53]) (.cd (.t 53) (.sq (.rg none [⟨some 2, none, .mv (.c (.bool false)), []⟩] [2]) .rt) .sk)))))) (.rg none [⟨some 54, none, .bo .add (.t 16) (.c (.int .i64 1)), []⟩, ⟨some 16, none, .mv (.t 54), []⟩] [0, 15, 16]))))
def k89_1 : C := (.sq (.rg none [⟨some 2, none, .mv (.c (.bool true)), []⟩] [2]) .rt)
def c89 : FI.Fn := { body := (.sq (.rg none [⟨some 2, none, .mv (.c (.bool false)), []⟩] [0]) (.sq (.sq (.rg none [⟨some 6, none, .mv (.t 0), []⟩, ⟨some 7, none, .ln 0 (.t 6), []⟩, ⟨some 8, none, .bo .lss (.t 7) (.c (.int .i64 1)), []⟩, ⟨some 9, none, .mv (.t 8), []⟩, ⟨some 10, some (9, false), .mv (.t 0), []⟩, ⟨some 11, some (9, false), .ln 0 (.t 10), []⟩, ⟨some 12, some (9, false), .bo .gtr (.t 11) (.c (.int .i64 24)), []⟩, ⟨some 13, none, .pk (.t 9) (.c (.bool true)) (.t 12), []⟩] [0, 13]) (.cd (.t 13) (.sq (.rg none [⟨some 2, none, .mv (.c (.bool false)), []⟩] [2]) .rt) .sk)) (.sq (.sq (.rg none [⟨some 14, none, .mv (.t 0), []⟩, ⟨some 15, none, .ln 0 (.t 14), []⟩, ⟨some 16, none, .mv (.c (.int .i64 0)), []⟩] [0, 15, 16]) (.bl 0 (.lp true b89_0))) k89_1))), np := 1, res := [.t 2], mode := .iso }
def c90 : FI.Fn := { body := (.sq (.rg none [⟨some 4, none, .mv (.c (.str [])), []⟩] [0, 1]) (.sq (.rg none [⟨some 5, none, .mv (.t 0), []⟩, ⟨some 6, none, .mv (.t 1), []⟩, ⟨some 7, none, .cl 110 [(.t 5), (.t 6)], []⟩, ⟨some 4, none, .mv (.t 7), []⟩] [4]) .rt)), np := 2, res := [.t 4], mode := .iso }
def c91 : FI.Fn := { body := (.sq (.rg none [⟨some 4, none, .mv (.c (.bool false)), []⟩] [0, 1]) (.sq (.rg none [⟨some 5, none, .mv (.t 0), []⟩, ⟨some 6, none, .mv (.t 1), []⟩, ⟨some 7, none, .cl 111 [(.t 5), (.t 6)], []⟩, ⟨some 8, none, .bo .geq (.t 7) (.c (.int .i64 0)), []⟩, ⟨some 4, none, .mv (.t 8), []⟩] [4]) .rt)), np := 2, res := [.t 4], mode := .isf }
def c92 : FI.Fn := { body := (.sq (.rg none [⟨some 2, none, .bx 6 (.t 0), []⟩, ⟨some 3, none, .mv (.c (.bool false)), []⟩] [1, 2]) (.sq (.rg none [⟨some 4, none, .fa 1 (.t 2), []⟩, ⟨some 5, none, .ld none (.t 4), []⟩, ⟨some 6, none, .ld none (.t 1), []⟩, ⟨some 7, none, .bo .neq (.t 5) (.t 6), []⟩, ⟨some 3, none, .mv (.t 7), []⟩] [3]) .rt)), np := 2, res := [.t 3], mode := .iso }
def c93 : FI.Fn := { body := (.sq (.rg none [⟨some 2, none, .mv (.c (.bool false)), []⟩] [0]) (.sq (.rg none [⟨some 3, none, .mv (.t 0), []⟩, ⟨some 4, none, .bo .eql (.t 3) (.c (.int .i64 8)), []⟩, ⟨some 5, none, .mv (.t 4), []⟩, ⟨some 6, some (5, false), .mv (.t 0), []⟩, ⟨some 7, some (5, false), .bo .eql (.t 6) (.c (.int .i64 16)), []⟩, ⟨some 8, none, .pk (.t 5) (.c (.bool true)) (.t 7), []⟩, ⟨some 9, none, .mv (.t 8), []⟩, ⟨some 10, some (9, false), .mv (.t 0), []⟩, ⟨some 11, some (9, false), .bo .eql (.t 10) (.c (.int .i64 32)), []⟩, ⟨some 12, none, .pk (.t 9) (.c (.bool true)) (.t 11), []⟩, ⟨some 13, none, .mv (.t 12), []⟩, ⟨some 14, some (13, false), .mv (.t 0), []⟩, ⟨some 15, some (13, false), .bo .eql (.t 14) (.c (.int .i64 64)), []⟩, ⟨some 16, none, .pk (.t 13) (.c (.bool true)) (.t 15), []⟩, ⟨some 2, none, .mv (.t 16), []⟩] [2]) .rt)), np := 1, res := [.t 2], mode := .iso }
def b94_0 : C := (.sq (.sq (.rg none [⟨some 5, none, .mv (.t 4), []⟩, ⟨some 6, none, .mv (.t 0), []⟩, ⟨some 7, none, .bo .lss (.t 5) (.t 6), []⟩] [0, 3, 4, 7]) (.cd (.t 7) .sk (.xt 0))) (.sq (.bl 1 (.rg none [⟨some 10, none, .mv (.t 3), []⟩, ⟨some 11, none, .mv (.t 3), []⟩, ⟨some 12, none, .bo .add (.t 10) (.t 11), []⟩, ⟨some 3, none, .mv (.t 12), []⟩] [0, 3, 4])) (.rg none [⟨some 8, none, .mv (.t 4), []⟩, ⟨some 9, none, .bo .add (.t 8) (.c (.int .i64 1)), []⟩, ⟨some 4, none, .mv (.t 9), []⟩] [0, 3, 4])))
def k94_1 : C := (.sq (.rg none [⟨some 13, none, .mv (.t 3), []⟩, ⟨some 2, none, .mv (.t 13), []⟩] [2]) .rt)
def c94 : FI.Fn := { body := (.sq (.rg none [⟨some 2, none, .mv (.c (.int .u64 0)), []⟩] [0]) (.sq (.rg none [⟨some 3, none, .mv (.c (.int .u64 1)), []⟩] [0, 3]) (.sq (.sq (.rg none [⟨some 4, none, .mv (.c (.int .i64 0)), []⟩] [0, 3, 4]) (.bl 0 (.lp true b94_0))) k94_1))), np := 1, res := [.t 2], mode := .iso }
def b95_0 : C := (.sq (.sq (.rg none [⟨some 15, none, .mv (.t 3), []⟩, ⟨some 16, none, .mv (.t 0), []⟩, ⟨some 17, none, .ln 0 (.t 16), []⟩, ⟨some 18, none, .bo .lss (.t 15) (.t 17), []⟩] [0, 3, 18]) (.cd (.t 18) .sk (.xt 0))) (.sq (.bl 1 (.sq (.rg none [⟨some 21, none, .mv (.t 0), []⟩, ⟨some 22, none, .mv (.t 3), []⟩, ⟨some 23, none, .ix (.t 21) (.t 22), []⟩, ⟨some 4, none, .mv (.t 23), []⟩] [0, 3, 4]) (.sq (.rg none [⟨some 24, none, .mv (.t 4), []⟩, ⟨some 25, none, .bo .geq (.t 24) (.c (.int .u8 97)), []⟩, ⟨some 26, none, .mv (.t 25), []⟩, ⟨some 27, some (26, true), .mv (.t 4), []⟩, ⟨some 28, some (26, true), .bo .leq (.t 27) (.c (.int .u8 122)), []⟩, ⟨some 29, none, .pk (.t 26) (.t 28) (.c (.bool false)), []⟩, ⟨some 30, none, .mv (.t 29), []⟩, ⟨some 31, some (30, false), .mv (.t 4), []⟩, ⟨some 32, some (30, false), .bo .geq (.t 31) (.c (.int .u8 65)), []⟩, ⟨some 33, some (30, false), .mv (.t 32), []⟩, ⟨some 34, some (33, true), .mv (.t 4), []⟩, ⟨some 35, some (33, true), .bo .leq (.t 34) (.c (.int .u8 90)), []⟩, ⟨some 36, some (30, false), .pk (.t 33) (.t 35) (.c (.bool false)), []⟩, ⟨some 37, none, .pk (.t 30) (.c (.bool true)) (.t 36), []⟩, ⟨some 5, none, .mv (.t 37), []⟩] [0, 3, 4, 5]) (.sq (.rg none [⟨some 38, none, .mv (.t 4), []⟩, ⟨some 39, none, .bo .geq (.t 38) (.c (.int .u8 48)), []⟩, ⟨some 40, none, .mv (.t 39), []⟩, ⟨some 41, some (40, true), .mv (.t 4), []⟩, ⟨some 42, some (40, true), .bo .leq (.t 41) (.c (.int .u8 57)), []⟩, ⟨some 43, none, .pk (.t 40) (.t 42) (.c (.bool false)), []⟩, ⟨some 44, none, .mv (.t 43), []⟩, ⟨some 45, some (44, false), .mv (.t 4), []⟩, ⟨some 46, some (44, false), .bo .eql (.t 45) (.c (.int .u8 95)), []⟩, ⟨some 47, none, .pk (.t 44) (.c (.bool true)) (.t 46), []⟩, ⟨some 6, none, .mv (.t 47), []⟩] [0, 3, 5, 6]) (.sq (.rg none [⟨some 48, none, .mv (.t 5), []⟩, ⟨some 49, none, .un .not (.t 48), []⟩, ⟨some 50, none, .mv (.t 49), []⟩, ⟨some 51, some (50, true), .mv (.t 3), []⟩, ⟨some 52, some (50, true), .bo .eql (.t 51) (.c (.int .i64 0)), []⟩, ⟨some 53, some (50, true), .mv (.t 52), []⟩, ⟨some 54, some (53, false), .mv (.t 6), []⟩, ⟨some 55, some (53, false), .un .not (.t 54), []⟩, ⟨some 56, some (50, true), .pk (.t 53) (.c (.bool true)) (.t 55), []⟩, ⟨some 57, none, .pk (.t 50) (.t 56) (.c (.bool false)), []⟩] [0, 3, 57]) (.cd (.t 57) (.sq (.rg none [⟨some 2, none, .mv (.c (.bool false)), []⟩] [2]) .rt) .sk)))))) (.rg none [⟨some 19, none, .mv (.t 3), []⟩, ⟨some 20, none, .bo .add (.t 19) (.c (.int .i64 1)), []⟩, ⟨some 3, none, .mv (.t 20), []⟩] [0, 3])))
def k95_1 : C := (.sq (.rg none [⟨some 2, none, .mv (.c (.bool true)), []⟩] [2]) .rt)
def c95 : FI.Fn := { body := (.sq (.rg none [⟨some 2, none, .mv (.c (.bool false)), []⟩] [0]) (.sq (.sq (.rg none [⟨some 7, none, .mv (.t 0), []⟩, ⟨some 8, none, .ln 0 (.t 7), []⟩, ⟨some 9, none, .bo .eql (.t 8) (.c (.int .i64 0)), []⟩, ⟨some 10, none, .mv (.t 9), []⟩, ⟨some 11, some (10, false), .mv (.t 0), []⟩, ⟨some 12, some (10, false), .ln 0 (.t 11), []⟩, ⟨some 13, some (10, false), .bo .gtr (.t 12) (.c (.int .i64 24)), []⟩, ⟨some 14, none, .pk (.t 10) (.c (.bool true)) (.t 13), []⟩] [0, 14]) (.cd (.t 14) (.sq (.rg none [⟨some 2, none, .mv (.c (.bool false)), []⟩] [2]) .rt) .sk)) (.sq (.sq (.rg none [⟨some 3, none, .mv (.c (.int .i64 0)), []⟩] [0, 3]) (.bl 0 (.lp true b95_0))) k95_1))), np := 1, res := [.t 2], mode := .iso }
def c101 : FI.Fn := { body := (.sq (.rg none [⟨some 4, none, .mv (.c (.bool false)), []⟩] [0, 1]) (.sq (.rg none [⟨some 5, none, .mv (.t 0), []⟩, ⟨some 6, none, .ln 0 (.t 5), []⟩, ⟨some 7, none, .mv (.t 1), []⟩, ⟨some 8, none, .ln 0 (.t 7), []⟩, ⟨some 9, none, .bo .geq (.t 6) (.t 8), []⟩, ⟨some 10, none, .mv (.t 9), []⟩, ⟨some 11, some (10, true), .mv (.t 0), []⟩, ⟨some 12, some (10, true), .mv (.t 1), []⟩, ⟨some 13, some (10, true), .ln 0 (.t 12), []⟩, ⟨some 14, some (10, true), .sl 0 (.t 11) none (some (.t 13)), []⟩, ⟨some 15, some (10, true), .mv (.t 1), []⟩, ⟨some 16, some (10, true), .bo .eql (.t 14) (.t 15), []⟩, ⟨some 17, none, .pk (.t 10) (.t 16) (.c (.bool false)), []⟩, ⟨some 4, none, .mv (.t 17), []⟩] [4]) .rt)), np := 2, res := [.t 4], mode := .iso }
def b105_0 : C := (.bl 1 (.sq (.rg none [⟨some 13, none, .mv (.t 10), []⟩, ⟨some 14, none, .bo .mul (.c (.int .i64 2)) (.t 13), []⟩, ⟨some 15, none, .bo .add (.t 14) (.c (.int .i64 1)), []⟩, ⟨some 11, none, .mv (.t 15), []⟩] [0, 2, 3, 4, 10, 11]) (.sq (.sq (.rg none [⟨some 16, none, .mv (.t 11), []⟩, ⟨some 17, none, .mv (.t 2), []⟩, ⟨some 18, none, .bo .geq (.t 16) (.t 17), []⟩] [0, 2, 3, 4, 10, 11, 18]) (.cd (.t 18) (.xt 0) .sk)) (.sq (.sq (.rg (some [0, 1, 2, 3, 4, 5, 6, 7, 8, 9, 10, 11, 12, 13, 14, 15, 16, 17, 18, 19, 20, 21]) [⟨some 19, none, .mv (.t 11), []⟩, ⟨some 20, none, .bo .add (.t 19) (.c (.int .i64 1)), []⟩, ⟨some 21, none, .mv (.t 2), []⟩, ⟨some 22, none, .bo .lss (.t 20) (.t 21), []⟩, ⟨some 23, none, .mv (.t 22), []⟩, ⟨some 24, some (23, true), .mv (.t 4), []⟩, ⟨some 25, some (23, true), .mv (.t 0), []⟩, ⟨some 26, some (23, true), .mv (.t 3), []⟩, ⟨some 27, some (23, true), .mv (.t 11), []⟩, ⟨some 28, some (23, true), .bo .add (.t 26) (.t 27), []⟩, ⟨some 29, some (23, true), .ia 3 (.t 25) (.t 28), []⟩, ⟨some 30, some (23, true), .ld (some 3) (.t 29), []⟩, ⟨some 31, some (23, true), .mv (.t 0), []⟩, ⟨some 32, some (23, true), .mv (.t 3), []⟩, ⟨some 33, some (23, true), .mv (.t 11), []⟩, ⟨some 34, some (23, true), .bo .add (.t 32) (.t 33), []⟩, ⟨some 35, some (23, true), .bo .add (.t 34) (.c (.int .i64 1)), []⟩, ⟨some 36, some (23, true), .ia 3 (.t 31) (.t 35), []⟩, ⟨some 37, some (23, true), .ld (some 3) (.t 36), []⟩, ⟨some 38, some (23, true), .cw (.t 24) [(.t 30), (.t 37)], []⟩, ⟨some 39, some (23, true), .bo .lss (.t 38) (.c (.int .i64 0)), []⟩, ⟨some 40, none, .pk (.t 23) (.t 39) (.c (.bool false)), []⟩] [0, 2, 3, 4, 10, 11, 40]) (.cd (.t 40) (.rg none [⟨some 41, none, .mv (.t 11), []⟩, ⟨some 42, none, .bo .add (.t 41) (.c (.int .i64 1)), []⟩, ⟨some 11, none, .mv (.t 42), []⟩] [0, 2, 3, 4, 10, 11]) .sk)) (.sq (.sq (.rg (some [0, 1, 2, 3, 4, 5, 6, 7, 8, 9, 10, 11, 12, 13, 14, 15]) [⟨some 43, none, .mv (.t 4), []⟩, ⟨some 44, none, .mv (.t 0), []⟩, ⟨some 45, none, .mv (.t 3), []⟩, ⟨some 46, none, .mv (.t 10), []⟩, ⟨some 47, none, .bo .add (.t 45) (.t 46), []⟩, ⟨some 48, none, .ia 3 (.t 44) (.t 47), []⟩, ⟨some 49, none, .ld (some 3) (.t 48), []⟩, ⟨some 50, none, .mv (.t 0), []⟩, ⟨some 51, none, .mv (.t 3), []⟩, ⟨some 52, none, .mv (.t 11), []⟩, ⟨some 53, none, .bo .add (.t 51) (.t 52), []⟩, ⟨some 54, none, .ia 3 (.t 50) (.t 53), []⟩, ⟨some 55, none, .ld (some 3) (.t 54), []⟩, ⟨some 56, none, .cw (.t 43) [(.t 49), (.t 55)], []⟩, ⟨some 57, none, .bo .lss (.t 56) (.c (.int .i64 0)), []⟩, ⟨some 58, none, .un .not (.t 57), []⟩] [0, 2, 3, 4, 10, 11, 58]) (.cd (.t 58) .rt .sk)) (.sq (.rg (some [0, 1, 2, 3, 4, 5, 6, 7, 8, 9, 10, 11, 12, 13, 14, 15, 16, 17, 18, 19, 20, 21, 22, 23]) [⟨some 59, none, .mv (.t 0), []⟩, ⟨some 60, none, .mv (.t 3), []⟩, ⟨some 61, none, .mv (.t 10), []⟩, ⟨some 62, none, .bo .add (.t 60) (.t 61), []⟩, ⟨some 63, none, .mv (.t 0), []⟩, ⟨some 64, none, .mv (.t 3), []⟩, ⟨some 65, none, .mv (.t 11), []⟩, ⟨some 66, none, .bo .add (.t 64) (.t 65), []⟩, ⟨some 67, none, .mv (.t 0), []⟩, ⟨some 68, none, .mv (.t 3), []⟩, ⟨some 69, none, .mv (.t 11), []⟩, ⟨some 70, none, .bo .add (.t 68) (.t 69), []⟩, ⟨some 71, none, .ia 3 (.t 67) (.t 70), []⟩, ⟨some 72, none, .ld (some 3) (.t 71), []⟩, ⟨some 73, none, .mv (.t 0), []⟩, ⟨some 74, none, .mv (.t 3), []⟩, ⟨some 75, none, .mv (.t 10), []⟩, ⟨some 76, none, .bo .add (.t 74) (.t 75), []⟩, ⟨some 77, none, .ia 3 (.t 73) (.t 76), []⟩, ⟨some 78, none, .ld (some 3) (.t 77), []⟩, ⟨some 79, none, .ia 3 (.t 59) (.t 62), []⟩, ⟨none, none, .st 3 (.t 79) (.t 72), []⟩, ⟨some 80, none, .ia 3 (.t 63) (.t 66), []⟩, ⟨none, none, .st 3 (.t 80) (.t 78), []⟩] [0, 2, 3, 4, 11]) (.rg none [⟨some 81, none, .mv (.t 11), []⟩, ⟨some 10, none, .mv (.t 81), []⟩] [0, 2, 3, 4, 10])))))))
def c105 : FI.Fn := { body := (.sq (.rg none [⟨some 12, none, .mv (.t 1), []⟩, ⟨some 10, none, .mv (.t 12), []⟩] [0, 2, 3, 4, 10]) (.bl 0 (.lp false b105_0))), np := 5, res := [], mode := .shr }
def c106 : FI.Fn := { body := (.sq (.rg none [⟨some 2, none, .mv (.c (.int .u64 0)), []⟩] [0]) (.sq (.rg none [⟨some 3, none, .mv (.t 0), []⟩, ⟨some 4, none, .cv .u64 (.t 3), []⟩, ⟨some 5, none, .cl 49 [(.t 4)], []⟩, ⟨some 6, none, .bo .shl (.c (.int .u64 1)) (.t 5), []⟩, ⟨some 2, none, .mv (.t 6), []⟩] [2]) .rt)), np := 1, res := [.t 2], mode := .iso }
def c107 : FI.Fn := { body := (.sq (.rg none [⟨some 2, none, .mv (.c (.int .u64 0)), []⟩] [0]) (.sq (.rg (some [0, 1, 2, 3, 4, 5, 6, 7, 8, 9]) [⟨some 3, none, .mv (.t 0), []⟩, ⟨some 4, none, .nc (.t 3), []⟩, ⟨some 5, none, .ld none (.t 4), []⟩, ⟨some 6, none, .mv (.t 0), []⟩, ⟨some 7, none, .nc (.t 6), []⟩, ⟨some 8, none, .ld none (.t 7), []⟩, ⟨some 9, none, .bo .shl (.t 8) (.c (.int .u64 13)), []⟩, ⟨some 10, none, .bo .xor (.t 5) (.t 9), []⟩, ⟨some 11, none, .nc (.t 3), []⟩, ⟨none, none, .st 1 (.t 11) (.t 10), []⟩] [0]) (.sq (.rg (some [0, 1, 2, 3, 4, 5, 6, 7, 8, 9]) [⟨some 12, none, .mv (.t 0), []⟩, ⟨some 13, none, .nc (.t 12), []⟩, ⟨some 14, none, .ld none (.t 13), []⟩, ⟨some 15, none, .mv (.t 0), []⟩, ⟨some 16, none, .nc (.t 15), []⟩, ⟨some 17, none, .ld none (.t 16), []⟩, ⟨some 18, none, .bo .shr (.t 17) (.c (.int .u64 7)), []⟩, ⟨some 19, none, .bo .xor (.t 14) (.t 18), []⟩, ⟨some 20, none, .nc (.t 12), []⟩, ⟨none, none, .st 1 (.t 20) (.t 19), []⟩] [0]) (.sq (.rg (some [0, 1, 2, 3, 4, 5, 6, 7, 8, 9]) [⟨some 21, none, .mv (.t 0), []⟩, ⟨some 22, none, .nc (.t 21), []⟩, ⟨some 23, none, .ld none (.t 22), []⟩, ⟨some 24, none, .mv (.t 0), []⟩, ⟨some 25, none, .nc (.t 24), []⟩, ⟨some 26, none, .ld none (.t 25), []⟩, ⟨some 27, none, .bo .shl (.t 26) (.c (.int .u64 17)), []⟩, ⟨some 28, none, .bo .xor (.t 23) (.t 27), []⟩, ⟨some 29, none, .nc (.t 21), []⟩, ⟨none, none, .st 1 (.t 29) (.t 28), []⟩] [0]) (.sq (.rg none [⟨some 30, none, .mv (.t 0), []⟩, ⟨some 31, none, .nc (.t 30), []⟩, ⟨some 32, none, .ld none (.t 31), []⟩, ⟨some 2, none, .mv (.t 32), []⟩] [2]) .rt))))), np := 1, res := [.t 2], mode := .shr }
def c108 : FI.Fn := { body := (.sq (.rg none [⟨some 8, none, .mv (.c (.int .i64 0)), []⟩] [0, 1, 2, 3]) (.sq (.rg none [⟨some 9, none, .mv (.t 0), []⟩, ⟨some 10, none, .mv (.t 1), []⟩, ⟨some 11, none, .bo .sub (.t 10) (.c (.int .i64 1)), []⟩, ⟨some 12, none, .mv (.t 1), []⟩, ⟨some 13, none, .mv (.t 1), []⟩, ⟨some 14, none, .bo .add (.t 13) (.c (.int .i64 1)), []⟩, ⟨some 15, none, .mv (.t 2), []⟩, ⟨some 16, none, .mv (.t 3), []⟩, ⟨some 17, none, .cl 109 [(.t 9), (.t 11), (.t 12), (.t 14), (.t 15), (.t 16)], []⟩, ⟨some 8, none, .mv (.t 17), []⟩] [8]) .rt)), np := 4, res := [.t 8], mode := .shr }
def c109 : FI.Fn := { body := (.sq (.rg none [⟨some 12, none, .mv (.c (.int .i64 0)), []⟩] [0, 1, 2, 3, 4, 5]) (.sq (.rg none [⟨some 14, none, .mv (.t 0), []⟩, ⟨some 15, none, .mv (.t 1), []⟩, ⟨some 16, none, .mv (.t 2), []⟩, ⟨some 17, none, .mv (.t 4), []⟩, ⟨some 18, none, .mv (.t 5), []⟩, ⟨some 19, none, .cl 119 [(.t 14), (.t 15), (.t 16), (.t 17), (.t 18)], []⟩, ⟨some 13, none, .mv (.t 19), []⟩, ⟨some 20, none, .ex (.t 13) 0, []⟩, ⟨some 21, none, .ex (.t 13) 1, []⟩, ⟨some 1, none, .mv (.t 20), []⟩, ⟨some 2, none, .mv (.t 21), []⟩] [0, 1, 2, 3, 4, 5]) (.sq (.rg none [⟨some 23, none, .mv (.t 0), []⟩, ⟨some 24, none, .mv (.t 2), []⟩, ⟨some 25, none, .mv (.t 3), []⟩, ⟨some 26, none, .mv (.t 4), []⟩, ⟨some 27, none, .mv (.t 5), []⟩, ⟨some 28, none, .cl 119 [(.t 23), (.t 24), (.t 25), (.t 26), (.t 27)], []⟩, ⟨some 22, none, .mv (.t 28), []⟩, ⟨some 29, none, .ex (.t 22) 0, []⟩, ⟨some 30, none, .ex (.t 22) 1, []⟩, ⟨some 2, none, .mv (.t 29), []⟩, ⟨some 3, none, .mv (.t 30), []⟩] [0, 1, 2, 4, 5]) (.sq (.rg none [⟨some 32, none, .mv (.t 0), []⟩, ⟨some 33, none, .mv (.t 1), []⟩, ⟨some 34, none, .mv (.t 2), []⟩, ⟨some 35, none, .mv (.t 4), []⟩, ⟨some 36, none, .mv (.t 5), []⟩, ⟨some 37, none, .cl 119 [(.t 32), (.t 33), (.t 34), (.t 35), (.t 36)], []⟩, ⟨some 31, none, .mv (.t 37), []⟩, ⟨some 38, none, .ex (.t 31) 0, []⟩, ⟨some 39, none, .ex (.t 31) 1, []⟩, ⟨some 1, none, .mv (.t 38), []⟩, ⟨some 2, none, .mv (.t 39), []⟩] [2]) (.sq (.rg none [⟨some 40, none, .mv (.t 2), []⟩, ⟨some 12, none, .mv (.t 40), []⟩] [12]) .rt))))), np := 6, res := [.t 12], mode := .shr }
def c110 : FI.Fn := { body := (.sq (.rg none [⟨some 4, none, .mv (.c (.str [])), []⟩] [0, 1]) (.sq (.sq (.rg none [⟨some 5, none, .mv (.t 0), []⟩, ⟨some 6, none, .mv (.t 1), []⟩, ⟨some 7, none, .cl 101 [(.t 5), (.t 6)], []⟩] [0, 1, 7]) (.cd (.t 7) (.sq (.rg none [⟨some 8, none, .mv (.t 0), []⟩, ⟨some 9, none, .mv (.t 1), []⟩, ⟨some 10, none, .ln 0 (.t 9), []⟩, ⟨some 11, none, .sl 0 (.t 8) (some (.t 10)) none, []⟩, ⟨some 4, none, .mv (.t 11), []⟩] [4]) .rt) .sk)) (.sq (.rg none [⟨some 12, none, .mv (.t 0), []⟩, ⟨some 4, none, .mv (.t 12), []⟩] [4]) .rt))), np := 2, res := [.t 4], mode := .iso }
def b111_0 : C := (.sq (.rg none [⟨some 9, none, .bo .lss (.t 8) (.t 7), []⟩] [0, 1, 7, 8, 9]) (.sq (.cd (.t 9) .sk (.xt 0)) (.sq (.bl 1 (.sq (.rg none [⟨some 10, none, .mv (.t 8), []⟩, ⟨some 5, none, .mv (.t 10), []⟩] [0, 1, 5, 7, 8]) (.sq (.rg none [⟨some 11, none, .mv (.t 1), []⟩, ⟨some 12, none, .mv (.t 0), []⟩, ⟨some 13, none, .mv (.t 5), []⟩, ⟨some 14, none, .ia 6 (.t 12) (.t 13), []⟩, ⟨some 15, none, .ld (some 6) (.t 14), []⟩, ⟨some 16, none, .cw (.t 11) [(.t 15)], []⟩] [0, 1, 5, 7, 8, 16]) (.cd (.t 16) (.sq (.rg none [⟨some 17, none, .mv (.t 5), []⟩, ⟨some 4, none, .mv (.t 17), []⟩] [4]) .rt) .sk)))) (.rg none [⟨some 18, none, .bo .add (.t 8) (.c (.int .i64 1)), []⟩, ⟨some 8, none, .mv (.t 18), []⟩] [0, 1, 7, 8]))))
def k111_1 : C := (.sq (.rg none [⟨some 4, none, .mv (.c (.int .i64 (-1))), []⟩] [4]) .rt)
def c111 : FI.Fn := { body := (.sq (.rg none [⟨some 4, none, .mv (.c (.int .i64 0)), []⟩] [0, 1]) (.sq (.sq (.rg none [⟨some 6, none, .mv (.t 0), []⟩, ⟨some 7, none, .ln 1 (.t 6), []⟩, ⟨some 8, none, .mv (.c (.int .i64 0)), []⟩] [0, 1, 7, 8]) (.bl 0 (.lp true b111_0))) k111_1)), np := 2, res := [.t 4], mode := .iso }
def c119 : FI.Fn := { body := (.sq (.rg none [⟨some 10, none, .mv (.c (.int .i64 0)), []⟩, ⟨some 11, none, .mv (.c (.int .i64 0)), []⟩] [0, 1, 2, 3, 4]) (.sq (.sq (.rg (some [0, 1, 2, 3, 4, 5, 6, 7, 8, 9, 10]) [⟨some 12, none, .mv (.t 4), []⟩, ⟨some 13, none, .mv (.t 0), []⟩, ⟨some 14, none, .mv (.t 2), []⟩, ⟨some 15, none, .ia 3 (.t 13) (.t 14), []⟩, ⟨some 16, none, .ld (some 3) (.t 15), []⟩, ⟨some 17, none, .mv (.t 0), []⟩, ⟨some 18, none, .mv (.t 1), []⟩, ⟨some 19, none, .ia 3 (.t 17) (.t 18), []⟩, ⟨some 20, none, .ld (some 3) (.t 19), []⟩, ⟨some 21, none, .cw (.t 12) [(.t 16), (.t 20)], []⟩, ⟨some 22, none, .bo .lss (.t 21) (.c (.int .i64 0)), []⟩] [1, 2, 3, 22]) (.cd (.t 22) (.sq (.rg none [⟨some 23, none, .mv (.t 3), []⟩, ⟨some 24, none, .nc (.t 23), []⟩, ⟨some 25, none, .ld none (.t 24), []⟩, ⟨some 26, none, .bo .add (.t 25) (.c (.int .i64 1)), []⟩, ⟨some 27, none, .nc (.t 23), []⟩, ⟨none, none, .st 1 (.t 27) (.t 26), []⟩] [1, 2]) (.sq (.rg none [⟨some 28, none, .mv (.t 2), []⟩, ⟨some 29, none, .mv (.t 1), []⟩, ⟨some 10, none, .mv (.t 28), []⟩, ⟨some 11, none, .mv (.t 29), []⟩] [10, 11]) .rt)) .sk)) (.sq (.rg none [⟨some 30, none, .mv (.t 1), []⟩, ⟨some 31, none, .mv (.t 2), []⟩, ⟨some 10, none, .mv (.t 30), []⟩, ⟨some 11, none, .mv (.t 31), []⟩] [10, 11]) .rt))), np := 5, res := [.t 10, .t 11], mode := .shr }
def T : FI.Tab := [(4, .fn c4), (6, .fn c6), (7, .fn c7), (10, .fn c10), (11, .fn c11), (12, .mr c12), (13, .fn c13), (14, .fn c14), (15, .fn c15), (16, .fn c16), (17, .fn c17), (18, .fn c18), (19, .fn c19), (20, .fn c20), (21, .fn c21), (22, .fn c22), (23, .fn c23), (28, .fn c28), (29, .fn c29), (30, .fn c30), (33, .fn c33), (35, .fn c35), (36, .fn c36), (37, .fn c37), (38, .fn c38), (39, .fn c39), (40, .fn c40), (41, .fn c41), (42, .fn c42), (48, .fn c48), (49, .fn c49), (50, .fn c50), (51, .fn c51), (52, .fn c52), (53, .fn c53), (54, .fn c54), (55, .fn c55), (56, .fn c56), (57, .fn c57), (58, .fn c58), (59, .fn c59), (60, .fn c60), (61, .fn c61), (76, .fn c76), (77, .fn c77), (78, .fn c78), (79, .fn c79), (80, .fn c80), (81, .fn c81), (82, .fn c82), (83, .fn c83), (84, .fn c84), (85, .fn c85), (87, .fn c87), (88, .fn c88), (89, .fn c89), (90, .fn c90), (91, .fn c91), (92, .fn c92), (93, .fn c93), (94, .fn c94), (95, .fn c95), (101, .fn c101), (105, .fn c105), (106, .fn c106), (107, .fn c107), (108, .fn c108), (109, .fn c109), (110, .fn c110), (111, .fn c111), (119, .fn c119), (1001400, .rd r1001400), (1001600, .rd r1001600), (1001800, .rd r1001800), (1003000, .rd r1003000)]
def glf (k : Nat) (cs : List FV) : Bool := (k == 0 && eqvs cs gl0)
theorem glfp (k : Nat) (cs : List FV) (h : glf k cs = true) : pures cs = true := by
  unfold glf at h
  simp only [Bool.or_eq_true, Bool.and_eq_true] at h
  rcases h with ⟨_, h⟩
  · rw [eqvs_eq h]; rfl
@[reducible] def sys0 : FI.Sys := ⟨glf, fun _ _ _ => False, glfp⟩
instance sys : FI.Sys := ⟨glf, @RkOf sys0 Tryd.prog (cmOf T) (rdOf T), glfp⟩
theorem mix : Tryd.prog.follows .mixedOrders = true := by kernel_rfl
theorem ok4 : okFn Tryd.prog (cmOf T) (rdOf T) 4 c4 = true := by kernel_rfl
theorem ok6 : okFn Tryd.prog (cmOf T) (rdOf T) 6 c6 = true := by kernel_rfl
theorem ok7 : okFn Tryd.prog (cmOf T) (rdOf T) 7 c7 = true := by kernel_rfl
theorem ok10 : okFn Tryd.prog (cmOf T) (rdOf T) 10 c10 = true := by kernel_rfl
theorem ok11 : okFn Tryd.prog (cmOf T) (rdOf T) 11 c11 = true := by kernel_rfl
theorem ok12 : okMr Tryd.prog (cmOf T) (rdOf T) 12 c12 = true := by kernel_rfl
theorem ok13 : okFn Tryd.prog (cmOf T) (rdOf T) 13 c13 = true := by kernel_rfl
theorem ok14 : okFn Tryd.prog (cmOf T) (rdOf T) 14 c14 = true := by kernel_rfl
theorem ok15 : okFn Tryd.prog (cmOf T) (rdOf T) 15 c15 = true := by kernel_rfl
theorem ok16 : okFn Tryd.prog (cmOf T) (rdOf T) 16 c16 = true := by kernel_rfl
theorem ok17 : okFn Tryd.prog (cmOf T) (rdOf T) 17 c17 = true := by kernel_rfl
theorem ok18 : okFn Tryd.prog (cmOf T) (rdOf T) 18 c18 = true := by kernel_rfl
theorem ok19 : okFn Tryd.prog (cmOf T) (rdOf T) 19 c19 = true := by kernel_rfl
theorem ok20 : okFn Tryd.prog (cmOf T) (rdOf T) 20 c20 = true := by kernel_rfl
theorem ok21 : okFn Tryd.prog (cmOf T) (rdOf T) 21 c21 = true := by kernel_rfl
theorem ok22 : okFn Tryd.prog (cmOf T) (rdOf T) 22 c22 = true := by kernel_rfl
theorem ok23 : okFn Tryd.prog (cmOf T) (rdOf T) 23 c23 = true := by kernel_rfl
theorem ok28 : okFn Tryd.prog (cmOf T) (rdOf T) 28 c28 = true := by kernel_rfl
theorem ok29 : okFn Tryd.prog (cmOf T) (rdOf T) 29 c29 = true := by kernel_rfl
theorem ok30 : okFn Tryd.prog (cmOf T) (rdOf T) 30 c30 = true := by kernel_rfl
theorem ok33 : okFn Tryd.prog (cmOf T) (rdOf T) 33 c33 = true := by kernel_rfl
theorem ok35 : okFn Tryd.prog (cmOf T) (rdOf T) 35 c35 = true := by kernel_rfl
theorem ok36 : okFn Tryd.prog (cmOf T) (rdOf T) 36 c36 = true := by kernel_rfl
theorem ok37 : okFn Tryd.prog (cmOf T) (rdOf T) 37 c37 = true := by kernel_rfl
theorem ok38 : okFn Tryd.prog (cmOf T) (rdOf T) 38 c38 = true := by kernel_rfl
theorem ok39 : okFn Tryd.prog (cmOf T) (rdOf T) 39 c39 = true := by kernel_rfl
theorem ok40 : okFn Tryd.prog (cmOf T) (rdOf T) 40 c40 = true := by kernel_rfl
theorem ok41 : okFn Tryd.prog (cmOf T) (rdOf T) 41 c41 = true := by kernel_rfl
theorem ok42 : okFn Tryd.prog (cmOf T) (rdOf T) 42 c42 = true := by kernel_rfl
theorem ok48 : okFn Tryd.prog (cmOf T) (rdOf T) 48 c48 = true := by kernel_rfl
theorem ok49 : okFn Tryd.prog (cmOf T) (rdOf T) 49 c49 = true := by kernel_rfl
theorem ok50 : okFn Tryd.prog (cmOf T) (rdOf T) 50 c50 = true := by kernel_rfl
theorem ok51 : okFn Tryd.prog (cmOf T) (rdOf T) 51 c51 = true := by kernel_rfl
theorem ok52 : okFn Tryd.prog (cmOf T) (rdOf T) 52 c52 = true := by kernel_rfl
theorem ok53 : okFn Tryd.prog (cmOf T) (rdOf T) 53 c53 = true := by kernel_rfl
theorem ok54 : okFn Tryd.prog (cmOf T) (rdOf T) 54 c54 = true := by kernel_rfl
theorem ok55 : okFn Tryd.prog (cmOf T) (rdOf T) 55 c55 = true := by kernel_rfl
theorem ok56 : okFn Tryd.prog (cmOf T) (rdOf T) 56 c56 = true := by kernel_rfl
theorem ok57 : okFn Tryd.prog (cmOf T) (rdOf T) 57 c57 = true := by kernel_rfl
theorem ok58 : okFn Tryd.prog (cmOf T) (rdOf T) 58 c58 = true := by kernel_rfl
theorem ok59 : okFn Tryd.prog (cmOf T) (rdOf T) 59 c59 = true := by kernel_rfl
theorem ok60 : okFn Tryd.prog (cmOf T) (rdOf T) 60 c60 = true := by kernel_rfl
theorem ok61 : okFn Tryd.prog (cmOf T) (rdOf T) 61 c61 = true := by kernel_rfl
theorem ok76 : okFn Tryd.prog (cmOf T) (rdOf T) 76 c76 = true := by kernel_rfl
theorem ok77 : okFn Tryd.prog (cmOf T) (rdOf T) 77 c77 = true := by kernel_rfl
theorem ok78 : okFn Tryd.prog (cmOf T) (rdOf T) 78 c78 = true := by kernel_rfl
theorem ok79 : okFn Tryd.prog (cmOf T) (rdOf T) 79 c79 = true := by kernel_rfl
theorem ok80 : okFn Tryd.prog (cmOf T) (rdOf T) 80 c80 = true := by kernel_rfl
theorem ok81 : okFn Tryd.prog (cmOf T) (rdOf T) 81 c81 = true := by kernel_rfl
theorem ok82 : okFn Tryd.prog (cmOf T) (rdOf T) 82 c82 = true := by kernel_rfl
theorem ok83 : okFn Tryd.prog (cmOf T) (rdOf T) 83 c83 = true := by kernel_rfl
theorem ok84 : okFn Tryd.prog (cmOf T) (rdOf T) 84 c84 = true := by kernel_rfl
theorem ok85 : okFn Tryd.prog (cmOf T) (rdOf T) 85 c85 = true := by kernel_rfl
theorem ok87 : okFn Tryd.prog (cmOf T) (rdOf T) 87 c87 = true := by kernel_rfl
theorem ok88 : okFn Tryd.prog (cmOf T) (rdOf T) 88 c88 = true := by kernel_rfl
theorem ok89 : okFn Tryd.prog (cmOf T) (rdOf T) 89 c89 = true := by kernel_rfl
theorem ok90 : okFn Tryd.prog (cmOf T) (rdOf T) 90 c90 = true := by kernel_rfl
theorem ok91 : okFn Tryd.prog (cmOf T) (rdOf T) 91 c91 = true := by kernel_rfl
theorem ok92 : okFn Tryd.prog (cmOf T) (rdOf T) 92 c92 = true := by kernel_rfl
theorem ok93 : okFn Tryd.prog (cmOf T) (rdOf T) 93 c93 = true := by kernel_rfl
theorem ok94 : okFn Tryd.prog (cmOf T) (rdOf T) 94 c94 = true := by kernel_rfl
theorem ok95 : okFn Tryd.prog (cmOf T) (rdOf T) 95 c95 = true := by kernel_rfl
theorem ok101 : okFn Tryd.prog (cmOf T) (rdOf T) 101 c101 = true := by kernel_rfl
theorem ok105 : okFn Tryd.prog (cmOf T) (rdOf T) 105 c105 = true := by kernel_rfl
theorem ok106 : okFn Tryd.prog (cmOf T) (rdOf T) 106 c106 = true := by kernel_rfl
theorem ok107 : okFn Tryd.prog (cmOf T) (rdOf T) 107 c107 = true := by kernel_rfl
theorem ok108 : okFn Tryd.prog (cmOf T) (rdOf T) 108 c108 = true := by kernel_rfl
theorem ok109 : okFn Tryd.prog (cmOf T) (rdOf T) 109 c109 = true := by kernel_rfl
theorem ok110 : okFn Tryd.prog (cmOf T) (rdOf T) 110 c110 = true := by kernel_rfl
theorem ok111 : okFn Tryd.prog (cmOf T) (rdOf T) 111 c111 = true := by kernel_rfl
theorem ok119 : okFn Tryd.prog (cmOf T) (rdOf T) 119 c119 = true := by kernel_rfl
theorem tab : TabOk Tryd.prog T where
  fn := by
    intro f d h
    obtain ⟨rfl, h0⟩ | h := tget_any h
    · cases h0; exact ok4
    obtain ⟨rfl, h0⟩ | h := tget_any h
    · cases h0; exact ok6
    obtain ⟨rfl, h0⟩ | h := tget_any h
    · cases h0; exact ok7
    obtain ⟨rfl, h0⟩ | h := tget_any h
    · cases h0; exact ok10
    obtain ⟨rfl, h0⟩ | h := tget_any h
    · cases h0; exact ok11
    obtain ⟨_, h0⟩ | h := tget_any h
    · cases h0
    obtain ⟨rfl, h0⟩ | h := tget_any h
    · cases h0; exact ok13
    obtain ⟨rfl, h0⟩ | h := tget_any h
    · cases h0; exact ok14
    obtain ⟨rfl, h0⟩ | h := tget_any h
    · cases h0; exact ok15
    obtain ⟨rfl, h0⟩ | h := tget_any h
    · cases h0; exact ok16
    obtain ⟨rfl, h0⟩ | h := tget_any h
    · cases h0; exact ok17
    obtain ⟨rfl, h0⟩ | h := tget_any h
    · cases h0; exact ok18
    obtain ⟨rfl, h0⟩ | h := tget_any h
    · cases h0; exact ok19
    obtain ⟨rfl, h0⟩ | h := tget_any h
    · cases h0; exact ok20
    obtain ⟨rfl, h0⟩ | h := tget_any h
    · cases h0; exact ok21
    obtain ⟨rfl, h0⟩ | h := tget_any h
    · cases h0; exact ok22
    obtain ⟨rfl, h0⟩ | h := tget_any h
    · cases h0; exact ok23
    obtain ⟨rfl, h0⟩ | h := tget_any h
    · cases h0; exact ok28
    obtain ⟨rfl, h0⟩ | h := tget_any h
    · cases h0; exact ok29
    obtain ⟨rfl, h0⟩ | h := tget_any h
    · cases h0; exact ok30
    obtain ⟨rfl, h0⟩ | h := tget_any h
    · cases h0; exact ok33
    obtain ⟨rfl, h0⟩ | h := tget_any h
    · cases h0; exact ok35
    obtain ⟨rfl, h0⟩ | h := tget_any h
    · cases h0; exact ok36
    obtain ⟨rfl, h0⟩ | h := tget_any h
    · cases h0; exact ok37
    obtain ⟨rfl, h0⟩ | h := tget_any h
    · cases h0; exact ok38
    obtain ⟨rfl, h0⟩ | h := tget_any h
    · cases h0; exact ok39
    obtain ⟨rfl, h0⟩ | h := tget_any h
    · cases h0; exact ok40
    obtain ⟨rfl, h0⟩ | h := tget_any h
    · cases h0; exact ok41
    obtain ⟨rfl, h0⟩ | h := tget_any h
    · cases h0; exact ok42
    obtain ⟨rfl, h0⟩ | h := tget_any h
    · cases h0; exact ok48
    obtain ⟨rfl, h0⟩ | h := tget_any h
    · cases h0; exact ok49
    obtain ⟨rfl, h0⟩ | h := tget_any h
    · cases h0; exact ok50
    obtain ⟨rfl, h0⟩ | h := tget_any h
    · cases h0; exact ok51
    obtain ⟨rfl, h0⟩ | h := tget_any h
    · cases h0; exact ok52
    obtain ⟨rfl, h0⟩ | h := tget_any h
    · cases h0; exact ok53
    obtain ⟨rfl, h0⟩ | h := tget_any h
    · cases h0; exact ok54
    obtain ⟨rfl, h0⟩ | h := tget_any h
    · cases h0; exact ok55
    obtain ⟨rfl, h0⟩ | h := tget_any h
    · cases h0; exact ok56
    obtain ⟨rfl, h0⟩ | h := tget_any h
    · cases h0; exact ok57
    obtain ⟨rfl, h0⟩ | h := tget_any h
    · cases h0; exact ok58
    obtain ⟨rfl, h0⟩ | h := tget_any h
    · cases h0; exact ok59
    obtain ⟨rfl, h0⟩ | h := tget_any h
    · cases h0; exact ok60
    obtain ⟨rfl, h0⟩ | h := tget_any h
    · cases h0; exact ok61
    obtain ⟨rfl, h0⟩ | h := tget_any h
    · cases h0; exact ok76
    obtain ⟨rfl, h0⟩ | h := tget_any h
    · cases h0; exact ok77
    obtain ⟨rfl, h0⟩ | h := tget_any h
    · cases h0; exact ok78
    obtain ⟨rfl, h0⟩ | h := tget_any h
    · cases h0; exact ok79
    obtain ⟨rfl, h0⟩ | h := tget_any h
    · cases h0; exact ok80
    obtain ⟨rfl, h0⟩ | h := tget_any h
    · cases h0; exact ok81
    obtain ⟨rfl, h0⟩ | h := tget_any h
    · cases h0; exact ok82
    obtain ⟨rfl, h0⟩ | h := tget_any h
    · cases h0; exact ok83
    obtain ⟨rfl, h0⟩ | h := tget_any h
    · cases h0; exact ok84
    obtain ⟨rfl, h0⟩ | h := tget_any h
    · cases h0; exact ok85
    obtain ⟨rfl, h0⟩ | h := tget_any h
    · cases h0; exact ok87
    obtain ⟨rfl, h0⟩ | h := tget_any h
    · cases h0; exact ok88
    obtain ⟨rfl, h0⟩ | h := tget_any h
    · cases h0; exact ok89
    obtain ⟨rfl, h0⟩ | h := tget_any h
    · cases h0; exact ok90
    obtain ⟨rfl, h0⟩ | h := tget_any h
    · cases h0; exact ok91
    obtain ⟨rfl, h0⟩ | h := tget_any h
    · cases h0; exact ok92
    obtain ⟨rfl, h0⟩ | h := tget_any h
    · cases h0; exact ok93
    obtain ⟨rfl, h0⟩ | h := tget_any h
    · cases h0; exact ok94
    obtain ⟨rfl, h0⟩ | h := tget_any h
    · cases h0; exact ok95
    obtain ⟨rfl, h0⟩ | h := tget_any h
    · cases h0; exact ok101
    obtain ⟨rfl, h0⟩ | h := tget_any h
    · cases h0; exact ok105
    obtain ⟨rfl, h0⟩ | h := tget_any h
    · cases h0; exact ok106
    obtain ⟨rfl, h0⟩ | h := tget_any h
    · cases h0; exact ok107
    obtain ⟨rfl, h0⟩ | h := tget_any h
    · cases h0; exact ok108
    obtain ⟨rfl, h0⟩ | h := tget_any h
    · cases h0; exact ok109
    obtain ⟨rfl, h0⟩ | h := tget_any h
    · cases h0; exact ok110
    obtain ⟨rfl, h0⟩ | h := tget_any h
    · cases h0; exact ok111
    obtain ⟨rfl, h0⟩ | h := tget_any h
    · cases h0; exact ok119
    obtain ⟨_, h0⟩ | h := tget_any h
    · cases h0
    obtain ⟨_, h0⟩ | h := tget_any h
    · cases h0
    obtain ⟨_, h0⟩ | h := tget_any h
    · cases h0
    obtain ⟨_, h0⟩ | h := tget_any h
    · cases h0
    cases h
  ext := by
    intro f d h
    obtain ⟨_, h0⟩ | h := tget_any h
    · cases h0
    obtain ⟨_, h0⟩ | h := tget_any h
    · cases h0
    obtain ⟨_, h0⟩ | h := tget_any h
    · cases h0
    obtain ⟨_, h0⟩ | h := tget_any h
    · cases h0
    obtain ⟨_, h0⟩ | h := tget_any h
    · cases h0
    obtain ⟨_, h0⟩ | h := tget_any h
    · cases h0
    obtain ⟨_, h0⟩ | h := tget_any h
    · cases h0
    obtain ⟨_, h0⟩ | h := tget_any h
    · cases h0
    obtain ⟨_, h0⟩ | h := tget_any h
    · cases h0
    obtain ⟨_, h0⟩ | h := tget_any h
    · cases h0
    obtain ⟨_, h0⟩ | h := tget_any h
    · cases h0
    obtain ⟨_, h0⟩ | h := tget_any h
    · cases h0
    obtain ⟨_, h0⟩ | h := tget_any h
    · cases h0
    obtain ⟨_, h0⟩ | h := tget_any h
    · cases h0
    obtain ⟨_, h0⟩ | h := tget_any h
    · cases h0
    obtain ⟨_, h0⟩ | h := tget_any h
    · cases h0
    obtain ⟨_, h0⟩ | h := tget_any h
    · cases h0
    obtain ⟨_, h0⟩ | h := tget_any h
    · cases h0
    obtain ⟨_, h0⟩ | h := tget_any h
    · cases h0
    obtain ⟨_, h0⟩ | h := tget_any h
    · cases h0
    obtain ⟨_, h0⟩ | h := tget_any h
    · cases h0
    obtain ⟨_, h0⟩ | h := tget_any h
    · cases h0
    obtain ⟨_, h0⟩ | h := tget_any h
    · cases h0
    obtain ⟨_, h0⟩ | h := tget_any h
    · cases h0
    obtain ⟨_, h0⟩ | h := tget_any h
    · cases h0
    obtain ⟨_, h0⟩ | h := tget_any h
    · cases h0
    obtain ⟨_, h0⟩ | h := tget_any h
    · cases h0
    obtain ⟨_, h0⟩ | h := tget_any h
    · cases h0
    obtain ⟨_, h0⟩ | h := tget_any h
    · cases h0
    obtain ⟨_, h0⟩ | h := tget_any h
    · cases h0
    obtain ⟨_, h0⟩ | h := tget_any h
    · cases h0
    obtain ⟨_, h0⟩ | h := tget_any h
    · cases h0
    obtain ⟨_, h0⟩ | h := tget_any h
    · cases h0
    obtain ⟨_, h0⟩ | h := tget_any h
    · cases h0
    obtain ⟨_, h0⟩ | h := tget_any h
    · cases h0
    obtain ⟨_, h0⟩ | h := tget_any h
    · cases h0
    obtain ⟨_, h0⟩ | h := tget_any h
    · cases h0
    obtain ⟨_, h0⟩ | h := tget_any h
    · cases h0
    obtain ⟨_, h0⟩ | h := tget_any h
    · cases h0
    obtain ⟨_, h0⟩ | h := tget_any h
    · cases h0
    obtain ⟨_, h0⟩ | h := tget_any h
    · cases h0
    obtain ⟨_, h0⟩ | h := tget_any h
    · cases h0
    obtain ⟨_, h0⟩ | h := tget_any h
    · cases h0
    obtain ⟨_, h0⟩ | h := tget_any h
    · cases h0
    obtain ⟨_, h0⟩ | h := tget_any h
    · cases h0
    obtain ⟨_, h0⟩ | h := tget_any h
    · cases h0
    obtain ⟨_, h0⟩ | h := tget_any h
    · cases h0
    obtain ⟨_, h0⟩ | h := tget_any h
    · cases h0
    obtain ⟨_, h0⟩ | h := tget_any h
    · cases h0
    obtain ⟨_, h0⟩ | h := tget_any h
    · cases h0
    obtain ⟨_, h0⟩ | h := tget_any h
    · cases h0
    obtain ⟨_, h0⟩ | h := tget_any h
    · cases h0
    obtain ⟨_, h0⟩ | h := tget_any h
    · cases h0
    obtain ⟨_, h0⟩ | h := tget_any h
    · cases h0
    obtain ⟨_, h0⟩ | h := tget_any h
    · cases h0
    obtain ⟨_, h0⟩ | h := tget_any h
    · cases h0
    obtain ⟨_, h0⟩ | h := tget_any h
    · cases h0
    obtain ⟨_, h0⟩ | h := tget_any h
    · cases h0
    obtain ⟨_, h0⟩ | h := tget_any h
    · cases h0
    obtain ⟨_, h0⟩ | h := tget_any h
    · cases h0
    obtain ⟨_, h0⟩ | h := tget_any h
    · cases h0
    obtain ⟨_, h0⟩ | h := tget_any h
    · cases h0
    obtain ⟨_, h0⟩ | h := tget_any h
    · cases h0
    obtain ⟨_, h0⟩ | h := tget_any h
    · cases h0
    obtain ⟨_, h0⟩ | h := tget_any h
    · cases h0
    obtain ⟨_, h0⟩ | h := tget_any h
    · cases h0
    obtain ⟨_, h0⟩ | h := tget_any h
    · cases h0
    obtain ⟨_, h0⟩ | h := tget_any h
    · cases h0
    obtain ⟨_, h0⟩ | h := tget_any h
    · cases h0
    obtain ⟨_, h0⟩ | h := tget_any h
    · cases h0
    obtain ⟨_, h0⟩ | h := tget_any h
    · cases h0
    obtain ⟨_, h0⟩ | h := tget_any h
    · cases h0
    obtain ⟨_, h0⟩ | h := tget_any h
    · cases h0
    obtain ⟨_, h0⟩ | h := tget_any h
    · cases h0
    obtain ⟨_, h0⟩ | h := tget_any h
    · cases h0
    cases h
  ct := by
    intro f d h
    obtain ⟨_, h0⟩ | h := tget_any h
    · cases h0
    obtain ⟨_, h0⟩ | h := tget_any h
    · cases h0
    obtain ⟨_, h0⟩ | h := tget_any h
    · cases h0
    obtain ⟨_, h0⟩ | h := tget_any h
    · cases h0
    obtain ⟨_, h0⟩ | h := tget_any h
    · cases h0
    obtain ⟨_, h0⟩ | h := tget_any h
    · cases h0
    obtain ⟨_, h0⟩ | h := tget_any h
    · cases h0
    obtain ⟨_, h0⟩ | h := tget_any h
    · cases h0
    obtain ⟨_, h0⟩ | h := tget_any h
    · cases h0
    obtain ⟨_, h0⟩ | h := tget_any h
    · cases h0
    obtain ⟨_, h0⟩ | h := tget_any h
    · cases h0
    obtain ⟨_, h0⟩ | h := tget_any h
    · cases h0
    obtain ⟨_, h0⟩ | h := tget_any h
    · cases h0
    obtain ⟨_, h0⟩ | h := tget_any h
    · cases h0
    obtain ⟨_, h0⟩ | h := tget_any h
    · cases h0
    obtain ⟨_, h0⟩ | h := tget_any h
    · cases h0
    obtain ⟨_, h0⟩ | h := tget_any h
    · cases h0
    obtain ⟨_, h0⟩ | h := tget_any h
    · cases h0
    obtain ⟨_, h0⟩ | h := tget_any h
    · cases h0
    obtain ⟨_, h0⟩ | h := tget_any h
    · cases h0
    obtain ⟨_, h0⟩ | h := tget_any h
    · cases h0
    obtain ⟨_, h0⟩ | h := tget_any h
    · cases h0
    obtain ⟨_, h0⟩ | h := tget_any h
    · cases h0
    obtain ⟨_, h0⟩ | h := tget_any h
    · cases h0
    obtain ⟨_, h0⟩ | h := tget_any h
    · cases h0
    obtain ⟨_, h0⟩ | h := tget_any h
    · cases h0
    obtain ⟨_, h0⟩ | h := tget_any h
    · cases h0
    obtain ⟨_, h0⟩ | h := tget_any h
    · cases h0
    obtain ⟨_, h0⟩ | h := tget_any h
    · cases h0
    obtain ⟨_, h0⟩ | h := tget_any h
    · cases h0
    obtain ⟨_, h0⟩ | h := tget_any h
    · cases h0
    obtain ⟨_, h0⟩ | h := tget_any h
    · cases h0
    obtain ⟨_, h0⟩ | h := tget_any h
    · cases h0
    obtain ⟨_, h0⟩ | h := tget_any h
    · cases h0
    obtain ⟨_, h0⟩ | h := tget_any h
    · cases h0
    obtain ⟨_, h0⟩ | h := tget_any h
    · cases h0
    obtain ⟨_, h0⟩ | h := tget_any h
    · cases h0
    obtain ⟨_, h0⟩ | h := tget_any h
    · cases h0
    obtain ⟨_, h0⟩ | h := tget_any h
    · cases h0
    obtain ⟨_, h0⟩ | h := tget_any h
    · cases h0
    obtain ⟨_, h0⟩ | h := tget_any h
    · cases h0
    obtain ⟨_, h0⟩ | h := tget_any h
    · cases h0
    obtain ⟨_, h0⟩ | h := tget_any h
    · cases h0
    obtain ⟨_, h0⟩ | h := tget_any h
    · cases h0
    obtain ⟨_, h0⟩ | h := tget_any h
    · cases h0
    obtain ⟨_, h0⟩ | h := tget_any h
    · cases h0
    obtain ⟨_, h0⟩ | h := tget_any h
    · cases h0
    obtain ⟨_, h0⟩ | h := tget_any h
    · cases h0
    obtain ⟨_, h0⟩ | h := tget_any h
    · cases h0
    obtain ⟨_, h0⟩ | h := tget_any h
    · cases h0
    obtain ⟨_, h0⟩ | h := tget_any h
    · cases h0
    obtain ⟨_, h0⟩ | h := tget_any h
    · cases h0
    obtain ⟨_, h0⟩ | h := tget_any h
    · cases h0
    obtain ⟨_, h0⟩ | h := tget_any h
    · cases h0
    obtain ⟨_, h0⟩ | h := tget_any h
    · cases h0
    obtain ⟨_, h0⟩ | h := tget_any h
    · cases h0
    obtain ⟨_, h0⟩ | h := tget_any h
    · cases h0
    obtain ⟨_, h0⟩ | h := tget_any h
    · cases h0
    obtain ⟨_, h0⟩ | h := tget_any h
    · cases h0
    obtain ⟨_, h0⟩ | h := tget_any h
    · cases h0
    obtain ⟨_, h0⟩ | h := tget_any h
    · cases h0
    obtain ⟨_, h0⟩ | h := tget_any h
    · cases h0
    obtain ⟨_, h0⟩ | h := tget_any h
    · cases h0
    obtain ⟨_, h0⟩ | h := tget_any h
    · cases h0
    obtain ⟨_, h0⟩ | h := tget_any h
    · cases h0
    obtain ⟨_, h0⟩ | h := tget_any h
    · cases h0
    obtain ⟨_, h0⟩ | h := tget_any h
    · cases h0
    obtain ⟨_, h0⟩ | h := tget_any h
    · cases h0
    obtain ⟨_, h0⟩ | h := tget_any h
    · cases h0
    obtain ⟨_, h0⟩ | h := tget_any h
    · cases h0
    obtain ⟨_, h0⟩ | h := tget_any h
    · cases h0
    obtain ⟨_, h0⟩ | h := tget_any h
    · cases h0
    obtain ⟨_, h0⟩ | h := tget_any h
    · cases h0
    obtain ⟨_, h0⟩ | h := tget_any h
    · cases h0
    obtain ⟨_, h0⟩ | h := tget_any h
    · cases h0
    cases h
  mr := by
    intro f d h
    obtain ⟨_, h0⟩ | h := tget_any h
    · cases h0
    obtain ⟨_, h0⟩ | h := tget_any h
    · cases h0
    obtain ⟨_, h0⟩ | h := tget_any h
    · cases h0
    obtain ⟨_, h0⟩ | h := tget_any h
    · cases h0
    obtain ⟨_, h0⟩ | h := tget_any h
    · cases h0
    obtain ⟨rfl, h0⟩ | h := tget_any h
    · cases h0; exact ok12
    obtain ⟨_, h0⟩ | h := tget_any h
    · cases h0
    obtain ⟨_, h0⟩ | h := tget_any h
    · cases h0
    obtain ⟨_, h0⟩ | h := tget_any h
    · cases h0
    obtain ⟨_, h0⟩ | h := tget_any h
    · cases h0
    obtain ⟨_, h0⟩ | h := tget_any h
    · cases h0
    obtain ⟨_, h0⟩ | h := tget_any h
    · cases h0
    obtain ⟨_, h0⟩ | h := tget_any h
    · cases h0
    obtain ⟨_, h0⟩ | h := tget_any h
    · cases h0
    obtain ⟨_, h0⟩ | h := tget_any h
    · cases h0
    obtain ⟨_, h0⟩ | h := tget_any h
    · cases h0
    obtain ⟨_, h0⟩ | h := tget_any h
    · cases h0
    obtain ⟨_, h0⟩ | h := tget_any h
    · cases h0
    obtain ⟨_, h0⟩ | h := tget_any h
    · cases h0
    obtain ⟨_, h0⟩ | h := tget_any h
    · cases h0
    obtain ⟨_, h0⟩ | h := tget_any h
    · cases h0
    obtain ⟨_, h0⟩ | h := tget_any h
    · cases h0
    obtain ⟨_, h0⟩ | h := tget_any h
    · cases h0
    obtain ⟨_, h0⟩ | h := tget_any h
    · cases h0
    obtain ⟨_, h0⟩ | h := tget_any h
    · cases h0
    obtain ⟨_, h0⟩ | h := tget_any h
    · cases h0
    obtain ⟨_, h0⟩ | h := tget_any h
    · cases h0
    obtain ⟨_, h0⟩ | h := tget_any h
    · cases h0
    obtain ⟨_, h0⟩ | h := tget_any h
    · cases h0
    obtain ⟨_, h0⟩ | h := tget_any h
    · cases h0
    obtain ⟨_, h0⟩ | h := tget_any h
    · cases h0
    obtain ⟨_, h0⟩ | h := tget_any h
    · cases h0
    obtain ⟨_, h0⟩ | h := tget_any h
    · cases h0
    obtain ⟨_, h0⟩ | h := tget_any h
    · cases h0
    obtain ⟨_, h0⟩ | h := tget_any h
    · cases h0
    obtain ⟨_, h0⟩ | h := tget_any h
    · cases h0
    obtain ⟨_, h0⟩ | h := tget_any h
    · cases h0
    obtain ⟨_, h0⟩ | h := tget_any h
    · cases h0
    obtain ⟨_, h0⟩ | h := tget_any h
    · cases h0
    obtain ⟨_, h0⟩ | h := tget_any h
    · cases h0
    obtain ⟨_, h0⟩ | h := tget_any h
    · cases h0
    obtain ⟨_, h0⟩ | h := tget_any h
    · cases h0
    obtain ⟨_, h0⟩ | h := tget_any h
    · cases h0
    obtain ⟨_, h0⟩ | h := tget_any h
    · cases h0
    obtain ⟨_, h0⟩ | h := tget_any h
    · cases h0
    obtain ⟨_, h0⟩ | h := tget_any h
    · cases h0
    obtain ⟨_, h0⟩ | h := tget_any h
    · cases h0
    obtain ⟨_, h0⟩ | h := tget_any h
    · cases h0
    obtain ⟨_, h0⟩ | h := tget_any h
    · cases h0
    obtain ⟨_, h0⟩ | h := tget_any h
    · cases h0
    obtain ⟨_, h0⟩ | h := tget_any h
    · cases h0
    obtain ⟨_, h0⟩ | h := tget_any h
    · cases h0
    obtain ⟨_, h0⟩ | h := tget_any h
    · cases h0
    obtain ⟨_, h0⟩ | h := tget_any h
    · cases h0
    obtain ⟨_, h0⟩ | h := tget_any h
    · cases h0
    obtain ⟨_, h0⟩ | h := tget_any h
    · cases h0
    obtain ⟨_, h0⟩ | h := tget_any h
    · cases h0
    obtain ⟨_, h0⟩ | h := tget_any h
    · cases h0
    obtain ⟨_, h0⟩ | h := tget_any h
    · cases h0
    obtain ⟨_, h0⟩ | h := tget_any h
    · cases h0
    obtain ⟨_, h0⟩ | h := tget_any h
    · cases h0
    obtain ⟨_, h0⟩ | h := tget_any h
    · cases h0
    obtain ⟨_, h0⟩ | h := tget_any h
    · cases h0
    obtain ⟨_, h0⟩ | h := tget_any h
    · cases h0
    obtain ⟨_, h0⟩ | h := tget_any h
    · cases h0
    obtain ⟨_, h0⟩ | h := tget_any h
    · cases h0
    obtain ⟨_, h0⟩ | h := tget_any h
    · cases h0
    obtain ⟨_, h0⟩ | h := tget_any h
    · cases h0
    obtain ⟨_, h0⟩ | h := tget_any h
    · cases h0
    obtain ⟨_, h0⟩ | h := tget_any h
    · cases h0
    obtain ⟨_, h0⟩ | h := tget_any h
    · cases h0
    obtain ⟨_, h0⟩ | h := tget_any h
    · cases h0
    obtain ⟨_, h0⟩ | h := tget_any h
    · cases h0
    obtain ⟨_, h0⟩ | h := tget_any h
    · cases h0
    obtain ⟨_, h0⟩ | h := tget_any h
    · cases h0
    cases h
  mix := mix
  rk := fun f r ct => RkOf_gl (s := sys0) (t := sys) rfl
theorem tg4 : tget T 4 = some (.fn c4) := by rfl
theorem tg6 : tget T 6 = some (.fn c6) := by rfl
theorem tg7 : tget T 7 = some (.fn c7) := by rfl
theorem tg10 : tget T 10 = some (.fn c10) := by rfl
theorem tg11 : tget T 11 = some (.fn c11) := by rfl
theorem tg12 : tget T 12 = some (.mr c12) := by rfl
theorem tg13 : tget T 13 = some (.fn c13) := by rfl
theorem tg14 : tget T 14 = some (.fn c14) := by rfl
theorem tg15 : tget T 15 = some (.fn c15) := by rfl
theorem tg16 : tget T 16 = some (.fn c16) := by rfl
theorem tg17 : tget T 17 = some (.fn c17) := by rfl
theorem tg18 : tget T 18 = some (.fn c18) := by rfl
theorem tg19 : tget T 19 = some (.fn c19) := by rfl
theorem tg20 : tget T 20 = some (.fn c20) := by rfl
theorem tg21 : tget T 21 = some (.fn c21) := by rfl
theorem tg22 : tget T 22 = some (.fn c22) := by rfl
theorem tg23 : tget T 23 = some (.fn c23) := by rfl
theorem tg28 : tget T 28 = some (.fn c28) := by rfl
theorem tg29 : tget T 29 = some (.fn c29) := by rfl
theorem tg30 : tget T 30 = some (.fn c30) := by rfl
theorem tg33 : tget T 33 = some (.fn c33) := by rfl
theorem tg35 : tget T 35 = some (.fn c35) := by rfl
theorem tg36 : tget T 36 = some (.fn c36) := by rfl
theorem tg37 : tget T 37 = some (.fn c37) := by rfl
theorem tg38 : tget T 38 = some (.fn c38) := by rfl
theorem tg39 : tget T 39 = some (.fn c39) := by rfl
theorem tg40 : tget T 40 = some (.fn c40) := by rfl
theorem tg41 : tget T 41 = some (.fn c41) := by rfl
theorem tg42 : tget T 42 = some (.fn c42) := by rfl
theorem tg48 : tget T 48 = some (.fn c48) := by rfl
theorem tg49 : tget T 49 = some (.fn c49) := by rfl
theorem tg50 : tget T 50 = some (.fn c50) := by rfl
theorem tg51 : tget T 51 = some (.fn c51) := by rfl
theorem tg52 : tget T 52 = some (.fn c52) := by rfl
theorem tg53 : tget T 53 = some (.fn c53) := by rfl
theorem tg54 : tget T 54 = some (.fn c54) := by rfl
theorem tg55 : tget T 55 = some (.fn c55) := by rfl
theorem tg56 : tget T 56 = some (.fn c56) := by rfl
theorem tg57 : tget T 57 = some (.fn c57) := by rfl
theorem tg58 : tget T 58 = some (.fn c58) := by rfl
theorem tg59 : tget T 59 = some (.fn c59) := by rfl
theorem tg60 : tget T 60 = some (.fn c60) := by rfl
theorem tg61 : tget T 61 = some (.fn c61) := by rfl
theorem tg76 : tget T 76 = some (.fn c76) := by rfl
theorem tg77 : tget T 77 = some (.fn c77) := by rfl
theorem tg78 : tget T 78 = some (.fn c78) := by rfl
theorem tg79 : tget T 79 = some (.fn c79) := by rfl
theorem tg80 : tget T 80 = some (.fn c80) := by rfl
theorem tg81 : tget T 81 = some (.fn c81) := by rfl
theorem tg82 : tget T 82 = some (.fn c82) := by rfl
theorem tg83 : tget T 83 = some (.fn c83) := by rfl
theorem tg84 : tget T 84 = some (.fn c84) := by rfl
theorem tg85 : tget T 85 = some (.fn c85) := by rfl
theorem tg87 : tget T 87 = some (.fn c87) := by rfl
theorem tg88 : tget T 88 = some (.fn c88) := by rfl
theorem tg89 : tget T 89 = some (.fn c89) := by rfl
theorem tg90 : tget T 90 = some (.fn c90) := by rfl
theorem tg91 : tget T 91 = some (.fn c91) := by rfl
theorem tg92 : tget T 92 = some (.fn c92) := by rfl
theorem tg93 : tget T 93 = some (.fn c93) := by rfl
theorem tg94 : tget T 94 = some (.fn c94) := by rfl
theorem tg95 : tget T 95 = some (.fn c95) := by rfl
theorem tg101 : tget T 101 = some (.fn c101) := by rfl
theorem tg105 : tget T 105 = some (.fn c105) := by rfl
theorem tg106 : tget T 106 = some (.fn c106) := by rfl
theorem tg107 : tget T 107 = some (.fn c107) := by rfl
theorem tg108 : tget T 108 = some (.fn c108) := by rfl
theorem tg109 : tget T 109 = some (.fn c109) := by rfl
theorem tg110 : tget T 110 = some (.fn c110) := by rfl
theorem tg111 : tget T 111 = some (.fn c111) := by rfl
theorem tg119 : tget T 119 = some (.fn c119) := by rfl
theorem tg1001400 : tget T 1001400 = some (.rd r1001400) := by rfl
theorem tg1001600 : tget T 1001600 = some (.rd r1001600) := by rfl
theorem tg1001800 : tget T 1001800 = some (.rd r1001800) := by rfl
theorem tg1003000 : tget T 1003000 = some (.rd r1003000) := by rfl
end Go.Proofs.YtkobnfjeehnhlaaDoor.Fi
