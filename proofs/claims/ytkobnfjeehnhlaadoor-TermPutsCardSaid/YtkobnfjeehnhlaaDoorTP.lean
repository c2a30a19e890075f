/- The code of the functions, in the interpreter's form: the other half, and the table. -/
import Derived.Test.YtkobnfjeehnhlaaDoorTPa
set_option linter.all false
set_option linter.unusedSimpArgs false
set_option linter.unusedVariables false
set_option linter.unusedSectionVars false
namespace Go.Proofs.YtkobnfjeehnhlaaDoor.Fi
open Go.FI
def b40_0 : C := (.sq (.sq (.rg none [⟨some 7, none, .mv (.t 3), []⟩, ⟨some 8, none, .fa 5 (.t 1), []⟩, ⟨some 9, none, .ld none (.t 8), []⟩, ⟨some 10, none, .ln 1 (.t 9), []⟩, ⟨some 11, none, .bo .lss (.t 7) (.t 10), []⟩] [1, 3, 11]) (.cd (.t 11) .sk (.xt 0))) (.sq (.bl 1 (.sq (.rg none [⟨some 14, none, .fa 5 (.t 1), []⟩, ⟨some 15, none, .ld none (.t 14), []⟩, ⟨some 16, none, .mv (.t 3), []⟩, ⟨some 17, none, .ia 6 (.t 15) (.t 16), []⟩, ⟨some 18, none, .ld (some 6) (.t 17), []⟩, ⟨some 19, none, .cl 40 [(.t 18)], []⟩, ⟨some 20, none, .un .not (.t 19), []⟩] [1, 3, 20]) (.cd (.t 20) (.sq (.rg none [⟨some 2, none, .mv (.c (.bool false)), []⟩] [2]) .rt) .sk))) (.rg none [⟨some 12, none, .mv (.t 3), []⟩, ⟨some 13, none, .bo .add (.t 12) (.c (.int .i64 1)), []⟩, ⟨some 3, none, .mv (.t 13), []⟩] [1, 3])))
def k40_1 : C := (.sq (.rg (some [0, 1, 2, 3, 4, 5, 6]) [⟨some 21, none, .fa 1 (.t 1), []⟩, ⟨some 22, none, .ld none (.t 21), []⟩, ⟨some 23, none, .fa 5 (.t 1), []⟩, ⟨some 24, none, .ld none (.t 23), []⟩, ⟨some 25, none, .ln 1 (.t 24), []⟩, ⟨some 4, none, .mv (.t 22), []⟩, ⟨some 5, none, .mv (.t 25), []⟩] [1, 4, 5]) (.sq (.sq (.rg none [⟨some 26, none, .mv (.t 4), []⟩, ⟨some 27, none, .cl 58 [(.t 26)], []⟩, ⟨some 28, none, .un .not (.t 27), []⟩] [1, 4, 5, 28]) (.cd (.t 28) (.sq (.rg none [⟨some 2, none, .mv (.c (.bool false)), []⟩] [2]) .rt) .sk)) (.sq (.sq (.rg none [⟨some 29, none, .fa 0 (.t 1), []⟩, ⟨some 30, none, .ld none (.t 29), []⟩] [1, 4, 5, 30]) (.bl 2 (.sq (.rg none [⟨some 32, none, .bo .eql (.t 30) (.c (.int .u8 1)), []⟩, ⟨some 31, none, .mv (.t 32), []⟩] [1, 4, 5, 30, 31]) (.cd (.t 31) (.sq (.rg none [⟨some 33, none, .mv (.t 5), []⟩, ⟨some 34, none, .bo .eql (.t 33) (.c (.int .i64 0)), []⟩, ⟨some 35, none, .mv (.t 34), []⟩, ⟨some 36, some (35, true), .fa 3 (.t 1), []⟩, ⟨some 37, some (35, true), .ld none (.t 36), []⟩, ⟨some 38, some (35, true), .bo .eql (.t 37) (.c (.str [])), []⟩, ⟨some 39, none, .pk (.t 35) (.t 38) (.c (.bool false)), []⟩, ⟨some 40, none, .mv (.t 39), []⟩, ⟨some 41, some (40, true), .fa 4 (.t 1), []⟩, ⟨some 42, some (40, true), .ld none (.t 41), []⟩, ⟨some 43, some (40, true), .bo .eql (.t 42) (.c (.int .i64 0)), []⟩, ⟨some 44, none, .pk (.t 40) (.t 43) (.c (.bool false)), []⟩, ⟨some 45, none, .mv (.t 44), []⟩, ⟨some 46, some (45, true), .mv (.t 4), []⟩, ⟨some 47, some (45, true), .fa 2 (.t 1), []⟩, ⟨some 48, some (45, true), .ld none (.t 47), []⟩, ⟨some 49, some (45, true), .cl 59 [(.t 46), (.t 48)], []⟩, ⟨some 50, none, .pk (.t 45) (.t 49) (.c (.bool false)), []⟩, ⟨some 2, none, .mv (.t 50), []⟩] [2]) .rt) (.sq (.rg none [⟨some 52, none, .bo .eql (.t 30) (.c (.int .u8 2)), []⟩, ⟨some 51, none, .mv (.t 52), []⟩] [1, 4, 5, 51]) (.cd (.t 51) (.sq (.rg none [⟨some 53, none, .mv (.t 5), []⟩, ⟨some 54, none, .bo .eql (.t 53) (.c (.int .i64 0)), []⟩, ⟨some 55, none, .mv (.t 54), []⟩, ⟨some 56, some (55, true), .fa 2 (.t 1), []⟩, ⟨some 57, some (55, true), .ld none (.t 56), []⟩, ⟨some 58, some (55, true), .bo .eql (.t 57) (.c (.int .u64 0)), []⟩, ⟨some 59, none, .pk (.t 55) (.t 58) (.c (.bool false)), []⟩, ⟨some 60, none, .mv (.t 59), []⟩, ⟨some 61, some (60, true), .fa 4 (.t 1), []⟩, ⟨some 62, some (60, true), .ld none (.t 61), []⟩, ⟨some 63, some (60, true), .bo .eql (.t 62) (.c (.int .i64 0)), []⟩, ⟨some 64, none, .pk (.t 60) (.t 63) (.c (.bool false)), []⟩, ⟨some 65, none, .mv (.t 64), []⟩, ⟨some 66, some (65, true), .fa 3 (.t 1), []⟩, ⟨some 67, some (65, true), .ld none (.t 66), []⟩, ⟨some 68, some (65, true), .cl 60 [(.t 67)], []⟩, ⟨some 69, none, .pk (.t 65) (.t 68) (.c (.bool false)), []⟩, ⟨some 2, none, .mv (.t 69), []⟩] [2]) .rt) .sk)))))) (.sq (.sq (.rg none [⟨some 70, none, .fa 0 (.t 1), []⟩, ⟨some 71, none, .ld none (.t 70), []⟩, ⟨some 72, none, .bo .lss (.t 71) (.c (.int .u8 3)), []⟩, ⟨some 73, none, .mv (.t 72), []⟩, ⟨some 74, some (73, false), .fa 0 (.t 1), []⟩, ⟨some 75, some (73, false), .ld none (.t 74), []⟩, ⟨some 76, some (73, false), .bo .gtr (.t 75) (.c (.int .u8 24)), []⟩, ⟨some 77, none, .pk (.t 73) (.c (.bool true)) (.t 76), []⟩, ⟨some 78, none, .mv (.t 77), []⟩, ⟨some 79, some (78, false), .fa 2 (.t 1), []⟩, ⟨some 80, some (78, false), .ld none (.t 79), []⟩, ⟨some 81, some (78, false), .bo .neq (.t 80) (.c (.int .u64 0)), []⟩, ⟨some 82, none, .pk (.t 78) (.c (.bool true)) (.t 81), []⟩, ⟨some 83, none, .mv (.t 82), []⟩, ⟨some 84, some (83, false), .fa 3 (.t 1), []⟩, ⟨some 85, some (83, false), .ld none (.t 84), []⟩, ⟨some 86, some (83, false), .bo .neq (.t 85) (.c (.str [])), []⟩, ⟨some 87, none, .pk (.t 83) (.c (.bool true)) (.t 86), []⟩, ⟨some 88, none, .mv (.t 87), []⟩, ⟨some 89, some (88, false), .fa 4 (.t 1), []⟩, ⟨some 90, some (88, false), .ld none (.t 89), []⟩, ⟨some 91, some (88, false), .bo .neq (.t 90) (.c (.int .i64 0)), []⟩, ⟨some 92, some (88, false), .mv (.t 91), []⟩, ⟨some 93, some (92, true), .fa 0 (.t 1), []⟩, ⟨some 94, some (92, true), .ld none (.t 93), []⟩, ⟨some 95, some (92, true), .bo .neq (.t 94) (.c (.int .u8 21)), []⟩, ⟨some 96, some (88, false), .pk (.t 92) (.t 95) (.c (.bool false)), []⟩, ⟨some 97, none, .pk (.t 88) (.c (.bool true)) (.t 96), []⟩, ⟨some 98, none, .mv (.t 97), []⟩, ⟨some 99, some (98, false), .mv (.t 5), []⟩, ⟨some 100, some (98, false), .bo .eql (.t 99) (.c (.int .i64 0)), []⟩, ⟨some 101, none, .pk (.t 98) (.c (.bool true)) (.t 100), []⟩] [1, 4, 5, 101]) (.cd (.t 101) (.sq (.rg none [⟨some 2, none, .mv (.c (.bool false)), []⟩] [2]) .rt) .sk)) (.sq (.rg none [⟨some 102, none, .fa 5 (.t 1), []⟩, ⟨some 103, none, .ld none (.t 102), []⟩, ⟨some 104, none, .ia 6 (.t 103) (.c (.int .i64 0)), []⟩, ⟨some 105, none, .fa 1 (.t 104), []⟩, ⟨some 106, none, .ld none (.t 105), []⟩, ⟨some 6, none, .mv (.t 106), []⟩] [1, 4, 5, 6]) (.sq (.sq (.rg none [⟨some 107, none, .fa 0 (.t 1), []⟩, ⟨some 108, none, .ld none (.t 107), []⟩] [1, 4, 5, 6, 108]) (.bl 3 (.sq (.sq (.rg none [⟨some 110, none, .bo .eql (.t 108) (.c (.int .u8 3)), []⟩, ⟨some 109, none, .mv (.t 110), []⟩] [1, 4, 5, 6, 108, 109]) (.cd (.t 109) .sk (.rg none [⟨some 111, none, .bo .eql (.t 108) (.c (.int .u8 4)), []⟩, ⟨some 109, none, .mv (.t 111), []⟩] [1, 4, 5, 6, 108, 109]))) (.cd (.t 109) (.sq (.rg none [⟨some 112, none, .mv (.t 5), []⟩, ⟨some 113, none, .bo .eql (.t 112) (.c (.int .i64 1)), []⟩, ⟨some 114, none, .mv (.t 113), []⟩, ⟨some 115, some (114, true), .mv (.t 6), []⟩, ⟨some 116, some (114, true), .mv (.t 4), []⟩, ⟨some 117, some (114, true), .bo .eql (.t 115) (.t 116), []⟩, ⟨some 118, none, .pk (.t 114) (.t 117) (.c (.bool false)), []⟩, ⟨some 2, none, .mv (.t 118), []⟩] [2]) .rt) (.sq (.sq (.rg none [⟨some 120, none, .bo .eql (.t 108) (.c (.int .u8 16)), []⟩, ⟨some 119, none, .mv (.t 120), []⟩] [1, 4, 5, 6, 108, 119]) (.cd (.t 119) .sk (.sq (.rg none [⟨some 121, none, .bo .eql (.t 108) (.c (.int .u8 17)), []⟩, ⟨some 119, none, .mv (.t 121), []⟩] [1, 4, 5, 6, 108, 119]) (.cd (.t 119) .sk (.rg none [⟨some 122, none, .bo .eql (.t 108) (.c (.int .u8 18)), []⟩, ⟨some 119, none, .mv (.t 122), []⟩] [1, 4, 5, 6, 108, 119]))))) (.cd (.t 119) (.sq (.rg none [⟨some 123, none, .mv (.t 5), []⟩, ⟨some 124, none, .bo .eql (.t 123) (.c (.int .i64 2)), []⟩, ⟨some 125, none, .mv (.t 124), []⟩, ⟨some 126, some (125, true), .mv (.t 4), []⟩, ⟨some 127, some (125, true), .bo .eql (.t 126) (.c (.int .i64 1)), []⟩, ⟨some 128, none, .pk (.t 125) (.t 127) (.c (.bool false)), []⟩, ⟨some 129, none, .mv (.t 128), []⟩, ⟨some 130, some (129, true), .fa 5 (.t 1), []⟩, ⟨some 131, some (129, true), .ld none (.t 130), []⟩, ⟨some 132, some (129, true), .ia 6 (.t 131) (.c (.int .i64 1)), []⟩, ⟨some 133, some (129, true), .fa 1 (.t 132), []⟩, ⟨some 134, some (129, true), .ld none (.t 133), []⟩, ⟨some 135, some (129, true), .mv (.t 6), []⟩, ⟨some 136, some (129, true), .bo .eql (.t 134) (.t 135), []⟩, ⟨some 137, none, .pk (.t 129) (.t 136) (.c (.bool false)), []⟩, ⟨some 2, none, .mv (.t 137), []⟩] [2]) .rt) (.sq (.rg none [⟨some 139, none, .bo .eql (.t 108) (.c (.int .u8 19)), []⟩, ⟨some 138, none, .mv (.t 139), []⟩] [1, 4, 5, 6, 108, 138]) (.cd (.t 138) (.sq (.rg none [⟨some 140, none, .mv (.t 5), []⟩, ⟨some 141, none, .bo .eql (.t 140) (.c (.int .i64 3)), []⟩, ⟨some 142, none, .mv (.t 141), []⟩, ⟨some 143, some (142, true), .mv (.t 6), []⟩, ⟨some 144, some (142, true), .bo .eql (.t 143) (.c (.int .i64 1)), []⟩, ⟨some 145, none, .pk (.t 142) (.t 144) (.c (.bool false)), []⟩, ⟨some 146, none, .mv (.t 145), []⟩, ⟨some 147, some (146, true), .fa 5 (.t 1), []⟩, ⟨some 148, some (146, true), .ld none (.t 147), []⟩, ⟨some 149, some (146, true), .ia 6 (.t 148) (.c (.int .i64 1)), []⟩, ⟨some 150, some (146, true), .fa 1 (.t 149), []⟩, ⟨some 151, some (146, true), .ld none (.t 150), []⟩, ⟨some 152, some (146, true), .mv (.t 4), []⟩, ⟨some 153, some (146, true), .bo .eql (.t 151) (.t 152), []⟩, ⟨some 154, none, .pk (.t 146) (.t 153) (.c (.bool false)), []⟩, ⟨some 155, none, .mv (.t 154), []⟩, ⟨some 156, some (155, true), .fa 5 (.t 1), []⟩, ⟨some 157, some (155, true), .ld none (.t 156), []⟩, ⟨some 158, some (155, true), .ia 6 (.t 157) (.c (.int .i64 2)), []⟩, ⟨some 159, some (155, true), .fa 1 (.t 158), []⟩, ⟨some 160, some (155, true), .ld none (.t 159), []⟩, ⟨some 161, some (155, true), .mv (.t 4), []⟩, ⟨some 162, some (155, true), .bo .eql (.t 160) (.t 161), []⟩, ⟨some 163, none, .pk (.t 155) (.t 162) (.c (.bool false)), []⟩, ⟨some 2, none, .mv (.t 163), []⟩] [2]) .rt) (.sq (.rg none [⟨some 165, none, .bo .eql (.t 108) (.c (.int .u8 20)), []⟩, ⟨some 164, none, .mv (.t 165), []⟩] [1, 4, 5, 6, 108, 164]) (.cd (.t 164) (.sq (.rg none [⟨some 166, none, .mv (.t 5), []⟩, ⟨some 167, none, .bo .eql (.t 166) (.c (.int .i64 2)), []⟩, ⟨some 168, none, .mv (.t 167), []⟩, ⟨some 169, some (168, true), .mv (.t 6), []⟩, ⟨some 170, some (168, true), .fa 5 (.t 1), []⟩, ⟨some 171, some (168, true), .ld none (.t 170), []⟩, ⟨some 172, some (168, true), .ia 6 (.t 171) (.c (.int .i64 1)), []⟩, ⟨some 173, some (168, true), .fa 1 (.t 172), []⟩, ⟨some 174, some (168, true), .ld none (.t 173), []⟩, ⟨some 175, some (168, true), .bo .add (.t 169) (.t 174), []⟩, ⟨some 176, some (168, true), .mv (.t 4), []⟩, ⟨some 177, some (168, true), .bo .eql (.t 175) (.t 176), []⟩, ⟨some 178, none, .pk (.t 168) (.t 177) (.c (.bool false)), []⟩, ⟨some 2, none, .mv (.t 178), []⟩] [2]) .rt) (.sq (.rg none [⟨some 180, none, .bo .eql (.t 108) (.c (.int .u8 21)), []⟩, ⟨some 179, none, .mv (.t 180), []⟩] [1, 4, 5, 6, 108, 179]) (.cd (.t 179) (.sq (.rg none [⟨some 181, none, .mv (.t 5), []⟩, ⟨some 182, none, .bo .eql (.t 181) (.c (.int .i64 1)), []⟩, ⟨some 183, none, .mv (.t 182), []⟩, ⟨some 184, some (183, true), .fa 4 (.t 1), []⟩, ⟨some 185, some (183, true), .ld none (.t 184), []⟩, ⟨some 186, some (183, true), .bo .geq (.t 185) (.c (.int .i64 0)), []⟩, ⟨some 187, none, .pk (.t 183) (.t 186) (.c (.bool false)), []⟩, ⟨some 188, none, .mv (.t 187), []⟩, ⟨some 189, some (188, true), .fa 4 (.t 1), []⟩, ⟨some 190, some (188, true), .ld none (.t 189), []⟩, ⟨some 191, some (188, true), .mv (.t 6), []⟩, ⟨some 192, some (188, true), .bo .leq (.t 190) (.t 191), []⟩, ⟨some 193, none, .pk (.t 188) (.t 192) (.c (.bool false)), []⟩, ⟨some 194, none, .mv (.t 193), []⟩, ⟨some 195, some (194, true), .fa 4 (.t 1), []⟩, ⟨some 196, some (194, true), .ld none (.t 195), []⟩, ⟨some 197, some (194, true), .mv (.t 4), []⟩, ⟨some 198, some (194, true), .bo .add (.t 196) (.t 197), []⟩, ⟨some 199, some (194, true), .mv (.t 6), []⟩, ⟨some 200, some (194, true), .bo .leq (.t 198) (.t 199), []⟩, ⟨some 201, none, .pk (.t 194) (.t 200) (.c (.bool false)), []⟩, ⟨some 2, none, .mv (.t 201), []⟩] [2]) .rt) (.sq (.sq (.rg none [⟨some 203, none, .bo .eql (.t 108) (.c (.int .u8 22)), []⟩, ⟨some 202, none, .mv (.t 203), []⟩] [1, 4, 5, 6, 108, 202]) (.cd (.t 202) .sk (.rg none [⟨some 204, none, .bo .eql (.t 108) (.c (.int .u8 23)), []⟩, ⟨some 202, none, .mv (.t 204), []⟩] [1, 4, 5, 6, 108, 202]))) (.cd (.t 202) (.sq (.rg none [⟨some 205, none, .mv (.t 5), []⟩, ⟨some 206, none, .bo .eql (.t 205) (.c (.int .i64 1)), []⟩, ⟨some 207, none, .mv (.t 206), []⟩, ⟨some 208, some (207, true), .mv (.t 6), []⟩, ⟨some 209, some (207, true), .mv (.t 4), []⟩, ⟨some 210, some (207, true), .bo .leq (.t 208) (.t 209), []⟩, ⟨some 211, none, .pk (.t 207) (.t 210) (.c (.bool false)), []⟩, ⟨some 2, none, .mv (.t 211), []⟩] [2]) .rt) (.sq (.rg none [⟨some 213, none, .bo .eql (.t 108) (.c (.int .u8 24)), []⟩, ⟨some 212, none, .mv (.t 213), []⟩] [1, 4, 5, 6, 212]) (.cd (.t 212) (.sq (.rg none [⟨some 214, none, .mv (.t 5), []⟩, ⟨some 215, none, .bo .eql (.t 214) (.c (.int .i64 1)), []⟩, ⟨some 216, none, .mv (.t 215), []⟩, ⟨some 217, some (216, true), .mv (.t 4), []⟩, ⟨some 218, some (216, true), .cl 61 [(.t 217)], []⟩, ⟨some 219, none, .pk (.t 216) (.t 218) (.c (.bool false)), []⟩, ⟨some 2, none, .mv (.t 219), []⟩] [2]) .rt) .sk)))))))))))))))) (.sq (.rg none [⟨some 220, none, .mv (.t 5), []⟩, ⟨some 221, none, .bo .eql (.t 220) (.c (.int .i64 2)), []⟩, ⟨some 222, none, .mv (.t 221), []⟩, ⟨some 223, some (222, true), .mv (.t 6), []⟩, ⟨some 224, some (222, true), .mv (.t 4), []⟩, ⟨some 225, some (222, true), .bo .eql (.t 223) (.t 224), []⟩, ⟨some 226, none, .pk (.t 222) (.t 225) (.c (.bool false)), []⟩, ⟨some 227, none, .mv (.t 226), []⟩, ⟨some 228, some (227, true), .fa 5 (.t 1), []⟩, ⟨some 229, some (227, true), .ld none (.t 228), []⟩, ⟨some 230, some (227, true), .ia 6 (.t 229) (.c (.int .i64 1)), []⟩, ⟨some 231, some (227, true), .fa 1 (.t 230), []⟩, ⟨some 232, some (227, true), .ld none (.t 231), []⟩, ⟨some 233, some (227, true), .mv (.t 4), []⟩, ⟨some 234, some (227, true), .bo .eql (.t 232) (.t 233), []⟩, ⟨some 235, none, .pk (.t 227) (.t 234) (.c (.bool false)), []⟩, ⟨some 2, none, .mv (.t 235), []⟩] [2]) .rt)))))))
/-- retarget/retargetref02.Formed -/
def c40 : FI.Fn := { body := (.sq (.rg none [⟨some 1, none, .bx 6 (.t 0), []⟩, ⟨some 2, none, .mv (.c (.bool false)), []⟩] [1]) (.sq (.sq (.rg none [⟨some 3, none, .mv (.c (.int .i64 0)), []⟩] [1, 3]) (.bl 0 (.lp true b40_0))) k40_1)), np := 1, res := [.t 2], mode := .iso }
/-- retarget/term.nodes$1 -/
def c51 : FI.Fn := { body := (.rg none [⟨some 3, none, .ld (some 6) (.t 1), []⟩, ⟨some 4, none, .mv (.t 0), []⟩, ⟨some 5, none, .cl 52 [(.t 3), (.t 4)], []⟩] []), np := 2, res := [], mode := .shr }
def b52_0 : C := (.sq (.rg none [⟨some 15, none, .bo .lss (.t 14) (.t 13), []⟩] [1, 12, 13, 14, 15]) (.sq (.cd (.t 15) .sk (.xt 0)) (.sq (.bl 1 (.sq (.rg none [⟨some 16, none, .ia 6 (.t 12) (.t 14), []⟩, ⟨some 17, none, .ld (some 6) (.t 16), []⟩, ⟨some 6, none, .al 6 (.agg [(.int .u8 0), (.int .i64 0), (.int .u64 0), (.str []), (.int .i64 0), (.lst true [])]), []⟩, ⟨none, none, .st 6 (.t 6) (.t 17), []⟩] [1, 6, 12, 13, 14]) (.sq (.rg none [⟨some 18, none, .ld (some 6) (.t 6), []⟩, ⟨some 19, none, .mv (.t 1), []⟩, ⟨some 20, none, .cl 52 [(.t 18), (.t 19)], []⟩, ⟨some 21, none, .un .not (.t 20), []⟩] [1, 12, 13, 14, 21]) (.cd (.t 21) (.sq (.rg none [⟨some 4, none, .mv (.c (.bool false)), []⟩] [4]) .rt) .sk)))) (.rg none [⟨some 22, none, .bo .add (.t 14) (.c (.int .i64 1)), []⟩, ⟨some 14, none, .mv (.t 22), []⟩] [1, 12, 13, 14]))))
def k52_1 : C := (.sq (.rg none [⟨some 4, none, .mv (.c (.bool true)), []⟩] [4]) .rt)
/-- retarget/term.visit -/
def c52 : FI.Fn := { body := (.sq (.rg none [⟨some 2, none, .bx 6 (.t 0), []⟩, ⟨some 4, none, .mv (.c (.bool false)), []⟩] [1, 2]) (.sq (.sq (.rg none [⟨some 7, none, .mv (.t 1), []⟩, ⟨some 8, none, .ld (some 6) (.t 2), []⟩, ⟨some 9, none, .cw (.t 7) [(.t 8)], []⟩, ⟨some 10, none, .un .not (.t 9), []⟩] [1, 2, 10]) (.cd (.t 10) (.sq (.rg none [⟨some 4, none, .mv (.c (.bool false)), []⟩] [4]) .rt) .sk)) (.sq (.sq (.rg none [⟨some 11, none, .fa 5 (.t 2), []⟩, ⟨some 12, none, .ld none (.t 11), []⟩, ⟨some 13, none, .ln 1 (.t 12), []⟩, ⟨some 14, none, .mv (.c (.int .i64 0)), []⟩] [1, 12, 13, 14]) (.bl 0 (.lp false b52_0))) k52_1))), np := 2, res := [.t 4], mode := .shr }
/-- retarget/term.wide -/
def c53 : FI.Fn := { body := (.sq (.rg none [⟨some 2, none, .mv (.c (.bool false)), []⟩] [0]) (.sq (.rg none [⟨some 3, none, .mv (.t 0), []⟩, ⟨some 4, none, .bo .geq (.t 3) (.c (.int .i64 1)), []⟩, ⟨some 5, none, .mv (.t 4), []⟩, ⟨some 6, some (5, true), .mv (.t 0), []⟩, ⟨some 7, some (5, true), .bo .leq (.t 6) (.c (.int .i64 64)), []⟩, ⟨some 8, none, .pk (.t 5) (.t 7) (.c (.bool false)), []⟩, ⟨some 2, none, .mv (.t 8), []⟩] [2]) .rt)), np := 1, res := [.t 2], mode := .iso }
/-- retarget/term.shaped -/
def c54 : FI.Fn := { body := (.sq (.rg none [⟨some 2, none, .al 3 (.agg [(.str []), (.int .i64 0), (.int .i64 0)]), []⟩, ⟨some 3, none, .mv (.c (.bool false)), []⟩] [0, 2]) (.sq (.sq (.rg none [⟨some 4, none, .mv (.t 0), []⟩, ⟨some 5, none, .bo .gtr (.t 4) (.c (.int .u8 24)), []⟩] [0, 2, 5]) (.cd (.t 5) (.sq (.rg none [⟨some 6, none, .bd [(.str []), (.int .i64 0), (.int .i64 0)] [], []⟩, ⟨none, none, .st 3 (.t 2) (.t 6), []⟩, ⟨some 3, none, .mv (.c (.bool false)), []⟩] [2, 3]) .rt) .sk)) (.sq (.rg (some [0, 1, 2, 3, 4, 5, 6, 7, 8, 9]) [⟨some 7, none, .mv (.t 0), []⟩, ⟨some 8, none, .aa 25 3 (.c (.eptr gl0 0)) (.t 7), []⟩, ⟨some 9, none, .ld (some 3) (.t 8), []⟩, ⟨some 10, none, .mv (.t 0), []⟩, ⟨some 11, none, .aa 25 3 (.c (.eptr gl0 0)) (.t 10), []⟩, ⟨some 12, none, .fa 1 (.t 11), []⟩, ⟨some 13, none, .ld none (.t 12), []⟩, ⟨some 14, none, .bo .gtr (.t 13) (.c (.int .i64 0)), []⟩, ⟨none, none, .st 3 (.t 2) (.t 9), [(none, none, 12, 13)]⟩, ⟨some 3, none, .mv (.t 14), []⟩] [2, 3]) .rt))), np := 1, res := [.cell 2 (some 3), .t 3], mode := .iso }
/-- retarget/bits.Ok -/
def c55 : FI.Fn := { body := (.sq (.rg none [⟨some 4, none, .mv (.c (.bool false)), []⟩] [0, 1]) (.sq (.rg none [⟨some 5, none, .mv (.t 0), []⟩, ⟨some 6, none, .cl 87 [(.t 5)], []⟩, ⟨some 7, none, .mv (.t 6), []⟩, ⟨some 8, some (7, true), .mv (.t 1), []⟩, ⟨some 9, some (7, true), .mv (.t 0), []⟩, ⟨some 10, some (7, true), .cl 88 [(.t 9)], []⟩, ⟨some 11, some (7, true), .bo .leq (.t 8) (.t 10), []⟩, ⟨some 12, none, .pk (.t 7) (.t 11) (.c (.bool false)), []⟩, ⟨some 4, none, .mv (.t 12), []⟩] [4]) .rt)), np := 2, res := [.t 4], mode := .iso }
/-- retarget/term.variable -/
def c56 : FI.Fn := { body := (.sq (.rg none [⟨some 2, none, .mv (.c (.bool false)), []⟩] [0]) (.sq (.rg none [⟨some 3, none, .mv (.t 0), []⟩, ⟨some 4, none, .cl 90 [(.t 3), (.c (.str [114, 46]))], []⟩, ⟨some 5, none, .cl 89 [(.t 4)], []⟩, ⟨some 2, none, .mv (.t 5), []⟩] [2]) .rt)), np := 1, res := [.t 2], mode := .iso }
/-- retarget/term.widths -/
def c57 : FI.Fn := { body := (.sq (.rg none [⟨some 2, none, .bx 6 (.t 0), []⟩, ⟨some 4, none, .mv (.c (.bool false)), []⟩] [1, 2]) (.sq (.rg none [⟨some 7, none, .fa 1 (.t 2), []⟩, ⟨some 8, none, .ld none (.t 7), []⟩, ⟨some 5, none, .al 1 (.int .i64 0), []⟩, ⟨none, none, .st 1 (.t 5) (.t 8), []⟩] [1, 2, 5]) (.sq (.rg none [⟨some 9, none, .fa 5 (.t 2), []⟩, ⟨some 10, none, .ld none (.t 9), []⟩, ⟨some 11, none, .ia 6 (.t 10) (.c (.int .i64 0)), []⟩, ⟨some 12, none, .fa 1 (.t 11), []⟩, ⟨some 13, none, .ld none (.t 12), []⟩, ⟨some 6, none, .mv (.t 13), []⟩] [1, 2, 5, 6]) (.sq (.sq (.rg none [⟨some 14, none, .mv (.t 1), []⟩] [2, 5, 6, 14]) (.bl 0 (.sq (.rg none [⟨some 16, none, .bo .eql (.t 14) (.c (.int .i64 1)), []⟩, ⟨some 15, none, .mv (.t 16), []⟩] [2, 5, 6, 14, 15]) (.cd (.t 15) (.sq (.rg none [⟨some 17, none, .fa 5 (.t 2), []⟩, ⟨some 18, none, .ld none (.t 17), []⟩, ⟨some 19, none, .mf 92 [(.t 5)], []⟩, ⟨some 20, none, .cl 91 [(.t 18), (.t 19)], []⟩, ⟨some 21, none, .un .not (.t 20), []⟩, ⟨some 4, none, .mv (.t 21), []⟩] [4]) .rt) (.sq (.rg none [⟨some 23, none, .bo .eql (.t 14) (.c (.int .i64 2)), []⟩, ⟨some 22, none, .mv (.t 23), []⟩] [2, 5, 6, 14, 22]) (.cd (.t 22) (.sq (.rg none [⟨some 24, none, .ld none (.t 5), []⟩, ⟨some 25, none, .bo .eql (.t 24) (.c (.int .i64 1)), []⟩, ⟨some 26, none, .mv (.t 25), []⟩, ⟨some 27, some (26, true), .fa 5 (.t 2), []⟩, ⟨some 28, some (26, true), .ld none (.t 27), []⟩, ⟨some 29, some (26, true), .ia 6 (.t 28) (.c (.int .i64 1)), []⟩, ⟨some 30, some (26, true), .fa 1 (.t 29), []⟩, ⟨some 31, some (26, true), .ld none (.t 30), []⟩, ⟨some 32, some (26, true), .mv (.t 6), []⟩, ⟨some 33, some (26, true), .bo .eql (.t 31) (.t 32), []⟩, ⟨some 34, none, .pk (.t 26) (.t 33) (.c (.bool false)), []⟩, ⟨some 4, none, .mv (.t 34), []⟩] [4]) .rt) (.sq (.rg none [⟨some 36, none, .bo .eql (.t 14) (.c (.int .i64 3)), []⟩, ⟨some 35, none, .mv (.t 36), []⟩] [2, 5, 6, 14, 35]) (.cd (.t 35) (.sq (.rg (some [0, 1, 2, 3, 4, 5, 6, 7, 8, 9, 10, 11, 12, 13, 14, 15, 16, 17, 18, 19, 20]) [⟨some 37, none, .mv (.t 6), []⟩, ⟨some 38, none, .bo .eql (.t 37) (.c (.int .i64 1)), []⟩, ⟨some 39, none, .mv (.t 38), []⟩, ⟨some 40, some (39, true), .fa 5 (.t 2), []⟩, ⟨some 41, some (39, true), .ld none (.t 40), []⟩, ⟨some 42, some (39, true), .ia 6 (.t 41) (.c (.int .i64 1)), []⟩, ⟨some 43, some (39, true), .fa 1 (.t 42), []⟩, ⟨some 44, some (39, true), .ld none (.t 43), []⟩, ⟨some 45, some (39, true), .ld none (.t 5), []⟩, ⟨some 46, some (39, true), .bo .eql (.t 44) (.t 45), []⟩, ⟨some 47, none, .pk (.t 39) (.t 46) (.c (.bool false)), []⟩, ⟨some 48, none, .mv (.t 47), []⟩, ⟨some 49, some (48, true), .fa 5 (.t 2), []⟩, ⟨some 50, some (48, true), .ld none (.t 49), []⟩, ⟨some 51, some (48, true), .ia 6 (.t 50) (.c (.int .i64 2)), []⟩, ⟨some 52, some (48, true), .fa 1 (.t 51), []⟩, ⟨some 53, some (48, true), .ld none (.t 52), []⟩, ⟨some 54, some (48, true), .ld none (.t 5), []⟩, ⟨some 55, some (48, true), .bo .eql (.t 53) (.t 54), []⟩, ⟨some 56, none, .pk (.t 48) (.t 55) (.c (.bool false)), []⟩, ⟨some 4, none, .mv (.t 56), []⟩] [4]) .rt) (.sq (.rg none [⟨some 58, none, .bo .eql (.t 14) (.c (.int .i64 4)), []⟩, ⟨some 57, none, .mv (.t 58), []⟩] [2, 5, 6, 14, 57]) (.cd (.t 57) (.sq (.rg (some [0, 1, 2, 3, 4, 5, 6, 7, 8, 9, 10, 11, 12, 13, 14, 15, 16, 17, 18, 19, 20, 21]) [⟨some 59, none, .mv (.t 6), []⟩, ⟨some 60, none, .cl 53 [(.t 59)], []⟩, ⟨some 61, none, .mv (.t 60), []⟩, ⟨some 62, some (61, true), .fa 5 (.t 2), []⟩, ⟨some 63, some (61, true), .ld none (.t 62), []⟩, ⟨some 64, some (61, true), .ia 6 (.t 63) (.c (.int .i64 1)), []⟩, ⟨some 65, some (61, true), .fa 1 (.t 64), []⟩, ⟨some 66, some (61, true), .ld none (.t 65), []⟩, ⟨some 67, some (61, true), .cl 53 [(.t 66)], []⟩, ⟨some 68, none, .pk (.t 61) (.t 67) (.c (.bool false)), []⟩, ⟨some 69, none, .mv (.t 68), []⟩, ⟨some 70, some (69, true), .mv (.t 6), []⟩, ⟨some 71, some (69, true), .fa 5 (.t 2), []⟩, ⟨some 72, some (69, true), .ld none (.t 71), []⟩, ⟨some 73, some (69, true), .ia 6 (.t 72) (.c (.int .i64 1)), []⟩, ⟨some 74, some (69, true), .fa 1 (.t 73), []⟩, ⟨some 75, some (69, true), .ld none (.t 74), []⟩, ⟨some 76, some (69, true), .bo .add (.t 70) (.t 75), []⟩, ⟨some 77, some (69, true), .ld none (.t 5), []⟩, ⟨some 78, some (69, true), .bo .eql (.t 76) (.t 77), []⟩, ⟨some 79, none, .pk (.t 69) (.t 78) (.c (.bool false)), []⟩, ⟨some 4, none, .mv (.t 79), []⟩] [4]) .rt) (.sq (.rg none [⟨some 81, none, .bo .eql (.t 14) (.c (.int .i64 5)), []⟩, ⟨some 80, none, .mv (.t 81), []⟩] [2, 5, 6, 14, 80]) (.cd (.t 80) (.sq (.rg none [⟨some 82, none, .fa 4 (.t 2), []⟩, ⟨some 83, none, .ld none (.t 82), []⟩, ⟨some 84, none, .bo .geq (.t 83) (.c (.int .i64 0)), []⟩, ⟨some 85, none, .mv (.t 84), []⟩, ⟨some 86, some (85, true), .mv (.t 6), []⟩, ⟨some 87, some (85, true), .cl 53 [(.t 86)], []⟩, ⟨some 88, none, .pk (.t 85) (.t 87) (.c (.bool false)), []⟩, ⟨some 89, none, .mv (.t 88), []⟩, ⟨some 90, some (89, true), .ld none (.t 5), []⟩, ⟨some 91, some (89, true), .mv (.t 6), []⟩, ⟨some 92, some (89, true), .bo .leq (.t 90) (.t 91), []⟩, ⟨some 93, none, .pk (.t 89) (.t 92) (.c (.bool false)), []⟩, ⟨some 94, none, .mv (.t 93), []⟩, ⟨some 95, some (94, true), .fa 4 (.t 2), []⟩, ⟨some 96, some (94, true), .ld none (.t 95), []⟩, ⟨some 97, some (94, true), .mv (.t 6), []⟩, ⟨some 98, some (94, true), .ld none (.t 5), []⟩, ⟨some 99, some (94, true), .bo .sub (.t 97) (.t 98), []⟩, ⟨some 100, some (94, true), .bo .leq (.t 96) (.t 99), []⟩, ⟨some 101, none, .pk (.t 94) (.t 100) (.c (.bool false)), []⟩, ⟨some 4, none, .mv (.t 101), []⟩] [4]) .rt) (.sq (.rg none [⟨some 103, none, .bo .eql (.t 14) (.c (.int .i64 6)), []⟩, ⟨some 102, none, .mv (.t 103), []⟩] [5, 6, 102]) (.cd (.t 102) (.sq (.rg none [⟨some 104, none, .mv (.t 6), []⟩, ⟨some 105, none, .ld none (.t 5), []⟩, ⟨some 106, none, .bo .leq (.t 104) (.t 105), []⟩, ⟨some 4, none, .mv (.t 106), []⟩] [4]) .rt) .sk)))))))))))))) (.sq (.rg none [⟨some 107, none, .ld none (.t 5), []⟩, ⟨some 108, none, .cl 93 [(.t 107)], []⟩, ⟨some 4, none, .mv (.t 108), []⟩] [4]) .rt))))), np := 2, res := [.t 4], mode := .iso }
/-- retarget/retargetref01.Wide -/
def c58 : FI.Fn := { body := (.sq (.rg none [⟨some 2, none, .mv (.c (.bool false)), []⟩] [0]) (.sq (.rg none [⟨some 3, none, .mv (.t 0), []⟩, ⟨some 4, none, .bo .geq (.t 3) (.c (.int .i64 1)), []⟩, ⟨some 5, none, .mv (.t 4), []⟩, ⟨some 6, some (5, true), .mv (.t 0), []⟩, ⟨some 7, some (5, true), .bo .leq (.t 6) (.c (.int .i64 64)), []⟩, ⟨some 8, none, .pk (.t 5) (.t 7) (.c (.bool false)), []⟩, ⟨some 2, none, .mv (.t 8), []⟩] [2]) .rt)), np := 1, res := [.t 2], mode := .iso }
/-- retarget/retargetref01.Ok -/
def c59 : FI.Fn := { body := (.sq (.rg none [⟨some 4, none, .mv (.c (.bool false)), []⟩] [0, 1]) (.sq (.rg none [⟨some 5, none, .mv (.t 0), []⟩, ⟨some 6, none, .cl 58 [(.t 5)], []⟩, ⟨some 7, none, .mv (.t 6), []⟩, ⟨some 8, some (7, true), .mv (.t 0), []⟩, ⟨some 9, some (7, true), .bo .eql (.t 8) (.c (.int .i64 64)), []⟩, ⟨some 10, some (7, true), .mv (.t 9), []⟩, ⟨some 11, some (10, false), .mv (.t 1), []⟩, ⟨some 12, some (10, false), .mv (.t 0), []⟩, ⟨some 13, some (10, false), .cl 94 [(.t 12)], []⟩, ⟨some 14, some (10, false), .bo .lss (.t 11) (.t 13), []⟩, ⟨some 15, some (7, true), .pk (.t 10) (.c (.bool true)) (.t 14), []⟩, ⟨some 16, none, .pk (.t 7) (.t 15) (.c (.bool false)), []⟩, ⟨some 4, none, .mv (.t 16), []⟩] [4]) .rt)), np := 2, res := [.t 4], mode := .iso }
/-- retarget/retargetref02.Variable -/
def c60 : FI.Fn := { body := (.sq (.rg none [⟨some 2, none, .mv (.c (.bool false)), []⟩] [0]) (.sq (.sq (.rg none [⟨some 3, none, .mv (.t 0), []⟩, ⟨some 4, none, .ln 0 (.t 3), []⟩, ⟨some 5, none, .bo .gtr (.t 4) (.c (.int .i64 2)), []⟩, ⟨some 6, none, .mv (.t 5), []⟩, ⟨some 7, some (6, true), .mv (.t 0), []⟩, ⟨some 8, some (6, true), .sl 0 (.t 7) none (some (.c (.int .i64 2))), []⟩, ⟨some 9, some (6, true), .bo .eql (.t 8) (.c (.str [114, 46])), []⟩, ⟨some 10, none, .pk (.t 6) (.t 9) (.c (.bool false)), []⟩] [0, 10]) (.cd (.t 10) (.sq (.rg none [⟨some 11, none, .mv (.t 0), []⟩, ⟨some 12, none, .sl 0 (.t 11) (some (.c (.int .i64 2))) none, []⟩, ⟨some 13, none, .cl 95 [(.t 12)], []⟩, ⟨some 2, none, .mv (.t 13), []⟩] [2]) .rt) .sk)) (.sq (.rg none [⟨some 14, none, .mv (.t 0), []⟩, ⟨some 15, none, .cl 95 [(.t 14)], []⟩, ⟨some 2, none, .mv (.t 15), []⟩] [2]) .rt))), np := 1, res := [.t 2], mode := .iso }
/-- retarget/retargetref02.loads -/
def c61 : FI.Fn := { body := (.sq (.rg none [⟨some 2, none, .mv (.c (.bool false)), []⟩] [0]) (.sq (.rg none [⟨some 3, none, .mv (.t 0), []⟩, ⟨some 4, none, .bo .eql (.t 3) (.c (.int .i64 8)), []⟩, ⟨some 5, none, .mv (.t 4), []⟩, ⟨some 6, some (5, false), .mv (.t 0), []⟩, ⟨some 7, some (5, false), .bo .eql (.t 6) (.c (.int .i64 16)), []⟩, ⟨some 8, none, .pk (.t 5) (.c (.bool true)) (.t 7), []⟩, ⟨some 9, none, .mv (.t 8), []⟩, ⟨some 10, some (9, false), .mv (.t 0), []⟩, ⟨some 11, some (9, false), .bo .eql (.t 10) (.c (.int .i64 32)), []⟩, ⟨some 12, none, .pk (.t 9) (.c (.bool true)) (.t 11), []⟩, ⟨some 13, none, .mv (.t 12), []⟩, ⟨some 14, some (13, false), .mv (.t 0), []⟩, ⟨some 15, some (13, false), .bo .eql (.t 14) (.c (.int .i64 64)), []⟩, ⟨some 16, none, .pk (.t 13) (.c (.bool true)) (.t 15), []⟩, ⟨some 2, none, .mv (.t 16), []⟩] [2]) .rt)), np := 1, res := [.t 2], mode := .iso }
/-- retarget/bits.wide -/
def c87 : FI.Fn := { body := (.sq (.rg none [⟨some 2, none, .mv (.c (.bool false)), []⟩] [0]) (.sq (.rg none [⟨some 3, none, .mv (.t 0), []⟩, ⟨some 4, none, .bo .geq (.t 3) (.c (.int .i64 1)), []⟩, ⟨some 5, none, .mv (.t 4), []⟩, ⟨some 6, some (5, true), .mv (.t 0), []⟩, ⟨some 7, some (5, true), .bo .leq (.t 6) (.c (.int .i64 64)), []⟩, ⟨some 8, none, .pk (.t 5) (.t 7) (.c (.bool false)), []⟩, ⟨some 2, none, .mv (.t 8), []⟩] [2]) .rt)), np := 1, res := [.t 2], mode := .iso }
/-- retarget/bits.Mask -/
def c88 : FI.Fn := { body := (.sq (.rg none [⟨some 2, none, .mv (.c (.int .u64 0)), []⟩] [0]) (.sq (.sq (.rg none [⟨some 3, none, .mv (.t 0), []⟩, ⟨some 4, none, .cl 87 [(.t 3)], []⟩, ⟨some 5, none, .un .not (.t 4), []⟩] [0, 5]) (.cd (.t 5) (.sq (.rg none [⟨some 2, none, .mv (.c (.int .u64 0)), []⟩] [2]) .rt) .sk)) (.sq (.rg none [⟨some 6, none, .mv (.t 0), []⟩, ⟨some 7, none, .bo .sub (.c (.int .i64 64)) (.t 6), []⟩, ⟨some 8, none, .bo .shr (.c (.int .u64 18446744073709551615)) (.t 7), []⟩, ⟨some 2, none, .mv (.t 8), []⟩] [2]) .rt))), np := 1, res := [.t 2], mode := .iso }
def b89_0 : C := (.sq (.rg none [⟨some 17, none, .bo .lss (.t 16) (.t 15), []⟩] [0, 15, 16, 17]) (.sq (.cd (.t 17) .sk (.xt 0)) (.sq (.bl 1 (.sq (.rg none [⟨some 18, none, .mv (.t 16), []⟩, ⟨some 3, none, .mv (.t 18), []⟩] [0, 3, 15, 16]) (.sq (.rg none [⟨some 19, none, .mv (.t 0), []⟩, ⟨some 20, none, .mv (.t 3), []⟩, ⟨some 21, none, .ix (.t 19) (.t 20), []⟩, ⟨some 4, none, .mv (.t 21), []⟩] [0, 3, 4, 15, 16]) (.sq (.rg none [⟨some 22, none, .mv (.t 4), []⟩, ⟨some 23, none, .bo .geq (.t 22) (.c (.int .u8 97)), []⟩, ⟨some 24, none, .mv (.t 23), []⟩, ⟨some 25, some (24, true), .mv (.t 4), []⟩, ⟨some 26, some (24, true), .bo .leq (.t 25) (.c (.int .u8 122)), []⟩, ⟨some 27, none, .pk (.t 24) (.t 26) (.c (.bool false)), []⟩, ⟨some 28, none, .mv (.t 27), []⟩, ⟨some 29, some (28, false), .mv (.t 4), []⟩, ⟨some 30, some (28, false), .bo .geq (.t 29) (.c (.int .u8 65)), []⟩, ⟨some 31, some (28, false), .mv (.t 30), []⟩, ⟨some 32, some (31, true), .mv (.t 4), []⟩, ⟨some 33, some (31, true), .bo .leq (.t 32) (.c (.int .u8 90)), []⟩, ⟨some 34, some (28, false), .pk (.t 31) (.t 33) (.c (.bool false)), []⟩, ⟨some 35, none, .pk (.t 28) (.c (.bool true)) (.t 34), []⟩, ⟨some 5, none, .mv (.t 35), []⟩] [0, 3, 4, 5, 15, 16]) (.sq (.rg none [⟨some 36, none, .mv (.t 5), []⟩, ⟨some 37, none, .un .not (.t 36), []⟩, ⟨some 38, none, .mv (.t 37), []⟩, ⟨some 39, some (38, true), .mv (.t 3), []⟩, ⟨some 40, some (38, true), .bo .eql (.t 39) (.c (.int .i64 0)), []⟩, ⟨some 41, some (38, true), .mv (.t 40), []⟩, ⟨some 42, some (41, false), .mv (.t 4), []⟩, ⟨some 43, some (41, false), .bo .neq (.t 42) (.c (.int .u8 95)), []⟩, ⟨some 44, some (41, false), .mv (.t 43), []⟩, ⟨some 45, some (44, true), .mv (.t 4), []⟩, ⟨some 46, some (44, true), .bo .lss (.t 45) (.c (.int .u8 48)), []⟩, ⟨some 47, some (44, true), .mv (.t 46), []⟩, ⟨some 48, some (47, false), .mv (.t 4), []⟩, ⟨some 49, some (47, false), .bo .gtr (.t 48) (.c (.int .u8 57)), []⟩, ⟨some 50, some (44, true), .pk (.t 47) (.c (.bool true)) (.t 49), []⟩, ⟨some 51, some (41, false), .pk (.t 44) (.t 50) (.c (.bool false)), []⟩, ⟨some 52, some (38, true), .pk (.t 41) (.c (.bool true)) (.t 51), []⟩, ⟨some 53, none, .pk (.t 38) (.t 52) (.c (.bool false)), []⟩] [0, 15, 16, 53]) (.cd (.t 53) (.sq (.rg none [⟨some 2, none, .mv (.c (.bool false)), []⟩] [2]) .rt) .sk)))))) (.rg none [⟨some 54, none, .bo .add (.t 16) (.c (.int .i64 1)), []⟩, ⟨some 16, none, .mv (.t 54), []⟩] [0, 15, 16]))))
def k89_1 : C := (.sq (.rg none [⟨some 2, none, .mv (.c (.bool true)), []⟩] [2]) .rt)
/-- retarget/bits.Name -/
def c89 : FI.Fn := { body := (.sq (.rg none [⟨some 2, none, .mv (.c (.bool false)), []⟩] [0]) (.sq (.sq (.rg none [⟨some 6, none, .mv (.t 0), []⟩, ⟨some 7, none, .ln 0 (.t 6), []⟩, ⟨some 8, none, .bo .lss (.t 7) (.c (.int .i64 1)), []⟩, ⟨some 9, none, .mv (.t 8), []⟩, ⟨some 10, some (9, false), .mv (.t 0), []⟩, ⟨some 11, some (9, false), .ln 0 (.t 10), []⟩, ⟨some 12, some (9, false), .bo .gtr (.t 11) (.c (.int .i64 24)), []⟩, ⟨some 13, none, .pk (.t 9) (.c (.bool true)) (.t 12), []⟩] [0, 13]) (.cd (.t 13) (.sq (.rg none [⟨some 2, none, .mv (.c (.bool false)), []⟩] [2]) .rt) .sk)) (.sq (.sq (.rg none [⟨some 14, none, .mv (.t 0), []⟩, ⟨some 15, none, .ln 0 (.t 14), []⟩, ⟨some 16, none, .mv (.c (.int .i64 0)), []⟩] [0, 15, 16]) (.bl 0 (.lp true b89_0))) k89_1))), np := 1, res := [.t 2], mode := .iso }
/-- strings.TrimPrefix -/
def c90 : FI.Fn := { body := (.sq (.rg none [⟨some 4, none, .mv (.c (.str [])), []⟩] [0, 1]) (.sq (.rg none [⟨some 5, none, .mv (.t 0), []⟩, ⟨some 6, none, .mv (.t 1), []⟩, ⟨some 7, none, .cl 110 [(.t 5), (.t 6)], []⟩, ⟨some 4, none, .mv (.t 7), []⟩] [4]) .rt)), np := 2, res := [.t 4], mode := .iso }
/-- slices.ContainsFunc[[]retarget/api.Term,retarget/api.Term] -/
def c91 : FI.Fn := { body := (.sq (.rg none [⟨some 4, none, .mv (.c (.bool false)), []⟩] [0, 1]) (.sq (.rg none [⟨some 5, none, .mv (.t 0), []⟩, ⟨some 6, none, .mv (.t 1), []⟩, ⟨some 7, none, .cl 111 [(.t 5), (.t 6)], []⟩, ⟨some 8, none, .bo .geq (.t 7) (.c (.int .i64 0)), []⟩, ⟨some 4, none, .mv (.t 8), []⟩] [4]) .rt)), np := 2, res := [.t 4], mode := .isf }
/-- retarget/term.widths$1 -/
def c92 : FI.Fn := { body := (.sq (.rg none [⟨some 2, none, .bx 6 (.t 0), []⟩, ⟨some 3, none, .mv (.c (.bool false)), []⟩] [1, 2]) (.sq (.rg none [⟨some 4, none, .fa 1 (.t 2), []⟩, ⟨some 5, none, .ld none (.t 4), []⟩, ⟨some 6, none, .ld none (.t 1), []⟩, ⟨some 7, none, .bo .neq (.t 5) (.t 6), []⟩, ⟨some 3, none, .mv (.t 7), []⟩] [3]) .rt)), np := 2, res := [.t 3], mode := .iso }
/-- retarget/term.loadable -/
def c93 : FI.Fn := { body := (.sq (.rg none [⟨some 2, none, .mv (.c (.bool false)), []⟩] [0]) (.sq (.rg none [⟨some 3, none, .mv (.t 0), []⟩, ⟨some 4, none, .bo .eql (.t 3) (.c (.int .i64 8)), []⟩, ⟨some 5, none, .mv (.t 4), []⟩, ⟨some 6, some (5, false), .mv (.t 0), []⟩, ⟨some 7, some (5, false), .bo .eql (.t 6) (.c (.int .i64 16)), []⟩, ⟨some 8, none, .pk (.t 5) (.c (.bool true)) (.t 7), []⟩, ⟨some 9, none, .mv (.t 8), []⟩, ⟨some 10, some (9, false), .mv (.t 0), []⟩, ⟨some 11, some (9, false), .bo .eql (.t 10) (.c (.int .i64 32)), []⟩, ⟨some 12, none, .pk (.t 9) (.c (.bool true)) (.t 11), []⟩, ⟨some 13, none, .mv (.t 12), []⟩, ⟨some 14, some (13, false), .mv (.t 0), []⟩, ⟨some 15, some (13, false), .bo .eql (.t 14) (.c (.int .i64 64)), []⟩, ⟨some 16, none, .pk (.t 13) (.c (.bool true)) (.t 15), []⟩, ⟨some 2, none, .mv (.t 16), []⟩] [2]) .rt)), np := 1, res := [.t 2], mode := .iso }
def b94_0 : C := (.sq (.sq (.rg none [⟨some 5, none, .mv (.t 4), []⟩, ⟨some 6, none, .mv (.t 0), []⟩, ⟨some 7, none, .bo .lss (.t 5) (.t 6), []⟩] [0, 3, 4, 7]) (.cd (.t 7) .sk (.xt 0))) (.sq (.bl 1 (.rg none [⟨some 10, none, .mv (.t 3), []⟩, ⟨some 11, none, .mv (.t 3), []⟩, ⟨some 12, none, .bo .add (.t 10) (.t 11), []⟩, ⟨some 3, none, .mv (.t 12), []⟩] [0, 3, 4])) (.rg none [⟨some 8, none, .mv (.t 4), []⟩, ⟨some 9, none, .bo .add (.t 8) (.c (.int .i64 1)), []⟩, ⟨some 4, none, .mv (.t 9), []⟩] [0, 3, 4])))
def k94_1 : C := (.sq (.rg none [⟨some 13, none, .mv (.t 3), []⟩, ⟨some 2, none, .mv (.t 13), []⟩] [2]) .rt)
/-- retarget/retargetref01.Power -/
def c94 : FI.Fn := { body := (.sq (.rg none [⟨some 2, none, .mv (.c (.int .u64 0)), []⟩] [0]) (.sq (.rg none [⟨some 3, none, .mv (.c (.int .u64 1)), []⟩] [0, 3]) (.sq (.sq (.rg none [⟨some 4, none, .mv (.c (.int .i64 0)), []⟩] [0, 3, 4]) (.bl 0 (.lp true b94_0))) k94_1))), np := 1, res := [.t 2], mode := .iso }
def b95_0 : C := (.sq (.sq (.rg none [⟨some 15, none, .mv (.t 3), []⟩, ⟨some 16, none, .mv (.t 0), []⟩, ⟨some 17, none, .ln 0 (.t 16), []⟩, ⟨some 18, none, .bo .lss (.t 15) (.t 17), []⟩] [0, 3, 18]) (.cd (.t 18) .sk (.xt 0))) (.sq (.bl 1 (.sq (.rg none [⟨some 21, none, .mv (.t 0), []⟩, ⟨some 22, none, .mv (.t 3), []⟩, ⟨some 23, none, .ix (.t 21) (.t 22), []⟩, ⟨some 4, none, .mv (.t 23), []⟩] [0, 3, 4]) (.sq (.rg none [⟨some 24, none, .mv (.t 4), []⟩, ⟨some 25, none, .bo .geq (.t 24) (.c (.int .u8 97)), []⟩, ⟨some 26, none, .mv (.t 25), []⟩, ⟨some 27, some (26, true), .mv (.t 4), []⟩, ⟨some 28, some (26, true), .bo .leq (.t 27) (.c (.int .u8 122)), []⟩, ⟨some 29, none, .pk (.t 26) (.t 28) (.c (.bool false)), []⟩, ⟨some 30, none, .mv (.t 29), []⟩, ⟨some 31, some (30, false), .mv (.t 4), []⟩, ⟨some 32, some (30, false), .bo .geq (.t 31) (.c (.int .u8 65)), []⟩, ⟨some 33, some (30, false), .mv (.t 32), []⟩, ⟨some 34, some (33, true), .mv (.t 4), []⟩, ⟨some 35, some (33, true), .bo .leq (.t 34) (.c (.int .u8 90)), []⟩, ⟨some 36, some (30, false), .pk (.t 33) (.t 35) (.c (.bool false)), []⟩, ⟨some 37, none, .pk (.t 30) (.c (.bool true)) (.t 36), []⟩, ⟨some 5, none, .mv (.t 37), []⟩] [0, 3, 4, 5]) (.sq (.rg none [⟨some 38, none, .mv (.t 4), []⟩, ⟨some 39, none, .bo .geq (.t 38) (.c (.int .u8 48)), []⟩, ⟨some 40, none, .mv (.t 39), []⟩, ⟨some 41, some (40, true), .mv (.t 4), []⟩, ⟨some 42, some (40, true), .bo .leq (.t 41) (.c (.int .u8 57)), []⟩, ⟨some 43, none, .pk (.t 40) (.t 42) (.c (.bool false)), []⟩, ⟨some 44, none, .mv (.t 43), []⟩, ⟨some 45, some (44, false), .mv (.t 4), []⟩, ⟨some 46, some (44, false), .bo .eql (.t 45) (.c (.int .u8 95)), []⟩, ⟨some 47, none, .pk (.t 44) (.c (.bool true)) (.t 46), []⟩, ⟨some 6, none, .mv (.t 47), []⟩] [0, 3, 5, 6]) (.sq (.rg none [⟨some 48, none, .mv (.t 5), []⟩, ⟨some 49, none, .un .not (.t 48), []⟩, ⟨some 50, none, .mv (.t 49), []⟩, ⟨some 51, some (50, true), .mv (.t 3), []⟩, ⟨some 52, some (50, true), .bo .eql (.t 51) (.c (.int .i64 0)), []⟩, ⟨some 53, some (50, true), .mv (.t 52), []⟩, ⟨some 54, some (53, false), .mv (.t 6), []⟩, ⟨some 55, some (53, false), .un .not (.t 54), []⟩, ⟨some 56, some (50, true), .pk (.t 53) (.c (.bool true)) (.t 55), []⟩, ⟨some 57, none, .pk (.t 50) (.t 56) (.c (.bool false)), []⟩] [0, 3, 57]) (.cd (.t 57) (.sq (.rg none [⟨some 2, none, .mv (.c (.bool false)), []⟩] [2]) .rt) .sk)))))) (.rg none [⟨some 19, none, .mv (.t 3), []⟩, ⟨some 20, none, .bo .add (.t 19) (.c (.int .i64 1)), []⟩, ⟨some 3, none, .mv (.t 20), []⟩] [0, 3])))
def k95_1 : C := (.sq (.rg none [⟨some 2, none, .mv (.c (.bool true)), []⟩] [2]) .rt)
/-- retarget/retargetref01.Name -/
def c95 : FI.Fn := { body := (.sq (.rg none [⟨some 2, none, .mv (.c (.bool false)), []⟩] [0]) (.sq (.sq (.rg none [⟨some 7, none, .mv (.t 0), []⟩, ⟨some 8, none, .ln 0 (.t 7), []⟩, ⟨some 9, none, .bo .eql (.t 8) (.c (.int .i64 0)), []⟩, ⟨some 10, none, .mv (.t 9), []⟩, ⟨some 11, some (10, false), .mv (.t 0), []⟩, ⟨some 12, some (10, false), .ln 0 (.t 11), []⟩, ⟨some 13, some (10, false), .bo .gtr (.t 12) (.c (.int .i64 24)), []⟩, ⟨some 14, none, .pk (.t 10) (.c (.bool true)) (.t 13), []⟩] [0, 14]) (.cd (.t 14) (.sq (.rg none [⟨some 2, none, .mv (.c (.bool false)), []⟩] [2]) .rt) .sk)) (.sq (.sq (.rg none [⟨some 3, none, .mv (.c (.int .i64 0)), []⟩] [0, 3]) (.bl 0 (.lp true b95_0))) k95_1))), np := 1, res := [.t 2], mode := .iso }
/-- internal/stringslite.HasPrefix -/
def c101 : FI.Fn := { body := (.sq (.rg none [⟨some 4, none, .mv (.c (.bool false)), []⟩] [0, 1]) (.sq (.rg none [⟨some 5, none, .mv (.t 0), []⟩, ⟨some 6, none, .ln 0 (.t 5), []⟩, ⟨some 7, none, .mv (.t 1), []⟩, ⟨some 8, none, .ln 0 (.t 7), []⟩, ⟨some 9, none, .bo .geq (.t 6) (.t 8), []⟩, ⟨some 10, none, .mv (.t 9), []⟩, ⟨some 11, some (10, true), .mv (.t 0), []⟩, ⟨some 12, some (10, true), .mv (.t 1), []⟩, ⟨some 13, some (10, true), .ln 0 (.t 12), []⟩, ⟨some 14, some (10, true), .sl 0 (.t 11) none (some (.t 13)), []⟩, ⟨some 15, some (10, true), .mv (.t 1), []⟩, ⟨some 16, some (10, true), .bo .eql (.t 14) (.t 15), []⟩, ⟨some 17, none, .pk (.t 10) (.t 16) (.c (.bool false)), []⟩, ⟨some 4, none, .mv (.t 17), []⟩] [4]) .rt)), np := 2, res := [.t 4], mode := .iso }
/-- internal/stringslite.TrimPrefix -/
def c110 : FI.Fn := { body := (.sq (.rg none [⟨some 4, none, .mv (.c (.str [])), []⟩] [0, 1]) (.sq (.sq (.rg none [⟨some 5, none, .mv (.t 0), []⟩, ⟨some 6, none, .mv (.t 1), []⟩, ⟨some 7, none, .cl 101 [(.t 5), (.t 6)], []⟩] [0, 1, 7]) (.cd (.t 7) (.sq (.rg none [⟨some 8, none, .mv (.t 0), []⟩, ⟨some 9, none, .mv (.t 1), []⟩, ⟨some 10, none, .ln 0 (.t 9), []⟩, ⟨some 11, none, .sl 0 (.t 8) (some (.t 10)) none, []⟩, ⟨some 4, none, .mv (.t 11), []⟩] [4]) .rt) .sk)) (.sq (.rg none [⟨some 12, none, .mv (.t 0), []⟩, ⟨some 4, none, .mv (.t 12), []⟩] [4]) .rt))), np := 2, res := [.t 4], mode := .iso }
def b111_0 : C := (.sq (.rg none [⟨some 9, none, .bo .lss (.t 8) (.t 7), []⟩] [0, 1, 7, 8, 9]) (.sq (.cd (.t 9) .sk (.xt 0)) (.sq (.bl 1 (.sq (.rg none [⟨some 10, none, .mv (.t 8), []⟩, ⟨some 5, none, .mv (.t 10), []⟩] [0, 1, 5, 7, 8]) (.sq (.rg none [⟨some 11, none, .mv (.t 1), []⟩, ⟨some 12, none, .mv (.t 0), []⟩, ⟨some 13, none, .mv (.t 5), []⟩, ⟨some 14, none, .ia 6 (.t 12) (.t 13), []⟩, ⟨some 15, none, .ld (some 6) (.t 14), []⟩, ⟨some 16, none, .cw (.t 11) [(.t 15)], []⟩] [0, 1, 5, 7, 8, 16]) (.cd (.t 16) (.sq (.rg none [⟨some 17, none, .mv (.t 5), []⟩, ⟨some 4, none, .mv (.t 17), []⟩] [4]) .rt) .sk)))) (.rg none [⟨some 18, none, .bo .add (.t 8) (.c (.int .i64 1)), []⟩, ⟨some 8, none, .mv (.t 18), []⟩] [0, 1, 7, 8]))))
def k111_1 : C := (.sq (.rg none [⟨some 4, none, .mv (.c (.int .i64 (-1))), []⟩] [4]) .rt)
/-- slices.IndexFunc[[]retarget/api.Term,retarget/api.Term] -/
def c111 : FI.Fn := { body := (.sq (.rg none [⟨some 4, none, .mv (.c (.int .i64 0)), []⟩] [0, 1]) (.sq (.sq (.rg none [⟨some 6, none, .mv (.t 0), []⟩, ⟨some 7, none, .ln 1 (.t 6), []⟩, ⟨some 8, none, .mv (.c (.int .i64 0)), []⟩] [0, 1, 7, 8]) (.bl 0 (.lp true b111_0))) k111_1)), np := 2, res := [.t 4], mode := .iso }
def T : FI.Tab := [(3, .fn c3), (6, .fn c6), (7, .fn c7), (8, .fn c8), (9, .fn c9), (10, .fn c10), (11, .fn c11), (14, .fn c14), (15, .fn c15), (18, .fn c18), (19, .fn c19), (20, .fn c20), (21, .fn c21), (28, .fn c28), (29, .fn c29), (30, .fn c30), (31, .fn c31), (32, .fn c32), (33, .fn c33), (34, .fn c34), (38, .fn c38), (39, .fn c39), (40, .fn c40), (51, .fn c51), (52, .fn c52), (53, .fn c53), (54, .fn c54), (55, .fn c55), (56, .fn c56), (57, .fn c57), (58, .fn c58), (59, .fn c59), (60, .fn c60), (61, .fn c61), (87, .fn c87), (88, .fn c88), (89, .fn c89), (90, .fn c90), (91, .fn c91), (92, .fn c92), (93, .fn c93), (94, .fn c94), (95, .fn c95), (101, .fn c101), (110, .fn c110), (111, .fn c111), (1001400, .rd r1001400), (1001800, .rd r1001800), (1003000, .rd r1003000), (1003100, .rd r1003100)]
def glf (k : Nat) (cs : List FV) : Bool := (k == 0 && eqvs cs gl0)
theorem glfp (k : Nat) (cs : List FV) (h : glf k cs = true) : pures cs = true := by
  unfold glf at h
  simp only [Bool.or_eq_true, Bool.and_eq_true] at h
  rcases h with ⟨_, h⟩
  · rw [eqvs_eq h]; rfl
@[reducible] def sys0 : FI.Sys := ⟨glf, fun _ _ _ => False, glfp⟩
instance sys : FI.Sys := ⟨glf, @RkOf sys0 Tryd.prog (cmOf T) (rdOf T), glfp⟩
theorem mix : Tryd.prog.follows .mixedOrders = true := by kernel_rfl
theorem ok3 : okFn Tryd.prog (cmOf T) (rdOf T) 3 c3 = true := by kernel_rfl
theorem ok6 : okFn Tryd.prog (cmOf T) (rdOf T) 6 c6 = true := by kernel_rfl
theorem ok7 : okFn Tryd.prog (cmOf T) (rdOf T) 7 c7 = true := by kernel_rfl
theorem ok8 : okFn Tryd.prog (cmOf T) (rdOf T) 8 c8 = true := by kernel_rfl
theorem ok9 : okFn Tryd.prog (cmOf T) (rdOf T) 9 c9 = true := by kernel_rfl
theorem ok10 : okFn Tryd.prog (cmOf T) (rdOf T) 10 c10 = true := by kernel_rfl
theorem ok11 : okFn Tryd.prog (cmOf T) (rdOf T) 11 c11 = true := by kernel_rfl
theorem ok14 : okFn Tryd.prog (cmOf T) (rdOf T) 14 c14 = true := by kernel_rfl
theorem ok15 : okFn Tryd.prog (cmOf T) (rdOf T) 15 c15 = true := by kernel_rfl
theorem ok18 : okFn Tryd.prog (cmOf T) (rdOf T) 18 c18 = true := by kernel_rfl
theorem ok19 : okFn Tryd.prog (cmOf T) (rdOf T) 19 c19 = true := by kernel_rfl
theorem ok20 : okFn Tryd.prog (cmOf T) (rdOf T) 20 c20 = true := by kernel_rfl
theorem ok21 : okFn Tryd.prog (cmOf T) (rdOf T) 21 c21 = true := by kernel_rfl
theorem ok28 : okFn Tryd.prog (cmOf T) (rdOf T) 28 c28 = true := by kernel_rfl
theorem ok29 : okFn Tryd.prog (cmOf T) (rdOf T) 29 c29 = true := by kernel_rfl
theorem ok30 : okFn Tryd.prog (cmOf T) (rdOf T) 30 c30 = true := by kernel_rfl
theorem ok31 : okFn Tryd.prog (cmOf T) (rdOf T) 31 c31 = true := by kernel_rfl
theorem ok32 : okFn Tryd.prog (cmOf T) (rdOf T) 32 c32 = true := by kernel_rfl
theorem ok33 : okFn Tryd.prog (cmOf T) (rdOf T) 33 c33 = true := by kernel_rfl
theorem ok34 : okFn Tryd.prog (cmOf T) (rdOf T) 34 c34 = true := by kernel_rfl
theorem ok38 : okFn Tryd.prog (cmOf T) (rdOf T) 38 c38 = true := by kernel_rfl
theorem ok39 : okFn Tryd.prog (cmOf T) (rdOf T) 39 c39 = true := by kernel_rfl
theorem ok40 : okFn Tryd.prog (cmOf T) (rdOf T) 40 c40 = true := by kernel_rfl
theorem ok51 : okFn Tryd.prog (cmOf T) (rdOf T) 51 c51 = true := by kernel_rfl
theorem ok52 : okFn Tryd.prog (cmOf T) (rdOf T) 52 c52 = true := by kernel_rfl
theorem ok53 : okFn Tryd.prog (cmOf T) (rdOf T) 53 c53 = true := by kernel_rfl
theorem ok54 : okFn Tryd.prog (cmOf T) (rdOf T) 54 c54 = true := by kernel_rfl
theorem ok55 : okFn Tryd.prog (cmOf T) (rdOf T) 55 c55 = true := by kernel_rfl
theorem ok56 : okFn Tryd.prog (cmOf T) (rdOf T) 56 c56 = true := by kernel_rfl
theorem ok57 : okFn Tryd.prog (cmOf T) (rdOf T) 57 c57 = true := by kernel_rfl
theorem ok58 : okFn Tryd.prog (cmOf T) (rdOf T) 58 c58 = true := by kernel_rfl
theorem ok59 : okFn Tryd.prog (cmOf T) (rdOf T) 59 c59 = true := by kernel_rfl
theorem ok60 : okFn Tryd.prog (cmOf T) (rdOf T) 60 c60 = true := by kernel_rfl
theorem ok61 : okFn Tryd.prog (cmOf T) (rdOf T) 61 c61 = true := by kernel_rfl
theorem ok87 : okFn Tryd.prog (cmOf T) (rdOf T) 87 c87 = true := by kernel_rfl
theorem ok88 : okFn Tryd.prog (cmOf T) (rdOf T) 88 c88 = true := by kernel_rfl
theorem ok89 : okFn Tryd.prog (cmOf T) (rdOf T) 89 c89 = true := by kernel_rfl
theorem ok90 : okFn Tryd.prog (cmOf T) (rdOf T) 90 c90 = true := by kernel_rfl
theorem ok91 : okFn Tryd.prog (cmOf T) (rdOf T) 91 c91 = true := by kernel_rfl
theorem ok92 : okFn Tryd.prog (cmOf T) (rdOf T) 92 c92 = true := by kernel_rfl
theorem ok93 : okFn Tryd.prog (cmOf T) (rdOf T) 93 c93 = true := by kernel_rfl
theorem ok94 : okFn Tryd.prog (cmOf T) (rdOf T) 94 c94 = true := by kernel_rfl
theorem ok95 : okFn Tryd.prog (cmOf T) (rdOf T) 95 c95 = true := by kernel_rfl
theorem ok101 : okFn Tryd.prog (cmOf T) (rdOf T) 101 c101 = true := by kernel_rfl
theorem ok110 : okFn Tryd.prog (cmOf T) (rdOf T) 110 c110 = true := by kernel_rfl
theorem ok111 : okFn Tryd.prog (cmOf T) (rdOf T) 111 c111 = true := by kernel_rfl
theorem tab : TabOk Tryd.prog T where
  fn := by
    intro f d h
    obtain ⟨rfl, h0⟩ | h := tget_any h
    · cases h0; exact ok3
    obtain ⟨rfl, h0⟩ | h := tget_any h
    · cases h0; exact ok6
    obtain ⟨rfl, h0⟩ | h := tget_any h
    · cases h0; exact ok7
    obtain ⟨rfl, h0⟩ | h := tget_any h
    · cases h0; exact ok8
    obtain ⟨rfl, h0⟩ | h := tget_any h
    · cases h0; exact ok9
    obtain ⟨rfl, h0⟩ | h := tget_any h
    · cases h0; exact ok10
    obtain ⟨rfl, h0⟩ | h := tget_any h
    · cases h0; exact ok11
    obtain ⟨rfl, h0⟩ | h := tget_any h
    · cases h0; exact ok14
    obtain ⟨rfl, h0⟩ | h := tget_any h
    · cases h0; exact ok15
    obtain ⟨rfl, h0⟩ | h := tget_any h
    · cases h0; exact ok18
    obtain ⟨rfl, h0⟩ | h := tget_any h
    · cases h0; exact ok19
    obtain ⟨rfl, h0⟩ | h := tget_any h
    · cases h0; exact ok20
    obtain ⟨rfl, h0⟩ | h := tget_any h
    · cases h0; exact ok21
    obtain ⟨rfl, h0⟩ | h := tget_any h
    · cases h0; exact ok28
    obtain ⟨rfl, h0⟩ | h := tget_any h
    · cases h0; exact ok29
    obtain ⟨rfl, h0⟩ | h := tget_any h
    · cases h0; exact ok30
    obtain ⟨rfl, h0⟩ | h := tget_any h
    · cases h0; exact ok31
    obtain ⟨rfl, h0⟩ | h := tget_any h
    · cases h0; exact ok32
    obtain ⟨rfl, h0⟩ | h := tget_any h
    · cases h0; exact ok33
    obtain ⟨rfl, h0⟩ | h := tget_any h
    · cases h0; exact ok34
    obtain ⟨rfl, h0⟩ | h := tget_any h
    · cases h0; exact ok38
    obtain ⟨rfl, h0⟩ | h := tget_any h
    · cases h0; exact ok39
    obtain ⟨rfl, h0⟩ | h := tget_any h
    · cases h0; exact ok40
    obtain ⟨rfl, h0⟩ | h := tget_any h
    · cases h0; exact ok51
    obtain ⟨rfl, h0⟩ | h := tget_any h
    · cases h0; exact ok52
    obtain ⟨rfl, h0⟩ | h := tget_any h
    · cases h0; exact ok53
    obtain ⟨rfl, h0⟩ | h := tget_any h
    · cases h0; exact ok54
    obtain ⟨rfl, h0⟩ | h := tget_any h
    · cases h0; exact ok55
    obtain ⟨rfl, h0⟩ | h := tget_any h
    · cases h0; exact ok56
    obtain ⟨rfl, h0⟩ | h := tget_any h
    · cases h0; exact ok57
    obtain ⟨rfl, h0⟩ | h := tget_any h
    · cases h0; exact ok58
    obtain ⟨rfl, h0⟩ | h := tget_any h
    · cases h0; exact ok59
    obtain ⟨rfl, h0⟩ | h := tget_any h
    · cases h0; exact ok60
    obtain ⟨rfl, h0⟩ | h := tget_any h
    · cases h0; exact ok61
    obtain ⟨rfl, h0⟩ | h := tget_any h
    · cases h0; exact ok87
    obtain ⟨rfl, h0⟩ | h := tget_any h
    · cases h0; exact ok88
    obtain ⟨rfl, h0⟩ | h := tget_any h
    · cases h0; exact ok89
    obtain ⟨rfl, h0⟩ | h := tget_any h
    · cases h0; exact ok90
    obtain ⟨rfl, h0⟩ | h := tget_any h
    · cases h0; exact ok91
    obtain ⟨rfl, h0⟩ | h := tget_any h
    · cases h0; exact ok92
    obtain ⟨rfl, h0⟩ | h := tget_any h
    · cases h0; exact ok93
    obtain ⟨rfl, h0⟩ | h := tget_any h
    · cases h0; exact ok94
    obtain ⟨rfl, h0⟩ | h := tget_any h
    · cases h0; exact ok95
    obtain ⟨rfl, h0⟩ | h := tget_any h
    · cases h0; exact ok101
    obtain ⟨rfl, h0⟩ | h := tget_any h
    · cases h0; exact ok110
    obtain ⟨rfl, h0⟩ | h := tget_any h
    · cases h0; exact ok111
    obtain ⟨_, h0⟩ | h := tget_any h
    · cases h0
    obtain ⟨_, h0⟩ | h := tget_any h
    · cases h0
    obtain ⟨_, h0⟩ | h := tget_any h
    · cases h0
    obtain ⟨_, h0⟩ | h := tget_any h
    · cases h0
    cases h
  ext := by
    intro f d h
    obtain ⟨_, h0⟩ | h := tget_any h
    · cases h0
    obtain ⟨_, h0⟩ | h := tget_any h
    · cases h0
    obtain ⟨_, h0⟩ | h := tget_any h
    · cases h0
    obtain ⟨_, h0⟩ | h := tget_any h
    · cases h0
    obtain ⟨_, h0⟩ | h := tget_any h
    · cases h0
    obtain ⟨_, h0⟩ | h := tget_any h
    · cases h0
    obtain ⟨_, h0⟩ | h := tget_any h
    · cases h0
    obtain ⟨_, h0⟩ | h := tget_any h
    · cases h0
    obtain ⟨_, h0⟩ | h := tget_any h
    · cases h0
    obtain ⟨_, h0⟩ | h := tget_any h
    · cases h0
    obtain ⟨_, h0⟩ | h := tget_any h
    · cases h0
    obtain ⟨_, h0⟩ | h := tget_any h
    · cases h0
    obtain ⟨_, h0⟩ | h := tget_any h
    · cases h0
    obtain ⟨_, h0⟩ | h := tget_any h
    · cases h0
    obtain ⟨_, h0⟩ | h := tget_any h
    · cases h0
    obtain ⟨_, h0⟩ | h := tget_any h
    · cases h0
    obtain ⟨_, h0⟩ | h := tget_any h
    · cases h0
    obtain ⟨_, h0⟩ | h := tget_any h
    · cases h0
    obtain ⟨_, h0⟩ | h := tget_any h
    · cases h0
    obtain ⟨_, h0⟩ | h := tget_any h
    · cases h0
    obtain ⟨_, h0⟩ | h := tget_any h
    · cases h0
    obtain ⟨_, h0⟩ | h := tget_any h
    · cases h0
    obtain ⟨_, h0⟩ | h := tget_any h
    · cases h0
    obtain ⟨_, h0⟩ | h := tget_any h
    · cases h0
    obtain ⟨_, h0⟩ | h := tget_any h
    · cases h0
    obtain ⟨_, h0⟩ | h := tget_any h
    · cases h0
    obtain ⟨_, h0⟩ | h := tget_any h
    · cases h0
    obtain ⟨_, h0⟩ | h := tget_any h
    · cases h0
    obtain ⟨_, h0⟩ | h := tget_any h
    · cases h0
    obtain ⟨_, h0⟩ | h := tget_any h
    · cases h0
    obtain ⟨_, h0⟩ | h := tget_any h
    · cases h0
    obtain ⟨_, h0⟩ | h := tget_any h
    · cases h0
    obtain ⟨_, h0⟩ | h := tget_any h
    · cases h0
    obtain ⟨_, h0⟩ | h := tget_any h
    · cases h0
    obtain ⟨_, h0⟩ | h := tget_any h
    · cases h0
    obtain ⟨_, h0⟩ | h := tget_any h
    · cases h0
    obtain ⟨_, h0⟩ | h := tget_any h
    · cases h0
    obtain ⟨_, h0⟩ | h := tget_any h
    · cases h0
    obtain ⟨_, h0⟩ | h := tget_any h
    · cases h0
    obtain ⟨_, h0⟩ | h := tget_any h
    · cases h0
    obtain ⟨_, h0⟩ | h := tget_any h
    · cases h0
    obtain ⟨_, h0⟩ | h := tget_any h
    · cases h0
    obtain ⟨_, h0⟩ | h := tget_any h
    · cases h0
    obtain ⟨_, h0⟩ | h := tget_any h
    · cases h0
    obtain ⟨_, h0⟩ | h := tget_any h
    · cases h0
    obtain ⟨_, h0⟩ | h := tget_any h
    · cases h0
    obtain ⟨_, h0⟩ | h := tget_any h
    · cases h0
    obtain ⟨_, h0⟩ | h := tget_any h
    · cases h0
    obtain ⟨_, h0⟩ | h := tget_any h
    · cases h0
    obtain ⟨_, h0⟩ | h := tget_any h
    · cases h0
    cases h
  ct := by
    intro f d h
    obtain ⟨_, h0⟩ | h := tget_any h
    · cases h0
    obtain ⟨_, h0⟩ | h := tget_any h
    · cases h0
    obtain ⟨_, h0⟩ | h := tget_any h
    · cases h0
    obtain ⟨_, h0⟩ | h := tget_any h
    · cases h0
    obtain ⟨_, h0⟩ | h := tget_any h
    · cases h0
    obtain ⟨_, h0⟩ | h := tget_any h
    · cases h0
    obtain ⟨_, h0⟩ | h := tget_any h
    · cases h0
    obtain ⟨_, h0⟩ | h := tget_any h
    · cases h0
    obtain ⟨_, h0⟩ | h := tget_any h
    · cases h0
    obtain ⟨_, h0⟩ | h := tget_any h
    · cases h0
    obtain ⟨_, h0⟩ | h := tget_any h
    · cases h0
    obtain ⟨_, h0⟩ | h := tget_any h
    · cases h0
    obtain ⟨_, h0⟩ | h := tget_any h
    · cases h0
    obtain ⟨_, h0⟩ | h := tget_any h
    · cases h0
    obtain ⟨_, h0⟩ | h := tget_any h
    · cases h0
    obtain ⟨_, h0⟩ | h := tget_any h
    · cases h0
    obtain ⟨_, h0⟩ | h := tget_any h
    · cases h0
    obtain ⟨_, h0⟩ | h := tget_any h
    · cases h0
    obtain ⟨_, h0⟩ | h := tget_any h
    · cases h0
    obtain ⟨_, h0⟩ | h := tget_any h
    · cases h0
    obtain ⟨_, h0⟩ | h := tget_any h
    · cases h0
    obtain ⟨_, h0⟩ | h := tget_any h
    · cases h0
    obtain ⟨_, h0⟩ | h := tget_any h
    · cases h0
    obtain ⟨_, h0⟩ | h := tget_any h
    · cases h0
    obtain ⟨_, h0⟩ | h := tget_any h
    · cases h0
    obtain ⟨_, h0⟩ | h := tget_any h
    · cases h0
    obtain ⟨_, h0⟩ | h := tget_any h
    · cases h0
    obtain ⟨_, h0⟩ | h := tget_any h
    · cases h0
    obtain ⟨_, h0⟩ | h := tget_any h
    · cases h0
    obtain ⟨_, h0⟩ | h := tget_any h
    · cases h0
    obtain ⟨_, h0⟩ | h := tget_any h
    · cases h0
    obtain ⟨_, h0⟩ | h := tget_any h
    · cases h0
    obtain ⟨_, h0⟩ | h := tget_any h
    · cases h0
    obtain ⟨_, h0⟩ | h := tget_any h
    · cases h0
    obtain ⟨_, h0⟩ | h := tget_any h
    · cases h0
    obtain ⟨_, h0⟩ | h := tget_any h
    · cases h0
    obtain ⟨_, h0⟩ | h := tget_any h
    · cases h0
    obtain ⟨_, h0⟩ | h := tget_any h
    · cases h0
    obtain ⟨_, h0⟩ | h := tget_any h
    · cases h0
    obtain ⟨_, h0⟩ | h := tget_any h
    · cases h0
    obtain ⟨_, h0⟩ | h := tget_any h
    · cases h0
    obtain ⟨_, h0⟩ | h := tget_any h
    · cases h0
    obtain ⟨_, h0⟩ | h := tget_any h
    · cases h0
    obtain ⟨_, h0⟩ | h := tget_any h
    · cases h0
    obtain ⟨_, h0⟩ | h := tget_any h
    · cases h0
    obtain ⟨_, h0⟩ | h := tget_any h
    · cases h0
    obtain ⟨_, h0⟩ | h := tget_any h
    · cases h0
    obtain ⟨_, h0⟩ | h := tget_any h
    · cases h0
    obtain ⟨_, h0⟩ | h := tget_any h
    · cases h0
    obtain ⟨_, h0⟩ | h := tget_any h
    · cases h0
    cases h
  mr := by
    intro f d h
    obtain ⟨_, h0⟩ | h := tget_any h
    · cases h0
    obtain ⟨_, h0⟩ | h := tget_any h
    · cases h0
    obtain ⟨_, h0⟩ | h := tget_any h
    · cases h0
    obtain ⟨_, h0⟩ | h := tget_any h
    · cases h0
    obtain ⟨_, h0⟩ | h := tget_any h
    · cases h0
    obtain ⟨_, h0⟩ | h := tget_any h
    · cases h0
    obtain ⟨_, h0⟩ | h := tget_any h
    · cases h0
    obtain ⟨_, h0⟩ | h := tget_any h
    · cases h0
    obtain ⟨_, h0⟩ | h := tget_any h
    · cases h0
    obtain ⟨_, h0⟩ | h := tget_any h
    · cases h0
    obtain ⟨_, h0⟩ | h := tget_any h
    · cases h0
    obtain ⟨_, h0⟩ | h := tget_any h
    · cases h0
    obtain ⟨_, h0⟩ | h := tget_any h
    · cases h0
    obtain ⟨_, h0⟩ | h := tget_any h
    · cases h0
    obtain ⟨_, h0⟩ | h := tget_any h
    · cases h0
    obtain ⟨_, h0⟩ | h := tget_any h
    · cases h0
    obtain ⟨_, h0⟩ | h := tget_any h
    · cases h0
    obtain ⟨_, h0⟩ | h := tget_any h
    · cases h0
    obtain ⟨_, h0⟩ | h := tget_any h
    · cases h0
    obtain ⟨_, h0⟩ | h := tget_any h
    · cases h0
    obtain ⟨_, h0⟩ | h := tget_any h
    · cases h0
    obtain ⟨_, h0⟩ | h := tget_any h
    · cases h0
    obtain ⟨_, h0⟩ | h := tget_any h
    · cases h0
    obtain ⟨_, h0⟩ | h := tget_any h
    · cases h0
    obtain ⟨_, h0⟩ | h := tget_any h
    · cases h0
    obtain ⟨_, h0⟩ | h := tget_any h
    · cases h0
    obtain ⟨_, h0⟩ | h := tget_any h
    · cases h0
    obtain ⟨_, h0⟩ | h := tget_any h
    · cases h0
    obtain ⟨_, h0⟩ | h := tget_any h
    · cases h0
    obtain ⟨_, h0⟩ | h := tget_any h
    · cases h0
    obtain ⟨_, h0⟩ | h := tget_any h
    · cases h0
    obtain ⟨_, h0⟩ | h := tget_any h
    · cases h0
    obtain ⟨_, h0⟩ | h := tget_any h
    · cases h0
    obtain ⟨_, h0⟩ | h := tget_any h
    · cases h0
    obtain ⟨_, h0⟩ | h := tget_any h
    · cases h0
    obtain ⟨_, h0⟩ | h := tget_any h
    · cases h0
    obtain ⟨_, h0⟩ | h := tget_any h
    · cases h0
    obtain ⟨_, h0⟩ | h := tget_any h
    · cases h0
    obtain ⟨_, h0⟩ | h := tget_any h
    · cases h0
    obtain ⟨_, h0⟩ | h := tget_any h
    · cases h0
    obtain ⟨_, h0⟩ | h := tget_any h
    · cases h0
    obtain ⟨_, h0⟩ | h := tget_any h
    · cases h0
    obtain ⟨_, h0⟩ | h := tget_any h
    · cases h0
    obtain ⟨_, h0⟩ | h := tget_any h
    · cases h0
    obtain ⟨_, h0⟩ | h := tget_any h
    · cases h0
    obtain ⟨_, h0⟩ | h := tget_any h
    · cases h0
    obtain ⟨_, h0⟩ | h := tget_any h
    · cases h0
    obtain ⟨_, h0⟩ | h := tget_any h
    · cases h0
    obtain ⟨_, h0⟩ | h := tget_any h
    · cases h0
    obtain ⟨_, h0⟩ | h := tget_any h
    · cases h0
    cases h
  mix := mix
  rk := fun f r ct => RkOf_gl (s := sys0) (t := sys) rfl
theorem tg3 : tget T 3 = some (.fn c3) := by rfl
theorem tg6 : tget T 6 = some (.fn c6) := by rfl
theorem tg7 : tget T 7 = some (.fn c7) := by rfl
theorem tg8 : tget T 8 = some (.fn c8) := by rfl
theorem tg9 : tget T 9 = some (.fn c9) := by rfl
theorem tg10 : tget T 10 = some (.fn c10) := by rfl
theorem tg11 : tget T 11 = some (.fn c11) := by rfl
theorem tg14 : tget T 14 = some (.fn c14) := by rfl
theorem tg15 : tget T 15 = some (.fn c15) := by rfl
theorem tg18 : tget T 18 = some (.fn c18) := by rfl
theorem tg19 : tget T 19 = some (.fn c19) := by rfl
theorem tg20 : tget T 20 = some (.fn c20) := by rfl
theorem tg21 : tget T 21 = some (.fn c21) := by rfl
theorem tg28 : tget T 28 = some (.fn c28) := by rfl
theorem tg29 : tget T 29 = some (.fn c29) := by rfl
theorem tg30 : tget T 30 = some (.fn c30) := by rfl
theorem tg31 : tget T 31 = some (.fn c31) := by rfl
theorem tg32 : tget T 32 = some (.fn c32) := by rfl
theorem tg33 : tget T 33 = some (.fn c33) := by rfl
theorem tg34 : tget T 34 = some (.fn c34) := by rfl
theorem tg38 : tget T 38 = some (.fn c38) := by rfl
theorem tg39 : tget T 39 = some (.fn c39) := by rfl
theorem tg40 : tget T 40 = some (.fn c40) := by rfl
theorem tg51 : tget T 51 = some (.fn c51) := by rfl
theorem tg52 : tget T 52 = some (.fn c52) := by rfl
theorem tg53 : tget T 53 = some (.fn c53) := by rfl
theorem tg54 : tget T 54 = some (.fn c54) := by rfl
theorem tg55 : tget T 55 = some (.fn c55) := by rfl
theorem tg56 : tget T 56 = some (.fn c56) := by rfl
theorem tg57 : tget T 57 = some (.fn c57) := by rfl
theorem tg58 : tget T 58 = some (.fn c58) := by rfl
theorem tg59 : tget T 59 = some (.fn c59) := by rfl
theorem tg60 : tget T 60 = some (.fn c60) := by rfl
theorem tg61 : tget T 61 = some (.fn c61) := by rfl
theorem tg87 : tget T 87 = some (.fn c87) := by rfl
theorem tg88 : tget T 88 = some (.fn c88) := by rfl
theorem tg89 : tget T 89 = some (.fn c89) := by rfl
theorem tg90 : tget T 90 = some (.fn c90) := by rfl
theorem tg91 : tget T 91 = some (.fn c91) := by rfl
theorem tg92 : tget T 92 = some (.fn c92) := by rfl
theorem tg93 : tget T 93 = some (.fn c93) := by rfl
theorem tg94 : tget T 94 = some (.fn c94) := by rfl
theorem tg95 : tget T 95 = some (.fn c95) := by rfl
theorem tg101 : tget T 101 = some (.fn c101) := by rfl
theorem tg110 : tget T 110 = some (.fn c110) := by rfl
theorem tg111 : tget T 111 = some (.fn c111) := by rfl
theorem tg1001400 : tget T 1001400 = some (.rd r1001400) := by rfl
theorem tg1001800 : tget T 1001800 = some (.rd r1001800) := by rfl
theorem tg1003000 : tget T 1003000 = some (.rd r1003000) := by rfl
theorem tg1003100 : tget T 1003100 = some (.rd r1003100) := by rfl
end Go.Proofs.YtkobnfjeehnhlaaDoor.Fi
