/- Calls that are known beforehand. -/
import Derived.Test.YtkobnfjeehnhlaaGreatDoorCTNa
import Derived.Test.YtkobnfjeehnhlaaGreatDoorFICache
set_option linter.all false
set_option linter.unusedSimpArgs false
set_option linter.unusedVariables false
set_option linter.unusedSectionVars false
namespace Go.Proofs.YtkobnfjeehnhlaaGreatDoor.Fi
open Go.FI
set_option maxRecDepth 1000000
def w0 : FV := (.agg [(.int .u8 2), (.int .i64 8), (.int .u64 0), (.str [122]), (.int .i64 0), (.lst true [])])
def w1 : FV := (.agg [(.int .u8 10), (.int .i64 8), (.int .u64 0), (.str []), (.int .i64 0), (.lst false [w0, w0])])
def w2 : FV := (.agg [(.int .u8 10), (.int .i64 8), (.int .u64 0), (.str []), (.int .i64 0), (.lst false [w1, w1])])
def w3 : FV := (.agg [(.int .u8 10), (.int .i64 8), (.int .u64 0), (.str []), (.int .i64 0), (.lst false [w2, w2])])
def w4 : FV := (.agg [(.int .u8 10), (.int .i64 8), (.int .u64 0), (.str []), (.int .i64 0), (.lst false [w3, w3])])
def w5 : FV := (.agg [(.int .u8 10), (.int .i64 8), (.int .u64 0), (.str []), (.int .i64 0), (.lst false [w4, w4])])
def w6 : FV := (.agg [(.int .u8 10), (.int .i64 8), (.int .u64 0), (.str []), (.int .i64 0), (.lst false [w5, w5])])
def w7 : FV := (.agg [(.int .u8 10), (.int .i64 8), (.int .u64 0), (.str []), (.int .i64 0), (.lst false [w6, w6])])
def w8 : FV := (.yl 1006200 48 [(.ptr 41 1 0 0), (.ptr 42 1 0 0), (.ptr 44 1 0 0)])
def w9 : FV := (.agg [(.int .u8 2), (.int .i64 8), (.int .u64 0), (.str [97]), (.int .i64 0), (.lst true [])])
def w10 : FV := (.agg [(.int .u8 4), (.int .i64 8), (.int .u64 0), (.str []), (.int .i64 0), (.lst false [w9])])
def w11 : FV := (.agg [(.int .u8 4), (.int .i64 8), (.int .u64 0), (.str []), (.int .i64 0), (.lst false [w10])])
def w12 : FV := (.agg [(.int .u8 4), (.int .i64 8), (.int .u64 0), (.str []), (.int .i64 0), (.lst false [w11])])
def w13 : FV := (.agg [(.int .u8 4), (.int .i64 8), (.int .u64 0), (.str []), (.int .i64 0), (.lst false [w12])])
def w14 : FV := (.agg [(.int .u8 4), (.int .i64 8), (.int .u64 0), (.str []), (.int .i64 0), (.lst false [w13])])
def w15 : FV := (.agg [(.int .u8 4), (.int .i64 8), (.int .u64 0), (.str []), (.int .i64 0), (.lst false [w14])])
def w16 : FV := (.agg [(.int .u8 4), (.int .i64 8), (.int .u64 0), (.str []), (.int .i64 0), (.lst false [w15])])
def w17 : FV := (.agg [(.int .u8 4), (.int .i64 8), (.int .u64 0), (.str []), (.int .i64 0), (.lst false [w16])])
def w18 : FV := (.agg [(.int .u8 4), (.int .i64 8), (.int .u64 0), (.str []), (.int .i64 0), (.lst false [w17])])
def w19 : FV := (.agg [(.int .u8 4), (.int .i64 8), (.int .u64 0), (.str []), (.int .i64 0), (.lst false [w18])])
def w20 : FV := (.agg [(.int .u8 4), (.int .i64 8), (.int .u64 0), (.str []), (.int .i64 0), (.lst false [w19])])
def w21 : FV := (.agg [(.int .u8 4), (.int .i64 8), (.int .u64 0), (.str []), (.int .i64 0), (.lst false [w20])])
def w22 : FV := (.agg [(.int .u8 4), (.int .i64 8), (.int .u64 0), (.str []), (.int .i64 0), (.lst false [w21])])
def w23 : FV := (.agg [(.int .u8 4), (.int .i64 8), (.int .u64 0), (.str []), (.int .i64 0), (.lst false [w22])])
def w24 : FV := (.agg [(.int .u8 4), (.int .i64 8), (.int .u64 0), (.str []), (.int .i64 0), (.lst false [w23])])
def w25 : FV := (.agg [(.int .u8 4), (.int .i64 8), (.int .u64 0), (.str []), (.int .i64 0), (.lst false [w24])])
def w26 : FV := (.agg [(.int .u8 4), (.int .i64 8), (.int .u64 0), (.str []), (.int .i64 0), (.lst false [w25])])
def w27 : FV := (.agg [(.int .u8 4), (.int .i64 8), (.int .u64 0), (.str []), (.int .i64 0), (.lst false [w26])])
def w28 : FV := (.agg [(.int .u8 4), (.int .i64 8), (.int .u64 0), (.str []), (.int .i64 0), (.lst false [w27])])
def w29 : FV := (.agg [(.int .u8 4), (.int .i64 8), (.int .u64 0), (.str []), (.int .i64 0), (.lst false [w28])])
def w30 : FV := (.agg [(.int .u8 4), (.int .i64 8), (.int .u64 0), (.str []), (.int .i64 0), (.lst false [w29])])
def w31 : FV := (.agg [(.int .u8 4), (.int .i64 8), (.int .u64 0), (.str []), (.int .i64 0), (.lst false [w30])])
def w32 : FV := (.agg [(.int .u8 4), (.int .i64 8), (.int .u64 0), (.str []), (.int .i64 0), (.lst false [w31])])
def w33 : FV := (.agg [(.int .u8 4), (.int .i64 8), (.int .u64 0), (.str []), (.int .i64 0), (.lst false [w32])])
def w34 : FV := (.agg [(.int .u8 4), (.int .i64 8), (.int .u64 0), (.str []), (.int .i64 0), (.lst false [w33])])
def w35 : FV := (.agg [(.int .u8 4), (.int .i64 8), (.int .u64 0), (.str []), (.int .i64 0), (.lst false [w34])])
def w36 : FV := (.agg [(.int .u8 4), (.int .i64 8), (.int .u64 0), (.str []), (.int .i64 0), (.lst false [w35])])
def w37 : FV := (.agg [(.int .u8 4), (.int .i64 8), (.int .u64 0), (.str []), (.int .i64 0), (.lst false [w36])])
def w38 : FV := (.agg [(.int .u8 4), (.int .i64 8), (.int .u64 0), (.str []), (.int .i64 0), (.lst false [w37])])
def w39 : FV := (.agg [(.int .u8 4), (.int .i64 8), (.int .u64 0), (.str []), (.int .i64 0), (.lst false [w38])])
def w40 : FV := (.agg [(.int .u8 4), (.int .i64 8), (.int .u64 0), (.str []), (.int .i64 0), (.lst false [w39])])
def w41 : FV := (.agg [(.int .u8 4), (.int .i64 8), (.int .u64 0), (.str []), (.int .i64 0), (.lst false [w40])])
def w42 : FV := (.agg [(.int .u8 4), (.int .i64 8), (.int .u64 0), (.str []), (.int .i64 0), (.lst false [w41])])
def w43 : FV := (.agg [(.int .u8 4), (.int .i64 8), (.int .u64 0), (.str []), (.int .i64 0), (.lst false [w42])])
def w44 : FV := (.agg [(.int .u8 4), (.int .i64 8), (.int .u64 0), (.str []), (.int .i64 0), (.lst false [w43])])
def w45 : FV := (.agg [(.int .u8 4), (.int .i64 8), (.int .u64 0), (.str []), (.int .i64 0), (.lst false [w44])])
def w46 : FV := (.agg [(.int .u8 4), (.int .i64 8), (.int .u64 0), (.str []), (.int .i64 0), (.lst false [w45])])
def w47 : FV := (.agg [(.int .u8 4), (.int .i64 8), (.int .u64 0), (.str []), (.int .i64 0), (.lst false [w46])])
def w48 : FV := (.agg [(.int .u8 4), (.int .i64 8), (.int .u64 0), (.str []), (.int .i64 0), (.lst false [w47])])
def w49 : FV := (.agg [(.int .u8 4), (.int .i64 8), (.int .u64 0), (.str []), (.int .i64 0), (.lst false [w48])])
def w50 : FV := (.agg [(.int .u8 4), (.int .i64 8), (.int .u64 0), (.str []), (.int .i64 0), (.lst false [w49])])
def w51 : FV := (.agg [(.int .u8 4), (.int .i64 8), (.int .u64 0), (.str []), (.int .i64 0), (.lst false [w50])])
def w52 : FV := (.agg [(.int .u8 4), (.int .i64 8), (.int .u64 0), (.str []), (.int .i64 0), (.lst false [w51])])
def w53 : FV := (.agg [(.int .u8 4), (.int .i64 8), (.int .u64 0), (.str []), (.int .i64 0), (.lst false [w52])])
def w54 : FV := (.agg [(.int .u8 4), (.int .i64 8), (.int .u64 0), (.str []), (.int .i64 0), (.lst false [w53])])
def w55 : FV := (.agg [(.int .u8 4), (.int .i64 8), (.int .u64 0), (.str []), (.int .i64 0), (.lst false [w54])])
def w56 : FV := (.agg [(.int .u8 4), (.int .i64 8), (.int .u64 0), (.str []), (.int .i64 0), (.lst false [w55])])
def w57 : FV := (.agg [(.int .u8 4), (.int .i64 8), (.int .u64 0), (.str []), (.int .i64 0), (.lst false [w56])])
def w58 : FV := (.agg [(.int .u8 4), (.int .i64 8), (.int .u64 0), (.str []), (.int .i64 0), (.lst false [w57])])
def w59 : FV := (.agg [(.int .u8 4), (.int .i64 8), (.int .u64 0), (.str []), (.int .i64 0), (.lst false [w58])])
def w60 : FV := (.agg [(.int .u8 4), (.int .i64 8), (.int .u64 0), (.str []), (.int .i64 0), (.lst false [w59])])
def w61 : FV := (.agg [(.int .u8 4), (.int .i64 8), (.int .u64 0), (.str []), (.int .i64 0), (.lst false [w60])])
def w62 : FV := (.agg [(.int .u8 4), (.int .i64 8), (.int .u64 0), (.str []), (.int .i64 0), (.lst false [w61])])
def w63 : FV := (.agg [(.int .u8 4), (.int .i64 8), (.int .u64 0), (.str []), (.int .i64 0), (.lst false [w62])])
def w64 : FV := (.agg [(.int .u8 4), (.int .i64 8), (.int .u64 0), (.str []), (.int .i64 0), (.lst false [w63])])
def w65 : FV := (.agg [(.int .u8 4), (.int .i64 8), (.int .u64 0), (.str []), (.int .i64 0), (.lst false [w64])])
def w66 : FV := (.agg [(.int .u8 4), (.int .i64 8), (.int .u64 0), (.str []), (.int .i64 0), (.lst false [w65])])
def w67 : FV := (.agg [(.int .u8 4), (.int .i64 8), (.int .u64 0), (.str []), (.int .i64 0), (.lst false [w66])])
def w68 : FV := (.agg [(.int .u8 4), (.int .i64 8), (.int .u64 0), (.str []), (.int .i64 0), (.lst false [w67])])
def w69 : FV := (.agg [(.int .u8 10), (.int .i64 8), (.int .u64 0), (.str []), (.int .i64 0), (.lst false [w9, w9])])
def w70 : FV := (.agg [(.int .u8 10), (.int .i64 8), (.int .u64 0), (.str []), (.int .i64 0), (.lst false [w69, w69])])
def w71 : FV := (.agg [(.int .u8 10), (.int .i64 8), (.int .u64 0), (.str []), (.int .i64 0), (.lst false [w70, w70])])
def w72 : FV := (.agg [(.int .u8 10), (.int .i64 8), (.int .u64 0), (.str []), (.int .i64 0), (.lst false [w71, w71])])
def w73 : FV := (.agg [(.int .u8 10), (.int .i64 8), (.int .u64 0), (.str []), (.int .i64 0), (.lst false [w72, w72])])
def w74 : FV := (.agg [(.int .u8 10), (.int .i64 8), (.int .u64 0), (.str []), (.int .i64 0), (.lst false [w73, w73])])
def w75 : FV := (.agg [(.int .u8 10), (.int .i64 8), (.int .u64 0), (.str []), (.int .i64 0), (.lst false [w74, w74])])
def w76 : FV := (.agg [(.int .u8 10), (.int .i64 8), (.int .u64 0), (.str []), (.int .i64 0), (.lst false [w75, w75])])
def W0 : Known := []
def ha1 : Heap := [(26, .row 6 [w6]), (10, .row 6 [w7]), (6, .lp 0 0), (2, .row 1 [(.int .i64 1)]), (0, .row 6 [w7])]
def hb1 : Heap := [(32, .row 6 [w6]), (26, .row 6 [w6]), (10, .row 6 [w7]), (6, .lp 0 0), (2, .row 1 [(.int .i64 128)]), (0, .row 6 [w7])]
def W1 : Known := ⟨117, [w6, (.yl 1003800 6 [(.ptr 2 1 0 0)])], some (ha1, 32, hb1, 47), (.bool true)⟩ :: W0
def ha2 : Heap := [(26, .row 6 [w6]), (10, .row 6 [w7]), (6, .lp 0 0), (2, .row 1 [(.int .i64 128)]), (0, .row 6 [w7])]
def hb2 : Heap := [(32, .row 6 [w6]), (26, .row 6 [w6]), (10, .row 6 [w7]), (6, .lp 0 0), (2, .row 1 [(.int .i64 255)]), (0, .row 6 [w7])]
def W2 : Known := ⟨117, [w6, (.yl 1003800 6 [(.ptr 2 1 0 0)])], some (ha2, 32, hb2, 47), (.bool true)⟩ :: W1
def W3 : Known := ⟨37, [w7], none, (.int .i64 8)⟩ :: W2
def ha4 : Heap := [(82, .row 6 [w4]), (70, .row 6 [w5]), (64, .row 6 [w5]), (58, .row 6 [w5]), (46, .row 6 [w6]), (40, .row 6 [w6]), (34, .row 6 [w6]), (22, .row 6 [w7]), (16, .row 6 [w7]), (12, .lp 0 0), (1, .row 1 [(.int .i64 0)]), (0, .row 6 [w7])]
def hb4 : Heap := [(94, .row 6 [w4]), (88, .row 6 [w4]), (82, .row 6 [w4]), (70, .row 6 [w5]), (64, .row 6 [w5]), (58, .row 6 [w5]), (46, .row 6 [w6]), (40, .row 6 [w6]), (34, .row 6 [w6]), (22, .row 6 [w7]), (16, .row 6 [w7]), (12, .lp 0 0), (1, .row 1 [(.int .i64 0)]), (0, .row 6 [w7])]
def W4 : Known := ⟨117, [w4, (.yl 1003100 12 [(.ptr 1 1 0 0)])], some (ha4, 88, hb4, 105), (.bool true)⟩ :: W3
def ha5 : Heap := [(70, .row 6 [w6]), (58, .row 6 [w7]), (52, .row 6 [w7]), (48, .lp 0 0), (44, .row 1 [(.map 43)]), (43, .mp []), (42, .row 1 [(.bool false)]), (41, .row 1 [.nilm]), (40, .row 6 [w7]), (22, .row 6 [w7]), (16, .row 6 [w7]), (12, .lp 3 0), (1, .row 1 [(.int .i64 0)]), (0, .row 6 [w7])]
def hb5 : Heap := [(82, .row 6 [w6]), (76, .row 6 [w6]), (70, .row 6 [w6]), (58, .row 6 [w7]), (52, .row 6 [w7]), (48, .lp 0 0), (44, .row 1 [(.map 43)]), (43, .mp [((.str [122]), (.int .i64 8))]), (42, .row 1 [(.bool false)]), (41, .row 1 [.nilm]), (40, .row 6 [w7]), (22, .row 6 [w7]), (16, .row 6 [w7]), (12, .lp 3 0), (1, .row 1 [(.int .i64 0)]), (0, .row 6 [w7])]
def W5 : Known := ⟨117, [w6, w8], some (ha5, 76, hb5, 93), (.bool true)⟩ :: W4
def ha6 : Heap := [(70, .row 6 [w6]), (58, .row 6 [w7]), (52, .row 6 [w7]), (48, .lp 0 0), (44, .row 1 [(.map 43)]), (43, .mp [((.str [122]), (.int .i64 8))]), (42, .row 1 [(.bool false)]), (41, .row 1 [.nilm]), (40, .row 6 [w7]), (22, .row 6 [w7]), (16, .row 6 [w7]), (12, .lp 3 0), (1, .row 1 [(.int .i64 0)]), (0, .row 6 [w7])]
def hb6 : Heap := [(82, .row 6 [w6]), (76, .row 6 [w6]), (70, .row 6 [w6]), (58, .row 6 [w7]), (52, .row 6 [w7]), (48, .lp 0 0), (44, .row 1 [(.map 43)]), (43, .mp [((.str [122]), (.int .i64 8))]), (42, .row 1 [(.bool false)]), (41, .row 1 [.nilm]), (40, .row 6 [w7]), (22, .row 6 [w7]), (16, .row 6 [w7]), (12, .lp 3 0), (1, .row 1 [(.int .i64 0)]), (0, .row 6 [w7])]
def W6 : Known := ⟨117, [w6, w8], some (ha6, 76, hb6, 93), (.bool true)⟩ :: W5
def ha7 : Heap := [(778, .row 6 [w36]), (766, .row 6 [w37]), (760, .row 6 [w37]), (754, .row 6 [w37]), (742, .row 6 [w38]), (736, .row 6 [w38]), (730, .row 6 [w38]), (718, .row 6 [w39]), (712, .row 6 [w39]), (706, .row 6 [w39]), (694, .row 6 [w40]), (688, .row 6 [w40]), (682, .row 6 [w40]), (670, .row 6 [w41]), (664, .row 6 [w41]), (658, .row 6 [w41]), (646, .row 6 [w42]), (640, .row 6 [w42]), (634, .row 6 [w42]), (622, .row 6 [w43]), (616, .row 6 [w43]), (610, .row 6 [w43]), (598, .row 6 [w44]), (592, .row 6 [w44]), (586, .row 6 [w44]), (574, .row 6 [w45]), (568, .row 6 [w45]), (562, .row 6 [w45]), (550, .row 6 [w46]), (544, .row 6 [w46]), (538, .row 6 [w46]), (526, .row 6 [w47]), (520, .row 6 [w47]), (514, .row 6 [w47]), (502, .row 6 [w48]), (496, .row 6 [w48]), (490, .row 6 [w48]), (478, .row 6 [w49]), (472, .row 6 [w49]), (466, .row 6 [w49]), (454, .row 6 [w50]), (448, .row 6 [w50]), (442, .row 6 [w50]), (430, .row 6 [w51]), (424, .row 6 [w51]), (418, .row 6 [w51]), (406, .row 6 [w52]), (400, .row 6 [w52]), (394, .row 6 [w52]), (382, .row 6 [w53]), (376, .row 6 [w53]), (370, .row 6 [w53]), (358, .row 6 [w54]), (352, .row 6 [w54]), (346, .row 6 [w54]), (334, .row 6 [w55]), (328, .row 6 [w55]), (322, .row 6 [w55]), (310, .row 6 [w56]), (304, .row 6 [w56]), (298, .row 6 [w56]), (286, .row 6 [w57]), (280, .row 6 [w57]), (274, .row 6 [w57]), (262, .row 6 [w58]), (256, .row 6 [w58]), (250, .row 6 [w58]), (238, .row 6 [w59]), (232, .row 6 [w59]), (226, .row 6 [w59]), (214, .row 6 [w60]), (208, .row 6 [w60]), (202, .row 6 [w60]), (190, .row 6 [w61]), (184, .row 6 [w61]), (178, .row 6 [w61]), (166, .row 6 [w62]), (160, .row 6 [w62]), (154, .row 6 [w62]), (142, .row 6 [w63]), (136, .row 6 [w63]), (130, .row 6 [w63]), (118, .row 6 [w64]), (112, .row 6 [w64]), (106, .row 6 [w64]), (94, .row 6 [w65]), (88, .row 6 [w65]), (82, .row 6 [w65]), (70, .row 6 [w66]), (64, .row 6 [w66]), (58, .row 6 [w66]), (46, .row 6 [w67]), (40, .row 6 [w67]), (34, .row 6 [w67]), (22, .row 6 [w68]), (16, .row 6 [w68]), (12, .lp 0 0), (1, .row 1 [(.int .i64 0)]), (0, .row 6 [w68])]
def hb7 : Heap := [(790, .row 6 [w36]), (784, .row 6 [w36]), (778, .row 6 [w36]), (766, .row 6 [w37]), (760, .row 6 [w37]), (754, .row 6 [w37]), (742, .row 6 [w38]), (736, .row 6 [w38]), (730, .row 6 [w38]), (718, .row 6 [w39]), (712, .row 6 [w39]), (706, .row 6 [w39]), (694, .row 6 [w40]), (688, .row 6 [w40]), (682, .row 6 [w40]), (670, .row 6 [w41]), (664, .row 6 [w41]), (658, .row 6 [w41]), (646, .row 6 [w42]), (640, .row 6 [w42]), (634, .row 6 [w42]), (622, .row 6 [w43]), (616, .row 6 [w43]), (610, .row 6 [w43]), (598, .row 6 [w44]), (592, .row 6 [w44]), (586, .row 6 [w44]), (574, .row 6 [w45]), (568, .row 6 [w45]), (562, .row 6 [w45]), (550, .row 6 [w46]), (544, .row 6 [w46]), (538, .row 6 [w46]), (526, .row 6 [w47]), (520, .row 6 [w47]), (514, .row 6 [w47]), (502, .row 6 [w48]), (496, .row 6 [w48]), (490, .row 6 [w48]), (478, .row 6 [w49]), (472, .row 6 [w49]), (466, .row 6 [w49]), (454, .row 6 [w50]), (448, .row 6 [w50]), (442, .row 6 [w50]), (430, .row 6 [w51]), (424, .row 6 [w51]), (418, .row 6 [w51]), (406, .row 6 [w52]), (400, .row 6 [w52]), (394, .row 6 [w52]), (382, .row 6 [w53]), (376, .row 6 [w53]), (370, .row 6 [w53]), (358, .row 6 [w54]), (352, .row 6 [w54]), (346, .row 6 [w54]), (334, .row 6 [w55]), (328, .row 6 [w55]), (322, .row 6 [w55]), (310, .row 6 [w56]), (304, .row 6 [w56]), (298, .row 6 [w56]), (286, .row 6 [w57]), (280, .row 6 [w57]), (274, .row 6 [w57]), (262, .row 6 [w58]), (256, .row 6 [w58]), (250, .row 6 [w58]), (238, .row 6 [w59]), (232, .row 6 [w59]), (226, .row 6 [w59]), (214, .row 6 [w60]), (208, .row 6 [w60]), (202, .row 6 [w60]), (190, .row 6 [w61]), (184, .row 6 [w61]), (178, .row 6 [w61]), (166, .row 6 [w62]), (160, .row 6 [w62]), (154, .row 6 [w62]), (142, .row 6 [w63]), (136, .row 6 [w63]), (130, .row 6 [w63]), (118, .row 6 [w64]), (112, .row 6 [w64]), (106, .row 6 [w64]), (94, .row 6 [w65]), (88, .row 6 [w65]), (82, .row 6 [w65]), (70, .row 6 [w66]), (64, .row 6 [w66]), (58, .row 6 [w66]), (46, .row 6 [w67]), (40, .row 6 [w67]), (34, .row 6 [w67]), (22, .row 6 [w68]), (16, .row 6 [w68]), (12, .lp 0 0), (1, .row 1 [(.int .i64 0)]), (0, .row 6 [w68])]
def W7 : Known := ⟨117, [w36, (.yl 1003100 12 [(.ptr 1 1 0 0)])], some (ha7, 784, hb7, 801), (.bool true)⟩ :: W6
def ha8 : Heap := [(106, .row 6 [w64]), (94, .row 6 [w65]), (88, .row 6 [w65]), (82, .row 6 [w65]), (70, .row 6 [w66]), (64, .row 6 [w66]), (58, .row 6 [w66]), (46, .row 6 [w67]), (40, .row 6 [w67]), (34, .row 6 [w67]), (22, .row 6 [w68]), (16, .row 6 [w68]), (12, .lp 0 0), (1, .row 1 [(.int .i64 0)]), (0, .row 6 [w68])]
def hb8 : Heap := [(118, .row 6 [w64]), (112, .row 6 [w64]), (106, .row 6 [w64]), (94, .row 6 [w65]), (88, .row 6 [w65]), (82, .row 6 [w65]), (70, .row 6 [w66]), (64, .row 6 [w66]), (58, .row 6 [w66]), (46, .row 6 [w67]), (40, .row 6 [w67]), (34, .row 6 [w67]), (22, .row 6 [w68]), (16, .row 6 [w68]), (12, .lp 0 0), (1, .row 1 [(.int .i64 0)]), (0, .row 6 [w68])]
def W8 : Known := ⟨117, [w64, (.yl 1003100 12 [(.ptr 1 1 0 0)])], some (ha8, 112, hb8, 129), (.bool true)⟩ :: W7
def W9 : Known := ⟨31, [w68], none, (.int .i64 0)⟩ :: W8
def ha10 : Heap := [(48, .row 6 [w74]), (32, .row 6 [w75]), (26, .row 6 [w75]), (10, .row 6 [w76]), (6, .lp 0 0), (2, .row 1 [(.int .i64 2)]), (0, .row 6 [w76])]
def hb10 : Heap := [(54, .row 6 [w74]), (48, .row 6 [w74]), (32, .row 6 [w75]), (26, .row 6 [w75]), (10, .row 6 [w76]), (6, .lp 0 0), (2, .row 1 [(.int .i64 129)]), (0, .row 6 [w76])]
def W10 : Known := ⟨117, [w74, (.yl 1003800 6 [(.ptr 2 1 0 0)])], some (ha10, 54, hb10, 69), (.bool true)⟩ :: W9
def ha11 : Heap := [(48, .row 6 [w74]), (32, .row 6 [w75]), (26, .row 6 [w75]), (10, .row 6 [w76]), (6, .lp 0 0), (2, .row 1 [(.int .i64 129)]), (0, .row 6 [w76])]
def hb11 : Heap := [(54, .row 6 [w74]), (48, .row 6 [w74]), (32, .row 6 [w75]), (26, .row 6 [w75]), (10, .row 6 [w76]), (6, .lp 0 0), (2, .row 1 [(.int .i64 256)]), (0, .row 6 [w76])]
def W11 : Known := ⟨117, [w74, (.yl 1003800 6 [(.ptr 2 1 0 0)])], some (ha11, 54, hb11, 69), (.bool true)⟩ :: W10
def ha12 : Heap := [(48, .row 6 [w74]), (32, .row 6 [w75]), (26, .row 6 [w75]), (10, .row 6 [w76]), (6, .lp 0 0), (2, .row 1 [(.int .i64 257)]), (0, .row 6 [w76])]
def hb12 : Heap := [(54, .row 6 [w74]), (48, .row 6 [w74]), (32, .row 6 [w75]), (26, .row 6 [w75]), (10, .row 6 [w76]), (6, .lp 0 0), (2, .row 1 [(.int .i64 384)]), (0, .row 6 [w76])]
def W12 : Known := ⟨117, [w74, (.yl 1003800 6 [(.ptr 2 1 0 0)])], some (ha12, 54, hb12, 69), (.bool true)⟩ :: W11
def ha13 : Heap := [(48, .row 6 [w74]), (32, .row 6 [w75]), (26, .row 6 [w75]), (10, .row 6 [w76]), (6, .lp 0 0), (2, .row 1 [(.int .i64 384)]), (0, .row 6 [w76])]
def hb13 : Heap := [(54, .row 6 [w74]), (48, .row 6 [w74]), (32, .row 6 [w75]), (26, .row 6 [w75]), (10, .row 6 [w76]), (6, .lp 0 0), (2, .row 1 [(.int .i64 511)]), (0, .row 6 [w76])]
def W13 : Known := ⟨117, [w74, (.yl 1003800 6 [(.ptr 2 1 0 0)])], some (ha13, 54, hb13, 69), (.bool true)⟩ :: W12
abbrev W : Known := W13

end Go.Proofs.YtkobnfjeehnhlaaGreatDoor.Fi
