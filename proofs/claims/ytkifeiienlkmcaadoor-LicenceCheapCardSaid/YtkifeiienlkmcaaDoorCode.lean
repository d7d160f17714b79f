/-
  The functions' code, resolved: printed by gen.py out of the translation.
-/
import Derived.Test.YtkifeiienlkmcaaDoorAmA
set_option linter.all false
namespace Go.Proofs.Tryd
open Go Go.Proofs.AM
/- bioscope.bioscopelaw05.LicenceCheap -/
def A9_r0 : List AO := [
  { dst := (some 4), op := .box true (.t 0) },
  { dst := (some 8), op := .mov (.c (.bool false)) }]
def A9_r1 : List AO := [
  { dst := (some 27), op := .load true 6 (.t 4) },
  { dst := (some 28), op := .call false true (.f 36) [.t 27] },
  { dst := (some 29), op := .un .not (.t 28) },
  { dst := (some 30), op := .mov (.t 29) },
  { dst := (some 31), op := .mov (.t 2), guard := some (30, false) },
  { dst := (some 32), op := .call false true (.f 42) [.t 31, .c (.int .i64 1000)], guard := some (30, false) },
  { dst := (some 33), op := .un .not (.t 32), guard := some (30, false) },
  { dst := (some 34), op := .pick (.t 30) (.c (.bool true)) (.t 33) },
  { dst := (some 35), op := .mov (.t 34) },
  { dst := (some 36), op := .mov (.t 2), guard := some (35, false) },
  { dst := (some 37), op := .len (.t 36), guard := some (35, false) },
  { dst := (some 38), op := .bin .gtr (.t 37) (.c (.int .i64 8)), guard := some (35, false) },
  { dst := (some 39), op := .pick (.t 35) (.c (.bool true)) (.t 38) }]
def A9_r2 : List AO := [
  { dst := (some 40), op := .call false true (.f 23) [] },
  { dst := (some 8), op := .mov (.t 40) }]
def A9_r3 : List AO := [
  { dst := (some 41), op := .mov (.t 1) },
  { dst := (some 42), op := .call false true (.f 35) [.t 41, .c (.int .i64 1000)] },
  { dst := (some 9), op := .mov (.t 42) }]
def A9_r4 : List AO := [
  { dst := (some 44), op := .load true 6 (.t 4) },
  { dst := (some 45), op := .mov (.t 9) },
  { dst := (some 46), op := .mov (.t 2) },
  { dst := (some 47), op := .call false true (.f 30) [.t 44, .t 45, .t 46] },
  { dst := (some 43), op := .mov (.t 47) },
  { dst := (some 48), op := .ext 0 (.t 43) },
  { dst := (some 49), op := .ext 1 (.t 43) },
  { dst := (some 10), op := .mov (.t 48) },
  { dst := (some 11), op := .mov (.t 49) }]
def A9_r5 : List AO := [
  { dst := (some 51), op := .load true 6 (.t 4) },
  { dst := (some 52), op := .mov (.t 9) },
  { dst := (some 53), op := .mov (.t 2) },
  { dst := (some 54), op := .call false true (.f 29) [.t 51, .t 52, .t 53] },
  { dst := (some 50), op := .mov (.t 54) },
  { dst := (some 55), op := .ext 0 (.t 50) },
  { dst := (some 56), op := .ext 1 (.t 50) },
  { dst := (some 12), op := .mov (.t 55) },
  { dst := (some 13), op := .mov (.t 56) }]
def A9_r6 : List AO := [
  { dst := (some 58), op := .load true 6 (.t 4) },
  { dst := (some 59), op := .mov (.t 9) },
  { dst := (some 60), op := .mov (.t 2) },
  { dst := (some 61), op := .mov (.t 3) },
  { dst := (some 62), op := .call false true (.f 43) [.t 58, .t 59, .t 60, .t 61] },
  { dst := (some 57), op := .mov (.t 62) },
  { dst := (some 63), op := .ext 0 (.t 57) },
  { dst := (some 64), op := .ext 1 (.t 57) },
  { dst := (some 14), op := .mov (.t 63) },
  { dst := (some 15), op := .mov (.t 64) }]
def A9_r7 : List AO := [
  { dst := (some 66), op := .load true 6 (.t 4) },
  { dst := (some 67), op := .mov (.t 9) },
  { dst := (some 68), op := .mov (.t 14) },
  { dst := (some 69), op := .call false true (.f 24) [.t 66, .t 67, .t 68] },
  { dst := (some 65), op := .mov (.t 69) },
  { dst := (some 70), op := .ext 0 (.t 65) },
  { dst := (some 71), op := .ext 1 (.t 65) },
  { dst := (some 16), op := .mov (.t 70) },
  { dst := (some 17), op := .mov (.t 71) }]
def A9_r8 : List AO := [
  { dst := (some 73), op := .load true 6 (.t 4) },
  { dst := (some 74), op := .mov (.t 14) },
  { dst := (some 75), op := .mov (.t 2) },
  { dst := (some 76), op := .call false true (.f 26) [.t 73, .t 74, .t 75] },
  { dst := (some 72), op := .mov (.t 76) },
  { dst := (some 77), op := .ext 0 (.t 72) },
  { dst := (some 78), op := .ext 1 (.t 72) },
  { dst := (some 18), op := .mov (.t 77) },
  { dst := (some 19), op := .mov (.t 78) }]
def A9_r9 : List AO := [
  { dst := (some 79), op := .mov (.t 13) },
  { dst := (some 80), op := .mov (.t 11) },
  { dst := (some 81), op := .bin .neq (.t 79) (.t 80) },
  { dst := (some 82), op := .mov (.t 81) },
  { dst := (some 83), op := .mov (.t 17), guard := some (82, false) },
  { dst := (some 84), op := .bin .neq (.t 83) (.c (.int .i64 0)), guard := some (82, false) },
  { dst := (some 85), op := .pick (.t 82) (.c (.bool true)) (.t 84) },
  { dst := (some 86), op := .mov (.t 85) },
  { dst := (some 87), op := .mov (.t 19), guard := some (86, false) },
  { dst := (some 88), op := .bin .neq (.t 87) (.c (.int .i64 0)), guard := some (86, false) },
  { dst := (some 89), op := .pick (.t 86) (.c (.bool true)) (.t 88) },
  { dst := (some 90), op := .mov (.t 89) },
  { dst := (some 91), op := .mov (.t 16), guard := some (90, false) },
  { dst := (some 92), op := .un .not (.t 91), guard := some (90, false) },
  { dst := (some 93), op := .pick (.t 90) (.c (.bool true)) (.t 92) },
  { dst := (some 94), op := .mov (.t 93) },
  { dst := (some 95), op := .mov (.t 18), guard := some (94, false) },
  { dst := (some 96), op := .len (.t 95), guard := some (94, false) },
  { dst := (some 97), op := .bin .eql (.t 96) (.c (.int .i64 0)), guard := some (94, false) },
  { dst := (some 98), op := .mov (.t 15), guard := some (94, false) },
  { dst := (some 99), op := .eqb true (.t 97) (.t 98), guard := some (94, false) },
  { dst := (some 100), op := .pick (.t 94) (.c (.bool true)) (.t 99) }]
def A9_r10 : List AO := [
  { dst := (some 8), op := .mov (.c (.bool false)) }]
def A9_r11 : List AO := [
  { dst := (some 101), op := .mov (.t 11) },
  { dst := (some 102), op := .bin .neq (.t 101) (.c (.int .i64 0)) }]
def A9_r12 : List AO := [
  { dst := (some 103), op := .mov (.t 11) },
  { dst := (some 104), op := .bin .eql (.t 103) (.c (.int .i64 4)) },
  { dst := (some 105), op := .mov (.t 104) },
  { dst := (some 106), op := .mov (.t 10), guard := some (105, true) },
  { dst := (some 107), op := .len (.t 106), guard := some (105, true) },
  { dst := (some 108), op := .bin .eql (.t 107) (.c (.int .i64 0)), guard := some (105, true) },
  { dst := (some 109), op := .pick (.t 105) (.t 108) (.c (.bool false)) },
  { dst := (some 110), op := .mov (.t 109) },
  { dst := (some 111), op := .mov (.t 12), guard := some (110, true) },
  { dst := (some 112), op := .bin .eql (.t 111) (.c (.int .i64 0)), guard := some (110, true) },
  { dst := (some 113), op := .pick (.t 110) (.t 112) (.c (.bool false)) },
  { dst := (some 114), op := .mov (.t 113) },
  { dst := (some 115), op := .mov (.t 15), guard := some (114, true) },
  { dst := (some 116), op := .un .not (.t 115), guard := some (114, true) },
  { dst := (some 117), op := .pick (.t 114) (.t 116) (.c (.bool false)) },
  { dst := (some 118), op := .mov (.t 117) },
  { dst := (some 119), op := .call false true (.f 23) [], guard := some (118, true) },
  { dst := (some 120), op := .pick (.t 118) (.t 119) (.c (.bool false)) },
  { dst := (some 8), op := .mov (.t 120) }]
def A9_r13 : List AO := [
  { dst := (some 122), op := .load true 6 (.t 4) },
  { dst := (some 123), op := .mov (.t 9) },
  { dst := (some 124), op := .mov (.t 10) },
  { dst := (some 125), op := .call false true (.f 24) [.t 122, .t 123, .t 124] },
  { dst := (some 121), op := .mov (.t 125) },
  { dst := (some 126), op := .ext 0 (.t 121) },
  { dst := (some 127), op := .ext 1 (.t 121) },
  { dst := (some 20), op := .mov (.t 126) },
  { dst := (some 21), op := .mov (.t 127) }]
def A9_r14 : List AO := [
  { dst := (some 129), op := .load true 6 (.t 4) },
  { dst := (some 130), op := .mov (.t 10) },
  { dst := (some 131), op := .mov (.t 2) },
  { dst := (some 132), op := .call false true (.f 26) [.t 129, .t 130, .t 131] },
  { dst := (some 128), op := .mov (.t 132) },
  { dst := (some 133), op := .ext 0 (.t 128) },
  { dst := (some 134), op := .ext 1 (.t 128) },
  { dst := (some 22), op := .mov (.t 133) },
  { dst := (some 23), op := .mov (.t 134) }]
def A9_r15 : List AO := [
  { dst := (some 135), op := .mov (.t 21) },
  { dst := (some 136), op := .bin .neq (.t 135) (.c (.int .i64 0)) },
  { dst := (some 137), op := .mov (.t 136) },
  { dst := (some 138), op := .mov (.t 23), guard := some (137, false) },
  { dst := (some 139), op := .bin .neq (.t 138) (.c (.int .i64 0)), guard := some (137, false) },
  { dst := (some 140), op := .pick (.t 137) (.c (.bool true)) (.t 139) },
  { dst := (some 141), op := .mov (.t 140) },
  { dst := (some 142), op := .mov (.t 20), guard := some (141, false) },
  { dst := (some 143), op := .un .not (.t 142), guard := some (141, false) },
  { dst := (some 144), op := .pick (.t 141) (.c (.bool true)) (.t 143) },
  { dst := (some 145), op := .mov (.t 144) },
  { dst := (some 146), op := .mov (.t 22), guard := some (145, false) },
  { dst := (some 147), op := .len (.t 146), guard := some (145, false) },
  { dst := (some 148), op := .bin .neq (.t 147) (.c (.int .i64 0)), guard := some (145, false) },
  { dst := (some 149), op := .pick (.t 145) (.c (.bool true)) (.t 148) },
  { dst := (some 150), op := .mov (.t 149) },
  { dst := (some 151), op := .load true 6 (.t 4), guard := some (150, false) },
  { dst := (some 152), op := .mov (.t 9), guard := some (150, false) },
  { dst := (some 153), op := .mov (.t 10), guard := some (150, false) },
  { dst := (some 154), op := .call false true (.f 44) [.t 151, .t 152, .t 153], guard := some (150, false) },
  { dst := (some 155), op := .un .not (.t 154), guard := some (150, false) },
  { dst := (some 156), op := .pick (.t 150) (.c (.bool true)) (.t 155) },
  { dst := (some 157), op := .mov (.t 156) },
  { dst := (some 158), op := .load true 6 (.t 4), guard := some (157, false) },
  { dst := (some 159), op := .mov (.t 10), guard := some (157, false) },
  { dst := (some 160), op := .call false true (.f 45) [.t 158, .t 159], guard := some (157, false) },
  { dst := (some 161), op := .mov (.t 12), guard := some (157, false) },
  { dst := (some 162), op := .bin .neq (.t 160) (.t 161), guard := some (157, false) },
  { dst := (some 163), op := .pick (.t 157) (.c (.bool true)) (.t 162) }]
def A9_r16 : List AO := [
  { dst := (some 8), op := .mov (.c (.bool false)) }]
def A9_r17 : List AO := [
  { dst := (some 165), op := .load true 6 (.t 4) },
  { dst := (some 166), op := .bslice true 2 0 [] [] },
  { dst := (some 167), op := .faddr 5 (.t 4) },
  { dst := (some 168), op := .load false 1 (.t 167) },
  { dst := (some 169), op := .app 2 55 16 (.t 166) (.t 168) },
  { dst := (some 170), op := .mov (.t 10) },
  { dst := (some 171), op := .app 2 55 16 (.t 169) (.t 170) },
  { dst := (some 172), op := .call false true (.f 37) [.t 165, .t 171] },
  { dst := (some 164), op := .mov (.t 172) },
  { dst := (some 173), op := .ext 0 (.t 164) },
  { dst := (some 174), op := .ext 1 (.t 164) },
  { dst := (some 24), op := .mov (.t 173) },
  { dst := (some 25), op := .mov (.t 174) }]
def A9_r18 : List AO := [
  { dst := (some 26), op := .mov (.c (.int .i64 0)) }]
def A9_r19 : List AO := [
  { dst := (some 175), op := .mov (.t 26) },
  { dst := (some 176), op := .mov (.t 2) },
  { dst := (some 177), op := .len (.t 176) },
  { dst := (some 178), op := .bin .lss (.t 175) (.t 177) }]
def A9_r21 : List AO := [
  { dst := (some 181), op := .mov (.t 24) },
  { dst := (some 182), op := .mov (.t 2) },
  { dst := (some 183), op := .mov (.t 26) },
  { dst := (some 184), op := .iaddr 1 (.t 182) (.t 183) },
  { dst := (some 185), op := .load false 1 (.t 184) },
  { dst := (some 186), op := .iaddr 1 (.t 181) (.t 185) },
  { dst := (some 187), op := .load false 1 (.t 186) },
  { dst := (some 188), op := .bin .eql (.t 187) (.c (.int .i64 0)) },
  { dst := (some 189), op := .mov (.t 188) },
  { dst := (some 190), op := .load true 6 (.t 4), guard := some (189, false) },
  { dst := (some 191), op := .mov (.t 2), guard := some (189, false) },
  { dst := (some 192), op := .mov (.t 26), guard := some (189, false) },
  { dst := (some 193), op := .iaddr 1 (.t 191) (.t 192), guard := some (189, false) },
  { dst := (some 194), op := .load false 1 (.t 193), guard := some (189, false) },
  { dst := (some 195), op := .call false true (.f 39) [.t 190, .t 194], guard := some (189, false) },
  { dst := (some 196), op := .pick (.t 189) (.c (.bool true)) (.t 195) }]
def A9_r22 : List AO := [
  { dst := (some 8), op := .mov (.c (.bool false)) }]
def A9_r20 : List AO := [
  { dst := (some 179), op := .mov (.t 26) },
  { dst := (some 180), op := .bin .add (.t 179) (.c (.int .i64 1)) },
  { dst := (some 26), op := .mov (.t 180) }]
def A9_l0 : AC := .seq (.seq (.region A9_r19 none [2, 4, 10, 12, 14, 15, 24, 26, 178] [4]) (.cond (.t 178) (.skip) (.exit 0))) (.seq (.block 1 (.seq (.region A9_r21 (some [[], [], [], [1, 2], [3], [0, 4], [5], [6], [7], [8], [8], [8], [10, 11, 8], [12, 8], [9, 13, 8, 8], [8, 14]]) [2, 4, 10, 12, 14, 15, 24, 26, 196] [4]) (.cond (.t 196) (.seq (.region A9_r22 none [8] []) (.ret)) (.skip)))) (.region A9_r20 none [2, 4, 10, 12, 14, 15, 24, 26] [4]))
def A9_r23 : List AO := [
  { dst := (some 197), op := .mov (.t 15) },
  { dst := (some 198), op := .un .not (.t 197) },
  { dst := (some 199), op := .mov (.t 198) },
  { dst := (some 200), op := .load true 6 (.t 4), guard := some (199, false) },
  { dst := (some 201), op := .mov (.t 14), guard := some (199, false) },
  { dst := (some 202), op := .call false true (.f 45) [.t 200, .t 201], guard := some (199, false) },
  { dst := (some 203), op := .mov (.t 12), guard := some (199, false) },
  { dst := (some 204), op := .bin .gtr (.t 202) (.t 203), guard := some (199, false) },
  { dst := (some 205), op := .pick (.t 199) (.c (.bool true)) (.t 204) },
  { dst := (some 206), op := .mov (.t 205) },
  { dst := (some 207), op := .load true 6 (.t 4), guard := some (206, false) },
  { dst := (some 208), op := .mov (.t 14), guard := some (206, false) },
  { dst := (some 209), op := .call false true (.f 45) [.t 207, .t 208], guard := some (206, false) },
  { dst := (some 210), op := .mov (.t 12), guard := some (206, false) },
  { dst := (some 211), op := .bin .eql (.t 209) (.t 210), guard := some (206, false) },
  { dst := (some 212), op := .mov (.t 211), guard := some (206, false) },
  { dst := (some 213), op := .mov (.t 14), guard := some (212, true) },
  { dst := (some 214), op := .len (.t 213), guard := some (212, true) },
  { dst := (some 215), op := .mov (.t 10), guard := some (212, true) },
  { dst := (some 216), op := .len (.t 215), guard := some (212, true) },
  { dst := (some 217), op := .bin .geq (.t 214) (.t 216), guard := some (212, true) },
  { dst := (some 218), op := .pick (.t 212) (.t 217) (.c (.bool false)), guard := some (206, false) },
  { dst := (some 219), op := .pick (.t 206) (.c (.bool true)) (.t 218) },
  { dst := (some 220), op := .mov (.t 219) },
  { dst := (some 221), op := .call false true (.f 23) [], guard := some (220, true) },
  { dst := (some 222), op := .pick (.t 220) (.t 221) (.c (.bool false)) },
  { dst := (some 8), op := .mov (.t 222) }]
def A9 : AF := { np := 4, res := [.tmp 8], body := (.seq (.region A9_r0 none [1, 2, 3, 4] [4]) (.seq (.seq (.region A9_r1 none [1, 2, 3, 4, 39] [4]) (.cond (.t 39) (.seq (.region A9_r2 none [8] []) (.ret)) (.skip))) (.seq (.region A9_r3 none [2, 3, 4, 9] [4]) (.seq (.region A9_r4 none [2, 3, 4, 9, 10, 11] [4]) (.seq (.region A9_r5 none [2, 3, 4, 9, 10, 11, 12, 13] [4]) (.seq (.region A9_r6 none [2, 4, 9, 10, 11, 12, 13, 14, 15] [4]) (.seq (.region A9_r7 none [2, 4, 9, 10, 11, 12, 13, 14, 15, 16, 17] [4]) (.seq (.region A9_r8 none [2, 4, 9, 10, 11, 12, 13, 14, 15, 16, 17, 18, 19] [4]) (.seq (.seq (.region A9_r9 none [2, 4, 9, 10, 11, 12, 14, 15, 100] [4]) (.cond (.t 100) (.seq (.region A9_r10 none [8] []) (.ret)) (.skip))) (.seq (.seq (.region A9_r11 none [2, 4, 9, 10, 11, 12, 14, 15, 102] [4]) (.cond (.t 102) (.seq (.region A9_r12 none [8] []) (.ret)) (.skip))) (.seq (.region A9_r13 none [2, 4, 9, 10, 12, 14, 15, 20, 21] [4]) (.seq (.region A9_r14 none [2, 4, 9, 10, 12, 14, 15, 20, 21, 22, 23] [4]) (.seq (.seq (.region A9_r15 none [2, 4, 10, 12, 14, 15, 163] [4]) (.cond (.t 163) (.seq (.region A9_r16 none [8] []) (.ret)) (.skip))) (.seq (.region A9_r17 (some [[], [], [], [2], [1, 3], [], [4, 5, 4], [0, 6, 6], [7], [8], [8], [9, 7, 0, 1, 2, 3, 4, 5, 6, 7, 8, 9], [10, 11, 0, 1, 2, 3, 4, 5, 6, 7, 8, 9, 10, 11]]) [2, 4, 10, 12, 14, 15, 24] [4]) (.seq (.seq (.region A9_r18 none [2, 4, 10, 12, 14, 15, 24, 26] [4]) (.block 0 (.loop [2, 4, 10, 12, 14, 15, 24, 26] [4] A9_l0))) (.seq (.region A9_r23 none [8] []) (.ret))))))))))))))))) }
/- bioscope.licence.Why -/
def A14_r0 : List AO := [
  { dst := (some 4), op := .box true (.t 0) },
  { dst := (some 8), op := .mov (.c (.int .i64 0)) },
  { dst := (some 9), op := .mov (.c (.int .i64 0)) }]
def A14_r1 : List AO := [
  { dst := (some 15), op := .load true 6 (.t 4) },
  { dst := (some 16), op := .mov (.t 1) },
  { dst := (some 17), op := .call false true (.f 54) [.t 16] },
  { dst := (some 18), op := .mov (.t 17) },
  { dst := (some 19), op := .mov (.t 2), guard := some (18, true) },
  { dst := (some 20), op := .call false true (.f 55) [.t 19, .c (.int .i64 0), .c (.int .i64 15)], guard := some (18, true) },
  { dst := (some 21), op := .pick (.t 18) (.t 20) (.c (.bool false)) },
  { dst := (some 22), op := .mov (.t 21) },
  { dst := (some 23), op := .mov (.t 3), guard := some (22, true) },
  { dst := (some 24), op := .call false true (.f 55) [.t 23, .c (.int .i64 0), .c (.int .i64 1439)], guard := some (22, true) },
  { dst := (some 25), op := .pick (.t 22) (.t 24) (.c (.bool false)) },
  { dst := (some 26), op := .call false true (.f 53) [.t 15, .t 25] },
  { dst := (some 14), op := .mov (.t 26) },
  { dst := (some 27), op := .ext 0 (.t 14) },
  { dst := (some 28), op := .ext 1 (.t 14) },
  { dst := (some 10), op := .new true [.lst (some true) true 0 [], .int .i64 0, .lst (some true) true 0 [], .int .i64 0, .int .i64 0, .lst (some true) true 0 [], .nilm] },
  { dst := none, op := .store 7 (.t 10) (.t 27) },
  { dst := (some 11), op := .mov (.t 28) }]
def A14_r2 : List AO := [
  { dst := (some 29), op := .mov (.t 11) },
  { dst := (some 30), op := .bin .neq (.t 29) (.c (.int .i64 0)) }]
def A14_r3 : List AO := [
  { dst := (some 31), op := .mov (.t 11) },
  { dst := (some 8), op := .mov (.c (.int .i64 0)) },
  { dst := (some 9), op := .mov (.t 31) }]
def A14_r4 : List AO := [
  { dst := (some 32), op := .load true 4 (.g 0) },
  { dst := (some 33), op := .mov (.c (.int .i64 0)) }]
def A14_r5 : List AO := [
  { dst := (some 34), op := .bin .lss (.t 33) (.c (.int .i64 4)) }]
def A14_r6 : List AO := [
  { dst := (some 35), op := .mov (.t 33) },
  { dst := (some 36), op := .index false 1 4 (.t 32) (.t 33) },
  { dst := (some 12), op := .mov (.t 35) },
  { dst := (some 13), op := .mov (.t 36) }]
def A14_r7 : List AO := [
  { dst := (some 37), op := .mov (.t 13) },
  { dst := (some 38), op := .load true 7 (.t 10) },
  { dst := (some 39), op := .mov (.t 1) },
  { dst := (some 40), op := .mov (.t 2) },
  { dst := (some 41), op := .mov (.t 3) },
  { dst := (some 42), op := .build [.int .i64 0, .int .i64 0, .int .i64 0] [(0, 1, .t 39), (1, 1, .t 40), (2, 1, .t 41)] },
  { dst := (some 43), op := .call false true (.t 37) [.t 38, .t 42] }]
def A14_r8 : List AO := [
  { dst := (some 44), op := .mov (.t 12) },
  { dst := (some 45), op := .bin .add (.c (.int .i64 1)) (.t 44) },
  { dst := (some 8), op := .mov (.t 45) },
  { dst := (some 9), op := .mov (.c (.int .i64 0)) }]
def A14_r9 : List AO := [
  { dst := (some 46), op := .bin .add (.t 33) (.c (.int .i64 1)) },
  { dst := (some 33), op := .mov (.t 46) }]
def A14_l0 : AC := .seq (.region A14_r5 none [1, 2, 3, 10, 32, 33, 34] [10]) (.seq (.cond (.t 34) (.skip) (.exit 0)) (.seq (.block 1 (.seq (.region A14_r6 none [1, 2, 3, 10, 12, 13, 32, 33] [10]) (.seq (.region A14_r7 none [1, 2, 3, 10, 12, 32, 33, 43] [10]) (.cond (.t 43) (.seq (.region A14_r8 none [8, 9] []) (.ret)) (.skip))))) (.region A14_r9 none [1, 2, 3, 10, 32, 33] [10])))
def A14_r10 : List AO := [
  { dst := (some 8), op := .mov (.c (.int .i64 0)) },
  { dst := (some 9), op := .mov (.c (.int .i64 0)) }]
def A14 : AF := { np := 4, res := [.tmp 8, .tmp 9], body := (.seq (.region A14_r0 none [1, 2, 3, 4] [4]) (.seq (.region A14_r1 (some [[], [], [1], [2, 2], [3], [4, 3, 3], [3, 5], [6, 5], [7], [8, 7, 7], [7, 9], [0, 10, 9], [11], [12], [12], [], [15, 13, 11, 0, 1, 2, 3, 4, 5, 6, 7, 8, 9, 10, 11, 12, 13, 15], [14, 16, 0, 1, 2, 3, 4, 5, 6, 7, 8, 9, 10, 11, 12, 13, 14, 15, 16]]) [1, 2, 3, 10, 11] [10]) (.seq (.seq (.region A14_r2 none [1, 2, 3, 10, 11, 30] [10]) (.cond (.t 30) (.seq (.region A14_r3 none [8, 9] []) (.ret)) (.skip))) (.seq (.seq (.region A14_r4 none [1, 2, 3, 10, 32, 33] [10]) (.block 0 (.loop [1, 2, 3, 10, 32, 33] [10] A14_l0))) (.seq (.region A14_r10 none [8, 9] []) (.ret)))))) }
/- bioscope.licence.Check -/
def A16_r0 : List AO := [
  { dst := (some 1), op := .box true (.t 0) },
  { dst := (some 2), op := .mov (.c (.int .i64 0)) }]
def A16_r1 : List AO := [
  { dst := (some 11), op := .faddr 0 (.t 1) },
  { dst := (some 12), op := .load false 1 (.t 11) },
  { dst := (some 13), op := .len (.t 12) },
  { dst := (some 14), op := .call false true (.f 55) [.t 13, .c (.int .i64 1), .c (.int .i64 4)] },
  { dst := (some 15), op := .mov (.t 14) },
  { dst := (some 16), op := .faddr 1 (.t 1), guard := some (15, true) },
  { dst := (some 17), op := .load false 1 (.t 16), guard := some (15, true) },
  { dst := (some 18), op := .call false true (.f 55) [.t 17, .c (.int .i64 0), .c (.int .i64 20)], guard := some (15, true) },
  { dst := (some 19), op := .pick (.t 15) (.t 18) (.c (.bool false)) },
  { dst := (some 20), op := .mov (.t 19) },
  { dst := (some 21), op := .faddr 2 (.t 1), guard := some (20, true) },
  { dst := (some 22), op := .load false 1 (.t 21), guard := some (20, true) },
  { dst := (some 23), op := .len (.t 22), guard := some (20, true) },
  { dst := (some 24), op := .bin .leq (.t 23) (.c (.int .i64 4)), guard := some (20, true) },
  { dst := (some 25), op := .pick (.t 20) (.t 24) (.c (.bool false)) },
  { dst := (some 26), op := .mov (.t 25) },
  { dst := (some 27), op := .faddr 3 (.t 1), guard := some (26, true) },
  { dst := (some 28), op := .load false 1 (.t 27), guard := some (26, true) },
  { dst := (some 29), op := .call false true (.f 55) [.t 28, .c (.int .i64 0), .c (.int .i64 65535)], guard := some (26, true) },
  { dst := (some 30), op := .pick (.t 26) (.t 29) (.c (.bool false)) },
  { dst := (some 31), op := .mov (.t 30) },
  { dst := (some 32), op := .faddr 4 (.t 1), guard := some (31, true) },
  { dst := (some 33), op := .load false 1 (.t 32), guard := some (31, true) },
  { dst := (some 34), op := .call false true (.f 55) [.t 33, .c (.int .i64 0), .c (.int .i64 1439)], guard := some (31, true) },
  { dst := (some 35), op := .pick (.t 31) (.t 34) (.c (.bool false)) },
  { dst := (some 36), op := .mov (.t 35) },
  { dst := (some 37), op := .faddr 5 (.t 1), guard := some (36, true) },
  { dst := (some 38), op := .load false 1 (.t 37), guard := some (36, true) },
  { dst := (some 39), op := .len (.t 38), guard := some (36, true) },
  { dst := (some 40), op := .bin .leq (.t 39) (.c (.int .i64 4)), guard := some (36, true) },
  { dst := (some 41), op := .pick (.t 36) (.t 40) (.c (.bool false)) },
  { dst := (some 3), op := .mov (.t 41) }]
def A16_r2 : List AO := [
  { dst := (some 42), op := .faddr 0 (.t 1) },
  { dst := (some 43), op := .load false 1 (.t 42) },
  { dst := (some 44), op := .len (.t 43) },
  { dst := (some 45), op := .mov (.c (.int .i64 0)) }]
def A16_r3 : List AO := [
  { dst := (some 46), op := .bin .lss (.t 45) (.t 44) }]
def A16_r4 : List AO := [
  { dst := (some 47), op := .iaddr 3 (.t 43) (.t 45) },
  { dst := (some 48), op := .load true 3 (.t 47) },
  { dst := (some 5), op := .new true [.int .i64 0, .int .i64 0, .int .i64 0] },
  { dst := none, op := .store 3 (.t 5) (.t 48) }]
def A16_r5 : List AO := [
  { dst := (some 49), op := .mov (.t 3) },
  { dst := (some 50), op := .mov (.t 49) },
  { dst := (some 51), op := .faddr 0 (.t 5), guard := some (50, true) },
  { dst := (some 52), op := .load false 1 (.t 51), guard := some (50, true) },
  { dst := (some 53), op := .call false true (.f 55) [.t 52, .c (.int .i64 1), .c (.int .i64 30)], guard := some (50, true) },
  { dst := (some 54), op := .pick (.t 50) (.t 53) (.c (.bool false)) },
  { dst := (some 55), op := .mov (.t 54) },
  { dst := (some 56), op := .faddr 1 (.t 5), guard := some (55, true) },
  { dst := (some 57), op := .load false 1 (.t 56), guard := some (55, true) },
  { dst := (some 58), op := .call false true (.f 55) [.t 57, .c (.int .i64 0), .c (.int .i64 1000)], guard := some (55, true) },
  { dst := (some 59), op := .pick (.t 55) (.t 58) (.c (.bool false)) },
  { dst := (some 60), op := .mov (.t 59) },
  { dst := (some 61), op := .faddr 2 (.t 5), guard := some (60, true) },
  { dst := (some 62), op := .load false 1 (.t 61), guard := some (60, true) },
  { dst := (some 63), op := .call false true (.f 55) [.t 62, .c (.int .i64 0), .c (.int .i64 30)], guard := some (60, true) },
  { dst := (some 64), op := .pick (.t 60) (.t 63) (.c (.bool false)) },
  { dst := (some 3), op := .mov (.t 64) }]
def A16_r6 : List AO := [
  { dst := (some 65), op := .bin .add (.t 45) (.c (.int .i64 1)) },
  { dst := (some 45), op := .mov (.t 65) }]
def A16_l0 : AC := .seq (.region A16_r3 none [1, 3, 43, 44, 45, 46] [1]) (.seq (.cond (.t 46) (.skip) (.exit 0)) (.seq (.block 1 (.seq (.region A16_r4 none [1, 3, 5, 43, 44, 45] [1, 5]) (.region A16_r5 none [1, 3, 43, 44, 45] [1]))) (.region A16_r6 none [1, 3, 43, 44, 45] [1])))
def A16_r7 : List AO := [
  { dst := (some 6), op := .mov (.c (.int .i64 (-1))) }]
def A16_r8 : List AO := [
  { dst := (some 66), op := .faddr 2 (.t 1) },
  { dst := (some 67), op := .load false 1 (.t 66) },
  { dst := (some 68), op := .len (.t 67) },
  { dst := (some 69), op := .mov (.c (.int .i64 0)) }]
def A16_r9 : List AO := [
  { dst := (some 70), op := .bin .lss (.t 69) (.t 68) }]
def A16_r10 : List AO := [
  { dst := (some 71), op := .iaddr 2 (.t 67) (.t 69) },
  { dst := (some 72), op := .load true 2 (.t 71) },
  { dst := (some 8), op := .new true [.int .i64 0, .int .i64 0] },
  { dst := none, op := .store 2 (.t 8) (.t 72) }]
def A16_r11 : List AO := [
  { dst := (some 73), op := .mov (.t 3) },
  { dst := (some 74), op := .mov (.t 73) },
  { dst := (some 75), op := .load true 2 (.t 8), guard := some (74, true) },
  { dst := (some 76), op := .mov (.t 6), guard := some (74, true) },
  { dst := (some 77), op := .bin .add (.t 76) (.c (.int .i64 1)), guard := some (74, true) },
  { dst := (some 78), op := .call false true (.f 61) [.t 75, .t 77, .c (.int .i64 999)], guard := some (74, true) },
  { dst := (some 79), op := .pick (.t 74) (.t 78) (.c (.bool false)) },
  { dst := (some 3), op := .mov (.t 79) }]
def A16_r12 : List AO := [
  { dst := (some 80), op := .faddr 1 (.t 8) },
  { dst := (some 81), op := .load false 1 (.t 80) },
  { dst := (some 6), op := .mov (.t 81) }]
def A16_r13 : List AO := [
  { dst := (some 82), op := .bin .add (.t 69) (.c (.int .i64 1)) },
  { dst := (some 69), op := .mov (.t 82) }]
def A16_l1 : AC := .seq (.region A16_r9 none [1, 3, 6, 67, 68, 69, 70] [1]) (.seq (.cond (.t 70) (.skip) (.exit 2)) (.seq (.block 3 (.seq (.region A16_r10 none [1, 3, 6, 8, 67, 68, 69] [1, 8]) (.seq (.region A16_r11 none [1, 3, 8, 67, 68, 69] [1, 8]) (.region A16_r12 none [1, 3, 6, 67, 68, 69] [1])))) (.region A16_r13 none [1, 3, 6, 67, 68, 69] [1])))
def A16_r14 : List AO := [
  { dst := (some 83), op := .faddr 5 (.t 1) },
  { dst := (some 84), op := .load false 1 (.t 83) },
  { dst := (some 85), op := .len (.t 84) },
  { dst := (some 86), op := .mov (.c (.int .i64 0)) }]
def A16_r15 : List AO := [
  { dst := (some 87), op := .bin .lss (.t 86) (.t 85) }]
def A16_r16 : List AO := [
  { dst := (some 88), op := .iaddr 2 (.t 84) (.t 86) },
  { dst := (some 89), op := .load true 2 (.t 88) },
  { dst := (some 10), op := .new true [.int .i64 0, .int .i64 0] },
  { dst := none, op := .store 2 (.t 10) (.t 89) }]
def A16_r17 : List AO := [
  { dst := (some 90), op := .mov (.t 3) },
  { dst := (some 91), op := .mov (.t 90) },
  { dst := (some 92), op := .load true 6 (.t 1), guard := some (91, true) },
  { dst := (some 93), op := .load true 2 (.t 10), guard := some (91, true) },
  { dst := (some 94), op := .call false true (.f 62) [.t 92, .t 93], guard := some (91, true) },
  { dst := (some 95), op := .pick (.t 91) (.t 94) (.c (.bool false)) },
  { dst := (some 3), op := .mov (.t 95) }]
def A16_r18 : List AO := [
  { dst := (some 96), op := .bin .add (.t 86) (.c (.int .i64 1)) },
  { dst := (some 86), op := .mov (.t 96) }]
def A16_l2 : AC := .seq (.region A16_r15 none [1, 3, 84, 85, 86, 87] [1]) (.seq (.cond (.t 87) (.skip) (.exit 4)) (.seq (.block 5 (.seq (.region A16_r16 none [1, 3, 10, 84, 85, 86] [1, 10]) (.region A16_r17 none [1, 3, 84, 85, 86] [1]))) (.region A16_r18 none [1, 3, 84, 85, 86] [1])))
def A16_r19 : List AO := [
  { dst := (some 97), op := .mov (.t 3) },
  { dst := (some 98), op := .un .not (.t 97) },
  { dst := (some 99), op := .mov (.t 98) },
  { dst := (some 100), op := .load true 6 (.t 1), guard := some (99, false) },
  { dst := (some 101), op := .call false true (.f 63) [.t 100], guard := some (99, false) },
  { dst := (some 102), op := .faddr 5 (.t 1), guard := some (99, false) },
  { dst := (some 103), op := .load false 1 (.t 102), guard := some (99, false) },
  { dst := (some 104), op := .call false true (.f 64) [.t 101, .t 103], guard := some (99, false) },
  { dst := (some 105), op := .un .not (.t 104), guard := some (99, false) },
  { dst := (some 106), op := .pick (.t 99) (.c (.bool true)) (.t 105) }]
def A16_r20 : List AO := [
  { dst := (some 2), op := .mov (.c (.int .i64 50)) }]
def A16_r21 : List AO := [
  { dst := (some 2), op := .mov (.c (.int .i64 0)) }]
def A16 : AF := { np := 1, res := [.tmp 2], body := (.seq (.region A16_r0 none [1] [1]) (.seq (.region A16_r1 none [1, 3] [1]) (.seq (.seq (.region A16_r2 none [1, 3, 43, 44, 45] [1]) (.block 0 (.loop [1, 3, 43, 44, 45] [1] A16_l0))) (.seq (.region A16_r7 none [1, 3, 6] [1]) (.seq (.seq (.region A16_r8 none [1, 3, 6, 67, 68, 69] [1]) (.block 2 (.loop [1, 3, 6, 67, 68, 69] [1] A16_l1))) (.seq (.seq (.region A16_r14 none [1, 3, 84, 85, 86] [1]) (.block 4 (.loop [1, 3, 84, 85, 86] [1] A16_l2))) (.seq (.seq (.region A16_r19 (some [[], [0], [1], [2], [3, 2, 2], [2], [5, 2], [4, 6, 4, 2], [7, 2], [2, 8]]) [106] []) (.cond (.t 106) (.seq (.region A16_r20 none [2] []) (.ret)) (.skip))) (.seq (.region A16_r21 none [2] []) (.ret))))))))) }
/- bioscope.licence.Days -/
def A18_r0 : List AO := [
  { dst := (some 2), op := .box false (.t 0) },
  { dst := (some 3), op := .box false (.t 1) },
  { dst := (some 4), op := .mov (.c (.lst (some true) true 0 [])) },
  { dst := (some 5), op := .mov (.c (.int .i64 0)) }]
def A18_r1 : List AO := [
  { dst := (some 11), op := .load true 6 (.t 2) },
  { dst := (some 12), op := .load true 2 (.t 3) },
  { dst := (some 13), op := .call false true (.f 61) [.t 12, .c (.int .i64 0), .c (.int .i64 999)] },
  { dst := (some 14), op := .call false true (.f 53) [.t 11, .t 13] },
  { dst := (some 10), op := .mov (.t 14) },
  { dst := (some 15), op := .ext 0 (.t 10) },
  { dst := (some 16), op := .ext 1 (.t 10) },
  { dst := (some 6), op := .new true [.lst (some true) true 0 [], .int .i64 0, .lst (some true) true 0 [], .int .i64 0, .int .i64 0, .lst (some true) true 0 [], .nilm] },
  { dst := none, op := .store 7 (.t 6) (.t 15) },
  { dst := (some 7), op := .mov (.t 16) }]
def A18_r2 : List AO := [
  { dst := (some 17), op := .mov (.t 7) },
  { dst := (some 18), op := .bin .neq (.t 17) (.c (.int .i64 0)) }]
def A18_r3 : List AO := [
  { dst := (some 19), op := .mov (.t 7) },
  { dst := (some 4), op := .mov (.c (.lst (some true) true 0 [])) },
  { dst := (some 5), op := .mov (.t 19) }]
def A18_r4 : List AO := [
  { dst := (some 8), op := .new false [.lst (some true) true 0 []] }]
def A18_r5 : List AO := [
  { dst := (some 20), op := .load true 7 (.t 6) },
  { dst := (some 21), op := .load true 2 (.t 3) },
  { dst := (some 22), op := .faddr 0 (.t 6) },
  { dst := (some 23), op := .faddr 5 (.t 22) },
  { dst := (some 24), op := .load false 1 (.t 23) },
  { dst := (some 25), op := .call false true (.f 68) [.t 20, .t 21, .t 24] }]
def A18_r6 : List AO := [
  { dst := (some 9), op := .mov (.t 26) }]
def A18_r7 : List AO := [
  { dst := (some 27), op := .load false 1 (.t 8) },
  { dst := (some 28), op := .mov (.t 9) },
  { dst := (some 29), op := .bslice true 1 1 [.int .i64 0] [(0, 1, .t 28)] },
  { dst := (some 30), op := .app 1 3 8 (.t 27) (.t 29) },
  { dst := none, op := .store 1 (.t 8) (.t 30) }]
def A18_f0a : AC := .region A18_r6 none [8, 9] []
def A18_f0b : AC := .block 1 (.region A18_r7 none [] [])
def A18_r8 : List AO := [
  { dst := (some 31), op := .load false 1 (.t 8) },
  { dst := (some 32), op := .load false 1 (.t 8) },
  { dst := (some 33), op := .len (.t 32) },
  { dst := (some 34), op := .load false 1 (.t 8) },
  { dst := (some 35), op := .len (.t 34) },
  { dst := (some 36), op := .slc 1 (.t 31) none (some (.t 33)) (some (.t 35)) },
  { dst := (some 4), op := .mov (.t 36) },
  { dst := (some 5), op := .mov (.c (.int .i64 0)) }]
def A18 : AF := { np := 2, res := [.tmp 4, .tmp 5], body := (.seq (.region A18_r0 none [2, 3] []) (.seq (.region A18_r1 (some [[], [], [1], [0, 2, 2], [3], [4], [4], [], [7, 5, 3, 0, 1, 2, 3, 4, 5, 7], [6, 8, 0, 1, 2, 3, 4, 5, 6, 7, 8]]) [3, 6, 7] [] [6]) (.seq (.seq (.region A18_r2 none [3, 6, 7, 18] []) (.cond (.t 18) (.seq (.region A18_r3 none [4, 5] []) (.ret)) (.skip))) (.seq (.region A18_r4 none [3, 6, 8] []) (.seq (.seq (.region A18_r5 none [8, 25] []) (.block 0 (.rfun (.t 25) [26] A18_f0a A18_f0b))) (.seq (.region A18_r8 none [4, 5] []) (.ret))))))) }
/- bioscope.bioscoperef00.Same -/
def A20_r0 : List AO := [
  { dst := (some 4), op := .mov (.c (.bool false)) }]
def A20_r1 : List AO := [
  { dst := (some 7), op := .mov (.t 0) },
  { dst := (some 8), op := .len (.t 7) },
  { dst := (some 9), op := .mov (.t 1) },
  { dst := (some 10), op := .len (.t 9) },
  { dst := (some 11), op := .bin .eql (.t 8) (.t 10) },
  { dst := (some 5), op := .mov (.t 11) }]
def A20_r2 : List AO := [
  { dst := (some 6), op := .mov (.c (.int .i64 0)) }]
def A20_r3 : List AO := [
  { dst := (some 12), op := .mov (.t 5) },
  { dst := (some 13), op := .mov (.t 12) },
  { dst := (some 14), op := .mov (.t 6), guard := some (13, true) },
  { dst := (some 15), op := .mov (.t 0), guard := some (13, true) },
  { dst := (some 16), op := .len (.t 15), guard := some (13, true) },
  { dst := (some 17), op := .bin .lss (.t 14) (.t 16), guard := some (13, true) },
  { dst := (some 18), op := .pick (.t 13) (.t 17) (.c (.bool false)) }]
def A20_r5 : List AO := [
  { dst := (some 21), op := .mov (.t 0) },
  { dst := (some 22), op := .mov (.t 6) },
  { dst := (some 23), op := .iaddr 1 (.t 21) (.t 22) },
  { dst := (some 24), op := .load false 1 (.t 23) },
  { dst := (some 25), op := .mov (.t 1) },
  { dst := (some 26), op := .mov (.t 6) },
  { dst := (some 27), op := .iaddr 1 (.t 25) (.t 26) },
  { dst := (some 28), op := .load false 1 (.t 27) },
  { dst := (some 29), op := .bin .eql (.t 24) (.t 28) },
  { dst := (some 5), op := .mov (.t 29) }]
def A20_r4 : List AO := [
  { dst := (some 19), op := .mov (.t 6) },
  { dst := (some 20), op := .bin .add (.t 19) (.c (.int .i64 1)) },
  { dst := (some 6), op := .mov (.t 20) }]
def A20_l0 : AC := .seq (.seq (.region A20_r3 none [0, 1, 5, 6, 18] []) (.cond (.t 18) (.skip) (.exit 0))) (.seq (.block 1 (.region A20_r5 (some [[], [], [0, 1], [2], [], [], [4, 5], [6], [3, 7], [8, 0, 1, 2, 3, 4, 5, 6, 7, 8]]) [0, 1, 5, 6] [])) (.region A20_r4 none [0, 1, 5, 6] []))
def A20_r6 : List AO := [
  { dst := (some 30), op := .mov (.t 5) },
  { dst := (some 4), op := .mov (.t 30) }]
def A20 : AF := { np := 2, res := [.tmp 4], body := (.seq (.region A20_r0 none [0, 1] []) (.seq (.region A20_r1 none [0, 1, 5] []) (.seq (.seq (.region A20_r2 none [0, 1, 5, 6] []) (.block 0 (.loop [0, 1, 5, 6] [] A20_l0))) (.seq (.region A20_r6 none [4] []) (.ret))))) }
/- bioscope.licence.Over -/
def A21_r0 : List AO := [
  { dst := (some 3), op := .box true (.t 0) },
  { dst := (some 5), op := .box true (.t 2) },
  { dst := (some 6), op := .mov (.c (.int .i64 0)) },
  { dst := (some 7), op := .mov (.c (.int .i64 0)) }]
def A21_r1 : List AO := [
  { dst := (some 14), op := .load true 6 (.t 3) },
  { dst := (some 15), op := .mov (.t 1) },
  { dst := (some 16), op := .call false true (.f 55) [.t 15, .c (.int .i64 0), .c (.int .i64 1439)] },
  { dst := (some 17), op := .mov (.t 16) },
  { dst := (some 18), op := .load true 2 (.t 5), guard := some (17, true) },
  { dst := (some 19), op := .call false true (.f 61) [.t 18, .c (.int .i64 0), .c (.int .i64 1439)], guard := some (17, true) },
  { dst := (some 20), op := .pick (.t 17) (.t 19) (.c (.bool false)) },
  { dst := (some 21), op := .call false true (.f 53) [.t 14, .t 20] },
  { dst := (some 13), op := .mov (.t 21) },
  { dst := (some 22), op := .ext 0 (.t 13) },
  { dst := (some 23), op := .ext 1 (.t 13) },
  { dst := (some 8), op := .new true [.lst (some true) true 0 [], .int .i64 0, .lst (some true) true 0 [], .int .i64 0, .int .i64 0, .lst (some true) true 0 [], .nilm] },
  { dst := none, op := .store 7 (.t 8) (.t 22) },
  { dst := (some 9), op := .mov (.t 23) }]
def A21_r2 : List AO := [
  { dst := (some 24), op := .mov (.t 9) },
  { dst := (some 25), op := .bin .neq (.t 24) (.c (.int .i64 0)) }]
def A21_r3 : List AO := [
  { dst := (some 26), op := .mov (.t 9) },
  { dst := (some 6), op := .mov (.c (.int .i64 0)) },
  { dst := (some 7), op := .mov (.t 26) }]
def A21_r4 : List AO := [
  { dst := (some 10), op := .mov (.c (.int .i64 0)) }]
def A21_r5 : List AO := [
  { dst := (some 27), op := .faddr 0 (.t 5) },
  { dst := (some 28), op := .load false 1 (.t 27) },
  { dst := (some 29), op := .faddr 1 (.t 5) },
  { dst := (some 30), op := .load false 1 (.t 29) },
  { dst := (some 31), op := .bslice true 1 2 [.int .i64 0, .int .i64 0] [(0, 1, .t 28), (1, 1, .t 30)] },
  { dst := (some 32), op := .len (.t 31) },
  { dst := (some 33), op := .mov (.c (.int .i64 0)) }]
def A21_r6 : List AO := [
  { dst := (some 34), op := .bin .lss (.t 33) (.t 32) }]
def A21_r7 : List AO := [
  { dst := (some 35), op := .iaddr 1 (.t 31) (.t 33) },
  { dst := (some 36), op := .load false 1 (.t 35) },
  { dst := (some 12), op := .mov (.t 36) }]
def A21_r8 : List AO := [
  { dst := (some 37), op := .mov (.t 1) },
  { dst := (some 38), op := .mov (.t 12) },
  { dst := (some 39), op := .bin .add (.t 37) (.t 38) },
  { dst := (some 40), op := .faddr 0 (.t 8) },
  { dst := (some 41), op := .faddr 4 (.t 40) },
  { dst := (some 42), op := .load false 1 (.t 41) },
  { dst := (some 43), op := .bin .leq (.t 39) (.t 42) }]
def A21_r9 : List AO := [
  { dst := (some 44), op := .mov (.t 10) },
  { dst := (some 45), op := .bin .add (.t 44) (.c (.int .i64 1)) },
  { dst := (some 10), op := .mov (.t 45) }]
def A21_r10 : List AO := [
  { dst := (some 46), op := .bin .add (.t 33) (.c (.int .i64 1)) },
  { dst := (some 33), op := .mov (.t 46) }]
def A21_l0 : AC := .seq (.region A21_r6 none [1, 8, 10, 31, 32, 33, 34] [8]) (.seq (.cond (.t 34) (.skip) (.exit 0)) (.seq (.block 1 (.seq (.region A21_r7 none [1, 8, 10, 12, 31, 32, 33] [8]) (.seq (.region A21_r8 none [1, 8, 10, 31, 32, 33, 43] [8]) (.cond (.t 43) (.region A21_r9 none [1, 8, 10, 31, 32, 33] [8]) (.skip))))) (.region A21_r10 none [1, 8, 10, 31, 32, 33] [8])))
def A21_r11 : List AO := [
  { dst := (some 47), op := .mov (.t 10) },
  { dst := (some 6), op := .mov (.t 47) },
  { dst := (some 7), op := .mov (.c (.int .i64 0)) }]
def A21 : AF := { np := 3, res := [.tmp 6, .tmp 7], body := (.seq (.region A21_r0 none [1, 3, 5] [3, 5]) (.seq (.region A21_r1 (some [[], [], [1], [2, 2], [3], [4, 3, 3], [3, 5], [0, 6, 5], [7], [8], [8], [], [11, 9, 7, 0, 1, 2, 3, 4, 5, 6, 7, 8, 9, 11], [10, 12, 0, 1, 2, 3, 4, 5, 6, 7, 8, 9, 10, 11, 12]]) [1, 5, 8, 9] [5, 8]) (.seq (.seq (.region A21_r2 none [1, 5, 8, 9, 25] [5, 8]) (.cond (.t 25) (.seq (.region A21_r3 none [6, 7] []) (.ret)) (.skip))) (.seq (.region A21_r4 none [1, 5, 8, 10] [5, 8]) (.seq (.seq (.region A21_r5 none [1, 8, 10, 31, 32, 33] [8]) (.block 0 (.loop [1, 8, 10, 31, 32, 33] [8] A21_l0))) (.seq (.region A21_r11 none [6, 7] []) (.ret))))))) }
/- bioscope.bioscopelaw05.stamped -/
def A23_r0 : List AO := [
  { dst := (some 0), op := .mov (.c (.bool false)) }]
def A23_r1 : List AO := [
  { dst := (some 15), op := .call false true (.f 49) [] },
  { dst := (some 16), op := .call false true (.f 14) [.t 15, .c (.int .i64 101), .c (.int .i64 3), .c (.int .i64 1350)] },
  { dst := (some 14), op := .mov (.t 16) },
  { dst := (some 17), op := .ext 0 (.t 14) },
  { dst := (some 18), op := .ext 1 (.t 14) },
  { dst := (some 1), op := .mov (.t 17) },
  { dst := (some 2), op := .mov (.t 18) }]
def A23_r2 : List AO := [
  { dst := (some 20), op := .call false true (.f 49) [] },
  { dst := (some 21), op := .call false true (.f 40) [.c (.int .i64 98), .c (.int .i64 110)] },
  { dst := (some 22), op := .call false true (.f 18) [.t 20, .t 21] },
  { dst := (some 19), op := .mov (.t 22) },
  { dst := (some 23), op := .ext 0 (.t 19) },
  { dst := (some 24), op := .ext 1 (.t 19) },
  { dst := (some 3), op := .mov (.t 23) },
  { dst := (some 4), op := .mov (.t 24) }]
def A23_r3 : List AO := [
  { dst := (some 26), op := .call false true (.f 49) [] },
  { dst := (some 27), op := .call false true (.f 50) [.c (.int .i64 1), .c (.int .i64 108)] },
  { dst := (some 28), op := .bslice true 2 1 [.int .i64 0, .int .i64 0] [(0, 2, .t 27)] },
  { dst := (some 29), op := .call false true (.f 24) [.t 26, .c (.int .i64 95), .t 28] },
  { dst := (some 25), op := .mov (.t 29) },
  { dst := (some 30), op := .ext 0 (.t 25) },
  { dst := (some 31), op := .ext 1 (.t 25) },
  { dst := (some 5), op := .mov (.t 30) },
  { dst := (some 6), op := .mov (.t 31) }]
def A23_r4 : List AO := [
  { dst := (some 33), op := .call false true (.f 49) [] },
  { dst := (some 34), op := .call false true (.f 50) [.c (.int .i64 0), .c (.int .i64 108)] },
  { dst := (some 35), op := .call false true (.f 50) [.c (.int .i64 0), .c (.int .i64 112)] },
  { dst := (some 36), op := .bslice true 2 2 [.int .i64 0, .int .i64 0, .int .i64 0, .int .i64 0] [(0, 2, .t 34), (2, 2, .t 35)] },
  { dst := (some 37), op := .call false true (.f 52) [] },
  { dst := (some 38), op := .call false true (.f 26) [.t 33, .t 36, .t 37] },
  { dst := (some 32), op := .mov (.t 38) },
  { dst := (some 39), op := .ext 0 (.t 32) },
  { dst := (some 40), op := .ext 1 (.t 32) },
  { dst := (some 7), op := .mov (.t 39) },
  { dst := (some 8), op := .mov (.t 40) }]
def A23_r5 : List AO := [
  { dst := (some 41), op := .mov (.t 2) },
  { dst := (some 42), op := .bin .neq (.t 41) (.c (.int .i64 0)) },
  { dst := (some 43), op := .mov (.t 42) },
  { dst := (some 44), op := .mov (.t 4), guard := some (43, false) },
  { dst := (some 45), op := .bin .neq (.t 44) (.c (.int .i64 0)), guard := some (43, false) },
  { dst := (some 46), op := .pick (.t 43) (.c (.bool true)) (.t 45) },
  { dst := (some 47), op := .mov (.t 46) },
  { dst := (some 48), op := .mov (.t 6), guard := some (47, false) },
  { dst := (some 49), op := .bin .neq (.t 48) (.c (.int .i64 0)), guard := some (47, false) },
  { dst := (some 50), op := .pick (.t 47) (.c (.bool true)) (.t 49) },
  { dst := (some 51), op := .mov (.t 50) },
  { dst := (some 52), op := .mov (.t 8), guard := some (51, false) },
  { dst := (some 53), op := .bin .neq (.t 52) (.c (.int .i64 0)), guard := some (51, false) },
  { dst := (some 54), op := .pick (.t 51) (.c (.bool true)) (.t 53) },
  { dst := (some 55), op := .mov (.t 54) },
  { dst := (some 56), op := .mov (.t 1), guard := some (55, false) },
  { dst := (some 57), op := .bin .neq (.t 56) (.c (.int .i64 3)), guard := some (55, false) },
  { dst := (some 58), op := .pick (.t 55) (.c (.bool true)) (.t 57) },
  { dst := (some 59), op := .mov (.t 58) },
  { dst := (some 60), op := .mov (.t 3), guard := some (59, false) },
  { dst := (some 61), op := .bslice true 1 5 [.int .i64 0, .int .i64 0, .int .i64 0, .int .i64 0, .int .i64 0] [(0, 1, .c (.int .i64 100)), (1, 1, .c (.int .i64 101)), (2, 1, .c (.int .i64 102)), (3, 1, .c (.int .i64 103)), (4, 1, .c (.int .i64 104))], guard := some (59, false) },
  { dst := (some 62), op := .call false true (.f 20) [.t 60, .t 61], guard := some (59, false) },
  { dst := (some 63), op := .un .not (.t 62), guard := some (59, false) },
  { dst := (some 64), op := .pick (.t 59) (.c (.bool true)) (.t 63) },
  { dst := (some 65), op := .mov (.t 64) },
  { dst := (some 66), op := .mov (.t 5), guard := some (65, false) },
  { dst := (some 67), op := .un .not (.t 66), guard := some (65, false) },
  { dst := (some 68), op := .pick (.t 65) (.c (.bool true)) (.t 67) },
  { dst := (some 69), op := .mov (.t 68) },
  { dst := (some 70), op := .mov (.t 7), guard := some (69, false) },
  { dst := (some 71), op := .bslice true 1 1 [.int .i64 0] [(0, 1, .c (.int .i64 110))], guard := some (69, false) },
  { dst := (some 72), op := .call false true (.f 20) [.t 70, .t 71], guard := some (69, false) },
  { dst := (some 73), op := .un .not (.t 72), guard := some (69, false) },
  { dst := (some 74), op := .pick (.t 69) (.c (.bool true)) (.t 73) }]
def A23_r6 : List AO := [
  { dst := (some 0), op := .mov (.c (.bool false)) }]
def A23_r7 : List AO := [
  { dst := (some 76), op := .call false true (.f 49) [] },
  { dst := (some 77), op := .call false true (.f 52) [] },
  { dst := (some 78), op := .call false true (.f 30) [.t 76, .c (.int .i64 95), .t 77] },
  { dst := (some 75), op := .mov (.t 78) },
  { dst := (some 79), op := .ext 0 (.t 75) },
  { dst := (some 80), op := .ext 1 (.t 75) },
  { dst := (some 9), op := .mov (.t 79) },
  { dst := (some 2), op := .mov (.t 80) }]
def A23_r8 : List AO := [
  { dst := (some 82), op := .call false true (.f 51) [] },
  { dst := (some 83), op := .call false true (.f 52) [] },
  { dst := (some 84), op := .call false true (.f 29) [.t 82, .c (.int .i64 95), .t 83] },
  { dst := (some 81), op := .mov (.t 84) },
  { dst := (some 85), op := .ext 0 (.t 81) },
  { dst := (some 86), op := .ext 1 (.t 81) },
  { dst := (some 10), op := .mov (.t 85) },
  { dst := (some 4), op := .mov (.t 86) }]
def A23_r9 : List AO := [
  { dst := (some 88), op := .call false true (.f 49) [] },
  { dst := (some 89), op := .call false true (.f 52) [] },
  { dst := (some 90), op := .call false true (.f 31) [.t 88, .t 89] },
  { dst := (some 87), op := .mov (.t 90) },
  { dst := (some 91), op := .ext 0 (.t 87) },
  { dst := (some 92), op := .ext 1 (.t 87) },
  { dst := (some 11), op := .mov (.t 91) },
  { dst := (some 6), op := .mov (.t 92) }]
def A23_r10 : List AO := [
  { dst := (some 94), op := .call false true (.f 49) [] },
  { dst := (some 95), op := .call false true (.f 52) [] },
  { dst := (some 96), op := .call false true (.f 33) [.t 94, .c (.int .i64 95), .t 95, .c (.int .i64 10)] },
  { dst := (some 93), op := .mov (.t 96) },
  { dst := (some 97), op := .ext 0 (.t 93) },
  { dst := (some 98), op := .ext 1 (.t 93) },
  { dst := (some 3), op := .mov (.t 97) },
  { dst := (some 8), op := .mov (.t 98) }]
def A23_r11 : List AO := [
  { dst := (some 100), op := .call false true (.f 49) [] },
  { dst := (some 101), op := .call false true (.f 40) [.c (.int .i64 150), .c (.int .i64 160)] },
  { dst := (some 102), op := .call false true (.f 21) [.t 100, .c (.int .i64 1200), .t 101] },
  { dst := (some 99), op := .mov (.t 102) },
  { dst := (some 103), op := .ext 0 (.t 99) },
  { dst := (some 104), op := .ext 1 (.t 99) },
  { dst := (some 12), op := .mov (.t 103) },
  { dst := (some 13), op := .mov (.t 104) }]
def A23_r12 : List AO := [
  { dst := (some 105), op := .mov (.t 2) },
  { dst := (some 106), op := .bin .eql (.t 105) (.c (.int .i64 0)) },
  { dst := (some 107), op := .mov (.t 106) },
  { dst := (some 108), op := .mov (.t 4), guard := some (107, true) },
  { dst := (some 109), op := .bin .eql (.t 108) (.c (.int .i64 0)), guard := some (107, true) },
  { dst := (some 110), op := .pick (.t 107) (.t 109) (.c (.bool false)) },
  { dst := (some 111), op := .mov (.t 110) },
  { dst := (some 112), op := .mov (.t 6), guard := some (111, true) },
  { dst := (some 113), op := .bin .eql (.t 112) (.c (.int .i64 0)), guard := some (111, true) },
  { dst := (some 114), op := .pick (.t 111) (.t 113) (.c (.bool false)) },
  { dst := (some 115), op := .mov (.t 114) },
  { dst := (some 116), op := .mov (.t 8), guard := some (115, true) },
  { dst := (some 117), op := .bin .eql (.t 116) (.c (.int .i64 0)), guard := some (115, true) },
  { dst := (some 118), op := .pick (.t 115) (.t 117) (.c (.bool false)) },
  { dst := (some 119), op := .mov (.t 118) },
  { dst := (some 120), op := .mov (.t 13), guard := some (119, true) },
  { dst := (some 121), op := .bin .eql (.t 120) (.c (.int .i64 0)), guard := some (119, true) },
  { dst := (some 122), op := .pick (.t 119) (.t 121) (.c (.bool false)) },
  { dst := (some 123), op := .mov (.t 122) },
  { dst := (some 124), op := .mov (.t 9), guard := some (123, true) },
  { dst := (some 125), op := .len (.t 124), guard := some (123, true) },
  { dst := (some 126), op := .bin .eql (.t 125) (.c (.int .i64 3)), guard := some (123, true) },
  { dst := (some 127), op := .pick (.t 123) (.t 126) (.c (.bool false)) },
  { dst := (some 128), op := .mov (.t 127) },
  { dst := (some 129), op := .mov (.t 9), guard := some (128, true) },
  { dst := (some 130), op := .iaddr 2 (.t 129) (.c (.int .i64 0)), guard := some (128, true) },
  { dst := (some 131), op := .load true 2 (.t 130), guard := some (128, true) },
  { dst := (some 132), op := .call false true (.f 50) [.c (.int .i64 0), .c (.int .i64 108)], guard := some (128, true) },
  { dst := (some 133), op := .eqs false [false, false] (.t 131) (.t 132), guard := some (128, true) },
  { dst := (some 134), op := .pick (.t 128) (.t 133) (.c (.bool false)) },
  { dst := (some 135), op := .mov (.t 134) },
  { dst := (some 136), op := .mov (.t 9), guard := some (135, true) },
  { dst := (some 137), op := .iaddr 2 (.t 136) (.c (.int .i64 1)), guard := some (135, true) },
  { dst := (some 138), op := .load true 2 (.t 137), guard := some (135, true) },
  { dst := (some 139), op := .call false true (.f 50) [.c (.int .i64 0), .c (.int .i64 110)], guard := some (135, true) },
  { dst := (some 140), op := .eqs false [false, false] (.t 138) (.t 139), guard := some (135, true) },
  { dst := (some 141), op := .pick (.t 135) (.t 140) (.c (.bool false)) },
  { dst := (some 142), op := .mov (.t 141) },
  { dst := (some 143), op := .mov (.t 9), guard := some (142, true) },
  { dst := (some 144), op := .iaddr 2 (.t 143) (.c (.int .i64 2)), guard := some (142, true) },
  { dst := (some 145), op := .load true 2 (.t 144), guard := some (142, true) },
  { dst := (some 146), op := .call false true (.f 50) [.c (.int .i64 0), .c (.int .i64 112)], guard := some (142, true) },
  { dst := (some 147), op := .eqs false [false, false] (.t 145) (.t 146), guard := some (142, true) },
  { dst := (some 148), op := .pick (.t 142) (.t 147) (.c (.bool false)) },
  { dst := (some 149), op := .mov (.t 148) },
  { dst := (some 150), op := .mov (.t 10), guard := some (149, true) },
  { dst := (some 151), op := .bin .eql (.t 150) (.c (.int .i64 20)), guard := some (149, true) },
  { dst := (some 152), op := .pick (.t 149) (.t 151) (.c (.bool false)) },
  { dst := (some 153), op := .mov (.t 152) },
  { dst := (some 154), op := .mov (.t 11), guard := some (153, true) },
  { dst := (some 155), op := .bin .eql (.t 154) (.c (.int .i64 106)), guard := some (153, true) },
  { dst := (some 156), op := .pick (.t 153) (.t 155) (.c (.bool false)) },
  { dst := (some 157), op := .mov (.t 156) },
  { dst := (some 158), op := .mov (.t 3), guard := some (157, true) },
  { dst := (some 159), op := .bslice true 1 3 [.int .i64 0, .int .i64 0, .int .i64 0] [(0, 1, .c (.int .i64 101)), (1, 1, .c (.int .i64 108)), (2, 1, .c (.int .i64 110))], guard := some (157, true) },
  { dst := (some 160), op := .call false true (.f 20) [.t 158, .t 159], guard := some (157, true) },
  { dst := (some 161), op := .pick (.t 157) (.t 160) (.c (.bool false)) },
  { dst := (some 162), op := .mov (.t 161) },
  { dst := (some 163), op := .mov (.t 12), guard := some (162, true) },
  { dst := (some 164), op := .bin .eql (.t 163) (.c (.int .i64 1)), guard := some (162, true) },
  { dst := (some 165), op := .pick (.t 162) (.t 164) (.c (.bool false)) },
  { dst := (some 0), op := .mov (.t 165) }]
def A23 : AF := { np := 0, res := [.tmp 0], body := (.seq (.region A23_r0 none [] []) (.seq (.region A23_r1 none [1, 2] []) (.seq (.region A23_r2 none [1, 2, 3, 4] []) (.seq (.region A23_r3 none [1, 2, 3, 4, 5, 6] []) (.seq (.region A23_r4 none [1, 2, 3, 4, 5, 6, 7, 8] []) (.seq (.seq (.region A23_r5 none [74] []) (.cond (.t 74) (.seq (.region A23_r6 none [0] []) (.ret)) (.skip))) (.seq (.region A23_r7 none [2, 9] []) (.seq (.region A23_r8 none [2, 4, 9, 10] []) (.seq (.region A23_r9 none [2, 4, 6, 9, 10, 11] []) (.seq (.region A23_r10 none [2, 3, 4, 6, 8, 9, 10, 11] []) (.seq (.region A23_r11 none [2, 3, 4, 6, 8, 9, 10, 11, 12, 13] []) (.seq (.region A23_r12 (some [[], [0], [1], [2], [3, 2], [2, 4], [5, 2], [6], [7, 6], [6, 8], [9, 6], [10], [11, 10], [10, 12], [13, 10], [14], [15, 14], [14, 16], [17, 14], [18], [19, 18], [20, 18], [18, 21], [22, 18], [23], [24, 23], [25, 23], [23, 23], [26, 27, 23], [23, 28], [29, 27], [30], [31, 30], [32, 30], [30, 30], [33, 34, 30], [30, 35], [36, 34], [37], [38, 37], [39, 37], [37, 37], [40, 41, 37], [37, 42], [43, 41], [44], [45, 44], [44, 46], [47, 44], [48], [49, 48], [48, 50], [51, 48], [52], [52], [53, 54, 52, 52], [52, 55], [56, 55], [57], [58, 57], [57, 59], [60, 57, 0, 1, 2, 3, 4, 5, 6, 7, 8, 9, 10, 11, 12, 13, 14, 15, 16, 17, 18, 19, 20, 21, 22, 23, 24, 25, 26, 27, 28, 29, 30, 31, 32, 33, 34, 35, 36, 37, 38, 39, 40, 41, 42, 43, 44, 45, 46, 47, 48, 49, 50, 51, 52, 53, 54, 55, 56, 57, 58, 59, 60]]) [0] []) (.ret))))))))))))) }
/- bioscope.licence.IsPlan -/
def A24_r0 : List AO := [
  { dst := (some 3), op := .box true (.t 0) },
  { dst := (some 6), op := .mov (.c (.bool false)) },
  { dst := (some 7), op := .mov (.c (.int .i64 0)) }]
def A24_r1 : List AO := [
  { dst := (some 13), op := .load true 6 (.t 3) },
  { dst := (some 14), op := .mov (.t 1) },
  { dst := (some 15), op := .call false true (.f 54) [.t 14] },
  { dst := (some 16), op := .call false true (.f 53) [.t 13, .t 15] },
  { dst := (some 12), op := .mov (.t 16) },
  { dst := (some 17), op := .ext 0 (.t 12) },
  { dst := (some 18), op := .ext 1 (.t 12) },
  { dst := (some 8), op := .new true [.lst (some true) true 0 [], .int .i64 0, .lst (some true) true 0 [], .int .i64 0, .int .i64 0, .lst (some true) true 0 [], .nilm] },
  { dst := none, op := .store 7 (.t 8) (.t 17) },
  { dst := (some 9), op := .mov (.t 18) }]
def A24_r2 : List AO := [
  { dst := (some 19), op := .mov (.t 9) },
  { dst := (some 20), op := .bin .neq (.t 19) (.c (.int .i64 0)) }]
def A24_r3 : List AO := [
  { dst := (some 21), op := .mov (.t 9) },
  { dst := (some 6), op := .mov (.c (.bool false)) },
  { dst := (some 7), op := .mov (.t 21) }]
def A24_r4 : List AO := [
  { dst := (some 22), op := .mov (.t 2) },
  { dst := (some 23), op := .len (.t 22) },
  { dst := (some 24), op := .bin .gtr (.t 23) (.c (.int .i64 8)) }]
def A24_r5 : List AO := [
  { dst := (some 6), op := .mov (.c (.bool false)) },
  { dst := (some 7), op := .mov (.c (.int .i64 0)) }]
def A24_r6 : List AO := [
  { dst := (some 25), op := .mov (.t 2) },
  { dst := (some 26), op := .len (.t 25) },
  { dst := (some 27), op := .mov (.c (.int .i64 0)) }]
def A24_r7 : List AO := [
  { dst := (some 28), op := .bin .lss (.t 27) (.t 26) }]
def A24_r8 : List AO := [
  { dst := (some 29), op := .mov (.t 27) },
  { dst := (some 30), op := .iaddr 2 (.t 25) (.t 27) },
  { dst := (some 31), op := .load true 2 (.t 30) },
  { dst := (some 11), op := .new true [.int .i64 0, .int .i64 0] },
  { dst := (some 10), op := .mov (.t 29) },
  { dst := none, op := .store 2 (.t 11) (.t 31) }]
def A24_r9 : List AO := [
  { dst := (some 32), op := .load true 6 (.t 3) },
  { dst := (some 33), op := .load true 2 (.t 11) },
  { dst := (some 34), op := .call false true (.f 62) [.t 32, .t 33] },
  { dst := (some 35), op := .un .not (.t 34) },
  { dst := (some 36), op := .mov (.t 35) },
  { dst := (some 37), op := .mov (.t 10), guard := some (36, false) },
  { dst := (some 38), op := .bin .gtr (.t 37) (.c (.int .i64 0)), guard := some (36, false) },
  { dst := (some 39), op := .mov (.t 38), guard := some (36, false) },
  { dst := (some 40), op := .faddr 1 (.t 11), guard := some (39, true) },
  { dst := (some 41), op := .load false 1 (.t 40), guard := some (39, true) },
  { dst := (some 42), op := .mov (.t 2), guard := some (39, true) },
  { dst := (some 43), op := .mov (.t 10), guard := some (39, true) },
  { dst := (some 44), op := .bin .sub (.t 43) (.c (.int .i64 1)), guard := some (39, true) },
  { dst := (some 45), op := .iaddr 2 (.t 42) (.t 44), guard := some (39, true) },
  { dst := (some 46), op := .faddr 1 (.t 45), guard := some (39, true) },
  { dst := (some 47), op := .load false 1 (.t 46), guard := some (39, true) },
  { dst := (some 48), op := .bin .lss (.t 41) (.t 47), guard := some (39, true) },
  { dst := (some 49), op := .pick (.t 39) (.t 48) (.c (.bool false)), guard := some (36, false) },
  { dst := (some 50), op := .pick (.t 36) (.c (.bool true)) (.t 49) },
  { dst := (some 51), op := .mov (.t 50) },
  { dst := (some 52), op := .faddr 1 (.t 11), guard := some (51, false) },
  { dst := (some 53), op := .load false 1 (.t 52), guard := some (51, false) },
  { dst := (some 54), op := .mov (.t 1), guard := some (51, false) },
  { dst := (some 55), op := .bin .sub (.t 53) (.t 54), guard := some (51, false) },
  { dst := (some 56), op := .faddr 0 (.t 8), guard := some (51, false) },
  { dst := (some 57), op := .faddr 0 (.t 56), guard := some (51, false) },
  { dst := (some 58), op := .load false 1 (.t 57), guard := some (51, false) },
  { dst := (some 59), op := .faddr 0 (.t 11), guard := some (51, false) },
  { dst := (some 60), op := .load false 1 (.t 59), guard := some (51, false) },
  { dst := (some 61), op := .iaddr 3 (.t 58) (.t 60), guard := some (51, false) },
  { dst := (some 62), op := .faddr 2 (.t 61), guard := some (51, false) },
  { dst := (some 63), op := .load false 1 (.t 62), guard := some (51, false) },
  { dst := (some 64), op := .bin .lss (.t 55) (.t 63), guard := some (51, false) },
  { dst := (some 65), op := .pick (.t 51) (.c (.bool true)) (.t 64) }]
def A24_r10 : List AO := [
  { dst := (some 6), op := .mov (.c (.bool false)) },
  { dst := (some 7), op := .mov (.c (.int .i64 0)) }]
def A24_r11 : List AO := [
  { dst := (some 66), op := .bin .add (.t 27) (.c (.int .i64 1)) },
  { dst := (some 27), op := .mov (.t 66) }]
def A24_l0 : AC := .seq (.region A24_r7 none [1, 2, 3, 8, 25, 26, 27, 28] [3, 8]) (.seq (.cond (.t 28) (.skip) (.exit 0)) (.seq (.block 1 (.seq (.region A24_r8 none [1, 2, 3, 8, 10, 11, 25, 26, 27] [3, 8, 11]) (.seq (.region A24_r9 (some [[], [], [0, 1], [2], [3, 2], [4], [5, 4], [6, 4, 4], [7], [8, 7], [7], [7], [11, 7], [10, 12, 7], [13, 7], [14, 7], [9, 15, 7], [7, 16, 4], [4, 17], [18, 7], [19], [20, 19], [19], [21, 22, 19], [19], [24, 19], [25, 19], [19], [27, 19], [26, 28, 19], [29, 19], [30, 19], [23, 31, 19], [19, 32]]) [1, 2, 3, 8, 25, 26, 27, 65] [3, 8]) (.cond (.t 65) (.seq (.region A24_r10 none [6, 7] []) (.ret)) (.skip))))) (.region A24_r11 none [1, 2, 3, 8, 25, 26, 27] [3, 8])))
def A24_r12 : List AO := [
  { dst := (some 67), op := .load true 7 (.t 8) },
  { dst := (some 68), op := .faddr 0 (.t 8) },
  { dst := (some 69), op := .faddr 5 (.t 68) },
  { dst := (some 70), op := .load false 1 (.t 69) },
  { dst := (some 71), op := .faddr 0 (.t 8) },
  { dst := (some 72), op := .faddr 5 (.t 71) },
  { dst := (some 73), op := .load false 1 (.t 72) },
  { dst := (some 74), op := .len (.t 73) },
  { dst := (some 75), op := .faddr 0 (.t 8) },
  { dst := (some 76), op := .faddr 5 (.t 75) },
  { dst := (some 77), op := .load false 1 (.t 76) },
  { dst := (some 78), op := .len (.t 77) },
  { dst := (some 79), op := .slc 2 (.t 70) none (some (.t 74)) (some (.t 78)) },
  { dst := (some 80), op := .mov (.t 2) },
  { dst := (some 81), op := .app 2 55 16 (.t 79) (.t 80) },
  { dst := (some 82), op := .call false true (.f 64) [.t 67, .t 81] },
  { dst := (some 6), op := .mov (.t 82) },
  { dst := (some 7), op := .mov (.c (.int .i64 0)) }]
def A24 : AF := { np := 3, res := [.tmp 6, .tmp 7], body := (.seq (.region A24_r0 none [1, 2, 3] [3]) (.seq (.region A24_r1 (some [[], [], [1], [0, 2, 2], [3], [4], [4], [], [7, 5, 3, 0, 1, 2, 3, 4, 5, 7], [6, 8, 0, 1, 2, 3, 4, 5, 6, 7, 8]]) [1, 2, 3, 8, 9] [3, 8]) (.seq (.seq (.region A24_r2 none [1, 2, 3, 8, 9, 20] [3, 8]) (.cond (.t 20) (.seq (.region A24_r3 none [6, 7] []) (.ret)) (.skip))) (.seq (.seq (.region A24_r4 none [1, 2, 3, 8, 24] [3, 8]) (.cond (.t 24) (.seq (.region A24_r5 none [6, 7] []) (.ret)) (.skip))) (.seq (.seq (.region A24_r6 none [1, 2, 3, 8, 25, 26, 27] [3, 8]) (.block 0 (.loop [1, 2, 3, 8, 25, 26, 27] [3, 8] A24_l0))) (.seq (.region A24_r12 (some [[], [], [1], [2], [], [4], [5], [6], [], [8], [9], [10], [3, 7, 11], [], [12, 13], [0, 14, 14], [15, 15, 0, 1, 2, 3, 4, 5, 6, 7, 8, 9, 10, 11, 12, 13, 14, 15], [16, 0, 1, 2, 3, 4, 5, 6, 7, 8, 9, 10, 11, 12, 13, 14, 15, 16]]) [6, 7] []) (.ret))))))) }
/- bioscope.licence.Lacking -/
def A26_r0 : List AO := [
  { dst := (some 3), op := .box false (.t 0) },
  { dst := (some 6), op := .mov (.c (.lst (some true) true 0 [])) },
  { dst := (some 7), op := .mov (.c (.int .i64 0)) }]
def A26_r1 : List AO := [
  { dst := (some 15), op := .mov (.t 1) },
  { dst := (some 16), op := .len (.t 15) },
  { dst := (some 17), op := .bin .leq (.t 16) (.c (.int .i64 8)) },
  { dst := (some 18), op := .mov (.t 17) },
  { dst := (some 19), op := .mov (.t 1), guard := some (18, true) },
  { dst := (some 20), op := .mkf 70 [] [.t 3], guard := some (18, true) },
  { dst := (some 21), op := .call false true (.f 69) [.t 19, .t 20], guard := some (18, true) },
  { dst := (some 22), op := .un .not (.t 21), guard := some (18, true) },
  { dst := (some 23), op := .pick (.t 18) (.t 22) (.c (.bool false)) },
  { dst := (some 8), op := .mov (.t 23) }]
def A26_r2 : List AO := [
  { dst := (some 25), op := .load true 6 (.t 3) },
  { dst := (some 26), op := .mov (.t 2) },
  { dst := (some 27), op := .call false true (.f 71) [.t 26] },
  { dst := (some 28), op := .mov (.t 27) },
  { dst := (some 29), op := .mov (.t 8), guard := some (28, true) },
  { dst := (some 30), op := .pick (.t 28) (.t 29) (.c (.bool false)) },
  { dst := (some 31), op := .call false true (.f 53) [.t 25, .t 30] },
  { dst := (some 24), op := .mov (.t 31) },
  { dst := (some 32), op := .ext 0 (.t 24) },
  { dst := (some 33), op := .ext 1 (.t 24) },
  { dst := (some 9), op := .new true [.lst (some true) true 0 [], .int .i64 0, .lst (some true) true 0 [], .int .i64 0, .int .i64 0, .lst (some true) true 0 [], .nilm] },
  { dst := none, op := .store 7 (.t 9) (.t 32) },
  { dst := (some 10), op := .mov (.t 33) }]
def A26_r3 : List AO := [
  { dst := (some 34), op := .mov (.t 10) },
  { dst := (some 35), op := .bin .neq (.t 34) (.c (.int .i64 0)) }]
def A26_r4 : List AO := [
  { dst := (some 36), op := .mov (.t 10) },
  { dst := (some 6), op := .mov (.c (.lst (some true) true 0 [])) },
  { dst := (some 7), op := .mov (.t 36) }]
def A26_r5 : List AO := [
  { dst := (some 37), op := .faddr 0 (.t 9) },
  { dst := (some 38), op := .faddr 5 (.t 37) },
  { dst := (some 39), op := .load false 1 (.t 38) },
  { dst := (some 40), op := .faddr 0 (.t 9) },
  { dst := (some 41), op := .faddr 5 (.t 40) },
  { dst := (some 42), op := .load false 1 (.t 41) },
  { dst := (some 43), op := .len (.t 42) },
  { dst := (some 44), op := .faddr 0 (.t 9) },
  { dst := (some 45), op := .faddr 5 (.t 44) },
  { dst := (some 46), op := .load false 1 (.t 45) },
  { dst := (some 47), op := .len (.t 46) },
  { dst := (some 48), op := .slc 2 (.t 39) none (some (.t 43)) (some (.t 47)) },
  { dst := (some 49), op := .mov (.t 1) },
  { dst := (some 50), op := .app 2 55 16 (.t 48) (.t 49) },
  { dst := (some 11), op := .mov (.t 50) }]
def A26_r6 : List AO := [
  { dst := (some 12), op := .mov (.c (.lst (some true) true 0 [])) }]
def A26_r7 : List AO := [
  { dst := (some 51), op := .mov (.t 2) },
  { dst := (some 52), op := .len (.t 51) },
  { dst := (some 53), op := .mov (.c (.int .i64 0)) }]
def A26_r8 : List AO := [
  { dst := (some 54), op := .bin .lss (.t 53) (.t 52) }]
def A26_r9 : List AO := [
  { dst := (some 55), op := .iaddr 1 (.t 51) (.t 53) },
  { dst := (some 56), op := .load false 1 (.t 55) },
  { dst := (some 14), op := .mov (.t 56) }]
def A26_r10 : List AO := [
  { dst := (some 57), op := .load true 7 (.t 9) },
  { dst := (some 58), op := .mov (.t 11) },
  { dst := (some 59), op := .mov (.t 14) },
  { dst := (some 60), op := .call false true (.f 72) [.t 57, .t 58, .t 59] },
  { dst := (some 61), op := .un .not (.t 60) },
  { dst := (some 62), op := .mov (.t 61) },
  { dst := (some 63), op := .load true 7 (.t 9), guard := some (62, false) },
  { dst := (some 64), op := .mov (.t 14), guard := some (62, false) },
  { dst := (some 65), op := .call false true (.f 73) [.t 63, .t 64], guard := some (62, false) },
  { dst := (some 66), op := .pick (.t 62) (.c (.bool true)) (.t 65) }]
def A26_r11 : List AO := [
  { dst := (some 67), op := .mov (.t 12) },
  { dst := (some 68), op := .mov (.t 14) },
  { dst := (some 69), op := .bslice true 1 1 [.int .i64 0] [(0, 1, .t 68)] },
  { dst := (some 70), op := .app 1 3 8 (.t 67) (.t 69) },
  { dst := (some 12), op := .mov (.t 70) }]
def A26_r12 : List AO := [
  { dst := (some 71), op := .bin .add (.t 53) (.c (.int .i64 1)) },
  { dst := (some 53), op := .mov (.t 71) }]
def A26_l0 : AC := .seq (.region A26_r8 none [9, 11, 12, 51, 52, 53, 54] [9]) (.seq (.cond (.t 54) (.skip) (.exit 0)) (.seq (.block 1 (.seq (.region A26_r9 none [9, 11, 12, 14, 51, 52, 53] [9]) (.seq (.region A26_r10 none [9, 11, 12, 14, 51, 52, 53, 66] [9]) (.cond (.t 66) (.region A26_r11 none [9, 11, 12, 51, 52, 53] [9]) (.skip))))) (.region A26_r12 none [9, 11, 12, 51, 52, 53] [9])))
def A26_r13 : List AO := [
  { dst := (some 72), op := .mov (.t 12) },
  { dst := (some 73), op := .mov (.t 12) },
  { dst := (some 74), op := .len (.t 73) },
  { dst := (some 75), op := .mov (.t 12) },
  { dst := (some 76), op := .len (.t 75) },
  { dst := (some 77), op := .slc 1 (.t 72) none (some (.t 74)) (some (.t 76)) },
  { dst := (some 6), op := .mov (.t 77) },
  { dst := (some 7), op := .mov (.c (.int .i64 0)) }]
def A26 : AF := { np := 3, res := [.tmp 6, .tmp 7], body := (.seq (.region A26_r0 none [1, 2, 3] []) (.seq (.region A26_r1 none [1, 2, 3, 8] []) (.seq (.region A26_r2 (some [[], [], [1], [2, 2], [3], [3, 4], [0, 5, 3], [6], [7], [7], [], [10, 8, 6, 0, 1, 2, 3, 4, 5, 6, 7, 8, 10], [9, 11, 0, 1, 2, 3, 4, 5, 6, 7, 8, 9, 10, 11]]) [1, 2, 9, 10] [9]) (.seq (.seq (.region A26_r3 none [1, 2, 9, 10, 35] [9]) (.cond (.t 35) (.seq (.region A26_r4 none [6, 7] []) (.ret)) (.skip))) (.seq (.region A26_r5 none [2, 9, 11] [9]) (.seq (.region A26_r6 none [2, 9, 11, 12] [9]) (.seq (.seq (.region A26_r7 none [9, 11, 12, 51, 52, 53] [9]) (.block 0 (.loop [9, 11, 12, 51, 52, 53] [9] A26_l0))) (.seq (.region A26_r13 none [6, 7] []) (.ret))))))))) }
/- bioscope.licence.Fee -/
def A29_r0 : List AO := [
  { dst := (some 3), op := .box true (.t 0) },
  { dst := (some 6), op := .mov (.c (.int .i64 0)) },
  { dst := (some 7), op := .mov (.c (.int .i64 0)) }]
def A29_r1 : List AO := [
  { dst := (some 12), op := .load true 6 (.t 3) },
  { dst := (some 13), op := .mov (.t 1) },
  { dst := (some 14), op := .call false true (.f 54) [.t 13] },
  { dst := (some 15), op := .mov (.t 14) },
  { dst := (some 16), op := .mov (.t 2), guard := some (15, true) },
  { dst := (some 17), op := .call false true (.f 71) [.t 16], guard := some (15, true) },
  { dst := (some 18), op := .pick (.t 15) (.t 17) (.c (.bool false)) },
  { dst := (some 19), op := .call false true (.f 53) [.t 12, .t 18] },
  { dst := (some 11), op := .mov (.t 19) },
  { dst := (some 20), op := .ext 0 (.t 11) },
  { dst := (some 21), op := .ext 1 (.t 11) },
  { dst := (some 8), op := .new true [.lst (some true) true 0 [], .int .i64 0, .lst (some true) true 0 [], .int .i64 0, .int .i64 0, .lst (some true) true 0 [], .nilm] },
  { dst := none, op := .store 7 (.t 8) (.t 20) },
  { dst := (some 9), op := .mov (.t 21) }]
def A29_r2 : List AO := [
  { dst := (some 22), op := .mov (.t 9) },
  { dst := (some 23), op := .bin .neq (.t 22) (.c (.int .i64 0)) }]
def A29_r3 : List AO := [
  { dst := (some 24), op := .mov (.t 9) },
  { dst := (some 6), op := .mov (.c (.int .i64 0)) },
  { dst := (some 7), op := .mov (.t 24) }]
def A29_r4 : List AO := [
  { dst := (some 25), op := .load true 6 (.t 3) },
  { dst := (some 26), op := .mov (.t 1) },
  { dst := (some 27), op := .mov (.t 2) },
  { dst := (some 28), op := .call false true (.f 76) [.t 25, .t 26, .t 27] },
  { dst := (some 10), op := .new true [.int .i64 0, .lst (some true) true 0 []] },
  { dst := none, op := .store 2 (.t 10) (.t 28) }]
def A29_r5 : List AO := [
  { dst := (some 29), op := .faddr 0 (.t 10) },
  { dst := (some 30), op := .load false 1 (.t 29) },
  { dst := (some 31), op := .bin .lss (.t 30) (.c (.int .i64 0)) }]
def A29_r6 : List AO := [
  { dst := (some 6), op := .mov (.c (.int .i64 0)) },
  { dst := (some 7), op := .mov (.c (.int .i64 4)) }]
def A29_r7 : List AO := [
  { dst := (some 32), op := .faddr 0 (.t 10) },
  { dst := (some 33), op := .load false 1 (.t 32) },
  { dst := (some 6), op := .mov (.t 33) },
  { dst := (some 7), op := .mov (.c (.int .i64 0)) }]
def A29 : AF := { np := 3, res := [.tmp 6, .tmp 7], body := (.seq (.region A29_r0 none [1, 2, 3] [3]) (.seq (.seq (.region A29_r1 (some [[], [], [1], [2, 2], [3], [4, 3, 3], [3, 5], [0, 6, 5], [7], [8], [8], [], [11, 9, 7, 0, 1, 2, 3, 4, 5, 6, 7, 8, 9, 11], [10, 12, 0, 1, 2, 3, 4, 5, 6, 7, 8, 9, 10, 11, 12]]) [1, 2, 3, 9] [3]) (.seq (.region A29_r2 none [1, 2, 3, 9, 23] [3]) (.cond (.t 23) (.seq (.region A29_r3 none [6, 7] []) (.ret)) (.skip)))) (.seq (.region A29_r4 none [10] [10]) (.seq (.seq (.region A29_r5 none [10, 31] [10]) (.cond (.t 31) (.seq (.region A29_r6 none [6, 7] []) (.ret)) (.skip))) (.seq (.region A29_r7 none [6, 7] []) (.ret)))))) }
/- bioscope.licence.Cheapest -/
def A30_r0 : List AO := [
  { dst := (some 3), op := .box true (.t 0) },
  { dst := (some 6), op := .mov (.c (.lst (some true) true 0 [])) },
  { dst := (some 7), op := .mov (.c (.int .i64 0)) }]
def A30_r1 : List AO := [
  { dst := (some 12), op := .load true 6 (.t 3) },
  { dst := (some 13), op := .mov (.t 1) },
  { dst := (some 14), op := .call false true (.f 54) [.t 13] },
  { dst := (some 15), op := .mov (.t 14) },
  { dst := (some 16), op := .mov (.t 2), guard := some (15, true) },
  { dst := (some 17), op := .call false true (.f 71) [.t 16], guard := some (15, true) },
  { dst := (some 18), op := .pick (.t 15) (.t 17) (.c (.bool false)) },
  { dst := (some 19), op := .call false true (.f 53) [.t 12, .t 18] },
  { dst := (some 11), op := .mov (.t 19) },
  { dst := (some 20), op := .ext 0 (.t 11) },
  { dst := (some 21), op := .ext 1 (.t 11) },
  { dst := (some 8), op := .new true [.lst (some true) true 0 [], .int .i64 0, .lst (some true) true 0 [], .int .i64 0, .int .i64 0, .lst (some true) true 0 [], .nilm] },
  { dst := none, op := .store 7 (.t 8) (.t 20) },
  { dst := (some 9), op := .mov (.t 21) }]
def A30_r2 : List AO := [
  { dst := (some 22), op := .mov (.t 9) },
  { dst := (some 23), op := .bin .neq (.t 22) (.c (.int .i64 0)) }]
def A30_r3 : List AO := [
  { dst := (some 24), op := .mov (.t 9) },
  { dst := (some 6), op := .mov (.c (.lst (some true) true 0 [])) },
  { dst := (some 7), op := .mov (.t 24) }]
def A30_r4 : List AO := [
  { dst := (some 25), op := .load true 6 (.t 3) },
  { dst := (some 26), op := .mov (.t 1) },
  { dst := (some 27), op := .mov (.t 2) },
  { dst := (some 28), op := .call false true (.f 76) [.t 25, .t 26, .t 27] },
  { dst := (some 10), op := .new true [.int .i64 0, .lst (some true) true 0 []] },
  { dst := none, op := .store 2 (.t 10) (.t 28) }]
def A30_r5 : List AO := [
  { dst := (some 29), op := .faddr 0 (.t 10) },
  { dst := (some 30), op := .load false 1 (.t 29) },
  { dst := (some 31), op := .bin .lss (.t 30) (.c (.int .i64 0)) }]
def A30_r6 : List AO := [
  { dst := (some 6), op := .mov (.c (.lst (some true) true 0 [])) },
  { dst := (some 7), op := .mov (.c (.int .i64 4)) }]
def A30_r7 : List AO := [
  { dst := (some 32), op := .faddr 1 (.t 10) },
  { dst := (some 33), op := .load false 1 (.t 32) },
  { dst := (some 34), op := .faddr 1 (.t 10) },
  { dst := (some 35), op := .load false 1 (.t 34) },
  { dst := (some 36), op := .len (.t 35) },
  { dst := (some 37), op := .faddr 1 (.t 10) },
  { dst := (some 38), op := .load false 1 (.t 37) },
  { dst := (some 39), op := .len (.t 38) },
  { dst := (some 40), op := .slc 2 (.t 33) none (some (.t 36)) (some (.t 39)) },
  { dst := (some 6), op := .mov (.t 40) },
  { dst := (some 7), op := .mov (.c (.int .i64 0)) }]
def A30 : AF := { np := 3, res := [.tmp 6, .tmp 7], body := (.seq (.region A30_r0 none [1, 2, 3] [3]) (.seq (.seq (.region A30_r1 (some [[], [], [1], [2, 2], [3], [4, 3, 3], [3, 5], [0, 6, 5], [7], [8], [8], [], [11, 9, 7, 0, 1, 2, 3, 4, 5, 6, 7, 8, 9, 11], [10, 12, 0, 1, 2, 3, 4, 5, 6, 7, 8, 9, 10, 11, 12]]) [1, 2, 3, 9] [3]) (.seq (.region A30_r2 none [1, 2, 3, 9, 23] [3]) (.cond (.t 23) (.seq (.region A30_r3 none [6, 7] []) (.ret)) (.skip)))) (.seq (.region A30_r4 none [10] [10]) (.seq (.seq (.region A30_r5 none [10, 31] [10]) (.cond (.t 31) (.seq (.region A30_r6 none [6, 7] []) (.ret)) (.skip))) (.seq (.region A30_r7 none [6, 7] []) (.ret)))))) }
/- bioscope.licence.Latest -/
def A31_r0 : List AO := [
  { dst := (some 2), op := .box false (.t 0) },
  { dst := (some 3), op := .box false (.t 1) },
  { dst := (some 4), op := .mov (.c (.int .i64 0)) },
  { dst := (some 5), op := .mov (.c (.int .i64 0)) }]
def A31_r1 : List AO := [
  { dst := (some 13), op := .load true 6 (.t 2) },
  { dst := (some 14), op := .load false 1 (.t 3) },
  { dst := (some 15), op := .call false true (.f 71) [.t 14] },
  { dst := (some 16), op := .call false true (.f 53) [.t 13, .t 15] },
  { dst := (some 12), op := .mov (.t 16) },
  { dst := (some 17), op := .ext 0 (.t 12) },
  { dst := (some 18), op := .ext 1 (.t 12) },
  { dst := (some 6), op := .new true [.lst (some true) true 0 [], .int .i64 0, .lst (some true) true 0 [], .int .i64 0, .int .i64 0, .lst (some true) true 0 [], .nilm] },
  { dst := none, op := .store 7 (.t 6) (.t 17) },
  { dst := (some 7), op := .mov (.t 18) }]
def A31_r2 : List AO := [
  { dst := (some 19), op := .mov (.t 7) },
  { dst := (some 20), op := .bin .neq (.t 19) (.c (.int .i64 0)) }]
def A31_r3 : List AO := [
  { dst := (some 21), op := .mov (.t 7) },
  { dst := (some 4), op := .mov (.c (.int .i64 0)) },
  { dst := (some 5), op := .mov (.t 21) }]
def A31_r4 : List AO := [
  { dst := (some 22), op := .mkf 77 [] [.t 2, .t 3] },
  { dst := (some 8), op := .mov (.t 22) }]
def A31_r5 : List AO := [
  { dst := (some 23), op := .mov (.t 8) },
  { dst := (some 24), op := .call false true (.t 23) [.c (.int .i64 0)] },
  { dst := (some 25), op := .un .not (.t 24) }]
def A31_r6 : List AO := [
  { dst := (some 4), op := .mov (.c (.int .i64 0)) },
  { dst := (some 5), op := .mov (.c (.int .i64 4)) }]
def A31_r7 : List AO := [
  { dst := (some 9), op := .mov (.c (.int .i64 0)) },
  { dst := (some 10), op := .mov (.c (.int .i64 1000)) }]
def A31_r8 : List AO := [
  { dst := (some 26), op := .mov (.t 10) },
  { dst := (some 27), op := .mov (.t 9) },
  { dst := (some 28), op := .bin .sub (.t 26) (.t 27) },
  { dst := (some 29), op := .bin .gtr (.t 28) (.c (.int .i64 1)) }]
def A31_r9 : List AO := [
  { dst := (some 30), op := .mov (.t 9) },
  { dst := (some 31), op := .mov (.t 10) },
  { dst := (some 32), op := .bin .add (.t 30) (.t 31) },
  { dst := (some 33), op := .bin .quo (.t 32) (.c (.int .i64 2)) },
  { dst := (some 11), op := .mov (.t 33) }]
def A31_r10 : List AO := [
  { dst := (some 34), op := .mov (.t 8) },
  { dst := (some 35), op := .mov (.t 11) },
  { dst := (some 36), op := .call false true (.t 34) [.t 35] }]
def A31_r11 : List AO := [
  { dst := (some 37), op := .mov (.t 11) },
  { dst := (some 9), op := .mov (.t 37) }]
def A31_r12 : List AO := [
  { dst := (some 38), op := .mov (.t 11) },
  { dst := (some 10), op := .mov (.t 38) }]
def A31_l0 : AC := .seq (.seq (.region A31_r8 none [8, 9, 10, 29] []) (.cond (.t 29) (.skip) (.exit 0))) (.block 1 (.seq (.region A31_r9 none [8, 9, 10, 11] []) (.seq (.region A31_r10 none [8, 9, 10, 11, 36] []) (.cond (.t 36) (.region A31_r11 none [8, 9, 10] []) (.region A31_r12 none [8, 9, 10] [])))))
def A31_r13 : List AO := [
  { dst := (some 39), op := .mov (.t 9) },
  { dst := (some 4), op := .mov (.t 39) },
  { dst := (some 5), op := .mov (.c (.int .i64 0)) }]
def A31 : AF := { np := 2, res := [.tmp 4, .tmp 5], body := (.seq (.region A31_r0 none [2, 3] []) (.seq (.seq (.region A31_r1 (some [[], [], [1], [0, 2, 2], [3], [4], [4], [], [7, 5, 3, 0, 1, 2, 3, 4, 5, 7], [6, 8, 0, 1, 2, 3, 4, 5, 6, 7, 8]]) [2, 3, 7] []) (.seq (.region A31_r2 none [2, 3, 7, 20] []) (.cond (.t 20) (.seq (.region A31_r3 none [4, 5] []) (.ret)) (.skip)))) (.seq (.region A31_r4 none [8] []) (.seq (.seq (.region A31_r5 none [8, 25] []) (.cond (.t 25) (.seq (.region A31_r6 none [4, 5] []) (.ret)) (.skip))) (.seq (.region A31_r7 none [8, 9, 10] []) (.seq (.block 0 (.loop [8, 9, 10] [] A31_l0)) (.seq (.region A31_r13 none [4, 5] []) (.ret)))))))) }
/- bioscope.licence.Most -/
def A33_r0 : List AO := [
  { dst := (some 4), op := .box true (.t 0) },
  { dst := (some 8), op := .mov (.c (.lst (some true) true 0 [])) },
  { dst := (some 9), op := .mov (.c (.int .i64 0)) }]
def A33_r1 : List AO := [
  { dst := (some 20), op := .load true 6 (.t 4) },
  { dst := (some 21), op := .mov (.t 1) },
  { dst := (some 22), op := .call false true (.f 54) [.t 21] },
  { dst := (some 23), op := .mov (.t 22) },
  { dst := (some 24), op := .mov (.t 2), guard := some (23, true) },
  { dst := (some 25), op := .call false true (.f 71) [.t 24], guard := some (23, true) },
  { dst := (some 26), op := .pick (.t 23) (.t 25) (.c (.bool false)) },
  { dst := (some 27), op := .mov (.t 26) },
  { dst := (some 28), op := .mov (.t 3), guard := some (27, true) },
  { dst := (some 29), op := .call false true (.f 55) [.t 28, .c (.int .i64 0), .c (.int .i64 8000)], guard := some (27, true) },
  { dst := (some 30), op := .pick (.t 27) (.t 29) (.c (.bool false)) },
  { dst := (some 31), op := .call false true (.f 53) [.t 20, .t 30] },
  { dst := (some 19), op := .mov (.t 31) },
  { dst := (some 32), op := .ext 0 (.t 19) },
  { dst := (some 33), op := .ext 1 (.t 19) },
  { dst := (some 10), op := .new true [.lst (some true) true 0 [], .int .i64 0, .lst (some true) true 0 [], .int .i64 0, .int .i64 0, .lst (some true) true 0 [], .nilm] },
  { dst := none, op := .store 7 (.t 10) (.t 32) },
  { dst := (some 11), op := .mov (.t 33) }]
def A33_r2 : List AO := [
  { dst := (some 34), op := .mov (.t 11) },
  { dst := (some 35), op := .bin .neq (.t 34) (.c (.int .i64 0)) }]
def A33_r3 : List AO := [
  { dst := (some 36), op := .mov (.t 11) },
  { dst := (some 8), op := .mov (.c (.lst (some true) true 0 [])) },
  { dst := (some 9), op := .mov (.t 36) }]
def A33_r4 : List AO := [
  { dst := (some 12), op := .mov (.c (.lst (some true) true 0 [])) }]
def A33_r5 : List AO := [
  { dst := (some 13), op := .mov (.c (.int .i64 0)) }]
def A33_r6 : List AO := [
  { dst := (some 37), op := .mov (.t 2) },
  { dst := (some 38), op := .len (.t 37) },
  { dst := (some 39), op := .bin .shl (.c (.int .i64 1)) (.t 38) },
  { dst := (some 40), op := .mov (.c (.int .i64 0)) }]
def A33_r7 : List AO := [
  { dst := (some 41), op := .bin .lss (.t 40) (.t 39) }]
def A33_r8 : List AO := [
  { dst := (some 42), op := .mov (.t 40) },
  { dst := (some 14), op := .mov (.t 42) }]
def A33_r9 : List AO := [
  { dst := (some 15), op := .mov (.c (.lst (some true) true 0 [])) }]
def A33_r10 : List AO := [
  { dst := (some 43), op := .mov (.t 2) },
  { dst := (some 44), op := .len (.t 43) },
  { dst := (some 45), op := .mov (.c (.int .i64 0)) }]
def A33_r11 : List AO := [
  { dst := (some 46), op := .bin .lss (.t 45) (.t 44) }]
def A33_r12 : List AO := [
  { dst := (some 47), op := .mov (.t 45) },
  { dst := (some 48), op := .iaddr 1 (.t 43) (.t 45) },
  { dst := (some 49), op := .load false 1 (.t 48) },
  { dst := (some 16), op := .mov (.t 47) },
  { dst := (some 17), op := .mov (.t 49) }]
def A33_r13 : List AO := [
  { dst := (some 50), op := .mov (.t 14) },
  { dst := (some 51), op := .mov (.t 16) },
  { dst := (some 52), op := .bin .shr (.t 50) (.t 51) },
  { dst := (some 53), op := .bin .and (.t 52) (.c (.int .i64 1)) },
  { dst := (some 54), op := .bin .eql (.t 53) (.c (.int .i64 1)) }]
def A33_r14 : List AO := [
  { dst := (some 55), op := .mov (.t 15) },
  { dst := (some 56), op := .mov (.t 17) },
  { dst := (some 57), op := .bslice true 1 1 [.int .i64 0] [(0, 1, .t 56)] },
  { dst := (some 58), op := .app 1 3 8 (.t 55) (.t 57) },
  { dst := (some 15), op := .mov (.t 58) }]
def A33_r15 : List AO := [
  { dst := (some 59), op := .bin .add (.t 45) (.c (.int .i64 1)) },
  { dst := (some 45), op := .mov (.t 59) }]
def A33_l0 : AC := .seq (.region A33_r11 none [1, 2, 3, 4, 12, 13, 14, 15, 39, 40, 43, 44, 45, 46] [4]) (.seq (.cond (.t 46) (.skip) (.exit 2)) (.seq (.block 3 (.seq (.region A33_r12 none [1, 2, 3, 4, 12, 13, 14, 15, 16, 17, 39, 40, 43, 44, 45] [4]) (.seq (.region A33_r13 none [1, 2, 3, 4, 12, 13, 14, 15, 17, 39, 40, 43, 44, 45, 54] [4]) (.cond (.t 54) (.region A33_r14 none [1, 2, 3, 4, 12, 13, 14, 15, 39, 40, 43, 44, 45] [4]) (.skip))))) (.region A33_r15 none [1, 2, 3, 4, 12, 13, 14, 15, 39, 40, 43, 44, 45] [4])))
def A33_r16 : List AO := [
  { dst := (some 60), op := .load true 6 (.t 4) },
  { dst := (some 61), op := .mov (.t 1) },
  { dst := (some 62), op := .mov (.t 15) },
  { dst := (some 63), op := .call false true (.f 76) [.t 60, .t 61, .t 62] },
  { dst := (some 18), op := .new true [.int .i64 0, .lst (some true) true 0 []] },
  { dst := none, op := .store 2 (.t 18) (.t 63) }]
def A33_r17 : List AO := [
  { dst := (some 64), op := .faddr 0 (.t 18) },
  { dst := (some 65), op := .load false 1 (.t 64) },
  { dst := (some 66), op := .bin .lss (.t 65) (.c (.int .i64 0)) },
  { dst := (some 67), op := .mov (.t 66) },
  { dst := (some 68), op := .faddr 0 (.t 18), guard := some (67, false) },
  { dst := (some 69), op := .load false 1 (.t 68), guard := some (67, false) },
  { dst := (some 70), op := .mov (.t 3), guard := some (67, false) },
  { dst := (some 71), op := .bin .gtr (.t 69) (.t 70), guard := some (67, false) },
  { dst := (some 72), op := .pick (.t 67) (.c (.bool true)) (.t 71) }]
def A33_r18 : List AO := [
  { dst := (some 73), op := .mov (.t 15) },
  { dst := (some 74), op := .len (.t 73) },
  { dst := (some 75), op := .mov (.t 12) },
  { dst := (some 76), op := .len (.t 75) },
  { dst := (some 77), op := .call false true (.f 79) [.t 74, .t 76] },
  { dst := (some 78), op := .un .neg (.t 77) },
  { dst := (some 79), op := .faddr 0 (.t 18) },
  { dst := (some 80), op := .load false 1 (.t 79) },
  { dst := (some 81), op := .mov (.t 13) },
  { dst := (some 82), op := .call false true (.f 79) [.t 80, .t 81] },
  { dst := (some 83), op := .mov (.t 15) },
  { dst := (some 84), op := .mov (.t 12) },
  { dst := (some 85), op := .call false true (.f 80) [.t 83, .t 84] },
  { dst := (some 86), op := .bslice true 1 3 [.int .i64 0, .int .i64 0, .int .i64 0] [(0, 1, .t 78), (1, 1, .t 82), (2, 1, .t 85)] },
  { dst := (some 87), op := .call false true (.f 78) [.t 86] },
  { dst := (some 88), op := .bin .lss (.t 87) (.c (.int .i64 0)) }]
def A33_r19 : List AO := [
  { dst := (some 89), op := .mov (.t 15) },
  { dst := (some 90), op := .faddr 0 (.t 18) },
  { dst := (some 91), op := .load false 1 (.t 90) },
  { dst := (some 12), op := .mov (.t 89) },
  { dst := (some 13), op := .mov (.t 91) }]
def A33_r20 : List AO := [
  { dst := (some 92), op := .bin .add (.t 40) (.c (.int .i64 1)) },
  { dst := (some 40), op := .mov (.t 92) }]
def A33_l1 : AC := .seq (.region A33_r7 none [1, 2, 3, 4, 12, 13, 39, 40, 41] [4]) (.seq (.cond (.t 41) (.skip) (.exit 0)) (.seq (.block 1 (.seq (.region A33_r8 none [1, 2, 3, 4, 12, 13, 14, 39, 40] [4]) (.seq (.region A33_r9 none [1, 2, 3, 4, 12, 13, 14, 15, 39, 40] [4]) (.seq (.seq (.region A33_r10 none [1, 2, 3, 4, 12, 13, 14, 15, 39, 40, 43, 44, 45] [4]) (.block 2 (.loop [1, 2, 3, 4, 12, 13, 14, 15, 39, 40, 43, 44, 45] [4] A33_l0))) (.seq (.region A33_r16 none [1, 2, 3, 4, 12, 13, 15, 18, 39, 40] [4, 18]) (.seq (.seq (.region A33_r17 none [1, 2, 3, 4, 12, 13, 15, 18, 39, 40, 72] [4, 18]) (.cond (.t 72) (.exit 1) (.skip))) (.seq (.region A33_r18 (some [[], [0], [], [2], [1, 3], [4], [], [6], [], [7, 8, 4], [], [], [10, 11, 9], [5, 9, 12], [13, 12], [14]]) [1, 2, 3, 4, 12, 13, 15, 18, 39, 40, 88] [4, 18]) (.cond (.t 88) (.region A33_r19 (some [[], [], [1], [0, 0], [2, 3, 0, 1, 2, 3]]) [1, 2, 3, 4, 12, 13, 39, 40] [4]) (.skip))))))))) (.region A33_r20 none [1, 2, 3, 4, 12, 13, 39, 40] [4])))
def A33_r21 : List AO := [
  { dst := (some 93), op := .mov (.t 12) },
  { dst := (some 94), op := .mov (.t 12) },
  { dst := (some 95), op := .len (.t 94) },
  { dst := (some 96), op := .mov (.t 12) },
  { dst := (some 97), op := .len (.t 96) },
  { dst := (some 98), op := .slc 1 (.t 93) none (some (.t 95)) (some (.t 97)) },
  { dst := (some 8), op := .mov (.t 98) },
  { dst := (some 9), op := .mov (.c (.int .i64 0)) }]
def A33 : AF := { np := 4, res := [.tmp 8, .tmp 9], body := (.seq (.region A33_r0 none [1, 2, 3, 4] [4]) (.seq (.seq (.region A33_r1 (some [[], [], [1], [2, 2], [3], [4, 3, 3], [3, 5], [6, 5], [7], [8, 7, 7], [7, 9], [0, 10, 9], [11], [12], [12], [], [15, 13, 11, 0, 1, 2, 3, 4, 5, 6, 7, 8, 9, 10, 11, 12, 13, 15], [14, 16, 0, 1, 2, 3, 4, 5, 6, 7, 8, 9, 10, 11, 12, 13, 14, 15, 16]]) [1, 2, 3, 4, 11] [4]) (.seq (.region A33_r2 none [1, 2, 3, 4, 11, 35] [4]) (.cond (.t 35) (.seq (.region A33_r3 none [8, 9] []) (.ret)) (.skip)))) (.seq (.region A33_r4 none [1, 2, 3, 4, 12] [4]) (.seq (.region A33_r5 none [1, 2, 3, 4, 12, 13] [4]) (.seq (.seq (.region A33_r6 none [1, 2, 3, 4, 12, 13, 39, 40] [4]) (.block 0 (.loop [1, 2, 3, 4, 12, 13, 39, 40] [4] A33_l1))) (.seq (.region A33_r21 none [8, 9] []) (.ret))))))) }
/- bioscope.bioscoperef00.Turn -/
def A35_r0 : List AO := [
  { dst := (some 4), op := .mov (.c (.int .i64 0)) }]
def A35_r1 : List AO := [
  { dst := (some 6), op := .mov (.t 1) },
  { dst := (some 7), op := .bin .lss (.t 6) (.c (.int .i64 1)) }]
def A35_r2 : List AO := [
  { dst := (some 4), op := .mov (.c (.int .i64 0)) }]
def A35_r3 : List AO := [
  { dst := (some 8), op := .mov (.t 0) },
  { dst := (some 9), op := .mov (.t 1) },
  { dst := (some 10), op := .bin .rem (.t 8) (.t 9) },
  { dst := (some 5), op := .mov (.t 10) }]
def A35_r4 : List AO := [
  { dst := (some 11), op := .mov (.t 5) },
  { dst := (some 12), op := .bin .lss (.t 11) (.c (.int .i64 0)) }]
def A35_r5 : List AO := [
  { dst := (some 13), op := .mov (.t 5) },
  { dst := (some 14), op := .mov (.t 1) },
  { dst := (some 15), op := .bin .add (.t 13) (.t 14) },
  { dst := (some 5), op := .mov (.t 15) }]
def A35_r6 : List AO := [
  { dst := (some 16), op := .mov (.t 5) },
  { dst := (some 4), op := .mov (.t 16) }]
def A35 : AF := { np := 2, res := [.tmp 4], body := (.seq (.region A35_r0 none [0, 1] []) (.seq (.seq (.region A35_r1 none [0, 1, 7] []) (.cond (.t 7) (.seq (.region A35_r2 none [4] []) (.ret)) (.skip))) (.seq (.region A35_r3 none [1, 5] []) (.seq (.seq (.region A35_r4 none [1, 5, 12] []) (.cond (.t 12) (.region A35_r5 none [5] []) (.skip))) (.seq (.region A35_r6 none [4] []) (.ret)))))) }
/- bioscope.bioscopelaw05.sound -/
def A36_r0 : List AO := [
  { dst := (some 1), op := .box true (.t 0) },
  { dst := (some 2), op := .mov (.c (.bool false)) }]
def A36_r1 : List AO := [
  { dst := (some 7), op := .load true 6 (.t 1) },
  { dst := (some 8), op := .call false true (.f 16) [.t 7] },
  { dst := (some 9), op := .bin .eql (.t 8) (.c (.int .i64 0)) },
  { dst := (some 10), op := .mov (.t 9) },
  { dst := (some 11), op := .faddr 0 (.t 1), guard := some (10, true) },
  { dst := (some 12), op := .load false 1 (.t 11), guard := some (10, true) },
  { dst := (some 13), op := .len (.t 12), guard := some (10, true) },
  { dst := (some 14), op := .call false true (.f 46) [.t 13, .c (.int .i64 1), .c (.int .i64 4)], guard := some (10, true) },
  { dst := (some 15), op := .pick (.t 10) (.t 14) (.c (.bool false)) },
  { dst := (some 16), op := .mov (.t 15) },
  { dst := (some 17), op := .faddr 1 (.t 1), guard := some (16, true) },
  { dst := (some 18), op := .load false 1 (.t 17), guard := some (16, true) },
  { dst := (some 19), op := .call false true (.f 46) [.t 18, .c (.int .i64 0), .c (.int .i64 20)], guard := some (16, true) },
  { dst := (some 20), op := .pick (.t 16) (.t 19) (.c (.bool false)) },
  { dst := (some 21), op := .mov (.t 20) },
  { dst := (some 22), op := .faddr 2 (.t 1), guard := some (21, true) },
  { dst := (some 23), op := .load false 1 (.t 22), guard := some (21, true) },
  { dst := (some 24), op := .len (.t 23), guard := some (21, true) },
  { dst := (some 25), op := .bin .leq (.t 24) (.c (.int .i64 4)), guard := some (21, true) },
  { dst := (some 26), op := .pick (.t 21) (.t 25) (.c (.bool false)) },
  { dst := (some 27), op := .mov (.t 26) },
  { dst := (some 28), op := .faddr 4 (.t 1), guard := some (27, true) },
  { dst := (some 29), op := .load false 1 (.t 28), guard := some (27, true) },
  { dst := (some 30), op := .call false true (.f 46) [.t 29, .c (.int .i64 0), .c (.int .i64 1439)], guard := some (27, true) },
  { dst := (some 31), op := .pick (.t 27) (.t 30) (.c (.bool false)) },
  { dst := (some 32), op := .mov (.t 31) },
  { dst := (some 33), op := .faddr 5 (.t 1), guard := some (32, true) },
  { dst := (some 34), op := .load false 1 (.t 33), guard := some (32, true) },
  { dst := (some 35), op := .len (.t 34), guard := some (32, true) },
  { dst := (some 36), op := .bin .leq (.t 35) (.c (.int .i64 4)), guard := some (32, true) },
  { dst := (some 37), op := .pick (.t 32) (.t 36) (.c (.bool false)) },
  { dst := (some 38), op := .mov (.t 37) },
  { dst := (some 39), op := .faddr 3 (.t 1), guard := some (38, true) },
  { dst := (some 40), op := .load false 1 (.t 39), guard := some (38, true) },
  { dst := (some 41), op := .call false true (.f 46) [.t 40, .c (.int .i64 0), .c (.int .i64 65535)], guard := some (38, true) },
  { dst := (some 42), op := .pick (.t 38) (.t 41) (.c (.bool false)) },
  { dst := (some 3), op := .mov (.t 42) }]
def A36_r2 : List AO := [
  { dst := (some 4), op := .mov (.c (.int .i64 0)) }]
def A36_r3 : List AO := [
  { dst := (some 43), op := .mov (.t 3) },
  { dst := (some 44), op := .mov (.t 43) },
  { dst := (some 45), op := .mov (.t 4), guard := some (44, true) },
  { dst := (some 46), op := .faddr 0 (.t 1), guard := some (44, true) },
  { dst := (some 47), op := .load false 1 (.t 46), guard := some (44, true) },
  { dst := (some 48), op := .len (.t 47), guard := some (44, true) },
  { dst := (some 49), op := .bin .lss (.t 45) (.t 48), guard := some (44, true) },
  { dst := (some 50), op := .pick (.t 44) (.t 49) (.c (.bool false)) }]
def A36_r5 : List AO := [
  { dst := (some 53), op := .faddr 0 (.t 1) },
  { dst := (some 54), op := .load false 1 (.t 53) },
  { dst := (some 55), op := .mov (.t 4) },
  { dst := (some 56), op := .iaddr 3 (.t 54) (.t 55) },
  { dst := (some 57), op := .load true 3 (.t 56) },
  { dst := (some 5), op := .new true [.int .i64 0, .int .i64 0, .int .i64 0] },
  { dst := none, op := .store 3 (.t 5) (.t 57) }]
def A36_r6 : List AO := [
  { dst := (some 58), op := .faddr 0 (.t 5) },
  { dst := (some 59), op := .load false 1 (.t 58) },
  { dst := (some 60), op := .call false true (.f 46) [.t 59, .c (.int .i64 1), .c (.int .i64 30)] },
  { dst := (some 61), op := .mov (.t 60) },
  { dst := (some 62), op := .faddr 1 (.t 5), guard := some (61, true) },
  { dst := (some 63), op := .load false 1 (.t 62), guard := some (61, true) },
  { dst := (some 64), op := .call false true (.f 46) [.t 63, .c (.int .i64 0), .c (.int .i64 1000)], guard := some (61, true) },
  { dst := (some 65), op := .pick (.t 61) (.t 64) (.c (.bool false)) },
  { dst := (some 66), op := .mov (.t 65) },
  { dst := (some 67), op := .faddr 2 (.t 5), guard := some (66, true) },
  { dst := (some 68), op := .load false 1 (.t 67), guard := some (66, true) },
  { dst := (some 69), op := .call false true (.f 46) [.t 68, .c (.int .i64 0), .c (.int .i64 30)], guard := some (66, true) },
  { dst := (some 70), op := .pick (.t 66) (.t 69) (.c (.bool false)) },
  { dst := (some 3), op := .mov (.t 70) }]
def A36_r4 : List AO := [
  { dst := (some 51), op := .mov (.t 4) },
  { dst := (some 52), op := .bin .add (.t 51) (.c (.int .i64 1)) },
  { dst := (some 4), op := .mov (.t 52) }]
def A36_l0 : AC := .seq (.seq (.region A36_r3 none [1, 3, 4, 50] [1]) (.cond (.t 50) (.skip) (.exit 0))) (.seq (.block 1 (.seq (.region A36_r5 none [1, 4, 5] [1, 5]) (.region A36_r6 none [1, 3, 4] [1]))) (.region A36_r4 none [1, 3, 4] [1]))
def A36_r7 : List AO := [
  { dst := (some 6), op := .mov (.c (.int .i64 0)) }]
def A36_r8 : List AO := [
  { dst := (some 71), op := .mov (.t 3) },
  { dst := (some 72), op := .mov (.t 71) },
  { dst := (some 73), op := .mov (.t 6), guard := some (72, true) },
  { dst := (some 74), op := .faddr 2 (.t 1), guard := some (72, true) },
  { dst := (some 75), op := .load false 1 (.t 74), guard := some (72, true) },
  { dst := (some 76), op := .len (.t 75), guard := some (72, true) },
  { dst := (some 77), op := .bin .lss (.t 73) (.t 76), guard := some (72, true) },
  { dst := (some 78), op := .pick (.t 72) (.t 77) (.c (.bool false)) }]
def A36_r10 : List AO := [
  { dst := (some 81), op := .faddr 2 (.t 1) },
  { dst := (some 82), op := .load false 1 (.t 81) },
  { dst := (some 83), op := .mov (.t 6) },
  { dst := (some 84), op := .iaddr 2 (.t 82) (.t 83) },
  { dst := (some 85), op := .load true 2 (.t 84) },
  { dst := (some 86), op := .call false true (.f 65) [.t 85, .c (.int .i64 0), .c (.int .i64 999)] },
  { dst := (some 3), op := .mov (.t 86) }]
def A36_r9 : List AO := [
  { dst := (some 79), op := .mov (.t 6) },
  { dst := (some 80), op := .bin .add (.t 79) (.c (.int .i64 1)) },
  { dst := (some 6), op := .mov (.t 80) }]
def A36_l1 : AC := .seq (.seq (.region A36_r8 none [1, 3, 6, 78] [1]) (.cond (.t 78) (.skip) (.exit 2))) (.seq (.block 3 (.region A36_r10 none [1, 3, 6] [1])) (.region A36_r9 none [1, 3, 6] [1]))
def A36_r11 : List AO := [
  { dst := (some 87), op := .mov (.t 3) },
  { dst := (some 88), op := .mov (.t 87) },
  { dst := (some 89), op := .load true 6 (.t 1), guard := some (88, true) },
  { dst := (some 90), op := .faddr 5 (.t 1), guard := some (88, true) },
  { dst := (some 91), op := .load false 1 (.t 90), guard := some (88, true) },
  { dst := (some 92), op := .call false true (.f 82) [.t 89, .t 91], guard := some (88, true) },
  { dst := (some 93), op := .pick (.t 88) (.t 92) (.c (.bool false)) },
  { dst := (some 2), op := .mov (.t 93) }]
def A36 : AF := { np := 1, res := [.tmp 2], body := (.seq (.region A36_r0 none [1] [1]) (.seq (.region A36_r1 none [1, 3] [1]) (.seq (.seq (.region A36_r2 none [1, 3, 4] [1]) (.block 0 (.loop [1, 3, 4] [1] A36_l0))) (.seq (.seq (.region A36_r7 none [1, 3, 6] [1]) (.block 2 (.loop [1, 3, 6] [1] A36_l1))) (.seq (.region A36_r11 none [2] []) (.ret)))))) }
/- bioscope.bioscopelaw05.marks -/
def A37_r0 : List AO := [
  { dst := (some 2), op := .box true (.t 0) },
  { dst := (some 4), op := .mov (.c (.lst (some true) true 0 [])) },
  { dst := (some 5), op := .mov (.c (.lst (some true) true 0 [])) }]
def A37_r1 : List AO := [
  { dst := (some 6), op := .mov (.c (.int .i64 1059)) }]
def A37_r2 : List AO := [
  { dst := (some 12), op := .mov (.t 6) },
  { dst := (some 13), op := .mks true 1 8 [.int .i64 0] (.t 12) (.t 12) },
  { dst := (some 14), op := .mov (.t 6) },
  { dst := (some 15), op := .mks true 1 8 [.int .i64 0] (.t 14) (.t 14) },
  { dst := (some 7), op := .mov (.t 13) },
  { dst := (some 8), op := .mov (.t 15) }]
def A37_r3 : List AO := [
  { dst := (some 9), op := .mov (.c (.int .i64 0)) }]
def A37_r4 : List AO := [
  { dst := (some 16), op := .mov (.t 9) },
  { dst := (some 17), op := .mov (.t 1) },
  { dst := (some 18), op := .len (.t 17) },
  { dst := (some 19), op := .bin .lss (.t 16) (.t 18) }]
def A37_r6 : List AO := [
  { dst := (some 22), op := .faddr 0 (.t 2) },
  { dst := (some 23), op := .load false 1 (.t 22) },
  { dst := (some 24), op := .mov (.t 1) },
  { dst := (some 25), op := .mov (.t 9) },
  { dst := (some 26), op := .iaddr 2 (.t 24) (.t 25) },
  { dst := (some 27), op := .faddr 0 (.t 26) },
  { dst := (some 28), op := .load false 1 (.t 27) },
  { dst := (some 29), op := .iaddr 3 (.t 23) (.t 28) },
  { dst := (some 30), op := .faddr 0 (.t 29) },
  { dst := (some 31), op := .load false 1 (.t 30) },
  { dst := (some 10), op := .mov (.t 31) }]
def A37_r7 : List AO := [
  { dst := (some 32), op := .mov (.t 1) },
  { dst := (some 33), op := .mov (.t 9) },
  { dst := (some 34), op := .iaddr 2 (.t 32) (.t 33) },
  { dst := (some 35), op := .faddr 1 (.t 34) },
  { dst := (some 36), op := .load false 1 (.t 35) },
  { dst := (some 11), op := .mov (.t 36) }]
def A37_r8 : List AO := [
  { dst := (some 37), op := .mov (.t 11) },
  { dst := (some 38), op := .mov (.t 1) },
  { dst := (some 39), op := .mov (.t 9) },
  { dst := (some 40), op := .iaddr 2 (.t 38) (.t 39) },
  { dst := (some 41), op := .faddr 1 (.t 40) },
  { dst := (some 42), op := .load false 1 (.t 41) },
  { dst := (some 43), op := .mov (.t 10) },
  { dst := (some 44), op := .bin .add (.t 42) (.t 43) },
  { dst := (some 45), op := .faddr 1 (.t 2) },
  { dst := (some 46), op := .load false 1 (.t 45) },
  { dst := (some 47), op := .bin .add (.t 44) (.t 46) },
  { dst := (some 48), op := .bin .lss (.t 37) (.t 47) }]
def A37_r10 : List AO := [
  { dst := (some 51), op := .mov (.t 11) },
  { dst := (some 52), op := .mov (.t 1) },
  { dst := (some 53), op := .mov (.t 9) },
  { dst := (some 54), op := .iaddr 2 (.t 52) (.t 53) },
  { dst := (some 55), op := .faddr 1 (.t 54) },
  { dst := (some 56), op := .load false 1 (.t 55) },
  { dst := (some 57), op := .mov (.t 10) },
  { dst := (some 58), op := .bin .add (.t 56) (.t 57) },
  { dst := (some 59), op := .bin .lss (.t 51) (.t 58) }]
def A37_r11 : List AO := [
  { dst := (some 60), op := .mov (.t 7) },
  { dst := (some 61), op := .mov (.t 11) },
  { dst := (some 62), op := .iaddr 1 (.t 60) (.t 61) },
  { dst := (some 63), op := .load false 1 (.t 62) },
  { dst := (some 64), op := .bin .add (.t 63) (.c (.int .i64 1)) },
  { dst := (some 65), op := .iaddr 1 (.t 60) (.t 61) },
  { dst := none, op := .store 1 (.t 65) (.t 64) }]
def A37_r12 : List AO := [
  { dst := (some 66), op := .mov (.t 8) },
  { dst := (some 67), op := .mov (.t 11) },
  { dst := (some 68), op := .iaddr 1 (.t 66) (.t 67) },
  { dst := (some 69), op := .load false 1 (.t 68) },
  { dst := (some 70), op := .bin .add (.t 69) (.c (.int .i64 1)) },
  { dst := (some 71), op := .iaddr 1 (.t 66) (.t 67) },
  { dst := none, op := .store 1 (.t 71) (.t 70) }]
def A37_r9 : List AO := [
  { dst := (some 49), op := .mov (.t 11) },
  { dst := (some 50), op := .bin .add (.t 49) (.c (.int .i64 1)) },
  { dst := (some 11), op := .mov (.t 50) }]
def A37_l0 : AC := .seq (.seq (.region A37_r8 (some [[], [], [], [1, 2], [3], [4], [], [5, 6], [], [8], [7, 9], [0, 10]]) [1, 2, 7, 8, 9, 10, 11, 48] [2]) (.cond (.t 48) (.skip) (.exit 2))) (.seq (.block 3 (.seq (.seq (.region A37_r10 none [1, 2, 7, 8, 9, 10, 11, 59] [2]) (.cond (.t 59) (.region A37_r11 none [1, 2, 7, 8, 9, 10, 11] [2]) (.skip))) (.region A37_r12 none [1, 2, 7, 8, 9, 10, 11] [2]))) (.region A37_r9 none [1, 2, 7, 8, 9, 10, 11] [2]))
def A37_r5 : List AO := [
  { dst := (some 20), op := .mov (.t 9) },
  { dst := (some 21), op := .bin .add (.t 20) (.c (.int .i64 1)) },
  { dst := (some 9), op := .mov (.t 21) }]
def A37_l1 : AC := .seq (.seq (.region A37_r4 none [1, 2, 7, 8, 9, 19] [2]) (.cond (.t 19) (.skip) (.exit 0))) (.seq (.block 1 (.seq (.region A37_r6 (some [[], [0], [], [], [2, 3], [4], [5], [1, 6], [7], [8], [9, 0, 1, 2, 3, 4, 5, 6, 7, 8, 9]]) [1, 2, 7, 8, 9, 10] [2]) (.seq (.region A37_r7 none [1, 2, 7, 8, 9, 10, 11] [2]) (.block 2 (.loop [1, 2, 7, 8, 9, 10, 11] [2] A37_l0))))) (.region A37_r5 none [1, 2, 7, 8, 9] [2]))
def A37_r13 : List AO := [
  { dst := (some 72), op := .mov (.t 7) },
  { dst := (some 73), op := .mov (.t 8) },
  { dst := (some 4), op := .mov (.t 72) },
  { dst := (some 5), op := .mov (.t 73) }]
def A37 : AF := { np := 2, res := [.tmp 4, .tmp 5], body := (.seq (.region A37_r0 none [1, 2] [2]) (.seq (.region A37_r1 none [1, 2, 6] [2]) (.seq (.region A37_r2 (some [[], [0, 0], [], [2, 2], [1, 0, 1], [3, 4, 0, 1, 2, 3, 4]]) [1, 2, 7, 8] [2] [13, 15]) (.seq (.seq (.region A37_r3 none [1, 2, 7, 8, 9] [2]) (.block 0 (.loop [1, 2, 7, 8, 9] [2] A37_l1))) (.seq (.region A37_r13 none [4, 5] []) (.ret)))))) }
/- bioscope.bioscopelaw05.bars -/
def A39_r0 : List AO := [
  { dst := (some 2), op := .box true (.t 0) },
  { dst := (some 4), op := .mov (.c (.bool false)) }]
def A39_r1 : List AO := [
  { dst := (some 5), op := .mov (.c (.int .i64 0)) }]
def A39_r2 : List AO := [
  { dst := (some 6), op := .mov (.t 5) },
  { dst := (some 7), op := .faddr 2 (.t 2) },
  { dst := (some 8), op := .load false 1 (.t 7) },
  { dst := (some 9), op := .len (.t 8) },
  { dst := (some 10), op := .bin .lss (.t 6) (.t 9) }]
def A39_r4 : List AO := [
  { dst := (some 13), op := .mov (.t 1) },
  { dst := (some 14), op := .faddr 2 (.t 2) },
  { dst := (some 15), op := .load false 1 (.t 14) },
  { dst := (some 16), op := .mov (.t 5) },
  { dst := (some 17), op := .iaddr 2 (.t 15) (.t 16) },
  { dst := (some 18), op := .faddr 0 (.t 17) },
  { dst := (some 19), op := .load false 1 (.t 18) },
  { dst := (some 20), op := .bin .geq (.t 13) (.t 19) },
  { dst := (some 21), op := .mov (.t 20) },
  { dst := (some 22), op := .mov (.t 1), guard := some (21, true) },
  { dst := (some 23), op := .faddr 2 (.t 2), guard := some (21, true) },
  { dst := (some 24), op := .load false 1 (.t 23), guard := some (21, true) },
  { dst := (some 25), op := .mov (.t 5), guard := some (21, true) },
  { dst := (some 26), op := .iaddr 2 (.t 24) (.t 25), guard := some (21, true) },
  { dst := (some 27), op := .faddr 1 (.t 26), guard := some (21, true) },
  { dst := (some 28), op := .load false 1 (.t 27), guard := some (21, true) },
  { dst := (some 29), op := .bin .leq (.t 22) (.t 28), guard := some (21, true) },
  { dst := (some 30), op := .pick (.t 21) (.t 29) (.c (.bool false)) }]
def A39_r5 : List AO := [
  { dst := (some 4), op := .mov (.c (.bool true)) }]
def A39_r3 : List AO := [
  { dst := (some 11), op := .mov (.t 5) },
  { dst := (some 12), op := .bin .add (.t 11) (.c (.int .i64 1)) },
  { dst := (some 5), op := .mov (.t 12) }]
def A39_l0 : AC := .seq (.seq (.region A39_r2 none [1, 2, 5, 10] [2]) (.cond (.t 10) (.skip) (.exit 0))) (.seq (.block 1 (.seq (.region A39_r4 none [1, 2, 5, 30] [2]) (.cond (.t 30) (.seq (.region A39_r5 none [4] []) (.ret)) (.skip)))) (.region A39_r3 none [1, 2, 5] [2]))
def A39_r6 : List AO := [
  { dst := (some 4), op := .mov (.c (.bool false)) }]
def A39 : AF := { np := 2, res := [.tmp 4], body := (.seq (.region A39_r0 none [1, 2] [2]) (.seq (.seq (.region A39_r1 none [1, 2, 5] [2]) (.block 0 (.loop [1, 2, 5] [2] A39_l0))) (.seq (.region A39_r6 none [4] []) (.ret)))) }
/- bioscope.bioscoperef00.S -/
def A40_r0 : List AO := [
  { dst := (some 4), op := .new true [.int .i64 0, .int .i64 0] }]
def A40_r1 : List AO := [
  { dst := (some 5), op := .mov (.t 0) },
  { dst := (some 6), op := .mov (.t 1) },
  { dst := (some 7), op := .build [.int .i64 0, .int .i64 0] [(0, 1, .t 5), (1, 1, .t 6)] },
  { dst := none, op := .store 2 (.t 4) (.t 7) }]
def A40 : AF := { np := 2, res := [.cell 4 true 2], body := (.seq (.region A40_r0 none [0, 1, 4] [4]) (.seq (.region A40_r1 none [4] [4]) (.ret))) }
/- bioscope.bioscoperef00.Rises -/
def A42_r0 : List AO := [
  { dst := (some 4), op := .mov (.c (.bool false)) }]
def A42_r1 : List AO := [
  { dst := (some 5), op := .mov (.c (.int .i64 (-1))) }]
def A42_r2 : List AO := [
  { dst := (some 6), op := .mov (.c (.int .i64 0)) }]
def A42_r3 : List AO := [
  { dst := (some 7), op := .mov (.t 6) },
  { dst := (some 8), op := .mov (.t 0) },
  { dst := (some 9), op := .len (.t 8) },
  { dst := (some 10), op := .bin .lss (.t 7) (.t 9) }]
def A42_r5 : List AO := [
  { dst := (some 13), op := .mov (.t 0) },
  { dst := (some 14), op := .mov (.t 6) },
  { dst := (some 15), op := .iaddr 1 (.t 13) (.t 14) },
  { dst := (some 16), op := .load false 1 (.t 15) },
  { dst := (some 17), op := .mov (.t 5) },
  { dst := (some 18), op := .bin .add (.t 17) (.c (.int .i64 1)) },
  { dst := (some 19), op := .mov (.t 1) },
  { dst := (some 20), op := .bin .sub (.t 19) (.c (.int .i64 1)) },
  { dst := (some 21), op := .call false true (.f 46) [.t 16, .t 18, .t 20] },
  { dst := (some 22), op := .un .not (.t 21) }]
def A42_r6 : List AO := [
  { dst := (some 4), op := .mov (.c (.bool false)) }]
def A42_r7 : List AO := [
  { dst := (some 23), op := .mov (.t 0) },
  { dst := (some 24), op := .mov (.t 6) },
  { dst := (some 25), op := .iaddr 1 (.t 23) (.t 24) },
  { dst := (some 26), op := .load false 1 (.t 25) },
  { dst := (some 5), op := .mov (.t 26) }]
def A42_r4 : List AO := [
  { dst := (some 11), op := .mov (.t 6) },
  { dst := (some 12), op := .bin .add (.t 11) (.c (.int .i64 1)) },
  { dst := (some 6), op := .mov (.t 12) }]
def A42_l0 : AC := .seq (.seq (.region A42_r3 none [0, 1, 5, 6, 10] []) (.cond (.t 10) (.skip) (.exit 0))) (.seq (.block 1 (.seq (.seq (.region A42_r5 none [0, 1, 6, 22] []) (.cond (.t 22) (.seq (.region A42_r6 none [4] []) (.ret)) (.skip))) (.region A42_r7 none [0, 1, 5, 6] []))) (.region A42_r4 none [0, 1, 5, 6] []))
def A42_r8 : List AO := [
  { dst := (some 4), op := .mov (.c (.bool true)) }]
def A42 : AF := { np := 2, res := [.tmp 4], body := (.seq (.region A42_r0 none [0, 1] []) (.seq (.region A42_r1 none [0, 1, 5] []) (.seq (.seq (.region A42_r2 none [0, 1, 5, 6] []) (.block 0 (.loop [0, 1, 5, 6] [] A42_l0))) (.seq (.region A42_r8 none [4] []) (.ret))))) }
/- bioscope.bioscopelaw05.drawn -/
def A43_r0 : List AO := [
  { dst := (some 4), op := .box true (.t 0) },
  { dst := (some 8), op := .mov (.c (.lst (some true) true 0 [])) },
  { dst := (some 9), op := .mov (.c (.bool false)) }]
def A43_r1 : List AO := [
  { dst := (some 10), op := .mov (.c (.lst (some true) true 0 [])) }]
def A43_r2 : List AO := [
  { dst := (some 11), op := .mov (.c (.int .i64 0)) }]
def A43_r3 : List AO := [
  { dst := (some 23), op := .mov (.t 11) },
  { dst := (some 24), op := .mov (.t 2) },
  { dst := (some 25), op := .len (.t 24) },
  { dst := (some 26), op := .bin .lss (.t 23) (.t 25) }]
def A43_r5 : List AO := [
  { dst := (some 30), op := .load true 6 (.t 4) },
  { dst := (some 31), op := .bslice true 2 0 [] [] },
  { dst := (some 32), op := .faddr 5 (.t 4) },
  { dst := (some 33), op := .load false 1 (.t 32) },
  { dst := (some 34), op := .app 2 55 16 (.t 31) (.t 33) },
  { dst := (some 35), op := .mov (.t 10) },
  { dst := (some 36), op := .app 2 55 16 (.t 34) (.t 35) },
  { dst := (some 37), op := .call false true (.f 37) [.t 30, .t 36] },
  { dst := (some 29), op := .mov (.t 37) },
  { dst := (some 38), op := .ext 0 (.t 29) },
  { dst := (some 39), op := .ext 1 (.t 29) },
  { dst := (some 12), op := .mov (.t 38) },
  { dst := (some 13), op := .mov (.t 39) }]
def A43_r6 : List AO := [
  { dst := (some 40), op := .load true 6 (.t 4) },
  { dst := (some 41), op := .mov (.t 2) },
  { dst := (some 42), op := .mov (.t 11) },
  { dst := (some 43), op := .iaddr 1 (.t 41) (.t 42) },
  { dst := (some 44), op := .load false 1 (.t 43) },
  { dst := (some 45), op := .call false true (.f 39) [.t 40, .t 44] },
  { dst := (some 46), op := .mov (.t 45) },
  { dst := (some 47), op := .mov (.t 12), guard := some (46, false) },
  { dst := (some 48), op := .mov (.t 2), guard := some (46, false) },
  { dst := (some 49), op := .mov (.t 11), guard := some (46, false) },
  { dst := (some 50), op := .iaddr 1 (.t 48) (.t 49), guard := some (46, false) },
  { dst := (some 51), op := .load false 1 (.t 50), guard := some (46, false) },
  { dst := (some 52), op := .iaddr 1 (.t 47) (.t 51), guard := some (46, false) },
  { dst := (some 53), op := .load false 1 (.t 52), guard := some (46, false) },
  { dst := (some 54), op := .bin .gtr (.t 53) (.c (.int .i64 0)), guard := some (46, false) },
  { dst := (some 55), op := .pick (.t 46) (.c (.bool true)) (.t 54) }]
def A43_r7 : List AO := [
  { dst := (some 14), op := .mov (.c (.bool false)) }]
def A43_r8 : List AO := [
  { dst := (some 15), op := .mov (.c (.int .i64 0)) }]
def A43_r9 : List AO := [
  { dst := (some 56), op := .mov (.t 15) },
  { dst := (some 57), op := .bin .lss (.t 56) (.c (.int .i64 6)) },
  { dst := (some 58), op := .mov (.t 57) },
  { dst := (some 59), op := .mov (.t 14), guard := some (58, true) },
  { dst := (some 60), op := .un .not (.t 59), guard := some (58, true) },
  { dst := (some 61), op := .pick (.t 58) (.t 60) (.c (.bool false)) }]
def A43_r11 : List AO := [
  { dst := (some 64), op := .mov (.t 3) },
  { dst := (some 65), op := .mov (.t 11) },
  { dst := (some 66), op := .bin .mul (.c (.int .i64 3)) (.t 65) },
  { dst := (some 67), op := .mov (.t 15) },
  { dst := (some 68), op := .bin .add (.t 66) (.t 67) },
  { dst := (some 69), op := .call false true (.f 84) [.t 64, .t 68] },
  { dst := (some 70), op := .faddr 0 (.t 4) },
  { dst := (some 71), op := .load false 1 (.t 70) },
  { dst := (some 72), op := .len (.t 71) },
  { dst := (some 73), op := .call false true (.f 35) [.t 69, .t 72] },
  { dst := (some 16), op := .mov (.t 73) }]
def A43_r12 : List AO := [
  { dst := (some 74), op := .mov (.t 16) },
  { dst := (some 75), op := .mov (.t 2) },
  { dst := (some 76), op := .mov (.t 11) },
  { dst := (some 77), op := .iaddr 1 (.t 75) (.t 76) },
  { dst := (some 78), op := .load false 1 (.t 77) },
  { dst := (some 79), op := .mov (.t 3) },
  { dst := (some 80), op := .mov (.t 11) },
  { dst := (some 81), op := .bin .mul (.c (.int .i64 3)) (.t 80) },
  { dst := (some 82), op := .mov (.t 15) },
  { dst := (some 83), op := .bin .add (.t 81) (.t 82) },
  { dst := (some 84), op := .bin .add (.t 83) (.c (.int .i64 1)) },
  { dst := (some 85), op := .call false true (.f 84) [.t 79, .t 84] },
  { dst := (some 86), op := .faddr 0 (.t 4) },
  { dst := (some 87), op := .load false 1 (.t 86) },
  { dst := (some 88), op := .mov (.t 16) },
  { dst := (some 89), op := .iaddr 3 (.t 87) (.t 88) },
  { dst := (some 90), op := .faddr 0 (.t 89) },
  { dst := (some 91), op := .load false 1 (.t 90) },
  { dst := (some 92), op := .call false true (.f 35) [.t 85, .t 91] },
  { dst := (some 93), op := .bin .sub (.t 78) (.t 92) },
  { dst := (some 94), op := .mm true (.c (.int .i64 0)) [.t 93] },
  { dst := (some 95), op := .call false true (.f 50) [.t 74, .t 94] },
  { dst := (some 17), op := .new true [.int .i64 0, .int .i64 0] },
  { dst := none, op := .store 2 (.t 17) (.t 95) }]
def A43_r13 : List AO := [
  { dst := (some 96), op := .bslice true 2 0 [] [] },
  { dst := (some 97), op := .mov (.t 10) },
  { dst := (some 98), op := .app 2 55 16 (.t 96) (.t 97) },
  { dst := (some 99), op := .load true 2 (.t 17) },
  { dst := (some 100), op := .bslice true 2 1 [.int .i64 0, .int .i64 0] [(0, 2, .t 99)] },
  { dst := (some 101), op := .app 2 55 16 (.t 98) (.t 100) },
  { dst := (some 18), op := .mov (.t 101) }]
def A43_r14 : List AO := [
  { dst := (some 102), op := .load true 6 (.t 4) },
  { dst := (some 103), op := .mov (.t 1) },
  { dst := (some 104), op := .mov (.t 18) },
  { dst := (some 105), op := .call false true (.f 44) [.t 102, .t 103, .t 104] }]
def A43_r15 : List AO := [
  { dst := (some 106), op := .mov (.t 18) },
  { dst := (some 10), op := .mov (.t 106) },
  { dst := (some 14), op := .mov (.c (.bool true)) }]
def A43_r10 : List AO := [
  { dst := (some 62), op := .mov (.t 15) },
  { dst := (some 63), op := .bin .add (.t 62) (.c (.int .i64 1)) },
  { dst := (some 15), op := .mov (.t 63) }]
def A43_l0 : AC := .seq (.seq (.region A43_r9 none [1, 2, 3, 4, 10, 11, 14, 15, 61] [4]) (.cond (.t 61) (.skip) (.exit 2))) (.seq (.block 3 (.seq (.region A43_r11 (some [[], [], [1], [], [2, 3], [0, 4], [], [6], [7], [5, 8, 5], [9, 9, 0, 1, 2, 3, 4, 5, 6, 7, 8, 9]]) [1, 2, 3, 4, 10, 11, 14, 15, 16] [4]) (.seq (.region A43_r12 (some [[], [], [], [1, 2], [3], [], [], [6], [], [7, 8], [9], [5, 10], [], [12], [], [13, 14], [15], [16], [11, 17, 11], [4, 18], [19], [0, 20, 18], [], [22, 21, 21, 0, 1, 2, 3, 4, 5, 6, 7, 8, 9, 10, 11, 12, 13, 14, 15, 16, 17, 18, 19, 20, 21, 22]]) [1, 2, 3, 4, 10, 11, 14, 15, 17] [4, 17]) (.seq (.region A43_r13 (some [[], [], [0, 1], [], [3], [2, 4, 2], [5, 5, 0, 1, 2, 3, 4, 5]]) [1, 2, 3, 4, 10, 11, 14, 15, 18] [4]) (.seq (.region A43_r14 none [1, 2, 3, 4, 10, 11, 14, 15, 18, 105] [4]) (.cond (.t 105) (.region A43_r15 none [1, 2, 3, 4, 10, 11, 14, 15] [4]) (.skip))))))) (.region A43_r10 none [1, 2, 3, 4, 10, 11, 14, 15] [4]))
def A43_r4 : List AO := [
  { dst := (some 27), op := .mov (.t 11) },
  { dst := (some 28), op := .bin .add (.t 27) (.c (.int .i64 1)) },
  { dst := (some 11), op := .mov (.t 28) }]
def A43_l1 : AC := .seq (.seq (.region A43_r3 none [1, 2, 3, 4, 10, 11, 26] [4]) (.cond (.t 26) (.skip) (.exit 0))) (.seq (.block 1 (.seq (.region A43_r5 (some [[], [], [], [2], [1, 3], [], [4, 5, 4], [0, 6, 6], [7], [8], [8], [9, 7, 0, 1, 2, 3, 4, 5, 6, 7, 8, 9], [10, 11, 0, 1, 2, 3, 4, 5, 6, 7, 8, 9, 10, 11]]) [1, 2, 3, 4, 10, 11, 12] [4]) (.seq (.seq (.region A43_r6 (some [[], [], [], [1, 2], [3], [0, 4], [5, 5], [6], [6], [6], [8, 9, 6], [10, 6], [7, 11, 6], [12, 6], [13, 6], [6, 14]]) [1, 2, 3, 4, 10, 11, 55] [4]) (.cond (.t 55) (.exit 1) (.skip))) (.seq (.region A43_r7 none [1, 2, 3, 4, 10, 11, 14] [4]) (.seq (.region A43_r8 none [1, 2, 3, 4, 10, 11, 14, 15] [4]) (.block 2 (.loop [1, 2, 3, 4, 10, 11, 14, 15] [4] A43_l0))))))) (.region A43_r4 none [1, 2, 3, 4, 10, 11] [4]))
def A43_r16 : List AO := [
  { dst := (some 108), op := .load true 6 (.t 4) },
  { dst := (some 109), op := .bslice true 2 0 [] [] },
  { dst := (some 110), op := .faddr 5 (.t 4) },
  { dst := (some 111), op := .load false 1 (.t 110) },
  { dst := (some 112), op := .app 2 55 16 (.t 109) (.t 111) },
  { dst := (some 113), op := .mov (.t 10) },
  { dst := (some 114), op := .app 2 55 16 (.t 112) (.t 113) },
  { dst := (some 115), op := .call false true (.f 37) [.t 108, .t 114] },
  { dst := (some 107), op := .mov (.t 115) },
  { dst := (some 116), op := .ext 0 (.t 107) },
  { dst := (some 117), op := .ext 1 (.t 107) },
  { dst := (some 19), op := .mov (.t 116) },
  { dst := (some 20), op := .mov (.t 117) }]
def A43_r17 : List AO := [
  { dst := (some 21), op := .mov (.c (.bool true)) }]
def A43_r18 : List AO := [
  { dst := (some 22), op := .mov (.c (.int .i64 0)) }]
def A43_r19 : List AO := [
  { dst := (some 118), op := .mov (.t 22) },
  { dst := (some 119), op := .mov (.t 2) },
  { dst := (some 120), op := .len (.t 119) },
  { dst := (some 121), op := .bin .lss (.t 118) (.t 120) }]
def A43_r21 : List AO := [
  { dst := (some 124), op := .mov (.t 21) },
  { dst := (some 125), op := .mov (.t 124) },
  { dst := (some 126), op := .mov (.t 19), guard := some (125, true) },
  { dst := (some 127), op := .mov (.t 2), guard := some (125, true) },
  { dst := (some 128), op := .mov (.t 22), guard := some (125, true) },
  { dst := (some 129), op := .iaddr 1 (.t 127) (.t 128), guard := some (125, true) },
  { dst := (some 130), op := .load false 1 (.t 129), guard := some (125, true) },
  { dst := (some 131), op := .iaddr 1 (.t 126) (.t 130), guard := some (125, true) },
  { dst := (some 132), op := .load false 1 (.t 131), guard := some (125, true) },
  { dst := (some 133), op := .bin .gtr (.t 132) (.c (.int .i64 0)), guard := some (125, true) },
  { dst := (some 134), op := .pick (.t 125) (.t 133) (.c (.bool false)) },
  { dst := (some 135), op := .mov (.t 134) },
  { dst := (some 136), op := .load true 6 (.t 4), guard := some (135, true) },
  { dst := (some 137), op := .mov (.t 2), guard := some (135, true) },
  { dst := (some 138), op := .mov (.t 22), guard := some (135, true) },
  { dst := (some 139), op := .iaddr 1 (.t 137) (.t 138), guard := some (135, true) },
  { dst := (some 140), op := .load false 1 (.t 139), guard := some (135, true) },
  { dst := (some 141), op := .call false true (.f 39) [.t 136, .t 140], guard := some (135, true) },
  { dst := (some 142), op := .un .not (.t 141), guard := some (135, true) },
  { dst := (some 143), op := .pick (.t 135) (.t 142) (.c (.bool false)) },
  { dst := (some 21), op := .mov (.t 143) }]
def A43_r20 : List AO := [
  { dst := (some 122), op := .mov (.t 22) },
  { dst := (some 123), op := .bin .add (.t 122) (.c (.int .i64 1)) },
  { dst := (some 22), op := .mov (.t 123) }]
def A43_l2 : AC := .seq (.seq (.region A43_r19 none [2, 4, 10, 19, 21, 22, 121] [4]) (.cond (.t 121) (.skip) (.exit 4))) (.seq (.block 5 (.region A43_r21 (some [[], [0], [1], [1], [1], [3, 4, 1], [5, 1], [2, 6, 1], [7, 1], [8, 1], [1, 9], [10, 1], [11], [11], [11], [13, 14, 11], [15, 11], [12, 16, 11, 11], [17, 11], [11, 18], [19, 17, 0, 1, 2, 3, 4, 5, 6, 7, 8, 9, 10, 11, 12, 13, 14, 15, 16, 17, 18, 19]]) [2, 4, 10, 19, 21, 22] [4])) (.region A43_r20 none [2, 4, 10, 19, 21, 22] [4]))
def A43_r22 : List AO := [
  { dst := (some 144), op := .mov (.t 10) },
  { dst := (some 145), op := .mov (.t 21) },
  { dst := (some 8), op := .mov (.t 144) },
  { dst := (some 9), op := .mov (.t 145) }]
def A43 : AF := { np := 4, res := [.tmp 8, .tmp 9], body := (.seq (.region A43_r0 none [1, 2, 3, 4] [4]) (.seq (.region A43_r1 none [1, 2, 3, 4, 10] [4]) (.seq (.seq (.region A43_r2 none [1, 2, 3, 4, 10, 11] [4]) (.block 0 (.loop [1, 2, 3, 4, 10, 11] [4] A43_l1))) (.seq (.region A43_r16 (some [[], [], [], [2], [1, 3], [], [4, 5, 4], [0, 6, 6], [7], [8], [8], [9, 7, 0, 1, 2, 3, 4, 5, 6, 7, 8, 9], [10, 11, 0, 1, 2, 3, 4, 5, 6, 7, 8, 9, 10, 11]]) [2, 4, 10, 19] [4]) (.seq (.region A43_r17 none [2, 4, 10, 19, 21] [4]) (.seq (.seq (.region A43_r18 none [2, 4, 10, 19, 21, 22] [4]) (.block 4 (.loop [2, 4, 10, 19, 21, 22] [4] A43_l2))) (.seq (.region A43_r22 none [8, 9] []) (.ret)))))))) }
/- bioscope.bioscopelaw05.plans -/
def A44_r0 : List AO := [
  { dst := (some 3), op := .box true (.t 0) },
  { dst := (some 6), op := .mov (.c (.bool false)) }]
def A44_r1 : List AO := [
  { dst := (some 8), op := .mov (.t 2) },
  { dst := (some 9), op := .len (.t 8) },
  { dst := (some 10), op := .bin .gtr (.t 9) (.c (.int .i64 8)) },
  { dst := (some 11), op := .mov (.t 10) },
  { dst := (some 12), op := .load true 6 (.t 3), guard := some (11, false) },
  { dst := (some 13), op := .mov (.t 2), guard := some (11, false) },
  { dst := (some 14), op := .call false true (.f 82) [.t 12, .t 13], guard := some (11, false) },
  { dst := (some 15), op := .un .not (.t 14), guard := some (11, false) },
  { dst := (some 16), op := .pick (.t 11) (.c (.bool true)) (.t 15) }]
def A44_r2 : List AO := [
  { dst := (some 6), op := .mov (.c (.bool false)) }]
def A44_r3 : List AO := [
  { dst := (some 7), op := .mov (.c (.int .i64 0)) }]
def A44_r4 : List AO := [
  { dst := (some 17), op := .mov (.t 7) },
  { dst := (some 18), op := .mov (.t 2) },
  { dst := (some 19), op := .len (.t 18) },
  { dst := (some 20), op := .bin .lss (.t 17) (.t 19) }]
def A44_r6 : List AO := [
  { dst := (some 23), op := .mov (.t 2) },
  { dst := (some 24), op := .mov (.t 7) },
  { dst := (some 25), op := .iaddr 2 (.t 23) (.t 24) },
  { dst := (some 26), op := .faddr 1 (.t 25) },
  { dst := (some 27), op := .load false 1 (.t 26) },
  { dst := (some 28), op := .mov (.t 1) },
  { dst := (some 29), op := .bin .sub (.t 27) (.t 28) },
  { dst := (some 30), op := .faddr 0 (.t 3) },
  { dst := (some 31), op := .load false 1 (.t 30) },
  { dst := (some 32), op := .mov (.t 2) },
  { dst := (some 33), op := .mov (.t 7) },
  { dst := (some 34), op := .iaddr 2 (.t 32) (.t 33) },
  { dst := (some 35), op := .faddr 0 (.t 34) },
  { dst := (some 36), op := .load false 1 (.t 35) },
  { dst := (some 37), op := .iaddr 3 (.t 31) (.t 36) },
  { dst := (some 38), op := .faddr 2 (.t 37) },
  { dst := (some 39), op := .load false 1 (.t 38) },
  { dst := (some 40), op := .bin .lss (.t 29) (.t 39) },
  { dst := (some 41), op := .mov (.t 40) },
  { dst := (some 42), op := .mov (.t 7), guard := some (41, false) },
  { dst := (some 43), op := .bin .gtr (.t 42) (.c (.int .i64 0)), guard := some (41, false) },
  { dst := (some 44), op := .mov (.t 43), guard := some (41, false) },
  { dst := (some 45), op := .mov (.t 2), guard := some (44, true) },
  { dst := (some 46), op := .mov (.t 7), guard := some (44, true) },
  { dst := (some 47), op := .iaddr 2 (.t 45) (.t 46), guard := some (44, true) },
  { dst := (some 48), op := .faddr 1 (.t 47), guard := some (44, true) },
  { dst := (some 49), op := .load false 1 (.t 48), guard := some (44, true) },
  { dst := (some 50), op := .mov (.t 2), guard := some (44, true) },
  { dst := (some 51), op := .mov (.t 7), guard := some (44, true) },
  { dst := (some 52), op := .bin .sub (.t 51) (.c (.int .i64 1)), guard := some (44, true) },
  { dst := (some 53), op := .iaddr 2 (.t 50) (.t 52), guard := some (44, true) },
  { dst := (some 54), op := .faddr 1 (.t 53), guard := some (44, true) },
  { dst := (some 55), op := .load false 1 (.t 54), guard := some (44, true) },
  { dst := (some 56), op := .bin .lss (.t 49) (.t 55), guard := some (44, true) },
  { dst := (some 57), op := .pick (.t 44) (.t 56) (.c (.bool false)), guard := some (41, false) },
  { dst := (some 58), op := .pick (.t 41) (.c (.bool true)) (.t 57) }]
def A44_r7 : List AO := [
  { dst := (some 6), op := .mov (.c (.bool false)) }]
def A44_r5 : List AO := [
  { dst := (some 21), op := .mov (.t 7) },
  { dst := (some 22), op := .bin .add (.t 21) (.c (.int .i64 1)) },
  { dst := (some 7), op := .mov (.t 22) }]
def A44_l0 : AC := .seq (.seq (.region A44_r4 none [1, 2, 3, 7, 20] [3]) (.cond (.t 20) (.skip) (.exit 0))) (.seq (.block 1 (.seq (.region A44_r6 (some [[], [], [0, 1], [2], [3], [], [4, 5], [], [7], [], [], [9, 10], [11], [12], [8, 13], [14], [15], [6, 16], [17], [18], [19, 18], [20, 18, 18], [21], [21], [22, 23, 21], [24, 21], [25, 21], [21], [21], [28, 21], [27, 29, 21], [30, 21], [31, 21], [26, 32, 21], [21, 33, 18], [18, 34]]) [1, 2, 3, 7, 58] [3]) (.cond (.t 58) (.seq (.region A44_r7 none [6] []) (.ret)) (.skip)))) (.region A44_r5 none [1, 2, 3, 7] [3]))
def A44_r8 : List AO := [
  { dst := (some 59), op := .load true 6 (.t 3) },
  { dst := (some 60), op := .bslice true 2 0 [] [] },
  { dst := (some 61), op := .faddr 5 (.t 3) },
  { dst := (some 62), op := .load false 1 (.t 61) },
  { dst := (some 63), op := .app 2 55 16 (.t 60) (.t 62) },
  { dst := (some 64), op := .mov (.t 2) },
  { dst := (some 65), op := .app 2 55 16 (.t 63) (.t 64) },
  { dst := (some 66), op := .call false true (.f 85) [.t 59, .t 65] },
  { dst := (some 6), op := .mov (.t 66) }]
def A44 : AF := { np := 3, res := [.tmp 6], body := (.seq (.region A44_r0 none [1, 2, 3] [3]) (.seq (.seq (.region A44_r1 none [1, 2, 3, 16] [3]) (.cond (.t 16) (.seq (.region A44_r2 none [6] []) (.ret)) (.skip))) (.seq (.seq (.region A44_r3 none [1, 2, 3, 7] [3]) (.block 0 (.loop [1, 2, 3, 7] [3] A44_l0))) (.seq (.region A44_r8 (some [[], [], [], [2], [1, 3], [], [4, 5, 4], [0, 6, 6], [7, 7, 0, 1, 2, 3, 4, 5, 6, 7]]) [6] []) (.ret))))) }
/- bioscope.bioscopelaw05.fees -/
def A45_r0 : List AO := [
  { dst := (some 2), op := .box true (.t 0) },
  { dst := (some 4), op := .mov (.c (.int .i64 0)) }]
def A45_r1 : List AO := [
  { dst := (some 5), op := .mov (.c (.int .i64 0)) }]
def A45_r2 : List AO := [
  { dst := (some 6), op := .mov (.c (.int .i64 0)) }]
def A45_r3 : List AO := [
  { dst := (some 7), op := .mov (.t 6) },
  { dst := (some 8), op := .mov (.t 1) },
  { dst := (some 9), op := .len (.t 8) },
  { dst := (some 10), op := .bin .lss (.t 7) (.t 9) }]
def A45_r5 : List AO := [
  { dst := (some 13), op := .mov (.t 5) },
  { dst := (some 14), op := .faddr 0 (.t 2) },
  { dst := (some 15), op := .load false 1 (.t 14) },
  { dst := (some 16), op := .mov (.t 1) },
  { dst := (some 17), op := .mov (.t 6) },
  { dst := (some 18), op := .iaddr 2 (.t 16) (.t 17) },
  { dst := (some 19), op := .faddr 0 (.t 18) },
  { dst := (some 20), op := .load false 1 (.t 19) },
  { dst := (some 21), op := .iaddr 3 (.t 15) (.t 20) },
  { dst := (some 22), op := .faddr 1 (.t 21) },
  { dst := (some 23), op := .load false 1 (.t 22) },
  { dst := (some 24), op := .bin .add (.t 13) (.t 23) },
  { dst := (some 5), op := .mov (.t 24) }]
def A45_r4 : List AO := [
  { dst := (some 11), op := .mov (.t 6) },
  { dst := (some 12), op := .bin .add (.t 11) (.c (.int .i64 1)) },
  { dst := (some 6), op := .mov (.t 12) }]
def A45_l0 : AC := .seq (.seq (.region A45_r3 none [1, 2, 5, 6, 10] [2]) (.cond (.t 10) (.skip) (.exit 0))) (.seq (.block 1 (.region A45_r5 (some [[], [], [1], [], [], [3, 4], [5], [6], [2, 7], [8], [9], [0, 10], [11, 0, 1, 2, 3, 4, 5, 6, 7, 8, 9, 10, 11]]) [1, 2, 5, 6] [2])) (.region A45_r4 none [1, 2, 5, 6] [2]))
def A45_r6 : List AO := [
  { dst := (some 25), op := .mov (.t 5) },
  { dst := (some 4), op := .mov (.t 25) }]
def A45 : AF := { np := 2, res := [.tmp 4], body := (.seq (.region A45_r0 none [1, 2] [2]) (.seq (.region A45_r1 none [1, 2, 5] [2]) (.seq (.seq (.region A45_r2 none [1, 2, 5, 6] [2]) (.block 0 (.loop [1, 2, 5, 6] [2] A45_l0))) (.seq (.region A45_r6 none [4] []) (.ret))))) }
/- bioscope.bioscoperef00.Amid -/
def A46_r0 : List AO := [
  { dst := (some 6), op := .mov (.c (.bool false)) }]
def A46_r1 : List AO := [
  { dst := (some 7), op := .mov (.t 0) },
  { dst := (some 8), op := .mov (.t 1) },
  { dst := (some 9), op := .bin .geq (.t 7) (.t 8) },
  { dst := (some 10), op := .mov (.t 9) },
  { dst := (some 11), op := .mov (.t 0), guard := some (10, true) },
  { dst := (some 12), op := .mov (.t 2), guard := some (10, true) },
  { dst := (some 13), op := .bin .leq (.t 11) (.t 12), guard := some (10, true) },
  { dst := (some 14), op := .pick (.t 10) (.t 13) (.c (.bool false)) },
  { dst := (some 6), op := .mov (.t 14) }]
def A46 : AF := { np := 3, res := [.tmp 6], body := (.seq (.region A46_r0 none [0, 1, 2] []) (.seq (.region A46_r1 none [6] []) (.ret))) }
/- bioscope.bioscopelaw05.town -/
def A49_r0 : List AO := [
  { dst := (some 0), op := .new true [.lst (some true) true 0 [], .int .i64 0, .lst (some true) true 0 [], .int .i64 0, .int .i64 0, .lst (some true) true 0 []] }]
def A49_r1 : List AO := [
  { dst := (some 1), op := .build [.int .i64 0, .int .i64 0, .int .i64 0] [(0, 1, .c (.int .i64 1)), (1, 1, .c (.int .i64 5)), (2, 1, .c (.int .i64 2))] },
  { dst := (some 2), op := .build [.int .i64 0, .int .i64 0, .int .i64 0] [(0, 1, .c (.int .i64 7)), (1, 1, .c (.int .i64 20)), (2, 1, .c (.int .i64 10))] },
  { dst := (some 3), op := .bslice false 3 2 [.int .i64 0, .int .i64 0, .int .i64 0, .int .i64 0, .int .i64 0, .int .i64 0] [(0, 3, .t 1), (3, 3, .t 2)] },
  { dst := (some 4), op := .call false true (.f 40) [.c (.int .i64 105), .c (.int .i64 106)] },
  { dst := (some 5), op := .bslice false 2 1 [.int .i64 0, .int .i64 0] [(0, 2, .t 4)] },
  { dst := (some 6), op := .call false true (.f 50) [.c (.int .i64 1), .c (.int .i64 100)] },
  { dst := (some 7), op := .bslice false 2 1 [.int .i64 0, .int .i64 0] [(0, 2, .t 6)] },
  { dst := (some 8), op := .build [.lst (some true) true 0 [], .int .i64 0, .lst (some true) true 0 [], .int .i64 0, .int .i64 0, .lst (some true) true 0 []] [(0, 1, .t 3), (1, 1, .c (.int .i64 1)), (2, 1, .t 5), (3, 1, .c (.int .i64 8)), (4, 1, .c (.int .i64 1350)), (5, 1, .t 7)] },
  { dst := none, op := .store 6 (.t 0) (.t 8) }]
def A49 : AF := { np := 0, res := [.cell 0 true 6], body := (.seq (.region A49_r0 none [0] [0]) (.seq (.region A49_r1 none [0] [0]) (.ret))) }
/- bioscope.bioscopelaw05.paper -/
def A50_r0 : List AO := [
  { dst := (some 4), op := .new true [.int .i64 0, .int .i64 0] }]
def A50_r1 : List AO := [
  { dst := (some 5), op := .mov (.t 0) },
  { dst := (some 6), op := .mov (.t 1) },
  { dst := (some 7), op := .build [.int .i64 0, .int .i64 0] [(0, 1, .t 5), (1, 1, .t 6)] },
  { dst := none, op := .store 2 (.t 4) (.t 7) }]
def A50 : AF := { np := 2, res := [.cell 4 true 2], body := (.seq (.region A50_r0 none [0, 1, 4] [4]) (.seq (.region A50_r1 none [4] [4]) (.ret))) }
/- bioscope.bioscopelaw05.dear -/
def A51_r0 : List AO := [
  { dst := (some 0), op := .new true [.lst (some true) true 0 [], .int .i64 0, .lst (some true) true 0 [], .int .i64 0, .int .i64 0, .lst (some true) true 0 []] }]
def A51_r1 : List AO := [
  { dst := (some 2), op := .call true true (.f 49) [] },
  { dst := (some 1), op := .new true [.lst (some true) true 0 [], .int .i64 0, .lst (some true) true 0 [], .int .i64 0, .int .i64 0, .lst (some true) true 0 []] },
  { dst := none, op := .store 6 (.t 1) (.t 2) }]
def A51_r2 : List AO := [
  { dst := (some 3), op := .faddr 0 (.t 1) },
  { dst := (some 4), op := .load false 1 (.t 3) },
  { dst := (some 5), op := .iaddr 3 (.t 4) (.c (.int .i64 0)) },
  { dst := (some 6), op := .faddr 1 (.t 5) },
  { dst := none, op := .store 1 (.t 6) (.c (.int .i64 8)) }]
def A51_r3 : List AO := [
  { dst := (some 7), op := .load true 6 (.t 1) },
  { dst := none, op := .store 6 (.t 0) (.t 7) }]
def A51 : AF := { np := 0, res := [.cell 0 true 6], body := (.seq (.region A51_r0 none [0] [0]) (.seq (.region A51_r1 none [0, 1] [0, 1]) (.seq (.region A51_r2 none [0, 1] [0, 1]) (.seq (.region A51_r3 none [0] [0]) (.ret))))) }
/- bioscope.bioscopelaw05.fair -/
def A52_r0 : List AO := [
  { dst := (some 0), op := .mov (.c (.lst (some true) true 0 [])) }]
def A52_r1 : List AO := [
  { dst := (some 1), op := .bslice true 1 4 [.int .i64 0, .int .i64 0, .int .i64 0, .int .i64 0] [(0, 1, .c (.int .i64 101)), (1, 1, .c (.int .i64 108)), (2, 1, .c (.int .i64 110)), (3, 1, .c (.int .i64 112))] },
  { dst := (some 0), op := .mov (.t 1) }]
def A52 : AF := { np := 0, res := [.tmp 0], body := (.seq (.region A52_r0 none [] []) (.seq (.region A52_r1 none [0] []) (.ret))) }
/- bioscope.licence.asked -/
def A53_r0 : List AO := [
  { dst := (some 2), op := .box true (.t 0) },
  { dst := (some 4), op := .new true [.lst (some true) true 0 [], .int .i64 0, .lst (some true) true 0 [], .int .i64 0, .int .i64 0, .lst (some true) true 0 [], .nilm] },
  { dst := (some 5), op := .mov (.c (.int .i64 0)) }]
def A53_r1 : List AO := [
  { dst := (some 7), op := .load true 6 (.t 2) },
  { dst := (some 8), op := .call false true (.f 16) [.t 7] },
  { dst := (some 6), op := .mov (.t 8) }]
def A53_r2 : List AO := [
  { dst := (some 9), op := .mov (.t 6) },
  { dst := (some 10), op := .bin .neq (.t 9) (.c (.int .i64 0)) }]
def A53_r3 : List AO := [
  { dst := (some 11), op := .build [.lst (some true) true 0 [], .int .i64 0, .lst (some true) true 0 [], .int .i64 0, .int .i64 0, .lst (some true) true 0 [], .nilm] [] },
  { dst := (some 12), op := .mov (.t 6) },
  { dst := none, op := .store 7 (.t 4) (.t 11) },
  { dst := (some 5), op := .mov (.t 12) }]
def A53_r4 : List AO := [
  { dst := (some 13), op := .mov (.t 1) },
  { dst := (some 14), op := .un .not (.t 13) }]
def A53_r5 : List AO := [
  { dst := (some 15), op := .build [.lst (some true) true 0 [], .int .i64 0, .lst (some true) true 0 [], .int .i64 0, .int .i64 0, .lst (some true) true 0 [], .nilm] [] },
  { dst := none, op := .store 7 (.t 4) (.t 15) },
  { dst := (some 5), op := .mov (.c (.int .i64 51)) }]
def A53_r6 : List AO := [
  { dst := (some 16), op := .load true 6 (.t 2) },
  { dst := (some 17), op := .call false true (.f 63) [.t 16] },
  { dst := none, op := .store 7 (.t 4) (.t 17) },
  { dst := (some 5), op := .mov (.c (.int .i64 0)) }]
def A53 : AF := { np := 2, res := [.cell 4 true 7, .tmp 5], body := (.seq (.region A53_r0 none [1, 2, 4] [2, 4]) (.seq (.seq (.region A53_r1 none [1, 2, 4, 6] [2, 4]) (.seq (.region A53_r2 none [1, 2, 4, 6, 10] [2, 4]) (.cond (.t 10) (.seq (.region A53_r3 none [4, 5] [4]) (.ret)) (.skip)))) (.seq (.seq (.region A53_r4 none [2, 4, 14] [2, 4]) (.cond (.t 14) (.seq (.region A53_r5 none [4, 5] [4]) (.ret)) (.skip))) (.seq (.region A53_r6 none [4, 5] [4]) (.ret))))) }
/- bioscope.licence.isDay -/
def A54_r0 : List AO := [
  { dst := (some 2), op := .mov (.c (.bool false)) }]
def A54_r1 : List AO := [
  { dst := (some 3), op := .mov (.t 0) },
  { dst := (some 4), op := .call false true (.f 55) [.t 3, .c (.int .i64 0), .c (.int .i64 999)] },
  { dst := (some 2), op := .mov (.t 4) }]
def A54 : AF := { np := 1, res := [.tmp 2], body := (.seq (.region A54_r0 none [0] []) (.seq (.region A54_r1 none [2] []) (.ret))) }
/- bioscope.licence.inside -/
def A55_r0 : List AO := [
  { dst := (some 6), op := .mov (.c (.bool false)) }]
def A55_r1 : List AO := [
  { dst := (some 7), op := .mov (.t 1) },
  { dst := (some 8), op := .mov (.t 0) },
  { dst := (some 9), op := .bin .leq (.t 7) (.t 8) },
  { dst := (some 10), op := .mov (.t 9) },
  { dst := (some 11), op := .mov (.t 0), guard := some (10, true) },
  { dst := (some 12), op := .mov (.t 2), guard := some (10, true) },
  { dst := (some 13), op := .bin .leq (.t 11) (.t 12), guard := some (10, true) },
  { dst := (some 14), op := .pick (.t 10) (.t 13) (.c (.bool false)) },
  { dst := (some 6), op := .mov (.t 14) }]
def A55 : AF := { np := 3, res := [.tmp 6], body := (.seq (.region A55_r0 none [0, 1, 2] []) (.seq (.region A55_r1 none [6] []) (.ret))) }
/- bioscope.bioscoperef05.isDay -/
def A57_r0 : List AO := [
  { dst := (some 2), op := .mov (.c (.bool false)) }]
def A57_r1 : List AO := [
  { dst := (some 3), op := .mov (.t 0) },
  { dst := (some 4), op := .call false true (.f 46) [.t 3, .c (.int .i64 0), .c (.int .i64 999)] },
  { dst := (some 2), op := .mov (.t 4) }]
def A57 : AF := { np := 1, res := [.tmp 2], body := (.seq (.region A57_r0 none [0] []) (.seq (.region A57_r1 none [2] []) (.ret))) }
/- bioscope.bioscoperef05.isMinute -/
def A58_r0 : List AO := [
  { dst := (some 2), op := .mov (.c (.bool false)) }]
def A58_r1 : List AO := [
  { dst := (some 3), op := .mov (.t 0) },
  { dst := (some 4), op := .call false true (.f 46) [.t 3, .c (.int .i64 0), .c (.int .i64 1439)] },
  { dst := (some 2), op := .mov (.t 4) }]
def A58 : AF := { np := 1, res := [.tmp 2], body := (.seq (.region A58_r0 none [0] []) (.seq (.region A58_r1 none [2] []) (.ret))) }
/- bioscope.licence.spanned -/
def A61_r0 : List AO := [
  { dst := (some 3), op := .box true (.t 0) },
  { dst := (some 6), op := .mov (.c (.bool false)) }]
def A61_r1 : List AO := [
  { dst := (some 7), op := .mov (.t 1) },
  { dst := (some 8), op := .faddr 0 (.t 3) },
  { dst := (some 9), op := .load false 1 (.t 8) },
  { dst := (some 10), op := .bin .leq (.t 7) (.t 9) },
  { dst := (some 11), op := .mov (.t 10) },
  { dst := (some 12), op := .faddr 0 (.t 3), guard := some (11, true) },
  { dst := (some 13), op := .load false 1 (.t 12), guard := some (11, true) },
  { dst := (some 14), op := .faddr 1 (.t 3), guard := some (11, true) },
  { dst := (some 15), op := .load false 1 (.t 14), guard := some (11, true) },
  { dst := (some 16), op := .bin .leq (.t 13) (.t 15), guard := some (11, true) },
  { dst := (some 17), op := .pick (.t 11) (.t 16) (.c (.bool false)) },
  { dst := (some 18), op := .mov (.t 17) },
  { dst := (some 19), op := .faddr 1 (.t 3), guard := some (18, true) },
  { dst := (some 20), op := .load false 1 (.t 19), guard := some (18, true) },
  { dst := (some 21), op := .mov (.t 2), guard := some (18, true) },
  { dst := (some 22), op := .bin .leq (.t 20) (.t 21), guard := some (18, true) },
  { dst := (some 23), op := .pick (.t 18) (.t 22) (.c (.bool false)) },
  { dst := (some 6), op := .mov (.t 23) }]
def A61 : AF := { np := 3, res := [.tmp 6], body := (.seq (.region A61_r0 none [1, 2, 3] [3]) (.seq (.region A61_r1 none [6] []) (.ret))) }
/- bioscope.licence.isPaper -/
def A62_r0 : List AO := [
  { dst := (some 2), op := .box true (.t 0) },
  { dst := (some 3), op := .box true (.t 1) },
  { dst := (some 4), op := .mov (.c (.bool false)) }]
def A62_r1 : List AO := [
  { dst := (some 5), op := .faddr 0 (.t 3) },
  { dst := (some 6), op := .load false 1 (.t 5) },
  { dst := (some 7), op := .faddr 0 (.t 2) },
  { dst := (some 8), op := .load false 1 (.t 7) },
  { dst := (some 9), op := .len (.t 8) },
  { dst := (some 10), op := .bin .sub (.t 9) (.c (.int .i64 1)) },
  { dst := (some 11), op := .call false true (.f 55) [.t 6, .c (.int .i64 0), .t 10] },
  { dst := (some 12), op := .mov (.t 11) },
  { dst := (some 13), op := .faddr 1 (.t 3), guard := some (12, true) },
  { dst := (some 14), op := .load false 1 (.t 13), guard := some (12, true) },
  { dst := (some 15), op := .call false true (.f 55) [.t 14, .c (.int .i64 0), .c (.int .i64 999)], guard := some (12, true) },
  { dst := (some 16), op := .pick (.t 12) (.t 15) (.c (.bool false)) },
  { dst := (some 4), op := .mov (.t 16) }]
def A62 : AF := { np := 2, res := [.tmp 4], body := (.seq (.region A62_r0 none [2, 3] [2, 3]) (.seq (.region A62_r1 none [4] []) (.ret))) }
/- bioscope.licence.opened -/
def A63_r0 : List AO := [
  { dst := (some 1), op := .box true (.t 0) },
  { dst := (some 2), op := .new true [.lst (some true) true 0 [], .int .i64 0, .lst (some true) true 0 [], .int .i64 0, .int .i64 0, .lst (some true) true 0 [], .nilm] }]
def A63_r1 : List AO := [
  { dst := (some 3), op := .load true 6 (.t 1) },
  { dst := (some 4), op := .mkm },
  { dst := (some 5), op := .build [.lst (some true) true 0 [], .int .i64 0, .lst (some true) true 0 [], .int .i64 0, .int .i64 0, .lst (some true) true 0 [], .nilm] [(0, 6, .t 3), (6, 1, .t 4)] },
  { dst := none, op := .store 7 (.t 2) (.t 5) }]
def A63 : AF := { np := 1, res := [.cell 2 true 7], body := (.seq (.region A63_r0 none [1, 2] [1, 2]) (.seq (.region A63_r1 none [2] [2]) (.ret))) }
/- (bioscope.licence.town).together -/
def A64_r0 : List AO := [
  { dst := (some 2), op := .box true (.t 0) },
  { dst := (some 4), op := .mov (.c (.bool false)) }]
def A64_r1 : List AO := [
  { dst := (some 9), op := .mov (.t 1) },
  { dst := (some 10), op := .len (.t 9) },
  { dst := (some 11), op := .mov (.c (.int .i64 0)) }]
def A64_r2 : List AO := [
  { dst := (some 12), op := .bin .lss (.t 11) (.t 10) }]
def A64_r3 : List AO := [
  { dst := (some 13), op := .mov (.t 11) },
  { dst := (some 14), op := .iaddr 2 (.t 9) (.t 11) },
  { dst := (some 15), op := .load true 2 (.t 14) },
  { dst := (some 6), op := .new true [.int .i64 0, .int .i64 0] },
  { dst := (some 5), op := .mov (.t 13) },
  { dst := none, op := .store 2 (.t 6) (.t 15) }]
def A64_r4 : List AO := [
  { dst := (some 16), op := .mov (.t 1) },
  { dst := (some 17), op := .mov (.t 5) },
  { dst := (some 18), op := .slc 2 (.t 16) none (some (.t 17)) none },
  { dst := (some 19), op := .len (.t 18) },
  { dst := (some 20), op := .mov (.c (.int .i64 0)) }]
def A64_r5 : List AO := [
  { dst := (some 21), op := .bin .lss (.t 20) (.t 19) }]
def A64_r6 : List AO := [
  { dst := (some 22), op := .iaddr 2 (.t 18) (.t 20) },
  { dst := (some 23), op := .load true 2 (.t 22) },
  { dst := (some 8), op := .new true [.int .i64 0, .int .i64 0] },
  { dst := none, op := .store 2 (.t 8) (.t 23) }]
def A64_r7 : List AO := [
  { dst := (some 24), op := .load true 7 (.t 2) },
  { dst := (some 25), op := .load true 2 (.t 6) },
  { dst := (some 26), op := .load true 2 (.t 8) },
  { dst := (some 27), op := .call false true (.f 88) [.t 24, .t 25, .t 26] },
  { dst := (some 28), op := .un .not (.t 27) }]
def A64_r8 : List AO := [
  { dst := (some 4), op := .mov (.c (.bool false)) }]
def A64_r9 : List AO := [
  { dst := (some 29), op := .bin .add (.t 20) (.c (.int .i64 1)) },
  { dst := (some 20), op := .mov (.t 29) }]
def A64_l0 : AC := .seq (.region A64_r5 none [1, 2, 6, 9, 10, 11, 18, 19, 20, 21] [2, 6]) (.seq (.cond (.t 21) (.skip) (.exit 2)) (.seq (.block 3 (.seq (.region A64_r6 none [1, 2, 6, 8, 9, 10, 11, 18, 19, 20] [2, 6, 8]) (.seq (.region A64_r7 none [1, 2, 6, 9, 10, 11, 18, 19, 20, 28] [2, 6]) (.cond (.t 28) (.seq (.region A64_r8 none [4] []) (.ret)) (.skip))))) (.region A64_r9 none [1, 2, 6, 9, 10, 11, 18, 19, 20] [2, 6])))
def A64_r10 : List AO := [
  { dst := (some 30), op := .bin .add (.t 11) (.c (.int .i64 1)) },
  { dst := (some 11), op := .mov (.t 30) }]
def A64_l1 : AC := .seq (.region A64_r2 none [1, 2, 9, 10, 11, 12] [2]) (.seq (.cond (.t 12) (.skip) (.exit 0)) (.seq (.block 1 (.seq (.region A64_r3 none [1, 2, 5, 6, 9, 10, 11] [2, 6]) (.seq (.region A64_r4 none [1, 2, 6, 9, 10, 11, 18, 19, 20] [2, 6]) (.block 2 (.loop [1, 2, 6, 9, 10, 11, 18, 19, 20] [2, 6] A64_l0))))) (.region A64_r10 none [1, 2, 9, 10, 11] [2])))
def A64_r11 : List AO := [
  { dst := (some 4), op := .mov (.c (.bool true)) }]
def A64 : AF := { np := 2, res := [.tmp 4], body := (.seq (.region A64_r0 none [1, 2] [2]) (.seq (.seq (.region A64_r1 none [1, 2, 9, 10, 11] [2]) (.block 0 (.loop [1, 2, 9, 10, 11] [2] A64_l1))) (.seq (.region A64_r11 none [4] []) (.ret)))) }
/- bioscope.bioscoperef00.Legal -/
def A65_r0 : List AO := [
  { dst := (some 3), op := .box true (.t 0) },
  { dst := (some 6), op := .mov (.c (.bool false)) }]
def A65_r1 : List AO := [
  { dst := (some 7), op := .mov (.t 1) },
  { dst := (some 8), op := .faddr 0 (.t 3) },
  { dst := (some 9), op := .load false 1 (.t 8) },
  { dst := (some 10), op := .bin .leq (.t 7) (.t 9) },
  { dst := (some 11), op := .mov (.t 10) },
  { dst := (some 12), op := .faddr 0 (.t 3), guard := some (11, true) },
  { dst := (some 13), op := .load false 1 (.t 12), guard := some (11, true) },
  { dst := (some 14), op := .faddr 1 (.t 3), guard := some (11, true) },
  { dst := (some 15), op := .load false 1 (.t 14), guard := some (11, true) },
  { dst := (some 16), op := .bin .leq (.t 13) (.t 15), guard := some (11, true) },
  { dst := (some 17), op := .pick (.t 11) (.t 16) (.c (.bool false)) },
  { dst := (some 18), op := .mov (.t 17) },
  { dst := (some 19), op := .faddr 1 (.t 3), guard := some (18, true) },
  { dst := (some 20), op := .load false 1 (.t 19), guard := some (18, true) },
  { dst := (some 21), op := .mov (.t 2), guard := some (18, true) },
  { dst := (some 22), op := .bin .leq (.t 20) (.t 21), guard := some (18, true) },
  { dst := (some 23), op := .pick (.t 18) (.t 22) (.c (.bool false)) },
  { dst := (some 6), op := .mov (.t 23) }]
def A65 : AF := { np := 3, res := [.tmp 6], body := (.seq (.region A65_r0 none [1, 2, 3] [3]) (.seq (.region A65_r1 none [6] []) (.ret))) }
/- (bioscope.licence.town).days -/
def A68_r0 : List AO := [
  { dst := (some 3), op := .box false (.t 0) },
  { dst := (some 4), op := .box false (.t 1) },
  { dst := (some 5), op := .box false (.t 2) },
  { dst := (some 6), op := .mov (.c (.nilf)) }]
def A68_r1 : List AO := [
  { dst := (some 7), op := .mkf 91 [] [.t 3, .t 4, .t 5] },
  { dst := (some 6), op := .mov (.t 7) }]
def A68 : AF := { np := 3, res := [.tmp 6], body := (.seq (.region A68_r0 none [3, 4, 5] []) (.seq (.region A68_r1 none [6] []) (.ret))) }
/- slices.ContainsFunc[[]bioscope.api.LicencePaper,bioscope.api.LicencePaper] -/
def A69_r0 : List AO := [
  { dst := (some 4), op := .mov (.c (.bool false)) }]
def A69_r1 : List AO := [
  { dst := (some 5), op := .mov (.t 0) },
  { dst := (some 6), op := .mov (.t 1) },
  { dst := (some 7), op := .call false true (.f 92) [.t 5, .t 6] },
  { dst := (some 8), op := .bin .geq (.t 7) (.c (.int .i64 0)) },
  { dst := (some 4), op := .mov (.t 8) }]
def A69 : AF := { np := 2, res := [.tmp 4], body := (.seq (.region A69_r0 none [0, 1] []) (.seq (.region A69_r1 none [4] []) (.ret))) }
/- bioscope.licence.Lacking$1 -/
def A70_r0 : List AO := [
  { dst := (some 2), op := .box true (.t 0) },
  { dst := (some 3), op := .mov (.c (.bool false)) }]
def A70_r1 : List AO := [
  { dst := (some 4), op := .load true 6 (.t 1) },
  { dst := (some 5), op := .load true 2 (.t 2) },
  { dst := (some 6), op := .call false true (.f 62) [.t 4, .t 5] },
  { dst := (some 7), op := .un .not (.t 6) },
  { dst := (some 3), op := .mov (.t 7) }]
def A70 : AF := { np := 2, res := [.tmp 3], body := (.seq (.region A70_r0 none [1, 2] [2]) (.seq (.region A70_r1 none [3] []) (.ret))) }
/- bioscope.licence.areWanted -/
def A71_r0 : List AO := [
  { dst := (some 2), op := .mov (.c (.bool false)) }]
def A71_r1 : List AO := [
  { dst := (some 7), op := .mov (.t 0) },
  { dst := (some 8), op := .len (.t 7) },
  { dst := (some 9), op := .bin .leq (.t 8) (.c (.int .i64 8)) },
  { dst := (some 3), op := .mov (.t 9) },
  { dst := (some 4), op := .mov (.c (.int .i64 (-1))) }]
def A71_r2 : List AO := [
  { dst := (some 10), op := .mov (.t 0) },
  { dst := (some 11), op := .len (.t 10) },
  { dst := (some 12), op := .mov (.c (.int .i64 0)) }]
def A71_r3 : List AO := [
  { dst := (some 13), op := .bin .lss (.t 12) (.t 11) }]
def A71_r4 : List AO := [
  { dst := (some 14), op := .iaddr 1 (.t 10) (.t 12) },
  { dst := (some 15), op := .load false 1 (.t 14) },
  { dst := (some 6), op := .mov (.t 15) }]
def A71_r5 : List AO := [
  { dst := (some 16), op := .mov (.t 3) },
  { dst := (some 17), op := .mov (.t 16) },
  { dst := (some 18), op := .mov (.t 6), guard := some (17, true) },
  { dst := (some 19), op := .mov (.t 4), guard := some (17, true) },
  { dst := (some 20), op := .bin .add (.t 19) (.c (.int .i64 1)), guard := some (17, true) },
  { dst := (some 21), op := .call false true (.f 55) [.t 18, .t 20, .c (.int .i64 999)], guard := some (17, true) },
  { dst := (some 22), op := .pick (.t 17) (.t 21) (.c (.bool false)) },
  { dst := (some 3), op := .mov (.t 22) }]
def A71_r6 : List AO := [
  { dst := (some 23), op := .mov (.t 6) },
  { dst := (some 4), op := .mov (.t 23) }]
def A71_r7 : List AO := [
  { dst := (some 24), op := .bin .add (.t 12) (.c (.int .i64 1)) },
  { dst := (some 12), op := .mov (.t 24) }]
def A71_l0 : AC := .seq (.region A71_r3 none [3, 4, 10, 11, 12, 13] []) (.seq (.cond (.t 13) (.skip) (.exit 0)) (.seq (.block 1 (.seq (.region A71_r4 none [3, 4, 6, 10, 11, 12] []) (.seq (.region A71_r5 none [3, 6, 10, 11, 12] []) (.region A71_r6 none [3, 4, 10, 11, 12] [])))) (.region A71_r7 none [3, 4, 10, 11, 12] [])))
def A71_r8 : List AO := [
  { dst := (some 25), op := .mov (.t 3) },
  { dst := (some 2), op := .mov (.t 25) }]
def A71 : AF := { np := 1, res := [.tmp 2], body := (.seq (.region A71_r0 none [0] []) (.seq (.region A71_r1 none [0, 3, 4] []) (.seq (.seq (.region A71_r2 none [3, 4, 10, 11, 12] []) (.block 0 (.loop [3, 4, 10, 11, 12] [] A71_l0))) (.seq (.region A71_r8 none [2] []) (.ret))))) }
/- (bioscope.licence.town).covers -/
def A72_r0 : List AO := [
  { dst := (some 3), op := .box false (.t 0) },
  { dst := (some 5), op := .box false (.t 2) },
  { dst := (some 6), op := .mov (.c (.bool false)) }]
def A72_r1 : List AO := [
  { dst := (some 7), op := .mov (.t 1) },
  { dst := (some 8), op := .mkf 93 [] [.t 5, .t 3] },
  { dst := (some 9), op := .call false true (.f 69) [.t 7, .t 8] },
  { dst := (some 6), op := .mov (.t 9) }]
def A72 : AF := { np := 3, res := [.tmp 6], body := (.seq (.region A72_r0 none [1, 3, 5] []) (.seq (.region A72_r1 none [6] []) (.ret))) }
/- (bioscope.licence.town).isBarred -/
def A73_r0 : List AO := [
  { dst := (some 2), op := .box true (.t 0) },
  { dst := (some 3), op := .box false (.t 1) },
  { dst := (some 4), op := .mov (.c (.bool false)) }]
def A73_r1 : List AO := [
  { dst := (some 5), op := .faddr 0 (.t 2) },
  { dst := (some 6), op := .faddr 2 (.t 5) },
  { dst := (some 7), op := .load false 1 (.t 6) },
  { dst := (some 8), op := .mkf 96 [] [.t 3] },
  { dst := (some 9), op := .call false true (.f 95) [.t 7, .t 8] },
  { dst := (some 4), op := .mov (.t 9) }]
def A73 : AF := { np := 2, res := [.tmp 4], body := (.seq (.region A73_r0 none [2, 3] [2]) (.seq (.region A73_r1 none [4] []) (.ret))) }
/- bioscope.licence.planned -/
def A76_r0 : List AO := [
  { dst := (some 3), op := .box true (.t 0) },
  { dst := (some 6), op := .new true [.int .i64 0, .lst (some true) true 0 []] }]
def A76_r1 : List AO := [
  { dst := (some 7), op := .load true 6 (.t 3) },
  { dst := (some 8), op := .call false true (.f 63) [.t 7] },
  { dst := (some 9), op := .mov (.t 1) },
  { dst := (some 10), op := .mov (.t 2) },
  { dst := (some 11), op := .build [.lst (some true) true 0 [], .int .i64 0, .lst (some true) true 0 [], .int .i64 0, .int .i64 0, .lst (some true) true 0 [], .nilm, .int .i64 0, .lst (some true) true 0 []] [(0, 7, .t 8), (7, 1, .t 9), (8, 1, .t 10)] },
  { dst := (some 12), op := .call false true (.f 98) [.t 11] },
  { dst := none, op := .store 2 (.t 6) (.t 12) }]
def A76 : AF := { np := 3, res := [.cell 6 true 2], body := (.seq (.region A76_r0 none [1, 2, 3, 6] [3, 6]) (.seq (.region A76_r1 none [6] [6]) (.ret))) }
/- bioscope.licence.Latest$1 -/
def A77_r0 : List AO := [
  { dst := (some 4), op := .mov (.c (.bool false)) }]
def A77_r1 : List AO := [
  { dst := (some 5), op := .load true 6 (.t 1) },
  { dst := (some 6), op := .mov (.t 0) },
  { dst := (some 7), op := .load false 1 (.t 2) },
  { dst := (some 8), op := .call false true (.f 76) [.t 5, .t 6, .t 7] },
  { dst := (some 9), op := .field false 0 1 (.t 8) },
  { dst := (some 10), op := .bin .geq (.t 9) (.c (.int .i64 0)) },
  { dst := (some 4), op := .mov (.t 10) }]
def A77 : AF := { np := 3, res := [.tmp 4], body := (.seq (.region A77_r0 none [0, 1, 2] []) (.seq (.region A77_r1 none [4] []) (.ret))) }
/- cmp.Or[int] -/
def A78_r0 : List AO := [
  { dst := (some 2), op := .mov (.c (.int .i64 0)) }]
def A78_r1 : List AO := [
  { dst := (some 3), op := .mov (.c (.int .i64 0)) }]
def A78_r2 : List AO := [
  { dst := (some 6), op := .mov (.t 0) },
  { dst := (some 7), op := .len (.t 6) },
  { dst := (some 8), op := .mov (.c (.int .i64 0)) }]
def A78_r3 : List AO := [
  { dst := (some 9), op := .bin .lss (.t 8) (.t 7) }]
def A78_r4 : List AO := [
  { dst := (some 10), op := .iaddr 1 (.t 6) (.t 8) },
  { dst := (some 11), op := .load false 1 (.t 10) },
  { dst := (some 5), op := .mov (.t 11) }]
def A78_r5 : List AO := [
  { dst := (some 12), op := .mov (.t 5) },
  { dst := (some 13), op := .mov (.t 3) },
  { dst := (some 14), op := .bin .neq (.t 12) (.t 13) }]
def A78_r6 : List AO := [
  { dst := (some 15), op := .mov (.t 5) },
  { dst := (some 2), op := .mov (.t 15) }]
def A78_r7 : List AO := [
  { dst := (some 16), op := .bin .add (.t 8) (.c (.int .i64 1)) },
  { dst := (some 8), op := .mov (.t 16) }]
def A78_l0 : AC := .seq (.region A78_r3 none [3, 6, 7, 8, 9] []) (.seq (.cond (.t 9) (.skip) (.exit 0)) (.seq (.block 1 (.seq (.region A78_r4 none [3, 5, 6, 7, 8] []) (.seq (.region A78_r5 none [3, 5, 6, 7, 8, 14] []) (.cond (.t 14) (.seq (.region A78_r6 none [2] []) (.ret)) (.skip))))) (.region A78_r7 none [3, 6, 7, 8] [])))
def A78_r8 : List AO := [
  { dst := (some 17), op := .mov (.t 3) },
  { dst := (some 2), op := .mov (.t 17) }]
def A78 : AF := { np := 1, res := [.tmp 2], body := (.seq (.region A78_r0 none [0] []) (.seq (.region A78_r1 none [0, 3] []) (.seq (.seq (.region A78_r2 none [3, 6, 7, 8] []) (.block 0 (.loop [3, 6, 7, 8] [] A78_l0))) (.seq (.region A78_r8 none [2] []) (.ret))))) }
/- cmp.Compare[int] -/
def A79_r0 : List AO := [
  { dst := (some 4), op := .mov (.c (.int .i64 0)) }]
def A79_r1 : List AO := [
  { dst := (some 7), op := .mov (.t 0) },
  { dst := (some 8), op := .call false true (.f 99) [.t 7] },
  { dst := (some 5), op := .mov (.t 8) }]
def A79_r2 : List AO := [
  { dst := (some 9), op := .mov (.t 1) },
  { dst := (some 10), op := .call false true (.f 99) [.t 9] },
  { dst := (some 6), op := .mov (.t 10) }]
def A79_r3 : List AO := [
  { dst := (some 11), op := .mov (.t 5) }]
def A79_r4 : List AO := [
  { dst := (some 12), op := .mov (.t 6) }]
def A79_r5 : List AO := [
  { dst := (some 4), op := .mov (.c (.int .i64 0)) }]
def A79_r6 : List AO := [
  { dst := (some 4), op := .mov (.c (.int .i64 (-1))) }]
def A79_r7 : List AO := [
  { dst := (some 13), op := .mov (.t 6) }]
def A79_r8 : List AO := [
  { dst := (some 4), op := .mov (.c (.int .i64 1)) }]
def A79_r9 : List AO := [
  { dst := (some 14), op := .mov (.t 0) },
  { dst := (some 15), op := .mov (.t 1) },
  { dst := (some 16), op := .bin .lss (.t 14) (.t 15) }]
def A79_r10 : List AO := [
  { dst := (some 4), op := .mov (.c (.int .i64 (-1))) }]
def A79_r11 : List AO := [
  { dst := (some 17), op := .mov (.t 0) },
  { dst := (some 18), op := .mov (.t 1) },
  { dst := (some 19), op := .bin .gtr (.t 17) (.t 18) }]
def A79_r12 : List AO := [
  { dst := (some 4), op := .mov (.c (.int .i64 1)) }]
def A79_r13 : List AO := [
  { dst := (some 4), op := .mov (.c (.int .i64 0)) }]
def A79 : AF := { np := 2, res := [.tmp 4], body := (.seq (.region A79_r0 none [0, 1] []) (.seq (.region A79_r1 none [0, 1, 5] []) (.seq (.region A79_r2 none [0, 1, 5, 6] []) (.seq (.seq (.region A79_r3 none [0, 1, 6, 11] []) (.cond (.t 11) (.seq (.seq (.region A79_r4 none [12] []) (.cond (.t 12) (.seq (.region A79_r5 none [4] []) (.ret)) (.skip))) (.seq (.region A79_r6 none [4] []) (.ret))) (.skip))) (.seq (.seq (.region A79_r7 none [0, 1, 13] []) (.cond (.t 13) (.seq (.region A79_r8 none [4] []) (.ret)) (.skip))) (.seq (.seq (.region A79_r9 none [0, 1, 16] []) (.cond (.t 16) (.seq (.region A79_r10 none [4] []) (.ret)) (.skip))) (.seq (.seq (.region A79_r11 none [19] []) (.cond (.t 19) (.seq (.region A79_r12 none [4] []) (.ret)) (.skip))) (.seq (.region A79_r13 none [4] []) (.ret))))))))) }
/- slices.Compare[[]int,int] -/
def A80_r0 : List AO := [
  { dst := (some 4), op := .mov (.c (.int .i64 0)) }]
def A80_r1 : List AO := [
  { dst := (some 9), op := .mov (.t 0) },
  { dst := (some 10), op := .len (.t 9) },
  { dst := (some 11), op := .mov (.c (.int .i64 0)) }]
def A80_r2 : List AO := [
  { dst := (some 12), op := .bin .lss (.t 11) (.t 10) }]
def A80_r3 : List AO := [
  { dst := (some 13), op := .mov (.t 11) },
  { dst := (some 14), op := .iaddr 1 (.t 9) (.t 11) },
  { dst := (some 15), op := .load false 1 (.t 14) },
  { dst := (some 5), op := .mov (.t 13) },
  { dst := (some 6), op := .mov (.t 15) }]
def A80_r4 : List AO := [
  { dst := (some 16), op := .mov (.t 5) },
  { dst := (some 17), op := .mov (.t 1) },
  { dst := (some 18), op := .len (.t 17) },
  { dst := (some 19), op := .bin .geq (.t 16) (.t 18) }]
def A80_r5 : List AO := [
  { dst := (some 4), op := .mov (.c (.int .i64 1)) }]
def A80_r6 : List AO := [
  { dst := (some 20), op := .mov (.t 1) },
  { dst := (some 21), op := .mov (.t 5) },
  { dst := (some 22), op := .iaddr 1 (.t 20) (.t 21) },
  { dst := (some 23), op := .load false 1 (.t 22) },
  { dst := (some 7), op := .mov (.t 23) }]
def A80_r7 : List AO := [
  { dst := (some 24), op := .mov (.t 6) },
  { dst := (some 25), op := .mov (.t 7) },
  { dst := (some 26), op := .call false true (.f 79) [.t 24, .t 25] },
  { dst := (some 8), op := .mov (.t 26) }]
def A80_r8 : List AO := [
  { dst := (some 27), op := .mov (.t 8) },
  { dst := (some 28), op := .bin .neq (.t 27) (.c (.int .i64 0)) }]
def A80_r9 : List AO := [
  { dst := (some 29), op := .mov (.t 8) },
  { dst := (some 4), op := .mov (.t 29) }]
def A80_r10 : List AO := [
  { dst := (some 30), op := .bin .add (.t 11) (.c (.int .i64 1)) },
  { dst := (some 11), op := .mov (.t 30) }]
def A80_l0 : AC := .seq (.region A80_r2 none [0, 1, 9, 10, 11, 12] []) (.seq (.cond (.t 12) (.skip) (.exit 0)) (.seq (.block 1 (.seq (.region A80_r3 none [0, 1, 5, 6, 9, 10, 11] []) (.seq (.seq (.region A80_r4 none [0, 1, 5, 6, 9, 10, 11, 19] []) (.cond (.t 19) (.seq (.region A80_r5 none [4] []) (.ret)) (.skip))) (.seq (.region A80_r6 none [0, 1, 6, 7, 9, 10, 11] []) (.seq (.region A80_r7 none [0, 1, 8, 9, 10, 11] []) (.seq (.region A80_r8 none [0, 1, 8, 9, 10, 11, 28] []) (.cond (.t 28) (.seq (.region A80_r9 none [4] []) (.ret)) (.skip)))))))) (.region A80_r10 none [0, 1, 9, 10, 11] [])))
def A80_r11 : List AO := [
  { dst := (some 31), op := .mov (.t 0) },
  { dst := (some 32), op := .len (.t 31) },
  { dst := (some 33), op := .mov (.t 1) },
  { dst := (some 34), op := .len (.t 33) },
  { dst := (some 35), op := .bin .lss (.t 32) (.t 34) }]
def A80_r12 : List AO := [
  { dst := (some 4), op := .mov (.c (.int .i64 (-1))) }]
def A80_r13 : List AO := [
  { dst := (some 4), op := .mov (.c (.int .i64 0)) }]
def A80 : AF := { np := 2, res := [.tmp 4], body := (.seq (.region A80_r0 none [0, 1] []) (.seq (.seq (.region A80_r1 none [0, 1, 9, 10, 11] []) (.block 0 (.loop [0, 1, 9, 10, 11] [] A80_l0))) (.seq (.seq (.region A80_r11 none [35] []) (.cond (.t 35) (.seq (.region A80_r12 none [4] []) (.ret)) (.skip))) (.seq (.region A80_r13 none [4] []) (.ret))))) }
/- bioscope.bioscopelaw05.papers -/
def A82_r0 : List AO := [
  { dst := (some 2), op := .box true (.t 0) },
  { dst := (some 4), op := .mov (.c (.bool false)) }]
def A82_r1 : List AO := [
  { dst := (some 5), op := .mov (.c (.int .i64 0)) }]
def A82_r2 : List AO := [
  { dst := (some 6), op := .mov (.t 5) },
  { dst := (some 7), op := .mov (.t 1) },
  { dst := (some 8), op := .len (.t 7) },
  { dst := (some 9), op := .bin .lss (.t 6) (.t 8) }]
def A82_r4 : List AO := [
  { dst := (some 12), op := .mov (.t 1) },
  { dst := (some 13), op := .mov (.t 5) },
  { dst := (some 14), op := .iaddr 2 (.t 12) (.t 13) },
  { dst := (some 15), op := .faddr 0 (.t 14) },
  { dst := (some 16), op := .load false 1 (.t 15) },
  { dst := (some 17), op := .faddr 0 (.t 2) },
  { dst := (some 18), op := .load false 1 (.t 17) },
  { dst := (some 19), op := .len (.t 18) },
  { dst := (some 20), op := .bin .sub (.t 19) (.c (.int .i64 1)) },
  { dst := (some 21), op := .call false true (.f 46) [.t 16, .c (.int .i64 0), .t 20] },
  { dst := (some 22), op := .un .not (.t 21) },
  { dst := (some 23), op := .mov (.t 22) },
  { dst := (some 24), op := .mov (.t 1), guard := some (23, false) },
  { dst := (some 25), op := .mov (.t 5), guard := some (23, false) },
  { dst := (some 26), op := .iaddr 2 (.t 24) (.t 25), guard := some (23, false) },
  { dst := (some 27), op := .faddr 1 (.t 26), guard := some (23, false) },
  { dst := (some 28), op := .load false 1 (.t 27), guard := some (23, false) },
  { dst := (some 29), op := .call false true (.f 46) [.t 28, .c (.int .i64 0), .c (.int .i64 999)], guard := some (23, false) },
  { dst := (some 30), op := .un .not (.t 29), guard := some (23, false) },
  { dst := (some 31), op := .pick (.t 23) (.c (.bool true)) (.t 30) }]
def A82_r5 : List AO := [
  { dst := (some 4), op := .mov (.c (.bool false)) }]
def A82_r3 : List AO := [
  { dst := (some 10), op := .mov (.t 5) },
  { dst := (some 11), op := .bin .add (.t 10) (.c (.int .i64 1)) },
  { dst := (some 5), op := .mov (.t 11) }]
def A82_l0 : AC := .seq (.seq (.region A82_r2 none [1, 2, 5, 9] [2]) (.cond (.t 9) (.skip) (.exit 0))) (.seq (.block 1 (.seq (.region A82_r4 (some [[], [], [0, 1], [2], [3], [], [5], [6], [7], [4, 8], [9], [10, 9], [11], [11], [12, 13, 11], [14, 11], [15, 11], [16, 11, 11], [17, 11], [11, 18]]) [1, 2, 5, 31] [2]) (.cond (.t 31) (.seq (.region A82_r5 none [4] []) (.ret)) (.skip)))) (.region A82_r3 none [1, 2, 5] [2]))
def A82_r6 : List AO := [
  { dst := (some 4), op := .mov (.c (.bool true)) }]
def A82 : AF := { np := 2, res := [.tmp 4], body := (.seq (.region A82_r0 none [1, 2] [2]) (.seq (.seq (.region A82_r1 none [1, 2, 5] [2]) (.block 0 (.loop [1, 2, 5] [2] A82_l0))) (.seq (.region A82_r6 none [4] []) (.ret)))) }
/- bioscope.bioscoperef00.Pick -/
def A84_r0 : List AO := [
  { dst := (some 4), op := .mov (.c (.int .i64 0)) }]
def A84_r1 : List AO := [
  { dst := (some 5), op := .mov (.t 0) },
  { dst := (some 6), op := .len (.t 5) },
  { dst := (some 7), op := .bin .eql (.t 6) (.c (.int .i64 0)) }]
def A84_r2 : List AO := [
  { dst := (some 4), op := .mov (.c (.int .i64 0)) }]
def A84_r3 : List AO := [
  { dst := (some 8), op := .mov (.t 0) },
  { dst := (some 9), op := .mov (.t 1) },
  { dst := (some 10), op := .mov (.t 0) },
  { dst := (some 11), op := .len (.t 10) },
  { dst := (some 12), op := .call false true (.f 35) [.t 9, .t 11] },
  { dst := (some 13), op := .iaddr 1 (.t 8) (.t 12) },
  { dst := (some 14), op := .load false 1 (.t 13) },
  { dst := (some 4), op := .mov (.t 14) }]
def A84 : AF := { np := 2, res := [.tmp 4], body := (.seq (.region A84_r0 none [0, 1] []) (.seq (.seq (.region A84_r1 none [0, 1, 7] []) (.cond (.t 7) (.seq (.region A84_r2 none [4] []) (.ret)) (.skip))) (.seq (.region A84_r3 none [4] []) (.ret)))) }
/- bioscope.bioscopelaw05.goes -/
def A85_r0 : List AO := [
  { dst := (some 2), op := .box true (.t 0) },
  { dst := (some 4), op := .mov (.c (.bool false)) }]
def A85_r1 : List AO := [
  { dst := (some 9), op := .load true 6 (.t 2) },
  { dst := (some 10), op := .mov (.t 1) },
  { dst := (some 11), op := .call false true (.f 37) [.t 9, .t 10] },
  { dst := (some 8), op := .mov (.t 11) },
  { dst := (some 12), op := .ext 0 (.t 8) },
  { dst := (some 13), op := .ext 1 (.t 8) },
  { dst := (some 5), op := .mov (.t 12) },
  { dst := (some 6), op := .mov (.t 13) }]
def A85_r2 : List AO := [
  { dst := (some 7), op := .mov (.c (.int .i64 0)) }]
def A85_r3 : List AO := [
  { dst := (some 14), op := .mov (.t 7) },
  { dst := (some 15), op := .mov (.t 6) },
  { dst := (some 16), op := .len (.t 15) },
  { dst := (some 17), op := .bin .lss (.t 14) (.t 16) }]
def A85_r5 : List AO := [
  { dst := (some 20), op := .mov (.t 6) },
  { dst := (some 21), op := .mov (.t 7) },
  { dst := (some 22), op := .iaddr 1 (.t 20) (.t 21) },
  { dst := (some 23), op := .load false 1 (.t 22) },
  { dst := (some 24), op := .bin .gtr (.t 23) (.c (.int .i64 1)) }]
def A85_r6 : List AO := [
  { dst := (some 4), op := .mov (.c (.bool false)) }]
def A85_r4 : List AO := [
  { dst := (some 18), op := .mov (.t 7) },
  { dst := (some 19), op := .bin .add (.t 18) (.c (.int .i64 1)) },
  { dst := (some 7), op := .mov (.t 19) }]
def A85_l0 : AC := .seq (.seq (.region A85_r3 none [6, 7, 17] []) (.cond (.t 17) (.skip) (.exit 0))) (.seq (.block 1 (.seq (.region A85_r5 none [6, 7, 24] []) (.cond (.t 24) (.seq (.region A85_r6 none [4] []) (.ret)) (.skip)))) (.region A85_r4 none [6, 7] []))
def A85_r7 : List AO := [
  { dst := (some 4), op := .mov (.c (.bool true)) }]
def A85 : AF := { np := 2, res := [.tmp 4], body := (.seq (.region A85_r0 none [1, 2] [2]) (.seq (.region A85_r1 none [6] []) (.seq (.seq (.region A85_r2 none [6, 7] []) (.block 0 (.loop [6, 7] [] A85_l0))) (.seq (.region A85_r7 none [4] []) (.ret))))) }
/- (bioscope.licence.town).goes -/
def A88_r0 : List AO := [
  { dst := (some 3), op := .box true (.t 0) },
  { dst := (some 4), op := .box true (.t 1) },
  { dst := (some 5), op := .box true (.t 2) },
  { dst := (some 6), op := .mov (.c (.bool false)) }]
def A88_r1 : List AO := [
  { dst := (some 7), op := .faddr 1 (.t 4) },
  { dst := (some 8), op := .load false 1 (.t 7) },
  { dst := (some 9), op := .faddr 1 (.t 5) },
  { dst := (some 10), op := .load false 1 (.t 9) },
  { dst := (some 11), op := .bin .gtr (.t 8) (.t 10) }]
def A88_r2 : List AO := [
  { dst := (some 12), op := .load true 2 (.t 5) },
  { dst := (some 13), op := .load true 2 (.t 4) },
  { dst := none, op := .store 2 (.t 4) (.t 12) },
  { dst := none, op := .store 2 (.t 5) (.t 13) }]
def A88_r3 : List AO := [
  { dst := (some 14), op := .faddr 1 (.t 5) },
  { dst := (some 15), op := .load false 1 (.t 14) },
  { dst := (some 16), op := .load true 7 (.t 3) },
  { dst := (some 17), op := .load true 2 (.t 4) },
  { dst := (some 18), op := .call false true (.f 94) [.t 16, .t 17] },
  { dst := (some 19), op := .bin .sub (.t 15) (.t 18) },
  { dst := (some 20), op := .bin .sub (.t 19) (.c (.int .i64 1)) },
  { dst := (some 21), op := .faddr 0 (.t 3) },
  { dst := (some 22), op := .faddr 1 (.t 21) },
  { dst := (some 23), op := .load false 1 (.t 22) },
  { dst := (some 24), op := .bin .geq (.t 20) (.t 23) },
  { dst := (some 6), op := .mov (.t 24) }]
def A88 : AF := { np := 3, res := [.tmp 6], body := (.seq (.region A88_r0 none [3, 4, 5] [3, 4, 5]) (.seq (.seq (.region A88_r1 none [3, 4, 5, 11] [3, 4, 5]) (.cond (.t 11) (.region A88_r2 none [3, 4, 5] [3, 4, 5]) (.skip))) (.seq (.region A88_r3 (some [[], [0], [], [], [2, 3], [1, 4], [5], [], [7], [8], [6, 9], [10, 4, 0, 1, 2, 3, 4, 5, 6, 7, 8, 9, 10]]) [6] []) (.ret)))) }
/- (bioscope.licence.town).days$1 -/
def A91_r0 : List AO := [
  { dst := (some 8), op := .load true 7 (.t 1) },
  { dst := (some 9), op := .mkf 73 [.t 8] [] },
  { dst := (some 5), op := .mov (.t 9) }]
def A91_r1 : List AO := [
  { dst := (some 10), op := .faddr 1 (.t 2) },
  { dst := (some 11), op := .load false 1 (.t 10) },
  { dst := (some 12), op := .faddr 0 (.t 2) },
  { dst := (some 13), op := .load false 1 (.t 12) },
  { dst := (some 14), op := .bin .sub (.t 11) (.t 13) },
  { dst := (some 15), op := .bin .add (.t 14) (.c (.int .i64 1)) },
  { dst := (some 16), op := .mov (.c (.int .i64 0)) }]
def A91_r2 : List AO := [
  { dst := (some 17), op := .bin .lss (.t 16) (.t 15) }]
def A91_r3 : List AO := [
  { dst := (some 18), op := .mov (.t 16) },
  { dst := (some 6), op := .mov (.t 18) }]
def A91_r4 : List AO := [
  { dst := (some 19), op := .faddr 0 (.t 2) },
  { dst := (some 20), op := .load false 1 (.t 19) },
  { dst := (some 21), op := .mov (.t 6) },
  { dst := (some 22), op := .bin .add (.t 20) (.t 21) },
  { dst := (some 7), op := .mov (.t 22) }]
def A91_r5 : List AO := [
  { dst := (some 23), op := .load true 7 (.t 1) },
  { dst := (some 24), op := .load false 1 (.t 3) },
  { dst := (some 25), op := .mov (.t 7) },
  { dst := (some 26), op := .call false true (.f 72) [.t 23, .t 24, .t 25] },
  { dst := (some 27), op := .mov (.t 26) },
  { dst := (some 28), op := .mov (.t 5), guard := some (27, true) },
  { dst := (some 29), op := .mov (.t 7), guard := some (27, true) },
  { dst := (some 30), op := .call false true (.t 28) [.t 29], guard := some (27, true) },
  { dst := (some 31), op := .un .not (.t 30), guard := some (27, true) },
  { dst := (some 32), op := .pick (.t 27) (.t 31) (.c (.bool false)) },
  { dst := (some 33), op := .mov (.t 32) },
  { dst := (some 34), op := .mov (.t 0), guard := some (33, true) },
  { dst := (some 35), op := .mov (.t 7), guard := some (33, true) },
  { dst := (some 36), op := .call false true (.t 34) [.t 35], guard := some (33, true) },
  { dst := (some 37), op := .un .not (.t 36), guard := some (33, true) },
  { dst := (some 38), op := .pick (.t 33) (.t 37) (.c (.bool false)) }]
def A91_r6 : List AO := [
  { dst := (some 39), op := .bin .add (.t 16) (.c (.int .i64 1)) },
  { dst := (some 16), op := .mov (.t 39) }]
def A91_l0 : AC := .seq (.region A91_r2 none [0, 1, 2, 3, 5, 15, 16, 17] []) (.seq (.cond (.t 17) (.skip) (.exit 0)) (.seq (.block 1 (.seq (.region A91_r3 none [0, 1, 2, 3, 5, 6, 15, 16] []) (.seq (.region A91_r4 none [0, 1, 2, 3, 5, 7, 15, 16] []) (.seq (.region A91_r5 none [0, 1, 2, 3, 5, 15, 16, 38] []) (.cond (.t 38) (.ret) (.skip)))))) (.region A91_r6 none [0, 1, 2, 3, 5, 15, 16] [])))
def A91 : AF := { np := 4, res := [], body := (.seq (.region A91_r0 none [0, 1, 2, 3, 5] []) (.seq (.region A91_r1 none [0, 1, 2, 3, 5, 15, 16] []) (.block 0 (.loop [0, 1, 2, 3, 5, 15, 16] [] A91_l0)))) }
/- slices.IndexFunc[[]bioscope.api.LicencePaper,bioscope.api.LicencePaper] -/
def A92_r0 : List AO := [
  { dst := (some 4), op := .mov (.c (.int .i64 0)) }]
def A92_r1 : List AO := [
  { dst := (some 6), op := .mov (.t 0) },
  { dst := (some 7), op := .len (.t 6) },
  { dst := (some 8), op := .mov (.c (.int .i64 0)) }]
def A92_r2 : List AO := [
  { dst := (some 9), op := .bin .lss (.t 8) (.t 7) }]
def A92_r3 : List AO := [
  { dst := (some 10), op := .mov (.t 8) },
  { dst := (some 5), op := .mov (.t 10) }]
def A92_r4 : List AO := [
  { dst := (some 11), op := .mov (.t 1) },
  { dst := (some 12), op := .mov (.t 0) },
  { dst := (some 13), op := .mov (.t 5) },
  { dst := (some 14), op := .iaddr 2 (.t 12) (.t 13) },
  { dst := (some 15), op := .load true 2 (.t 14) },
  { dst := (some 16), op := .call false true (.t 11) [.t 15] }]
def A92_r5 : List AO := [
  { dst := (some 17), op := .mov (.t 5) },
  { dst := (some 4), op := .mov (.t 17) }]
def A92_r6 : List AO := [
  { dst := (some 18), op := .bin .add (.t 8) (.c (.int .i64 1)) },
  { dst := (some 8), op := .mov (.t 18) }]
def A92_l0 : AC := .seq (.region A92_r2 none [0, 1, 7, 8, 9] []) (.seq (.cond (.t 9) (.skip) (.exit 0)) (.seq (.block 1 (.seq (.region A92_r3 none [0, 1, 5, 7, 8] []) (.seq (.region A92_r4 none [0, 1, 5, 7, 8, 16] []) (.cond (.t 16) (.seq (.region A92_r5 none [4] []) (.ret)) (.skip))))) (.region A92_r6 none [0, 1, 7, 8] [])))
def A92_r7 : List AO := [
  { dst := (some 4), op := .mov (.c (.int .i64 (-1))) }]
def A92 : AF := { np := 2, res := [.tmp 4], body := (.seq (.region A92_r0 none [0, 1] []) (.seq (.seq (.region A92_r1 none [0, 1, 7, 8] []) (.block 0 (.loop [0, 1, 7, 8] [] A92_l0))) (.seq (.region A92_r7 none [4] []) (.ret)))) }
/- (bioscope.licence.town).covers$1 -/
def A93_r0 : List AO := [
  { dst := (some 3), op := .box true (.t 0) },
  { dst := (some 4), op := .mov (.c (.bool false)) }]
def A93_r1 : List AO := [
  { dst := (some 5), op := .load false 1 (.t 1) },
  { dst := (some 6), op := .faddr 1 (.t 3) },
  { dst := (some 7), op := .load false 1 (.t 6) },
  { dst := (some 8), op := .load true 7 (.t 2) },
  { dst := (some 9), op := .load true 2 (.t 3) },
  { dst := (some 10), op := .call false true (.f 94) [.t 8, .t 9] },
  { dst := (some 11), op := .call false true (.f 55) [.t 5, .t 7, .t 10] },
  { dst := (some 4), op := .mov (.t 11) }]
def A93 : AF := { np := 3, res := [.tmp 4], body := (.seq (.region A93_r0 none [1, 2, 3] [3]) (.seq (.region A93_r1 (some [[], [], [1], [], [], [3, 4], [0, 2, 5, 5], [6, 6, 0, 1, 2, 3, 4, 5, 6]]) [4] []) (.ret))) }
/- (bioscope.licence.town).end -/
def A94_r0 : List AO := [
  { dst := (some 2), op := .box true (.t 0) },
  { dst := (some 3), op := .box true (.t 1) },
  { dst := (some 4), op := .mov (.c (.int .i64 0)) }]
def A94_r1 : List AO := [
  { dst := (some 5), op := .faddr 1 (.t 3) },
  { dst := (some 6), op := .load false 1 (.t 5) },
  { dst := (some 7), op := .faddr 0 (.t 2) },
  { dst := (some 8), op := .faddr 0 (.t 7) },
  { dst := (some 9), op := .load false 1 (.t 8) },
  { dst := (some 10), op := .faddr 0 (.t 3) },
  { dst := (some 11), op := .load false 1 (.t 10) },
  { dst := (some 12), op := .iaddr 3 (.t 9) (.t 11) },
  { dst := (some 13), op := .faddr 0 (.t 12) },
  { dst := (some 14), op := .load false 1 (.t 13) },
  { dst := (some 15), op := .bin .add (.t 6) (.t 14) },
  { dst := (some 16), op := .bin .sub (.t 15) (.c (.int .i64 1)) },
  { dst := (some 4), op := .mov (.t 16) }]
def A94 : AF := { np := 2, res := [.tmp 4], body := (.seq (.region A94_r0 none [2, 3] [2, 3]) (.seq (.region A94_r1 (some [[], [0], [], [2], [3], [], [5], [4, 6], [7], [8], [1, 9], [10], [11, 0, 1, 2, 3, 4, 5, 6, 7, 8, 9, 10, 11]]) [4] []) (.ret))) }
/- slices.ContainsFunc[[]bioscope.api.Span,bioscope.api.Span] -/
def A95_r0 : List AO := [
  { dst := (some 4), op := .mov (.c (.bool false)) }]
def A95_r1 : List AO := [
  { dst := (some 5), op := .mov (.t 0) },
  { dst := (some 6), op := .mov (.t 1) },
  { dst := (some 7), op := .call false true (.f 100) [.t 5, .t 6] },
  { dst := (some 8), op := .bin .geq (.t 7) (.c (.int .i64 0)) },
  { dst := (some 4), op := .mov (.t 8) }]
def A95 : AF := { np := 2, res := [.tmp 4], body := (.seq (.region A95_r0 none [0, 1] []) (.seq (.region A95_r1 none [4] []) (.ret))) }
/- (bioscope.licence.town).isBarred$1 -/
def A96_r0 : List AO := [
  { dst := (some 2), op := .box true (.t 0) },
  { dst := (some 3), op := .mov (.c (.bool false)) }]
def A96_r1 : List AO := [
  { dst := (some 4), op := .load false 1 (.t 1) },
  { dst := (some 5), op := .faddr 0 (.t 2) },
  { dst := (some 6), op := .load false 1 (.t 5) },
  { dst := (some 7), op := .faddr 1 (.t 2) },
  { dst := (some 8), op := .load false 1 (.t 7) },
  { dst := (some 9), op := .call false true (.f 55) [.t 4, .t 6, .t 8] },
  { dst := (some 3), op := .mov (.t 9) }]
def A96 : AF := { np := 2, res := [.tmp 3], body := (.seq (.region A96_r0 none [1, 2] [2]) (.seq (.region A96_r1 none [3] []) (.ret))) }
/- (bioscope.licence.wanted).plan -/
def A98_r0 : List AO := [
  { dst := (some 1), op := .box false (.t 0) },
  { dst := (some 2), op := .new true [.int .i64 0, .lst (some true) true 0 []] }]
def A98_r1 : List AO := [
  { dst := (some 6), op := .load true 9 (.t 1) },
  { dst := (some 7), op := .call false true (.f 101) [.t 6] },
  { dst := (some 3), op := .new false [.bool false, .bool false, .bool false, .bool false, .bool false, .bool false, .bool false, .bool false] },
  { dst := none, op := .store 8 (.t 3) (.t 7) }]
def A98_r2 : List AO := [
  { dst := (some 8), op := .call false true (.f 102) [] },
  { dst := (some 4), op := .new false [.nilf] },
  { dst := none, op := .store 1 (.t 4) (.t 8) }]
def A98_r3 : List AO := [
  { dst := (some 5), op := .new false [.nilf] }]
def A98_r4 : List AO := [
  { dst := (some 9), op := .mkf 103 [] [.t 1, .t 3, .t 5, .t 4] },
  { dst := none, op := .store 1 (.t 5) (.t 9) }]
def A98_r5 : List AO := [
  { dst := (some 10), op := .faddr 8 (.t 1) },
  { dst := (some 11), op := .load false 1 (.t 10) },
  { dst := (some 12), op := .faddr 0 (.t 1) },
  { dst := (some 13), op := .load true 7 (.t 12) },
  { dst := (some 14), op := .mkf 73 [.t 13] [] },
  { dst := (some 15), op := .call false true (.f 108) [.t 11, .t 14] }]
def A98_r6 : List AO := [
  { dst := (some 16), op := .call false true (.f 105) [] },
  { dst := none, op := .store 2 (.t 2) (.t 16) }]
def A98_r7 : List AO := [
  { dst := (some 17), op := .load false 1 (.t 5) },
  { dst := (some 18), op := .load true 2 (.g 1) },
  { dst := (some 19), op := .call false true (.t 17) [.c (.int .i64 0), .c (.int .i64 0), .t 18] },
  { dst := none, op := .store 2 (.t 2) (.t 19) }]
def A98 : AF := { np := 1, res := [.cell 2 true 2], body := (.seq (.region A98_r0 none [1, 2] [2]) (.seq (.region A98_r1 none [1, 2, 3] [2]) (.seq (.region A98_r2 none [1, 2, 3, 4] [2]) (.seq (.region A98_r3 none [1, 2, 3, 4, 5] [2]) (.seq (.region A98_r4 none [1, 2, 5] [2]) (.seq (.seq (.region A98_r5 none [2, 5, 15] [2]) (.cond (.t 15) (.seq (.region A98_r6 none [2] [2]) (.ret)) (.skip))) (.seq (.region A98_r7 none [2] [2]) (.ret)))))))) }
/- cmp.isNaN[int] -/
def A99_r0 : List AO := [
  { dst := (some 2), op := .mov (.c (.bool false)) }]
def A99_r1 : List AO := [
  { dst := (some 3), op := .mov (.t 0) },
  { dst := (some 4), op := .mov (.t 0) },
  { dst := (some 5), op := .bin .neq (.t 3) (.t 4) },
  { dst := (some 2), op := .mov (.t 5) }]
def A99 : AF := { np := 1, res := [.tmp 2], body := (.seq (.region A99_r0 none [0] []) (.seq (.region A99_r1 none [2] []) (.ret))) }
/- slices.IndexFunc[[]bioscope.api.Span,bioscope.api.Span] -/
def A100_r0 : List AO := [
  { dst := (some 4), op := .mov (.c (.int .i64 0)) }]
def A100_r1 : List AO := [
  { dst := (some 6), op := .mov (.t 0) },
  { dst := (some 7), op := .len (.t 6) },
  { dst := (some 8), op := .mov (.c (.int .i64 0)) }]
def A100_r2 : List AO := [
  { dst := (some 9), op := .bin .lss (.t 8) (.t 7) }]
def A100_r3 : List AO := [
  { dst := (some 10), op := .mov (.t 8) },
  { dst := (some 5), op := .mov (.t 10) }]
def A100_r4 : List AO := [
  { dst := (some 11), op := .mov (.t 1) },
  { dst := (some 12), op := .mov (.t 0) },
  { dst := (some 13), op := .mov (.t 5) },
  { dst := (some 14), op := .iaddr 2 (.t 12) (.t 13) },
  { dst := (some 15), op := .load true 2 (.t 14) },
  { dst := (some 16), op := .call false true (.t 11) [.t 15] }]
def A100_r5 : List AO := [
  { dst := (some 17), op := .mov (.t 5) },
  { dst := (some 4), op := .mov (.t 17) }]
def A100_r6 : List AO := [
  { dst := (some 18), op := .bin .add (.t 8) (.c (.int .i64 1)) },
  { dst := (some 8), op := .mov (.t 18) }]
def A100_l0 : AC := .seq (.region A100_r2 none [0, 1, 7, 8, 9] []) (.seq (.cond (.t 9) (.skip) (.exit 0)) (.seq (.block 1 (.seq (.region A100_r3 none [0, 1, 5, 7, 8] []) (.seq (.region A100_r4 none [0, 1, 5, 7, 8, 16] []) (.cond (.t 16) (.seq (.region A100_r5 none [4] []) (.ret)) (.skip))))) (.region A100_r6 none [0, 1, 7, 8] [])))
def A100_r7 : List AO := [
  { dst := (some 4), op := .mov (.c (.int .i64 (-1))) }]
def A100 : AF := { np := 2, res := [.tmp 4], body := (.seq (.region A100_r0 none [0, 1] []) (.seq (.seq (.region A100_r1 none [0, 1, 7, 8] []) (.block 0 (.loop [0, 1, 7, 8] [] A100_l0))) (.seq (.region A100_r7 none [4] []) (.ret)))) }
/- (bioscope.licence.wanted).held -/
def A101_r0 : List AO := [
  { dst := (some 1), op := .box true (.t 0) },
  { dst := (some 2), op := .new true [.bool false, .bool false, .bool false, .bool false, .bool false, .bool false, .bool false, .bool false] }]
def A101_r1 : List AO := [
  { dst := (some 3), op := .new true [.bool false, .bool false, .bool false, .bool false, .bool false, .bool false, .bool false, .bool false] }]
def A101_r2 : List AO := [
  { dst := (some 6), op := .faddr 8 (.t 1) },
  { dst := (some 7), op := .load false 1 (.t 6) },
  { dst := (some 8), op := .len (.t 7) },
  { dst := (some 9), op := .mov (.c (.int .i64 0)) }]
def A101_r3 : List AO := [
  { dst := (some 10), op := .bin .lss (.t 9) (.t 8) }]
def A101_r4 : List AO := [
  { dst := (some 11), op := .mov (.t 9) },
  { dst := (some 12), op := .iaddr 1 (.t 7) (.t 9) },
  { dst := (some 13), op := .load false 1 (.t 12) },
  { dst := (some 4), op := .mov (.t 11) },
  { dst := (some 5), op := .mov (.t 13) }]
def A101_r5 : List AO := [
  { dst := (some 14), op := .mov (.t 4) },
  { dst := (some 15), op := .faddr 0 (.t 1) },
  { dst := (some 16), op := .load true 7 (.t 15) },
  { dst := (some 17), op := .faddr 0 (.t 1) },
  { dst := (some 18), op := .faddr 0 (.t 17) },
  { dst := (some 19), op := .faddr 5 (.t 18) },
  { dst := (some 20), op := .load false 1 (.t 19) },
  { dst := (some 21), op := .mov (.t 5) },
  { dst := (some 22), op := .call false true (.f 72) [.t 16, .t 20, .t 21] },
  { dst := (some 23), op := .aaddr 1 8 (.t 3) (.t 14) },
  { dst := none, op := .store 1 (.t 23) (.t 22) }]
def A101_r6 : List AO := [
  { dst := (some 24), op := .bin .add (.t 9) (.c (.int .i64 1)) },
  { dst := (some 9), op := .mov (.t 24) }]
def A101_l0 : AC := .seq (.region A101_r3 none [1, 2, 3, 7, 8, 9, 10] [1, 2, 3]) (.seq (.cond (.t 10) (.skip) (.exit 0)) (.seq (.block 1 (.seq (.region A101_r4 none [1, 2, 3, 4, 5, 7, 8, 9] [1, 2, 3]) (.region A101_r5 none [1, 2, 3, 7, 8, 9] [1, 2, 3]))) (.region A101_r6 none [1, 2, 3, 7, 8, 9] [1, 2, 3])))
def A101_r7 : List AO := [
  { dst := (some 25), op := .load true 8 (.t 3) },
  { dst := none, op := .store 8 (.t 2) (.t 25) }]
def A101 : AF := { np := 1, res := [.cell 2 true 8], body := (.seq (.region A101_r0 none [1, 2] [1, 2]) (.seq (.region A101_r1 none [1, 2, 3] [1, 2, 3]) (.seq (.seq (.region A101_r2 none [1, 2, 3, 7, 8, 9] [1, 2, 3]) (.block 0 (.loop [1, 2, 3, 7, 8, 9] [1, 2, 3] A101_l0))) (.seq (.region A101_r7 none [2] [2]) (.ret))))) }
/- bioscope.licence.cheaper -/
def A102_r0 : List AO := [
  { dst := (some 0), op := .new true [.nilf] }]
def A102_r1 : List AO := [
  { dst := (some 1), op := .build [.nilf] [(0, 1, .f 109)] },
  { dst := none, op := .store 1 (.t 0) (.t 1) }]
def A102 : AF := { np := 0, res := [.cell 0 true 1], body := (.seq (.region A102_r0 none [0] [0]) (.seq (.region A102_r1 none [0] [0]) (.ret))) }
/- (bioscope.licence.wanted).plan$1 -/
def A103_r0 : List AO := [
  { dst := (some 9), op := .box true (.t 2) },
  { dst := (some 10), op := .new true [.int .i64 0, .lst (some true) true 0 []] }]
def A103_r1 : List AO := [
  { dst := (some 20), op := .mov (.t 0) },
  { dst := (some 21), op := .faddr 8 (.t 3) },
  { dst := (some 22), op := .load false 1 (.t 21) },
  { dst := (some 23), op := .len (.t 22) },
  { dst := (some 24), op := .bin .lss (.t 20) (.t 23) },
  { dst := (some 25), op := .mov (.t 24) },
  { dst := (some 26), op := .load true 8 (.t 4), guard := some (25, true) },
  { dst := (some 27), op := .call false true (.f 104) [], guard := some (25, true) },
  { dst := (some 28), op := .eqs true [true, true, true, true, true, true, true, true] (.t 26) (.t 27), guard := some (25, true) },
  { dst := (some 29), op := .mov (.t 28), guard := some (25, true) },
  { dst := (some 30), op := .mov (.t 0), guard := some (29, true) },
  { dst := (some 31), op := .aaddr 1 8 (.t 4) (.t 30), guard := some (29, true) },
  { dst := (some 32), op := .load false 1 (.t 31), guard := some (29, true) },
  { dst := (some 33), op := .pick (.t 29) (.t 32) (.c (.bool false)), guard := some (25, true) },
  { dst := (some 34), op := .mov (.t 33), guard := some (25, true) },
  { dst := (some 35), op := .load true 2 (.t 9), guard := some (34, false) },
  { dst := (some 36), op := .load true 2 (.g 1), guard := some (34, false) },
  { dst := (some 37), op := .eqs true [false, false] (.t 35) (.t 36), guard := some (34, false) },
  { dst := (some 38), op := .mov (.t 37), guard := some (34, false) },
  { dst := (some 39), op := .faddr 8 (.t 3), guard := some (38, true) },
  { dst := (some 40), op := .load false 1 (.t 39), guard := some (38, true) },
  { dst := (some 41), op := .mov (.t 0), guard := some (38, true) },
  { dst := (some 42), op := .iaddr 1 (.t 40) (.t 41), guard := some (38, true) },
  { dst := (some 43), op := .load false 1 (.t 42), guard := some (38, true) },
  { dst := (some 44), op := .faddr 1 (.t 9), guard := some (38, true) },
  { dst := (some 45), op := .load false 1 (.t 44), guard := some (38, true) },
  { dst := (some 46), op := .faddr 0 (.t 3), guard := some (38, true) },
  { dst := (some 47), op := .load true 7 (.t 46), guard := some (38, true) },
  { dst := (some 48), op := .load true 2 (.t 9), guard := some (38, true) },
  { dst := (some 49), op := .call false true (.f 94) [.t 47, .t 48], guard := some (38, true) },
  { dst := (some 50), op := .call false true (.f 55) [.t 43, .t 45, .t 49], guard := some (38, true) },
  { dst := (some 51), op := .pick (.t 38) (.t 50) (.c (.bool false)), guard := some (34, false) },
  { dst := (some 52), op := .pick (.t 34) (.c (.bool true)) (.t 51), guard := some (25, true) },
  { dst := (some 53), op := .pick (.t 25) (.t 52) (.c (.bool false)) }]
def A103_r2 : List AO := [
  { dst := (some 54), op := .mov (.t 0) },
  { dst := (some 55), op := .bin .add (.t 54) (.c (.int .i64 1)) },
  { dst := (some 0), op := .mov (.t 55) }]
def A103_l0 : AC := .seq (.seq (.region A103_r1 (some [[], [], [1], [2], [0, 3], [4], [5], [5, 5], [6, 7, 5], [8, 7, 5], [9], [10, 9], [11, 9], [9, 12, 5], [13, 9, 5], [14], [14], [15, 16, 14], [17, 14, 14], [18], [19, 18], [18], [20, 21, 18], [22, 18], [18], [24, 18], [18], [26, 18], [18], [27, 28, 18, 18], [23, 25, 29, 29, 18], [18, 30, 14], [14, 31, 5], [5, 32]]) [0, 1, 3, 4, 5, 6, 9, 10, 53] [9, 10]) (.cond (.t 53) (.skip) (.exit 0))) (.block 1 (.region A103_r2 none [0, 1, 3, 4, 5, 6, 9, 10] [9, 10]))
def A103_r3 : List AO := [
  { dst := (some 56), op := .mov (.t 0) },
  { dst := (some 57), op := .faddr 8 (.t 3) },
  { dst := (some 58), op := .load false 1 (.t 57) },
  { dst := (some 59), op := .len (.t 58) },
  { dst := (some 60), op := .bin .eql (.t 56) (.t 59) }]
def A103_r4 : List AO := [
  { dst := (some 61), op := .build [.int .i64 0, .lst (some true) true 0 []] [] },
  { dst := none, op := .store 2 (.t 10) (.t 61) }]
def A103_r5 : List AO := [
  { dst := (some 62), op := .mov (.t 0) },
  { dst := (some 63), op := .mov (.t 1) },
  { dst := (some 64), op := .faddr 0 (.t 9) },
  { dst := (some 65), op := .load false 1 (.t 64) },
  { dst := (some 66), op := .faddr 1 (.t 9) },
  { dst := (some 67), op := .load false 1 (.t 66) },
  { dst := (some 68), op := .build [.int .i64 0, .int .i64 0, .int .i64 0, .int .i64 0] [(0, 1, .t 62), (1, 1, .t 63), (2, 1, .t 65), (3, 1, .t 67)] },
  { dst := (some 11), op := .new true [.int .i64 0, .int .i64 0, .int .i64 0, .int .i64 0] },
  { dst := none, op := .store 4 (.t 11) (.t 68) }]
def A103_r6 : List AO := [
  { dst := (some 70), op := .faddr 0 (.t 3) },
  { dst := (some 71), op := .faddr 6 (.t 70) },
  { dst := (some 72), op := .load false 1 (.t 71) },
  { dst := (some 73), op := .load true 4 (.t 11) },
  { dst := (some 74), op := .look [false, false, false, false] (.agg [.int .i64 0, .lst (some true) true 0 []]) true (.t 72) (.t 73) },
  { dst := (some 69), op := .mov (.t 74) },
  { dst := (some 75), op := .ext 0 (.t 69) },
  { dst := (some 76), op := .ext 1 (.t 69) },
  { dst := (some 12), op := .new true [.int .i64 0, .lst (some true) true 0 []] },
  { dst := none, op := .store 2 (.t 12) (.t 75) },
  { dst := (some 13), op := .mov (.t 76) }]
def A103_r7 : List AO := [
  { dst := (some 77), op := .mov (.t 13) }]
def A103_r8 : List AO := [
  { dst := (some 78), op := .load true 2 (.t 12) },
  { dst := none, op := .store 2 (.t 10) (.t 78) }]
def A103_r9 : List AO := [
  { dst := (some 79), op := .call false true (.f 105) [] },
  { dst := (some 14), op := .new true [.int .i64 0, .lst (some true) true 0 []] },
  { dst := none, op := .store 2 (.t 14) (.t 79) }]
def A103_r10 : List AO := [
  { dst := (some 80), op := .faddr 0 (.t 3) },
  { dst := (some 81), op := .faddr 0 (.t 80) },
  { dst := (some 82), op := .faddr 0 (.t 81) },
  { dst := (some 83), op := .load false 1 (.t 82) },
  { dst := (some 84), op := .len (.t 83) },
  { dst := (some 85), op := .mov (.c (.int .i64 0)) }]
def A103_r11 : List AO := [
  { dst := (some 86), op := .bin .lss (.t 85) (.t 84) }]
def A103_r12 : List AO := [
  { dst := (some 87), op := .mov (.t 85) },
  { dst := (some 15), op := .mov (.t 87) }]
def A103_r13 : List AO := [
  { dst := (some 88), op := .mov (.t 1) },
  { dst := (some 89), op := .bin .eql (.t 88) (.c (.int .i64 8)) }]
def A103_r14 : List AO := [
  { dst := (some 90), op := .faddr 0 (.t 3) },
  { dst := (some 91), op := .faddr 0 (.t 90) },
  { dst := (some 92), op := .faddr 0 (.t 91) },
  { dst := (some 93), op := .load false 1 (.t 92) },
  { dst := (some 94), op := .mov (.t 15) },
  { dst := (some 95), op := .iaddr 3 (.t 93) (.t 94) },
  { dst := (some 96), op := .faddr 0 (.t 95) },
  { dst := (some 97), op := .load false 1 (.t 96) },
  { dst := (some 98), op := .mov (.c (.int .i64 0)) }]
def A103_r15 : List AO := [
  { dst := (some 99), op := .bin .lss (.t 98) (.t 97) }]
def A103_r16 : List AO := [
  { dst := (some 100), op := .mov (.t 98) },
  { dst := (some 16), op := .mov (.t 100) }]
def A103_r17 : List AO := [
  { dst := (some 101), op := .mov (.t 15) },
  { dst := (some 102), op := .faddr 8 (.t 3) },
  { dst := (some 103), op := .load false 1 (.t 102) },
  { dst := (some 104), op := .mov (.t 0) },
  { dst := (some 105), op := .iaddr 1 (.t 103) (.t 104) },
  { dst := (some 106), op := .load false 1 (.t 105) },
  { dst := (some 107), op := .mov (.t 16) },
  { dst := (some 108), op := .bin .sub (.t 106) (.t 107) },
  { dst := (some 109), op := .build [.int .i64 0, .int .i64 0] [(0, 1, .t 101), (1, 1, .t 108)] },
  { dst := (some 17), op := .new true [.int .i64 0, .int .i64 0] },
  { dst := none, op := .store 2 (.t 17) (.t 109) }]
def A103_r18 : List AO := [
  { dst := (some 110), op := .faddr 1 (.t 17) },
  { dst := (some 111), op := .load false 1 (.t 110) },
  { dst := (some 112), op := .bin .lss (.t 111) (.c (.int .i64 0)) },
  { dst := (some 113), op := .mov (.t 112) },
  { dst := (some 114), op := .load true 9 (.t 3), guard := some (113, false) },
  { dst := (some 115), op := .load true 2 (.t 9), guard := some (113, false) },
  { dst := (some 116), op := .load true 2 (.t 17), guard := some (113, false) },
  { dst := (some 117), op := .call false true (.f 106) [.t 114, .t 115, .t 116], guard := some (113, false) },
  { dst := (some 118), op := .un .not (.t 117), guard := some (113, false) },
  { dst := (some 119), op := .pick (.t 113) (.c (.bool true)) (.t 118) }]
def A103_r19 : List AO := [
  { dst := (some 120), op := .load false 1 (.t 5) },
  { dst := (some 121), op := .mov (.t 0) },
  { dst := (some 122), op := .bin .add (.t 121) (.c (.int .i64 1)) },
  { dst := (some 123), op := .mov (.t 1) },
  { dst := (some 124), op := .bin .add (.t 123) (.c (.int .i64 1)) },
  { dst := (some 125), op := .load true 2 (.t 17) },
  { dst := (some 126), op := .call false true (.t 120) [.t 122, .t 124, .t 125] },
  { dst := (some 18), op := .new true [.int .i64 0, .lst (some true) true 0 []] },
  { dst := none, op := .store 2 (.t 18) (.t 126) }]
def A103_r20 : List AO := [
  { dst := (some 127), op := .faddr 0 (.t 18) },
  { dst := (some 128), op := .load false 1 (.t 127) },
  { dst := (some 129), op := .bin .lss (.t 128) (.c (.int .i64 0)) }]
def A103_r21 : List AO := [
  { dst := (some 130), op := .faddr 0 (.t 3) },
  { dst := (some 131), op := .faddr 0 (.t 130) },
  { dst := (some 132), op := .faddr 0 (.t 131) },
  { dst := (some 133), op := .load false 1 (.t 132) },
  { dst := (some 134), op := .mov (.t 15) },
  { dst := (some 135), op := .iaddr 3 (.t 133) (.t 134) },
  { dst := (some 136), op := .faddr 1 (.t 135) },
  { dst := (some 137), op := .load false 1 (.t 136) },
  { dst := (some 138), op := .faddr 0 (.t 18) },
  { dst := (some 139), op := .load false 1 (.t 138) },
  { dst := (some 140), op := .bslice true 1 2 [.int .i64 0, .int .i64 0] [(0, 1, .t 137), (1, 1, .t 139)] },
  { dst := (some 141), op := .call false true (.f 107) [.t 140] },
  { dst := (some 142), op := .load true 2 (.t 17) },
  { dst := (some 143), op := .bslice true 2 1 [.int .i64 0, .int .i64 0] [(0, 2, .t 142)] },
  { dst := (some 144), op := .faddr 1 (.t 18) },
  { dst := (some 145), op := .load false 1 (.t 144) },
  { dst := (some 146), op := .app 2 55 16 (.t 143) (.t 145) },
  { dst := (some 147), op := .build [.int .i64 0, .lst (some true) true 0 []] [(0, 1, .t 141), (1, 1, .t 146)] },
  { dst := (some 19), op := .new true [.int .i64 0, .lst (some true) true 0 []] },
  { dst := none, op := .store 2 (.t 19) (.t 147) }]
def A103_r22 : List AO := [
  { dst := (some 148), op := .faddr 0 (.t 14) },
  { dst := (some 149), op := .load false 1 (.t 148) },
  { dst := (some 150), op := .bin .lss (.t 149) (.c (.int .i64 0)) },
  { dst := (some 151), op := .mov (.t 150) },
  { dst := (some 152), op := .faddr 0 (.t 6), guard := some (151, false) },
  { dst := (some 153), op := .load false 1 (.t 152), guard := some (151, false) },
  { dst := (some 154), op := .load true 2 (.t 19), guard := some (151, false) },
  { dst := (some 155), op := .load true 2 (.t 14), guard := some (151, false) },
  { dst := (some 156), op := .call false true (.t 153) [.t 154, .t 155], guard := some (151, false) },
  { dst := (some 157), op := .bin .lss (.t 156) (.c (.int .i64 0)), guard := some (151, false) },
  { dst := (some 158), op := .pick (.t 151) (.c (.bool true)) (.t 157) }]
def A103_r23 : List AO := [
  { dst := (some 159), op := .load true 2 (.t 19) },
  { dst := none, op := .store 2 (.t 14) (.t 159) }]
def A103_r24 : List AO := [
  { dst := (some 160), op := .bin .add (.t 98) (.c (.int .i64 1)) },
  { dst := (some 98), op := .mov (.t 160) }]
def A103_l1 : AC := .seq (.region A103_r15 none [0, 1, 3, 5, 6, 9, 10, 11, 14, 15, 84, 85, 97, 98, 99] [9, 10, 11, 14]) (.seq (.cond (.t 99) (.skip) (.exit 4)) (.seq (.block 5 (.seq (.region A103_r16 none [0, 1, 3, 5, 6, 9, 10, 11, 14, 15, 16, 84, 85, 97, 98] [9, 10, 11, 14]) (.seq (.region A103_r17 none [0, 1, 3, 5, 6, 9, 10, 11, 14, 15, 17, 84, 85, 97, 98] [9, 10, 11, 14, 17]) (.seq (.seq (.region A103_r18 none [0, 1, 3, 5, 6, 9, 10, 11, 14, 15, 17, 84, 85, 97, 98, 119] [9, 10, 11, 14, 17]) (.cond (.t 119) (.exit 5) (.skip))) (.seq (.region A103_r19 none [0, 1, 3, 5, 6, 9, 10, 11, 14, 15, 17, 18, 84, 85, 97, 98] [9, 10, 11, 14, 17, 18]) (.seq (.seq (.region A103_r20 none [0, 1, 3, 5, 6, 9, 10, 11, 14, 15, 17, 18, 84, 85, 97, 98, 129] [9, 10, 11, 14, 17, 18]) (.cond (.t 129) (.exit 5) (.skip))) (.seq (.region A103_r21 (some [[], [0], [1], [2], [], [3, 4], [5], [6], [], [8], [7, 9], [10], [], [12], [], [14], [13, 15, 11], [11, 16], [], [18, 17, 16, 0, 1, 2, 3, 4, 5, 6, 7, 8, 9, 10, 11, 12, 13, 14, 15, 16, 17, 18]]) [0, 1, 3, 5, 6, 9, 10, 11, 14, 15, 19, 84, 85, 97, 98] [9, 10, 11, 14, 19]) (.seq (.region A103_r22 none [0, 1, 3, 5, 6, 9, 10, 11, 14, 15, 19, 84, 85, 97, 98, 158] [9, 10, 11, 14, 19]) (.cond (.t 158) (.region A103_r23 none [0, 1, 3, 5, 6, 9, 10, 11, 14, 15, 84, 85, 97, 98] [9, 10, 11, 14]) (.skip)))))))))) (.region A103_r24 none [0, 1, 3, 5, 6, 9, 10, 11, 14, 15, 84, 85, 97, 98] [9, 10, 11, 14])))
def A103_r25 : List AO := [
  { dst := (some 161), op := .bin .add (.t 85) (.c (.int .i64 1)) },
  { dst := (some 85), op := .mov (.t 161) }]
def A103_l2 : AC := .seq (.region A103_r11 none [0, 1, 3, 5, 6, 9, 10, 11, 14, 84, 85, 86] [9, 10, 11, 14]) (.seq (.cond (.t 86) (.skip) (.exit 2)) (.seq (.block 3 (.seq (.region A103_r12 none [0, 1, 3, 5, 6, 9, 10, 11, 14, 15, 84, 85] [9, 10, 11, 14]) (.seq (.seq (.region A103_r13 none [0, 1, 3, 5, 6, 9, 10, 11, 14, 15, 84, 85, 89] [9, 10, 11, 14]) (.cond (.t 89) (.exit 2) (.skip))) (.seq (.region A103_r14 none [0, 1, 3, 5, 6, 9, 10, 11, 14, 15, 84, 85, 97, 98] [9, 10, 11, 14]) (.block 4 (.loop [0, 1, 3, 5, 6, 9, 10, 11, 14, 15, 84, 85, 97, 98] [9, 10, 11, 14] A103_l1)))))) (.region A103_r25 none [0, 1, 3, 5, 6, 9, 10, 11, 14, 84, 85] [9, 10, 11, 14])))
def A103_r26 : List AO := [
  { dst := (some 162), op := .faddr 0 (.t 3) },
  { dst := (some 163), op := .faddr 6 (.t 162) },
  { dst := (some 164), op := .load false 1 (.t 163) },
  { dst := (some 165), op := .load true 4 (.t 11) },
  { dst := (some 166), op := .load true 2 (.t 14) },
  { dst := none, op := .upd [false, false, false, false] (.t 164) (.t 165) (.t 166) }]
def A103_r27 : List AO := [
  { dst := (some 167), op := .load true 2 (.t 14) },
  { dst := none, op := .store 2 (.t 10) (.t 167) }]
def A103 : AF := { np := 7, res := [.cell 10 true 2], body := (.seq (.region A103_r0 none [0, 1, 3, 4, 5, 6, 9, 10] [9, 10]) (.scope (.seq (.block 0 (.loop [0, 1, 3, 4, 5, 6, 9, 10] [9, 10] A103_l0)) (.seq (.seq (.region A103_r3 none [0, 1, 3, 5, 6, 9, 10, 60] [9, 10]) (.cond (.t 60) (.seq (.region A103_r4 none [10] [10]) (.ret)) (.skip))) (.seq (.region A103_r5 none [0, 1, 3, 5, 6, 9, 10, 11] [9, 10, 11]) (.seq (.seq (.region A103_r6 none [0, 1, 3, 5, 6, 9, 10, 11, 12, 13] [9, 10, 11, 12]) (.seq (.region A103_r7 none [0, 1, 3, 5, 6, 9, 10, 11, 12, 77] [9, 10, 11, 12]) (.cond (.t 77) (.seq (.region A103_r8 none [10] [10]) (.ret)) (.skip)))) (.seq (.region A103_r9 none [0, 1, 3, 5, 6, 9, 10, 11, 14] [9, 10, 11, 14]) (.seq (.skip) (.seq (.seq (.region A103_r10 none [0, 1, 3, 5, 6, 9, 10, 11, 14, 84, 85] [9, 10, 11, 14]) (.block 2 (.loop [0, 1, 3, 5, 6, 9, 10, 11, 14, 84, 85] [9, 10, 11, 14] A103_l2))) (.seq (.region A103_r26 none [10, 14] [10, 14]) (.seq (.region A103_r27 none [10] [10]) (.ret)))))))))))) }
/- bioscope.licence.nothing -/
def A104_r0 : List AO := [
  { dst := (some 0), op := .new true [.bool false, .bool false, .bool false, .bool false, .bool false, .bool false, .bool false, .bool false] }]
def A104_r1 : List AO := [
  { dst := (some 1), op := .new true [.bool false, .bool false, .bool false, .bool false, .bool false, .bool false, .bool false, .bool false] }]
def A104_r2 : List AO := [
  { dst := (some 2), op := .load true 8 (.t 1) },
  { dst := none, op := .store 8 (.t 0) (.t 2) }]
def A104 : AF := { np := 0, res := [.cell 0 true 8], body := (.seq (.region A104_r0 none [0] [0]) (.seq (.region A104_r1 none [0, 1] [0, 1]) (.seq (.region A104_r2 none [0] [0]) (.ret)))) }
/- bioscope.licence.none -/
def A105_r0 : List AO := [
  { dst := (some 0), op := .new true [.int .i64 0, .lst (some true) true 0 []] }]
def A105_r1 : List AO := [
  { dst := (some 1), op := .build [.int .i64 0, .lst (some true) true 0 []] [(0, 1, .c (.int .i64 (-1)))] },
  { dst := none, op := .store 2 (.t 0) (.t 1) }]
def A105 : AF := { np := 0, res := [.cell 0 true 2], body := (.seq (.region A105_r0 none [0] [0]) (.seq (.region A105_r1 none [0] [0]) (.ret))) }
/- (bioscope.licence.wanted).can -/
def A106_r0 : List AO := [
  { dst := (some 3), op := .box false (.t 0) },
  { dst := (some 4), op := .box true (.t 1) },
  { dst := (some 5), op := .box false (.t 2) },
  { dst := (some 6), op := .mov (.c (.bool false)) }]
def A106_r1 : List AO := [
  { dst := (some 7), op := .faddr 1 (.t 5) },
  { dst := (some 8), op := .load false 1 (.t 7) },
  { dst := (some 9), op := .faddr 7 (.t 3) },
  { dst := (some 10), op := .load false 1 (.t 9) },
  { dst := (some 11), op := .bin .sub (.t 8) (.t 10) },
  { dst := (some 12), op := .faddr 0 (.t 3) },
  { dst := (some 13), op := .faddr 0 (.t 12) },
  { dst := (some 14), op := .faddr 0 (.t 13) },
  { dst := (some 15), op := .load false 1 (.t 14) },
  { dst := (some 16), op := .faddr 0 (.t 5) },
  { dst := (some 17), op := .load false 1 (.t 16) },
  { dst := (some 18), op := .iaddr 3 (.t 15) (.t 17) },
  { dst := (some 19), op := .faddr 2 (.t 18) },
  { dst := (some 20), op := .load false 1 (.t 19) },
  { dst := (some 21), op := .bin .lss (.t 11) (.t 20) },
  { dst := (some 22), op := .mov (.t 21) },
  { dst := (some 23), op := .load true 2 (.t 4), guard := some (22, false) },
  { dst := (some 24), op := .load true 2 (.g 1), guard := some (22, false) },
  { dst := (some 25), op := .eqs true [false, false] (.t 23) (.t 24), guard := some (22, false) },
  { dst := (some 26), op := .mov (.t 25), guard := some (22, false) },
  { dst := (some 27), op := .faddr 1 (.t 5), guard := some (26, true) },
  { dst := (some 28), op := .load false 1 (.t 27), guard := some (26, true) },
  { dst := (some 29), op := .faddr 1 (.t 4), guard := some (26, true) },
  { dst := (some 30), op := .load false 1 (.t 29), guard := some (26, true) },
  { dst := (some 31), op := .bin .gtr (.t 28) (.t 30), guard := some (26, true) },
  { dst := (some 32), op := .mov (.t 31), guard := some (26, true) },
  { dst := (some 33), op := .faddr 0 (.t 3), guard := some (32, true) },
  { dst := (some 34), op := .load true 7 (.t 33), guard := some (32, true) },
  { dst := (some 35), op := .load true 2 (.t 4), guard := some (32, true) },
  { dst := (some 36), op := .load true 2 (.t 5), guard := some (32, true) },
  { dst := (some 37), op := .call false true (.f 88) [.t 34, .t 35, .t 36], guard := some (32, true) },
  { dst := (some 38), op := .pick (.t 32) (.t 37) (.c (.bool false)), guard := some (26, true) },
  { dst := (some 39), op := .un .not (.t 38), guard := some (26, true) },
  { dst := (some 40), op := .pick (.t 26) (.t 39) (.c (.bool false)), guard := some (22, false) },
  { dst := (some 41), op := .pick (.t 22) (.c (.bool true)) (.t 40) }]
def A106_r2 : List AO := [
  { dst := (some 6), op := .mov (.c (.bool false)) }]
def A106_r3 : List AO := [
  { dst := (some 42), op := .faddr 0 (.t 3) },
  { dst := (some 43), op := .faddr 0 (.t 42) },
  { dst := (some 44), op := .faddr 5 (.t 43) },
  { dst := (some 45), op := .load false 1 (.t 44) },
  { dst := (some 46), op := .mkf 110 [] [.t 3, .t 5] },
  { dst := (some 47), op := .call false true (.f 69) [.t 45, .t 46] },
  { dst := (some 48), op := .un .not (.t 47) },
  { dst := (some 6), op := .mov (.t 48) }]
def A106 : AF := { np := 3, res := [.tmp 6], body := (.seq (.region A106_r0 none [3, 4, 5] [4]) (.seq (.seq (.region A106_r1 (some [[], [0], [], [2], [1, 3], [], [5], [6], [7], [], [9], [8, 10], [11], [12], [4, 13], [14], [15], [15], [16, 17, 15], [18, 15, 15], [19], [20, 19], [19], [22, 19], [21, 23, 19], [24, 19, 19], [25], [26, 25], [25], [25], [27, 28, 29, 25, 25], [25, 30, 19], [31, 19], [19, 32, 15], [15, 33]]) [3, 5, 41] []) (.cond (.t 41) (.seq (.region A106_r2 none [6] []) (.ret)) (.skip))) (.seq (.region A106_r3 none [6] []) (.ret)))) }
/- bioscope.licence.sum[int] -/
def A107_r0 : List AO := [
  { dst := (some 2), op := .mov (.c (.int .i64 0)) }]
def A107_r1 : List AO := [
  { dst := (some 3), op := .mov (.c (.int .i64 0)) }]
def A107_r2 : List AO := [
  { dst := (some 6), op := .mov (.t 0) },
  { dst := (some 7), op := .len (.t 6) },
  { dst := (some 8), op := .mov (.c (.int .i64 0)) }]
def A107_r3 : List AO := [
  { dst := (some 9), op := .bin .lss (.t 8) (.t 7) }]
def A107_r4 : List AO := [
  { dst := (some 10), op := .iaddr 1 (.t 6) (.t 8) },
  { dst := (some 11), op := .load false 1 (.t 10) },
  { dst := (some 5), op := .mov (.t 11) }]
def A107_r5 : List AO := [
  { dst := (some 12), op := .mov (.t 3) },
  { dst := (some 13), op := .mov (.t 5) },
  { dst := (some 14), op := .bin .add (.t 12) (.t 13) },
  { dst := (some 3), op := .mov (.t 14) }]
def A107_r6 : List AO := [
  { dst := (some 15), op := .bin .add (.t 8) (.c (.int .i64 1)) },
  { dst := (some 8), op := .mov (.t 15) }]
def A107_l0 : AC := .seq (.region A107_r3 none [3, 6, 7, 8, 9] []) (.seq (.cond (.t 9) (.skip) (.exit 0)) (.seq (.block 1 (.seq (.region A107_r4 none [3, 5, 6, 7, 8] []) (.region A107_r5 none [3, 6, 7, 8] []))) (.region A107_r6 none [3, 6, 7, 8] [])))
def A107_r7 : List AO := [
  { dst := (some 16), op := .mov (.t 3) },
  { dst := (some 2), op := .mov (.t 16) }]
def A107 : AF := { np := 1, res := [.tmp 2], body := (.seq (.region A107_r0 none [0] []) (.seq (.region A107_r1 none [0, 3] []) (.seq (.seq (.region A107_r2 none [3, 6, 7, 8] []) (.block 0 (.loop [3, 6, 7, 8] [] A107_l0))) (.seq (.region A107_r7 none [2] []) (.ret))))) }
/- slices.ContainsFunc[[]int,int] -/
def A108_r0 : List AO := [
  { dst := (some 4), op := .mov (.c (.bool false)) }]
def A108_r1 : List AO := [
  { dst := (some 5), op := .mov (.t 0) },
  { dst := (some 6), op := .mov (.t 1) },
  { dst := (some 7), op := .call false true (.f 111) [.t 5, .t 6] },
  { dst := (some 8), op := .bin .geq (.t 7) (.c (.int .i64 0)) },
  { dst := (some 4), op := .mov (.t 8) }]
def A108 : AF := { np := 2, res := [.tmp 4], body := (.seq (.region A108_r0 none [0, 1] []) (.seq (.region A108_r1 none [4] []) (.ret))) }
/- bioscope.licence.cheaper$1 -/
def A109_r0 : List AO := [
  { dst := (some 2), op := .box true (.t 0) },
  { dst := (some 3), op := .box true (.t 1) },
  { dst := (some 4), op := .mov (.c (.int .i64 0)) }]
def A109_r1 : List AO := [
  { dst := (some 5), op := .faddr 0 (.t 2) },
  { dst := (some 6), op := .load false 1 (.t 5) },
  { dst := (some 7), op := .faddr 0 (.t 3) },
  { dst := (some 8), op := .load false 1 (.t 7) },
  { dst := (some 9), op := .call false true (.f 79) [.t 6, .t 8] },
  { dst := (some 10), op := .faddr 1 (.t 2) },
  { dst := (some 11), op := .load false 1 (.t 10) },
  { dst := (some 12), op := .len (.t 11) },
  { dst := (some 13), op := .faddr 1 (.t 3) },
  { dst := (some 14), op := .load false 1 (.t 13) },
  { dst := (some 15), op := .len (.t 14) },
  { dst := (some 16), op := .call false true (.f 79) [.t 12, .t 15] },
  { dst := (some 17), op := .bslice true 1 2 [.int .i64 0, .int .i64 0] [(0, 1, .t 9), (1, 1, .t 16)] },
  { dst := (some 18), op := .call false true (.f 78) [.t 17] },
  { dst := (some 4), op := .mov (.t 18) }]
def A109 : AF := { np := 2, res := [.tmp 4], body := (.seq (.region A109_r0 none [2, 3] [2, 3]) (.seq (.region A109_r1 (some [[], [0], [], [2], [1, 3], [], [5], [6], [], [8], [9], [7, 10, 4], [4, 11], [12, 11], [13, 13, 0, 1, 2, 3, 4, 5, 6, 7, 8, 9, 10, 11, 12, 13]]) [4] []) (.ret))) }
/- (bioscope.licence.wanted).can$1 -/
def A110_r0 : List AO := [
  { dst := (some 3), op := .box true (.t 0) },
  { dst := (some 4), op := .mov (.c (.bool false)) }]
def A110_r1 : List AO := [
  { dst := (some 5), op := .faddr 0 (.t 1) },
  { dst := (some 6), op := .load true 7 (.t 5) },
  { dst := (some 7), op := .load true 2 (.t 2) },
  { dst := (some 8), op := .load true 2 (.t 3) },
  { dst := (some 9), op := .call false true (.f 88) [.t 6, .t 7, .t 8] },
  { dst := (some 10), op := .un .not (.t 9) },
  { dst := (some 4), op := .mov (.t 10) }]
def A110 : AF := { np := 3, res := [.tmp 4], body := (.seq (.region A110_r0 none [1, 2, 3] [3]) (.seq (.region A110_r1 none [4] []) (.ret))) }
/- slices.IndexFunc[[]int,int] -/
def A111_r0 : List AO := [
  { dst := (some 4), op := .mov (.c (.int .i64 0)) }]
def A111_r1 : List AO := [
  { dst := (some 6), op := .mov (.t 0) },
  { dst := (some 7), op := .len (.t 6) },
  { dst := (some 8), op := .mov (.c (.int .i64 0)) }]
def A111_r2 : List AO := [
  { dst := (some 9), op := .bin .lss (.t 8) (.t 7) }]
def A111_r3 : List AO := [
  { dst := (some 10), op := .mov (.t 8) },
  { dst := (some 5), op := .mov (.t 10) }]
def A111_r4 : List AO := [
  { dst := (some 11), op := .mov (.t 1) },
  { dst := (some 12), op := .mov (.t 0) },
  { dst := (some 13), op := .mov (.t 5) },
  { dst := (some 14), op := .iaddr 1 (.t 12) (.t 13) },
  { dst := (some 15), op := .load false 1 (.t 14) },
  { dst := (some 16), op := .call false true (.t 11) [.t 15] }]
def A111_r5 : List AO := [
  { dst := (some 17), op := .mov (.t 5) },
  { dst := (some 4), op := .mov (.t 17) }]
def A111_r6 : List AO := [
  { dst := (some 18), op := .bin .add (.t 8) (.c (.int .i64 1)) },
  { dst := (some 8), op := .mov (.t 18) }]
def A111_l0 : AC := .seq (.region A111_r2 none [0, 1, 7, 8, 9] []) (.seq (.cond (.t 9) (.skip) (.exit 0)) (.seq (.block 1 (.seq (.region A111_r3 none [0, 1, 5, 7, 8] []) (.seq (.region A111_r4 none [0, 1, 5, 7, 8, 16] []) (.cond (.t 16) (.seq (.region A111_r5 none [4] []) (.ret)) (.skip))))) (.region A111_r6 none [0, 1, 7, 8] [])))
def A111_r7 : List AO := [
  { dst := (some 4), op := .mov (.c (.int .i64 (-1))) }]
def A111 : AF := { np := 2, res := [.tmp 4], body := (.seq (.region A111_r0 none [0, 1] []) (.seq (.seq (.region A111_r1 none [0, 1, 7, 8] []) (.block 0 (.loop [0, 1, 7, 8] [] A111_l0))) (.seq (.region A111_r7 none [4] []) (.ret)))) }
/- (bioscope.licence.town).uncovered -/
def A128_r0 : List AO := [
  { dst := (some 2), op := .box true (.t 0) },
  { dst := (some 3), op := .box true (.t 1) },
  { dst := (some 4), op := .mov (.c (.bool false)) }]
def A128_r1 : List AO := [
  { dst := (some 5), op := .load true 7 (.t 2) },
  { dst := (some 6), op := .faddr 0 (.t 2) },
  { dst := (some 7), op := .faddr 5 (.t 6) },
  { dst := (some 8), op := .load false 1 (.t 7) },
  { dst := (some 9), op := .faddr 0 (.t 3) },
  { dst := (some 10), op := .load false 1 (.t 9) },
  { dst := (some 11), op := .call false true (.f 72) [.t 5, .t 8, .t 10] },
  { dst := (some 12), op := .un .not (.t 11) },
  { dst := (some 4), op := .mov (.t 12) }]
def A128 : AF := { np := 2, res := [.tmp 4], body := (.seq (.region A128_r0 none [2, 3] [2, 3]) (.seq (.region A128_r1 none [4] []) (.ret))) }
/- (bioscope.licence.town).barred -/
def A129_r0 : List AO := [
  { dst := (some 2), op := .box true (.t 0) },
  { dst := (some 3), op := .box true (.t 1) },
  { dst := (some 4), op := .mov (.c (.bool false)) }]
def A129_r1 : List AO := [
  { dst := (some 5), op := .load true 7 (.t 2) },
  { dst := (some 6), op := .faddr 0 (.t 3) },
  { dst := (some 7), op := .load false 1 (.t 6) },
  { dst := (some 8), op := .call false true (.f 73) [.t 5, .t 7] },
  { dst := (some 4), op := .mov (.t 8) }]
def A129 : AF := { np := 2, res := [.tmp 4], body := (.seq (.region A129_r0 none [2, 3] [2, 3]) (.seq (.region A129_r1 none [4] []) (.ret))) }
/- (bioscope.licence.town).forbidden -/
def A130_r0 : List AO := [
  { dst := (some 2), op := .box true (.t 0) },
  { dst := (some 3), op := .box true (.t 1) },
  { dst := (some 4), op := .mov (.c (.bool false)) }]
def A130_r1 : List AO := [
  { dst := (some 5), op := .faddr 0 (.t 2) },
  { dst := (some 6), op := .faddr 3 (.t 5) },
  { dst := (some 7), op := .load false 1 (.t 6) },
  { dst := (some 8), op := .faddr 1 (.t 3) },
  { dst := (some 9), op := .load false 1 (.t 8) },
  { dst := (some 10), op := .bin .shr (.t 7) (.t 9) },
  { dst := (some 11), op := .bin .and (.t 10) (.c (.int .i64 1)) },
  { dst := (some 12), op := .bin .eql (.t 11) (.c (.int .i64 1)) },
  { dst := (some 4), op := .mov (.t 12) }]
def A130 : AF := { np := 2, res := [.tmp 4], body := (.seq (.region A130_r0 none [2, 3] [2, 3]) (.seq (.region A130_r1 none [4] []) (.ret))) }
/- (bioscope.licence.town).late -/
def A131_r0 : List AO := [
  { dst := (some 2), op := .box true (.t 0) },
  { dst := (some 3), op := .box true (.t 1) },
  { dst := (some 4), op := .mov (.c (.bool false)) }]
def A131_r1 : List AO := [
  { dst := (some 5), op := .faddr 2 (.t 3) },
  { dst := (some 6), op := .load false 1 (.t 5) },
  { dst := (some 7), op := .faddr 0 (.t 2) },
  { dst := (some 8), op := .faddr 4 (.t 7) },
  { dst := (some 9), op := .load false 1 (.t 8) },
  { dst := (some 10), op := .bin .gtr (.t 6) (.t 9) },
  { dst := (some 4), op := .mov (.t 10) }]
def A131 : AF := { np := 2, res := [.tmp 4], body := (.seq (.region A131_r0 none [2, 3] [2, 3]) (.seq (.region A131_r1 none [4] []) (.ret))) }
def fnsL : List (Nat × AF) := [(9, A9), (14, A14), (16, A16), (18, A18), (20, A20), (21, A21), (23, A23), (24, A24), (26, A26), (29, A29), (30, A30), (31, A31), (33, A33), (35, A35), (36, A36), (37, A37), (39, A39), (40, A40), (42, A42), (43, A43), (44, A44), (45, A45), (46, A46), (49, A49), (50, A50), (51, A51), (52, A52), (53, A53), (54, A54), (55, A55), (57, A57), (58, A58), (61, A61), (62, A62), (63, A63), (64, A64), (65, A65), (68, A68), (69, A69), (70, A70), (71, A71), (72, A72), (73, A73), (76, A76), (77, A77), (78, A78), (79, A79), (80, A80), (82, A82), (84, A84), (85, A85), (88, A88), (91, A91), (92, A92), (93, A93), (94, A94), (95, A95), (96, A96), (98, A98), (99, A99), (100, A100), (101, A101), (102, A102), (103, A103), (104, A104), (105, A105), (106, A106), (107, A107), (108, A108), (109, A109), (110, A110), (111, A111), (128, A128), (129, A129), (130, A130), (131, A131)]
def fns (f : Nat) : Option AF := match f with
  | 9 => some A9
  | 14 => some A14
  | 16 => some A16
  | 18 => some A18
  | 20 => some A20
  | 21 => some A21
  | 23 => some A23
  | 24 => some A24
  | 26 => some A26
  | 29 => some A29
  | 30 => some A30
  | 31 => some A31
  | 33 => some A33
  | 35 => some A35
  | 36 => some A36
  | 37 => some A37
  | 39 => some A39
  | 40 => some A40
  | 42 => some A42
  | 43 => some A43
  | 44 => some A44
  | 45 => some A45
  | 46 => some A46
  | 49 => some A49
  | 50 => some A50
  | 51 => some A51
  | 52 => some A52
  | 53 => some A53
  | 54 => some A54
  | 55 => some A55
  | 57 => some A57
  | 58 => some A58
  | 61 => some A61
  | 62 => some A62
  | 63 => some A63
  | 64 => some A64
  | 65 => some A65
  | 68 => some A68
  | 69 => some A69
  | 70 => some A70
  | 71 => some A71
  | 72 => some A72
  | 73 => some A73
  | 76 => some A76
  | 77 => some A77
  | 78 => some A78
  | 79 => some A79
  | 80 => some A80
  | 82 => some A82
  | 84 => some A84
  | 85 => some A85
  | 88 => some A88
  | 91 => some A91
  | 92 => some A92
  | 93 => some A93
  | 94 => some A94
  | 95 => some A95
  | 96 => some A96
  | 98 => some A98
  | 99 => some A99
  | 100 => some A100
  | 101 => some A101
  | 102 => some A102
  | 103 => some A103
  | 104 => some A104
  | 105 => some A105
  | 106 => some A106
  | 107 => some A107
  | 108 => some A108
  | 109 => some A109
  | 110 => some A110
  | 111 => some A111
  | 128 => some A128
  | 129 => some A129
  | 130 => some A130
  | 131 => some A131
  | _ => none
end Go.Proofs.Tryd
