/-
  The functions' code, resolved: printed by gen.py out of the translation.
-/
import Derived.Test.YtkifeiienlkmcaaDoorAmA
set_option linter.all false
namespace Go.Proofs.Tryd
open Go Go.Proofs.AM
/- bioscope.bioscopelaw05.LicenceWhys -/
def A3_r0 : List AO := [
  { dst := (some 3), op := .box true (.t 0) },
  { dst := (some 4), op := .box true (.t 1) },
  { dst := (some 5), op := .box true (.t 2) },
  { dst := (some 6), op := .mov (.c (.bool false)) }]
def A3_r1 : List AO := [
  { dst := (some 14), op := .load true 6 (.t 3) },
  { dst := (some 15), op := .aaddr 1 3 (.t 4) (.c (.int .i64 0)) },
  { dst := (some 16), op := .load false 1 (.t 15) },
  { dst := (some 17), op := .aaddr 1 3 (.t 4) (.c (.int .i64 1)) },
  { dst := (some 18), op := .load false 1 (.t 17) },
  { dst := (some 19), op := .aaddr 1 3 (.t 4) (.c (.int .i64 2)) },
  { dst := (some 20), op := .load false 1 (.t 19) },
  { dst := (some 21), op := .call false true (.f 14) [.t 14, .t 16, .t 18, .t 20] },
  { dst := (some 13), op := .mov (.t 21) },
  { dst := (some 22), op := .ext 0 (.t 13) },
  { dst := (some 23), op := .ext 1 (.t 13) },
  { dst := (some 7), op := .mov (.t 22) },
  { dst := (some 8), op := .mov (.t 23) }]
def A3_r2 : List AO := [
  { dst := (some 25), op := .load true 6 (.t 3) },
  { dst := (some 26), op := .aaddr 1 3 (.t 4) (.c (.int .i64 0)) },
  { dst := (some 27), op := .load false 1 (.t 26) },
  { dst := (some 28), op := .aaddr 1 3 (.t 4) (.c (.int .i64 1)) },
  { dst := (some 29), op := .load false 1 (.t 28) },
  { dst := (some 30), op := .aaddr 1 3 (.t 4) (.c (.int .i64 2)) },
  { dst := (some 31), op := .load false 1 (.t 30) },
  { dst := (some 32), op := .call false true (.f 15) [.t 25, .t 27, .t 29, .t 31] },
  { dst := (some 24), op := .mov (.t 32) },
  { dst := (some 33), op := .ext 0 (.t 24) },
  { dst := (some 34), op := .ext 1 (.t 24) },
  { dst := (some 9), op := .mov (.t 33) },
  { dst := (some 10), op := .mov (.t 34) }]
def A3_r3 : List AO := [
  { dst := (some 35), op := .mov (.t 7) },
  { dst := (some 36), op := .mov (.t 9) },
  { dst := (some 37), op := .bin .neq (.t 35) (.t 36) },
  { dst := (some 38), op := .mov (.t 37) },
  { dst := (some 39), op := .mov (.t 8), guard := some (38, false) },
  { dst := (some 40), op := .mov (.t 10), guard := some (38, false) },
  { dst := (some 41), op := .bin .neq (.t 39) (.t 40), guard := some (38, false) },
  { dst := (some 42), op := .pick (.t 38) (.c (.bool true)) (.t 41) },
  { dst := (some 43), op := .mov (.t 42) },
  { dst := (some 44), op := .load true 6 (.t 3), guard := some (43, false) },
  { dst := (some 45), op := .call false true (.f 16) [.t 44], guard := some (43, false) },
  { dst := (some 46), op := .load true 6 (.t 3), guard := some (43, false) },
  { dst := (some 47), op := .call false true (.f 17) [.t 46], guard := some (43, false) },
  { dst := (some 48), op := .bin .neq (.t 45) (.t 47), guard := some (43, false) },
  { dst := (some 49), op := .pick (.t 43) (.c (.bool true)) (.t 48) }]
def A3_r4 : List AO := [
  { dst := (some 6), op := .mov (.c (.bool false)) }]
def A3_r5 : List AO := [
  { dst := (some 51), op := .load true 6 (.t 3) },
  { dst := (some 52), op := .aaddr 2 2 (.t 5) (.c (.int .i64 0)) },
  { dst := (some 53), op := .load true 2 (.t 52) },
  { dst := (some 54), op := .call false true (.f 18) [.t 51, .t 53] },
  { dst := (some 50), op := .mov (.t 54) },
  { dst := (some 55), op := .ext 0 (.t 50) },
  { dst := (some 56), op := .ext 1 (.t 50) },
  { dst := (some 11), op := .mov (.t 55) },
  { dst := (some 8), op := .mov (.t 56) }]
def A3_r6 : List AO := [
  { dst := (some 58), op := .load true 6 (.t 3) },
  { dst := (some 59), op := .aaddr 2 2 (.t 5) (.c (.int .i64 0)) },
  { dst := (some 60), op := .load true 2 (.t 59) },
  { dst := (some 61), op := .call false true (.f 19) [.t 58, .t 60] },
  { dst := (some 57), op := .mov (.t 61) },
  { dst := (some 62), op := .ext 0 (.t 57) },
  { dst := (some 63), op := .ext 1 (.t 57) },
  { dst := (some 12), op := .mov (.t 62) },
  { dst := (some 10), op := .mov (.t 63) }]
def A3_r7 : List AO := [
  { dst := (some 64), op := .mov (.t 11) },
  { dst := (some 65), op := .mov (.t 12) },
  { dst := (some 66), op := .call false true (.f 20) [.t 64, .t 65] },
  { dst := (some 67), op := .un .not (.t 66) },
  { dst := (some 68), op := .mov (.t 67) },
  { dst := (some 69), op := .mov (.t 8), guard := some (68, false) },
  { dst := (some 70), op := .mov (.t 10), guard := some (68, false) },
  { dst := (some 71), op := .bin .neq (.t 69) (.t 70), guard := some (68, false) },
  { dst := (some 72), op := .pick (.t 68) (.c (.bool true)) (.t 71) }]
def A3_r8 : List AO := [
  { dst := (some 6), op := .mov (.c (.bool false)) }]
def A3_r9 : List AO := [
  { dst := (some 74), op := .load true 6 (.t 3) },
  { dst := (some 75), op := .aaddr 1 3 (.t 4) (.c (.int .i64 2)) },
  { dst := (some 76), op := .load false 1 (.t 75) },
  { dst := (some 77), op := .aaddr 2 2 (.t 5) (.c (.int .i64 1)) },
  { dst := (some 78), op := .load true 2 (.t 77) },
  { dst := (some 79), op := .call false true (.f 21) [.t 74, .t 76, .t 78] },
  { dst := (some 73), op := .mov (.t 79) },
  { dst := (some 80), op := .ext 0 (.t 73) },
  { dst := (some 81), op := .ext 1 (.t 73) },
  { dst := (some 7), op := .mov (.t 80) },
  { dst := (some 8), op := .mov (.t 81) }]
def A3_r10 : List AO := [
  { dst := (some 83), op := .load true 6 (.t 3) },
  { dst := (some 84), op := .aaddr 1 3 (.t 4) (.c (.int .i64 2)) },
  { dst := (some 85), op := .load false 1 (.t 84) },
  { dst := (some 86), op := .aaddr 2 2 (.t 5) (.c (.int .i64 1)) },
  { dst := (some 87), op := .load true 2 (.t 86) },
  { dst := (some 88), op := .call false true (.f 22) [.t 83, .t 85, .t 87] },
  { dst := (some 82), op := .mov (.t 88) },
  { dst := (some 89), op := .ext 0 (.t 82) },
  { dst := (some 90), op := .ext 1 (.t 82) },
  { dst := (some 9), op := .mov (.t 89) },
  { dst := (some 10), op := .mov (.t 90) }]
def A3_r11 : List AO := [
  { dst := (some 91), op := .mov (.t 7) },
  { dst := (some 92), op := .mov (.t 9) },
  { dst := (some 93), op := .bin .eql (.t 91) (.t 92) },
  { dst := (some 94), op := .mov (.t 93) },
  { dst := (some 95), op := .mov (.t 8), guard := some (94, true) },
  { dst := (some 96), op := .mov (.t 10), guard := some (94, true) },
  { dst := (some 97), op := .bin .eql (.t 95) (.t 96), guard := some (94, true) },
  { dst := (some 98), op := .pick (.t 94) (.t 97) (.c (.bool false)) },
  { dst := (some 99), op := .mov (.t 98) },
  { dst := (some 100), op := .call false true (.f 23) [], guard := some (99, true) },
  { dst := (some 101), op := .pick (.t 99) (.t 100) (.c (.bool false)) },
  { dst := (some 6), op := .mov (.t 101) }]
def A3 : AF := { np := 3, res := [.tmp 6], body := (.seq (.region A3_r0 none [3, 4, 5] [3, 4, 5]) (.seq (.region A3_r1 none [3, 4, 5, 7, 8] [3, 4, 5]) (.seq (.region A3_r2 none [3, 4, 5, 7, 8, 9, 10] [3, 4, 5]) (.seq (.seq (.region A3_r3 (some [[], [], [0, 1], [2], [3], [3], [4, 5, 3], [3, 6], [7, 3], [8], [9, 8, 8], [8], [11, 10, 8], [10, 12, 8], [8, 13]]) [3, 4, 5, 49] [3, 4, 5]) (.cond (.t 49) (.seq (.region A3_r4 none [6] []) (.ret)) (.skip))) (.seq (.region A3_r5 none [3, 4, 5, 8, 11] [3, 4, 5]) (.seq (.region A3_r6 none [3, 4, 5, 8, 10, 11, 12] [3, 4, 5]) (.seq (.seq (.region A3_r7 none [3, 4, 5, 72] [3, 4, 5]) (.cond (.t 72) (.seq (.region A3_r8 none [6] []) (.ret)) (.skip))) (.seq (.region A3_r9 none [3, 4, 5, 7, 8] [3, 4, 5]) (.seq (.region A3_r10 none [7, 8, 9, 10] []) (.seq (.region A3_r11 none [6] []) (.ret))))))))))) }
/- bioscope.bioscopelaw05.LicencePlans -/
def A4_r0 : List AO := [
  { dst := (some 4), op := .box true (.t 0) },
  { dst := (some 8), op := .mov (.c (.bool false)) }]
def A4_r1 : List AO := [
  { dst := (some 16), op := .load true 6 (.t 4) },
  { dst := (some 17), op := .mov (.t 1) },
  { dst := (some 18), op := .mov (.t 2) },
  { dst := (some 19), op := .call false true (.f 24) [.t 16, .t 17, .t 18] },
  { dst := (some 15), op := .mov (.t 19) },
  { dst := (some 20), op := .ext 0 (.t 15) },
  { dst := (some 21), op := .ext 1 (.t 15) },
  { dst := (some 9), op := .mov (.t 20) },
  { dst := (some 10), op := .mov (.t 21) }]
def A4_r2 : List AO := [
  { dst := (some 23), op := .load true 6 (.t 4) },
  { dst := (some 24), op := .mov (.t 1) },
  { dst := (some 25), op := .mov (.t 2) },
  { dst := (some 26), op := .call false true (.f 25) [.t 23, .t 24, .t 25] },
  { dst := (some 22), op := .mov (.t 26) },
  { dst := (some 27), op := .ext 0 (.t 22) },
  { dst := (some 28), op := .ext 1 (.t 22) },
  { dst := (some 11), op := .mov (.t 27) },
  { dst := (some 12), op := .mov (.t 28) }]
def A4_r3 : List AO := [
  { dst := (some 29), op := .mov (.t 9) },
  { dst := (some 30), op := .mov (.t 11) },
  { dst := (some 31), op := .eqb true (.t 29) (.t 30) },
  { dst := (some 32), op := .mov (.t 31) },
  { dst := (some 33), op := .mov (.t 10), guard := some (32, false) },
  { dst := (some 34), op := .mov (.t 12), guard := some (32, false) },
  { dst := (some 35), op := .bin .neq (.t 33) (.t 34), guard := some (32, false) },
  { dst := (some 36), op := .pick (.t 32) (.c (.bool true)) (.t 35) }]
def A4_r4 : List AO := [
  { dst := (some 8), op := .mov (.c (.bool false)) }]
def A4_r5 : List AO := [
  { dst := (some 38), op := .load true 6 (.t 4) },
  { dst := (some 39), op := .mov (.t 2) },
  { dst := (some 40), op := .mov (.t 3) },
  { dst := (some 41), op := .call false true (.f 26) [.t 38, .t 39, .t 40] },
  { dst := (some 37), op := .mov (.t 41) },
  { dst := (some 42), op := .ext 0 (.t 37) },
  { dst := (some 43), op := .ext 1 (.t 37) },
  { dst := (some 13), op := .mov (.t 42) },
  { dst := (some 10), op := .mov (.t 43) }]
def A4_r6 : List AO := [
  { dst := (some 45), op := .load true 6 (.t 4) },
  { dst := (some 46), op := .mov (.t 2) },
  { dst := (some 47), op := .mov (.t 3) },
  { dst := (some 48), op := .call false true (.f 27) [.t 45, .t 46, .t 47] },
  { dst := (some 44), op := .mov (.t 48) },
  { dst := (some 49), op := .ext 0 (.t 44) },
  { dst := (some 50), op := .ext 1 (.t 44) },
  { dst := (some 14), op := .mov (.t 49) },
  { dst := (some 12), op := .mov (.t 50) }]
def A4_r7 : List AO := [
  { dst := (some 51), op := .mov (.t 13) },
  { dst := (some 52), op := .mov (.t 14) },
  { dst := (some 53), op := .call false true (.f 20) [.t 51, .t 52] },
  { dst := (some 54), op := .mov (.t 53) },
  { dst := (some 55), op := .mov (.t 10), guard := some (54, true) },
  { dst := (some 56), op := .mov (.t 12), guard := some (54, true) },
  { dst := (some 57), op := .bin .eql (.t 55) (.t 56), guard := some (54, true) },
  { dst := (some 58), op := .pick (.t 54) (.t 57) (.c (.bool false)) },
  { dst := (some 59), op := .mov (.t 58) },
  { dst := (some 60), op := .call false true (.f 23) [], guard := some (59, true) },
  { dst := (some 61), op := .pick (.t 59) (.t 60) (.c (.bool false)) },
  { dst := (some 8), op := .mov (.t 61) }]
def A4 : AF := { np := 4, res := [.tmp 8], body := (.seq (.region A4_r0 none [1, 2, 3, 4] [4]) (.seq (.region A4_r1 none [1, 2, 3, 4, 9, 10] [4]) (.seq (.region A4_r2 none [2, 3, 4, 9, 10, 11, 12] [4]) (.seq (.seq (.region A4_r3 none [2, 3, 4, 36] [4]) (.cond (.t 36) (.seq (.region A4_r4 none [8] []) (.ret)) (.skip))) (.seq (.region A4_r5 none [2, 3, 4, 10, 13] [4]) (.seq (.region A4_r6 none [10, 12, 13, 14] []) (.seq (.region A4_r7 none [8] []) (.ret)))))))) }
/- bioscope.bioscopelaw05.LicenceFees -/
def A5_r0 : List AO := [
  { dst := (some 3), op := .box true (.t 0) },
  { dst := (some 6), op := .mov (.c (.bool false)) }]
def A5_r1 : List AO := [
  { dst := (some 23), op := .load true 6 (.t 3) },
  { dst := (some 24), op := .mov (.t 1) },
  { dst := (some 25), op := .mov (.t 2) },
  { dst := (some 26), op := .call false true (.f 28) [.t 23, .t 24, .t 25] },
  { dst := (some 22), op := .mov (.t 26) },
  { dst := (some 27), op := .ext 0 (.t 22) },
  { dst := (some 28), op := .ext 1 (.t 22) },
  { dst := (some 29), op := .ext 2 (.t 22) },
  { dst := (some 7), op := .mov (.t 27) },
  { dst := (some 8), op := .mov (.t 28) },
  { dst := (some 9), op := .mov (.t 29) }]
def A5_r2 : List AO := [
  { dst := (some 31), op := .load true 6 (.t 3) },
  { dst := (some 32), op := .mov (.t 1) },
  { dst := (some 33), op := .mov (.t 2) },
  { dst := (some 34), op := .call false true (.f 29) [.t 31, .t 32, .t 33] },
  { dst := (some 30), op := .mov (.t 34) },
  { dst := (some 35), op := .ext 0 (.t 30) },
  { dst := (some 36), op := .ext 1 (.t 30) },
  { dst := (some 10), op := .mov (.t 35) },
  { dst := (some 11), op := .mov (.t 36) }]
def A5_r3 : List AO := [
  { dst := (some 38), op := .load true 6 (.t 3) },
  { dst := (some 39), op := .mov (.t 1) },
  { dst := (some 40), op := .mov (.t 2) },
  { dst := (some 41), op := .call false true (.f 30) [.t 38, .t 39, .t 40] },
  { dst := (some 37), op := .mov (.t 41) },
  { dst := (some 42), op := .ext 0 (.t 37) },
  { dst := (some 43), op := .ext 1 (.t 37) },
  { dst := (some 12), op := .mov (.t 42) },
  { dst := (some 13), op := .mov (.t 43) }]
def A5_r4 : List AO := [
  { dst := (some 44), op := .mov (.t 10) },
  { dst := (some 45), op := .mov (.t 7) },
  { dst := (some 46), op := .bin .neq (.t 44) (.t 45) },
  { dst := (some 47), op := .mov (.t 46) },
  { dst := (some 48), op := .mov (.t 11), guard := some (47, false) },
  { dst := (some 49), op := .mov (.t 9), guard := some (47, false) },
  { dst := (some 50), op := .bin .neq (.t 48) (.t 49), guard := some (47, false) },
  { dst := (some 51), op := .pick (.t 47) (.c (.bool true)) (.t 50) },
  { dst := (some 52), op := .mov (.t 51) },
  { dst := (some 53), op := .mov (.t 13), guard := some (52, false) },
  { dst := (some 54), op := .mov (.t 9), guard := some (52, false) },
  { dst := (some 55), op := .bin .neq (.t 53) (.t 54), guard := some (52, false) },
  { dst := (some 56), op := .pick (.t 52) (.c (.bool true)) (.t 55) }]
def A5_r5 : List AO := [
  { dst := (some 6), op := .mov (.c (.bool false)) }]
def A5_r6 : List AO := [
  { dst := (some 58), op := .load true 6 (.t 3) },
  { dst := (some 59), op := .mov (.t 2) },
  { dst := (some 60), op := .call false true (.f 31) [.t 58, .t 59] },
  { dst := (some 57), op := .mov (.t 60) },
  { dst := (some 61), op := .ext 0 (.t 57) },
  { dst := (some 62), op := .ext 1 (.t 57) },
  { dst := (some 14), op := .mov (.t 61) },
  { dst := (some 11), op := .mov (.t 62) }]
def A5_r7 : List AO := [
  { dst := (some 64), op := .load true 6 (.t 3) },
  { dst := (some 65), op := .mov (.t 2) },
  { dst := (some 66), op := .call false true (.f 32) [.t 64, .t 65] },
  { dst := (some 63), op := .mov (.t 66) },
  { dst := (some 67), op := .ext 0 (.t 63) },
  { dst := (some 68), op := .ext 1 (.t 63) },
  { dst := (some 15), op := .mov (.t 67) },
  { dst := (some 16), op := .mov (.t 68) }]
def A5_r8 : List AO := [
  { dst := (some 69), op := .mov (.t 14) },
  { dst := (some 70), op := .mov (.t 15) },
  { dst := (some 71), op := .bin .neq (.t 69) (.t 70) },
  { dst := (some 72), op := .mov (.t 71) },
  { dst := (some 73), op := .mov (.t 11), guard := some (72, false) },
  { dst := (some 74), op := .mov (.t 16), guard := some (72, false) },
  { dst := (some 75), op := .bin .neq (.t 73) (.t 74), guard := some (72, false) },
  { dst := (some 76), op := .pick (.t 72) (.c (.bool true)) (.t 75) }]
def A5_r9 : List AO := [
  { dst := (some 6), op := .mov (.c (.bool false)) }]
def A5_r10 : List AO := [
  { dst := (some 77), op := .mov (.t 9) },
  { dst := (some 78), op := .bin .neq (.t 77) (.c (.int .i64 0)) }]
def A5_r11 : List AO := [
  { dst := (some 79), op := .mov (.t 12) },
  { dst := (some 80), op := .len (.t 79) },
  { dst := (some 81), op := .bin .eql (.t 80) (.c (.int .i64 0)) },
  { dst := (some 82), op := .mov (.t 81) },
  { dst := (some 83), op := .call false true (.f 23) [], guard := some (82, true) },
  { dst := (some 84), op := .pick (.t 82) (.t 83) (.c (.bool false)) },
  { dst := (some 6), op := .mov (.t 84) }]
def A5_r12 : List AO := [
  { dst := (some 86), op := .load true 6 (.t 3) },
  { dst := (some 87), op := .mov (.t 1) },
  { dst := (some 88), op := .mov (.t 12) },
  { dst := (some 89), op := .call false true (.f 25) [.t 86, .t 87, .t 88] },
  { dst := (some 85), op := .mov (.t 89) },
  { dst := (some 90), op := .ext 0 (.t 85) },
  { dst := (some 91), op := .ext 1 (.t 85) },
  { dst := (some 17), op := .mov (.t 90) },
  { dst := (some 18), op := .mov (.t 91) }]
def A5_r13 : List AO := [
  { dst := (some 92), op := .mov (.t 18) },
  { dst := (some 93), op := .bin .neq (.t 92) (.c (.int .i64 0)) },
  { dst := (some 94), op := .mov (.t 93) },
  { dst := (some 95), op := .mov (.t 17), guard := some (94, false) },
  { dst := (some 96), op := .un .not (.t 95), guard := some (94, false) },
  { dst := (some 97), op := .pick (.t 94) (.c (.bool true)) (.t 96) },
  { dst := (some 98), op := .mov (.t 97) },
  { dst := (some 99), op := .mov (.t 12), guard := some (98, false) },
  { dst := (some 100), op := .len (.t 99), guard := some (98, false) },
  { dst := (some 101), op := .mov (.t 8), guard := some (98, false) },
  { dst := (some 102), op := .bin .neq (.t 100) (.t 101), guard := some (98, false) },
  { dst := (some 103), op := .pick (.t 98) (.c (.bool true)) (.t 102) }]
def A5_r14 : List AO := [
  { dst := (some 6), op := .mov (.c (.bool false)) }]
def A5_r15 : List AO := [
  { dst := (some 105), op := .load true 6 (.t 3) },
  { dst := (some 106), op := .mov (.t 12) },
  { dst := (some 107), op := .mov (.t 2) },
  { dst := (some 108), op := .call false true (.f 27) [.t 105, .t 106, .t 107] },
  { dst := (some 104), op := .mov (.t 108) },
  { dst := (some 109), op := .ext 0 (.t 104) },
  { dst := (some 110), op := .ext 1 (.t 104) },
  { dst := (some 19), op := .mov (.t 109) },
  { dst := (some 18), op := .mov (.t 110) }]
def A5_r16 : List AO := [
  { dst := (some 20), op := .mov (.c (.int .i64 0)) }]
def A5_r17 : List AO := [
  { dst := (some 21), op := .mov (.c (.int .i64 0)) }]
def A5_r18 : List AO := [
  { dst := (some 111), op := .mov (.t 21) },
  { dst := (some 112), op := .mov (.t 12) },
  { dst := (some 113), op := .len (.t 112) },
  { dst := (some 114), op := .bin .lss (.t 111) (.t 113) }]
def A5_r20 : List AO := [
  { dst := (some 117), op := .mov (.t 20) },
  { dst := (some 118), op := .faddr 0 (.t 3) },
  { dst := (some 119), op := .load false 1 (.t 118) },
  { dst := (some 120), op := .mov (.t 12) },
  { dst := (some 121), op := .mov (.t 21) },
  { dst := (some 122), op := .iaddr 2 (.t 120) (.t 121) },
  { dst := (some 123), op := .faddr 0 (.t 122) },
  { dst := (some 124), op := .load false 1 (.t 123) },
  { dst := (some 125), op := .iaddr 3 (.t 119) (.t 124) },
  { dst := (some 126), op := .faddr 1 (.t 125) },
  { dst := (some 127), op := .load false 1 (.t 126) },
  { dst := (some 128), op := .bin .add (.t 117) (.t 127) },
  { dst := (some 20), op := .mov (.t 128) }]
def A5_r19 : List AO := [
  { dst := (some 115), op := .mov (.t 21) },
  { dst := (some 116), op := .bin .add (.t 115) (.c (.int .i64 1)) },
  { dst := (some 21), op := .mov (.t 116) }]
def A5_l0 : AC := .seq (.seq (.region A5_r18 none [3, 7, 12, 18, 19, 20, 21, 114] [3]) (.cond (.t 114) (.skip) (.exit 0))) (.seq (.block 1 (.region A5_r20 (some [[], [], [1], [], [], [3, 4], [5], [6], [2, 7], [8], [9], [0, 10], [11, 0, 1, 2, 3, 4, 5, 6, 7, 8, 9, 10, 11]]) [3, 7, 12, 18, 19, 20, 21] [3])) (.region A5_r19 none [3, 7, 12, 18, 19, 20, 21] [3]))
def A5_r21 : List AO := [
  { dst := (some 129), op := .mov (.t 18) },
  { dst := (some 130), op := .bin .eql (.t 129) (.c (.int .i64 0)) },
  { dst := (some 131), op := .mov (.t 130) },
  { dst := (some 132), op := .mov (.t 19), guard := some (131, true) },
  { dst := (some 133), op := .len (.t 132), guard := some (131, true) },
  { dst := (some 134), op := .bin .eql (.t 133) (.c (.int .i64 0)), guard := some (131, true) },
  { dst := (some 135), op := .pick (.t 131) (.t 134) (.c (.bool false)) },
  { dst := (some 136), op := .mov (.t 135) },
  { dst := (some 137), op := .mov (.t 20), guard := some (136, true) },
  { dst := (some 138), op := .mov (.t 7), guard := some (136, true) },
  { dst := (some 139), op := .bin .eql (.t 137) (.t 138), guard := some (136, true) },
  { dst := (some 140), op := .pick (.t 136) (.t 139) (.c (.bool false)) },
  { dst := (some 141), op := .mov (.t 140) },
  { dst := (some 142), op := .call false true (.f 23) [], guard := some (141, true) },
  { dst := (some 143), op := .pick (.t 141) (.t 142) (.c (.bool false)) },
  { dst := (some 6), op := .mov (.t 143) }]
def A5 : AF := { np := 3, res := [.tmp 6], body := (.seq (.region A5_r0 none [1, 2, 3] [3]) (.seq (.region A5_r1 none [1, 2, 3, 7, 8, 9] [3]) (.seq (.region A5_r2 none [1, 2, 3, 7, 8, 9, 10, 11] [3]) (.seq (.region A5_r3 none [1, 2, 3, 7, 8, 9, 10, 11, 12, 13] [3]) (.seq (.seq (.region A5_r4 none [1, 2, 3, 7, 8, 9, 12, 56] [3]) (.cond (.t 56) (.seq (.region A5_r5 none [6] []) (.ret)) (.skip))) (.seq (.region A5_r6 none [1, 2, 3, 7, 8, 9, 11, 12, 14] [3]) (.seq (.region A5_r7 none [1, 2, 3, 7, 8, 9, 11, 12, 14, 15, 16] [3]) (.seq (.seq (.region A5_r8 none [1, 2, 3, 7, 8, 9, 12, 76] [3]) (.cond (.t 76) (.seq (.region A5_r9 none [6] []) (.ret)) (.skip))) (.seq (.seq (.region A5_r10 none [1, 2, 3, 7, 8, 12, 78] [3]) (.cond (.t 78) (.seq (.region A5_r11 none [6] []) (.ret)) (.skip))) (.seq (.region A5_r12 none [2, 3, 7, 8, 12, 17, 18] [3]) (.seq (.seq (.region A5_r13 none [2, 3, 7, 12, 103] [3]) (.cond (.t 103) (.seq (.region A5_r14 none [6] []) (.ret)) (.skip))) (.seq (.region A5_r15 none [3, 7, 12, 18, 19] [3]) (.seq (.region A5_r16 none [3, 7, 12, 18, 19, 20] [3]) (.seq (.seq (.region A5_r17 none [3, 7, 12, 18, 19, 20, 21] [3]) (.block 0 (.loop [3, 7, 12, 18, 19, 20, 21] [3] A5_l0))) (.seq (.region A5_r21 none [6] []) (.ret)))))))))))))))) }
/- bioscope.bioscopelaw05.LicenceMosts -/
def A6_r0 : List AO := [
  { dst := (some 4), op := .box true (.t 0) },
  { dst := (some 8), op := .mov (.c (.bool false)) }]
def A6_r1 : List AO := [
  { dst := (some 14), op := .load true 6 (.t 4) },
  { dst := (some 15), op := .mov (.t 1) },
  { dst := (some 16), op := .mov (.t 2) },
  { dst := (some 17), op := .mov (.t 3) },
  { dst := (some 18), op := .call false true (.f 33) [.t 14, .t 15, .t 16, .t 17] },
  { dst := (some 13), op := .mov (.t 18) },
  { dst := (some 19), op := .ext 0 (.t 13) },
  { dst := (some 20), op := .ext 1 (.t 13) },
  { dst := (some 9), op := .mov (.t 19) },
  { dst := (some 10), op := .mov (.t 20) }]
def A6_r2 : List AO := [
  { dst := (some 22), op := .load true 6 (.t 4) },
  { dst := (some 23), op := .mov (.t 1) },
  { dst := (some 24), op := .mov (.t 2) },
  { dst := (some 25), op := .mov (.t 3) },
  { dst := (some 26), op := .call false true (.f 34) [.t 22, .t 23, .t 24, .t 25] },
  { dst := (some 21), op := .mov (.t 26) },
  { dst := (some 27), op := .ext 0 (.t 21) },
  { dst := (some 28), op := .ext 1 (.t 21) },
  { dst := (some 11), op := .mov (.t 27) },
  { dst := (some 12), op := .mov (.t 28) }]
def A6_r3 : List AO := [
  { dst := (some 29), op := .mov (.t 9) },
  { dst := (some 30), op := .mov (.t 11) },
  { dst := (some 31), op := .call false true (.f 20) [.t 29, .t 30] },
  { dst := (some 32), op := .mov (.t 31) },
  { dst := (some 33), op := .mov (.t 10), guard := some (32, true) },
  { dst := (some 34), op := .mov (.t 12), guard := some (32, true) },
  { dst := (some 35), op := .bin .eql (.t 33) (.t 34), guard := some (32, true) },
  { dst := (some 36), op := .pick (.t 32) (.t 35) (.c (.bool false)) },
  { dst := (some 37), op := .mov (.t 36) },
  { dst := (some 38), op := .call false true (.f 23) [], guard := some (37, true) },
  { dst := (some 39), op := .pick (.t 37) (.t 38) (.c (.bool false)) },
  { dst := (some 8), op := .mov (.t 39) }]
def A6 : AF := { np := 4, res := [.tmp 8], body := (.seq (.region A6_r0 none [1, 2, 3, 4] [4]) (.seq (.region A6_r1 none [1, 2, 3, 4, 9, 10] [4]) (.seq (.region A6_r2 none [9, 10, 11, 12] []) (.seq (.region A6_r3 none [8] []) (.ret))))) }
/- bioscope.bioscopelaw05.LicenceFine -/
def A7_r0 : List AO := [
  { dst := (some 2), op := .box true (.t 0) },
  { dst := (some 3), op := .box true (.t 1) },
  { dst := (some 4), op := .mov (.c (.bool false)) }]
def A7_r1 : List AO := [
  { dst := (some 19), op := .aaddr 1 3 (.t 3) (.c (.int .i64 0)) },
  { dst := (some 20), op := .load false 1 (.t 19) },
  { dst := (some 21), op := .call false true (.f 35) [.t 20, .c (.int .i64 1000)] },
  { dst := (some 22), op := .aaddr 1 3 (.t 3) (.c (.int .i64 1)) },
  { dst := (some 23), op := .load false 1 (.t 22) },
  { dst := (some 24), op := .call false true (.f 35) [.t 23, .c (.int .i64 16)] },
  { dst := (some 25), op := .aaddr 1 3 (.t 3) (.c (.int .i64 2)) },
  { dst := (some 26), op := .load false 1 (.t 25) },
  { dst := (some 27), op := .call false true (.f 35) [.t 26, .c (.int .i64 1440)] },
  { dst := (some 5), op := .mov (.t 21) },
  { dst := (some 6), op := .mov (.t 24) },
  { dst := (some 7), op := .mov (.t 27) }]
def A7_r2 : List AO := [
  { dst := (some 29), op := .load true 6 (.t 2) },
  { dst := (some 30), op := .mov (.t 5) },
  { dst := (some 31), op := .mov (.t 6) },
  { dst := (some 32), op := .mov (.t 7) },
  { dst := (some 33), op := .call false true (.f 14) [.t 29, .t 30, .t 31, .t 32] },
  { dst := (some 28), op := .mov (.t 33) },
  { dst := (some 34), op := .ext 0 (.t 28) },
  { dst := (some 35), op := .ext 1 (.t 28) },
  { dst := (some 8), op := .mov (.t 34) },
  { dst := (some 9), op := .mov (.t 35) }]
def A7_r3 : List AO := [
  { dst := (some 36), op := .load true 6 (.t 2) },
  { dst := (some 37), op := .call false true (.f 36) [.t 36] },
  { dst := (some 38), op := .un .not (.t 37) }]
def A7_r4 : List AO := [
  { dst := (some 39), op := .mov (.t 9) },
  { dst := (some 40), op := .bin .eql (.t 39) (.c (.int .i64 50)) },
  { dst := (some 41), op := .mov (.t 40) },
  { dst := (some 42), op := .mov (.t 8), guard := some (41, true) },
  { dst := (some 43), op := .bin .eql (.t 42) (.c (.int .i64 0)), guard := some (41, true) },
  { dst := (some 44), op := .pick (.t 41) (.t 43) (.c (.bool false)) },
  { dst := (some 45), op := .mov (.t 44) },
  { dst := (some 46), op := .call false true (.f 23) [], guard := some (45, true) },
  { dst := (some 47), op := .pick (.t 45) (.t 46) (.c (.bool false)) },
  { dst := (some 4), op := .mov (.t 47) }]
def A7_r5 : List AO := [
  { dst := (some 49), op := .load true 6 (.t 2) },
  { dst := (some 50), op := .faddr 5 (.t 2) },
  { dst := (some 51), op := .load false 1 (.t 50) },
  { dst := (some 52), op := .call false true (.f 37) [.t 49, .t 51] },
  { dst := (some 48), op := .mov (.t 52) },
  { dst := (some 53), op := .ext 0 (.t 48) },
  { dst := (some 54), op := .ext 1 (.t 48) },
  { dst := (some 10), op := .mov (.t 53) },
  { dst := (some 11), op := .mov (.t 54) }]
def A7_r6 : List AO := [
  { dst := (some 12), op := .mov (.c (.int .i64 0)) }]
def A7_r7 : List AO := [
  { dst := (some 55), op := .mov (.t 7) },
  { dst := (some 56), op := .faddr 4 (.t 2) },
  { dst := (some 57), op := .load false 1 (.t 56) },
  { dst := (some 58), op := .bin .gtr (.t 55) (.t 57) }]
def A7_r8 : List AO := [
  { dst := (some 12), op := .mov (.c (.int .i64 4)) }]
def A7_r9 : List AO := [
  { dst := (some 59), op := .faddr 3 (.t 2) },
  { dst := (some 60), op := .load false 1 (.t 59) },
  { dst := (some 61), op := .mov (.t 6) },
  { dst := (some 62), op := .call false true (.f 38) [.t 60, .t 61] }]
def A7_r10 : List AO := [
  { dst := (some 12), op := .mov (.c (.int .i64 3)) }]
def A7_r11 : List AO := [
  { dst := (some 63), op := .load true 6 (.t 2) },
  { dst := (some 64), op := .mov (.t 5) },
  { dst := (some 65), op := .call false true (.f 39) [.t 63, .t 64] }]
def A7_r12 : List AO := [
  { dst := (some 12), op := .mov (.c (.int .i64 2)) }]
def A7_r13 : List AO := [
  { dst := (some 66), op := .mov (.t 10) },
  { dst := (some 67), op := .mov (.t 5) },
  { dst := (some 68), op := .iaddr 1 (.t 66) (.t 67) },
  { dst := (some 69), op := .load false 1 (.t 68) },
  { dst := (some 70), op := .bin .eql (.t 69) (.c (.int .i64 0)) }]
def A7_r14 : List AO := [
  { dst := (some 12), op := .mov (.c (.int .i64 1)) }]
def A7_r15 : List AO := [
  { dst := (some 72), op := .load true 6 (.t 2) },
  { dst := (some 73), op := .mov (.t 5) },
  { dst := (some 74), op := .mov (.t 5) },
  { dst := (some 75), op := .bin .add (.t 74) (.c (.int .i64 40)) },
  { dst := (some 76), op := .mm false (.c (.int .i64 999)) [.t 75] },
  { dst := (some 77), op := .call false true (.f 40) [.t 73, .t 76] },
  { dst := (some 78), op := .call false true (.f 18) [.t 72, .t 77] },
  { dst := (some 71), op := .mov (.t 78) },
  { dst := (some 79), op := .ext 0 (.t 71) },
  { dst := (some 80), op := .ext 1 (.t 71) },
  { dst := (some 13), op := .mov (.t 79) },
  { dst := (some 14), op := .mov (.t 80) }]
def A7_r16 : List AO := [
  { dst := (some 82), op := .load true 6 (.t 2) },
  { dst := (some 83), op := .mov (.t 5) },
  { dst := (some 84), op := .mov (.t 5) },
  { dst := (some 85), op := .call false true (.f 40) [.t 83, .t 84] },
  { dst := (some 86), op := .call false true (.f 18) [.t 82, .t 85] },
  { dst := (some 81), op := .mov (.t 86) },
  { dst := (some 87), op := .ext 0 (.t 81) },
  { dst := (some 88), op := .ext 1 (.t 81) },
  { dst := (some 15), op := .mov (.t 87) },
  { dst := (some 16), op := .mov (.t 88) }]
def A7_r17 : List AO := [
  { dst := (some 89), op := .mov (.t 9) },
  { dst := (some 90), op := .bin .neq (.t 89) (.c (.int .i64 0)) },
  { dst := (some 91), op := .mov (.t 90) },
  { dst := (some 92), op := .mov (.t 14), guard := some (91, false) },
  { dst := (some 93), op := .bin .neq (.t 92) (.c (.int .i64 0)), guard := some (91, false) },
  { dst := (some 94), op := .pick (.t 91) (.c (.bool true)) (.t 93) },
  { dst := (some 95), op := .mov (.t 94) },
  { dst := (some 96), op := .mov (.t 16), guard := some (95, false) },
  { dst := (some 97), op := .bin .neq (.t 96) (.c (.int .i64 0)), guard := some (95, false) },
  { dst := (some 98), op := .pick (.t 95) (.c (.bool true)) (.t 97) },
  { dst := (some 99), op := .mov (.t 98) },
  { dst := (some 100), op := .mov (.t 8), guard := some (99, false) },
  { dst := (some 101), op := .mov (.t 12), guard := some (99, false) },
  { dst := (some 102), op := .bin .neq (.t 100) (.t 101), guard := some (99, false) },
  { dst := (some 103), op := .pick (.t 99) (.c (.bool true)) (.t 102) },
  { dst := (some 104), op := .mov (.t 103) },
  { dst := (some 105), op := .mov (.t 15), guard := some (104, false) },
  { dst := (some 106), op := .len (.t 105), guard := some (104, false) },
  { dst := (some 107), op := .bin .eql (.t 106) (.c (.int .i64 1)), guard := some (104, false) },
  { dst := (some 108), op := .mov (.t 12), guard := some (104, false) },
  { dst := (some 109), op := .bin .neq (.t 108) (.c (.int .i64 1)), guard := some (104, false) },
  { dst := (some 110), op := .mov (.t 109), guard := some (104, false) },
  { dst := (some 111), op := .mov (.t 12), guard := some (110, true) },
  { dst := (some 112), op := .bin .neq (.t 111) (.c (.int .i64 2)), guard := some (110, true) },
  { dst := (some 113), op := .pick (.t 110) (.t 112) (.c (.bool false)), guard := some (104, false) },
  { dst := (some 114), op := .eqb true (.t 107) (.t 113), guard := some (104, false) },
  { dst := (some 115), op := .pick (.t 104) (.c (.bool true)) (.t 114) }]
def A7_r18 : List AO := [
  { dst := (some 4), op := .mov (.c (.bool false)) }]
def A7_r19 : List AO := [
  { dst := (some 17), op := .mov (.c (.int .i64 0)) }]
def A7_r20 : List AO := [
  { dst := (some 116), op := .mov (.t 5) },
  { dst := (some 18), op := .mov (.t 116) }]
def A7_r21 : List AO := [
  { dst := (some 117), op := .mov (.t 18) },
  { dst := (some 118), op := .mov (.t 5) },
  { dst := (some 119), op := .bin .add (.t 118) (.c (.int .i64 40)) },
  { dst := (some 120), op := .mm false (.c (.int .i64 999)) [.t 119] },
  { dst := (some 121), op := .bin .leq (.t 117) (.t 120) }]
def A7_r23 : List AO := [
  { dst := (some 124), op := .mov (.t 10) },
  { dst := (some 125), op := .mov (.t 18) },
  { dst := (some 126), op := .iaddr 1 (.t 124) (.t 125) },
  { dst := (some 127), op := .load false 1 (.t 126) },
  { dst := (some 128), op := .bin .gtr (.t 127) (.c (.int .i64 0)) },
  { dst := (some 129), op := .mov (.t 128) },
  { dst := (some 130), op := .load true 6 (.t 2), guard := some (129, true) },
  { dst := (some 131), op := .mov (.t 18), guard := some (129, true) },
  { dst := (some 132), op := .call false true (.f 39) [.t 130, .t 131], guard := some (129, true) },
  { dst := (some 133), op := .un .not (.t 132), guard := some (129, true) },
  { dst := (some 134), op := .pick (.t 129) (.t 133) (.c (.bool false)) }]
def A7_r24 : List AO := [
  { dst := (some 135), op := .mov (.t 17) },
  { dst := (some 136), op := .mov (.t 13) },
  { dst := (some 137), op := .len (.t 136) },
  { dst := (some 138), op := .bin .geq (.t 135) (.t 137) },
  { dst := (some 139), op := .mov (.t 138) },
  { dst := (some 140), op := .mov (.t 13), guard := some (139, false) },
  { dst := (some 141), op := .mov (.t 17), guard := some (139, false) },
  { dst := (some 142), op := .iaddr 1 (.t 140) (.t 141), guard := some (139, false) },
  { dst := (some 143), op := .load false 1 (.t 142), guard := some (139, false) },
  { dst := (some 144), op := .mov (.t 18), guard := some (139, false) },
  { dst := (some 145), op := .bin .neq (.t 143) (.t 144), guard := some (139, false) },
  { dst := (some 146), op := .pick (.t 139) (.c (.bool true)) (.t 145) }]
def A7_r25 : List AO := [
  { dst := (some 4), op := .mov (.c (.bool false)) }]
def A7_r26 : List AO := [
  { dst := (some 147), op := .mov (.t 17) },
  { dst := (some 148), op := .bin .add (.t 147) (.c (.int .i64 1)) },
  { dst := (some 17), op := .mov (.t 148) }]
def A7_r22 : List AO := [
  { dst := (some 122), op := .mov (.t 18) },
  { dst := (some 123), op := .bin .add (.t 122) (.c (.int .i64 1)) },
  { dst := (some 18), op := .mov (.t 123) }]
def A7_l0 : AC := .seq (.seq (.region A7_r21 none [2, 5, 10, 13, 17, 18, 121] [2]) (.cond (.t 121) (.skip) (.exit 0))) (.seq (.block 1 (.seq (.region A7_r23 none [2, 5, 10, 13, 17, 18, 134] [2]) (.cond (.t 134) (.seq (.seq (.region A7_r24 none [2, 5, 10, 13, 17, 18, 146] [2]) (.cond (.t 146) (.seq (.region A7_r25 none [4] []) (.ret)) (.skip))) (.region A7_r26 none [2, 5, 10, 13, 17, 18] [2])) (.skip)))) (.region A7_r22 none [2, 5, 10, 13, 17, 18] [2]))
def A7_r27 : List AO := [
  { dst := (some 149), op := .mov (.t 17) },
  { dst := (some 150), op := .mov (.t 13) },
  { dst := (some 151), op := .len (.t 150) },
  { dst := (some 152), op := .bin .eql (.t 149) (.t 151) },
  { dst := (some 153), op := .mov (.t 152) },
  { dst := (some 154), op := .call false true (.f 23) [], guard := some (153, true) },
  { dst := (some 155), op := .pick (.t 153) (.t 154) (.c (.bool false)) },
  { dst := (some 4), op := .mov (.t 155) }]
def A7 : AF := { np := 2, res := [.tmp 4], body := (.seq (.region A7_r0 none [2, 3] [2, 3]) (.seq (.region A7_r1 (some [[], [0], [1], [], [3], [4, 2], [], [6], [7, 5], [2, 8, 0, 1, 2], [5, 9, 0, 1, 2, 3, 4, 5, 9], [8, 10, 0, 1, 2, 3, 4, 5, 6, 7, 8, 9, 10]]) [2, 5, 6, 7] [2]) (.seq (.region A7_r2 none [2, 5, 6, 7, 8, 9] [2]) (.seq (.seq (.region A7_r3 none [2, 5, 6, 7, 8, 9, 38] [2]) (.cond (.t 38) (.seq (.region A7_r4 none [4] []) (.ret)) (.skip))) (.seq (.region A7_r5 none [2, 5, 6, 7, 8, 9, 10] [2]) (.seq (.region A7_r6 none [2, 5, 6, 7, 8, 9, 10, 12] [2]) (.seq (.seq (.region A7_r7 none [2, 5, 6, 8, 9, 10, 12, 58] [2]) (.cond (.t 58) (.region A7_r8 none [2, 5, 6, 8, 9, 10, 12] [2]) (.skip))) (.seq (.seq (.region A7_r9 none [2, 5, 8, 9, 10, 12, 62] [2]) (.cond (.t 62) (.region A7_r10 none [2, 5, 8, 9, 10, 12] [2]) (.skip))) (.seq (.seq (.region A7_r11 none [2, 5, 8, 9, 10, 12, 65] [2]) (.cond (.t 65) (.region A7_r12 none [2, 5, 8, 9, 10, 12] [2]) (.skip))) (.seq (.seq (.region A7_r13 none [2, 5, 8, 9, 10, 12, 70] [2]) (.cond (.t 70) (.region A7_r14 none [2, 5, 8, 9, 10, 12] [2]) (.skip))) (.seq (.region A7_r15 (some [[], [], [], [2], [3], [1, 4], [0, 5, 5], [6], [7], [7], [8, 6, 0, 1, 2, 3, 4, 5, 6, 7, 8], [9, 10, 0, 1, 2, 3, 4, 5, 6, 7, 8, 9, 10]]) [2, 5, 8, 9, 10, 12, 13, 14] [2]) (.seq (.region A7_r16 (some [[], [], [], [1, 2], [0, 3, 3], [4], [5], [5], [6, 4, 0, 1, 2, 3, 4, 5, 6], [7, 8, 0, 1, 2, 3, 4, 5, 6, 7, 8]]) [2, 5, 8, 9, 10, 12, 13, 14, 15, 16] [2]) (.seq (.seq (.region A7_r17 none [2, 5, 10, 13, 115] [2]) (.cond (.t 115) (.seq (.region A7_r18 none [4] []) (.ret)) (.skip))) (.seq (.region A7_r19 none [2, 5, 10, 13, 17] [2]) (.seq (.seq (.region A7_r20 none [2, 5, 10, 13, 17, 18] [2]) (.block 0 (.loop [2, 5, 10, 13, 17, 18] [2] A7_l0))) (.seq (.region A7_r27 none [4] []) (.ret))))))))))))))))) }
/- bioscope.bioscopelaw05.LicenceOver -/
def A8_r0 : List AO := [
  { dst := (some 2), op := .box true (.t 0) },
  { dst := (some 3), op := .box true (.t 1) },
  { dst := (some 4), op := .mov (.c (.bool false)) }]
def A8_r1 : List AO := [
  { dst := (some 14), op := .aaddr 1 4 (.t 3) (.c (.int .i64 0)) },
  { dst := (some 15), op := .load false 1 (.t 14) },
  { dst := (some 16), op := .call false true (.f 35) [.t 15, .c (.int .i64 1440)] },
  { dst := (some 17), op := .aaddr 1 4 (.t 3) (.c (.int .i64 1)) },
  { dst := (some 18), op := .load false 1 (.t 17) },
  { dst := (some 19), op := .call false true (.f 35) [.t 18, .c (.int .i64 1440)] },
  { dst := (some 5), op := .mov (.t 16) },
  { dst := (some 6), op := .mov (.t 19) }]
def A8_r2 : List AO := [
  { dst := (some 20), op := .mov (.t 6) },
  { dst := (some 21), op := .mov (.t 6) },
  { dst := (some 22), op := .aaddr 1 4 (.t 3) (.c (.int .i64 2)) },
  { dst := (some 23), op := .load false 1 (.t 22) },
  { dst := (some 24), op := .call false true (.f 35) [.t 23, .c (.int .i64 90)] },
  { dst := (some 25), op := .bin .add (.t 21) (.t 24) },
  { dst := (some 26), op := .mm false (.c (.int .i64 1439)) [.t 25] },
  { dst := (some 27), op := .call false true (.f 40) [.t 20, .t 26] },
  { dst := (some 7), op := .new true [.int .i64 0, .int .i64 0] },
  { dst := none, op := .store 2 (.t 7) (.t 27) }]
def A8_r3 : List AO := [
  { dst := (some 29), op := .load true 6 (.t 2) },
  { dst := (some 30), op := .mov (.t 5) },
  { dst := (some 31), op := .load true 2 (.t 7) },
  { dst := (some 32), op := .call false true (.f 21) [.t 29, .t 30, .t 31] },
  { dst := (some 28), op := .mov (.t 32) },
  { dst := (some 33), op := .ext 0 (.t 28) },
  { dst := (some 34), op := .ext 1 (.t 28) },
  { dst := (some 8), op := .mov (.t 33) },
  { dst := (some 9), op := .mov (.t 34) }]
def A8_r4 : List AO := [
  { dst := (some 35), op := .load true 6 (.t 2) },
  { dst := (some 36), op := .call false true (.f 36) [.t 35] },
  { dst := (some 37), op := .un .not (.t 36) }]
def A8_r5 : List AO := [
  { dst := (some 38), op := .mov (.t 9) },
  { dst := (some 39), op := .bin .eql (.t 38) (.c (.int .i64 50)) },
  { dst := (some 40), op := .mov (.t 39) },
  { dst := (some 41), op := .mov (.t 8), guard := some (40, true) },
  { dst := (some 42), op := .bin .eql (.t 41) (.c (.int .i64 0)), guard := some (40, true) },
  { dst := (some 43), op := .pick (.t 40) (.t 42) (.c (.bool false)) },
  { dst := (some 44), op := .mov (.t 43) },
  { dst := (some 45), op := .call false true (.f 23) [], guard := some (44, true) },
  { dst := (some 46), op := .pick (.t 44) (.t 45) (.c (.bool false)) },
  { dst := (some 4), op := .mov (.t 46) }]
def A8_r6 : List AO := [
  { dst := (some 47), op := .load true 2 (.t 7) },
  { dst := (some 48), op := .aaddr 1 4 (.t 3) (.c (.int .i64 3)) },
  { dst := (some 49), op := .load false 1 (.t 48) },
  { dst := (some 50), op := .call false true (.f 41) [.t 47, .t 49] },
  { dst := (some 10), op := .mov (.t 50) }]
def A8_r7 : List AO := [
  { dst := (some 51), op := .mov (.t 5) },
  { dst := (some 52), op := .mov (.t 10) },
  { dst := (some 53), op := .bin .add (.t 51) (.t 52) },
  { dst := (some 54), op := .faddr 4 (.t 2) },
  { dst := (some 55), op := .load false 1 (.t 54) },
  { dst := (some 56), op := .bin .leq (.t 53) (.t 55) },
  { dst := (some 11), op := .mov (.t 56) }]
def A8_r8 : List AO := [
  { dst := (some 58), op := .load true 6 (.t 2) },
  { dst := (some 59), op := .mov (.t 5) },
  { dst := (some 60), op := .mov (.t 10) },
  { dst := (some 61), op := .mov (.t 10) },
  { dst := (some 62), op := .call false true (.f 40) [.t 60, .t 61] },
  { dst := (some 63), op := .call false true (.f 21) [.t 58, .t 59, .t 62] },
  { dst := (some 57), op := .mov (.t 63) },
  { dst := (some 64), op := .ext 0 (.t 57) },
  { dst := (some 65), op := .ext 1 (.t 57) },
  { dst := (some 12), op := .mov (.t 64) },
  { dst := (some 13), op := .mov (.t 65) }]
def A8_r9 : List AO := [
  { dst := (some 66), op := .mov (.t 9) },
  { dst := (some 67), op := .bin .eql (.t 66) (.c (.int .i64 0)) },
  { dst := (some 68), op := .mov (.t 67) },
  { dst := (some 69), op := .mov (.t 13), guard := some (68, true) },
  { dst := (some 70), op := .bin .eql (.t 69) (.c (.int .i64 0)), guard := some (68, true) },
  { dst := (some 71), op := .pick (.t 68) (.t 70) (.c (.bool false)) },
  { dst := (some 72), op := .mov (.t 71) },
  { dst := (some 73), op := .mov (.t 12), guard := some (72, true) },
  { dst := (some 74), op := .bin .eql (.t 73) (.c (.int .i64 2)), guard := some (72, true) },
  { dst := (some 75), op := .mov (.t 11), guard := some (72, true) },
  { dst := (some 76), op := .eqb false (.t 74) (.t 75), guard := some (72, true) },
  { dst := (some 77), op := .pick (.t 72) (.t 76) (.c (.bool false)) },
  { dst := (some 78), op := .mov (.t 77) },
  { dst := (some 79), op := .mov (.t 12), guard := some (78, true) },
  { dst := (some 80), op := .bin .eql (.t 79) (.c (.int .i64 0)), guard := some (78, true) },
  { dst := (some 81), op := .mov (.t 11), guard := some (78, true) },
  { dst := (some 82), op := .un .not (.t 81), guard := some (78, true) },
  { dst := (some 83), op := .eqb false (.t 80) (.t 82), guard := some (78, true) },
  { dst := (some 84), op := .pick (.t 78) (.t 83) (.c (.bool false)) },
  { dst := (some 85), op := .mov (.t 84) },
  { dst := (some 86), op := .mov (.t 8), guard := some (85, true) },
  { dst := (some 87), op := .bin .neq (.t 86) (.c (.int .i64 2)), guard := some (85, true) },
  { dst := (some 88), op := .mov (.t 87), guard := some (85, true) },
  { dst := (some 89), op := .mov (.t 11), guard := some (88, false) },
  { dst := (some 90), op := .pick (.t 88) (.c (.bool true)) (.t 89), guard := some (85, true) },
  { dst := (some 91), op := .pick (.t 85) (.t 90) (.c (.bool false)) },
  { dst := (some 92), op := .mov (.t 91) },
  { dst := (some 93), op := .mov (.t 8), guard := some (92, true) },
  { dst := (some 94), op := .bin .neq (.t 93) (.c (.int .i64 0)), guard := some (92, true) },
  { dst := (some 95), op := .mov (.t 94), guard := some (92, true) },
  { dst := (some 96), op := .mov (.t 11), guard := some (95, false) },
  { dst := (some 97), op := .un .not (.t 96), guard := some (95, false) },
  { dst := (some 98), op := .pick (.t 95) (.c (.bool true)) (.t 97), guard := some (92, true) },
  { dst := (some 99), op := .pick (.t 92) (.t 98) (.c (.bool false)) },
  { dst := (some 100), op := .mov (.t 99) },
  { dst := (some 101), op := .mov (.t 8), guard := some (100, true) },
  { dst := (some 102), op := .bin .eql (.t 101) (.c (.int .i64 2)), guard := some (100, true) },
  { dst := (some 103), op := .mov (.t 5), guard := some (100, true) },
  { dst := (some 104), op := .faddr 1 (.t 7), guard := some (100, true) },
  { dst := (some 105), op := .load false 1 (.t 104), guard := some (100, true) },
  { dst := (some 106), op := .bin .add (.t 103) (.t 105), guard := some (100, true) },
  { dst := (some 107), op := .faddr 4 (.t 2), guard := some (100, true) },
  { dst := (some 108), op := .load false 1 (.t 107), guard := some (100, true) },
  { dst := (some 109), op := .bin .leq (.t 106) (.t 108), guard := some (100, true) },
  { dst := (some 110), op := .eqb false (.t 102) (.t 109), guard := some (100, true) },
  { dst := (some 111), op := .pick (.t 100) (.t 110) (.c (.bool false)) },
  { dst := (some 112), op := .mov (.t 111) },
  { dst := (some 113), op := .call false true (.f 23) [], guard := some (112, true) },
  { dst := (some 114), op := .pick (.t 112) (.t 113) (.c (.bool false)) },
  { dst := (some 4), op := .mov (.t 114) }]
def A8 : AF := { np := 2, res := [.tmp 4], body := (.seq (.region A8_r0 none [2, 3] [2, 3]) (.seq (.region A8_r1 (some [[], [0], [1], [], [3], [4, 2], [2, 5, 0, 1, 2], [5, 6, 0, 1, 2, 3, 4, 5, 6]]) [2, 3, 5, 6] [2, 3]) (.seq (.region A8_r2 none [2, 3, 5, 7] [2, 3, 7]) (.seq (.region A8_r3 none [2, 3, 5, 7, 8, 9] [2, 3, 7]) (.seq (.seq (.region A8_r4 none [2, 3, 5, 7, 8, 9, 37] [2, 3, 7]) (.cond (.t 37) (.seq (.region A8_r5 none [4] []) (.ret)) (.skip))) (.seq (.region A8_r6 none [2, 5, 7, 8, 9, 10] [2, 7]) (.seq (.region A8_r7 none [2, 5, 7, 8, 9, 10, 11] [2, 7]) (.seq (.region A8_r8 (some [[], [], [], [], [2, 3], [0, 1, 4, 4], [5], [6], [6], [7, 5, 0, 1, 2, 3, 4, 5, 6, 7], [8, 9, 0, 1, 2, 3, 4, 5, 6, 7, 8, 9]]) [2, 5, 7, 8, 9, 11, 12, 13] [2, 7]) (.seq (.region A8_r9 none [4] []) (.ret)))))))))) }
/- bioscope.bioscopelaw05.LicenceCheap -/
def A9_r0 : List AO := [
  { dst := (some 4), op := .box true (.t 0) },
  { dst := (some 8), op := .mov (.c (.bool false)) }]
def A9_r1 : List AO := [
  { dst := (some 27), op := .load true 6 (.t 4) },
  { dst := (some 28), op := .call false true (.f 36) [.t 27] },
  { dst := (some 29), op := .un .not (.t 28) },
  { dst := (some 30), op := .mov (.t 29) },
  { dst := (some 31), op := .mov (.t 2), guard := some (30, false) },
  { dst := (some 32), op := .call false true (.f 42) [.t 31, .c (.int .i64 1000)], guard := some (30, false) },
  { dst := (some 33), op := .un .not (.t 32), guard := some (30, false) },
  { dst := (some 34), op := .pick (.t 30) (.c (.bool true)) (.t 33) },
  { dst := (some 35), op := .mov (.t 34) },
  { dst := (some 36), op := .mov (.t 2), guard := some (35, false) },
  { dst := (some 37), op := .len (.t 36), guard := some (35, false) },
  { dst := (some 38), op := .bin .gtr (.t 37) (.c (.int .i64 8)), guard := some (35, false) },
  { dst := (some 39), op := .pick (.t 35) (.c (.bool true)) (.t 38) }]
def A9_r2 : List AO := [
  { dst := (some 40), op := .call false true (.f 23) [] },
  { dst := (some 8), op := .mov (.t 40) }]
def A9_r3 : List AO := [
  { dst := (some 41), op := .mov (.t 1) },
  { dst := (some 42), op := .call false true (.f 35) [.t 41, .c (.int .i64 1000)] },
  { dst := (some 9), op := .mov (.t 42) }]
def A9_r4 : List AO := [
  { dst := (some 44), op := .load true 6 (.t 4) },
  { dst := (some 45), op := .mov (.t 9) },
  { dst := (some 46), op := .mov (.t 2) },
  { dst := (some 47), op := .call false true (.f 30) [.t 44, .t 45, .t 46] },
  { dst := (some 43), op := .mov (.t 47) },
  { dst := (some 48), op := .ext 0 (.t 43) },
  { dst := (some 49), op := .ext 1 (.t 43) },
  { dst := (some 10), op := .mov (.t 48) },
  { dst := (some 11), op := .mov (.t 49) }]
def A9_r5 : List AO := [
  { dst := (some 51), op := .load true 6 (.t 4) },
  { dst := (some 52), op := .mov (.t 9) },
  { dst := (some 53), op := .mov (.t 2) },
  { dst := (some 54), op := .call false true (.f 29) [.t 51, .t 52, .t 53] },
  { dst := (some 50), op := .mov (.t 54) },
  { dst := (some 55), op := .ext 0 (.t 50) },
  { dst := (some 56), op := .ext 1 (.t 50) },
  { dst := (some 12), op := .mov (.t 55) },
  { dst := (some 13), op := .mov (.t 56) }]
def A9_r6 : List AO := [
  { dst := (some 58), op := .load true 6 (.t 4) },
  { dst := (some 59), op := .mov (.t 9) },
  { dst := (some 60), op := .mov (.t 2) },
  { dst := (some 61), op := .mov (.t 3) },
  { dst := (some 62), op := .call false true (.f 43) [.t 58, .t 59, .t 60, .t 61] },
  { dst := (some 57), op := .mov (.t 62) },
  { dst := (some 63), op := .ext 0 (.t 57) },
  { dst := (some 64), op := .ext 1 (.t 57) },
  { dst := (some 14), op := .mov (.t 63) },
  { dst := (some 15), op := .mov (.t 64) }]
def A9_r7 : List AO := [
  { dst := (some 66), op := .load true 6 (.t 4) },
  { dst := (some 67), op := .mov (.t 9) },
  { dst := (some 68), op := .mov (.t 14) },
  { dst := (some 69), op := .call false true (.f 24) [.t 66, .t 67, .t 68] },
  { dst := (some 65), op := .mov (.t 69) },
  { dst := (some 70), op := .ext 0 (.t 65) },
  { dst := (some 71), op := .ext 1 (.t 65) },
  { dst := (some 16), op := .mov (.t 70) },
  { dst := (some 17), op := .mov (.t 71) }]
def A9_r8 : List AO := [
  { dst := (some 73), op := .load true 6 (.t 4) },
  { dst := (some 74), op := .mov (.t 14) },
  { dst := (some 75), op := .mov (.t 2) },
  { dst := (some 76), op := .call false true (.f 26) [.t 73, .t 74, .t 75] },
  { dst := (some 72), op := .mov (.t 76) },
  { dst := (some 77), op := .ext 0 (.t 72) },
  { dst := (some 78), op := .ext 1 (.t 72) },
  { dst := (some 18), op := .mov (.t 77) },
  { dst := (some 19), op := .mov (.t 78) }]
def A9_r9 : List AO := [
  { dst := (some 79), op := .mov (.t 13) },
  { dst := (some 80), op := .mov (.t 11) },
  { dst := (some 81), op := .bin .neq (.t 79) (.t 80) },
  { dst := (some 82), op := .mov (.t 81) },
  { dst := (some 83), op := .mov (.t 17), guard := some (82, false) },
  { dst := (some 84), op := .bin .neq (.t 83) (.c (.int .i64 0)), guard := some (82, false) },
  { dst := (some 85), op := .pick (.t 82) (.c (.bool true)) (.t 84) },
  { dst := (some 86), op := .mov (.t 85) },
  { dst := (some 87), op := .mov (.t 19), guard := some (86, false) },
  { dst := (some 88), op := .bin .neq (.t 87) (.c (.int .i64 0)), guard := some (86, false) },
  { dst := (some 89), op := .pick (.t 86) (.c (.bool true)) (.t 88) },
  { dst := (some 90), op := .mov (.t 89) },
  { dst := (some 91), op := .mov (.t 16), guard := some (90, false) },
  { dst := (some 92), op := .un .not (.t 91), guard := some (90, false) },
  { dst := (some 93), op := .pick (.t 90) (.c (.bool true)) (.t 92) },
  { dst := (some 94), op := .mov (.t 93) },
  { dst := (some 95), op := .mov (.t 18), guard := some (94, false) },
  { dst := (some 96), op := .len (.t 95), guard := some (94, false) },
  { dst := (some 97), op := .bin .eql (.t 96) (.c (.int .i64 0)), guard := some (94, false) },
  { dst := (some 98), op := .mov (.t 15), guard := some (94, false) },
  { dst := (some 99), op := .eqb true (.t 97) (.t 98), guard := some (94, false) },
  { dst := (some 100), op := .pick (.t 94) (.c (.bool true)) (.t 99) }]
def A9_r10 : List AO := [
  { dst := (some 8), op := .mov (.c (.bool false)) }]
def A9_r11 : List AO := [
  { dst := (some 101), op := .mov (.t 11) },
  { dst := (some 102), op := .bin .neq (.t 101) (.c (.int .i64 0)) }]
def A9_r12 : List AO := [
  { dst := (some 103), op := .mov (.t 11) },
  { dst := (some 104), op := .bin .eql (.t 103) (.c (.int .i64 4)) },
  { dst := (some 105), op := .mov (.t 104) },
  { dst := (some 106), op := .mov (.t 10), guard := some (105, true) },
  { dst := (some 107), op := .len (.t 106), guard := some (105, true) },
  { dst := (some 108), op := .bin .eql (.t 107) (.c (.int .i64 0)), guard := some (105, true) },
  { dst := (some 109), op := .pick (.t 105) (.t 108) (.c (.bool false)) },
  { dst := (some 110), op := .mov (.t 109) },
  { dst := (some 111), op := .mov (.t 12), guard := some (110, true) },
  { dst := (some 112), op := .bin .eql (.t 111) (.c (.int .i64 0)), guard := some (110, true) },
  { dst := (some 113), op := .pick (.t 110) (.t 112) (.c (.bool false)) },
  { dst := (some 114), op := .mov (.t 113) },
  { dst := (some 115), op := .mov (.t 15), guard := some (114, true) },
  { dst := (some 116), op := .un .not (.t 115), guard := some (114, true) },
  { dst := (some 117), op := .pick (.t 114) (.t 116) (.c (.bool false)) },
  { dst := (some 118), op := .mov (.t 117) },
  { dst := (some 119), op := .call false true (.f 23) [], guard := some (118, true) },
  { dst := (some 120), op := .pick (.t 118) (.t 119) (.c (.bool false)) },
  { dst := (some 8), op := .mov (.t 120) }]
def A9_r13 : List AO := [
  { dst := (some 122), op := .load true 6 (.t 4) },
  { dst := (some 123), op := .mov (.t 9) },
  { dst := (some 124), op := .mov (.t 10) },
  { dst := (some 125), op := .call false true (.f 24) [.t 122, .t 123, .t 124] },
  { dst := (some 121), op := .mov (.t 125) },
  { dst := (some 126), op := .ext 0 (.t 121) },
  { dst := (some 127), op := .ext 1 (.t 121) },
  { dst := (some 20), op := .mov (.t 126) },
  { dst := (some 21), op := .mov (.t 127) }]
def A9_r14 : List AO := [
  { dst := (some 129), op := .load true 6 (.t 4) },
  { dst := (some 130), op := .mov (.t 10) },
  { dst := (some 131), op := .mov (.t 2) },
  { dst := (some 132), op := .call false true (.f 26) [.t 129, .t 130, .t 131] },
  { dst := (some 128), op := .mov (.t 132) },
  { dst := (some 133), op := .ext 0 (.t 128) },
  { dst := (some 134), op := .ext 1 (.t 128) },
  { dst := (some 22), op := .mov (.t 133) },
  { dst := (some 23), op := .mov (.t 134) }]
def A9_r15 : List AO := [
  { dst := (some 135), op := .mov (.t 21) },
  { dst := (some 136), op := .bin .neq (.t 135) (.c (.int .i64 0)) },
  { dst := (some 137), op := .mov (.t 136) },
  { dst := (some 138), op := .mov (.t 23), guard := some (137, false) },
  { dst := (some 139), op := .bin .neq (.t 138) (.c (.int .i64 0)), guard := some (137, false) },
  { dst := (some 140), op := .pick (.t 137) (.c (.bool true)) (.t 139) },
  { dst := (some 141), op := .mov (.t 140) },
  { dst := (some 142), op := .mov (.t 20), guard := some (141, false) },
  { dst := (some 143), op := .un .not (.t 142), guard := some (141, false) },
  { dst := (some 144), op := .pick (.t 141) (.c (.bool true)) (.t 143) },
  { dst := (some 145), op := .mov (.t 144) },
  { dst := (some 146), op := .mov (.t 22), guard := some (145, false) },
  { dst := (some 147), op := .len (.t 146), guard := some (145, false) },
  { dst := (some 148), op := .bin .neq (.t 147) (.c (.int .i64 0)), guard := some (145, false) },
  { dst := (some 149), op := .pick (.t 145) (.c (.bool true)) (.t 148) },
  { dst := (some 150), op := .mov (.t 149) },
  { dst := (some 151), op := .load true 6 (.t 4), guard := some (150, false) },
  { dst := (some 152), op := .mov (.t 9), guard := some (150, false) },
  { dst := (some 153), op := .mov (.t 10), guard := some (150, false) },
  { dst := (some 154), op := .call false true (.f 44) [.t 151, .t 152, .t 153], guard := some (150, false) },
  { dst := (some 155), op := .un .not (.t 154), guard := some (150, false) },
  { dst := (some 156), op := .pick (.t 150) (.c (.bool true)) (.t 155) },
  { dst := (some 157), op := .mov (.t 156) },
  { dst := (some 158), op := .load true 6 (.t 4), guard := some (157, false) },
  { dst := (some 159), op := .mov (.t 10), guard := some (157, false) },
  { dst := (some 160), op := .call false true (.f 45) [.t 158, .t 159], guard := some (157, false) },
  { dst := (some 161), op := .mov (.t 12), guard := some (157, false) },
  { dst := (some 162), op := .bin .neq (.t 160) (.t 161), guard := some (157, false) },
  { dst := (some 163), op := .pick (.t 157) (.c (.bool true)) (.t 162) }]
def A9_r16 : List AO := [
  { dst := (some 8), op := .mov (.c (.bool false)) }]
def A9_r17 : List AO := [
  { dst := (some 165), op := .load true 6 (.t 4) },
  { dst := (some 166), op := .bslice true 2 0 [] [] },
  { dst := (some 167), op := .faddr 5 (.t 4) },
  { dst := (some 168), op := .load false 1 (.t 167) },
  { dst := (some 169), op := .app 2 55 16 (.t 166) (.t 168) },
  { dst := (some 170), op := .mov (.t 10) },
  { dst := (some 171), op := .app 2 55 16 (.t 169) (.t 170) },
  { dst := (some 172), op := .call false true (.f 37) [.t 165, .t 171] },
  { dst := (some 164), op := .mov (.t 172) },
  { dst := (some 173), op := .ext 0 (.t 164) },
  { dst := (some 174), op := .ext 1 (.t 164) },
  { dst := (some 24), op := .mov (.t 173) },
  { dst := (some 25), op := .mov (.t 174) }]
def A9_r18 : List AO := [
  { dst := (some 26), op := .mov (.c (.int .i64 0)) }]
def A9_r19 : List AO := [
  { dst := (some 175), op := .mov (.t 26) },
  { dst := (some 176), op := .mov (.t 2) },
  { dst := (some 177), op := .len (.t 176) },
  { dst := (some 178), op := .bin .lss (.t 175) (.t 177) }]
def A9_r21 : List AO := [
  { dst := (some 181), op := .mov (.t 24) },
  { dst := (some 182), op := .mov (.t 2) },
  { dst := (some 183), op := .mov (.t 26) },
  { dst := (some 184), op := .iaddr 1 (.t 182) (.t 183) },
  { dst := (some 185), op := .load false 1 (.t 184) },
  { dst := (some 186), op := .iaddr 1 (.t 181) (.t 185) },
  { dst := (some 187), op := .load false 1 (.t 186) },
  { dst := (some 188), op := .bin .eql (.t 187) (.c (.int .i64 0)) },
  { dst := (some 189), op := .mov (.t 188) },
  { dst := (some 190), op := .load true 6 (.t 4), guard := some (189, false) },
  { dst := (some 191), op := .mov (.t 2), guard := some (189, false) },
  { dst := (some 192), op := .mov (.t 26), guard := some (189, false) },
  { dst := (some 193), op := .iaddr 1 (.t 191) (.t 192), guard := some (189, false) },
  { dst := (some 194), op := .load false 1 (.t 193), guard := some (189, false) },
  { dst := (some 195), op := .call false true (.f 39) [.t 190, .t 194], guard := some (189, false) },
  { dst := (some 196), op := .pick (.t 189) (.c (.bool true)) (.t 195) }]
def A9_r22 : List AO := [
  { dst := (some 8), op := .mov (.c (.bool false)) }]
def A9_r20 : List AO := [
  { dst := (some 179), op := .mov (.t 26) },
  { dst := (some 180), op := .bin .add (.t 179) (.c (.int .i64 1)) },
  { dst := (some 26), op := .mov (.t 180) }]
def A9_l0 : AC := .seq (.seq (.region A9_r19 none [2, 4, 10, 12, 14, 15, 24, 26, 178] [4]) (.cond (.t 178) (.skip) (.exit 0))) (.seq (.block 1 (.seq (.region A9_r21 (some [[], [], [], [1, 2], [3], [0, 4], [5], [6], [7], [8], [8], [8], [10, 11, 8], [12, 8], [9, 13, 8, 8], [8, 14]]) [2, 4, 10, 12, 14, 15, 24, 26, 196] [4]) (.cond (.t 196) (.seq (.region A9_r22 none [8] []) (.ret)) (.skip)))) (.region A9_r20 none [2, 4, 10, 12, 14, 15, 24, 26] [4]))
def A9_r23 : List AO := [
  { dst := (some 197), op := .mov (.t 15) },
  { dst := (some 198), op := .un .not (.t 197) },
  { dst := (some 199), op := .mov (.t 198) },
  { dst := (some 200), op := .load true 6 (.t 4), guard := some (199, false) },
  { dst := (some 201), op := .mov (.t 14), guard := some (199, false) },
  { dst := (some 202), op := .call false true (.f 45) [.t 200, .t 201], guard := some (199, false) },
  { dst := (some 203), op := .mov (.t 12), guard := some (199, false) },
  { dst := (some 204), op := .bin .gtr (.t 202) (.t 203), guard := some (199, false) },
  { dst := (some 205), op := .pick (.t 199) (.c (.bool true)) (.t 204) },
  { dst := (some 206), op := .mov (.t 205) },
  { dst := (some 207), op := .load true 6 (.t 4), guard := some (206, false) },
  { dst := (some 208), op := .mov (.t 14), guard := some (206, false) },
  { dst := (some 209), op := .call false true (.f 45) [.t 207, .t 208], guard := some (206, false) },
  { dst := (some 210), op := .mov (.t 12), guard := some (206, false) },
  { dst := (some 211), op := .bin .eql (.t 209) (.t 210), guard := some (206, false) },
  { dst := (some 212), op := .mov (.t 211), guard := some (206, false) },
  { dst := (some 213), op := .mov (.t 14), guard := some (212, true) },
  { dst := (some 214), op := .len (.t 213), guard := some (212, true) },
  { dst := (some 215), op := .mov (.t 10), guard := some (212, true) },
  { dst := (some 216), op := .len (.t 215), guard := some (212, true) },
  { dst := (some 217), op := .bin .geq (.t 214) (.t 216), guard := some (212, true) },
  { dst := (some 218), op := .pick (.t 212) (.t 217) (.c (.bool false)), guard := some (206, false) },
  { dst := (some 219), op := .pick (.t 206) (.c (.bool true)) (.t 218) },
  { dst := (some 220), op := .mov (.t 219) },
  { dst := (some 221), op := .call false true (.f 23) [], guard := some (220, true) },
  { dst := (some 222), op := .pick (.t 220) (.t 221) (.c (.bool false)) },
  { dst := (some 8), op := .mov (.t 222) }]
def A9 : AF := { np := 4, res := [.tmp 8], body := (.seq (.region A9_r0 none [1, 2, 3, 4] [4]) (.seq (.seq (.region A9_r1 none [1, 2, 3, 4, 39] [4]) (.cond (.t 39) (.seq (.region A9_r2 none [8] []) (.ret)) (.skip))) (.seq (.region A9_r3 none [2, 3, 4, 9] [4]) (.seq (.region A9_r4 none [2, 3, 4, 9, 10, 11] [4]) (.seq (.region A9_r5 none [2, 3, 4, 9, 10, 11, 12, 13] [4]) (.seq (.region A9_r6 none [2, 4, 9, 10, 11, 12, 13, 14, 15] [4]) (.seq (.region A9_r7 none [2, 4, 9, 10, 11, 12, 13, 14, 15, 16, 17] [4]) (.seq (.region A9_r8 none [2, 4, 9, 10, 11, 12, 13, 14, 15, 16, 17, 18, 19] [4]) (.seq (.seq (.region A9_r9 none [2, 4, 9, 10, 11, 12, 14, 15, 100] [4]) (.cond (.t 100) (.seq (.region A9_r10 none [8] []) (.ret)) (.skip))) (.seq (.seq (.region A9_r11 none [2, 4, 9, 10, 11, 12, 14, 15, 102] [4]) (.cond (.t 102) (.seq (.region A9_r12 none [8] []) (.ret)) (.skip))) (.seq (.region A9_r13 none [2, 4, 9, 10, 12, 14, 15, 20, 21] [4]) (.seq (.region A9_r14 none [2, 4, 9, 10, 12, 14, 15, 20, 21, 22, 23] [4]) (.seq (.seq (.region A9_r15 none [2, 4, 10, 12, 14, 15, 163] [4]) (.cond (.t 163) (.seq (.region A9_r16 none [8] []) (.ret)) (.skip))) (.seq (.region A9_r17 (some [[], [], [], [2], [1, 3], [], [4, 5, 4], [0, 6, 6], [7], [8], [8], [9, 7, 0, 1, 2, 3, 4, 5, 6, 7, 8, 9], [10, 11, 0, 1, 2, 3, 4, 5, 6, 7, 8, 9, 10, 11]]) [2, 4, 10, 12, 14, 15, 24] [4]) (.seq (.seq (.region A9_r18 none [2, 4, 10, 12, 14, 15, 24, 26] [4]) (.block 0 (.loop [2, 4, 10, 12, 14, 15, 24, 26] [4] A9_l0))) (.seq (.region A9_r23 none [8] []) (.ret))))))))))))))))) }
/- bioscope.bioscopelaw05.LicenceInTime -/
def A10_r0 : List AO := [
  { dst := (some 3), op := .box true (.t 0) },
  { dst := (some 6), op := .mov (.c (.bool false)) }]
def A10_r1 : List AO := [
  { dst := (some 15), op := .load true 6 (.t 3) },
  { dst := (some 16), op := .mov (.t 1) },
  { dst := (some 17), op := .call false true (.f 31) [.t 15, .t 16] },
  { dst := (some 14), op := .mov (.t 17) },
  { dst := (some 18), op := .ext 0 (.t 14) },
  { dst := (some 19), op := .ext 1 (.t 14) },
  { dst := (some 7), op := .mov (.t 18) },
  { dst := (some 8), op := .mov (.t 19) }]
def A10_r2 : List AO := [
  { dst := (some 20), op := .load true 6 (.t 3) },
  { dst := (some 21), op := .call false true (.f 36) [.t 20] },
  { dst := (some 22), op := .un .not (.t 21) },
  { dst := (some 23), op := .mov (.t 22) },
  { dst := (some 24), op := .mov (.t 1), guard := some (23, false) },
  { dst := (some 25), op := .call false true (.f 42) [.t 24, .c (.int .i64 1000)], guard := some (23, false) },
  { dst := (some 26), op := .un .not (.t 25), guard := some (23, false) },
  { dst := (some 27), op := .pick (.t 23) (.c (.bool true)) (.t 26) },
  { dst := (some 28), op := .mov (.t 27) },
  { dst := (some 29), op := .mov (.t 1), guard := some (28, false) },
  { dst := (some 30), op := .len (.t 29), guard := some (28, false) },
  { dst := (some 31), op := .bin .gtr (.t 30) (.c (.int .i64 8)), guard := some (28, false) },
  { dst := (some 32), op := .pick (.t 28) (.c (.bool true)) (.t 31) }]
def A10_r3 : List AO := [
  { dst := (some 33), op := .mov (.t 8) },
  { dst := (some 34), op := .bin .eql (.t 33) (.c (.int .i64 50)) },
  { dst := (some 35), op := .mov (.t 34) },
  { dst := (some 36), op := .mov (.t 8), guard := some (35, false) },
  { dst := (some 37), op := .bin .eql (.t 36) (.c (.int .i64 51)), guard := some (35, false) },
  { dst := (some 38), op := .pick (.t 35) (.c (.bool true)) (.t 37) },
  { dst := (some 39), op := .mov (.t 38) },
  { dst := (some 40), op := .load true 6 (.t 3), guard := some (39, false) },
  { dst := (some 41), op := .call false true (.f 16) [.t 40], guard := some (39, false) },
  { dst := (some 42), op := .bin .eql (.t 41) (.c (.int .i64 0)), guard := some (39, false) },
  { dst := (some 43), op := .pick (.t 39) (.c (.bool true)) (.t 42) },
  { dst := (some 44), op := .mov (.t 43) },
  { dst := (some 45), op := .call false true (.f 23) [], guard := some (44, true) },
  { dst := (some 46), op := .pick (.t 44) (.t 45) (.c (.bool false)) },
  { dst := (some 6), op := .mov (.t 46) }]
def A10_r4 : List AO := [
  { dst := (some 47), op := .mov (.t 2) },
  { dst := (some 48), op := .call false true (.f 35) [.t 47, .c (.int .i64 1000)] },
  { dst := (some 9), op := .mov (.t 48) }]
def A10_r5 : List AO := [
  { dst := (some 50), op := .load true 6 (.t 3) },
  { dst := (some 51), op := .mov (.t 9) },
  { dst := (some 52), op := .mov (.t 1) },
  { dst := (some 53), op := .call false true (.f 29) [.t 50, .t 51, .t 52] },
  { dst := (some 49), op := .mov (.t 53) },
  { dst := (some 54), op := .ext 0 (.t 49) },
  { dst := (some 55), op := .ext 1 (.t 49) },
  { dst := (some 10), op := .mov (.t 54) },
  { dst := (some 11), op := .mov (.t 55) }]
def A10_r6 : List AO := [
  { dst := (some 56), op := .mov (.t 8) },
  { dst := (some 57), op := .bin .neq (.t 56) (.c (.int .i64 0)) }]
def A10_r7 : List AO := [
  { dst := (some 58), op := .mov (.t 8) },
  { dst := (some 59), op := .bin .eql (.t 58) (.c (.int .i64 4)) },
  { dst := (some 60), op := .mov (.t 59) },
  { dst := (some 61), op := .mov (.t 7), guard := some (60, true) },
  { dst := (some 62), op := .bin .eql (.t 61) (.c (.int .i64 0)), guard := some (60, true) },
  { dst := (some 63), op := .pick (.t 60) (.t 62) (.c (.bool false)) },
  { dst := (some 64), op := .mov (.t 63) },
  { dst := (some 65), op := .mov (.t 11), guard := some (64, true) },
  { dst := (some 66), op := .mov (.t 8), guard := some (64, true) },
  { dst := (some 67), op := .bin .eql (.t 65) (.t 66), guard := some (64, true) },
  { dst := (some 68), op := .pick (.t 64) (.t 67) (.c (.bool false)) },
  { dst := (some 69), op := .mov (.t 68) },
  { dst := (some 70), op := .call false true (.f 23) [], guard := some (69, true) },
  { dst := (some 71), op := .pick (.t 69) (.t 70) (.c (.bool false)) },
  { dst := (some 6), op := .mov (.t 71) }]
def A10_r8 : List AO := [
  { dst := (some 73), op := .load true 6 (.t 3) },
  { dst := (some 74), op := .mov (.t 7) },
  { dst := (some 75), op := .mm false (.t 74) [.c (.int .i64 999)] },
  { dst := (some 76), op := .mov (.t 1) },
  { dst := (some 77), op := .call false true (.f 29) [.t 73, .t 75, .t 76] },
  { dst := (some 72), op := .mov (.t 77) },
  { dst := (some 78), op := .ext 0 (.t 72) },
  { dst := (some 79), op := .ext 1 (.t 72) },
  { dst := (some 12), op := .mov (.t 78) },
  { dst := (some 13), op := .mov (.t 79) }]
def A10_r9 : List AO := [
  { dst := (some 80), op := .mov (.t 7) },
  { dst := (some 81), op := .call false true (.f 46) [.t 80, .c (.int .i64 0), .c (.int .i64 999)] },
  { dst := (some 82), op := .mov (.t 81) },
  { dst := (some 83), op := .mov (.t 13), guard := some (82, true) },
  { dst := (some 84), op := .bin .eql (.t 83) (.c (.int .i64 0)), guard := some (82, true) },
  { dst := (some 85), op := .pick (.t 82) (.t 84) (.c (.bool false)) },
  { dst := (some 86), op := .mov (.t 85) },
  { dst := (some 87), op := .mov (.t 11), guard := some (86, true) },
  { dst := (some 88), op := .bin .eql (.t 87) (.c (.int .i64 0)), guard := some (86, true) },
  { dst := (some 89), op := .mov (.t 9), guard := some (86, true) },
  { dst := (some 90), op := .mov (.t 7), guard := some (86, true) },
  { dst := (some 91), op := .bin .leq (.t 89) (.t 90), guard := some (86, true) },
  { dst := (some 92), op := .eqb false (.t 88) (.t 91), guard := some (86, true) },
  { dst := (some 93), op := .pick (.t 86) (.t 92) (.c (.bool false)) },
  { dst := (some 94), op := .mov (.t 93) },
  { dst := (some 95), op := .mov (.t 11), guard := some (94, true) },
  { dst := (some 96), op := .bin .eql (.t 95) (.c (.int .i64 0)), guard := some (94, true) },
  { dst := (some 97), op := .mov (.t 96), guard := some (94, true) },
  { dst := (some 98), op := .mov (.t 11), guard := some (97, false) },
  { dst := (some 99), op := .bin .eql (.t 98) (.c (.int .i64 4)), guard := some (97, false) },
  { dst := (some 100), op := .pick (.t 97) (.c (.bool true)) (.t 99), guard := some (94, true) },
  { dst := (some 101), op := .pick (.t 94) (.t 100) (.c (.bool false)) },
  { dst := (some 102), op := .mov (.t 101) },
  { dst := (some 103), op := .call false true (.f 23) [], guard := some (102, true) },
  { dst := (some 104), op := .pick (.t 102) (.t 103) (.c (.bool false)) },
  { dst := (some 6), op := .mov (.t 104) }]
def A10 : AF := { np := 3, res := [.tmp 6], body := (.seq (.region A10_r0 none [1, 2, 3] [3]) (.seq (.region A10_r1 none [1, 2, 3, 7, 8] [3]) (.seq (.seq (.region A10_r2 none [1, 2, 3, 7, 8, 32] [3]) (.cond (.t 32) (.seq (.region A10_r3 none [6] []) (.ret)) (.skip))) (.seq (.region A10_r4 none [1, 3, 7, 8, 9] [3]) (.seq (.region A10_r5 none [1, 3, 7, 8, 9, 11] [3]) (.seq (.seq (.region A10_r6 none [1, 3, 7, 8, 9, 11, 57] [3]) (.cond (.t 57) (.seq (.region A10_r7 none [6] []) (.ret)) (.skip))) (.seq (.region A10_r8 none [7, 9, 11, 13] []) (.seq (.region A10_r9 none [6] []) (.ret))))))))) }
/- bioscope.bioscopelaw05.LicenceEasier -/
def A11_r0 : List AO := [
  { dst := (some 4), op := .box true (.t 0) },
  { dst := (some 7), op := .box true (.t 3) },
  { dst := (some 8), op := .mov (.c (.bool false)) }]
def A11_r1 : List AO := [
  { dst := (some 26), op := .load true 6 (.t 4) },
  { dst := (some 27), op := .call false true (.f 36) [.t 26] },
  { dst := (some 28), op := .un .not (.t 27) },
  { dst := (some 29), op := .mov (.t 28) },
  { dst := (some 30), op := .mov (.t 2), guard := some (29, false) },
  { dst := (some 31), op := .call false true (.f 42) [.t 30, .c (.int .i64 1000)], guard := some (29, false) },
  { dst := (some 32), op := .un .not (.t 31), guard := some (29, false) },
  { dst := (some 33), op := .pick (.t 29) (.c (.bool true)) (.t 32) },
  { dst := (some 34), op := .mov (.t 33) },
  { dst := (some 35), op := .mov (.t 2), guard := some (34, false) },
  { dst := (some 36), op := .len (.t 35), guard := some (34, false) },
  { dst := (some 37), op := .bin .gtr (.t 36) (.c (.int .i64 8)), guard := some (34, false) },
  { dst := (some 38), op := .pick (.t 34) (.c (.bool true)) (.t 37) }]
def A11_r2 : List AO := [
  { dst := (some 39), op := .call false true (.f 23) [] },
  { dst := (some 8), op := .mov (.t 39) }]
def A11_r3 : List AO := [
  { dst := (some 40), op := .mov (.t 1) },
  { dst := (some 41), op := .call false true (.f 35) [.t 40, .c (.int .i64 1000)] },
  { dst := (some 42), op := .aaddr 1 4 (.t 7) (.c (.int .i64 3)) },
  { dst := (some 43), op := .load false 1 (.t 42) },
  { dst := (some 44), op := .call false true (.f 35) [.t 43, .c (.int .i64 8001)] },
  { dst := (some 9), op := .mov (.t 41) },
  { dst := (some 10), op := .mov (.t 44) }]
def A11_r4 : List AO := [
  { dst := (some 45), op := .load true 6 (.t 4) },
  { dst := (some 46), op := .mov (.t 2) },
  { dst := (some 47), op := .mov (.t 10) },
  { dst := (some 11), op := .new true [.lst (some true) true 0 [], .int .i64 0, .lst (some true) true 0 [], .int .i64 0, .int .i64 0, .lst (some true) true 0 []] },
  { dst := none, op := .store 6 (.t 11) (.t 45) },
  { dst := (some 12), op := .mov (.t 46) },
  { dst := (some 13), op := .mov (.t 47) }]
def A11_r5 : List AO := [
  { dst := (some 48), op := .bslice true 3 0 [] [] },
  { dst := (some 49), op := .faddr 0 (.t 4) },
  { dst := (some 50), op := .load false 1 (.t 49) },
  { dst := (some 51), op := .app 3 53 24 (.t 48) (.t 50) },
  { dst := (some 52), op := .faddr 0 (.t 11) },
  { dst := none, op := .store 1 (.t 52) (.t 51) }]
def A11_r6 : List AO := [
  { dst := (some 53), op := .aaddr 1 4 (.t 7) (.c (.int .i64 1)) },
  { dst := (some 54), op := .load false 1 (.t 53) },
  { dst := (some 55), op := .faddr 0 (.t 4) },
  { dst := (some 56), op := .load false 1 (.t 55) },
  { dst := (some 57), op := .len (.t 56) },
  { dst := (some 58), op := .call false true (.f 35) [.t 54, .t 57] },
  { dst := (some 59), op := .aaddr 1 4 (.t 7) (.c (.int .i64 2)) },
  { dst := (some 60), op := .load false 1 (.t 59) },
  { dst := (some 61), op := .call false true (.f 35) [.t 60, .c (.int .i64 20)] },
  { dst := (some 14), op := .mov (.t 58) },
  { dst := (some 15), op := .mov (.t 61) }]
def A11_r7 : List AO := [
  { dst := (some 62), op := .aaddr 1 4 (.t 7) (.c (.int .i64 0)) },
  { dst := (some 63), op := .load false 1 (.t 62) },
  { dst := (some 64), op := .call false true (.f 35) [.t 63, .c (.int .i64 5)] },
  { dst := (some 16), op := .mov (.t 64) }]
def A11_r8 : List AO := [
  { dst := (some 65), op := .mov (.t 16) }]
def A11_r10 : List AO := [
  { dst := (some 71), op := .bin .eql (.t 65) (.c (.int .i64 0)) },
  { dst := (some 70), op := .mov (.t 71) }]
def A11_r11 : List AO := [
  { dst := (some 72), op := .mov (.t 2) },
  { dst := (some 73), op := .len (.t 72) },
  { dst := (some 74), op := .bin .gtr (.t 73) (.c (.int .i64 0)) }]
def A11_r12 : List AO := [
  { dst := (some 75), op := .aaddr 1 4 (.t 7) (.c (.int .i64 1)) },
  { dst := (some 76), op := .load false 1 (.t 75) },
  { dst := (some 77), op := .mov (.t 2) },
  { dst := (some 78), op := .len (.t 77) },
  { dst := (some 79), op := .call false true (.f 35) [.t 76, .t 78] },
  { dst := (some 17), op := .mov (.t 79) }]
def A11_r13 : List AO := [
  { dst := (some 80), op := .bslice true 1 0 [] [] },
  { dst := (some 81), op := .mov (.t 2) },
  { dst := (some 82), op := .mov (.t 17) },
  { dst := (some 83), op := .slc 1 (.t 81) none (some (.t 82)) none },
  { dst := (some 84), op := .app 1 3 8 (.t 80) (.t 83) },
  { dst := (some 85), op := .mov (.t 2) },
  { dst := (some 86), op := .mov (.t 17) },
  { dst := (some 87), op := .bin .add (.t 86) (.c (.int .i64 1)) },
  { dst := (some 88), op := .slc 1 (.t 85) (some (.t 87)) none none },
  { dst := (some 89), op := .app 1 3 8 (.t 84) (.t 88) },
  { dst := (some 12), op := .mov (.t 89) }]
def A11_r14 : List AO := [
  { dst := (some 91), op := .bin .eql (.t 65) (.c (.int .i64 1)) },
  { dst := (some 90), op := .mov (.t 91) }]
def A11_r15 : List AO := [
  { dst := (some 92), op := .faddr 0 (.t 11) },
  { dst := (some 93), op := .load false 1 (.t 92) },
  { dst := (some 94), op := .mov (.t 14) },
  { dst := (some 95), op := .faddr 0 (.t 4) },
  { dst := (some 96), op := .load false 1 (.t 95) },
  { dst := (some 97), op := .mov (.t 14) },
  { dst := (some 98), op := .iaddr 3 (.t 96) (.t 97) },
  { dst := (some 99), op := .faddr 2 (.t 98) },
  { dst := (some 100), op := .load false 1 (.t 99) },
  { dst := (some 101), op := .mov (.t 15) },
  { dst := (some 102), op := .bin .sub (.t 100) (.t 101) },
  { dst := (some 103), op := .mm true (.c (.int .i64 0)) [.t 102] },
  { dst := (some 104), op := .iaddr 3 (.t 93) (.t 94) },
  { dst := (some 105), op := .faddr 2 (.t 104) },
  { dst := none, op := .store 1 (.t 105) (.t 103) }]
def A11_r16 : List AO := [
  { dst := (some 107), op := .bin .eql (.t 65) (.c (.int .i64 2)) },
  { dst := (some 106), op := .mov (.t 107) }]
def A11_r17 : List AO := [
  { dst := (some 108), op := .faddr 1 (.t 4) },
  { dst := (some 109), op := .load false 1 (.t 108) },
  { dst := (some 110), op := .mov (.t 15) },
  { dst := (some 111), op := .bin .sub (.t 109) (.t 110) },
  { dst := (some 112), op := .mm true (.c (.int .i64 0)) [.t 111] },
  { dst := (some 113), op := .faddr 1 (.t 11) },
  { dst := none, op := .store 1 (.t 113) (.t 112) }]
def A11_r18 : List AO := [
  { dst := (some 115), op := .bin .eql (.t 65) (.c (.int .i64 3)) },
  { dst := (some 114), op := .mov (.t 115) }]
def A11_r19 : List AO := [
  { dst := (some 116), op := .faddr 0 (.t 11) },
  { dst := (some 117), op := .load false 1 (.t 116) },
  { dst := (some 118), op := .mov (.t 14) },
  { dst := (some 119), op := .faddr 0 (.t 4) },
  { dst := (some 120), op := .load false 1 (.t 119) },
  { dst := (some 121), op := .mov (.t 14) },
  { dst := (some 122), op := .iaddr 3 (.t 120) (.t 121) },
  { dst := (some 123), op := .faddr 1 (.t 122) },
  { dst := (some 124), op := .load false 1 (.t 123) },
  { dst := (some 125), op := .mov (.t 15) },
  { dst := (some 126), op := .bin .sub (.t 124) (.t 125) },
  { dst := (some 127), op := .mm true (.c (.int .i64 0)) [.t 126] },
  { dst := (some 128), op := .iaddr 3 (.t 117) (.t 118) },
  { dst := (some 129), op := .faddr 1 (.t 128) },
  { dst := none, op := .store 1 (.t 129) (.t 127) }]
def A11_r9 : List AO := [
  { dst := (some 66), op := .mov (.t 10) },
  { dst := (some 67), op := .mov (.t 15) },
  { dst := (some 68), op := .bin .add (.t 66) (.t 67) },
  { dst := (some 69), op := .mm false (.c (.int .i64 8000)) [.t 68] },
  { dst := (some 13), op := .mov (.t 69) }]
def A11_r20 : List AO := [
  { dst := (some 131), op := .load true 6 (.t 4) },
  { dst := (some 132), op := .mov (.t 9) },
  { dst := (some 133), op := .mov (.t 2) },
  { dst := (some 134), op := .call false true (.f 29) [.t 131, .t 132, .t 133] },
  { dst := (some 130), op := .mov (.t 134) },
  { dst := (some 135), op := .ext 0 (.t 130) },
  { dst := (some 136), op := .ext 1 (.t 130) },
  { dst := (some 18), op := .mov (.t 135) },
  { dst := (some 19), op := .mov (.t 136) }]
def A11_r21 : List AO := [
  { dst := (some 138), op := .load true 6 (.t 11) },
  { dst := (some 139), op := .mov (.t 9) },
  { dst := (some 140), op := .mov (.t 12) },
  { dst := (some 141), op := .call false true (.f 29) [.t 138, .t 139, .t 140] },
  { dst := (some 137), op := .mov (.t 141) },
  { dst := (some 142), op := .ext 0 (.t 137) },
  { dst := (some 143), op := .ext 1 (.t 137) },
  { dst := (some 20), op := .mov (.t 142) },
  { dst := (some 21), op := .mov (.t 143) }]
def A11_r22 : List AO := [
  { dst := (some 144), op := .mov (.t 19) },
  { dst := (some 145), op := .bin .eql (.t 144) (.c (.int .i64 0)) },
  { dst := (some 146), op := .mov (.t 145) },
  { dst := (some 147), op := .mov (.t 21), guard := some (146, true) },
  { dst := (some 148), op := .bin .neq (.t 147) (.c (.int .i64 0)), guard := some (146, true) },
  { dst := (some 149), op := .mov (.t 148), guard := some (146, true) },
  { dst := (some 150), op := .mov (.t 20), guard := some (149, false) },
  { dst := (some 151), op := .mov (.t 18), guard := some (149, false) },
  { dst := (some 152), op := .bin .gtr (.t 150) (.t 151), guard := some (149, false) },
  { dst := (some 153), op := .pick (.t 149) (.c (.bool true)) (.t 152), guard := some (146, true) },
  { dst := (some 154), op := .pick (.t 146) (.t 153) (.c (.bool false)) },
  { dst := (some 155), op := .mov (.t 154) },
  { dst := (some 156), op := .mov (.t 19), guard := some (155, false) },
  { dst := (some 157), op := .bin .neq (.t 156) (.c (.int .i64 0)), guard := some (155, false) },
  { dst := (some 158), op := .mov (.t 157), guard := some (155, false) },
  { dst := (some 159), op := .mov (.t 19), guard := some (158, true) },
  { dst := (some 160), op := .bin .neq (.t 159) (.c (.int .i64 4)), guard := some (158, true) },
  { dst := (some 161), op := .pick (.t 158) (.t 160) (.c (.bool false)), guard := some (155, false) },
  { dst := (some 162), op := .pick (.t 155) (.c (.bool true)) (.t 161) },
  { dst := (some 163), op := .mov (.t 162) },
  { dst := (some 164), op := .mov (.t 21), guard := some (163, false) },
  { dst := (some 165), op := .bin .neq (.t 164) (.c (.int .i64 0)), guard := some (163, false) },
  { dst := (some 166), op := .mov (.t 165), guard := some (163, false) },
  { dst := (some 167), op := .mov (.t 21), guard := some (166, true) },
  { dst := (some 168), op := .bin .neq (.t 167) (.c (.int .i64 4)), guard := some (166, true) },
  { dst := (some 169), op := .pick (.t 166) (.t 168) (.c (.bool false)), guard := some (163, false) },
  { dst := (some 170), op := .pick (.t 163) (.c (.bool true)) (.t 169) }]
def A11_r23 : List AO := [
  { dst := (some 8), op := .mov (.c (.bool false)) }]
def A11_r24 : List AO := [
  { dst := (some 172), op := .load true 6 (.t 4) },
  { dst := (some 173), op := .mov (.t 9) },
  { dst := (some 174), op := .mov (.t 2) },
  { dst := (some 175), op := .mov (.t 10) },
  { dst := (some 176), op := .call false true (.f 33) [.t 172, .t 173, .t 174, .t 175] },
  { dst := (some 171), op := .mov (.t 176) },
  { dst := (some 177), op := .ext 0 (.t 171) },
  { dst := (some 178), op := .ext 1 (.t 171) },
  { dst := (some 22), op := .mov (.t 177) },
  { dst := (some 23), op := .mov (.t 178) }]
def A11_r25 : List AO := [
  { dst := (some 180), op := .load true 6 (.t 11) },
  { dst := (some 181), op := .mov (.t 9) },
  { dst := (some 182), op := .mov (.t 2) },
  { dst := (some 183), op := .mov (.t 13) },
  { dst := (some 184), op := .call false true (.f 33) [.t 180, .t 181, .t 182, .t 183] },
  { dst := (some 179), op := .mov (.t 184) },
  { dst := (some 185), op := .ext 0 (.t 179) },
  { dst := (some 186), op := .ext 1 (.t 179) },
  { dst := (some 24), op := .mov (.t 185) },
  { dst := (some 25), op := .mov (.t 186) }]
def A11_r26 : List AO := [
  { dst := (some 187), op := .mov (.t 23) },
  { dst := (some 188), op := .bin .eql (.t 187) (.c (.int .i64 0)) },
  { dst := (some 189), op := .mov (.t 188) },
  { dst := (some 190), op := .mov (.t 25), guard := some (189, true) },
  { dst := (some 191), op := .bin .eql (.t 190) (.c (.int .i64 0)), guard := some (189, true) },
  { dst := (some 192), op := .pick (.t 189) (.t 191) (.c (.bool false)) },
  { dst := (some 193), op := .mov (.t 192) },
  { dst := (some 194), op := .mov (.t 24), guard := some (193, true) },
  { dst := (some 195), op := .len (.t 194), guard := some (193, true) },
  { dst := (some 196), op := .mov (.t 22), guard := some (193, true) },
  { dst := (some 197), op := .len (.t 196), guard := some (193, true) },
  { dst := (some 198), op := .bin .geq (.t 195) (.t 197), guard := some (193, true) },
  { dst := (some 199), op := .pick (.t 193) (.t 198) (.c (.bool false)) },
  { dst := (some 200), op := .mov (.t 199) },
  { dst := (some 201), op := .call false true (.f 23) [], guard := some (200, true) },
  { dst := (some 202), op := .pick (.t 200) (.t 201) (.c (.bool false)) },
  { dst := (some 8), op := .mov (.t 202) }]
def A11 : AF := { np := 4, res := [.tmp 8], body := (.seq (.region A11_r0 none [1, 2, 4, 7] [4, 7]) (.seq (.seq (.region A11_r1 none [1, 2, 4, 7, 38] [4, 7]) (.cond (.t 38) (.seq (.region A11_r2 none [8] []) (.ret)) (.skip))) (.seq (.region A11_r3 (some [[], [0], [], [2], [3, 1], [1, 4, 0, 1], [4, 5, 0, 1, 2, 3, 4, 5]]) [2, 4, 7, 9, 10] [4, 7]) (.seq (.region A11_r4 none [2, 4, 7, 9, 10, 11, 12, 13] [4, 7, 11]) (.seq (.region A11_r5 none [2, 4, 7, 9, 10, 11, 12, 13] [4, 7, 11]) (.seq (.region A11_r6 (some [[], [0], [], [2], [3], [1, 4], [], [6], [7, 5], [5, 8, 0, 1, 2, 3, 4, 5], [8, 9, 0, 1, 2, 3, 4, 5, 6, 7, 8, 9]]) [2, 4, 7, 9, 10, 11, 12, 13, 14, 15] [4, 7, 11]) (.seq (.region A11_r7 none [2, 4, 7, 9, 10, 11, 12, 13, 14, 15, 16] [4, 7, 11]) (.seq (.seq (.region A11_r8 none [2, 4, 7, 9, 10, 11, 12, 13, 14, 15, 65] [4, 7, 11]) (.block 0 (.seq (.region A11_r10 none [2, 4, 7, 9, 10, 11, 12, 13, 14, 15, 65, 70] [4, 7, 11]) (.cond (.t 70) (.seq (.region A11_r11 none [2, 4, 7, 9, 10, 11, 12, 13, 74] [4, 7, 11]) (.cond (.t 74) (.seq (.region A11_r12 none [2, 4, 9, 10, 11, 13, 17] [4, 11]) (.region A11_r13 (some [[], [], [], [1, 2], [0, 3], [], [], [6], [5, 7], [4, 8, 4], [9, 9, 0, 1, 2, 3, 4, 5, 6, 7, 8, 9]]) [2, 4, 9, 10, 11, 12, 13] [4, 11])) (.skip))) (.seq (.region A11_r14 none [2, 4, 9, 10, 11, 12, 13, 14, 15, 65, 90] [4, 11]) (.cond (.t 90) (.region A11_r15 (some [[], [0], [], [], [3], [], [4, 5], [6], [7], [], [8, 9], [10], [1, 2, 0, 1, 2, 3, 4, 5, 6, 7, 8, 9, 10, 11], [12, 0, 1, 2, 3, 4, 5, 6, 7, 8, 9, 10, 11], [13, 11, 0, 1, 2, 3, 4, 5, 6, 7, 8, 9, 10, 11]]) [2, 4, 9, 10, 11, 12, 13] [4, 11]) (.seq (.region A11_r16 none [2, 4, 9, 10, 11, 12, 13, 14, 15, 65, 106] [4, 11]) (.cond (.t 106) (.region A11_r17 none [2, 4, 9, 10, 11, 12, 13] [4, 11]) (.seq (.region A11_r18 none [2, 4, 9, 10, 11, 12, 13, 14, 15, 114] [4, 11]) (.cond (.t 114) (.region A11_r19 (some [[], [0], [], [], [3], [], [4, 5], [6], [7], [], [8, 9], [10], [1, 2, 0, 1, 2, 3, 4, 5, 6, 7, 8, 9, 10, 11], [12, 0, 1, 2, 3, 4, 5, 6, 7, 8, 9, 10, 11], [13, 11, 0, 1, 2, 3, 4, 5, 6, 7, 8, 9, 10, 11]]) [2, 4, 9, 10, 11, 12, 13] [4, 11]) (.region A11_r9 none [2, 4, 9, 10, 11, 12, 13] [4, 11]))))))))))) (.seq (.region A11_r20 none [2, 4, 9, 10, 11, 12, 13, 18, 19] [4, 11]) (.seq (.region A11_r21 none [2, 4, 9, 10, 11, 13, 18, 19, 20, 21] [4, 11]) (.seq (.seq (.region A11_r22 none [2, 4, 9, 10, 11, 13, 170] [4, 11]) (.cond (.t 170) (.seq (.region A11_r23 none [8] []) (.ret)) (.skip))) (.seq (.region A11_r24 none [2, 9, 11, 13, 22, 23] [11]) (.seq (.region A11_r25 none [22, 23, 24, 25] []) (.seq (.region A11_r26 none [8] []) (.ret))))))))))))))) }
/- bioscope.bioscopelaw05.LicenceMost -/
def A12_r0 : List AO := [
  { dst := (some 4), op := .box true (.t 0) },
  { dst := (some 7), op := .box true (.t 3) },
  { dst := (some 8), op := .mov (.c (.bool false)) }]
def A12_r1 : List AO := [
  { dst := (some 24), op := .load true 6 (.t 4) },
  { dst := (some 25), op := .call false true (.f 36) [.t 24] },
  { dst := (some 26), op := .un .not (.t 25) },
  { dst := (some 27), op := .mov (.t 26) },
  { dst := (some 28), op := .mov (.t 2), guard := some (27, false) },
  { dst := (some 29), op := .call false true (.f 42) [.t 28, .c (.int .i64 1000)], guard := some (27, false) },
  { dst := (some 30), op := .un .not (.t 29), guard := some (27, false) },
  { dst := (some 31), op := .pick (.t 27) (.c (.bool true)) (.t 30) },
  { dst := (some 32), op := .mov (.t 31) },
  { dst := (some 33), op := .mov (.t 2), guard := some (32, false) },
  { dst := (some 34), op := .len (.t 33), guard := some (32, false) },
  { dst := (some 35), op := .bin .gtr (.t 34) (.c (.int .i64 8)), guard := some (32, false) },
  { dst := (some 36), op := .pick (.t 32) (.c (.bool true)) (.t 35) }]
def A12_r2 : List AO := [
  { dst := (some 37), op := .call false true (.f 23) [] },
  { dst := (some 8), op := .mov (.t 37) }]
def A12_r3 : List AO := [
  { dst := (some 38), op := .mov (.t 1) },
  { dst := (some 39), op := .call false true (.f 35) [.t 38, .c (.int .i64 1000)] },
  { dst := (some 40), op := .aaddr 1 2 (.t 7) (.c (.int .i64 0)) },
  { dst := (some 41), op := .load false 1 (.t 40) },
  { dst := (some 42), op := .call false true (.f 35) [.t 41, .c (.int .i64 8001)] },
  { dst := (some 9), op := .mov (.t 39) },
  { dst := (some 10), op := .mov (.t 42) }]
def A12_r4 : List AO := [
  { dst := (some 44), op := .load true 6 (.t 4) },
  { dst := (some 45), op := .mov (.t 9) },
  { dst := (some 46), op := .mov (.t 2) },
  { dst := (some 47), op := .mov (.t 10) },
  { dst := (some 48), op := .call false true (.f 33) [.t 44, .t 45, .t 46, .t 47] },
  { dst := (some 43), op := .mov (.t 48) },
  { dst := (some 49), op := .ext 0 (.t 43) },
  { dst := (some 50), op := .ext 1 (.t 43) },
  { dst := (some 11), op := .mov (.t 49) },
  { dst := (some 12), op := .mov (.t 50) }]
def A12_r5 : List AO := [
  { dst := (some 51), op := .mov (.t 12) },
  { dst := (some 52), op := .bin .neq (.t 51) (.c (.int .i64 0)) },
  { dst := (some 53), op := .mov (.t 52) },
  { dst := (some 54), op := .mov (.t 11), guard := some (53, false) },
  { dst := (some 55), op := .call false true (.f 42) [.t 54, .c (.int .i64 1000)], guard := some (53, false) },
  { dst := (some 56), op := .un .not (.t 55), guard := some (53, false) },
  { dst := (some 57), op := .pick (.t 53) (.c (.bool true)) (.t 56) },
  { dst := (some 58), op := .mov (.t 57) },
  { dst := (some 59), op := .mov (.t 11), guard := some (58, false) },
  { dst := (some 60), op := .len (.t 59), guard := some (58, false) },
  { dst := (some 61), op := .mov (.t 2), guard := some (58, false) },
  { dst := (some 62), op := .len (.t 61), guard := some (58, false) },
  { dst := (some 63), op := .bin .gtr (.t 60) (.t 62), guard := some (58, false) },
  { dst := (some 64), op := .pick (.t 58) (.c (.bool true)) (.t 63) }]
def A12_r6 : List AO := [
  { dst := (some 8), op := .mov (.c (.bool false)) }]
def A12_r7 : List AO := [
  { dst := (some 13), op := .mov (.c (.int .i64 0)) }]
def A12_r8 : List AO := [
  { dst := (some 65), op := .mov (.t 13) },
  { dst := (some 66), op := .mov (.t 11) },
  { dst := (some 67), op := .len (.t 66) },
  { dst := (some 68), op := .bin .lss (.t 65) (.t 67) }]
def A12_r10 : List AO := [
  { dst := (some 71), op := .mov (.t 2) },
  { dst := (some 72), op := .mov (.t 11) },
  { dst := (some 73), op := .mov (.t 13) },
  { dst := (some 74), op := .iaddr 1 (.t 72) (.t 73) },
  { dst := (some 75), op := .load false 1 (.t 74) },
  { dst := (some 76), op := .call false true (.f 47) [.t 71, .t 75] },
  { dst := (some 77), op := .bin .lss (.t 76) (.c (.int .i64 0)) }]
def A12_r11 : List AO := [
  { dst := (some 8), op := .mov (.c (.bool false)) }]
def A12_r9 : List AO := [
  { dst := (some 69), op := .mov (.t 13) },
  { dst := (some 70), op := .bin .add (.t 69) (.c (.int .i64 1)) },
  { dst := (some 13), op := .mov (.t 70) }]
def A12_l0 : AC := .seq (.seq (.region A12_r8 none [2, 4, 7, 9, 10, 11, 13, 68] [4, 7]) (.cond (.t 68) (.skip) (.exit 0))) (.seq (.block 1 (.seq (.region A12_r10 none [2, 4, 7, 9, 10, 11, 13, 77] [4, 7]) (.cond (.t 77) (.seq (.region A12_r11 none [8] []) (.ret)) (.skip)))) (.region A12_r9 none [2, 4, 7, 9, 10, 11, 13] [4, 7]))
def A12_r12 : List AO := [
  { dst := (some 79), op := .load true 6 (.t 4) },
  { dst := (some 80), op := .mov (.t 9) },
  { dst := (some 81), op := .mov (.t 11) },
  { dst := (some 82), op := .call false true (.f 29) [.t 79, .t 80, .t 81] },
  { dst := (some 78), op := .mov (.t 82) },
  { dst := (some 83), op := .ext 0 (.t 78) },
  { dst := (some 84), op := .ext 1 (.t 78) },
  { dst := (some 14), op := .mov (.t 83) },
  { dst := (some 15), op := .mov (.t 84) }]
def A12_r13 : List AO := [
  { dst := (some 85), op := .mov (.t 15) },
  { dst := (some 86), op := .bin .neq (.t 85) (.c (.int .i64 0)) },
  { dst := (some 87), op := .mov (.t 86) },
  { dst := (some 88), op := .mov (.t 14), guard := some (87, false) },
  { dst := (some 89), op := .mov (.t 10), guard := some (87, false) },
  { dst := (some 90), op := .bin .gtr (.t 88) (.t 89), guard := some (87, false) },
  { dst := (some 91), op := .pick (.t 87) (.c (.bool true)) (.t 90) }]
def A12_r14 : List AO := [
  { dst := (some 8), op := .mov (.c (.bool false)) }]
def A12_r15 : List AO := [
  { dst := (some 16), op := .mov (.c (.lst (some true) true 0 [])) }]
def A12_r16 : List AO := [
  { dst := (some 17), op := .mov (.c (.int .i64 0)) }]
def A12_r17 : List AO := [
  { dst := (some 92), op := .mov (.t 17) },
  { dst := (some 93), op := .mov (.t 2) },
  { dst := (some 94), op := .len (.t 93) },
  { dst := (some 95), op := .bin .lss (.t 92) (.t 94) }]
def A12_r19 : List AO := [
  { dst := (some 98), op := .aaddr 1 2 (.t 7) (.c (.int .i64 1)) },
  { dst := (some 99), op := .load false 1 (.t 98) },
  { dst := (some 100), op := .call false true (.f 35) [.t 99, .c (.int .i64 256)] },
  { dst := (some 101), op := .mov (.t 17) },
  { dst := (some 102), op := .call false true (.f 38) [.t 100, .t 101] }]
def A12_r20 : List AO := [
  { dst := (some 103), op := .mov (.t 16) },
  { dst := (some 104), op := .mov (.t 2) },
  { dst := (some 105), op := .mov (.t 17) },
  { dst := (some 106), op := .iaddr 1 (.t 104) (.t 105) },
  { dst := (some 107), op := .load false 1 (.t 106) },
  { dst := (some 108), op := .bslice true 1 1 [.int .i64 0] [(0, 1, .t 107)] },
  { dst := (some 109), op := .app 1 3 8 (.t 103) (.t 108) },
  { dst := (some 16), op := .mov (.t 109) }]
def A12_r18 : List AO := [
  { dst := (some 96), op := .mov (.t 17) },
  { dst := (some 97), op := .bin .add (.t 96) (.c (.int .i64 1)) },
  { dst := (some 17), op := .mov (.t 97) }]
def A12_l1 : AC := .seq (.seq (.region A12_r17 none [2, 4, 7, 9, 10, 11, 14, 16, 17, 95] [4, 7]) (.cond (.t 95) (.skip) (.exit 2))) (.seq (.block 3 (.seq (.region A12_r19 none [2, 4, 7, 9, 10, 11, 14, 16, 17, 102] [4, 7]) (.cond (.t 102) (.region A12_r20 none [2, 4, 7, 9, 10, 11, 14, 16, 17] [4, 7]) (.skip)))) (.region A12_r18 none [2, 4, 7, 9, 10, 11, 14, 16, 17] [4, 7]))
def A12_r21 : List AO := [
  { dst := (some 111), op := .load true 6 (.t 4) },
  { dst := (some 112), op := .mov (.t 9) },
  { dst := (some 113), op := .mov (.t 16) },
  { dst := (some 114), op := .call false true (.f 29) [.t 111, .t 112, .t 113] },
  { dst := (some 110), op := .mov (.t 114) },
  { dst := (some 115), op := .ext 0 (.t 110) },
  { dst := (some 116), op := .ext 1 (.t 110) },
  { dst := (some 18), op := .mov (.t 115) },
  { dst := (some 19), op := .mov (.t 116) }]
def A12_r22 : List AO := [
  { dst := (some 117), op := .mov (.t 19) },
  { dst := (some 118), op := .bin .eql (.t 117) (.c (.int .i64 0)) },
  { dst := (some 119), op := .mov (.t 118) },
  { dst := (some 120), op := .mov (.t 18), guard := some (119, true) },
  { dst := (some 121), op := .mov (.t 10), guard := some (119, true) },
  { dst := (some 122), op := .bin .leq (.t 120) (.t 121), guard := some (119, true) },
  { dst := (some 123), op := .pick (.t 119) (.t 122) (.c (.bool false)) },
  { dst := (some 124), op := .mov (.t 123) },
  { dst := (some 125), op := .mov (.t 16), guard := some (124, true) },
  { dst := (some 126), op := .len (.t 125), guard := some (124, true) },
  { dst := (some 127), op := .mov (.t 11), guard := some (124, true) },
  { dst := (some 128), op := .len (.t 127), guard := some (124, true) },
  { dst := (some 129), op := .bin .gtr (.t 126) (.t 128), guard := some (124, true) },
  { dst := (some 130), op := .mov (.t 129), guard := some (124, true) },
  { dst := (some 131), op := .mov (.t 16), guard := some (130, false) },
  { dst := (some 132), op := .len (.t 131), guard := some (130, false) },
  { dst := (some 133), op := .mov (.t 11), guard := some (130, false) },
  { dst := (some 134), op := .len (.t 133), guard := some (130, false) },
  { dst := (some 135), op := .bin .eql (.t 132) (.t 134), guard := some (130, false) },
  { dst := (some 136), op := .mov (.t 135), guard := some (130, false) },
  { dst := (some 137), op := .mov (.t 18), guard := some (136, true) },
  { dst := (some 138), op := .mov (.t 14), guard := some (136, true) },
  { dst := (some 139), op := .bin .lss (.t 137) (.t 138), guard := some (136, true) },
  { dst := (some 140), op := .mov (.t 139), guard := some (136, true) },
  { dst := (some 141), op := .mov (.t 18), guard := some (140, false) },
  { dst := (some 142), op := .mov (.t 14), guard := some (140, false) },
  { dst := (some 143), op := .bin .eql (.t 141) (.t 142), guard := some (140, false) },
  { dst := (some 144), op := .mov (.t 143), guard := some (140, false) },
  { dst := (some 145), op := .mov (.t 16), guard := some (144, true) },
  { dst := (some 146), op := .mov (.t 11), guard := some (144, true) },
  { dst := (some 147), op := .call false true (.f 48) [.t 145, .t 146], guard := some (144, true) },
  { dst := (some 148), op := .pick (.t 144) (.t 147) (.c (.bool false)), guard := some (140, false) },
  { dst := (some 149), op := .pick (.t 140) (.c (.bool true)) (.t 148), guard := some (136, true) },
  { dst := (some 150), op := .pick (.t 136) (.t 149) (.c (.bool false)), guard := some (130, false) },
  { dst := (some 151), op := .pick (.t 130) (.c (.bool true)) (.t 150), guard := some (124, true) },
  { dst := (some 152), op := .pick (.t 124) (.t 151) (.c (.bool false)) }]
def A12_r23 : List AO := [
  { dst := (some 8), op := .mov (.c (.bool false)) }]
def A12_r24 : List AO := [
  { dst := (some 154), op := .load true 6 (.t 4) },
  { dst := (some 155), op := .mov (.t 9) },
  { dst := (some 156), op := .mov (.t 2) },
  { dst := (some 157), op := .call false true (.f 29) [.t 154, .t 155, .t 156] },
  { dst := (some 153), op := .mov (.t 157) },
  { dst := (some 158), op := .ext 0 (.t 153) },
  { dst := (some 159), op := .ext 1 (.t 153) },
  { dst := (some 20), op := .mov (.t 158) },
  { dst := (some 21), op := .mov (.t 159) }]
def A12_r25 : List AO := [
  { dst := (some 160), op := .mov (.t 21) },
  { dst := (some 161), op := .bin .neq (.t 160) (.c (.int .i64 0)) }]
def A12_r26 : List AO := [
  { dst := (some 162), op := .mov (.t 21) },
  { dst := (some 163), op := .bin .eql (.t 162) (.c (.int .i64 4)) },
  { dst := (some 164), op := .mov (.t 163) },
  { dst := (some 165), op := .mov (.t 11), guard := some (164, true) },
  { dst := (some 166), op := .len (.t 165), guard := some (164, true) },
  { dst := (some 167), op := .mov (.t 2), guard := some (164, true) },
  { dst := (some 168), op := .len (.t 167), guard := some (164, true) },
  { dst := (some 169), op := .bin .lss (.t 166) (.t 168), guard := some (164, true) },
  { dst := (some 170), op := .pick (.t 164) (.t 169) (.c (.bool false)) },
  { dst := (some 171), op := .mov (.t 170) },
  { dst := (some 172), op := .call false true (.f 23) [], guard := some (171, true) },
  { dst := (some 173), op := .pick (.t 171) (.t 172) (.c (.bool false)) },
  { dst := (some 8), op := .mov (.t 173) }]
def A12_r27 : List AO := [
  { dst := (some 175), op := .load true 6 (.t 4) },
  { dst := (some 176), op := .mov (.t 9) },
  { dst := (some 177), op := .mov (.t 2) },
  { dst := (some 178), op := .mov (.t 20) },
  { dst := (some 179), op := .mm false (.t 178) [.c (.int .i64 8000)] },
  { dst := (some 180), op := .call false true (.f 33) [.t 175, .t 176, .t 177, .t 179] },
  { dst := (some 174), op := .mov (.t 180) },
  { dst := (some 181), op := .ext 0 (.t 174) },
  { dst := (some 182), op := .ext 1 (.t 174) },
  { dst := (some 22), op := .mov (.t 181) },
  { dst := (some 23), op := .mov (.t 182) }]
def A12_r28 : List AO := [
  { dst := (some 183), op := .mov (.t 23) },
  { dst := (some 184), op := .bin .eql (.t 183) (.c (.int .i64 0)) },
  { dst := (some 185), op := .mov (.t 184) },
  { dst := (some 186), op := .mov (.t 22), guard := some (185, true) },
  { dst := (some 187), op := .len (.t 186), guard := some (185, true) },
  { dst := (some 188), op := .mov (.t 2), guard := some (185, true) },
  { dst := (some 189), op := .len (.t 188), guard := some (185, true) },
  { dst := (some 190), op := .bin .eql (.t 187) (.t 189), guard := some (185, true) },
  { dst := (some 191), op := .pick (.t 185) (.t 190) (.c (.bool false)) },
  { dst := (some 192), op := .mov (.t 191) },
  { dst := (some 193), op := .call false true (.f 23) [], guard := some (192, true) },
  { dst := (some 194), op := .pick (.t 192) (.t 193) (.c (.bool false)) },
  { dst := (some 8), op := .mov (.t 194) }]
def A12 : AF := { np := 4, res := [.tmp 8], body := (.seq (.region A12_r0 none [1, 2, 4, 7] [4, 7]) (.seq (.seq (.region A12_r1 none [1, 2, 4, 7, 36] [4, 7]) (.cond (.t 36) (.seq (.region A12_r2 none [8] []) (.ret)) (.skip))) (.seq (.region A12_r3 (some [[], [0], [], [2], [3, 1], [1, 4, 0, 1], [4, 5, 0, 1, 2, 3, 4, 5]]) [2, 4, 7, 9, 10] [4, 7]) (.seq (.region A12_r4 none [2, 4, 7, 9, 10, 11, 12] [4, 7]) (.seq (.seq (.region A12_r5 none [2, 4, 7, 9, 10, 11, 64] [4, 7]) (.cond (.t 64) (.seq (.region A12_r6 none [8] []) (.ret)) (.skip))) (.seq (.seq (.region A12_r7 none [2, 4, 7, 9, 10, 11, 13] [4, 7]) (.block 0 (.loop [2, 4, 7, 9, 10, 11, 13] [4, 7] A12_l0))) (.seq (.region A12_r12 none [2, 4, 7, 9, 10, 11, 14, 15] [4, 7]) (.seq (.seq (.region A12_r13 none [2, 4, 7, 9, 10, 11, 14, 91] [4, 7]) (.cond (.t 91) (.seq (.region A12_r14 none [8] []) (.ret)) (.skip))) (.seq (.region A12_r15 none [2, 4, 7, 9, 10, 11, 14, 16] [4, 7]) (.seq (.seq (.region A12_r16 none [2, 4, 7, 9, 10, 11, 14, 16, 17] [4, 7]) (.block 2 (.loop [2, 4, 7, 9, 10, 11, 14, 16, 17] [4, 7] A12_l1))) (.seq (.region A12_r21 none [2, 4, 9, 10, 11, 14, 16, 18, 19] [4]) (.seq (.seq (.region A12_r22 none [2, 4, 9, 11, 152] [4]) (.cond (.t 152) (.seq (.region A12_r23 none [8] []) (.ret)) (.skip))) (.seq (.region A12_r24 none [2, 4, 9, 11, 20, 21] [4]) (.seq (.seq (.region A12_r25 none [2, 4, 9, 11, 20, 21, 161] [4]) (.cond (.t 161) (.seq (.region A12_r26 none [8] []) (.ret)) (.skip))) (.seq (.region A12_r27 none [2, 22, 23] []) (.seq (.region A12_r28 none [8] []) (.ret))))))))))))))))) }
/- bioscope.bioscopelaw05.LicenceKnown -/
def A13_r0 : List AO := [
  { dst := (some 0), op := .mov (.c (.bool false)) }]
def A13_r1 : List AO := [
  { dst := (some 67), op := .build [.lst (some true) true 0 [], .int .i64 0, .lst (some true) true 0 [], .int .i64 0, .int .i64 0, .lst (some true) true 0 []] [] },
  { dst := (some 68), op := .call true true (.f 49) [] },
  { dst := (some 69), op := .call true true (.f 49) [] },
  { dst := (some 70), op := .call true true (.f 49) [] },
  { dst := (some 71), op := .call true true (.f 49) [] },
  { dst := (some 72), op := .call true true (.f 49) [] },
  { dst := (some 73), op := .call true true (.f 49) [] },
  { dst := (some 74), op := .call true true (.f 49) [] },
  { dst := (some 75), op := .call true true (.f 49) [] },
  { dst := (some 76), op := .call true true (.f 49) [] },
  { dst := (some 77), op := .call true true (.f 49) [] },
  { dst := (some 78), op := .call true true (.f 49) [] },
  { dst := (some 79), op := .call true true (.f 49) [] },
  { dst := (some 80), op := .bslice false 6 13 [.lst (some true) true 0 [], .int .i64 0, .lst (some true) true 0 [], .int .i64 0, .int .i64 0, .lst (some true) true 0 [], .lst (some true) true 0 [], .int .i64 0, .lst (some true) true 0 [], .int .i64 0, .int .i64 0, .lst (some true) true 0 [], .lst (some true) true 0 [], .int .i64 0, .lst (some true) true 0 [], .int .i64 0, .int .i64 0, .lst (some true) true 0 [], .lst (some true) true 0 [], .int .i64 0, .lst (some true) true 0 [], .int .i64 0, .int .i64 0, .lst (some true) true 0 [], .lst (some true) true 0 [], .int .i64 0, .lst (some true) true 0 [], .int .i64 0, .int .i64 0, .lst (some true) true 0 [], .lst (some true) true 0 [], .int .i64 0, .lst (some true) true 0 [], .int .i64 0, .int .i64 0, .lst (some true) true 0 [], .lst (some true) true 0 [], .int .i64 0, .lst (some true) true 0 [], .int .i64 0, .int .i64 0, .lst (some true) true 0 [], .lst (some true) true 0 [], .int .i64 0, .lst (some true) true 0 [], .int .i64 0, .int .i64 0, .lst (some true) true 0 [], .lst (some true) true 0 [], .int .i64 0, .lst (some true) true 0 [], .int .i64 0, .int .i64 0, .lst (some true) true 0 [], .lst (some true) true 0 [], .int .i64 0, .lst (some true) true 0 [], .int .i64 0, .int .i64 0, .lst (some true) true 0 [], .lst (some true) true 0 [], .int .i64 0, .lst (some true) true 0 [], .int .i64 0, .int .i64 0, .lst (some true) true 0 [], .lst (some true) true 0 [], .int .i64 0, .lst (some true) true 0 [], .int .i64 0, .int .i64 0, .lst (some true) true 0 [], .lst (some true) true 0 [], .int .i64 0, .lst (some true) true 0 [], .int .i64 0, .int .i64 0, .lst (some true) true 0 []] [(0, 6, .t 67), (6, 6, .t 68), (12, 6, .t 69), (18, 6, .t 70), (24, 6, .t 71), (30, 6, .t 72), (36, 6, .t 73), (42, 6, .t 74), (48, 6, .t 75), (54, 6, .t 76), (60, 6, .t 77), (66, 6, .t 78), (72, 6, .t 79)] },
  { dst := (some 1), op := .mov (.t 80) }]
def A13_r2 : List AO := [
  { dst := (some 81), op := .mov (.t 1) },
  { dst := (some 82), op := .mks false 3 24 [.int .i64 0, .int .i64 0, .int .i64 0] (.c (.int .i64 5)) (.c (.int .i64 5)) },
  { dst := (some 83), op := .iaddr 6 (.t 81) (.c (.int .i64 1)) },
  { dst := (some 84), op := .faddr 0 (.t 83) },
  { dst := none, op := .store 1 (.t 84) (.t 82) }]
def A13_r3 : List AO := [
  { dst := (some 85), op := .mov (.t 1) },
  { dst := (some 86), op := .iaddr 6 (.t 85) (.c (.int .i64 2)) },
  { dst := (some 87), op := .faddr 0 (.t 86) },
  { dst := (some 88), op := .load false 1 (.t 87) },
  { dst := (some 89), op := .iaddr 3 (.t 88) (.c (.int .i64 0)) },
  { dst := (some 90), op := .faddr 0 (.t 89) },
  { dst := none, op := .store 1 (.t 90) (.c (.int .i64 31)) }]
def A13_r4 : List AO := [
  { dst := (some 91), op := .mov (.t 1) },
  { dst := (some 92), op := .iaddr 6 (.t 91) (.c (.int .i64 3)) },
  { dst := (some 93), op := .faddr 0 (.t 92) },
  { dst := (some 94), op := .load false 1 (.t 93) },
  { dst := (some 95), op := .iaddr 3 (.t 94) (.c (.int .i64 0)) },
  { dst := (some 96), op := .faddr 1 (.t 95) },
  { dst := none, op := .store 1 (.t 96) (.c (.int .i64 1001)) }]
def A13_r5 : List AO := [
  { dst := (some 97), op := .mov (.t 1) },
  { dst := (some 98), op := .iaddr 6 (.t 97) (.c (.int .i64 4)) },
  { dst := (some 99), op := .faddr 0 (.t 98) },
  { dst := (some 100), op := .load false 1 (.t 99) },
  { dst := (some 101), op := .iaddr 3 (.t 100) (.c (.int .i64 0)) },
  { dst := (some 102), op := .faddr 2 (.t 101) },
  { dst := none, op := .store 1 (.t 102) (.c (.int .i64 (-1))) }]
def A13_r6 : List AO := [
  { dst := (some 103), op := .mov (.t 1) },
  { dst := (some 104), op := .iaddr 6 (.t 103) (.c (.int .i64 5)) },
  { dst := (some 105), op := .faddr 1 (.t 104) },
  { dst := none, op := .store 1 (.t 105) (.c (.int .i64 21)) }]
def A13_r7 : List AO := [
  { dst := (some 106), op := .mov (.t 1) },
  { dst := (some 107), op := .call false true (.f 40) [.c (.int .i64 5), .c (.int .i64 6)] },
  { dst := (some 108), op := .call false true (.f 40) [.c (.int .i64 6), .c (.int .i64 7)] },
  { dst := (some 109), op := .bslice false 2 2 [.int .i64 0, .int .i64 0, .int .i64 0, .int .i64 0] [(0, 2, .t 107), (2, 2, .t 108)] },
  { dst := (some 110), op := .iaddr 6 (.t 106) (.c (.int .i64 6)) },
  { dst := (some 111), op := .faddr 2 (.t 110) },
  { dst := none, op := .store 1 (.t 111) (.t 109) }]
def A13_r8 : List AO := [
  { dst := (some 112), op := .mov (.t 1) },
  { dst := (some 113), op := .call false true (.f 40) [.c (.int .i64 5), .c (.int .i64 1000)] },
  { dst := (some 114), op := .bslice false 2 1 [.int .i64 0, .int .i64 0] [(0, 2, .t 113)] },
  { dst := (some 115), op := .iaddr 6 (.t 112) (.c (.int .i64 7)) },
  { dst := (some 116), op := .faddr 2 (.t 115) },
  { dst := none, op := .store 1 (.t 116) (.t 114) }]
def A13_r9 : List AO := [
  { dst := (some 117), op := .mov (.t 1) },
  { dst := (some 118), op := .iaddr 6 (.t 117) (.c (.int .i64 8)) },
  { dst := (some 119), op := .faddr 3 (.t 118) },
  { dst := none, op := .store 1 (.t 119) (.c (.int .i64 65536)) }]
def A13_r10 : List AO := [
  { dst := (some 120), op := .mov (.t 1) },
  { dst := (some 121), op := .iaddr 6 (.t 120) (.c (.int .i64 9)) },
  { dst := (some 122), op := .faddr 4 (.t 121) },
  { dst := none, op := .store 1 (.t 122) (.c (.int .i64 1440)) }]
def A13_r11 : List AO := [
  { dst := (some 123), op := .mov (.t 1) },
  { dst := (some 124), op := .call false true (.f 50) [.c (.int .i64 1), .c (.int .i64 100)] },
  { dst := (some 125), op := .call false true (.f 50) [.c (.int .i64 0), .c (.int .i64 107)] },
  { dst := (some 126), op := .bslice false 2 2 [.int .i64 0, .int .i64 0, .int .i64 0, .int .i64 0] [(0, 2, .t 124), (2, 2, .t 125)] },
  { dst := (some 127), op := .iaddr 6 (.t 123) (.c (.int .i64 10)) },
  { dst := (some 128), op := .faddr 5 (.t 127) },
  { dst := none, op := .store 1 (.t 128) (.t 126) }]
def A13_r12 : List AO := [
  { dst := (some 129), op := .mov (.t 1) },
  { dst := (some 130), op := .call false true (.f 50) [.c (.int .i64 2), .c (.int .i64 100)] },
  { dst := (some 131), op := .bslice false 2 1 [.int .i64 0, .int .i64 0] [(0, 2, .t 130)] },
  { dst := (some 132), op := .iaddr 6 (.t 129) (.c (.int .i64 11)) },
  { dst := (some 133), op := .faddr 5 (.t 132) },
  { dst := none, op := .store 1 (.t 133) (.t 131) }]
def A13_r13 : List AO := [
  { dst := (some 134), op := .mov (.t 1) },
  { dst := (some 135), op := .call false true (.f 50) [.c (.int .i64 0), .c (.int .i64 1000)] },
  { dst := (some 136), op := .bslice false 2 1 [.int .i64 0, .int .i64 0] [(0, 2, .t 135)] },
  { dst := (some 137), op := .iaddr 6 (.t 134) (.c (.int .i64 12)) },
  { dst := (some 138), op := .faddr 5 (.t 137) },
  { dst := none, op := .store 1 (.t 138) (.t 136) }]
def A13_r14 : List AO := [
  { dst := (some 2), op := .mov (.c (.int .i64 0)) }]
def A13_r15 : List AO := [
  { dst := (some 139), op := .mov (.t 2) },
  { dst := (some 140), op := .mov (.t 1) },
  { dst := (some 141), op := .len (.t 140) },
  { dst := (some 142), op := .bin .lss (.t 139) (.t 141) }]
def A13_r17 : List AO := [
  { dst := (some 146), op := .mov (.t 1) },
  { dst := (some 147), op := .mov (.t 2) },
  { dst := (some 148), op := .iaddr 6 (.t 146) (.t 147) },
  { dst := (some 149), op := .load true 6 (.t 148) },
  { dst := (some 150), op := .call false true (.f 14) [.t 149, .c (.int .i64 (-1)), .c (.int .i64 0), .c (.int .i64 0)] },
  { dst := (some 145), op := .mov (.t 150) },
  { dst := (some 151), op := .ext 0 (.t 145) },
  { dst := (some 152), op := .ext 1 (.t 145) },
  { dst := (some 3), op := .mov (.t 151) },
  { dst := (some 4), op := .mov (.t 152) }]
def A13_r18 : List AO := [
  { dst := (some 154), op := .mov (.t 1) },
  { dst := (some 155), op := .mov (.t 2) },
  { dst := (some 156), op := .iaddr 6 (.t 154) (.t 155) },
  { dst := (some 157), op := .load true 6 (.t 156) },
  { dst := (some 158), op := .call false true (.f 40) [.c (.int .i64 1), .c (.int .i64 0)] },
  { dst := (some 159), op := .call false true (.f 18) [.t 157, .t 158] },
  { dst := (some 153), op := .mov (.t 159) },
  { dst := (some 160), op := .ext 0 (.t 153) },
  { dst := (some 161), op := .ext 1 (.t 153) },
  { dst := (some 5), op := .mov (.t 160) },
  { dst := (some 6), op := .mov (.t 161) }]
def A13_r19 : List AO := [
  { dst := (some 163), op := .mov (.t 1) },
  { dst := (some 164), op := .mov (.t 2) },
  { dst := (some 165), op := .iaddr 6 (.t 163) (.t 164) },
  { dst := (some 166), op := .load true 6 (.t 165) },
  { dst := (some 167), op := .call false true (.f 24) [.t 166, .c (.int .i64 (-1)), .c (.lst (some true) true 0 [])] },
  { dst := (some 162), op := .mov (.t 167) },
  { dst := (some 168), op := .ext 0 (.t 162) },
  { dst := (some 169), op := .ext 1 (.t 162) },
  { dst := (some 7), op := .mov (.t 168) },
  { dst := (some 8), op := .mov (.t 169) }]
def A13_r20 : List AO := [
  { dst := (some 171), op := .mov (.t 1) },
  { dst := (some 172), op := .mov (.t 2) },
  { dst := (some 173), op := .iaddr 6 (.t 171) (.t 172) },
  { dst := (some 174), op := .load true 6 (.t 173) },
  { dst := (some 175), op := .bslice false 1 1 [.int .i64 0] [(0, 1, .c (.int .i64 (-1)))] },
  { dst := (some 176), op := .call false true (.f 26) [.t 174, .c (.lst (some true) true 0 []), .t 175] },
  { dst := (some 170), op := .mov (.t 176) },
  { dst := (some 177), op := .ext 0 (.t 170) },
  { dst := (some 178), op := .ext 1 (.t 170) },
  { dst := (some 9), op := .mov (.t 177) },
  { dst := (some 10), op := .mov (.t 178) }]
def A13_r21 : List AO := [
  { dst := (some 180), op := .mov (.t 1) },
  { dst := (some 181), op := .mov (.t 2) },
  { dst := (some 182), op := .iaddr 6 (.t 180) (.t 181) },
  { dst := (some 183), op := .load true 6 (.t 182) },
  { dst := (some 184), op := .call false true (.f 30) [.t 183, .c (.int .i64 (-1)), .c (.lst (some true) true 0 [])] },
  { dst := (some 179), op := .mov (.t 184) },
  { dst := (some 185), op := .ext 0 (.t 179) },
  { dst := (some 186), op := .ext 1 (.t 179) },
  { dst := (some 11), op := .mov (.t 185) },
  { dst := (some 12), op := .mov (.t 186) }]
def A13_r22 : List AO := [
  { dst := (some 188), op := .mov (.t 1) },
  { dst := (some 189), op := .mov (.t 2) },
  { dst := (some 190), op := .iaddr 6 (.t 188) (.t 189) },
  { dst := (some 191), op := .load true 6 (.t 190) },
  { dst := (some 192), op := .call false true (.f 29) [.t 191, .c (.int .i64 (-1)), .c (.lst (some true) true 0 [])] },
  { dst := (some 187), op := .mov (.t 192) },
  { dst := (some 193), op := .ext 0 (.t 187) },
  { dst := (some 194), op := .ext 1 (.t 187) },
  { dst := (some 13), op := .mov (.t 193) },
  { dst := (some 14), op := .mov (.t 194) }]
def A13_r23 : List AO := [
  { dst := (some 196), op := .mov (.t 1) },
  { dst := (some 197), op := .mov (.t 2) },
  { dst := (some 198), op := .iaddr 6 (.t 196) (.t 197) },
  { dst := (some 199), op := .load true 6 (.t 198) },
  { dst := (some 200), op := .bslice false 1 1 [.int .i64 0] [(0, 1, .c (.int .i64 (-1)))] },
  { dst := (some 201), op := .call false true (.f 31) [.t 199, .t 200] },
  { dst := (some 195), op := .mov (.t 201) },
  { dst := (some 202), op := .ext 0 (.t 195) },
  { dst := (some 203), op := .ext 1 (.t 195) },
  { dst := (some 15), op := .mov (.t 202) },
  { dst := (some 16), op := .mov (.t 203) }]
def A13_r24 : List AO := [
  { dst := (some 205), op := .mov (.t 1) },
  { dst := (some 206), op := .mov (.t 2) },
  { dst := (some 207), op := .iaddr 6 (.t 205) (.t 206) },
  { dst := (some 208), op := .load true 6 (.t 207) },
  { dst := (some 209), op := .call false true (.f 33) [.t 208, .c (.int .i64 (-1)), .c (.lst (some true) true 0 []), .c (.int .i64 0)] },
  { dst := (some 204), op := .mov (.t 209) },
  { dst := (some 210), op := .ext 0 (.t 204) },
  { dst := (some 211), op := .ext 1 (.t 204) },
  { dst := (some 17), op := .mov (.t 210) },
  { dst := (some 18), op := .mov (.t 211) }]
def A13_r25 : List AO := [
  { dst := (some 213), op := .mov (.t 1) },
  { dst := (some 214), op := .mov (.t 2) },
  { dst := (some 215), op := .iaddr 6 (.t 213) (.t 214) },
  { dst := (some 216), op := .load true 6 (.t 215) },
  { dst := (some 217), op := .call false true (.f 40) [.c (.int .i64 0), .c (.int .i64 0)] },
  { dst := (some 218), op := .call false true (.f 21) [.t 216, .c (.int .i64 (-1)), .t 217] },
  { dst := (some 212), op := .mov (.t 218) },
  { dst := (some 219), op := .ext 0 (.t 212) },
  { dst := (some 220), op := .ext 1 (.t 212) },
  { dst := (some 19), op := .mov (.t 219) },
  { dst := (some 20), op := .mov (.t 220) }]
def A13_r26 : List AO := [
  { dst := (some 221), op := .mov (.t 1) },
  { dst := (some 222), op := .mov (.t 2) },
  { dst := (some 223), op := .iaddr 6 (.t 221) (.t 222) },
  { dst := (some 224), op := .load true 6 (.t 223) },
  { dst := (some 225), op := .call false true (.f 16) [.t 224] },
  { dst := (some 226), op := .bin .neq (.t 225) (.c (.int .i64 50)) },
  { dst := (some 227), op := .mov (.t 226) },
  { dst := (some 228), op := .mov (.t 4), guard := some (227, false) },
  { dst := (some 229), op := .bin .neq (.t 228) (.c (.int .i64 50)), guard := some (227, false) },
  { dst := (some 230), op := .pick (.t 227) (.c (.bool true)) (.t 229) },
  { dst := (some 231), op := .mov (.t 230) },
  { dst := (some 232), op := .mov (.t 6), guard := some (231, false) },
  { dst := (some 233), op := .bin .neq (.t 232) (.c (.int .i64 50)), guard := some (231, false) },
  { dst := (some 234), op := .pick (.t 231) (.c (.bool true)) (.t 233) },
  { dst := (some 235), op := .mov (.t 234) },
  { dst := (some 236), op := .mov (.t 8), guard := some (235, false) },
  { dst := (some 237), op := .bin .neq (.t 236) (.c (.int .i64 50)), guard := some (235, false) },
  { dst := (some 238), op := .pick (.t 235) (.c (.bool true)) (.t 237) },
  { dst := (some 239), op := .mov (.t 238) },
  { dst := (some 240), op := .mov (.t 10), guard := some (239, false) },
  { dst := (some 241), op := .bin .neq (.t 240) (.c (.int .i64 50)), guard := some (239, false) },
  { dst := (some 242), op := .pick (.t 239) (.c (.bool true)) (.t 241) },
  { dst := (some 243), op := .mov (.t 242) },
  { dst := (some 244), op := .mov (.t 12), guard := some (243, false) },
  { dst := (some 245), op := .bin .neq (.t 244) (.c (.int .i64 50)), guard := some (243, false) },
  { dst := (some 246), op := .pick (.t 243) (.c (.bool true)) (.t 245) },
  { dst := (some 247), op := .mov (.t 246) },
  { dst := (some 248), op := .mov (.t 14), guard := some (247, false) },
  { dst := (some 249), op := .bin .neq (.t 248) (.c (.int .i64 50)), guard := some (247, false) },
  { dst := (some 250), op := .pick (.t 247) (.c (.bool true)) (.t 249) },
  { dst := (some 251), op := .mov (.t 250) },
  { dst := (some 252), op := .mov (.t 16), guard := some (251, false) },
  { dst := (some 253), op := .bin .neq (.t 252) (.c (.int .i64 50)), guard := some (251, false) },
  { dst := (some 254), op := .pick (.t 251) (.c (.bool true)) (.t 253) },
  { dst := (some 255), op := .mov (.t 254) },
  { dst := (some 256), op := .mov (.t 18), guard := some (255, false) },
  { dst := (some 257), op := .bin .neq (.t 256) (.c (.int .i64 50)), guard := some (255, false) },
  { dst := (some 258), op := .pick (.t 255) (.c (.bool true)) (.t 257) },
  { dst := (some 259), op := .mov (.t 258) },
  { dst := (some 260), op := .mov (.t 20), guard := some (259, false) },
  { dst := (some 261), op := .bin .neq (.t 260) (.c (.int .i64 50)), guard := some (259, false) },
  { dst := (some 262), op := .pick (.t 259) (.c (.bool true)) (.t 261) }]
def A13_r27 : List AO := [
  { dst := (some 0), op := .mov (.c (.bool false)) }]
def A13_r16 : List AO := [
  { dst := (some 143), op := .mov (.t 2) },
  { dst := (some 144), op := .bin .add (.t 143) (.c (.int .i64 1)) },
  { dst := (some 2), op := .mov (.t 144) }]
def A13_l0 : AC := .seq (.seq (.region A13_r15 none [1, 2, 142] []) (.cond (.t 142) (.skip) (.exit 0))) (.seq (.block 1 (.seq (.region A13_r17 none [1, 2, 4] []) (.seq (.region A13_r18 (some [[], [], [0, 1], [2], [], [3, 4, 4], [5], [6], [6], [7, 5, 0, 1, 2, 3, 4, 5, 6, 7], [8, 9, 0, 1, 2, 3, 4, 5, 6, 7, 8, 9]]) [1, 2, 4, 6] []) (.seq (.region A13_r19 none [1, 2, 4, 6, 8] []) (.seq (.region A13_r20 none [1, 2, 4, 6, 8, 10] []) (.seq (.region A13_r21 none [1, 2, 4, 6, 8, 10, 12] []) (.seq (.region A13_r22 none [1, 2, 4, 6, 8, 10, 12, 14] []) (.seq (.region A13_r23 none [1, 2, 4, 6, 8, 10, 12, 14, 16] []) (.seq (.region A13_r24 none [1, 2, 4, 6, 8, 10, 12, 14, 16, 18] []) (.seq (.region A13_r25 (some [[], [], [0, 1], [2], [], [3, 4, 4], [5], [6], [6], [7, 5, 0, 1, 2, 3, 4, 5, 6, 7], [8, 9, 0, 1, 2, 3, 4, 5, 6, 7, 8, 9]]) [1, 2, 4, 6, 8, 10, 12, 14, 16, 18, 20] []) (.seq (.region A13_r26 none [1, 2, 262] []) (.cond (.t 262) (.seq (.region A13_r27 none [0] []) (.ret)) (.skip))))))))))))) (.region A13_r16 none [1, 2] []))
def A13_r28 : List AO := [
  { dst := (some 263), op := .bslice false 1 1 [.int .i64 0] [(0, 1, .c (.int .i64 (-1)))] },
  { dst := (some 264), op := .bslice false 1 1 [.int .i64 0] [(0, 1, .c (.int .i64 1000))] },
  { dst := (some 265), op := .bslice false 1 2 [.int .i64 0, .int .i64 0] [(0, 1, .c (.int .i64 5)), (1, 1, .c (.int .i64 5))] },
  { dst := (some 266), op := .bslice false 1 2 [.int .i64 0, .int .i64 0] [(0, 1, .c (.int .i64 6)), (1, 1, .c (.int .i64 5))] },
  { dst := (some 267), op := .bslice false 1 9 [.int .i64 0, .int .i64 0, .int .i64 0, .int .i64 0, .int .i64 0, .int .i64 0, .int .i64 0, .int .i64 0, .int .i64 0] [(0, 1, .c (.int .i64 1)), (1, 1, .c (.int .i64 2)), (2, 1, .c (.int .i64 3)), (3, 1, .c (.int .i64 4)), (4, 1, .c (.int .i64 5)), (5, 1, .c (.int .i64 6)), (6, 1, .c (.int .i64 7)), (7, 1, .c (.int .i64 8)), (8, 1, .c (.int .i64 9))] },
  { dst := (some 268), op := .bslice false 1 5 [.lst (some true) true 0 [], .lst (some true) true 0 [], .lst (some true) true 0 [], .lst (some true) true 0 [], .lst (some true) true 0 []] [(0, 1, .t 263), (1, 1, .t 264), (2, 1, .t 265), (3, 1, .t 266), (4, 1, .t 267)] },
  { dst := (some 21), op := .mov (.t 268) }]
def A13_r29 : List AO := [
  { dst := (some 22), op := .mov (.c (.int .i64 0)) }]
def A13_r30 : List AO := [
  { dst := (some 269), op := .mov (.t 22) },
  { dst := (some 270), op := .mov (.t 21) },
  { dst := (some 271), op := .len (.t 270) },
  { dst := (some 272), op := .bin .lss (.t 269) (.t 271) }]
def A13_r32 : List AO := [
  { dst := (some 276), op := .call true true (.f 49) [] },
  { dst := (some 277), op := .mov (.t 21) },
  { dst := (some 278), op := .mov (.t 22) },
  { dst := (some 279), op := .iaddr 1 (.t 277) (.t 278) },
  { dst := (some 280), op := .load false 1 (.t 279) },
  { dst := (some 281), op := .call false true (.f 26) [.t 276, .c (.lst (some true) true 0 []), .t 280] },
  { dst := (some 275), op := .mov (.t 281) },
  { dst := (some 282), op := .ext 0 (.t 275) },
  { dst := (some 283), op := .ext 1 (.t 275) },
  { dst := (some 23), op := .mov (.t 282) },
  { dst := (some 24), op := .mov (.t 283) }]
def A13_r33 : List AO := [
  { dst := (some 285), op := .call true true (.f 49) [] },
  { dst := (some 286), op := .mov (.t 21) },
  { dst := (some 287), op := .mov (.t 22) },
  { dst := (some 288), op := .iaddr 1 (.t 286) (.t 287) },
  { dst := (some 289), op := .load false 1 (.t 288) },
  { dst := (some 290), op := .call false true (.f 30) [.t 285, .c (.int .i64 95), .t 289] },
  { dst := (some 284), op := .mov (.t 290) },
  { dst := (some 291), op := .ext 0 (.t 284) },
  { dst := (some 292), op := .ext 1 (.t 284) },
  { dst := (some 25), op := .mov (.t 291) },
  { dst := (some 26), op := .mov (.t 292) }]
def A13_r34 : List AO := [
  { dst := (some 294), op := .call true true (.f 49) [] },
  { dst := (some 295), op := .mov (.t 21) },
  { dst := (some 296), op := .mov (.t 22) },
  { dst := (some 297), op := .iaddr 1 (.t 295) (.t 296) },
  { dst := (some 298), op := .load false 1 (.t 297) },
  { dst := (some 299), op := .call false true (.f 29) [.t 294, .c (.int .i64 95), .t 298] },
  { dst := (some 293), op := .mov (.t 299) },
  { dst := (some 300), op := .ext 0 (.t 293) },
  { dst := (some 301), op := .ext 1 (.t 293) },
  { dst := (some 27), op := .mov (.t 300) },
  { dst := (some 28), op := .mov (.t 301) }]
def A13_r35 : List AO := [
  { dst := (some 303), op := .call true true (.f 49) [] },
  { dst := (some 304), op := .mov (.t 21) },
  { dst := (some 305), op := .mov (.t 22) },
  { dst := (some 306), op := .iaddr 1 (.t 304) (.t 305) },
  { dst := (some 307), op := .load false 1 (.t 306) },
  { dst := (some 308), op := .call false true (.f 31) [.t 303, .t 307] },
  { dst := (some 302), op := .mov (.t 308) },
  { dst := (some 309), op := .ext 0 (.t 302) },
  { dst := (some 310), op := .ext 1 (.t 302) },
  { dst := (some 29), op := .mov (.t 309) },
  { dst := (some 30), op := .mov (.t 310) }]
def A13_r36 : List AO := [
  { dst := (some 312), op := .call true true (.f 49) [] },
  { dst := (some 313), op := .mov (.t 21) },
  { dst := (some 314), op := .mov (.t 22) },
  { dst := (some 315), op := .iaddr 1 (.t 313) (.t 314) },
  { dst := (some 316), op := .load false 1 (.t 315) },
  { dst := (some 317), op := .call false true (.f 33) [.t 312, .c (.int .i64 95), .t 316, .c (.int .i64 5)] },
  { dst := (some 311), op := .mov (.t 317) },
  { dst := (some 318), op := .ext 0 (.t 311) },
  { dst := (some 319), op := .ext 1 (.t 311) },
  { dst := (some 31), op := .mov (.t 318) },
  { dst := (some 32), op := .mov (.t 319) }]
def A13_r37 : List AO := [
  { dst := (some 320), op := .mov (.t 24) },
  { dst := (some 321), op := .bin .neq (.t 320) (.c (.int .i64 51)) },
  { dst := (some 322), op := .mov (.t 321) },
  { dst := (some 323), op := .mov (.t 26), guard := some (322, false) },
  { dst := (some 324), op := .bin .neq (.t 323) (.c (.int .i64 51)), guard := some (322, false) },
  { dst := (some 325), op := .pick (.t 322) (.c (.bool true)) (.t 324) },
  { dst := (some 326), op := .mov (.t 325) },
  { dst := (some 327), op := .mov (.t 28), guard := some (326, false) },
  { dst := (some 328), op := .bin .neq (.t 327) (.c (.int .i64 51)), guard := some (326, false) },
  { dst := (some 329), op := .pick (.t 326) (.c (.bool true)) (.t 328) },
  { dst := (some 330), op := .mov (.t 329) },
  { dst := (some 331), op := .mov (.t 30), guard := some (330, false) },
  { dst := (some 332), op := .bin .neq (.t 331) (.c (.int .i64 51)), guard := some (330, false) },
  { dst := (some 333), op := .pick (.t 330) (.c (.bool true)) (.t 332) },
  { dst := (some 334), op := .mov (.t 333) },
  { dst := (some 335), op := .mov (.t 32), guard := some (334, false) },
  { dst := (some 336), op := .bin .neq (.t 335) (.c (.int .i64 51)), guard := some (334, false) },
  { dst := (some 337), op := .pick (.t 334) (.c (.bool true)) (.t 336) }]
def A13_r38 : List AO := [
  { dst := (some 0), op := .mov (.c (.bool false)) }]
def A13_r31 : List AO := [
  { dst := (some 273), op := .mov (.t 22) },
  { dst := (some 274), op := .bin .add (.t 273) (.c (.int .i64 1)) },
  { dst := (some 22), op := .mov (.t 274) }]
def A13_l1 : AC := .seq (.seq (.region A13_r30 none [21, 22, 272] []) (.cond (.t 272) (.skip) (.exit 2))) (.seq (.block 3 (.seq (.region A13_r32 (some [[], [], [], [1, 2], [3], [0, 4, 0], [5], [6], [6], [7, 5, 0, 1, 2, 3, 4, 5, 6, 7], [8, 9, 0, 1, 2, 3, 4, 5, 6, 7, 8, 9]]) [21, 22, 24] []) (.seq (.region A13_r33 (some [[], [], [], [1, 2], [3], [0, 4, 0], [5], [6], [6], [7, 5, 0, 1, 2, 3, 4, 5, 6, 7], [8, 9, 0, 1, 2, 3, 4, 5, 6, 7, 8, 9]]) [21, 22, 24, 26] []) (.seq (.region A13_r34 (some [[], [], [], [1, 2], [3], [0, 4, 0], [5], [6], [6], [7, 5, 0, 1, 2, 3, 4, 5, 6, 7], [8, 9, 0, 1, 2, 3, 4, 5, 6, 7, 8, 9]]) [21, 22, 24, 26, 28] []) (.seq (.region A13_r35 (some [[], [], [], [1, 2], [3], [0, 4, 0], [5], [6], [6], [7, 5, 0, 1, 2, 3, 4, 5, 6, 7], [8, 9, 0, 1, 2, 3, 4, 5, 6, 7, 8, 9]]) [21, 22, 24, 26, 28, 30] []) (.seq (.region A13_r36 (some [[], [], [], [1, 2], [3], [0, 4, 0], [5], [6], [6], [7, 5, 0, 1, 2, 3, 4, 5, 6, 7], [8, 9, 0, 1, 2, 3, 4, 5, 6, 7, 8, 9]]) [21, 22, 24, 26, 28, 30, 32] []) (.seq (.region A13_r37 none [21, 22, 337] []) (.cond (.t 337) (.seq (.region A13_r38 none [0] []) (.ret)) (.skip))))))))) (.region A13_r31 none [21, 22] []))
def A13_r39 : List AO := [
  { dst := (some 339), op := .call true true (.f 49) [] },
  { dst := (some 340), op := .call false true (.f 14) [.t 339, .c (.int .i64 1000), .c (.int .i64 0), .c (.int .i64 0)] },
  { dst := (some 338), op := .mov (.t 340) },
  { dst := (some 341), op := .ext 0 (.t 338) },
  { dst := (some 342), op := .ext 1 (.t 338) },
  { dst := (some 33), op := .mov (.t 341) },
  { dst := (some 34), op := .mov (.t 342) }]
def A13_r40 : List AO := [
  { dst := (some 344), op := .call true true (.f 49) [] },
  { dst := (some 345), op := .call false true (.f 14) [.t 344, .c (.int .i64 0), .c (.int .i64 16), .c (.int .i64 0)] },
  { dst := (some 343), op := .mov (.t 345) },
  { dst := (some 346), op := .ext 0 (.t 343) },
  { dst := (some 347), op := .ext 1 (.t 343) },
  { dst := (some 35), op := .mov (.t 346) },
  { dst := (some 36), op := .mov (.t 347) }]
def A13_r41 : List AO := [
  { dst := (some 349), op := .call true true (.f 49) [] },
  { dst := (some 350), op := .call false true (.f 40) [.c (.int .i64 0), .c (.int .i64 1000)] },
  { dst := (some 351), op := .call false true (.f 18) [.t 349, .t 350] },
  { dst := (some 348), op := .mov (.t 351) },
  { dst := (some 352), op := .ext 0 (.t 348) },
  { dst := (some 353), op := .ext 1 (.t 348) },
  { dst := (some 37), op := .mov (.t 352) },
  { dst := (some 38), op := .mov (.t 353) }]
def A13_r42 : List AO := [
  { dst := (some 355), op := .call true true (.f 49) [] },
  { dst := (some 356), op := .call false true (.f 24) [.t 355, .c (.int .i64 1000), .c (.lst (some true) true 0 [])] },
  { dst := (some 354), op := .mov (.t 356) },
  { dst := (some 357), op := .ext 0 (.t 354) },
  { dst := (some 358), op := .ext 1 (.t 354) },
  { dst := (some 39), op := .mov (.t 357) },
  { dst := (some 40), op := .mov (.t 358) }]
def A13_r43 : List AO := [
  { dst := (some 360), op := .call true true (.f 49) [] },
  { dst := (some 361), op := .call false true (.f 50) [.c (.int .i64 2), .c (.int .i64 5)] },
  { dst := (some 362), op := .bslice false 2 1 [.int .i64 0, .int .i64 0] [(0, 2, .t 361)] },
  { dst := (some 363), op := .call false true (.f 26) [.t 360, .t 362, .c (.lst (some true) true 0 [])] },
  { dst := (some 359), op := .mov (.t 363) },
  { dst := (some 364), op := .ext 0 (.t 359) },
  { dst := (some 365), op := .ext 1 (.t 359) },
  { dst := (some 41), op := .mov (.t 364) },
  { dst := (some 42), op := .mov (.t 365) }]
def A13_r44 : List AO := [
  { dst := (some 367), op := .call true true (.f 49) [] },
  { dst := (some 368), op := .call false true (.f 30) [.t 367, .c (.int .i64 1000), .c (.lst (some true) true 0 [])] },
  { dst := (some 366), op := .mov (.t 368) },
  { dst := (some 369), op := .ext 0 (.t 366) },
  { dst := (some 370), op := .ext 1 (.t 366) },
  { dst := (some 43), op := .mov (.t 369) },
  { dst := (some 44), op := .mov (.t 370) }]
def A13_r45 : List AO := [
  { dst := (some 372), op := .call true true (.f 49) [] },
  { dst := (some 373), op := .call false true (.f 33) [.t 372, .c (.int .i64 95), .c (.lst (some true) true 0 []), .c (.int .i64 8001)] },
  { dst := (some 371), op := .mov (.t 373) },
  { dst := (some 374), op := .ext 0 (.t 371) },
  { dst := (some 375), op := .ext 1 (.t 371) },
  { dst := (some 45), op := .mov (.t 374) },
  { dst := (some 46), op := .mov (.t 375) }]
def A13_r46 : List AO := [
  { dst := (some 377), op := .call true true (.f 49) [] },
  { dst := (some 378), op := .call false true (.f 40) [.c (.int .i64 0), .c (.int .i64 1)] },
  { dst := (some 379), op := .call false true (.f 21) [.t 377, .c (.int .i64 1440), .t 378] },
  { dst := (some 376), op := .mov (.t 379) },
  { dst := (some 380), op := .ext 0 (.t 376) },
  { dst := (some 381), op := .ext 1 (.t 376) },
  { dst := (some 47), op := .mov (.t 380) },
  { dst := (some 48), op := .mov (.t 381) }]
def A13_r47 : List AO := [
  { dst := (some 383), op := .call true true (.f 49) [] },
  { dst := (some 384), op := .call false true (.f 40) [.c (.int .i64 0), .c (.int .i64 1440)] },
  { dst := (some 385), op := .call false true (.f 21) [.t 383, .c (.int .i64 0), .t 384] },
  { dst := (some 382), op := .mov (.t 385) },
  { dst := (some 386), op := .ext 0 (.t 382) },
  { dst := (some 387), op := .ext 1 (.t 382) },
  { dst := (some 49), op := .mov (.t 386) },
  { dst := (some 50), op := .mov (.t 387) }]
def A13_r48 : List AO := [
  { dst := (some 388), op := .mov (.t 34) },
  { dst := (some 389), op := .bin .neq (.t 388) (.c (.int .i64 51)) },
  { dst := (some 390), op := .mov (.t 389) },
  { dst := (some 391), op := .mov (.t 36), guard := some (390, false) },
  { dst := (some 392), op := .bin .neq (.t 391) (.c (.int .i64 51)), guard := some (390, false) },
  { dst := (some 393), op := .pick (.t 390) (.c (.bool true)) (.t 392) },
  { dst := (some 394), op := .mov (.t 393) },
  { dst := (some 395), op := .mov (.t 38), guard := some (394, false) },
  { dst := (some 396), op := .bin .neq (.t 395) (.c (.int .i64 51)), guard := some (394, false) },
  { dst := (some 397), op := .pick (.t 394) (.c (.bool true)) (.t 396) },
  { dst := (some 398), op := .mov (.t 397) },
  { dst := (some 399), op := .mov (.t 40), guard := some (398, false) },
  { dst := (some 400), op := .bin .neq (.t 399) (.c (.int .i64 51)), guard := some (398, false) },
  { dst := (some 401), op := .pick (.t 398) (.c (.bool true)) (.t 400) },
  { dst := (some 402), op := .mov (.t 401) },
  { dst := (some 403), op := .mov (.t 42), guard := some (402, false) },
  { dst := (some 404), op := .bin .neq (.t 403) (.c (.int .i64 51)), guard := some (402, false) },
  { dst := (some 405), op := .pick (.t 402) (.c (.bool true)) (.t 404) },
  { dst := (some 406), op := .mov (.t 405) },
  { dst := (some 407), op := .mov (.t 44), guard := some (406, false) },
  { dst := (some 408), op := .bin .neq (.t 407) (.c (.int .i64 51)), guard := some (406, false) },
  { dst := (some 409), op := .pick (.t 406) (.c (.bool true)) (.t 408) },
  { dst := (some 410), op := .mov (.t 409) },
  { dst := (some 411), op := .mov (.t 46), guard := some (410, false) },
  { dst := (some 412), op := .bin .neq (.t 411) (.c (.int .i64 51)), guard := some (410, false) },
  { dst := (some 413), op := .pick (.t 410) (.c (.bool true)) (.t 412) },
  { dst := (some 414), op := .mov (.t 413) },
  { dst := (some 415), op := .mov (.t 48), guard := some (414, false) },
  { dst := (some 416), op := .bin .neq (.t 415) (.c (.int .i64 51)), guard := some (414, false) },
  { dst := (some 417), op := .pick (.t 414) (.c (.bool true)) (.t 416) },
  { dst := (some 418), op := .mov (.t 417) },
  { dst := (some 419), op := .mov (.t 50), guard := some (418, false) },
  { dst := (some 420), op := .bin .neq (.t 419) (.c (.int .i64 51)), guard := some (418, false) },
  { dst := (some 421), op := .pick (.t 418) (.c (.bool true)) (.t 420) }]
def A13_r49 : List AO := [
  { dst := (some 0), op := .mov (.c (.bool false)) }]
def A13_r50 : List AO := [
  { dst := (some 422), op := .build [.int .i64 0, .int .i64 0, .int .i64 0, .int .i64 0] [(0, 1, .c (.int .i64 101)), (1, 1, .c (.int .i64 2)), (2, 1, .c (.int .i64 1350)), (3, 1, .c (.int .i64 0))] },
  { dst := (some 423), op := .build [.int .i64 0, .int .i64 0, .int .i64 0, .int .i64 0] [(0, 1, .c (.int .i64 107)), (1, 1, .c (.int .i64 3)), (2, 1, .c (.int .i64 1351)), (3, 1, .c (.int .i64 1))] },
  { dst := (some 424), op := .build [.int .i64 0, .int .i64 0, .int .i64 0, .int .i64 0] [(0, 1, .c (.int .i64 105)), (1, 1, .c (.int .i64 3)), (2, 1, .c (.int .i64 1351)), (3, 1, .c (.int .i64 2))] },
  { dst := (some 425), op := .build [.int .i64 0, .int .i64 0, .int .i64 0, .int .i64 0] [(0, 1, .c (.int .i64 101)), (1, 1, .c (.int .i64 3)), (2, 1, .c (.int .i64 1351)), (3, 1, .c (.int .i64 3))] },
  { dst := (some 426), op := .build [.int .i64 0, .int .i64 0, .int .i64 0, .int .i64 0] [(0, 1, .c (.int .i64 101)), (1, 1, .c (.int .i64 2)), (2, 1, .c (.int .i64 1351)), (3, 1, .c (.int .i64 4))] },
  { dst := (some 427), op := .bslice false 4 5 [.int .i64 0, .int .i64 0, .int .i64 0, .int .i64 0, .int .i64 0, .int .i64 0, .int .i64 0, .int .i64 0, .int .i64 0, .int .i64 0, .int .i64 0, .int .i64 0, .int .i64 0, .int .i64 0, .int .i64 0, .int .i64 0, .int .i64 0, .int .i64 0, .int .i64 0, .int .i64 0] [(0, 4, .t 422), (4, 4, .t 423), (8, 4, .t 424), (12, 4, .t 425), (16, 4, .t 426)] },
  { dst := (some 51), op := .mov (.t 427) }]
def A13_r51 : List AO := [
  { dst := (some 52), op := .mov (.c (.int .i64 0)) }]
def A13_r52 : List AO := [
  { dst := (some 428), op := .mov (.t 52) },
  { dst := (some 429), op := .mov (.t 51) },
  { dst := (some 430), op := .len (.t 429) },
  { dst := (some 431), op := .bin .lss (.t 428) (.t 430) }]
def A13_r54 : List AO := [
  { dst := (some 435), op := .call true true (.f 49) [] },
  { dst := (some 436), op := .mov (.t 51) },
  { dst := (some 437), op := .mov (.t 52) },
  { dst := (some 438), op := .iaddr 4 (.t 436) (.t 437) },
  { dst := (some 439), op := .aaddr 1 4 (.t 438) (.c (.int .i64 0)) },
  { dst := (some 440), op := .load false 1 (.t 439) },
  { dst := (some 441), op := .mov (.t 51) },
  { dst := (some 442), op := .mov (.t 52) },
  { dst := (some 443), op := .iaddr 4 (.t 441) (.t 442) },
  { dst := (some 444), op := .aaddr 1 4 (.t 443) (.c (.int .i64 1)) },
  { dst := (some 445), op := .load false 1 (.t 444) },
  { dst := (some 446), op := .mov (.t 51) },
  { dst := (some 447), op := .mov (.t 52) },
  { dst := (some 448), op := .iaddr 4 (.t 446) (.t 447) },
  { dst := (some 449), op := .aaddr 1 4 (.t 448) (.c (.int .i64 2)) },
  { dst := (some 450), op := .load false 1 (.t 449) },
  { dst := (some 451), op := .call false true (.f 14) [.t 435, .t 440, .t 445, .t 450] },
  { dst := (some 434), op := .mov (.t 451) },
  { dst := (some 452), op := .ext 0 (.t 434) },
  { dst := (some 453), op := .ext 1 (.t 434) },
  { dst := (some 53), op := .mov (.t 452) },
  { dst := (some 54), op := .mov (.t 453) }]
def A13_r55 : List AO := [
  { dst := (some 454), op := .mov (.t 54) },
  { dst := (some 455), op := .bin .neq (.t 454) (.c (.int .i64 0)) },
  { dst := (some 456), op := .mov (.t 455) },
  { dst := (some 457), op := .mov (.t 53), guard := some (456, false) },
  { dst := (some 458), op := .mov (.t 51), guard := some (456, false) },
  { dst := (some 459), op := .mov (.t 52), guard := some (456, false) },
  { dst := (some 460), op := .iaddr 4 (.t 458) (.t 459), guard := some (456, false) },
  { dst := (some 461), op := .aaddr 1 4 (.t 460) (.c (.int .i64 3)), guard := some (456, false) },
  { dst := (some 462), op := .load false 1 (.t 461), guard := some (456, false) },
  { dst := (some 463), op := .bin .neq (.t 457) (.t 462), guard := some (456, false) },
  { dst := (some 464), op := .pick (.t 456) (.c (.bool true)) (.t 463) }]
def A13_r56 : List AO := [
  { dst := (some 0), op := .mov (.c (.bool false)) }]
def A13_r53 : List AO := [
  { dst := (some 432), op := .mov (.t 52) },
  { dst := (some 433), op := .bin .add (.t 432) (.c (.int .i64 1)) },
  { dst := (some 52), op := .mov (.t 433) }]
def A13_l2 : AC := .seq (.seq (.region A13_r52 none [51, 52, 431] []) (.cond (.t 431) (.skip) (.exit 4))) (.seq (.block 5 (.seq (.region A13_r54 (some [[], [], [], [1, 2], [3], [4], [], [], [6, 7], [8], [9], [], [], [11, 12], [13], [14], [0, 5, 10, 15, 0], [16], [17], [17], [18, 16, 0, 1, 2, 3, 4, 5, 6, 7, 8, 9, 10, 11, 12, 13, 14, 15, 16, 17, 18], [19, 20, 0, 1, 2, 3, 4, 5, 6, 7, 8, 9, 10, 11, 12, 13, 14, 15, 16, 17, 18, 19, 20]]) [51, 52, 53, 54] []) (.seq (.region A13_r55 none [51, 52, 464] []) (.cond (.t 464) (.seq (.region A13_r56 none [0] []) (.ret)) (.skip))))) (.region A13_r53 none [51, 52] []))
def A13_r57 : List AO := [
  { dst := (some 465), op := .call false true (.f 51) [] },
  { dst := (some 55), op := .new true [.lst (some true) true 0 [], .int .i64 0, .lst (some true) true 0 [], .int .i64 0, .int .i64 0, .lst (some true) true 0 []] },
  { dst := none, op := .store 6 (.t 55) (.t 465) }]
def A13_r58 : List AO := [
  { dst := (some 466), op := .faddr 1 (.t 55) },
  { dst := none, op := .store 1 (.t 466) (.c (.int .i64 2)) }]
def A13_r59 : List AO := [
  { dst := (some 468), op := .load true 6 (.t 55) },
  { dst := (some 469), op := .call false true (.f 52) [] },
  { dst := (some 470), op := .call false true (.f 29) [.t 468, .c (.int .i64 95), .t 469] },
  { dst := (some 467), op := .mov (.t 470) },
  { dst := (some 471), op := .ext 0 (.t 467) },
  { dst := (some 472), op := .ext 1 (.t 467) },
  { dst := (some 34), op := .mov (.t 472) }]
def A13_r60 : List AO := [
  { dst := (some 474), op := .call true true (.f 49) [] },
  { dst := (some 475), op := .call false true (.f 52) [] },
  { dst := (some 476), op := .call false true (.f 30) [.t 474, .c (.int .i64 107), .t 475] },
  { dst := (some 473), op := .mov (.t 476) },
  { dst := (some 477), op := .ext 0 (.t 473) },
  { dst := (some 478), op := .ext 1 (.t 473) },
  { dst := (some 36), op := .mov (.t 478) }]
def A13_r61 : List AO := [
  { dst := (some 480), op := .call true true (.f 49) [] },
  { dst := (some 481), op := .bslice false 1 2 [.int .i64 0, .int .i64 0] [(0, 1, .c (.int .i64 101)), (1, 1, .c (.int .i64 105))] },
  { dst := (some 482), op := .call false true (.f 31) [.t 480, .t 481] },
  { dst := (some 479), op := .mov (.t 482) },
  { dst := (some 483), op := .ext 0 (.t 479) },
  { dst := (some 484), op := .ext 1 (.t 479) },
  { dst := (some 38), op := .mov (.t 484) }]
def A13_r62 : List AO := [
  { dst := (some 486), op := .call true true (.f 49) [] },
  { dst := (some 487), op := .call false true (.f 50) [.c (.int .i64 0), .c (.int .i64 108)] },
  { dst := (some 488), op := .bslice false 2 1 [.int .i64 0, .int .i64 0] [(0, 2, .t 487)] },
  { dst := (some 489), op := .call false true (.f 24) [.t 486, .c (.int .i64 95), .t 488] },
  { dst := (some 485), op := .mov (.t 489) },
  { dst := (some 490), op := .ext 0 (.t 485) },
  { dst := (some 491), op := .ext 1 (.t 485) },
  { dst := (some 56), op := .mov (.t 490) },
  { dst := (some 40), op := .mov (.t 491) }]
def A13_r63 : List AO := [
  { dst := (some 493), op := .call true true (.f 49) [] },
  { dst := (some 494), op := .call false true (.f 50) [.c (.int .i64 0), .c (.int .i64 107)] },
  { dst := (some 495), op := .bslice false 2 1 [.int .i64 0, .int .i64 0] [(0, 2, .t 494)] },
  { dst := (some 496), op := .call false true (.f 24) [.t 493, .c (.int .i64 95), .t 495] },
  { dst := (some 492), op := .mov (.t 496) },
  { dst := (some 497), op := .ext 0 (.t 492) },
  { dst := (some 498), op := .ext 1 (.t 492) },
  { dst := (some 57), op := .mov (.t 497) },
  { dst := (some 42), op := .mov (.t 498) }]
def A13_r64 : List AO := [
  { dst := (some 500), op := .call true true (.f 49) [] },
  { dst := (some 501), op := .call false true (.f 50) [.c (.int .i64 1), .c (.int .i64 108)] },
  { dst := (some 502), op := .bslice false 2 1 [.int .i64 0, .int .i64 0] [(0, 2, .t 501)] },
  { dst := (some 503), op := .call false true (.f 24) [.t 500, .c (.int .i64 99), .t 502] },
  { dst := (some 499), op := .mov (.t 503) },
  { dst := (some 504), op := .ext 0 (.t 499) },
  { dst := (some 505), op := .ext 1 (.t 499) },
  { dst := (some 58), op := .mov (.t 504) },
  { dst := (some 44), op := .mov (.t 505) }]
def A13_r65 : List AO := [
  { dst := (some 507), op := .call true true (.f 49) [] },
  { dst := (some 508), op := .bslice false 1 1 [.int .i64 0] [(0, 1, .c (.int .i64 101))] },
  { dst := (some 509), op := .call false true (.f 30) [.t 507, .c (.int .i64 999), .t 508] },
  { dst := (some 506), op := .mov (.t 509) },
  { dst := (some 510), op := .ext 0 (.t 506) },
  { dst := (some 511), op := .ext 1 (.t 506) },
  { dst := (some 59), op := .mov (.t 510) },
  { dst := (some 46), op := .mov (.t 511) }]
def A13_r66 : List AO := [
  { dst := (some 513), op := .call true true (.f 49) [] },
  { dst := (some 514), op := .bslice false 1 1 [.int .i64 0] [(0, 1, .c (.int .i64 101))] },
  { dst := (some 515), op := .call false true (.f 31) [.t 513, .t 514] },
  { dst := (some 512), op := .mov (.t 515) },
  { dst := (some 516), op := .ext 0 (.t 512) },
  { dst := (some 517), op := .ext 1 (.t 512) },
  { dst := (some 60), op := .mov (.t 516) },
  { dst := (some 48), op := .mov (.t 517) }]
def A13_r67 : List AO := [
  { dst := (some 518), op := .mov (.t 34) },
  { dst := (some 519), op := .bin .neq (.t 518) (.c (.int .i64 4)) },
  { dst := (some 520), op := .mov (.t 519) },
  { dst := (some 521), op := .mov (.t 36), guard := some (520, false) },
  { dst := (some 522), op := .bin .neq (.t 521) (.c (.int .i64 4)), guard := some (520, false) },
  { dst := (some 523), op := .pick (.t 520) (.c (.bool true)) (.t 522) },
  { dst := (some 524), op := .mov (.t 523) },
  { dst := (some 525), op := .mov (.t 38), guard := some (524, false) },
  { dst := (some 526), op := .bin .neq (.t 525) (.c (.int .i64 4)), guard := some (524, false) },
  { dst := (some 527), op := .pick (.t 524) (.c (.bool true)) (.t 526) },
  { dst := (some 528), op := .mov (.t 527) },
  { dst := (some 529), op := .mov (.t 40), guard := some (528, false) },
  { dst := (some 530), op := .bin .neq (.t 529) (.c (.int .i64 0)), guard := some (528, false) },
  { dst := (some 531), op := .pick (.t 528) (.c (.bool true)) (.t 530) },
  { dst := (some 532), op := .mov (.t 531) },
  { dst := (some 533), op := .mov (.t 56), guard := some (532, false) },
  { dst := (some 534), op := .un .not (.t 533), guard := some (532, false) },
  { dst := (some 535), op := .pick (.t 532) (.c (.bool true)) (.t 534) },
  { dst := (some 536), op := .mov (.t 535) },
  { dst := (some 537), op := .mov (.t 42), guard := some (536, false) },
  { dst := (some 538), op := .bin .neq (.t 537) (.c (.int .i64 0)), guard := some (536, false) },
  { dst := (some 539), op := .pick (.t 536) (.c (.bool true)) (.t 538) },
  { dst := (some 540), op := .mov (.t 539) },
  { dst := (some 541), op := .mov (.t 57), guard := some (540, false) },
  { dst := (some 542), op := .pick (.t 540) (.c (.bool true)) (.t 541) },
  { dst := (some 543), op := .mov (.t 542) },
  { dst := (some 544), op := .mov (.t 44), guard := some (543, false) },
  { dst := (some 545), op := .bin .neq (.t 544) (.c (.int .i64 0)), guard := some (543, false) },
  { dst := (some 546), op := .pick (.t 543) (.c (.bool true)) (.t 545) },
  { dst := (some 547), op := .mov (.t 546) },
  { dst := (some 548), op := .mov (.t 58), guard := some (547, false) },
  { dst := (some 549), op := .pick (.t 547) (.c (.bool true)) (.t 548) },
  { dst := (some 550), op := .mov (.t 549) },
  { dst := (some 551), op := .mov (.t 46), guard := some (550, false) },
  { dst := (some 552), op := .bin .neq (.t 551) (.c (.int .i64 0)), guard := some (550, false) },
  { dst := (some 553), op := .pick (.t 550) (.c (.bool true)) (.t 552) },
  { dst := (some 554), op := .mov (.t 553) },
  { dst := (some 555), op := .mov (.t 59), guard := some (554, false) },
  { dst := (some 556), op := .len (.t 555), guard := some (554, false) },
  { dst := (some 557), op := .bin .neq (.t 556) (.c (.int .i64 0)), guard := some (554, false) },
  { dst := (some 558), op := .pick (.t 554) (.c (.bool true)) (.t 557) },
  { dst := (some 559), op := .mov (.t 558) },
  { dst := (some 560), op := .mov (.t 48), guard := some (559, false) },
  { dst := (some 561), op := .bin .neq (.t 560) (.c (.int .i64 0)), guard := some (559, false) },
  { dst := (some 562), op := .pick (.t 559) (.c (.bool true)) (.t 561) },
  { dst := (some 563), op := .mov (.t 562) },
  { dst := (some 564), op := .mov (.t 60), guard := some (563, false) },
  { dst := (some 565), op := .bin .neq (.t 564) (.c (.int .i64 999)), guard := some (563, false) },
  { dst := (some 566), op := .pick (.t 563) (.c (.bool true)) (.t 565) }]
def A13_r68 : List AO := [
  { dst := (some 0), op := .mov (.c (.bool false)) }]
def A13_r69 : List AO := [
  { dst := (some 568), op := .call true true (.f 49) [] },
  { dst := (some 569), op := .call false true (.f 52) [] },
  { dst := (some 570), op := .call false true (.f 33) [.t 568, .c (.int .i64 95), .t 569, .c (.int .i64 4)] },
  { dst := (some 567), op := .mov (.t 570) },
  { dst := (some 571), op := .ext 0 (.t 567) },
  { dst := (some 572), op := .ext 1 (.t 567) },
  { dst := (some 61), op := .mov (.t 571) },
  { dst := (some 34), op := .mov (.t 572) }]
def A13_r70 : List AO := [
  { dst := (some 574), op := .call true true (.f 49) [] },
  { dst := (some 575), op := .call false true (.f 52) [] },
  { dst := (some 576), op := .call false true (.f 33) [.t 574, .c (.int .i64 95), .t 575, .c (.int .i64 20)] },
  { dst := (some 573), op := .mov (.t 576) },
  { dst := (some 577), op := .ext 0 (.t 573) },
  { dst := (some 578), op := .ext 1 (.t 573) },
  { dst := (some 62), op := .mov (.t 577) },
  { dst := (some 36), op := .mov (.t 578) }]
def A13_r71 : List AO := [
  { dst := (some 580), op := .call true true (.f 49) [] },
  { dst := (some 581), op := .call false true (.f 52) [] },
  { dst := (some 582), op := .call false true (.f 29) [.t 580, .c (.int .i64 95), .t 581] },
  { dst := (some 579), op := .mov (.t 582) },
  { dst := (some 583), op := .ext 0 (.t 579) },
  { dst := (some 584), op := .ext 1 (.t 579) },
  { dst := (some 63), op := .mov (.t 583) },
  { dst := (some 38), op := .mov (.t 584) }]
def A13_r72 : List AO := [
  { dst := (some 586), op := .call true true (.f 49) [] },
  { dst := (some 587), op := .call false true (.f 40) [.c (.int .i64 140), .c (.int .i64 150)] },
  { dst := (some 588), op := .call false true (.f 21) [.t 586, .c (.int .i64 1200), .t 587] },
  { dst := (some 585), op := .mov (.t 588) },
  { dst := (some 589), op := .ext 0 (.t 585) },
  { dst := (some 590), op := .ext 1 (.t 585) },
  { dst := (some 64), op := .mov (.t 589) },
  { dst := (some 40), op := .mov (.t 590) }]
def A13_r73 : List AO := [
  { dst := (some 592), op := .call true true (.f 49) [] },
  { dst := (some 593), op := .call false true (.f 40) [.c (.int .i64 151), .c (.int .i64 160)] },
  { dst := (some 594), op := .call false true (.f 21) [.t 592, .c (.int .i64 1200), .t 593] },
  { dst := (some 591), op := .mov (.t 594) },
  { dst := (some 595), op := .ext 0 (.t 591) },
  { dst := (some 596), op := .ext 1 (.t 591) },
  { dst := (some 65), op := .mov (.t 595) },
  { dst := (some 42), op := .mov (.t 596) }]
def A13_r74 : List AO := [
  { dst := (some 598), op := .call false true (.f 51) [] },
  { dst := (some 599), op := .call false true (.f 52) [] },
  { dst := (some 600), op := .call false true (.f 30) [.t 598, .c (.int .i64 95), .t 599] },
  { dst := (some 597), op := .mov (.t 600) },
  { dst := (some 601), op := .ext 0 (.t 597) },
  { dst := (some 602), op := .ext 1 (.t 597) },
  { dst := (some 66), op := .mov (.t 601) },
  { dst := (some 44), op := .mov (.t 602) }]
def A13_r75 : List AO := [
  { dst := (some 603), op := .mov (.t 34) },
  { dst := (some 604), op := .bin .eql (.t 603) (.c (.int .i64 0)) },
  { dst := (some 605), op := .mov (.t 604) },
  { dst := (some 606), op := .mov (.t 61), guard := some (605, true) },
  { dst := (some 607), op := .bslice false 1 1 [.int .i64 0] [(0, 1, .c (.int .i64 101))], guard := some (605, true) },
  { dst := (some 608), op := .call false true (.f 20) [.t 606, .t 607], guard := some (605, true) },
  { dst := (some 609), op := .pick (.t 605) (.t 608) (.c (.bool false)) },
  { dst := (some 610), op := .mov (.t 609) },
  { dst := (some 611), op := .mov (.t 36), guard := some (610, true) },
  { dst := (some 612), op := .bin .eql (.t 611) (.c (.int .i64 0)), guard := some (610, true) },
  { dst := (some 613), op := .pick (.t 610) (.t 612) (.c (.bool false)) },
  { dst := (some 614), op := .mov (.t 613) },
  { dst := (some 615), op := .mov (.t 62), guard := some (614, true) },
  { dst := (some 616), op := .call false true (.f 52) [], guard := some (614, true) },
  { dst := (some 617), op := .call false true (.f 20) [.t 615, .t 616], guard := some (614, true) },
  { dst := (some 618), op := .pick (.t 614) (.t 617) (.c (.bool false)) },
  { dst := (some 619), op := .mov (.t 618) },
  { dst := (some 620), op := .mov (.t 38), guard := some (619, true) },
  { dst := (some 621), op := .bin .eql (.t 620) (.c (.int .i64 0)), guard := some (619, true) },
  { dst := (some 622), op := .pick (.t 619) (.t 621) (.c (.bool false)) },
  { dst := (some 623), op := .mov (.t 622) },
  { dst := (some 624), op := .mov (.t 63), guard := some (623, true) },
  { dst := (some 625), op := .bin .eql (.t 624) (.c (.int .i64 15)), guard := some (623, true) },
  { dst := (some 626), op := .pick (.t 623) (.t 625) (.c (.bool false)) },
  { dst := (some 627), op := .mov (.t 626) },
  { dst := (some 628), op := .mov (.t 40), guard := some (627, true) },
  { dst := (some 629), op := .bin .eql (.t 628) (.c (.int .i64 0)), guard := some (627, true) },
  { dst := (some 630), op := .pick (.t 627) (.t 629) (.c (.bool false)) },
  { dst := (some 631), op := .mov (.t 630) },
  { dst := (some 632), op := .mov (.t 64), guard := some (631, true) },
  { dst := (some 633), op := .bin .eql (.t 632) (.c (.int .i64 2)), guard := some (631, true) },
  { dst := (some 634), op := .pick (.t 631) (.t 633) (.c (.bool false)) },
  { dst := (some 635), op := .mov (.t 634) },
  { dst := (some 636), op := .mov (.t 42), guard := some (635, true) },
  { dst := (some 637), op := .bin .eql (.t 636) (.c (.int .i64 0)), guard := some (635, true) },
  { dst := (some 638), op := .pick (.t 635) (.t 637) (.c (.bool false)) },
  { dst := (some 639), op := .mov (.t 638) },
  { dst := (some 640), op := .mov (.t 65), guard := some (639, true) },
  { dst := (some 641), op := .bin .eql (.t 640) (.c (.int .i64 0)), guard := some (639, true) },
  { dst := (some 642), op := .pick (.t 639) (.t 641) (.c (.bool false)) },
  { dst := (some 643), op := .mov (.t 642) },
  { dst := (some 644), op := .mov (.t 44), guard := some (643, true) },
  { dst := (some 645), op := .bin .eql (.t 644) (.c (.int .i64 0)), guard := some (643, true) },
  { dst := (some 646), op := .pick (.t 643) (.t 645) (.c (.bool false)) },
  { dst := (some 647), op := .mov (.t 646) },
  { dst := (some 648), op := .mov (.t 66), guard := some (647, true) },
  { dst := (some 649), op := .len (.t 648), guard := some (647, true) },
  { dst := (some 650), op := .bin .eql (.t 649) (.c (.int .i64 1)), guard := some (647, true) },
  { dst := (some 651), op := .pick (.t 647) (.t 650) (.c (.bool false)) },
  { dst := (some 652), op := .mov (.t 651) },
  { dst := (some 653), op := .mov (.t 66), guard := some (652, true) },
  { dst := (some 654), op := .iaddr 2 (.t 653) (.c (.int .i64 0)), guard := some (652, true) },
  { dst := (some 655), op := .faddr 0 (.t 654), guard := some (652, true) },
  { dst := (some 656), op := .load false 1 (.t 655), guard := some (652, true) },
  { dst := (some 657), op := .bin .eql (.t 656) (.c (.int .i64 1)), guard := some (652, true) },
  { dst := (some 658), op := .pick (.t 652) (.t 657) (.c (.bool false)) },
  { dst := (some 659), op := .mov (.t 658) },
  { dst := (some 660), op := .pick (.t 659) (.c (.bool true)) (.c (.bool false)) },
  { dst := (some 661), op := .mov (.t 660) },
  { dst := (some 662), op := .call false true (.f 23) [], guard := some (661, true) },
  { dst := (some 663), op := .pick (.t 661) (.t 662) (.c (.bool false)) },
  { dst := (some 0), op := .mov (.t 663) }]
def A13 : AF := { np := 0, res := [.tmp 0], body := (.seq (.region A13_r0 none [] []) (.seq (.region A13_r1 none [1] []) (.seq (.region A13_r2 none [1] []) (.seq (.region A13_r3 none [1] []) (.seq (.region A13_r4 none [1] []) (.seq (.region A13_r5 none [1] []) (.seq (.region A13_r6 none [1] []) (.seq (.region A13_r7 none [1] []) (.seq (.region A13_r8 none [1] []) (.seq (.region A13_r9 none [1] []) (.seq (.region A13_r10 none [1] []) (.seq (.region A13_r11 none [1] []) (.seq (.region A13_r12 none [1] []) (.seq (.region A13_r13 none [1] []) (.seq (.seq (.region A13_r14 none [1, 2] []) (.block 0 (.loop [1, 2] [] A13_l0))) (.seq (.region A13_r28 none [21] []) (.seq (.seq (.region A13_r29 none [21, 22] []) (.block 2 (.loop [21, 22] [] A13_l1))) (.seq (.region A13_r39 none [34] []) (.seq (.region A13_r40 none [34, 36] []) (.seq (.region A13_r41 none [34, 36, 38] []) (.seq (.region A13_r42 none [34, 36, 38, 40] []) (.seq (.region A13_r43 none [34, 36, 38, 40, 42] []) (.seq (.region A13_r44 none [34, 36, 38, 40, 42, 44] []) (.seq (.region A13_r45 none [34, 36, 38, 40, 42, 44, 46] []) (.seq (.region A13_r46 none [34, 36, 38, 40, 42, 44, 46, 48] []) (.seq (.region A13_r47 none [34, 36, 38, 40, 42, 44, 46, 48, 50] []) (.seq (.seq (.region A13_r48 none [421] []) (.cond (.t 421) (.seq (.region A13_r49 none [0] []) (.ret)) (.skip))) (.seq (.region A13_r50 none [51] []) (.seq (.seq (.region A13_r51 none [51, 52] []) (.block 4 (.loop [51, 52] [] A13_l2))) (.seq (.region A13_r57 none [55] [55]) (.seq (.region A13_r58 none [55] [55]) (.seq (.region A13_r59 (some [[], [], [0, 1, 1], [2], [3], [3], [5, 2, 0, 1, 2, 3, 4, 5]]) [34] []) (.seq (.region A13_r60 none [34, 36] []) (.seq (.region A13_r61 none [34, 36, 38] []) (.seq (.region A13_r62 none [34, 36, 38, 40, 56] []) (.seq (.region A13_r63 none [34, 36, 38, 40, 42, 56, 57] []) (.seq (.region A13_r64 none [34, 36, 38, 40, 42, 44, 56, 57, 58] []) (.seq (.region A13_r65 none [34, 36, 38, 40, 42, 44, 46, 56, 57, 58, 59] []) (.seq (.region A13_r66 none [34, 36, 38, 40, 42, 44, 46, 48, 56, 57, 58, 59, 60] []) (.seq (.seq (.region A13_r67 none [566] []) (.cond (.t 566) (.seq (.region A13_r68 none [0] []) (.ret)) (.skip))) (.seq (.region A13_r69 none [34, 61] []) (.seq (.region A13_r70 none [34, 36, 61, 62] []) (.seq (.region A13_r71 none [34, 36, 38, 61, 62, 63] []) (.seq (.region A13_r72 none [34, 36, 38, 40, 61, 62, 63, 64] []) (.seq (.region A13_r73 none [34, 36, 38, 40, 42, 61, 62, 63, 64, 65] []) (.seq (.region A13_r74 none [34, 36, 38, 40, 42, 44, 61, 62, 63, 64, 65, 66] []) (.seq (.region A13_r75 none [0] []) (.ret)))))))))))))))))))))))))))))))))))))))))))))))) }
/- bioscope.licence.Why -/
def A14_r0 : List AO := [
  { dst := (some 4), op := .box true (.t 0) },
  { dst := (some 8), op := .mov (.c (.int .i64 0)) },
  { dst := (some 9), op := .mov (.c (.int .i64 0)) }]
def A14_r1 : List AO := [
  { dst := (some 15), op := .load true 6 (.t 4) },
  { dst := (some 16), op := .mov (.t 1) },
  { dst := (some 17), op := .call false true (.f 54) [.t 16] },
  { dst := (some 18), op := .mov (.t 17) },
  { dst := (some 19), op := .mov (.t 2), guard := some (18, true) },
  { dst := (some 20), op := .call false true (.f 55) [.t 19, .c (.int .i64 0), .c (.int .i64 15)], guard := some (18, true) },
  { dst := (some 21), op := .pick (.t 18) (.t 20) (.c (.bool false)) },
  { dst := (some 22), op := .mov (.t 21) },
  { dst := (some 23), op := .mov (.t 3), guard := some (22, true) },
  { dst := (some 24), op := .call false true (.f 55) [.t 23, .c (.int .i64 0), .c (.int .i64 1439)], guard := some (22, true) },
  { dst := (some 25), op := .pick (.t 22) (.t 24) (.c (.bool false)) },
  { dst := (some 26), op := .call false true (.f 53) [.t 15, .t 25] },
  { dst := (some 14), op := .mov (.t 26) },
  { dst := (some 27), op := .ext 0 (.t 14) },
  { dst := (some 28), op := .ext 1 (.t 14) },
  { dst := (some 10), op := .new true [.lst (some true) true 0 [], .int .i64 0, .lst (some true) true 0 [], .int .i64 0, .int .i64 0, .lst (some true) true 0 [], .nilm] },
  { dst := none, op := .store 7 (.t 10) (.t 27) },
  { dst := (some 11), op := .mov (.t 28) }]
def A14_r2 : List AO := [
  { dst := (some 29), op := .mov (.t 11) },
  { dst := (some 30), op := .bin .neq (.t 29) (.c (.int .i64 0)) }]
def A14_r3 : List AO := [
  { dst := (some 31), op := .mov (.t 11) },
  { dst := (some 8), op := .mov (.c (.int .i64 0)) },
  { dst := (some 9), op := .mov (.t 31) }]
def A14_r4 : List AO := [
  { dst := (some 32), op := .load true 4 (.g 0) },
  { dst := (some 33), op := .mov (.c (.int .i64 0)) }]
def A14_r5 : List AO := [
  { dst := (some 34), op := .bin .lss (.t 33) (.c (.int .i64 4)) }]
def A14_r6 : List AO := [
  { dst := (some 35), op := .mov (.t 33) },
  { dst := (some 36), op := .index false 1 4 (.t 32) (.t 33) },
  { dst := (some 12), op := .mov (.t 35) },
  { dst := (some 13), op := .mov (.t 36) }]
def A14_r7 : List AO := [
  { dst := (some 37), op := .mov (.t 13) },
  { dst := (some 38), op := .load true 7 (.t 10) },
  { dst := (some 39), op := .mov (.t 1) },
  { dst := (some 40), op := .mov (.t 2) },
  { dst := (some 41), op := .mov (.t 3) },
  { dst := (some 42), op := .build [.int .i64 0, .int .i64 0, .int .i64 0] [(0, 1, .t 39), (1, 1, .t 40), (2, 1, .t 41)] },
  { dst := (some 43), op := .call false true (.t 37) [.t 38, .t 42] }]
def A14_r8 : List AO := [
  { dst := (some 44), op := .mov (.t 12) },
  { dst := (some 45), op := .bin .add (.c (.int .i64 1)) (.t 44) },
  { dst := (some 8), op := .mov (.t 45) },
  { dst := (some 9), op := .mov (.c (.int .i64 0)) }]
def A14_r9 : List AO := [
  { dst := (some 46), op := .bin .add (.t 33) (.c (.int .i64 1)) },
  { dst := (some 33), op := .mov (.t 46) }]
def A14_l0 : AC := .seq (.region A14_r5 none [1, 2, 3, 10, 32, 33, 34] [10]) (.seq (.cond (.t 34) (.skip) (.exit 0)) (.seq (.block 1 (.seq (.region A14_r6 none [1, 2, 3, 10, 12, 13, 32, 33] [10]) (.seq (.region A14_r7 none [1, 2, 3, 10, 12, 32, 33, 43] [10]) (.cond (.t 43) (.seq (.region A14_r8 none [8, 9] []) (.ret)) (.skip))))) (.region A14_r9 none [1, 2, 3, 10, 32, 33] [10])))
def A14_r10 : List AO := [
  { dst := (some 8), op := .mov (.c (.int .i64 0)) },
  { dst := (some 9), op := .mov (.c (.int .i64 0)) }]
def A14 : AF := { np := 4, res := [.tmp 8, .tmp 9], body := (.seq (.region A14_r0 none [1, 2, 3, 4] [4]) (.seq (.region A14_r1 (some [[], [], [1], [2, 2], [3], [4, 3, 3], [3, 5], [6, 5], [7], [8, 7, 7], [7, 9], [0, 10, 9], [11], [12], [12], [], [15, 13, 11, 0, 1, 2, 3, 4, 5, 6, 7, 8, 9, 10, 11, 12, 13, 15], [14, 16, 0, 1, 2, 3, 4, 5, 6, 7, 8, 9, 10, 11, 12, 13, 14, 15, 16]]) [1, 2, 3, 10, 11] [10]) (.seq (.seq (.region A14_r2 none [1, 2, 3, 10, 11, 30] [10]) (.cond (.t 30) (.seq (.region A14_r3 none [8, 9] []) (.ret)) (.skip))) (.seq (.seq (.region A14_r4 none [1, 2, 3, 10, 32, 33] [10]) (.block 0 (.loop [1, 2, 3, 10, 32, 33] [10] A14_l0))) (.seq (.region A14_r10 none [8, 9] []) (.ret)))))) }
/- bioscope.bioscoperef05.Why -/
def A15_r0 : List AO := [
  { dst := (some 4), op := .box true (.t 0) },
  { dst := (some 8), op := .mov (.c (.int .i64 0)) },
  { dst := (some 9), op := .mov (.c (.int .i64 0)) }]
def A15_r1 : List AO := [
  { dst := (some 11), op := .load true 6 (.t 4) },
  { dst := (some 12), op := .mov (.t 1) },
  { dst := (some 13), op := .call false true (.f 57) [.t 12] },
  { dst := (some 14), op := .mov (.t 13) },
  { dst := (some 15), op := .mov (.t 2), guard := some (14, true) },
  { dst := (some 16), op := .call false true (.f 46) [.t 15, .c (.int .i64 0), .c (.int .i64 15)], guard := some (14, true) },
  { dst := (some 17), op := .pick (.t 14) (.t 16) (.c (.bool false)) },
  { dst := (some 18), op := .mov (.t 17) },
  { dst := (some 19), op := .mov (.t 3), guard := some (18, true) },
  { dst := (some 20), op := .call false true (.f 58) [.t 19], guard := some (18, true) },
  { dst := (some 21), op := .pick (.t 18) (.t 20) (.c (.bool false)) },
  { dst := (some 22), op := .call false true (.f 56) [.t 11, .t 21] },
  { dst := (some 10), op := .mov (.t 22) }]
def A15_r2 : List AO := [
  { dst := (some 23), op := .mov (.t 10) },
  { dst := (some 24), op := .bin .neq (.t 23) (.c (.int .i64 0)) }]
def A15_r3 : List AO := [
  { dst := (some 25), op := .mov (.t 10) },
  { dst := (some 8), op := .mov (.c (.int .i64 0)) },
  { dst := (some 9), op := .mov (.t 25) }]
def A15_r4 : List AO := [
  { dst := (some 27), op := .load true 6 (.t 4) },
  { dst := (some 28), op := .faddr 5 (.t 4) },
  { dst := (some 29), op := .load false 1 (.t 28) },
  { dst := (some 30), op := .mov (.t 1) },
  { dst := (some 31), op := .call false true (.f 59) [.t 27, .t 29, .t 30] },
  { dst := (some 32), op := .un .not (.t 31) },
  { dst := (some 26), op := .mov (.t 32) }]
def A15_r5 : List AO := [
  { dst := (some 8), op := .mov (.c (.int .i64 1)) },
  { dst := (some 9), op := .mov (.c (.int .i64 0)) }]
def A15_r6 : List AO := [
  { dst := (some 34), op := .load true 6 (.t 4) },
  { dst := (some 35), op := .mov (.t 1) },
  { dst := (some 36), op := .call false true (.f 60) [.t 34, .t 35] },
  { dst := (some 33), op := .mov (.t 36) }]
def A15_r7 : List AO := [
  { dst := (some 8), op := .mov (.c (.int .i64 2)) },
  { dst := (some 9), op := .mov (.c (.int .i64 0)) }]
def A15_r8 : List AO := [
  { dst := (some 38), op := .faddr 3 (.t 4) },
  { dst := (some 39), op := .load false 1 (.t 38) },
  { dst := (some 40), op := .mov (.t 2) },
  { dst := (some 41), op := .call false true (.f 38) [.t 39, .t 40] },
  { dst := (some 37), op := .mov (.t 41) }]
def A15_r9 : List AO := [
  { dst := (some 8), op := .mov (.c (.int .i64 3)) },
  { dst := (some 9), op := .mov (.c (.int .i64 0)) }]
def A15_r10 : List AO := [
  { dst := (some 43), op := .mov (.t 3) },
  { dst := (some 44), op := .faddr 4 (.t 4) },
  { dst := (some 45), op := .load false 1 (.t 44) },
  { dst := (some 46), op := .bin .gtr (.t 43) (.t 45) },
  { dst := (some 42), op := .mov (.t 46) }]
def A15_r11 : List AO := [
  { dst := (some 8), op := .mov (.c (.int .i64 4)) },
  { dst := (some 9), op := .mov (.c (.int .i64 0)) }]
def A15_r12 : List AO := [
  { dst := (some 8), op := .mov (.c (.int .i64 0)) },
  { dst := (some 9), op := .mov (.c (.int .i64 0)) }]
def A15 : AF := { np := 4, res := [.tmp 8, .tmp 9], body := (.seq (.region A15_r0 none [1, 2, 3, 4] [4]) (.seq (.seq (.region A15_r1 (some [[], [], [1], [2, 2], [3], [4, 3, 3], [3, 5], [6, 5], [7], [8, 7, 7], [7, 9], [0, 10, 9], [11, 11, 0, 1, 2, 3, 4, 5, 6, 7, 8, 9, 10, 11]]) [1, 2, 3, 4, 10] [4]) (.seq (.region A15_r2 none [1, 2, 3, 4, 10, 24] [4]) (.cond (.t 24) (.seq (.region A15_r3 none [8, 9] []) (.ret)) (.skip)))) (.seq (.block 0 (.seq (.region A15_r4 none [1, 2, 3, 4, 26] [4]) (.cond (.t 26) (.seq (.region A15_r5 none [8, 9] []) (.ret)) (.seq (.region A15_r6 none [2, 3, 4, 33] [4]) (.cond (.t 33) (.seq (.region A15_r7 none [8, 9] []) (.ret)) (.seq (.region A15_r8 none [3, 4, 37] [4]) (.cond (.t 37) (.seq (.region A15_r9 none [8, 9] []) (.ret)) (.seq (.region A15_r10 none [42] []) (.cond (.t 42) (.seq (.region A15_r11 none [8, 9] []) (.ret)) (.skip)))))))))) (.seq (.region A15_r12 none [8, 9] []) (.ret))))) }
/- bioscope.licence.Check -/
def A16_r0 : List AO := [
  { dst := (some 1), op := .box true (.t 0) },
  { dst := (some 2), op := .mov (.c (.int .i64 0)) }]
def A16_r1 : List AO := [
  { dst := (some 11), op := .faddr 0 (.t 1) },
  { dst := (some 12), op := .load false 1 (.t 11) },
  { dst := (some 13), op := .len (.t 12) },
  { dst := (some 14), op := .call false true (.f 55) [.t 13, .c (.int .i64 1), .c (.int .i64 4)] },
  { dst := (some 15), op := .mov (.t 14) },
  { dst := (some 16), op := .faddr 1 (.t 1), guard := some (15, true) },
  { dst := (some 17), op := .load false 1 (.t 16), guard := some (15, true) },
  { dst := (some 18), op := .call false true (.f 55) [.t 17, .c (.int .i64 0), .c (.int .i64 20)], guard := some (15, true) },
  { dst := (some 19), op := .pick (.t 15) (.t 18) (.c (.bool false)) },
  { dst := (some 20), op := .mov (.t 19) },
  { dst := (some 21), op := .faddr 2 (.t 1), guard := some (20, true) },
  { dst := (some 22), op := .load false 1 (.t 21), guard := some (20, true) },
  { dst := (some 23), op := .len (.t 22), guard := some (20, true) },
  { dst := (some 24), op := .bin .leq (.t 23) (.c (.int .i64 4)), guard := some (20, true) },
  { dst := (some 25), op := .pick (.t 20) (.t 24) (.c (.bool false)) },
  { dst := (some 26), op := .mov (.t 25) },
  { dst := (some 27), op := .faddr 3 (.t 1), guard := some (26, true) },
  { dst := (some 28), op := .load false 1 (.t 27), guard := some (26, true) },
  { dst := (some 29), op := .call false true (.f 55) [.t 28, .c (.int .i64 0), .c (.int .i64 65535)], guard := some (26, true) },
  { dst := (some 30), op := .pick (.t 26) (.t 29) (.c (.bool false)) },
  { dst := (some 31), op := .mov (.t 30) },
  { dst := (some 32), op := .faddr 4 (.t 1), guard := some (31, true) },
  { dst := (some 33), op := .load false 1 (.t 32), guard := some (31, true) },
  { dst := (some 34), op := .call false true (.f 55) [.t 33, .c (.int .i64 0), .c (.int .i64 1439)], guard := some (31, true) },
  { dst := (some 35), op := .pick (.t 31) (.t 34) (.c (.bool false)) },
  { dst := (some 36), op := .mov (.t 35) },
  { dst := (some 37), op := .faddr 5 (.t 1), guard := some (36, true) },
  { dst := (some 38), op := .load false 1 (.t 37), guard := some (36, true) },
  { dst := (some 39), op := .len (.t 38), guard := some (36, true) },
  { dst := (some 40), op := .bin .leq (.t 39) (.c (.int .i64 4)), guard := some (36, true) },
  { dst := (some 41), op := .pick (.t 36) (.t 40) (.c (.bool false)) },
  { dst := (some 3), op := .mov (.t 41) }]
def A16_r2 : List AO := [
  { dst := (some 42), op := .faddr 0 (.t 1) },
  { dst := (some 43), op := .load false 1 (.t 42) },
  { dst := (some 44), op := .len (.t 43) },
  { dst := (some 45), op := .mov (.c (.int .i64 0)) }]
def A16_r3 : List AO := [
  { dst := (some 46), op := .bin .lss (.t 45) (.t 44) }]
def A16_r4 : List AO := [
  { dst := (some 47), op := .iaddr 3 (.t 43) (.t 45) },
  { dst := (some 48), op := .load true 3 (.t 47) },
  { dst := (some 5), op := .new true [.int .i64 0, .int .i64 0, .int .i64 0] },
  { dst := none, op := .store 3 (.t 5) (.t 48) }]
def A16_r5 : List AO := [
  { dst := (some 49), op := .mov (.t 3) },
  { dst := (some 50), op := .mov (.t 49) },
  { dst := (some 51), op := .faddr 0 (.t 5), guard := some (50, true) },
  { dst := (some 52), op := .load false 1 (.t 51), guard := some (50, true) },
  { dst := (some 53), op := .call false true (.f 55) [.t 52, .c (.int .i64 1), .c (.int .i64 30)], guard := some (50, true) },
  { dst := (some 54), op := .pick (.t 50) (.t 53) (.c (.bool false)) },
  { dst := (some 55), op := .mov (.t 54) },
  { dst := (some 56), op := .faddr 1 (.t 5), guard := some (55, true) },
  { dst := (some 57), op := .load false 1 (.t 56), guard := some (55, true) },
  { dst := (some 58), op := .call false true (.f 55) [.t 57, .c (.int .i64 0), .c (.int .i64 1000)], guard := some (55, true) },
  { dst := (some 59), op := .pick (.t 55) (.t 58) (.c (.bool false)) },
  { dst := (some 60), op := .mov (.t 59) },
  { dst := (some 61), op := .faddr 2 (.t 5), guard := some (60, true) },
  { dst := (some 62), op := .load false 1 (.t 61), guard := some (60, true) },
  { dst := (some 63), op := .call false true (.f 55) [.t 62, .c (.int .i64 0), .c (.int .i64 30)], guard := some (60, true) },
  { dst := (some 64), op := .pick (.t 60) (.t 63) (.c (.bool false)) },
  { dst := (some 3), op := .mov (.t 64) }]
def A16_r6 : List AO := [
  { dst := (some 65), op := .bin .add (.t 45) (.c (.int .i64 1)) },
  { dst := (some 45), op := .mov (.t 65) }]
def A16_l0 : AC := .seq (.region A16_r3 none [1, 3, 43, 44, 45, 46] [1]) (.seq (.cond (.t 46) (.skip) (.exit 0)) (.seq (.block 1 (.seq (.region A16_r4 none [1, 3, 5, 43, 44, 45] [1, 5]) (.region A16_r5 none [1, 3, 43, 44, 45] [1]))) (.region A16_r6 none [1, 3, 43, 44, 45] [1])))
def A16_r7 : List AO := [
  { dst := (some 6), op := .mov (.c (.int .i64 (-1))) }]
def A16_r8 : List AO := [
  { dst := (some 66), op := .faddr 2 (.t 1) },
  { dst := (some 67), op := .load false 1 (.t 66) },
  { dst := (some 68), op := .len (.t 67) },
  { dst := (some 69), op := .mov (.c (.int .i64 0)) }]
def A16_r9 : List AO := [
  { dst := (some 70), op := .bin .lss (.t 69) (.t 68) }]
def A16_r10 : List AO := [
  { dst := (some 71), op := .iaddr 2 (.t 67) (.t 69) },
  { dst := (some 72), op := .load true 2 (.t 71) },
  { dst := (some 8), op := .new true [.int .i64 0, .int .i64 0] },
  { dst := none, op := .store 2 (.t 8) (.t 72) }]
def A16_r11 : List AO := [
  { dst := (some 73), op := .mov (.t 3) },
  { dst := (some 74), op := .mov (.t 73) },
  { dst := (some 75), op := .load true 2 (.t 8), guard := some (74, true) },
  { dst := (some 76), op := .mov (.t 6), guard := some (74, true) },
  { dst := (some 77), op := .bin .add (.t 76) (.c (.int .i64 1)), guard := some (74, true) },
  { dst := (some 78), op := .call false true (.f 61) [.t 75, .t 77, .c (.int .i64 999)], guard := some (74, true) },
  { dst := (some 79), op := .pick (.t 74) (.t 78) (.c (.bool false)) },
  { dst := (some 3), op := .mov (.t 79) }]
def A16_r12 : List AO := [
  { dst := (some 80), op := .faddr 1 (.t 8) },
  { dst := (some 81), op := .load false 1 (.t 80) },
  { dst := (some 6), op := .mov (.t 81) }]
def A16_r13 : List AO := [
  { dst := (some 82), op := .bin .add (.t 69) (.c (.int .i64 1)) },
  { dst := (some 69), op := .mov (.t 82) }]
def A16_l1 : AC := .seq (.region A16_r9 none [1, 3, 6, 67, 68, 69, 70] [1]) (.seq (.cond (.t 70) (.skip) (.exit 2)) (.seq (.block 3 (.seq (.region A16_r10 none [1, 3, 6, 8, 67, 68, 69] [1, 8]) (.seq (.region A16_r11 none [1, 3, 8, 67, 68, 69] [1, 8]) (.region A16_r12 none [1, 3, 6, 67, 68, 69] [1])))) (.region A16_r13 none [1, 3, 6, 67, 68, 69] [1])))
def A16_r14 : List AO := [
  { dst := (some 83), op := .faddr 5 (.t 1) },
  { dst := (some 84), op := .load false 1 (.t 83) },
  { dst := (some 85), op := .len (.t 84) },
  { dst := (some 86), op := .mov (.c (.int .i64 0)) }]
def A16_r15 : List AO := [
  { dst := (some 87), op := .bin .lss (.t 86) (.t 85) }]
def A16_r16 : List AO := [
  { dst := (some 88), op := .iaddr 2 (.t 84) (.t 86) },
  { dst := (some 89), op := .load true 2 (.t 88) },
  { dst := (some 10), op := .new true [.int .i64 0, .int .i64 0] },
  { dst := none, op := .store 2 (.t 10) (.t 89) }]
def A16_r17 : List AO := [
  { dst := (some 90), op := .mov (.t 3) },
  { dst := (some 91), op := .mov (.t 90) },
  { dst := (some 92), op := .load true 6 (.t 1), guard := some (91, true) },
  { dst := (some 93), op := .load true 2 (.t 10), guard := some (91, true) },
  { dst := (some 94), op := .call false true (.f 62) [.t 92, .t 93], guard := some (91, true) },
  { dst := (some 95), op := .pick (.t 91) (.t 94) (.c (.bool false)) },
  { dst := (some 3), op := .mov (.t 95) }]
def A16_r18 : List AO := [
  { dst := (some 96), op := .bin .add (.t 86) (.c (.int .i64 1)) },
  { dst := (some 86), op := .mov (.t 96) }]
def A16_l2 : AC := .seq (.region A16_r15 none [1, 3, 84, 85, 86, 87] [1]) (.seq (.cond (.t 87) (.skip) (.exit 4)) (.seq (.block 5 (.seq (.region A16_r16 none [1, 3, 10, 84, 85, 86] [1, 10]) (.region A16_r17 none [1, 3, 84, 85, 86] [1]))) (.region A16_r18 none [1, 3, 84, 85, 86] [1])))
def A16_r19 : List AO := [
  { dst := (some 97), op := .mov (.t 3) },
  { dst := (some 98), op := .un .not (.t 97) },
  { dst := (some 99), op := .mov (.t 98) },
  { dst := (some 100), op := .load true 6 (.t 1), guard := some (99, false) },
  { dst := (some 101), op := .call false true (.f 63) [.t 100], guard := some (99, false) },
  { dst := (some 102), op := .faddr 5 (.t 1), guard := some (99, false) },
  { dst := (some 103), op := .load false 1 (.t 102), guard := some (99, false) },
  { dst := (some 104), op := .call false true (.f 64) [.t 101, .t 103], guard := some (99, false) },
  { dst := (some 105), op := .un .not (.t 104), guard := some (99, false) },
  { dst := (some 106), op := .pick (.t 99) (.c (.bool true)) (.t 105) }]
def A16_r20 : List AO := [
  { dst := (some 2), op := .mov (.c (.int .i64 50)) }]
def A16_r21 : List AO := [
  { dst := (some 2), op := .mov (.c (.int .i64 0)) }]
def A16 : AF := { np := 1, res := [.tmp 2], body := (.seq (.region A16_r0 none [1] [1]) (.seq (.region A16_r1 none [1, 3] [1]) (.seq (.seq (.region A16_r2 none [1, 3, 43, 44, 45] [1]) (.block 0 (.loop [1, 3, 43, 44, 45] [1] A16_l0))) (.seq (.region A16_r7 none [1, 3, 6] [1]) (.seq (.seq (.region A16_r8 none [1, 3, 6, 67, 68, 69] [1]) (.block 2 (.loop [1, 3, 6, 67, 68, 69] [1] A16_l1))) (.seq (.seq (.region A16_r14 none [1, 3, 84, 85, 86] [1]) (.block 4 (.loop [1, 3, 84, 85, 86] [1] A16_l2))) (.seq (.seq (.region A16_r19 (some [[], [0], [1], [2], [3, 2, 2], [2], [5, 2], [4, 6, 4, 2], [7, 2], [2, 8]]) [106] []) (.cond (.t 106) (.seq (.region A16_r20 none [2] []) (.ret)) (.skip))) (.seq (.region A16_r21 none [2] []) (.ret))))))))) }
/- bioscope.bioscoperef05.Check -/
def A17_r0 : List AO := [
  { dst := (some 1), op := .box true (.t 0) },
  { dst := (some 2), op := .mov (.c (.int .i64 0)) }]
def A17_r1 : List AO := [
  { dst := (some 8), op := .faddr 0 (.t 1) },
  { dst := (some 9), op := .load false 1 (.t 8) },
  { dst := (some 10), op := .len (.t 9) },
  { dst := (some 11), op := .call false true (.f 46) [.t 10, .c (.int .i64 1), .c (.int .i64 4)] },
  { dst := (some 12), op := .mov (.t 11) },
  { dst := (some 13), op := .faddr 1 (.t 1), guard := some (12, true) },
  { dst := (some 14), op := .load false 1 (.t 13), guard := some (12, true) },
  { dst := (some 15), op := .call false true (.f 46) [.t 14, .c (.int .i64 0), .c (.int .i64 20)], guard := some (12, true) },
  { dst := (some 16), op := .pick (.t 12) (.t 15) (.c (.bool false)) },
  { dst := (some 17), op := .mov (.t 16) },
  { dst := (some 18), op := .faddr 2 (.t 1), guard := some (17, true) },
  { dst := (some 19), op := .load false 1 (.t 18), guard := some (17, true) },
  { dst := (some 20), op := .len (.t 19), guard := some (17, true) },
  { dst := (some 21), op := .bin .leq (.t 20) (.c (.int .i64 4)), guard := some (17, true) },
  { dst := (some 22), op := .pick (.t 17) (.t 21) (.c (.bool false)) },
  { dst := (some 23), op := .mov (.t 22) },
  { dst := (some 24), op := .faddr 3 (.t 1), guard := some (23, true) },
  { dst := (some 25), op := .load false 1 (.t 24), guard := some (23, true) },
  { dst := (some 26), op := .call false true (.f 46) [.t 25, .c (.int .i64 0), .c (.int .i64 65535)], guard := some (23, true) },
  { dst := (some 27), op := .pick (.t 23) (.t 26) (.c (.bool false)) },
  { dst := (some 28), op := .mov (.t 27) },
  { dst := (some 29), op := .faddr 4 (.t 1), guard := some (28, true) },
  { dst := (some 30), op := .load false 1 (.t 29), guard := some (28, true) },
  { dst := (some 31), op := .call false true (.f 58) [.t 30], guard := some (28, true) },
  { dst := (some 32), op := .pick (.t 28) (.t 31) (.c (.bool false)) },
  { dst := (some 33), op := .mov (.t 32) },
  { dst := (some 34), op := .faddr 5 (.t 1), guard := some (33, true) },
  { dst := (some 35), op := .load false 1 (.t 34), guard := some (33, true) },
  { dst := (some 36), op := .len (.t 35), guard := some (33, true) },
  { dst := (some 37), op := .bin .leq (.t 36) (.c (.int .i64 4)), guard := some (33, true) },
  { dst := (some 38), op := .pick (.t 33) (.t 37) (.c (.bool false)) },
  { dst := (some 3), op := .mov (.t 38) }]
def A17_r2 : List AO := [
  { dst := (some 4), op := .mov (.c (.int .i64 0)) }]
def A17_r3 : List AO := [
  { dst := (some 39), op := .mov (.t 3) },
  { dst := (some 40), op := .mov (.t 39) },
  { dst := (some 41), op := .mov (.t 4), guard := some (40, true) },
  { dst := (some 42), op := .faddr 0 (.t 1), guard := some (40, true) },
  { dst := (some 43), op := .load false 1 (.t 42), guard := some (40, true) },
  { dst := (some 44), op := .len (.t 43), guard := some (40, true) },
  { dst := (some 45), op := .bin .lss (.t 41) (.t 44), guard := some (40, true) },
  { dst := (some 46), op := .pick (.t 40) (.t 45) (.c (.bool false)) }]
def A17_r5 : List AO := [
  { dst := (some 49), op := .faddr 0 (.t 1) },
  { dst := (some 50), op := .load false 1 (.t 49) },
  { dst := (some 51), op := .mov (.t 4) },
  { dst := (some 52), op := .iaddr 3 (.t 50) (.t 51) },
  { dst := (some 53), op := .load true 3 (.t 52) },
  { dst := (some 5), op := .new true [.int .i64 0, .int .i64 0, .int .i64 0] },
  { dst := none, op := .store 3 (.t 5) (.t 53) }]
def A17_r6 : List AO := [
  { dst := (some 54), op := .faddr 0 (.t 5) },
  { dst := (some 55), op := .load false 1 (.t 54) },
  { dst := (some 56), op := .call false true (.f 46) [.t 55, .c (.int .i64 1), .c (.int .i64 30)] },
  { dst := (some 57), op := .mov (.t 56) },
  { dst := (some 58), op := .faddr 1 (.t 5), guard := some (57, true) },
  { dst := (some 59), op := .load false 1 (.t 58), guard := some (57, true) },
  { dst := (some 60), op := .call false true (.f 46) [.t 59, .c (.int .i64 0), .c (.int .i64 1000)], guard := some (57, true) },
  { dst := (some 61), op := .pick (.t 57) (.t 60) (.c (.bool false)) },
  { dst := (some 62), op := .mov (.t 61) },
  { dst := (some 63), op := .faddr 2 (.t 5), guard := some (62, true) },
  { dst := (some 64), op := .load false 1 (.t 63), guard := some (62, true) },
  { dst := (some 65), op := .call false true (.f 46) [.t 64, .c (.int .i64 0), .c (.int .i64 30)], guard := some (62, true) },
  { dst := (some 66), op := .pick (.t 62) (.t 65) (.c (.bool false)) },
  { dst := (some 3), op := .mov (.t 66) }]
def A17_r4 : List AO := [
  { dst := (some 47), op := .mov (.t 4) },
  { dst := (some 48), op := .bin .add (.t 47) (.c (.int .i64 1)) },
  { dst := (some 4), op := .mov (.t 48) }]
def A17_l0 : AC := .seq (.seq (.region A17_r3 none [1, 3, 4, 46] [1]) (.cond (.t 46) (.skip) (.exit 0))) (.seq (.block 1 (.seq (.region A17_r5 none [1, 4, 5] [1, 5]) (.region A17_r6 none [1, 3, 4] [1]))) (.region A17_r4 none [1, 3, 4] [1]))
def A17_r7 : List AO := [
  { dst := (some 6), op := .mov (.c (.int .i64 0)) }]
def A17_r8 : List AO := [
  { dst := (some 7), op := .mov (.c (.int .i64 0)) }]
def A17_r9 : List AO := [
  { dst := (some 67), op := .mov (.t 3) },
  { dst := (some 68), op := .mov (.t 67) },
  { dst := (some 69), op := .mov (.t 7), guard := some (68, true) },
  { dst := (some 70), op := .faddr 2 (.t 1), guard := some (68, true) },
  { dst := (some 71), op := .load false 1 (.t 70), guard := some (68, true) },
  { dst := (some 72), op := .len (.t 71), guard := some (68, true) },
  { dst := (some 73), op := .bin .lss (.t 69) (.t 72), guard := some (68, true) },
  { dst := (some 74), op := .pick (.t 68) (.t 73) (.c (.bool false)) }]
def A17_r11 : List AO := [
  { dst := (some 77), op := .faddr 2 (.t 1) },
  { dst := (some 78), op := .load false 1 (.t 77) },
  { dst := (some 79), op := .mov (.t 7) },
  { dst := (some 80), op := .iaddr 2 (.t 78) (.t 79) },
  { dst := (some 81), op := .load true 2 (.t 80) },
  { dst := (some 82), op := .mov (.t 6) },
  { dst := (some 83), op := .call false true (.f 65) [.t 81, .t 82, .c (.int .i64 999)] },
  { dst := (some 3), op := .mov (.t 83) }]
def A17_r12 : List AO := [
  { dst := (some 84), op := .faddr 2 (.t 1) },
  { dst := (some 85), op := .load false 1 (.t 84) },
  { dst := (some 86), op := .mov (.t 7) },
  { dst := (some 87), op := .iaddr 2 (.t 85) (.t 86) },
  { dst := (some 88), op := .faddr 1 (.t 87) },
  { dst := (some 89), op := .load false 1 (.t 88) },
  { dst := (some 90), op := .bin .add (.t 89) (.c (.int .i64 1)) },
  { dst := (some 6), op := .mov (.t 90) }]
def A17_r10 : List AO := [
  { dst := (some 75), op := .mov (.t 7) },
  { dst := (some 76), op := .bin .add (.t 75) (.c (.int .i64 1)) },
  { dst := (some 7), op := .mov (.t 76) }]
def A17_l1 : AC := .seq (.seq (.region A17_r9 none [1, 3, 6, 7, 74] [1]) (.cond (.t 74) (.skip) (.exit 2))) (.seq (.block 3 (.seq (.region A17_r11 none [1, 3, 7] [1]) (.region A17_r12 none [1, 3, 6, 7] [1]))) (.region A17_r10 none [1, 3, 6, 7] [1]))
def A17_r13 : List AO := [
  { dst := (some 91), op := .mov (.t 3) },
  { dst := (some 92), op := .un .not (.t 91) },
  { dst := (some 93), op := .mov (.t 92) },
  { dst := (some 94), op := .load true 6 (.t 1), guard := some (93, false) },
  { dst := (some 95), op := .faddr 5 (.t 1), guard := some (93, false) },
  { dst := (some 96), op := .load false 1 (.t 95), guard := some (93, false) },
  { dst := (some 97), op := .call false true (.f 66) [.t 94, .t 96], guard := some (93, false) },
  { dst := (some 98), op := .un .not (.t 97), guard := some (93, false) },
  { dst := (some 99), op := .pick (.t 93) (.c (.bool true)) (.t 98) },
  { dst := (some 100), op := .mov (.t 99) },
  { dst := (some 101), op := .load true 6 (.t 1), guard := some (100, false) },
  { dst := (some 102), op := .faddr 5 (.t 1), guard := some (100, false) },
  { dst := (some 103), op := .load false 1 (.t 102), guard := some (100, false) },
  { dst := (some 104), op := .call false true (.f 67) [.t 101, .t 103], guard := some (100, false) },
  { dst := (some 105), op := .un .not (.t 104), guard := some (100, false) },
  { dst := (some 106), op := .pick (.t 100) (.c (.bool true)) (.t 105) }]
def A17_r14 : List AO := [
  { dst := (some 2), op := .mov (.c (.int .i64 50)) }]
def A17_r15 : List AO := [
  { dst := (some 2), op := .mov (.c (.int .i64 0)) }]
def A17 : AF := { np := 1, res := [.tmp 2], body := (.seq (.region A17_r0 none [1] [1]) (.seq (.region A17_r1 none [1, 3] [1]) (.seq (.seq (.region A17_r2 none [1, 3, 4] [1]) (.block 0 (.loop [1, 3, 4] [1] A17_l0))) (.seq (.region A17_r7 none [1, 3, 6] [1]) (.seq (.seq (.region A17_r8 none [1, 3, 6, 7] [1]) (.block 2 (.loop [1, 3, 6, 7] [1] A17_l1))) (.seq (.seq (.region A17_r13 none [106] []) (.cond (.t 106) (.seq (.region A17_r14 none [2] []) (.ret)) (.skip))) (.seq (.region A17_r15 none [2] []) (.ret)))))))) }
/- bioscope.licence.Days -/
def A18_r0 : List AO := [
  { dst := (some 2), op := .box false (.t 0) },
  { dst := (some 3), op := .box false (.t 1) },
  { dst := (some 4), op := .mov (.c (.lst (some true) true 0 [])) },
  { dst := (some 5), op := .mov (.c (.int .i64 0)) }]
def A18_r1 : List AO := [
  { dst := (some 11), op := .load true 6 (.t 2) },
  { dst := (some 12), op := .load true 2 (.t 3) },
  { dst := (some 13), op := .call false true (.f 61) [.t 12, .c (.int .i64 0), .c (.int .i64 999)] },
  { dst := (some 14), op := .call false true (.f 53) [.t 11, .t 13] },
  { dst := (some 10), op := .mov (.t 14) },
  { dst := (some 15), op := .ext 0 (.t 10) },
  { dst := (some 16), op := .ext 1 (.t 10) },
  { dst := (some 6), op := .new true [.lst (some true) true 0 [], .int .i64 0, .lst (some true) true 0 [], .int .i64 0, .int .i64 0, .lst (some true) true 0 [], .nilm] },
  { dst := none, op := .store 7 (.t 6) (.t 15) },
  { dst := (some 7), op := .mov (.t 16) }]
def A18_r2 : List AO := [
  { dst := (some 17), op := .mov (.t 7) },
  { dst := (some 18), op := .bin .neq (.t 17) (.c (.int .i64 0)) }]
def A18_r3 : List AO := [
  { dst := (some 19), op := .mov (.t 7) },
  { dst := (some 4), op := .mov (.c (.lst (some true) true 0 [])) },
  { dst := (some 5), op := .mov (.t 19) }]
def A18_r4 : List AO := [
  { dst := (some 8), op := .new false [.lst (some true) true 0 []] }]
def A18_r5 : List AO := [
  { dst := (some 20), op := .load true 7 (.t 6) },
  { dst := (some 21), op := .load true 2 (.t 3) },
  { dst := (some 22), op := .faddr 0 (.t 6) },
  { dst := (some 23), op := .faddr 5 (.t 22) },
  { dst := (some 24), op := .load false 1 (.t 23) },
  { dst := (some 25), op := .call false true (.f 68) [.t 20, .t 21, .t 24] }]
def A18_r6 : List AO := [
  { dst := (some 9), op := .mov (.t 26) }]
def A18_r7 : List AO := [
  { dst := (some 27), op := .load false 1 (.t 8) },
  { dst := (some 28), op := .mov (.t 9) },
  { dst := (some 29), op := .bslice true 1 1 [.int .i64 0] [(0, 1, .t 28)] },
  { dst := (some 30), op := .app 1 3 8 (.t 27) (.t 29) },
  { dst := none, op := .store 1 (.t 8) (.t 30) }]
def A18_f0a : AC := .region A18_r6 none [8, 9] []
def A18_f0b : AC := .block 1 (.region A18_r7 none [] [])
def A18_r8 : List AO := [
  { dst := (some 31), op := .load false 1 (.t 8) },
  { dst := (some 32), op := .load false 1 (.t 8) },
  { dst := (some 33), op := .len (.t 32) },
  { dst := (some 34), op := .load false 1 (.t 8) },
  { dst := (some 35), op := .len (.t 34) },
  { dst := (some 36), op := .slc 1 (.t 31) none (some (.t 33)) (some (.t 35)) },
  { dst := (some 4), op := .mov (.t 36) },
  { dst := (some 5), op := .mov (.c (.int .i64 0)) }]
def A18 : AF := { np := 2, res := [.tmp 4, .tmp 5], body := (.seq (.region A18_r0 none [2, 3] []) (.seq (.region A18_r1 (some [[], [], [1], [0, 2, 2], [3], [4], [4], [], [7, 5, 3, 0, 1, 2, 3, 4, 5, 7], [6, 8, 0, 1, 2, 3, 4, 5, 6, 7, 8]]) [3, 6, 7] [] [6]) (.seq (.seq (.region A18_r2 none [3, 6, 7, 18] []) (.cond (.t 18) (.seq (.region A18_r3 none [4, 5] []) (.ret)) (.skip))) (.seq (.region A18_r4 none [3, 6, 8] []) (.seq (.seq (.region A18_r5 none [8, 25] []) (.block 0 (.rfun (.t 25) [26] A18_f0a A18_f0b))) (.seq (.region A18_r8 none [4, 5] []) (.ret))))))) }
/- bioscope.bioscoperef05.Days -/
def A19_r0 : List AO := [
  { dst := (some 2), op := .box true (.t 0) },
  { dst := (some 3), op := .box true (.t 1) },
  { dst := (some 4), op := .mov (.c (.lst (some true) true 0 [])) },
  { dst := (some 5), op := .mov (.c (.int .i64 0)) }]
def A19_r1 : List AO := [
  { dst := (some 9), op := .load true 6 (.t 2) },
  { dst := (some 10), op := .load true 2 (.t 3) },
  { dst := (some 11), op := .call false true (.f 65) [.t 10, .c (.int .i64 0), .c (.int .i64 999)] },
  { dst := (some 12), op := .call false true (.f 56) [.t 9, .t 11] },
  { dst := (some 6), op := .mov (.t 12) }]
def A19_r2 : List AO := [
  { dst := (some 13), op := .mov (.t 6) },
  { dst := (some 14), op := .bin .neq (.t 13) (.c (.int .i64 0)) }]
def A19_r3 : List AO := [
  { dst := (some 15), op := .mov (.t 6) },
  { dst := (some 4), op := .mov (.c (.lst (some true) true 0 [])) },
  { dst := (some 5), op := .mov (.t 15) }]
def A19_r4 : List AO := [
  { dst := (some 7), op := .mov (.c (.lst (some true) true 0 [])) }]
def A19_r5 : List AO := [
  { dst := (some 16), op := .faddr 0 (.t 3) },
  { dst := (some 17), op := .load false 1 (.t 16) },
  { dst := (some 8), op := .mov (.t 17) }]
def A19_r6 : List AO := [
  { dst := (some 18), op := .mov (.t 8) },
  { dst := (some 19), op := .faddr 1 (.t 3) },
  { dst := (some 20), op := .load false 1 (.t 19) },
  { dst := (some 21), op := .bin .leq (.t 18) (.t 20) }]
def A19_r8 : List AO := [
  { dst := (some 24), op := .load true 6 (.t 2) },
  { dst := (some 25), op := .faddr 5 (.t 2) },
  { dst := (some 26), op := .load false 1 (.t 25) },
  { dst := (some 27), op := .mov (.t 8) },
  { dst := (some 28), op := .call false true (.f 59) [.t 24, .t 26, .t 27] },
  { dst := (some 29), op := .mov (.t 28) },
  { dst := (some 30), op := .load true 6 (.t 2), guard := some (29, true) },
  { dst := (some 31), op := .mov (.t 8), guard := some (29, true) },
  { dst := (some 32), op := .call false true (.f 60) [.t 30, .t 31], guard := some (29, true) },
  { dst := (some 33), op := .un .not (.t 32), guard := some (29, true) },
  { dst := (some 34), op := .pick (.t 29) (.t 33) (.c (.bool false)) }]
def A19_r9 : List AO := [
  { dst := (some 35), op := .mov (.t 7) },
  { dst := (some 36), op := .mov (.t 8) },
  { dst := (some 37), op := .bslice true 1 1 [.int .i64 0] [(0, 1, .t 36)] },
  { dst := (some 38), op := .app 1 3 8 (.t 35) (.t 37) },
  { dst := (some 7), op := .mov (.t 38) }]
def A19_r7 : List AO := [
  { dst := (some 22), op := .mov (.t 8) },
  { dst := (some 23), op := .bin .add (.t 22) (.c (.int .i64 1)) },
  { dst := (some 8), op := .mov (.t 23) }]
def A19_l0 : AC := .seq (.seq (.region A19_r6 none [2, 3, 7, 8, 21] [2, 3]) (.cond (.t 21) (.skip) (.exit 0))) (.seq (.block 1 (.seq (.region A19_r8 none [2, 3, 7, 8, 34] [2, 3]) (.cond (.t 34) (.region A19_r9 none [2, 3, 7, 8] [2, 3]) (.skip)))) (.region A19_r7 none [2, 3, 7, 8] [2, 3]))
def A19_r10 : List AO := [
  { dst := (some 39), op := .mov (.t 7) },
  { dst := (some 4), op := .mov (.t 39) },
  { dst := (some 5), op := .mov (.c (.int .i64 0)) }]
def A19 : AF := { np := 2, res := [.tmp 4, .tmp 5], body := (.seq (.region A19_r0 none [2, 3] [2, 3]) (.seq (.seq (.region A19_r1 (some [[], [], [1], [0, 2, 2], [3, 3, 0, 1, 2, 3]]) [2, 3, 6] [2, 3]) (.seq (.region A19_r2 none [2, 3, 6, 14] [2, 3]) (.cond (.t 14) (.seq (.region A19_r3 none [4, 5] []) (.ret)) (.skip)))) (.seq (.region A19_r4 none [2, 3, 7] [2, 3]) (.seq (.seq (.region A19_r5 none [2, 3, 7, 8] [2, 3]) (.block 0 (.loop [2, 3, 7, 8] [2, 3] A19_l0))) (.seq (.region A19_r10 none [4, 5] []) (.ret)))))) }
/- bioscope.bioscoperef00.Same -/
def A20_r0 : List AO := [
  { dst := (some 4), op := .mov (.c (.bool false)) }]
def A20_r1 : List AO := [
  { dst := (some 7), op := .mov (.t 0) },
  { dst := (some 8), op := .len (.t 7) },
  { dst := (some 9), op := .mov (.t 1) },
  { dst := (some 10), op := .len (.t 9) },
  { dst := (some 11), op := .bin .eql (.t 8) (.t 10) },
  { dst := (some 5), op := .mov (.t 11) }]
def A20_r2 : List AO := [
  { dst := (some 6), op := .mov (.c (.int .i64 0)) }]
def A20_r3 : List AO := [
  { dst := (some 12), op := .mov (.t 5) },
  { dst := (some 13), op := .mov (.t 12) },
  { dst := (some 14), op := .mov (.t 6), guard := some (13, true) },
  { dst := (some 15), op := .mov (.t 0), guard := some (13, true) },
  { dst := (some 16), op := .len (.t 15), guard := some (13, true) },
  { dst := (some 17), op := .bin .lss (.t 14) (.t 16), guard := some (13, true) },
  { dst := (some 18), op := .pick (.t 13) (.t 17) (.c (.bool false)) }]
def A20_r5 : List AO := [
  { dst := (some 21), op := .mov (.t 0) },
  { dst := (some 22), op := .mov (.t 6) },
  { dst := (some 23), op := .iaddr 1 (.t 21) (.t 22) },
  { dst := (some 24), op := .load false 1 (.t 23) },
  { dst := (some 25), op := .mov (.t 1) },
  { dst := (some 26), op := .mov (.t 6) },
  { dst := (some 27), op := .iaddr 1 (.t 25) (.t 26) },
  { dst := (some 28), op := .load false 1 (.t 27) },
  { dst := (some 29), op := .bin .eql (.t 24) (.t 28) },
  { dst := (some 5), op := .mov (.t 29) }]
def A20_r4 : List AO := [
  { dst := (some 19), op := .mov (.t 6) },
  { dst := (some 20), op := .bin .add (.t 19) (.c (.int .i64 1)) },
  { dst := (some 6), op := .mov (.t 20) }]
def A20_l0 : AC := .seq (.seq (.region A20_r3 none [0, 1, 5, 6, 18] []) (.cond (.t 18) (.skip) (.exit 0))) (.seq (.block 1 (.region A20_r5 (some [[], [], [0, 1], [2], [], [], [4, 5], [6], [3, 7], [8, 0, 1, 2, 3, 4, 5, 6, 7, 8]]) [0, 1, 5, 6] [])) (.region A20_r4 none [0, 1, 5, 6] []))
def A20_r6 : List AO := [
  { dst := (some 30), op := .mov (.t 5) },
  { dst := (some 4), op := .mov (.t 30) }]
def A20 : AF := { np := 2, res := [.tmp 4], body := (.seq (.region A20_r0 none [0, 1] []) (.seq (.region A20_r1 none [0, 1, 5] []) (.seq (.seq (.region A20_r2 none [0, 1, 5, 6] []) (.block 0 (.loop [0, 1, 5, 6] [] A20_l0))) (.seq (.region A20_r6 none [4] []) (.ret))))) }
/- bioscope.licence.Over -/
def A21_r0 : List AO := [
  { dst := (some 3), op := .box true (.t 0) },
  { dst := (some 5), op := .box true (.t 2) },
  { dst := (some 6), op := .mov (.c (.int .i64 0)) },
  { dst := (some 7), op := .mov (.c (.int .i64 0)) }]
def A21_r1 : List AO := [
  { dst := (some 14), op := .load true 6 (.t 3) },
  { dst := (some 15), op := .mov (.t 1) },
  { dst := (some 16), op := .call false true (.f 55) [.t 15, .c (.int .i64 0), .c (.int .i64 1439)] },
  { dst := (some 17), op := .mov (.t 16) },
  { dst := (some 18), op := .load true 2 (.t 5), guard := some (17, true) },
  { dst := (some 19), op := .call false true (.f 61) [.t 18, .c (.int .i64 0), .c (.int .i64 1439)], guard := some (17, true) },
  { dst := (some 20), op := .pick (.t 17) (.t 19) (.c (.bool false)) },
  { dst := (some 21), op := .call false true (.f 53) [.t 14, .t 20] },
  { dst := (some 13), op := .mov (.t 21) },
  { dst := (some 22), op := .ext 0 (.t 13) },
  { dst := (some 23), op := .ext 1 (.t 13) },
  { dst := (some 8), op := .new true [.lst (some true) true 0 [], .int .i64 0, .lst (some true) true 0 [], .int .i64 0, .int .i64 0, .lst (some true) true 0 [], .nilm] },
  { dst := none, op := .store 7 (.t 8) (.t 22) },
  { dst := (some 9), op := .mov (.t 23) }]
def A21_r2 : List AO := [
  { dst := (some 24), op := .mov (.t 9) },
  { dst := (some 25), op := .bin .neq (.t 24) (.c (.int .i64 0)) }]
def A21_r3 : List AO := [
  { dst := (some 26), op := .mov (.t 9) },
  { dst := (some 6), op := .mov (.c (.int .i64 0)) },
  { dst := (some 7), op := .mov (.t 26) }]
def A21_r4 : List AO := [
  { dst := (some 10), op := .mov (.c (.int .i64 0)) }]
def A21_r5 : List AO := [
  { dst := (some 27), op := .faddr 0 (.t 5) },
  { dst := (some 28), op := .load false 1 (.t 27) },
  { dst := (some 29), op := .faddr 1 (.t 5) },
  { dst := (some 30), op := .load false 1 (.t 29) },
  { dst := (some 31), op := .bslice true 1 2 [.int .i64 0, .int .i64 0] [(0, 1, .t 28), (1, 1, .t 30)] },
  { dst := (some 32), op := .len (.t 31) },
  { dst := (some 33), op := .mov (.c (.int .i64 0)) }]
def A21_r6 : List AO := [
  { dst := (some 34), op := .bin .lss (.t 33) (.t 32) }]
def A21_r7 : List AO := [
  { dst := (some 35), op := .iaddr 1 (.t 31) (.t 33) },
  { dst := (some 36), op := .load false 1 (.t 35) },
  { dst := (some 12), op := .mov (.t 36) }]
def A21_r8 : List AO := [
  { dst := (some 37), op := .mov (.t 1) },
  { dst := (some 38), op := .mov (.t 12) },
  { dst := (some 39), op := .bin .add (.t 37) (.t 38) },
  { dst := (some 40), op := .faddr 0 (.t 8) },
  { dst := (some 41), op := .faddr 4 (.t 40) },
  { dst := (some 42), op := .load false 1 (.t 41) },
  { dst := (some 43), op := .bin .leq (.t 39) (.t 42) }]
def A21_r9 : List AO := [
  { dst := (some 44), op := .mov (.t 10) },
  { dst := (some 45), op := .bin .add (.t 44) (.c (.int .i64 1)) },
  { dst := (some 10), op := .mov (.t 45) }]
def A21_r10 : List AO := [
  { dst := (some 46), op := .bin .add (.t 33) (.c (.int .i64 1)) },
  { dst := (some 33), op := .mov (.t 46) }]
def A21_l0 : AC := .seq (.region A21_r6 none [1, 8, 10, 31, 32, 33, 34] [8]) (.seq (.cond (.t 34) (.skip) (.exit 0)) (.seq (.block 1 (.seq (.region A21_r7 none [1, 8, 10, 12, 31, 32, 33] [8]) (.seq (.region A21_r8 none [1, 8, 10, 31, 32, 33, 43] [8]) (.cond (.t 43) (.region A21_r9 none [1, 8, 10, 31, 32, 33] [8]) (.skip))))) (.region A21_r10 none [1, 8, 10, 31, 32, 33] [8])))
def A21_r11 : List AO := [
  { dst := (some 47), op := .mov (.t 10) },
  { dst := (some 6), op := .mov (.t 47) },
  { dst := (some 7), op := .mov (.c (.int .i64 0)) }]
def A21 : AF := { np := 3, res := [.tmp 6, .tmp 7], body := (.seq (.region A21_r0 none [1, 3, 5] [3, 5]) (.seq (.region A21_r1 (some [[], [], [1], [2, 2], [3], [4, 3, 3], [3, 5], [0, 6, 5], [7], [8], [8], [], [11, 9, 7, 0, 1, 2, 3, 4, 5, 6, 7, 8, 9, 11], [10, 12, 0, 1, 2, 3, 4, 5, 6, 7, 8, 9, 10, 11, 12]]) [1, 5, 8, 9] [5, 8]) (.seq (.seq (.region A21_r2 none [1, 5, 8, 9, 25] [5, 8]) (.cond (.t 25) (.seq (.region A21_r3 none [6, 7] []) (.ret)) (.skip))) (.seq (.region A21_r4 none [1, 5, 8, 10] [5, 8]) (.seq (.seq (.region A21_r5 none [1, 8, 10, 31, 32, 33] [8]) (.block 0 (.loop [1, 8, 10, 31, 32, 33] [8] A21_l0))) (.seq (.region A21_r11 none [6, 7] []) (.ret))))))) }
/- bioscope.bioscoperef05.Over -/
def A22_r0 : List AO := [
  { dst := (some 3), op := .box true (.t 0) },
  { dst := (some 5), op := .box true (.t 2) },
  { dst := (some 6), op := .mov (.c (.int .i64 0)) },
  { dst := (some 7), op := .mov (.c (.int .i64 0)) }]
def A22_r1 : List AO := [
  { dst := (some 9), op := .load true 6 (.t 3) },
  { dst := (some 10), op := .mov (.t 1) },
  { dst := (some 11), op := .call false true (.f 58) [.t 10] },
  { dst := (some 12), op := .mov (.t 11) },
  { dst := (some 13), op := .load true 2 (.t 5), guard := some (12, true) },
  { dst := (some 14), op := .call false true (.f 65) [.t 13, .c (.int .i64 0), .c (.int .i64 1439)], guard := some (12, true) },
  { dst := (some 15), op := .pick (.t 12) (.t 14) (.c (.bool false)) },
  { dst := (some 16), op := .call false true (.f 56) [.t 9, .t 15] },
  { dst := (some 8), op := .mov (.t 16) }]
def A22_r2 : List AO := [
  { dst := (some 17), op := .mov (.t 8) },
  { dst := (some 18), op := .bin .neq (.t 17) (.c (.int .i64 0)) }]
def A22_r3 : List AO := [
  { dst := (some 19), op := .mov (.t 8) },
  { dst := (some 6), op := .mov (.c (.int .i64 0)) },
  { dst := (some 7), op := .mov (.t 19) }]
def A22_r4 : List AO := [
  { dst := (some 21), op := .mov (.t 1) },
  { dst := (some 22), op := .faddr 1 (.t 5) },
  { dst := (some 23), op := .load false 1 (.t 22) },
  { dst := (some 24), op := .bin .add (.t 21) (.t 23) },
  { dst := (some 25), op := .faddr 4 (.t 3) },
  { dst := (some 26), op := .load false 1 (.t 25) },
  { dst := (some 27), op := .bin .leq (.t 24) (.t 26) },
  { dst := (some 20), op := .mov (.t 27) }]
def A22_r5 : List AO := [
  { dst := (some 6), op := .mov (.c (.int .i64 2)) },
  { dst := (some 7), op := .mov (.c (.int .i64 0)) }]
def A22_r6 : List AO := [
  { dst := (some 29), op := .mov (.t 1) },
  { dst := (some 30), op := .faddr 0 (.t 5) },
  { dst := (some 31), op := .load false 1 (.t 30) },
  { dst := (some 32), op := .bin .add (.t 29) (.t 31) },
  { dst := (some 33), op := .faddr 4 (.t 3) },
  { dst := (some 34), op := .load false 1 (.t 33) },
  { dst := (some 35), op := .bin .leq (.t 32) (.t 34) },
  { dst := (some 28), op := .mov (.t 35) }]
def A22_r7 : List AO := [
  { dst := (some 6), op := .mov (.c (.int .i64 1)) },
  { dst := (some 7), op := .mov (.c (.int .i64 0)) }]
def A22_r8 : List AO := [
  { dst := (some 6), op := .mov (.c (.int .i64 0)) },
  { dst := (some 7), op := .mov (.c (.int .i64 0)) }]
def A22 : AF := { np := 3, res := [.tmp 6, .tmp 7], body := (.seq (.region A22_r0 none [1, 3, 5] [3, 5]) (.seq (.seq (.region A22_r1 (some [[], [], [1], [2, 2], [3], [4, 3, 3], [3, 5], [0, 6, 5], [7, 7, 0, 1, 2, 3, 4, 5, 6, 7]]) [1, 3, 5, 8] [3, 5]) (.seq (.region A22_r2 none [1, 3, 5, 8, 18] [3, 5]) (.cond (.t 18) (.seq (.region A22_r3 none [6, 7] []) (.ret)) (.skip)))) (.seq (.block 0 (.seq (.region A22_r4 none [1, 3, 5, 20] [3, 5]) (.cond (.t 20) (.seq (.region A22_r5 none [6, 7] []) (.ret)) (.seq (.region A22_r6 none [28] []) (.cond (.t 28) (.seq (.region A22_r7 none [6, 7] []) (.ret)) (.skip)))))) (.seq (.region A22_r8 none [6, 7] []) (.ret))))) }
/- bioscope.bioscopelaw05.stamped -/
def A23_r0 : List AO := [
  { dst := (some 0), op := .mov (.c (.bool false)) }]
def A23_r1 : List AO := [
  { dst := (some 15), op := .call false true (.f 49) [] },
  { dst := (some 16), op := .call false true (.f 14) [.t 15, .c (.int .i64 101), .c (.int .i64 3), .c (.int .i64 1350)] },
  { dst := (some 14), op := .mov (.t 16) },
  { dst := (some 17), op := .ext 0 (.t 14) },
  { dst := (some 18), op := .ext 1 (.t 14) },
  { dst := (some 1), op := .mov (.t 17) },
  { dst := (some 2), op := .mov (.t 18) }]
def A23_r2 : List AO := [
  { dst := (some 20), op := .call false true (.f 49) [] },
  { dst := (some 21), op := .call false true (.f 40) [.c (.int .i64 98), .c (.int .i64 110)] },
  { dst := (some 22), op := .call false true (.f 18) [.t 20, .t 21] },
  { dst := (some 19), op := .mov (.t 22) },
  { dst := (some 23), op := .ext 0 (.t 19) },
  { dst := (some 24), op := .ext 1 (.t 19) },
  { dst := (some 3), op := .mov (.t 23) },
  { dst := (some 4), op := .mov (.t 24) }]
def A23_r3 : List AO := [
  { dst := (some 26), op := .call false true (.f 49) [] },
  { dst := (some 27), op := .call false true (.f 50) [.c (.int .i64 1), .c (.int .i64 108)] },
  { dst := (some 28), op := .bslice true 2 1 [.int .i64 0, .int .i64 0] [(0, 2, .t 27)] },
  { dst := (some 29), op := .call false true (.f 24) [.t 26, .c (.int .i64 95), .t 28] },
  { dst := (some 25), op := .mov (.t 29) },
  { dst := (some 30), op := .ext 0 (.t 25) },
  { dst := (some 31), op := .ext 1 (.t 25) },
  { dst := (some 5), op := .mov (.t 30) },
  { dst := (some 6), op := .mov (.t 31) }]
def A23_r4 : List AO := [
  { dst := (some 33), op := .call false true (.f 49) [] },
  { dst := (some 34), op := .call false true (.f 50) [.c (.int .i64 0), .c (.int .i64 108)] },
  { dst := (some 35), op := .call false true (.f 50) [.c (.int .i64 0), .c (.int .i64 112)] },
  { dst := (some 36), op := .bslice true 2 2 [.int .i64 0, .int .i64 0, .int .i64 0, .int .i64 0] [(0, 2, .t 34), (2, 2, .t 35)] },
  { dst := (some 37), op := .call false true (.f 52) [] },
  { dst := (some 38), op := .call false true (.f 26) [.t 33, .t 36, .t 37] },
  { dst := (some 32), op := .mov (.t 38) },
  { dst := (some 39), op := .ext 0 (.t 32) },
  { dst := (some 40), op := .ext 1 (.t 32) },
  { dst := (some 7), op := .mov (.t 39) },
  { dst := (some 8), op := .mov (.t 40) }]
def A23_r5 : List AO := [
  { dst := (some 41), op := .mov (.t 2) },
  { dst := (some 42), op := .bin .neq (.t 41) (.c (.int .i64 0)) },
  { dst := (some 43), op := .mov (.t 42) },
  { dst := (some 44), op := .mov (.t 4), guard := some (43, false) },
  { dst := (some 45), op := .bin .neq (.t 44) (.c (.int .i64 0)), guard := some (43, false) },
  { dst := (some 46), op := .pick (.t 43) (.c (.bool true)) (.t 45) },
  { dst := (some 47), op := .mov (.t 46) },
  { dst := (some 48), op := .mov (.t 6), guard := some (47, false) },
  { dst := (some 49), op := .bin .neq (.t 48) (.c (.int .i64 0)), guard := some (47, false) },
  { dst := (some 50), op := .pick (.t 47) (.c (.bool true)) (.t 49) },
  { dst := (some 51), op := .mov (.t 50) },
  { dst := (some 52), op := .mov (.t 8), guard := some (51, false) },
  { dst := (some 53), op := .bin .neq (.t 52) (.c (.int .i64 0)), guard := some (51, false) },
  { dst := (some 54), op := .pick (.t 51) (.c (.bool true)) (.t 53) },
  { dst := (some 55), op := .mov (.t 54) },
  { dst := (some 56), op := .mov (.t 1), guard := some (55, false) },
  { dst := (some 57), op := .bin .neq (.t 56) (.c (.int .i64 3)), guard := some (55, false) },
  { dst := (some 58), op := .pick (.t 55) (.c (.bool true)) (.t 57) },
  { dst := (some 59), op := .mov (.t 58) },
  { dst := (some 60), op := .mov (.t 3), guard := some (59, false) },
  { dst := (some 61), op := .bslice true 1 5 [.int .i64 0, .int .i64 0, .int .i64 0, .int .i64 0, .int .i64 0] [(0, 1, .c (.int .i64 100)), (1, 1, .c (.int .i64 101)), (2, 1, .c (.int .i64 102)), (3, 1, .c (.int .i64 103)), (4, 1, .c (.int .i64 104))], guard := some (59, false) },
  { dst := (some 62), op := .call false true (.f 20) [.t 60, .t 61], guard := some (59, false) },
  { dst := (some 63), op := .un .not (.t 62), guard := some (59, false) },
  { dst := (some 64), op := .pick (.t 59) (.c (.bool true)) (.t 63) },
  { dst := (some 65), op := .mov (.t 64) },
  { dst := (some 66), op := .mov (.t 5), guard := some (65, false) },
  { dst := (some 67), op := .un .not (.t 66), guard := some (65, false) },
  { dst := (some 68), op := .pick (.t 65) (.c (.bool true)) (.t 67) },
  { dst := (some 69), op := .mov (.t 68) },
  { dst := (some 70), op := .mov (.t 7), guard := some (69, false) },
  { dst := (some 71), op := .bslice true 1 1 [.int .i64 0] [(0, 1, .c (.int .i64 110))], guard := some (69, false) },
  { dst := (some 72), op := .call false true (.f 20) [.t 70, .t 71], guard := some (69, false) },
  { dst := (some 73), op := .un .not (.t 72), guard := some (69, false) },
  { dst := (some 74), op := .pick (.t 69) (.c (.bool true)) (.t 73) }]
def A23_r6 : List AO := [
  { dst := (some 0), op := .mov (.c (.bool false)) }]
def A23_r7 : List AO := [
  { dst := (some 76), op := .call false true (.f 49) [] },
  { dst := (some 77), op := .call false true (.f 52) [] },
  { dst := (some 78), op := .call false true (.f 30) [.t 76, .c (.int .i64 95), .t 77] },
  { dst := (some 75), op := .mov (.t 78) },
  { dst := (some 79), op := .ext 0 (.t 75) },
  { dst := (some 80), op := .ext 1 (.t 75) },
  { dst := (some 9), op := .mov (.t 79) },
  { dst := (some 2), op := .mov (.t 80) }]
def A23_r8 : List AO := [
  { dst := (some 82), op := .call false true (.f 51) [] },
  { dst := (some 83), op := .call false true (.f 52) [] },
  { dst := (some 84), op := .call false true (.f 29) [.t 82, .c (.int .i64 95), .t 83] },
  { dst := (some 81), op := .mov (.t 84) },
  { dst := (some 85), op := .ext 0 (.t 81) },
  { dst := (some 86), op := .ext 1 (.t 81) },
  { dst := (some 10), op := .mov (.t 85) },
  { dst := (some 4), op := .mov (.t 86) }]
def A23_r9 : List AO := [
  { dst := (some 88), op := .call false true (.f 49) [] },
  { dst := (some 89), op := .call false true (.f 52) [] },
  { dst := (some 90), op := .call false true (.f 31) [.t 88, .t 89] },
  { dst := (some 87), op := .mov (.t 90) },
  { dst := (some 91), op := .ext 0 (.t 87) },
  { dst := (some 92), op := .ext 1 (.t 87) },
  { dst := (some 11), op := .mov (.t 91) },
  { dst := (some 6), op := .mov (.t 92) }]
def A23_r10 : List AO := [
  { dst := (some 94), op := .call false true (.f 49) [] },
  { dst := (some 95), op := .call false true (.f 52) [] },
  { dst := (some 96), op := .call false true (.f 33) [.t 94, .c (.int .i64 95), .t 95, .c (.int .i64 10)] },
  { dst := (some 93), op := .mov (.t 96) },
  { dst := (some 97), op := .ext 0 (.t 93) },
  { dst := (some 98), op := .ext 1 (.t 93) },
  { dst := (some 3), op := .mov (.t 97) },
  { dst := (some 8), op := .mov (.t 98) }]
def A23_r11 : List AO := [
  { dst := (some 100), op := .call false true (.f 49) [] },
  { dst := (some 101), op := .call false true (.f 40) [.c (.int .i64 150), .c (.int .i64 160)] },
  { dst := (some 102), op := .call false true (.f 21) [.t 100, .c (.int .i64 1200), .t 101] },
  { dst := (some 99), op := .mov (.t 102) },
  { dst := (some 103), op := .ext 0 (.t 99) },
  { dst := (some 104), op := .ext 1 (.t 99) },
  { dst := (some 12), op := .mov (.t 103) },
  { dst := (some 13), op := .mov (.t 104) }]
def A23_r12 : List AO := [
  { dst := (some 105), op := .mov (.t 2) },
  { dst := (some 106), op := .bin .eql (.t 105) (.c (.int .i64 0)) },
  { dst := (some 107), op := .mov (.t 106) },
  { dst := (some 108), op := .mov (.t 4), guard := some (107, true) },
  { dst := (some 109), op := .bin .eql (.t 108) (.c (.int .i64 0)), guard := some (107, true) },
  { dst := (some 110), op := .pick (.t 107) (.t 109) (.c (.bool false)) },
  { dst := (some 111), op := .mov (.t 110) },
  { dst := (some 112), op := .mov (.t 6), guard := some (111, true) },
  { dst := (some 113), op := .bin .eql (.t 112) (.c (.int .i64 0)), guard := some (111, true) },
  { dst := (some 114), op := .pick (.t 111) (.t 113) (.c (.bool false)) },
  { dst := (some 115), op := .mov (.t 114) },
  { dst := (some 116), op := .mov (.t 8), guard := some (115, true) },
  { dst := (some 117), op := .bin .eql (.t 116) (.c (.int .i64 0)), guard := some (115, true) },
  { dst := (some 118), op := .pick (.t 115) (.t 117) (.c (.bool false)) },
  { dst := (some 119), op := .mov (.t 118) },
  { dst := (some 120), op := .mov (.t 13), guard := some (119, true) },
  { dst := (some 121), op := .bin .eql (.t 120) (.c (.int .i64 0)), guard := some (119, true) },
  { dst := (some 122), op := .pick (.t 119) (.t 121) (.c (.bool false)) },
  { dst := (some 123), op := .mov (.t 122) },
  { dst := (some 124), op := .mov (.t 9), guard := some (123, true) },
  { dst := (some 125), op := .len (.t 124), guard := some (123, true) },
  { dst := (some 126), op := .bin .eql (.t 125) (.c (.int .i64 3)), guard := some (123, true) },
  { dst := (some 127), op := .pick (.t 123) (.t 126) (.c (.bool false)) },
  { dst := (some 128), op := .mov (.t 127) },
  { dst := (some 129), op := .mov (.t 9), guard := some (128, true) },
  { dst := (some 130), op := .iaddr 2 (.t 129) (.c (.int .i64 0)), guard := some (128, true) },
  { dst := (some 131), op := .load true 2 (.t 130), guard := some (128, true) },
  { dst := (some 132), op := .call false true (.f 50) [.c (.int .i64 0), .c (.int .i64 108)], guard := some (128, true) },
  { dst := (some 133), op := .eqs false [false, false] (.t 131) (.t 132), guard := some (128, true) },
  { dst := (some 134), op := .pick (.t 128) (.t 133) (.c (.bool false)) },
  { dst := (some 135), op := .mov (.t 134) },
  { dst := (some 136), op := .mov (.t 9), guard := some (135, true) },
  { dst := (some 137), op := .iaddr 2 (.t 136) (.c (.int .i64 1)), guard := some (135, true) },
  { dst := (some 138), op := .load true 2 (.t 137), guard := some (135, true) },
  { dst := (some 139), op := .call false true (.f 50) [.c (.int .i64 0), .c (.int .i64 110)], guard := some (135, true) },
  { dst := (some 140), op := .eqs false [false, false] (.t 138) (.t 139), guard := some (135, true) },
  { dst := (some 141), op := .pick (.t 135) (.t 140) (.c (.bool false)) },
  { dst := (some 142), op := .mov (.t 141) },
  { dst := (some 143), op := .mov (.t 9), guard := some (142, true) },
  { dst := (some 144), op := .iaddr 2 (.t 143) (.c (.int .i64 2)), guard := some (142, true) },
  { dst := (some 145), op := .load true 2 (.t 144), guard := some (142, true) },
  { dst := (some 146), op := .call false true (.f 50) [.c (.int .i64 0), .c (.int .i64 112)], guard := some (142, true) },
  { dst := (some 147), op := .eqs false [false, false] (.t 145) (.t 146), guard := some (142, true) },
  { dst := (some 148), op := .pick (.t 142) (.t 147) (.c (.bool false)) },
  { dst := (some 149), op := .mov (.t 148) },
  { dst := (some 150), op := .mov (.t 10), guard := some (149, true) },
  { dst := (some 151), op := .bin .eql (.t 150) (.c (.int .i64 20)), guard := some (149, true) },
  { dst := (some 152), op := .pick (.t 149) (.t 151) (.c (.bool false)) },
  { dst := (some 153), op := .mov (.t 152) },
  { dst := (some 154), op := .mov (.t 11), guard := some (153, true) },
  { dst := (some 155), op := .bin .eql (.t 154) (.c (.int .i64 106)), guard := some (153, true) },
  { dst := (some 156), op := .pick (.t 153) (.t 155) (.c (.bool false)) },
  { dst := (some 157), op := .mov (.t 156) },
  { dst := (some 158), op := .mov (.t 3), guard := some (157, true) },
  { dst := (some 159), op := .bslice true 1 3 [.int .i64 0, .int .i64 0, .int .i64 0] [(0, 1, .c (.int .i64 101)), (1, 1, .c (.int .i64 108)), (2, 1, .c (.int .i64 110))], guard := some (157, true) },
  { dst := (some 160), op := .call false true (.f 20) [.t 158, .t 159], guard := some (157, true) },
  { dst := (some 161), op := .pick (.t 157) (.t 160) (.c (.bool false)) },
  { dst := (some 162), op := .mov (.t 161) },
  { dst := (some 163), op := .mov (.t 12), guard := some (162, true) },
  { dst := (some 164), op := .bin .eql (.t 163) (.c (.int .i64 1)), guard := some (162, true) },
  { dst := (some 165), op := .pick (.t 162) (.t 164) (.c (.bool false)) },
  { dst := (some 0), op := .mov (.t 165) }]
def A23 : AF := { np := 0, res := [.tmp 0], body := (.seq (.region A23_r0 none [] []) (.seq (.region A23_r1 none [1, 2] []) (.seq (.region A23_r2 none [1, 2, 3, 4] []) (.seq (.region A23_r3 none [1, 2, 3, 4, 5, 6] []) (.seq (.region A23_r4 none [1, 2, 3, 4, 5, 6, 7, 8] []) (.seq (.seq (.region A23_r5 none [74] []) (.cond (.t 74) (.seq (.region A23_r6 none [0] []) (.ret)) (.skip))) (.seq (.region A23_r7 none [2, 9] []) (.seq (.region A23_r8 none [2, 4, 9, 10] []) (.seq (.region A23_r9 none [2, 4, 6, 9, 10, 11] []) (.seq (.region A23_r10 none [2, 3, 4, 6, 8, 9, 10, 11] []) (.seq (.region A23_r11 none [2, 3, 4, 6, 8, 9, 10, 11, 12, 13] []) (.seq (.region A23_r12 (some [[], [0], [1], [2], [3, 2], [2, 4], [5, 2], [6], [7, 6], [6, 8], [9, 6], [10], [11, 10], [10, 12], [13, 10], [14], [15, 14], [14, 16], [17, 14], [18], [19, 18], [20, 18], [18, 21], [22, 18], [23], [24, 23], [25, 23], [23, 23], [26, 27, 23], [23, 28], [29, 27], [30], [31, 30], [32, 30], [30, 30], [33, 34, 30], [30, 35], [36, 34], [37], [38, 37], [39, 37], [37, 37], [40, 41, 37], [37, 42], [43, 41], [44], [45, 44], [44, 46], [47, 44], [48], [49, 48], [48, 50], [51, 48], [52], [52], [53, 54, 52, 52], [52, 55], [56, 55], [57], [58, 57], [57, 59], [60, 57, 0, 1, 2, 3, 4, 5, 6, 7, 8, 9, 10, 11, 12, 13, 14, 15, 16, 17, 18, 19, 20, 21, 22, 23, 24, 25, 26, 27, 28, 29, 30, 31, 32, 33, 34, 35, 36, 37, 38, 39, 40, 41, 42, 43, 44, 45, 46, 47, 48, 49, 50, 51, 52, 53, 54, 55, 56, 57, 58, 59, 60]]) [0] []) (.ret))))))))))))) }
/- bioscope.licence.IsPlan -/
def A24_r0 : List AO := [
  { dst := (some 3), op := .box true (.t 0) },
  { dst := (some 6), op := .mov (.c (.bool false)) },
  { dst := (some 7), op := .mov (.c (.int .i64 0)) }]
def A24_r1 : List AO := [
  { dst := (some 13), op := .load true 6 (.t 3) },
  { dst := (some 14), op := .mov (.t 1) },
  { dst := (some 15), op := .call false true (.f 54) [.t 14] },
  { dst := (some 16), op := .call false true (.f 53) [.t 13, .t 15] },
  { dst := (some 12), op := .mov (.t 16) },
  { dst := (some 17), op := .ext 0 (.t 12) },
  { dst := (some 18), op := .ext 1 (.t 12) },
  { dst := (some 8), op := .new true [.lst (some true) true 0 [], .int .i64 0, .lst (some true) true 0 [], .int .i64 0, .int .i64 0, .lst (some true) true 0 [], .nilm] },
  { dst := none, op := .store 7 (.t 8) (.t 17) },
  { dst := (some 9), op := .mov (.t 18) }]
def A24_r2 : List AO := [
  { dst := (some 19), op := .mov (.t 9) },
  { dst := (some 20), op := .bin .neq (.t 19) (.c (.int .i64 0)) }]
def A24_r3 : List AO := [
  { dst := (some 21), op := .mov (.t 9) },
  { dst := (some 6), op := .mov (.c (.bool false)) },
  { dst := (some 7), op := .mov (.t 21) }]
def A24_r4 : List AO := [
  { dst := (some 22), op := .mov (.t 2) },
  { dst := (some 23), op := .len (.t 22) },
  { dst := (some 24), op := .bin .gtr (.t 23) (.c (.int .i64 8)) }]
def A24_r5 : List AO := [
  { dst := (some 6), op := .mov (.c (.bool false)) },
  { dst := (some 7), op := .mov (.c (.int .i64 0)) }]
def A24_r6 : List AO := [
  { dst := (some 25), op := .mov (.t 2) },
  { dst := (some 26), op := .len (.t 25) },
  { dst := (some 27), op := .mov (.c (.int .i64 0)) }]
def A24_r7 : List AO := [
  { dst := (some 28), op := .bin .lss (.t 27) (.t 26) }]
def A24_r8 : List AO := [
  { dst := (some 29), op := .mov (.t 27) },
  { dst := (some 30), op := .iaddr 2 (.t 25) (.t 27) },
  { dst := (some 31), op := .load true 2 (.t 30) },
  { dst := (some 11), op := .new true [.int .i64 0, .int .i64 0] },
  { dst := (some 10), op := .mov (.t 29) },
  { dst := none, op := .store 2 (.t 11) (.t 31) }]
def A24_r9 : List AO := [
  { dst := (some 32), op := .load true 6 (.t 3) },
  { dst := (some 33), op := .load true 2 (.t 11) },
  { dst := (some 34), op := .call false true (.f 62) [.t 32, .t 33] },
  { dst := (some 35), op := .un .not (.t 34) },
  { dst := (some 36), op := .mov (.t 35) },
  { dst := (some 37), op := .mov (.t 10), guard := some (36, false) },
  { dst := (some 38), op := .bin .gtr (.t 37) (.c (.int .i64 0)), guard := some (36, false) },
  { dst := (some 39), op := .mov (.t 38), guard := some (36, false) },
  { dst := (some 40), op := .faddr 1 (.t 11), guard := some (39, true) },
  { dst := (some 41), op := .load false 1 (.t 40), guard := some (39, true) },
  { dst := (some 42), op := .mov (.t 2), guard := some (39, true) },
  { dst := (some 43), op := .mov (.t 10), guard := some (39, true) },
  { dst := (some 44), op := .bin .sub (.t 43) (.c (.int .i64 1)), guard := some (39, true) },
  { dst := (some 45), op := .iaddr 2 (.t 42) (.t 44), guard := some (39, true) },
  { dst := (some 46), op := .faddr 1 (.t 45), guard := some (39, true) },
  { dst := (some 47), op := .load false 1 (.t 46), guard := some (39, true) },
  { dst := (some 48), op := .bin .lss (.t 41) (.t 47), guard := some (39, true) },
  { dst := (some 49), op := .pick (.t 39) (.t 48) (.c (.bool false)), guard := some (36, false) },
  { dst := (some 50), op := .pick (.t 36) (.c (.bool true)) (.t 49) },
  { dst := (some 51), op := .mov (.t 50) },
  { dst := (some 52), op := .faddr 1 (.t 11), guard := some (51, false) },
  { dst := (some 53), op := .load false 1 (.t 52), guard := some (51, false) },
  { dst := (some 54), op := .mov (.t 1), guard := some (51, false) },
  { dst := (some 55), op := .bin .sub (.t 53) (.t 54), guard := some (51, false) },
  { dst := (some 56), op := .faddr 0 (.t 8), guard := some (51, false) },
  { dst := (some 57), op := .faddr 0 (.t 56), guard := some (51, false) },
  { dst := (some 58), op := .load false 1 (.t 57), guard := some (51, false) },
  { dst := (some 59), op := .faddr 0 (.t 11), guard := some (51, false) },
  { dst := (some 60), op := .load false 1 (.t 59), guard := some (51, false) },
  { dst := (some 61), op := .iaddr 3 (.t 58) (.t 60), guard := some (51, false) },
  { dst := (some 62), op := .faddr 2 (.t 61), guard := some (51, false) },
  { dst := (some 63), op := .load false 1 (.t 62), guard := some (51, false) },
  { dst := (some 64), op := .bin .lss (.t 55) (.t 63), guard := some (51, false) },
  { dst := (some 65), op := .pick (.t 51) (.c (.bool true)) (.t 64) }]
def A24_r10 : List AO := [
  { dst := (some 6), op := .mov (.c (.bool false)) },
  { dst := (some 7), op := .mov (.c (.int .i64 0)) }]
def A24_r11 : List AO := [
  { dst := (some 66), op := .bin .add (.t 27) (.c (.int .i64 1)) },
  { dst := (some 27), op := .mov (.t 66) }]
def A24_l0 : AC := .seq (.region A24_r7 none [1, 2, 3, 8, 25, 26, 27, 28] [3, 8]) (.seq (.cond (.t 28) (.skip) (.exit 0)) (.seq (.block 1 (.seq (.region A24_r8 none [1, 2, 3, 8, 10, 11, 25, 26, 27] [3, 8, 11]) (.seq (.region A24_r9 (some [[], [], [0, 1], [2], [3, 2], [4], [5, 4], [6, 4, 4], [7], [8, 7], [7], [7], [11, 7], [10, 12, 7], [13, 7], [14, 7], [9, 15, 7], [7, 16, 4], [4, 17], [18, 7], [19], [20, 19], [19], [21, 22, 19], [19], [24, 19], [25, 19], [19], [27, 19], [26, 28, 19], [29, 19], [30, 19], [23, 31, 19], [19, 32]]) [1, 2, 3, 8, 25, 26, 27, 65] [3, 8]) (.cond (.t 65) (.seq (.region A24_r10 none [6, 7] []) (.ret)) (.skip))))) (.region A24_r11 none [1, 2, 3, 8, 25, 26, 27] [3, 8])))
def A24_r12 : List AO := [
  { dst := (some 67), op := .load true 7 (.t 8) },
  { dst := (some 68), op := .faddr 0 (.t 8) },
  { dst := (some 69), op := .faddr 5 (.t 68) },
  { dst := (some 70), op := .load false 1 (.t 69) },
  { dst := (some 71), op := .faddr 0 (.t 8) },
  { dst := (some 72), op := .faddr 5 (.t 71) },
  { dst := (some 73), op := .load false 1 (.t 72) },
  { dst := (some 74), op := .len (.t 73) },
  { dst := (some 75), op := .faddr 0 (.t 8) },
  { dst := (some 76), op := .faddr 5 (.t 75) },
  { dst := (some 77), op := .load false 1 (.t 76) },
  { dst := (some 78), op := .len (.t 77) },
  { dst := (some 79), op := .slc 2 (.t 70) none (some (.t 74)) (some (.t 78)) },
  { dst := (some 80), op := .mov (.t 2) },
  { dst := (some 81), op := .app 2 55 16 (.t 79) (.t 80) },
  { dst := (some 82), op := .call false true (.f 64) [.t 67, .t 81] },
  { dst := (some 6), op := .mov (.t 82) },
  { dst := (some 7), op := .mov (.c (.int .i64 0)) }]
def A24 : AF := { np := 3, res := [.tmp 6, .tmp 7], body := (.seq (.region A24_r0 none [1, 2, 3] [3]) (.seq (.region A24_r1 (some [[], [], [1], [0, 2, 2], [3], [4], [4], [], [7, 5, 3, 0, 1, 2, 3, 4, 5, 7], [6, 8, 0, 1, 2, 3, 4, 5, 6, 7, 8]]) [1, 2, 3, 8, 9] [3, 8]) (.seq (.seq (.region A24_r2 none [1, 2, 3, 8, 9, 20] [3, 8]) (.cond (.t 20) (.seq (.region A24_r3 none [6, 7] []) (.ret)) (.skip))) (.seq (.seq (.region A24_r4 none [1, 2, 3, 8, 24] [3, 8]) (.cond (.t 24) (.seq (.region A24_r5 none [6, 7] []) (.ret)) (.skip))) (.seq (.seq (.region A24_r6 none [1, 2, 3, 8, 25, 26, 27] [3, 8]) (.block 0 (.loop [1, 2, 3, 8, 25, 26, 27] [3, 8] A24_l0))) (.seq (.region A24_r12 (some [[], [], [1], [2], [], [4], [5], [6], [], [8], [9], [10], [3, 7, 11], [], [12, 13], [0, 14, 14], [15, 15, 0, 1, 2, 3, 4, 5, 6, 7, 8, 9, 10, 11, 12, 13, 14, 15], [16, 0, 1, 2, 3, 4, 5, 6, 7, 8, 9, 10, 11, 12, 13, 14, 15, 16]]) [6, 7] []) (.ret))))))) }
/- bioscope.bioscoperef05.IsPlan -/
def A25_r0 : List AO := [
  { dst := (some 3), op := .box true (.t 0) },
  { dst := (some 6), op := .mov (.c (.bool false)) },
  { dst := (some 7), op := .mov (.c (.int .i64 0)) }]
def A25_r1 : List AO := [
  { dst := (some 10), op := .load true 6 (.t 3) },
  { dst := (some 11), op := .mov (.t 1) },
  { dst := (some 12), op := .call false true (.f 57) [.t 11] },
  { dst := (some 13), op := .call false true (.f 56) [.t 10, .t 12] },
  { dst := (some 8), op := .mov (.t 13) }]
def A25_r2 : List AO := [
  { dst := (some 14), op := .mov (.t 8) },
  { dst := (some 15), op := .bin .neq (.t 14) (.c (.int .i64 0)) }]
def A25_r3 : List AO := [
  { dst := (some 16), op := .mov (.t 8) },
  { dst := (some 6), op := .mov (.c (.bool false)) },
  { dst := (some 7), op := .mov (.t 16) }]
def A25_r4 : List AO := [
  { dst := (some 17), op := .mov (.t 2) },
  { dst := (some 18), op := .len (.t 17) },
  { dst := (some 19), op := .bin .gtr (.t 18) (.c (.int .i64 8)) },
  { dst := (some 20), op := .mov (.t 19) },
  { dst := (some 21), op := .load true 6 (.t 3), guard := some (20, false) },
  { dst := (some 22), op := .mov (.t 2), guard := some (20, false) },
  { dst := (some 23), op := .call false true (.f 66) [.t 21, .t 22], guard := some (20, false) },
  { dst := (some 24), op := .un .not (.t 23), guard := some (20, false) },
  { dst := (some 25), op := .pick (.t 20) (.c (.bool true)) (.t 24) }]
def A25_r5 : List AO := [
  { dst := (some 6), op := .mov (.c (.bool false)) },
  { dst := (some 7), op := .mov (.c (.int .i64 0)) }]
def A25_r6 : List AO := [
  { dst := (some 9), op := .mov (.c (.int .i64 0)) }]
def A25_r7 : List AO := [
  { dst := (some 26), op := .mov (.t 9) },
  { dst := (some 27), op := .mov (.t 2) },
  { dst := (some 28), op := .len (.t 27) },
  { dst := (some 29), op := .bin .lss (.t 26) (.t 28) }]
def A25_r9 : List AO := [
  { dst := (some 32), op := .mov (.t 2) },
  { dst := (some 33), op := .mov (.t 9) },
  { dst := (some 34), op := .iaddr 2 (.t 32) (.t 33) },
  { dst := (some 35), op := .faddr 1 (.t 34) },
  { dst := (some 36), op := .load false 1 (.t 35) },
  { dst := (some 37), op := .mov (.t 1) },
  { dst := (some 38), op := .faddr 0 (.t 3) },
  { dst := (some 39), op := .load false 1 (.t 38) },
  { dst := (some 40), op := .mov (.t 2) },
  { dst := (some 41), op := .mov (.t 9) },
  { dst := (some 42), op := .iaddr 2 (.t 40) (.t 41) },
  { dst := (some 43), op := .faddr 0 (.t 42) },
  { dst := (some 44), op := .load false 1 (.t 43) },
  { dst := (some 45), op := .iaddr 3 (.t 39) (.t 44) },
  { dst := (some 46), op := .faddr 2 (.t 45) },
  { dst := (some 47), op := .load false 1 (.t 46) },
  { dst := (some 48), op := .bin .add (.t 37) (.t 47) },
  { dst := (some 49), op := .bin .lss (.t 36) (.t 48) },
  { dst := (some 50), op := .mov (.t 49) },
  { dst := (some 51), op := .mov (.t 9), guard := some (50, false) },
  { dst := (some 52), op := .bin .gtr (.t 51) (.c (.int .i64 0)), guard := some (50, false) },
  { dst := (some 53), op := .mov (.t 52), guard := some (50, false) },
  { dst := (some 54), op := .mov (.t 2), guard := some (53, true) },
  { dst := (some 55), op := .mov (.t 9), guard := some (53, true) },
  { dst := (some 56), op := .iaddr 2 (.t 54) (.t 55), guard := some (53, true) },
  { dst := (some 57), op := .faddr 1 (.t 56), guard := some (53, true) },
  { dst := (some 58), op := .load false 1 (.t 57), guard := some (53, true) },
  { dst := (some 59), op := .mov (.t 2), guard := some (53, true) },
  { dst := (some 60), op := .mov (.t 9), guard := some (53, true) },
  { dst := (some 61), op := .bin .sub (.t 60) (.c (.int .i64 1)), guard := some (53, true) },
  { dst := (some 62), op := .iaddr 2 (.t 59) (.t 61), guard := some (53, true) },
  { dst := (some 63), op := .faddr 1 (.t 62), guard := some (53, true) },
  { dst := (some 64), op := .load false 1 (.t 63), guard := some (53, true) },
  { dst := (some 65), op := .bin .lss (.t 58) (.t 64), guard := some (53, true) },
  { dst := (some 66), op := .pick (.t 53) (.t 65) (.c (.bool false)), guard := some (50, false) },
  { dst := (some 67), op := .pick (.t 50) (.c (.bool true)) (.t 66) }]
def A25_r10 : List AO := [
  { dst := (some 6), op := .mov (.c (.bool false)) },
  { dst := (some 7), op := .mov (.c (.int .i64 0)) }]
def A25_r8 : List AO := [
  { dst := (some 30), op := .mov (.t 9) },
  { dst := (some 31), op := .bin .add (.t 30) (.c (.int .i64 1)) },
  { dst := (some 9), op := .mov (.t 31) }]
def A25_l0 : AC := .seq (.seq (.region A25_r7 none [1, 2, 3, 9, 29] [3]) (.cond (.t 29) (.skip) (.exit 0))) (.seq (.block 1 (.seq (.region A25_r9 (some [[], [], [0, 1], [2], [3], [], [], [6], [], [], [8, 9], [10], [11], [7, 12], [13], [14], [5, 15], [4, 16], [17], [18], [19, 18], [20, 18, 18], [21], [21], [22, 23, 21], [24, 21], [25, 21], [21], [21], [28, 21], [27, 29, 21], [30, 21], [31, 21], [26, 32, 21], [21, 33, 18], [18, 34]]) [1, 2, 3, 9, 67] [3]) (.cond (.t 67) (.seq (.region A25_r10 none [6, 7] []) (.ret)) (.skip)))) (.region A25_r8 none [1, 2, 3, 9] [3]))
def A25_r11 : List AO := [
  { dst := (some 68), op := .load true 6 (.t 3) },
  { dst := (some 69), op := .bslice true 2 0 [] [] },
  { dst := (some 70), op := .faddr 5 (.t 3) },
  { dst := (some 71), op := .load false 1 (.t 70) },
  { dst := (some 72), op := .app 2 55 16 (.t 69) (.t 71) },
  { dst := (some 73), op := .mov (.t 2) },
  { dst := (some 74), op := .app 2 55 16 (.t 72) (.t 73) },
  { dst := (some 75), op := .call false true (.f 67) [.t 68, .t 74] },
  { dst := (some 6), op := .mov (.t 75) },
  { dst := (some 7), op := .mov (.c (.int .i64 0)) }]
def A25 : AF := { np := 3, res := [.tmp 6, .tmp 7], body := (.seq (.region A25_r0 none [1, 2, 3] [3]) (.seq (.seq (.region A25_r1 (some [[], [], [1], [0, 2, 2], [3, 3, 0, 1, 2, 3]]) [1, 2, 3, 8] [3]) (.seq (.region A25_r2 none [1, 2, 3, 8, 15] [3]) (.cond (.t 15) (.seq (.region A25_r3 none [6, 7] []) (.ret)) (.skip)))) (.seq (.seq (.region A25_r4 none [1, 2, 3, 25] [3]) (.cond (.t 25) (.seq (.region A25_r5 none [6, 7] []) (.ret)) (.skip))) (.seq (.seq (.region A25_r6 none [1, 2, 3, 9] [3]) (.block 0 (.loop [1, 2, 3, 9] [3] A25_l0))) (.seq (.region A25_r11 (some [[], [], [], [2], [1, 3], [], [4, 5, 4], [0, 6, 6], [7, 7, 0, 1, 2, 3, 4, 5, 6, 7], [8, 0, 1, 2, 3, 4, 5, 6, 7, 8]]) [6, 7] []) (.ret)))))) }
/- bioscope.licence.Lacking -/
def A26_r0 : List AO := [
  { dst := (some 3), op := .box false (.t 0) },
  { dst := (some 6), op := .mov (.c (.lst (some true) true 0 [])) },
  { dst := (some 7), op := .mov (.c (.int .i64 0)) }]
def A26_r1 : List AO := [
  { dst := (some 15), op := .mov (.t 1) },
  { dst := (some 16), op := .len (.t 15) },
  { dst := (some 17), op := .bin .leq (.t 16) (.c (.int .i64 8)) },
  { dst := (some 18), op := .mov (.t 17) },
  { dst := (some 19), op := .mov (.t 1), guard := some (18, true) },
  { dst := (some 20), op := .mkf 70 [] [.t 3], guard := some (18, true) },
  { dst := (some 21), op := .call false true (.f 69) [.t 19, .t 20], guard := some (18, true) },
  { dst := (some 22), op := .un .not (.t 21), guard := some (18, true) },
  { dst := (some 23), op := .pick (.t 18) (.t 22) (.c (.bool false)) },
  { dst := (some 8), op := .mov (.t 23) }]
def A26_r2 : List AO := [
  { dst := (some 25), op := .load true 6 (.t 3) },
  { dst := (some 26), op := .mov (.t 2) },
  { dst := (some 27), op := .call false true (.f 71) [.t 26] },
  { dst := (some 28), op := .mov (.t 27) },
  { dst := (some 29), op := .mov (.t 8), guard := some (28, true) },
  { dst := (some 30), op := .pick (.t 28) (.t 29) (.c (.bool false)) },
  { dst := (some 31), op := .call false true (.f 53) [.t 25, .t 30] },
  { dst := (some 24), op := .mov (.t 31) },
  { dst := (some 32), op := .ext 0 (.t 24) },
  { dst := (some 33), op := .ext 1 (.t 24) },
  { dst := (some 9), op := .new true [.lst (some true) true 0 [], .int .i64 0, .lst (some true) true 0 [], .int .i64 0, .int .i64 0, .lst (some true) true 0 [], .nilm] },
  { dst := none, op := .store 7 (.t 9) (.t 32) },
  { dst := (some 10), op := .mov (.t 33) }]
def A26_r3 : List AO := [
  { dst := (some 34), op := .mov (.t 10) },
  { dst := (some 35), op := .bin .neq (.t 34) (.c (.int .i64 0)) }]
def A26_r4 : List AO := [
  { dst := (some 36), op := .mov (.t 10) },
  { dst := (some 6), op := .mov (.c (.lst (some true) true 0 [])) },
  { dst := (some 7), op := .mov (.t 36) }]
def A26_r5 : List AO := [
  { dst := (some 37), op := .faddr 0 (.t 9) },
  { dst := (some 38), op := .faddr 5 (.t 37) },
  { dst := (some 39), op := .load false 1 (.t 38) },
  { dst := (some 40), op := .faddr 0 (.t 9) },
  { dst := (some 41), op := .faddr 5 (.t 40) },
  { dst := (some 42), op := .load false 1 (.t 41) },
  { dst := (some 43), op := .len (.t 42) },
  { dst := (some 44), op := .faddr 0 (.t 9) },
  { dst := (some 45), op := .faddr 5 (.t 44) },
  { dst := (some 46), op := .load false 1 (.t 45) },
  { dst := (some 47), op := .len (.t 46) },
  { dst := (some 48), op := .slc 2 (.t 39) none (some (.t 43)) (some (.t 47)) },
  { dst := (some 49), op := .mov (.t 1) },
  { dst := (some 50), op := .app 2 55 16 (.t 48) (.t 49) },
  { dst := (some 11), op := .mov (.t 50) }]
def A26_r6 : List AO := [
  { dst := (some 12), op := .mov (.c (.lst (some true) true 0 [])) }]
def A26_r7 : List AO := [
  { dst := (some 51), op := .mov (.t 2) },
  { dst := (some 52), op := .len (.t 51) },
  { dst := (some 53), op := .mov (.c (.int .i64 0)) }]
def A26_r8 : List AO := [
  { dst := (some 54), op := .bin .lss (.t 53) (.t 52) }]
def A26_r9 : List AO := [
  { dst := (some 55), op := .iaddr 1 (.t 51) (.t 53) },
  { dst := (some 56), op := .load false 1 (.t 55) },
  { dst := (some 14), op := .mov (.t 56) }]
def A26_r10 : List AO := [
  { dst := (some 57), op := .load true 7 (.t 9) },
  { dst := (some 58), op := .mov (.t 11) },
  { dst := (some 59), op := .mov (.t 14) },
  { dst := (some 60), op := .call false true (.f 72) [.t 57, .t 58, .t 59] },
  { dst := (some 61), op := .un .not (.t 60) },
  { dst := (some 62), op := .mov (.t 61) },
  { dst := (some 63), op := .load true 7 (.t 9), guard := some (62, false) },
  { dst := (some 64), op := .mov (.t 14), guard := some (62, false) },
  { dst := (some 65), op := .call false true (.f 73) [.t 63, .t 64], guard := some (62, false) },
  { dst := (some 66), op := .pick (.t 62) (.c (.bool true)) (.t 65) }]
def A26_r11 : List AO := [
  { dst := (some 67), op := .mov (.t 12) },
  { dst := (some 68), op := .mov (.t 14) },
  { dst := (some 69), op := .bslice true 1 1 [.int .i64 0] [(0, 1, .t 68)] },
  { dst := (some 70), op := .app 1 3 8 (.t 67) (.t 69) },
  { dst := (some 12), op := .mov (.t 70) }]
def A26_r12 : List AO := [
  { dst := (some 71), op := .bin .add (.t 53) (.c (.int .i64 1)) },
  { dst := (some 53), op := .mov (.t 71) }]
def A26_l0 : AC := .seq (.region A26_r8 none [9, 11, 12, 51, 52, 53, 54] [9]) (.seq (.cond (.t 54) (.skip) (.exit 0)) (.seq (.block 1 (.seq (.region A26_r9 none [9, 11, 12, 14, 51, 52, 53] [9]) (.seq (.region A26_r10 none [9, 11, 12, 14, 51, 52, 53, 66] [9]) (.cond (.t 66) (.region A26_r11 none [9, 11, 12, 51, 52, 53] [9]) (.skip))))) (.region A26_r12 none [9, 11, 12, 51, 52, 53] [9])))
def A26_r13 : List AO := [
  { dst := (some 72), op := .mov (.t 12) },
  { dst := (some 73), op := .mov (.t 12) },
  { dst := (some 74), op := .len (.t 73) },
  { dst := (some 75), op := .mov (.t 12) },
  { dst := (some 76), op := .len (.t 75) },
  { dst := (some 77), op := .slc 1 (.t 72) none (some (.t 74)) (some (.t 76)) },
  { dst := (some 6), op := .mov (.t 77) },
  { dst := (some 7), op := .mov (.c (.int .i64 0)) }]
def A26 : AF := { np := 3, res := [.tmp 6, .tmp 7], body := (.seq (.region A26_r0 none [1, 2, 3] []) (.seq (.region A26_r1 none [1, 2, 3, 8] []) (.seq (.region A26_r2 (some [[], [], [1], [2, 2], [3], [3, 4], [0, 5, 3], [6], [7], [7], [], [10, 8, 6, 0, 1, 2, 3, 4, 5, 6, 7, 8, 10], [9, 11, 0, 1, 2, 3, 4, 5, 6, 7, 8, 9, 10, 11]]) [1, 2, 9, 10] [9]) (.seq (.seq (.region A26_r3 none [1, 2, 9, 10, 35] [9]) (.cond (.t 35) (.seq (.region A26_r4 none [6, 7] []) (.ret)) (.skip))) (.seq (.region A26_r5 none [2, 9, 11] [9]) (.seq (.region A26_r6 none [2, 9, 11, 12] [9]) (.seq (.seq (.region A26_r7 none [9, 11, 12, 51, 52, 53] [9]) (.block 0 (.loop [9, 11, 12, 51, 52, 53] [9] A26_l0))) (.seq (.region A26_r13 none [6, 7] []) (.ret))))))))) }
end Go.Proofs.Tryd
