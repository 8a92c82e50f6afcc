/- The functions of this seat in slim code, as the compiler of the engine makes them: printed by a program (wip/tools/Lits.lean). -/
import Derived.Test.YtdafdampodbobaaEngS
namespace Go.Eng
set_option linter.unusedSimpArgs false
set_option linter.unusedVariables false
def s3_0 : List SIns := [
  ⟨(some 8), .mov (.c (.bool false)), none, false, 0, []⟩]
def s3_1 : List SIns := [
  ⟨(some 17), .mov (.t 0), none, false, 0, []⟩,
  ⟨(some 18), .mov (.t 1), none, false, 0, []⟩,
  ⟨(some 19), .mov (.t 2), none, false, 0, []⟩,
  ⟨(some 20), .call (.fn 9) [(.t 17), (.t 18), (.t 19)], none, false, 0, []⟩,
  ⟨(some 9), .mov (.t 20), none, false, 0, []⟩]
def s3_2 : List SIns := [
  ⟨(some 21), .mov (.t 9), none, false, 0, []⟩,
  ⟨(some 22), .bin .eql .ptr (.t 21) (.c (.pointer none)), none, false, 0, []⟩]
def s3_3 : List SIns := [
  ⟨(some 8), .mov (.c (.bool false)), none, false, 0, []⟩]
def s3_4 : List SIns := [
  ⟨(some 23), .mov (.t 9), none, false, 0, []⟩,
  ⟨(some 24), .call (.fn 10) [(.t 23)], none, false, 0, []⟩,
  ⟨(some 25), .mov (.t 9), none, false, 0, []⟩,
  ⟨(some 26), .call (.fn 11) [(.t 25)], none, false, 0, []⟩,
  ⟨(some 10), .mov (.t 24), none, false, 0, []⟩,
  ⟨(some 11), .mov (.t 26), none, false, 0, []⟩]
def s3_5 : List SIns := [
  ⟨(some 28), .mov (.t 9), none, false, 0, []⟩,
  ⟨(some 29), .mov (.t 3), none, false, 0, []⟩,
  ⟨(some 30), .call (.fn 12) [(.t 28), (.t 29)], none, false, 0, []⟩,
  ⟨(some 27), .mov (.t 30), none, false, 0, []⟩,
  ⟨(some 31), .ext 0 (.t 27), none, false, 0, []⟩,
  ⟨(some 32), .ext 1 (.t 27), none, false, 0, []⟩,
  ⟨(some 12), .mov (.t 31), none, false, 0, []⟩,
  ⟨(some 13), .mov (.t 32), none, false, 0, []⟩]
def s3_6 : List SIns := [
  ⟨(some 33), .mov (.t 13), none, false, 0, []⟩,
  ⟨(some 34), .bin .neq .prim (.t 33) (.c (.int .i64 (0))), none, false, 0, []⟩]
def s3_7 : List SIns := [
  ⟨(some 35), .mov (.t 13), none, false, 0, []⟩,
  ⟨(some 36), .bin .eql .prim (.t 35) (.c (.int .i64 (33))), none, false, 0, []⟩,
  ⟨(some 37), .mov (.t 36), none, false, 0, []⟩,
  ⟨(some 38), .mov (.t 12), some (37, true), false, 0, []⟩,
  ⟨(some 39), .bin .eql .prim (.t 38) (.c (.int .i64 (0))), some (37, true), false, 0, []⟩,
  ⟨(some 40), .pick (.t 37) (.t 39) (.c (.bool false)), none, false, 0, []⟩,
  ⟨(some 41), .mov (.t 40), none, false, 0, []⟩,
  ⟨(some 42), .mov (.t 9), some (41, true), false, 0, []⟩,
  ⟨(some 43), .call (.fn 10) [(.t 42)], some (41, true), false, 0, []⟩,
  ⟨(some 44), .mov (.t 10), some (41, true), false, 0, []⟩,
  ⟨(some 45), .call (.fn 13) [(.t 43), (.t 44)], some (41, true), false, 0, []⟩,
  ⟨(some 46), .pick (.t 41) (.t 45) (.c (.bool false)), none, false, 0, []⟩,
  ⟨(some 47), .mov (.t 46), none, false, 0, []⟩,
  ⟨(some 48), .mov (.t 9), some (47, true), false, 0, []⟩,
  ⟨(some 49), .call (.fn 11) [(.t 48)], some (47, true), false, 0, []⟩,
  ⟨(some 50), .mov (.t 11), some (47, true), false, 0, []⟩,
  ⟨(some 51), .bin .eql .prim (.t 49) (.t 50), some (47, true), false, 0, []⟩,
  ⟨(some 52), .pick (.t 47) (.t 51) (.c (.bool false)), none, false, 0, []⟩,
  ⟨(some 53), .mov (.t 52), none, false, 0, []⟩,
  ⟨(some 54), .call (.fn 14) [], some (53, true), false, 0, []⟩,
  ⟨(some 55), .pick (.t 53) (.t 54) (.c (.bool false)), none, false, 0, []⟩,
  ⟨(some 8), .mov (.t 55), none, false, 0, []⟩]
def s3_8 : List SIns := [
  ⟨(some 56), .mov (.t 9), none, false, 0, []⟩,
  ⟨(some 57), .call (.fn 10) [(.t 56)], none, false, 0, []⟩,
  ⟨(some 14), .mov (.t 57), none, false, 0, []⟩]
def s3_9 : List SIns := [
  ⟨(some 15), .mov (.c (.bool false)), none, false, 0, []⟩]
def s3_10 : List SIns := [
  ⟨(some 16), .mov (.c (.int .i64 (1))), none, false, 0, []⟩]
def s3_11 : List SIns := [
  ⟨(some 58), .mov (.t 16), none, false, 0, []⟩,
  ⟨(some 59), .mov (.t 14), none, false, 0, []⟩,
  ⟨(some 60), .len (.t 59), none, false, 0, []⟩,
  ⟨(some 61), .bin .lss .prim (.t 58) (.t 60), none, false, 0, []⟩]
def s3_12 : List SIns := [
  ⟨(some 64), .mov (.t 15), none, false, 0, []⟩,
  ⟨(some 65), .mov (.t 64), none, false, 0, []⟩,
  ⟨(some 66), .mov (.t 14), some (65, false), false, 0, []⟩,
  ⟨(some 67), .mov (.t 16), some (65, false), false, 0, []⟩,
  ⟨(some 68), .iaddr 5 (.t 66) (.t 67), some (65, false), false, 0, []⟩,
  ⟨(some 69), .faddr 0 (.t 68), some (65, false), false, 0, []⟩,
  ⟨(some 70), .load none (.t 69), some (65, false), false, 0, []⟩,
  ⟨(some 71), .mov (.t 12), some (65, false), false, 0, []⟩,
  ⟨(some 72), .bin .eql .prim (.t 70) (.t 71), some (65, false), false, 0, []⟩,
  ⟨(some 73), .mov (.t 72), some (65, false), false, 0, []⟩,
  ⟨(some 74), .mov (.t 14), some (73, true), false, 0, []⟩,
  ⟨(some 75), .mov (.t 16), some (73, true), false, 0, []⟩,
  ⟨(some 76), .bin .sub .prim (.t 75) (.c (.int .i64 (1))), some (73, true), false, 0, []⟩,
  ⟨(some 77), .iaddr 5 (.t 74) (.t 76), some (73, true), false, 0, []⟩,
  ⟨(some 78), .faddr 0 (.t 77), some (73, true), false, 0, []⟩,
  ⟨(some 79), .load none (.t 78), some (73, true), false, 0, []⟩,
  ⟨(some 80), .mov (.t 11), some (73, true), false, 0, []⟩,
  ⟨(some 81), .bin .eql .prim (.t 79) (.t 80), some (73, true), false, 0, []⟩,
  ⟨(some 82), .pick (.t 73) (.t 81) (.c (.bool false)), some (65, false), false, 0, []⟩,
  ⟨(some 83), .pick (.t 65) (.c (.bool true)) (.t 82), none, false, 0, []⟩,
  ⟨(some 15), .mov (.t 83), none, false, 0, []⟩]
def s3_13 : List SIns := [
  ⟨(some 62), .mov (.t 16), none, false, 0, []⟩,
  ⟨(some 63), .bin .add .prim (.t 62) (.c (.int .i64 (1))), none, false, 0, []⟩,
  ⟨(some 16), .mov (.t 63), none, false, 0, []⟩]
def b3_14 : SCode := .seq (.seq (.ops s3_11) (.cond (.t 61) (.skip) (.exit 0))) (.seq (.block 1 (.ops s3_12)) (.ops s3_13))
def s3_15 : List SIns := [
  ⟨(some 84), .mov (.t 14), none, false, 0, []⟩,
  ⟨(some 85), .len (.t 84), none, false, 0, []⟩,
  ⟨(some 86), .mov (.t 10), none, false, 0, []⟩,
  ⟨(some 87), .len (.t 86), none, false, 0, []⟩,
  ⟨(some 88), .bin .add .prim (.t 87) (.c (.int .i64 (1))), none, false, 0, []⟩,
  ⟨(some 89), .bin .eql .prim (.t 85) (.t 88), none, false, 0, []⟩,
  ⟨(some 90), .mov (.t 89), none, false, 0, []⟩,
  ⟨(some 91), .mov (.t 15), some (90, true), false, 0, []⟩,
  ⟨(some 92), .pick (.t 90) (.t 91) (.c (.bool false)), none, false, 0, []⟩,
  ⟨(some 93), .mov (.t 92), none, false, 0, []⟩,
  ⟨(some 94), .mov (.t 9), some (93, true), false, 0, []⟩,
  ⟨(some 95), .call (.fn 11) [(.t 94)], some (93, true), false, 0, []⟩,
  ⟨(some 96), .mov (.t 12), some (93, true), false, 0, []⟩,
  ⟨(some 97), .bin .eql .prim (.t 95) (.t 96), some (93, true), false, 0, []⟩,
  ⟨(some 98), .pick (.t 93) (.t 97) (.c (.bool false)), none, false, 0, []⟩,
  ⟨(some 99), .mov (.t 98), none, false, 0, []⟩,
  ⟨(some 100), .mov (.t 9), some (99, true), false, 0, []⟩,
  ⟨(some 101), .mov (.t 12), some (99, true), false, 0, []⟩,
  ⟨(some 102), .call (.fn 15) [(.t 100), (.t 101)], some (99, true), false, 0, []⟩,
  ⟨(some 103), .bin .eql .prim (.t 102) (.c (.int .i64 (0))), some (99, true), false, 0, []⟩,
  ⟨(some 104), .pick (.t 99) (.t 103) (.c (.bool false)), none, false, 0, []⟩,
  ⟨(some 105), .mov (.t 104), none, false, 0, []⟩,
  ⟨(some 106), .mov (.t 9), some (105, true), false, 0, []⟩,
  ⟨(some 107), .call (.fn 10) [(.t 106)], some (105, true), false, 0, []⟩,
  ⟨(some 108), .mov (.t 10), some (105, true), false, 0, []⟩,
  ⟨(some 109), .call (.fn 13) [(.t 107), (.t 108)], some (105, true), false, 0, []⟩,
  ⟨(some 110), .pick (.t 105) (.t 109) (.c (.bool false)), none, false, 0, []⟩,
  ⟨(some 111), .mov (.t 110), none, false, 0, []⟩,
  ⟨(some 112), .mov (.t 9), some (111, true), false, 0, []⟩,
  ⟨(some 113), .call (.fn 11) [(.t 112)], some (111, true), false, 0, []⟩,
  ⟨(some 114), .mov (.t 11), some (111, true), false, 0, []⟩,
  ⟨(some 115), .bin .eql .prim (.t 113) (.t 114), some (111, true), false, 0, []⟩,
  ⟨(some 116), .pick (.t 111) (.t 115) (.c (.bool false)), none, false, 0, []⟩,
  ⟨(some 117), .mov (.t 116), none, false, 0, []⟩,
  ⟨(some 118), .call (.fn 14) [], some (117, true), false, 0, []⟩,
  ⟨(some 119), .pick (.t 117) (.t 118) (.c (.bool false)), none, false, 0, []⟩,
  ⟨(some 8), .mov (.t 119), none, false, 0, []⟩]
def c3 : SCode := .seq (.ops s3_0) (.seq (.ops s3_1) (.seq (.seq (.ops s3_2) (.cond (.t 22) (.seq (.ops s3_3) (.ret)) (.skip))) (.seq (.ops s3_4) (.seq (.ops s3_5) (.seq (.seq (.ops s3_6) (.cond (.t 34) (.seq (.ops s3_7) (.ret)) (.skip))) (.seq (.ops s3_8) (.seq (.ops s3_9) (.seq (.seq (.ops s3_10) (.block 0 (.loop b3_14))) (.seq (.ops s3_15) (.ret))))))))))
def s4_0 : List SIns := [
  ⟨(some 6), .mov (.c (.bool false)), none, false, 0, []⟩]
def s4_1 : List SIns := [
  ⟨(some 13), .mov (.t 0), none, false, 0, []⟩,
  ⟨(some 14), .mov (.t 1), none, false, 0, []⟩,
  ⟨(some 15), .mov (.t 2), none, false, 0, []⟩,
  ⟨(some 16), .call (.fn 9) [(.t 13), (.t 14), (.t 15)], none, false, 0, []⟩,
  ⟨(some 7), .mov (.t 16), none, false, 0, []⟩]
def s4_2 : List SIns := [
  ⟨(some 17), .mov (.t 7), none, false, 0, []⟩,
  ⟨(some 18), .bin .eql .ptr (.t 17) (.c (.pointer none)), none, false, 0, []⟩]
def s4_3 : List SIns := [
  ⟨(some 6), .mov (.c (.bool false)), none, false, 0, []⟩]
def s4_4 : List SIns := [
  ⟨(some 19), .mov (.t 7), none, false, 0, []⟩,
  ⟨(some 20), .call (.fn 10) [(.t 19)], none, false, 0, []⟩,
  ⟨(some 8), .mov (.t 20), none, false, 0, []⟩]
def s4_5 : List SIns := [
  ⟨(some 21), .mov (.t 7), none, false, 0, []⟩,
  ⟨(some 22), .call (.fn 11) [(.t 21)], none, false, 0, []⟩,
  ⟨(some 9), .mov (.t 22), none, false, 0, []⟩]
def s4_6 : List SIns := [
  ⟨(some 10), .mov (.c (.int .i64 (0))), none, false, 0, []⟩]
def s4_7 : List SIns := [
  ⟨(some 11), .mov (.c (.int .i64 (0))), none, false, 0, []⟩]
def s4_8 : List SIns := [
  ⟨(some 23), .mov (.t 11), none, false, 0, []⟩,
  ⟨(some 24), .mov (.t 8), none, false, 0, []⟩,
  ⟨(some 25), .len (.t 24), none, false, 0, []⟩,
  ⟨(some 26), .bin .lss .prim (.t 23) (.t 25), none, false, 0, []⟩]
def s4_9 : List SIns := [
  ⟨(some 29), .mov (.t 8), none, false, 0, []⟩,
  ⟨(some 30), .mov (.t 11), none, false, 0, []⟩,
  ⟨(some 31), .iaddr 5 (.t 29) (.t 30), none, false, 0, []⟩,
  ⟨(some 32), .faddr 0 (.t 31), none, false, 0, []⟩,
  ⟨(some 33), .load none (.t 32), none, false, 0, []⟩,
  ⟨(some 34), .mov (.t 9), none, false, 0, []⟩,
  ⟨(some 35), .bin .eql .prim (.t 33) (.t 34), none, false, 0, []⟩]
def s4_10 : List SIns := [
  ⟨(some 36), .mov (.t 11), none, false, 0, []⟩,
  ⟨(some 10), .mov (.t 36), none, false, 0, []⟩]
def s4_11 : List SIns := [
  ⟨(some 27), .mov (.t 11), none, false, 0, []⟩,
  ⟨(some 28), .bin .add .prim (.t 27) (.c (.int .i64 (1))), none, false, 0, []⟩,
  ⟨(some 11), .mov (.t 28), none, false, 0, []⟩]
def b4_12 : SCode := .seq (.seq (.ops s4_8) (.cond (.t 26) (.skip) (.exit 0))) (.seq (.block 1 (.seq (.ops s4_9) (.cond (.t 35) (.ops s4_10) (.skip)))) (.ops s4_11))
def s4_13 : List SIns := [
  ⟨(some 12), .mov (.c (.int .i64 (1))), none, false, 0, []⟩]
def s4_14 : List SIns := [
  ⟨(some 37), .mov (.t 12), none, false, 0, []⟩,
  ⟨(some 38), .mov (.t 8), none, false, 0, []⟩,
  ⟨(some 39), .len (.t 38), none, false, 0, []⟩,
  ⟨(some 40), .bin .leq .prim (.t 37) (.t 39), none, false, 0, []⟩]
def s4_15 : List SIns := [
  ⟨(some 43), .mov (.t 7), none, false, 0, []⟩,
  ⟨(some 44), .call (.fn 16) [(.t 43), (.c (.int .i64 (1)))], none, false, 0, []⟩]
def s4_16 : List SIns := [
  ⟨(some 45), .mov (.t 7), none, false, 0, []⟩,
  ⟨(some 47), .mov (.t 8), none, false, 2, []⟩,
  ⟨(some 48), .mov (.t 10), none, false, 3, []⟩,
  ⟨(some 49), .mov (.t 12), none, false, 4, []⟩,
  ⟨(some 50), .bin .add .prim (.t 48) (.t 49), none, false, 5, []⟩,
  ⟨(some 51), .mov (.t 8), none, false, 6, []⟩,
  ⟨(some 52), .len (.t 51), none, false, 7, []⟩,
  ⟨(some 53), .bin .rem .prim (.t 50) (.t 52), none, false, 8, []⟩,
  ⟨(some 54), .iaddr 5 (.t 47) (.t 53), none, false, 9, []⟩,
  ⟨(some 55), .faddr 0 (.t 54), none, false, 10, []⟩,
  ⟨(some 56), .load none (.t 55), none, true, 11, []⟩,
  ⟨(some 46), .call (.fn 11) [(.t 45)], none, false, 1, [0]⟩,
  ⟨(some 57), .bin .neq .prim (.t 46) (.t 56), none, false, 12, []⟩]
def s4_17 : List SIns := [
  ⟨(some 6), .mov (.c (.bool false)), none, false, 0, []⟩]
def s4_18 : List SIns := [
  ⟨(some 41), .mov (.t 12), none, false, 0, []⟩,
  ⟨(some 42), .bin .add .prim (.t 41) (.c (.int .i64 (1))), none, false, 0, []⟩,
  ⟨(some 12), .mov (.t 42), none, false, 0, []⟩]
def b4_19 : SCode := .seq (.seq (.ops s4_14) (.cond (.t 40) (.skip) (.exit 2))) (.seq (.block 3 (.seq (.ops s4_15) (.seq (.draw s4_16) (.cond (.t 57) (.seq (.ops s4_17) (.ret)) (.skip))))) (.ops s4_18))
def s4_20 : List SIns := [
  ⟨(some 58), .mov (.t 7), none, false, 0, []⟩,
  ⟨(some 59), .call (.fn 16) [(.t 58), (.c (.int .i64 (-1)))], none, false, 0, []⟩]
def s4_21 : List SIns := [
  ⟨(some 60), .mov (.t 7), none, false, 0, []⟩,
  ⟨(some 62), .mov (.t 8), none, false, 2, []⟩,
  ⟨(some 63), .mov (.t 10), none, false, 3, []⟩,
  ⟨(some 64), .mov (.t 8), none, false, 4, []⟩,
  ⟨(some 65), .len (.t 64), none, false, 5, []⟩,
  ⟨(some 66), .bin .add .prim (.t 63) (.t 65), none, false, 6, []⟩,
  ⟨(some 67), .bin .sub .prim (.t 66) (.c (.int .i64 (1))), none, false, 7, []⟩,
  ⟨(some 68), .mov (.t 8), none, false, 8, []⟩,
  ⟨(some 69), .len (.t 68), none, false, 9, []⟩,
  ⟨(some 70), .bin .rem .prim (.t 67) (.t 69), none, false, 10, []⟩,
  ⟨(some 71), .iaddr 5 (.t 62) (.t 70), none, false, 11, []⟩,
  ⟨(some 72), .faddr 0 (.t 71), none, false, 12, []⟩,
  ⟨(some 73), .load none (.t 72), none, true, 13, []⟩,
  ⟨(some 61), .call (.fn 11) [(.t 60)], none, false, 1, [0]⟩,
  ⟨(some 74), .bin .eql .prim (.t 61) (.t 73), none, false, 14, []⟩,
  ⟨(some 75), .mov (.t 74), none, false, 15, []⟩,
  ⟨(some 76), .call (.fn 14) [], some (75, true), false, 16, [15, 15]⟩,
  ⟨(some 77), .pick (.t 75) (.t 76) (.c (.bool false)), none, false, 17, []⟩,
  ⟨(some 6), .mov (.t 77), none, false, 18, []⟩]
def c4 : SCode := .seq (.ops s4_0) (.seq (.ops s4_1) (.seq (.seq (.ops s4_2) (.cond (.t 18) (.seq (.ops s4_3) (.ret)) (.skip))) (.seq (.ops s4_4) (.seq (.ops s4_5) (.seq (.ops s4_6) (.seq (.seq (.ops s4_7) (.block 0 (.loop b4_12))) (.seq (.seq (.ops s4_13) (.block 2 (.loop b4_19))) (.seq (.ops s4_20) (.seq (.draw s4_21) (.ret))))))))))
def s5_0 : List SIns := [
  ⟨(some 6), .mov (.c (.bool false)), none, false, 0, []⟩]
def s5_1 : List SIns := [
  ⟨(some 12), .mov (.t 0), none, false, 0, []⟩,
  ⟨(some 13), .mov (.t 1), none, false, 0, []⟩,
  ⟨(some 14), .call (.fn 17) [(.t 12), (.t 13)], none, false, 0, []⟩,
  ⟨(some 15), .mov (.t 0), none, false, 0, []⟩,
  ⟨(some 16), .mov (.t 1), none, false, 0, []⟩,
  ⟨(some 17), .call (.fn 18) [(.t 15), (.t 16)], none, false, 0, []⟩,
  ⟨(some 7), .mov (.t 14), none, false, 0, []⟩,
  ⟨(some 8), .mov (.t 17), none, false, 0, []⟩]
def s5_2 : List SIns := [
  ⟨(some 18), .mov (.t 7), none, false, 0, []⟩,
  ⟨(some 19), .bin .eql .ptr (.t 18) (.c (.pointer none)), none, false, 0, []⟩]
def s5_3 : List SIns := [
  ⟨(some 6), .mov (.c (.bool false)), none, false, 0, []⟩]
def s5_4 : List SIns := [
  ⟨(some 9), .mov (.c (.int .i64 (0))), none, false, 0, []⟩]
def s5_5 : List SIns := [
  ⟨(some 20), .mov (.t 9), none, false, 0, []⟩,
  ⟨(some 21), .mov (.t 2), none, false, 0, []⟩,
  ⟨(some 22), .len (.t 21), none, false, 0, []⟩,
  ⟨(some 23), .bin .leq .prim (.t 20) (.t 22), none, false, 0, []⟩,
  ⟨(some 24), .mov (.t 23), none, false, 0, []⟩,
  ⟨(some 25), .mov (.t 9), some (24, true), false, 0, []⟩,
  ⟨(some 26), .bin .leq .prim (.t 25) (.c (.int .i64 (60))), some (24, true), false, 0, []⟩,
  ⟨(some 27), .pick (.t 24) (.t 26) (.c (.bool false)), none, false, 0, []⟩]
def s5_6 : List SIns := [
  ⟨(some 30), .mov (.t 9), none, false, 0, []⟩,
  ⟨(some 31), .bin .gtr .prim (.t 30) (.c (.int .i64 (0))), none, false, 0, []⟩,
  ⟨(some 32), .mov (.t 31), none, false, 0, []⟩,
  ⟨(some 33), .mov (.t 7), some (32, true), false, 0, []⟩,
  ⟨(some 34), .mov (.t 8), some (32, true), false, 0, []⟩,
  ⟨(some 35), .mov (.t 2), some (32, true), false, 0, []⟩,
  ⟨(some 36), .mov (.t 9), some (32, true), false, 0, []⟩,
  ⟨(some 37), .bin .sub .prim (.t 36) (.c (.int .i64 (1))), some (32, true), false, 0, []⟩,
  ⟨(some 38), .iaddr 4 (.t 35) (.t 37), some (32, true), false, 0, []⟩,
  ⟨(some 39), .load (some 4) (.t 38), some (32, true), false, 0, []⟩,
  ⟨(some 40), .call (.fn 19) [(.t 33), (.t 34), (.t 39)], some (32, true), false, 0, []⟩,
  ⟨(some 41), .un .not (.t 40), some (32, true), false, 0, []⟩,
  ⟨(some 42), .pick (.t 32) (.t 41) (.c (.bool false)), none, false, 0, []⟩]
def s5_7 : List SIns := [
  ⟨(some 6), .mov (.c (.bool false)), none, false, 0, []⟩]
def s5_8 : List SIns := [
  ⟨(some 44), .mov (.t 7), none, false, 0, []⟩,
  ⟨(some 45), .call (.fn 20) [(.t 44)], none, false, 0, []⟩,
  ⟨(some 43), .mov (.t 45), none, false, 0, []⟩,
  ⟨(some 46), .ext 0 (.t 43), none, false, 0, []⟩,
  ⟨(some 47), .ext 1 (.t 43), none, false, 0, []⟩,
  ⟨(some 10), .mov (.t 46), none, false, 0, []⟩,
  ⟨(some 11), .mov (.t 47), none, false, 0, []⟩]
def s5_9 : List SIns := [
  ⟨(some 48), .mov (.t 7), none, false, 0, []⟩,
  ⟨(some 50), .mov (.t 8), none, false, 2, []⟩,
  ⟨(some 49), .call (.fn 10) [(.t 48)], none, false, 1, [0]⟩,
  ⟨(some 51), .call (.fn 21) [(.t 50)], none, false, 3, [2, 1]⟩,
  ⟨(some 52), .call (.fn 13) [(.t 49), (.t 51)], none, false, 4, [1, 3, 3]⟩,
  ⟨(some 53), .un .not (.t 52), none, false, 5, []⟩,
  ⟨(some 54), .mov (.t 53), none, false, 6, []⟩,
  ⟨(some 55), .mov (.t 7), some (54, false), false, 7, []⟩,
  ⟨(some 57), .mov (.t 8), some (54, false), false, 9, []⟩,
  ⟨(some 58), .nilck (.t 57), some (54, false), false, 10, []⟩,
  ⟨(some 59), .faddr 4 (.t 58), some (54, false), false, 11, []⟩,
  ⟨(some 60), .load none (.t 59), some (54, false), true, 12, []⟩,
  ⟨(some 56), .call (.fn 11) [(.t 55)], some (54, false), false, 8, [7, 6, 6]⟩,
  ⟨(some 61), .bin .neq .prim (.t 56) (.t 60), some (54, false), false, 13, []⟩,
  ⟨(some 62), .pick (.t 54) (.c (.bool true)) (.t 61), none, false, 14, []⟩,
  ⟨(some 63), .mov (.t 62), none, false, 15, []⟩,
  ⟨(some 64), .mov (.t 10), some (63, false), false, 16, []⟩,
  ⟨(some 65), .mov (.t 8), some (63, false), false, 17, []⟩,
  ⟨(some 66), .nilck (.t 65), some (63, false), false, 18, []⟩,
  ⟨(some 67), .faddr 5 (.t 66), some (63, false), false, 19, []⟩,
  ⟨(some 68), .load none (.t 67), some (63, false), false, 20, []⟩,
  ⟨(some 69), .bin .neq .prim (.t 64) (.t 68), some (63, false), false, 21, []⟩,
  ⟨(some 70), .pick (.t 63) (.c (.bool true)) (.t 69), none, false, 22, []⟩,
  ⟨(some 71), .mov (.t 70), none, false, 23, []⟩,
  ⟨(some 72), .mov (.t 11), some (71, false), false, 24, []⟩,
  ⟨(some 73), .mov (.t 8), some (71, false), false, 25, []⟩,
  ⟨(some 74), .nilck (.t 73), some (71, false), false, 26, []⟩,
  ⟨(some 75), .faddr 6 (.t 74), some (71, false), false, 27, []⟩,
  ⟨(some 76), .load none (.t 75), some (71, false), false, 28, []⟩,
  ⟨(some 77), .bin .neq .prim (.t 72) (.t 76), some (71, false), false, 29, []⟩,
  ⟨(some 78), .pick (.t 71) (.c (.bool true)) (.t 77), none, false, 30, []⟩]
def s5_10 : List SIns := [
  ⟨(some 6), .mov (.c (.bool false)), none, false, 0, []⟩]
def s5_11 : List SIns := [
  ⟨(some 28), .mov (.t 9), none, false, 0, []⟩,
  ⟨(some 29), .bin .add .prim (.t 28) (.c (.int .i64 (1))), none, false, 0, []⟩,
  ⟨(some 9), .mov (.t 29), none, false, 0, []⟩]
def b5_12 : SCode := .seq (.seq (.ops s5_5) (.cond (.t 27) (.skip) (.exit 0))) (.seq (.block 1 (.seq (.seq (.ops s5_6) (.cond (.t 42) (.seq (.ops s5_7) (.ret)) (.skip))) (.seq (.ops s5_8) (.seq (.draw s5_9) (.cond (.t 78) (.seq (.ops s5_10) (.ret)) (.skip)))))) (.ops s5_11))
def s5_13 : List SIns := [
  ⟨(some 79), .call (.fn 14) [], none, false, 0, []⟩,
  ⟨(some 6), .mov (.t 79), none, false, 0, []⟩]
def c5 : SCode := .seq (.ops s5_0) (.seq (.ops s5_1) (.seq (.seq (.ops s5_2) (.cond (.t 19) (.seq (.ops s5_3) (.ret)) (.skip))) (.seq (.seq (.ops s5_4) (.block 0 (.loop b5_12))) (.seq (.ops s5_13) (.ret)))))
def s6_0 : List SIns := [
  ⟨(some 6), .mov (.c (.bool false)), none, false, 0, []⟩]
def s6_1 : List SIns := [
  ⟨(some 17), .mov (.t 0), none, false, 0, []⟩,
  ⟨(some 18), .mov (.t 1), none, false, 0, []⟩,
  ⟨(some 19), .mov (.t 2), none, false, 0, []⟩,
  ⟨(some 20), .call (.fn 9) [(.t 17), (.t 18), (.t 19)], none, false, 0, []⟩,
  ⟨(some 7), .mov (.t 20), none, false, 0, []⟩]
def s6_2 : List SIns := [
  ⟨(some 21), .mov (.t 7), none, false, 0, []⟩,
  ⟨(some 22), .bin .eql .ptr (.t 21) (.c (.pointer none)), none, false, 0, []⟩]
def s6_3 : List SIns := [
  ⟨(some 6), .mov (.c (.bool false)), none, false, 0, []⟩]
def s6_4 : List SIns := [
  ⟨(some 24), .mov (.t 7), none, false, 0, []⟩,
  ⟨(some 25), .call (.fn 20) [(.t 24)], none, false, 0, []⟩,
  ⟨(some 23), .mov (.t 25), none, false, 0, []⟩,
  ⟨(some 26), .ext 0 (.t 23), none, false, 0, []⟩,
  ⟨(some 27), .ext 1 (.t 23), none, false, 0, []⟩,
  ⟨(some 8), .mov (.t 26), none, false, 0, []⟩,
  ⟨(some 9), .mov (.t 27), none, false, 0, []⟩]
def s6_5 : List SIns := [
  ⟨(some 28), .mov (.t 7), none, false, 0, []⟩,
  ⟨(some 29), .call (.fn 10) [(.t 28)], none, false, 0, []⟩,
  ⟨(some 10), .mov (.t 29), none, false, 0, []⟩]
def s6_6 : List SIns := [
  ⟨(some 11), .mov (.c (.int .i64 (1))), none, false, 0, []⟩]
def s6_7 : List SIns := [
  ⟨(some 30), .mov (.t 10), none, false, 0, []⟩,
  ⟨(some 31), .len (.t 30), none, false, 0, []⟩,
  ⟨(some 32), .bin .eql .prim (.t 31) (.c (.int .i64 (1))), none, false, 0, []⟩]
def s6_8 : List SIns := [
  ⟨(some 11), .mov (.c (.int .i64 (0))), none, false, 0, []⟩]
def s6_9 : List SIns := [
  ⟨(some 12), .mov (.c (.int .i64 (0))), none, false, 0, []⟩]
def s6_10 : List SIns := [
  ⟨(some 13), .mov (.c (.int .i64 (0))), none, false, 0, []⟩]
def s6_11 : List SIns := [
  ⟨(some 33), .mov (.t 13), none, false, 0, []⟩,
  ⟨(some 34), .mov (.t 10), none, false, 0, []⟩,
  ⟨(some 35), .len (.t 34), none, false, 0, []⟩,
  ⟨(some 36), .bin .lss .prim (.t 33) (.t 35), none, false, 0, []⟩]
def s6_12 : List SIns := [
  ⟨(some 39), .mov (.t 10), none, false, 0, []⟩,
  ⟨(some 40), .mov (.t 13), none, false, 0, []⟩,
  ⟨(some 41), .iaddr 5 (.t 39) (.t 40), none, false, 0, []⟩,
  ⟨(some 42), .load (some 5) (.t 41), none, false, 0, []⟩,
  ⟨(some 14), .new [.int .i64 (0), .int .i64 (0), .int .i64 (0), .int .i64 (0), .int .i64 (0)], none, false, 0, []⟩,
  ⟨none, .store 5 (.t 14) (.t 42), none, false, 0, []⟩]
def s6_13 : List SIns := [
  ⟨(some 43), .faddr 1 (.t 14), none, false, 0, []⟩,
  ⟨(some 44), .load none (.t 43), none, false, 0, []⟩,
  ⟨(some 45), .bin .lss .prim (.t 44) (.c (.int .i64 (0))), none, false, 0, []⟩,
  ⟨(some 46), .mov (.t 45), none, false, 0, []⟩,
  ⟨(some 47), .faddr 2 (.t 14), some (46, false), false, 0, []⟩,
  ⟨(some 48), .load none (.t 47), some (46, false), false, 0, []⟩,
  ⟨(some 49), .bin .lss .prim (.t 48) (.c (.int .i64 (0))), some (46, false), false, 0, []⟩,
  ⟨(some 50), .pick (.t 46) (.c (.bool true)) (.t 49), none, false, 0, []⟩,
  ⟨(some 51), .mov (.t 50), none, false, 0, []⟩,
  ⟨(some 52), .faddr 3 (.t 14), some (51, false), false, 0, []⟩,
  ⟨(some 53), .load none (.t 52), some (51, false), false, 0, []⟩,
  ⟨(some 54), .bin .lss .prim (.t 53) (.c (.int .i64 (1))), some (51, false), false, 0, []⟩,
  ⟨(some 55), .pick (.t 51) (.c (.bool true)) (.t 54), none, false, 0, []⟩,
  ⟨(some 56), .mov (.t 55), none, false, 0, []⟩,
  ⟨(some 57), .faddr 4 (.t 14), some (56, false), false, 0, []⟩,
  ⟨(some 58), .load none (.t 57), some (56, false), false, 0, []⟩,
  ⟨(some 59), .bin .lss .prim (.t 58) (.c (.int .i64 (2))), some (56, false), false, 0, []⟩,
  ⟨(some 60), .pick (.t 56) (.c (.bool true)) (.t 59), none, false, 0, []⟩,
  ⟨(some 61), .mov (.t 60), none, false, 0, []⟩,
  ⟨(some 62), .faddr 1 (.t 14), some (61, false), false, 0, []⟩,
  ⟨(some 63), .load none (.t 62), some (61, false), false, 0, []⟩,
  ⟨(some 64), .faddr 3 (.t 14), some (61, false), false, 0, []⟩,
  ⟨(some 65), .load none (.t 64), some (61, false), false, 0, []⟩,
  ⟨(some 66), .bin .add .prim (.t 63) (.t 65), some (61, false), false, 0, []⟩,
  ⟨(some 67), .mov (.t 11), some (61, false), false, 0, []⟩,
  ⟨(some 68), .bin .add .prim (.t 66) (.t 67), some (61, false), false, 0, []⟩,
  ⟨(some 69), .mov (.t 8), some (61, false), false, 0, []⟩,
  ⟨(some 70), .bin .sub .prim (.t 69) (.c (.int .i64 (1))), some (61, false), false, 0, []⟩,
  ⟨(some 71), .bin .gtr .prim (.t 68) (.t 70), some (61, false), false, 0, []⟩,
  ⟨(some 72), .pick (.t 61) (.c (.bool true)) (.t 71), none, false, 0, []⟩,
  ⟨(some 73), .mov (.t 72), none, false, 0, []⟩,
  ⟨(some 74), .faddr 2 (.t 14), some (73, false), false, 0, []⟩,
  ⟨(some 75), .load none (.t 74), some (73, false), false, 0, []⟩,
  ⟨(some 76), .faddr 4 (.t 14), some (73, false), false, 0, []⟩,
  ⟨(some 77), .load none (.t 76), some (73, false), false, 0, []⟩,
  ⟨(some 78), .bin .add .prim (.t 75) (.t 77), some (73, false), false, 0, []⟩,
  ⟨(some 79), .mov (.t 9), some (73, false), false, 0, []⟩,
  ⟨(some 80), .bin .gtr .prim (.t 78) (.t 79), some (73, false), false, 0, []⟩,
  ⟨(some 81), .pick (.t 73) (.c (.bool true)) (.t 80), none, false, 0, []⟩]
def s6_14 : List SIns := [
  ⟨(some 6), .mov (.c (.bool false)), none, false, 0, []⟩]
def s6_15 : List SIns := [
  ⟨(some 82), .faddr 0 (.t 14), none, false, 0, []⟩,
  ⟨(some 83), .load none (.t 82), none, true, 1, []⟩,
  ⟨(some 84), .mov (.t 7), none, false, 2, []⟩,
  ⟨(some 85), .call (.fn 11) [(.t 84)], none, false, 3, [2]⟩,
  ⟨(some 86), .bin .eql .prim (.t 83) (.t 85), none, false, 4, []⟩]
def s6_16 : List SIns := [
  ⟨(some 87), .mov (.t 12), none, false, 0, []⟩,
  ⟨(some 88), .bin .add .prim (.t 87) (.c (.int .i64 (1))), none, false, 0, []⟩,
  ⟨(some 12), .mov (.t 88), none, false, 0, []⟩]
def s6_17 : List SIns := [
  ⟨(some 15), .mov (.c (.int .i64 (0))), none, false, 0, []⟩]
def s6_18 : List SIns := [
  ⟨(some 89), .mov (.t 15), none, false, 0, []⟩,
  ⟨(some 90), .mov (.t 13), none, false, 0, []⟩,
  ⟨(some 91), .bin .lss .prim (.t 89) (.t 90), none, false, 0, []⟩]
def s6_19 : List SIns := [
  ⟨(some 94), .mov (.t 10), none, false, 0, []⟩,
  ⟨(some 95), .mov (.t 15), none, false, 0, []⟩,
  ⟨(some 96), .iaddr 5 (.t 94) (.t 95), none, false, 0, []⟩,
  ⟨(some 97), .load (some 5) (.t 96), none, false, 0, []⟩,
  ⟨(some 16), .new [.int .i64 (0), .int .i64 (0), .int .i64 (0), .int .i64 (0), .int .i64 (0)], none, false, 0, []⟩,
  ⟨none, .store 5 (.t 16) (.t 97), none, false, 0, []⟩]
def s6_20 : List SIns := [
  ⟨(some 98), .faddr 0 (.t 14), none, false, 0, []⟩,
  ⟨(some 99), .load none (.t 98), none, false, 0, []⟩,
  ⟨(some 100), .faddr 0 (.t 16), none, false, 0, []⟩,
  ⟨(some 101), .load none (.t 100), none, false, 0, []⟩,
  ⟨(some 102), .bin .eql .prim (.t 99) (.t 101), none, false, 0, []⟩,
  ⟨(some 103), .mov (.t 102), none, false, 0, []⟩,
  ⟨(some 104), .faddr 1 (.t 14), some (103, false), false, 0, []⟩,
  ⟨(some 105), .load none (.t 104), some (103, false), false, 0, []⟩,
  ⟨(some 106), .faddr 1 (.t 16), some (103, false), false, 0, []⟩,
  ⟨(some 107), .load none (.t 106), some (103, false), false, 0, []⟩,
  ⟨(some 108), .faddr 3 (.t 16), some (103, false), false, 0, []⟩,
  ⟨(some 109), .load none (.t 108), some (103, false), false, 0, []⟩,
  ⟨(some 110), .bin .add .prim (.t 107) (.t 109), some (103, false), false, 0, []⟩,
  ⟨(some 111), .mov (.t 11), some (103, false), false, 0, []⟩,
  ⟨(some 112), .bin .add .prim (.t 110) (.t 111), some (103, false), false, 0, []⟩,
  ⟨(some 113), .bin .lss .prim (.t 105) (.t 112), some (103, false), false, 0, []⟩,
  ⟨(some 114), .mov (.t 113), some (103, false), false, 0, []⟩,
  ⟨(some 115), .faddr 1 (.t 16), some (114, true), false, 0, []⟩,
  ⟨(some 116), .load none (.t 115), some (114, true), false, 0, []⟩,
  ⟨(some 117), .faddr 1 (.t 14), some (114, true), false, 0, []⟩,
  ⟨(some 118), .load none (.t 117), some (114, true), false, 0, []⟩,
  ⟨(some 119), .faddr 3 (.t 14), some (114, true), false, 0, []⟩,
  ⟨(some 120), .load none (.t 119), some (114, true), false, 0, []⟩,
  ⟨(some 121), .bin .add .prim (.t 118) (.t 120), some (114, true), false, 0, []⟩,
  ⟨(some 122), .mov (.t 11), some (114, true), false, 0, []⟩,
  ⟨(some 123), .bin .add .prim (.t 121) (.t 122), some (114, true), false, 0, []⟩,
  ⟨(some 124), .bin .lss .prim (.t 116) (.t 123), some (114, true), false, 0, []⟩,
  ⟨(some 125), .pick (.t 114) (.t 124) (.c (.bool false)), some (103, false), false, 0, []⟩,
  ⟨(some 126), .mov (.t 125), some (103, false), false, 0, []⟩,
  ⟨(some 127), .faddr 2 (.t 14), some (126, true), false, 0, []⟩,
  ⟨(some 128), .load none (.t 127), some (126, true), false, 0, []⟩,
  ⟨(some 129), .faddr 2 (.t 16), some (126, true), false, 0, []⟩,
  ⟨(some 130), .load none (.t 129), some (126, true), false, 0, []⟩,
  ⟨(some 131), .faddr 4 (.t 16), some (126, true), false, 0, []⟩,
  ⟨(some 132), .load none (.t 131), some (126, true), false, 0, []⟩,
  ⟨(some 133), .bin .add .prim (.t 130) (.t 132), some (126, true), false, 0, []⟩,
  ⟨(some 134), .bin .lss .prim (.t 128) (.t 133), some (126, true), false, 0, []⟩,
  ⟨(some 135), .pick (.t 126) (.t 134) (.c (.bool false)), some (103, false), false, 0, []⟩,
  ⟨(some 136), .mov (.t 135), some (103, false), false, 0, []⟩,
  ⟨(some 137), .faddr 2 (.t 16), some (136, true), false, 0, []⟩,
  ⟨(some 138), .load none (.t 137), some (136, true), false, 0, []⟩,
  ⟨(some 139), .faddr 2 (.t 14), some (136, true), false, 0, []⟩,
  ⟨(some 140), .load none (.t 139), some (136, true), false, 0, []⟩,
  ⟨(some 141), .faddr 4 (.t 14), some (136, true), false, 0, []⟩,
  ⟨(some 142), .load none (.t 141), some (136, true), false, 0, []⟩,
  ⟨(some 143), .bin .add .prim (.t 140) (.t 142), some (136, true), false, 0, []⟩,
  ⟨(some 144), .bin .lss .prim (.t 138) (.t 143), some (136, true), false, 0, []⟩,
  ⟨(some 145), .pick (.t 136) (.t 144) (.c (.bool false)), some (103, false), false, 0, []⟩,
  ⟨(some 146), .pick (.t 103) (.c (.bool true)) (.t 145), none, false, 0, []⟩]
def s6_21 : List SIns := [
  ⟨(some 6), .mov (.c (.bool false)), none, false, 0, []⟩]
def s6_22 : List SIns := [
  ⟨(some 92), .mov (.t 15), none, false, 0, []⟩,
  ⟨(some 93), .bin .add .prim (.t 92) (.c (.int .i64 (1))), none, false, 0, []⟩,
  ⟨(some 15), .mov (.t 93), none, false, 0, []⟩]
def b6_23 : SCode := .seq (.seq (.ops s6_18) (.cond (.t 91) (.skip) (.exit 2))) (.seq (.block 3 (.seq (.ops s6_19) (.seq (.ops s6_20) (.cond (.t 146) (.seq (.ops s6_21) (.ret)) (.skip))))) (.ops s6_22))
def s6_24 : List SIns := [
  ⟨(some 37), .mov (.t 13), none, false, 0, []⟩,
  ⟨(some 38), .bin .add .prim (.t 37) (.c (.int .i64 (1))), none, false, 0, []⟩,
  ⟨(some 13), .mov (.t 38), none, false, 0, []⟩]
def b6_25 : SCode := .seq (.seq (.ops s6_11) (.cond (.t 36) (.skip) (.exit 0))) (.seq (.block 1 (.seq (.ops s6_12) (.seq (.seq (.ops s6_13) (.cond (.t 81) (.seq (.ops s6_14) (.ret)) (.skip))) (.seq (.seq (.draw s6_15) (.cond (.t 86) (.ops s6_16) (.skip))) (.seq (.ops s6_17) (.block 2 (.loop b6_23))))))) (.ops s6_24))
def s6_26 : List SIns := [
  ⟨(some 147), .mov (.t 10), none, false, 0, []⟩,
  ⟨(some 148), .len (.t 147), none, false, 0, []⟩,
  ⟨(some 149), .bin .geq .prim (.t 148) (.c (.int .i64 (1))), none, false, 0, []⟩,
  ⟨(some 150), .mov (.t 149), none, false, 0, []⟩,
  ⟨(some 151), .mov (.t 10), some (150, true), false, 0, []⟩,
  ⟨(some 152), .len (.t 151), some (150, true), false, 0, []⟩,
  ⟨(some 153), .bin .leq .prim (.t 152) (.c (.int .i64 (16))), some (150, true), false, 0, []⟩,
  ⟨(some 154), .pick (.t 150) (.t 153) (.c (.bool false)), none, false, 0, []⟩,
  ⟨(some 155), .mov (.t 154), none, false, 0, []⟩,
  ⟨(some 156), .mov (.t 12), some (155, true), false, 0, []⟩,
  ⟨(some 157), .bin .eql .prim (.t 156) (.c (.int .i64 (1))), some (155, true), false, 0, []⟩,
  ⟨(some 158), .pick (.t 155) (.t 157) (.c (.bool false)), none, false, 0, []⟩,
  ⟨(some 159), .mov (.t 158), none, false, 0, []⟩,
  ⟨(some 160), .call (.fn 14) [], some (159, true), false, 0, []⟩,
  ⟨(some 161), .pick (.t 159) (.t 160) (.c (.bool false)), none, false, 0, []⟩,
  ⟨(some 6), .mov (.t 161), none, false, 0, []⟩]
def c6 : SCode := .seq (.ops s6_0) (.seq (.ops s6_1) (.seq (.seq (.ops s6_2) (.cond (.t 22) (.seq (.ops s6_3) (.ret)) (.skip))) (.seq (.ops s6_4) (.seq (.ops s6_5) (.seq (.ops s6_6) (.seq (.seq (.ops s6_7) (.cond (.t 32) (.ops s6_8) (.skip))) (.seq (.ops s6_9) (.seq (.seq (.ops s6_10) (.block 0 (.loop b6_25))) (.seq (.ops s6_26) (.ret))))))))))
def s7_0 : List SIns := [
  ⟨(some 6), .mov (.c (.bool false)), none, false, 0, []⟩]
def s7_1 : List SIns := [
  ⟨(some 16), .mov (.t 0), none, false, 0, []⟩,
  ⟨(some 17), .mov (.t 1), none, false, 0, []⟩,
  ⟨(some 18), .mov (.t 2), none, false, 0, []⟩,
  ⟨(some 19), .call (.fn 9) [(.t 16), (.t 17), (.t 18)], none, false, 0, []⟩,
  ⟨(some 7), .mov (.t 19), none, false, 0, []⟩]
def s7_2 : List SIns := [
  ⟨(some 20), .mov (.t 7), none, false, 0, []⟩,
  ⟨(some 21), .bin .eql .ptr (.t 20) (.c (.pointer none)), none, false, 0, []⟩]
def s7_3 : List SIns := [
  ⟨(some 6), .mov (.c (.bool false)), none, false, 0, []⟩]
def s7_4 : List SIns := [
  ⟨(some 23), .mov (.t 7), none, false, 0, []⟩,
  ⟨(some 24), .call (.fn 20) [(.t 23)], none, false, 0, []⟩,
  ⟨(some 22), .mov (.t 24), none, false, 0, []⟩,
  ⟨(some 25), .ext 0 (.t 22), none, false, 0, []⟩,
  ⟨(some 26), .ext 1 (.t 22), none, false, 0, []⟩,
  ⟨(some 8), .mov (.t 25), none, false, 0, []⟩,
  ⟨(some 9), .mov (.t 26), none, false, 0, []⟩]
def s7_5 : List SIns := [
  ⟨(some 27), .mov (.t 7), none, false, 0, []⟩,
  ⟨(some 28), .call (.fn 10) [(.t 27)], none, false, 0, []⟩,
  ⟨(some 10), .mov (.t 28), none, false, 0, []⟩]
def s7_6 : List SIns := [
  ⟨(some 11), .mov (.c (.int .i64 (1))), none, false, 0, []⟩]
def s7_7 : List SIns := [
  ⟨(some 29), .mov (.t 10), none, false, 0, []⟩,
  ⟨(some 30), .len (.t 29), none, false, 0, []⟩,
  ⟨(some 31), .bin .eql .prim (.t 30) (.c (.int .i64 (1))), none, false, 0, []⟩]
def s7_8 : List SIns := [
  ⟨(some 11), .mov (.c (.int .i64 (0))), none, false, 0, []⟩]
def s7_9 : List SIns := [
  ⟨(some 12), .mov (.c (.int .i64 (0))), none, false, 0, []⟩,
  ⟨(some 13), .mov (.c (.int .i64 (0))), none, false, 0, []⟩]
def s7_10 : List SIns := [
  ⟨(some 14), .mov (.c (.int .i64 (0))), none, false, 0, []⟩]
def s7_11 : List SIns := [
  ⟨(some 32), .mov (.t 14), none, false, 0, []⟩,
  ⟨(some 33), .mov (.t 10), none, false, 0, []⟩,
  ⟨(some 34), .len (.t 33), none, false, 0, []⟩,
  ⟨(some 35), .bin .lss .prim (.t 32) (.t 34), none, false, 0, []⟩]
def s7_12 : List SIns := [
  ⟨(some 38), .mov (.t 10), none, false, 0, []⟩,
  ⟨(some 39), .mov (.t 14), none, false, 0, []⟩,
  ⟨(some 40), .iaddr 5 (.t 38) (.t 39), none, false, 0, []⟩,
  ⟨(some 41), .load (some 5) (.t 40), none, false, 0, []⟩,
  ⟨(some 15), .new [.int .i64 (0), .int .i64 (0), .int .i64 (0), .int .i64 (0), .int .i64 (0)], none, false, 0, []⟩,
  ⟨none, .store 5 (.t 15) (.t 41), none, false, 0, []⟩]
def s7_13 : List SIns := [
  ⟨(some 42), .mov (.t 12), none, false, 0, []⟩,
  ⟨(some 43), .faddr 3 (.t 15), none, false, 0, []⟩,
  ⟨(some 44), .load none (.t 43), none, false, 0, []⟩,
  ⟨(some 45), .mov (.t 11), none, false, 0, []⟩,
  ⟨(some 46), .bin .add .prim (.t 44) (.t 45), none, false, 0, []⟩,
  ⟨(some 47), .faddr 4 (.t 15), none, false, 0, []⟩,
  ⟨(some 48), .load none (.t 47), none, false, 0, []⟩,
  ⟨(some 49), .bin .mul .prim (.t 46) (.t 48), none, false, 0, []⟩,
  ⟨(some 50), .bin .add .prim (.t 42) (.t 49), none, false, 0, []⟩,
  ⟨(some 12), .mov (.t 50), none, false, 0, []⟩]
def s7_14 : List SIns := [
  ⟨(some 51), .faddr 2 (.t 15), none, false, 0, []⟩,
  ⟨(some 52), .load none (.t 51), none, false, 0, []⟩,
  ⟨(some 53), .faddr 4 (.t 15), none, false, 0, []⟩,
  ⟨(some 54), .load none (.t 53), none, false, 0, []⟩,
  ⟨(some 55), .bin .add .prim (.t 52) (.t 54), none, false, 0, []⟩,
  ⟨(some 56), .mov (.t 9), none, false, 0, []⟩,
  ⟨(some 57), .bin .lss .prim (.t 55) (.t 56), none, false, 0, []⟩]
def s7_15 : List SIns := [
  ⟨(some 58), .mov (.t 13), none, false, 0, []⟩,
  ⟨(some 59), .faddr 3 (.t 15), none, false, 0, []⟩,
  ⟨(some 60), .load none (.t 59), none, false, 0, []⟩,
  ⟨(some 61), .mov (.t 11), none, false, 0, []⟩,
  ⟨(some 62), .bin .add .prim (.t 60) (.t 61), none, false, 0, []⟩,
  ⟨(some 63), .bin .add .prim (.t 58) (.t 62), none, false, 0, []⟩,
  ⟨(some 13), .mov (.t 63), none, false, 0, []⟩]
def s7_16 : List SIns := [
  ⟨(some 36), .mov (.t 14), none, false, 0, []⟩,
  ⟨(some 37), .bin .add .prim (.t 36) (.c (.int .i64 (1))), none, false, 0, []⟩,
  ⟨(some 14), .mov (.t 37), none, false, 0, []⟩]
def b7_17 : SCode := .seq (.seq (.ops s7_11) (.cond (.t 35) (.skip) (.exit 0))) (.seq (.block 1 (.seq (.ops s7_12) (.seq (.ops s7_13) (.seq (.ops s7_14) (.cond (.t 57) (.ops s7_15) (.skip)))))) (.ops s7_16))
def s7_18 : List SIns := [
  ⟨(some 64), .mov (.t 12), none, false, 0, []⟩,
  ⟨(some 65), .mov (.t 8), none, false, 0, []⟩,
  ⟨(some 66), .bin .sub .prim (.t 65) (.c (.int .i64 (1))), none, false, 0, []⟩,
  ⟨(some 67), .mov (.t 9), none, false, 0, []⟩,
  ⟨(some 68), .bin .mul .prim (.t 66) (.t 67), none, false, 0, []⟩,
  ⟨(some 69), .bin .leq .prim (.t 64) (.t 68), none, false, 0, []⟩,
  ⟨(some 70), .mov (.t 69), none, false, 0, []⟩,
  ⟨(some 71), .mov (.t 12), some (70, true), false, 0, []⟩,
  ⟨(some 72), .mov (.t 13), some (70, true), false, 0, []⟩,
  ⟨(some 73), .bin .add .prim (.t 71) (.t 72), some (70, true), false, 0, []⟩,
  ⟨(some 74), .mov (.t 8), some (70, true), false, 0, []⟩,
  ⟨(some 75), .bin .sub .prim (.t 74) (.c (.int .i64 (1))), some (70, true), false, 0, []⟩,
  ⟨(some 76), .mov (.t 9), some (70, true), false, 0, []⟩,
  ⟨(some 77), .bin .mul .prim (.t 75) (.t 76), some (70, true), false, 0, []⟩,
  ⟨(some 78), .bin .geq .prim (.t 73) (.t 77), some (70, true), false, 0, []⟩,
  ⟨(some 79), .pick (.t 70) (.t 78) (.c (.bool false)), none, false, 0, []⟩,
  ⟨(some 80), .mov (.t 79), none, false, 0, []⟩,
  ⟨(some 81), .call (.fn 14) [], some (80, true), false, 0, []⟩,
  ⟨(some 82), .pick (.t 80) (.t 81) (.c (.bool false)), none, false, 0, []⟩,
  ⟨(some 6), .mov (.t 82), none, false, 0, []⟩]
def c7 : SCode := .seq (.ops s7_0) (.seq (.ops s7_1) (.seq (.seq (.ops s7_2) (.cond (.t 21) (.seq (.ops s7_3) (.ret)) (.skip))) (.seq (.ops s7_4) (.seq (.ops s7_5) (.seq (.ops s7_6) (.seq (.seq (.ops s7_7) (.cond (.t 31) (.ops s7_8) (.skip))) (.seq (.ops s7_9) (.seq (.seq (.ops s7_10) (.block 0 (.loop b7_17))) (.seq (.ops s7_18) (.ret))))))))))
def s9_0 : List SIns := [
  ⟨(some 6), .mov (.c (.pointer none)), none, false, 0, []⟩]
def s9_1 : List SIns := [
  ⟨(some 10), .mov (.t 0), none, false, 0, []⟩,
  ⟨(some 11), .mov (.t 1), none, false, 0, []⟩,
  ⟨(some 12), .call (.fn 17) [(.t 10), (.t 11)], none, false, 0, []⟩,
  ⟨(some 7), .mov (.t 12), none, false, 0, []⟩]
def s9_2 : List SIns := [
  ⟨(some 13), .mov (.t 0), none, false, 0, []⟩,
  ⟨(some 14), .mov (.t 1), none, false, 0, []⟩,
  ⟨(some 15), .call (.fn 18) [(.t 13), (.t 14)], none, false, 0, []⟩,
  ⟨(some 8), .mov (.t 15), none, false, 0, []⟩]
def s9_3 : List SIns := [
  ⟨(some 9), .mov (.c (.int .i64 (0))), none, false, 0, []⟩]
def s9_4 : List SIns := [
  ⟨(some 16), .mov (.t 9), none, false, 0, []⟩,
  ⟨(some 17), .mov (.t 2), none, false, 0, []⟩,
  ⟨(some 18), .len (.t 17), none, false, 0, []⟩,
  ⟨(some 19), .bin .lss .prim (.t 16) (.t 18), none, false, 0, []⟩,
  ⟨(some 20), .mov (.t 19), none, false, 0, []⟩,
  ⟨(some 21), .mov (.t 9), some (20, true), false, 0, []⟩,
  ⟨(some 22), .bin .lss .prim (.t 21) (.c (.int .i64 (60))), some (20, true), false, 0, []⟩,
  ⟨(some 23), .pick (.t 20) (.t 22) (.c (.bool false)), none, false, 0, []⟩,
  ⟨(some 24), .mov (.t 23), none, false, 0, []⟩,
  ⟨(some 25), .mov (.t 7), some (24, true), false, 0, []⟩,
  ⟨(some 26), .bin .neq .ptr (.t 25) (.c (.pointer none)), some (24, true), false, 0, []⟩,
  ⟨(some 27), .pick (.t 24) (.t 26) (.c (.bool false)), none, false, 0, []⟩]
def s9_5 : List SIns := [
  ⟨(some 30), .mov (.t 7), none, false, 0, []⟩,
  ⟨(some 31), .mov (.t 8), none, false, 0, []⟩,
  ⟨(some 32), .mov (.t 2), none, false, 0, []⟩,
  ⟨(some 33), .mov (.t 9), none, false, 0, []⟩,
  ⟨(some 34), .iaddr 4 (.t 32) (.t 33), none, false, 0, []⟩,
  ⟨(some 35), .load (some 4) (.t 34), none, false, 0, []⟩,
  ⟨(some 36), .call (.fn 19) [(.t 30), (.t 31), (.t 35)], none, false, 0, []⟩]
def s9_6 : List SIns := [
  ⟨(some 28), .mov (.t 9), none, false, 0, []⟩,
  ⟨(some 29), .bin .add .prim (.t 28) (.c (.int .i64 (1))), none, false, 0, []⟩,
  ⟨(some 9), .mov (.t 29), none, false, 0, []⟩]
def b9_7 : SCode := .seq (.seq (.ops s9_4) (.cond (.t 27) (.skip) (.exit 0))) (.seq (.block 1 (.ops s9_5)) (.ops s9_6))
def s9_8 : List SIns := [
  ⟨(some 37), .mov (.t 7), none, false, 0, []⟩,
  ⟨(some 6), .mov (.t 37), none, false, 0, []⟩]
def c9 : SCode := .seq (.ops s9_0) (.seq (.ops s9_1) (.seq (.ops s9_2) (.seq (.seq (.ops s9_3) (.block 0 (.loop b9_7))) (.seq (.ops s9_8) (.ret)))))
def s10_0 : List SIns := [
  ⟨(some 2), .mov (.c (.slice none 0 0)), none, false, 0, []⟩]
def s10_1 : List SIns := [
  ⟨(some 5), .mov (.t 0), none, false, 0, []⟩,
  ⟨(some 6), .bin .eql .ptr (.t 5) (.c (.pointer none)), none, false, 0, []⟩]
def s10_2 : List SIns := [
  ⟨(some 2), .mov (.c (.slice none 0 0)), none, false, 0, []⟩]
def s10_3 : List SIns := [
  ⟨(some 7), .mov (.t 0), none, false, 0, []⟩,
  ⟨(some 8), .call (.fn 25) [(.t 7)], none, false, 0, []⟩,
  ⟨(some 3), .mov (.t 8), none, false, 0, []⟩]
def s10_4 : List SIns := [
  ⟨(some 9), .mov (.t 3), none, false, 0, []⟩,
  ⟨(some 10), .len (.t 9), none, false, 0, []⟩,
  ⟨(some 11), .bin .gtr .prim (.t 10) (.c (.int .i64 (1))), none, false, 0, []⟩]
def s10_5 : List SIns := [
  ⟨(some 12), .mov (.t 3), none, false, 0, []⟩,
  ⟨(some 13), .len (.t 12), none, false, 0, []⟩,
  ⟨(some 14), .mov (.c (.int .i64 (0))), none, false, 0, []⟩]
def s10_6 : List SIns := [
  ⟨(some 15), .bin .lss .prim (.t 14) (.t 13), none, false, 0, []⟩]
def s10_7 : List SIns := [
  ⟨(some 16), .mov (.t 14), none, false, 0, []⟩,
  ⟨(some 4), .mov (.t 16), none, false, 0, []⟩]
def s10_8 : List SIns := [
  ⟨(some 17), .mov (.t 3), none, false, 0, []⟩,
  ⟨(some 18), .mov (.t 4), none, false, 0, []⟩,
  ⟨(some 19), .iaddr 5 (.t 17) (.t 18), none, false, 0, []⟩,
  ⟨(some 20), .faddr 3 (.t 19), none, false, 0, []⟩,
  ⟨(some 21), .load none (.t 20), none, false, 0, []⟩,
  ⟨(some 22), .bin .sub .prim (.t 21) (.c (.int .i64 (1))), none, false, 0, []⟩,
  ⟨(some 23), .iaddr 5 (.t 17) (.t 18), none, false, 0, []⟩,
  ⟨(some 24), .faddr 3 (.t 23), none, false, 0, []⟩,
  ⟨none, .store 1 (.t 24) (.t 22), none, false, 0, []⟩]
def s10_9 : List SIns := [
  ⟨(some 25), .bin .add .prim (.t 14) (.c (.int .i64 (1))), none, false, 0, []⟩,
  ⟨(some 14), .mov (.t 25), none, false, 0, []⟩]
def b10_10 : SCode := .seq (.ops s10_6) (.seq (.cond (.t 15) (.skip) (.exit 0)) (.seq (.block 1 (.seq (.ops s10_7) (.ops s10_8))) (.ops s10_9)))
def s10_11 : List SIns := [
  ⟨(some 26), .mov (.t 3), none, false, 0, []⟩,
  ⟨(some 2), .mov (.t 26), none, false, 0, []⟩]
def c10 : SCode := .seq (.ops s10_0) (.seq (.seq (.ops s10_1) (.cond (.t 6) (.seq (.ops s10_2) (.ret)) (.skip))) (.seq (.ops s10_3) (.seq (.seq (.ops s10_4) (.cond (.t 11) (.seq (.ops s10_5) (.block 0 (.loop b10_10))) (.skip))) (.seq (.ops s10_11) (.ret)))))
def s11_0 : List SIns := [
  ⟨(some 2), .mov (.c (.int .i64 (0))), none, false, 0, []⟩]
def s11_1 : List SIns := [
  ⟨(some 3), .mov (.t 0), none, false, 0, []⟩,
  ⟨(some 4), .bin .eql .ptr (.t 3) (.c (.pointer none)), none, false, 0, []⟩]
def s11_2 : List SIns := [
  ⟨(some 2), .mov (.c (.int .i64 (0))), none, false, 0, []⟩]
def s11_3 : List SIns := [
  ⟨(some 5), .mov (.t 0), none, false, 0, []⟩,
  ⟨(some 6), .nilck (.t 5), none, false, 0, []⟩,
  ⟨(some 7), .faddr 2 (.t 6), none, false, 0, []⟩,
  ⟨(some 8), .load none (.t 7), none, false, 0, []⟩,
  ⟨(some 2), .mov (.t 8), none, false, 0, []⟩]
def c11 : SCode := .seq (.ops s11_0) (.seq (.seq (.ops s11_1) (.cond (.t 4) (.seq (.ops s11_2) (.ret)) (.skip))) (.seq (.ops s11_3) (.ret)))
def s12_0 : List SIns := [
  ⟨(some 4), .mov (.c (.int .i64 (0))), none, false, 0, []⟩,
  ⟨(some 5), .mov (.c (.int .i64 (0))), none, false, 0, []⟩]
def s12_1 : List SIns := [
  ⟨(some 7), .mov (.t 0), none, false, 0, []⟩,
  ⟨(some 8), .bin .eql .ptr (.t 7) (.c (.pointer none)), none, false, 0, []⟩]
def s12_2 : List SIns := [
  ⟨(some 4), .mov (.c (.int .i64 (0))), none, false, 0, []⟩,
  ⟨(some 5), .mov (.c (.int .i64 (1))), none, false, 0, []⟩]
def s12_3 : List SIns := [
  ⟨(some 9), .mov (.t 0), none, false, 0, []⟩,
  ⟨(some 10), .nilck (.t 9), none, false, 0, []⟩,
  ⟨(some 11), .faddr 0 (.t 10), none, false, 0, []⟩,
  ⟨(some 12), .load none (.t 11), none, false, 0, []⟩,
  ⟨(some 6), .mov (.t 12), none, false, 0, []⟩]
def s12_4 : List SIns := [
  ⟨(some 13), .mov (.t 0), none, false, 0, []⟩,
  ⟨(some 14), .mov (.t 0), none, false, 1, []⟩,
  ⟨(some 15), .nilck (.t 14), none, false, 2, []⟩,
  ⟨(some 16), .faddr 0 (.t 15), none, false, 3, []⟩,
  ⟨(some 17), .load none (.t 16), none, false, 4, []⟩,
  ⟨(some 18), .mov (.t 0), none, false, 5, []⟩,
  ⟨(some 19), .nilck (.t 18), none, false, 6, []⟩,
  ⟨(some 20), .faddr 2 (.t 19), none, false, 7, []⟩,
  ⟨(some 21), .load none (.t 20), none, false, 8, []⟩,
  ⟨(some 22), .mov (.t 1), none, false, 9, []⟩,
  ⟨(some 23), .mov (.t 0), none, false, 10, []⟩,
  ⟨(some 24), .nilck (.t 23), none, false, 11, []⟩,
  ⟨(some 25), .faddr 2 (.t 24), none, false, 12, []⟩,
  ⟨(some 26), .load none (.t 25), none, true, 13, []⟩,
  ⟨(some 27), .build [.int .i64 (0)] [(0, 1, (.t 26))], none, false, 14, []⟩,
  ⟨(some 28), .box (.t 27), none, false, 15, []⟩,
  ⟨(some 29), .iface 61 (.t 28), none, false, 16, []⟩,
  ⟨(some 30), .mov (.t 0), none, false, 17, []⟩,
  ⟨(some 31), .nilck (.t 30), none, false, 18, []⟩,
  ⟨(some 32), .faddr 1 (.t 31), none, false, 19, []⟩,
  ⟨(some 33), .load none (.t 32), none, true, 20, []⟩,
  ⟨(some 34), .bin .add .prim (.t 33) (.c (.int .i64 (1))), none, false, 21, []⟩,
  ⟨(some 35), .build [.int .i64 (0)] [(0, 1, (.t 34))], none, false, 22, []⟩,
  ⟨(some 36), .box (.t 35), none, false, 23, []⟩,
  ⟨(some 37), .iface 61 (.t 36), none, false, 24, []⟩,
  ⟨(some 38), .mkArr 1 [.nilIface, .nilIface] 2 [(0, 1, (.t 29)), (1, 1, (.t 37))], none, false, 25, []⟩,
  ⟨(some 39), .build [.bool false, .slice none 0 0] [(0, 1, (.t 22)), (1, 1, (.t 38))], none, false, 26, []⟩,
  ⟨(some 40), .box (.t 39), none, false, 27, []⟩,
  ⟨(some 41), .iface 60 (.t 40), none, false, 28, []⟩,
  ⟨(some 42), .mkArr 1 [.nilIface] 1 [(0, 1, (.t 41))], none, false, 29, []⟩,
  ⟨(some 43), .call (.fn 26) [(.t 17), (.t 21), (.t 42)], none, false, 30, [4, 8, 29]⟩,
  ⟨(some 44), .iaddr 1 (.t 43) (.c (.int .i64 (0))), none, false, 31, []⟩,
  ⟨(some 45), .load none (.t 44), none, false, 32, []⟩,
  ⟨(some 46), .nilck (.t 13), none, false, 33, []⟩,
  ⟨(some 47), .faddr 0 (.t 46), none, false, 34, []⟩,
  ⟨none, .store 1 (.t 47) (.t 45), none, false, 35, [34, 32, 30, 0, 1, 2, 3, 4, 5, 6, 7, 8, 9, 10, 11, 12, 13, 14, 15, 16, 17, 18, 19, 20, 21, 22, 23, 24, 25, 26, 27, 28, 29, 30, 31, 32]⟩]
def s12_5 : List SIns := [
  ⟨(some 48), .mov (.t 0), none, false, 0, []⟩,
  ⟨(some 49), .call (.fn 25) [(.t 48)], none, false, 0, []⟩,
  ⟨(some 50), .len (.t 49), none, false, 0, []⟩,
  ⟨(some 51), .bin .gtr .prim (.t 50) (.c (.int .i64 (16))), none, false, 0, []⟩,
  ⟨(some 52), .mov (.t 51), none, false, 0, []⟩,
  ⟨(some 53), .mov (.t 0), some (52, false), false, 0, []⟩,
  ⟨(some 54), .call (.fn 27) [(.t 53)], some (52, false), false, 0, []⟩,
  ⟨(some 55), .un .not (.t 54), some (52, false), false, 0, []⟩,
  ⟨(some 56), .pick (.t 52) (.c (.bool true)) (.t 55), none, false, 0, []⟩]
def s12_6 : List SIns := [
  ⟨(some 57), .mov (.t 0), none, false, 0, []⟩,
  ⟨(some 58), .mov (.t 6), none, false, 0, []⟩,
  ⟨(some 59), .nilck (.t 57), none, false, 0, []⟩,
  ⟨(some 60), .faddr 0 (.t 59), none, false, 0, []⟩,
  ⟨none, .store 1 (.t 60) (.t 58), none, false, 0, []⟩]
def s12_7 : List SIns := [
  ⟨(some 4), .mov (.c (.int .i64 (0))), none, false, 0, []⟩,
  ⟨(some 5), .mov (.c (.int .i64 (33))), none, false, 0, []⟩]
def s12_8 : List SIns := [
  ⟨(some 61), .mov (.t 0), none, false, 0, []⟩,
  ⟨(some 62), .nilck (.t 61), none, false, 0, []⟩,
  ⟨(some 63), .faddr 1 (.t 62), none, false, 0, []⟩,
  ⟨(some 64), .load none (.t 63), none, false, 0, []⟩,
  ⟨(some 65), .bin .add .prim (.t 64) (.c (.int .i64 (1))), none, false, 0, []⟩,
  ⟨(some 66), .nilck (.t 61), none, false, 0, []⟩,
  ⟨(some 67), .faddr 1 (.t 66), none, false, 0, []⟩,
  ⟨none, .store 1 (.t 67) (.t 65), none, false, 0, []⟩]
def s12_9 : List SIns := [
  ⟨(some 68), .mov (.t 0), none, false, 0, []⟩,
  ⟨(some 69), .mov (.t 0), none, false, 0, []⟩,
  ⟨(some 70), .nilck (.t 69), none, false, 0, []⟩,
  ⟨(some 71), .faddr 1 (.t 70), none, false, 0, []⟩,
  ⟨(some 72), .load none (.t 71), none, false, 0, []⟩,
  ⟨(some 73), .nilck (.t 68), none, false, 0, []⟩,
  ⟨(some 74), .faddr 2 (.t 73), none, false, 0, []⟩,
  ⟨none, .store 1 (.t 74) (.t 72), none, false, 0, []⟩]
def s12_10 : List SIns := [
  ⟨(some 75), .mov (.t 0), none, false, 0, []⟩,
  ⟨(some 76), .nilck (.t 75), none, false, 0, []⟩,
  ⟨(some 77), .faddr 1 (.t 76), none, false, 0, []⟩,
  ⟨(some 78), .load none (.t 77), none, false, 0, []⟩,
  ⟨(some 4), .mov (.t 78), none, false, 0, []⟩,
  ⟨(some 5), .mov (.c (.int .i64 (0))), none, false, 0, []⟩]
def c12 : SCode := .seq (.ops s12_0) (.seq (.seq (.ops s12_1) (.cond (.t 8) (.seq (.ops s12_2) (.ret)) (.skip))) (.seq (.ops s12_3) (.seq (.draw s12_4) (.seq (.seq (.ops s12_5) (.cond (.t 56) (.seq (.ops s12_6) (.seq (.ops s12_7) (.ret))) (.skip))) (.seq (.ops s12_8) (.seq (.ops s12_9) (.seq (.ops s12_10) (.ret))))))))
def s13_0 : List SIns := [
  ⟨(some 4), .mov (.c (.bool false)), none, false, 0, []⟩]
def s13_1 : List SIns := [
  ⟨(some 6), .mov (.t 0), none, false, 0, []⟩,
  ⟨(some 7), .len (.t 6), none, false, 0, []⟩,
  ⟨(some 8), .mov (.t 1), none, false, 0, []⟩,
  ⟨(some 9), .len (.t 8), none, false, 0, []⟩,
  ⟨(some 10), .bin .neq .prim (.t 7) (.t 9), none, false, 0, []⟩]
def s13_2 : List SIns := [
  ⟨(some 4), .mov (.c (.bool false)), none, false, 0, []⟩]
def s13_3 : List SIns := [
  ⟨(some 5), .mov (.c (.int .i64 (0))), none, false, 0, []⟩]
def s13_4 : List SIns := [
  ⟨(some 11), .mov (.t 5), none, false, 0, []⟩,
  ⟨(some 12), .mov (.t 0), none, false, 0, []⟩,
  ⟨(some 13), .len (.t 12), none, false, 0, []⟩,
  ⟨(some 14), .bin .lss .prim (.t 11) (.t 13), none, false, 0, []⟩]
def s13_5 : List SIns := [
  ⟨(some 17), .mov (.t 0), none, false, 0, []⟩,
  ⟨(some 18), .mov (.t 5), none, false, 1, []⟩,
  ⟨(some 19), .iaddr 5 (.t 17) (.t 18), none, false, 2, []⟩,
  ⟨(some 20), .load (some 5) (.t 19), none, false, 3, []⟩,
  ⟨(some 21), .mov (.t 1), none, false, 4, []⟩,
  ⟨(some 22), .mov (.t 5), none, false, 5, []⟩,
  ⟨(some 23), .iaddr 5 (.t 21) (.t 22), none, false, 6, []⟩,
  ⟨(some 24), .load (some 5) (.t 23), none, false, 7, []⟩,
  ⟨(some 25), .bin .neq (.flat [1, 1, 1, 1, 1]) (.t 20) (.t 24), none, false, 8, []⟩]
def s13_6 : List SIns := [
  ⟨(some 4), .mov (.c (.bool false)), none, false, 0, []⟩]
def s13_7 : List SIns := [
  ⟨(some 15), .mov (.t 5), none, false, 0, []⟩,
  ⟨(some 16), .bin .add .prim (.t 15) (.c (.int .i64 (1))), none, false, 0, []⟩,
  ⟨(some 5), .mov (.t 16), none, false, 0, []⟩]
def b13_8 : SCode := .seq (.seq (.ops s13_4) (.cond (.t 14) (.skip) (.exit 0))) (.seq (.block 1 (.seq (.draw s13_5) (.cond (.t 25) (.seq (.ops s13_6) (.ret)) (.skip)))) (.ops s13_7))
def s13_9 : List SIns := [
  ⟨(some 4), .mov (.c (.bool true)), none, false, 0, []⟩]
def c13 : SCode := .seq (.ops s13_0) (.seq (.seq (.ops s13_1) (.cond (.t 10) (.seq (.ops s13_2) (.ret)) (.skip))) (.seq (.seq (.ops s13_3) (.block 0 (.loop b13_8))) (.seq (.ops s13_9) (.ret))))
def s15_0 : List SIns := [
  ⟨(some 4), .mov (.c (.int .i64 (0))), none, false, 0, []⟩]
def s15_1 : List SIns := [
  ⟨(some 7), .mov (.t 0), none, false, 0, []⟩,
  ⟨(some 8), .bin .eql .ptr (.t 7) (.c (.pointer none)), none, false, 0, []⟩]
def s15_2 : List SIns := [
  ⟨(some 4), .mov (.c (.int .i64 (1))), none, false, 0, []⟩]
def s15_3 : List SIns := [
  ⟨(some 9), .mov (.t 0), none, false, 0, []⟩,
  ⟨(some 10), .mov (.t 1), none, false, 0, []⟩,
  ⟨(some 11), .call (.fn 28) [(.t 9), (.t 10)], none, false, 0, []⟩,
  ⟨(some 5), .mov (.t 11), none, false, 0, []⟩]
def s15_4 : List SIns := [
  ⟨(some 12), .mov (.t 5), none, false, 0, []⟩,
  ⟨(some 13), .bin .lss .prim (.t 12) (.c (.int .i64 (0))), none, false, 0, []⟩]
def s15_5 : List SIns := [
  ⟨(some 4), .mov (.c (.int .i64 (4))), none, false, 0, []⟩]
def s15_6 : List SIns := [
  ⟨(some 14), .mov (.t 0), none, false, 0, []⟩,
  ⟨(some 15), .nilck (.t 14), none, false, 0, []⟩,
  ⟨(some 16), .faddr 0 (.t 15), none, false, 0, []⟩,
  ⟨(some 17), .load none (.t 16), none, false, 0, []⟩,
  ⟨(some 18), .mov (.t 1), none, false, 0, []⟩,
  ⟨(some 19), .call (.fn 26) [(.t 17), (.t 18), (.c (.slice none 0 0))], none, false, 0, []⟩,
  ⟨(some 6), .mov (.t 19), none, false, 0, []⟩]
def s15_7 : List SIns := [
  ⟨(some 20), .mov (.t 6), none, false, 0, []⟩,
  ⟨(some 21), .len (.t 20), none, false, 0, []⟩,
  ⟨(some 22), .bin .eql .prim (.t 21) (.c (.int .i64 (0))), none, false, 0, []⟩]
def s15_8 : List SIns := [
  ⟨(some 4), .mov (.c (.int .i64 (33))), none, false, 0, []⟩]
def s15_9 : List SIns := [
  ⟨(some 23), .mov (.t 0), none, false, 0, []⟩,
  ⟨(some 24), .mov (.t 6), none, false, 0, []⟩,
  ⟨(some 25), .iaddr 1 (.t 24) (.c (.int .i64 (0))), none, false, 0, []⟩,
  ⟨(some 26), .load none (.t 25), none, false, 0, []⟩,
  ⟨(some 27), .nilck (.t 23), none, false, 0, []⟩,
  ⟨(some 28), .faddr 0 (.t 27), none, false, 0, []⟩,
  ⟨none, .store 1 (.t 28) (.t 26), none, false, 0, []⟩]
def s15_10 : List SIns := [
  ⟨(some 29), .mov (.t 1), none, false, 0, []⟩,
  ⟨(some 30), .mov (.t 0), none, false, 0, []⟩,
  ⟨(some 31), .nilck (.t 30), none, false, 0, []⟩,
  ⟨(some 32), .faddr 2 (.t 31), none, false, 0, []⟩,
  ⟨(some 33), .load none (.t 32), none, false, 0, []⟩,
  ⟨(some 34), .bin .eql .prim (.t 29) (.t 33), none, false, 0, []⟩]
def s15_11 : List SIns := [
  ⟨(some 35), .mov (.t 0), none, false, 0, []⟩,
  ⟨(some 36), .mov (.t 0), none, false, 0, []⟩,
  ⟨(some 37), .call (.fn 25) [(.t 36)], none, false, 0, []⟩,
  ⟨(some 38), .mov (.t 5), none, false, 0, []⟩,
  ⟨(some 39), .bin .sub .prim (.t 38) (.c (.int .i64 (1))), none, false, 0, []⟩,
  ⟨(some 40), .max [(.c (.int .i64 (0))), (.t 39)], none, false, 0, []⟩,
  ⟨(some 41), .iaddr 5 (.t 37) (.t 40), none, false, 0, []⟩,
  ⟨(some 42), .faddr 0 (.t 41), none, false, 0, []⟩,
  ⟨(some 43), .load none (.t 42), none, false, 0, []⟩,
  ⟨(some 44), .nilck (.t 35), none, false, 0, []⟩,
  ⟨(some 45), .faddr 2 (.t 44), none, false, 0, []⟩,
  ⟨none, .store 1 (.t 45) (.t 43), none, false, 0, []⟩]
def s15_12 : List SIns := [
  ⟨(some 4), .mov (.c (.int .i64 (0))), none, false, 0, []⟩]
def c15 : SCode := .seq (.ops s15_0) (.seq (.seq (.ops s15_1) (.cond (.t 8) (.seq (.ops s15_2) (.ret)) (.skip))) (.seq (.ops s15_3) (.seq (.seq (.ops s15_4) (.cond (.t 13) (.seq (.ops s15_5) (.ret)) (.skip))) (.seq (.ops s15_6) (.seq (.seq (.ops s15_7) (.cond (.t 22) (.seq (.ops s15_8) (.ret)) (.skip))) (.seq (.ops s15_9) (.seq (.seq (.ops s15_10) (.cond (.t 34) (.ops s15_11) (.skip))) (.seq (.ops s15_12) (.ret)))))))))
def s16_0 : List SIns := [
  ⟨(some 6), .mov (.t 0), none, false, 0, []⟩,
  ⟨(some 7), .bin .eql .ptr (.t 6) (.c (.pointer none)), none, false, 0, []⟩]
def s16_1 : List SIns := [
  ⟨(some 8), .mov (.t 0), none, false, 0, []⟩,
  ⟨(some 9), .call (.fn 25) [(.t 8)], none, false, 0, []⟩,
  ⟨(some 4), .mov (.t 9), none, false, 0, []⟩]
def s16_2 : List SIns := [
  ⟨(some 10), .mov (.t 0), none, false, 0, []⟩,
  ⟨(some 11), .mov (.t 0), none, false, 1, []⟩,
  ⟨(some 12), .nilck (.t 11), none, false, 2, []⟩,
  ⟨(some 13), .faddr 2 (.t 12), none, false, 3, []⟩,
  ⟨(some 14), .load none (.t 13), none, false, 4, []⟩,
  ⟨(some 16), .mov (.t 1), none, false, 6, []⟩,
  ⟨(some 17), .mov (.t 4), none, false, 7, []⟩,
  ⟨(some 18), .len (.t 17), none, false, 8, []⟩,
  ⟨(some 19), .bin .rem .prim (.t 16) (.t 18), none, false, 9, []⟩,
  ⟨(some 21), .mov (.t 4), none, false, 11, []⟩,
  ⟨(some 22), .len (.t 21), none, false, 12, []⟩,
  ⟨(some 15), .call (.fn 28) [(.t 10), (.t 14)], none, false, 5, [0, 4]⟩,
  ⟨(some 20), .bin .add .prim (.t 15) (.t 19), none, false, 10, []⟩,
  ⟨(some 23), .bin .rem .prim (.t 20) (.t 22), none, false, 13, []⟩,
  ⟨(some 5), .mov (.t 23), none, false, 14, []⟩]
def s16_3 : List SIns := [
  ⟨(some 24), .mov (.t 5), none, false, 0, []⟩,
  ⟨(some 25), .bin .lss .prim (.t 24) (.c (.int .i64 (0))), none, false, 0, []⟩]
def s16_4 : List SIns := [
  ⟨(some 26), .mov (.t 5), none, false, 0, []⟩,
  ⟨(some 27), .mov (.t 4), none, false, 0, []⟩,
  ⟨(some 28), .len (.t 27), none, false, 0, []⟩,
  ⟨(some 29), .bin .add .prim (.t 26) (.t 28), none, false, 0, []⟩,
  ⟨(some 5), .mov (.t 29), none, false, 0, []⟩]
def s16_5 : List SIns := [
  ⟨(some 30), .mov (.t 0), none, false, 0, []⟩,
  ⟨(some 31), .mov (.t 4), none, false, 0, []⟩,
  ⟨(some 32), .mov (.t 5), none, false, 0, []⟩,
  ⟨(some 33), .iaddr 5 (.t 31) (.t 32), none, false, 0, []⟩,
  ⟨(some 34), .faddr 0 (.t 33), none, false, 0, []⟩,
  ⟨(some 35), .load none (.t 34), none, false, 0, []⟩,
  ⟨(some 36), .nilck (.t 30), none, false, 0, []⟩,
  ⟨(some 37), .faddr 2 (.t 36), none, false, 0, []⟩,
  ⟨none, .store 1 (.t 37) (.t 35), none, false, 0, []⟩]
def c16 : SCode := .seq (.seq (.ops s16_0) (.cond (.t 7) (.ret) (.skip))) (.seq (.ops s16_1) (.seq (.draw s16_2) (.seq (.seq (.ops s16_3) (.cond (.t 25) (.ops s16_4) (.skip))) (.ops s16_5))))
def s17_0 : List SIns := [
  ⟨(some 4), .mov (.c (.pointer none)), none, false, 0, []⟩]
def s17_1 : List SIns := [
  ⟨(some 6), .build [.int .i64 (0)] [(0, 1, (.c (.int .i64 (1))))], none, false, 0, []⟩,
  ⟨(some 7), .box (.t 6), none, false, 0, []⟩,
  ⟨(some 8), .iface 61 (.t 7), none, false, 0, []⟩,
  ⟨(some 9), .build [.nilIface, .int .i64 (0), .int .i64 (0), .int .i64 (0), .int .i64 (0)] [(0, 1, (.t 8)), (1, 1, (.c (.int .i64 (1)))), (2, 1, (.c (.int .i64 (1))))], none, false, 0, []⟩,
  ⟨(some 10), .box (.t 9), none, false, 0, []⟩,
  ⟨(some 5), .mov (.t 10), none, false, 0, []⟩]
def s17_2 : List SIns := [
  ⟨(some 11), .mov (.t 5), none, false, 0, []⟩,
  ⟨(some 12), .mov (.t 0), none, false, 0, []⟩,
  ⟨(some 13), .mov (.t 1), none, false, 0, []⟩,
  ⟨(some 14), .call (.fn 29) [(.t 11), (.t 12), (.t 13)], none, false, 0, []⟩]
def s17_3 : List SIns := [
  ⟨(some 15), .mov (.t 5), none, false, 0, []⟩,
  ⟨(some 4), .mov (.t 15), none, false, 0, []⟩]
def c17 : SCode := .seq (.ops s17_0) (.seq (.ops s17_1) (.seq (.ops s17_2) (.seq (.ops s17_3) (.ret))))
def s18_0 : List SIns := [
  ⟨(some 4), .mov (.c (.pointer none)), none, false, 0, []⟩]
def s18_1 : List SIns := [
  ⟨(some 6), .build [.int .i64 (0), .int .i64 (0), .slice none 0 0] [(1, 1, (.c (.int .i64 (1))))], none, false, 0, []⟩,
  ⟨(some 7), .build [.int .i64 (0), .int .i64 (0), .slice none 0 0, .int .i64 (0), .int .i64 (0), .int .i64 (0), .int .i64 (0)] [(0, 3, (.t 6)), (3, 1, (.c (.int .i64 (1)))), (4, 1, (.c (.int .i64 (1))))], none, false, 0, []⟩,
  ⟨(some 8), .box (.t 7), none, false, 0, []⟩,
  ⟨(some 5), .mov (.t 8), none, false, 0, []⟩]
def s18_2 : List SIns := [
  ⟨(some 9), .mov (.t 5), none, false, 0, []⟩,
  ⟨(some 10), .mov (.t 0), none, false, 0, []⟩,
  ⟨(some 11), .mov (.t 1), none, false, 0, []⟩,
  ⟨(some 12), .call (.fn 30) [(.t 9), (.t 10), (.t 11)], none, false, 0, []⟩]
def s18_3 : List SIns := [
  ⟨(some 13), .mov (.t 5), none, false, 0, []⟩,
  ⟨(some 4), .mov (.t 13), none, false, 0, []⟩]
def c18 : SCode := .seq (.ops s18_0) (.seq (.ops s18_1) (.seq (.ops s18_2) (.seq (.ops s18_3) (.ret))))
def s19_0 : List SIns := [
  ⟨(some 5), .box (.t 2), none, false, 0, []⟩,
  ⟨(some 6), .mov (.c (.bool false)), none, false, 0, []⟩]
def s19_1 : List SIns := [
  ⟨(some 11), .faddr 0 (.t 5), none, false, 0, []⟩,
  ⟨(some 12), .load none (.t 11), none, false, 0, []⟩]
def s19_2 : List SIns := [
  ⟨(some 27), .bin .eql .prim (.t 12) (.c (.int .i64 (0))), none, false, 0, []⟩,
  ⟨(some 26), .mov (.t 27), none, false, 0, []⟩]
def s19_3 : List SIns := [
  ⟨(some 29), .mov (.t 0), none, false, 0, []⟩,
  ⟨(some 30), .faddr 3 (.t 5), none, false, 0, []⟩,
  ⟨(some 31), .load none (.t 30), none, false, 0, []⟩,
  ⟨(some 32), .call (.fn 12) [(.t 29), (.t 31)], none, false, 0, []⟩,
  ⟨(some 28), .mov (.t 32), none, false, 0, []⟩,
  ⟨(some 33), .ext 0 (.t 28), none, false, 0, []⟩,
  ⟨(some 34), .ext 1 (.t 28), none, false, 0, []⟩,
  ⟨(some 7), .mov (.t 33), none, false, 0, []⟩,
  ⟨(some 8), .mov (.t 34), none, false, 0, []⟩]
def s19_4 : List SIns := [
  ⟨(some 36), .mov (.t 1), none, false, 0, []⟩,
  ⟨(some 37), .faddr 3 (.t 5), none, false, 0, []⟩,
  ⟨(some 38), .load none (.t 37), none, false, 0, []⟩,
  ⟨(some 39), .call (.fn 31) [(.t 36), (.t 38)], none, false, 0, []⟩,
  ⟨(some 35), .mov (.t 39), none, false, 0, []⟩,
  ⟨(some 40), .ext 0 (.t 35), none, false, 0, []⟩,
  ⟨(some 41), .ext 1 (.t 35), none, false, 0, []⟩,
  ⟨(some 9), .mov (.t 40), none, false, 0, []⟩,
  ⟨(some 10), .mov (.t 41), none, false, 0, []⟩]
def s19_5 : List SIns := [
  ⟨(some 42), .mov (.t 7), none, false, 0, []⟩,
  ⟨(some 43), .mov (.t 9), none, false, 0, []⟩,
  ⟨(some 44), .bin .eql .prim (.t 42) (.t 43), none, false, 0, []⟩,
  ⟨(some 45), .mov (.t 44), none, false, 0, []⟩,
  ⟨(some 46), .mov (.t 8), some (45, true), false, 0, []⟩,
  ⟨(some 47), .mov (.t 10), some (45, true), false, 0, []⟩,
  ⟨(some 48), .bin .eql .prim (.t 46) (.t 47), some (45, true), false, 0, []⟩,
  ⟨(some 49), .pick (.t 45) (.t 48) (.c (.bool false)), none, false, 0, []⟩,
  ⟨(some 6), .mov (.t 49), none, false, 0, []⟩]
def s19_6 : List SIns := [
  ⟨(some 51), .bin .eql .prim (.t 12) (.c (.int .i64 (1))), none, false, 0, []⟩,
  ⟨(some 50), .mov (.t 51), none, false, 0, []⟩]
def s19_7 : List SIns := [
  ⟨(some 52), .mov (.t 0), none, false, 0, []⟩,
  ⟨(some 53), .faddr 1 (.t 5), none, false, 1, []⟩,
  ⟨(some 54), .load none (.t 53), none, true, 2, []⟩,
  ⟨(some 56), .mov (.t 1), none, false, 4, []⟩,
  ⟨(some 57), .faddr 1 (.t 5), none, false, 5, []⟩,
  ⟨(some 58), .load none (.t 57), none, true, 6, []⟩,
  ⟨(some 55), .call (.fn 15) [(.t 52), (.t 54)], none, false, 3, [0, 2]⟩,
  ⟨(some 59), .call (.fn 32) [(.t 56), (.t 58)], none, false, 7, [4, 6, 3]⟩,
  ⟨(some 60), .bin .eql .prim (.t 55) (.t 59), none, false, 8, []⟩,
  ⟨(some 6), .mov (.t 60), none, false, 9, []⟩]
def s19_8 : List SIns := [
  ⟨(some 62), .bin .eql .prim (.t 12) (.c (.int .i64 (2))), none, false, 0, []⟩,
  ⟨(some 61), .mov (.t 62), none, false, 0, []⟩]
def s19_9 : List SIns := [
  ⟨(some 63), .mov (.t 0), none, false, 0, []⟩,
  ⟨(some 64), .call (.fn 22) [(.t 63)], none, false, 0, []⟩]
def s19_10 : List SIns := [
  ⟨(some 65), .mov (.t 1), none, false, 0, []⟩,
  ⟨(some 66), .call (.fn 33) [(.t 65)], none, false, 0, []⟩]
def s19_11 : List SIns := [
  ⟨(some 68), .bin .eql .prim (.t 12) (.c (.int .i64 (3))), none, false, 0, []⟩,
  ⟨(some 67), .mov (.t 68), none, false, 0, []⟩]
def s19_12 : List SIns := [
  ⟨(some 69), .mov (.t 0), none, false, 0, []⟩,
  ⟨(some 70), .faddr 1 (.t 5), none, false, 1, []⟩,
  ⟨(some 71), .load none (.t 70), none, true, 2, []⟩,
  ⟨(some 73), .mov (.t 1), none, false, 4, []⟩,
  ⟨(some 74), .faddr 1 (.t 5), none, false, 5, []⟩,
  ⟨(some 75), .load none (.t 74), none, true, 6, []⟩,
  ⟨(some 72), .call (.fn 23) [(.t 69), (.t 71)], none, false, 3, [0, 2]⟩,
  ⟨(some 76), .call (.fn 34) [(.t 73), (.t 75)], none, false, 7, [4, 6, 3]⟩,
  ⟨(some 77), .bin .eql .prim (.t 72) (.t 76), none, false, 8, []⟩,
  ⟨(some 6), .mov (.t 77), none, false, 9, []⟩]
def s19_13 : List SIns := [
  ⟨(some 79), .bin .eql .prim (.t 12) (.c (.int .i64 (4))), none, false, 0, []⟩,
  ⟨(some 78), .mov (.t 79), none, false, 0, []⟩]
def s19_14 : List SIns := [
  ⟨(some 80), .mov (.t 0), none, false, 0, []⟩,
  ⟨(some 81), .faddr 1 (.t 5), none, false, 0, []⟩,
  ⟨(some 82), .load none (.t 81), none, false, 0, []⟩,
  ⟨(some 83), .call (.fn 16) [(.t 80), (.t 82)], none, false, 0, []⟩]
def s19_15 : List SIns := [
  ⟨(some 84), .mov (.t 1), none, false, 0, []⟩,
  ⟨(some 85), .faddr 1 (.t 5), none, false, 0, []⟩,
  ⟨(some 86), .load none (.t 85), none, false, 0, []⟩,
  ⟨(some 87), .call (.fn 35) [(.t 84), (.t 86)], none, false, 0, []⟩]
def s19_16 : List SIns := [
  ⟨(some 13), .mov (.t 0), none, false, 0, []⟩,
  ⟨(some 14), .faddr 1 (.t 5), none, false, 1, []⟩,
  ⟨(some 15), .load none (.t 14), none, true, 2, []⟩,
  ⟨(some 16), .faddr 2 (.t 5), none, false, 3, []⟩,
  ⟨(some 17), .load none (.t 16), none, true, 4, []⟩,
  ⟨(some 19), .mov (.t 1), none, false, 6, []⟩,
  ⟨(some 20), .faddr 1 (.t 5), none, false, 7, []⟩,
  ⟨(some 21), .load none (.t 20), none, true, 8, []⟩,
  ⟨(some 22), .faddr 2 (.t 5), none, false, 9, []⟩,
  ⟨(some 23), .load none (.t 22), none, true, 10, []⟩,
  ⟨(some 18), .call (.fn 24) [(.t 13), (.t 15), (.t 17)], none, false, 5, [0, 2, 4]⟩,
  ⟨(some 24), .call (.fn 36) [(.t 19), (.t 21), (.t 23)], none, false, 11, [6, 8, 10, 5]⟩,
  ⟨(some 25), .bin .eql .prim (.t 18) (.t 24), none, false, 12, []⟩,
  ⟨(some 6), .mov (.t 25), none, false, 13, []⟩]
def s19_17 : List SIns := [
  ⟨(some 6), .mov (.c (.bool true)), none, false, 0, []⟩]
def c19 : SCode := .seq (.ops s19_0) (.seq (.seq (.ops s19_1) (.block 0 (.seq (.ops s19_2) (.cond (.t 26) (.seq (.ops s19_3) (.seq (.ops s19_4) (.seq (.ops s19_5) (.ret)))) (.seq (.ops s19_6) (.cond (.t 50) (.seq (.draw s19_7) (.ret)) (.seq (.ops s19_8) (.cond (.t 61) (.seq (.ops s19_9) (.ops s19_10)) (.seq (.ops s19_11) (.cond (.t 67) (.seq (.draw s19_12) (.ret)) (.seq (.ops s19_13) (.cond (.t 78) (.seq (.ops s19_14) (.ops s19_15)) (.seq (.draw s19_16) (.ret)))))))))))))) (.seq (.ops s19_17) (.ret)))
def s20_0 : List SIns := [
  ⟨(some 2), .mov (.c (.int .i64 (0))), none, false, 0, []⟩,
  ⟨(some 3), .mov (.c (.int .i64 (0))), none, false, 0, []⟩]
def s20_1 : List SIns := [
  ⟨(some 4), .mov (.t 0), none, false, 0, []⟩,
  ⟨(some 5), .bin .eql .ptr (.t 4) (.c (.pointer none)), none, false, 0, []⟩]
def s20_2 : List SIns := [
  ⟨(some 2), .mov (.c (.int .i64 (0))), none, false, 0, []⟩,
  ⟨(some 3), .mov (.c (.int .i64 (0))), none, false, 0, []⟩]
def s20_3 : List SIns := [
  ⟨(some 6), .mov (.t 0), none, false, 0, []⟩,
  ⟨(some 7), .nilck (.t 6), none, false, 1, []⟩,
  ⟨(some 8), .faddr 3 (.t 7), none, false, 2, []⟩,
  ⟨(some 9), .load none (.t 8), none, false, 3, []⟩,
  ⟨(some 10), .mov (.t 0), none, false, 4, []⟩,
  ⟨(some 11), .nilck (.t 10), none, false, 5, []⟩,
  ⟨(some 12), .faddr 4 (.t 11), none, false, 6, []⟩,
  ⟨(some 13), .load none (.t 12), none, false, 7, []⟩,
  ⟨(some 2), .mov (.t 9), none, false, 8, []⟩,
  ⟨(some 3), .mov (.t 13), none, false, 9, []⟩]
def c20 : SCode := .seq (.ops s20_0) (.seq (.seq (.ops s20_1) (.cond (.t 5) (.seq (.ops s20_2) (.ret)) (.skip))) (.seq (.draw s20_3) (.ret)))
def s21_0 : List SIns := [
  ⟨(some 2), .mov (.c (.slice none 0 0)), none, false, 0, []⟩]
def s21_1 : List SIns := [
  ⟨(some 5), .mov (.t 0), none, false, 0, []⟩,
  ⟨(some 6), .call (.fn 37) [(.t 5)], none, false, 0, []⟩,
  ⟨(some 3), .mov (.t 6), none, false, 0, []⟩]
def s21_2 : List SIns := [
  ⟨(some 4), .mov (.c (.int .i64 (0))), none, false, 0, []⟩]
def s21_3 : List SIns := [
  ⟨(some 7), .mov (.t 4), none, false, 0, []⟩,
  ⟨(some 8), .mov (.t 3), none, false, 0, []⟩,
  ⟨(some 9), .len (.t 8), none, false, 0, []⟩,
  ⟨(some 10), .bin .lss .prim (.t 7) (.t 9), none, false, 0, []⟩,
  ⟨(some 11), .mov (.t 10), none, false, 0, []⟩,
  ⟨(some 12), .mov (.t 3), some (11, true), false, 0, []⟩,
  ⟨(some 13), .len (.t 12), some (11, true), false, 0, []⟩,
  ⟨(some 14), .bin .gtr .prim (.t 13) (.c (.int .i64 (1))), some (11, true), false, 0, []⟩,
  ⟨(some 15), .pick (.t 11) (.t 14) (.c (.bool false)), none, false, 0, []⟩]
def s21_4 : List SIns := [
  ⟨(some 18), .mov (.t 3), none, false, 0, []⟩,
  ⟨(some 19), .mov (.t 4), none, false, 0, []⟩,
  ⟨(some 20), .iaddr 5 (.t 18) (.t 19), none, false, 0, []⟩,
  ⟨(some 21), .faddr 3 (.t 20), none, false, 0, []⟩,
  ⟨(some 22), .load none (.t 21), none, false, 0, []⟩,
  ⟨(some 23), .bin .sub .prim (.t 22) (.c (.int .i64 (1))), none, false, 0, []⟩,
  ⟨(some 24), .iaddr 5 (.t 18) (.t 19), none, false, 0, []⟩,
  ⟨(some 25), .faddr 3 (.t 24), none, false, 0, []⟩,
  ⟨none, .store 1 (.t 25) (.t 23), none, false, 0, []⟩]
def s21_5 : List SIns := [
  ⟨(some 16), .mov (.t 4), none, false, 0, []⟩,
  ⟨(some 17), .bin .add .prim (.t 16) (.c (.int .i64 (1))), none, false, 0, []⟩,
  ⟨(some 4), .mov (.t 17), none, false, 0, []⟩]
def b21_6 : SCode := .seq (.seq (.ops s21_3) (.cond (.t 15) (.skip) (.exit 0))) (.seq (.block 1 (.ops s21_4)) (.ops s21_5))
def s21_7 : List SIns := [
  ⟨(some 26), .mov (.t 3), none, false, 0, []⟩,
  ⟨(some 2), .mov (.t 26), none, false, 0, []⟩]
def c21 : SCode := .seq (.ops s21_0) (.seq (.ops s21_1) (.seq (.seq (.ops s21_2) (.block 0 (.loop b21_6))) (.seq (.ops s21_7) (.ret))))
def s22_0 : List SIns := [
  ⟨(some 2), .mov (.t 0), none, false, 0, []⟩,
  ⟨(some 3), .bin .neq .ptr (.t 2) (.c (.pointer none)), none, false, 0, []⟩]
def s22_1 : List SIns := [
  ⟨(some 4), .mov (.t 0), none, false, 0, []⟩,
  ⟨(some 5), .mov (.t 0), none, false, 0, []⟩,
  ⟨(some 6), .nilck (.t 5), none, false, 0, []⟩,
  ⟨(some 7), .faddr 2 (.t 6), none, false, 0, []⟩,
  ⟨(some 8), .load none (.t 7), none, false, 0, []⟩,
  ⟨(some 9), .build [.int .i64 (0)] [(0, 1, (.t 8))], none, false, 0, []⟩,
  ⟨(some 10), .box (.t 9), none, false, 0, []⟩,
  ⟨(some 11), .iface 61 (.t 10), none, false, 0, []⟩,
  ⟨(some 12), .nilck (.t 4), none, false, 0, []⟩,
  ⟨(some 13), .faddr 0 (.t 12), none, false, 0, []⟩,
  ⟨none, .store 1 (.t 13) (.t 11), none, false, 0, []⟩]
def c22 : SCode := .seq (.ops s22_0) (.cond (.t 3) (.ops s22_1) (.skip))
def s23_0 : List SIns := [
  ⟨(some 4), .mov (.c (.int .i64 (0))), none, false, 0, []⟩]
def s23_1 : List SIns := [
  ⟨(some 6), .mov (.t 0), none, false, 0, []⟩,
  ⟨(some 7), .bin .eql .ptr (.t 6) (.c (.pointer none)), none, false, 0, []⟩,
  ⟨(some 5), .mov (.t 7), none, false, 0, []⟩]
def s23_2 : List SIns := [
  ⟨(some 4), .mov (.c (.int .i64 (1))), none, false, 0, []⟩]
def s23_3 : List SIns := [
  ⟨(some 9), .mov (.t 0), none, false, 0, []⟩,
  ⟨(some 10), .mov (.t 1), none, false, 0, []⟩,
  ⟨(some 11), .call (.fn 28) [(.t 9), (.t 10)], none, false, 0, []⟩,
  ⟨(some 12), .bin .lss .prim (.t 11) (.c (.int .i64 (0))), none, false, 0, []⟩,
  ⟨(some 8), .mov (.t 12), none, false, 0, []⟩]
def s23_4 : List SIns := [
  ⟨(some 4), .mov (.c (.int .i64 (4))), none, false, 0, []⟩]
def s23_5 : List SIns := [
  ⟨(some 13), .mov (.t 0), none, false, 0, []⟩,
  ⟨(some 14), .mov (.t 1), none, false, 0, []⟩,
  ⟨(some 15), .nilck (.t 13), none, false, 0, []⟩,
  ⟨(some 16), .faddr 2 (.t 15), none, false, 0, []⟩,
  ⟨none, .store 1 (.t 16) (.t 14), none, false, 0, []⟩]
def s23_6 : List SIns := [
  ⟨(some 4), .mov (.c (.int .i64 (0))), none, false, 0, []⟩]
def c23 : SCode := .seq (.ops s23_0) (.seq (.block 0 (.seq (.ops s23_1) (.cond (.t 5) (.seq (.ops s23_2) (.ret)) (.seq (.ops s23_3) (.cond (.t 8) (.seq (.ops s23_4) (.ret)) (.skip)))))) (.seq (.ops s23_5) (.seq (.ops s23_6) (.ret))))
def s24_0 : List SIns := [
  ⟨(some 3), .box (.t 0), none, false, 0, []⟩,
  ⟨(some 6), .mov (.c (.int .i64 (0))), none, false, 0, []⟩]
def s24_1 : List SIns := [
  ⟨(some 9), .load none (.t 3), none, false, 0, []⟩,
  ⟨(some 10), .bin .eql .ptr (.t 9) (.c (.pointer none)), none, false, 0, []⟩]
def s24_2 : List SIns := [
  ⟨(some 6), .mov (.c (.int .i64 (0))), none, false, 0, []⟩]
def s24_3 : List SIns := [
  ⟨(some 11), .load none (.t 3), none, false, 0, []⟩,
  ⟨(some 12), .mov (.t 1), none, false, 0, []⟩,
  ⟨(some 13), .mov (.t 2), none, false, 0, []⟩,
  ⟨(some 14), .call (.fn 29) [(.t 11), (.t 12), (.t 13)], none, false, 0, []⟩]
def s24_4 : List SIns := [
  ⟨(some 7), .mov (.c (.int .i64 (0))), none, false, 0, []⟩]
def s24_5 : List SIns := [
  ⟨(some 15), .load none (.t 3), none, false, 0, []⟩,
  ⟨(some 16), .call (.fn 27) [(.t 15)], none, false, 0, []⟩,
  ⟨(some 17), .un .not (.t 16), none, false, 0, []⟩]
def s24_6 : List SIns := [
  ⟨(some 20), .load none (.t 3), none, false, 0, []⟩,
  ⟨(some 21), .call (.fn 25) [(.t 20)], none, false, 0, []⟩,
  ⟨(some 22), .mkfn 39 [] [(.t 3)], none, false, 0, []⟩,
  ⟨(some 23), .call (.fn 38) [(.t 21), (.t 22)], none, false, 0, []⟩,
  ⟨(some 8), .mov (.t 23), none, false, 0, []⟩]
def s24_7 : List SIns := [
  ⟨(some 24), .load none (.t 3), none, false, 0, []⟩,
  ⟨(some 25), .mov (.t 8), none, false, 1, []⟩,
  ⟨(some 26), .mov (.t 8), none, false, 2, []⟩,
  ⟨(some 27), .len (.t 26), none, false, 3, []⟩,
  ⟨(some 28), .bin .sub .prim (.t 27) (.c (.int .i64 (1))), none, false, 4, []⟩,
  ⟨(some 29), .iaddr 5 (.t 25) (.t 28), none, false, 5, []⟩,
  ⟨(some 30), .faddr 0 (.t 29), none, false, 6, []⟩,
  ⟨(some 31), .load none (.t 30), none, false, 7, []⟩,
  ⟨(some 32), .call (.fn 15) [(.t 24), (.t 31)], none, false, 8, [0, 7]⟩]
def s24_8 : List SIns := [
  ⟨(some 18), .mov (.t 7), none, false, 0, []⟩,
  ⟨(some 19), .bin .add .prim (.t 18) (.c (.int .i64 (1))), none, false, 0, []⟩,
  ⟨(some 7), .mov (.t 19), none, false, 0, []⟩]
def b24_9 : SCode := .seq (.seq (.ops s24_5) (.cond (.t 17) (.skip) (.exit 0))) (.seq (.block 1 (.seq (.ops s24_6) (.draw s24_7))) (.ops s24_8))
def s24_10 : List SIns := [
  ⟨(some 33), .mov (.t 7), none, false, 0, []⟩,
  ⟨(some 6), .mov (.t 33), none, false, 0, []⟩]
def c24 : SCode := .seq (.ops s24_0) (.seq (.seq (.ops s24_1) (.cond (.t 10) (.seq (.ops s24_2) (.ret)) (.skip))) (.seq (.ops s24_3) (.seq (.ops s24_4) (.seq (.block 0 (.loop b24_9)) (.seq (.ops s24_10) (.ret))))))
def s25_0 : List SIns := [
  ⟨(some 2), .mov (.c (.slice none 0 0)), none, false, 0, []⟩]
def s25_1 : List SIns := [
  ⟨(some 3), .mov (.t 0), none, false, 0, []⟩,
  ⟨(some 4), .nilck (.t 3), none, false, 1, []⟩,
  ⟨(some 5), .faddr 0 (.t 4), none, false, 2, []⟩,
  ⟨(some 6), .load none (.t 5), none, true, 3, []⟩,
  ⟨(some 7), .mov (.t 0), none, false, 4, []⟩,
  ⟨(some 8), .nilck (.t 7), none, false, 5, []⟩,
  ⟨(some 9), .faddr 3 (.t 8), none, false, 6, []⟩,
  ⟨(some 10), .load none (.t 9), none, true, 7, []⟩,
  ⟨(some 11), .bin .sub .prim (.t 10) (.c (.int .i64 (1))), none, false, 8, []⟩,
  ⟨(some 12), .mov (.t 0), none, false, 9, []⟩,
  ⟨(some 13), .nilck (.t 12), none, false, 10, []⟩,
  ⟨(some 14), .faddr 4 (.t 13), none, false, 11, []⟩,
  ⟨(some 15), .load none (.t 14), none, true, 12, []⟩,
  ⟨(some 16), .build [.int .i64 (0), .int .i64 (0), .int .i64 (0), .int .i64 (0), .int .i64 (0)] [(3, 1, (.t 11)), (4, 1, (.t 15))], none, false, 13, []⟩,
  ⟨(some 17), .nilck (.t 6), none, false, 14, []⟩,
  ⟨(some 18), .mov (.t 6), none, false, 15, []⟩,
  ⟨(some 19), .call (.inv (.t 18) [(60, 64), (61, 66)]) [(.t 16)], none, false, 16, [15, 13]⟩,
  ⟨(some 2), .mov (.t 19), none, false, 17, []⟩]
def c25 : SCode := .seq (.ops s25_0) (.seq (.draw s25_1) (.ret))
def s26_0 : List SIns := [
  ⟨(some 6), .mov (.c (.slice none 0 0)), none, false, 0, []⟩]
def s26_1 : List SIns := [
  ⟨(some 16), .mov (.t 0), none, false, 0, []⟩]
def s26_2 : List SIns := [
  ⟨(some 17), .tyC 61 (.pointer none) true (.t 16), none, false, 0, []⟩,
  ⟨(some 18), .ext 1 (.t 17), none, false, 0, []⟩,
  ⟨(some 19), .ext 0 (.t 17), none, false, 0, []⟩]
def s26_3 : List SIns := [
  ⟨(some 7), .mov (.t 19), none, false, 0, []⟩]
def s26_4 : List SIns := [
  ⟨(some 20), .mov (.t 7), none, false, 0, []⟩,
  ⟨(some 21), .nilck (.t 20), none, false, 0, []⟩,
  ⟨(some 22), .faddr 0 (.t 21), none, false, 0, []⟩,
  ⟨(some 23), .load none (.t 22), none, false, 0, []⟩,
  ⟨(some 24), .mov (.t 1), none, false, 0, []⟩,
  ⟨(some 25), .bin .eql .prim (.t 23) (.t 24), none, false, 0, []⟩]
def s26_5 : List SIns := [
  ⟨(some 26), .mov (.t 2), none, false, 0, []⟩,
  ⟨(some 6), .mov (.t 26), none, false, 0, []⟩]
def s26_6 : List SIns := [
  ⟨(some 27), .tyC 60 (.pointer none) true (.t 16), none, false, 0, []⟩,
  ⟨(some 28), .ext 1 (.t 27), none, false, 0, []⟩,
  ⟨(some 29), .ext 0 (.t 27), none, false, 0, []⟩]
def s26_7 : List SIns := [
  ⟨(some 8), .mov (.t 29), none, false, 0, []⟩]
def s26_8 : List SIns := [
  ⟨(some 30), .mov (.t 8), none, false, 0, []⟩,
  ⟨(some 31), .nilck (.t 30), none, false, 0, []⟩,
  ⟨(some 32), .faddr 0 (.t 31), none, false, 0, []⟩,
  ⟨(some 33), .load none (.t 32), none, false, 0, []⟩,
  ⟨(some 34), .build [.bool false, .slice none 0 0] [(0, 1, (.t 33))], none, false, 0, []⟩,
  ⟨(some 35), .box (.t 34), none, false, 0, []⟩,
  ⟨(some 9), .mov (.t 35), none, false, 0, []⟩]
def s26_9 : List SIns := [
  ⟨(some 36), .mov (.t 8), none, false, 0, []⟩,
  ⟨(some 37), .nilck (.t 36), none, false, 0, []⟩,
  ⟨(some 38), .faddr 1 (.t 37), none, false, 0, []⟩,
  ⟨(some 39), .load none (.t 38), none, false, 0, []⟩,
  ⟨(some 40), .len (.t 39), none, false, 0, []⟩,
  ⟨(some 41), .mov (.c (.int .i64 (0))), none, false, 0, []⟩]
def s26_10 : List SIns := [
  ⟨(some 42), .bin .lss .prim (.t 41) (.t 40), none, false, 0, []⟩]
def s26_11 : List SIns := [
  ⟨(some 43), .iaddr 1 (.t 39) (.t 41), none, false, 0, []⟩,
  ⟨(some 44), .load none (.t 43), none, false, 0, []⟩,
  ⟨(some 11), .mov (.t 44), none, false, 0, []⟩]
def s26_12 : List SIns := [
  ⟨(some 45), .mov (.t 11), none, false, 0, []⟩,
  ⟨(some 46), .mov (.t 1), none, false, 0, []⟩,
  ⟨(some 47), .mov (.t 2), none, false, 0, []⟩,
  ⟨(some 48), .call (.fn 26) [(.t 45), (.t 46), (.t 47)], none, false, 0, []⟩,
  ⟨(some 49), .len (.t 48), none, false, 0, []⟩,
  ⟨(some 50), .mov (.c (.int .i64 (0))), none, false, 0, []⟩]
def s26_13 : List SIns := [
  ⟨(some 51), .bin .lss .prim (.t 50) (.t 49), none, false, 0, []⟩]
def s26_14 : List SIns := [
  ⟨(some 52), .iaddr 1 (.t 48) (.t 50), none, false, 0, []⟩,
  ⟨(some 53), .load none (.t 52), none, false, 0, []⟩,
  ⟨(some 13), .mov (.t 53), none, false, 0, []⟩]
def s26_15 : List SIns := [
  ⟨(some 55), .mov (.t 13), none, false, 0, []⟩,
  ⟨(some 56), .tyC 60 (.pointer none) true (.t 55), none, false, 0, []⟩,
  ⟨(some 54), .mov (.t 56), none, false, 0, []⟩,
  ⟨(some 57), .ext 0 (.t 54), none, false, 0, []⟩,
  ⟨(some 58), .ext 1 (.t 54), none, false, 0, []⟩,
  ⟨(some 14), .mov (.t 57), none, false, 0, []⟩,
  ⟨(some 15), .mov (.t 58), none, false, 0, []⟩]
def s26_16 : List SIns := [
  ⟨(some 59), .mov (.t 15), none, false, 0, []⟩,
  ⟨(some 60), .mov (.t 59), none, false, 1, []⟩,
  ⟨(some 61), .mov (.t 14), some (60, true), false, 2, []⟩,
  ⟨(some 62), .nilck (.t 61), some (60, true), false, 3, []⟩,
  ⟨(some 63), .faddr 0 (.t 62), some (60, true), false, 4, []⟩,
  ⟨(some 64), .load none (.t 63), some (60, true), false, 5, []⟩,
  ⟨(some 65), .mov (.t 9), some (60, true), false, 6, []⟩,
  ⟨(some 66), .nilck (.t 65), some (60, true), false, 7, []⟩,
  ⟨(some 67), .faddr 0 (.t 66), some (60, true), false, 8, []⟩,
  ⟨(some 68), .load none (.t 67), some (60, true), false, 9, []⟩,
  ⟨(some 69), .bin .eql .bl (.t 64) (.t 68), some (60, true), false, 10, []⟩,
  ⟨(some 70), .pick (.t 60) (.t 69) (.c (.bool false)), none, false, 11, []⟩]
def s26_17 : List SIns := [
  ⟨(some 71), .mov (.t 9), none, false, 0, []⟩,
  ⟨(some 72), .mov (.t 9), none, false, 1, []⟩,
  ⟨(some 73), .nilck (.t 72), none, false, 2, []⟩,
  ⟨(some 74), .faddr 1 (.t 73), none, false, 3, []⟩,
  ⟨(some 75), .load none (.t 74), none, false, 4, []⟩,
  ⟨(some 76), .mov (.t 14), none, false, 5, []⟩,
  ⟨(some 77), .nilck (.t 76), none, false, 6, []⟩,
  ⟨(some 78), .faddr 1 (.t 77), none, false, 7, []⟩,
  ⟨(some 79), .load none (.t 78), none, false, 8, []⟩,
  ⟨(some 80), .append 1 16 (.t 75) (.t 79), none, false, 9, [4, 8]⟩,
  ⟨(some 81), .nilck (.t 71), none, false, 10, []⟩,
  ⟨(some 82), .faddr 1 (.t 81), none, false, 11, []⟩,
  ⟨none, .store 1 (.t 82) (.t 80), none, false, 12, [11, 9, 9, 0, 1, 2, 3, 4, 5, 6, 7, 8, 9]⟩]
def s26_18 : List SIns := [
  ⟨(some 83), .mov (.t 9), none, false, 0, []⟩,
  ⟨(some 84), .mov (.t 9), none, false, 0, []⟩,
  ⟨(some 85), .nilck (.t 84), none, false, 0, []⟩,
  ⟨(some 86), .faddr 1 (.t 85), none, false, 0, []⟩,
  ⟨(some 87), .load none (.t 86), none, false, 0, []⟩,
  ⟨(some 88), .mov (.t 13), none, false, 0, []⟩,
  ⟨(some 89), .mkArr 1 [.nilIface] 1 [(0, 1, (.t 88))], none, false, 0, []⟩,
  ⟨(some 90), .append 1 16 (.t 87) (.t 89), none, false, 0, []⟩,
  ⟨(some 91), .nilck (.t 83), none, false, 0, []⟩,
  ⟨(some 92), .faddr 1 (.t 91), none, false, 0, []⟩,
  ⟨none, .store 1 (.t 92) (.t 90), none, false, 0, []⟩]
def s26_19 : List SIns := [
  ⟨(some 93), .bin .add .prim (.t 50) (.c (.int .i64 (1))), none, false, 0, []⟩,
  ⟨(some 50), .mov (.t 93), none, false, 0, []⟩]
def b26_20 : SCode := .seq (.ops s26_13) (.seq (.cond (.t 51) (.skip) (.exit 3)) (.seq (.block 4 (.seq (.ops s26_14) (.seq (.ops s26_15) (.seq (.draw s26_16) (.cond (.t 70) (.draw s26_17) (.ops s26_18)))))) (.ops s26_19)))
def s26_21 : List SIns := [
  ⟨(some 94), .bin .add .prim (.t 41) (.c (.int .i64 (1))), none, false, 0, []⟩,
  ⟨(some 41), .mov (.t 94), none, false, 0, []⟩]
def b26_22 : SCode := .seq (.ops s26_10) (.seq (.cond (.t 42) (.skip) (.exit 1)) (.seq (.block 2 (.seq (.ops s26_11) (.seq (.ops s26_12) (.block 3 (.loop b26_20))))) (.ops s26_21)))
def s26_23 : List SIns := [
  ⟨(some 95), .mov (.t 9), none, false, 0, []⟩,
  ⟨(some 96), .nilck (.t 95), none, false, 0, []⟩,
  ⟨(some 97), .faddr 1 (.t 96), none, false, 0, []⟩,
  ⟨(some 98), .load none (.t 97), none, false, 0, []⟩,
  ⟨(some 99), .len (.t 98), none, false, 0, []⟩,
  ⟨(some 100), .bin .lss .prim (.t 99) (.c (.int .i64 (2))), none, false, 0, []⟩]
def s26_24 : List SIns := [
  ⟨(some 101), .mov (.t 9), none, false, 0, []⟩,
  ⟨(some 102), .nilck (.t 101), none, false, 0, []⟩,
  ⟨(some 103), .faddr 1 (.t 102), none, false, 0, []⟩,
  ⟨(some 104), .load none (.t 103), none, false, 0, []⟩,
  ⟨(some 6), .mov (.t 104), none, false, 0, []⟩]
def s26_25 : List SIns := [
  ⟨(some 105), .mov (.t 9), none, false, 0, []⟩,
  ⟨(some 106), .iface 60 (.t 105), none, false, 0, []⟩,
  ⟨(some 107), .mkArr 1 [.nilIface] 1 [(0, 1, (.t 106))], none, false, 0, []⟩,
  ⟨(some 6), .mov (.t 107), none, false, 0, []⟩]
def s26_26 : List SIns := [
  ⟨(some 108), .mov (.t 0), none, false, 0, []⟩,
  ⟨(some 109), .mkArr 1 [.nilIface] 1 [(0, 1, (.t 108))], none, false, 0, []⟩,
  ⟨(some 6), .mov (.t 109), none, false, 0, []⟩]
def c26 : SCode := .seq (.ops s26_0) (.seq (.seq (.ops s26_1) (.block 0 (.seq (.ops s26_2) (.cond (.t 18) (.seq (.ops s26_3) (.seq (.ops s26_4) (.cond (.t 25) (.seq (.ops s26_5) (.ret)) (.skip)))) (.seq (.ops s26_6) (.cond (.t 28) (.seq (.ops s26_7) (.seq (.ops s26_8) (.seq (.seq (.ops s26_9) (.block 1 (.loop b26_22))) (.seq (.seq (.ops s26_23) (.cond (.t 100) (.seq (.ops s26_24) (.ret)) (.skip))) (.seq (.ops s26_25) (.ret)))))) (.skip))))))) (.seq (.ops s26_26) (.ret)))
def s27_0 : List SIns := [
  ⟨(some 2), .mov (.c (.bool false)), none, false, 0, []⟩]
def s27_1 : List SIns := [
  ⟨(some 4), .mov (.t 0), none, false, 0, []⟩,
  ⟨(some 5), .call (.fn 25) [(.t 4)], none, false, 0, []⟩,
  ⟨(some 3), .mov (.t 5), none, false, 0, []⟩]
def s27_2 : List SIns := [
  ⟨(some 6), .mov (.t 3), none, false, 0, []⟩,
  ⟨(some 7), .len (.t 6), none, false, 0, []⟩,
  ⟨(some 8), .bin .eql .prim (.t 7) (.c (.int .i64 (1))), none, false, 0, []⟩,
  ⟨(some 9), .mov (.t 8), none, false, 0, []⟩,
  ⟨(some 10), .mov (.t 3), some (9, false), false, 0, []⟩,
  ⟨(some 11), .call (.fn 40) [(.t 10), (.c (.func (.func 41) #[] #[]))], some (9, false), false, 0, []⟩,
  ⟨(some 12), .un .not (.t 11), some (9, false), false, 0, []⟩,
  ⟨(some 13), .pick (.t 9) (.c (.bool true)) (.t 12), none, false, 0, []⟩,
  ⟨(some 2), .mov (.t 13), none, false, 0, []⟩]
def c27 : SCode := .seq (.ops s27_0) (.seq (.ops s27_1) (.seq (.ops s27_2) (.ret)))
def s28_0 : List SIns := [
  ⟨(some 3), .box (.t 1), none, false, 0, []⟩,
  ⟨(some 4), .mov (.c (.int .i64 (0))), none, false, 0, []⟩]
def s28_1 : List SIns := [
  ⟨(some 5), .mov (.t 0), none, false, 0, []⟩,
  ⟨(some 6), .call (.fn 25) [(.t 5)], none, false, 0, []⟩,
  ⟨(some 7), .mkfn 43 [] [(.t 3)], none, false, 0, []⟩,
  ⟨(some 8), .call (.fn 42) [(.t 6), (.t 7)], none, false, 0, []⟩,
  ⟨(some 4), .mov (.t 8), none, false, 0, []⟩]
def c28 : SCode := .seq (.ops s28_0) (.seq (.ops s28_1) (.ret))
def s29_0 : List SIns := [
  ⟨(some 6), .mov (.t 0), none, false, 0, []⟩,
  ⟨(some 7), .mov (.t 1), none, false, 0, []⟩,
  ⟨(some 8), .max [(.t 7), (.c (.int .i64 (2)))], none, false, 0, []⟩,
  ⟨(some 9), .min [(.t 8), (.c (.int .i64 (500)))], none, false, 0, []⟩,
  ⟨(some 10), .nilck (.t 6), none, false, 0, []⟩,
  ⟨(some 11), .faddr 3 (.t 10), none, false, 0, []⟩,
  ⟨none, .store 1 (.t 11) (.t 9), none, false, 0, []⟩]
def s29_1 : List SIns := [
  ⟨(some 12), .mov (.t 0), none, false, 0, []⟩,
  ⟨(some 13), .mov (.t 2), none, false, 0, []⟩,
  ⟨(some 14), .max [(.t 13), (.c (.int .i64 (2)))], none, false, 0, []⟩,
  ⟨(some 15), .min [(.t 14), (.c (.int .i64 (1000)))], none, false, 0, []⟩,
  ⟨(some 16), .nilck (.t 12), none, false, 0, []⟩,
  ⟨(some 17), .faddr 4 (.t 16), none, false, 0, []⟩,
  ⟨none, .store 1 (.t 17) (.t 15), none, false, 0, []⟩]
def c29 : SCode := .seq (.ops s29_0) (.ops s29_1)
def s30_0 : List SIns := [
  ⟨(some 6), .mov (.t 0), none, false, 0, []⟩,
  ⟨(some 7), .mov (.t 1), none, false, 0, []⟩,
  ⟨(some 8), .min [(.t 7), (.c (.int .i64 (500)))], none, false, 0, []⟩,
  ⟨(some 9), .max [(.c (.int .i64 (2))), (.t 8)], none, false, 0, []⟩,
  ⟨(some 10), .nilck (.t 6), none, false, 0, []⟩,
  ⟨(some 11), .faddr 5 (.t 10), none, false, 0, []⟩,
  ⟨none, .store 1 (.t 11) (.t 9), none, false, 0, []⟩]
def s30_1 : List SIns := [
  ⟨(some 12), .mov (.t 0), none, false, 0, []⟩,
  ⟨(some 13), .mov (.t 2), none, false, 0, []⟩,
  ⟨(some 14), .min [(.t 13), (.c (.int .i64 (1000)))], none, false, 0, []⟩,
  ⟨(some 15), .max [(.c (.int .i64 (2))), (.t 14)], none, false, 0, []⟩,
  ⟨(some 16), .nilck (.t 12), none, false, 0, []⟩,
  ⟨(some 17), .faddr 6 (.t 16), none, false, 0, []⟩,
  ⟨none, .store 1 (.t 17) (.t 15), none, false, 0, []⟩]
def c30 : SCode := .seq (.ops s30_0) (.ops s30_1)
def s31_0 : List SIns := [
  ⟨(some 4), .mov (.c (.int .i64 (0))), none, false, 0, []⟩,
  ⟨(some 5), .mov (.c (.int .i64 (0))), none, false, 0, []⟩]
def s31_1 : List SIns := [
  ⟨(some 6), .mov (.c (.int .i64 (1))), none, false, 0, []⟩]
def s31_2 : List SIns := [
  ⟨(some 8), .mov (.t 1), none, false, 0, []⟩]
def s31_3 : List SIns := [
  ⟨(some 6), .mov (.c (.int .i64 (2))), none, false, 0, []⟩]
def s31_4 : List SIns := [
  ⟨(some 9), .mov (.t 0), none, false, 0, []⟩,
  ⟨(some 10), .nilck (.t 9), none, false, 0, []⟩,
  ⟨(some 11), .faddr 0 (.t 10), none, false, 0, []⟩,
  ⟨(some 12), .load (some 3) (.t 11), none, false, 0, []⟩,
  ⟨(some 7), .new [.int .i64 (0), .int .i64 (0), .slice none 0 0], none, false, 0, []⟩,
  ⟨none, .store 3 (.t 7) (.t 12), none, false, 0, []⟩]
def s31_5 : List SIns := [
  ⟨(some 13), .mov (.t 0), none, false, 0, []⟩,
  ⟨(some 14), .mov (.t 0), none, false, 1, []⟩,
  ⟨(some 15), .nilck (.t 14), none, false, 2, []⟩,
  ⟨(some 16), .faddr 0 (.t 15), none, false, 3, []⟩,
  ⟨(some 17), .load (some 3) (.t 16), none, true, 4, []⟩,
  ⟨(some 18), .mov (.t 0), none, false, 5, []⟩,
  ⟨(some 19), .nilck (.t 18), none, false, 6, []⟩,
  ⟨(some 20), .faddr 4 (.t 19), none, false, 7, []⟩,
  ⟨(some 21), .load none (.t 20), none, true, 8, []⟩,
  ⟨(some 22), .mov (.t 6), none, false, 9, []⟩,
  ⟨(some 23), .mov (.t 0), none, false, 10, []⟩,
  ⟨(some 24), .nilck (.t 23), none, false, 11, []⟩,
  ⟨(some 25), .faddr 4 (.t 24), none, false, 12, []⟩,
  ⟨(some 26), .load none (.t 25), none, true, 13, []⟩,
  ⟨(some 27), .build [.int .i64 (0), .int .i64 (0), .slice none 0 0] [(1, 1, (.t 26))], none, false, 14, []⟩,
  ⟨(some 28), .mov (.t 0), none, false, 15, []⟩,
  ⟨(some 29), .nilck (.t 28), none, false, 16, []⟩,
  ⟨(some 30), .faddr 3 (.t 29), none, false, 17, []⟩,
  ⟨(some 31), .load none (.t 30), none, true, 18, []⟩,
  ⟨(some 32), .bin .add .prim (.t 31) (.c (.int .i64 (1))), none, false, 19, []⟩,
  ⟨(some 33), .build [.int .i64 (0), .int .i64 (0), .slice none 0 0] [(1, 1, (.t 32))], none, false, 20, []⟩,
  ⟨(some 34), .mkArr 3 [.int .i64 (0), .int .i64 (0), .slice none 0 0, .int .i64 (0), .int .i64 (0), .slice none 0 0] 2 [(0, 3, (.t 27)), (3, 3, (.t 33))], none, false, 21, []⟩,
  ⟨(some 35), .build [.int .i64 (0), .int .i64 (0), .slice none 0 0] [(0, 1, (.t 22)), (2, 1, (.t 34))], none, false, 22, []⟩,
  ⟨(some 36), .call (.fn 45) [(.t 17), (.t 21), (.t 35)], none, false, 23, [4, 8, 22]⟩,
  ⟨(some 37), .call (.fn 44) [(.t 36)], none, false, 24, [23, 23]⟩,
  ⟨(some 38), .nilck (.t 13), none, false, 25, []⟩,
  ⟨(some 39), .faddr 0 (.t 38), none, false, 26, []⟩,
  ⟨none, .store 3 (.t 39) (.t 37), none, false, 27, [26, 24, 24, 0, 1, 2, 3, 4, 5, 6, 7, 8, 9, 10, 11, 12, 13, 14, 15, 16, 17, 18, 19, 20, 21, 22, 23, 24]⟩]
def s31_6 : List SIns := [
  ⟨(some 40), .mov (.t 0), none, false, 0, []⟩,
  ⟨(some 41), .call (.fn 37) [(.t 40)], none, false, 0, []⟩,
  ⟨(some 42), .len (.t 41), none, false, 0, []⟩,
  ⟨(some 43), .bin .gtr .prim (.t 42) (.c (.int .i64 (16))), none, false, 0, []⟩,
  ⟨(some 44), .mov (.t 43), none, false, 0, []⟩,
  ⟨(some 45), .mov (.t 0), some (44, false), false, 0, []⟩,
  ⟨(some 46), .call (.fn 46) [(.t 45)], some (44, false), false, 0, []⟩,
  ⟨(some 47), .un .not (.t 46), some (44, false), false, 0, []⟩,
  ⟨(some 48), .pick (.t 44) (.c (.bool true)) (.t 47), none, false, 0, []⟩]
def s31_7 : List SIns := [
  ⟨(some 49), .mov (.t 0), none, false, 0, []⟩,
  ⟨(some 50), .load (some 3) (.t 7), none, false, 0, []⟩,
  ⟨(some 51), .nilck (.t 49), none, false, 0, []⟩,
  ⟨(some 52), .faddr 0 (.t 51), none, false, 0, []⟩,
  ⟨none, .store 3 (.t 52) (.t 50), none, false, 0, []⟩]
def s31_8 : List SIns := [
  ⟨(some 4), .mov (.c (.int .i64 (0))), none, false, 0, []⟩,
  ⟨(some 5), .mov (.c (.int .i64 (33))), none, false, 0, []⟩]
def s31_9 : List SIns := [
  ⟨(some 53), .mov (.t 0), none, false, 0, []⟩,
  ⟨(some 54), .nilck (.t 53), none, false, 0, []⟩,
  ⟨(some 55), .faddr 3 (.t 54), none, false, 0, []⟩,
  ⟨(some 56), .load none (.t 55), none, false, 0, []⟩,
  ⟨(some 57), .bin .add .prim (.t 56) (.c (.int .i64 (1))), none, false, 0, []⟩,
  ⟨(some 58), .nilck (.t 53), none, false, 0, []⟩,
  ⟨(some 59), .faddr 3 (.t 58), none, false, 0, []⟩,
  ⟨none, .store 1 (.t 59) (.t 57), none, false, 0, []⟩]
def s31_10 : List SIns := [
  ⟨(some 60), .mov (.t 0), none, false, 0, []⟩,
  ⟨(some 61), .mov (.t 0), none, false, 0, []⟩,
  ⟨(some 62), .nilck (.t 61), none, false, 0, []⟩,
  ⟨(some 63), .faddr 3 (.t 62), none, false, 0, []⟩,
  ⟨(some 64), .load none (.t 63), none, false, 0, []⟩,
  ⟨(some 65), .nilck (.t 60), none, false, 0, []⟩,
  ⟨(some 66), .faddr 4 (.t 65), none, false, 0, []⟩,
  ⟨none, .store 1 (.t 66) (.t 64), none, false, 0, []⟩]
def s31_11 : List SIns := [
  ⟨(some 67), .mov (.t 0), none, false, 0, []⟩,
  ⟨(some 68), .nilck (.t 67), none, false, 0, []⟩,
  ⟨(some 69), .faddr 3 (.t 68), none, false, 0, []⟩,
  ⟨(some 70), .load none (.t 69), none, false, 0, []⟩,
  ⟨(some 4), .mov (.t 70), none, false, 0, []⟩,
  ⟨(some 5), .mov (.c (.int .i64 (0))), none, false, 0, []⟩]
def c31 : SCode := .seq (.ops s31_0) (.seq (.ops s31_1) (.seq (.seq (.ops s31_2) (.cond (.t 8) (.ops s31_3) (.skip))) (.seq (.ops s31_4) (.seq (.draw s31_5) (.seq (.seq (.ops s31_6) (.cond (.t 48) (.seq (.ops s31_7) (.seq (.ops s31_8) (.ret))) (.skip))) (.seq (.ops s31_9) (.seq (.ops s31_10) (.seq (.ops s31_11) (.ret)))))))))
def s32_0 : List SIns := [
  ⟨(some 4), .mov (.c (.int .i64 (0))), none, false, 0, []⟩]
def s32_1 : List SIns := [
  ⟨(some 6), .mov (.t 0), none, false, 0, []⟩,
  ⟨(some 7), .mov (.t 1), none, false, 0, []⟩,
  ⟨(some 8), .call (.fn 47) [(.t 6), (.t 7)], none, false, 0, []⟩,
  ⟨(some 5), .mov (.t 8), none, false, 0, []⟩]
def s32_2 : List SIns := [
  ⟨(some 9), .mov (.t 5), none, false, 0, []⟩,
  ⟨(some 10), .bin .lss .prim (.t 9) (.c (.int .i64 (0))), none, false, 0, []⟩]
def s32_3 : List SIns := [
  ⟨(some 4), .mov (.c (.int .i64 (4))), none, false, 0, []⟩]
def s32_4 : List SIns := [
  ⟨(some 11), .mov (.t 0), none, false, 0, []⟩,
  ⟨(some 12), .call (.fn 37) [(.t 11)], none, false, 0, []⟩,
  ⟨(some 13), .len (.t 12), none, false, 0, []⟩,
  ⟨(some 14), .bin .eql .prim (.t 13) (.c (.int .i64 (1))), none, false, 0, []⟩]
def s32_5 : List SIns := [
  ⟨(some 4), .mov (.c (.int .i64 (33))), none, false, 0, []⟩]
def s32_6 : List SIns := [
  ⟨(some 15), .mov (.t 0), none, false, 0, []⟩,
  ⟨(some 16), .mov (.t 0), none, false, 0, []⟩,
  ⟨(some 17), .nilck (.t 16), none, false, 0, []⟩,
  ⟨(some 18), .faddr 0 (.t 17), none, false, 0, []⟩,
  ⟨(some 19), .load (some 3) (.t 18), none, false, 0, []⟩,
  ⟨(some 20), .mov (.t 1), none, false, 0, []⟩,
  ⟨(some 21), .build [.int .i64 (0), .int .i64 (0), .slice none 0 0] [], none, false, 0, []⟩,
  ⟨(some 22), .call (.fn 45) [(.t 19), (.t 20), (.t 21)], none, false, 0, []⟩,
  ⟨(some 23), .call (.fn 44) [(.t 22)], none, false, 0, []⟩,
  ⟨(some 24), .nilck (.t 15), none, false, 0, []⟩,
  ⟨(some 25), .faddr 0 (.t 24), none, false, 0, []⟩,
  ⟨none, .store 3 (.t 25) (.t 23), none, false, 0, []⟩]
def s32_7 : List SIns := [
  ⟨(some 26), .mov (.t 1), none, false, 0, []⟩,
  ⟨(some 27), .mov (.t 0), none, false, 0, []⟩,
  ⟨(some 28), .nilck (.t 27), none, false, 0, []⟩,
  ⟨(some 29), .faddr 4 (.t 28), none, false, 0, []⟩,
  ⟨(some 30), .load none (.t 29), none, false, 0, []⟩,
  ⟨(some 31), .bin .eql .prim (.t 26) (.t 30), none, false, 0, []⟩]
def s32_8 : List SIns := [
  ⟨(some 32), .mov (.t 0), none, false, 0, []⟩,
  ⟨(some 33), .mov (.t 0), none, false, 0, []⟩,
  ⟨(some 34), .call (.fn 37) [(.t 33)], none, false, 0, []⟩,
  ⟨(some 35), .mov (.t 5), none, false, 0, []⟩,
  ⟨(some 36), .bin .sub .prim (.t 35) (.c (.int .i64 (1))), none, false, 0, []⟩,
  ⟨(some 37), .max [(.c (.int .i64 (0))), (.t 36)], none, false, 0, []⟩,
  ⟨(some 38), .iaddr 5 (.t 34) (.t 37), none, false, 0, []⟩,
  ⟨(some 39), .faddr 0 (.t 38), none, false, 0, []⟩,
  ⟨(some 40), .load none (.t 39), none, false, 0, []⟩,
  ⟨(some 41), .nilck (.t 32), none, false, 0, []⟩,
  ⟨(some 42), .faddr 4 (.t 41), none, false, 0, []⟩,
  ⟨none, .store 1 (.t 42) (.t 40), none, false, 0, []⟩]
def s32_9 : List SIns := [
  ⟨(some 4), .mov (.c (.int .i64 (0))), none, false, 0, []⟩]
def c32 : SCode := .seq (.ops s32_0) (.seq (.ops s32_1) (.seq (.seq (.ops s32_2) (.cond (.t 10) (.seq (.ops s32_3) (.ret)) (.skip))) (.seq (.seq (.ops s32_4) (.cond (.t 14) (.seq (.ops s32_5) (.ret)) (.skip))) (.seq (.ops s32_6) (.seq (.seq (.ops s32_7) (.cond (.t 31) (.ops s32_8) (.skip))) (.seq (.ops s32_9) (.ret)))))))
def s33_0 : List SIns := [
  ⟨(some 2), .mov (.t 0), none, false, 0, []⟩,
  ⟨(some 3), .mov (.t 0), none, false, 0, []⟩,
  ⟨(some 4), .nilck (.t 3), none, false, 0, []⟩,
  ⟨(some 5), .faddr 4 (.t 4), none, false, 0, []⟩,
  ⟨(some 6), .load none (.t 5), none, false, 0, []⟩,
  ⟨(some 7), .build [.int .i64 (0), .int .i64 (0), .slice none 0 0] [(1, 1, (.t 6))], none, false, 0, []⟩,
  ⟨(some 8), .nilck (.t 2), none, false, 0, []⟩,
  ⟨(some 9), .faddr 0 (.t 8), none, false, 0, []⟩,
  ⟨none, .store 3 (.t 9) (.t 7), none, false, 0, []⟩]
def c33 : SCode := .ops s33_0
def s34_0 : List SIns := [
  ⟨(some 4), .mov (.c (.int .i64 (0))), none, false, 0, []⟩]
def s34_1 : List SIns := [
  ⟨(some 5), .mov (.t 0), none, false, 0, []⟩,
  ⟨(some 6), .mov (.t 1), none, false, 0, []⟩,
  ⟨(some 7), .call (.fn 47) [(.t 5), (.t 6)], none, false, 0, []⟩,
  ⟨(some 8), .bin .lss .prim (.t 7) (.c (.int .i64 (0))), none, false, 0, []⟩]
def s34_2 : List SIns := [
  ⟨(some 4), .mov (.c (.int .i64 (4))), none, false, 0, []⟩]
def s34_3 : List SIns := [
  ⟨(some 9), .mov (.t 0), none, false, 0, []⟩,
  ⟨(some 10), .mov (.t 1), none, false, 0, []⟩,
  ⟨(some 11), .nilck (.t 9), none, false, 0, []⟩,
  ⟨(some 12), .faddr 4 (.t 11), none, false, 0, []⟩,
  ⟨none, .store 1 (.t 12) (.t 10), none, false, 0, []⟩]
def s34_4 : List SIns := [
  ⟨(some 4), .mov (.c (.int .i64 (0))), none, false, 0, []⟩]
def c34 : SCode := .seq (.ops s34_0) (.seq (.seq (.ops s34_1) (.cond (.t 8) (.seq (.ops s34_2) (.ret)) (.skip))) (.seq (.ops s34_3) (.seq (.ops s34_4) (.ret))))
def s35_0 : List SIns := [
  ⟨(some 6), .mov (.t 0), none, false, 0, []⟩,
  ⟨(some 7), .call (.fn 37) [(.t 6)], none, false, 0, []⟩,
  ⟨(some 4), .mov (.t 7), none, false, 0, []⟩]
def s35_1 : List SIns := [
  ⟨(some 8), .mov (.t 0), none, false, 0, []⟩,
  ⟨(some 9), .mov (.t 0), none, false, 1, []⟩,
  ⟨(some 10), .nilck (.t 9), none, false, 2, []⟩,
  ⟨(some 11), .faddr 4 (.t 10), none, false, 3, []⟩,
  ⟨(some 12), .load none (.t 11), none, false, 4, []⟩,
  ⟨(some 14), .mov (.t 1), none, false, 6, []⟩,
  ⟨(some 15), .mov (.t 4), none, false, 7, []⟩,
  ⟨(some 16), .len (.t 15), none, false, 8, []⟩,
  ⟨(some 17), .bin .rem .prim (.t 14) (.t 16), none, false, 9, []⟩,
  ⟨(some 19), .mov (.t 4), none, false, 11, []⟩,
  ⟨(some 20), .len (.t 19), none, false, 12, []⟩,
  ⟨(some 22), .mov (.t 4), none, false, 14, []⟩,
  ⟨(some 23), .len (.t 22), none, false, 15, []⟩,
  ⟨(some 13), .call (.fn 47) [(.t 8), (.t 12)], none, false, 5, [0, 4]⟩,
  ⟨(some 18), .bin .add .prim (.t 13) (.t 17), none, false, 10, []⟩,
  ⟨(some 21), .bin .add .prim (.t 18) (.t 20), none, false, 13, []⟩,
  ⟨(some 24), .bin .rem .prim (.t 21) (.t 23), none, false, 16, []⟩,
  ⟨(some 5), .mov (.t 24), none, false, 17, []⟩]
def s35_2 : List SIns := [
  ⟨(some 25), .mov (.t 0), none, false, 0, []⟩,
  ⟨(some 26), .mov (.t 4), none, false, 0, []⟩,
  ⟨(some 27), .mov (.t 5), none, false, 0, []⟩,
  ⟨(some 28), .iaddr 5 (.t 26) (.t 27), none, false, 0, []⟩,
  ⟨(some 29), .faddr 0 (.t 28), none, false, 0, []⟩,
  ⟨(some 30), .load none (.t 29), none, false, 0, []⟩,
  ⟨(some 31), .nilck (.t 25), none, false, 0, []⟩,
  ⟨(some 32), .faddr 4 (.t 31), none, false, 0, []⟩,
  ⟨none, .store 1 (.t 32) (.t 30), none, false, 0, []⟩]
def c35 : SCode := .seq (.ops s35_0) (.seq (.draw s35_1) (.ops s35_2))
def s36_0 : List SIns := [
  ⟨(some 6), .mov (.c (.int .i64 (0))), none, false, 0, []⟩]
def s36_1 : List SIns := [
  ⟨(some 10), .mov (.t 0), none, false, 0, []⟩,
  ⟨(some 11), .mov (.t 1), none, false, 0, []⟩,
  ⟨(some 12), .mov (.t 2), none, false, 0, []⟩,
  ⟨(some 13), .call (.fn 30) [(.t 10), (.t 11), (.t 12)], none, false, 0, []⟩]
def s36_2 : List SIns := [
  ⟨(some 7), .mov (.c (.int .i64 (0))), none, false, 0, []⟩]
def s36_3 : List SIns := [
  ⟨(some 14), .mov (.t 0), none, false, 0, []⟩,
  ⟨(some 15), .call (.fn 46) [(.t 14)], none, false, 0, []⟩,
  ⟨(some 16), .un .not (.t 15), none, false, 0, []⟩]
def s36_4 : List SIns := [
  ⟨(some 17), .mov (.t 0), none, false, 0, []⟩,
  ⟨(some 18), .call (.fn 37) [(.t 17)], none, false, 0, []⟩,
  ⟨(some 8), .mov (.t 18), none, false, 0, []⟩]
def s36_5 : List SIns := [
  ⟨(some 19), .mov (.t 8), none, false, 0, []⟩,
  ⟨(some 20), .mov (.t 8), none, false, 0, []⟩,
  ⟨(some 21), .len (.t 20), none, false, 0, []⟩,
  ⟨(some 22), .bin .sub .prim (.t 21) (.c (.int .i64 (1))), none, false, 0, []⟩,
  ⟨(some 23), .iaddr 5 (.t 19) (.t 22), none, false, 0, []⟩,
  ⟨(some 24), .faddr 0 (.t 23), none, false, 0, []⟩,
  ⟨(some 25), .load none (.t 24), none, false, 0, []⟩,
  ⟨(some 9), .mov (.t 25), none, false, 0, []⟩]
def s36_6 : List SIns := [
  ⟨(some 26), .mov (.t 9), none, false, 0, []⟩,
  ⟨(some 27), .mov (.t 0), none, false, 0, []⟩,
  ⟨(some 28), .nilck (.t 27), none, false, 0, []⟩,
  ⟨(some 29), .faddr 4 (.t 28), none, false, 0, []⟩,
  ⟨(some 30), .load none (.t 29), none, false, 0, []⟩,
  ⟨(some 31), .bin .eql .prim (.t 26) (.t 30), none, false, 0, []⟩]
def s36_7 : List SIns := [
  ⟨(some 32), .mov (.t 8), none, false, 0, []⟩,
  ⟨(some 33), .mov (.t 8), none, false, 0, []⟩,
  ⟨(some 34), .len (.t 33), none, false, 0, []⟩,
  ⟨(some 35), .bin .sub .prim (.t 34) (.c (.int .i64 (2))), none, false, 0, []⟩,
  ⟨(some 36), .iaddr 5 (.t 32) (.t 35), none, false, 0, []⟩,
  ⟨(some 37), .faddr 0 (.t 36), none, false, 0, []⟩,
  ⟨(some 38), .load none (.t 37), none, false, 0, []⟩,
  ⟨(some 9), .mov (.t 38), none, false, 0, []⟩]
def s36_8 : List SIns := [
  ⟨(some 39), .mov (.t 0), none, false, 0, []⟩,
  ⟨(some 40), .mov (.t 9), none, false, 0, []⟩,
  ⟨(some 41), .call (.fn 32) [(.t 39), (.t 40)], none, false, 0, []⟩]
def s36_9 : List SIns := [
  ⟨(some 42), .mov (.t 7), none, false, 0, []⟩,
  ⟨(some 43), .bin .add .prim (.t 42) (.c (.int .i64 (1))), none, false, 0, []⟩,
  ⟨(some 7), .mov (.t 43), none, false, 0, []⟩]
def b36_10 : SCode := .seq (.seq (.ops s36_3) (.cond (.t 16) (.skip) (.exit 0))) (.block 1 (.seq (.ops s36_4) (.seq (.ops s36_5) (.seq (.seq (.ops s36_6) (.cond (.t 31) (.ops s36_7) (.skip))) (.seq (.ops s36_8) (.ops s36_9))))))
def s36_11 : List SIns := [
  ⟨(some 44), .mov (.t 7), none, false, 0, []⟩,
  ⟨(some 6), .mov (.t 44), none, false, 0, []⟩]
def c36 : SCode := .seq (.ops s36_0) (.seq (.ops s36_1) (.seq (.ops s36_2) (.seq (.block 0 (.loop b36_10)) (.seq (.ops s36_11) (.ret)))))
def s37_0 : List SIns := [
  ⟨(some 2), .mov (.c (.slice none 0 0)), none, false, 0, []⟩]
def s37_1 : List SIns := [
  ⟨(some 3), .mov (.t 0), none, false, 0, []⟩,
  ⟨(some 4), .nilck (.t 3), none, false, 1, []⟩,
  ⟨(some 5), .faddr 0 (.t 4), none, false, 2, []⟩,
  ⟨(some 6), .load (some 3) (.t 5), none, false, 3, []⟩,
  ⟨(some 7), .mov (.t 0), none, false, 4, []⟩,
  ⟨(some 8), .nilck (.t 7), none, false, 5, []⟩,
  ⟨(some 9), .faddr 5 (.t 8), none, false, 6, []⟩,
  ⟨(some 10), .load none (.t 9), none, true, 7, []⟩,
  ⟨(some 11), .bin .sub .prim (.t 10) (.c (.int .i64 (1))), none, false, 8, []⟩,
  ⟨(some 12), .mov (.t 0), none, false, 9, []⟩,
  ⟨(some 13), .nilck (.t 12), none, false, 10, []⟩,
  ⟨(some 14), .faddr 6 (.t 13), none, false, 11, []⟩,
  ⟨(some 15), .load none (.t 14), none, false, 12, []⟩,
  ⟨(some 16), .call (.fn 48) [(.t 6), (.c (.int .i64 (0))), (.c (.int .i64 (0))), (.t 11), (.t 15)], none, false, 13, [3, 8, 12]⟩,
  ⟨(some 2), .mov (.t 16), none, false, 14, []⟩]
def c37 : SCode := .seq (.ops s37_0) (.seq (.draw s37_1) (.ret))
def s38_0 : List SIns := [
  ⟨(some 4), .mov (.c (.slice none 0 0)), none, false, 0, []⟩]
def s38_1 : List SIns := [
  ⟨(some 8), .mov (.t 0), none, false, 0, []⟩,
  ⟨(some 9), .mov (.t 1), none, false, 0, []⟩,
  ⟨(some 10), .call (.fn 42) [(.t 8), (.t 9)], none, false, 0, []⟩,
  ⟨(some 5), .mov (.t 10), none, false, 0, []⟩]
def s38_2 : List SIns := [
  ⟨(some 11), .mov (.t 5), none, false, 0, []⟩,
  ⟨(some 12), .bin .eql .prim (.t 11) (.c (.int .i64 (-1))), none, false, 0, []⟩]
def s38_3 : List SIns := [
  ⟨(some 13), .mov (.t 0), none, false, 0, []⟩,
  ⟨(some 4), .mov (.t 13), none, false, 0, []⟩]
def s38_4 : List SIns := [
  ⟨(some 14), .mov (.t 5), none, false, 0, []⟩,
  ⟨(some 15), .bin .add .prim (.t 14) (.c (.int .i64 (1))), none, false, 0, []⟩,
  ⟨(some 6), .mov (.t 15), none, false, 0, []⟩]
def s38_5 : List SIns := [
  ⟨(some 16), .mov (.t 6), none, false, 0, []⟩,
  ⟨(some 17), .mov (.t 0), none, false, 0, []⟩,
  ⟨(some 18), .len (.t 17), none, false, 0, []⟩,
  ⟨(some 19), .bin .lss .prim (.t 16) (.t 18), none, false, 0, []⟩]
def s38_6 : List SIns := [
  ⟨(some 22), .mov (.t 0), none, false, 0, []⟩,
  ⟨(some 23), .mov (.t 6), none, false, 0, []⟩,
  ⟨(some 24), .iaddr 5 (.t 22) (.t 23), none, false, 0, []⟩,
  ⟨(some 25), .load (some 5) (.t 24), none, false, 0, []⟩,
  ⟨(some 7), .new [.int .i64 (0), .int .i64 (0), .int .i64 (0), .int .i64 (0), .int .i64 (0)], none, false, 0, []⟩,
  ⟨none, .store 5 (.t 7) (.t 25), none, false, 0, []⟩]
def s38_7 : List SIns := [
  ⟨(some 26), .mov (.t 1), none, false, 0, []⟩,
  ⟨(some 27), .load (some 5) (.t 7), none, false, 0, []⟩,
  ⟨(some 28), .call (.val (.t 26)) [(.t 27)], none, false, 0, []⟩,
  ⟨(some 29), .un .not (.t 28), none, false, 0, []⟩]
def s38_8 : List SIns := [
  ⟨(some 30), .mov (.t 0), none, false, 0, []⟩,
  ⟨(some 31), .mov (.t 5), none, false, 0, []⟩,
  ⟨(some 32), .load (some 5) (.t 7), none, false, 0, []⟩,
  ⟨(some 33), .iaddr 5 (.t 30) (.t 31), none, false, 0, []⟩,
  ⟨none, .store 5 (.t 33) (.t 32), none, false, 0, []⟩]
def s38_9 : List SIns := [
  ⟨(some 34), .mov (.t 5), none, false, 0, []⟩,
  ⟨(some 35), .bin .add .prim (.t 34) (.c (.int .i64 (1))), none, false, 0, []⟩,
  ⟨(some 5), .mov (.t 35), none, false, 0, []⟩]
def s38_10 : List SIns := [
  ⟨(some 20), .mov (.t 6), none, false, 0, []⟩,
  ⟨(some 21), .bin .add .prim (.t 20) (.c (.int .i64 (1))), none, false, 0, []⟩,
  ⟨(some 6), .mov (.t 21), none, false, 0, []⟩]
def b38_11 : SCode := .seq (.seq (.ops s38_5) (.cond (.t 19) (.skip) (.exit 0))) (.seq (.block 1 (.seq (.ops s38_6) (.seq (.ops s38_7) (.cond (.t 29) (.seq (.ops s38_8) (.ops s38_9)) (.skip))))) (.ops s38_10))
def s38_12 : List SIns := [
  ⟨(some 36), .mov (.t 0), none, false, 0, []⟩,
  ⟨(some 37), .mov (.t 5), none, false, 0, []⟩,
  ⟨(some 38), .slice 5 (.t 36) (some (.t 37)) none none, none, false, 0, []⟩,
  ⟨none, .clear 5 [.int .i64 (0), .int .i64 (0), .int .i64 (0), .int .i64 (0), .int .i64 (0)] (.t 38), none, false, 0, []⟩]
def s38_13 : List SIns := [
  ⟨(some 39), .mov (.t 0), none, false, 0, []⟩,
  ⟨(some 40), .mov (.t 5), none, false, 0, []⟩,
  ⟨(some 41), .slice 5 (.t 39) none (some (.t 40)) none, none, false, 0, []⟩,
  ⟨(some 4), .mov (.t 41), none, false, 0, []⟩]
def c38 : SCode := .seq (.ops s38_0) (.seq (.ops s38_1) (.seq (.seq (.ops s38_2) (.cond (.t 12) (.seq (.ops s38_3) (.ret)) (.skip))) (.seq (.seq (.ops s38_4) (.block 0 (.loop b38_11))) (.seq (.ops s38_12) (.seq (.ops s38_13) (.ret))))))
def s39_0 : List SIns := [
  ⟨(some 2), .box (.t 0), none, false, 0, []⟩,
  ⟨(some 3), .mov (.c (.bool false)), none, false, 0, []⟩]
def s39_1 : List SIns := [
  ⟨(some 4), .faddr 0 (.t 2), none, false, 0, []⟩,
  ⟨(some 5), .load none (.t 4), none, false, 1, []⟩,
  ⟨(some 6), .load none (.t 1), none, false, 2, []⟩,
  ⟨(some 7), .nilck (.t 6), none, false, 3, []⟩,
  ⟨(some 8), .faddr 2 (.t 7), none, false, 4, []⟩,
  ⟨(some 9), .load none (.t 8), none, false, 5, []⟩,
  ⟨(some 10), .bin .eql .prim (.t 5) (.t 9), none, false, 6, []⟩,
  ⟨(some 3), .mov (.t 10), none, false, 7, []⟩]
def c39 : SCode := .seq (.ops s39_0) (.seq (.draw s39_1) (.ret))
def s40_0 : List SIns := [
  ⟨(some 4), .mov (.c (.bool false)), none, false, 0, []⟩]
def s40_1 : List SIns := [
  ⟨(some 5), .mov (.t 0), none, false, 0, []⟩,
  ⟨(some 6), .mov (.t 1), none, false, 0, []⟩,
  ⟨(some 7), .call (.fn 42) [(.t 5), (.t 6)], none, false, 0, []⟩,
  ⟨(some 8), .bin .geq .prim (.t 7) (.c (.int .i64 (0))), none, false, 0, []⟩,
  ⟨(some 4), .mov (.t 8), none, false, 0, []⟩]
def c40 : SCode := .seq (.ops s40_0) (.seq (.ops s40_1) (.ret))
def s41_0 : List SIns := [
  ⟨(some 1), .box (.t 0), none, false, 0, []⟩,
  ⟨(some 2), .mov (.c (.bool false)), none, false, 0, []⟩]
def s41_1 : List SIns := [
  ⟨(some 3), .faddr 3 (.t 1), none, false, 0, []⟩,
  ⟨(some 4), .load none (.t 3), none, false, 0, []⟩,
  ⟨(some 5), .bin .lss .prim (.t 4) (.c (.int .i64 (2))), none, false, 0, []⟩,
  ⟨(some 6), .mov (.t 5), none, false, 0, []⟩,
  ⟨(some 7), .faddr 4 (.t 1), some (6, false), false, 0, []⟩,
  ⟨(some 8), .load none (.t 7), some (6, false), false, 0, []⟩,
  ⟨(some 9), .bin .lss .prim (.t 8) (.c (.int .i64 (2))), some (6, false), false, 0, []⟩,
  ⟨(some 10), .pick (.t 6) (.c (.bool true)) (.t 9), none, false, 0, []⟩,
  ⟨(some 2), .mov (.t 10), none, false, 0, []⟩]
def c41 : SCode := .seq (.ops s41_0) (.seq (.ops s41_1) (.ret))
def s42_0 : List SIns := [
  ⟨(some 4), .mov (.c (.int .i64 (0))), none, false, 0, []⟩]
def s42_1 : List SIns := [
  ⟨(some 6), .mov (.t 0), none, false, 0, []⟩,
  ⟨(some 7), .len (.t 6), none, false, 0, []⟩,
  ⟨(some 8), .mov (.c (.int .i64 (0))), none, false, 0, []⟩]
def s42_2 : List SIns := [
  ⟨(some 9), .bin .lss .prim (.t 8) (.t 7), none, false, 0, []⟩]
def s42_3 : List SIns := [
  ⟨(some 10), .mov (.t 8), none, false, 0, []⟩,
  ⟨(some 5), .mov (.t 10), none, false, 0, []⟩]
def s42_4 : List SIns := [
  ⟨(some 11), .mov (.t 1), none, false, 0, []⟩,
  ⟨(some 12), .mov (.t 0), none, false, 0, []⟩,
  ⟨(some 13), .mov (.t 5), none, false, 0, []⟩,
  ⟨(some 14), .iaddr 5 (.t 12) (.t 13), none, false, 0, []⟩,
  ⟨(some 15), .load (some 5) (.t 14), none, false, 0, []⟩,
  ⟨(some 16), .call (.val (.t 11)) [(.t 15)], none, false, 0, []⟩]
def s42_5 : List SIns := [
  ⟨(some 17), .mov (.t 5), none, false, 0, []⟩,
  ⟨(some 4), .mov (.t 17), none, false, 0, []⟩]
def s42_6 : List SIns := [
  ⟨(some 18), .bin .add .prim (.t 8) (.c (.int .i64 (1))), none, false, 0, []⟩,
  ⟨(some 8), .mov (.t 18), none, false, 0, []⟩]
def b42_7 : SCode := .seq (.ops s42_2) (.seq (.cond (.t 9) (.skip) (.exit 0)) (.seq (.block 1 (.seq (.ops s42_3) (.seq (.ops s42_4) (.cond (.t 16) (.seq (.ops s42_5) (.ret)) (.skip))))) (.ops s42_6)))
def s42_8 : List SIns := [
  ⟨(some 4), .mov (.c (.int .i64 (-1))), none, false, 0, []⟩]
def c42 : SCode := .seq (.ops s42_0) (.seq (.seq (.ops s42_1) (.block 0 (.loop b42_7))) (.seq (.ops s42_8) (.ret)))
def s43_0 : List SIns := [
  ⟨(some 2), .box (.t 0), none, false, 0, []⟩,
  ⟨(some 3), .mov (.c (.bool false)), none, false, 0, []⟩]
def s43_1 : List SIns := [
  ⟨(some 4), .faddr 0 (.t 2), none, false, 0, []⟩,
  ⟨(some 5), .load none (.t 4), none, false, 0, []⟩,
  ⟨(some 6), .load none (.t 1), none, false, 0, []⟩,
  ⟨(some 7), .bin .eql .prim (.t 5) (.t 6), none, false, 0, []⟩,
  ⟨(some 3), .mov (.t 7), none, false, 0, []⟩]
def c43 : SCode := .seq (.ops s43_0) (.seq (.ops s43_1) (.ret))
def s44_0 : List SIns := [
  ⟨(some 1), .box (.t 0), none, false, 0, []⟩,
  ⟨(some 2), .new [.int .i64 (0), .int .i64 (0), .slice none 0 0], none, false, 0, []⟩]
def s44_1 : List SIns := [
  ⟨(some 6), .faddr 0 (.t 1), none, false, 0, []⟩,
  ⟨(some 7), .load none (.t 6), none, false, 0, []⟩,
  ⟨(some 8), .bin .eql .prim (.t 7) (.c (.int .i64 (0))), none, false, 0, []⟩]
def s44_2 : List SIns := [
  ⟨(some 9), .load (some 3) (.t 1), none, false, 0, []⟩,
  ⟨none, .store 3 (.t 2) (.t 9), none, false, 0, []⟩]
def s44_3 : List SIns := [
  ⟨(some 3), .mov (.c (.slice none 0 0)), none, false, 0, []⟩]
def s44_4 : List SIns := [
  ⟨(some 4), .mov (.c (.int .i64 (0))), none, false, 0, []⟩]
def s44_5 : List SIns := [
  ⟨(some 10), .mov (.t 4), none, false, 0, []⟩,
  ⟨(some 11), .faddr 2 (.t 1), none, false, 0, []⟩,
  ⟨(some 12), .load none (.t 11), none, false, 0, []⟩,
  ⟨(some 13), .len (.t 12), none, false, 0, []⟩,
  ⟨(some 14), .bin .lss .prim (.t 10) (.t 13), none, false, 0, []⟩]
def s44_6 : List SIns := [
  ⟨(some 17), .faddr 2 (.t 1), none, false, 0, []⟩,
  ⟨(some 18), .load none (.t 17), none, false, 0, []⟩,
  ⟨(some 19), .mov (.t 4), none, false, 0, []⟩,
  ⟨(some 20), .iaddr 3 (.t 18) (.t 19), none, false, 0, []⟩,
  ⟨(some 21), .load (some 3) (.t 20), none, false, 0, []⟩,
  ⟨(some 22), .call (.fn 44) [(.t 21)], none, false, 0, []⟩,
  ⟨(some 5), .new [.int .i64 (0), .int .i64 (0), .slice none 0 0], none, false, 0, []⟩,
  ⟨none, .store 3 (.t 5) (.t 22), none, false, 0, []⟩]
def s44_7 : List SIns := [
  ⟨(some 23), .faddr 0 (.t 5), none, false, 0, []⟩,
  ⟨(some 24), .load none (.t 23), none, false, 0, []⟩,
  ⟨(some 25), .faddr 0 (.t 1), none, false, 0, []⟩,
  ⟨(some 26), .load none (.t 25), none, false, 0, []⟩,
  ⟨(some 27), .bin .eql .prim (.t 24) (.t 26), none, false, 0, []⟩]
def s44_8 : List SIns := [
  ⟨(some 28), .mov (.t 3), none, false, 0, []⟩,
  ⟨(some 29), .faddr 2 (.t 5), none, false, 0, []⟩,
  ⟨(some 30), .load none (.t 29), none, false, 0, []⟩,
  ⟨(some 31), .append 3 40 (.t 28) (.t 30), none, false, 0, []⟩,
  ⟨(some 3), .mov (.t 31), none, false, 0, []⟩]
def s44_9 : List SIns := [
  ⟨(some 32), .faddr 0 (.t 5), none, false, 0, []⟩,
  ⟨(some 33), .load none (.t 32), none, false, 0, []⟩,
  ⟨(some 34), .bin .neq .prim (.t 33) (.c (.int .i64 (0))), none, false, 0, []⟩,
  ⟨(some 35), .mov (.t 34), none, false, 0, []⟩,
  ⟨(some 36), .faddr 1 (.t 5), some (35, false), false, 0, []⟩,
  ⟨(some 37), .load none (.t 36), some (35, false), false, 0, []⟩,
  ⟨(some 38), .bin .gtr .prim (.t 37) (.c (.int .i64 (0))), some (35, false), false, 0, []⟩,
  ⟨(some 39), .pick (.t 35) (.c (.bool true)) (.t 38), none, false, 0, []⟩]
def s44_10 : List SIns := [
  ⟨(some 40), .mov (.t 3), none, false, 0, []⟩,
  ⟨(some 41), .load (some 3) (.t 5), none, false, 0, []⟩,
  ⟨(some 42), .mkArr 3 [.int .i64 (0), .int .i64 (0), .slice none 0 0] 1 [(0, 3, (.t 41))], none, false, 0, []⟩,
  ⟨(some 43), .append 3 40 (.t 40) (.t 42), none, false, 0, []⟩,
  ⟨(some 3), .mov (.t 43), none, false, 0, []⟩]
def s44_11 : List SIns := [
  ⟨(some 15), .mov (.t 4), none, false, 0, []⟩,
  ⟨(some 16), .bin .add .prim (.t 15) (.c (.int .i64 (1))), none, false, 0, []⟩,
  ⟨(some 4), .mov (.t 16), none, false, 0, []⟩]
def b44_12 : SCode := .seq (.seq (.ops s44_5) (.cond (.t 14) (.skip) (.exit 0))) (.seq (.block 1 (.seq (.ops s44_6) (.seq (.ops s44_7) (.cond (.t 27) (.ops s44_8) (.seq (.ops s44_9) (.cond (.t 39) (.ops s44_10) (.skip))))))) (.ops s44_11))
def s44_13 : List SIns := [
  ⟨(some 44), .mov (.t 3), none, false, 0, []⟩,
  ⟨(some 45), .len (.t 44), none, false, 0, []⟩,
  ⟨(some 46), .bin .eql .prim (.t 45) (.c (.int .i64 (0))), none, false, 0, []⟩]
def s44_14 : List SIns := [
  ⟨(some 47), .build [.int .i64 (0), .int .i64 (0), .slice none 0 0] [], none, false, 0, []⟩,
  ⟨none, .store 3 (.t 2) (.t 47), none, false, 0, []⟩]
def s44_15 : List SIns := [
  ⟨(some 48), .mov (.t 3), none, false, 0, []⟩,
  ⟨(some 49), .len (.t 48), none, false, 0, []⟩,
  ⟨(some 50), .bin .eql .prim (.t 49) (.c (.int .i64 (1))), none, false, 0, []⟩]
def s44_16 : List SIns := [
  ⟨(some 51), .mov (.t 3), none, false, 0, []⟩,
  ⟨(some 52), .iaddr 3 (.t 51) (.c (.int .i64 (0))), none, false, 0, []⟩,
  ⟨(some 53), .load (some 3) (.t 52), none, false, 0, []⟩,
  ⟨none, .store 3 (.t 2) (.t 53), none, false, 0, []⟩]
def s44_17 : List SIns := [
  ⟨(some 54), .faddr 0 (.t 1), none, false, 0, []⟩,
  ⟨(some 55), .load none (.t 54), none, false, 0, []⟩,
  ⟨(some 56), .mov (.t 3), none, false, 0, []⟩,
  ⟨(some 57), .build [.int .i64 (0), .int .i64 (0), .slice none 0 0] [(0, 1, (.t 55)), (2, 1, (.t 56))], none, false, 0, []⟩,
  ⟨none, .store 3 (.t 2) (.t 57), none, false, 0, []⟩]
def c44 : SCode := .seq (.ops s44_0) (.seq (.seq (.ops s44_1) (.cond (.t 8) (.seq (.ops s44_2) (.ret)) (.skip))) (.seq (.ops s44_3) (.seq (.seq (.ops s44_4) (.block 0 (.loop b44_12))) (.seq (.seq (.ops s44_13) (.cond (.t 46) (.seq (.ops s44_14) (.ret)) (.skip))) (.seq (.seq (.ops s44_15) (.cond (.t 50) (.seq (.ops s44_16) (.ret)) (.skip))) (.seq (.ops s44_17) (.ret)))))))
def s45_0 : List SIns := [
  ⟨(some 3), .box (.t 0), none, false, 0, []⟩,
  ⟨(some 5), .box (.t 2), none, false, 0, []⟩,
  ⟨(some 6), .new [.int .i64 (0), .int .i64 (0), .slice none 0 0], none, false, 0, []⟩]
def s45_1 : List SIns := [
  ⟨(some 9), .faddr 0 (.t 3), none, false, 0, []⟩,
  ⟨(some 10), .load none (.t 9), none, false, 0, []⟩,
  ⟨(some 11), .bin .eql .prim (.t 10) (.c (.int .i64 (0))), none, false, 0, []⟩]
def s45_2 : List SIns := [
  ⟨(some 12), .faddr 1 (.t 3), none, false, 0, []⟩,
  ⟨(some 13), .load none (.t 12), none, false, 0, []⟩,
  ⟨(some 14), .mov (.t 1), none, false, 0, []⟩,
  ⟨(some 15), .bin .eql .prim (.t 13) (.t 14), none, false, 0, []⟩]
def s45_3 : List SIns := [
  ⟨(some 16), .load (some 3) (.t 5), none, false, 0, []⟩,
  ⟨none, .store 3 (.t 6) (.t 16), none, false, 0, []⟩]
def s45_4 : List SIns := [
  ⟨(some 17), .load (some 3) (.t 3), none, false, 0, []⟩,
  ⟨none, .store 3 (.t 6) (.t 17), none, false, 0, []⟩]
def s45_5 : List SIns := [
  ⟨(some 18), .faddr 0 (.t 3), none, false, 0, []⟩,
  ⟨(some 19), .load none (.t 18), none, false, 0, []⟩,
  ⟨(some 20), .build [.int .i64 (0), .int .i64 (0), .slice none 0 0] [(0, 1, (.t 19))], none, false, 0, []⟩,
  ⟨(some 7), .new [.int .i64 (0), .int .i64 (0), .slice none 0 0], none, false, 0, []⟩,
  ⟨none, .store 3 (.t 7) (.t 20), none, false, 0, []⟩]
def s45_6 : List SIns := [
  ⟨(some 8), .mov (.c (.int .i64 (0))), none, false, 0, []⟩]
def s45_7 : List SIns := [
  ⟨(some 21), .mov (.t 8), none, false, 0, []⟩,
  ⟨(some 22), .faddr 2 (.t 3), none, false, 0, []⟩,
  ⟨(some 23), .load none (.t 22), none, false, 0, []⟩,
  ⟨(some 24), .len (.t 23), none, false, 0, []⟩,
  ⟨(some 25), .bin .lss .prim (.t 21) (.t 24), none, false, 0, []⟩]
def s45_8 : List SIns := [
  ⟨(some 28), .faddr 2 (.t 7), none, false, 0, []⟩,
  ⟨(some 29), .load none (.t 28), none, true, 1, []⟩,
  ⟨(some 30), .faddr 2 (.t 3), none, false, 2, []⟩,
  ⟨(some 31), .load none (.t 30), none, true, 3, []⟩,
  ⟨(some 32), .mov (.t 8), none, false, 4, []⟩,
  ⟨(some 33), .iaddr 3 (.t 31) (.t 32), none, false, 5, []⟩,
  ⟨(some 34), .load (some 3) (.t 33), none, true, 6, []⟩,
  ⟨(some 35), .mov (.t 1), none, false, 7, []⟩,
  ⟨(some 36), .load (some 3) (.t 5), none, true, 8, []⟩,
  ⟨(some 37), .call (.fn 45) [(.t 34), (.t 35), (.t 36)], none, false, 9, [6, 7, 8]⟩,
  ⟨(some 38), .mkArr 3 [.int .i64 (0), .int .i64 (0), .slice none 0 0] 1 [(0, 3, (.t 37))], none, false, 10, []⟩,
  ⟨(some 39), .append 3 40 (.t 29) (.t 38), none, false, 11, [1, 10, 9]⟩,
  ⟨(some 40), .faddr 2 (.t 7), none, false, 12, []⟩,
  ⟨none, .store 1 (.t 40) (.t 39), none, false, 13, [12, 11, 11, 0, 1, 2, 3, 4, 5, 6, 7, 8, 9, 10, 11]⟩]
def s45_9 : List SIns := [
  ⟨(some 26), .mov (.t 8), none, false, 0, []⟩,
  ⟨(some 27), .bin .add .prim (.t 26) (.c (.int .i64 (1))), none, false, 0, []⟩,
  ⟨(some 8), .mov (.t 27), none, false, 0, []⟩]
def b45_10 : SCode := .seq (.seq (.ops s45_7) (.cond (.t 25) (.skip) (.exit 0))) (.seq (.block 1 (.draw s45_8)) (.ops s45_9))
def s45_11 : List SIns := [
  ⟨(some 41), .load (some 3) (.t 7), none, false, 0, []⟩,
  ⟨none, .store 3 (.t 6) (.t 41), none, false, 0, []⟩]
def c45 : SCode := .seq (.ops s45_0) (.seq (.seq (.ops s45_1) (.cond (.t 11) (.seq (.seq (.ops s45_2) (.cond (.t 15) (.seq (.ops s45_3) (.ret)) (.skip))) (.seq (.ops s45_4) (.ret))) (.skip))) (.seq (.ops s45_5) (.seq (.seq (.ops s45_6) (.block 0 (.loop b45_10))) (.seq (.ops s45_11) (.ret)))))
def s46_0 : List SIns := [
  ⟨(some 2), .mov (.c (.bool false)), none, false, 0, []⟩]
def s46_1 : List SIns := [
  ⟨(some 5), .mov (.t 0), none, false, 0, []⟩,
  ⟨(some 6), .call (.fn 37) [(.t 5)], none, false, 0, []⟩,
  ⟨(some 3), .mov (.t 6), none, false, 0, []⟩]
def s46_2 : List SIns := [
  ⟨(some 4), .mov (.c (.int .i64 (0))), none, false, 0, []⟩]
def s46_3 : List SIns := [
  ⟨(some 7), .mov (.t 4), none, false, 0, []⟩,
  ⟨(some 8), .mov (.t 3), none, false, 0, []⟩,
  ⟨(some 9), .len (.t 8), none, false, 0, []⟩,
  ⟨(some 10), .bin .lss .prim (.t 7) (.t 9), none, false, 0, []⟩,
  ⟨(some 11), .mov (.t 10), none, false, 0, []⟩,
  ⟨(some 12), .mov (.t 3), some (11, true), false, 0, []⟩,
  ⟨(some 13), .len (.t 12), some (11, true), false, 0, []⟩,
  ⟨(some 14), .bin .gtr .prim (.t 13) (.c (.int .i64 (1))), some (11, true), false, 0, []⟩,
  ⟨(some 15), .pick (.t 11) (.t 14) (.c (.bool false)), none, false, 0, []⟩]
def s46_4 : List SIns := [
  ⟨(some 18), .mov (.t 3), none, false, 0, []⟩,
  ⟨(some 19), .mov (.t 4), none, false, 0, []⟩,
  ⟨(some 20), .iaddr 5 (.t 18) (.t 19), none, false, 0, []⟩,
  ⟨(some 21), .faddr 3 (.t 20), none, false, 0, []⟩,
  ⟨(some 22), .load none (.t 21), none, false, 0, []⟩,
  ⟨(some 23), .bin .lss .prim (.t 22) (.c (.int .i64 (2))), none, false, 0, []⟩,
  ⟨(some 24), .mov (.t 23), none, false, 0, []⟩,
  ⟨(some 25), .mov (.t 3), some (24, false), false, 0, []⟩,
  ⟨(some 26), .mov (.t 4), some (24, false), false, 0, []⟩,
  ⟨(some 27), .iaddr 5 (.t 25) (.t 26), some (24, false), false, 0, []⟩,
  ⟨(some 28), .faddr 4 (.t 27), some (24, false), false, 0, []⟩,
  ⟨(some 29), .load none (.t 28), some (24, false), false, 0, []⟩,
  ⟨(some 30), .bin .lss .prim (.t 29) (.c (.int .i64 (2))), some (24, false), false, 0, []⟩,
  ⟨(some 31), .pick (.t 24) (.c (.bool true)) (.t 30), none, false, 0, []⟩]
def s46_5 : List SIns := [
  ⟨(some 2), .mov (.c (.bool false)), none, false, 0, []⟩]
def s46_6 : List SIns := [
  ⟨(some 16), .mov (.t 4), none, false, 0, []⟩,
  ⟨(some 17), .bin .add .prim (.t 16) (.c (.int .i64 (1))), none, false, 0, []⟩,
  ⟨(some 4), .mov (.t 17), none, false, 0, []⟩]
def b46_7 : SCode := .seq (.seq (.ops s46_3) (.cond (.t 15) (.skip) (.exit 0))) (.seq (.block 1 (.seq (.ops s46_4) (.cond (.t 31) (.seq (.ops s46_5) (.ret)) (.skip)))) (.ops s46_6))
def s46_8 : List SIns := [
  ⟨(some 2), .mov (.c (.bool true)), none, false, 0, []⟩]
def c46 : SCode := .seq (.ops s46_0) (.seq (.ops s46_1) (.seq (.seq (.ops s46_2) (.block 0 (.loop b46_7))) (.seq (.ops s46_8) (.ret))))
def s47_0 : List SIns := [
  ⟨(some 4), .mov (.c (.int .i64 (0))), none, false, 0, []⟩]
def s47_1 : List SIns := [
  ⟨(some 7), .mov (.t 0), none, false, 0, []⟩,
  ⟨(some 8), .call (.fn 37) [(.t 7)], none, false, 0, []⟩,
  ⟨(some 5), .mov (.t 8), none, false, 0, []⟩]
def s47_2 : List SIns := [
  ⟨(some 6), .mov (.c (.int .i64 (0))), none, false, 0, []⟩]
def s47_3 : List SIns := [
  ⟨(some 9), .mov (.t 6), none, false, 0, []⟩,
  ⟨(some 10), .mov (.t 5), none, false, 0, []⟩,
  ⟨(some 11), .len (.t 10), none, false, 0, []⟩,
  ⟨(some 12), .bin .lss .prim (.t 9) (.t 11), none, false, 0, []⟩]
def s47_4 : List SIns := [
  ⟨(some 15), .mov (.t 5), none, false, 0, []⟩,
  ⟨(some 16), .mov (.t 6), none, false, 0, []⟩,
  ⟨(some 17), .iaddr 5 (.t 15) (.t 16), none, false, 0, []⟩,
  ⟨(some 18), .faddr 0 (.t 17), none, false, 0, []⟩,
  ⟨(some 19), .load none (.t 18), none, false, 0, []⟩,
  ⟨(some 20), .mov (.t 1), none, false, 0, []⟩,
  ⟨(some 21), .bin .eql .prim (.t 19) (.t 20), none, false, 0, []⟩]
def s47_5 : List SIns := [
  ⟨(some 22), .mov (.t 6), none, false, 0, []⟩,
  ⟨(some 4), .mov (.t 22), none, false, 0, []⟩]
def s47_6 : List SIns := [
  ⟨(some 13), .mov (.t 6), none, false, 0, []⟩,
  ⟨(some 14), .bin .add .prim (.t 13) (.c (.int .i64 (1))), none, false, 0, []⟩,
  ⟨(some 6), .mov (.t 14), none, false, 0, []⟩]
def b47_7 : SCode := .seq (.seq (.ops s47_3) (.cond (.t 12) (.skip) (.exit 0))) (.seq (.block 1 (.seq (.ops s47_4) (.cond (.t 21) (.seq (.ops s47_5) (.ret)) (.skip)))) (.ops s47_6))
def s47_8 : List SIns := [
  ⟨(some 4), .mov (.c (.int .i64 (-1))), none, false, 0, []⟩]
def c47 : SCode := .seq (.ops s47_0) (.seq (.ops s47_1) (.seq (.seq (.ops s47_2) (.block 0 (.loop b47_7))) (.seq (.ops s47_8) (.ret))))
def s48_0 : List SIns := [
  ⟨(some 5), .box (.t 0), none, false, 0, []⟩,
  ⟨(some 10), .mov (.c (.slice none 0 0)), none, false, 0, []⟩]
def s48_1 : List SIns := [
  ⟨(some 16), .faddr 0 (.t 5), none, false, 0, []⟩,
  ⟨(some 17), .load none (.t 16), none, false, 0, []⟩,
  ⟨(some 18), .bin .eql .prim (.t 17) (.c (.int .i64 (0))), none, false, 0, []⟩]
def s48_2 : List SIns := [
  ⟨(some 19), .faddr 1 (.t 5), none, false, 0, []⟩,
  ⟨(some 20), .load none (.t 19), none, false, 0, []⟩,
  ⟨(some 21), .mov (.t 1), none, false, 0, []⟩,
  ⟨(some 22), .mov (.t 2), none, false, 0, []⟩,
  ⟨(some 23), .mov (.t 3), none, false, 0, []⟩,
  ⟨(some 24), .mov (.t 4), none, false, 0, []⟩,
  ⟨(some 25), .build [.int .i64 (0), .int .i64 (0), .int .i64 (0), .int .i64 (0), .int .i64 (0)] [(0, 1, (.t 20)), (1, 1, (.t 21)), (2, 1, (.t 22)), (3, 1, (.t 23)), (4, 1, (.t 24))], none, false, 0, []⟩,
  ⟨(some 26), .mkArr 5 [.int .i64 (0), .int .i64 (0), .int .i64 (0), .int .i64 (0), .int .i64 (0)] 1 [(0, 5, (.t 25))], none, false, 0, []⟩,
  ⟨(some 10), .mov (.t 26), none, false, 0, []⟩]
def s48_3 : List SIns := [
  ⟨(some 11), .mov (.c (.slice none 0 0)), none, false, 0, []⟩]
def s48_4 : List SIns := [
  ⟨(some 27), .faddr 2 (.t 5), none, false, 0, []⟩,
  ⟨(some 28), .load none (.t 27), none, false, 0, []⟩,
  ⟨(some 29), .len (.t 28), none, false, 0, []⟩,
  ⟨(some 12), .mov (.t 29), none, false, 0, []⟩]
def s48_5 : List SIns := [
  ⟨(some 30), .mov (.t 3), none, false, 0, []⟩,
  ⟨(some 13), .mov (.t 30), none, false, 0, []⟩]
def s48_6 : List SIns := [
  ⟨(some 31), .faddr 0 (.t 5), none, false, 0, []⟩,
  ⟨(some 32), .load none (.t 31), none, false, 0, []⟩,
  ⟨(some 33), .bin .eql .prim (.t 32) (.c (.int .i64 (2))), none, false, 0, []⟩]
def s48_7 : List SIns := [
  ⟨(some 34), .mov (.t 4), none, false, 0, []⟩,
  ⟨(some 35), .mov (.t 12), none, false, 0, []⟩,
  ⟨(some 36), .bin .sub .prim (.t 35) (.c (.int .i64 (1))), none, false, 0, []⟩,
  ⟨(some 37), .bin .sub .prim (.t 34) (.t 36), none, false, 0, []⟩,
  ⟨(some 13), .mov (.t 37), none, false, 0, []⟩]
def s48_8 : List SIns := [
  ⟨(some 14), .mov (.c (.int .i64 (0))), none, false, 0, []⟩]
def s48_9 : List SIns := [
  ⟨(some 38), .mov (.t 14), none, false, 0, []⟩,
  ⟨(some 39), .mov (.t 12), none, false, 0, []⟩,
  ⟨(some 40), .bin .lss .prim (.t 38) (.t 39), none, false, 0, []⟩]
def s48_10 : List SIns := [
  ⟨(some 43), .mov (.t 13), none, false, 0, []⟩,
  ⟨(some 44), .mov (.t 12), none, false, 0, []⟩,
  ⟨(some 45), .bin .quo .prim (.t 43) (.t 44), none, false, 0, []⟩,
  ⟨(some 15), .mov (.t 45), none, false, 0, []⟩]
def s48_11 : List SIns := [
  ⟨(some 46), .mov (.t 14), none, false, 0, []⟩,
  ⟨(some 47), .mov (.t 13), none, false, 0, []⟩,
  ⟨(some 48), .mov (.t 12), none, false, 0, []⟩,
  ⟨(some 49), .bin .rem .prim (.t 47) (.t 48), none, false, 0, []⟩,
  ⟨(some 50), .bin .lss .prim (.t 46) (.t 49), none, false, 0, []⟩]
def s48_12 : List SIns := [
  ⟨(some 51), .mov (.t 15), none, false, 0, []⟩,
  ⟨(some 52), .bin .add .prim (.t 51) (.c (.int .i64 (1))), none, false, 0, []⟩,
  ⟨(some 15), .mov (.t 52), none, false, 0, []⟩]
def s48_13 : List SIns := [
  ⟨(some 53), .faddr 0 (.t 5), none, false, 0, []⟩,
  ⟨(some 54), .load none (.t 53), none, false, 0, []⟩,
  ⟨(some 55), .bin .eql .prim (.t 54) (.c (.int .i64 (1))), none, false, 0, []⟩]
def s48_14 : List SIns := [
  ⟨(some 56), .mov (.t 11), none, false, 0, []⟩,
  ⟨(some 57), .faddr 2 (.t 5), none, false, 0, []⟩,
  ⟨(some 58), .load none (.t 57), none, false, 0, []⟩,
  ⟨(some 59), .mov (.t 14), none, false, 0, []⟩,
  ⟨(some 60), .iaddr 3 (.t 58) (.t 59), none, false, 0, []⟩,
  ⟨(some 61), .load (some 3) (.t 60), none, false, 0, []⟩,
  ⟨(some 62), .mov (.t 1), none, false, 0, []⟩,
  ⟨(some 63), .mov (.t 2), none, false, 0, []⟩,
  ⟨(some 64), .mov (.t 15), none, false, 0, []⟩,
  ⟨(some 65), .mov (.t 4), none, false, 0, []⟩,
  ⟨(some 66), .call (.fn 48) [(.t 61), (.t 62), (.t 63), (.t 64), (.t 65)], none, false, 0, []⟩,
  ⟨(some 67), .append 5 40 (.t 56) (.t 66), none, false, 0, []⟩,
  ⟨(some 11), .mov (.t 67), none, false, 0, []⟩]
def s48_15 : List SIns := [
  ⟨(some 68), .mov (.t 1), none, false, 0, []⟩,
  ⟨(some 69), .mov (.t 15), none, false, 0, []⟩,
  ⟨(some 70), .bin .add .prim (.t 68) (.t 69), none, false, 0, []⟩,
  ⟨(some 1), .mov (.t 70), none, false, 0, []⟩]
def s48_16 : List SIns := [
  ⟨(some 71), .mov (.t 11), none, false, 0, []⟩,
  ⟨(some 72), .faddr 2 (.t 5), none, false, 0, []⟩,
  ⟨(some 73), .load none (.t 72), none, false, 0, []⟩,
  ⟨(some 74), .mov (.t 14), none, false, 0, []⟩,
  ⟨(some 75), .iaddr 3 (.t 73) (.t 74), none, false, 0, []⟩,
  ⟨(some 76), .load (some 3) (.t 75), none, false, 0, []⟩,
  ⟨(some 77), .mov (.t 1), none, false, 0, []⟩,
  ⟨(some 78), .mov (.t 2), none, false, 0, []⟩,
  ⟨(some 79), .mov (.t 3), none, false, 0, []⟩,
  ⟨(some 80), .mov (.t 15), none, false, 0, []⟩,
  ⟨(some 81), .call (.fn 48) [(.t 76), (.t 77), (.t 78), (.t 79), (.t 80)], none, false, 0, []⟩,
  ⟨(some 82), .append 5 40 (.t 71) (.t 81), none, false, 0, []⟩,
  ⟨(some 11), .mov (.t 82), none, false, 0, []⟩]
def s48_17 : List SIns := [
  ⟨(some 83), .mov (.t 2), none, false, 0, []⟩,
  ⟨(some 84), .mov (.t 15), none, false, 0, []⟩,
  ⟨(some 85), .bin .add .prim (.t 84) (.c (.int .i64 (1))), none, false, 0, []⟩,
  ⟨(some 86), .bin .add .prim (.t 83) (.t 85), none, false, 0, []⟩,
  ⟨(some 2), .mov (.t 86), none, false, 0, []⟩]
def s48_18 : List SIns := [
  ⟨(some 41), .mov (.t 14), none, false, 0, []⟩,
  ⟨(some 42), .bin .add .prim (.t 41) (.c (.int .i64 (1))), none, false, 0, []⟩,
  ⟨(some 14), .mov (.t 42), none, false, 0, []⟩]
def b48_19 : SCode := .seq (.seq (.ops s48_9) (.cond (.t 40) (.skip) (.exit 0))) (.seq (.block 1 (.seq (.ops s48_10) (.seq (.seq (.ops s48_11) (.cond (.t 50) (.ops s48_12) (.skip))) (.seq (.ops s48_13) (.cond (.t 55) (.seq (.ops s48_14) (.ops s48_15)) (.seq (.ops s48_16) (.ops s48_17))))))) (.ops s48_18))
def s48_20 : List SIns := [
  ⟨(some 87), .mov (.t 11), none, false, 0, []⟩,
  ⟨(some 10), .mov (.t 87), none, false, 0, []⟩]
def c48 : SCode := .seq (.ops s48_0) (.seq (.seq (.ops s48_1) (.cond (.t 18) (.seq (.ops s48_2) (.ret)) (.skip))) (.seq (.ops s48_3) (.seq (.ops s48_4) (.seq (.ops s48_5) (.seq (.seq (.ops s48_6) (.cond (.t 33) (.ops s48_7) (.skip))) (.seq (.seq (.ops s48_8) (.block 0 (.loop b48_19))) (.seq (.ops s48_20) (.ret))))))))
def s64_0 : List SIns := [
  ⟨(some 3), .box (.t 1), none, false, 0, []⟩,
  ⟨(some 4), .mov (.c (.slice none 0 0)), none, false, 0, []⟩]
def s64_1 : List SIns := [
  ⟨(some 5), .mov (.c (.slice none 0 0)), none, false, 0, []⟩]
def s64_2 : List SIns := [
  ⟨(some 11), .mov (.t 0), none, false, 0, []⟩,
  ⟨(some 12), .nilck (.t 11), none, false, 0, []⟩,
  ⟨(some 13), .faddr 1 (.t 12), none, false, 0, []⟩,
  ⟨(some 14), .load none (.t 13), none, false, 0, []⟩,
  ⟨(some 15), .len (.t 14), none, false, 0, []⟩,
  ⟨(some 6), .mov (.t 15), none, false, 0, []⟩]
def s64_3 : List SIns := [
  ⟨(some 16), .mov (.t 0), none, false, 0, []⟩,
  ⟨(some 17), .nilck (.t 16), none, false, 0, []⟩,
  ⟨(some 18), .faddr 1 (.t 17), none, false, 0, []⟩,
  ⟨(some 19), .load none (.t 18), none, false, 0, []⟩,
  ⟨(some 20), .len (.t 19), none, false, 0, []⟩,
  ⟨(some 21), .mov (.c (.int .i64 (0))), none, false, 0, []⟩]
def s64_4 : List SIns := [
  ⟨(some 22), .bin .lss .prim (.t 21) (.t 20), none, false, 0, []⟩]
def s64_5 : List SIns := [
  ⟨(some 23), .mov (.t 21), none, false, 0, []⟩,
  ⟨(some 24), .iaddr 1 (.t 19) (.t 21), none, false, 0, []⟩,
  ⟨(some 25), .load none (.t 24), none, false, 0, []⟩,
  ⟨(some 7), .mov (.t 23), none, false, 0, []⟩,
  ⟨(some 8), .mov (.t 25), none, false, 0, []⟩]
def s64_6 : List SIns := [
  ⟨(some 26), .load (some 5) (.t 3), none, false, 0, []⟩,
  ⟨(some 9), .new [.int .i64 (0), .int .i64 (0), .int .i64 (0), .int .i64 (0), .int .i64 (0)], none, false, 0, []⟩,
  ⟨none, .store 5 (.t 9) (.t 26), none, false, 0, []⟩]
def s64_7 : List SIns := [
  ⟨(some 27), .mov (.t 0), none, false, 0, []⟩,
  ⟨(some 28), .nilck (.t 27), none, false, 0, []⟩,
  ⟨(some 29), .faddr 0 (.t 28), none, false, 0, []⟩,
  ⟨(some 30), .load none (.t 29), none, false, 0, []⟩]
def s64_8 : List SIns := [
  ⟨(some 31), .faddr 4 (.t 3), none, false, 0, []⟩,
  ⟨(some 32), .load none (.t 31), none, false, 0, []⟩,
  ⟨(some 33), .mov (.t 6), none, false, 0, []⟩,
  ⟨(some 34), .bin .sub .prim (.t 33) (.c (.int .i64 (1))), none, false, 0, []⟩,
  ⟨(some 35), .bin .sub .prim (.t 32) (.t 34), none, false, 0, []⟩,
  ⟨(some 10), .mov (.t 35), none, false, 0, []⟩]
def s64_9 : List SIns := [
  ⟨(some 36), .faddr 2 (.t 9), none, false, 0, []⟩,
  ⟨(some 37), .load none (.t 36), none, true, 1, []⟩,
  ⟨(some 38), .mov (.t 7), none, false, 2, []⟩,
  ⟨(some 39), .mov (.t 10), none, false, 3, []⟩,
  ⟨(some 40), .mov (.t 6), none, false, 4, []⟩,
  ⟨(some 41), .mov (.t 7), none, false, 5, []⟩,
  ⟨(some 42), .call (.fn 65) [(.t 39), (.t 40), (.t 41)], none, false, 6, [3, 4, 5]⟩,
  ⟨(some 43), .bin .add .prim (.t 38) (.t 42), none, false, 7, []⟩,
  ⟨(some 44), .bin .add .prim (.t 37) (.t 43), none, false, 8, []⟩,
  ⟨(some 45), .faddr 2 (.t 9), none, false, 9, []⟩,
  ⟨none, .store 1 (.t 45) (.t 44), none, false, 10, [9, 8, 6, 0, 1, 2, 3, 4, 5, 6, 7, 8]⟩]
def s64_10 : List SIns := [
  ⟨(some 46), .mov (.t 10), none, false, 0, []⟩,
  ⟨(some 47), .mov (.t 6), none, false, 0, []⟩,
  ⟨(some 48), .mov (.t 7), none, false, 0, []⟩,
  ⟨(some 49), .bin .add .prim (.t 48) (.c (.int .i64 (1))), none, false, 0, []⟩,
  ⟨(some 50), .call (.fn 65) [(.t 46), (.t 47), (.t 49)], none, false, 0, []⟩,
  ⟨(some 51), .mov (.t 10), none, false, 0, []⟩,
  ⟨(some 52), .mov (.t 6), none, false, 0, []⟩,
  ⟨(some 53), .mov (.t 7), none, false, 0, []⟩,
  ⟨(some 54), .call (.fn 65) [(.t 51), (.t 52), (.t 53)], none, false, 0, []⟩,
  ⟨(some 55), .bin .sub .prim (.t 50) (.t 54), none, false, 0, []⟩,
  ⟨(some 56), .faddr 4 (.t 9), none, false, 0, []⟩,
  ⟨none, .store 1 (.t 56) (.t 55), none, false, 0, []⟩]
def s64_11 : List SIns := [
  ⟨(some 57), .faddr 1 (.t 9), none, false, 0, []⟩,
  ⟨(some 58), .load none (.t 57), none, true, 1, []⟩,
  ⟨(some 59), .faddr 3 (.t 3), none, false, 2, []⟩,
  ⟨(some 60), .load none (.t 59), none, false, 3, []⟩,
  ⟨(some 61), .mov (.t 6), none, false, 4, []⟩,
  ⟨(some 62), .mov (.t 7), none, false, 5, []⟩,
  ⟨(some 63), .call (.fn 65) [(.t 60), (.t 61), (.t 62)], none, false, 6, [3, 4, 5]⟩,
  ⟨(some 64), .bin .add .prim (.t 58) (.t 63), none, false, 7, []⟩,
  ⟨(some 65), .faddr 1 (.t 9), none, false, 8, []⟩,
  ⟨none, .store 1 (.t 65) (.t 64), none, false, 9, [8, 7, 6, 0, 1, 2, 3, 4, 5, 6, 7]⟩]
def s64_12 : List SIns := [
  ⟨(some 66), .faddr 3 (.t 3), none, false, 0, []⟩,
  ⟨(some 67), .load none (.t 66), none, true, 1, []⟩,
  ⟨(some 68), .mov (.t 6), none, false, 2, []⟩,
  ⟨(some 69), .mov (.t 7), none, false, 3, []⟩,
  ⟨(some 70), .bin .add .prim (.t 69) (.c (.int .i64 (1))), none, false, 4, []⟩,
  ⟨(some 72), .faddr 3 (.t 3), none, false, 6, []⟩,
  ⟨(some 73), .load none (.t 72), none, true, 7, []⟩,
  ⟨(some 74), .mov (.t 6), none, false, 8, []⟩,
  ⟨(some 75), .mov (.t 7), none, false, 9, []⟩,
  ⟨(some 71), .call (.fn 65) [(.t 67), (.t 68), (.t 70)], none, false, 5, [1, 2, 4]⟩,
  ⟨(some 76), .call (.fn 65) [(.t 73), (.t 74), (.t 75)], none, false, 10, [7, 8, 9, 5]⟩,
  ⟨(some 77), .bin .sub .prim (.t 71) (.t 76), none, false, 11, []⟩,
  ⟨(some 78), .faddr 3 (.t 9), none, false, 12, []⟩,
  ⟨none, .store 1 (.t 78) (.t 77), none, false, 13, [12, 11, 10, 0, 1, 2, 3, 4, 5, 6, 7, 8, 9, 10, 11]⟩]
def s64_13 : List SIns := [
  ⟨(some 79), .mov (.t 5), none, false, 0, []⟩,
  ⟨(some 80), .mov (.t 8), none, false, 0, []⟩,
  ⟨(some 81), .load (some 5) (.t 9), none, false, 0, []⟩,
  ⟨(some 82), .call (.inv (.t 80) [(60, 64), (61, 66)]) [(.t 81)], none, false, 0, []⟩,
  ⟨(some 83), .append 5 40 (.t 79) (.t 82), none, false, 0, []⟩,
  ⟨(some 5), .mov (.t 83), none, false, 0, []⟩]
def s64_14 : List SIns := [
  ⟨(some 84), .bin .add .prim (.t 21) (.c (.int .i64 (1))), none, false, 0, []⟩,
  ⟨(some 21), .mov (.t 84), none, false, 0, []⟩]
def b64_15 : SCode := .seq (.ops s64_4) (.seq (.cond (.t 22) (.skip) (.exit 0)) (.seq (.block 1 (.seq (.ops s64_5) (.seq (.ops s64_6) (.seq (.seq (.ops s64_7) (.cond (.t 30) (.seq (.ops s64_8) (.seq (.draw s64_9) (.ops s64_10))) (.seq (.draw s64_11) (.draw s64_12)))) (.ops s64_13))))) (.ops s64_14)))
def s64_16 : List SIns := [
  ⟨(some 85), .mov (.t 5), none, false, 0, []⟩,
  ⟨(some 4), .mov (.t 85), none, false, 0, []⟩]
def c64 : SCode := .seq (.ops s64_0) (.seq (.ops s64_1) (.seq (.ops s64_2) (.seq (.seq (.ops s64_3) (.block 0 (.loop b64_15))) (.seq (.ops s64_16) (.ret)))))
def s65_0 : List SIns := [
  ⟨(some 6), .mov (.c (.int .i64 (0))), none, false, 0, []⟩]
def s65_1 : List SIns := [
  ⟨(some 7), .mov (.t 0), none, false, 0, []⟩,
  ⟨(some 8), .mov (.t 1), none, false, 1, []⟩,
  ⟨(some 9), .bin .quo .prim (.t 7) (.t 8), none, false, 2, []⟩,
  ⟨(some 10), .mov (.t 2), none, false, 3, []⟩,
  ⟨(some 11), .bin .mul .prim (.t 9) (.t 10), none, false, 4, []⟩,
  ⟨(some 12), .mov (.t 2), none, false, 5, []⟩,
  ⟨(some 13), .mov (.t 0), none, false, 6, []⟩,
  ⟨(some 14), .mov (.t 1), none, false, 7, []⟩,
  ⟨(some 15), .bin .rem .prim (.t 13) (.t 14), none, false, 8, []⟩,
  ⟨(some 16), .max [(.c (.int .i64 (0))), (.t 15)], none, false, 9, []⟩,
  ⟨(some 17), .min [(.t 12), (.t 16)], none, false, 10, []⟩,
  ⟨(some 18), .bin .add .prim (.t 11) (.t 17), none, false, 11, []⟩,
  ⟨(some 6), .mov (.t 18), none, false, 12, []⟩]
def c65 : SCode := .seq (.ops s65_0) (.seq (.draw s65_1) (.ret))
def s66_0 : List SIns := [
  ⟨(some 3), .box (.t 1), none, false, 0, []⟩,
  ⟨(some 4), .mov (.c (.slice none 0 0)), none, false, 0, []⟩]
def s66_1 : List SIns := [
  ⟨(some 5), .mov (.t 0), none, false, 0, []⟩,
  ⟨(some 6), .nilck (.t 5), none, false, 0, []⟩,
  ⟨(some 7), .faddr 0 (.t 6), none, false, 0, []⟩,
  ⟨(some 8), .load none (.t 7), none, false, 0, []⟩,
  ⟨(some 9), .faddr 0 (.t 3), none, false, 0, []⟩,
  ⟨none, .store 1 (.t 9) (.t 8), none, false, 0, []⟩]
def s66_2 : List SIns := [
  ⟨(some 10), .load (some 5) (.t 3), none, false, 0, []⟩,
  ⟨(some 11), .mkArr 5 [.int .i64 (0), .int .i64 (0), .int .i64 (0), .int .i64 (0), .int .i64 (0)] 1 [(0, 5, (.t 10))], none, false, 0, []⟩,
  ⟨(some 4), .mov (.t 11), none, false, 0, []⟩]
def c66 : SCode := .seq (.ops s66_0) (.seq (.ops s66_1) (.seq (.ops s66_2) (.ret)))
structure Tab (F : FuncId → Option SFunc) (G : FuncId → List Value → Option Value) : Prop where
  f3 : F 3 = some ⟨120, c3, [.tmp 8]⟩
  f4 : F 4 = some ⟨78, c4, [.tmp 6]⟩
  f5 : F 5 = some ⟨80, c5, [.tmp 6]⟩
  f6 : F 6 = some ⟨162, c6, [.tmp 6]⟩
  f7 : F 7 = some ⟨83, c7, [.tmp 6]⟩
  f9 : F 9 = some ⟨38, c9, [.tmp 6]⟩
  f10 : F 10 = some ⟨27, c10, [.tmp 2]⟩
  f11 : F 11 = some ⟨9, c11, [.tmp 2]⟩
  f12 : F 12 = some ⟨79, c12, [.tmp 4, .tmp 5]⟩
  f13 : F 13 = some ⟨26, c13, [.tmp 4]⟩
  f15 : F 15 = some ⟨46, c15, [.tmp 4]⟩
  f16 : F 16 = some ⟨38, c16, []⟩
  f17 : F 17 = some ⟨16, c17, [.tmp 4]⟩
  f18 : F 18 = some ⟨14, c18, [.tmp 4]⟩
  f19 : F 19 = some ⟨88, c19, [.tmp 6]⟩
  f20 : F 20 = some ⟨14, c20, [.tmp 2, .tmp 3]⟩
  f21 : F 21 = some ⟨27, c21, [.tmp 2]⟩
  f22 : F 22 = some ⟨14, c22, []⟩
  f23 : F 23 = some ⟨17, c23, [.tmp 4]⟩
  f24 : F 24 = some ⟨34, c24, [.tmp 6]⟩
  f25 : F 25 = some ⟨20, c25, [.tmp 2]⟩
  f26 : F 26 = some ⟨110, c26, [.tmp 6]⟩
  f27 : F 27 = some ⟨14, c27, [.tmp 2]⟩
  f28 : F 28 = some ⟨9, c28, [.tmp 4]⟩
  f29 : F 29 = some ⟨18, c29, []⟩
  f30 : F 30 = some ⟨18, c30, []⟩
  f31 : F 31 = some ⟨71, c31, [.tmp 4, .tmp 5]⟩
  f32 : F 32 = some ⟨43, c32, [.tmp 4]⟩
  f33 : F 33 = some ⟨10, c33, []⟩
  f34 : F 34 = some ⟨13, c34, [.tmp 4]⟩
  f35 : F 35 = some ⟨33, c35, []⟩
  f36 : F 36 = some ⟨45, c36, [.tmp 6]⟩
  f37 : F 37 = some ⟨17, c37, [.tmp 2]⟩
  f38 : F 38 = some ⟨42, c38, [.tmp 4]⟩
  f39 : F 39 = some ⟨11, c39, [.tmp 3]⟩
  f40 : F 40 = some ⟨9, c40, [.tmp 4]⟩
  f41 : F 41 = some ⟨11, c41, [.tmp 2]⟩
  f42 : F 42 = some ⟨19, c42, [.tmp 4]⟩
  f43 : F 43 = some ⟨8, c43, [.tmp 3]⟩
  f44 : F 44 = some ⟨58, c44, [.cell (some 3) 2]⟩
  f45 : F 45 = some ⟨42, c45, [.cell (some 3) 6]⟩
  f46 : F 46 = some ⟨32, c46, [.tmp 2]⟩
  f47 : F 47 = some ⟨23, c47, [.tmp 4]⟩
  f48 : F 48 = some ⟨88, c48, [.tmp 10]⟩
  f64 : F 64 = some ⟨86, c64, [.tmp 4]⟩
  f65 : F 65 = some ⟨19, c65, [.tmp 6]⟩
  f66 : F 66 = some ⟨12, c66, [.tmp 4]⟩
  g : ∀ f l, f ≠ 14 → G f l = none
  g14 : G 14 [] = some (.bool true)
end Go.Eng
