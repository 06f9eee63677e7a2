/- The resolved code of the functions that are reached, as a program of ours has printed it; each is checked against the given program. -/
import Derived.KernelRfl
import Derived.Test.YtlfapejkcjgfkaaEng13
import Derived.Test.YtlfapejkcjgfkaaProg
namespace Go.Proofs.Ytlfapejkcjgfkaa
open Go

def c3 : MF := ⟨2, 40, 
  (.seq (.reg [] [⟨(some 4), (.mv (.c (.v (.bool false)))), none⟩]) 
  (.seq (.reg [] [⟨(some 8), (.mv (.t 0)), none⟩, ⟨(some 9), (.mv (.t 1)), none⟩, ⟨(some 10), (.call (.c (.f 7 [])) [(.t 8), (.t 9)]), none⟩, ⟨(some 7), (.mv (.t 10)), none⟩, ⟨(some 11), (.ext (.t 7) 0), none⟩, ⟨(some 12), (.ext (.t 7) 1), none⟩, ⟨(some 5), (.mv (.t 11)), none⟩, ⟨(some 6), (.mv (.t 12)), none⟩]) 
  (.seq 
  (.seq (.reg [] [⟨(some 13), (.mv (.t 1)), none⟩, ⟨(some 14), (.bin .lss (.t 13) (.c (.v (.int .i64 0)))), none⟩, ⟨(some 15), (.mv (.t 14)), none⟩, ⟨(some 16), (.mv (.t 1)), (some (15, false))⟩, ⟨(some 17), (.bin .gtr (.t 16) (.c (.v (.int .i64 62)))), (some (15, false))⟩, ⟨(some 18), (.pick (.t 15) (.c (.v (.bool true))) (.t 17)), none⟩]) (.cond (.t 18) 
  (.seq (.reg [] [⟨(some 19), (.mv (.t 5)), none⟩, ⟨(some 20), (.bin .eql (.t 19) (.c (.v (.int .i64 0)))), none⟩, ⟨(some 21), (.mv (.t 20)), none⟩, ⟨(some 22), (.mv (.t 6)), (some (21, true))⟩, ⟨(some 23), (.bin .eql (.t 22) (.c (.v (.int .i64 2)))), (some (21, true))⟩, ⟨(some 24), (.pick (.t 21) (.t 23) (.c (.v (.bool false)))), none⟩, ⟨(some 25), (.mv (.t 24)), none⟩, ⟨(some 26), (.call (.c (.f 8 [])) []), (some (25, true))⟩, ⟨(some 27), (.pick (.t 25) (.t 26) (.c (.v (.bool false)))), none⟩, ⟨(some 4), (.mv (.t 27)), none⟩]) .ret) .skip)) 
  (.seq (.reg [] [⟨(some 28), (.mv (.t 6)), none⟩, ⟨(some 29), (.bin .eql (.t 28) (.c (.v (.int .i64 0)))), none⟩, ⟨(some 30), (.mv (.t 29)), none⟩, ⟨(some 31), (.mv (.t 5)), (some (30, true))⟩, ⟨(some 32), (.mv (.t 0)), (some (30, true))⟩, ⟨(some 33), (.mv (.t 1)), (some (30, true))⟩, ⟨(some 34), (.call (.c (.f 9 [])) [(.t 32), (.t 33)]), (some (30, true))⟩, ⟨(some 35), (.bin .eql (.t 31) (.t 34)), (some (30, true))⟩, ⟨(some 36), (.pick (.t 30) (.t 35) (.c (.v (.bool false)))), none⟩, ⟨(some 37), (.mv (.t 36)), none⟩, ⟨(some 38), (.call (.c (.f 8 [])) []), (some (37, true))⟩, ⟨(some 39), (.pick (.t 37) (.t 38) (.c (.v (.bool false)))), none⟩, ⟨(some 4), (.mv (.t 39)), none⟩]) .ret)))), [(.t 4)]⟩

def c4 : MF := ⟨3, 100, 
  (.seq (.reg [] [⟨(some 6), (.mv (.c (.v (.bool false)))), none⟩]) 
  (.seq (.reg [] [⟨(some 14), (.mv (.t 0)), none⟩, ⟨(some 15), (.mv (.t 1)), none⟩, ⟨(some 16), (.mv (.t 2)), none⟩, ⟨(some 17), (.call (.c (.f 10 [])) [(.t 14), (.t 15), (.t 16)]), none⟩, ⟨(some 13), (.mv (.t 17)), none⟩, ⟨(some 18), (.ext (.t 13) 0), none⟩, ⟨(some 19), (.ext (.t 13) 1), none⟩, ⟨(some 7), (.mv (.t 18)), none⟩, ⟨(some 8), (.mv (.t 19)), none⟩]) 
  (.seq 
  (.seq (.reg [] [⟨(some 20), (.mv (.t 0)), none⟩, ⟨(some 21), (.bin .lss (.t 20) (.c (.v (.int .i64 (-1099511627776))))), none⟩, ⟨(some 22), (.mv (.t 21)), none⟩, ⟨(some 23), (.mv (.t 0)), (some (22, false))⟩, ⟨(some 24), (.bin .gtr (.t 23) (.c (.v (.int .i64 1099511627776)))), (some (22, false))⟩, ⟨(some 25), (.pick (.t 22) (.c (.v (.bool true))) (.t 24)), none⟩, ⟨(some 26), (.mv (.t 25)), none⟩, ⟨(some 27), (.mv (.t 1)), (some (26, false))⟩, ⟨(some 28), (.bin .lss (.t 27) (.c (.v (.int .i64 (-1099511627776))))), (some (26, false))⟩, ⟨(some 29), (.pick (.t 26) (.c (.v (.bool true))) (.t 28)), none⟩, ⟨(some 30), (.mv (.t 29)), none⟩, ⟨(some 31), (.mv (.t 1)), (some (30, false))⟩, ⟨(some 32), (.bin .gtr (.t 31) (.c (.v (.int .i64 1099511627776)))), (some (30, false))⟩, ⟨(some 33), (.pick (.t 30) (.c (.v (.bool true))) (.t 32)), none⟩]) (.cond (.t 33) 
  (.seq (.reg [] [⟨(some 34), (.mv (.t 7)), none⟩, ⟨(some 35), (.bin .eql (.t 34) (.c (.v (.int .i64 0)))), none⟩, ⟨(some 36), (.mv (.t 35)), none⟩, ⟨(some 37), (.mv (.t 8)), (some (36, true))⟩, ⟨(some 38), (.bin .eql (.t 37) (.c (.v (.int .i64 3)))), (some (36, true))⟩, ⟨(some 39), (.pick (.t 36) (.t 38) (.c (.v (.bool false)))), none⟩, ⟨(some 40), (.mv (.t 39)), none⟩, ⟨(some 41), (.call (.c (.f 8 [])) []), (some (40, true))⟩, ⟨(some 42), (.pick (.t 40) (.t 41) (.c (.v (.bool false)))), none⟩, ⟨(some 6), (.mv (.t 42)), none⟩]) .ret) .skip)) 
  (.seq (.reg [] [⟨(some 44), (.mv (.t 0)), none⟩, ⟨(some 45), (.mv (.t 1)), none⟩, ⟨(some 46), (.call (.c (.f 10 [])) [(.t 44), (.t 45), (.c (.v (.int .i64 65536)))]), none⟩, ⟨(some 43), (.mv (.t 46)), none⟩, ⟨(some 47), (.ext (.t 43) 0), none⟩, ⟨(some 48), (.ext (.t 43) 1), none⟩, ⟨(some 9), (.mv (.t 47)), none⟩, ⟨(some 10), (.mv (.t 48)), none⟩]) 
  (.seq (.reg [] [⟨(some 50), (.mv (.t 0)), none⟩, ⟨(some 51), (.mv (.t 1)), none⟩, ⟨(some 52), (.call (.c (.f 10 [])) [(.t 50), (.t 51), (.c (.v (.int .i64 0)))]), none⟩, ⟨(some 49), (.mv (.t 52)), none⟩, ⟨(some 53), (.ext (.t 49) 0), none⟩, ⟨(some 54), (.ext (.t 49) 1), none⟩, ⟨(some 11), (.mv (.t 53)), none⟩, ⟨(some 12), (.mv (.t 54)), none⟩]) 
  (.seq (.reg [] [⟨(some 55), (.mv (.t 8)), none⟩, ⟨(some 56), (.bin .eql (.t 55) (.c (.v (.int .i64 0)))), none⟩, ⟨(some 57), (.mv (.t 56)), none⟩, ⟨(some 58), (.mv (.t 10)), (some (57, true))⟩, ⟨(some 59), (.bin .eql (.t 58) (.c (.v (.int .i64 0)))), (some (57, true))⟩, ⟨(some 60), (.pick (.t 57) (.t 59) (.c (.v (.bool false)))), none⟩, ⟨(some 61), (.mv (.t 60)), none⟩, ⟨(some 62), (.mv (.t 12)), (some (61, true))⟩, ⟨(some 63), (.bin .eql (.t 62) (.c (.v (.int .i64 0)))), (some (61, true))⟩, ⟨(some 64), (.pick (.t 61) (.t 63) (.c (.v (.bool false)))), none⟩, ⟨(some 65), (.mv (.t 64)), none⟩, ⟨(some 66), (.mv (.t 9)), (some (65, true))⟩, ⟨(some 67), (.mv (.t 1)), (some (65, true))⟩, ⟨(some 68), (.bin .eql (.t 66) (.t 67)), (some (65, true))⟩, ⟨(some 69), (.pick (.t 65) (.t 68) (.c (.v (.bool false)))), none⟩, ⟨(some 70), (.mv (.t 69)), none⟩, ⟨(some 71), (.mv (.t 11)), (some (70, true))⟩, ⟨(some 72), (.mv (.t 0)), (some (70, true))⟩, ⟨(some 73), (.bin .eql (.t 71) (.t 72)), (some (70, true))⟩, ⟨(some 74), (.pick (.t 70) (.t 73) (.c (.v (.bool false)))), none⟩, ⟨(some 75), (.mv (.t 74)), none⟩, ⟨(some 76), (.mv (.t 7)), (some (75, true))⟩, ⟨(some 77), (.mv (.t 0)), (some (75, true))⟩, ⟨(some 78), (.mv (.t 1)), (some (75, true))⟩, ⟨(some 79), (.mv (.t 2)), (some (75, true))⟩, ⟨(some 80), (.call (.c (.f 11 [])) [(.t 77), (.t 78), (.t 79)]), (some (75, true))⟩, ⟨(some 81), (.bin .eql (.t 76) (.t 80)), (some (75, true))⟩, ⟨(some 82), (.pick (.t 75) (.t 81) (.c (.v (.bool false)))), none⟩, ⟨(some 83), (.mv (.t 82)), none⟩, ⟨(some 84), (.mv (.t 7)), (some (83, true))⟩, ⟨(some 85), (.mv (.t 0)), (some (83, true))⟩, ⟨(some 86), (.mv (.t 1)), (some (83, true))⟩, ⟨(some 87), (.call (.c (.f 12 [])) [(.t 85), (.t 86)]), (some (83, true))⟩, ⟨(some 88), (.bin .geq (.t 84) (.t 87)), (some (83, true))⟩, ⟨(some 89), (.pick (.t 83) (.t 88) (.c (.v (.bool false)))), none⟩, ⟨(some 90), (.mv (.t 89)), none⟩, ⟨(some 91), (.mv (.t 7)), (some (90, true))⟩, ⟨(some 92), (.mv (.t 0)), (some (90, true))⟩, ⟨(some 93), (.mv (.t 1)), (some (90, true))⟩, ⟨(some 94), (.call (.c (.f 13 [])) [(.t 92), (.t 93)]), (some (90, true))⟩, ⟨(some 95), (.bin .leq (.t 91) (.t 94)), (some (90, true))⟩, ⟨(some 96), (.pick (.t 90) (.t 95) (.c (.v (.bool false)))), none⟩, ⟨(some 97), (.mv (.t 96)), none⟩, ⟨(some 98), (.call (.c (.f 8 [])) []), (some (97, true))⟩, ⟨(some 99), (.pick (.t 97) (.t 98) (.c (.v (.bool false)))), none⟩, ⟨(some 6), (.mv (.t 99)), none⟩]) .ret)))))), [(.t 6)]⟩

def c5 : MF := ⟨3, 46, 
  (.seq (.reg [] [⟨(some 6), (.mv (.c (.v (.bool false)))), none⟩]) 
  (.seq (.reg [] [⟨(some 7), (.mv (.t 0)), none⟩, ⟨(some 8), (.mv (.t 1)), none⟩, ⟨(some 9), (.call (.c (.f 14 [])) [(.t 7), (.t 8)]), none⟩, ⟨(some 10), (.mv (.t 0)), none⟩, ⟨(some 11), (.mv (.t 1)), none⟩, ⟨(some 12), (.call (.c (.f 15 [])) [(.t 10), (.t 11)]), none⟩, ⟨(some 13), (.bin .eql (.t 9) (.t 12)), none⟩, ⟨(some 14), (.mv (.t 13)), none⟩, ⟨(some 15), (.mv (.t 0)), (some (14, true))⟩, ⟨(some 16), (.mv (.t 1)), (some (14, true))⟩, ⟨(some 17), (.call (.c (.f 16 [])) [(.t 15), (.t 16)]), (some (14, true))⟩, ⟨(some 18), (.mv (.t 0)), (some (14, true))⟩, ⟨(some 19), (.mv (.t 1)), (some (14, true))⟩, ⟨(some 20), (.call (.c (.f 17 [])) [(.t 18), (.t 19)]), (some (14, true))⟩, ⟨(some 21), (.bin .eql (.t 17) (.t 20)), (some (14, true))⟩, ⟨(some 22), (.pick (.t 14) (.t 21) (.c (.v (.bool false)))), none⟩, ⟨(some 23), (.mv (.t 22)), none⟩, ⟨(some 24), (.mv (.t 0)), (some (23, true))⟩, ⟨(some 25), (.mv (.t 1)), (some (23, true))⟩, ⟨(some 26), (.call (.c (.f 18 [])) [(.t 24), (.t 25)]), (some (23, true))⟩, ⟨(some 27), (.mv (.t 0)), (some (23, true))⟩, ⟨(some 28), (.mv (.t 1)), (some (23, true))⟩, ⟨(some 29), (.call (.c (.f 19 [])) [(.t 27), (.t 28)]), (some (23, true))⟩, ⟨(some 30), (.bin .eql (.t 26) (.t 29)), (some (23, true))⟩, ⟨(some 31), (.pick (.t 23) (.t 30) (.c (.v (.bool false)))), none⟩, ⟨(some 32), (.mv (.t 31)), none⟩, ⟨(some 33), (.mv (.t 0)), (some (32, true))⟩, ⟨(some 34), (.mv (.t 1)), (some (32, true))⟩, ⟨(some 35), (.mv (.t 2)), (some (32, true))⟩, ⟨(some 36), (.call (.c (.f 20 [])) [(.t 33), (.t 34), (.t 35)]), (some (32, true))⟩, ⟨(some 37), (.mv (.t 0)), (some (32, true))⟩, ⟨(some 38), (.mv (.t 1)), (some (32, true))⟩, ⟨(some 39), (.mv (.t 2)), (some (32, true))⟩, ⟨(some 40), (.call (.c (.f 21 [])) [(.t 37), (.t 38), (.t 39)]), (some (32, true))⟩, ⟨(some 41), (.bin .eql (.t 36) (.t 40)), (some (32, true))⟩, ⟨(some 42), (.pick (.t 32) (.t 41) (.c (.v (.bool false)))), none⟩, ⟨(some 43), (.mv (.t 42)), none⟩, ⟨(some 44), (.call (.c (.f 8 [])) []), (some (43, true))⟩, ⟨(some 45), (.pick (.t 43) (.t 44) (.c (.v (.bool false)))), none⟩, ⟨(some 6), (.mv (.t 45)), none⟩]) .ret)), [(.t 6)]⟩

def c6 : MF := ⟨2, 129, 
  (.seq (.reg [] [⟨(some 4), (.mv (.c (.v (.bool false)))), none⟩]) 
  (.seq (.reg [] [⟨(some 12), (.mv (.t 0)), none⟩, ⟨(some 13), (.mv (.t 1)), none⟩, ⟨(some 14), (.call (.c (.f 22 [])) [(.t 12), (.t 13)]), none⟩, ⟨(some 11), (.mv (.t 14)), none⟩, ⟨(some 15), (.ext (.t 11) 0), none⟩, ⟨(some 16), (.ext (.t 11) 1), none⟩, ⟨(some 5), (.mv (.t 15)), none⟩, ⟨(some 6), (.mv (.t 16)), none⟩]) 
  (.seq (.reg [] [⟨(some 18), (.mv (.t 0)), none⟩, ⟨(some 19), (.mv (.t 1)), none⟩, ⟨(some 20), (.call (.c (.f 23 [])) [(.t 18), (.t 19)]), none⟩, ⟨(some 17), (.mv (.t 20)), none⟩, ⟨(some 21), (.ext (.t 17) 0), none⟩, ⟨(some 22), (.ext (.t 17) 1), none⟩, ⟨(some 7), (.mv (.t 21)), none⟩, ⟨(some 8), (.mv (.t 22)), none⟩]) 
  (.seq (.reg [] [⟨(some 24), (.mv (.t 0)), none⟩, ⟨(some 25), (.mv (.t 1)), none⟩, ⟨(some 26), (.call (.c (.f 24 [])) [(.t 24), (.t 25)]), none⟩, ⟨(some 23), (.mv (.t 26)), none⟩, ⟨(some 27), (.ext (.t 23) 0), none⟩, ⟨(some 28), (.ext (.t 23) 1), none⟩, ⟨(some 9), (.mv (.t 27)), none⟩, ⟨(some 10), (.mv (.t 28)), none⟩]) 
  (.seq 
  (.seq (.reg [] [⟨(some 29), (.mv (.t 1)), none⟩, ⟨(some 30), (.bin .eql (.t 29) (.c (.v (.int .i64 0)))), none⟩]) (.cond (.t 30) 
  (.seq (.reg [] [⟨(some 31), (.mv (.t 5)), none⟩, ⟨(some 32), (.bin .eql (.t 31) (.c (.v (.int .i64 0)))), none⟩, ⟨(some 33), (.mv (.t 32)), none⟩, ⟨(some 34), (.mv (.t 7)), (some (33, true))⟩, ⟨(some 35), (.bin .eql (.t 34) (.c (.v (.int .i64 0)))), (some (33, true))⟩, ⟨(some 36), (.pick (.t 33) (.t 35) (.c (.v (.bool false)))), none⟩, ⟨(some 37), (.mv (.t 36)), none⟩, ⟨(some 38), (.mv (.t 9)), (some (37, true))⟩, ⟨(some 39), (.bin .eql (.t 38) (.c (.v (.int .i64 0)))), (some (37, true))⟩, ⟨(some 40), (.pick (.t 37) (.t 39) (.c (.v (.bool false)))), none⟩, ⟨(some 41), (.mv (.t 40)), none⟩, ⟨(some 42), (.mv (.t 6)), (some (41, true))⟩, ⟨(some 43), (.bin .eql (.t 42) (.c (.v (.int .i64 2)))), (some (41, true))⟩, ⟨(some 44), (.pick (.t 41) (.t 43) (.c (.v (.bool false)))), none⟩, ⟨(some 45), (.mv (.t 44)), none⟩, ⟨(some 46), (.mv (.t 8)), (some (45, true))⟩, ⟨(some 47), (.bin .eql (.t 46) (.c (.v (.int .i64 2)))), (some (45, true))⟩, ⟨(some 48), (.pick (.t 45) (.t 47) (.c (.v (.bool false)))), none⟩, ⟨(some 49), (.mv (.t 48)), none⟩, ⟨(some 50), (.mv (.t 10)), (some (49, true))⟩, ⟨(some 51), (.bin .eql (.t 50) (.c (.v (.int .i64 2)))), (some (49, true))⟩, ⟨(some 52), (.pick (.t 49) (.t 51) (.c (.v (.bool false)))), none⟩, ⟨(some 53), (.mv (.t 52)), none⟩, ⟨(some 54), (.call (.c (.f 8 [])) []), (some (53, true))⟩, ⟨(some 55), (.pick (.t 53) (.t 54) (.c (.v (.bool false)))), none⟩, ⟨(some 4), (.mv (.t 55)), none⟩]) .ret) .skip)) 
  (.seq 
  (.seq (.reg [] [⟨(some 56), (.mv (.t 6)), none⟩, ⟨(some 57), (.bin .neq (.t 56) (.c (.v (.int .i64 0)))), none⟩, ⟨(some 58), (.mv (.t 57)), none⟩, ⟨(some 59), (.mv (.t 8)), (some (58, false))⟩, ⟨(some 60), (.bin .neq (.t 59) (.c (.v (.int .i64 0)))), (some (58, false))⟩, ⟨(some 61), (.pick (.t 58) (.c (.v (.bool true))) (.t 60)), none⟩, ⟨(some 62), (.mv (.t 61)), none⟩, ⟨(some 63), (.mv (.t 5)), (some (62, false))⟩, ⟨(some 64), (.mv (.t 0)), (some (62, false))⟩, ⟨(some 65), (.mv (.t 1)), (some (62, false))⟩, ⟨(some 66), (.call (.c (.f 25 [])) [(.t 64), (.t 65)]), (some (62, false))⟩, ⟨(some 67), (.bin .neq (.t 63) (.t 66)), (some (62, false))⟩, ⟨(some 68), (.pick (.t 62) (.c (.v (.bool true))) (.t 67)), none⟩, ⟨(some 69), (.mv (.t 68)), none⟩, ⟨(some 70), (.mv (.t 7)), (some (69, false))⟩, ⟨(some 71), (.mv (.t 0)), (some (69, false))⟩, ⟨(some 72), (.mv (.t 1)), (some (69, false))⟩, ⟨(some 73), (.call (.c (.f 26 [])) [(.t 71), (.t 72)]), (some (69, false))⟩, ⟨(some 74), (.bin .neq (.t 70) (.t 73)), (some (69, false))⟩, ⟨(some 75), (.pick (.t 69) (.c (.v (.bool true))) (.t 74)), none⟩]) (.cond (.t 75) 
  (.seq (.reg [] [⟨(some 4), (.mv (.c (.v (.bool false)))), none⟩]) .ret) .skip)) 
  (.seq 
  (.seq (.reg [] [⟨(some 76), (.mv (.t 1)), none⟩, ⟨(some 77), (.bin .lss (.t 76) (.c (.v (.int .i64 1)))), none⟩]) (.cond (.t 77) 
  (.seq (.reg [] [⟨(some 78), (.mv (.t 9)), none⟩, ⟨(some 79), (.bin .eql (.t 78) (.c (.v (.int .i64 0)))), none⟩, ⟨(some 80), (.mv (.t 79)), none⟩, ⟨(some 81), (.mv (.t 10)), (some (80, true))⟩, ⟨(some 82), (.bin .eql (.t 81) (.c (.v (.int .i64 2)))), (some (80, true))⟩, ⟨(some 83), (.pick (.t 80) (.t 82) (.c (.v (.bool false)))), none⟩, ⟨(some 84), (.mv (.t 83)), none⟩, ⟨(some 85), (.call (.c (.f 8 [])) []), (some (84, true))⟩, ⟨(some 86), (.pick (.t 84) (.t 85) (.c (.v (.bool false)))), none⟩, ⟨(some 4), (.mv (.t 86)), none⟩]) .ret) .skip)) 
  (.seq (.reg [] [⟨(some 87), (.mv (.t 10)), none⟩, ⟨(some 88), (.bin .eql (.t 87) (.c (.v (.int .i64 0)))), none⟩, ⟨(some 89), (.mv (.t 88)), none⟩, ⟨(some 90), (.mv (.t 9)), (some (89, true))⟩, ⟨(some 91), (.bin .geq (.t 90) (.c (.v (.int .i64 0)))), (some (89, true))⟩, ⟨(some 92), (.pick (.t 89) (.t 91) (.c (.v (.bool false)))), none⟩, ⟨(some 93), (.mv (.t 92)), none⟩, ⟨(some 94), (.mv (.t 9)), (some (93, true))⟩, ⟨(some 95), (.mv (.t 1)), (some (93, true))⟩, ⟨(some 96), (.bin .lss (.t 94) (.t 95)), (some (93, true))⟩, ⟨(some 97), (.pick (.t 93) (.t 96) (.c (.v (.bool false)))), none⟩, ⟨(some 98), (.mv (.t 97)), none⟩, ⟨(some 99), (.mv (.t 5)), (some (98, true))⟩, ⟨(some 100), (.mv (.t 1)), (some (98, true))⟩, ⟨(some 101), (.bin .mul (.t 99) (.t 100)), (some (98, true))⟩, ⟨(some 102), (.mv (.t 9)), (some (98, true))⟩, ⟨(some 103), (.bin .add (.t 101) (.t 102)), (some (98, true))⟩, ⟨(some 104), (.mv (.t 0)), (some (98, true))⟩, ⟨(some 105), (.bin .eql (.t 103) (.t 104)), (some (98, true))⟩, ⟨(some 106), (.pick (.t 98) (.t 105) (.c (.v (.bool false)))), none⟩, ⟨(some 107), (.mv (.t 106)), none⟩, ⟨(some 108), (.mv (.t 9)), (some (107, true))⟩, ⟨(some 109), (.bin .eql (.t 108) (.c (.v (.int .i64 0)))), (some (107, true))⟩, ⟨(some 110), (.mv (.t 109)), (some (107, true))⟩, ⟨(some 111), (.mv (.t 7)), (some (110, true))⟩, ⟨(some 112), (.mv (.t 5)), (some (110, true))⟩, ⟨(some 113), (.bin .eql (.t 111) (.t 112)), (some (110, true))⟩, ⟨(some 114), (.pick (.t 110) (.t 113) (.c (.v (.bool false)))), (some (107, true))⟩, ⟨(some 115), (.mv (.t 114)), (some (107, true))⟩, ⟨(some 116), (.mv (.t 9)), (some (115, false))⟩, ⟨(some 117), (.bin .gtr (.t 116) (.c (.v (.int .i64 0)))), (some (115, false))⟩, ⟨(some 118), (.mv (.t 117)), (some (115, false))⟩, ⟨(some 119), (.mv (.t 7)), (some (118, true))⟩, ⟨(some 120), (.mv (.t 5)), (some (118, true))⟩, ⟨(some 121), (.bin .add (.t 120) (.c (.v (.int .i64 1)))), (some (118, true))⟩, ⟨(some 122), (.bin .eql (.t 119) (.t 121)), (some (118, true))⟩, ⟨(some 123), (.pick (.t 118) (.t 122) (.c (.v (.bool false)))), (some (115, false))⟩, ⟨(some 124), (.pick (.t 115) (.c (.v (.bool true))) (.t 123)), (some (107, true))⟩, ⟨(some 125), (.pick (.t 107) (.t 124) (.c (.v (.bool false)))), none⟩, ⟨(some 126), (.mv (.t 125)), none⟩, ⟨(some 127), (.call (.c (.f 8 [])) []), (some (126, true))⟩, ⟨(some 128), (.pick (.t 126) (.t 127) (.c (.v (.bool false)))), none⟩, ⟨(some 4), (.mv (.t 128)), none⟩]) .ret)))))))), [(.t 4)]⟩

def c7 : MF := ⟨2, 26, 
  (.seq (.reg [] [⟨(some 4), (.mv (.c (.v (.int .i64 0)))), none⟩, ⟨(some 5), (.mv (.c (.v (.int .i64 0)))), none⟩]) 
  (.seq (.block 0 
  (.seq (.reg [] [⟨(some 7), (.mv (.t 1)), none⟩, ⟨(some 8), (.bin .lss (.t 7) (.c (.v (.int .i64 0)))), none⟩, ⟨(some 9), (.mv (.t 8)), none⟩, ⟨(some 10), (.mv (.t 1)), (some (9, false))⟩, ⟨(some 11), (.bin .gtr (.t 10) (.c (.v (.int .i64 62)))), (some (9, false))⟩, ⟨(some 12), (.pick (.t 9) (.c (.v (.bool true))) (.t 11)), none⟩, ⟨(some 6), (.mv (.t 12)), none⟩]) (.cond (.t 6) 
  (.seq (.reg [] [⟨(some 4), (.mv (.c (.v (.int .i64 0)))), none⟩, ⟨(some 5), (.mv (.c (.v (.int .i64 2)))), none⟩]) .ret) 
  (.seq (.reg [] [⟨(some 14), (.mv (.t 1)), none⟩, ⟨(some 15), (.bin .eql (.t 14) (.c (.v (.int .i64 0)))), none⟩, ⟨(some 13), (.mv (.t 15)), none⟩]) (.cond (.t 13) 
  (.seq (.reg [] [⟨(some 16), (.mv (.t 0)), none⟩, ⟨(some 4), (.mv (.t 16)), none⟩, ⟨(some 5), (.mv (.c (.v (.int .i64 0)))), none⟩]) .ret) .skip))))) 
  (.seq (.reg [⟨(some 17), (.mv (.t 0)), none⟩, ⟨(some 18), (.mv (.t 1)), none⟩, ⟨(some 19), (.bin .shr (.t 17) (.t 18)), none⟩, ⟨(some 20), (.mv (.t 0)), none⟩, ⟨(some 21), (.mv (.t 1)), none⟩, ⟨(some 22), (.bin .sub (.t 21) (.c (.v (.int .i64 1)))), none⟩, ⟨(some 23), (.bin .shr (.t 20) (.t 22)), none⟩, ⟨(some 24), (.bin .and (.t 23) (.c (.v (.int .i64 1)))), none⟩] [⟨(some 25), (.bin .add (.t 19) (.t 24)), none⟩, ⟨(some 4), (.mv (.t 25)), none⟩, ⟨(some 5), (.mv (.c (.v (.int .i64 0)))), none⟩]) .ret))), [(.t 4), (.t 5)]⟩

def c8 : MF := ⟨0, 49, 
  (.seq (.reg [] [⟨(some 0), (.mv (.c (.v (.bool false)))), none⟩]) 
  (.seq (.reg [] [⟨(some 8), (.call (.c (.f 22 [])) [(.c (.v (.int .i64 (-7)))), (.c (.v (.int .i64 2)))]), none⟩, ⟨(some 7), (.mv (.t 8)), none⟩, ⟨(some 9), (.ext (.t 7) 0), none⟩, ⟨(some 10), (.ext (.t 7) 1), none⟩, ⟨(some 1), (.mv (.t 9)), none⟩, ⟨(some 2), (.mv (.t 10)), none⟩]) 
  (.seq (.reg [] [⟨(some 12), (.call (.c (.f 7 [])) [(.c (.v (.int .i64 (-3)))), (.c (.v (.int .i64 1)))]), none⟩, ⟨(some 11), (.mv (.t 12)), none⟩, ⟨(some 13), (.ext (.t 11) 0), none⟩, ⟨(some 14), (.ext (.t 11) 1), none⟩, ⟨(some 3), (.mv (.t 13)), none⟩, ⟨(some 4), (.mv (.t 14)), none⟩]) 
  (.seq (.reg [] [⟨(some 16), (.call (.c (.f 10 [])) [(.c (.v (.int .i64 10))), (.c (.v (.int .i64 20))), (.c (.v (.int .i64 32768)))]), none⟩, ⟨(some 15), (.mv (.t 16)), none⟩, ⟨(some 17), (.ext (.t 15) 0), none⟩, ⟨(some 18), (.ext (.t 15) 1), none⟩, ⟨(some 5), (.mv (.t 17)), none⟩, ⟨(some 6), (.mv (.t 18)), none⟩]) 
  (.seq (.reg [] [⟨(some 19), (.mv (.t 1)), none⟩, ⟨(some 20), (.bin .eql (.t 19) (.c (.v (.int .i64 (-4))))), none⟩, ⟨(some 21), (.mv (.t 20)), none⟩, ⟨(some 22), (.mv (.t 2)), (some (21, true))⟩, ⟨(some 23), (.bin .eql (.t 22) (.c (.v (.int .i64 0)))), (some (21, true))⟩, ⟨(some 24), (.pick (.t 21) (.t 23) (.c (.v (.bool false)))), none⟩, ⟨(some 25), (.mv (.t 24)), none⟩, ⟨(some 26), (.mv (.t 3)), (some (25, true))⟩, ⟨(some 27), (.bin .eql (.t 26) (.c (.v (.int .i64 (-1))))), (some (25, true))⟩, ⟨(some 28), (.pick (.t 25) (.t 27) (.c (.v (.bool false)))), none⟩, ⟨(some 29), (.mv (.t 28)), none⟩, ⟨(some 30), (.mv (.t 4)), (some (29, true))⟩, ⟨(some 31), (.bin .eql (.t 30) (.c (.v (.int .i64 0)))), (some (29, true))⟩, ⟨(some 32), (.pick (.t 29) (.t 31) (.c (.v (.bool false)))), none⟩, ⟨(some 33), (.mv (.t 32)), none⟩, ⟨(some 34), (.mv (.t 5)), (some (33, true))⟩, ⟨(some 35), (.bin .eql (.t 34) (.c (.v (.int .i64 15)))), (some (33, true))⟩, ⟨(some 36), (.pick (.t 33) (.t 35) (.c (.v (.bool false)))), none⟩, ⟨(some 37), (.mv (.t 36)), none⟩, ⟨(some 38), (.mv (.t 6)), (some (37, true))⟩, ⟨(some 39), (.bin .eql (.t 38) (.c (.v (.int .i64 0)))), (some (37, true))⟩, ⟨(some 40), (.pick (.t 37) (.t 39) (.c (.v (.bool false)))), none⟩, ⟨(some 41), (.mv (.t 40)), none⟩, ⟨(some 42), (.call (.c (.f 20 [])) [(.c (.v (.int .i64 7))), (.c (.v (.int .i64 1))), (.c (.v (.int .i64 5)))]), (some (41, true))⟩, ⟨(some 43), (.bin .eql (.t 42) (.c (.v (.int .i64 5)))), (some (41, true))⟩, ⟨(some 44), (.pick (.t 41) (.t 43) (.c (.v (.bool false)))), none⟩, ⟨(some 45), (.mv (.t 44)), none⟩, ⟨(some 46), (.call (.c (.f 18 [])) [(.c (.v (.int .i64 1099511627776))), (.c (.v (.int .i64 (-1099511627776))))]), (some (45, true))⟩, ⟨(some 47), (.bin .eql (.t 46) (.c (.v (.int .i64 (-9223372036854775808))))), (some (45, true))⟩, ⟨(some 48), (.pick (.t 45) (.t 47) (.c (.v (.bool false)))), none⟩, ⟨(some 0), (.mv (.t 48)), none⟩]) .ret))))), [(.t 0)]⟩

def c9 : MF := ⟨2, 26, 
  (.seq (.reg [] [⟨(some 4), (.mv (.c (.v (.int .i64 0)))), none⟩]) 
  (.seq 
  (.seq (.reg [] [⟨(some 7), (.mv (.t 1)), none⟩, ⟨(some 8), (.bin .eql (.t 7) (.c (.v (.int .i64 0)))), none⟩]) (.cond (.t 8) 
  (.seq (.reg [] [⟨(some 9), (.mv (.t 0)), none⟩, ⟨(some 4), (.mv (.t 9)), none⟩]) .ret) .skip)) 
  (.seq (.reg [] [⟨(some 10), (.mv (.t 1)), none⟩, ⟨(some 11), (.call (.c (.f 27 [])) [(.t 10)]), none⟩, ⟨(some 5), (.mv (.t 11)), none⟩]) 
  (.seq (.reg [] [⟨(some 12), (.mv (.t 0)), none⟩, ⟨(some 13), (.mv (.t 5)), none⟩, ⟨(some 14), (.call (.c (.f 25 [])) [(.t 12), (.t 13)]), none⟩, ⟨(some 6), (.mv (.t 14)), none⟩]) 
  (.seq 
  (.seq (.reg [] [⟨(some 15), (.mv (.t 0)), none⟩, ⟨(some 16), (.mv (.t 6)), none⟩, ⟨(some 17), (.mv (.t 5)), none⟩, ⟨(some 18), (.bin .mul (.t 16) (.t 17)), none⟩, ⟨(some 19), (.bin .sub (.t 15) (.t 18)), none⟩, ⟨(some 20), (.mv (.t 5)), none⟩, ⟨(some 21), (.bin .quo (.t 20) (.c (.v (.int .i64 2)))), none⟩, ⟨(some 22), (.bin .geq (.t 19) (.t 21)), none⟩]) (.cond (.t 22) 
  (.seq (.reg [] [⟨(some 23), (.mv (.t 6)), none⟩, ⟨(some 24), (.bin .add (.t 23) (.c (.v (.int .i64 1)))), none⟩, ⟨(some 4), (.mv (.t 24)), none⟩]) .ret) .skip)) 
  (.seq (.reg [] [⟨(some 25), (.mv (.t 6)), none⟩, ⟨(some 4), (.mv (.t 25)), none⟩]) .ret)))))), [(.t 4)]⟩

def c10 : MF := ⟨3, 34, 
  (.seq (.reg [] [⟨(some 6), (.mv (.c (.v (.int .i64 0)))), none⟩, ⟨(some 7), (.mv (.c (.v (.int .i64 0)))), none⟩]) 
  (.seq 
  (.seq (.reg [] [⟨(some 10), (.mv (.t 0)), none⟩, ⟨(some 11), (.mv (.t 0)), none⟩, ⟨(some 12), (.call (.c (.f 20 [])) [(.t 11), (.c (.v (.int .i64 (-1099511627776)))), (.c (.v (.int .i64 1099511627776)))]), none⟩, ⟨(some 13), (.bin .neq (.t 10) (.t 12)), none⟩, ⟨(some 14), (.mv (.t 13)), none⟩, ⟨(some 15), (.mv (.t 1)), (some (14, false))⟩, ⟨(some 16), (.mv (.t 1)), (some (14, false))⟩, ⟨(some 17), (.call (.c (.f 20 [])) [(.t 16), (.c (.v (.int .i64 (-1099511627776)))), (.c (.v (.int .i64 1099511627776)))]), (some (14, false))⟩, ⟨(some 18), (.bin .neq (.t 15) (.t 17)), (some (14, false))⟩, ⟨(some 19), (.pick (.t 14) (.c (.v (.bool true))) (.t 18)), none⟩]) (.cond (.t 19) 
  (.seq (.reg [] [⟨(some 6), (.mv (.c (.v (.int .i64 0)))), none⟩, ⟨(some 7), (.mv (.c (.v (.int .i64 3)))), none⟩]) .ret) .skip)) 
  (.seq (.reg [] [⟨(some 21), (.mv (.t 1)), none⟩, ⟨(some 22), (.mv (.t 0)), none⟩, ⟨(some 23), (.bin .sub (.t 21) (.t 22)), none⟩, ⟨(some 24), (.mv (.t 2)), none⟩, ⟨(some 25), (.call (.c (.f 20 [])) [(.t 24), (.c (.v (.int .i64 0))), (.c (.v (.int .i64 65536)))]), none⟩, ⟨(some 26), (.bin .mul (.t 23) (.t 25)), none⟩, ⟨(some 27), (.call (.c (.f 22 [])) [(.t 26), (.c (.v (.int .i64 65536)))]), none⟩, ⟨(some 20), (.mv (.t 27)), none⟩, ⟨(some 28), (.ext (.t 20) 0), none⟩, ⟨(some 29), (.ext (.t 20) 1), none⟩, ⟨(some 8), (.mv (.t 28)), none⟩, ⟨(some 9), (.mv (.t 29)), none⟩]) 
  (.seq (.reg [] [⟨(some 30), (.mv (.t 0)), none⟩, ⟨(some 31), (.mv (.t 8)), none⟩, ⟨(some 32), (.bin .add (.t 30) (.t 31)), none⟩, ⟨(some 33), (.mv (.t 9)), none⟩, ⟨(some 6), (.mv (.t 32)), none⟩, ⟨(some 7), (.mv (.t 33)), none⟩]) .ret)))), [(.t 6), (.t 7)]⟩

def c11 : MF := ⟨3, 16, 
  (.seq (.reg [] [⟨(some 6), (.mv (.c (.v (.int .i64 0)))), none⟩]) 
  (.seq (.reg [] [⟨(some 7), (.mv (.t 0)), none⟩, ⟨(some 8), (.mv (.t 1)), none⟩, ⟨(some 9), (.mv (.t 0)), none⟩, ⟨(some 10), (.bin .sub (.t 8) (.t 9)), none⟩, ⟨(some 11), (.mv (.t 2)), none⟩, ⟨(some 12), (.call (.c (.f 21 [])) [(.t 11), (.c (.v (.int .i64 0))), (.c (.v (.int .i64 65536)))]), none⟩, ⟨(some 13), (.bin .mul (.t 10) (.t 12)), none⟩, ⟨(some 14), (.call (.c (.f 25 [])) [(.t 13), (.c (.v (.int .i64 65536)))]), none⟩, ⟨(some 15), (.bin .add (.t 7) (.t 14)), none⟩, ⟨(some 6), (.mv (.t 15)), none⟩]) .ret)), [(.t 6)]⟩

def c12 : MF := ⟨2, 10, 
  (.seq (.reg [] [⟨(some 4), (.mv (.c (.v (.int .i64 0)))), none⟩]) 
  (.seq 
  (.seq (.reg [] [⟨(some 5), (.mv (.t 0)), none⟩, ⟨(some 6), (.mv (.t 1)), none⟩, ⟨(some 7), (.bin .lss (.t 5) (.t 6)), none⟩]) (.cond (.t 7) 
  (.seq (.reg [] [⟨(some 8), (.mv (.t 0)), none⟩, ⟨(some 4), (.mv (.t 8)), none⟩]) .ret) .skip)) 
  (.seq (.reg [] [⟨(some 9), (.mv (.t 1)), none⟩, ⟨(some 4), (.mv (.t 9)), none⟩]) .ret))), [(.t 4)]⟩

def c13 : MF := ⟨2, 10, 
  (.seq (.reg [] [⟨(some 4), (.mv (.c (.v (.int .i64 0)))), none⟩]) 
  (.seq 
  (.seq (.reg [] [⟨(some 5), (.mv (.t 0)), none⟩, ⟨(some 6), (.mv (.t 1)), none⟩, ⟨(some 7), (.bin .gtr (.t 5) (.t 6)), none⟩]) (.cond (.t 7) 
  (.seq (.reg [] [⟨(some 8), (.mv (.t 0)), none⟩, ⟨(some 4), (.mv (.t 8)), none⟩]) .ret) .skip)) 
  (.seq (.reg [] [⟨(some 9), (.mv (.t 1)), none⟩, ⟨(some 4), (.mv (.t 9)), none⟩]) .ret))), [(.t 4)]⟩

def c14 : MF := ⟨2, 32, 
  (.seq (.reg [] [⟨(some 4), (.mv (.c (.v (.int .i64 0)))), none⟩]) 
  (.seq (.reg [] [⟨(some 6), (.mv (.t 0)), none⟩, ⟨(some 7), (.mv (.t 1)), none⟩, ⟨(some 8), (.bin .add (.t 6) (.t 7)), none⟩, ⟨(some 5), (.mv (.t 8)), none⟩]) 
  (.seq (.block 0 
  (.seq (.reg [] [⟨(some 10), (.mv (.t 0)), none⟩, ⟨(some 11), (.bin .gtr (.t 10) (.c (.v (.int .i64 0)))), none⟩, ⟨(some 12), (.mv (.t 11)), none⟩, ⟨(some 13), (.mv (.t 1)), (some (12, true))⟩, ⟨(some 14), (.bin .gtr (.t 13) (.c (.v (.int .i64 0)))), (some (12, true))⟩, ⟨(some 15), (.pick (.t 12) (.t 14) (.c (.v (.bool false)))), none⟩, ⟨(some 16), (.mv (.t 15)), none⟩, ⟨(some 17), (.mv (.t 5)), (some (16, true))⟩, ⟨(some 18), (.bin .lss (.t 17) (.c (.v (.int .i64 0)))), (some (16, true))⟩, ⟨(some 19), (.pick (.t 16) (.t 18) (.c (.v (.bool false)))), none⟩, ⟨(some 9), (.mv (.t 19)), none⟩]) (.cond (.t 9) 
  (.seq (.reg [] [⟨(some 4), (.mv (.c (.v (.int .i64 9223372036854775807)))), none⟩]) .ret) 
  (.seq (.reg [] [⟨(some 21), (.mv (.t 0)), none⟩, ⟨(some 22), (.bin .lss (.t 21) (.c (.v (.int .i64 0)))), none⟩, ⟨(some 23), (.mv (.t 22)), none⟩, ⟨(some 24), (.mv (.t 1)), (some (23, true))⟩, ⟨(some 25), (.bin .lss (.t 24) (.c (.v (.int .i64 0)))), (some (23, true))⟩, ⟨(some 26), (.pick (.t 23) (.t 25) (.c (.v (.bool false)))), none⟩, ⟨(some 27), (.mv (.t 26)), none⟩, ⟨(some 28), (.mv (.t 5)), (some (27, true))⟩, ⟨(some 29), (.bin .geq (.t 28) (.c (.v (.int .i64 0)))), (some (27, true))⟩, ⟨(some 30), (.pick (.t 27) (.t 29) (.c (.v (.bool false)))), none⟩, ⟨(some 20), (.mv (.t 30)), none⟩]) (.cond (.t 20) 
  (.seq (.reg [] [⟨(some 4), (.mv (.c (.v (.int .i64 (-9223372036854775808))))), none⟩]) .ret) .skip))))) 
  (.seq (.reg [] [⟨(some 31), (.mv (.t 5)), none⟩, ⟨(some 4), (.mv (.t 31)), none⟩]) .ret)))), [(.t 4)]⟩

def c15 : MF := ⟨2, 24, 
  (.seq (.reg [] [⟨(some 4), (.mv (.c (.v (.int .i64 0)))), none⟩]) 
  (.seq 
  (.seq (.reg [] [⟨(some 5), (.mv (.t 1)), none⟩, ⟨(some 6), (.bin .gtr (.t 5) (.c (.v (.int .i64 0)))), none⟩, ⟨(some 7), (.mv (.t 6)), none⟩, ⟨(some 8), (.mv (.t 0)), (some (7, true))⟩, ⟨(some 9), (.mv (.t 1)), (some (7, true))⟩, ⟨(some 10), (.bin .sub (.c (.v (.int .i64 9223372036854775807))) (.t 9)), (some (7, true))⟩, ⟨(some 11), (.bin .gtr (.t 8) (.t 10)), (some (7, true))⟩, ⟨(some 12), (.pick (.t 7) (.t 11) (.c (.v (.bool false)))), none⟩]) (.cond (.t 12) 
  (.seq (.reg [] [⟨(some 4), (.mv (.c (.v (.int .i64 9223372036854775807)))), none⟩]) .ret) .skip)) 
  (.seq 
  (.seq (.reg [] [⟨(some 13), (.mv (.t 1)), none⟩, ⟨(some 14), (.bin .lss (.t 13) (.c (.v (.int .i64 0)))), none⟩, ⟨(some 15), (.mv (.t 14)), none⟩, ⟨(some 16), (.mv (.t 0)), (some (15, true))⟩, ⟨(some 17), (.mv (.t 1)), (some (15, true))⟩, ⟨(some 18), (.bin .sub (.c (.v (.int .i64 (-9223372036854775808)))) (.t 17)), (some (15, true))⟩, ⟨(some 19), (.bin .lss (.t 16) (.t 18)), (some (15, true))⟩, ⟨(some 20), (.pick (.t 15) (.t 19) (.c (.v (.bool false)))), none⟩]) (.cond (.t 20) 
  (.seq (.reg [] [⟨(some 4), (.mv (.c (.v (.int .i64 (-9223372036854775808))))), none⟩]) .ret) .skip)) 
  (.seq (.reg [] [⟨(some 21), (.mv (.t 0)), none⟩, ⟨(some 22), (.mv (.t 1)), none⟩, ⟨(some 23), (.bin .add (.t 21) (.t 22)), none⟩, ⟨(some 4), (.mv (.t 23)), none⟩]) .ret)))), [(.t 4)]⟩

def c16 : MF := ⟨2, 32, 
  (.seq (.reg [] [⟨(some 4), (.mv (.c (.v (.int .i64 0)))), none⟩]) 
  (.seq (.reg [] [⟨(some 6), (.mv (.t 0)), none⟩, ⟨(some 7), (.mv (.t 1)), none⟩, ⟨(some 8), (.bin .sub (.t 6) (.t 7)), none⟩, ⟨(some 5), (.mv (.t 8)), none⟩]) 
  (.seq (.block 0 
  (.seq (.reg [] [⟨(some 10), (.mv (.t 0)), none⟩, ⟨(some 11), (.bin .geq (.t 10) (.c (.v (.int .i64 0)))), none⟩, ⟨(some 12), (.mv (.t 11)), none⟩, ⟨(some 13), (.mv (.t 1)), (some (12, true))⟩, ⟨(some 14), (.bin .lss (.t 13) (.c (.v (.int .i64 0)))), (some (12, true))⟩, ⟨(some 15), (.pick (.t 12) (.t 14) (.c (.v (.bool false)))), none⟩, ⟨(some 16), (.mv (.t 15)), none⟩, ⟨(some 17), (.mv (.t 5)), (some (16, true))⟩, ⟨(some 18), (.bin .lss (.t 17) (.c (.v (.int .i64 0)))), (some (16, true))⟩, ⟨(some 19), (.pick (.t 16) (.t 18) (.c (.v (.bool false)))), none⟩, ⟨(some 9), (.mv (.t 19)), none⟩]) (.cond (.t 9) 
  (.seq (.reg [] [⟨(some 4), (.mv (.c (.v (.int .i64 9223372036854775807)))), none⟩]) .ret) 
  (.seq (.reg [] [⟨(some 21), (.mv (.t 0)), none⟩, ⟨(some 22), (.bin .lss (.t 21) (.c (.v (.int .i64 0)))), none⟩, ⟨(some 23), (.mv (.t 22)), none⟩, ⟨(some 24), (.mv (.t 1)), (some (23, true))⟩, ⟨(some 25), (.bin .gtr (.t 24) (.c (.v (.int .i64 0)))), (some (23, true))⟩, ⟨(some 26), (.pick (.t 23) (.t 25) (.c (.v (.bool false)))), none⟩, ⟨(some 27), (.mv (.t 26)), none⟩, ⟨(some 28), (.mv (.t 5)), (some (27, true))⟩, ⟨(some 29), (.bin .gtr (.t 28) (.c (.v (.int .i64 0)))), (some (27, true))⟩, ⟨(some 30), (.pick (.t 27) (.t 29) (.c (.v (.bool false)))), none⟩, ⟨(some 20), (.mv (.t 30)), none⟩]) (.cond (.t 20) 
  (.seq (.reg [] [⟨(some 4), (.mv (.c (.v (.int .i64 (-9223372036854775808))))), none⟩]) .ret) .skip))))) 
  (.seq (.reg [] [⟨(some 31), (.mv (.t 5)), none⟩, ⟨(some 4), (.mv (.t 31)), none⟩]) .ret)))), [(.t 4)]⟩

def c17 : MF := ⟨2, 24, 
  (.seq (.reg [] [⟨(some 4), (.mv (.c (.v (.int .i64 0)))), none⟩]) 
  (.seq 
  (.seq (.reg [] [⟨(some 5), (.mv (.t 1)), none⟩, ⟨(some 6), (.bin .lss (.t 5) (.c (.v (.int .i64 0)))), none⟩, ⟨(some 7), (.mv (.t 6)), none⟩, ⟨(some 8), (.mv (.t 0)), (some (7, true))⟩, ⟨(some 9), (.mv (.t 1)), (some (7, true))⟩, ⟨(some 10), (.bin .add (.c (.v (.int .i64 9223372036854775807))) (.t 9)), (some (7, true))⟩, ⟨(some 11), (.bin .gtr (.t 8) (.t 10)), (some (7, true))⟩, ⟨(some 12), (.pick (.t 7) (.t 11) (.c (.v (.bool false)))), none⟩]) (.cond (.t 12) 
  (.seq (.reg [] [⟨(some 4), (.mv (.c (.v (.int .i64 9223372036854775807)))), none⟩]) .ret) .skip)) 
  (.seq 
  (.seq (.reg [] [⟨(some 13), (.mv (.t 1)), none⟩, ⟨(some 14), (.bin .gtr (.t 13) (.c (.v (.int .i64 0)))), none⟩, ⟨(some 15), (.mv (.t 14)), none⟩, ⟨(some 16), (.mv (.t 0)), (some (15, true))⟩, ⟨(some 17), (.mv (.t 1)), (some (15, true))⟩, ⟨(some 18), (.bin .add (.c (.v (.int .i64 (-9223372036854775808)))) (.t 17)), (some (15, true))⟩, ⟨(some 19), (.bin .lss (.t 16) (.t 18)), (some (15, true))⟩, ⟨(some 20), (.pick (.t 15) (.t 19) (.c (.v (.bool false)))), none⟩]) (.cond (.t 20) 
  (.seq (.reg [] [⟨(some 4), (.mv (.c (.v (.int .i64 (-9223372036854775808))))), none⟩]) .ret) .skip)) 
  (.seq (.reg [] [⟨(some 21), (.mv (.t 0)), none⟩, ⟨(some 22), (.mv (.t 1)), none⟩, ⟨(some 23), (.bin .sub (.t 21) (.t 22)), none⟩, ⟨(some 4), (.mv (.t 23)), none⟩]) .ret)))), [(.t 4)]⟩

def c18 : MF := ⟨2, 45, 
  (.seq (.reg [] [⟨(some 4), (.mv (.c (.v (.int .i64 0)))), none⟩]) 
  (.seq (.reg [] [⟨(some 9), (.mv (.t 0)), none⟩, ⟨(some 10), (.call (.c (.f 29 [])) [(.t 9)]), none⟩, ⟨(some 11), (.mv (.t 1)), none⟩, ⟨(some 12), (.call (.c (.f 29 [])) [(.t 11)]), none⟩, ⟨(some 13), (.call (.c (.f 28 [])) [(.t 10), (.t 12)]), none⟩, ⟨(some 8), (.mv (.t 13)), none⟩, ⟨(some 14), (.ext (.t 8) 0), none⟩, ⟨(some 15), (.ext (.t 8) 1), none⟩, ⟨(some 5), (.mv (.t 14)), none⟩, ⟨(some 6), (.mv (.t 15)), none⟩]) 
  (.seq (.reg [] [⟨(some 16), (.mv (.t 0)), none⟩, ⟨(some 17), (.bin .lss (.t 16) (.c (.v (.int .i64 0)))), none⟩, ⟨(some 18), (.mv (.t 1)), none⟩, ⟨(some 19), (.bin .lss (.t 18) (.c (.v (.int .i64 0)))), none⟩, ⟨(some 20), (.eqv true false [.b] (.t 17) (.t 19)), none⟩, ⟨(some 7), (.mv (.t 20)), none⟩]) 
  (.seq (.block 0 
  (.seq (.reg [] [⟨(some 22), (.mv (.t 7)), none⟩, ⟨(some 23), (.mv (.t 22)), none⟩, ⟨(some 24), (.mv (.t 5)), (some (23, true))⟩, ⟨(some 25), (.bin .gtr (.t 24) (.c (.v (.int .u64 0)))), (some (23, true))⟩, ⟨(some 26), (.mv (.t 25)), (some (23, true))⟩, ⟨(some 27), (.mv (.t 6)), (some (26, false))⟩, ⟨(some 28), (.bin .gtr (.t 27) (.c (.v (.int .u64 9223372036854775808)))), (some (26, false))⟩, ⟨(some 29), (.pick (.t 26) (.c (.v (.bool true))) (.t 28)), (some (23, true))⟩, ⟨(some 30), (.pick (.t 23) (.t 29) (.c (.v (.bool false)))), none⟩, ⟨(some 21), (.mv (.t 30)), none⟩]) (.cond (.t 21) 
  (.seq (.reg [] [⟨(some 4), (.mv (.c (.v (.int .i64 (-9223372036854775808))))), none⟩]) .ret) 
  (.seq (.reg [] [⟨(some 32), (.mv (.t 7)), none⟩, ⟨(some 31), (.mv (.t 32)), none⟩]) (.cond (.t 31) 
  (.seq (.reg [] [⟨(some 33), (.mv (.t 6)), none⟩, ⟨(some 34), (.un .neg (.t 33)), none⟩, ⟨(some 35), (.conv .i64 (.t 34)), none⟩, ⟨(some 4), (.mv (.t 35)), none⟩]) .ret) 
  (.seq (.reg [] [⟨(some 37), (.mv (.t 5)), none⟩, ⟨(some 38), (.bin .gtr (.t 37) (.c (.v (.int .u64 0)))), none⟩, ⟨(some 39), (.mv (.t 38)), none⟩, ⟨(some 40), (.mv (.t 6)), (some (39, false))⟩, ⟨(some 41), (.bin .geq (.t 40) (.c (.v (.int .u64 9223372036854775808)))), (some (39, false))⟩, ⟨(some 42), (.pick (.t 39) (.c (.v (.bool true))) (.t 41)), none⟩, ⟨(some 36), (.mv (.t 42)), none⟩]) (.cond (.t 36) 
  (.seq (.reg [] [⟨(some 4), (.mv (.c (.v (.int .i64 9223372036854775807)))), none⟩]) .ret) .skip))))))) 
  (.seq (.reg [] [⟨(some 43), (.mv (.t 6)), none⟩, ⟨(some 44), (.conv .i64 (.t 43)), none⟩, ⟨(some 4), (.mv (.t 44)), none⟩]) .ret))))), [(.t 4)]⟩

def c19b0 : MC := 
  (.seq 
  (.seq (.reg [] [⟨(some 30), (.mv (.t 7)), none⟩, ⟨(some 31), (.bin .geq (.t 30) (.c (.v (.int .i64 0)))), none⟩]) (.cond (.t 31) .skip (.exit 2))) 
  (.seq (.block 3 
  (.seq (.reg [] [⟨(some 34), (.mv (.t 5)), none⟩, ⟨(some 35), (.mv (.t 5)), none⟩, ⟨(some 36), (.call (.c (.f 15 [])) [(.t 34), (.t 35)]), none⟩, ⟨(some 5), (.mv (.t 36)), none⟩]) 
  (.seq (.reg [] [⟨(some 37), (.mv (.t 1)), none⟩, ⟨(some 38), (.conv .u64 (.t 37)), none⟩, ⟨(some 39), (.mv (.t 7)), none⟩, ⟨(some 40), (.conv .u64 (.t 39)), none⟩, ⟨(some 41), (.bin .shr (.t 38) (.t 40)), none⟩, ⟨(some 42), (.bin .rem (.t 41) (.c (.v (.int .u64 2)))), none⟩, ⟨(some 43), (.bin .eql (.t 42) (.c (.v (.int .u64 1)))), none⟩]) (.cond (.t 43) (.reg [] [⟨(some 44), (.mv (.t 5)), none⟩, ⟨(some 45), (.mv (.t 0)), none⟩, ⟨(some 46), (.call (.c (.f 15 [])) [(.t 44), (.t 45)]), none⟩, ⟨(some 5), (.mv (.t 46)), none⟩]) .skip)))) (.reg [] [⟨(some 32), (.mv (.t 7)), none⟩, ⟨(some 33), (.bin .sub (.t 32) (.c (.v (.int .i64 1)))), none⟩, ⟨(some 7), (.mv (.t 33)), none⟩])))

def c19b1 : MC := 
  (.seq 
  (.seq (.reg [] [⟨(some 10), (.mv (.t 6)), none⟩, ⟨(some 11), (.bin .geq (.t 10) (.c (.v (.int .i64 0)))), none⟩]) (.cond (.t 11) .skip (.exit 0))) 
  (.seq (.block 1 
  (.seq (.reg [] [⟨(some 14), (.mv (.t 5)), none⟩, ⟨(some 15), (.mv (.t 5)), none⟩, ⟨(some 16), (.call (.c (.f 15 [])) [(.t 14), (.t 15)]), none⟩, ⟨(some 5), (.mv (.t 16)), none⟩]) 
  (.seq (.reg [] [⟨(some 17), (.mv (.t 1)), none⟩, ⟨(some 18), (.conv .u64 (.t 17)), none⟩, ⟨(some 19), (.mv (.t 6)), none⟩, ⟨(some 20), (.conv .u64 (.t 19)), none⟩, ⟨(some 21), (.bin .shr (.t 18) (.t 20)), none⟩, ⟨(some 22), (.bin .rem (.t 21) (.c (.v (.int .u64 2)))), none⟩, ⟨(some 23), (.bin .eql (.t 22) (.c (.v (.int .u64 0)))), none⟩]) (.cond (.t 23) (.reg [] [⟨(some 24), (.mv (.t 5)), none⟩, ⟨(some 25), (.mv (.t 0)), none⟩, ⟨(some 26), (.call (.c (.f 17 [])) [(.t 24), (.t 25)]), none⟩, ⟨(some 5), (.mv (.t 26)), none⟩]) .skip)))) (.reg [] [⟨(some 12), (.mv (.t 6)), none⟩, ⟨(some 13), (.bin .sub (.t 12) (.c (.v (.int .i64 1)))), none⟩, ⟨(some 6), (.mv (.t 13)), none⟩])))

def c19 : MF := ⟨2, 48, 
  (.seq (.reg [] [⟨(some 4), (.mv (.c (.v (.int .i64 0)))), none⟩]) 
  (.seq (.reg [] [⟨(some 5), (.mv (.c (.v (.int .i64 0)))), none⟩]) 
  (.seq 
  (.seq (.reg [] [⟨(some 8), (.mv (.t 1)), none⟩, ⟨(some 9), (.bin .lss (.t 8) (.c (.v (.int .i64 0)))), none⟩]) (.cond (.t 9) 
  (.seq 
  (.seq (.reg [] [⟨(some 6), (.mv (.c (.v (.int .i64 63)))), none⟩]) (.block 0 
  (.loop [13, 12, 26, 25, 24, 23, 22, 21, 20, 19, 18, 17, 16, 15, 14, 11, 10] c19b1))) 
  (.seq (.reg [] [⟨(some 27), (.mv (.t 5)), none⟩, ⟨(some 28), (.mv (.t 0)), none⟩, ⟨(some 29), (.call (.c (.f 17 [])) [(.t 27), (.t 28)]), none⟩, ⟨(some 4), (.mv (.t 29)), none⟩]) .ret)) .skip)) 
  (.seq 
  (.seq (.reg [] [⟨(some 7), (.mv (.c (.v (.int .i64 62)))), none⟩]) (.block 2 
  (.loop [33, 32, 46, 45, 44, 43, 42, 41, 40, 39, 38, 37, 36, 35, 34, 31, 30] c19b0))) 
  (.seq (.reg [] [⟨(some 47), (.mv (.t 5)), none⟩, ⟨(some 4), (.mv (.t 47)), none⟩]) .ret))))), [(.t 4)]⟩

def c20 : MF := ⟨3, 18, 
  (.seq (.reg [] [⟨(some 6), (.mv (.c (.v (.int .i64 0)))), none⟩]) 
  (.seq (.block 0 
  (.seq (.reg [] [⟨(some 8), (.mv (.t 0)), none⟩, ⟨(some 9), (.mv (.t 1)), none⟩, ⟨(some 10), (.bin .lss (.t 8) (.t 9)), none⟩, ⟨(some 7), (.mv (.t 10)), none⟩]) (.cond (.t 7) 
  (.seq (.reg [] [⟨(some 11), (.mv (.t 1)), none⟩, ⟨(some 6), (.mv (.t 11)), none⟩]) .ret) 
  (.seq (.reg [] [⟨(some 13), (.mv (.t 0)), none⟩, ⟨(some 14), (.mv (.t 2)), none⟩, ⟨(some 15), (.bin .gtr (.t 13) (.t 14)), none⟩, ⟨(some 12), (.mv (.t 15)), none⟩]) (.cond (.t 12) 
  (.seq (.reg [] [⟨(some 16), (.mv (.t 2)), none⟩, ⟨(some 6), (.mv (.t 16)), none⟩]) .ret) .skip))))) 
  (.seq (.reg [] [⟨(some 17), (.mv (.t 0)), none⟩, ⟨(some 6), (.mv (.t 17)), none⟩]) .ret))), [(.t 6)]⟩

def c21 : MF := ⟨3, 16, 
  (.seq (.reg [] [⟨(some 6), (.mv (.c (.v (.int .i64 0)))), none⟩]) 
  (.seq 
  (.seq (.reg [] [⟨(some 7), (.mv (.t 0)), none⟩, ⟨(some 8), (.mv (.t 1)), none⟩, ⟨(some 9), (.bin .lss (.t 7) (.t 8)), none⟩]) (.cond (.t 9) 
  (.seq (.reg [] [⟨(some 10), (.mv (.t 1)), none⟩, ⟨(some 6), (.mv (.t 10)), none⟩]) .ret) .skip)) 
  (.seq 
  (.seq (.reg [] [⟨(some 11), (.mv (.t 0)), none⟩, ⟨(some 12), (.mv (.t 2)), none⟩, ⟨(some 13), (.bin .gtr (.t 11) (.t 12)), none⟩]) (.cond (.t 13) 
  (.seq (.reg [] [⟨(some 14), (.mv (.t 2)), none⟩, ⟨(some 6), (.mv (.t 14)), none⟩]) .ret) .skip)) 
  (.seq (.reg [] [⟨(some 15), (.mv (.t 0)), none⟩, ⟨(some 6), (.mv (.t 15)), none⟩]) .ret)))), [(.t 6)]⟩

def c22 : MF := ⟨2, 34, 
  (.seq (.reg [] [⟨(some 4), (.mv (.c (.v (.int .i64 0)))), none⟩, ⟨(some 5), (.mv (.c (.v (.int .i64 0)))), none⟩]) 
  (.seq (.block 0 
  (.seq (.reg [] [⟨(some 8), (.mv (.t 1)), none⟩, ⟨(some 9), (.bin .eql (.t 8) (.c (.v (.int .i64 0)))), none⟩, ⟨(some 7), (.mv (.t 9)), none⟩]) (.cond (.t 7) 
  (.seq (.reg [] [⟨(some 4), (.mv (.c (.v (.int .i64 0)))), none⟩, ⟨(some 5), (.mv (.c (.v (.int .i64 2)))), none⟩]) .ret) 
  (.seq (.reg [] [⟨(some 11), (.mv (.t 0)), none⟩, ⟨(some 12), (.bin .eql (.t 11) (.c (.v (.int .i64 (-9223372036854775808))))), none⟩, ⟨(some 13), (.mv (.t 12)), none⟩, ⟨(some 14), (.mv (.t 1)), (some (13, true))⟩, ⟨(some 15), (.bin .eql (.t 14) (.c (.v (.int .i64 (-1))))), (some (13, true))⟩, ⟨(some 16), (.pick (.t 13) (.t 15) (.c (.v (.bool false)))), none⟩, ⟨(some 10), (.mv (.t 16)), none⟩]) (.cond (.t 10) 
  (.seq (.reg [] [⟨(some 4), (.mv (.c (.v (.int .i64 9223372036854775807)))), none⟩, ⟨(some 5), (.mv (.c (.v (.int .i64 0)))), none⟩]) .ret) .skip))))) 
  (.seq (.reg [] [⟨(some 17), (.mv (.t 0)), none⟩, ⟨(some 18), (.mv (.t 1)), none⟩, ⟨(some 19), (.bin .quo (.t 17) (.t 18)), none⟩, ⟨(some 6), (.mv (.t 19)), none⟩]) 
  (.seq 
  (.seq (.reg [] [⟨(some 20), (.mv (.t 0)), none⟩, ⟨(some 21), (.mv (.t 1)), none⟩, ⟨(some 22), (.bin .rem (.t 20) (.t 21)), none⟩, ⟨(some 23), (.bin .neq (.t 22) (.c (.v (.int .i64 0)))), none⟩, ⟨(some 24), (.mv (.t 23)), none⟩, ⟨(some 25), (.mv (.t 0)), (some (24, true))⟩, ⟨(some 26), (.bin .lss (.t 25) (.c (.v (.int .i64 0)))), (some (24, true))⟩, ⟨(some 27), (.mv (.t 1)), (some (24, true))⟩, ⟨(some 28), (.bin .lss (.t 27) (.c (.v (.int .i64 0)))), (some (24, true))⟩, ⟨(some 29), (.eqv true false [.b] (.t 26) (.t 28)), (some (24, true))⟩, ⟨(some 30), (.pick (.t 24) (.t 29) (.c (.v (.bool false)))), none⟩]) (.cond (.t 30) (.reg [] [⟨(some 31), (.mv (.t 6)), none⟩, ⟨(some 32), (.bin .sub (.t 31) (.c (.v (.int .i64 1)))), none⟩, ⟨(some 6), (.mv (.t 32)), none⟩]) .skip)) 
  (.seq (.reg [] [⟨(some 33), (.mv (.t 6)), none⟩, ⟨(some 4), (.mv (.t 33)), none⟩, ⟨(some 5), (.mv (.c (.v (.int .i64 0)))), none⟩]) .ret))))), [(.t 4), (.t 5)]⟩

def c23 : MF := ⟨2, 34, 
  (.seq (.reg [] [⟨(some 4), (.mv (.c (.v (.int .i64 0)))), none⟩, ⟨(some 5), (.mv (.c (.v (.int .i64 0)))), none⟩]) 
  (.seq (.block 0 
  (.seq (.reg [] [⟨(some 8), (.mv (.t 1)), none⟩, ⟨(some 9), (.bin .eql (.t 8) (.c (.v (.int .i64 0)))), none⟩, ⟨(some 7), (.mv (.t 9)), none⟩]) (.cond (.t 7) 
  (.seq (.reg [] [⟨(some 4), (.mv (.c (.v (.int .i64 0)))), none⟩, ⟨(some 5), (.mv (.c (.v (.int .i64 2)))), none⟩]) .ret) 
  (.seq (.reg [] [⟨(some 11), (.mv (.t 0)), none⟩, ⟨(some 12), (.bin .eql (.t 11) (.c (.v (.int .i64 (-9223372036854775808))))), none⟩, ⟨(some 13), (.mv (.t 12)), none⟩, ⟨(some 14), (.mv (.t 1)), (some (13, true))⟩, ⟨(some 15), (.bin .eql (.t 14) (.c (.v (.int .i64 (-1))))), (some (13, true))⟩, ⟨(some 16), (.pick (.t 13) (.t 15) (.c (.v (.bool false)))), none⟩, ⟨(some 10), (.mv (.t 16)), none⟩]) (.cond (.t 10) 
  (.seq (.reg [] [⟨(some 4), (.mv (.c (.v (.int .i64 9223372036854775807)))), none⟩, ⟨(some 5), (.mv (.c (.v (.int .i64 0)))), none⟩]) .ret) .skip))))) 
  (.seq (.reg [] [⟨(some 17), (.mv (.t 0)), none⟩, ⟨(some 18), (.mv (.t 1)), none⟩, ⟨(some 19), (.bin .quo (.t 17) (.t 18)), none⟩, ⟨(some 6), (.mv (.t 19)), none⟩]) 
  (.seq 
  (.seq (.reg [] [⟨(some 20), (.mv (.t 0)), none⟩, ⟨(some 21), (.mv (.t 1)), none⟩, ⟨(some 22), (.bin .rem (.t 20) (.t 21)), none⟩, ⟨(some 23), (.bin .neq (.t 22) (.c (.v (.int .i64 0)))), none⟩, ⟨(some 24), (.mv (.t 23)), none⟩, ⟨(some 25), (.mv (.t 0)), (some (24, true))⟩, ⟨(some 26), (.bin .lss (.t 25) (.c (.v (.int .i64 0)))), (some (24, true))⟩, ⟨(some 27), (.mv (.t 1)), (some (24, true))⟩, ⟨(some 28), (.bin .lss (.t 27) (.c (.v (.int .i64 0)))), (some (24, true))⟩, ⟨(some 29), (.eqv false false [.b] (.t 26) (.t 28)), (some (24, true))⟩, ⟨(some 30), (.pick (.t 24) (.t 29) (.c (.v (.bool false)))), none⟩]) (.cond (.t 30) (.reg [] [⟨(some 31), (.mv (.t 6)), none⟩, ⟨(some 32), (.bin .add (.t 31) (.c (.v (.int .i64 1)))), none⟩, ⟨(some 6), (.mv (.t 32)), none⟩]) .skip)) 
  (.seq (.reg [] [⟨(some 33), (.mv (.t 6)), none⟩, ⟨(some 4), (.mv (.t 33)), none⟩, ⟨(some 5), (.mv (.c (.v (.int .i64 0)))), none⟩]) .ret))))), [(.t 4), (.t 5)]⟩

def c24 : MF := ⟨2, 18, 
  (.seq (.reg [] [⟨(some 4), (.mv (.c (.v (.int .i64 0)))), none⟩, ⟨(some 5), (.mv (.c (.v (.int .i64 0)))), none⟩]) 
  (.seq 
  (.seq (.reg [] [⟨(some 7), (.mv (.t 1)), none⟩, ⟨(some 8), (.bin .lss (.t 7) (.c (.v (.int .i64 1)))), none⟩]) (.cond (.t 8) 
  (.seq (.reg [] [⟨(some 4), (.mv (.c (.v (.int .i64 0)))), none⟩, ⟨(some 5), (.mv (.c (.v (.int .i64 2)))), none⟩]) .ret) .skip)) 
  (.seq (.reg [] [⟨(some 9), (.mv (.t 0)), none⟩, ⟨(some 10), (.mv (.t 1)), none⟩, ⟨(some 11), (.bin .rem (.t 9) (.t 10)), none⟩, ⟨(some 6), (.mv (.t 11)), none⟩]) 
  (.seq 
  (.seq (.reg [] [⟨(some 12), (.mv (.t 6)), none⟩, ⟨(some 13), (.bin .lss (.t 12) (.c (.v (.int .i64 0)))), none⟩]) (.cond (.t 13) (.reg [] [⟨(some 14), (.mv (.t 6)), none⟩, ⟨(some 15), (.mv (.t 1)), none⟩, ⟨(some 16), (.bin .add (.t 14) (.t 15)), none⟩, ⟨(some 6), (.mv (.t 16)), none⟩]) .skip)) 
  (.seq (.reg [] [⟨(some 17), (.mv (.t 6)), none⟩, ⟨(some 4), (.mv (.t 17)), none⟩, ⟨(some 5), (.mv (.c (.v (.int .i64 0)))), none⟩]) .ret))))), [(.t 4), (.t 5)]⟩

def c25 : MF := ⟨2, 38, 
  (.seq (.reg [] [⟨(some 4), (.mv (.c (.v (.int .i64 0)))), none⟩]) 
  (.seq 
  (.seq (.reg [] [⟨(some 7), (.mv (.t 0)), none⟩, ⟨(some 8), (.bin .eql (.t 7) (.c (.v (.int .i64 (-9223372036854775808))))), none⟩, ⟨(some 9), (.mv (.t 8)), none⟩, ⟨(some 10), (.mv (.t 1)), (some (9, true))⟩, ⟨(some 11), (.bin .eql (.t 10) (.c (.v (.int .i64 (-1))))), (some (9, true))⟩, ⟨(some 12), (.pick (.t 9) (.t 11) (.c (.v (.bool false)))), none⟩]) (.cond (.t 12) 
  (.seq (.reg [] [⟨(some 4), (.mv (.c (.v (.int .i64 9223372036854775807)))), none⟩]) .ret) .skip)) 
  (.seq (.reg [] [⟨(some 13), (.mv (.t 0)), none⟩, ⟨(some 14), (.mv (.t 1)), none⟩, ⟨(some 15), (.bin .quo (.t 13) (.t 14)), none⟩, ⟨(some 5), (.mv (.t 15)), none⟩]) 
  (.seq (.reg [] [⟨(some 16), (.mv (.t 0)), none⟩, ⟨(some 17), (.mv (.t 5)), none⟩, ⟨(some 18), (.mv (.t 1)), none⟩, ⟨(some 19), (.bin .mul (.t 17) (.t 18)), none⟩, ⟨(some 20), (.bin .sub (.t 16) (.t 19)), none⟩, ⟨(some 6), (.mv (.t 20)), none⟩]) 
  (.seq 
  (.seq (.reg [] [⟨(some 21), (.mv (.t 6)), none⟩, ⟨(some 22), (.bin .lss (.t 21) (.c (.v (.int .i64 0)))), none⟩, ⟨(some 23), (.mv (.t 22)), none⟩, ⟨(some 24), (.mv (.t 1)), (some (23, true))⟩, ⟨(some 25), (.bin .gtr (.t 24) (.c (.v (.int .i64 0)))), (some (23, true))⟩, ⟨(some 26), (.pick (.t 23) (.t 25) (.c (.v (.bool false)))), none⟩, ⟨(some 27), (.mv (.t 26)), none⟩, ⟨(some 28), (.mv (.t 6)), (some (27, false))⟩, ⟨(some 29), (.bin .gtr (.t 28) (.c (.v (.int .i64 0)))), (some (27, false))⟩, ⟨(some 30), (.mv (.t 29)), (some (27, false))⟩, ⟨(some 31), (.mv (.t 1)), (some (30, true))⟩, ⟨(some 32), (.bin .lss (.t 31) (.c (.v (.int .i64 0)))), (some (30, true))⟩, ⟨(some 33), (.pick (.t 30) (.t 32) (.c (.v (.bool false)))), (some (27, false))⟩, ⟨(some 34), (.pick (.t 27) (.c (.v (.bool true))) (.t 33)), none⟩]) (.cond (.t 34) 
  (.seq (.reg [] [⟨(some 35), (.mv (.t 5)), none⟩, ⟨(some 36), (.bin .sub (.t 35) (.c (.v (.int .i64 1)))), none⟩, ⟨(some 4), (.mv (.t 36)), none⟩]) .ret) .skip)) 
  (.seq (.reg [] [⟨(some 37), (.mv (.t 5)), none⟩, ⟨(some 4), (.mv (.t 37)), none⟩]) .ret)))))), [(.t 4)]⟩

def c26 : MF := ⟨2, 38, 
  (.seq (.reg [] [⟨(some 4), (.mv (.c (.v (.int .i64 0)))), none⟩]) 
  (.seq 
  (.seq (.reg [] [⟨(some 7), (.mv (.t 0)), none⟩, ⟨(some 8), (.bin .eql (.t 7) (.c (.v (.int .i64 (-9223372036854775808))))), none⟩, ⟨(some 9), (.mv (.t 8)), none⟩, ⟨(some 10), (.mv (.t 1)), (some (9, true))⟩, ⟨(some 11), (.bin .eql (.t 10) (.c (.v (.int .i64 (-1))))), (some (9, true))⟩, ⟨(some 12), (.pick (.t 9) (.t 11) (.c (.v (.bool false)))), none⟩]) (.cond (.t 12) 
  (.seq (.reg [] [⟨(some 4), (.mv (.c (.v (.int .i64 9223372036854775807)))), none⟩]) .ret) .skip)) 
  (.seq (.reg [] [⟨(some 13), (.mv (.t 0)), none⟩, ⟨(some 14), (.mv (.t 1)), none⟩, ⟨(some 15), (.bin .quo (.t 13) (.t 14)), none⟩, ⟨(some 5), (.mv (.t 15)), none⟩]) 
  (.seq (.reg [] [⟨(some 16), (.mv (.t 0)), none⟩, ⟨(some 17), (.mv (.t 5)), none⟩, ⟨(some 18), (.mv (.t 1)), none⟩, ⟨(some 19), (.bin .mul (.t 17) (.t 18)), none⟩, ⟨(some 20), (.bin .sub (.t 16) (.t 19)), none⟩, ⟨(some 6), (.mv (.t 20)), none⟩]) 
  (.seq 
  (.seq (.reg [] [⟨(some 21), (.mv (.t 6)), none⟩, ⟨(some 22), (.bin .gtr (.t 21) (.c (.v (.int .i64 0)))), none⟩, ⟨(some 23), (.mv (.t 22)), none⟩, ⟨(some 24), (.mv (.t 1)), (some (23, true))⟩, ⟨(some 25), (.bin .gtr (.t 24) (.c (.v (.int .i64 0)))), (some (23, true))⟩, ⟨(some 26), (.pick (.t 23) (.t 25) (.c (.v (.bool false)))), none⟩, ⟨(some 27), (.mv (.t 26)), none⟩, ⟨(some 28), (.mv (.t 6)), (some (27, false))⟩, ⟨(some 29), (.bin .lss (.t 28) (.c (.v (.int .i64 0)))), (some (27, false))⟩, ⟨(some 30), (.mv (.t 29)), (some (27, false))⟩, ⟨(some 31), (.mv (.t 1)), (some (30, true))⟩, ⟨(some 32), (.bin .lss (.t 31) (.c (.v (.int .i64 0)))), (some (30, true))⟩, ⟨(some 33), (.pick (.t 30) (.t 32) (.c (.v (.bool false)))), (some (27, false))⟩, ⟨(some 34), (.pick (.t 27) (.c (.v (.bool true))) (.t 33)), none⟩]) (.cond (.t 34) 
  (.seq (.reg [] [⟨(some 35), (.mv (.t 5)), none⟩, ⟨(some 36), (.bin .add (.t 35) (.c (.v (.int .i64 1)))), none⟩, ⟨(some 4), (.mv (.t 36)), none⟩]) .ret) .skip)) 
  (.seq (.reg [] [⟨(some 37), (.mv (.t 5)), none⟩, ⟨(some 4), (.mv (.t 37)), none⟩]) .ret)))))), [(.t 4)]⟩

def c27b0 : MC := 
  (.seq 
  (.seq (.reg [] [⟨(some 5), (.mv (.t 4)), none⟩, ⟨(some 6), (.mv (.t 0)), none⟩, ⟨(some 7), (.bin .lss (.t 5) (.t 6)), none⟩]) (.cond (.t 7) .skip (.exit 0))) 
  (.seq (.block 1 (.reg [] [⟨(some 10), (.mv (.t 3)), none⟩, ⟨(some 11), (.bin .mul (.c (.v (.int .i64 2))) (.t 10)), none⟩, ⟨(some 3), (.mv (.t 11)), none⟩])) (.reg [] [⟨(some 8), (.mv (.t 4)), none⟩, ⟨(some 9), (.bin .add (.t 8) (.c (.v (.int .i64 1)))), none⟩, ⟨(some 4), (.mv (.t 9)), none⟩])))

def c27 : MF := ⟨1, 13, 
  (.seq (.reg [] [⟨(some 2), (.mv (.c (.v (.int .i64 0)))), none⟩]) 
  (.seq (.reg [] [⟨(some 3), (.mv (.c (.v (.int .i64 1)))), none⟩]) 
  (.seq 
  (.seq (.reg [] [⟨(some 4), (.mv (.c (.v (.int .i64 0)))), none⟩]) (.block 0 
  (.loop [9, 8, 11, 10, 7, 6, 5] c27b0))) 
  (.seq (.reg [] [⟨(some 12), (.mv (.t 3)), none⟩, ⟨(some 2), (.mv (.t 12)), none⟩]) .ret)))), [(.t 2)]⟩

def c28 : MF := ⟨2, 51, 
  (.seq (.reg [] [⟨(some 4), (.mv (.c (.v (.int .u64 0)))), none⟩, ⟨(some 5), (.mv (.c (.v (.int .u64 0)))), none⟩]) 
  (.seq (.reg [] [⟨(some 14), (.mv (.t 0)), none⟩, ⟨(some 15), (.bin .and (.t 14) (.c (.v (.int .u64 4294967295)))), none⟩, ⟨(some 6), (.mv (.t 15)), none⟩]) 
  (.seq (.reg [] [⟨(some 16), (.mv (.t 0)), none⟩, ⟨(some 17), (.bin .shr (.t 16) (.c (.v (.int .u64 32)))), none⟩, ⟨(some 7), (.mv (.t 17)), none⟩]) 
  (.seq (.reg [] [⟨(some 18), (.mv (.t 1)), none⟩, ⟨(some 19), (.bin .and (.t 18) (.c (.v (.int .u64 4294967295)))), none⟩, ⟨(some 8), (.mv (.t 19)), none⟩]) 
  (.seq (.reg [] [⟨(some 20), (.mv (.t 1)), none⟩, ⟨(some 21), (.bin .shr (.t 20) (.c (.v (.int .u64 32)))), none⟩, ⟨(some 9), (.mv (.t 21)), none⟩]) 
  (.seq (.reg [] [⟨(some 22), (.mv (.t 6)), none⟩, ⟨(some 23), (.mv (.t 8)), none⟩, ⟨(some 24), (.bin .mul (.t 22) (.t 23)), none⟩, ⟨(some 10), (.mv (.t 24)), none⟩]) 
  (.seq (.reg [] [⟨(some 25), (.mv (.t 7)), none⟩, ⟨(some 26), (.mv (.t 8)), none⟩, ⟨(some 27), (.bin .mul (.t 25) (.t 26)), none⟩, ⟨(some 28), (.mv (.t 10)), none⟩, ⟨(some 29), (.bin .shr (.t 28) (.c (.v (.int .u64 32)))), none⟩, ⟨(some 30), (.bin .add (.t 27) (.t 29)), none⟩, ⟨(some 11), (.mv (.t 30)), none⟩]) 
  (.seq (.reg [] [⟨(some 31), (.mv (.t 11)), none⟩, ⟨(some 32), (.bin .and (.t 31) (.c (.v (.int .u64 4294967295)))), none⟩, ⟨(some 12), (.mv (.t 32)), none⟩]) 
  (.seq (.reg [] [⟨(some 33), (.mv (.t 11)), none⟩, ⟨(some 34), (.bin .shr (.t 33) (.c (.v (.int .u64 32)))), none⟩, ⟨(some 13), (.mv (.t 34)), none⟩]) 
  (.seq (.reg [] [⟨(some 35), (.mv (.t 12)), none⟩, ⟨(some 36), (.mv (.t 6)), none⟩, ⟨(some 37), (.mv (.t 9)), none⟩, ⟨(some 38), (.bin .mul (.t 36) (.t 37)), none⟩, ⟨(some 39), (.bin .add (.t 35) (.t 38)), none⟩, ⟨(some 12), (.mv (.t 39)), none⟩]) 
  (.seq (.reg [] [⟨(some 40), (.mv (.t 7)), none⟩, ⟨(some 41), (.mv (.t 9)), none⟩, ⟨(some 42), (.bin .mul (.t 40) (.t 41)), none⟩, ⟨(some 43), (.mv (.t 13)), none⟩, ⟨(some 44), (.bin .add (.t 42) (.t 43)), none⟩, ⟨(some 45), (.mv (.t 12)), none⟩, ⟨(some 46), (.bin .shr (.t 45) (.c (.v (.int .u64 32)))), none⟩, ⟨(some 47), (.bin .add (.t 44) (.t 46)), none⟩, ⟨(some 4), (.mv (.t 47)), none⟩]) 
  (.seq (.reg [] [⟨(some 48), (.mv (.t 0)), none⟩, ⟨(some 49), (.mv (.t 1)), none⟩, ⟨(some 50), (.bin .mul (.t 48) (.t 49)), none⟩, ⟨(some 5), (.mv (.t 50)), none⟩]) .ret)))))))))))), [(.t 4), (.t 5)]⟩

def c29 : MF := ⟨1, 10, 
  (.seq (.reg [] [⟨(some 2), (.mv (.c (.v (.int .u64 0)))), none⟩]) 
  (.seq 
  (.seq (.reg [] [⟨(some 3), (.mv (.t 0)), none⟩, ⟨(some 4), (.bin .lss (.t 3) (.c (.v (.int .i64 0)))), none⟩]) (.cond (.t 4) 
  (.seq (.reg [] [⟨(some 5), (.mv (.t 0)), none⟩, ⟨(some 6), (.conv .u64 (.t 5)), none⟩, ⟨(some 7), (.un .neg (.t 6)), none⟩, ⟨(some 2), (.mv (.t 7)), none⟩]) .ret) .skip)) 
  (.seq (.reg [] [⟨(some 8), (.mv (.t 0)), none⟩, ⟨(some 9), (.conv .u64 (.t 8)), none⟩, ⟨(some 2), (.mv (.t 9)), none⟩]) .ret))), [(.t 2)]⟩

theorem ok3 : cF Try.prog 3 = some c3 := by kernel_rfl
theorem ok4 : cF Try.prog 4 = some c4 := by kernel_rfl
theorem ok5 : cF Try.prog 5 = some c5 := by kernel_rfl
theorem ok6 : cF Try.prog 6 = some c6 := by kernel_rfl
theorem ok7 : cF Try.prog 7 = some c7 := by kernel_rfl
theorem ok8 : cF Try.prog 8 = some c8 := by kernel_rfl
theorem ok9 : cF Try.prog 9 = some c9 := by kernel_rfl
theorem ok10 : cF Try.prog 10 = some c10 := by kernel_rfl
theorem ok11 : cF Try.prog 11 = some c11 := by kernel_rfl
theorem ok12 : cF Try.prog 12 = some c12 := by kernel_rfl
theorem ok13 : cF Try.prog 13 = some c13 := by kernel_rfl
theorem ok14 : cF Try.prog 14 = some c14 := by kernel_rfl
theorem ok15 : cF Try.prog 15 = some c15 := by kernel_rfl
theorem ok16 : cF Try.prog 16 = some c16 := by kernel_rfl
theorem ok17 : cF Try.prog 17 = some c17 := by kernel_rfl
theorem ok18 : cF Try.prog 18 = some c18 := by kernel_rfl
theorem ok19 : cF Try.prog 19 = some c19 := by kernel_rfl
theorem ok20 : cF Try.prog 20 = some c20 := by kernel_rfl
theorem ok21 : cF Try.prog 21 = some c21 := by kernel_rfl
theorem ok22 : cF Try.prog 22 = some c22 := by kernel_rfl
theorem ok23 : cF Try.prog 23 = some c23 := by kernel_rfl
theorem ok24 : cF Try.prog 24 = some c24 := by kernel_rfl
theorem ok25 : cF Try.prog 25 = some c25 := by kernel_rfl
theorem ok26 : cF Try.prog 26 = some c26 := by kernel_rfl
theorem ok27 : cF Try.prog 27 = some c27 := by kernel_rfl
theorem ok28 : cF Try.prog 28 = some c28 := by kernel_rfl
theorem ok29 : cF Try.prog 29 = some c29 := by kernel_rfl

def cmL : List (Nat × MF) := [(3, c3), (4, c4), (5, c5), (6, c6), (7, c7), (8, c8), (9, c9), (10, c10), (11, c11), (12, c12), (13, c13), (14, c14), (15, c15), (16, c16), (17, c17), (18, c18), (19, c19), (20, c20), (21, c21), (22, c22), (23, c23), (24, c24), (25, c25), (26, c26), (27, c27), (28, c28), (29, c29)]

def cm : FuncId → Option MF := look cmL

theorem hcm : ∀ g m, cm g = some m → cF Try.prog g = some m := look_ok ⟨ok3, ok4, ok5, ok6, ok7, ok8, ok9, ok10, ok11, ok12, ok13, ok14, ok15, ok16, ok17, ok18, ok19, ok20, ok21, ok22, ok23, ok24, ok25, ok26, ok27, ok28, ok29, trivial⟩

theorem cm3 (k : Nat) (args : List LV) (h : List Row) (lim : Nat) : evF cm (k + 1) 3 args h lim = runF (evF cm k) k lim c3 args h := rfl
theorem cm4 (k : Nat) (args : List LV) (h : List Row) (lim : Nat) : evF cm (k + 1) 4 args h lim = runF (evF cm k) k lim c4 args h := rfl
theorem cm5 (k : Nat) (args : List LV) (h : List Row) (lim : Nat) : evF cm (k + 1) 5 args h lim = runF (evF cm k) k lim c5 args h := rfl
theorem cm6 (k : Nat) (args : List LV) (h : List Row) (lim : Nat) : evF cm (k + 1) 6 args h lim = runF (evF cm k) k lim c6 args h := rfl
theorem cm7 (k : Nat) (args : List LV) (h : List Row) (lim : Nat) : evF cm (k + 1) 7 args h lim = runF (evF cm k) k lim c7 args h := rfl
theorem cm8 (k : Nat) (args : List LV) (h : List Row) (lim : Nat) : evF cm (k + 1) 8 args h lim = runF (evF cm k) k lim c8 args h := rfl
theorem cm9 (k : Nat) (args : List LV) (h : List Row) (lim : Nat) : evF cm (k + 1) 9 args h lim = runF (evF cm k) k lim c9 args h := rfl
theorem cm10 (k : Nat) (args : List LV) (h : List Row) (lim : Nat) : evF cm (k + 1) 10 args h lim = runF (evF cm k) k lim c10 args h := rfl
theorem cm11 (k : Nat) (args : List LV) (h : List Row) (lim : Nat) : evF cm (k + 1) 11 args h lim = runF (evF cm k) k lim c11 args h := rfl
theorem cm12 (k : Nat) (args : List LV) (h : List Row) (lim : Nat) : evF cm (k + 1) 12 args h lim = runF (evF cm k) k lim c12 args h := rfl
theorem cm13 (k : Nat) (args : List LV) (h : List Row) (lim : Nat) : evF cm (k + 1) 13 args h lim = runF (evF cm k) k lim c13 args h := rfl
theorem cm14 (k : Nat) (args : List LV) (h : List Row) (lim : Nat) : evF cm (k + 1) 14 args h lim = runF (evF cm k) k lim c14 args h := rfl
theorem cm15 (k : Nat) (args : List LV) (h : List Row) (lim : Nat) : evF cm (k + 1) 15 args h lim = runF (evF cm k) k lim c15 args h := rfl
theorem cm16 (k : Nat) (args : List LV) (h : List Row) (lim : Nat) : evF cm (k + 1) 16 args h lim = runF (evF cm k) k lim c16 args h := rfl
theorem cm17 (k : Nat) (args : List LV) (h : List Row) (lim : Nat) : evF cm (k + 1) 17 args h lim = runF (evF cm k) k lim c17 args h := rfl
theorem cm18 (k : Nat) (args : List LV) (h : List Row) (lim : Nat) : evF cm (k + 1) 18 args h lim = runF (evF cm k) k lim c18 args h := rfl
theorem cm19 (k : Nat) (args : List LV) (h : List Row) (lim : Nat) : evF cm (k + 1) 19 args h lim = runF (evF cm k) k lim c19 args h := rfl
theorem cm20 (k : Nat) (args : List LV) (h : List Row) (lim : Nat) : evF cm (k + 1) 20 args h lim = runF (evF cm k) k lim c20 args h := rfl
theorem cm21 (k : Nat) (args : List LV) (h : List Row) (lim : Nat) : evF cm (k + 1) 21 args h lim = runF (evF cm k) k lim c21 args h := rfl
theorem cm22 (k : Nat) (args : List LV) (h : List Row) (lim : Nat) : evF cm (k + 1) 22 args h lim = runF (evF cm k) k lim c22 args h := rfl
theorem cm23 (k : Nat) (args : List LV) (h : List Row) (lim : Nat) : evF cm (k + 1) 23 args h lim = runF (evF cm k) k lim c23 args h := rfl
theorem cm24 (k : Nat) (args : List LV) (h : List Row) (lim : Nat) : evF cm (k + 1) 24 args h lim = runF (evF cm k) k lim c24 args h := rfl
theorem cm25 (k : Nat) (args : List LV) (h : List Row) (lim : Nat) : evF cm (k + 1) 25 args h lim = runF (evF cm k) k lim c25 args h := rfl
theorem cm26 (k : Nat) (args : List LV) (h : List Row) (lim : Nat) : evF cm (k + 1) 26 args h lim = runF (evF cm k) k lim c26 args h := rfl
theorem cm27 (k : Nat) (args : List LV) (h : List Row) (lim : Nat) : evF cm (k + 1) 27 args h lim = runF (evF cm k) k lim c27 args h := rfl
theorem cm28 (k : Nat) (args : List LV) (h : List Row) (lim : Nat) : evF cm (k + 1) 28 args h lim = runF (evF cm k) k lim c28 args h := rfl
theorem cm29 (k : Nat) (args : List LV) (h : List Row) (lim : Nat) : evF cm (k + 1) 29 args h lim = runF (evF cm k) k lim c29 args h := rfl
end Go.Proofs.Ytlfapejkcjgfkaa
