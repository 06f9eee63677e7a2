/- The resolved code of the functions that are reached, as a program of ours has printed it; each is checked against the given program. -/
import Derived.KernelRfl
import Derived.Test.YtbbmfacfmmpefaaEng13
import Derived.Test.YtbbmfacfmmpefaaProg
namespace Go.Proofs.Ytbbmfacfmmpefaa
open Go

def c3b0 : MC := 
  (.seq 
  (.seq (.reg [] [⟨(some 97), (.mv (.t 12)), none⟩, ⟨(some 98), (.mv (.t 9)), none⟩, ⟨(some 99), (.mv (.t 10)), none⟩, ⟨(some 100), (.bin .mul (.t 98) (.t 99)), none⟩, ⟨(some 101), (.bin .lss (.t 97) (.t 100)), none⟩]) (.cond (.t 101) .skip (.exit 0))) 
  (.seq (.block 1 
  (.seq (.reg [] [⟨(some 105), (.mv (.t 0)), none⟩, ⟨(some 106), (.mv (.t 1)), none⟩, ⟨(some 107), (.mv (.t 12)), none⟩, ⟨(some 108), (.call (.c (.f 11 [])) [(.t 105), (.t 106), (.t 107)]), none⟩, ⟨(some 104), (.mv (.t 108)), none⟩, ⟨(some 109), (.ext (.t 104) 0), none⟩, ⟨(some 110), (.ext (.t 104) 1), none⟩, ⟨(some 13), (.box (.c (.agg [(.v (.int .i64 0)), (.v (.int .i64 0)), (.v (.int .i64 0)), (.v (.int .i64 0))]))), none⟩, ⟨none, (.st (.t 13) (.t 109) 4), none⟩, ⟨(some 14), (.mv (.t 110)), none⟩]) 
  (.seq (.reg [] [⟨(some 111), (.mv (.t 14)), none⟩, ⟨(some 112), (.bin .neq (.t 111) (.c (.v (.int .i64 0)))), none⟩, ⟨(some 113), (.mv (.t 112)), none⟩, ⟨(some 114), (.ld (.t 13) (some 4)), (some (113, false))⟩, ⟨(some 115), (.fa (.t 5) 0), (some (113, false))⟩, ⟨(some 116), (.ld (.t 115) none), (some (113, false))⟩, ⟨(some 117), (.fa (.t 5) 1), (some (113, false))⟩, ⟨(some 118), (.ld (.t 117) none), (some (113, false))⟩, ⟨(some 119), (.call (.c (.f 12 [])) [(.t 114), (.t 116), (.t 118)]), (some (113, false))⟩, ⟨(some 120), (.mv (.t 12)), (some (113, false))⟩, ⟨(some 121), (.mv (.t 7)), (some (113, false))⟩, ⟨(some 122), (.bin .eql (.t 120) (.t 121)), (some (113, false))⟩, ⟨(some 123), (.eqv true false [.b] (.t 119) (.t 122)), (some (113, false))⟩, ⟨(some 124), (.pick (.t 113) (.c (.v (.bool true))) (.t 123)), none⟩]) (.cond (.t 124) 
  (.seq (.reg [] [⟨(some 6), (.mv (.c (.v (.bool false)))), none⟩]) .ret) .skip)))) (.reg [] [⟨(some 102), (.mv (.t 12)), none⟩, ⟨(some 103), (.bin .add (.t 102) (.c (.v (.int .i64 1)))), none⟩, ⟨(some 12), (.mv (.t 103)), none⟩])))

def c3 : MF := ⟨3, 140, 
  (.seq (.reg [] [⟨(some 5), (.box (.t 2)), none⟩, ⟨(some 6), (.mv (.c (.v (.bool false)))), none⟩]) 
  (.seq (.reg [] [⟨(some 16), (.mv (.t 0)), none⟩, ⟨(some 17), (.mv (.t 1)), none⟩, ⟨(some 18), (.fa (.t 5) 0), none⟩, ⟨(some 19), (.ld (.t 18) none), none⟩, ⟨(some 20), (.fa (.t 5) 1), none⟩, ⟨(some 21), (.ld (.t 20) none), none⟩, ⟨(some 22), (.call (.c (.f 6 [])) [(.t 16), (.t 17), (.t 19), (.t 21)]), none⟩, ⟨(some 15), (.mv (.t 22)), none⟩, ⟨(some 23), (.ext (.t 15) 0), none⟩, ⟨(some 24), (.ext (.t 15) 1), none⟩, ⟨(some 7), (.mv (.t 23)), none⟩, ⟨(some 8), (.mv (.t 24)), none⟩]) 
  (.seq (.reg [] [⟨(some 26), (.mv (.t 0)), none⟩, ⟨(some 27), (.mv (.t 1)), none⟩, ⟨(some 28), (.call (.c (.f 7 [])) [(.t 26), (.t 27)]), none⟩, ⟨(some 25), (.mv (.t 28)), none⟩, ⟨(some 29), (.ext (.t 25) 0), none⟩, ⟨(some 30), (.ext (.t 25) 1), none⟩, ⟨(some 31), (.ext (.t 25) 2), none⟩, ⟨(some 9), (.mv (.t 29)), none⟩, ⟨(some 10), (.mv (.t 30)), none⟩, ⟨(some 11), (.mv (.t 31)), none⟩]) 
  (.seq 
  (.seq (.reg [] [⟨(some 32), (.mv (.t 0)), none⟩, ⟨(some 33), (.mv (.t 1)), none⟩, ⟨(some 34), (.call (.c (.f 8 [])) [(.t 32), (.t 33)]), none⟩, ⟨(some 35), (.un .not (.t 34)), none⟩]) (.cond (.t 35) 
  (.seq (.reg [] [⟨(some 36), (.mv (.t 7)), none⟩, ⟨(some 37), (.bin .eql (.t 36) (.c (.v (.int .i64 0)))), none⟩, ⟨(some 38), (.mv (.t 37)), none⟩, ⟨(some 39), (.mv (.t 9)), (some (38, true))⟩, ⟨(some 40), (.bin .eql (.t 39) (.c (.v (.int .i64 0)))), (some (38, true))⟩, ⟨(some 41), (.pick (.t 38) (.t 40) (.c (.v (.bool false)))), none⟩, ⟨(some 42), (.mv (.t 41)), none⟩, ⟨(some 43), (.mv (.t 10)), (some (42, true))⟩, ⟨(some 44), (.bin .eql (.t 43) (.c (.v (.int .i64 0)))), (some (42, true))⟩, ⟨(some 45), (.pick (.t 42) (.t 44) (.c (.v (.bool false)))), none⟩, ⟨(some 46), (.mv (.t 45)), none⟩, ⟨(some 47), (.mv (.t 8)), (some (46, true))⟩, ⟨(some 48), (.bin .eql (.t 47) (.c (.v (.int .i64 3)))), (some (46, true))⟩, ⟨(some 49), (.pick (.t 46) (.t 48) (.c (.v (.bool false)))), none⟩, ⟨(some 50), (.mv (.t 49)), none⟩, ⟨(some 51), (.mv (.t 11)), (some (50, true))⟩, ⟨(some 52), (.bin .eql (.t 51) (.c (.v (.int .i64 3)))), (some (50, true))⟩, ⟨(some 53), (.pick (.t 50) (.t 52) (.c (.v (.bool false)))), none⟩, ⟨(some 54), (.mv (.t 53)), none⟩, ⟨(some 55), (.call (.c (.f 9 [])) []), (some (54, true))⟩, ⟨(some 56), (.pick (.t 54) (.t 55) (.c (.v (.bool false)))), none⟩, ⟨(some 6), (.mv (.t 56)), none⟩]) .ret) .skip)) 
  (.seq 
  (.seq (.reg [] [⟨(some 57), (.mv (.t 11)), none⟩, ⟨(some 58), (.bin .neq (.t 57) (.c (.v (.int .i64 0)))), none⟩, ⟨(some 59), (.mv (.t 58)), none⟩, ⟨(some 60), (.mv (.t 9)), (some (59, false))⟩, ⟨(some 61), (.mv (.t 10)), (some (59, false))⟩, ⟨(some 62), (.bin .mul (.t 60) (.t 61)), (some (59, false))⟩, ⟨(some 63), (.mv (.t 0)), (some (59, false))⟩, ⟨(some 64), (.mv (.t 1)), (some (59, false))⟩, ⟨(some 65), (.call (.c (.f 10 [])) [(.t 63), (.t 64)]), (some (59, false))⟩, ⟨(some 66), (.bin .neq (.t 62) (.t 65)), (some (59, false))⟩, ⟨(some 67), (.pick (.t 59) (.c (.v (.bool true))) (.t 66)), none⟩]) (.cond (.t 67) 
  (.seq (.reg [] [⟨(some 6), (.mv (.c (.v (.bool false)))), none⟩]) .ret) .skip)) 
  (.seq 
  (.seq (.reg [] [⟨(some 68), (.fa (.t 5) 0), none⟩, ⟨(some 69), (.ld (.t 68) none), none⟩, ⟨(some 70), (.bin .lss (.t 69) (.c (.v (.int .i64 0)))), none⟩, ⟨(some 71), (.mv (.t 70)), none⟩, ⟨(some 72), (.fa (.t 5) 0), (some (71, false))⟩, ⟨(some 73), (.ld (.t 72) none), (some (71, false))⟩, ⟨(some 74), (.mv (.t 0)), (some (71, false))⟩, ⟨(some 75), (.bin .geq (.t 73) (.t 74)), (some (71, false))⟩, ⟨(some 76), (.pick (.t 71) (.c (.v (.bool true))) (.t 75)), none⟩, ⟨(some 77), (.mv (.t 76)), none⟩, ⟨(some 78), (.fa (.t 5) 1), (some (77, false))⟩, ⟨(some 79), (.ld (.t 78) none), (some (77, false))⟩, ⟨(some 80), (.bin .lss (.t 79) (.c (.v (.int .i64 0)))), (some (77, false))⟩, ⟨(some 81), (.pick (.t 77) (.c (.v (.bool true))) (.t 80)), none⟩, ⟨(some 82), (.mv (.t 81)), none⟩, ⟨(some 83), (.fa (.t 5) 1), (some (82, false))⟩, ⟨(some 84), (.ld (.t 83) none), (some (82, false))⟩, ⟨(some 85), (.mv (.t 1)), (some (82, false))⟩, ⟨(some 86), (.bin .geq (.t 84) (.t 85)), (some (82, false))⟩, ⟨(some 87), (.pick (.t 82) (.c (.v (.bool true))) (.t 86)), none⟩]) (.cond (.t 87) 
  (.seq (.reg [] [⟨(some 88), (.mv (.t 7)), none⟩, ⟨(some 89), (.bin .eql (.t 88) (.c (.v (.int .i64 0)))), none⟩, ⟨(some 90), (.mv (.t 89)), none⟩, ⟨(some 91), (.mv (.t 8)), (some (90, true))⟩, ⟨(some 92), (.bin .eql (.t 91) (.c (.v (.int .i64 2)))), (some (90, true))⟩, ⟨(some 93), (.pick (.t 90) (.t 92) (.c (.v (.bool false)))), none⟩, ⟨(some 94), (.mv (.t 93)), none⟩, ⟨(some 95), (.call (.c (.f 9 [])) []), (some (94, true))⟩, ⟨(some 96), (.pick (.t 94) (.t 95) (.c (.v (.bool false)))), none⟩, ⟨(some 6), (.mv (.t 96)), none⟩]) .ret) .skip)) 
  (.seq 
  (.seq (.reg [] [⟨(some 12), (.mv (.c (.v (.int .i64 0)))), none⟩]) (.block 0 
  (.loop [103, 102, 6, 124, 123, 122, 121, 120, 119, 118, 117, 116, 115, 114, 113, 112, 111, 110, 109, 104, 108, 107, 106, 105, 101, 100, 99, 98, 97] c3b0))) 
  (.seq (.reg [] [⟨(some 125), (.mv (.t 8)), none⟩, ⟨(some 126), (.bin .eql (.t 125) (.c (.v (.int .i64 0)))), none⟩, ⟨(some 127), (.mv (.t 126)), none⟩, ⟨(some 128), (.mv (.t 7)), (some (127, true))⟩, ⟨(some 129), (.mv (.t 0)), (some (127, true))⟩, ⟨(some 130), (.fa (.t 5) 0), (some (127, true))⟩, ⟨(some 131), (.ld (.t 130) none), (some (127, true))⟩, ⟨(some 132), (.fa (.t 5) 1), (some (127, true))⟩, ⟨(some 133), (.ld (.t 132) none), (some (127, true))⟩, ⟨(some 134), (.call (.c (.f 13 [])) [(.t 129), (.t 131), (.t 133)]), (some (127, true))⟩, ⟨(some 135), (.bin .eql (.t 128) (.t 134)), (some (127, true))⟩, ⟨(some 136), (.pick (.t 127) (.t 135) (.c (.v (.bool false)))), none⟩, ⟨(some 137), (.mv (.t 136)), none⟩, ⟨(some 138), (.call (.c (.f 9 [])) []), (some (137, true))⟩, ⟨(some 139), (.pick (.t 137) (.t 138) (.c (.v (.bool false)))), none⟩, ⟨(some 6), (.mv (.t 139)), none⟩]) .ret)))))))), [(.t 6)]⟩

def c4 : MF := ⟨3, 79, 
  (.seq (.reg [] [⟨(some 6), (.mv (.c (.v (.bool false)))), none⟩]) 
  (.seq (.reg [] [⟨(some 10), (.mv (.t 0)), none⟩, ⟨(some 11), (.mv (.t 1)), none⟩, ⟨(some 12), (.mv (.t 2)), none⟩, ⟨(some 13), (.call (.c (.f 11 [])) [(.t 10), (.t 11), (.t 12)]), none⟩, ⟨(some 9), (.mv (.t 13)), none⟩, ⟨(some 14), (.ext (.t 9) 0), none⟩, ⟨(some 15), (.ext (.t 9) 1), none⟩, ⟨(some 7), (.box (.c (.agg [(.v (.int .i64 0)), (.v (.int .i64 0)), (.v (.int .i64 0)), (.v (.int .i64 0))]))), none⟩, ⟨none, (.st (.t 7) (.t 14) 4), none⟩, ⟨(some 8), (.mv (.t 15)), none⟩]) 
  (.seq 
  (.seq (.reg [] [⟨(some 16), (.mv (.t 0)), none⟩, ⟨(some 17), (.mv (.t 1)), none⟩, ⟨(some 18), (.call (.c (.f 8 [])) [(.t 16), (.t 17)]), none⟩, ⟨(some 19), (.un .not (.t 18)), none⟩]) (.cond (.t 19) 
  (.seq (.reg [] [⟨(some 20), (.ld (.t 7) (some 4)), none⟩, ⟨(some 21), (.bld [(.v (.int .i64 0)), (.v (.int .i64 0)), (.v (.int .i64 0)), (.v (.int .i64 0))] []), none⟩, ⟨(some 22), (.eqv false true [.i, .i, .i, .i] (.t 20) (.t 21)), none⟩, ⟨(some 23), (.mv (.t 22)), none⟩, ⟨(some 24), (.mv (.t 8)), (some (23, true))⟩, ⟨(some 25), (.bin .eql (.t 24) (.c (.v (.int .i64 3)))), (some (23, true))⟩, ⟨(some 26), (.pick (.t 23) (.t 25) (.c (.v (.bool false)))), none⟩, ⟨(some 27), (.mv (.t 26)), none⟩, ⟨(some 28), (.call (.c (.f 9 [])) []), (some (27, true))⟩, ⟨(some 29), (.pick (.t 27) (.t 28) (.c (.v (.bool false)))), none⟩, ⟨(some 6), (.mv (.t 29)), none⟩]) .ret) .skip)) 
  (.seq 
  (.seq (.reg [] [⟨(some 30), (.mv (.t 2)), none⟩, ⟨(some 31), (.bin .lss (.t 30) (.c (.v (.int .i64 0)))), none⟩, ⟨(some 32), (.mv (.t 31)), none⟩, ⟨(some 33), (.mv (.t 2)), (some (32, false))⟩, ⟨(some 34), (.mv (.t 0)), (some (32, false))⟩, ⟨(some 35), (.mv (.t 1)), (some (32, false))⟩, ⟨(some 36), (.call (.c (.f 10 [])) [(.t 34), (.t 35)]), (some (32, false))⟩, ⟨(some 37), (.bin .geq (.t 33) (.t 36)), (some (32, false))⟩, ⟨(some 38), (.pick (.t 32) (.c (.v (.bool true))) (.t 37)), none⟩]) (.cond (.t 38) 
  (.seq (.reg [] [⟨(some 39), (.ld (.t 7) (some 4)), none⟩, ⟨(some 40), (.bld [(.v (.int .i64 0)), (.v (.int .i64 0)), (.v (.int .i64 0)), (.v (.int .i64 0))] []), none⟩, ⟨(some 41), (.eqv false true [.i, .i, .i, .i] (.t 39) (.t 40)), none⟩, ⟨(some 42), (.mv (.t 41)), none⟩, ⟨(some 43), (.mv (.t 8)), (some (42, true))⟩, ⟨(some 44), (.bin .eql (.t 43) (.c (.v (.int .i64 2)))), (some (42, true))⟩, ⟨(some 45), (.pick (.t 42) (.t 44) (.c (.v (.bool false)))), none⟩, ⟨(some 46), (.mv (.t 45)), none⟩, ⟨(some 47), (.call (.c (.f 9 [])) []), (some (46, true))⟩, ⟨(some 48), (.pick (.t 46) (.t 47) (.c (.v (.bool false)))), none⟩, ⟨(some 6), (.mv (.t 48)), none⟩]) .ret) .skip)) 
  (.seq (.reg [⟨(some 49), (.mv (.t 8)), none⟩, ⟨(some 50), (.bin .eql (.t 49) (.c (.v (.int .i64 0)))), none⟩, ⟨(some 51), (.mv (.t 50)), none⟩, ⟨(some 52), (.ld (.t 7) (some 4)), (some (51, true))⟩, ⟨(some 53), (.mv (.t 0)), (some (51, true))⟩, ⟨(some 54), (.mv (.t 1)), (some (51, true))⟩, ⟨(some 55), (.mv (.t 2)), (some (51, true))⟩, ⟨(some 56), (.call (.c (.f 14 [])) [(.t 53), (.t 54), (.t 55)]), (some (51, true))⟩, ⟨(some 57), (.eqv false true [.i, .i, .i, .i] (.t 52) (.t 56)), (some (51, true))⟩, ⟨(some 58), (.pick (.t 51) (.t 57) (.c (.v (.bool false)))), none⟩, ⟨(some 59), (.mv (.t 58)), none⟩, ⟨(some 60), (.ld (.t 7) (some 4)), (some (59, true))⟩, ⟨(some 61), (.call (.c (.f 15 [])) [(.t 60)]), (some (59, true))⟩, ⟨(some 62), (.un .not (.t 61)), (some (59, true))⟩, ⟨(some 63), (.pick (.t 59) (.t 62) (.c (.v (.bool false)))), none⟩, ⟨(some 64), (.mv (.t 63)), none⟩, ⟨(some 65), (.fa (.t 7) 2), (some (64, true))⟩, ⟨(some 66), (.ld (.t 65) none), (some (64, true))⟩, ⟨(some 67), (.mv (.t 0)), (some (64, true))⟩, ⟨(some 68), (.bin .leq (.t 66) (.t 67)), (some (64, true))⟩, ⟨(some 69), (.pick (.t 64) (.t 68) (.c (.v (.bool false)))), none⟩, ⟨(some 70), (.mv (.t 69)), none⟩, ⟨(some 71), (.fa (.t 7) 3), (some (70, true))⟩, ⟨(some 72), (.ld (.t 71) none), (some (70, true))⟩, ⟨(some 73), (.mv (.t 1)), (some (70, true))⟩] [⟨(some 74), (.bin .leq (.t 72) (.t 73)), (some (70, true))⟩, ⟨(some 75), (.pick (.t 70) (.t 74) (.c (.v (.bool false)))), none⟩, ⟨(some 76), (.mv (.t 75)), none⟩, ⟨(some 77), (.call (.c (.f 9 [])) []), (some (76, true))⟩, ⟨(some 78), (.pick (.t 76) (.t 77) (.c (.v (.bool false)))), none⟩, ⟨(some 6), (.mv (.t 78)), none⟩]) .ret))))), [(.t 6)]⟩

def c5 : MF := ⟨3, 43, 
  (.seq (.reg [] [⟨(some 5), (.box (.t 2)), none⟩, ⟨(some 6), (.mv (.c (.v (.bool false)))), none⟩]) 
  (.seq (.reg [] [⟨(some 10), (.mv (.t 0)), none⟩, ⟨(some 11), (.mv (.t 1)), none⟩, ⟨(some 12), (.ld (.t 5) (some 4)), none⟩, ⟨(some 13), (.call (.c (.f 16 [])) [(.t 10), (.t 11), (.t 12)]), none⟩, ⟨(some 9), (.mv (.t 13)), none⟩, ⟨(some 14), (.ext (.t 9) 0), none⟩, ⟨(some 15), (.ext (.t 9) 1), none⟩, ⟨(some 7), (.mv (.t 14)), none⟩, ⟨(some 8), (.mv (.t 15)), none⟩]) 
  (.seq 
  (.seq (.reg [] [⟨(some 16), (.mv (.t 0)), none⟩, ⟨(some 17), (.mv (.t 1)), none⟩, ⟨(some 18), (.call (.c (.f 8 [])) [(.t 16), (.t 17)]), none⟩, ⟨(some 19), (.un .not (.t 18)), none⟩]) (.cond (.t 19) 
  (.seq (.reg [] [⟨(some 20), (.mv (.t 7)), none⟩, ⟨(some 21), (.len (.t 20)), none⟩, ⟨(some 22), (.bin .eql (.t 21) (.c (.v (.int .i64 0)))), none⟩, ⟨(some 23), (.mv (.t 22)), none⟩, ⟨(some 24), (.mv (.t 8)), (some (23, true))⟩, ⟨(some 25), (.bin .eql (.t 24) (.c (.v (.int .i64 3)))), (some (23, true))⟩, ⟨(some 26), (.pick (.t 23) (.t 25) (.c (.v (.bool false)))), none⟩, ⟨(some 27), (.mv (.t 26)), none⟩, ⟨(some 28), (.call (.c (.f 9 [])) []), (some (27, true))⟩, ⟨(some 29), (.pick (.t 27) (.t 28) (.c (.v (.bool false)))), none⟩, ⟨(some 6), (.mv (.t 29)), none⟩]) .ret) .skip)) 
  (.seq (.reg [] [⟨(some 30), (.mv (.t 8)), none⟩, ⟨(some 31), (.bin .eql (.t 30) (.c (.v (.int .i64 0)))), none⟩, ⟨(some 32), (.mv (.t 31)), none⟩, ⟨(some 33), (.mv (.t 7)), (some (32, true))⟩, ⟨(some 34), (.mv (.t 0)), (some (32, true))⟩, ⟨(some 35), (.mv (.t 1)), (some (32, true))⟩, ⟨(some 36), (.ld (.t 5) (some 4)), (some (32, true))⟩, ⟨(some 37), (.call (.c (.f 18 [])) [(.t 34), (.t 35), (.t 36)]), (some (32, true))⟩, ⟨(some 38), (.call (.c (.f 17 [])) [(.t 33), (.t 37)]), (some (32, true))⟩, ⟨(some 39), (.pick (.t 32) (.t 38) (.c (.v (.bool false)))), none⟩, ⟨(some 40), (.mv (.t 39)), none⟩, ⟨(some 41), (.call (.c (.f 9 [])) []), (some (40, true))⟩, ⟨(some 42), (.pick (.t 40) (.t 41) (.c (.v (.bool false)))), none⟩, ⟨(some 6), (.mv (.t 42)), none⟩]) .ret)))), [(.t 6)]⟩

def c6 : MF := ⟨4, 45, 
  (.seq (.reg [] [⟨(some 8), (.mv (.c (.v (.int .i64 0)))), none⟩, ⟨(some 9), (.mv (.c (.v (.int .i64 0)))), none⟩]) 
  (.seq (.reg [] [⟨(some 16), (.mv (.t 0)), none⟩, ⟨(some 17), (.mv (.t 1)), none⟩, ⟨(some 18), (.call (.c (.f 19 [])) [(.t 16), (.t 17)]), none⟩, ⟨(some 15), (.mv (.t 18)), none⟩, ⟨(some 19), (.ext (.t 15) 0), none⟩, ⟨(some 20), (.ext (.t 15) 1), none⟩, ⟨(some 10), (.box (.c (.agg [(.v (.int .i64 0)), (.v (.int .i64 0)), (.v (.int .i64 0)), (.v (.int .i64 0))]))), none⟩, ⟨none, (.st (.t 10) (.t 19) 4), none⟩, ⟨(some 11), (.mv (.t 20)), none⟩]) 
  (.seq (.block 0 
  (.seq (.reg [] [⟨(some 22), (.mv (.t 11)), none⟩, ⟨(some 23), (.bin .neq (.t 22) (.c (.v (.int .i64 0)))), none⟩, ⟨(some 21), (.mv (.t 23)), none⟩]) (.cond (.t 21) 
  (.seq (.reg [] [⟨(some 24), (.mv (.t 11)), none⟩, ⟨(some 8), (.mv (.c (.v (.int .i64 0)))), none⟩, ⟨(some 9), (.mv (.t 24)), none⟩]) .ret) 
  (.seq (.reg [] [⟨(some 26), (.ld (.t 10) (some 4)), none⟩, ⟨(some 27), (.mv (.t 2)), none⟩, ⟨(some 28), (.mv (.t 3)), none⟩, ⟨(some 29), (.call (.c (.f 20 [])) [(.t 26), (.t 27), (.t 28)]), none⟩, ⟨(some 30), (.un .not (.t 29)), none⟩, ⟨(some 25), (.mv (.t 30)), none⟩]) (.cond (.t 25) 
  (.seq (.reg [] [⟨(some 8), (.mv (.c (.v (.int .i64 0)))), none⟩, ⟨(some 9), (.mv (.c (.v (.int .i64 2)))), none⟩]) .ret) .skip))))) 
  (.seq (.reg [] [⟨(some 32), (.mv (.t 0)), none⟩, ⟨(some 33), (.mv (.t 1)), none⟩, ⟨(some 34), (.call (.c (.f 7 [])) [(.t 32), (.t 33)]), none⟩, ⟨(some 31), (.mv (.t 34)), none⟩, ⟨(some 35), (.ext (.t 31) 0), none⟩, ⟨(some 36), (.ext (.t 31) 1), none⟩, ⟨(some 37), (.ext (.t 31) 2), none⟩, ⟨(some 12), (.mv (.t 35)), none⟩, ⟨(some 13), (.mv (.t 36)), none⟩, ⟨(some 14), (.mv (.t 37)), none⟩]) 
  (.seq (.reg [] [⟨(some 38), (.mv (.t 3)), none⟩, ⟨(some 39), (.bin .quo (.t 38) (.c (.v (.int .i64 16)))), none⟩, ⟨(some 40), (.mv (.t 12)), none⟩, ⟨(some 41), (.bin .mul (.t 39) (.t 40)), none⟩, ⟨(some 42), (.mv (.t 2)), none⟩, ⟨(some 43), (.bin .quo (.t 42) (.c (.v (.int .i64 16)))), none⟩, ⟨(some 44), (.bin .add (.t 41) (.t 43)), none⟩, ⟨(some 8), (.mv (.t 44)), none⟩, ⟨(some 9), (.mv (.c (.v (.int .i64 0)))), none⟩]) .ret))))), [(.t 8), (.t 9)]⟩

def c7 : MF := ⟨2, 26, 
  (.seq (.reg [] [⟨(some 4), (.mv (.c (.v (.int .i64 0)))), none⟩, ⟨(some 5), (.mv (.c (.v (.int .i64 0)))), none⟩, ⟨(some 6), (.mv (.c (.v (.int .i64 0)))), none⟩]) 
  (.seq 
  (.seq (.reg [] [⟨(some 10), (.mv (.t 0)), none⟩, ⟨(some 11), (.mv (.t 1)), none⟩, ⟨(some 12), (.call (.c (.f 19 [])) [(.t 10), (.t 11)]), none⟩, ⟨(some 9), (.mv (.t 12)), none⟩, ⟨(some 13), (.ext (.t 9) 0), none⟩, ⟨(some 14), (.ext (.t 9) 1), none⟩, ⟨(some 7), (.box (.c (.agg [(.v (.int .i64 0)), (.v (.int .i64 0)), (.v (.int .i64 0)), (.v (.int .i64 0))]))), none⟩, ⟨none, (.st (.t 7) (.t 13) 4), none⟩, ⟨(some 8), (.mv (.t 14)), none⟩]) 
  (.seq (.reg [] [⟨(some 15), (.mv (.t 8)), none⟩, ⟨(some 16), (.bin .neq (.t 15) (.c (.v (.int .i64 0)))), none⟩]) (.cond (.t 16) 
  (.seq (.reg [] [⟨(some 17), (.mv (.t 8)), none⟩, ⟨(some 4), (.mv (.c (.v (.int .i64 0)))), none⟩, ⟨(some 5), (.mv (.c (.v (.int .i64 0)))), none⟩, ⟨(some 6), (.mv (.t 17)), none⟩]) .ret) .skip))) 
  (.seq (.reg [] [⟨(some 18), (.mv (.t 0)), none⟩, ⟨(some 19), (.bin .add (.t 18) (.c (.v (.int .i64 16)))), none⟩, ⟨(some 20), (.bin .sub (.t 19) (.c (.v (.int .i64 1)))), none⟩, ⟨(some 21), (.bin .quo (.t 20) (.c (.v (.int .i64 16)))), none⟩, ⟨(some 22), (.mv (.t 1)), none⟩, ⟨(some 23), (.bin .add (.t 22) (.c (.v (.int .i64 16)))), none⟩, ⟨(some 24), (.bin .sub (.t 23) (.c (.v (.int .i64 1)))), none⟩, ⟨(some 25), (.bin .quo (.t 24) (.c (.v (.int .i64 16)))), none⟩, ⟨(some 4), (.mv (.t 21)), none⟩, ⟨(some 5), (.mv (.t 25)), none⟩, ⟨(some 6), (.mv (.c (.v (.int .i64 0)))), none⟩]) .ret))), [(.t 4), (.t 5), (.t 6)]⟩

def c8 : MF := ⟨2, 19, 
  (.seq (.reg [] [⟨(some 4), (.mv (.c (.v (.bool false)))), none⟩]) 
  (.seq (.reg [] [⟨(some 5), (.mv (.t 0)), none⟩, ⟨(some 6), (.bin .geq (.t 5) (.c (.v (.int .i64 1)))), none⟩, ⟨(some 7), (.mv (.t 6)), none⟩, ⟨(some 8), (.mv (.t 0)), (some (7, true))⟩, ⟨(some 9), (.bin .leq (.t 8) (.c (.v (.int .i64 256)))), (some (7, true))⟩, ⟨(some 10), (.pick (.t 7) (.t 9) (.c (.v (.bool false)))), none⟩, ⟨(some 11), (.mv (.t 10)), none⟩, ⟨(some 12), (.mv (.t 1)), (some (11, true))⟩, ⟨(some 13), (.bin .geq (.t 12) (.c (.v (.int .i64 1)))), (some (11, true))⟩, ⟨(some 14), (.pick (.t 11) (.t 13) (.c (.v (.bool false)))), none⟩, ⟨(some 15), (.mv (.t 14)), none⟩, ⟨(some 16), (.mv (.t 1)), (some (15, true))⟩, ⟨(some 17), (.bin .leq (.t 16) (.c (.v (.int .i64 256)))), (some (15, true))⟩, ⟨(some 18), (.pick (.t 15) (.t 17) (.c (.v (.bool false)))), none⟩, ⟨(some 4), (.mv (.t 18)), none⟩]) .ret)), [(.t 4)]⟩

def c9 : MF := ⟨0, 48, 
  (.seq (.reg [] [⟨(some 0), (.mv (.c (.v (.bool false)))), none⟩]) 
  (.seq (.reg [] [⟨(some 9), (.call (.c (.f 7 [])) [(.c (.v (.int .i64 40))), (.c (.v (.int .i64 20)))]), none⟩, ⟨(some 8), (.mv (.t 9)), none⟩, ⟨(some 10), (.ext (.t 8) 0), none⟩, ⟨(some 11), (.ext (.t 8) 1), none⟩, ⟨(some 12), (.ext (.t 8) 2), none⟩, ⟨(some 1), (.mv (.t 10)), none⟩, ⟨(some 2), (.mv (.t 11)), none⟩, ⟨(some 3), (.mv (.t 12)), none⟩]) 
  (.seq (.reg [] [⟨(some 14), (.call (.c (.f 6 [])) [(.c (.v (.int .i64 40))), (.c (.v (.int .i64 20))), (.c (.v (.int .i64 33))), (.c (.v (.int .i64 17)))]), none⟩, ⟨(some 13), (.mv (.t 14)), none⟩, ⟨(some 15), (.ext (.t 13) 0), none⟩, ⟨(some 16), (.ext (.t 13) 1), none⟩, ⟨(some 4), (.mv (.t 15)), none⟩, ⟨(some 5), (.mv (.t 16)), none⟩]) 
  (.seq (.reg [] [⟨(some 18), (.call (.c (.f 11 [])) [(.c (.v (.int .i64 40))), (.c (.v (.int .i64 20))), (.c (.v (.int .i64 5)))]), none⟩, ⟨(some 17), (.mv (.t 18)), none⟩, ⟨(some 19), (.ext (.t 17) 0), none⟩, ⟨(some 20), (.ext (.t 17) 1), none⟩, ⟨(some 6), (.box (.c (.agg [(.v (.int .i64 0)), (.v (.int .i64 0)), (.v (.int .i64 0)), (.v (.int .i64 0))]))), none⟩, ⟨none, (.st (.t 6) (.t 19) 4), none⟩, ⟨(some 7), (.mv (.t 20)), none⟩]) 
  (.seq (.reg [] [⟨(some 21), (.mv (.t 1)), none⟩, ⟨(some 22), (.bin .eql (.t 21) (.c (.v (.int .i64 3)))), none⟩, ⟨(some 23), (.mv (.t 22)), none⟩, ⟨(some 24), (.mv (.t 2)), (some (23, true))⟩, ⟨(some 25), (.bin .eql (.t 24) (.c (.v (.int .i64 2)))), (some (23, true))⟩, ⟨(some 26), (.pick (.t 23) (.t 25) (.c (.v (.bool false)))), none⟩, ⟨(some 27), (.mv (.t 26)), none⟩, ⟨(some 28), (.mv (.t 4)), (some (27, true))⟩, ⟨(some 29), (.bin .eql (.t 28) (.c (.v (.int .i64 5)))), (some (27, true))⟩, ⟨(some 30), (.pick (.t 27) (.t 29) (.c (.v (.bool false)))), none⟩, ⟨(some 31), (.mv (.t 30)), none⟩, ⟨(some 32), (.mv (.t 3)), (some (31, true))⟩, ⟨(some 33), (.bin .eql (.t 32) (.c (.v (.int .i64 0)))), (some (31, true))⟩, ⟨(some 34), (.pick (.t 31) (.t 33) (.c (.v (.bool false)))), none⟩, ⟨(some 35), (.mv (.t 34)), none⟩, ⟨(some 36), (.mv (.t 5)), (some (35, true))⟩, ⟨(some 37), (.bin .eql (.t 36) (.c (.v (.int .i64 0)))), (some (35, true))⟩, ⟨(some 38), (.pick (.t 35) (.t 37) (.c (.v (.bool false)))), none⟩, ⟨(some 39), (.mv (.t 38)), none⟩, ⟨(some 40), (.mv (.t 7)), (some (39, true))⟩, ⟨(some 41), (.bin .eql (.t 40) (.c (.v (.int .i64 0)))), (some (39, true))⟩, ⟨(some 42), (.pick (.t 39) (.t 41) (.c (.v (.bool false)))), none⟩, ⟨(some 43), (.mv (.t 42)), none⟩, ⟨(some 44), (.ld (.t 6) (some 4)), (some (43, true))⟩, ⟨(some 45), (.bld [(.v (.int .i64 0)), (.v (.int .i64 0)), (.v (.int .i64 0)), (.v (.int .i64 0))] [(0, (1, (.c (.v (.int .i64 32))))), (1, (1, (.c (.v (.int .i64 16))))), (2, (1, (.c (.v (.int .i64 40))))), (3, (1, (.c (.v (.int .i64 20)))))]), (some (43, true))⟩, ⟨(some 46), (.eqv false true [.i, .i, .i, .i] (.t 44) (.t 45)), (some (43, true))⟩, ⟨(some 47), (.pick (.t 43) (.t 46) (.c (.v (.bool false)))), none⟩, ⟨(some 0), (.mv (.t 47)), none⟩]) .ret))))), [(.t 0)]⟩

def c10 : MF := ⟨2, 10, 
  (.seq (.reg [] [⟨(some 4), (.mv (.c (.v (.int .i64 0)))), none⟩]) 
  (.seq (.reg [] [⟨(some 5), (.mv (.t 0)), none⟩, ⟨(some 6), (.call (.c (.f 21 [])) [(.t 5)]), none⟩, ⟨(some 7), (.mv (.t 1)), none⟩, ⟨(some 8), (.call (.c (.f 21 [])) [(.t 7)]), none⟩, ⟨(some 9), (.bin .mul (.t 6) (.t 8)), none⟩, ⟨(some 4), (.mv (.t 9)), none⟩]) .ret)), [(.t 4)]⟩

def c11 : MF := ⟨3, 59, 
  (.seq (.reg [] [⟨(some 6), (.box (.c (.agg [(.v (.int .i64 0)), (.v (.int .i64 0)), (.v (.int .i64 0)), (.v (.int .i64 0))]))), none⟩, ⟨(some 7), (.mv (.c (.v (.int .i64 0)))), none⟩]) 
  (.seq (.reg [] [⟨(some 16), (.mv (.t 0)), none⟩, ⟨(some 17), (.mv (.t 1)), none⟩, ⟨(some 18), (.call (.c (.f 19 [])) [(.t 16), (.t 17)]), none⟩, ⟨(some 15), (.mv (.t 18)), none⟩, ⟨(some 19), (.ext (.t 15) 0), none⟩, ⟨(some 20), (.ext (.t 15) 1), none⟩, ⟨(some 8), (.box (.c (.agg [(.v (.int .i64 0)), (.v (.int .i64 0)), (.v (.int .i64 0)), (.v (.int .i64 0))]))), none⟩, ⟨none, (.st (.t 8) (.t 19) 4), none⟩, ⟨(some 9), (.mv (.t 20)), none⟩]) 
  (.seq 
  (.seq (.reg [] [⟨(some 21), (.mv (.t 9)), none⟩, ⟨(some 22), (.bin .neq (.t 21) (.c (.v (.int .i64 0)))), none⟩]) (.cond (.t 22) 
  (.seq (.reg [] [⟨(some 23), (.bld [(.v (.int .i64 0)), (.v (.int .i64 0)), (.v (.int .i64 0)), (.v (.int .i64 0))] []), none⟩, ⟨(some 24), (.mv (.t 9)), none⟩, ⟨none, (.st (.t 6) (.t 23) 4), none⟩, ⟨(some 7), (.mv (.t 24)), none⟩]) .ret) .skip)) 
  (.seq (.reg [] [⟨(some 26), (.mv (.t 0)), none⟩, ⟨(some 27), (.mv (.t 1)), none⟩, ⟨(some 28), (.call (.c (.f 7 [])) [(.t 26), (.t 27)]), none⟩, ⟨(some 25), (.mv (.t 28)), none⟩, ⟨(some 29), (.ext (.t 25) 0), none⟩, ⟨(some 30), (.ext (.t 25) 1), none⟩, ⟨(some 31), (.ext (.t 25) 2), none⟩, ⟨(some 10), (.mv (.t 29)), none⟩, ⟨(some 11), (.mv (.t 30)), none⟩, ⟨(some 12), (.mv (.t 31)), none⟩]) 
  (.seq 
  (.seq (.reg [] [⟨(some 32), (.mv (.t 2)), none⟩, ⟨(some 33), (.bin .lss (.t 32) (.c (.v (.int .i64 0)))), none⟩, ⟨(some 34), (.mv (.t 33)), none⟩, ⟨(some 35), (.mv (.t 2)), (some (34, false))⟩, ⟨(some 36), (.mv (.t 10)), (some (34, false))⟩, ⟨(some 37), (.mv (.t 11)), (some (34, false))⟩, ⟨(some 38), (.bin .mul (.t 36) (.t 37)), (some (34, false))⟩, ⟨(some 39), (.bin .geq (.t 35) (.t 38)), (some (34, false))⟩, ⟨(some 40), (.pick (.t 34) (.c (.v (.bool true))) (.t 39)), none⟩]) (.cond (.t 40) 
  (.seq (.reg [] [⟨(some 41), (.bld [(.v (.int .i64 0)), (.v (.int .i64 0)), (.v (.int .i64 0)), (.v (.int .i64 0))] []), none⟩, ⟨none, (.st (.t 6) (.t 41) 4), none⟩, ⟨(some 7), (.mv (.c (.v (.int .i64 2)))), none⟩]) .ret) .skip)) 
  (.seq (.reg [⟨(some 42), (.mv (.t 2)), none⟩, ⟨(some 43), (.mv (.t 10)), none⟩, ⟨(some 44), (.bin .rem (.t 42) (.t 43)), none⟩, ⟨(some 45), (.bin .mul (.t 44) (.c (.v (.int .i64 16)))), none⟩, ⟨(some 46), (.mv (.t 2)), none⟩, ⟨(some 47), (.mv (.t 10)), none⟩, ⟨(some 48), (.bin .quo (.t 46) (.t 47)), none⟩, ⟨(some 49), (.bin .mul (.t 48) (.c (.v (.int .i64 16)))), none⟩, ⟨(some 13), (.mv (.t 45)), none⟩] [⟨(some 14), (.mv (.t 49)), none⟩]) 
  (.seq (.reg [] [⟨(some 50), (.ld (.t 8) (some 4)), none⟩, ⟨(some 51), (.mv (.t 13)), none⟩, ⟨(some 52), (.mv (.t 14)), none⟩, ⟨(some 53), (.mv (.t 13)), none⟩, ⟨(some 54), (.bin .add (.t 53) (.c (.v (.int .i64 16)))), none⟩, ⟨(some 55), (.mv (.t 14)), none⟩, ⟨(some 56), (.bin .add (.t 55) (.c (.v (.int .i64 16)))), none⟩, ⟨(some 57), (.bld [(.v (.int .i64 0)), (.v (.int .i64 0)), (.v (.int .i64 0)), (.v (.int .i64 0))] [(0, (1, (.t 51))), (1, (1, (.t 52))), (2, (1, (.t 54))), (3, (1, (.t 56)))]), none⟩, ⟨(some 58), (.call (.c (.f 22 [])) [(.t 50), (.t 57)]), none⟩, ⟨none, (.st (.t 6) (.t 58) 4), none⟩, ⟨(some 7), (.mv (.c (.v (.int .i64 0)))), none⟩]) .ret))))))), [(.cell 6 (some 4)), (.t 7)]⟩

def c12 : MF := ⟨3, 29, 
  (.seq (.reg [] [⟨(some 3), (.box (.t 0)), none⟩, ⟨(some 6), (.mv (.c (.v (.bool false)))), none⟩]) 
  (.seq (.reg [] [⟨(some 7), (.fa (.t 3) 0), none⟩, ⟨(some 8), (.ld (.t 7) none), none⟩, ⟨(some 9), (.mv (.t 1)), none⟩, ⟨(some 10), (.bin .leq (.t 8) (.t 9)), none⟩, ⟨(some 11), (.mv (.t 10)), none⟩, ⟨(some 12), (.mv (.t 1)), (some (11, true))⟩, ⟨(some 13), (.fa (.t 3) 2), (some (11, true))⟩, ⟨(some 14), (.ld (.t 13) none), (some (11, true))⟩, ⟨(some 15), (.bin .lss (.t 12) (.t 14)), (some (11, true))⟩, ⟨(some 16), (.pick (.t 11) (.t 15) (.c (.v (.bool false)))), none⟩, ⟨(some 17), (.mv (.t 16)), none⟩, ⟨(some 18), (.fa (.t 3) 1), (some (17, true))⟩, ⟨(some 19), (.ld (.t 18) none), (some (17, true))⟩, ⟨(some 20), (.mv (.t 2)), (some (17, true))⟩, ⟨(some 21), (.bin .leq (.t 19) (.t 20)), (some (17, true))⟩, ⟨(some 22), (.pick (.t 17) (.t 21) (.c (.v (.bool false)))), none⟩, ⟨(some 23), (.mv (.t 22)), none⟩, ⟨(some 24), (.mv (.t 2)), (some (23, true))⟩, ⟨(some 25), (.fa (.t 3) 3), (some (23, true))⟩, ⟨(some 26), (.ld (.t 25) none), (some (23, true))⟩, ⟨(some 27), (.bin .lss (.t 24) (.t 26)), (some (23, true))⟩, ⟨(some 28), (.pick (.t 23) (.t 27) (.c (.v (.bool false)))), none⟩, ⟨(some 6), (.mv (.t 28)), none⟩]) .ret)), [(.t 6)]⟩

def c13 : MF := ⟨3, 15, 
  (.seq (.reg [] [⟨(some 6), (.mv (.c (.v (.int .i64 0)))), none⟩]) 
  (.seq (.reg [] [⟨(some 7), (.mv (.t 2)), none⟩, ⟨(some 8), (.bin .quo (.t 7) (.c (.v (.int .i64 16)))), none⟩, ⟨(some 9), (.mv (.t 0)), none⟩, ⟨(some 10), (.call (.c (.f 21 [])) [(.t 9)]), none⟩, ⟨(some 11), (.bin .mul (.t 8) (.t 10)), none⟩, ⟨(some 12), (.mv (.t 1)), none⟩, ⟨(some 13), (.bin .quo (.t 12) (.c (.v (.int .i64 16)))), none⟩, ⟨(some 14), (.bin .add (.t 11) (.t 13)), none⟩, ⟨(some 6), (.mv (.t 14)), none⟩]) .ret)), [(.t 6)]⟩

def c14 : MF := ⟨3, 30, 
  (.seq (.reg [] [⟨(some 6), (.box (.c (.agg [(.v (.int .i64 0)), (.v (.int .i64 0)), (.v (.int .i64 0)), (.v (.int .i64 0))]))), none⟩]) 
  (.seq (.reg [] [⟨(some 9), (.mv (.t 2)), none⟩, ⟨(some 10), (.mv (.t 0)), none⟩, ⟨(some 11), (.call (.c (.f 21 [])) [(.t 10)]), none⟩, ⟨(some 12), (.bin .rem (.t 9) (.t 11)), none⟩, ⟨(some 13), (.bin .mul (.t 12) (.c (.v (.int .i64 16)))), none⟩, ⟨(some 7), (.mv (.t 13)), none⟩]) 
  (.seq (.reg [] [⟨(some 14), (.mv (.t 2)), none⟩, ⟨(some 15), (.mv (.t 0)), none⟩, ⟨(some 16), (.call (.c (.f 21 [])) [(.t 15)]), none⟩, ⟨(some 17), (.bin .quo (.t 14) (.t 16)), none⟩, ⟨(some 18), (.bin .mul (.t 17) (.c (.v (.int .i64 16)))), none⟩, ⟨(some 8), (.mv (.t 18)), none⟩]) 
  (.seq (.reg [] [⟨(some 19), (.mv (.t 7)), none⟩, ⟨(some 20), (.mv (.t 8)), none⟩, ⟨(some 21), (.mv (.t 7)), none⟩, ⟨(some 22), (.bin .add (.t 21) (.c (.v (.int .i64 16)))), none⟩, ⟨(some 23), (.mv (.t 0)), none⟩, ⟨(some 24), (.call (.c (.f 23 [])) [(.t 22), (.t 23)]), none⟩, ⟨(some 25), (.mv (.t 8)), none⟩, ⟨(some 26), (.bin .add (.t 25) (.c (.v (.int .i64 16)))), none⟩, ⟨(some 27), (.mv (.t 1)), none⟩, ⟨(some 28), (.call (.c (.f 23 [])) [(.t 26), (.t 27)]), none⟩, ⟨(some 29), (.bld [(.v (.int .i64 0)), (.v (.int .i64 0)), (.v (.int .i64 0)), (.v (.int .i64 0))] [(0, (1, (.t 19))), (1, (1, (.t 20))), (2, (1, (.t 24))), (3, (1, (.t 28)))]), none⟩, ⟨none, (.st (.t 6) (.t 29) 4), none⟩]) .ret)))), [(.cell 6 (some 4))]⟩

def c15 : MF := ⟨1, 15, 
  (.seq (.reg [] [⟨(some 1), (.box (.t 0)), none⟩, ⟨(some 2), (.mv (.c (.v (.bool false)))), none⟩]) 
  (.seq (.reg [] [⟨(some 3), (.fa (.t 1) 0), none⟩, ⟨(some 4), (.ld (.t 3) none), none⟩, ⟨(some 5), (.fa (.t 1) 2), none⟩, ⟨(some 6), (.ld (.t 5) none), none⟩, ⟨(some 7), (.bin .geq (.t 4) (.t 6)), none⟩, ⟨(some 8), (.mv (.t 7)), none⟩, ⟨(some 9), (.fa (.t 1) 1), (some (8, false))⟩, ⟨(some 10), (.ld (.t 9) none), (some (8, false))⟩, ⟨(some 11), (.fa (.t 1) 3), (some (8, false))⟩, ⟨(some 12), (.ld (.t 11) none), (some (8, false))⟩, ⟨(some 13), (.bin .geq (.t 10) (.t 12)), (some (8, false))⟩, ⟨(some 14), (.pick (.t 8) (.c (.v (.bool true))) (.t 13)), none⟩, ⟨(some 2), (.mv (.t 14)), none⟩]) .ret)), [(.t 2)]⟩

def c16b0 : MC := 
  (.seq (.reg [] [⟨(some 43), (.bin .lss (.t 42) (.t 41)), none⟩]) 
  (.seq (.cond (.t 43) .skip (.exit 0)) 
  (.seq (.block 1 
  (.seq (.reg [] [⟨(some 44), (.mv (.t 42)), none⟩, ⟨(some 15), (.mv (.t 44)), none⟩]) 
  (.seq (.reg [] [⟨(some 46), (.mv (.t 0)), none⟩, ⟨(some 47), (.mv (.t 1)), none⟩, ⟨(some 48), (.mv (.t 15)), none⟩, ⟨(some 49), (.call (.c (.f 11 [])) [(.t 46), (.t 47), (.t 48)]), none⟩, ⟨(some 45), (.mv (.t 49)), none⟩, ⟨(some 50), (.ext (.t 45) 0), none⟩, ⟨(some 51), (.ext (.t 45) 1), none⟩, ⟨(some 16), (.box (.c (.agg [(.v (.int .i64 0)), (.v (.int .i64 0)), (.v (.int .i64 0)), (.v (.int .i64 0))]))), none⟩, ⟨none, (.st (.t 16) (.t 50) 4), none⟩, ⟨(some 17), (.mv (.t 51)), none⟩]) 
  (.seq (.reg [] [⟨(some 52), (.ld (.t 16) (some 4)), none⟩, ⟨(some 53), (.ld (.t 10) (some 4)), none⟩, ⟨(some 54), (.call (.c (.f 22 [])) [(.t 52), (.t 53)]), none⟩, ⟨(some 55), (.call (.c (.f 24 [])) [(.t 54)]), none⟩, ⟨(some 56), (.un .not (.t 55)), none⟩]) (.cond (.t 56) (.reg [] [⟨(some 57), (.mv (.t 14)), none⟩, ⟨(some 58), (.mv (.t 15)), none⟩, ⟨(some 59), (.bsl [(.v (.int .i64 0))] 1 [(0, (1, (.t 58)))]), none⟩, ⟨(some 60), (.app (.t 57) (.t 59) 1 8), none⟩, ⟨(some 14), (.mv (.t 60)), none⟩]) .skip))))) (.reg [] [⟨(some 61), (.bin .add (.t 42) (.c (.v (.int .i64 1)))), none⟩, ⟨(some 42), (.mv (.t 61)), none⟩]))))

def c16 : MF := ⟨3, 63, 
  (.seq (.reg [] [⟨(some 5), (.box (.t 2)), none⟩, ⟨(some 6), (.mv (.c (.v (.slice none 0 0)))), none⟩, ⟨(some 7), (.mv (.c (.v (.int .i64 0)))), none⟩]) 
  (.seq (.reg [] [⟨(some 19), (.mv (.t 0)), none⟩, ⟨(some 20), (.mv (.t 1)), none⟩, ⟨(some 21), (.call (.c (.f 19 [])) [(.t 19), (.t 20)]), none⟩, ⟨(some 18), (.mv (.t 21)), none⟩, ⟨(some 22), (.ext (.t 18) 0), none⟩, ⟨(some 23), (.ext (.t 18) 1), none⟩, ⟨(some 8), (.box (.c (.agg [(.v (.int .i64 0)), (.v (.int .i64 0)), (.v (.int .i64 0)), (.v (.int .i64 0))]))), none⟩, ⟨none, (.st (.t 8) (.t 22) 4), none⟩, ⟨(some 9), (.mv (.t 23)), none⟩]) 
  (.seq 
  (.seq (.reg [] [⟨(some 24), (.mv (.t 9)), none⟩, ⟨(some 25), (.bin .neq (.t 24) (.c (.v (.int .i64 0)))), none⟩]) (.cond (.t 25) 
  (.seq (.reg [] [⟨(some 26), (.mv (.t 9)), none⟩, ⟨(some 6), (.mv (.c (.v (.slice none 0 0)))), none⟩, ⟨(some 7), (.mv (.t 26)), none⟩]) .ret) .skip)) 
  (.seq (.reg [] [⟨(some 27), (.ld (.t 8) (some 4)), none⟩, ⟨(some 28), (.ld (.t 5) (some 4)), none⟩, ⟨(some 29), (.call (.c (.f 22 [])) [(.t 27), (.t 28)]), none⟩, ⟨(some 10), (.box (.c (.agg [(.v (.int .i64 0)), (.v (.int .i64 0)), (.v (.int .i64 0)), (.v (.int .i64 0))]))), none⟩, ⟨none, (.st (.t 10) (.t 29) 4), none⟩]) 
  (.seq 
  (.seq (.reg [] [⟨(some 30), (.ld (.t 10) (some 4)), none⟩, ⟨(some 31), (.call (.c (.f 24 [])) [(.t 30)]), none⟩]) (.cond (.t 31) 
  (.seq (.reg [] [⟨(some 6), (.mv (.c (.v (.slice none 0 0)))), none⟩, ⟨(some 7), (.mv (.c (.v (.int .i64 0)))), none⟩]) .ret) .skip)) 
  (.seq (.reg [] [⟨(some 33), (.mv (.t 0)), none⟩, ⟨(some 34), (.mv (.t 1)), none⟩, ⟨(some 35), (.call (.c (.f 7 [])) [(.t 33), (.t 34)]), none⟩, ⟨(some 32), (.mv (.t 35)), none⟩, ⟨(some 36), (.ext (.t 32) 0), none⟩, ⟨(some 37), (.ext (.t 32) 1), none⟩, ⟨(some 38), (.ext (.t 32) 2), none⟩, ⟨(some 11), (.mv (.t 36)), none⟩, ⟨(some 12), (.mv (.t 37)), none⟩, ⟨(some 13), (.mv (.t 38)), none⟩]) 
  (.seq (.reg [] [⟨(some 14), (.mv (.c (.v (.slice none 0 0)))), none⟩]) 
  (.seq 
  (.seq (.reg [] [⟨(some 39), (.mv (.t 11)), none⟩, ⟨(some 40), (.mv (.t 12)), none⟩, ⟨(some 41), (.bin .mul (.t 39) (.t 40)), none⟩, ⟨(some 42), (.mv (.c (.v (.int .i64 0)))), none⟩]) (.block 0 
  (.loopK [14] [61, 60, 59, 58, 57, 56, 55, 54, 53, 52, 51, 50, 45, 49, 48, 47, 46, 44, 43] c16b0))) 
  (.seq (.reg [] [⟨(some 62), (.mv (.t 14)), none⟩, ⟨(some 6), (.mv (.t 62)), none⟩, ⟨(some 7), (.mv (.c (.v (.int .i64 0)))), none⟩]) .ret))))))))), [(.t 6), (.t 7)]⟩

def c17b0 : MC := 
  (.seq 
  (.seq (.reg [] [⟨(some 11), (.mv (.t 5)), none⟩, ⟨(some 12), (.mv (.t 0)), none⟩, ⟨(some 13), (.len (.t 12)), none⟩, ⟨(some 14), (.bin .lss (.t 11) (.t 13)), none⟩]) (.cond (.t 14) .skip (.exit 0))) 
  (.seq (.block 1 
  (.seq (.reg [⟨(some 17), (.mv (.t 0)), none⟩, ⟨(some 18), (.mv (.t 5)), none⟩, ⟨(some 19), (.ixs (.t 17) (.t 18) 1), none⟩, ⟨(some 20), (.ld (.t 19) none), none⟩, ⟨(some 21), (.mv (.t 1)), none⟩, ⟨(some 22), (.mv (.t 5)), none⟩, ⟨(some 23), (.ixs (.t 21) (.t 22) 1), none⟩, ⟨(some 24), (.ld (.t 23) none), none⟩] [⟨(some 25), (.bin .neq (.t 20) (.t 24)), none⟩]) (.cond (.t 25) 
  (.seq (.reg [] [⟨(some 4), (.mv (.c (.v (.bool false)))), none⟩]) .ret) .skip))) (.reg [] [⟨(some 15), (.mv (.t 5)), none⟩, ⟨(some 16), (.bin .add (.t 15) (.c (.v (.int .i64 1)))), none⟩, ⟨(some 5), (.mv (.t 16)), none⟩])))

def c17 : MF := ⟨2, 26, 
  (.seq (.reg [] [⟨(some 4), (.mv (.c (.v (.bool false)))), none⟩]) 
  (.seq 
  (.seq (.reg [] [⟨(some 6), (.mv (.t 0)), none⟩, ⟨(some 7), (.len (.t 6)), none⟩, ⟨(some 8), (.mv (.t 1)), none⟩, ⟨(some 9), (.len (.t 8)), none⟩, ⟨(some 10), (.bin .neq (.t 7) (.t 9)), none⟩]) (.cond (.t 10) 
  (.seq (.reg [] [⟨(some 4), (.mv (.c (.v (.bool false)))), none⟩]) .ret) .skip)) 
  (.seq 
  (.seq (.reg [] [⟨(some 5), (.mv (.c (.v (.int .i64 0)))), none⟩]) (.block 0 
  (.loop [16, 15, 4, 25, 24, 23, 22, 21, 20, 19, 18, 17, 14, 13, 12, 11] c17b0))) 
  (.seq (.reg [] [⟨(some 4), (.mv (.c (.v (.bool true)))), none⟩]) .ret)))), [(.t 4)]⟩

def c18b0 : MC := 
  (.seq 
  (.seq (.reg [] [⟨(some 9), (.mv (.t 8)), none⟩, ⟨(some 10), (.mv (.t 0)), none⟩, ⟨(some 11), (.mv (.t 1)), none⟩, ⟨(some 12), (.call (.c (.f 10 [])) [(.t 10), (.t 11)]), none⟩, ⟨(some 13), (.bin .lss (.t 9) (.t 12)), none⟩]) (.cond (.t 13) .skip (.exit 0))) 
  (.seq (.block 1 
  (.seq (.reg [⟨(some 16), (.mv (.t 0)), none⟩, ⟨(some 17), (.mv (.t 1)), none⟩, ⟨(some 18), (.mv (.t 8)), none⟩, ⟨(some 19), (.call (.c (.f 14 [])) [(.t 16), (.t 17), (.t 18)]), none⟩, ⟨(some 20), (.ld (.t 5) (some 4)), none⟩] [⟨(some 21), (.call (.c (.f 25 [])) [(.t 19), (.t 20)]), none⟩, ⟨(some 22), (.call (.c (.f 15 [])) [(.t 21)]), none⟩, ⟨(some 23), (.un .not (.t 22)), none⟩]) (.cond (.t 23) (.reg [] [⟨(some 24), (.mv (.t 7)), none⟩, ⟨(some 25), (.mv (.t 8)), none⟩, ⟨(some 26), (.bsl [(.v (.int .i64 0))] 1 [(0, (1, (.t 25)))]), none⟩, ⟨(some 27), (.app (.t 24) (.t 26) 1 8), none⟩, ⟨(some 7), (.mv (.t 27)), none⟩]) .skip))) (.reg [] [⟨(some 14), (.mv (.t 8)), none⟩, ⟨(some 15), (.bin .add (.t 14) (.c (.v (.int .i64 1)))), none⟩, ⟨(some 8), (.mv (.t 15)), none⟩])))

def c18 : MF := ⟨3, 29, 
  (.seq (.reg [] [⟨(some 5), (.box (.t 2)), none⟩, ⟨(some 6), (.mv (.c (.v (.slice none 0 0)))), none⟩]) 
  (.seq (.reg [] [⟨(some 7), (.mv (.c (.v (.slice none 0 0)))), none⟩]) 
  (.seq 
  (.seq (.reg [] [⟨(some 8), (.mv (.c (.v (.int .i64 0)))), none⟩]) (.block 0 
  (.loopK [7] [15, 14, 27, 26, 25, 24, 23, 22, 21, 20, 19, 18, 17, 16, 13, 12, 11, 10, 9] c18b0))) 
  (.seq (.reg [] [⟨(some 28), (.mv (.t 7)), none⟩, ⟨(some 6), (.mv (.t 28)), none⟩]) .ret)))), [(.t 6)]⟩

def c19 : MF := ⟨2, 24, 
  (.seq (.reg [] [⟨(some 4), (.box (.c (.agg [(.v (.int .i64 0)), (.v (.int .i64 0)), (.v (.int .i64 0)), (.v (.int .i64 0))]))), none⟩, ⟨(some 5), (.mv (.c (.v (.int .i64 0)))), none⟩]) 
  (.seq 
  (.seq (.reg [] [⟨(some 6), (.mv (.t 0)), none⟩, ⟨(some 7), (.bin .lss (.t 6) (.c (.v (.int .i64 1)))), none⟩, ⟨(some 8), (.mv (.t 7)), none⟩, ⟨(some 9), (.mv (.t 0)), (some (8, false))⟩, ⟨(some 10), (.bin .gtr (.t 9) (.c (.v (.int .i64 256)))), (some (8, false))⟩, ⟨(some 11), (.pick (.t 8) (.c (.v (.bool true))) (.t 10)), none⟩, ⟨(some 12), (.mv (.t 11)), none⟩, ⟨(some 13), (.mv (.t 1)), (some (12, false))⟩, ⟨(some 14), (.bin .lss (.t 13) (.c (.v (.int .i64 1)))), (some (12, false))⟩, ⟨(some 15), (.pick (.t 12) (.c (.v (.bool true))) (.t 14)), none⟩, ⟨(some 16), (.mv (.t 15)), none⟩, ⟨(some 17), (.mv (.t 1)), (some (16, false))⟩, ⟨(some 18), (.bin .gtr (.t 17) (.c (.v (.int .i64 256)))), (some (16, false))⟩, ⟨(some 19), (.pick (.t 16) (.c (.v (.bool true))) (.t 18)), none⟩]) (.cond (.t 19) 
  (.seq (.reg [] [⟨(some 20), (.bld [(.v (.int .i64 0)), (.v (.int .i64 0)), (.v (.int .i64 0)), (.v (.int .i64 0))] []), none⟩, ⟨none, (.st (.t 4) (.t 20) 4), none⟩, ⟨(some 5), (.mv (.c (.v (.int .i64 3)))), none⟩]) .ret) .skip)) 
  (.seq (.reg [] [⟨(some 21), (.mv (.t 0)), none⟩, ⟨(some 22), (.mv (.t 1)), none⟩, ⟨(some 23), (.bld [(.v (.int .i64 0)), (.v (.int .i64 0)), (.v (.int .i64 0)), (.v (.int .i64 0))] [(2, (1, (.t 21))), (3, (1, (.t 22)))]), none⟩, ⟨none, (.st (.t 4) (.t 23) 4), none⟩, ⟨(some 5), (.mv (.c (.v (.int .i64 0)))), none⟩]) .ret))), [(.cell 4 (some 4)), (.t 5)]⟩

def c20 : MF := ⟨3, 29, 
  (.seq (.reg [] [⟨(some 3), (.box (.t 0)), none⟩, ⟨(some 6), (.mv (.c (.v (.bool false)))), none⟩]) 
  (.seq (.reg [] [⟨(some 7), (.mv (.t 1)), none⟩, ⟨(some 8), (.fa (.t 3) 0), none⟩, ⟨(some 9), (.ld (.t 8) none), none⟩, ⟨(some 10), (.bin .geq (.t 7) (.t 9)), none⟩, ⟨(some 11), (.mv (.t 10)), none⟩, ⟨(some 12), (.mv (.t 1)), (some (11, true))⟩, ⟨(some 13), (.fa (.t 3) 2), (some (11, true))⟩, ⟨(some 14), (.ld (.t 13) none), (some (11, true))⟩, ⟨(some 15), (.bin .lss (.t 12) (.t 14)), (some (11, true))⟩, ⟨(some 16), (.pick (.t 11) (.t 15) (.c (.v (.bool false)))), none⟩, ⟨(some 17), (.mv (.t 16)), none⟩, ⟨(some 18), (.mv (.t 2)), (some (17, true))⟩, ⟨(some 19), (.fa (.t 3) 1), (some (17, true))⟩, ⟨(some 20), (.ld (.t 19) none), (some (17, true))⟩, ⟨(some 21), (.bin .geq (.t 18) (.t 20)), (some (17, true))⟩, ⟨(some 22), (.pick (.t 17) (.t 21) (.c (.v (.bool false)))), none⟩, ⟨(some 23), (.mv (.t 22)), none⟩, ⟨(some 24), (.mv (.t 2)), (some (23, true))⟩, ⟨(some 25), (.fa (.t 3) 3), (some (23, true))⟩, ⟨(some 26), (.ld (.t 25) none), (some (23, true))⟩, ⟨(some 27), (.bin .lss (.t 24) (.t 26)), (some (23, true))⟩, ⟨(some 28), (.pick (.t 23) (.t 27) (.c (.v (.bool false)))), none⟩, ⟨(some 6), (.mv (.t 28)), none⟩]) .ret)), [(.t 6)]⟩

def c21 : MF := ⟨1, 6, 
  (.seq (.reg [] [⟨(some 2), (.mv (.c (.v (.int .i64 0)))), none⟩]) 
  (.seq (.reg [] [⟨(some 3), (.mv (.t 0)), none⟩, ⟨(some 4), (.bin .add (.t 3) (.c (.v (.int .i64 15)))), none⟩, ⟨(some 5), (.bin .quo (.t 4) (.c (.v (.int .i64 16)))), none⟩, ⟨(some 2), (.mv (.t 5)), none⟩]) .ret)), [(.t 2)]⟩

def c22 : MF := ⟨2, 31, 
  (.seq (.reg [] [⟨(some 2), (.box (.t 0)), none⟩, ⟨(some 3), (.box (.t 1)), none⟩, ⟨(some 4), (.box (.c (.agg [(.v (.int .i64 0)), (.v (.int .i64 0)), (.v (.int .i64 0)), (.v (.int .i64 0))]))), none⟩]) 
  (.seq (.reg [] [⟨(some 6), (.fa (.t 2) 0), none⟩, ⟨(some 7), (.ld (.t 6) none), none⟩, ⟨(some 8), (.fa (.t 3) 0), none⟩, ⟨(some 9), (.ld (.t 8) none), none⟩, ⟨(some 10), (.mm true [(.t 7), (.t 9)]), none⟩, ⟨(some 11), (.fa (.t 2) 1), none⟩, ⟨(some 12), (.ld (.t 11) none), none⟩, ⟨(some 13), (.fa (.t 3) 1), none⟩, ⟨(some 14), (.ld (.t 13) none), none⟩, ⟨(some 15), (.mm true [(.t 12), (.t 14)]), none⟩, ⟨(some 16), (.fa (.t 2) 2), none⟩, ⟨(some 17), (.ld (.t 16) none), none⟩, ⟨(some 18), (.fa (.t 3) 2), none⟩, ⟨(some 19), (.ld (.t 18) none), none⟩, ⟨(some 20), (.mm false [(.t 17), (.t 19)]), none⟩, ⟨(some 21), (.fa (.t 2) 3), none⟩, ⟨(some 22), (.ld (.t 21) none), none⟩, ⟨(some 23), (.fa (.t 3) 3), none⟩, ⟨(some 24), (.ld (.t 23) none), none⟩, ⟨(some 25), (.mm false [(.t 22), (.t 24)]), none⟩, ⟨(some 26), (.bld [(.v (.int .i64 0)), (.v (.int .i64 0)), (.v (.int .i64 0)), (.v (.int .i64 0))] [(0, (1, (.t 10))), (1, (1, (.t 15))), (2, (1, (.t 20))), (3, (1, (.t 25)))]), none⟩, ⟨(some 5), (.box (.c (.agg [(.v (.int .i64 0)), (.v (.int .i64 0)), (.v (.int .i64 0)), (.v (.int .i64 0))]))), none⟩, ⟨none, (.st (.t 5) (.t 26) 4), none⟩]) 
  (.seq 
  (.seq (.reg [] [⟨(some 27), (.ld (.t 5) (some 4)), none⟩, ⟨(some 28), (.call (.c (.f 24 [])) [(.t 27)]), none⟩]) (.cond (.t 28) 
  (.seq (.reg [] [⟨(some 29), (.bld [(.v (.int .i64 0)), (.v (.int .i64 0)), (.v (.int .i64 0)), (.v (.int .i64 0))] []), none⟩, ⟨none, (.st (.t 4) (.t 29) 4), none⟩]) .ret) .skip)) 
  (.seq (.reg [] [⟨(some 30), (.ld (.t 5) (some 4)), none⟩, ⟨none, (.st (.t 4) (.t 30) 4), none⟩]) .ret)))), [(.cell 4 (some 4))]⟩

def c23 : MF := ⟨2, 10, 
  (.seq (.reg [] [⟨(some 4), (.mv (.c (.v (.int .i64 0)))), none⟩]) 
  (.seq 
  (.seq (.reg [] [⟨(some 5), (.mv (.t 0)), none⟩, ⟨(some 6), (.mv (.t 1)), none⟩, ⟨(some 7), (.bin .lss (.t 5) (.t 6)), none⟩]) (.cond (.t 7) 
  (.seq (.reg [] [⟨(some 8), (.mv (.t 0)), none⟩, ⟨(some 4), (.mv (.t 8)), none⟩]) .ret) .skip)) 
  (.seq (.reg [] [⟨(some 9), (.mv (.t 1)), none⟩, ⟨(some 4), (.mv (.t 9)), none⟩]) .ret))), [(.t 4)]⟩

def c24 : MF := ⟨1, 15, 
  (.seq (.reg [] [⟨(some 1), (.box (.t 0)), none⟩, ⟨(some 2), (.mv (.c (.v (.bool false)))), none⟩]) 
  (.seq (.reg [] [⟨(some 3), (.fa (.t 1) 0), none⟩, ⟨(some 4), (.ld (.t 3) none), none⟩, ⟨(some 5), (.fa (.t 1) 2), none⟩, ⟨(some 6), (.ld (.t 5) none), none⟩, ⟨(some 7), (.bin .geq (.t 4) (.t 6)), none⟩, ⟨(some 8), (.mv (.t 7)), none⟩, ⟨(some 9), (.fa (.t 1) 1), (some (8, false))⟩, ⟨(some 10), (.ld (.t 9) none), (some (8, false))⟩, ⟨(some 11), (.fa (.t 1) 3), (some (8, false))⟩, ⟨(some 12), (.ld (.t 11) none), (some (8, false))⟩, ⟨(some 13), (.bin .geq (.t 10) (.t 12)), (some (8, false))⟩, ⟨(some 14), (.pick (.t 8) (.c (.v (.bool true))) (.t 13)), none⟩, ⟨(some 2), (.mv (.t 14)), none⟩]) .ret)), [(.t 2)]⟩

def c25 : MF := ⟨2, 31, 
  (.seq (.reg [] [⟨(some 2), (.box (.t 0)), none⟩, ⟨(some 3), (.box (.t 1)), none⟩, ⟨(some 4), (.box (.c (.agg [(.v (.int .i64 0)), (.v (.int .i64 0)), (.v (.int .i64 0)), (.v (.int .i64 0))]))), none⟩]) 
  (.seq (.reg [⟨(some 6), (.fa (.t 2) 0), none⟩, ⟨(some 7), (.ld (.t 6) none), none⟩, ⟨(some 8), (.fa (.t 3) 0), none⟩, ⟨(some 9), (.ld (.t 8) none), none⟩, ⟨(some 10), (.call (.c (.f 26 [])) [(.t 7), (.t 9)]), none⟩, ⟨(some 11), (.fa (.t 2) 1), none⟩, ⟨(some 12), (.ld (.t 11) none), none⟩, ⟨(some 13), (.fa (.t 3) 1), none⟩, ⟨(some 14), (.ld (.t 13) none), none⟩, ⟨(some 15), (.call (.c (.f 26 [])) [(.t 12), (.t 14)]), none⟩, ⟨(some 16), (.fa (.t 2) 2), none⟩, ⟨(some 17), (.ld (.t 16) none), none⟩, ⟨(some 18), (.fa (.t 3) 2), none⟩, ⟨(some 19), (.ld (.t 18) none), none⟩, ⟨(some 20), (.call (.c (.f 23 [])) [(.t 17), (.t 19)]), none⟩, ⟨(some 21), (.fa (.t 2) 3), none⟩, ⟨(some 22), (.ld (.t 21) none), none⟩, ⟨(some 23), (.fa (.t 3) 3), none⟩, ⟨(some 24), (.ld (.t 23) none), none⟩, ⟨(some 25), (.call (.c (.f 23 [])) [(.t 22), (.t 24)]), none⟩, ⟨(some 26), (.bld [(.v (.int .i64 0)), (.v (.int .i64 0)), (.v (.int .i64 0)), (.v (.int .i64 0))] [(0, (1, (.t 10))), (1, (1, (.t 15))), (2, (1, (.t 20))), (3, (1, (.t 25)))]), none⟩, ⟨(some 5), (.mv (.c .bad)), none⟩] [⟨(some 5), (.box (.c (.agg [(.v (.int .i64 0)), (.v (.int .i64 0)), (.v (.int .i64 0)), (.v (.int .i64 0))]))), none⟩, ⟨none, (.fa (.t 5) 0), none⟩, ⟨none, (.st (.t 5) (.t 26) 4), none⟩]) 
  (.seq 
  (.seq (.reg [] [⟨(some 27), (.ld (.t 5) (some 4)), none⟩, ⟨(some 28), (.call (.c (.f 15 [])) [(.t 27)]), none⟩]) (.cond (.t 28) 
  (.seq (.reg [] [⟨(some 29), (.bld [(.v (.int .i64 0)), (.v (.int .i64 0)), (.v (.int .i64 0)), (.v (.int .i64 0))] []), none⟩, ⟨none, (.st (.t 4) (.t 29) 4), none⟩]) .ret) .skip)) 
  (.seq (.reg [] [⟨(some 30), (.ld (.t 5) (some 4)), none⟩, ⟨none, (.st (.t 4) (.t 30) 4), none⟩]) .ret)))), [(.cell 4 (some 4))]⟩

def c26 : MF := ⟨2, 10, 
  (.seq (.reg [] [⟨(some 4), (.mv (.c (.v (.int .i64 0)))), none⟩]) 
  (.seq 
  (.seq (.reg [] [⟨(some 5), (.mv (.t 0)), none⟩, ⟨(some 6), (.mv (.t 1)), none⟩, ⟨(some 7), (.bin .gtr (.t 5) (.t 6)), none⟩]) (.cond (.t 7) 
  (.seq (.reg [] [⟨(some 8), (.mv (.t 0)), none⟩, ⟨(some 4), (.mv (.t 8)), none⟩]) .ret) .skip)) 
  (.seq (.reg [] [⟨(some 9), (.mv (.t 1)), none⟩, ⟨(some 4), (.mv (.t 9)), none⟩]) .ret))), [(.t 4)]⟩

theorem ok3 : cF Try.prog 3 = some c3 := by kernel_rfl
theorem ok4 : cF Try.prog 4 = some c4 := by kernel_rfl
theorem ok5 : cF Try.prog 5 = some c5 := by kernel_rfl
theorem ok6 : cF Try.prog 6 = some c6 := by kernel_rfl
theorem ok7 : cF Try.prog 7 = some c7 := by kernel_rfl
theorem ok8 : cF Try.prog 8 = some c8 := by kernel_rfl
theorem ok9 : cF Try.prog 9 = some c9 := by kernel_rfl
theorem ok10 : cF Try.prog 10 = some c10 := by kernel_rfl
theorem ok11 : cF Try.prog 11 = some c11 := by kernel_rfl
theorem ok12 : cF Try.prog 12 = some c12 := by kernel_rfl
theorem ok13 : cF Try.prog 13 = some c13 := by kernel_rfl
theorem ok14 : cF Try.prog 14 = some c14 := by kernel_rfl
theorem ok15 : cF Try.prog 15 = some c15 := by kernel_rfl
theorem ok16 : cF Try.prog 16 = some c16 := by kernel_rfl
theorem ok17 : cF Try.prog 17 = some c17 := by kernel_rfl
theorem ok18 : cF Try.prog 18 = some c18 := by kernel_rfl
theorem ok19 : cF Try.prog 19 = some c19 := by kernel_rfl
theorem ok20 : cF Try.prog 20 = some c20 := by kernel_rfl
theorem ok21 : cF Try.prog 21 = some c21 := by kernel_rfl
theorem ok22 : cF Try.prog 22 = some c22 := by kernel_rfl
theorem ok23 : cF Try.prog 23 = some c23 := by kernel_rfl
theorem ok24 : cF Try.prog 24 = some c24 := by kernel_rfl
theorem ok25 : cF Try.prog 25 = some c25 := by kernel_rfl
theorem ok26 : cF Try.prog 26 = some c26 := by kernel_rfl

def cmL : List (Nat × MF) := [(3, c3), (4, c4), (5, c5), (6, c6), (7, c7), (8, c8), (9, c9), (10, c10), (11, c11), (12, c12), (13, c13), (14, c14), (15, c15), (16, c16), (17, c17), (18, c18), (19, c19), (20, c20), (21, c21), (22, c22), (23, c23), (24, c24), (25, c25), (26, c26)]

def cm : FuncId → Option MF := look cmL

theorem hcm : ∀ g m, cm g = some m → cF Try.prog g = some m := look_ok ⟨ok3, ok4, ok5, ok6, ok7, ok8, ok9, ok10, ok11, ok12, ok13, ok14, ok15, ok16, ok17, ok18, ok19, ok20, ok21, ok22, ok23, ok24, ok25, ok26, trivial⟩

theorem cm3 (k : Nat) (args : List LV) (h : List Row) (lim : Nat) : evF cm (k + 1) 3 args h lim = runF (evF cm k) k lim c3 args h := rfl
theorem cm4 (k : Nat) (args : List LV) (h : List Row) (lim : Nat) : evF cm (k + 1) 4 args h lim = runF (evF cm k) k lim c4 args h := rfl
theorem cm5 (k : Nat) (args : List LV) (h : List Row) (lim : Nat) : evF cm (k + 1) 5 args h lim = runF (evF cm k) k lim c5 args h := rfl
theorem cm6 (k : Nat) (args : List LV) (h : List Row) (lim : Nat) : evF cm (k + 1) 6 args h lim = runF (evF cm k) k lim c6 args h := rfl
theorem cm7 (k : Nat) (args : List LV) (h : List Row) (lim : Nat) : evF cm (k + 1) 7 args h lim = runF (evF cm k) k lim c7 args h := rfl
theorem cm8 (k : Nat) (args : List LV) (h : List Row) (lim : Nat) : evF cm (k + 1) 8 args h lim = runF (evF cm k) k lim c8 args h := rfl
theorem cm9 (k : Nat) (args : List LV) (h : List Row) (lim : Nat) : evF cm (k + 1) 9 args h lim = runF (evF cm k) k lim c9 args h := rfl
theorem cm10 (k : Nat) (args : List LV) (h : List Row) (lim : Nat) : evF cm (k + 1) 10 args h lim = runF (evF cm k) k lim c10 args h := rfl
theorem cm11 (k : Nat) (args : List LV) (h : List Row) (lim : Nat) : evF cm (k + 1) 11 args h lim = runF (evF cm k) k lim c11 args h := rfl
theorem cm12 (k : Nat) (args : List LV) (h : List Row) (lim : Nat) : evF cm (k + 1) 12 args h lim = runF (evF cm k) k lim c12 args h := rfl
theorem cm13 (k : Nat) (args : List LV) (h : List Row) (lim : Nat) : evF cm (k + 1) 13 args h lim = runF (evF cm k) k lim c13 args h := rfl
theorem cm14 (k : Nat) (args : List LV) (h : List Row) (lim : Nat) : evF cm (k + 1) 14 args h lim = runF (evF cm k) k lim c14 args h := rfl
theorem cm15 (k : Nat) (args : List LV) (h : List Row) (lim : Nat) : evF cm (k + 1) 15 args h lim = runF (evF cm k) k lim c15 args h := rfl
theorem cm16 (k : Nat) (args : List LV) (h : List Row) (lim : Nat) : evF cm (k + 1) 16 args h lim = runF (evF cm k) k lim c16 args h := rfl
theorem cm17 (k : Nat) (args : List LV) (h : List Row) (lim : Nat) : evF cm (k + 1) 17 args h lim = runF (evF cm k) k lim c17 args h := rfl
theorem cm18 (k : Nat) (args : List LV) (h : List Row) (lim : Nat) : evF cm (k + 1) 18 args h lim = runF (evF cm k) k lim c18 args h := rfl
theorem cm19 (k : Nat) (args : List LV) (h : List Row) (lim : Nat) : evF cm (k + 1) 19 args h lim = runF (evF cm k) k lim c19 args h := rfl
theorem cm20 (k : Nat) (args : List LV) (h : List Row) (lim : Nat) : evF cm (k + 1) 20 args h lim = runF (evF cm k) k lim c20 args h := rfl
theorem cm21 (k : Nat) (args : List LV) (h : List Row) (lim : Nat) : evF cm (k + 1) 21 args h lim = runF (evF cm k) k lim c21 args h := rfl
theorem cm22 (k : Nat) (args : List LV) (h : List Row) (lim : Nat) : evF cm (k + 1) 22 args h lim = runF (evF cm k) k lim c22 args h := rfl
theorem cm23 (k : Nat) (args : List LV) (h : List Row) (lim : Nat) : evF cm (k + 1) 23 args h lim = runF (evF cm k) k lim c23 args h := rfl
theorem cm24 (k : Nat) (args : List LV) (h : List Row) (lim : Nat) : evF cm (k + 1) 24 args h lim = runF (evF cm k) k lim c24 args h := rfl
theorem cm25 (k : Nat) (args : List LV) (h : List Row) (lim : Nat) : evF cm (k + 1) 25 args h lim = runF (evF cm k) k lim c25 args h := rfl
theorem cm26 (k : Nat) (args : List LV) (h : List Row) (lim : Nat) : evF cm (k + 1) 26 args h lim = runF (evF cm k) k lim c26 args h := rfl
end Go.Proofs.Ytbbmfacfmmpefaa
