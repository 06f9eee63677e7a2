/- The resolved code of the functions that are reached, as a program of ours has printed it; each is checked against the given program. -/
import Derived.KernelRfl
import Derived.Test.YtalhkhbdoinbdaaEng13
import Derived.Test.YtalhkhbdoinbdaaProg
namespace Go.Proofs.Ytalhkhbdoinbdaa
open Go

def c3 : MF := ⟨1, 17, 
  (.seq (.reg [] [⟨(some 1), (.box (.t 0)), none⟩, ⟨(some 2), (.mv (.c (.v (.bool false)))), none⟩]) 
  (.seq (.reg [] [⟨(some 4), (.ld (.t 1) (some 6)), none⟩, ⟨(some 5), (.call (.c (.f 6 [])) [(.t 4)]), none⟩, ⟨(some 3), (.box (.c (.agg [(.v (.int .i64 0)), (.v (.int .i64 0)), (.v (.int .i64 0)), (.v (.int .i64 0))]))), none⟩, ⟨none, (.st (.t 3) (.t 5) 4), none⟩]) 
  (.seq (.reg [⟨(some 6), (.ld (.t 3) (some 4)), none⟩, ⟨(some 7), (.ld (.t 1) (some 6)), none⟩, ⟨(some 8), (.call (.c (.f 7 [])) [(.t 7)]), none⟩, ⟨(some 9), (.eqv false true [.i, .i, .i, .i] (.t 6) (.t 8)), none⟩, ⟨(some 10), (.mv (.t 9)), none⟩, ⟨(some 11), (.ld (.t 3) (some 4)), (some (10, true))⟩, ⟨(some 12), (.call (.c (.f 8 [])) [(.t 11)]), (some (10, true))⟩, ⟨(some 13), (.pick (.t 10) (.t 12) (.c (.v (.bool false)))), none⟩, ⟨(some 14), (.mv (.t 13)), none⟩, ⟨(some 15), (.call (.c (.f 9 [])) []), (some (14, true))⟩, ⟨(some 16), (.pick (.t 14) (.t 15) (.c (.v (.bool false)))), none⟩] [⟨(some 2), (.mv (.t 16)), none⟩]) .ret))), [(.t 2)]⟩

def c4 : MF := ⟨2, 90, 
  (.seq (.reg [] [⟨(some 2), (.box (.t 0)), none⟩, ⟨(some 4), (.mv (.c (.v (.bool false)))), none⟩]) 
  (.seq (.reg [] [⟨(some 14), (.ld (.t 2) (some 4)), none⟩, ⟨(some 15), (.call (.c (.f 10 [])) [(.t 14)]), none⟩, ⟨(some 13), (.mv (.t 15)), none⟩, ⟨(some 16), (.ext (.t 13) 0), none⟩, ⟨(some 17), (.ext (.t 13) 1), none⟩, ⟨(some 5), (.mv (.t 16)), none⟩, ⟨(some 6), (.mv (.t 17)), none⟩]) 
  (.seq (.reg [] [⟨(some 19), (.mv (.t 1)), none⟩, ⟨(some 20), (.call (.c (.f 11 [])) [(.t 19)]), none⟩, ⟨(some 18), (.mv (.t 20)), none⟩, ⟨(some 21), (.ext (.t 18) 0), none⟩, ⟨(some 22), (.ext (.t 18) 1), none⟩, ⟨(some 7), (.box (.c (.agg [(.v (.int .i64 0)), (.v (.int .i64 0)), (.v (.int .i64 0)), (.v (.int .i64 0))]))), none⟩, ⟨none, (.st (.t 7) (.t 21) 4), none⟩, ⟨(some 8), (.mv (.t 22)), none⟩]) 
  (.seq (.reg [] [⟨(some 24), (.mv (.t 1)), none⟩, ⟨(some 25), (.call (.c (.f 12 [])) [(.t 24)]), none⟩, ⟨(some 23), (.mv (.t 25)), none⟩, ⟨(some 26), (.ext (.t 23) 0), none⟩, ⟨(some 27), (.ext (.t 23) 1), none⟩, ⟨(some 9), (.box (.c (.agg [(.v (.int .i64 0)), (.v (.int .i64 0)), (.v (.int .i64 0)), (.v (.int .i64 0))]))), none⟩, ⟨none, (.st (.t 9) (.t 26) 4), none⟩, ⟨(some 10), (.mv (.t 27)), none⟩]) 
  (.seq 
  (.seq (.reg [⟨(some 28), (.mv (.t 10)), none⟩, ⟨(some 29), (.mv (.t 28)), none⟩, ⟨(some 30), (.mv (.t 8)), (some (29, true))⟩, ⟨(some 31), (.bin .neq (.t 30) (.c (.v (.int .i64 0)))), (some (29, true))⟩, ⟨(some 32), (.pick (.t 29) (.t 31) (.c (.v (.bool false)))), none⟩, ⟨(some 33), (.mv (.t 32)), none⟩, ⟨(some 34), (.mv (.t 10)), (some (33, false))⟩, ⟨(some 35), (.un .not (.t 34)), (some (33, false))⟩, ⟨(some 36), (.mv (.t 35)), (some (33, false))⟩, ⟨(some 37), (.mv (.t 8)), (some (36, true))⟩, ⟨(some 38), (.bin .neq (.t 37) (.c (.v (.int .i64 3)))), (some (36, true))⟩, ⟨(some 39), (.pick (.t 36) (.t 38) (.c (.v (.bool false)))), (some (33, false))⟩, ⟨(some 40), (.pick (.t 33) (.c (.v (.bool true))) (.t 39)), none⟩, ⟨(some 41), (.mv (.t 40)), none⟩, ⟨(some 42), (.ld (.t 7) (some 4)), (some (41, false))⟩, ⟨(some 43), (.ld (.t 9) (some 4)), (some (41, false))⟩, ⟨(some 44), (.eqv true true [.i, .i, .i, .i] (.t 42) (.t 43)), (some (41, false))⟩, ⟨(some 45), (.pick (.t 41) (.c (.v (.bool true))) (.t 44)), none⟩, ⟨(some 46), (.mv (.t 45)), none⟩, ⟨(some 47), (.ld (.t 2) (some 4)), (some (46, false))⟩, ⟨(some 48), (.call (.c (.f 8 [])) [(.t 47)]), (some (46, false))⟩, ⟨(some 49), (.ld (.t 2) (some 4)), (some (46, false))⟩, ⟨(some 50), (.call (.c (.f 13 [])) [(.t 49)]), (some (46, false))⟩, ⟨(some 51), (.eqv true false [.b] (.t 48) (.t 50)), (some (46, false))⟩, ⟨(some 52), (.pick (.t 46) (.c (.v (.bool true))) (.t 51)), none⟩] []) (.cond (.t 52) 
  (.seq (.reg [] [⟨(some 4), (.mv (.c (.v (.bool false)))), none⟩]) .ret) .skip)) 
  (.seq 
  (.seq (.reg [] [⟨(some 53), (.ld (.t 2) (some 4)), none⟩, ⟨(some 54), (.call (.c (.f 13 [])) [(.t 53)]), none⟩, ⟨(some 55), (.un .not (.t 54)), none⟩]) (.cond (.t 55) 
  (.seq (.reg [] [⟨(some 56), (.mv (.t 5)), none⟩, ⟨(some 57), (.bin .eql (.t 56) (.c (.v (.int .i64 0)))), none⟩, ⟨(some 58), (.mv (.t 57)), none⟩, ⟨(some 59), (.mv (.t 6)), (some (58, true))⟩, ⟨(some 60), (.bin .eql (.t 59) (.c (.v (.int .i64 3)))), (some (58, true))⟩, ⟨(some 61), (.pick (.t 58) (.t 60) (.c (.v (.bool false)))), none⟩, ⟨(some 62), (.mv (.t 61)), none⟩, ⟨(some 63), (.call (.c (.f 9 [])) []), (some (62, true))⟩, ⟨(some 64), (.pick (.t 62) (.t 63) (.c (.v (.bool false)))), none⟩, ⟨(some 4), (.mv (.t 64)), none⟩]) .ret) .skip)) 
  (.seq (.reg [] [⟨(some 66), (.mv (.t 5)), none⟩, ⟨(some 67), (.call (.c (.f 11 [])) [(.t 66)]), none⟩, ⟨(some 65), (.mv (.t 67)), none⟩, ⟨(some 68), (.ext (.t 65) 0), none⟩, ⟨(some 69), (.ext (.t 65) 1), none⟩, ⟨(some 11), (.box (.c (.agg [(.v (.int .i64 0)), (.v (.int .i64 0)), (.v (.int .i64 0)), (.v (.int .i64 0))]))), none⟩, ⟨none, (.st (.t 11) (.t 68) 4), none⟩, ⟨(some 12), (.mv (.t 69)), none⟩]) 
  (.seq (.reg [] [⟨(some 70), (.mv (.t 6)), none⟩, ⟨(some 71), (.bin .eql (.t 70) (.c (.v (.int .i64 0)))), none⟩, ⟨(some 72), (.mv (.t 71)), none⟩, ⟨(some 73), (.mv (.t 5)), (some (72, true))⟩, ⟨(some 74), (.ld (.t 2) (some 4)), (some (72, true))⟩, ⟨(some 75), (.call (.c (.f 14 [])) [(.t 74)]), (some (72, true))⟩, ⟨(some 76), (.bin .eql (.t 73) (.t 75)), (some (72, true))⟩, ⟨(some 77), (.pick (.t 72) (.t 76) (.c (.v (.bool false)))), none⟩, ⟨(some 78), (.mv (.t 77)), none⟩, ⟨(some 79), (.mv (.t 12)), (some (78, true))⟩, ⟨(some 80), (.bin .eql (.t 79) (.c (.v (.int .i64 0)))), (some (78, true))⟩, ⟨(some 81), (.pick (.t 78) (.t 80) (.c (.v (.bool false)))), none⟩, ⟨(some 82), (.mv (.t 81)), none⟩, ⟨(some 83), (.ld (.t 11) (some 4)), (some (82, true))⟩, ⟨(some 84), (.ld (.t 2) (some 4)), (some (82, true))⟩, ⟨(some 85), (.eqv false true [.i, .i, .i, .i] (.t 83) (.t 84)), (some (82, true))⟩, ⟨(some 86), (.pick (.t 82) (.t 85) (.c (.v (.bool false)))), none⟩, ⟨(some 87), (.mv (.t 86)), none⟩, ⟨(some 88), (.call (.c (.f 9 [])) []), (some (87, true))⟩, ⟨(some 89), (.pick (.t 87) (.t 88) (.c (.v (.bool false)))), none⟩, ⟨(some 4), (.mv (.t 89)), none⟩]) .ret)))))))), [(.t 4)]⟩

def c5 : MF := ⟨2, 152, 
  (.seq (.reg [] [⟨(some 2), (.box (.t 0)), none⟩, ⟨(some 3), (.box (.t 1)), none⟩, ⟨(some 4), (.mv (.c (.v (.bool false)))), none⟩]) 
  (.seq (.reg [] [⟨(some 14), (.ld (.t 2) (some 4)), none⟩, ⟨(some 15), (.ld (.t 3) (some 4)), none⟩, ⟨(some 16), (.call (.c (.f 15 [])) [(.t 14), (.t 15)]), none⟩, ⟨(some 13), (.mv (.t 16)), none⟩, ⟨(some 17), (.ext (.t 13) 0), none⟩, ⟨(some 18), (.ext (.t 13) 1), none⟩, ⟨(some 5), (.box (.c (.agg [(.v (.int .i64 0)), (.v (.int .i64 0)), (.v (.int .i64 0)), (.v (.int .i64 0))]))), none⟩, ⟨none, (.st (.t 5) (.t 17) 4), none⟩, ⟨(some 6), (.mv (.t 18)), none⟩]) 
  (.seq (.reg [] [⟨(some 20), (.ld (.t 2) (some 4)), none⟩, ⟨(some 21), (.call (.c (.f 16 [])) [(.t 20)]), none⟩, ⟨(some 19), (.mv (.t 21)), none⟩, ⟨(some 22), (.ext (.t 19) 0), none⟩, ⟨(some 23), (.ext (.t 19) 1), none⟩, ⟨(some 7), (.mv (.t 22)), none⟩, ⟨(some 8), (.mv (.t 23)), none⟩]) 
  (.seq 
  (.seq (.reg [] [⟨(some 24), (.ld (.t 2) (some 4)), none⟩, ⟨(some 25), (.call (.c (.f 13 [])) [(.t 24)]), none⟩, ⟨(some 26), (.un .not (.t 25)), none⟩, ⟨(some 27), (.mv (.t 26)), none⟩, ⟨(some 28), (.ld (.t 3) (some 4)), (some (27, false))⟩, ⟨(some 29), (.call (.c (.f 13 [])) [(.t 28)]), (some (27, false))⟩, ⟨(some 30), (.un .not (.t 29)), (some (27, false))⟩, ⟨(some 31), (.pick (.t 27) (.c (.v (.bool true))) (.t 30)), none⟩]) (.cond (.t 31) 
  (.seq (.reg [] [⟨(some 32), (.ld (.t 5) (some 4)), none⟩, ⟨(some 33), (.bld [(.v (.int .i64 0)), (.v (.int .i64 0)), (.v (.int .i64 0)), (.v (.int .i64 0))] []), none⟩, ⟨(some 34), (.eqv false true [.i, .i, .i, .i] (.t 32) (.t 33)), none⟩, ⟨(some 35), (.mv (.t 34)), none⟩, ⟨(some 36), (.mv (.t 6)), (some (35, true))⟩, ⟨(some 37), (.bin .eql (.t 36) (.c (.v (.int .i64 3)))), (some (35, true))⟩, ⟨(some 38), (.pick (.t 35) (.t 37) (.c (.v (.bool false)))), none⟩, ⟨(some 39), (.mv (.t 38)), none⟩, ⟨(some 40), (.ld (.t 2) (some 4)), (some (39, true))⟩, ⟨(some 41), (.call (.c (.f 13 [])) [(.t 40)]), (some (39, true))⟩, ⟨(some 42), (.mv (.t 41)), (some (39, true))⟩, ⟨(some 43), (.mv (.t 7)), (some (42, false))⟩, ⟨(some 44), (.bin .eql (.t 43) (.c (.v (.int .i64 0)))), (some (42, false))⟩, ⟨(some 45), (.mv (.t 44)), (some (42, false))⟩, ⟨(some 46), (.mv (.t 8)), (some (45, true))⟩, ⟨(some 47), (.bin .eql (.t 46) (.c (.v (.int .i64 3)))), (some (45, true))⟩, ⟨(some 48), (.pick (.t 45) (.t 47) (.c (.v (.bool false)))), (some (42, false))⟩, ⟨(some 49), (.pick (.t 42) (.c (.v (.bool true))) (.t 48)), (some (39, true))⟩, ⟨(some 50), (.pick (.t 39) (.t 49) (.c (.v (.bool false)))), none⟩, ⟨(some 51), (.mv (.t 50)), none⟩, ⟨(some 52), (.call (.c (.f 9 [])) []), (some (51, true))⟩, ⟨(some 53), (.pick (.t 51) (.t 52) (.c (.v (.bool false)))), none⟩, ⟨(some 4), (.mv (.t 53)), none⟩]) .ret) .skip)) 
  (.seq (.reg [] [⟨(some 55), (.ld (.t 2) (some 4)), none⟩, ⟨(some 56), (.bld [(.v (.int .i64 0)), (.v (.int .i64 0)), (.v (.int .i64 0)), (.v (.int .i64 0))] [(0, (1, (.c (.v (.int .i64 255))))), (1, (1, (.c (.v (.int .i64 255))))), (2, (1, (.c (.v (.int .i64 255))))), (3, (1, (.c (.v (.int .i64 255)))))]), none⟩, ⟨(some 57), (.call (.c (.f 15 [])) [(.t 55), (.t 56)]), none⟩, ⟨(some 54), (.mv (.t 57)), none⟩, ⟨(some 58), (.ext (.t 54) 0), none⟩, ⟨(some 59), (.ext (.t 54) 1), none⟩, ⟨(some 9), (.box (.c (.agg [(.v (.int .i64 0)), (.v (.int .i64 0)), (.v (.int .i64 0)), (.v (.int .i64 0))]))), none⟩, ⟨none, (.st (.t 9) (.t 58) 4), none⟩, ⟨(some 10), (.mv (.t 59)), none⟩]) 
  (.seq (.reg [] [⟨(some 61), (.ld (.t 2) (some 4)), none⟩, ⟨(some 62), (.bld [(.v (.int .i64 0)), (.v (.int .i64 0)), (.v (.int .i64 0)), (.v (.int .i64 0))] []), none⟩, ⟨(some 63), (.call (.c (.f 15 [])) [(.t 61), (.t 62)]), none⟩, ⟨(some 60), (.mv (.t 63)), none⟩, ⟨(some 64), (.ext (.t 60) 0), none⟩, ⟨(some 65), (.ext (.t 60) 1), none⟩, ⟨(some 11), (.box (.c (.agg [(.v (.int .i64 0)), (.v (.int .i64 0)), (.v (.int .i64 0)), (.v (.int .i64 0))]))), none⟩, ⟨none, (.st (.t 11) (.t 64) 4), none⟩, ⟨(some 12), (.mv (.t 65)), none⟩]) 
  (.seq 
  (.seq (.reg [] [⟨(some 66), (.mv (.t 10)), none⟩, ⟨(some 67), (.bin .neq (.t 66) (.c (.v (.int .i64 0)))), none⟩, ⟨(some 68), (.mv (.t 67)), none⟩, ⟨(some 69), (.mv (.t 12)), (some (68, false))⟩, ⟨(some 70), (.bin .neq (.t 69) (.c (.v (.int .i64 0)))), (some (68, false))⟩, ⟨(some 71), (.pick (.t 68) (.c (.v (.bool true))) (.t 70)), none⟩, ⟨(some 72), (.mv (.t 71)), none⟩, ⟨(some 73), (.ld (.t 9) (some 4)), (some (72, false))⟩, ⟨(some 74), (.ld (.t 2) (some 4)), (some (72, false))⟩, ⟨(some 75), (.eqv true true [.i, .i, .i, .i] (.t 73) (.t 74)), (some (72, false))⟩, ⟨(some 76), (.pick (.t 72) (.c (.v (.bool true))) (.t 75)), none⟩, ⟨(some 77), (.mv (.t 76)), none⟩, ⟨(some 78), (.ld (.t 11) (some 4)), (some (77, false))⟩, ⟨(some 79), (.bld [(.v (.int .i64 0)), (.v (.int .i64 0)), (.v (.int .i64 0)), (.v (.int .i64 0))] []), (some (77, false))⟩, ⟨(some 80), (.eqv true true [.i, .i, .i, .i] (.t 78) (.t 79)), (some (77, false))⟩, ⟨(some 81), (.pick (.t 77) (.c (.v (.bool true))) (.t 80)), none⟩, ⟨(some 82), (.mv (.t 81)), none⟩, ⟨(some 83), (.mv (.t 8)), (some (82, false))⟩, ⟨(some 84), (.bin .neq (.t 83) (.c (.v (.int .i64 0)))), (some (82, false))⟩, ⟨(some 85), (.pick (.t 82) (.c (.v (.bool true))) (.t 84)), none⟩, ⟨(some 86), (.mv (.t 85)), none⟩, ⟨(some 87), (.mv (.t 7)), (some (86, false))⟩, ⟨(some 88), (.ld (.t 2) (some 4)), (some (86, false))⟩, ⟨(some 89), (.call (.c (.f 17 [])) [(.t 88)]), (some (86, false))⟩, ⟨(some 90), (.bin .neq (.t 87) (.t 89)), (some (86, false))⟩, ⟨(some 91), (.pick (.t 86) (.c (.v (.bool true))) (.t 90)), none⟩, ⟨(some 92), (.mv (.t 91)), none⟩, ⟨(some 93), (.mv (.t 7)), (some (92, false))⟩, ⟨(some 94), (.bin .lss (.t 93) (.c (.v (.int .i64 0)))), (some (92, false))⟩, ⟨(some 95), (.pick (.t 92) (.c (.v (.bool true))) (.t 94)), none⟩, ⟨(some 96), (.mv (.t 95)), none⟩, ⟨(some 97), (.mv (.t 7)), (some (96, false))⟩, ⟨(some 98), (.bin .gtr (.t 97) (.c (.v (.int .i64 255)))), (some (96, false))⟩, ⟨(some 99), (.pick (.t 96) (.c (.v (.bool true))) (.t 98)), none⟩]) (.cond (.t 99) 
  (.seq (.reg [] [⟨(some 4), (.mv (.c (.v (.bool false)))), none⟩]) .ret) .skip)) 
  (.seq (.reg [⟨(some 100), (.mv (.t 6)), none⟩, ⟨(some 101), (.bin .eql (.t 100) (.c (.v (.int .i64 0)))), none⟩, ⟨(some 102), (.mv (.t 101)), none⟩, ⟨(some 103), (.ld (.t 5) (some 4)), (some (102, true))⟩, ⟨(some 104), (.ld (.t 2) (some 4)), (some (102, true))⟩, ⟨(some 105), (.ld (.t 3) (some 4)), (some (102, true))⟩, ⟨(some 106), (.call (.c (.f 18 [])) [(.t 104), (.t 105)]), (some (102, true))⟩, ⟨(some 107), (.eqv false true [.i, .i, .i, .i] (.t 103) (.t 106)), (some (102, true))⟩, ⟨(some 108), (.pick (.t 102) (.t 107) (.c (.v (.bool false)))), none⟩, ⟨(some 109), (.mv (.t 108)), none⟩, ⟨(some 110), (.fa (.t 5) 0), (some (109, true))⟩, ⟨(some 111), (.ld (.t 110) none), (some (109, true))⟩, ⟨(some 112), (.fa (.t 2) 0), (some (109, true))⟩, ⟨(some 113), (.ld (.t 112) none), (some (109, true))⟩, ⟨(some 114), (.fa (.t 3) 0), (some (109, true))⟩, ⟨(some 115), (.ld (.t 114) none), (some (109, true))⟩, ⟨(some 116), (.call (.c (.f 19 [])) [(.t 113), (.t 115)]), (some (109, true))⟩, ⟨(some 117), (.bin .leq (.t 111) (.t 116)), (some (109, true))⟩, ⟨(some 118), (.pick (.t 109) (.t 117) (.c (.v (.bool false)))), none⟩, ⟨(some 119), (.mv (.t 118)), none⟩, ⟨(some 120), (.fa (.t 5) 1), (some (119, true))⟩, ⟨(some 121), (.ld (.t 120) none), (some (119, true))⟩, ⟨(some 122), (.fa (.t 2) 1), (some (119, true))⟩, ⟨(some 123), (.ld (.t 122) none), (some (119, true))⟩, ⟨(some 124), (.fa (.t 3) 1), (some (119, true))⟩, ⟨(some 125), (.ld (.t 124) none), (some (119, true))⟩, ⟨(some 126), (.call (.c (.f 19 [])) [(.t 123), (.t 125)]), (some (119, true))⟩, ⟨(some 127), (.bin .leq (.t 121) (.t 126)), (some (119, true))⟩, ⟨(some 128), (.pick (.t 119) (.t 127) (.c (.v (.bool false)))), none⟩, ⟨(some 129), (.mv (.t 128)), none⟩, ⟨(some 130), (.fa (.t 5) 2), (some (129, true))⟩, ⟨(some 131), (.ld (.t 130) none), (some (129, true))⟩, ⟨(some 132), (.fa (.t 2) 2), (some (129, true))⟩, ⟨(some 133), (.ld (.t 132) none), (some (129, true))⟩, ⟨(some 134), (.fa (.t 3) 2), (some (129, true))⟩, ⟨(some 135), (.ld (.t 134) none), (some (129, true))⟩, ⟨(some 136), (.call (.c (.f 19 [])) [(.t 133), (.t 135)]), (some (129, true))⟩, ⟨(some 137), (.bin .leq (.t 131) (.t 136)), (some (129, true))⟩, ⟨(some 138), (.pick (.t 129) (.t 137) (.c (.v (.bool false)))), none⟩, ⟨(some 139), (.mv (.t 138)), none⟩, ⟨(some 140), (.fa (.t 5) 3), (some (139, true))⟩, ⟨(some 141), (.ld (.t 140) none), (some (139, true))⟩, ⟨(some 142), (.fa (.t 2) 3), (some (139, true))⟩, ⟨(some 143), (.ld (.t 142) none), (some (139, true))⟩, ⟨(some 144), (.fa (.t 3) 3), (some (139, true))⟩, ⟨(some 145), (.ld (.t 144) none), (some (139, true))⟩, ⟨(some 146), (.call (.c (.f 19 [])) [(.t 143), (.t 145)]), (some (139, true))⟩, ⟨(some 147), (.bin .leq (.t 141) (.t 146)), (some (139, true))⟩, ⟨(some 148), (.pick (.t 139) (.t 147) (.c (.v (.bool false)))), none⟩, ⟨(some 149), (.mv (.t 148)), none⟩, ⟨(some 150), (.call (.c (.f 9 [])) []), (some (149, true))⟩, ⟨(some 151), (.pick (.t 149) (.t 150) (.c (.v (.bool false)))), none⟩] [⟨(some 4), (.mv (.t 151)), none⟩]) .ret)))))))), [(.t 4)]⟩

def c6 : MF := ⟨1, 16, 
  (.seq (.reg [] [⟨(some 1), (.box (.t 0)), none⟩, ⟨(some 2), (.box (.c (.agg [(.v (.int .i64 0)), (.v (.int .i64 0)), (.v (.int .i64 0)), (.v (.int .i64 0))]))), none⟩]) 
  (.seq (.reg [] [⟨(some 4), (.ixa (.t 1) (.c (.v (.int .i64 0))) 6 1), none⟩, ⟨(some 5), (.ld (.t 4) none), none⟩, ⟨(some 6), (.ixa (.t 1) (.c (.v (.int .i64 1))) 6 1), none⟩, ⟨(some 7), (.ld (.t 6) none), none⟩, ⟨(some 8), (.ixa (.t 1) (.c (.v (.int .i64 2))) 6 1), none⟩, ⟨(some 9), (.ld (.t 8) none), none⟩, ⟨(some 10), (.ixa (.t 1) (.c (.v (.int .i64 3))) 6 1), none⟩, ⟨(some 11), (.ld (.t 10) none), none⟩, ⟨(some 12), (.bld [(.v (.int .i64 0)), (.v (.int .i64 0)), (.v (.int .i64 0)), (.v (.int .i64 0))] [(0, (1, (.t 5))), (1, (1, (.t 7))), (2, (1, (.t 9))), (3, (1, (.t 11)))]), none⟩, ⟨(some 3), (.box (.c (.agg [(.v (.int .i64 0)), (.v (.int .i64 0)), (.v (.int .i64 0)), (.v (.int .i64 0))]))), none⟩, ⟨none, (.st (.t 3) (.t 12) 4), none⟩]) 
  (.seq (.reg [] [⟨(some 13), (.ld (.t 3) (some 4)), none⟩, ⟨(some 14), (.ld (.t 3) (some 4)), none⟩, ⟨(some 15), (.call (.c (.f 20 [])) [(.t 13), (.t 14), (.c (.f 21 []))]), none⟩, ⟨none, (.st (.t 2) (.t 15) 4), none⟩]) .ret))), [(.cell 2 (some 4))]⟩

def c7 : MF := ⟨1, 16, 
  (.seq (.reg [] [⟨(some 1), (.box (.t 0)), none⟩, ⟨(some 2), (.box (.c (.agg [(.v (.int .i64 0)), (.v (.int .i64 0)), (.v (.int .i64 0)), (.v (.int .i64 0))]))), none⟩]) 
  (.seq (.reg [⟨(some 3), (.ixa (.t 1) (.c (.v (.int .i64 0))) 6 1), none⟩, ⟨(some 4), (.ld (.t 3) none), none⟩, ⟨(some 5), (.call (.c (.f 23 [])) [(.t 4), (.c (.v (.int .i64 0))), (.c (.v (.int .i64 255)))]), none⟩, ⟨(some 6), (.ixa (.t 1) (.c (.v (.int .i64 1))) 6 1), none⟩, ⟨(some 7), (.ld (.t 6) none), none⟩, ⟨(some 8), (.call (.c (.f 23 [])) [(.t 7), (.c (.v (.int .i64 0))), (.c (.v (.int .i64 255)))]), none⟩, ⟨(some 9), (.ixa (.t 1) (.c (.v (.int .i64 2))) 6 1), none⟩, ⟨(some 10), (.ld (.t 9) none), none⟩, ⟨(some 11), (.call (.c (.f 23 [])) [(.t 10), (.c (.v (.int .i64 0))), (.c (.v (.int .i64 255)))]), none⟩, ⟨(some 12), (.ixa (.t 1) (.c (.v (.int .i64 3))) 6 1), none⟩, ⟨(some 13), (.ld (.t 12) none), none⟩, ⟨(some 14), (.call (.c (.f 23 [])) [(.t 13), (.c (.v (.int .i64 0))), (.c (.v (.int .i64 255)))]), none⟩, ⟨(some 15), (.bld [(.v (.int .i64 0)), (.v (.int .i64 0)), (.v (.int .i64 0)), (.v (.int .i64 0))] [(0, (1, (.t 5))), (1, (1, (.t 8))), (2, (1, (.t 11))), (3, (1, (.t 14)))]), none⟩] [⟨none, (.st (.t 2) (.t 15) 4), none⟩]) .ret)), [(.cell 2 (some 4))]⟩

def c8 : MF := ⟨1, 8, 
  (.seq (.reg [] [⟨(some 1), (.box (.t 0)), none⟩, ⟨(some 2), (.mv (.c (.v (.bool false)))), none⟩]) 
  (.seq (.reg [⟨(some 3), (.ld (.t 1) (some 4)), none⟩, ⟨(some 4), (.ld (.t 1) (some 4)), none⟩, ⟨(some 5), (.ld (.t 1) (some 4)), none⟩, ⟨(some 6), (.call (.c (.f 20 [])) [(.t 4), (.t 5), (.c (.f 24 []))]), none⟩, ⟨(some 7), (.eqv false true [.i, .i, .i, .i] (.t 3) (.t 6)), none⟩] [⟨(some 2), (.mv (.t 7)), none⟩]) .ret)), [(.t 2)]⟩

def c9 : MF := ⟨0, 31, 
  (.seq (.reg [] [⟨(some 0), (.mv (.c (.v (.bool false)))), none⟩]) 
  (.seq (.reg [] [⟨(some 6), (.bld [(.v (.int .i64 0)), (.v (.int .i64 0)), (.v (.int .i64 0)), (.v (.int .i64 0))] [(0, (1, (.c (.v (.int .i64 1))))), (1, (1, (.c (.v (.int .i64 2))))), (2, (1, (.c (.v (.int .i64 3))))), (3, (1, (.c (.v (.int .i64 4)))))]), none⟩, ⟨(some 7), (.call (.c (.f 10 [])) [(.t 6)]), none⟩, ⟨(some 5), (.mv (.t 7)), none⟩, ⟨(some 8), (.ext (.t 5) 0), none⟩, ⟨(some 9), (.ext (.t 5) 1), none⟩, ⟨(some 1), (.mv (.t 8)), none⟩, ⟨(some 2), (.mv (.t 9)), none⟩]) 
  (.seq (.reg [] [⟨(some 11), (.bld [(.v (.int .i64 0)), (.v (.int .i64 0)), (.v (.int .i64 0)), (.v (.int .i64 0))] [(0, (1, (.c (.v (.int .i64 255))))), (1, (1, (.c (.v (.int .i64 128)))))]), none⟩, ⟨(some 12), (.bld [(.v (.int .i64 0)), (.v (.int .i64 0)), (.v (.int .i64 0)), (.v (.int .i64 0))] [(0, (1, (.c (.v (.int .i64 7))))), (1, (1, (.c (.v (.int .i64 128))))), (2, (1, (.c (.v (.int .i64 255)))))]), none⟩, ⟨(some 13), (.call (.c (.f 15 [])) [(.t 11), (.t 12)]), none⟩, ⟨(some 10), (.mv (.t 13)), none⟩, ⟨(some 14), (.ext (.t 10) 0), none⟩, ⟨(some 15), (.ext (.t 10) 1), none⟩, ⟨(some 3), (.box (.c (.agg [(.v (.int .i64 0)), (.v (.int .i64 0)), (.v (.int .i64 0)), (.v (.int .i64 0))]))), none⟩, ⟨none, (.st (.t 3) (.t 14) 4), none⟩, ⟨(some 4), (.mv (.t 15)), none⟩]) 
  (.seq (.reg [] [⟨(some 16), (.mv (.t 1)), none⟩, ⟨(some 17), (.bin .eql (.t 16) (.c (.v (.int .i64 16909060)))), none⟩, ⟨(some 18), (.mv (.t 17)), none⟩, ⟨(some 19), (.mv (.t 2)), (some (18, true))⟩, ⟨(some 20), (.bin .eql (.t 19) (.c (.v (.int .i64 0)))), (some (18, true))⟩, ⟨(some 21), (.pick (.t 18) (.t 20) (.c (.v (.bool false)))), none⟩, ⟨(some 22), (.mv (.t 21)), none⟩, ⟨(some 23), (.mv (.t 4)), (some (22, true))⟩, ⟨(some 24), (.bin .eql (.t 23) (.c (.v (.int .i64 0)))), (some (22, true))⟩, ⟨(some 25), (.pick (.t 22) (.t 24) (.c (.v (.bool false)))), none⟩, ⟨(some 26), (.mv (.t 25)), none⟩, ⟨(some 27), (.ld (.t 3) (some 4)), (some (26, true))⟩, ⟨(some 28), (.bld [(.v (.int .i64 0)), (.v (.int .i64 0)), (.v (.int .i64 0)), (.v (.int .i64 0))] [(0, (1, (.c (.v (.int .i64 7))))), (1, (1, (.c (.v (.int .i64 64)))))]), (some (26, true))⟩, ⟨(some 29), (.eqv false true [.i, .i, .i, .i] (.t 27) (.t 28)), (some (26, true))⟩, ⟨(some 30), (.pick (.t 26) (.t 29) (.c (.v (.bool false)))), none⟩, ⟨(some 0), (.mv (.t 30)), none⟩]) .ret)))), [(.t 0)]⟩

def c10 : MF := ⟨1, 21, 
  (.seq (.reg [] [⟨(some 1), (.box (.t 0)), none⟩, ⟨(some 2), (.mv (.c (.v (.int .i64 0)))), none⟩, ⟨(some 3), (.mv (.c (.v (.int .i64 0)))), none⟩]) 
  (.seq 
  (.seq (.reg [] [⟨(some 4), (.ld (.t 1) (some 4)), none⟩, ⟨(some 5), (.call (.c (.f 8 [])) [(.t 4)]), none⟩, ⟨(some 6), (.un .not (.t 5)), none⟩]) (.cond (.t 6) 
  (.seq (.reg [] [⟨(some 2), (.mv (.c (.v (.int .i64 0)))), none⟩, ⟨(some 3), (.mv (.c (.v (.int .i64 3)))), none⟩]) .ret) .skip)) 
  (.seq (.reg [] [⟨(some 7), (.fa (.t 1) 0), none⟩, ⟨(some 8), (.ld (.t 7) none), none⟩, ⟨(some 9), (.bin .shl (.t 8) (.c (.v (.int .u64 24)))), none⟩, ⟨(some 10), (.fa (.t 1) 1), none⟩, ⟨(some 11), (.ld (.t 10) none), none⟩, ⟨(some 12), (.bin .shl (.t 11) (.c (.v (.int .u64 16)))), none⟩, ⟨(some 13), (.bin .or (.t 9) (.t 12)), none⟩, ⟨(some 14), (.fa (.t 1) 2), none⟩, ⟨(some 15), (.ld (.t 14) none), none⟩, ⟨(some 16), (.bin .shl (.t 15) (.c (.v (.int .u64 8)))), none⟩, ⟨(some 17), (.bin .or (.t 13) (.t 16)), none⟩, ⟨(some 18), (.fa (.t 1) 3), none⟩, ⟨(some 19), (.ld (.t 18) none), none⟩, ⟨(some 20), (.bin .or (.t 17) (.t 19)), none⟩, ⟨(some 2), (.mv (.t 20)), none⟩, ⟨(some 3), (.mv (.c (.v (.int .i64 0)))), none⟩]) .ret))), [(.t 2), (.t 3)]⟩

def c11 : MF := ⟨1, 22, 
  (.seq (.reg [] [⟨(some 2), (.box (.c (.agg [(.v (.int .i64 0)), (.v (.int .i64 0)), (.v (.int .i64 0)), (.v (.int .i64 0))]))), none⟩, ⟨(some 3), (.mv (.c (.v (.int .i64 0)))), none⟩]) 
  (.seq 
  (.seq (.reg [] [⟨(some 4), (.mv (.t 0)), none⟩, ⟨(some 5), (.bin .lss (.t 4) (.c (.v (.int .i64 0)))), none⟩, ⟨(some 6), (.mv (.t 5)), none⟩, ⟨(some 7), (.mv (.t 0)), (some (6, false))⟩, ⟨(some 8), (.bin .geq (.t 7) (.c (.v (.int .i64 4294967296)))), (some (6, false))⟩, ⟨(some 9), (.pick (.t 6) (.c (.v (.bool true))) (.t 8)), none⟩]) (.cond (.t 9) 
  (.seq (.reg [] [⟨(some 10), (.bld [(.v (.int .i64 0)), (.v (.int .i64 0)), (.v (.int .i64 0)), (.v (.int .i64 0))] []), none⟩, ⟨none, (.st (.t 2) (.t 10) 4), none⟩, ⟨(some 3), (.mv (.c (.v (.int .i64 3)))), none⟩]) .ret) .skip)) 
  (.seq (.reg [] [⟨(some 11), (.mv (.t 0)), none⟩, ⟨(some 12), (.bin .shr (.t 11) (.c (.v (.int .u64 24)))), none⟩, ⟨(some 13), (.mv (.t 0)), none⟩, ⟨(some 14), (.bin .shr (.t 13) (.c (.v (.int .u64 16)))), none⟩, ⟨(some 15), (.bin .and (.t 14) (.c (.v (.int .i64 255)))), none⟩, ⟨(some 16), (.mv (.t 0)), none⟩, ⟨(some 17), (.bin .shr (.t 16) (.c (.v (.int .u64 8)))), none⟩, ⟨(some 18), (.bin .and (.t 17) (.c (.v (.int .i64 255)))), none⟩, ⟨(some 19), (.mv (.t 0)), none⟩, ⟨(some 20), (.bin .and (.t 19) (.c (.v (.int .i64 255)))), none⟩, ⟨(some 21), (.bld [(.v (.int .i64 0)), (.v (.int .i64 0)), (.v (.int .i64 0)), (.v (.int .i64 0))] [(0, (1, (.t 12))), (1, (1, (.t 15))), (2, (1, (.t 18))), (3, (1, (.t 20)))]), none⟩, ⟨none, (.st (.t 2) (.t 21) 4), none⟩, ⟨(some 3), (.mv (.c (.v (.int .i64 0)))), none⟩]) .ret))), [(.cell 2 (some 4)), (.t 3)]⟩

def c12 : MF := ⟨1, 22, 
  (.seq (.reg [] [⟨(some 2), (.box (.c (.agg [(.v (.int .i64 0)), (.v (.int .i64 0)), (.v (.int .i64 0)), (.v (.int .i64 0))]))), none⟩, ⟨(some 3), (.mv (.c (.v (.bool false)))), none⟩]) 
  (.seq 
  (.seq (.reg [] [⟨(some 4), (.mv (.t 0)), none⟩, ⟨(some 5), (.bin .lss (.t 4) (.c (.v (.int .i64 0)))), none⟩, ⟨(some 6), (.mv (.t 5)), none⟩, ⟨(some 7), (.mv (.t 0)), (some (6, false))⟩, ⟨(some 8), (.bin .gtr (.t 7) (.c (.v (.int .i64 4294967295)))), (some (6, false))⟩, ⟨(some 9), (.pick (.t 6) (.c (.v (.bool true))) (.t 8)), none⟩]) (.cond (.t 9) 
  (.seq (.reg [] [⟨(some 10), (.bld [(.v (.int .i64 0)), (.v (.int .i64 0)), (.v (.int .i64 0)), (.v (.int .i64 0))] []), none⟩, ⟨none, (.st (.t 2) (.t 10) 4), none⟩, ⟨(some 3), (.mv (.c (.v (.bool false)))), none⟩]) .ret) .skip)) 
  (.seq (.reg [] [⟨(some 11), (.mv (.t 0)), none⟩, ⟨(some 12), (.bin .quo (.t 11) (.c (.v (.int .i64 16777216)))), none⟩, ⟨(some 13), (.mv (.t 0)), none⟩, ⟨(some 14), (.bin .quo (.t 13) (.c (.v (.int .i64 65536)))), none⟩, ⟨(some 15), (.bin .rem (.t 14) (.c (.v (.int .i64 256)))), none⟩, ⟨(some 16), (.mv (.t 0)), none⟩, ⟨(some 17), (.bin .quo (.t 16) (.c (.v (.int .i64 256)))), none⟩, ⟨(some 18), (.bin .rem (.t 17) (.c (.v (.int .i64 256)))), none⟩, ⟨(some 19), (.mv (.t 0)), none⟩, ⟨(some 20), (.bin .rem (.t 19) (.c (.v (.int .i64 256)))), none⟩, ⟨(some 21), (.bld [(.v (.int .i64 0)), (.v (.int .i64 0)), (.v (.int .i64 0)), (.v (.int .i64 0))] [(0, (1, (.t 12))), (1, (1, (.t 15))), (2, (1, (.t 18))), (3, (1, (.t 20)))]), none⟩, ⟨none, (.st (.t 2) (.t 21) 4), none⟩, ⟨(some 3), (.mv (.c (.v (.bool true)))), none⟩]) .ret))), [(.cell 2 (some 4)), (.t 3)]⟩

def c13 : MF := ⟨1, 21, 
  (.seq (.reg [] [⟨(some 1), (.box (.t 0)), none⟩, ⟨(some 2), (.mv (.c (.v (.bool false)))), none⟩]) 
  (.seq (.reg [] [⟨(some 3), (.fa (.t 1) 0), none⟩, ⟨(some 4), (.ld (.t 3) none), none⟩, ⟨(some 5), (.call (.c (.f 25 [])) [(.t 4)]), none⟩, ⟨(some 6), (.mv (.t 5)), none⟩, ⟨(some 7), (.fa (.t 1) 1), (some (6, true))⟩, ⟨(some 8), (.ld (.t 7) none), (some (6, true))⟩, ⟨(some 9), (.call (.c (.f 25 [])) [(.t 8)]), (some (6, true))⟩, ⟨(some 10), (.pick (.t 6) (.t 9) (.c (.v (.bool false)))), none⟩, ⟨(some 11), (.mv (.t 10)), none⟩, ⟨(some 12), (.fa (.t 1) 2), (some (11, true))⟩, ⟨(some 13), (.ld (.t 12) none), (some (11, true))⟩, ⟨(some 14), (.call (.c (.f 25 [])) [(.t 13)]), (some (11, true))⟩, ⟨(some 15), (.pick (.t 11) (.t 14) (.c (.v (.bool false)))), none⟩, ⟨(some 16), (.mv (.t 15)), none⟩, ⟨(some 17), (.fa (.t 1) 3), (some (16, true))⟩, ⟨(some 18), (.ld (.t 17) none), (some (16, true))⟩, ⟨(some 19), (.call (.c (.f 25 [])) [(.t 18)]), (some (16, true))⟩, ⟨(some 20), (.pick (.t 16) (.t 19) (.c (.v (.bool false)))), none⟩, ⟨(some 2), (.mv (.t 20)), none⟩]) .ret)), [(.t 2)]⟩

def c14 : MF := ⟨1, 17, 
  (.seq (.reg [] [⟨(some 1), (.box (.t 0)), none⟩, ⟨(some 2), (.mv (.c (.v (.int .i64 0)))), none⟩]) 
  (.seq (.reg [] [⟨(some 3), (.fa (.t 1) 0), none⟩, ⟨(some 4), (.ld (.t 3) none), none⟩, ⟨(some 5), (.bin .mul (.t 4) (.c (.v (.int .i64 256)))), none⟩, ⟨(some 6), (.fa (.t 1) 1), none⟩, ⟨(some 7), (.ld (.t 6) none), none⟩, ⟨(some 8), (.bin .add (.t 5) (.t 7)), none⟩, ⟨(some 9), (.bin .mul (.t 8) (.c (.v (.int .i64 256)))), none⟩, ⟨(some 10), (.fa (.t 1) 2), none⟩, ⟨(some 11), (.ld (.t 10) none), none⟩, ⟨(some 12), (.bin .add (.t 9) (.t 11)), none⟩, ⟨(some 13), (.bin .mul (.t 12) (.c (.v (.int .i64 256)))), none⟩, ⟨(some 14), (.fa (.t 1) 3), none⟩, ⟨(some 15), (.ld (.t 14) none), none⟩, ⟨(some 16), (.bin .add (.t 13) (.t 15)), none⟩, ⟨(some 2), (.mv (.t 16)), none⟩]) .ret)), [(.t 2)]⟩

def c15 : MF := ⟨2, 18, 
  (.seq (.reg [] [⟨(some 2), (.box (.t 0)), none⟩, ⟨(some 3), (.box (.t 1)), none⟩, ⟨(some 4), (.box (.c (.agg [(.v (.int .i64 0)), (.v (.int .i64 0)), (.v (.int .i64 0)), (.v (.int .i64 0))]))), none⟩, ⟨(some 5), (.mv (.c (.v (.int .i64 0)))), none⟩]) 
  (.seq 
  (.seq (.reg [] [⟨(some 6), (.ld (.t 2) (some 4)), none⟩, ⟨(some 7), (.call (.c (.f 8 [])) [(.t 6)]), none⟩, ⟨(some 8), (.un .not (.t 7)), none⟩, ⟨(some 9), (.mv (.t 8)), none⟩, ⟨(some 10), (.ld (.t 3) (some 4)), (some (9, false))⟩, ⟨(some 11), (.call (.c (.f 8 [])) [(.t 10)]), (some (9, false))⟩, ⟨(some 12), (.un .not (.t 11)), (some (9, false))⟩, ⟨(some 13), (.pick (.t 9) (.c (.v (.bool true))) (.t 12)), none⟩]) (.cond (.t 13) 
  (.seq (.reg [] [⟨(some 14), (.bld [(.v (.int .i64 0)), (.v (.int .i64 0)), (.v (.int .i64 0)), (.v (.int .i64 0))] []), none⟩, ⟨none, (.st (.t 4) (.t 14) 4), none⟩, ⟨(some 5), (.mv (.c (.v (.int .i64 3)))), none⟩]) .ret) .skip)) 
  (.seq (.reg [] [⟨(some 15), (.ld (.t 2) (some 4)), none⟩, ⟨(some 16), (.ld (.t 3) (some 4)), none⟩, ⟨(some 17), (.call (.c (.f 20 [])) [(.t 15), (.t 16), (.c (.f 26 []))]), none⟩, ⟨none, (.st (.t 4) (.t 17) 4), none⟩, ⟨(some 5), (.mv (.c (.v (.int .i64 0)))), none⟩]) .ret))), [(.cell 4 (some 4)), (.t 5)]⟩

def c16 : MF := ⟨1, 20, 
  (.seq (.reg [] [⟨(some 1), (.box (.t 0)), none⟩, ⟨(some 2), (.mv (.c (.v (.int .i64 0)))), none⟩, ⟨(some 3), (.mv (.c (.v (.int .i64 0)))), none⟩]) 
  (.seq 
  (.seq (.reg [] [⟨(some 4), (.ld (.t 1) (some 4)), none⟩, ⟨(some 5), (.call (.c (.f 8 [])) [(.t 4)]), none⟩, ⟨(some 6), (.un .not (.t 5)), none⟩]) (.cond (.t 6) 
  (.seq (.reg [] [⟨(some 2), (.mv (.c (.v (.int .i64 0)))), none⟩, ⟨(some 3), (.mv (.c (.v (.int .i64 3)))), none⟩]) .ret) .skip)) 
  (.seq (.reg [] [⟨(some 7), (.fa (.t 1) 0), none⟩, ⟨(some 8), (.ld (.t 7) none), none⟩, ⟨(some 9), (.bin .mul (.c (.v (.int .i64 77))) (.t 8)), none⟩, ⟨(some 10), (.fa (.t 1) 1), none⟩, ⟨(some 11), (.ld (.t 10) none), none⟩, ⟨(some 12), (.bin .mul (.c (.v (.int .i64 150))) (.t 11)), none⟩, ⟨(some 13), (.bin .add (.t 9) (.t 12)), none⟩, ⟨(some 14), (.fa (.t 1) 2), none⟩, ⟨(some 15), (.ld (.t 14) none), none⟩, ⟨(some 16), (.bin .mul (.c (.v (.int .i64 29))) (.t 15)), none⟩, ⟨(some 17), (.bin .add (.t 13) (.t 16)), none⟩, ⟨(some 18), (.bin .add (.t 17) (.c (.v (.int .i64 128)))), none⟩, ⟨(some 19), (.bin .quo (.t 18) (.c (.v (.int .i64 256)))), none⟩, ⟨(some 2), (.mv (.t 19)), none⟩, ⟨(some 3), (.mv (.c (.v (.int .i64 0)))), none⟩]) .ret))), [(.t 2), (.t 3)]⟩

def c17 : MF := ⟨1, 16, 
  (.seq (.reg [] [⟨(some 1), (.box (.t 0)), none⟩, ⟨(some 2), (.mv (.c (.v (.int .i64 0)))), none⟩]) 
  (.seq (.reg [] [⟨(some 3), (.fa (.t 1) 0), none⟩, ⟨(some 4), (.ld (.t 3) none), none⟩, ⟨(some 5), (.bin .mul (.c (.v (.int .i64 77))) (.t 4)), none⟩, ⟨(some 6), (.fa (.t 1) 1), none⟩, ⟨(some 7), (.ld (.t 6) none), none⟩, ⟨(some 8), (.bin .mul (.c (.v (.int .i64 150))) (.t 7)), none⟩, ⟨(some 9), (.bin .add (.t 5) (.t 8)), none⟩, ⟨(some 10), (.fa (.t 1) 2), none⟩, ⟨(some 11), (.ld (.t 10) none), none⟩, ⟨(some 12), (.bin .mul (.c (.v (.int .i64 29))) (.t 11)), none⟩, ⟨(some 13), (.bin .add (.t 9) (.t 12)), none⟩, ⟨(some 14), (.bin .add (.t 13) (.c (.v (.int .i64 128)))), none⟩, ⟨(some 15), (.bin .quo (.t 14) (.c (.v (.int .i64 256)))), none⟩, ⟨(some 2), (.mv (.t 15)), none⟩]) .ret)), [(.t 2)]⟩

def c18 : MF := ⟨2, 26, 
  (.seq (.reg [] [⟨(some 2), (.box (.t 0)), none⟩, ⟨(some 3), (.box (.t 1)), none⟩, ⟨(some 4), (.box (.c (.agg [(.v (.int .i64 0)), (.v (.int .i64 0)), (.v (.int .i64 0)), (.v (.int .i64 0))]))), none⟩]) 
  (.seq (.reg [⟨(some 5), (.fa (.t 2) 0), none⟩, ⟨(some 6), (.ld (.t 5) none), none⟩, ⟨(some 7), (.fa (.t 3) 0), none⟩, ⟨(some 8), (.ld (.t 7) none), none⟩, ⟨(some 9), (.call (.c (.f 27 [])) [(.t 6), (.t 8)]), none⟩, ⟨(some 10), (.fa (.t 2) 1), none⟩, ⟨(some 11), (.ld (.t 10) none), none⟩, ⟨(some 12), (.fa (.t 3) 1), none⟩, ⟨(some 13), (.ld (.t 12) none), none⟩, ⟨(some 14), (.call (.c (.f 27 [])) [(.t 11), (.t 13)]), none⟩, ⟨(some 15), (.fa (.t 2) 2), none⟩, ⟨(some 16), (.ld (.t 15) none), none⟩, ⟨(some 17), (.fa (.t 3) 2), none⟩, ⟨(some 18), (.ld (.t 17) none), none⟩, ⟨(some 19), (.call (.c (.f 27 [])) [(.t 16), (.t 18)]), none⟩, ⟨(some 20), (.fa (.t 2) 3), none⟩, ⟨(some 21), (.ld (.t 20) none), none⟩, ⟨(some 22), (.fa (.t 3) 3), none⟩, ⟨(some 23), (.ld (.t 22) none), none⟩, ⟨(some 24), (.call (.c (.f 27 [])) [(.t 21), (.t 23)]), none⟩, ⟨(some 25), (.bld [(.v (.int .i64 0)), (.v (.int .i64 0)), (.v (.int .i64 0)), (.v (.int .i64 0))] [(0, (1, (.t 9))), (1, (1, (.t 14))), (2, (1, (.t 19))), (3, (1, (.t 24)))]), none⟩] [⟨none, (.st (.t 4) (.t 25) 4), none⟩]) .ret)), [(.cell 4 (some 4))]⟩

def c19 : MF := ⟨2, 10, 
  (.seq (.reg [] [⟨(some 4), (.mv (.c (.v (.int .i64 0)))), none⟩]) 
  (.seq 
  (.seq (.reg [] [⟨(some 5), (.mv (.t 0)), none⟩, ⟨(some 6), (.mv (.t 1)), none⟩, ⟨(some 7), (.bin .lss (.t 5) (.t 6)), none⟩]) (.cond (.t 7) 
  (.seq (.reg [] [⟨(some 8), (.mv (.t 0)), none⟩, ⟨(some 4), (.mv (.t 8)), none⟩]) .ret) .skip)) 
  (.seq (.reg [] [⟨(some 9), (.mv (.t 1)), none⟩, ⟨(some 4), (.mv (.t 9)), none⟩]) .ret))), [(.t 4)]⟩

def c20 : MF := ⟨3, 32, 
  (.seq (.reg [] [⟨(some 3), (.box (.t 0)), none⟩, ⟨(some 4), (.box (.t 1)), none⟩, ⟨(some 6), (.box (.c (.agg [(.v (.int .i64 0)), (.v (.int .i64 0)), (.v (.int .i64 0)), (.v (.int .i64 0))]))), none⟩]) 
  (.seq (.reg [⟨(some 7), (.mv (.t 2)), none⟩, ⟨(some 8), (.fa (.t 3) 0), none⟩, ⟨(some 9), (.ld (.t 8) none), none⟩, ⟨(some 10), (.fa (.t 4) 0), none⟩, ⟨(some 11), (.ld (.t 10) none), none⟩, ⟨(some 12), (.call (.t 7) [(.t 9), (.t 11)]), none⟩, ⟨(some 13), (.mv (.t 2)), none⟩, ⟨(some 14), (.fa (.t 3) 1), none⟩, ⟨(some 15), (.ld (.t 14) none), none⟩, ⟨(some 16), (.fa (.t 4) 1), none⟩, ⟨(some 17), (.ld (.t 16) none), none⟩, ⟨(some 18), (.call (.t 13) [(.t 15), (.t 17)]), none⟩, ⟨(some 19), (.mv (.t 2)), none⟩, ⟨(some 20), (.fa (.t 3) 2), none⟩, ⟨(some 21), (.ld (.t 20) none), none⟩, ⟨(some 22), (.fa (.t 4) 2), none⟩, ⟨(some 23), (.ld (.t 22) none), none⟩, ⟨(some 24), (.call (.t 19) [(.t 21), (.t 23)]), none⟩, ⟨(some 25), (.mv (.t 2)), none⟩, ⟨(some 26), (.fa (.t 3) 3), none⟩, ⟨(some 27), (.ld (.t 26) none), none⟩, ⟨(some 28), (.fa (.t 4) 3), none⟩, ⟨(some 29), (.ld (.t 28) none), none⟩, ⟨(some 30), (.call (.t 25) [(.t 27), (.t 29)]), none⟩, ⟨(some 31), (.bld [(.v (.int .i64 0)), (.v (.int .i64 0)), (.v (.int .i64 0)), (.v (.int .i64 0))] [(0, (1, (.t 12))), (1, (1, (.t 18))), (2, (1, (.t 24))), (3, (1, (.t 30)))]), none⟩] [⟨none, (.st (.t 6) (.t 31) 4), none⟩]) .ret)), [(.cell 6 (some 4))]⟩

def c21 : MF := ⟨2, 7, 
  (.seq (.reg [] [⟨(some 4), (.mv (.c (.v (.int .i64 0)))), none⟩]) 
  (.seq (.reg [] [⟨(some 5), (.mv (.t 0)), none⟩, ⟨(some 6), (.call (.c (.f 22 [])) [(.t 5), (.c (.v (.int .i64 0))), (.c (.v (.int .i64 255)))]), none⟩, ⟨(some 4), (.mv (.t 6)), none⟩]) .ret)), [(.t 4)]⟩

def c22 : MF := ⟨3, 18, 
  (.seq (.reg [] [⟨(some 6), (.mv (.c (.v (.int .i64 0)))), none⟩]) 
  (.seq (.block 0 
  (.seq (.reg [] [⟨(some 8), (.mv (.t 0)), none⟩, ⟨(some 9), (.mv (.t 1)), none⟩, ⟨(some 10), (.bin .lss (.t 8) (.t 9)), none⟩, ⟨(some 7), (.mv (.t 10)), none⟩]) (.cond (.t 7) 
  (.seq (.reg [] [⟨(some 11), (.mv (.t 1)), none⟩, ⟨(some 6), (.mv (.t 11)), none⟩]) .ret) 
  (.seq (.reg [] [⟨(some 13), (.mv (.t 0)), none⟩, ⟨(some 14), (.mv (.t 2)), none⟩, ⟨(some 15), (.bin .gtr (.t 13) (.t 14)), none⟩, ⟨(some 12), (.mv (.t 15)), none⟩]) (.cond (.t 12) 
  (.seq (.reg [] [⟨(some 16), (.mv (.t 2)), none⟩, ⟨(some 6), (.mv (.t 16)), none⟩]) .ret) .skip))))) 
  (.seq (.reg [] [⟨(some 17), (.mv (.t 0)), none⟩, ⟨(some 6), (.mv (.t 17)), none⟩]) .ret))), [(.t 6)]⟩

def c23 : MF := ⟨3, 16, 
  (.seq (.reg [] [⟨(some 6), (.mv (.c (.v (.int .i64 0)))), none⟩]) 
  (.seq 
  (.seq (.reg [] [⟨(some 7), (.mv (.t 0)), none⟩, ⟨(some 8), (.mv (.t 1)), none⟩, ⟨(some 9), (.bin .lss (.t 7) (.t 8)), none⟩]) (.cond (.t 9) 
  (.seq (.reg [] [⟨(some 10), (.mv (.t 1)), none⟩, ⟨(some 6), (.mv (.t 10)), none⟩]) .ret) .skip)) 
  (.seq 
  (.seq (.reg [] [⟨(some 11), (.mv (.t 0)), none⟩, ⟨(some 12), (.mv (.t 2)), none⟩, ⟨(some 13), (.bin .gtr (.t 11) (.t 12)), none⟩]) (.cond (.t 13) 
  (.seq (.reg [] [⟨(some 14), (.mv (.t 2)), none⟩, ⟨(some 6), (.mv (.t 14)), none⟩]) .ret) .skip)) 
  (.seq (.reg [] [⟨(some 15), (.mv (.t 0)), none⟩, ⟨(some 6), (.mv (.t 15)), none⟩]) .ret)))), [(.t 6)]⟩

def c24 : MF := ⟨2, 7, 
  (.seq (.reg [] [⟨(some 4), (.mv (.c (.v (.int .i64 0)))), none⟩]) 
  (.seq (.reg [] [⟨(some 5), (.mv (.t 0)), none⟩, ⟨(some 6), (.call (.c (.f 22 [])) [(.t 5), (.c (.v (.int .i64 0))), (.c (.v (.int .i64 255)))]), none⟩, ⟨(some 4), (.mv (.t 6)), none⟩]) .ret)), [(.t 4)]⟩

def c25 : MF := ⟨1, 9, 
  (.seq (.reg [] [⟨(some 2), (.mv (.c (.v (.bool false)))), none⟩]) 
  (.seq (.reg [] [⟨(some 3), (.mv (.t 0)), none⟩, ⟨(some 4), (.bin .geq (.t 3) (.c (.v (.int .i64 0)))), none⟩, ⟨(some 5), (.mv (.t 4)), none⟩, ⟨(some 6), (.mv (.t 0)), (some (5, true))⟩, ⟨(some 7), (.bin .leq (.t 6) (.c (.v (.int .i64 255)))), (some (5, true))⟩, ⟨(some 8), (.pick (.t 5) (.t 7) (.c (.v (.bool false)))), none⟩, ⟨(some 2), (.mv (.t 8)), none⟩]) .ret)), [(.t 2)]⟩

def c26 : MF := ⟨2, 10, 
  (.seq (.reg [] [⟨(some 4), (.mv (.c (.v (.int .i64 0)))), none⟩]) 
  (.seq (.reg [] [⟨(some 5), (.mv (.t 0)), none⟩, ⟨(some 6), (.mv (.t 1)), none⟩, ⟨(some 7), (.bin .mul (.t 5) (.t 6)), none⟩, ⟨(some 8), (.bin .add (.t 7) (.c (.v (.int .i64 127)))), none⟩, ⟨(some 9), (.bin .quo (.t 8) (.c (.v (.int .i64 255)))), none⟩, ⟨(some 4), (.mv (.t 9)), none⟩]) .ret)), [(.t 4)]⟩

def c27 : MF := ⟨2, 10, 
  (.seq (.reg [] [⟨(some 4), (.mv (.c (.v (.int .i64 0)))), none⟩]) 
  (.seq (.reg [] [⟨(some 5), (.mv (.t 0)), none⟩, ⟨(some 6), (.mv (.t 1)), none⟩, ⟨(some 7), (.bin .mul (.t 5) (.t 6)), none⟩, ⟨(some 8), (.bin .add (.t 7) (.c (.v (.int .i64 127)))), none⟩, ⟨(some 9), (.bin .quo (.t 8) (.c (.v (.int .i64 255)))), none⟩, ⟨(some 4), (.mv (.t 9)), none⟩]) .ret)), [(.t 4)]⟩

theorem ok3 : cF Try.prog 3 = some c3 := by kernel_rfl
theorem ok4 : cF Try.prog 4 = some c4 := by kernel_rfl
theorem ok5 : cF Try.prog 5 = some c5 := by kernel_rfl
theorem ok6 : cF Try.prog 6 = some c6 := by kernel_rfl
theorem ok7 : cF Try.prog 7 = some c7 := by kernel_rfl
theorem ok8 : cF Try.prog 8 = some c8 := by kernel_rfl
theorem ok9 : cF Try.prog 9 = some c9 := by kernel_rfl
theorem ok10 : cF Try.prog 10 = some c10 := by kernel_rfl
theorem ok11 : cF Try.prog 11 = some c11 := by kernel_rfl
theorem ok12 : cF Try.prog 12 = some c12 := by kernel_rfl
theorem ok13 : cF Try.prog 13 = some c13 := by kernel_rfl
theorem ok14 : cF Try.prog 14 = some c14 := by kernel_rfl
theorem ok15 : cF Try.prog 15 = some c15 := by kernel_rfl
theorem ok16 : cF Try.prog 16 = some c16 := by kernel_rfl
theorem ok17 : cF Try.prog 17 = some c17 := by kernel_rfl
theorem ok18 : cF Try.prog 18 = some c18 := by kernel_rfl
theorem ok19 : cF Try.prog 19 = some c19 := by kernel_rfl
theorem ok20 : cF Try.prog 20 = some c20 := by kernel_rfl
theorem ok21 : cF Try.prog 21 = some c21 := by kernel_rfl
theorem ok22 : cF Try.prog 22 = some c22 := by kernel_rfl
theorem ok23 : cF Try.prog 23 = some c23 := by kernel_rfl
theorem ok24 : cF Try.prog 24 = some c24 := by kernel_rfl
theorem ok25 : cF Try.prog 25 = some c25 := by kernel_rfl
theorem ok26 : cF Try.prog 26 = some c26 := by kernel_rfl
theorem ok27 : cF Try.prog 27 = some c27 := by kernel_rfl

def cmL : List (Nat × MF) := [(3, c3), (4, c4), (5, c5), (6, c6), (7, c7), (8, c8), (9, c9), (10, c10), (11, c11), (12, c12), (13, c13), (14, c14), (15, c15), (16, c16), (17, c17), (18, c18), (19, c19), (20, c20), (21, c21), (22, c22), (23, c23), (24, c24), (25, c25), (26, c26), (27, c27)]

def cm : FuncId → Option MF := look cmL

theorem hcm : ∀ g m, cm g = some m → cF Try.prog g = some m := look_ok ⟨ok3, ok4, ok5, ok6, ok7, ok8, ok9, ok10, ok11, ok12, ok13, ok14, ok15, ok16, ok17, ok18, ok19, ok20, ok21, ok22, ok23, ok24, ok25, ok26, ok27, trivial⟩

theorem cm3 (k : Nat) (args : List LV) (h : List Row) (lim : Nat) : evF cm (k + 1) 3 args h lim = runF (evF cm k) k lim c3 args h := rfl
theorem cm4 (k : Nat) (args : List LV) (h : List Row) (lim : Nat) : evF cm (k + 1) 4 args h lim = runF (evF cm k) k lim c4 args h := rfl
theorem cm5 (k : Nat) (args : List LV) (h : List Row) (lim : Nat) : evF cm (k + 1) 5 args h lim = runF (evF cm k) k lim c5 args h := rfl
theorem cm6 (k : Nat) (args : List LV) (h : List Row) (lim : Nat) : evF cm (k + 1) 6 args h lim = runF (evF cm k) k lim c6 args h := rfl
theorem cm7 (k : Nat) (args : List LV) (h : List Row) (lim : Nat) : evF cm (k + 1) 7 args h lim = runF (evF cm k) k lim c7 args h := rfl
theorem cm8 (k : Nat) (args : List LV) (h : List Row) (lim : Nat) : evF cm (k + 1) 8 args h lim = runF (evF cm k) k lim c8 args h := rfl
theorem cm9 (k : Nat) (args : List LV) (h : List Row) (lim : Nat) : evF cm (k + 1) 9 args h lim = runF (evF cm k) k lim c9 args h := rfl
theorem cm10 (k : Nat) (args : List LV) (h : List Row) (lim : Nat) : evF cm (k + 1) 10 args h lim = runF (evF cm k) k lim c10 args h := rfl
theorem cm11 (k : Nat) (args : List LV) (h : List Row) (lim : Nat) : evF cm (k + 1) 11 args h lim = runF (evF cm k) k lim c11 args h := rfl
theorem cm12 (k : Nat) (args : List LV) (h : List Row) (lim : Nat) : evF cm (k + 1) 12 args h lim = runF (evF cm k) k lim c12 args h := rfl
theorem cm13 (k : Nat) (args : List LV) (h : List Row) (lim : Nat) : evF cm (k + 1) 13 args h lim = runF (evF cm k) k lim c13 args h := rfl
theorem cm14 (k : Nat) (args : List LV) (h : List Row) (lim : Nat) : evF cm (k + 1) 14 args h lim = runF (evF cm k) k lim c14 args h := rfl
theorem cm15 (k : Nat) (args : List LV) (h : List Row) (lim : Nat) : evF cm (k + 1) 15 args h lim = runF (evF cm k) k lim c15 args h := rfl
theorem cm16 (k : Nat) (args : List LV) (h : List Row) (lim : Nat) : evF cm (k + 1) 16 args h lim = runF (evF cm k) k lim c16 args h := rfl
theorem cm17 (k : Nat) (args : List LV) (h : List Row) (lim : Nat) : evF cm (k + 1) 17 args h lim = runF (evF cm k) k lim c17 args h := rfl
theorem cm18 (k : Nat) (args : List LV) (h : List Row) (lim : Nat) : evF cm (k + 1) 18 args h lim = runF (evF cm k) k lim c18 args h := rfl
theorem cm19 (k : Nat) (args : List LV) (h : List Row) (lim : Nat) : evF cm (k + 1) 19 args h lim = runF (evF cm k) k lim c19 args h := rfl
theorem cm20 (k : Nat) (args : List LV) (h : List Row) (lim : Nat) : evF cm (k + 1) 20 args h lim = runF (evF cm k) k lim c20 args h := rfl
theorem cm21 (k : Nat) (args : List LV) (h : List Row) (lim : Nat) : evF cm (k + 1) 21 args h lim = runF (evF cm k) k lim c21 args h := rfl
theorem cm22 (k : Nat) (args : List LV) (h : List Row) (lim : Nat) : evF cm (k + 1) 22 args h lim = runF (evF cm k) k lim c22 args h := rfl
theorem cm23 (k : Nat) (args : List LV) (h : List Row) (lim : Nat) : evF cm (k + 1) 23 args h lim = runF (evF cm k) k lim c23 args h := rfl
theorem cm24 (k : Nat) (args : List LV) (h : List Row) (lim : Nat) : evF cm (k + 1) 24 args h lim = runF (evF cm k) k lim c24 args h := rfl
theorem cm25 (k : Nat) (args : List LV) (h : List Row) (lim : Nat) : evF cm (k + 1) 25 args h lim = runF (evF cm k) k lim c25 args h := rfl
theorem cm26 (k : Nat) (args : List LV) (h : List Row) (lim : Nat) : evF cm (k + 1) 26 args h lim = runF (evF cm k) k lim c26 args h := rfl
theorem cm27 (k : Nat) (args : List LV) (h : List Row) (lim : Nat) : evF cm (k + 1) 27 args h lim = runF (evF cm k) k lim c27 args h := rfl
end Go.Proofs.Ytalhkhbdoinbdaa
