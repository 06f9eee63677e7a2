/- The resolved code of the functions that are reached, as a program of ours has printed it; each is checked against the given program. -/
import Derived.KernelRfl
import Derived.Test.YtichjheodohkaaaEng20
import Derived.Test.YtichjheodohkaaaProg
namespace Go.Proofs.Ytichjheodohkaaa
open Go

def c3 : MF := ⟨2, 131, 
  (.seq (.reg [] [⟨(some 4), (.mv (.c (.v (.bool false)))), none⟩]) 
  (.seq 
  (.seq (.reg [] [⟨(some 12), (.mv (.t 0)), none⟩, ⟨(some 13), (.len (.t 12)), none⟩, ⟨(some 14), (.bin .lss (.t 13) (.c (.v (.int .i64 1)))), none⟩, ⟨(some 15), (.mv (.t 14)), none⟩, ⟨(some 16), (.mv (.t 0)), (some (15, false))⟩, ⟨(some 17), (.len (.t 16)), (some (15, false))⟩, ⟨(some 18), (.bin .gtr (.t 17) (.c (.v (.int .i64 1024)))), (some (15, false))⟩, ⟨(some 19), (.pick (.t 15) (.c (.v (.bool true))) (.t 18)), none⟩, ⟨(some 20), (.mv (.t 19)), none⟩, ⟨(some 21), (.mv (.t 1)), (some (20, false))⟩, ⟨(some 22), (.len (.t 21)), (some (20, false))⟩, ⟨(some 23), (.bin .lss (.t 22) (.c (.v (.int .i64 1)))), (some (20, false))⟩, ⟨(some 24), (.pick (.t 20) (.c (.v (.bool true))) (.t 23)), none⟩, ⟨(some 25), (.mv (.t 24)), none⟩, ⟨(some 26), (.mv (.t 1)), (some (25, false))⟩, ⟨(some 27), (.len (.t 26)), (some (25, false))⟩, ⟨(some 28), (.bin .gtr (.t 27) (.c (.v (.int .i64 4096)))), (some (25, false))⟩, ⟨(some 29), (.pick (.t 25) (.c (.v (.bool true))) (.t 28)), none⟩]) (.cond (.t 29) 
  (.seq (.reg [] [⟨(some 30), (.call (.c (.f 6 [])) []), none⟩, ⟨(some 4), (.mv (.t 30)), none⟩]) .ret) .skip)) 
  (.seq (.reg [] [⟨(some 31), (.call (.c (.f 7 [])) []), none⟩, ⟨(some 5), (.mv (.t 31)), none⟩]) 
  (.seq (.reg [] [⟨(some 32), (.bsl [(.v (.int .i64 0)), (.v (.int .i64 0)), (.v (.int .i64 0)), (.v (.int .i64 0)), (.v (.int .i64 0)), (.v (.int .i64 0)), (.v (.int .i64 0)), (.v (.int .i64 0)), (.v (.int .i64 0))] 0 []), none⟩, ⟨(some 33), (.mv (.t 0)), none⟩, ⟨(some 34), (.app (.t 32) (.t 33) 9 72), none⟩, ⟨(some 6), (.mv (.t 34)), none⟩]) 
  (.seq (.reg [] [⟨(some 35), (.bsl [(.v (.int .i64 0))] 0 []), none⟩, ⟨(some 36), (.mv (.t 1)), none⟩, ⟨(some 37), (.app (.t 35) (.t 36) 1 8), none⟩, ⟨(some 7), (.mv (.t 37)), none⟩]) 
  (.seq 
  (.seq (.reg [] [⟨(some 38), (.mv (.t 5)), none⟩, ⟨(some 39), (.eqn false 3 (.t 38)), none⟩, ⟨(some 40), (.mv (.t 39)), none⟩, ⟨(some 41), (.mv (.t 5)), (some (40, false))⟩, ⟨(some 42), (.mv (.t 6)), (some (40, false))⟩, ⟨(some 43), (.ifc 22 (.t 42)), (some (40, false))⟩, ⟨(some 44), (.call (.c (.f 8 [])) [(.t 41), (.c (.v (.int .i64 1))), (.t 43)]), (some (40, false))⟩, ⟨(some 45), (.bin .neq (.t 44) (.c (.v (.int .i64 0)))), (some (40, false))⟩, ⟨(some 46), (.pick (.t 40) (.c (.v (.bool true))) (.t 45)), none⟩, ⟨(some 47), (.mv (.t 46)), none⟩, ⟨(some 48), (.mv (.t 5)), (some (47, false))⟩, ⟨(some 49), (.mv (.t 7)), (some (47, false))⟩, ⟨(some 50), (.ifc 23 (.t 49)), (some (47, false))⟩, ⟨(some 51), (.call (.c (.f 8 [])) [(.t 48), (.c (.v (.int .i64 2))), (.t 50)]), (some (47, false))⟩, ⟨(some 52), (.bin .neq (.t 51) (.c (.v (.int .i64 0)))), (some (47, false))⟩, ⟨(some 53), (.pick (.t 47) (.c (.v (.bool true))) (.t 52)), none⟩]) (.cond (.t 53) 
  (.seq (.reg [] [⟨(some 4), (.mv (.c (.v (.bool false)))), none⟩]) .ret) .skip)) 
  (.seq (.reg [] [⟨(some 54), (.mv (.t 6)), none⟩, ⟨(some 55), (.mv (.t 6)), none⟩, ⟨(some 56), (.ixs (.t 55) (.c (.v (.int .i64 0))) 9), none⟩, ⟨(some 57), (.fa (.t 56) 0), none⟩, ⟨(some 58), (.ld (.t 57) none), none⟩, ⟨(some 59), (.bin .xor (.t 58) (.c (.v (.int .i64 1)))), none⟩, ⟨(some 60), (.ixs (.t 54) (.c (.v (.int .i64 0))) 9), none⟩, ⟨(some 61), (.fa (.t 60) 0), none⟩, ⟨none, (.st (.t 61) (.t 59) 1), none⟩]) 
  (.seq (.reg [] [⟨(some 62), (.mv (.t 7)), none⟩, ⟨(some 63), (.mv (.t 7)), none⟩, ⟨(some 64), (.ixs (.t 63) (.c (.v (.int .i64 0))) 1), none⟩, ⟨(some 65), (.ld (.t 64) none), none⟩, ⟨(some 66), (.bin .xor (.t 65) (.c (.v (.int .i64 1)))), none⟩, ⟨(some 67), (.ixs (.t 62) (.c (.v (.int .i64 0))) 1), none⟩, ⟨none, (.st (.t 67) (.t 66) 1), none⟩]) 
  (.seq (.reg [] [⟨(some 69), (.mv (.t 5)), none⟩, ⟨(some 70), (.call (.c (.f 9 [])) [(.t 69), (.c (.v (.int .i64 1)))]), none⟩, ⟨(some 68), (.mv (.t 70)), none⟩, ⟨(some 71), (.ext (.t 68) 0), none⟩, ⟨(some 72), (.ext (.t 68) 1), none⟩, ⟨(some 8), (.mv (.t 71)), none⟩, ⟨(some 9), (.mv (.t 72)), none⟩]) 
  (.seq (.reg [] [⟨(some 74), (.mv (.t 5)), none⟩, ⟨(some 75), (.call (.c (.f 10 [])) [(.t 74), (.c (.v (.int .i64 2)))]), none⟩, ⟨(some 73), (.mv (.t 75)), none⟩, ⟨(some 76), (.ext (.t 73) 0), none⟩, ⟨(some 77), (.ext (.t 73) 1), none⟩, ⟨(some 10), (.mv (.t 76)), none⟩, ⟨(some 11), (.mv (.t 77)), none⟩]) 
  (.seq 
  (.seq (.reg [] [⟨(some 78), (.mv (.t 9)), none⟩, ⟨(some 79), (.bin .neq (.t 78) (.c (.v (.int .i64 0)))), none⟩, ⟨(some 80), (.mv (.t 79)), none⟩, ⟨(some 81), (.mv (.t 11)), (some (80, false))⟩, ⟨(some 82), (.bin .neq (.t 81) (.c (.v (.int .i64 0)))), (some (80, false))⟩, ⟨(some 83), (.pick (.t 80) (.c (.v (.bool true))) (.t 82)), none⟩, ⟨(some 84), (.mv (.t 83)), none⟩, ⟨(some 85), (.mv (.t 8)), (some (84, false))⟩, ⟨(some 86), (.mv (.t 0)), (some (84, false))⟩, ⟨(some 87), (.call (.c (.f 11 [])) [(.t 85), (.t 86)]), (some (84, false))⟩, ⟨(some 88), (.un .not (.t 87)), (some (84, false))⟩, ⟨(some 89), (.pick (.t 84) (.c (.v (.bool true))) (.t 88)), none⟩, ⟨(some 90), (.mv (.t 89)), none⟩, ⟨(some 91), (.mv (.t 10)), (some (90, false))⟩, ⟨(some 92), (.mv (.t 1)), (some (90, false))⟩, ⟨(some 93), (.call (.c (.f 12 [])) [(.t 91), (.t 92)]), (some (90, false))⟩, ⟨(some 94), (.un .not (.t 93)), (some (90, false))⟩, ⟨(some 95), (.pick (.t 90) (.c (.v (.bool true))) (.t 94)), none⟩]) (.cond (.t 95) 
  (.seq (.reg [] [⟨(some 4), (.mv (.c (.v (.bool false)))), none⟩]) .ret) .skip)) 
  (.seq (.reg [] [⟨(some 96), (.mv (.t 8)), none⟩, ⟨(some 97), (.mv (.t 8)), none⟩, ⟨(some 98), (.ixs (.t 97) (.c (.v (.int .i64 0))) 9), none⟩, ⟨(some 99), (.fa (.t 98) 0), none⟩, ⟨(some 100), (.ld (.t 99) none), none⟩, ⟨(some 101), (.bin .xor (.t 100) (.c (.v (.int .i64 1)))), none⟩, ⟨(some 102), (.ixs (.t 96) (.c (.v (.int .i64 0))) 9), none⟩, ⟨(some 103), (.fa (.t 102) 0), none⟩, ⟨none, (.st (.t 103) (.t 101) 1), none⟩]) 
  (.seq (.reg [] [⟨(some 104), (.mv (.t 10)), none⟩, ⟨(some 105), (.mv (.t 10)), none⟩, ⟨(some 106), (.ixs (.t 105) (.c (.v (.int .i64 0))) 1), none⟩, ⟨(some 107), (.ld (.t 106) none), none⟩, ⟨(some 108), (.bin .xor (.t 107) (.c (.v (.int .i64 1)))), none⟩, ⟨(some 109), (.ixs (.t 104) (.c (.v (.int .i64 0))) 1), none⟩, ⟨none, (.st (.t 109) (.t 108) 1), none⟩]) 
  (.seq (.reg [] [⟨(some 111), (.mv (.t 5)), none⟩, ⟨(some 112), (.call (.c (.f 9 [])) [(.t 111), (.c (.v (.int .i64 1)))]), none⟩, ⟨(some 110), (.mv (.t 112)), none⟩, ⟨(some 113), (.ext (.t 110) 0), none⟩, ⟨(some 114), (.ext (.t 110) 1), none⟩, ⟨(some 8), (.mv (.t 113)), none⟩]) 
  (.seq (.reg [] [⟨(some 116), (.mv (.t 5)), none⟩, ⟨(some 117), (.call (.c (.f 10 [])) [(.t 116), (.c (.v (.int .i64 2)))]), none⟩, ⟨(some 115), (.mv (.t 117)), none⟩, ⟨(some 118), (.ext (.t 115) 0), none⟩, ⟨(some 119), (.ext (.t 115) 1), none⟩, ⟨(some 10), (.mv (.t 118)), none⟩]) 
  (.seq (.reg [] [⟨(some 120), (.mv (.t 8)), none⟩, ⟨(some 121), (.mv (.t 0)), none⟩, ⟨(some 122), (.call (.c (.f 11 [])) [(.t 120), (.t 121)]), none⟩, ⟨(some 123), (.mv (.t 122)), none⟩, ⟨(some 124), (.mv (.t 10)), (some (123, true))⟩, ⟨(some 125), (.mv (.t 1)), (some (123, true))⟩, ⟨(some 126), (.call (.c (.f 12 [])) [(.t 124), (.t 125)]), (some (123, true))⟩, ⟨(some 127), (.pick (.t 123) (.t 126) (.c (.v (.bool false)))), none⟩, ⟨(some 128), (.mv (.t 127)), none⟩, ⟨(some 129), (.call (.c (.f 6 [])) []), (some (128, true))⟩, ⟨(some 130), (.pick (.t 128) (.t 129) (.c (.v (.bool false)))), none⟩, ⟨(some 4), (.mv (.t 130)), none⟩]) .ret)))))))))))))))), [(.t 4)]⟩

def c5 : MF := ⟨1, 67, 
  (.seq (.reg [] [⟨(some 2), (.mv (.c (.v (.bool false)))), none⟩]) 
  (.seq (.reg [] [⟨(some 3), (.mv (.c (.v (.pointer none)))), none⟩]) 
  (.seq (.reg [] [⟨(some 11), (.mv (.t 3)), none⟩, ⟨(some 12), (.mv (.t 0)), none⟩, ⟨(some 13), (.call (.c (.f 9 [])) [(.t 11), (.t 12)]), none⟩, ⟨(some 10), (.mv (.t 13)), none⟩, ⟨(some 14), (.ext (.t 10) 0), none⟩, ⟨(some 15), (.ext (.t 10) 1), none⟩, ⟨(some 4), (.mv (.t 14)), none⟩, ⟨(some 5), (.mv (.t 15)), none⟩]) 
  (.seq (.reg [] [⟨(some 17), (.mv (.t 3)), none⟩, ⟨(some 18), (.mv (.t 0)), none⟩, ⟨(some 19), (.call (.c (.f 10 [])) [(.t 17), (.t 18)]), none⟩, ⟨(some 16), (.mv (.t 19)), none⟩, ⟨(some 20), (.ext (.t 16) 0), none⟩, ⟨(some 21), (.ext (.t 16) 1), none⟩, ⟨(some 6), (.mv (.t 20)), none⟩, ⟨(some 7), (.mv (.t 21)), none⟩]) 
  (.seq (.reg [] [⟨(some 23), (.mv (.t 3)), none⟩, ⟨(some 24), (.mv (.t 0)), none⟩, ⟨(some 25), (.call (.c (.f 20 [])) [(.t 23), (.t 24)]), none⟩, ⟨(some 22), (.mv (.t 25)), none⟩, ⟨(some 26), (.ext (.t 22) 0), none⟩, ⟨(some 27), (.ext (.t 22) 1), none⟩, ⟨(some 8), (.box (.c (.agg [(.v (.int .i64 0)), (.v (.int .i64 0)), (.v (.slice none 0 0))]))), none⟩, ⟨none, (.st (.t 8) (.t 26) 3), none⟩, ⟨(some 9), (.mv (.t 27)), none⟩]) 
  (.seq (.reg [] [⟨(some 28), (.mv (.t 3)), none⟩, ⟨(some 29), (.mv (.t 0)), none⟩, ⟨(some 30), (.bsl [(.v (.int .i64 0))] 0 []), none⟩, ⟨(some 31), (.ifc 23 (.t 30)), none⟩, ⟨(some 32), (.call (.c (.f 8 [])) [(.t 28), (.t 29), (.t 31)]), none⟩, ⟨(some 33), (.bin .eql (.t 32) (.c (.v (.int .i64 1)))), none⟩, ⟨(some 34), (.mv (.t 33)), none⟩, ⟨(some 35), (.mv (.t 3)), (some (34, true))⟩, ⟨(some 36), (.mv (.t 0)), (some (34, true))⟩, ⟨(some 37), (.call (.c (.f 21 [])) [(.t 35), (.t 36)]), (some (34, true))⟩, ⟨(some 38), (.bin .eql (.t 37) (.c (.v (.int .i64 1)))), (some (34, true))⟩, ⟨(some 39), (.pick (.t 34) (.t 38) (.c (.v (.bool false)))), none⟩, ⟨(some 40), (.mv (.t 39)), none⟩, ⟨(some 41), (.mv (.t 5)), (some (40, true))⟩, ⟨(some 42), (.bin .eql (.t 41) (.c (.v (.int .i64 1)))), (some (40, true))⟩, ⟨(some 43), (.pick (.t 40) (.t 42) (.c (.v (.bool false)))), none⟩, ⟨(some 44), (.mv (.t 43)), none⟩, ⟨(some 45), (.mv (.t 7)), (some (44, true))⟩, ⟨(some 46), (.bin .eql (.t 45) (.c (.v (.int .i64 1)))), (some (44, true))⟩, ⟨(some 47), (.pick (.t 44) (.t 46) (.c (.v (.bool false)))), none⟩, ⟨(some 48), (.mv (.t 47)), none⟩, ⟨(some 49), (.mv (.t 9)), (some (48, true))⟩, ⟨(some 50), (.bin .eql (.t 49) (.c (.v (.int .i64 1)))), (some (48, true))⟩, ⟨(some 51), (.pick (.t 48) (.t 50) (.c (.v (.bool false)))), none⟩, ⟨(some 52), (.mv (.t 51)), none⟩, ⟨(some 53), (.mv (.t 3)), (some (52, true))⟩, ⟨(some 54), (.mv (.t 0)), (some (52, true))⟩, ⟨(some 55), (.call (.c (.f 22 [])) [(.t 53), (.t 54)]), (some (52, true))⟩, ⟨(some 56), (.bin .eql (.t 55) (.c (.v (.int .i64 0)))), (some (52, true))⟩, ⟨(some 57), (.pick (.t 52) (.t 56) (.c (.v (.bool false)))), none⟩, ⟨(some 58), (.mv (.t 57)), none⟩, ⟨(some 59), (.mv (.t 3)), (some (58, true))⟩, ⟨(some 60), (.call (.c (.f 18 [])) [(.t 59)]), (some (58, true))⟩, ⟨(some 61), (.len (.t 60)), (some (58, true))⟩, ⟨(some 62), (.bin .eql (.t 61) (.c (.v (.int .i64 0)))), (some (58, true))⟩, ⟨(some 63), (.pick (.t 58) (.t 62) (.c (.v (.bool false)))), none⟩, ⟨(some 64), (.mv (.t 63)), none⟩, ⟨(some 65), (.call (.c (.f 6 [])) []), (some (64, true))⟩, ⟨(some 66), (.pick (.t 64) (.t 65) (.c (.v (.bool false)))), none⟩, ⟨(some 2), (.mv (.t 66)), none⟩]) .ret)))))), [(.t 2)]⟩

def c6 : MF := ⟨0, 44, 
  (.seq (.reg [] [⟨(some 0), (.mv (.c (.v (.bool false)))), none⟩]) 
  (.seq (.reg [] [⟨(some 7), (.call (.c (.f 7 [])) []), none⟩, ⟨(some 1), (.mv (.t 7)), none⟩]) 
  (.seq 
  (.seq (.reg [] [⟨(some 8), (.mv (.t 1)), none⟩, ⟨(some 9), (.eqn false 3 (.t 8)), none⟩]) (.cond (.t 9) 
  (.seq (.reg [] [⟨(some 0), (.mv (.c (.v (.bool false)))), none⟩]) .ret) .skip)) 
  (.seq (.reg [] [⟨(some 10), (.mv (.t 1)), none⟩, ⟨(some 11), (.bsl [(.v (.int .i64 0))] 2 [(0, (1, (.c (.v (.int .i64 1))))), (1, (1, (.c (.v (.int .i64 2)))))]), none⟩, ⟨(some 12), (.ifc 23 (.t 11)), none⟩, ⟨(some 13), (.call (.c (.f 8 [])) [(.t 10), (.c (.v (.int .i64 5))), (.t 12)]), none⟩, ⟨(some 2), (.mv (.t 13)), none⟩]) 
  (.seq (.reg [] [⟨(some 15), (.mv (.t 1)), none⟩, ⟨(some 16), (.call (.c (.f 9 [])) [(.t 15), (.c (.v (.int .i64 5)))]), none⟩, ⟨(some 14), (.mv (.t 16)), none⟩, ⟨(some 17), (.ext (.t 14) 0), none⟩, ⟨(some 18), (.ext (.t 14) 1), none⟩, ⟨(some 3), (.mv (.t 17)), none⟩, ⟨(some 4), (.mv (.t 18)), none⟩]) 
  (.seq (.reg [] [⟨(some 20), (.mv (.t 1)), none⟩, ⟨(some 21), (.call (.c (.f 10 [])) [(.t 20), (.c (.v (.int .i64 5)))]), none⟩, ⟨(some 19), (.mv (.t 21)), none⟩, ⟨(some 22), (.ext (.t 19) 0), none⟩, ⟨(some 23), (.ext (.t 19) 1), none⟩, ⟨(some 5), (.mv (.t 22)), none⟩, ⟨(some 6), (.mv (.t 23)), none⟩]) 
  (.seq (.reg [] [⟨(some 24), (.mv (.t 2)), none⟩, ⟨(some 25), (.bin .eql (.t 24) (.c (.v (.int .i64 0)))), none⟩, ⟨(some 26), (.mv (.t 25)), none⟩, ⟨(some 27), (.mv (.t 1)), (some (26, true))⟩, ⟨(some 28), (.call (.c (.f 22 [])) [(.t 27), (.c (.v (.int .i64 5)))]), (some (26, true))⟩, ⟨(some 29), (.bin .eql (.t 28) (.c (.v (.int .i64 2)))), (some (26, true))⟩, ⟨(some 30), (.pick (.t 26) (.t 29) (.c (.v (.bool false)))), none⟩, ⟨(some 31), (.mv (.t 30)), none⟩, ⟨(some 32), (.mv (.t 4)), (some (31, true))⟩, ⟨(some 33), (.bin .eql (.t 32) (.c (.v (.int .i64 9)))), (some (31, true))⟩, ⟨(some 34), (.pick (.t 31) (.t 33) (.c (.v (.bool false)))), none⟩, ⟨(some 35), (.mv (.t 34)), none⟩, ⟨(some 36), (.mv (.t 5)), (some (35, true))⟩, ⟨(some 37), (.len (.t 36)), (some (35, true))⟩, ⟨(some 38), (.bin .eql (.t 37) (.c (.v (.int .i64 2)))), (some (35, true))⟩, ⟨(some 39), (.pick (.t 35) (.t 38) (.c (.v (.bool false)))), none⟩, ⟨(some 40), (.mv (.t 39)), none⟩, ⟨(some 41), (.mv (.t 6)), (some (40, true))⟩, ⟨(some 42), (.bin .eql (.t 41) (.c (.v (.int .i64 0)))), (some (40, true))⟩, ⟨(some 43), (.pick (.t 40) (.t 42) (.c (.v (.bool false)))), none⟩, ⟨(some 0), (.mv (.t 43)), none⟩]) .ret))))))), [(.t 0)]⟩

def c7 : MF := ⟨0, 4, 
  (.seq (.reg [] [⟨(some 0), (.mv (.c (.v (.pointer none)))), none⟩]) 
  (.seq (.reg [] [⟨(some 1), .stk, none⟩, ⟨(some 2), (.bld [(.v (.map none))] [(0, (1, (.t 1)))]), none⟩, ⟨(some 3), (.box (.t 2)), none⟩, ⟨(some 0), (.mv (.t 3)), none⟩]) .ret)), [(.t 0)]⟩

def c8 : MF := ⟨3, 33, 
  (.seq (.reg [] [⟨(some 6), (.mv (.c (.v (.int .i64 0)))), none⟩]) 
  (.seq (.block 0 
  (.seq (.reg [] [⟨(some 10), (.mv (.t 0)), none⟩, ⟨(some 11), (.eqn false 3 (.t 10)), none⟩, ⟨(some 9), (.mv (.t 11)), none⟩]) (.cond (.t 9) 
  (.seq (.reg [] [⟨(some 6), (.mv (.c (.v (.int .i64 1)))), none⟩]) .ret) 
  (.seq (.reg [] [⟨(some 13), (.mv (.t 1)), none⟩, ⟨(some 14), (.bin .lss (.t 13) (.c (.v (.int .i64 1)))), none⟩, ⟨(some 15), (.mv (.t 14)), none⟩, ⟨(some 16), (.mv (.t 1)), (some (15, false))⟩, ⟨(some 17), (.bin .gtr (.t 16) (.c (.v (.int .i64 64)))), (some (15, false))⟩, ⟨(some 18), (.pick (.t 15) (.c (.v (.bool true))) (.t 17)), none⟩, ⟨(some 12), (.mv (.t 18)), none⟩]) (.cond (.t 12) 
  (.seq (.reg [] [⟨(some 6), (.mv (.c (.v (.int .i64 7)))), none⟩]) .ret) .skip))))) 
  (.seq (.reg [] [⟨(some 20), (.mv (.t 2)), none⟩, ⟨(some 21), (.call (.c (.f 23 [])) [(.t 20)]), none⟩, ⟨(some 19), (.mv (.t 21)), none⟩, ⟨(some 22), (.ext (.t 19) 0), none⟩, ⟨(some 23), (.ext (.t 19) 1), none⟩, ⟨(some 7), (.mv (.t 22)), none⟩, ⟨(some 8), (.mv (.t 23)), none⟩]) 
  (.seq 
  (.seq (.reg [] [⟨(some 24), (.mv (.t 8)), none⟩, ⟨(some 25), (.bin .eql (.t 24) (.c (.v (.int .i64 0)))), none⟩]) (.cond (.t 25) (.reg [] [⟨(some 26), (.mv (.t 0)), none⟩, ⟨(some 27), (.nilc (.t 26)), none⟩, ⟨(some 28), (.fa (.t 27) 0), none⟩, ⟨(some 29), (.ld (.t 28) none), none⟩, ⟨(some 30), (.mv (.t 1)), none⟩, ⟨(some 31), (.mv (.t 7)), none⟩, ⟨none, .stk, none⟩]) .skip)) 
  (.seq (.reg [] [⟨(some 32), (.mv (.t 8)), none⟩, ⟨(some 6), (.mv (.t 32)), none⟩]) .ret))))), [(.t 6)]⟩

def c9 : MF := ⟨2, 28, 
  (.seq (.reg [] [⟨(some 4), (.mv (.c (.v (.slice none 0 0)))), none⟩, ⟨(some 5), (.mv (.c (.v (.int .i64 0)))), none⟩]) 
  (.seq 
  (.seq (.reg [] [⟨(some 9), (.mv (.t 0)), none⟩, ⟨(some 10), (.mv (.t 1)), none⟩, ⟨(some 11), (.call (.c (.f 24 [])) [(.t 9), (.t 10)]), none⟩, ⟨(some 6), (.mv (.t 11)), none⟩]) 
  (.seq (.reg [] [⟨(some 12), (.mv (.t 6)), none⟩, ⟨(some 13), (.bin .neq (.t 12) (.c (.v (.int .i64 0)))), none⟩]) (.cond (.t 13) 
  (.seq (.reg [] [⟨(some 14), (.mv (.t 6)), none⟩, ⟨(some 4), (.mv (.c (.v (.slice none 0 0)))), none⟩, ⟨(some 5), (.mv (.t 14)), none⟩]) .ret) .skip))) 
  (.seq 
  (.seq (.reg [] [⟨(some 16), (.mv (.t 0)), none⟩, ⟨(some 17), (.nilc (.t 16)), none⟩, ⟨(some 18), (.fa (.t 17) 0), none⟩, ⟨(some 19), (.ld (.t 18) none), none⟩, ⟨(some 20), (.mv (.t 1)), none⟩, ⟨(some 21), .stk, none⟩, ⟨(some 22), (.tas (.t 21) 22 true (.v (.slice none 0 0))), none⟩, ⟨(some 15), (.mv (.t 22)), none⟩, ⟨(some 23), (.ext (.t 15) 0), none⟩, ⟨(some 24), (.ext (.t 15) 1), none⟩, ⟨(some 7), (.mv (.t 23)), none⟩, ⟨(some 8), (.mv (.t 24)), none⟩]) 
  (.seq (.reg [] [⟨(some 25), (.mv (.t 8)), none⟩]) (.cond (.t 25) 
  (.seq (.reg [] [⟨(some 26), (.mv (.t 7)), none⟩, ⟨(some 27), (.call (.c (.f 25 [])) [(.t 26)]), none⟩, ⟨(some 4), (.mv (.t 27)), none⟩, ⟨(some 5), (.mv (.c (.v (.int .i64 0)))), none⟩]) .ret) .skip))) 
  (.seq (.reg [] [⟨(some 4), (.mv (.c (.v (.slice none 0 0)))), none⟩, ⟨(some 5), (.mv (.c (.v (.int .i64 9)))), none⟩]) .ret)))), [(.t 4), (.t 5)]⟩

def c10 : MF := ⟨2, 28, 
  (.seq (.reg [] [⟨(some 4), (.mv (.c (.v (.slice none 0 0)))), none⟩, ⟨(some 5), (.mv (.c (.v (.int .i64 0)))), none⟩]) 
  (.seq 
  (.seq (.reg [] [⟨(some 9), (.mv (.t 0)), none⟩, ⟨(some 10), (.mv (.t 1)), none⟩, ⟨(some 11), (.call (.c (.f 24 [])) [(.t 9), (.t 10)]), none⟩, ⟨(some 6), (.mv (.t 11)), none⟩]) 
  (.seq (.reg [] [⟨(some 12), (.mv (.t 6)), none⟩, ⟨(some 13), (.bin .neq (.t 12) (.c (.v (.int .i64 0)))), none⟩]) (.cond (.t 13) 
  (.seq (.reg [] [⟨(some 14), (.mv (.t 6)), none⟩, ⟨(some 4), (.mv (.c (.v (.slice none 0 0)))), none⟩, ⟨(some 5), (.mv (.t 14)), none⟩]) .ret) .skip))) 
  (.seq 
  (.seq (.reg [] [⟨(some 16), (.mv (.t 0)), none⟩, ⟨(some 17), (.nilc (.t 16)), none⟩, ⟨(some 18), (.fa (.t 17) 0), none⟩, ⟨(some 19), (.ld (.t 18) none), none⟩, ⟨(some 20), (.mv (.t 1)), none⟩, ⟨(some 21), .stk, none⟩, ⟨(some 22), (.tas (.t 21) 23 true (.v (.slice none 0 0))), none⟩, ⟨(some 15), (.mv (.t 22)), none⟩, ⟨(some 23), (.ext (.t 15) 0), none⟩, ⟨(some 24), (.ext (.t 15) 1), none⟩, ⟨(some 7), (.mv (.t 23)), none⟩, ⟨(some 8), (.mv (.t 24)), none⟩]) 
  (.seq (.reg [] [⟨(some 25), (.mv (.t 8)), none⟩]) (.cond (.t 25) 
  (.seq (.reg [] [⟨(some 26), (.mv (.t 7)), none⟩, ⟨(some 27), (.call (.c (.f 26 [])) [(.t 26)]), none⟩, ⟨(some 4), (.mv (.t 27)), none⟩, ⟨(some 5), (.mv (.c (.v (.int .i64 0)))), none⟩]) .ret) .skip))) 
  (.seq (.reg [] [⟨(some 4), (.mv (.c (.v (.slice none 0 0)))), none⟩, ⟨(some 5), (.mv (.c (.v (.int .i64 9)))), none⟩]) .ret)))), [(.t 4), (.t 5)]⟩

def c11b0 : MC := 
  (.seq 
  (.seq (.reg [] [⟨(some 11), (.mv (.t 5)), none⟩, ⟨(some 12), (.mv (.t 0)), none⟩, ⟨(some 13), (.len (.t 12)), none⟩, ⟨(some 14), (.bin .lss (.t 11) (.t 13)), none⟩]) (.cond (.t 14) .skip (.exit 0))) 
  (.seq (.block 1 
  (.seq (.reg [⟨(some 17), (.mv (.t 0)), none⟩, ⟨(some 18), (.mv (.t 5)), none⟩, ⟨(some 19), (.ixs (.t 17) (.t 18) 9), none⟩, ⟨(some 20), (.ld (.t 19) (some 9)), none⟩, ⟨(some 21), (.mv (.t 1)), none⟩, ⟨(some 22), (.mv (.t 5)), none⟩, ⟨(some 23), (.ixs (.t 21) (.t 22) 9), none⟩, ⟨(some 24), (.ld (.t 23) (some 9)), none⟩] [⟨(some 25), (.eqv true true [.i, .i, .i, .i, .i, .i, .i, .i, .i] (.t 20) (.t 24)), none⟩]) (.cond (.t 25) 
  (.seq (.reg [] [⟨(some 4), (.mv (.c (.v (.bool false)))), none⟩]) .ret) .skip))) (.reg [] [⟨(some 15), (.mv (.t 5)), none⟩, ⟨(some 16), (.bin .add (.t 15) (.c (.v (.int .i64 1)))), none⟩, ⟨(some 5), (.mv (.t 16)), none⟩])))

def c11 : MF := ⟨2, 26, 
  (.seq (.reg [] [⟨(some 4), (.mv (.c (.v (.bool false)))), none⟩]) 
  (.seq 
  (.seq (.reg [] [⟨(some 6), (.mv (.t 0)), none⟩, ⟨(some 7), (.len (.t 6)), none⟩, ⟨(some 8), (.mv (.t 1)), none⟩, ⟨(some 9), (.len (.t 8)), none⟩, ⟨(some 10), (.bin .neq (.t 7) (.t 9)), none⟩]) (.cond (.t 10) 
  (.seq (.reg [] [⟨(some 4), (.mv (.c (.v (.bool false)))), none⟩]) .ret) .skip)) 
  (.seq 
  (.seq (.reg [] [⟨(some 5), (.mv (.c (.v (.int .i64 0)))), none⟩]) (.block 0 
  (.loopN [16, 15, 4, 25, 24, 23, 22, 21, 20, 19, 18, 17, 14, 13, 12, 11] c11b0))) 
  (.seq (.reg [] [⟨(some 4), (.mv (.c (.v (.bool true)))), none⟩]) .ret)))), [(.t 4)]⟩

def c12b0 : MC := 
  (.seq 
  (.seq (.reg [] [⟨(some 11), (.mv (.t 5)), none⟩, ⟨(some 12), (.mv (.t 0)), none⟩, ⟨(some 13), (.len (.t 12)), none⟩, ⟨(some 14), (.bin .lss (.t 11) (.t 13)), none⟩]) (.cond (.t 14) .skip (.exit 0))) 
  (.seq (.block 1 
  (.seq (.reg [⟨(some 17), (.mv (.t 0)), none⟩, ⟨(some 18), (.mv (.t 5)), none⟩, ⟨(some 19), (.ixs (.t 17) (.t 18) 1), none⟩, ⟨(some 20), (.ld (.t 19) none), none⟩, ⟨(some 21), (.mv (.t 1)), none⟩, ⟨(some 22), (.mv (.t 5)), none⟩, ⟨(some 23), (.ixs (.t 21) (.t 22) 1), none⟩, ⟨(some 24), (.ld (.t 23) none), none⟩] [⟨(some 25), (.bin .neq (.t 20) (.t 24)), none⟩]) (.cond (.t 25) 
  (.seq (.reg [] [⟨(some 4), (.mv (.c (.v (.bool false)))), none⟩]) .ret) .skip))) (.reg [] [⟨(some 15), (.mv (.t 5)), none⟩, ⟨(some 16), (.bin .add (.t 15) (.c (.v (.int .i64 1)))), none⟩, ⟨(some 5), (.mv (.t 16)), none⟩])))

def c12 : MF := ⟨2, 26, 
  (.seq (.reg [] [⟨(some 4), (.mv (.c (.v (.bool false)))), none⟩]) 
  (.seq 
  (.seq (.reg [] [⟨(some 6), (.mv (.t 0)), none⟩, ⟨(some 7), (.len (.t 6)), none⟩, ⟨(some 8), (.mv (.t 1)), none⟩, ⟨(some 9), (.len (.t 8)), none⟩, ⟨(some 10), (.bin .neq (.t 7) (.t 9)), none⟩]) (.cond (.t 10) 
  (.seq (.reg [] [⟨(some 4), (.mv (.c (.v (.bool false)))), none⟩]) .ret) .skip)) 
  (.seq 
  (.seq (.reg [] [⟨(some 5), (.mv (.c (.v (.int .i64 0)))), none⟩]) (.block 0 
  (.loopN [16, 15, 4, 25, 24, 23, 22, 21, 20, 19, 18, 17, 14, 13, 12, 11] c12b0))) 
  (.seq (.reg [] [⟨(some 4), (.mv (.c (.v (.bool true)))), none⟩]) .ret)))), [(.t 4)]⟩

def c18 : MF := ⟨1, 11, 
  (.seq (.reg [] [⟨(some 2), (.mv (.c (.v (.slice none 0 0)))), none⟩]) 
  (.seq 
  (.seq (.reg [] [⟨(some 3), (.mv (.t 0)), none⟩, ⟨(some 4), (.eqn false 3 (.t 3)), none⟩]) (.cond (.t 4) 
  (.seq (.reg [] [⟨(some 2), (.mv (.c (.v (.slice none 0 0)))), none⟩]) .ret) .skip)) 
  (.seq (.reg [] [⟨(some 5), (.mv (.t 0)), none⟩, ⟨(some 6), (.nilc (.t 5)), none⟩, ⟨(some 7), (.fa (.t 6) 0), none⟩, ⟨(some 8), (.ld (.t 7) none), none⟩, ⟨(some 9), (.call (.c (.f 31 [])) [(.t 8)]), none⟩, ⟨(some 10), (.call (.c (.f 30 [])) [(.t 9)]), none⟩, ⟨(some 2), (.mv (.t 10)), none⟩]) .ret))), [(.t 2)]⟩

def c20 : MF := ⟨2, 33, 
  (.seq (.reg [] [⟨(some 4), (.box (.c (.agg [(.v (.int .i64 0)), (.v (.int .i64 0)), (.v (.slice none 0 0))]))), none⟩, ⟨(some 5), (.mv (.c (.v (.int .i64 0)))), none⟩]) 
  (.seq 
  (.seq (.reg [] [⟨(some 9), (.mv (.t 0)), none⟩, ⟨(some 10), (.mv (.t 1)), none⟩, ⟨(some 11), (.call (.c (.f 24 [])) [(.t 9), (.t 10)]), none⟩, ⟨(some 6), (.mv (.t 11)), none⟩]) 
  (.seq (.reg [] [⟨(some 12), (.mv (.t 6)), none⟩, ⟨(some 13), (.bin .neq (.t 12) (.c (.v (.int .i64 0)))), none⟩]) (.cond (.t 13) 
  (.seq (.reg [] [⟨(some 14), (.bld [(.v (.int .i64 0)), (.v (.int .i64 0)), (.v (.slice none 0 0))] []), none⟩, ⟨(some 15), (.mv (.t 6)), none⟩, ⟨none, (.st (.t 4) (.t 14) 3), none⟩, ⟨(some 5), (.mv (.t 15)), none⟩]) .ret) .skip))) 
  (.seq 
  (.seq (.reg [] [⟨(some 17), (.mv (.t 0)), none⟩, ⟨(some 18), (.nilc (.t 17)), none⟩, ⟨(some 19), (.fa (.t 18) 0), none⟩, ⟨(some 20), (.ld (.t 19) none), none⟩, ⟨(some 21), (.mv (.t 1)), none⟩, ⟨(some 22), .stk, none⟩, ⟨(some 23), (.tas (.t 22) 42 true (.agg [(.v (.int .i64 0)), (.v (.int .i64 0)), (.v (.slice none 0 0))])), none⟩, ⟨(some 16), (.mv (.t 23)), none⟩, ⟨(some 24), (.ext (.t 16) 0), none⟩, ⟨(some 25), (.ext (.t 16) 1), none⟩, ⟨(some 7), (.box (.c (.agg [(.v (.int .i64 0)), (.v (.int .i64 0)), (.v (.slice none 0 0))]))), none⟩, ⟨none, (.st (.t 7) (.t 24) 3), none⟩, ⟨(some 8), (.mv (.t 25)), none⟩]) 
  (.seq (.reg [] [⟨(some 26), (.mv (.t 8)), none⟩]) (.cond (.t 26) 
  (.seq (.reg [] [⟨(some 27), (.fa (.t 7) 2), none⟩, ⟨(some 28), (.ld (.t 27) none), none⟩, ⟨(some 29), (.call (.c (.f 26 [])) [(.t 28)]), none⟩, ⟨(some 30), (.fa (.t 7) 2), none⟩, ⟨none, (.st (.t 30) (.t 29) 1), none⟩]) 
  (.seq (.reg [] [⟨(some 31), (.ld (.t 7) (some 3)), none⟩, ⟨none, (.st (.t 4) (.t 31) 3), none⟩, ⟨(some 5), (.mv (.c (.v (.int .i64 0)))), none⟩]) .ret)) .skip))) 
  (.seq (.reg [] [⟨(some 32), (.bld [(.v (.int .i64 0)), (.v (.int .i64 0)), (.v (.slice none 0 0))] []), none⟩, ⟨none, (.st (.t 4) (.t 32) 3), none⟩, ⟨(some 5), (.mv (.c (.v (.int .i64 9)))), none⟩]) .ret)))), [(.cell 4 (some 3)), (.t 5)]⟩

def c21 : MF := ⟨2, 18, 
  (.seq (.reg [] [⟨(some 4), (.mv (.c (.v (.int .i64 0)))), none⟩]) 
  (.seq (.block 0 
  (.seq (.reg [] [⟨(some 6), (.mv (.t 0)), none⟩, ⟨(some 7), (.eqn false 3 (.t 6)), none⟩, ⟨(some 5), (.mv (.t 7)), none⟩]) (.cond (.t 5) 
  (.seq (.reg [] [⟨(some 4), (.mv (.c (.v (.int .i64 1)))), none⟩]) .ret) 
  (.seq (.reg [] [⟨(some 9), (.mv (.t 0)), none⟩, ⟨(some 10), (.mv (.t 1)), none⟩, ⟨(some 11), (.call (.c (.f 22 [])) [(.t 9), (.t 10)]), none⟩, ⟨(some 12), (.bin .eql (.t 11) (.c (.v (.int .i64 0)))), none⟩, ⟨(some 8), (.mv (.t 12)), none⟩]) (.cond (.t 8) 
  (.seq (.reg [] [⟨(some 4), (.mv (.c (.v (.int .i64 7)))), none⟩]) .ret) .skip))))) 
  (.seq (.reg [] [⟨(some 13), (.mv (.t 0)), none⟩, ⟨(some 14), (.nilc (.t 13)), none⟩, ⟨(some 15), (.fa (.t 14) 0), none⟩, ⟨(some 16), (.ld (.t 15) none), none⟩, ⟨(some 17), (.mv (.t 1)), none⟩, ⟨none, .stk, none⟩]) 
  (.seq (.reg [] [⟨(some 4), (.mv (.c (.v (.int .i64 0)))), none⟩]) .ret)))), [(.t 4)]⟩

def c22 : MF := ⟨2, 22, 
  (.seq (.reg [] [⟨(some 4), (.mv (.c (.v (.int .i64 0)))), none⟩]) 
  (.seq 
  (.seq (.reg [] [⟨(some 5), (.mv (.t 0)), none⟩, ⟨(some 6), (.eqn false 3 (.t 5)), none⟩]) (.cond (.t 6) 
  (.seq (.reg [] [⟨(some 4), (.mv (.c (.v (.int .i64 0)))), none⟩]) .ret) .skip)) 
  (.seq 
  (.seq (.reg [] [⟨(some 7), (.mv (.t 0)), none⟩, ⟨(some 8), (.nilc (.t 7)), none⟩, ⟨(some 9), (.fa (.t 8) 0), none⟩, ⟨(some 10), (.ld (.t 9) none), none⟩, ⟨(some 11), (.mv (.t 1)), none⟩, ⟨(some 12), .stk, none⟩]) (.block 0 
  (.seq (.reg [] [⟨(some 13), (.tas (.t 12) 22 true (.v (.slice none 0 0))), none⟩, ⟨(some 14), (.ext (.t 13) 1), none⟩, ⟨(some 15), (.ext (.t 13) 0), none⟩]) (.cond (.t 14) 
  (.seq (.reg [] [⟨(some 4), (.mv (.c (.v (.int .i64 1)))), none⟩]) .ret) 
  (.seq (.reg [] [⟨(some 16), (.tas (.t 12) 23 true (.v (.slice none 0 0))), none⟩, ⟨(some 17), (.ext (.t 16) 1), none⟩, ⟨(some 18), (.ext (.t 16) 0), none⟩]) (.cond (.t 17) 
  (.seq (.reg [] [⟨(some 4), (.mv (.c (.v (.int .i64 2)))), none⟩]) .ret) 
  (.seq (.reg [] [⟨(some 19), (.tas (.t 12) 42 true (.agg [(.v (.int .i64 0)), (.v (.int .i64 0)), (.v (.slice none 0 0))])), none⟩, ⟨(some 20), (.ext (.t 19) 1), none⟩, ⟨(some 21), (.ext (.t 19) 0), none⟩]) (.cond (.t 20) 
  (.seq (.reg [] [⟨(some 4), (.mv (.c (.v (.int .i64 3)))), none⟩]) .ret) .skip)))))))) 
  (.seq (.reg [] [⟨(some 4), (.mv (.c (.v (.int .i64 0)))), none⟩]) .ret)))), [(.t 4)]⟩

def c23 : MF := ⟨1, 39, 
  (.seq (.reg [] [⟨(some 2), (.mv (.c (.v .nilIface))), none⟩, ⟨(some 3), (.mv (.c (.v (.int .i64 0)))), none⟩]) 
  (.seq 
  (.seq (.reg [] [⟨(some 8), (.mv (.t 0)), none⟩]) (.block 0 
  (.seq (.reg [] [⟨(some 9), (.tas (.t 8) 22 true (.v (.slice none 0 0))), none⟩, ⟨(some 10), (.ext (.t 9) 1), none⟩, ⟨(some 11), (.ext (.t 9) 0), none⟩]) (.cond (.t 10) 
  (.seq (.reg [] [⟨(some 4), (.mv (.t 11)), none⟩]) 
  (.seq 
  (.seq (.reg [] [⟨(some 12), (.mv (.t 4)), none⟩, ⟨(some 13), (.len (.t 12)), none⟩, ⟨(some 14), (.bin .gtr (.t 13) (.c (.v (.int .i64 1024)))), none⟩]) (.cond (.t 14) 
  (.seq (.reg [] [⟨(some 2), (.mv (.c (.v .nilIface))), none⟩, ⟨(some 3), (.mv (.c (.v (.int .i64 4)))), none⟩]) .ret) .skip)) 
  (.seq (.reg [] [⟨(some 15), (.mv (.t 4)), none⟩, ⟨(some 16), (.call (.c (.f 25 [])) [(.t 15)]), none⟩, ⟨(some 17), (.ifc 22 (.t 16)), none⟩, ⟨(some 2), (.mv (.t 17)), none⟩, ⟨(some 3), (.mv (.c (.v (.int .i64 0)))), none⟩]) .ret))) 
  (.seq (.reg [] [⟨(some 18), (.tas (.t 8) 23 true (.v (.slice none 0 0))), none⟩, ⟨(some 19), (.ext (.t 18) 1), none⟩, ⟨(some 20), (.ext (.t 18) 0), none⟩]) (.cond (.t 19) 
  (.seq (.reg [] [⟨(some 5), (.mv (.t 20)), none⟩]) 
  (.seq 
  (.seq (.reg [] [⟨(some 21), (.mv (.t 5)), none⟩, ⟨(some 22), (.len (.t 21)), none⟩, ⟨(some 23), (.bin .gtr (.t 22) (.c (.v (.int .i64 4096)))), none⟩]) (.cond (.t 23) 
  (.seq (.reg [] [⟨(some 2), (.mv (.c (.v .nilIface))), none⟩, ⟨(some 3), (.mv (.c (.v (.int .i64 4)))), none⟩]) .ret) .skip)) 
  (.seq (.reg [] [⟨(some 24), (.mv (.t 5)), none⟩, ⟨(some 25), (.call (.c (.f 26 [])) [(.t 24)]), none⟩, ⟨(some 26), (.ifc 23 (.t 25)), none⟩, ⟨(some 2), (.mv (.t 26)), none⟩, ⟨(some 3), (.mv (.c (.v (.int .i64 0)))), none⟩]) .ret))) 
  (.seq (.reg [] [⟨(some 27), (.tas (.t 8) 42 true (.agg [(.v (.int .i64 0)), (.v (.int .i64 0)), (.v (.slice none 0 0))])), none⟩, ⟨(some 28), (.ext (.t 27) 1), none⟩, ⟨(some 29), (.ext (.t 27) 0), none⟩]) (.cond (.t 28) 
  (.seq (.reg [] [⟨(some 6), (.box (.c (.agg [(.v (.int .i64 0)), (.v (.int .i64 0)), (.v (.slice none 0 0))]))), none⟩, ⟨none, (.st (.t 6) (.t 29) 3), none⟩]) 
  (.seq (.reg [] [⟨(some 30), (.ld (.t 6) (some 3)), none⟩, ⟨(some 31), (.call (.c (.f 32 [])) [(.t 30)]), none⟩, ⟨(some 7), (.mv (.t 31)), none⟩]) 
  (.seq (.reg [] [⟨(some 32), (.fa (.t 6) 2), none⟩, ⟨(some 33), (.ld (.t 32) none), none⟩, ⟨(some 34), (.call (.c (.f 26 [])) [(.t 33)]), none⟩, ⟨(some 35), (.fa (.t 6) 2), none⟩, ⟨none, (.st (.t 35) (.t 34) 1), none⟩]) 
  (.seq (.reg [] [⟨(some 36), (.ld (.t 6) (some 3)), none⟩, ⟨(some 37), (.ifc 42 (.t 36)), none⟩, ⟨(some 38), (.mv (.t 7)), none⟩, ⟨(some 2), (.mv (.t 37)), none⟩, ⟨(some 3), (.mv (.t 38)), none⟩]) .ret)))) .skip)))))))) 
  (.seq (.reg [] [⟨(some 2), (.mv (.c (.v .nilIface))), none⟩, ⟨(some 3), (.mv (.c (.v (.int .i64 9)))), none⟩]) .ret))), [(.t 2), (.t 3)]⟩

def c24 : MF := ⟨2, 13, 
  (.seq (.reg [] [⟨(some 4), (.mv (.c (.v (.int .i64 0)))), none⟩]) 
  (.seq (.block 0 
  (.seq (.reg [] [⟨(some 6), (.mv (.t 0)), none⟩, ⟨(some 7), (.eqn false 3 (.t 6)), none⟩, ⟨(some 5), (.mv (.t 7)), none⟩]) (.cond (.t 5) 
  (.seq (.reg [] [⟨(some 4), (.mv (.c (.v (.int .i64 1)))), none⟩]) .ret) 
  (.seq (.reg [] [⟨(some 9), (.mv (.t 0)), none⟩, ⟨(some 10), (.mv (.t 1)), none⟩, ⟨(some 11), (.call (.c (.f 22 [])) [(.t 9), (.t 10)]), none⟩, ⟨(some 12), (.bin .eql (.t 11) (.c (.v (.int .i64 0)))), none⟩, ⟨(some 8), (.mv (.t 12)), none⟩]) (.cond (.t 8) 
  (.seq (.reg [] [⟨(some 4), (.mv (.c (.v (.int .i64 7)))), none⟩]) .ret) .skip))))) 
  (.seq (.reg [] [⟨(some 4), (.mv (.c (.v (.int .i64 0)))), none⟩]) .ret))), [(.t 4)]⟩

def c25 : MF := ⟨1, 8, 
  (.seq (.reg [] [⟨(some 2), (.mv (.c (.v (.slice none 0 0)))), none⟩]) 
  (.seq 
  (.seq (.reg [] [⟨(some 3), (.mv (.t 0)), none⟩, ⟨(some 4), (.eqn false 0 (.t 3)), none⟩]) (.cond (.t 4) 
  (.seq (.reg [] [⟨(some 2), (.mv (.c (.v (.slice none 0 0)))), none⟩]) .ret) .skip)) 
  (.seq (.reg [] [⟨(some 5), (.bsl [(.v (.int .i64 0)), (.v (.int .i64 0)), (.v (.int .i64 0)), (.v (.int .i64 0)), (.v (.int .i64 0)), (.v (.int .i64 0)), (.v (.int .i64 0)), (.v (.int .i64 0)), (.v (.int .i64 0))] 0 []), none⟩, ⟨(some 6), (.mv (.t 0)), none⟩, ⟨(some 7), (.app (.t 5) (.t 6) 9 72), none⟩, ⟨(some 2), (.mv (.t 7)), none⟩]) .ret))), [(.t 2)]⟩

def c26 : MF := ⟨1, 8, 
  (.seq (.reg [] [⟨(some 2), (.mv (.c (.v (.slice none 0 0)))), none⟩]) 
  (.seq 
  (.seq (.reg [] [⟨(some 3), (.mv (.t 0)), none⟩, ⟨(some 4), (.eqn false 0 (.t 3)), none⟩]) (.cond (.t 4) 
  (.seq (.reg [] [⟨(some 2), (.mv (.c (.v (.slice none 0 0)))), none⟩]) .ret) .skip)) 
  (.seq (.reg [] [⟨(some 5), (.bsl [(.v (.int .i64 0))] 0 []), none⟩, ⟨(some 6), (.mv (.t 0)), none⟩, ⟨(some 7), (.app (.t 5) (.t 6) 1 8), none⟩, ⟨(some 2), (.mv (.t 7)), none⟩]) .ret))), [(.t 2)]⟩

def c30 : MF := ⟨1, 9, 
  (.seq (.reg [] [⟨(some 2), (.mv (.c (.v (.slice none 0 0)))), none⟩]) 
  (.seq (.reg [] [⟨(some 4), (.mv (.t 0)), none⟩, ⟨(some 5), (.call (.c (.f 34 [])) [(.t 4)]), none⟩, ⟨(some 3), (.mv (.t 5)), none⟩]) 
  (.seq (.reg [] [⟨(some 6), (.mv (.t 3)), none⟩, ⟨(some 7), (.call (.c (.f 35 [])) [(.t 6)]), none⟩]) 
  (.seq (.reg [] [⟨(some 8), (.mv (.t 3)), none⟩, ⟨(some 2), (.mv (.t 8)), none⟩]) .ret)))), [(.t 2)]⟩

def c31 : MF := ⟨1, 4, 
  (.seq (.reg [] [⟨(some 1), (.box (.t 0)), none⟩, ⟨(some 2), (.mv (.c (.v .nilFunc))), none⟩]) 
  (.seq (.reg [] [⟨(some 3), (.mkf 36 [(.t 1)]), none⟩, ⟨(some 2), (.mv (.t 3)), none⟩]) .ret)), [(.t 2)]⟩

def c32b0 : MC := 
  (.seq (.reg [] [⟨(some 40), (.bin .lss (.t 39) (.t 38)), none⟩]) 
  (.seq (.cond (.t 40) .skip (.exit 1)) 
  (.seq (.block 2 
  (.seq (.reg [] [⟨(some 41), (.ixs (.t 37) (.t 39) 1), none⟩, ⟨(some 42), (.ld (.t 41) none), none⟩, ⟨(some 4), (.mv (.t 42)), none⟩]) 
  (.seq (.reg [] [⟨(some 44), (.mv (.t 4)), none⟩, ⟨(some 45), (.call (.c (.f 37 [])) [(.t 44)]), none⟩, ⟨(some 43), (.mv (.t 45)), none⟩, ⟨(some 46), (.ext (.t 43) 0), none⟩, ⟨(some 47), (.ext (.t 43) 1), none⟩, ⟨(some 5), (.box (.c (.agg [(.v (.int .i64 0)), (.v (.int .i64 0)), (.v (.int .i64 0)), (.v (.int .i64 0))]))), none⟩, ⟨none, (.st (.t 5) (.t 46) 4), none⟩, ⟨(some 6), (.mv (.t 47)), none⟩]) 
  (.seq (.reg [] [⟨(some 48), (.mv (.t 6)), none⟩, ⟨(some 49), (.bin .neq (.t 48) (.c (.v (.int .i64 0)))), none⟩]) (.cond (.t 49) 
  (.seq (.reg [] [⟨(some 50), (.mv (.t 6)), none⟩, ⟨(some 2), (.mv (.t 50)), none⟩]) .ret) .skip))))) (.reg [] [⟨(some 51), (.bin .add (.t 39) (.c (.v (.int .i64 1)))), none⟩, ⟨(some 39), (.mv (.t 51)), none⟩]))))

def c32 : MF := ⟨1, 52, 
  (.seq (.reg [] [⟨(some 1), (.box (.t 0)), none⟩, ⟨(some 2), (.mv (.c (.v (.int .i64 0)))), none⟩]) 
  (.seq (.block 0 
  (.seq (.reg [] [⟨(some 8), (.fa (.t 1) 0), none⟩, ⟨(some 9), (.ld (.t 8) none), none⟩, ⟨(some 10), (.bin .lss (.t 9) (.c (.v (.int .i64 1)))), none⟩, ⟨(some 11), (.mv (.t 10)), none⟩, ⟨(some 12), (.fa (.t 1) 0), (some (11, false))⟩, ⟨(some 13), (.ld (.t 12) none), (some (11, false))⟩, ⟨(some 14), (.bin .gtr (.t 13) (.c (.v (.int .i64 64)))), (some (11, false))⟩, ⟨(some 15), (.pick (.t 11) (.c (.v (.bool true))) (.t 14)), none⟩, ⟨(some 16), (.mv (.t 15)), none⟩, ⟨(some 17), (.fa (.t 1) 1), (some (16, false))⟩, ⟨(some 18), (.ld (.t 17) none), (some (16, false))⟩, ⟨(some 19), (.bin .lss (.t 18) (.c (.v (.int .i64 1)))), (some (16, false))⟩, ⟨(some 20), (.pick (.t 16) (.c (.v (.bool true))) (.t 19)), none⟩, ⟨(some 21), (.mv (.t 20)), none⟩, ⟨(some 22), (.fa (.t 1) 1), (some (21, false))⟩, ⟨(some 23), (.ld (.t 22) none), (some (21, false))⟩, ⟨(some 24), (.bin .gtr (.t 23) (.c (.v (.int .i64 64)))), (some (21, false))⟩, ⟨(some 25), (.pick (.t 21) (.c (.v (.bool true))) (.t 24)), none⟩, ⟨(some 7), (.mv (.t 25)), none⟩]) (.cond (.t 7) 
  (.seq (.reg [] [⟨(some 2), (.mv (.c (.v (.int .i64 3)))), none⟩]) .ret) 
  (.seq (.reg [] [⟨(some 27), (.fa (.t 1) 2), none⟩, ⟨(some 28), (.ld (.t 27) none), none⟩, ⟨(some 29), (.len (.t 28)), none⟩, ⟨(some 30), (.fa (.t 1) 0), none⟩, ⟨(some 31), (.ld (.t 30) none), none⟩, ⟨(some 32), (.fa (.t 1) 1), none⟩, ⟨(some 33), (.ld (.t 32) none), none⟩, ⟨(some 34), (.bin .mul (.t 31) (.t 33)), none⟩, ⟨(some 35), (.bin .neq (.t 29) (.t 34)), none⟩, ⟨(some 26), (.mv (.t 35)), none⟩]) (.cond (.t 26) 
  (.seq (.reg [] [⟨(some 2), (.mv (.c (.v (.int .i64 6)))), none⟩]) .ret) .skip))))) 
  (.seq 
  (.seq (.reg [] [⟨(some 36), (.fa (.t 1) 2), none⟩, ⟨(some 37), (.ld (.t 36) none), none⟩, ⟨(some 38), (.len (.t 37)), none⟩, ⟨(some 39), (.mv (.c (.v (.int .i64 0)))), none⟩]) (.block 1 
  (.loopN [51, 2, 50, 49, 48, 47, 46, 43, 45, 44, 42, 41, 40] c32b0))) 
  (.seq (.reg [] [⟨(some 2), (.mv (.c (.v (.int .i64 0)))), none⟩]) .ret)))), [(.t 2)]⟩

def c34 : MF := ⟨1, 5, 
  (.seq (.reg [] [⟨(some 2), (.mv (.c (.v (.slice none 0 0)))), none⟩]) 
  (.seq (.reg [] [⟨(some 3), (.mv (.t 0)), none⟩, ⟨(some 4), (.call (.c (.f 38 [])) [(.c (.v (.slice none 0 0))), (.t 3)]), none⟩, ⟨(some 2), (.mv (.t 4)), none⟩]) .ret)), [(.t 2)]⟩

def c35 : MF := ⟨1, 11, 
  (.seq (.reg [] [⟨(some 3), (.mv (.t 0)), none⟩, ⟨(some 4), (.len (.t 3)), none⟩, ⟨(some 2), (.mv (.t 4)), none⟩]) (.reg [] [⟨(some 5), (.mv (.t 0)), none⟩, ⟨(some 6), (.mv (.t 2)), none⟩, ⟨(some 7), (.mv (.t 2)), none⟩, ⟨(some 8), (.conv .u64 (.t 7)), none⟩, ⟨(some 9), (.call (.c (.f 40 [])) [(.t 8)]), none⟩, ⟨(some 10), (.call (.c (.f 39 [])) [(.t 5), (.c (.v (.int .i64 0))), (.t 6), (.t 9)]), none⟩])), []⟩

def c36b0 : MC := 
  (.seq (.reg [] [⟨(some 6), .stk, none⟩, ⟨(some 7), (.ext (.t 6) 0), none⟩]) 
  (.seq (.cond (.t 7) .skip (.exit 0)) (.block 1 
  (.seq (.reg [] [⟨(some 8), .stk, none⟩, ⟨(some 9), (.ext (.t 8) 0), none⟩, ⟨(some 3), (.mv (.t 9)), none⟩]) 
  (.seq (.reg [] [⟨(some 10), (.mv (.t 0)), none⟩, ⟨(some 11), (.mv (.t 3)), none⟩, ⟨(some 12), (.call (.t 10) [(.t 11)]), none⟩, ⟨(some 13), (.un .not (.t 12)), none⟩]) (.cond (.t 13) .ret .skip))))))

def c36 : MF := ⟨2, 14, 
  (.seq (.reg [] [⟨(some 4), (.ld (.t 1) none), none⟩, ⟨(some 5), .stk, none⟩]) (.block 0 
  (.loopN [13, 12, 11, 10, 9, 8, 7, 6] c36b0))), []⟩

def c37 : MF := ⟨1, 22, 
  (.seq (.reg [] [⟨(some 2), (.box (.c (.agg [(.v (.int .i64 0)), (.v (.int .i64 0)), (.v (.int .i64 0)), (.v (.int .i64 0))]))), none⟩, ⟨(some 3), (.mv (.c (.v (.int .i64 0)))), none⟩]) 
  (.seq 
  (.seq (.reg [] [⟨(some 4), (.mv (.t 0)), none⟩, ⟨(some 5), (.bin .lss (.t 4) (.c (.v (.int .i64 0)))), none⟩, ⟨(some 6), (.mv (.t 5)), none⟩, ⟨(some 7), (.mv (.t 0)), (some (6, false))⟩, ⟨(some 8), (.bin .geq (.t 7) (.c (.v (.int .i64 4294967296)))), (some (6, false))⟩, ⟨(some 9), (.pick (.t 6) (.c (.v (.bool true))) (.t 8)), none⟩]) (.cond (.t 9) 
  (.seq (.reg [] [⟨(some 10), (.bld [(.v (.int .i64 0)), (.v (.int .i64 0)), (.v (.int .i64 0)), (.v (.int .i64 0))] []), none⟩, ⟨none, (.st (.t 2) (.t 10) 4), none⟩, ⟨(some 3), (.mv (.c (.v (.int .i64 3)))), none⟩]) .ret) .skip)) 
  (.seq (.reg [] [⟨(some 11), (.mv (.t 0)), none⟩, ⟨(some 12), (.bin .shr (.t 11) (.c (.v (.int .u64 24)))), none⟩, ⟨(some 13), (.mv (.t 0)), none⟩, ⟨(some 14), (.bin .shr (.t 13) (.c (.v (.int .u64 16)))), none⟩, ⟨(some 15), (.bin .and (.t 14) (.c (.v (.int .i64 255)))), none⟩, ⟨(some 16), (.mv (.t 0)), none⟩, ⟨(some 17), (.bin .shr (.t 16) (.c (.v (.int .u64 8)))), none⟩, ⟨(some 18), (.bin .and (.t 17) (.c (.v (.int .i64 255)))), none⟩, ⟨(some 19), (.mv (.t 0)), none⟩, ⟨(some 20), (.bin .and (.t 19) (.c (.v (.int .i64 255)))), none⟩, ⟨(some 21), (.bld [(.v (.int .i64 0)), (.v (.int .i64 0)), (.v (.int .i64 0)), (.v (.int .i64 0))] [(0, (1, (.t 12))), (1, (1, (.t 15))), (2, (1, (.t 18))), (3, (1, (.t 20)))]), none⟩, ⟨none, (.st (.t 2) (.t 21) 4), none⟩, ⟨(some 3), (.mv (.c (.v (.int .i64 0)))), none⟩]) .ret))), [(.cell 2 (some 4)), (.t 3)]⟩

def c38 : MF := ⟨2, 13, 
  (.seq (.reg [] [⟨(some 2), (.box (.t 0)), none⟩, ⟨(some 4), (.mv (.c (.v (.slice none 0 0)))), none⟩]) 
  (.seq 
  (.seq (.reg [] [⟨(some 6), (.mv (.t 1)), none⟩]) (.block 0 .stuck)) 
  (.seq (.reg [] [⟨(some 12), (.ld (.t 2) none), none⟩, ⟨(some 4), (.mv (.t 12)), none⟩]) .ret))), [(.t 4)]⟩

def c39b0 : MC := (.block 1 
  (.seq (.reg [] [⟨(some 19), (.mv (.t 2)), none⟩, ⟨(some 20), (.mv (.t 1)), none⟩, ⟨(some 21), (.bin .sub (.t 19) (.t 20)), none⟩, ⟨(some 10), (.mv (.t 21)), none⟩]) 
  (.seq 
  (.seq (.reg [] [⟨(some 22), (.mv (.t 10)), none⟩, ⟨(some 23), (.bin .leq (.t 22) (.c (.v (.int .i64 12)))), none⟩]) (.cond (.t 23) 
  (.seq (.reg [] [⟨(some 24), (.mv (.t 0)), none⟩, ⟨(some 25), (.mv (.t 1)), none⟩, ⟨(some 26), (.mv (.t 2)), none⟩, ⟨(some 27), (.call (.c (.f 41 [])) [(.t 24), (.t 25), (.t 26)]), none⟩]) .ret) .skip)) 
  (.seq 
  (.seq (.reg [] [⟨(some 28), (.mv (.t 3)), none⟩, ⟨(some 29), (.bin .eql (.t 28) (.c (.v (.int .i64 0)))), none⟩]) (.cond (.t 29) 
  (.seq (.reg [] [⟨(some 30), (.mv (.t 0)), none⟩, ⟨(some 31), (.mv (.t 1)), none⟩, ⟨(some 32), (.mv (.t 2)), none⟩, ⟨(some 33), (.call (.c (.f 42 [])) [(.t 30), (.t 31), (.t 32)]), none⟩]) .ret) .skip)) 
  (.seq 
  (.seq (.reg [] [⟨(some 34), (.mv (.t 8)), none⟩, ⟨(some 35), (.un .not (.t 34)), none⟩]) (.cond (.t 35) 
  (.seq (.reg [] [⟨(some 36), (.mv (.t 0)), none⟩, ⟨(some 37), (.mv (.t 1)), none⟩, ⟨(some 38), (.mv (.t 2)), none⟩, ⟨(some 39), (.call (.c (.f 43 [])) [(.t 36), (.t 37), (.t 38)]), none⟩]) (.reg [] [⟨(some 40), (.mv (.t 3)), none⟩, ⟨(some 41), (.bin .sub (.t 40) (.c (.v (.int .i64 1)))), none⟩, ⟨(some 3), (.mv (.t 41)), none⟩])) .skip)) 
  (.seq (.reg [] [⟨(some 43), (.mv (.t 0)), none⟩, ⟨(some 44), (.mv (.t 1)), none⟩, ⟨(some 45), (.mv (.t 2)), none⟩, ⟨(some 46), (.call (.c (.f 44 [])) [(.t 43), (.t 44), (.t 45)]), none⟩, ⟨(some 42), (.mv (.t 46)), none⟩, ⟨(some 47), (.ext (.t 42) 0), none⟩, ⟨(some 48), (.ext (.t 42) 1), none⟩, ⟨(some 11), (.mv (.t 47)), none⟩, ⟨(some 12), (.mv (.t 48)), none⟩]) 
  (.seq 
  (.seq (.reg [] [⟨(some 49), (.mv (.t 12)), none⟩, ⟨(some 50), (.bin .eql (.t 49) (.c (.v (.int .i64 2)))), none⟩]) (.cond (.t 50) 
  (.seq (.reg [] [⟨(some 51), (.mv (.t 0)), none⟩, ⟨(some 52), (.mv (.t 1)), none⟩, ⟨(some 53), (.mv (.t 2)), none⟩, ⟨(some 54), (.call (.c (.f 45 [])) [(.t 51), (.t 52), (.t 53)]), none⟩]) 
  (.seq (.reg [] [⟨(some 55), (.mv (.t 2)), none⟩, ⟨(some 56), (.bin .sub (.t 55) (.c (.v (.int .i64 1)))), none⟩, ⟨(some 57), (.mv (.t 11)), none⟩, ⟨(some 58), (.mv (.t 1)), none⟩, ⟨(some 59), (.bin .sub (.t 57) (.t 58)), none⟩, ⟨(some 60), (.bin .sub (.t 56) (.t 59)), none⟩, ⟨(some 11), (.mv (.t 60)), none⟩]) (.reg [] [⟨(some 12), (.mv (.c (.v (.int .i64 1)))), none⟩]))) .skip)) 
  (.seq 
  (.seq (.reg [] [⟨(some 61), (.mv (.t 8)), none⟩, ⟨(some 62), (.mv (.t 61)), none⟩, ⟨(some 63), (.mv (.t 9)), (some (62, true))⟩, ⟨(some 64), (.pick (.t 62) (.t 63) (.c (.v (.bool false)))), none⟩, ⟨(some 65), (.mv (.t 64)), none⟩, ⟨(some 66), (.mv (.t 12)), (some (65, true))⟩, ⟨(some 67), (.bin .eql (.t 66) (.c (.v (.int .i64 1)))), (some (65, true))⟩, ⟨(some 68), (.pick (.t 65) (.t 67) (.c (.v (.bool false)))), none⟩]) (.cond (.t 68) 
  (.seq (.reg [] [⟨(some 69), (.mv (.t 0)), none⟩, ⟨(some 70), (.mv (.t 1)), none⟩, ⟨(some 71), (.mv (.t 2)), none⟩, ⟨(some 72), (.call (.c (.f 46 [])) [(.t 69), (.t 70), (.t 71)]), none⟩]) (.cond (.t 72) .ret .skip)) .skip)) 
  (.seq 
  (.seq (.reg [⟨(some 73), (.mv (.t 1)), none⟩, ⟨(some 74), (.bin .gtr (.t 73) (.c (.v (.int .i64 0)))), none⟩, ⟨(some 75), (.mv (.t 74)), none⟩, ⟨(some 76), (.mv (.t 0)), (some (75, true))⟩, ⟨(some 77), (.mv (.t 1)), (some (75, true))⟩, ⟨(some 78), (.bin .sub (.t 77) (.c (.v (.int .i64 1)))), (some (75, true))⟩, ⟨(some 79), (.ixs (.t 76) (.t 78) 1), (some (75, true))⟩, ⟨(some 80), (.ld (.t 79) none), (some (75, true))⟩, ⟨(some 81), (.mv (.t 0)), (some (75, true))⟩, ⟨(some 82), (.mv (.t 11)), (some (75, true))⟩, ⟨(some 83), (.ixs (.t 81) (.t 82) 1), (some (75, true))⟩, ⟨(some 84), (.ld (.t 83) none), (some (75, true))⟩] [⟨(some 85), (.call (.c (.f 47 [])) [(.t 80), (.t 84)]), (some (75, true))⟩, ⟨(some 86), (.un .not (.t 85)), (some (75, true))⟩, ⟨(some 87), (.pick (.t 75) (.t 86) (.c (.v (.bool false)))), none⟩]) (.cond (.t 87) 
  (.seq (.reg [] [⟨(some 88), (.mv (.t 0)), none⟩, ⟨(some 89), (.mv (.t 1)), none⟩, ⟨(some 90), (.mv (.t 2)), none⟩, ⟨(some 91), (.mv (.t 11)), none⟩, ⟨(some 92), (.call (.c (.f 48 [])) [(.t 88), (.t 89), (.t 90), (.t 91)]), none⟩, ⟨(some 13), (.mv (.t 92)), none⟩]) 
  (.seq (.reg [] [⟨(some 93), (.mv (.t 13)), none⟩, ⟨(some 1), (.mv (.t 93)), none⟩]) (.exit 1))) .skip)) 
  (.seq (.reg [] [⟨(some 95), (.mv (.t 0)), none⟩, ⟨(some 96), (.mv (.t 1)), none⟩, ⟨(some 97), (.mv (.t 2)), none⟩, ⟨(some 98), (.mv (.t 11)), none⟩, ⟨(some 99), (.call (.c (.f 49 [])) [(.t 95), (.t 96), (.t 97), (.t 98)]), none⟩, ⟨(some 94), (.mv (.t 99)), none⟩, ⟨(some 100), (.ext (.t 94) 0), none⟩, ⟨(some 101), (.ext (.t 94) 1), none⟩, ⟨(some 14), (.mv (.t 100)), none⟩, ⟨(some 15), (.mv (.t 101)), none⟩]) 
  (.seq (.reg [] [⟨(some 102), (.mv (.t 15)), none⟩, ⟨(some 9), (.mv (.t 102)), none⟩]) 
  (.seq (.reg [] [⟨(some 103), (.mv (.t 14)), none⟩, ⟨(some 104), (.mv (.t 1)), none⟩, ⟨(some 105), (.bin .sub (.t 103) (.t 104)), none⟩, ⟨(some 106), (.mv (.t 2)), none⟩, ⟨(some 107), (.mv (.t 14)), none⟩, ⟨(some 108), (.bin .sub (.t 106) (.t 107)), none⟩, ⟨(some 16), (.mv (.t 105)), none⟩, ⟨(some 17), (.mv (.t 108)), none⟩]) 
  (.seq (.reg [] [⟨(some 109), (.mv (.t 10)), none⟩, ⟨(some 110), (.bin .quo (.t 109) (.c (.v (.int .i64 8)))), none⟩, ⟨(some 18), (.mv (.t 110)), none⟩]) 
  (.seq (.reg [] [⟨(some 111), (.mv (.t 16)), none⟩, ⟨(some 112), (.mv (.t 17)), none⟩, ⟨(some 113), (.bin .lss (.t 111) (.t 112)), none⟩]) (.cond (.t 113) 
  (.seq (.reg [] [⟨(some 114), (.mv (.t 16)), none⟩, ⟨(some 115), (.mv (.t 18)), none⟩, ⟨(some 116), (.bin .geq (.t 114) (.t 115)), none⟩, ⟨(some 8), (.mv (.t 116)), none⟩]) 
  (.seq (.reg [] [⟨(some 117), (.mv (.t 0)), none⟩, ⟨(some 118), (.mv (.t 1)), none⟩, ⟨(some 119), (.mv (.t 14)), none⟩, ⟨(some 120), (.mv (.t 3)), none⟩, ⟨(some 121), (.call (.c (.f 39 [])) [(.t 117), (.t 118), (.t 119), (.t 120)]), none⟩]) (.reg [] [⟨(some 122), (.mv (.t 14)), none⟩, ⟨(some 123), (.bin .add (.t 122) (.c (.v (.int .i64 1)))), none⟩, ⟨(some 1), (.mv (.t 123)), none⟩]))) 
  (.seq (.reg [] [⟨(some 124), (.mv (.t 17)), none⟩, ⟨(some 125), (.mv (.t 18)), none⟩, ⟨(some 126), (.bin .geq (.t 124) (.t 125)), none⟩, ⟨(some 8), (.mv (.t 126)), none⟩]) 
  (.seq (.reg [] [⟨(some 127), (.mv (.t 0)), none⟩, ⟨(some 128), (.mv (.t 14)), none⟩, ⟨(some 129), (.bin .add (.t 128) (.c (.v (.int .i64 1)))), none⟩, ⟨(some 130), (.mv (.t 2)), none⟩, ⟨(some 131), (.mv (.t 3)), none⟩, ⟨(some 132), (.call (.c (.f 39 [])) [(.t 127), (.t 129), (.t 130), (.t 131)]), none⟩]) (.reg [] [⟨(some 133), (.mv (.t 14)), none⟩, ⟨(some 2), (.mv (.t 133)), none⟩]))))))))))))))))))

def c39 : MF := ⟨4, 134, 
  (.seq (.reg [] [⟨(some 8), (.mv (.c (.v (.bool true)))), none⟩]) 
  (.seq (.reg [] [⟨(some 9), (.mv (.c (.v (.bool true)))), none⟩]) (.block 0 
  (.loopN [133, 132, 131, 130, 129, 128, 127, 126, 125, 124, 123, 122, 121, 120, 119, 118, 117, 116, 115, 114, 113, 112, 111, 110, 109, 108, 107, 106, 105, 104, 103, 102, 101, 100, 94, 99, 98, 97, 96, 95, 93, 92, 91, 90, 89, 88, 87, 86, 85, 84, 83, 82, 81, 80, 79, 78, 77, 76, 75, 74, 73, 72, 71, 70, 69, 68, 67, 66, 65, 64, 63, 62, 61, 60, 59, 58, 57, 56, 55, 54, 53, 52, 51, 50, 49, 48, 47, 42, 46, 45, 44, 43, 41, 40, 39, 38, 37, 36, 35, 34, 33, 32, 31, 30, 29, 28, 27, 26, 25, 24, 23, 22, 21, 20, 19] c39b0)))), []⟩

def c40 : MF := ⟨1, 8, 
  (.seq (.reg [] [⟨(some 2), (.mv (.c (.v (.int .i64 0)))), none⟩]) 
  (.seq (.cond (.c (.v (.bool false))) 
  (.seq (.reg [] [⟨(some 3), (.mv (.t 0)), none⟩, ⟨(some 4), (.conv .u32 (.t 3)), none⟩, ⟨(some 5), (.call (.c (.f 50 [])) [(.t 4)]), none⟩, ⟨(some 2), (.mv (.t 5)), none⟩]) .ret) .skip) 
  (.seq (.reg [] [⟨(some 6), (.mv (.t 0)), none⟩, ⟨(some 7), (.call (.c (.f 51 [])) [(.t 6)]), none⟩, ⟨(some 2), (.mv (.t 7)), none⟩]) .ret))), [(.t 2)]⟩

def c41b0 : MC := 
  (.seq 
  (.seq (.reg [⟨(some 16), (.mv (.t 7)), none⟩, ⟨(some 17), (.mv (.t 1)), none⟩, ⟨(some 18), (.bin .gtr (.t 16) (.t 17)), none⟩, ⟨(some 19), (.mv (.t 18)), none⟩, ⟨(some 20), (.mv (.t 0)), (some (19, true))⟩, ⟨(some 21), (.mv (.t 7)), (some (19, true))⟩, ⟨(some 22), (.ixs (.t 20) (.t 21) 1), (some (19, true))⟩, ⟨(some 23), (.ld (.t 22) none), (some (19, true))⟩, ⟨(some 24), (.mv (.t 0)), (some (19, true))⟩, ⟨(some 25), (.mv (.t 7)), (some (19, true))⟩, ⟨(some 26), (.bin .sub (.t 25) (.c (.v (.int .i64 1)))), (some (19, true))⟩, ⟨(some 27), (.ixs (.t 24) (.t 26) 1), (some (19, true))⟩, ⟨(some 28), (.ld (.t 27) none), (some (19, true))⟩] [⟨(some 29), (.call (.c (.f 47 [])) [(.t 23), (.t 28)]), (some (19, true))⟩, ⟨(some 30), (.pick (.t 19) (.t 29) (.c (.v (.bool false)))), none⟩]) (.cond (.t 30) .skip (.exit 2))) 
  (.seq (.block 3 (.regS [(47, (0, 1))] [⟨(some 33), (.mv (.t 0)), none⟩, ⟨(some 34), (.mv (.t 7)), none⟩, ⟨(some 35), (.mv (.t 0)), none⟩, ⟨(some 36), (.mv (.t 7)), none⟩, ⟨(some 37), (.bin .sub (.t 36) (.c (.v (.int .i64 1)))), none⟩, ⟨(some 38), (.mv (.t 0)), none⟩, ⟨(some 39), (.mv (.t 7)), none⟩, ⟨(some 40), (.bin .sub (.t 39) (.c (.v (.int .i64 1)))), none⟩, ⟨(some 41), (.ixs (.t 38) (.t 40) 1), none⟩, ⟨(some 42), (.ld (.t 41) none), none⟩, ⟨(some 43), (.mv (.t 0)), none⟩, ⟨(some 44), (.mv (.t 7)), none⟩, ⟨(some 45), (.ixs (.t 43) (.t 44) 1), none⟩, ⟨(some 46), (.ld (.t 45) none), none⟩, ⟨(some 47), (.ixs (.t 33) (.t 34) 1), none⟩, ⟨none, (.st (.t 47) (.t 42) 1), none⟩] [⟨(some 48), (.ixs (.t 35) (.t 37) 1), none⟩, ⟨none, (.st (.t 48) (.t 46) 1), none⟩])) (.reg [] [⟨(some 31), (.mv (.t 7)), none⟩, ⟨(some 32), (.bin .sub (.t 31) (.c (.v (.int .i64 1)))), none⟩, ⟨(some 7), (.mv (.t 32)), none⟩])))

def c41b1 : MC := 
  (.seq 
  (.seq (.reg [] [⟨(some 10), (.mv (.t 6)), none⟩, ⟨(some 11), (.mv (.t 2)), none⟩, ⟨(some 12), (.bin .lss (.t 10) (.t 11)), none⟩]) (.cond (.t 12) .skip (.exit 0))) 
  (.seq (.block 1 
  (.seq (.reg [] [⟨(some 15), (.mv (.t 6)), none⟩, ⟨(some 7), (.mv (.t 15)), none⟩]) (.block 2 
  (.loopN [32, 31, 48, 47, 46, 45, 44, 43, 42, 41, 40, 39, 38, 37, 36, 35, 34, 33, 30, 29, 28, 27, 26, 25, 24, 23, 22, 21, 20, 19, 18, 17, 16] c41b0)))) (.reg [] [⟨(some 13), (.mv (.t 6)), none⟩, ⟨(some 14), (.bin .add (.t 13) (.c (.v (.int .i64 1)))), none⟩, ⟨(some 6), (.mv (.t 14)), none⟩])))

def c41 : MF := ⟨3, 49, 
  (.seq (.reg [] [⟨(some 8), (.mv (.t 1)), none⟩, ⟨(some 9), (.bin .add (.t 8) (.c (.v (.int .i64 1)))), none⟩, ⟨(some 6), (.mv (.t 9)), none⟩]) (.block 0 
  (.loopN [14, 13, 32, 31, 48, 47, 46, 45, 44, 43, 42, 41, 40, 39, 38, 37, 36, 35, 34, 33, 30, 29, 28, 27, 26, 25, 24, 23, 22, 21, 20, 19, 18, 17, 16, 15, 12, 11, 10] c41b1))), []⟩

def c42b0 : MC := 
  (.seq 
  (.seq (.reg [] [⟨(some 29), (.mv (.t 10)), none⟩, ⟨(some 30), (.bin .geq (.t 29) (.c (.v (.int .i64 0)))), none⟩]) (.cond (.t 30) .skip (.exit 2))) 
  (.seq (.block 3 
  (.seq (.regS [(49, (0, 1))] [⟨(some 33), (.mv (.t 0)), none⟩, ⟨(some 34), (.mv (.t 6)), none⟩, ⟨(some 35), (.mv (.t 0)), none⟩, ⟨(some 36), (.mv (.t 6)), none⟩, ⟨(some 37), (.mv (.t 10)), none⟩, ⟨(some 38), (.bin .add (.t 36) (.t 37)), none⟩, ⟨(some 39), (.mv (.t 0)), none⟩, ⟨(some 40), (.mv (.t 6)), none⟩, ⟨(some 41), (.mv (.t 10)), none⟩, ⟨(some 42), (.bin .add (.t 40) (.t 41)), none⟩, ⟨(some 43), (.ixs (.t 39) (.t 42) 1), none⟩, ⟨(some 44), (.ld (.t 43) none), none⟩, ⟨(some 45), (.mv (.t 0)), none⟩, ⟨(some 46), (.mv (.t 6)), none⟩, ⟨(some 47), (.ixs (.t 45) (.t 46) 1), none⟩, ⟨(some 48), (.ld (.t 47) none), none⟩, ⟨(some 49), (.ixs (.t 33) (.t 34) 1), none⟩, ⟨none, (.st (.t 49) (.t 44) 1), none⟩] [⟨(some 50), (.ixs (.t 35) (.t 38) 1), none⟩, ⟨none, (.st (.t 50) (.t 48) 1), none⟩]) (.reg [] [⟨(some 51), (.mv (.t 0)), none⟩, ⟨(some 52), (.mv (.t 7)), none⟩, ⟨(some 53), (.mv (.t 10)), none⟩, ⟨(some 54), (.mv (.t 6)), none⟩, ⟨(some 55), (.call (.c (.f 52 [])) [(.t 51), (.t 52), (.t 53), (.t 54)]), none⟩]))) (.reg [] [⟨(some 31), (.mv (.t 10)), none⟩, ⟨(some 32), (.bin .sub (.t 31) (.c (.v (.int .i64 1)))), none⟩, ⟨(some 10), (.mv (.t 32)), none⟩])))

def c42b1 : MC := 
  (.seq 
  (.seq (.reg [] [⟨(some 18), (.mv (.t 9)), none⟩, ⟨(some 19), (.bin .geq (.t 18) (.c (.v (.int .i64 0)))), none⟩]) (.cond (.t 19) .skip (.exit 0))) 
  (.seq (.block 1 (.reg [] [⟨(some 22), (.mv (.t 0)), none⟩, ⟨(some 23), (.mv (.t 9)), none⟩, ⟨(some 24), (.mv (.t 8)), none⟩, ⟨(some 25), (.mv (.t 6)), none⟩, ⟨(some 26), (.call (.c (.f 52 [])) [(.t 22), (.t 23), (.t 24), (.t 25)]), none⟩])) (.reg [] [⟨(some 20), (.mv (.t 9)), none⟩, ⟨(some 21), (.bin .sub (.t 20) (.c (.v (.int .i64 1)))), none⟩, ⟨(some 9), (.mv (.t 21)), none⟩])))

def c42 : MF := ⟨3, 56, 
  (.seq (.reg [] [⟨(some 11), (.mv (.t 1)), none⟩, ⟨(some 6), (.mv (.t 11)), none⟩]) 
  (.seq (.reg [] [⟨(some 7), (.mv (.c (.v (.int .i64 0)))), none⟩]) 
  (.seq (.reg [] [⟨(some 12), (.mv (.t 2)), none⟩, ⟨(some 13), (.mv (.t 1)), none⟩, ⟨(some 14), (.bin .sub (.t 12) (.t 13)), none⟩, ⟨(some 8), (.mv (.t 14)), none⟩]) 
  (.seq 
  (.seq (.reg [] [⟨(some 15), (.mv (.t 8)), none⟩, ⟨(some 16), (.bin .sub (.t 15) (.c (.v (.int .i64 1)))), none⟩, ⟨(some 17), (.bin .quo (.t 16) (.c (.v (.int .i64 2)))), none⟩, ⟨(some 9), (.mv (.t 17)), none⟩]) (.block 0 
  (.loopN [21, 20, 26, 25, 24, 23, 22, 19, 18] c42b1))) 
  (.seq (.reg [] [⟨(some 27), (.mv (.t 8)), none⟩, ⟨(some 28), (.bin .sub (.t 27) (.c (.v (.int .i64 1)))), none⟩, ⟨(some 10), (.mv (.t 28)), none⟩]) (.block 2 
  (.loopN [32, 31, 55, 54, 53, 52, 51, 50, 49, 48, 47, 46, 45, 44, 43, 42, 41, 40, 39, 38, 37, 36, 35, 34, 33, 30, 29] c42b0))))))), []⟩

def c43b0 : MC := 
  (.seq 
  (.seq (.reg [] [⟨(some 26), (.mv (.t 9)), none⟩, ⟨(some 27), (.mv (.t 1)), none⟩, ⟨(some 28), (.mv (.t 6)), none⟩, ⟨(some 29), (.bin .quo (.t 28) (.c (.v (.int .i64 4)))), none⟩, ⟨(some 30), (.bin .mul (.t 29) (.c (.v (.int .i64 2)))), none⟩, ⟨(some 31), (.bin .add (.t 27) (.t 30)), none⟩, ⟨(some 32), (.bin .add (.t 31) (.c (.v (.int .i64 1)))), none⟩, ⟨(some 33), (.bin .leq (.t 26) (.t 32)), none⟩]) (.cond (.t 33) .skip (.exit 0))) 
  (.seq (.block 1 
  (.seq (.reg [] [⟨(some 36), (.call (.c (.f 54 [])) [(.t 7)]), none⟩, ⟨(some 37), (.mv (.t 8)), none⟩, ⟨(some 38), (.bin .sub (.t 37) (.c (.v (.int .u64 1)))), none⟩, ⟨(some 39), (.bin .and (.t 36) (.t 38)), none⟩, ⟨(some 40), (.conv .i64 (.t 39)), none⟩, ⟨(some 10), (.mv (.t 40)), none⟩]) 
  (.seq 
  (.seq (.reg [] [⟨(some 41), (.mv (.t 10)), none⟩, ⟨(some 42), (.mv (.t 6)), none⟩, ⟨(some 43), (.bin .geq (.t 41) (.t 42)), none⟩]) (.cond (.t 43) (.reg [] [⟨(some 44), (.mv (.t 10)), none⟩, ⟨(some 45), (.mv (.t 6)), none⟩, ⟨(some 46), (.bin .sub (.t 44) (.t 45)), none⟩, ⟨(some 10), (.mv (.t 46)), none⟩]) .skip)) (.regS [(63, (0, 1))] [⟨(some 47), (.mv (.t 0)), none⟩, ⟨(some 48), (.mv (.t 9)), none⟩, ⟨(some 49), (.mv (.t 0)), none⟩, ⟨(some 50), (.mv (.t 1)), none⟩, ⟨(some 51), (.mv (.t 10)), none⟩, ⟨(some 52), (.bin .add (.t 50) (.t 51)), none⟩, ⟨(some 53), (.mv (.t 0)), none⟩, ⟨(some 54), (.mv (.t 1)), none⟩, ⟨(some 55), (.mv (.t 10)), none⟩, ⟨(some 56), (.bin .add (.t 54) (.t 55)), none⟩, ⟨(some 57), (.ixs (.t 53) (.t 56) 1), none⟩, ⟨(some 58), (.ld (.t 57) none), none⟩, ⟨(some 59), (.mv (.t 0)), none⟩, ⟨(some 60), (.mv (.t 9)), none⟩, ⟨(some 61), (.ixs (.t 59) (.t 60) 1), none⟩, ⟨(some 62), (.ld (.t 61) none), none⟩, ⟨(some 63), (.ixs (.t 47) (.t 48) 1), none⟩, ⟨none, (.st (.t 63) (.t 58) 1), none⟩] [⟨(some 64), (.ixs (.t 49) (.t 52) 1), none⟩, ⟨none, (.st (.t 64) (.t 62) 1), none⟩])))) (.reg [] [⟨(some 34), (.mv (.t 9)), none⟩, ⟨(some 35), (.bin .add (.t 34) (.c (.v (.int .i64 1)))), none⟩, ⟨(some 9), (.mv (.t 35)), none⟩])))

def c43 : MF := ⟨3, 65, 
  (.seq (.reg [] [⟨(some 11), (.mv (.t 2)), none⟩, ⟨(some 12), (.mv (.t 1)), none⟩, ⟨(some 13), (.bin .sub (.t 11) (.t 12)), none⟩, ⟨(some 6), (.mv (.t 13)), none⟩]) 
  (.seq (.reg [] [⟨(some 14), (.mv (.t 6)), none⟩, ⟨(some 15), (.bin .geq (.t 14) (.c (.v (.int .i64 8)))), none⟩]) (.cond (.t 15) 
  (.seq (.reg [] [⟨(some 16), (.mv (.t 6)), none⟩, ⟨(some 17), (.conv .u64 (.t 16)), none⟩, ⟨(some 7), (.box (.c (.v (.int .u64 0)))), none⟩, ⟨none, (.st (.t 7) (.t 17) 1), none⟩]) 
  (.seq (.reg [] [⟨(some 18), (.mv (.t 6)), none⟩, ⟨(some 19), (.call (.c (.f 53 [])) [(.t 18)]), none⟩, ⟨(some 8), (.mv (.t 19)), none⟩]) 
  (.seq (.reg [] [⟨(some 20), (.mv (.t 1)), none⟩, ⟨(some 21), (.mv (.t 6)), none⟩, ⟨(some 22), (.bin .quo (.t 21) (.c (.v (.int .i64 4)))), none⟩, ⟨(some 23), (.bin .mul (.t 22) (.c (.v (.int .i64 2)))), none⟩, ⟨(some 24), (.bin .add (.t 20) (.t 23)), none⟩, ⟨(some 25), (.bin .sub (.t 24) (.c (.v (.int .i64 1)))), none⟩, ⟨(some 9), (.mv (.t 25)), none⟩]) (.block 0 
  (.loopN [35, 34, 64, 63, 62, 61, 60, 59, 58, 57, 56, 55, 54, 53, 52, 51, 50, 49, 48, 47, 46, 45, 44, 43, 42, 41, 40, 39, 38, 37, 36, 33, 32, 31, 30, 29, 28, 27, 26] c43b0))))) .skip))), []⟩

def c44 : MF := ⟨3, 57, 
  (.seq (.reg [] [⟨(some 6), (.mv (.c (.v (.int .i64 0)))), none⟩, ⟨(some 7), (.mv (.c (.v (.int .i64 0)))), none⟩]) 
  (.seq (.reg [] [⟨(some 13), (.mv (.t 2)), none⟩, ⟨(some 14), (.mv (.t 1)), none⟩, ⟨(some 15), (.bin .sub (.t 13) (.t 14)), none⟩, ⟨(some 8), (.mv (.t 15)), none⟩]) 
  (.seq (.reg [] [⟨(some 9), (.box (.c (.v (.int .i64 0)))), none⟩]) 
  (.seq (.reg [] [⟨(some 16), (.mv (.t 1)), none⟩, ⟨(some 17), (.mv (.t 8)), none⟩, ⟨(some 18), (.bin .quo (.t 17) (.c (.v (.int .i64 4)))), none⟩, ⟨(some 19), (.bin .mul (.t 18) (.c (.v (.int .i64 1)))), none⟩, ⟨(some 20), (.bin .add (.t 16) (.t 19)), none⟩, ⟨(some 10), (.mv (.t 20)), none⟩]) 
  (.seq (.reg [] [⟨(some 21), (.mv (.t 1)), none⟩, ⟨(some 22), (.mv (.t 8)), none⟩, ⟨(some 23), (.bin .quo (.t 22) (.c (.v (.int .i64 4)))), none⟩, ⟨(some 24), (.bin .mul (.t 23) (.c (.v (.int .i64 2)))), none⟩, ⟨(some 25), (.bin .add (.t 21) (.t 24)), none⟩, ⟨(some 11), (.mv (.t 25)), none⟩]) 
  (.seq (.reg [] [⟨(some 26), (.mv (.t 1)), none⟩, ⟨(some 27), (.mv (.t 8)), none⟩, ⟨(some 28), (.bin .quo (.t 27) (.c (.v (.int .i64 4)))), none⟩, ⟨(some 29), (.bin .mul (.t 28) (.c (.v (.int .i64 3)))), none⟩, ⟨(some 30), (.bin .add (.t 26) (.t 29)), none⟩, ⟨(some 12), (.mv (.t 30)), none⟩]) 
  (.seq 
  (.seq (.reg [] [⟨(some 31), (.mv (.t 8)), none⟩, ⟨(some 32), (.bin .geq (.t 31) (.c (.v (.int .i64 8)))), none⟩]) (.cond (.t 32) 
  (.seq 
  (.seq (.reg [] [⟨(some 33), (.mv (.t 8)), none⟩, ⟨(some 34), (.bin .geq (.t 33) (.c (.v (.int .i64 50)))), none⟩]) (.cond (.t 34) 
  (.seq (.reg [] [⟨(some 35), (.mv (.t 0)), none⟩, ⟨(some 36), (.mv (.t 10)), none⟩, ⟨(some 37), (.call (.c (.f 55 [])) [(.t 35), (.t 36), (.t 9)]), none⟩, ⟨(some 10), (.mv (.t 37)), none⟩]) 
  (.seq (.reg [] [⟨(some 38), (.mv (.t 0)), none⟩, ⟨(some 39), (.mv (.t 11)), none⟩, ⟨(some 40), (.call (.c (.f 55 [])) [(.t 38), (.t 39), (.t 9)]), none⟩, ⟨(some 11), (.mv (.t 40)), none⟩]) (.reg [] [⟨(some 41), (.mv (.t 0)), none⟩, ⟨(some 42), (.mv (.t 12)), none⟩, ⟨(some 43), (.call (.c (.f 55 [])) [(.t 41), (.t 42), (.t 9)]), none⟩, ⟨(some 12), (.mv (.t 43)), none⟩]))) .skip)) (.reg [] [⟨(some 44), (.mv (.t 0)), none⟩, ⟨(some 45), (.mv (.t 10)), none⟩, ⟨(some 46), (.mv (.t 11)), none⟩, ⟨(some 47), (.mv (.t 12)), none⟩, ⟨(some 48), (.call (.c (.f 56 [])) [(.t 44), (.t 45), (.t 46), (.t 47), (.t 9)]), none⟩, ⟨(some 11), (.mv (.t 48)), none⟩])) .skip)) 
  (.seq (.reg [] [⟨(some 49), (.ld (.t 9) none), none⟩]) (.block 0 
  (.seq (.reg [] [⟨(some 52), (.bin .eql (.t 49) (.c (.v (.int .i64 0)))), none⟩, ⟨(some 51), (.mv (.t 52)), none⟩]) (.cond (.t 51) 
  (.seq (.reg [] [⟨(some 53), (.mv (.t 11)), none⟩, ⟨(some 6), (.mv (.t 53)), none⟩, ⟨(some 7), (.mv (.c (.v (.int .i64 1)))), none⟩]) .ret) 
  (.seq (.reg [] [⟨(some 55), (.bin .eql (.t 49) (.c (.v (.int .i64 12)))), none⟩, ⟨(some 54), (.mv (.t 55)), none⟩]) (.cond (.t 54) 
  (.seq (.reg [] [⟨(some 56), (.mv (.t 11)), none⟩, ⟨(some 6), (.mv (.t 56)), none⟩, ⟨(some 7), (.mv (.c (.v (.int .i64 2)))), none⟩]) .ret) 
  (.seq (.reg [] [⟨(some 50), (.mv (.t 11)), none⟩, ⟨(some 6), (.mv (.t 50)), none⟩, ⟨(some 7), (.mv (.c (.v (.int .i64 0)))), none⟩]) .ret)))))))))))))), [(.t 6), (.t 7)]⟩

def c45b0 : MC := 
  (.seq 
  (.seq (.reg [] [⟨(some 11), (.mv (.t 6)), none⟩, ⟨(some 12), (.mv (.t 7)), none⟩, ⟨(some 13), (.bin .lss (.t 11) (.t 12)), none⟩]) (.cond (.t 13) .skip (.exit 0))) (.block 1 
  (.seq (.regS [(26, (0, 1))] [⟨(some 14), (.mv (.t 0)), none⟩, ⟨(some 15), (.mv (.t 6)), none⟩, ⟨(some 16), (.mv (.t 0)), none⟩, ⟨(some 17), (.mv (.t 7)), none⟩, ⟨(some 18), (.mv (.t 0)), none⟩, ⟨(some 19), (.mv (.t 7)), none⟩, ⟨(some 20), (.ixs (.t 18) (.t 19) 1), none⟩, ⟨(some 21), (.ld (.t 20) none), none⟩, ⟨(some 22), (.mv (.t 0)), none⟩, ⟨(some 23), (.mv (.t 6)), none⟩, ⟨(some 24), (.ixs (.t 22) (.t 23) 1), none⟩, ⟨(some 25), (.ld (.t 24) none), none⟩, ⟨(some 26), (.ixs (.t 14) (.t 15) 1), none⟩, ⟨none, (.st (.t 26) (.t 21) 1), none⟩] [⟨(some 27), (.ixs (.t 16) (.t 17) 1), none⟩, ⟨none, (.st (.t 27) (.t 25) 1), none⟩]) 
  (.seq (.reg [] [⟨(some 28), (.mv (.t 6)), none⟩, ⟨(some 29), (.bin .add (.t 28) (.c (.v (.int .i64 1)))), none⟩, ⟨(some 6), (.mv (.t 29)), none⟩]) (.reg [] [⟨(some 30), (.mv (.t 7)), none⟩, ⟨(some 31), (.bin .sub (.t 30) (.c (.v (.int .i64 1)))), none⟩, ⟨(some 7), (.mv (.t 31)), none⟩])))))

def c45 : MF := ⟨3, 32, 
  (.seq (.reg [] [⟨(some 8), (.mv (.t 1)), none⟩, ⟨(some 6), (.mv (.t 8)), none⟩]) 
  (.seq (.reg [] [⟨(some 9), (.mv (.t 2)), none⟩, ⟨(some 10), (.bin .sub (.t 9) (.c (.v (.int .i64 1)))), none⟩, ⟨(some 7), (.mv (.t 10)), none⟩]) (.block 0 
  (.loopN [31, 30, 29, 28, 27, 26, 25, 24, 23, 22, 21, 20, 19, 18, 17, 16, 15, 14, 13, 12, 11] c45b0)))), []⟩

def c46b0 : MC := 
  (.seq 
  (.seq (.reg [] [⟨(some 101), (.mv (.t 10)), none⟩, ⟨(some 102), (.mv (.t 2)), none⟩, ⟨(some 103), (.bin .lss (.t 101) (.t 102)), none⟩]) (.cond (.t 103) .skip (.exit 6))) 
  (.seq (.block 7 
  (.seq 
  (.seq (.reg [⟨(some 106), (.mv (.t 0)), none⟩, ⟨(some 107), (.mv (.t 10)), none⟩, ⟨(some 108), (.ixs (.t 106) (.t 107) 1), none⟩, ⟨(some 109), (.ld (.t 108) none), none⟩, ⟨(some 110), (.mv (.t 0)), none⟩, ⟨(some 111), (.mv (.t 10)), none⟩, ⟨(some 112), (.bin .sub (.t 111) (.c (.v (.int .i64 1)))), none⟩, ⟨(some 113), (.ixs (.t 110) (.t 112) 1), none⟩, ⟨(some 114), (.ld (.t 113) none), none⟩] [⟨(some 115), (.call (.c (.f 47 [])) [(.t 109), (.t 114)]), none⟩, ⟨(some 116), (.un .not (.t 115)), none⟩]) (.cond (.t 116) (.exit 6) .skip)) (.regS [(131, (0, 1))] [⟨(some 117), (.mv (.t 0)), none⟩, ⟨(some 118), (.mv (.t 10)), none⟩, ⟨(some 119), (.mv (.t 0)), none⟩, ⟨(some 120), (.mv (.t 10)), none⟩, ⟨(some 121), (.bin .sub (.t 120) (.c (.v (.int .i64 1)))), none⟩, ⟨(some 122), (.mv (.t 0)), none⟩, ⟨(some 123), (.mv (.t 10)), none⟩, ⟨(some 124), (.bin .sub (.t 123) (.c (.v (.int .i64 1)))), none⟩, ⟨(some 125), (.ixs (.t 122) (.t 124) 1), none⟩, ⟨(some 126), (.ld (.t 125) none), none⟩, ⟨(some 127), (.mv (.t 0)), none⟩, ⟨(some 128), (.mv (.t 10)), none⟩, ⟨(some 129), (.ixs (.t 127) (.t 128) 1), none⟩, ⟨(some 130), (.ld (.t 129) none), none⟩, ⟨(some 131), (.ixs (.t 117) (.t 118) 1), none⟩, ⟨none, (.st (.t 131) (.t 126) 1), none⟩] [⟨(some 132), (.ixs (.t 119) (.t 121) 1), none⟩, ⟨none, (.st (.t 132) (.t 130) 1), none⟩]))) (.reg [] [⟨(some 104), (.mv (.t 10)), none⟩, ⟨(some 105), (.bin .add (.t 104) (.c (.v (.int .i64 1)))), none⟩, ⟨(some 10), (.mv (.t 105)), none⟩])))

def c46b1 : MC := 
  (.seq 
  (.seq (.reg [] [⟨(some 64), (.mv (.t 9)), none⟩, ⟨(some 65), (.bin .geq (.t 64) (.c (.v (.int .i64 1)))), none⟩]) (.cond (.t 65) .skip (.exit 4))) 
  (.seq (.block 5 
  (.seq 
  (.seq (.reg [⟨(some 68), (.mv (.t 0)), none⟩, ⟨(some 69), (.mv (.t 9)), none⟩, ⟨(some 70), (.ixs (.t 68) (.t 69) 1), none⟩, ⟨(some 71), (.ld (.t 70) none), none⟩, ⟨(some 72), (.mv (.t 0)), none⟩, ⟨(some 73), (.mv (.t 9)), none⟩, ⟨(some 74), (.bin .sub (.t 73) (.c (.v (.int .i64 1)))), none⟩, ⟨(some 75), (.ixs (.t 72) (.t 74) 1), none⟩, ⟨(some 76), (.ld (.t 75) none), none⟩] [⟨(some 77), (.call (.c (.f 47 [])) [(.t 71), (.t 76)]), none⟩, ⟨(some 78), (.un .not (.t 77)), none⟩]) (.cond (.t 78) (.exit 4) .skip)) (.regS [(93, (0, 1))] [⟨(some 79), (.mv (.t 0)), none⟩, ⟨(some 80), (.mv (.t 9)), none⟩, ⟨(some 81), (.mv (.t 0)), none⟩, ⟨(some 82), (.mv (.t 9)), none⟩, ⟨(some 83), (.bin .sub (.t 82) (.c (.v (.int .i64 1)))), none⟩, ⟨(some 84), (.mv (.t 0)), none⟩, ⟨(some 85), (.mv (.t 9)), none⟩, ⟨(some 86), (.bin .sub (.t 85) (.c (.v (.int .i64 1)))), none⟩, ⟨(some 87), (.ixs (.t 84) (.t 86) 1), none⟩, ⟨(some 88), (.ld (.t 87) none), none⟩, ⟨(some 89), (.mv (.t 0)), none⟩, ⟨(some 90), (.mv (.t 9)), none⟩, ⟨(some 91), (.ixs (.t 89) (.t 90) 1), none⟩, ⟨(some 92), (.ld (.t 91) none), none⟩, ⟨(some 93), (.ixs (.t 79) (.t 80) 1), none⟩, ⟨none, (.st (.t 93) (.t 88) 1), none⟩] [⟨(some 94), (.ixs (.t 81) (.t 83) 1), none⟩, ⟨none, (.st (.t 94) (.t 92) 1), none⟩]))) (.reg [] [⟨(some 66), (.mv (.t 9)), none⟩, ⟨(some 67), (.bin .sub (.t 66) (.c (.v (.int .i64 1)))), none⟩, ⟨(some 9), (.mv (.t 67)), none⟩])))

def c46b2 : MC := 
  (.seq 
  (.seq (.reg [⟨(some 17), (.mv (.t 7)), none⟩, ⟨(some 18), (.mv (.t 2)), none⟩, ⟨(some 19), (.bin .lss (.t 17) (.t 18)), none⟩, ⟨(some 20), (.mv (.t 19)), none⟩, ⟨(some 21), (.mv (.t 0)), (some (20, true))⟩, ⟨(some 22), (.mv (.t 7)), (some (20, true))⟩, ⟨(some 23), (.ixs (.t 21) (.t 22) 1), (some (20, true))⟩, ⟨(some 24), (.ld (.t 23) none), (some (20, true))⟩, ⟨(some 25), (.mv (.t 0)), (some (20, true))⟩, ⟨(some 26), (.mv (.t 7)), (some (20, true))⟩, ⟨(some 27), (.bin .sub (.t 26) (.c (.v (.int .i64 1)))), (some (20, true))⟩, ⟨(some 28), (.ixs (.t 25) (.t 27) 1), (some (20, true))⟩, ⟨(some 29), (.ld (.t 28) none), (some (20, true))⟩] [⟨(some 30), (.call (.c (.f 47 [])) [(.t 24), (.t 29)]), (some (20, true))⟩, ⟨(some 31), (.un .not (.t 30)), (some (20, true))⟩, ⟨(some 32), (.pick (.t 20) (.t 31) (.c (.v (.bool false)))), none⟩]) (.cond (.t 32) .skip (.exit 2))) (.block 3 (.reg [] [⟨(some 33), (.mv (.t 7)), none⟩, ⟨(some 34), (.bin .add (.t 33) (.c (.v (.int .i64 1)))), none⟩, ⟨(some 7), (.mv (.t 34)), none⟩])))

def c46b3 : MC := 
  (.seq 
  (.seq (.reg [] [⟨(some 13), (.mv (.t 8)), none⟩, ⟨(some 14), (.bin .lss (.t 13) (.c (.v (.int .i64 5)))), none⟩]) (.cond (.t 14) .skip (.exit 0))) 
  (.seq (.block 1 
  (.seq (.block 2 
  (.loopN [34, 33, 32, 31, 30, 29, 28, 27, 26, 25, 24, 23, 22, 21, 20, 19, 18, 17] c46b2)) 
  (.seq 
  (.seq (.reg [] [⟨(some 35), (.mv (.t 7)), none⟩, ⟨(some 36), (.mv (.t 2)), none⟩, ⟨(some 37), (.bin .eql (.t 35) (.t 36)), none⟩]) (.cond (.t 37) 
  (.seq (.reg [] [⟨(some 6), (.mv (.c (.v (.bool true)))), none⟩]) .ret) .skip)) 
  (.seq 
  (.seq (.reg [] [⟨(some 38), (.mv (.t 2)), none⟩, ⟨(some 39), (.mv (.t 1)), none⟩, ⟨(some 40), (.bin .sub (.t 38) (.t 39)), none⟩, ⟨(some 41), (.bin .lss (.t 40) (.c (.v (.int .i64 50)))), none⟩]) (.cond (.t 41) 
  (.seq (.reg [] [⟨(some 6), (.mv (.c (.v (.bool false)))), none⟩]) .ret) .skip)) 
  (.seq (.regS [(56, (0, 1))] [⟨(some 42), (.mv (.t 0)), none⟩, ⟨(some 43), (.mv (.t 7)), none⟩, ⟨(some 44), (.mv (.t 0)), none⟩, ⟨(some 45), (.mv (.t 7)), none⟩, ⟨(some 46), (.bin .sub (.t 45) (.c (.v (.int .i64 1)))), none⟩, ⟨(some 47), (.mv (.t 0)), none⟩, ⟨(some 48), (.mv (.t 7)), none⟩, ⟨(some 49), (.bin .sub (.t 48) (.c (.v (.int .i64 1)))), none⟩, ⟨(some 50), (.ixs (.t 47) (.t 49) 1), none⟩, ⟨(some 51), (.ld (.t 50) none), none⟩, ⟨(some 52), (.mv (.t 0)), none⟩, ⟨(some 53), (.mv (.t 7)), none⟩, ⟨(some 54), (.ixs (.t 52) (.t 53) 1), none⟩, ⟨(some 55), (.ld (.t 54) none), none⟩, ⟨(some 56), (.ixs (.t 42) (.t 43) 1), none⟩, ⟨none, (.st (.t 56) (.t 51) 1), none⟩] [⟨(some 57), (.ixs (.t 44) (.t 46) 1), none⟩, ⟨none, (.st (.t 57) (.t 55) 1), none⟩]) 
  (.seq 
  (.seq (.reg [] [⟨(some 58), (.mv (.t 7)), none⟩, ⟨(some 59), (.mv (.t 1)), none⟩, ⟨(some 60), (.bin .sub (.t 58) (.t 59)), none⟩, ⟨(some 61), (.bin .geq (.t 60) (.c (.v (.int .i64 2)))), none⟩]) (.cond (.t 61) 
  (.seq (.reg [] [⟨(some 62), (.mv (.t 7)), none⟩, ⟨(some 63), (.bin .sub (.t 62) (.c (.v (.int .i64 1)))), none⟩, ⟨(some 9), (.mv (.t 63)), none⟩]) (.block 4 
  (.loopN [67, 66, 94, 93, 92, 91, 90, 89, 88, 87, 86, 85, 84, 83, 82, 81, 80, 79, 78, 77, 76, 75, 74, 73, 72, 71, 70, 69, 68, 65, 64] c46b1))) .skip)) 
  (.seq (.reg [] [⟨(some 95), (.mv (.t 2)), none⟩, ⟨(some 96), (.mv (.t 7)), none⟩, ⟨(some 97), (.bin .sub (.t 95) (.t 96)), none⟩, ⟨(some 98), (.bin .geq (.t 97) (.c (.v (.int .i64 2)))), none⟩]) (.cond (.t 98) 
  (.seq (.reg [] [⟨(some 99), (.mv (.t 7)), none⟩, ⟨(some 100), (.bin .add (.t 99) (.c (.v (.int .i64 1)))), none⟩, ⟨(some 10), (.mv (.t 100)), none⟩]) (.block 6 
  (.loopN [105, 104, 132, 131, 130, 129, 128, 127, 126, 125, 124, 123, 122, 121, 120, 119, 118, 117, 116, 115, 114, 113, 112, 111, 110, 109, 108, 107, 106, 103, 102, 101] c46b0))) .skip)))))))) (.reg [] [⟨(some 15), (.mv (.t 8)), none⟩, ⟨(some 16), (.bin .add (.t 15) (.c (.v (.int .i64 1)))), none⟩, ⟨(some 8), (.mv (.t 16)), none⟩])))

def c46 : MF := ⟨3, 133, 
  (.seq (.reg [] [⟨(some 6), (.mv (.c (.v (.bool false)))), none⟩]) 
  (.seq (.reg [] [⟨(some 11), (.mv (.t 1)), none⟩, ⟨(some 12), (.bin .add (.t 11) (.c (.v (.int .i64 1)))), none⟩, ⟨(some 7), (.mv (.t 12)), none⟩]) 
  (.seq 
  (.seq (.reg [] [⟨(some 8), (.mv (.c (.v (.int .i64 0)))), none⟩]) (.block 0 
  (.loopN [16, 15, 105, 104, 132, 131, 130, 129, 128, 127, 126, 125, 124, 123, 122, 121, 120, 119, 118, 117, 116, 115, 114, 113, 112, 111, 110, 109, 108, 107, 106, 103, 102, 101, 100, 99, 98, 97, 96, 95, 67, 66, 94, 93, 92, 91, 90, 89, 88, 87, 86, 85, 84, 83, 82, 81, 80, 79, 78, 77, 76, 75, 74, 73, 72, 71, 70, 69, 68, 65, 64, 63, 62, 61, 60, 59, 58, 57, 56, 55, 54, 53, 52, 51, 50, 49, 48, 47, 46, 45, 44, 43, 42, 6, 41, 40, 39, 38, 37, 36, 35, 34, 33, 32, 31, 30, 29, 28, 27, 26, 25, 24, 23, 22, 21, 20, 19, 18, 17, 14, 13] c46b3))) 
  (.seq (.reg [] [⟨(some 6), (.mv (.c (.v (.bool false)))), none⟩]) .ret)))), [(.t 6)]⟩

def c47 : MF := ⟨2, 17, 
  (.seq (.reg [] [⟨(some 4), (.mv (.c (.v (.bool false)))), none⟩]) 
  (.seq (.reg [] [⟨(some 5), (.mv (.t 0)), none⟩, ⟨(some 6), (.call (.c (.f 57 [])) [(.t 5)]), none⟩, ⟨(some 7), (.mv (.t 6)), none⟩, ⟨(some 8), (.mv (.t 1)), (some (7, true))⟩, ⟨(some 9), (.call (.c (.f 57 [])) [(.t 8)]), (some (7, true))⟩, ⟨(some 10), (.un .not (.t 9)), (some (7, true))⟩, ⟨(some 11), (.pick (.t 7) (.t 10) (.c (.v (.bool false)))), none⟩, ⟨(some 12), (.mv (.t 11)), none⟩, ⟨(some 13), (.mv (.t 0)), (some (12, false))⟩, ⟨(some 14), (.mv (.t 1)), (some (12, false))⟩, ⟨(some 15), (.bin .lss (.t 13) (.t 14)), (some (12, false))⟩, ⟨(some 16), (.pick (.t 12) (.c (.v (.bool true))) (.t 15)), none⟩, ⟨(some 4), (.mv (.t 16)), none⟩]) .ret)), [(.t 4)]⟩

def c48b0 : MC := 
  (.seq 
  (.seq (.reg [⟨(some 46), (.mv (.t 9)), none⟩, ⟨(some 47), (.mv (.t 10)), none⟩, ⟨(some 48), (.bin .leq (.t 46) (.t 47)), none⟩, ⟨(some 49), (.mv (.t 48)), none⟩, ⟨(some 50), (.mv (.t 0)), (some (49, true))⟩, ⟨(some 51), (.mv (.t 1)), (some (49, true))⟩, ⟨(some 52), (.ixs (.t 50) (.t 51) 1), (some (49, true))⟩, ⟨(some 53), (.ld (.t 52) none), (some (49, true))⟩, ⟨(some 54), (.mv (.t 0)), (some (49, true))⟩, ⟨(some 55), (.mv (.t 10)), (some (49, true))⟩, ⟨(some 56), (.ixs (.t 54) (.t 55) 1), (some (49, true))⟩, ⟨(some 57), (.ld (.t 56) none), (some (49, true))⟩] [⟨(some 58), (.call (.c (.f 47 [])) [(.t 53), (.t 57)]), (some (49, true))⟩, ⟨(some 59), (.pick (.t 49) (.t 58) (.c (.v (.bool false)))), none⟩]) (.cond (.t 59) .skip (.exit 4))) (.block 5 (.reg [] [⟨(some 60), (.mv (.t 10)), none⟩, ⟨(some 61), (.bin .sub (.t 60) (.c (.v (.int .i64 1)))), none⟩, ⟨(some 10), (.mv (.t 61)), none⟩])))

def c48b1 : MC := 
  (.seq 
  (.seq (.reg [⟨(some 29), (.mv (.t 9)), none⟩, ⟨(some 30), (.mv (.t 10)), none⟩, ⟨(some 31), (.bin .leq (.t 29) (.t 30)), none⟩, ⟨(some 32), (.mv (.t 31)), none⟩, ⟨(some 33), (.mv (.t 0)), (some (32, true))⟩, ⟨(some 34), (.mv (.t 1)), (some (32, true))⟩, ⟨(some 35), (.ixs (.t 33) (.t 34) 1), (some (32, true))⟩, ⟨(some 36), (.ld (.t 35) none), (some (32, true))⟩, ⟨(some 37), (.mv (.t 0)), (some (32, true))⟩, ⟨(some 38), (.mv (.t 9)), (some (32, true))⟩, ⟨(some 39), (.ixs (.t 37) (.t 38) 1), (some (32, true))⟩, ⟨(some 40), (.ld (.t 39) none), (some (32, true))⟩] [⟨(some 41), (.call (.c (.f 47 [])) [(.t 36), (.t 40)]), (some (32, true))⟩, ⟨(some 42), (.un .not (.t 41)), (some (32, true))⟩, ⟨(some 43), (.pick (.t 32) (.t 42) (.c (.v (.bool false)))), none⟩]) (.cond (.t 43) .skip (.exit 2))) (.block 3 (.reg [] [⟨(some 44), (.mv (.t 9)), none⟩, ⟨(some 45), (.bin .add (.t 44) (.c (.v (.int .i64 1)))), none⟩, ⟨(some 9), (.mv (.t 45)), none⟩])))

def c48b2 : MC := (.block 1 
  (.seq (.block 2 
  (.loopN [45, 44, 43, 42, 41, 40, 39, 38, 37, 36, 35, 34, 33, 32, 31, 30, 29] c48b1)) 
  (.seq (.block 4 
  (.loopN [61, 60, 59, 58, 57, 56, 55, 54, 53, 52, 51, 50, 49, 48, 47, 46] c48b0)) 
  (.seq 
  (.seq (.reg [] [⟨(some 62), (.mv (.t 9)), none⟩, ⟨(some 63), (.mv (.t 10)), none⟩, ⟨(some 64), (.bin .gtr (.t 62) (.t 63)), none⟩]) (.cond (.t 64) (.exit 0) .skip)) 
  (.seq (.regS [(77, (0, 1))] [⟨(some 65), (.mv (.t 0)), none⟩, ⟨(some 66), (.mv (.t 9)), none⟩, ⟨(some 67), (.mv (.t 0)), none⟩, ⟨(some 68), (.mv (.t 10)), none⟩, ⟨(some 69), (.mv (.t 0)), none⟩, ⟨(some 70), (.mv (.t 10)), none⟩, ⟨(some 71), (.ixs (.t 69) (.t 70) 1), none⟩, ⟨(some 72), (.ld (.t 71) none), none⟩, ⟨(some 73), (.mv (.t 0)), none⟩, ⟨(some 74), (.mv (.t 9)), none⟩, ⟨(some 75), (.ixs (.t 73) (.t 74) 1), none⟩, ⟨(some 76), (.ld (.t 75) none), none⟩, ⟨(some 77), (.ixs (.t 65) (.t 66) 1), none⟩, ⟨none, (.st (.t 77) (.t 72) 1), none⟩] [⟨(some 78), (.ixs (.t 67) (.t 68) 1), none⟩, ⟨none, (.st (.t 78) (.t 76) 1), none⟩]) 
  (.seq (.reg [] [⟨(some 79), (.mv (.t 9)), none⟩, ⟨(some 80), (.bin .add (.t 79) (.c (.v (.int .i64 1)))), none⟩, ⟨(some 9), (.mv (.t 80)), none⟩]) (.reg [] [⟨(some 81), (.mv (.t 10)), none⟩, ⟨(some 82), (.bin .sub (.t 81) (.c (.v (.int .i64 1)))), none⟩, ⟨(some 10), (.mv (.t 82)), none⟩])))))))

def c48 : MF := ⟨4, 84, 
  (.seq (.reg [] [⟨(some 8), (.mv (.c (.v (.int .i64 0)))), none⟩]) 
  (.seq (.regS [(23, (0, 1))] [⟨(some 11), (.mv (.t 0)), none⟩, ⟨(some 12), (.mv (.t 1)), none⟩, ⟨(some 13), (.mv (.t 0)), none⟩, ⟨(some 14), (.mv (.t 3)), none⟩, ⟨(some 15), (.mv (.t 0)), none⟩, ⟨(some 16), (.mv (.t 3)), none⟩, ⟨(some 17), (.ixs (.t 15) (.t 16) 1), none⟩, ⟨(some 18), (.ld (.t 17) none), none⟩, ⟨(some 19), (.mv (.t 0)), none⟩, ⟨(some 20), (.mv (.t 1)), none⟩, ⟨(some 21), (.ixs (.t 19) (.t 20) 1), none⟩, ⟨(some 22), (.ld (.t 21) none), none⟩, ⟨(some 23), (.ixs (.t 11) (.t 12) 1), none⟩, ⟨none, (.st (.t 23) (.t 18) 1), none⟩] [⟨(some 24), (.ixs (.t 13) (.t 14) 1), none⟩, ⟨none, (.st (.t 24) (.t 22) 1), none⟩]) 
  (.seq (.reg [] [⟨(some 25), (.mv (.t 1)), none⟩, ⟨(some 26), (.bin .add (.t 25) (.c (.v (.int .i64 1)))), none⟩, ⟨(some 27), (.mv (.t 2)), none⟩, ⟨(some 28), (.bin .sub (.t 27) (.c (.v (.int .i64 1)))), none⟩, ⟨(some 9), (.mv (.t 26)), none⟩, ⟨(some 10), (.mv (.t 28)), none⟩]) 
  (.seq (.block 0 
  (.loopN [82, 81, 80, 79, 78, 77, 76, 75, 74, 73, 72, 71, 70, 69, 68, 67, 66, 65, 64, 63, 62, 61, 60, 59, 58, 57, 56, 55, 54, 53, 52, 51, 50, 49, 48, 47, 46, 45, 44, 43, 42, 41, 40, 39, 38, 37, 36, 35, 34, 33, 32, 31, 30, 29] c48b2)) 
  (.seq (.reg [] [⟨(some 83), (.mv (.t 9)), none⟩, ⟨(some 8), (.mv (.t 83)), none⟩]) .ret))))), [(.t 8)]⟩

def c49b0 : MC := 
  (.seq 
  (.seq (.reg [⟨(some 115), (.mv (.t 10)), none⟩, ⟨(some 116), (.mv (.t 11)), none⟩, ⟨(some 117), (.bin .leq (.t 115) (.t 116)), none⟩, ⟨(some 118), (.mv (.t 117)), none⟩, ⟨(some 119), (.mv (.t 0)), (some (118, true))⟩, ⟨(some 120), (.mv (.t 11)), (some (118, true))⟩, ⟨(some 121), (.ixs (.t 119) (.t 120) 1), (some (118, true))⟩, ⟨(some 122), (.ld (.t 121) none), (some (118, true))⟩, ⟨(some 123), (.mv (.t 0)), (some (118, true))⟩, ⟨(some 124), (.mv (.t 1)), (some (118, true))⟩, ⟨(some 125), (.ixs (.t 123) (.t 124) 1), (some (118, true))⟩, ⟨(some 126), (.ld (.t 125) none), (some (118, true))⟩] [⟨(some 127), (.call (.c (.f 47 [])) [(.t 122), (.t 126)]), (some (118, true))⟩, ⟨(some 128), (.un .not (.t 127)), (some (118, true))⟩, ⟨(some 129), (.pick (.t 118) (.t 128) (.c (.v (.bool false)))), none⟩]) (.cond (.t 129) .skip (.exit 8))) (.block 9 (.reg [] [⟨(some 130), (.mv (.t 11)), none⟩, ⟨(some 131), (.bin .sub (.t 130) (.c (.v (.int .i64 1)))), none⟩, ⟨(some 11), (.mv (.t 131)), none⟩])))

def c49b1 : MC := 
  (.seq 
  (.seq (.reg [⟨(some 99), (.mv (.t 10)), none⟩, ⟨(some 100), (.mv (.t 11)), none⟩, ⟨(some 101), (.bin .leq (.t 99) (.t 100)), none⟩, ⟨(some 102), (.mv (.t 101)), none⟩, ⟨(some 103), (.mv (.t 0)), (some (102, true))⟩, ⟨(some 104), (.mv (.t 10)), (some (102, true))⟩, ⟨(some 105), (.ixs (.t 103) (.t 104) 1), (some (102, true))⟩, ⟨(some 106), (.ld (.t 105) none), (some (102, true))⟩, ⟨(some 107), (.mv (.t 0)), (some (102, true))⟩, ⟨(some 108), (.mv (.t 1)), (some (102, true))⟩, ⟨(some 109), (.ixs (.t 107) (.t 108) 1), (some (102, true))⟩, ⟨(some 110), (.ld (.t 109) none), (some (102, true))⟩] [⟨(some 111), (.call (.c (.f 47 [])) [(.t 106), (.t 110)]), (some (102, true))⟩, ⟨(some 112), (.pick (.t 102) (.t 111) (.c (.v (.bool false)))), none⟩]) (.cond (.t 112) .skip (.exit 6))) (.block 7 (.reg [] [⟨(some 113), (.mv (.t 10)), none⟩, ⟨(some 114), (.bin .add (.t 113) (.c (.v (.int .i64 1)))), none⟩, ⟨(some 10), (.mv (.t 114)), none⟩])))

def c49b2 : MC := (.block 5 
  (.seq (.block 6 
  (.loopN [114, 113, 112, 111, 110, 109, 108, 107, 106, 105, 104, 103, 102, 101, 100, 99] c49b1)) 
  (.seq (.block 8 
  (.loopN [131, 130, 129, 128, 127, 126, 125, 124, 123, 122, 121, 120, 119, 118, 117, 116, 115] c49b0)) 
  (.seq 
  (.seq (.reg [] [⟨(some 132), (.mv (.t 10)), none⟩, ⟨(some 133), (.mv (.t 11)), none⟩, ⟨(some 134), (.bin .gtr (.t 132) (.t 133)), none⟩]) (.cond (.t 134) (.exit 4) .skip)) 
  (.seq (.regS [(147, (0, 1))] [⟨(some 135), (.mv (.t 0)), none⟩, ⟨(some 136), (.mv (.t 10)), none⟩, ⟨(some 137), (.mv (.t 0)), none⟩, ⟨(some 138), (.mv (.t 11)), none⟩, ⟨(some 139), (.mv (.t 0)), none⟩, ⟨(some 140), (.mv (.t 11)), none⟩, ⟨(some 141), (.ixs (.t 139) (.t 140) 1), none⟩, ⟨(some 142), (.ld (.t 141) none), none⟩, ⟨(some 143), (.mv (.t 0)), none⟩, ⟨(some 144), (.mv (.t 10)), none⟩, ⟨(some 145), (.ixs (.t 143) (.t 144) 1), none⟩, ⟨(some 146), (.ld (.t 145) none), none⟩, ⟨(some 147), (.ixs (.t 135) (.t 136) 1), none⟩, ⟨none, (.st (.t 147) (.t 142) 1), none⟩] [⟨(some 148), (.ixs (.t 137) (.t 138) 1), none⟩, ⟨none, (.st (.t 148) (.t 146) 1), none⟩]) 
  (.seq (.reg [] [⟨(some 149), (.mv (.t 10)), none⟩, ⟨(some 150), (.bin .add (.t 149) (.c (.v (.int .i64 1)))), none⟩, ⟨(some 10), (.mv (.t 150)), none⟩]) (.reg [] [⟨(some 151), (.mv (.t 11)), none⟩, ⟨(some 152), (.bin .sub (.t 151) (.c (.v (.int .i64 1)))), none⟩, ⟨(some 11), (.mv (.t 152)), none⟩])))))))

def c49b3 : MC := 
  (.seq 
  (.seq (.reg [⟨(some 46), (.mv (.t 10)), none⟩, ⟨(some 47), (.mv (.t 11)), none⟩, ⟨(some 48), (.bin .leq (.t 46) (.t 47)), none⟩, ⟨(some 49), (.mv (.t 48)), none⟩, ⟨(some 50), (.mv (.t 0)), (some (49, true))⟩, ⟨(some 51), (.mv (.t 11)), (some (49, true))⟩, ⟨(some 52), (.ixs (.t 50) (.t 51) 1), (some (49, true))⟩, ⟨(some 53), (.ld (.t 52) none), (some (49, true))⟩, ⟨(some 54), (.mv (.t 0)), (some (49, true))⟩, ⟨(some 55), (.mv (.t 1)), (some (49, true))⟩, ⟨(some 56), (.ixs (.t 54) (.t 55) 1), (some (49, true))⟩, ⟨(some 57), (.ld (.t 56) none), (some (49, true))⟩] [⟨(some 58), (.call (.c (.f 47 [])) [(.t 53), (.t 57)]), (some (49, true))⟩, ⟨(some 59), (.un .not (.t 58)), (some (49, true))⟩, ⟨(some 60), (.pick (.t 49) (.t 59) (.c (.v (.bool false)))), none⟩]) (.cond (.t 60) .skip (.exit 2))) (.block 3 (.reg [] [⟨(some 61), (.mv (.t 11)), none⟩, ⟨(some 62), (.bin .sub (.t 61) (.c (.v (.int .i64 1)))), none⟩, ⟨(some 11), (.mv (.t 62)), none⟩])))

def c49b4 : MC := 
  (.seq 
  (.seq (.reg [⟨(some 30), (.mv (.t 10)), none⟩, ⟨(some 31), (.mv (.t 11)), none⟩, ⟨(some 32), (.bin .leq (.t 30) (.t 31)), none⟩, ⟨(some 33), (.mv (.t 32)), none⟩, ⟨(some 34), (.mv (.t 0)), (some (33, true))⟩, ⟨(some 35), (.mv (.t 10)), (some (33, true))⟩, ⟨(some 36), (.ixs (.t 34) (.t 35) 1), (some (33, true))⟩, ⟨(some 37), (.ld (.t 36) none), (some (33, true))⟩, ⟨(some 38), (.mv (.t 0)), (some (33, true))⟩, ⟨(some 39), (.mv (.t 1)), (some (33, true))⟩, ⟨(some 40), (.ixs (.t 38) (.t 39) 1), (some (33, true))⟩, ⟨(some 41), (.ld (.t 40) none), (some (33, true))⟩] [⟨(some 42), (.call (.c (.f 47 [])) [(.t 37), (.t 41)]), (some (33, true))⟩, ⟨(some 43), (.pick (.t 33) (.t 42) (.c (.v (.bool false)))), none⟩]) (.cond (.t 43) .skip (.exit 0))) (.block 1 (.reg [] [⟨(some 44), (.mv (.t 10)), none⟩, ⟨(some 45), (.bin .add (.t 44) (.c (.v (.int .i64 1)))), none⟩, ⟨(some 10), (.mv (.t 45)), none⟩])))

def c49 : MF := ⟨4, 168, 
  (.seq (.reg [] [⟨(some 8), (.mv (.c (.v (.int .i64 0)))), none⟩, ⟨(some 9), (.mv (.c (.v (.bool false)))), none⟩]) 
  (.seq (.regS [(24, (0, 1))] [⟨(some 12), (.mv (.t 0)), none⟩, ⟨(some 13), (.mv (.t 1)), none⟩, ⟨(some 14), (.mv (.t 0)), none⟩, ⟨(some 15), (.mv (.t 3)), none⟩, ⟨(some 16), (.mv (.t 0)), none⟩, ⟨(some 17), (.mv (.t 3)), none⟩, ⟨(some 18), (.ixs (.t 16) (.t 17) 1), none⟩, ⟨(some 19), (.ld (.t 18) none), none⟩, ⟨(some 20), (.mv (.t 0)), none⟩, ⟨(some 21), (.mv (.t 1)), none⟩, ⟨(some 22), (.ixs (.t 20) (.t 21) 1), none⟩, ⟨(some 23), (.ld (.t 22) none), none⟩, ⟨(some 24), (.ixs (.t 12) (.t 13) 1), none⟩, ⟨none, (.st (.t 24) (.t 19) 1), none⟩] [⟨(some 25), (.ixs (.t 14) (.t 15) 1), none⟩, ⟨none, (.st (.t 25) (.t 23) 1), none⟩]) 
  (.seq (.reg [] [⟨(some 26), (.mv (.t 1)), none⟩, ⟨(some 27), (.bin .add (.t 26) (.c (.v (.int .i64 1)))), none⟩, ⟨(some 28), (.mv (.t 2)), none⟩, ⟨(some 29), (.bin .sub (.t 28) (.c (.v (.int .i64 1)))), none⟩, ⟨(some 10), (.mv (.t 27)), none⟩, ⟨(some 11), (.mv (.t 29)), none⟩]) 
  (.seq (.block 0 
  (.loopN [45, 44, 43, 42, 41, 40, 39, 38, 37, 36, 35, 34, 33, 32, 31, 30] c49b4)) 
  (.seq (.block 2 
  (.loopN [62, 61, 60, 59, 58, 57, 56, 55, 54, 53, 52, 51, 50, 49, 48, 47, 46] c49b3)) 
  (.seq 
  (.seq (.reg [] [⟨(some 63), (.mv (.t 10)), none⟩, ⟨(some 64), (.mv (.t 11)), none⟩, ⟨(some 65), (.bin .gtr (.t 63) (.t 64)), none⟩]) (.cond (.t 65) 
  (.seq (.regS [(78, (0, 1))] [⟨(some 66), (.mv (.t 0)), none⟩, ⟨(some 67), (.mv (.t 11)), none⟩, ⟨(some 68), (.mv (.t 0)), none⟩, ⟨(some 69), (.mv (.t 1)), none⟩, ⟨(some 70), (.mv (.t 0)), none⟩, ⟨(some 71), (.mv (.t 1)), none⟩, ⟨(some 72), (.ixs (.t 70) (.t 71) 1), none⟩, ⟨(some 73), (.ld (.t 72) none), none⟩, ⟨(some 74), (.mv (.t 0)), none⟩, ⟨(some 75), (.mv (.t 11)), none⟩, ⟨(some 76), (.ixs (.t 74) (.t 75) 1), none⟩, ⟨(some 77), (.ld (.t 76) none), none⟩, ⟨(some 78), (.ixs (.t 66) (.t 67) 1), none⟩, ⟨none, (.st (.t 78) (.t 73) 1), none⟩] [⟨(some 79), (.ixs (.t 68) (.t 69) 1), none⟩, ⟨none, (.st (.t 79) (.t 77) 1), none⟩]) 
  (.seq (.reg [] [⟨(some 80), (.mv (.t 11)), none⟩, ⟨(some 8), (.mv (.t 80)), none⟩, ⟨(some 9), (.mv (.c (.v (.bool true)))), none⟩]) .ret)) .skip)) 
  (.seq (.regS [(93, (0, 1))] [⟨(some 81), (.mv (.t 0)), none⟩, ⟨(some 82), (.mv (.t 10)), none⟩, ⟨(some 83), (.mv (.t 0)), none⟩, ⟨(some 84), (.mv (.t 11)), none⟩, ⟨(some 85), (.mv (.t 0)), none⟩, ⟨(some 86), (.mv (.t 11)), none⟩, ⟨(some 87), (.ixs (.t 85) (.t 86) 1), none⟩, ⟨(some 88), (.ld (.t 87) none), none⟩, ⟨(some 89), (.mv (.t 0)), none⟩, ⟨(some 90), (.mv (.t 10)), none⟩, ⟨(some 91), (.ixs (.t 89) (.t 90) 1), none⟩, ⟨(some 92), (.ld (.t 91) none), none⟩, ⟨(some 93), (.ixs (.t 81) (.t 82) 1), none⟩, ⟨none, (.st (.t 93) (.t 88) 1), none⟩] [⟨(some 94), (.ixs (.t 83) (.t 84) 1), none⟩, ⟨none, (.st (.t 94) (.t 92) 1), none⟩]) 
  (.seq (.reg [] [⟨(some 95), (.mv (.t 10)), none⟩, ⟨(some 96), (.bin .add (.t 95) (.c (.v (.int .i64 1)))), none⟩, ⟨(some 10), (.mv (.t 96)), none⟩]) 
  (.seq (.reg [] [⟨(some 97), (.mv (.t 11)), none⟩, ⟨(some 98), (.bin .sub (.t 97) (.c (.v (.int .i64 1)))), none⟩, ⟨(some 11), (.mv (.t 98)), none⟩]) 
  (.seq (.block 4 
  (.loopN [152, 151, 150, 149, 148, 147, 146, 145, 144, 143, 142, 141, 140, 139, 138, 137, 136, 135, 134, 133, 132, 131, 130, 129, 128, 127, 126, 125, 124, 123, 122, 121, 120, 119, 118, 117, 116, 115, 114, 113, 112, 111, 110, 109, 108, 107, 106, 105, 104, 103, 102, 101, 100, 99] c49b2)) 
  (.seq (.regS [(165, (0, 1))] [⟨(some 153), (.mv (.t 0)), none⟩, ⟨(some 154), (.mv (.t 11)), none⟩, ⟨(some 155), (.mv (.t 0)), none⟩, ⟨(some 156), (.mv (.t 1)), none⟩, ⟨(some 157), (.mv (.t 0)), none⟩, ⟨(some 158), (.mv (.t 1)), none⟩, ⟨(some 159), (.ixs (.t 157) (.t 158) 1), none⟩, ⟨(some 160), (.ld (.t 159) none), none⟩, ⟨(some 161), (.mv (.t 0)), none⟩, ⟨(some 162), (.mv (.t 11)), none⟩, ⟨(some 163), (.ixs (.t 161) (.t 162) 1), none⟩, ⟨(some 164), (.ld (.t 163) none), none⟩, ⟨(some 165), (.ixs (.t 153) (.t 154) 1), none⟩, ⟨none, (.st (.t 165) (.t 160) 1), none⟩] [⟨(some 166), (.ixs (.t 155) (.t 156) 1), none⟩, ⟨none, (.st (.t 166) (.t 164) 1), none⟩]) 
  (.seq (.reg [] [⟨(some 167), (.mv (.t 11)), none⟩, ⟨(some 8), (.mv (.t 167)), none⟩, ⟨(some 9), (.mv (.c (.v (.bool false)))), none⟩]) .ret)))))))))))), [(.t 8), (.t 9)]⟩

def c50 : MF := ⟨1, 19, 
  (.seq (.reg [] [⟨(some 2), (.mv (.c (.v (.int .i64 0)))), none⟩]) 
  (.seq 
  (.seq (.reg [] [⟨(some 3), (.mv (.t 0)), none⟩, ⟨(some 4), (.bin .geq (.t 3) (.c (.v (.int .u32 65536)))), none⟩]) (.cond (.t 4) 
  (.seq (.reg [] [⟨(some 5), (.mv (.t 0)), none⟩, ⟨(some 6), (.bin .shr (.t 5) (.c (.v (.int .u64 16)))), none⟩, ⟨(some 0), (.mv (.t 6)), none⟩]) (.reg [] [⟨(some 2), (.mv (.c (.v (.int .i64 16)))), none⟩])) .skip)) 
  (.seq 
  (.seq (.reg [] [⟨(some 7), (.mv (.t 0)), none⟩, ⟨(some 8), (.bin .geq (.t 7) (.c (.v (.int .u32 256)))), none⟩]) (.cond (.t 8) 
  (.seq (.reg [] [⟨(some 9), (.mv (.t 0)), none⟩, ⟨(some 10), (.bin .shr (.t 9) (.c (.v (.int .u64 8)))), none⟩, ⟨(some 0), (.mv (.t 10)), none⟩]) (.reg [] [⟨(some 11), (.mv (.t 2)), none⟩, ⟨(some 12), (.bin .add (.t 11) (.c (.v (.int .i64 8)))), none⟩, ⟨(some 2), (.mv (.t 12)), none⟩])) .skip)) 
  (.seq (.reg [] [⟨(some 13), (.mv (.t 2)), none⟩, ⟨(some 14), (.mv (.t 0)), none⟩, ⟨(some 15), (.conv .u8 (.t 14)), none⟩, ⟨(some 16), .stk, none⟩, ⟨(some 17), (.conv .i64 (.t 16)), none⟩, ⟨(some 18), (.bin .add (.t 13) (.t 17)), none⟩, ⟨(some 2), (.mv (.t 18)), none⟩]) .ret)))), [(.t 2)]⟩

def c51 : MF := ⟨1, 25, 
  (.seq (.reg [] [⟨(some 2), (.mv (.c (.v (.int .i64 0)))), none⟩]) 
  (.seq 
  (.seq (.reg [] [⟨(some 3), (.mv (.t 0)), none⟩, ⟨(some 4), (.bin .geq (.t 3) (.c (.v (.int .u64 4294967296)))), none⟩]) (.cond (.t 4) 
  (.seq (.reg [] [⟨(some 5), (.mv (.t 0)), none⟩, ⟨(some 6), (.bin .shr (.t 5) (.c (.v (.int .u64 32)))), none⟩, ⟨(some 0), (.mv (.t 6)), none⟩]) (.reg [] [⟨(some 2), (.mv (.c (.v (.int .i64 32)))), none⟩])) .skip)) 
  (.seq 
  (.seq (.reg [] [⟨(some 7), (.mv (.t 0)), none⟩, ⟨(some 8), (.bin .geq (.t 7) (.c (.v (.int .u64 65536)))), none⟩]) (.cond (.t 8) 
  (.seq (.reg [] [⟨(some 9), (.mv (.t 0)), none⟩, ⟨(some 10), (.bin .shr (.t 9) (.c (.v (.int .u64 16)))), none⟩, ⟨(some 0), (.mv (.t 10)), none⟩]) (.reg [] [⟨(some 11), (.mv (.t 2)), none⟩, ⟨(some 12), (.bin .add (.t 11) (.c (.v (.int .i64 16)))), none⟩, ⟨(some 2), (.mv (.t 12)), none⟩])) .skip)) 
  (.seq 
  (.seq (.reg [] [⟨(some 13), (.mv (.t 0)), none⟩, ⟨(some 14), (.bin .geq (.t 13) (.c (.v (.int .u64 256)))), none⟩]) (.cond (.t 14) 
  (.seq (.reg [] [⟨(some 15), (.mv (.t 0)), none⟩, ⟨(some 16), (.bin .shr (.t 15) (.c (.v (.int .u64 8)))), none⟩, ⟨(some 0), (.mv (.t 16)), none⟩]) (.reg [] [⟨(some 17), (.mv (.t 2)), none⟩, ⟨(some 18), (.bin .add (.t 17) (.c (.v (.int .i64 8)))), none⟩, ⟨(some 2), (.mv (.t 18)), none⟩])) .skip)) 
  (.seq (.reg [] [⟨(some 19), (.mv (.t 2)), none⟩, ⟨(some 20), (.mv (.t 0)), none⟩, ⟨(some 21), (.conv .u8 (.t 20)), none⟩, ⟨(some 22), .stk, none⟩, ⟨(some 23), (.conv .i64 (.t 22)), none⟩, ⟨(some 24), (.bin .add (.t 19) (.t 23)), none⟩, ⟨(some 2), (.mv (.t 24)), none⟩]) .ret))))), [(.t 2)]⟩

def c52b0 : MC := (.block 1 
  (.seq (.reg [] [⟨(some 11), (.mv (.t 8)), none⟩, ⟨(some 12), (.bin .mul (.c (.v (.int .i64 2))) (.t 11)), none⟩, ⟨(some 13), (.bin .add (.t 12) (.c (.v (.int .i64 1)))), none⟩, ⟨(some 9), (.mv (.t 13)), none⟩]) 
  (.seq 
  (.seq (.reg [] [⟨(some 14), (.mv (.t 9)), none⟩, ⟨(some 15), (.mv (.t 2)), none⟩, ⟨(some 16), (.bin .geq (.t 14) (.t 15)), none⟩]) (.cond (.t 16) (.exit 0) .skip)) 
  (.seq 
  (.seq (.reg [⟨(some 17), (.mv (.t 9)), none⟩, ⟨(some 18), (.bin .add (.t 17) (.c (.v (.int .i64 1)))), none⟩, ⟨(some 19), (.mv (.t 2)), none⟩, ⟨(some 20), (.bin .lss (.t 18) (.t 19)), none⟩, ⟨(some 21), (.mv (.t 20)), none⟩, ⟨(some 22), (.mv (.t 0)), (some (21, true))⟩, ⟨(some 23), (.mv (.t 3)), (some (21, true))⟩, ⟨(some 24), (.mv (.t 9)), (some (21, true))⟩, ⟨(some 25), (.bin .add (.t 23) (.t 24)), (some (21, true))⟩, ⟨(some 26), (.ixs (.t 22) (.t 25) 1), (some (21, true))⟩, ⟨(some 27), (.ld (.t 26) none), (some (21, true))⟩, ⟨(some 28), (.mv (.t 0)), (some (21, true))⟩, ⟨(some 29), (.mv (.t 3)), (some (21, true))⟩, ⟨(some 30), (.mv (.t 9)), (some (21, true))⟩, ⟨(some 31), (.bin .add (.t 29) (.t 30)), (some (21, true))⟩, ⟨(some 32), (.bin .add (.t 31) (.c (.v (.int .i64 1)))), (some (21, true))⟩, ⟨(some 33), (.ixs (.t 28) (.t 32) 1), (some (21, true))⟩, ⟨(some 34), (.ld (.t 33) none), (some (21, true))⟩] [⟨(some 35), (.call (.c (.f 47 [])) [(.t 27), (.t 34)]), (some (21, true))⟩, ⟨(some 36), (.pick (.t 21) (.t 35) (.c (.v (.bool false)))), none⟩]) (.cond (.t 36) (.reg [] [⟨(some 37), (.mv (.t 9)), none⟩, ⟨(some 38), (.bin .add (.t 37) (.c (.v (.int .i64 1)))), none⟩, ⟨(some 9), (.mv (.t 38)), none⟩]) .skip)) 
  (.seq 
  (.seq (.reg [⟨(some 39), (.mv (.t 0)), none⟩, ⟨(some 40), (.mv (.t 3)), none⟩, ⟨(some 41), (.mv (.t 8)), none⟩, ⟨(some 42), (.bin .add (.t 40) (.t 41)), none⟩, ⟨(some 43), (.ixs (.t 39) (.t 42) 1), none⟩, ⟨(some 44), (.ld (.t 43) none), none⟩, ⟨(some 45), (.mv (.t 0)), none⟩, ⟨(some 46), (.mv (.t 3)), none⟩, ⟨(some 47), (.mv (.t 9)), none⟩, ⟨(some 48), (.bin .add (.t 46) (.t 47)), none⟩, ⟨(some 49), (.ixs (.t 45) (.t 48) 1), none⟩, ⟨(some 50), (.ld (.t 49) none), none⟩] [⟨(some 51), (.call (.c (.f 47 [])) [(.t 44), (.t 50)]), none⟩, ⟨(some 52), (.un .not (.t 51)), none⟩]) (.cond (.t 52) .ret .skip)) 
  (.seq (.regS [(73, (0, 1))] [⟨(some 53), (.mv (.t 0)), none⟩, ⟨(some 54), (.mv (.t 3)), none⟩, ⟨(some 55), (.mv (.t 8)), none⟩, ⟨(some 56), (.bin .add (.t 54) (.t 55)), none⟩, ⟨(some 57), (.mv (.t 0)), none⟩, ⟨(some 58), (.mv (.t 3)), none⟩, ⟨(some 59), (.mv (.t 9)), none⟩, ⟨(some 60), (.bin .add (.t 58) (.t 59)), none⟩, ⟨(some 61), (.mv (.t 0)), none⟩, ⟨(some 62), (.mv (.t 3)), none⟩, ⟨(some 63), (.mv (.t 9)), none⟩, ⟨(some 64), (.bin .add (.t 62) (.t 63)), none⟩, ⟨(some 65), (.ixs (.t 61) (.t 64) 1), none⟩, ⟨(some 66), (.ld (.t 65) none), none⟩, ⟨(some 67), (.mv (.t 0)), none⟩, ⟨(some 68), (.mv (.t 3)), none⟩, ⟨(some 69), (.mv (.t 8)), none⟩, ⟨(some 70), (.bin .add (.t 68) (.t 69)), none⟩, ⟨(some 71), (.ixs (.t 67) (.t 70) 1), none⟩, ⟨(some 72), (.ld (.t 71) none), none⟩, ⟨(some 73), (.ixs (.t 53) (.t 56) 1), none⟩, ⟨none, (.st (.t 73) (.t 66) 1), none⟩] [⟨(some 74), (.ixs (.t 57) (.t 60) 1), none⟩, ⟨none, (.st (.t 74) (.t 72) 1), none⟩]) (.reg [] [⟨(some 75), (.mv (.t 9)), none⟩, ⟨(some 8), (.mv (.t 75)), none⟩])))))))

def c52 : MF := ⟨4, 76, 
  (.seq (.reg [] [⟨(some 10), (.mv (.t 1)), none⟩, ⟨(some 8), (.mv (.t 10)), none⟩]) (.block 0 
  (.loopN [75, 74, 73, 72, 71, 70, 69, 68, 67, 66, 65, 64, 63, 62, 61, 60, 59, 58, 57, 56, 55, 54, 53, 52, 51, 50, 49, 48, 47, 46, 45, 44, 43, 42, 41, 40, 39, 38, 37, 36, 35, 34, 33, 32, 31, 30, 29, 28, 27, 26, 25, 24, 23, 22, 21, 20, 19, 18, 17, 16, 15, 14, 13, 12, 11] c52b0))), []⟩

def c53 : MF := ⟨1, 7, 
  (.seq (.reg [] [⟨(some 2), (.mv (.c (.v (.int .u64 0)))), none⟩]) 
  (.seq (.reg [] [⟨(some 3), (.mv (.t 0)), none⟩, ⟨(some 4), (.conv .u64 (.t 3)), none⟩, ⟨(some 5), (.call (.c (.f 40 [])) [(.t 4)]), none⟩, ⟨(some 6), (.bin .shl (.c (.v (.int .u64 1))) (.t 5)), none⟩, ⟨(some 2), (.mv (.t 6)), none⟩]) .ret)), [(.t 2)]⟩

def c54 : MF := ⟨1, 33, 
  (.seq (.reg [] [⟨(some 2), (.mv (.c (.v (.int .u64 0)))), none⟩]) 
  (.seq (.reg [⟨(some 3), (.mv (.t 0)), none⟩, ⟨(some 4), (.nilc (.t 3)), none⟩, ⟨(some 5), (.ld (.t 4) none), none⟩, ⟨(some 6), (.mv (.t 0)), none⟩, ⟨(some 7), (.nilc (.t 6)), none⟩, ⟨(some 8), (.ld (.t 7) none), none⟩, ⟨(some 9), (.bin .shl (.t 8) (.c (.v (.int .u64 13)))), none⟩] [⟨(some 10), (.bin .xor (.t 5) (.t 9)), none⟩, ⟨(some 11), (.nilc (.t 3)), none⟩, ⟨none, (.st (.t 11) (.t 10) 1), none⟩]) 
  (.seq (.reg [⟨(some 12), (.mv (.t 0)), none⟩, ⟨(some 13), (.nilc (.t 12)), none⟩, ⟨(some 14), (.ld (.t 13) none), none⟩, ⟨(some 15), (.mv (.t 0)), none⟩, ⟨(some 16), (.nilc (.t 15)), none⟩, ⟨(some 17), (.ld (.t 16) none), none⟩, ⟨(some 18), (.bin .shr (.t 17) (.c (.v (.int .u64 7)))), none⟩] [⟨(some 19), (.bin .xor (.t 14) (.t 18)), none⟩, ⟨(some 20), (.nilc (.t 12)), none⟩, ⟨none, (.st (.t 20) (.t 19) 1), none⟩]) 
  (.seq (.reg [⟨(some 21), (.mv (.t 0)), none⟩, ⟨(some 22), (.nilc (.t 21)), none⟩, ⟨(some 23), (.ld (.t 22) none), none⟩, ⟨(some 24), (.mv (.t 0)), none⟩, ⟨(some 25), (.nilc (.t 24)), none⟩, ⟨(some 26), (.ld (.t 25) none), none⟩, ⟨(some 27), (.bin .shl (.t 26) (.c (.v (.int .u64 17)))), none⟩] [⟨(some 28), (.bin .xor (.t 23) (.t 27)), none⟩, ⟨(some 29), (.nilc (.t 21)), none⟩, ⟨none, (.st (.t 29) (.t 28) 1), none⟩]) 
  (.seq (.reg [] [⟨(some 30), (.mv (.t 0)), none⟩, ⟨(some 31), (.nilc (.t 30)), none⟩, ⟨(some 32), (.ld (.t 31) none), none⟩, ⟨(some 2), (.mv (.t 32)), none⟩]) .ret))))), [(.t 2)]⟩

def c55 : MF := ⟨3, 15, 
  (.seq (.reg [] [⟨(some 6), (.mv (.c (.v (.int .i64 0)))), none⟩]) 
  (.seq (.reg [] [⟨(some 7), (.mv (.t 0)), none⟩, ⟨(some 8), (.mv (.t 1)), none⟩, ⟨(some 9), (.bin .sub (.t 8) (.c (.v (.int .i64 1)))), none⟩, ⟨(some 10), (.mv (.t 1)), none⟩, ⟨(some 11), (.mv (.t 1)), none⟩, ⟨(some 12), (.bin .add (.t 11) (.c (.v (.int .i64 1)))), none⟩, ⟨(some 13), (.mv (.t 2)), none⟩, ⟨(some 14), (.call (.c (.f 56 [])) [(.t 7), (.t 9), (.t 10), (.t 12), (.t 13)]), none⟩, ⟨(some 6), (.mv (.t 14)), none⟩]) .ret)), [(.t 6)]⟩

def c56 : MF := ⟨5, 36, 
  (.seq (.reg [] [⟨(some 10), (.mv (.c (.v (.int .i64 0)))), none⟩]) 
  (.seq (.reg [] [⟨(some 12), (.mv (.t 0)), none⟩, ⟨(some 13), (.mv (.t 1)), none⟩, ⟨(some 14), (.mv (.t 2)), none⟩, ⟨(some 15), (.mv (.t 4)), none⟩, ⟨(some 16), (.call (.c (.f 58 [])) [(.t 12), (.t 13), (.t 14), (.t 15)]), none⟩, ⟨(some 11), (.mv (.t 16)), none⟩, ⟨(some 17), (.ext (.t 11) 0), none⟩, ⟨(some 18), (.ext (.t 11) 1), none⟩, ⟨(some 1), (.mv (.t 17)), none⟩, ⟨(some 2), (.mv (.t 18)), none⟩]) 
  (.seq (.reg [] [⟨(some 20), (.mv (.t 0)), none⟩, ⟨(some 21), (.mv (.t 2)), none⟩, ⟨(some 22), (.mv (.t 3)), none⟩, ⟨(some 23), (.mv (.t 4)), none⟩, ⟨(some 24), (.call (.c (.f 58 [])) [(.t 20), (.t 21), (.t 22), (.t 23)]), none⟩, ⟨(some 19), (.mv (.t 24)), none⟩, ⟨(some 25), (.ext (.t 19) 0), none⟩, ⟨(some 26), (.ext (.t 19) 1), none⟩, ⟨(some 2), (.mv (.t 25)), none⟩, ⟨(some 3), (.mv (.t 26)), none⟩]) 
  (.seq (.reg [] [⟨(some 28), (.mv (.t 0)), none⟩, ⟨(some 29), (.mv (.t 1)), none⟩, ⟨(some 30), (.mv (.t 2)), none⟩, ⟨(some 31), (.mv (.t 4)), none⟩, ⟨(some 32), (.call (.c (.f 58 [])) [(.t 28), (.t 29), (.t 30), (.t 31)]), none⟩, ⟨(some 27), (.mv (.t 32)), none⟩, ⟨(some 33), (.ext (.t 27) 0), none⟩, ⟨(some 34), (.ext (.t 27) 1), none⟩, ⟨(some 1), (.mv (.t 33)), none⟩, ⟨(some 2), (.mv (.t 34)), none⟩]) 
  (.seq (.reg [] [⟨(some 35), (.mv (.t 2)), none⟩, ⟨(some 10), (.mv (.t 35)), none⟩]) .ret))))), [(.t 10)]⟩

def c57 : MF := ⟨1, 6, 
  (.seq (.reg [] [⟨(some 2), (.mv (.c (.v (.bool false)))), none⟩]) 
  (.seq (.reg [] [⟨(some 3), (.mv (.t 0)), none⟩, ⟨(some 4), (.mv (.t 0)), none⟩, ⟨(some 5), (.bin .neq (.t 3) (.t 4)), none⟩, ⟨(some 2), (.mv (.t 5)), none⟩]) .ret)), [(.t 2)]⟩

def c58 : MF := ⟨4, 28, 
  (.seq (.reg [] [⟨(some 8), (.mv (.c (.v (.int .i64 0)))), none⟩, ⟨(some 9), (.mv (.c (.v (.int .i64 0)))), none⟩]) 
  (.seq 
  (.seq (.reg [⟨(some 10), (.mv (.t 0)), none⟩, ⟨(some 11), (.mv (.t 2)), none⟩, ⟨(some 12), (.ixs (.t 10) (.t 11) 1), none⟩, ⟨(some 13), (.ld (.t 12) none), none⟩, ⟨(some 14), (.mv (.t 0)), none⟩, ⟨(some 15), (.mv (.t 1)), none⟩, ⟨(some 16), (.ixs (.t 14) (.t 15) 1), none⟩, ⟨(some 17), (.ld (.t 16) none), none⟩] [⟨(some 18), (.call (.c (.f 47 [])) [(.t 13), (.t 17)]), none⟩]) (.cond (.t 18) 
  (.seq (.reg [] [⟨(some 19), (.mv (.t 3)), none⟩, ⟨(some 20), (.nilc (.t 19)), none⟩, ⟨(some 21), (.ld (.t 20) none), none⟩, ⟨(some 22), (.bin .add (.t 21) (.c (.v (.int .i64 1)))), none⟩, ⟨(some 23), (.nilc (.t 19)), none⟩, ⟨none, (.st (.t 23) (.t 22) 1), none⟩]) 
  (.seq (.reg [] [⟨(some 24), (.mv (.t 2)), none⟩, ⟨(some 25), (.mv (.t 1)), none⟩, ⟨(some 8), (.mv (.t 24)), none⟩, ⟨(some 9), (.mv (.t 25)), none⟩]) .ret)) .skip)) 
  (.seq (.reg [] [⟨(some 26), (.mv (.t 1)), none⟩, ⟨(some 27), (.mv (.t 2)), none⟩, ⟨(some 8), (.mv (.t 26)), none⟩, ⟨(some 9), (.mv (.t 27)), none⟩]) .ret))), [(.t 8), (.t 9)]⟩

def pureL : List FuncId := []
theorem ok3 : ∃ md, cF Try.prog md 3 = some c3 := ⟨(true, pureL), by kernel_rfl⟩
theorem ok5 : ∃ md, cF Try.prog md 5 = some c5 := ⟨(true, pureL), by kernel_rfl⟩
theorem ok6 : ∃ md, cF Try.prog md 6 = some c6 := ⟨(true, pureL), by kernel_rfl⟩
theorem ok7 : ∃ md, cF Try.prog md 7 = some c7 := ⟨(true, pureL), by kernel_rfl⟩
theorem ok8 : ∃ md, cF Try.prog md 8 = some c8 := ⟨(true, pureL), by kernel_rfl⟩
theorem ok9 : ∃ md, cF Try.prog md 9 = some c9 := ⟨(true, pureL), by kernel_rfl⟩
theorem ok10 : ∃ md, cF Try.prog md 10 = some c10 := ⟨(true, pureL), by kernel_rfl⟩
theorem ok11 : ∃ md, cF Try.prog md 11 = some c11 := ⟨(true, pureL), by kernel_rfl⟩
theorem ok12 : ∃ md, cF Try.prog md 12 = some c12 := ⟨(true, pureL), by kernel_rfl⟩
theorem ok18 : ∃ md, cF Try.prog md 18 = some c18 := ⟨(true, pureL), by kernel_rfl⟩
theorem ok20 : ∃ md, cF Try.prog md 20 = some c20 := ⟨(true, pureL), by kernel_rfl⟩
theorem ok21 : ∃ md, cF Try.prog md 21 = some c21 := ⟨(true, pureL), by kernel_rfl⟩
theorem ok22 : ∃ md, cF Try.prog md 22 = some c22 := ⟨(true, pureL), by kernel_rfl⟩
theorem ok23 : ∃ md, cF Try.prog md 23 = some c23 := ⟨(true, pureL), by kernel_rfl⟩
theorem ok24 : ∃ md, cF Try.prog md 24 = some c24 := ⟨(true, pureL), by kernel_rfl⟩
theorem ok25 : ∃ md, cF Try.prog md 25 = some c25 := ⟨(true, pureL), by kernel_rfl⟩
theorem ok26 : ∃ md, cF Try.prog md 26 = some c26 := ⟨(true, pureL), by kernel_rfl⟩
theorem ok30 : ∃ md, cF Try.prog md 30 = some c30 := ⟨(true, pureL), by kernel_rfl⟩
theorem ok31 : ∃ md, cF Try.prog md 31 = some c31 := ⟨(true, pureL), by kernel_rfl⟩
theorem ok32 : ∃ md, cF Try.prog md 32 = some c32 := ⟨(true, pureL), by kernel_rfl⟩
theorem ok34 : ∃ md, cF Try.prog md 34 = some c34 := ⟨(true, pureL), by kernel_rfl⟩
theorem ok35 : ∃ md, cF Try.prog md 35 = some c35 := ⟨(true, pureL), by kernel_rfl⟩
theorem ok36 : ∃ md, cF Try.prog md 36 = some c36 := ⟨(true, pureL), by kernel_rfl⟩
theorem ok37 : ∃ md, cF Try.prog md 37 = some c37 := ⟨(true, pureL), by kernel_rfl⟩
theorem ok38 : ∃ md, cF Try.prog md 38 = some c38 := ⟨(true, pureL), by kernel_rfl⟩
theorem ok39 : ∃ md, cF Try.prog md 39 = some c39 := ⟨(true, pureL), by kernel_rfl⟩
theorem ok40 : ∃ md, cF Try.prog md 40 = some c40 := ⟨(true, pureL), by kernel_rfl⟩
theorem ok41 : ∃ md, cF Try.prog md 41 = some c41 := ⟨(true, pureL), by kernel_rfl⟩
theorem ok42 : ∃ md, cF Try.prog md 42 = some c42 := ⟨(true, pureL), by kernel_rfl⟩
theorem ok43 : ∃ md, cF Try.prog md 43 = some c43 := ⟨(true, pureL), by kernel_rfl⟩
theorem ok44 : ∃ md, cF Try.prog md 44 = some c44 := ⟨(true, pureL), by kernel_rfl⟩
theorem ok45 : ∃ md, cF Try.prog md 45 = some c45 := ⟨(true, pureL), by kernel_rfl⟩
theorem ok46 : ∃ md, cF Try.prog md 46 = some c46 := ⟨(true, pureL), by kernel_rfl⟩
theorem ok47 : ∃ md, cF Try.prog md 47 = some c47 := ⟨(true, pureL), by kernel_rfl⟩
theorem ok48 : ∃ md, cF Try.prog md 48 = some c48 := ⟨(true, pureL), by kernel_rfl⟩
theorem ok49 : ∃ md, cF Try.prog md 49 = some c49 := ⟨(true, pureL), by kernel_rfl⟩
theorem ok50 : ∃ md, cF Try.prog md 50 = some c50 := ⟨(true, pureL), by kernel_rfl⟩
theorem ok51 : ∃ md, cF Try.prog md 51 = some c51 := ⟨(true, pureL), by kernel_rfl⟩
theorem ok52 : ∃ md, cF Try.prog md 52 = some c52 := ⟨(true, pureL), by kernel_rfl⟩
theorem ok53 : ∃ md, cF Try.prog md 53 = some c53 := ⟨(true, pureL), by kernel_rfl⟩
theorem ok54 : ∃ md, cF Try.prog md 54 = some c54 := ⟨(true, pureL), by kernel_rfl⟩
theorem ok55 : ∃ md, cF Try.prog md 55 = some c55 := ⟨(true, pureL), by kernel_rfl⟩
theorem ok56 : ∃ md, cF Try.prog md 56 = some c56 := ⟨(true, pureL), by kernel_rfl⟩
theorem ok57 : ∃ md, cF Try.prog md 57 = some c57 := ⟨(true, pureL), by kernel_rfl⟩
theorem ok58 : ∃ md, cF Try.prog md 58 = some c58 := ⟨(true, pureL), by kernel_rfl⟩

def cmL : List (Nat × ME) := [(3, .n c3), (5, .n c5), (6, .n c6), (7, .n c7), (8, .n c8), (9, .n c9), (10, .n c10), (11, .n c11), (12, .n c12), (18, .n c18), (20, .n c20), (21, .n c21), (22, .n c22), (23, .n c23), (24, .n c24), (25, .n c25), (26, .n c26), (30, .n c30), (31, .n c31), (32, .n c32), (34, .n c34), (35, .n c35), (36, .n c36), (37, .n c37), (38, .n c38), (39, .n c39), (40, .n c40), (41, .n c41), (42, .n c42), (43, .n c43), (44, .n c44), (45, .n c45), (46, .n c46), (47, .n c47), (48, .n c48), (49, .n c49), (50, .n c50), (51, .n c51), (52, .n c52), (53, .n c53), (54, .n c54), (55, .n c55), (56, .n c56), (57, .n c57), (58, .n c58)]

def cm : FuncId → Option ME := look cmL

theorem hcm : ∀ g m, cm g = some m → Good Try.prog g m := look_ok ⟨ok3, ok5, ok6, ok7, ok8, ok9, ok10, ok11, ok12, ok18, ok20, ok21, ok22, ok23, ok24, ok25, ok26, ok30, ok31, ok32, ok34, ok35, ok36, ok37, ok38, ok39, ok40, ok41, ok42, ok43, ok44, ok45, ok46, ok47, ok48, ok49, ok50, ok51, ok52, ok53, ok54, ok55, ok56, ok57, ok58, trivial⟩

end Go.Proofs.Ytichjheodohkaaa
