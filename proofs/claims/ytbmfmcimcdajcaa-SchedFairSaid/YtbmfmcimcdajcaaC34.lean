/- The resolved code of the functions that are reached, as a program of ours has printed it; each is checked against the given program. -/
import Derived.KernelRfl
import Derived.Test.YtbmfmcimcdajcaaEng20
import Derived.Test.YtbmfmcimcdajcaaProg
namespace Go.Proofs.Ytbmfmcimcdajcaa
open Go

def c3b0 : MC := 
  (.seq 
  (.seq (.reg [] [⟨(some 59), (.mv (.t 11)), none⟩, ⟨(some 60), (.mv (.t 0)), none⟩, ⟨(some 61), (.len (.t 60)), none⟩, ⟨(some 62), (.bin .lss (.t 59) (.t 61)), none⟩, ⟨(some 63), (.mv (.t 62)), none⟩, ⟨(some 64), (.mv (.t 8)), (some (63, true))⟩, ⟨(some 65), (.pick (.t 63) (.t 64) (.c (.v (.bool false)))), none⟩]) (.cond (.t 65) .skip (.exit 0))) 
  (.seq (.block 1 
  (.seq (.alt (.regM [(.p, ⟨(some 68), (.mv (.t 7)), none⟩), (.p, ⟨(some 69), (.mv (.t 11)), none⟩), ((.q [0, 1]), ⟨(some 70), (.call (.c (.f 13 [])) [(.t 68), (.t 69)]), none⟩), (.p, ⟨(some 71), (.mv (.t 0)), none⟩), (.p, ⟨(some 72), (.mv (.t 11)), none⟩), (.p, ⟨(some 73), (.ixs (.t 71) (.t 72) 1), none⟩), (.p, ⟨(some 74), (.ld (.t 73) none), none⟩)] [⟨(some 75), (.call (.c (.f 14 [])) [(.t 74), (.c (.v (.int .i64 0)))]), none⟩, ⟨(some 76), (.bin .neq (.t 70) (.t 75)), none⟩]) (.reg [⟨(some 68), (.mv (.t 7)), none⟩, ⟨(some 69), (.mv (.t 11)), none⟩, ⟨(some 70), (.call (.c (.f 13 [])) [(.t 68), (.t 69)]), none⟩, ⟨(some 71), (.mv (.t 0)), none⟩, ⟨(some 72), (.mv (.t 11)), none⟩, ⟨(some 73), (.ixs (.t 71) (.t 72) 1), none⟩, ⟨(some 74), (.ld (.t 73) none), none⟩] [⟨(some 75), (.call (.c (.f 14 [])) [(.t 74), (.c (.v (.int .i64 0)))]), none⟩, ⟨(some 76), (.bin .neq (.t 70) (.t 75)), none⟩])) (.cond (.t 76) 
  (.seq (.reg [] [⟨(some 6), (.mv (.c (.v (.bool false)))), none⟩]) .ret) .skip))) (.reg [] [⟨(some 66), (.mv (.t 11)), none⟩, ⟨(some 67), (.bin .add (.t 66) (.c (.v (.int .i64 1)))), none⟩, ⟨(some 11), (.mv (.t 67)), none⟩])))

def c3 : MF := ⟨3, 78, 
  (.seq (.reg [] [⟨(some 6), (.mv (.c (.v (.bool false)))), none⟩]) 
  (.seq 
  (.seq (.reg [] [⟨(some 12), (.mv (.t 0)), none⟩, ⟨(some 13), (.call (.c (.f 7 [])) [(.t 12)]), none⟩, ⟨(some 14), (.un .not (.t 13)), none⟩, ⟨(some 15), (.mv (.t 14)), none⟩, ⟨(some 16), (.mv (.t 1)), (some (15, false))⟩, ⟨(some 17), (.len (.t 16)), (some (15, false))⟩, ⟨(some 18), (.bin .gtr (.t 17) (.c (.v (.int .i64 500)))), (some (15, false))⟩, ⟨(some 19), (.pick (.t 15) (.c (.v (.bool true))) (.t 18)), none⟩]) (.cond (.t 19) 
  (.seq (.reg [] [⟨(some 20), (.call (.c (.f 8 [])) []), none⟩, ⟨(some 6), (.mv (.t 20)), none⟩]) .ret) .skip)) 
  (.seq (.reg [] [⟨(some 22), (.mv (.t 0)), none⟩, ⟨(some 23), (.mv (.t 1)), none⟩, ⟨(some 24), (.mv (.t 2)), none⟩, ⟨(some 25), (.call (.c (.f 9 [])) [(.t 22), (.t 23), (.t 24)]), none⟩, ⟨(some 21), (.mv (.t 25)), none⟩, ⟨(some 26), (.ext (.t 21) 0), none⟩, ⟨(some 27), (.ext (.t 21) 1), none⟩, ⟨(some 7), (.mv (.t 26)), none⟩, ⟨(some 8), (.mv (.t 27)), none⟩]) 
  (.seq (.reg [] [⟨(some 29), (.mv (.t 0)), none⟩, ⟨(some 30), (.mv (.t 1)), none⟩, ⟨(some 31), (.mv (.t 2)), none⟩, ⟨(some 32), (.call (.c (.f 10 [])) [(.t 29), (.t 30), (.t 31)]), none⟩, ⟨(some 28), (.mv (.t 32)), none⟩, ⟨(some 33), (.ext (.t 28) 0), none⟩, ⟨(some 34), (.ext (.t 28) 1), none⟩, ⟨(some 9), (.mv (.t 33)), none⟩, ⟨(some 10), (.mv (.t 34)), none⟩]) 
  (.seq 
  (.seq (.reg [] [⟨(some 35), (.mv (.t 7)), none⟩, ⟨(some 36), (.mv (.t 9)), none⟩, ⟨(some 37), (.call (.c (.f 11 [])) [(.t 35), (.t 36)]), none⟩, ⟨(some 38), (.un .not (.t 37)), none⟩, ⟨(some 39), (.mv (.t 38)), none⟩, ⟨(some 40), (.mv (.t 8)), (some (39, false))⟩, ⟨(some 41), (.mv (.t 10)), (some (39, false))⟩, ⟨(some 42), (.eqv true false [.b] (.t 40) (.t 41)), (some (39, false))⟩, ⟨(some 43), (.pick (.t 39) (.c (.v (.bool true))) (.t 42)), none⟩]) (.cond (.t 43) 
  (.seq (.reg [] [⟨(some 6), (.mv (.c (.v (.bool false)))), none⟩]) .ret) .skip)) 
  (.seq 
  (.seq (.reg [] [⟨(some 44), (.mv (.t 2)), none⟩, ⟨(some 45), (.bin .lss (.t 44) (.c (.v (.int .i64 1)))), none⟩]) (.cond (.t 45) 
  (.seq (.reg [] [⟨(some 46), (.mv (.t 7)), none⟩, ⟨(some 47), (.len (.t 46)), none⟩, ⟨(some 48), (.bin .eql (.t 47) (.c (.v (.int .i64 0)))), none⟩, ⟨(some 49), (.mv (.t 48)), none⟩, ⟨(some 50), (.mv (.t 8)), (some (49, true))⟩, ⟨(some 51), (.mv (.t 0)), (some (49, true))⟩, ⟨(some 52), (.call (.c (.f 12 [])) [(.t 51)]), (some (49, true))⟩, ⟨(some 53), (.bin .eql (.t 52) (.c (.v (.int .i64 0)))), (some (49, true))⟩, ⟨(some 54), (.eqv false false [.b] (.t 50) (.t 53)), (some (49, true))⟩, ⟨(some 55), (.pick (.t 49) (.t 54) (.c (.v (.bool false)))), none⟩, ⟨(some 56), (.mv (.t 55)), none⟩, ⟨(some 57), (.call (.c (.f 8 [])) []), (some (56, true))⟩, ⟨(some 58), (.pick (.t 56) (.t 57) (.c (.v (.bool false)))), none⟩, ⟨(some 6), (.mv (.t 58)), none⟩]) .ret) .skip)) 
  (.seq 
  (.seq (.reg [] [⟨(some 11), (.mv (.c (.v (.int .i64 0)))), none⟩]) (.block 0 
  (.loopN [67, 66, 6, 76, 75, 74, 73, 72, 71, 70, 69, 68, 65, 64, 63, 62, 61, 60, 59] c3b0))) 
  (.seq (.reg [] [⟨(some 77), (.call (.c (.f 8 [])) []), none⟩, ⟨(some 6), (.mv (.t 77)), none⟩]) .ret)))))))), [(.t 6)]⟩

def c4b0 : MC := 
  (.seq 
  (.seq (.reg [] [⟨(some 58), (.mv (.t 10)), none⟩, ⟨(some 59), (.mv (.t 7)), none⟩, ⟨(some 60), (.len (.t 59)), none⟩, ⟨(some 61), (.bin .lss (.t 58) (.t 60)), none⟩]) (.cond (.t 61) .skip (.exit 2))) 
  (.seq (.block 3 
  (.seq (.reg [] [⟨(some 64), (.mv (.t 7)), none⟩, ⟨(some 65), (.mv (.t 10)), none⟩, ⟨(some 66), (.ixs (.t 64) (.t 65) 1), none⟩, ⟨(some 67), (.ld (.t 66) none), none⟩, ⟨(some 68), (.bin .gtr (.t 67) (.c (.v (.int .i64 0)))), none⟩, ⟨(some 69), (.mv (.t 68)), none⟩, ⟨(some 70), (.mv (.t 5)), (some (69, true))⟩, ⟨(some 71), (.mv (.t 8)), (some (69, true))⟩, ⟨(some 72), (.mv (.t 8)), (some (69, true))⟩, ⟨(some 73), (.mv (.t 9)), (some (69, true))⟩, ⟨(some 74), (.bin .add (.t 72) (.t 73)), (some (69, true))⟩, ⟨(some 75), (.slc (.t 70) (some (.t 71)) (some (.t 74)) none 1), (some (69, true))⟩, ⟨(some 76), (.mv (.t 10)), (some (69, true))⟩, ⟨(some 77), (.call (.c (.f 13 [])) [(.t 75), (.t 76)]), (some (69, true))⟩, ⟨(some 78), (.bin .eql (.t 77) (.c (.v (.int .i64 0)))), (some (69, true))⟩, ⟨(some 79), (.pick (.t 69) (.t 78) (.c (.v (.bool false)))), none⟩]) (.cond (.t 79) 
  (.seq (.reg [] [⟨(some 4), (.mv (.c (.v (.bool false)))), none⟩]) .ret) .skip))) (.reg [] [⟨(some 62), (.mv (.t 10)), none⟩, ⟨(some 63), (.bin .add (.t 62) (.c (.v (.int .i64 1)))), none⟩, ⟨(some 10), (.mv (.t 63)), none⟩])))

def c4b1 : MC := 
  (.seq 
  (.seq (.reg [] [⟨(some 38), (.mv (.t 8)), none⟩, ⟨(some 39), (.mv (.t 5)), none⟩, ⟨(some 40), (.len (.t 39)), none⟩, ⟨(some 41), (.bin .lss (.t 38) (.t 40)), none⟩]) (.cond (.t 41) .skip (.exit 0))) 
  (.seq (.block 1 
  (.seq (.reg [] [⟨(some 44), (.mv (.t 7)), none⟩, ⟨(some 45), (.call (.c (.f 12 [])) [(.t 44)]), none⟩, ⟨(some 9), (.mv (.t 45)), none⟩]) 
  (.seq 
  (.seq (.reg [] [⟨(some 46), (.mv (.t 8)), none⟩, ⟨(some 47), (.mv (.t 1)), none⟩, ⟨(some 48), (.len (.t 47)), none⟩, ⟨(some 49), (.bin .geq (.t 46) (.t 48)), none⟩, ⟨(some 50), (.mv (.t 49)), none⟩, ⟨(some 51), (.mv (.t 8)), (some (50, true))⟩, ⟨(some 52), (.mv (.t 9)), (some (50, true))⟩, ⟨(some 53), (.bin .add (.t 51) (.t 52)), (some (50, true))⟩, ⟨(some 54), (.mv (.t 5)), (some (50, true))⟩, ⟨(some 55), (.len (.t 54)), (some (50, true))⟩, ⟨(some 56), (.bin .leq (.t 53) (.t 55)), (some (50, true))⟩, ⟨(some 57), (.pick (.t 50) (.t 56) (.c (.v (.bool false)))), none⟩]) (.cond (.t 57) 
  (.seq (.reg [] [⟨(some 10), (.mv (.c (.v (.int .i64 0)))), none⟩]) (.block 2 
  (.loopN [63, 62, 4, 79, 78, 77, 76, 75, 74, 73, 72, 71, 70, 69, 68, 67, 66, 65, 64, 61, 60, 59, 58] c4b0))) .skip)) 
  (.seq 
  (.seq (.reg [] [⟨(some 80), (.mv (.t 5)), none⟩, ⟨(some 81), (.mv (.t 8)), none⟩, ⟨(some 82), (.ixs (.t 80) (.t 81) 1), none⟩, ⟨(some 83), (.ld (.t 82) none), none⟩, ⟨(some 84), (.bin .lss (.t 83) (.c (.v (.int .i64 0)))), none⟩, ⟨(some 85), (.mv (.t 84)), none⟩, ⟨(some 86), (.mv (.t 5)), (some (85, false))⟩, ⟨(some 87), (.mv (.t 8)), (some (85, false))⟩, ⟨(some 88), (.ixs (.t 86) (.t 87) 1), (some (85, false))⟩, ⟨(some 89), (.ld (.t 88) none), (some (85, false))⟩, ⟨(some 90), (.mv (.t 7)), (some (85, false))⟩, ⟨(some 91), (.len (.t 90)), (some (85, false))⟩, ⟨(some 92), (.bin .geq (.t 89) (.t 91)), (some (85, false))⟩, ⟨(some 93), (.pick (.t 85) (.c (.v (.bool true))) (.t 92)), none⟩, ⟨(some 94), (.mv (.t 93)), none⟩, ⟨(some 95), (.mv (.t 7)), (some (94, false))⟩, ⟨(some 96), (.mv (.t 5)), (some (94, false))⟩, ⟨(some 97), (.mv (.t 8)), (some (94, false))⟩, ⟨(some 98), (.ixs (.t 96) (.t 97) 1), (some (94, false))⟩, ⟨(some 99), (.ld (.t 98) none), (some (94, false))⟩, ⟨(some 100), (.ixs (.t 95) (.t 99) 1), (some (94, false))⟩, ⟨(some 101), (.ld (.t 100) none), (some (94, false))⟩, ⟨(some 102), (.bin .lss (.t 101) (.c (.v (.int .i64 1)))), (some (94, false))⟩, ⟨(some 103), (.pick (.t 94) (.c (.v (.bool true))) (.t 102)), none⟩]) (.cond (.t 103) 
  (.seq (.reg [] [⟨(some 4), (.mv (.c (.v (.bool false)))), none⟩]) .ret) .skip)) (.reg [⟨(some 104), (.mv (.t 7)), none⟩, ⟨(some 105), (.mv (.t 5)), none⟩, ⟨(some 106), (.mv (.t 8)), none⟩, ⟨(some 107), (.ixs (.t 105) (.t 106) 1), none⟩, ⟨(some 108), (.ld (.t 107) none), none⟩, ⟨(some 109), (.mv (.t 7)), none⟩, ⟨(some 110), (.mv (.t 5)), none⟩, ⟨(some 111), (.mv (.t 8)), none⟩, ⟨(some 112), (.ixs (.t 110) (.t 111) 1), none⟩, ⟨(some 113), (.ld (.t 112) none), none⟩, ⟨(some 114), (.ixs (.t 109) (.t 113) 1), none⟩, ⟨(some 115), (.ld (.t 114) none), none⟩, ⟨(some 116), (.bin .sub (.t 115) (.c (.v (.int .i64 1)))), none⟩] [⟨(some 117), (.ixs (.t 104) (.t 108) 1), none⟩, ⟨none, (.st (.t 117) (.t 116) 1), none⟩]))))) (.reg [] [⟨(some 42), (.mv (.t 8)), none⟩, ⟨(some 43), (.bin .add (.t 42) (.c (.v (.int .i64 1)))), none⟩, ⟨(some 8), (.mv (.t 43)), none⟩])))

def c4 : MF := ⟨2, 119, 
  (.seq (.reg [] [⟨(some 4), (.mv (.c (.v (.bool false)))), none⟩]) 
  (.seq 
  (.seq (.reg [] [⟨(some 11), (.mv (.t 0)), none⟩, ⟨(some 12), (.call (.c (.f 7 [])) [(.t 11)]), none⟩, ⟨(some 13), (.un .not (.t 12)), none⟩, ⟨(some 14), (.mv (.t 13)), none⟩, ⟨(some 15), (.mv (.t 1)), (some (14, false))⟩, ⟨(some 16), (.len (.t 15)), (some (14, false))⟩, ⟨(some 17), (.bin .gtr (.t 16) (.c (.v (.int .i64 500)))), (some (14, false))⟩, ⟨(some 18), (.pick (.t 14) (.c (.v (.bool true))) (.t 17)), none⟩]) (.cond (.t 18) 
  (.seq (.reg [] [⟨(some 19), (.call (.c (.f 8 [])) []), none⟩, ⟨(some 4), (.mv (.t 19)), none⟩]) .ret) .skip)) 
  (.seq (.reg [] [⟨(some 21), (.mv (.t 0)), none⟩, ⟨(some 22), (.mv (.t 1)), none⟩, ⟨(some 23), (.call (.c (.f 9 [])) [(.t 21), (.t 22), (.c (.v (.int .i64 1000)))]), none⟩, ⟨(some 20), (.mv (.t 23)), none⟩, ⟨(some 24), (.ext (.t 20) 0), none⟩, ⟨(some 25), (.ext (.t 20) 1), none⟩, ⟨(some 5), (.mv (.t 24)), none⟩, ⟨(some 6), (.mv (.t 25)), none⟩]) 
  (.seq 
  (.seq (.reg [] [⟨(some 26), (.mv (.t 6)), none⟩, ⟨(some 27), (.un .not (.t 26)), none⟩, ⟨(some 28), (.mv (.t 27)), none⟩, ⟨(some 29), (.mv (.t 5)), (some (28, false))⟩, ⟨(some 30), (.len (.t 29)), (some (28, false))⟩, ⟨(some 31), (.mv (.t 0)), (some (28, false))⟩, ⟨(some 32), (.call (.c (.f 15 [])) [(.t 31), (.c (.v (.int .i64 40)))]), (some (28, false))⟩, ⟨(some 33), (.bin .neq (.t 30) (.t 32)), (some (28, false))⟩, ⟨(some 34), (.pick (.t 28) (.c (.v (.bool true))) (.t 33)), none⟩]) (.cond (.t 34) 
  (.seq (.reg [] [⟨(some 4), (.mv (.c (.v (.bool false)))), none⟩]) .ret) .skip)) 
  (.seq (.reg [] [⟨(some 35), (.bsl [(.v (.int .i64 0))] 0 []), none⟩, ⟨(some 36), (.mv (.t 0)), none⟩, ⟨(some 37), (.app (.t 35) (.t 36) 1 8), none⟩, ⟨(some 7), (.mv (.t 37)), none⟩]) 
  (.seq 
  (.seq (.reg [] [⟨(some 8), (.mv (.c (.v (.int .i64 0)))), none⟩]) (.block 0 
  (.loopN [43, 42, 117, 116, 115, 114, 113, 112, 111, 110, 109, 108, 107, 106, 105, 104, 4, 103, 102, 101, 100, 99, 98, 97, 96, 95, 94, 93, 92, 91, 90, 89, 88, 87, 86, 85, 84, 83, 82, 81, 80, 63, 62, 79, 78, 77, 76, 75, 74, 73, 72, 71, 70, 69, 68, 67, 66, 65, 64, 61, 60, 59, 58, 57, 56, 55, 54, 53, 52, 51, 50, 49, 48, 47, 46, 45, 44, 41, 40, 39, 38] c4b1))) 
  (.seq (.reg [] [⟨(some 118), (.call (.c (.f 8 [])) []), none⟩, ⟨(some 4), (.mv (.t 118)), none⟩]) .ret))))))), [(.t 4)]⟩

def c5 : MF := ⟨1, 41, 
  (.seq (.reg [] [⟨(some 2), (.mv (.c (.v (.bool false)))), none⟩]) 
  (.seq (.reg [] [⟨(some 5), (.mv (.t 0)), none⟩, ⟨(some 6), (.bld [(.v (.int .i64 0))] [(0, (1, (.t 5)))]), none⟩, ⟨(some 3), (.box (.c (.agg [(.v (.int .i64 0))]))), none⟩, ⟨none, (.st (.t 3) (.t 6) 1), none⟩]) 
  (.seq (.reg [] [⟨(some 4), (.mv (.c (.v (.pointer none)))), none⟩]) 
  (.seq 
  (.seq (.reg [] [⟨(some 7), (.mv (.t 0)), none⟩, ⟨(some 8), (.bin .lss (.t 7) (.c (.v (.int .i64 1)))), none⟩]) (.cond (.t 8) 
  (.seq (.reg [] [⟨(some 9), (.call (.c (.f 16 [])) [(.t 3)]), none⟩, ⟨(some 10), (.mv (.t 9)), none⟩, ⟨(some 11), (.fa (.t 3) 0), (some (10, true))⟩, ⟨(some 12), (.ld (.t 11) none), (some (10, true))⟩, ⟨(some 13), (.mv (.t 0)), (some (10, true))⟩, ⟨(some 14), (.bin .eql (.t 12) (.t 13)), (some (10, true))⟩, ⟨(some 15), (.pick (.t 10) (.t 14) (.c (.v (.bool false)))), none⟩, ⟨(some 16), (.mv (.t 15)), none⟩, ⟨(some 17), (.mv (.t 4)), (some (16, true))⟩, ⟨(some 18), (.call (.c (.f 16 [])) [(.t 17)]), (some (16, true))⟩, ⟨(some 19), (.pick (.t 16) (.t 18) (.c (.v (.bool false)))), none⟩, ⟨(some 20), (.mv (.t 19)), none⟩, ⟨(some 21), (.call (.c (.f 8 [])) []), (some (20, true))⟩, ⟨(some 22), (.pick (.t 20) (.t 21) (.c (.v (.bool false)))), none⟩, ⟨(some 2), (.mv (.t 22)), none⟩]) .ret) .skip)) 
  (.seq (.reg [] [⟨(some 23), (.call (.c (.f 16 [])) [(.t 3)]), none⟩, ⟨(some 24), (.mv (.t 0)), none⟩, ⟨(some 25), (.bin .eql (.t 24) (.c (.v (.int .i64 1)))), none⟩, ⟨(some 26), (.eqv false false [.b] (.t 23) (.t 25)), none⟩, ⟨(some 27), (.mv (.t 26)), none⟩, ⟨(some 28), (.fa (.t 3) 0), (some (27, true))⟩, ⟨(some 29), (.ld (.t 28) none), (some (27, true))⟩, ⟨(some 30), (.mv (.t 0)), (some (27, true))⟩, ⟨(some 31), (.bin .sub (.t 30) (.c (.v (.int .i64 1)))), (some (27, true))⟩, ⟨(some 32), (.bin .eql (.t 29) (.t 31)), (some (27, true))⟩, ⟨(some 33), (.pick (.t 27) (.t 32) (.c (.v (.bool false)))), none⟩, ⟨(some 34), (.mv (.t 33)), none⟩, ⟨(some 35), (.mv (.t 4)), (some (34, true))⟩, ⟨(some 36), (.call (.c (.f 16 [])) [(.t 35)]), (some (34, true))⟩, ⟨(some 37), (.pick (.t 34) (.t 36) (.c (.v (.bool false)))), none⟩, ⟨(some 38), (.mv (.t 37)), none⟩, ⟨(some 39), (.call (.c (.f 8 [])) []), (some (38, true))⟩, ⟨(some 40), (.pick (.t 38) (.t 39) (.c (.v (.bool false)))), none⟩, ⟨(some 2), (.mv (.t 40)), none⟩]) .ret))))), [(.t 2)]⟩

def c6b0 : MC := 
  (.seq 
  (.seq (.reg [] [⟨(some 22), (.mv (.t 8)), none⟩, ⟨(some 23), (.mv (.t 0)), none⟩, ⟨(some 24), (.len (.t 23)), none⟩, ⟨(some 25), (.bin .lss (.t 22) (.t 24)), none⟩]) (.cond (.t 25) .skip (.exit 0))) 
  (.seq (.block 1 
  (.seq (.reg [] [⟨(some 28), (.mv (.t 0)), none⟩, ⟨(some 29), (.mv (.t 8)), none⟩, ⟨(some 30), (.ixs (.t 28) (.t 29) 1), none⟩, ⟨(some 31), (.ld (.t 30) none), none⟩, ⟨(some 32), (.bin .lss (.t 31) (.c (.v (.int .i64 1)))), none⟩]) (.cond (.t 32) (.reg [] [⟨(some 33), (.mv (.t 7)), none⟩, ⟨(some 34), (.bsl [(.v .nilIface)] 1 [(0, (1, (.c (.v .nilIface))))]), none⟩, ⟨(some 35), (.app (.t 33) (.t 34) 1 16), none⟩, ⟨(some 7), (.mv (.t 35)), none⟩]) (.reg [] [⟨(some 36), (.mv (.t 7)), none⟩, ⟨(some 37), (.mv (.t 0)), none⟩, ⟨(some 38), (.mv (.t 8)), none⟩, ⟨(some 39), (.ixs (.t 37) (.t 38) 1), none⟩, ⟨(some 40), (.ld (.t 39) none), none⟩, ⟨(some 41), (.bld [(.v (.int .i64 0))] [(0, (1, (.t 40)))]), none⟩, ⟨(some 42), (.box (.t 41)), none⟩, ⟨(some 43), (.ifc 34 (.t 42)), none⟩, ⟨(some 44), (.bsl [(.v .nilIface)] 1 [(0, (1, (.t 43)))]), none⟩, ⟨(some 45), (.app (.t 36) (.t 44) 1 16), none⟩, ⟨(some 7), (.mv (.t 45)), none⟩])))) (.reg [] [⟨(some 26), (.mv (.t 8)), none⟩, ⟨(some 27), (.bin .add (.t 26) (.c (.v (.int .i64 1)))), none⟩, ⟨(some 8), (.mv (.t 27)), none⟩])))

def c6 : MF := ⟨3, 71, 
  (.seq (.reg [] [⟨(some 6), (.mv (.c (.v (.bool false)))), none⟩]) 
  (.seq 
  (.seq (.reg [] [⟨(some 13), (.mv (.t 0)), none⟩, ⟨(some 14), (.call (.c (.f 7 [])) [(.t 13)]), none⟩, ⟨(some 15), (.un .not (.t 14)), none⟩, ⟨(some 16), (.mv (.t 15)), none⟩, ⟨(some 17), (.mv (.t 1)), (some (16, false))⟩, ⟨(some 18), (.len (.t 17)), (some (16, false))⟩, ⟨(some 19), (.bin .gtr (.t 18) (.c (.v (.int .i64 500)))), (some (16, false))⟩, ⟨(some 20), (.pick (.t 16) (.c (.v (.bool true))) (.t 19)), none⟩]) (.cond (.t 20) 
  (.seq (.reg [] [⟨(some 21), (.call (.c (.f 8 [])) []), none⟩, ⟨(some 6), (.mv (.t 21)), none⟩]) .ret) .skip)) 
  (.seq (.reg [] [⟨(some 7), (.mv (.c (.v (.slice none 0 0)))), none⟩]) 
  (.seq 
  (.seq (.reg [] [⟨(some 8), (.mv (.c (.v (.int .i64 0)))), none⟩]) (.block 0 
  (.loopN [27, 26, 45, 44, 43, 42, 41, 40, 39, 38, 37, 36, 35, 34, 33, 32, 31, 30, 29, 28, 25, 24, 23, 22] c6b0))) 
  (.seq (.reg [] [⟨(some 47), (.mv (.t 7)), none⟩, ⟨(some 48), (.mv (.t 1)), none⟩, ⟨(some 49), (.mv (.t 2)), none⟩, ⟨(some 50), (.call (.c (.f 17 [])) [(.t 47), (.t 48), (.t 49)]), none⟩, ⟨(some 46), (.mv (.t 50)), none⟩, ⟨(some 51), (.ext (.t 46) 0), none⟩, ⟨(some 52), (.ext (.t 46) 1), none⟩, ⟨(some 9), (.mv (.t 51)), none⟩, ⟨(some 10), (.mv (.t 52)), none⟩]) 
  (.seq (.reg [] [⟨(some 54), (.mv (.t 0)), none⟩, ⟨(some 55), (.mv (.t 1)), none⟩, ⟨(some 56), (.mv (.t 2)), none⟩, ⟨(some 57), (.call (.c (.f 10 [])) [(.t 54), (.t 55), (.t 56)]), none⟩, ⟨(some 53), (.mv (.t 57)), none⟩, ⟨(some 58), (.ext (.t 53) 0), none⟩, ⟨(some 59), (.ext (.t 53) 1), none⟩, ⟨(some 11), (.mv (.t 58)), none⟩, ⟨(some 12), (.mv (.t 59)), none⟩]) 
  (.seq (.reg [] [⟨(some 60), (.mv (.t 9)), none⟩, ⟨(some 61), (.mv (.t 11)), none⟩, ⟨(some 62), (.call (.c (.f 11 [])) [(.t 60), (.t 61)]), none⟩, ⟨(some 63), (.mv (.t 62)), none⟩, ⟨(some 64), (.mv (.t 10)), (some (63, true))⟩, ⟨(some 65), (.mv (.t 12)), (some (63, true))⟩, ⟨(some 66), (.eqv false false [.b] (.t 64) (.t 65)), (some (63, true))⟩, ⟨(some 67), (.pick (.t 63) (.t 66) (.c (.v (.bool false)))), none⟩, ⟨(some 68), (.mv (.t 67)), none⟩, ⟨(some 69), (.call (.c (.f 8 [])) []), (some (68, true))⟩, ⟨(some 70), (.pick (.t 68) (.t 69) (.c (.v (.bool false)))), none⟩, ⟨(some 6), (.mv (.t 70)), none⟩]) .ret))))))), [(.t 6)]⟩

def c7b0 : MC := 
  (.seq 
  (.seq (.reg [] [⟨(some 7), (.mv (.t 3)), none⟩, ⟨(some 8), (.mv (.t 0)), none⟩, ⟨(some 9), (.len (.t 8)), none⟩, ⟨(some 10), (.bin .lss (.t 7) (.t 9)), none⟩]) (.cond (.t 10) .skip (.exit 0))) 
  (.seq (.block 1 
  (.seq (.reg [] [⟨(some 13), (.mv (.t 0)), none⟩, ⟨(some 14), (.mv (.t 3)), none⟩, ⟨(some 15), (.ixs (.t 13) (.t 14) 1), none⟩, ⟨(some 16), (.ld (.t 15) none), none⟩, ⟨(some 17), (.bin .gtr (.t 16) (.c (.v (.int .i64 40)))), none⟩]) (.cond (.t 17) 
  (.seq (.reg [] [⟨(some 2), (.mv (.c (.v (.bool false)))), none⟩]) .ret) .skip))) (.reg [] [⟨(some 11), (.mv (.t 3)), none⟩, ⟨(some 12), (.bin .add (.t 11) (.c (.v (.int .i64 1)))), none⟩, ⟨(some 3), (.mv (.t 12)), none⟩])))

def c7 : MF := ⟨1, 18, 
  (.seq (.reg [] [⟨(some 2), (.mv (.c (.v (.bool false)))), none⟩]) 
  (.seq 
  (.seq (.reg [] [⟨(some 4), (.mv (.t 0)), none⟩, ⟨(some 5), (.len (.t 4)), none⟩, ⟨(some 6), (.bin .gtr (.t 5) (.c (.v (.int .i64 12)))), none⟩]) (.cond (.t 6) 
  (.seq (.reg [] [⟨(some 2), (.mv (.c (.v (.bool false)))), none⟩]) .ret) .skip)) 
  (.seq 
  (.seq (.reg [] [⟨(some 3), (.mv (.c (.v (.int .i64 0)))), none⟩]) (.block 0 
  (.loopN [12, 11, 2, 17, 16, 15, 14, 13, 10, 9, 8, 7] c7b0))) 
  (.seq (.reg [] [⟨(some 2), (.mv (.c (.v (.bool true)))), none⟩]) .ret)))), [(.t 2)]⟩

def c8 : MF := ⟨0, 32, 
  (.seq (.reg [] [⟨(some 0), (.mv (.c (.v (.bool false)))), none⟩]) 
  (.seq (.reg [] [⟨(some 7), (.bsl [(.v (.int .i64 0))] 2 [(0, (1, (.c (.v (.int .i64 2))))), (1, (1, (.c (.v (.int .i64 1)))))]), none⟩, ⟨(some 8), (.call (.c (.f 9 [])) [(.t 7), (.c (.v (.slice none 0 0))), (.c (.v (.int .i64 9)))]), none⟩, ⟨(some 6), (.mv (.t 8)), none⟩, ⟨(some 9), (.ext (.t 6) 0), none⟩, ⟨(some 10), (.ext (.t 6) 1), none⟩, ⟨(some 1), (.mv (.t 9)), none⟩, ⟨(some 2), (.mv (.t 10)), none⟩]) 
  (.seq (.reg [] [⟨(some 11), (.bld [(.v (.int .i64 0))] [(0, (1, (.c (.v (.int .i64 2)))))]), none⟩, ⟨(some 3), (.box (.c (.agg [(.v (.int .i64 0))]))), none⟩, ⟨none, (.st (.t 3) (.t 11) 1), none⟩]) 
  (.seq (.reg [] [⟨(some 12), (.call (.c (.f 16 [])) [(.t 3)]), none⟩, ⟨(some 4), (.mv (.t 12)), none⟩]) 
  (.seq (.reg [] [⟨(some 13), (.call (.c (.f 16 [])) [(.t 3)]), none⟩, ⟨(some 5), (.mv (.t 13)), none⟩]) 
  (.seq (.reg [] [⟨(some 14), (.mv (.t 1)), none⟩, ⟨(some 15), (.bsl [(.v (.int .i64 0))] 3 [(0, (1, (.c (.v (.int .i64 0))))), (1, (1, (.c (.v (.int .i64 1))))), (2, (1, (.c (.v (.int .i64 0)))))]), none⟩, ⟨(some 16), (.call (.c (.f 11 [])) [(.t 14), (.t 15)]), none⟩, ⟨(some 17), (.mv (.t 16)), none⟩, ⟨(some 18), (.mv (.t 2)), (some (17, true))⟩, ⟨(some 19), (.pick (.t 17) (.t 18) (.c (.v (.bool false)))), none⟩, ⟨(some 20), (.mv (.t 19)), none⟩, ⟨(some 21), (.mv (.t 4)), (some (20, true))⟩, ⟨(some 22), (.un .not (.t 21)), (some (20, true))⟩, ⟨(some 23), (.pick (.t 20) (.t 22) (.c (.v (.bool false)))), none⟩, ⟨(some 24), (.mv (.t 23)), none⟩, ⟨(some 25), (.mv (.t 5)), (some (24, true))⟩, ⟨(some 26), (.pick (.t 24) (.t 25) (.c (.v (.bool false)))), none⟩, ⟨(some 27), (.mv (.t 26)), none⟩, ⟨(some 28), (.fa (.t 3) 0), (some (27, true))⟩, ⟨(some 29), (.ld (.t 28) none), (some (27, true))⟩, ⟨(some 30), (.bin .eql (.t 29) (.c (.v (.int .i64 0)))), (some (27, true))⟩, ⟨(some 31), (.pick (.t 27) (.t 30) (.c (.v (.bool false)))), none⟩, ⟨(some 0), (.mv (.t 31)), none⟩]) .ret)))))), [(.t 0)]⟩

def c9b0 : MC := 
  (.seq (.reg [] [⟨(some 14), (.bin .lss (.t 13) (.t 12)), none⟩]) 
  (.seq (.cond (.t 14) .skip (.exit 0)) 
  (.seq (.block 1 
  (.seq (.reg [] [⟨(some 15), (.ixs (.t 11) (.t 13) 1), none⟩, ⟨(some 16), (.ld (.t 15) none), none⟩, ⟨(some 10), (.mv (.t 16)), none⟩]) 
  (.seq 
  (.seq (.reg [] [⟨(some 17), (.mv (.t 10)), none⟩, ⟨(some 18), (.bin .lss (.t 17) (.c (.v (.int .i64 1)))), none⟩]) (.cond (.t 18) 
  (.seq (.reg [] [⟨(some 19), (.mv (.t 8)), none⟩, ⟨(some 20), (.bsl [(.v .nilIface)] 1 [(0, (1, (.c (.v .nilIface))))]), none⟩, ⟨(some 21), (.app (.t 19) (.t 20) 1 16), none⟩, ⟨(some 8), (.mv (.t 21)), none⟩]) (.exit 1)) .skip)) (.reg [] [⟨(some 22), (.mv (.t 8)), none⟩, ⟨(some 23), (.mv (.t 10)), none⟩, ⟨(some 24), (.bld [(.v (.int .i64 0))] [(0, (1, (.t 23)))]), none⟩, ⟨(some 25), (.box (.t 24)), none⟩, ⟨(some 26), (.ifc 34 (.t 25)), none⟩, ⟨(some 27), (.bsl [(.v .nilIface)] 1 [(0, (1, (.t 26)))]), none⟩, ⟨(some 28), (.app (.t 22) (.t 27) 1 16), none⟩, ⟨(some 8), (.mv (.t 28)), none⟩])))) (.reg [] [⟨(some 29), (.bin .add (.t 13) (.c (.v (.int .i64 1)))), none⟩, ⟨(some 13), (.mv (.t 29)), none⟩]))))

def c9 : MF := ⟨3, 36, 
  (.seq (.reg [] [⟨(some 6), (.mv (.c (.v (.slice none 0 0)))), none⟩, ⟨(some 7), (.mv (.c (.v (.bool false)))), none⟩]) 
  (.seq (.reg [] [⟨(some 8), (.mv (.c (.v (.slice none 0 0)))), none⟩]) 
  (.seq 
  (.seq (.reg [] [⟨(some 11), (.mv (.t 0)), none⟩, ⟨(some 12), (.len (.t 11)), none⟩, ⟨(some 13), (.mv (.c (.v (.int .i64 0)))), none⟩]) (.block 0 
  (.loopN [29, 28, 27, 26, 25, 24, 23, 22, 21, 20, 19, 18, 17, 16, 15, 14] c9b0))) 
  (.seq (.reg [] [⟨(some 30), (.mv (.t 8)), none⟩, ⟨(some 31), (.mv (.t 1)), none⟩, ⟨(some 32), (.mv (.t 2)), none⟩, ⟨(some 33), (.call (.c (.f 17 [])) [(.t 30), (.t 31), (.t 32)]), none⟩, ⟨(some 34), (.ext (.t 33) 0), none⟩, ⟨(some 35), (.ext (.t 33) 1), none⟩, ⟨(some 6), (.mv (.t 34)), none⟩, ⟨(some 7), (.mv (.t 35)), none⟩]) .ret)))), [(.t 6), (.t 7)]⟩

def c10b0 : MC := 
  (.seq 
  (.seq (.reg [] [⟨(some 16), (.mv (.t 8)), none⟩, ⟨(some 17), (.call (.c (.f 12 [])) [(.t 16)]), none⟩, ⟨(some 18), (.bin .gtr (.t 17) (.c (.v (.int .i64 0)))), none⟩, ⟨(some 19), (.mv (.t 18)), none⟩, ⟨(some 20), (.mv (.t 9)), (some (19, true))⟩, ⟨(some 21), (.len (.t 20)), (some (19, true))⟩, ⟨(some 22), (.mv (.t 2)), (some (19, true))⟩, ⟨(some 23), (.bin .lss (.t 21) (.t 22)), (some (19, true))⟩, ⟨(some 24), (.pick (.t 19) (.t 23) (.c (.v (.bool false)))), none⟩]) (.cond (.t 24) .skip (.exit 0))) (.block 1 
  (.seq (.reg [] [⟨(some 11), (.mv (.c (.v (.int .i64 0)))), none⟩]) 
  (.seq 
  (.seq (.reg [] [⟨(some 25), (.mv (.t 9)), none⟩, ⟨(some 26), (.len (.t 25)), none⟩, ⟨(some 27), (.mv (.t 1)), none⟩, ⟨(some 28), (.len (.t 27)), none⟩, ⟨(some 29), (.bin .lss (.t 26) (.t 28)), none⟩]) (.cond (.t 29) 
  (.seq (.reg [] [⟨(some 30), (.mv (.t 8)), none⟩, ⟨(some 31), (.call (.c (.f 12 [])) [(.t 30)]), none⟩, ⟨(some 12), (.mv (.t 31)), none⟩]) (.alt (.regM [(.p, ⟨(some 32), (.mv (.t 8)), none⟩), (.p, ⟨(some 33), (.mv (.t 1)), none⟩), (.p, ⟨(some 34), (.mv (.t 9)), none⟩), (.p, ⟨(some 35), (.len (.t 34)), none⟩), (.p, ⟨(some 36), (.ixs (.t 33) (.t 35) 1), none⟩), (.p, ⟨(some 37), (.ld (.t 36) none), none⟩), (.p, ⟨(some 38), (.mv (.t 12)), none⟩), (.p, ⟨(some 39), (.mv (.t 1)), none⟩), (.p, ⟨(some 40), (.mv (.t 9)), none⟩), (.p, ⟨(some 41), (.len (.t 40)), none⟩), (.p, ⟨(some 42), (.ixs (.t 39) (.t 41) 1), none⟩), (.p, ⟨(some 43), (.ld (.t 42) none), none⟩), (.p, ⟨(some 44), (.mv (.t 12)), none⟩), ((.q [7, 8, 9, 10, 11, 12]), ⟨(some 45), (.call (.c (.f 19 [])) [(.t 43), (.t 44)]), none⟩), (.p, ⟨(some 46), (.bin .mul (.t 38) (.t 45)), none⟩), (.p, ⟨(some 47), (.bin .sub (.t 37) (.t 46)), none⟩)] [⟨(some 48), (.call (.c (.f 18 [])) [(.t 32), (.t 47)]), none⟩, ⟨(some 11), (.mv (.t 48)), none⟩]) (.reg [⟨(some 32), (.mv (.t 8)), none⟩, ⟨(some 33), (.mv (.t 1)), none⟩, ⟨(some 34), (.mv (.t 9)), none⟩, ⟨(some 35), (.len (.t 34)), none⟩, ⟨(some 36), (.ixs (.t 33) (.t 35) 1), none⟩, ⟨(some 37), (.ld (.t 36) none), none⟩, ⟨(some 38), (.mv (.t 12)), none⟩, ⟨(some 39), (.mv (.t 1)), none⟩, ⟨(some 40), (.mv (.t 9)), none⟩, ⟨(some 41), (.len (.t 40)), none⟩, ⟨(some 42), (.ixs (.t 39) (.t 41) 1), none⟩, ⟨(some 43), (.ld (.t 42) none), none⟩, ⟨(some 44), (.mv (.t 12)), none⟩, ⟨(some 45), (.call (.c (.f 19 [])) [(.t 43), (.t 44)]), none⟩, ⟨(some 46), (.bin .mul (.t 38) (.t 45)), none⟩, ⟨(some 47), (.bin .sub (.t 37) (.t 46)), none⟩] [⟨(some 48), (.call (.c (.f 18 [])) [(.t 32), (.t 47)]), none⟩, ⟨(some 11), (.mv (.t 48)), none⟩]))) (.reg [] [⟨(some 49), (.mv (.t 8)), none⟩, ⟨(some 50), (.mv (.t 10)), none⟩, ⟨(some 51), (.call (.c (.f 20 [])) [(.t 49), (.t 50)]), none⟩, ⟨(some 11), (.mv (.t 51)), none⟩]))) 
  (.seq (.reg [] [⟨(some 52), (.mv (.t 8)), none⟩, ⟨(some 53), (.mv (.t 11)), none⟩, ⟨(some 54), (.mv (.t 8)), none⟩, ⟨(some 55), (.mv (.t 11)), none⟩, ⟨(some 56), (.ixs (.t 54) (.t 55) 1), none⟩, ⟨(some 57), (.ld (.t 56) none), none⟩, ⟨(some 58), (.bin .sub (.t 57) (.c (.v (.int .i64 1)))), none⟩, ⟨(some 59), (.ixs (.t 52) (.t 53) 1), none⟩, ⟨none, (.st (.t 59) (.t 58) 1), none⟩]) 
  (.seq (.reg [] [⟨(some 60), (.mv (.t 11)), none⟩, ⟨(some 10), (.mv (.t 60)), none⟩]) (.reg [] [⟨(some 61), (.mv (.t 9)), none⟩, ⟨(some 62), (.mv (.t 11)), none⟩, ⟨(some 63), (.bsl [(.v (.int .i64 0))] 1 [(0, (1, (.t 62)))]), none⟩, ⟨(some 64), (.app (.t 61) (.t 63) 1 8), none⟩, ⟨(some 9), (.mv (.t 64)), none⟩])))))))

def c10 : MF := ⟨3, 69, 
  (.seq (.reg [] [⟨(some 6), (.mv (.c (.v (.slice none 0 0)))), none⟩, ⟨(some 7), (.mv (.c (.v (.bool false)))), none⟩]) 
  (.seq (.reg [] [⟨(some 13), (.bsl [(.v (.int .i64 0))] 0 []), none⟩, ⟨(some 14), (.mv (.t 0)), none⟩, ⟨(some 15), (.app (.t 13) (.t 14) 1 8), none⟩, ⟨(some 8), (.mv (.t 15)), none⟩]) 
  (.seq (.reg [] [⟨(some 9), (.mv (.c (.v (.slice none 0 0)))), none⟩]) 
  (.seq (.reg [] [⟨(some 10), (.mv (.c (.v (.int .i64 (-1))))), none⟩]) 
  (.seq (.block 0 
  (.loopN [64, 63, 62, 61, 60, 59, 58, 57, 56, 55, 54, 53, 52, 51, 50, 49, 48, 47, 46, 45, 44, 43, 42, 41, 40, 39, 38, 37, 36, 35, 34, 33, 32, 31, 30, 29, 28, 27, 26, 25, 24, 23, 22, 21, 20, 19, 18, 17, 16] c10b0)) 
  (.seq (.reg [] [⟨(some 65), (.mv (.t 9)), none⟩, ⟨(some 66), (.mv (.t 8)), none⟩, ⟨(some 67), (.call (.c (.f 12 [])) [(.t 66)]), none⟩, ⟨(some 68), (.bin .eql (.t 67) (.c (.v (.int .i64 0)))), none⟩, ⟨(some 6), (.mv (.t 65)), none⟩, ⟨(some 7), (.mv (.t 68)), none⟩]) .ret)))))), [(.t 6), (.t 7)]⟩

def c11b0 : MC := 
  (.seq 
  (.seq (.reg [] [⟨(some 11), (.mv (.t 5)), none⟩, ⟨(some 12), (.mv (.t 0)), none⟩, ⟨(some 13), (.len (.t 12)), none⟩, ⟨(some 14), (.bin .lss (.t 11) (.t 13)), none⟩]) (.cond (.t 14) .skip (.exit 0))) 
  (.seq (.block 1 
  (.seq (.reg [⟨(some 17), (.mv (.t 0)), none⟩, ⟨(some 18), (.mv (.t 5)), none⟩, ⟨(some 19), (.ixs (.t 17) (.t 18) 1), none⟩, ⟨(some 20), (.ld (.t 19) none), none⟩, ⟨(some 21), (.mv (.t 1)), none⟩, ⟨(some 22), (.mv (.t 5)), none⟩, ⟨(some 23), (.ixs (.t 21) (.t 22) 1), none⟩, ⟨(some 24), (.ld (.t 23) none), none⟩] [⟨(some 25), (.bin .neq (.t 20) (.t 24)), none⟩]) (.cond (.t 25) 
  (.seq (.reg [] [⟨(some 4), (.mv (.c (.v (.bool false)))), none⟩]) .ret) .skip))) (.reg [] [⟨(some 15), (.mv (.t 5)), none⟩, ⟨(some 16), (.bin .add (.t 15) (.c (.v (.int .i64 1)))), none⟩, ⟨(some 5), (.mv (.t 16)), none⟩])))

def c11 : MF := ⟨2, 26, 
  (.seq (.reg [] [⟨(some 4), (.mv (.c (.v (.bool false)))), none⟩]) 
  (.seq 
  (.seq (.reg [] [⟨(some 6), (.mv (.t 0)), none⟩, ⟨(some 7), (.len (.t 6)), none⟩, ⟨(some 8), (.mv (.t 1)), none⟩, ⟨(some 9), (.len (.t 8)), none⟩, ⟨(some 10), (.bin .neq (.t 7) (.t 9)), none⟩]) (.cond (.t 10) 
  (.seq (.reg [] [⟨(some 4), (.mv (.c (.v (.bool false)))), none⟩]) .ret) .skip)) 
  (.seq 
  (.seq (.reg [] [⟨(some 5), (.mv (.c (.v (.int .i64 0)))), none⟩]) (.block 0 
  (.loopN [16, 15, 4, 25, 24, 23, 22, 21, 20, 19, 18, 17, 14, 13, 12, 11] c11b0))) 
  (.seq (.reg [] [⟨(some 4), (.mv (.c (.v (.bool true)))), none⟩]) .ret)))), [(.t 4)]⟩

def c12b0 : MC := 
  (.seq 
  (.seq (.reg [] [⟨(some 5), (.mv (.t 4)), none⟩, ⟨(some 6), (.mv (.t 0)), none⟩, ⟨(some 7), (.len (.t 6)), none⟩, ⟨(some 8), (.bin .lss (.t 5) (.t 7)), none⟩]) (.cond (.t 8) .skip (.exit 0))) 
  (.seq (.block 1 
  (.seq (.reg [] [⟨(some 11), (.mv (.t 0)), none⟩, ⟨(some 12), (.mv (.t 4)), none⟩, ⟨(some 13), (.ixs (.t 11) (.t 12) 1), none⟩, ⟨(some 14), (.ld (.t 13) none), none⟩, ⟨(some 15), (.bin .gtr (.t 14) (.c (.v (.int .i64 0)))), none⟩]) (.cond (.t 15) (.reg [] [⟨(some 16), (.mv (.t 3)), none⟩, ⟨(some 17), (.bin .add (.t 16) (.c (.v (.int .i64 1)))), none⟩, ⟨(some 3), (.mv (.t 17)), none⟩]) .skip))) (.reg [] [⟨(some 9), (.mv (.t 4)), none⟩, ⟨(some 10), (.bin .add (.t 9) (.c (.v (.int .i64 1)))), none⟩, ⟨(some 4), (.mv (.t 10)), none⟩])))

def c12 : MF := ⟨1, 19, 
  (.seq (.reg [] [⟨(some 2), (.mv (.c (.v (.int .i64 0)))), none⟩]) 
  (.seq (.reg [] [⟨(some 3), (.mv (.c (.v (.int .i64 0)))), none⟩]) 
  (.seq 
  (.seq (.reg [] [⟨(some 4), (.mv (.c (.v (.int .i64 0)))), none⟩]) (.block 0 
  (.loopN [10, 9, 17, 16, 15, 14, 13, 12, 11, 8, 7, 6, 5] c12b0))) 
  (.seq (.reg [] [⟨(some 18), (.mv (.t 3)), none⟩, ⟨(some 2), (.mv (.t 18)), none⟩]) .ret)))), [(.t 2)]⟩

def c13b0 : MC := 
  (.seq 
  (.seq (.reg [] [⟨(some 7), (.mv (.t 6)), none⟩, ⟨(some 8), (.mv (.t 0)), none⟩, ⟨(some 9), (.len (.t 8)), none⟩, ⟨(some 10), (.bin .lss (.t 7) (.t 9)), none⟩]) (.cond (.t 10) .skip (.exit 0))) 
  (.seq (.block 1 
  (.seq (.reg [] [⟨(some 13), (.mv (.t 0)), none⟩, ⟨(some 14), (.mv (.t 6)), none⟩, ⟨(some 15), (.ixs (.t 13) (.t 14) 1), none⟩, ⟨(some 16), (.ld (.t 15) none), none⟩, ⟨(some 17), (.mv (.t 1)), none⟩, ⟨(some 18), (.bin .eql (.t 16) (.t 17)), none⟩]) (.cond (.t 18) (.reg [] [⟨(some 19), (.mv (.t 5)), none⟩, ⟨(some 20), (.bin .add (.t 19) (.c (.v (.int .i64 1)))), none⟩, ⟨(some 5), (.mv (.t 20)), none⟩]) .skip))) (.reg [] [⟨(some 11), (.mv (.t 6)), none⟩, ⟨(some 12), (.bin .add (.t 11) (.c (.v (.int .i64 1)))), none⟩, ⟨(some 6), (.mv (.t 12)), none⟩])))

def c13 : MF := ⟨2, 22, 
  (.seq (.reg [] [⟨(some 4), (.mv (.c (.v (.int .i64 0)))), none⟩]) 
  (.seq (.reg [] [⟨(some 5), (.mv (.c (.v (.int .i64 0)))), none⟩]) 
  (.seq 
  (.seq (.reg [] [⟨(some 6), (.mv (.c (.v (.int .i64 0)))), none⟩]) (.block 0 
  (.loopN [12, 11, 20, 19, 18, 17, 16, 15, 14, 13, 10, 9, 8, 7] c13b0))) 
  (.seq (.reg [] [⟨(some 21), (.mv (.t 5)), none⟩, ⟨(some 4), (.mv (.t 21)), none⟩]) .ret)))), [(.t 4)]⟩

def c14 : MF := ⟨2, 10, 
  (.seq (.reg [] [⟨(some 4), (.mv (.c (.v (.int .i64 0)))), none⟩]) 
  (.seq 
  (.seq (.reg [] [⟨(some 5), (.mv (.t 0)), none⟩, ⟨(some 6), (.mv (.t 1)), none⟩, ⟨(some 7), (.bin .gtr (.t 5) (.t 6)), none⟩]) (.cond (.t 7) 
  (.seq (.reg [] [⟨(some 8), (.mv (.t 0)), none⟩, ⟨(some 4), (.mv (.t 8)), none⟩]) .ret) .skip)) 
  (.seq (.reg [] [⟨(some 9), (.mv (.t 1)), none⟩, ⟨(some 4), (.mv (.t 9)), none⟩]) .ret))), [(.t 4)]⟩

def c15b0 : MC := 
  (.seq 
  (.seq (.reg [] [⟨(some 7), (.mv (.t 6)), none⟩, ⟨(some 8), (.mv (.t 0)), none⟩, ⟨(some 9), (.len (.t 8)), none⟩, ⟨(some 10), (.bin .lss (.t 7) (.t 9)), none⟩]) (.cond (.t 10) .skip (.exit 0))) 
  (.seq (.block 1 (.reg [] [⟨(some 13), (.mv (.t 5)), none⟩, ⟨(some 14), (.mv (.t 0)), none⟩, ⟨(some 15), (.mv (.t 6)), none⟩, ⟨(some 16), (.ixs (.t 14) (.t 15) 1), none⟩, ⟨(some 17), (.ld (.t 16) none), none⟩, ⟨(some 18), (.mv (.t 1)), none⟩, ⟨(some 19), (.call (.c (.f 21 [])) [(.t 17), (.c (.v (.int .i64 0))), (.t 18)]), none⟩, ⟨(some 20), (.bin .add (.t 13) (.t 19)), none⟩, ⟨(some 5), (.mv (.t 20)), none⟩])) (.reg [] [⟨(some 11), (.mv (.t 6)), none⟩, ⟨(some 12), (.bin .add (.t 11) (.c (.v (.int .i64 1)))), none⟩, ⟨(some 6), (.mv (.t 12)), none⟩])))

def c15 : MF := ⟨2, 22, 
  (.seq (.reg [] [⟨(some 4), (.mv (.c (.v (.int .i64 0)))), none⟩]) 
  (.seq (.reg [] [⟨(some 5), (.mv (.c (.v (.int .i64 0)))), none⟩]) 
  (.seq 
  (.seq (.reg [] [⟨(some 6), (.mv (.c (.v (.int .i64 0)))), none⟩]) (.block 0 
  (.loopN [12, 11, 20, 19, 18, 17, 16, 15, 14, 13, 10, 9, 8, 7] c15b0))) 
  (.seq (.reg [] [⟨(some 21), (.mv (.t 5)), none⟩, ⟨(some 4), (.mv (.t 21)), none⟩]) .ret)))), [(.t 4)]⟩

def c16 : MF := ⟨1, 24, 
  (.seq (.reg [] [⟨(some 2), (.mv (.c (.v (.bool false)))), none⟩]) 
  (.seq 
  (.seq (.reg [] [⟨(some 3), (.mv (.t 0)), none⟩, ⟨(some 4), (.eqn false 3 (.t 3)), none⟩, ⟨(some 5), (.mv (.t 4)), none⟩, ⟨(some 6), (.mv (.t 0)), (some (5, false))⟩, ⟨(some 7), (.nilc (.t 6)), (some (5, false))⟩, ⟨(some 8), (.fa (.t 7) 0), (some (5, false))⟩, ⟨(some 9), (.ld (.t 8) none), (some (5, false))⟩, ⟨(some 10), (.bin .lss (.t 9) (.c (.v (.int .i64 1)))), (some (5, false))⟩, ⟨(some 11), (.pick (.t 5) (.c (.v (.bool true))) (.t 10)), none⟩]) (.cond (.t 11) 
  (.seq (.reg [] [⟨(some 2), (.mv (.c (.v (.bool true)))), none⟩]) .ret) .skip)) 
  (.seq (.reg [] [⟨(some 12), (.mv (.t 0)), none⟩, ⟨(some 13), (.nilc (.t 12)), none⟩, ⟨(some 14), (.fa (.t 13) 0), none⟩, ⟨(some 15), (.ld (.t 14) none), none⟩, ⟨(some 16), (.bin .sub (.t 15) (.c (.v (.int .i64 1)))), none⟩, ⟨(some 17), (.nilc (.t 12)), none⟩, ⟨(some 18), (.fa (.t 17) 0), none⟩, ⟨none, (.st (.t 18) (.t 16) 1), none⟩]) 
  (.seq (.reg [] [⟨(some 19), (.mv (.t 0)), none⟩, ⟨(some 20), (.nilc (.t 19)), none⟩, ⟨(some 21), (.fa (.t 20) 0), none⟩, ⟨(some 22), (.ld (.t 21) none), none⟩, ⟨(some 23), (.bin .eql (.t 22) (.c (.v (.int .i64 0)))), none⟩, ⟨(some 2), (.mv (.t 23)), none⟩]) .ret)))), [(.t 2)]⟩

def c17b0 : MC := 
  (.seq 
  (.seq (.reg [] [⟨(some 36), (.mv (.t 8)), none⟩, ⟨(some 37), (.nilc (.t 36)), none⟩, ⟨(some 38), (.fa (.t 37) 0), none⟩, ⟨(some 39), (.ld (.t 38) none), none⟩, ⟨(some 40), (.len (.t 39)), none⟩, ⟨(some 41), (.bin .gtr (.t 40) (.c (.v (.int .i64 0)))), none⟩, ⟨(some 42), (.mv (.t 41)), none⟩, ⟨(some 43), (.mv (.t 11)), (some (42, true))⟩, ⟨(some 44), (.len (.t 43)), (some (42, true))⟩, ⟨(some 45), (.mv (.t 2)), (some (42, true))⟩, ⟨(some 46), (.bin .lss (.t 44) (.t 45)), (some (42, true))⟩, ⟨(some 47), (.pick (.t 42) (.t 46) (.c (.v (.bool false)))), none⟩]) (.cond (.t 47) .skip (.exit 2))) (.block 3 
  (.seq (.reg [] [⟨(some 48), (.mv (.t 8)), none⟩, ⟨(some 49), (.call (.c (.f 22 [])) [(.t 48)]), none⟩, ⟨(some 12), (.mv (.t 49)), none⟩]) 
  (.seq (.reg [] [⟨(some 50), (.mv (.t 8)), none⟩, ⟨(some 51), (.mv (.t 8)), none⟩, ⟨(some 52), (.nilc (.t 51)), none⟩, ⟨(some 53), (.fa (.t 52) 0), none⟩, ⟨(some 54), (.ld (.t 53) none), none⟩, ⟨(some 55), (.mv (.t 12)), none⟩, ⟨(some 56), (.ixs (.t 54) (.t 55) 1), none⟩, ⟨(some 57), (.ld (.t 56) none), none⟩, ⟨(some 58), (.nilc (.t 50)), none⟩, ⟨(some 59), (.fa (.t 58) 1), none⟩, ⟨none, (.st (.t 59) (.t 57) 1), none⟩]) 
  (.seq (.reg [] [⟨(some 60), (.mv (.t 11)), none⟩, ⟨(some 61), (.mv (.t 8)), none⟩, ⟨(some 62), (.nilc (.t 61)), none⟩, ⟨(some 63), (.fa (.t 62) 1), none⟩, ⟨(some 64), (.ld (.t 63) none), none⟩, ⟨(some 65), (.bsl [(.v (.int .i64 0))] 1 [(0, (1, (.t 64)))]), none⟩, ⟨(some 66), (.app (.t 60) (.t 65) 1 8), none⟩, ⟨(some 11), (.mv (.t 66)), none⟩]) 
  (.seq (.reg [] [⟨(some 67), (.mv (.t 0)), none⟩, ⟨(some 68), (.mv (.t 8)), none⟩, ⟨(some 69), (.nilc (.t 68)), none⟩, ⟨(some 70), (.fa (.t 69) 1), none⟩, ⟨(some 71), (.ld (.t 70) none), none⟩, ⟨(some 72), (.ixs (.t 67) (.t 71) 1), none⟩, ⟨(some 73), (.ld (.t 72) none), none⟩, ⟨(some 74), (.inv [(34, 16)] (.t 73) []), none⟩]) (.cond (.t 74) (.reg [] [⟨(some 75), (.mv (.t 8)), none⟩, ⟨(some 76), (.mv (.t 8)), none⟩, ⟨(some 77), (.nilc (.t 76)), none⟩, ⟨(some 78), (.fa (.t 77) 0), none⟩, ⟨(some 79), (.ld (.t 78) none), none⟩, ⟨(some 80), (.mv (.t 12)), none⟩, ⟨(some 81), (.mv (.t 12)), none⟩, ⟨(some 82), (.bin .add (.t 81) (.c (.v (.int .i64 1)))), none⟩, ⟨(some 83), (.call (.c (.f 23 [])) [(.t 79), (.t 80), (.t 82)]), none⟩, ⟨(some 84), (.nilc (.t 75)), none⟩, ⟨(some 85), (.fa (.t 84) 0), none⟩, ⟨none, (.st (.t 85) (.t 83) 1), none⟩]) .skip)))))))

def c17b1 : MC := 
  (.seq (.reg [] [⟨(some 19), (.bin .lss (.t 18) (.t 17)), none⟩]) 
  (.seq (.cond (.t 19) .skip (.exit 0)) 
  (.seq (.block 1 
  (.seq (.reg [] [⟨(some 20), (.mv (.t 18)), none⟩, ⟨(some 21), (.ixs (.t 16) (.t 18) 1), none⟩, ⟨(some 22), (.ld (.t 21) none), none⟩, ⟨(some 9), (.mv (.t 20)), none⟩, ⟨(some 10), (.mv (.t 22)), none⟩]) 
  (.seq (.reg [] [⟨(some 23), (.mv (.t 10)), none⟩, ⟨(some 24), (.eqn true 2 (.t 23)), none⟩]) (.cond (.t 24) (.reg [] [⟨(some 25), (.mv (.t 8)), none⟩, ⟨(some 26), (.mv (.t 8)), none⟩, ⟨(some 27), (.nilc (.t 26)), none⟩, ⟨(some 28), (.fa (.t 27) 0), none⟩, ⟨(some 29), (.ld (.t 28) none), none⟩, ⟨(some 30), (.mv (.t 9)), none⟩, ⟨(some 31), (.bsl [(.v (.int .i64 0))] 1 [(0, (1, (.t 30)))]), none⟩, ⟨(some 32), (.app (.t 29) (.t 31) 1 8), none⟩, ⟨(some 33), (.nilc (.t 25)), none⟩, ⟨(some 34), (.fa (.t 33) 0), none⟩, ⟨none, (.st (.t 34) (.t 32) 1), none⟩]) .skip)))) (.reg [] [⟨(some 35), (.bin .add (.t 18) (.c (.v (.int .i64 1)))), none⟩, ⟨(some 18), (.mv (.t 35)), none⟩]))))

def c17 : MF := ⟨3, 93, 
  (.seq (.reg [] [⟨(some 6), (.mv (.c (.v (.slice none 0 0)))), none⟩, ⟨(some 7), (.mv (.c (.v (.bool false)))), none⟩]) 
  (.seq (.reg [] [⟨(some 13), (.mv (.t 1)), none⟩, ⟨(some 14), (.bld [(.v (.slice none 0 0)), (.v (.int .i64 0)), (.v (.slice none 0 0))] [(1, (1, (.c (.v (.int .i64 (-1)))))), (2, (1, (.t 13)))]), none⟩, ⟨(some 15), (.box (.t 14)), none⟩, ⟨(some 8), (.mv (.t 15)), none⟩]) 
  (.seq 
  (.seq (.reg [] [⟨(some 16), (.mv (.t 0)), none⟩, ⟨(some 17), (.len (.t 16)), none⟩, ⟨(some 18), (.mv (.c (.v (.int .i64 0)))), none⟩]) (.block 0 
  (.loopN [35, 34, 33, 32, 31, 30, 29, 28, 27, 26, 25, 24, 23, 22, 21, 20, 19] c17b1))) 
  (.seq (.reg [] [⟨(some 11), (.mv (.c (.v (.slice none 0 0)))), none⟩]) 
  (.seq (.block 2 
  (.loopN [85, 84, 83, 82, 81, 80, 79, 78, 77, 76, 75, 74, 73, 72, 71, 70, 69, 68, 67, 66, 65, 64, 63, 62, 61, 60, 59, 58, 57, 56, 55, 54, 53, 52, 51, 50, 49, 48, 47, 46, 45, 44, 43, 42, 41, 40, 39, 38, 37, 36] c17b0)) 
  (.seq (.reg [⟨(some 86), (.mv (.t 11)), none⟩, ⟨(some 87), (.mv (.t 8)), none⟩, ⟨(some 88), (.nilc (.t 87)), none⟩, ⟨(some 89), (.fa (.t 88) 0), none⟩, ⟨(some 90), (.ld (.t 89) none), none⟩, ⟨(some 91), (.len (.t 90)), none⟩, ⟨(some 92), (.bin .eql (.t 91) (.c (.v (.int .i64 0)))), none⟩, ⟨(some 6), (.mv (.t 86)), none⟩] [⟨(some 7), (.mv (.t 92)), none⟩]) .ret)))))), [(.t 6), (.t 7)]⟩

def c18b0 : MC := 
  (.seq 
  (.seq (.reg [] [⟨(some 6), (.mv (.t 5)), none⟩, ⟨(some 7), (.mv (.t 0)), none⟩, ⟨(some 8), (.len (.t 7)), none⟩, ⟨(some 9), (.bin .lss (.t 6) (.t 8)), none⟩]) (.cond (.t 9) .skip (.exit 0))) 
  (.seq (.block 1 
  (.seq (.reg [] [⟨(some 12), (.mv (.t 0)), none⟩, ⟨(some 13), (.mv (.t 5)), none⟩, ⟨(some 14), (.ixs (.t 12) (.t 13) 1), none⟩, ⟨(some 15), (.ld (.t 14) none), none⟩, ⟨(some 16), (.bin .gtr (.t 15) (.c (.v (.int .i64 0)))), none⟩]) (.cond (.t 16) 
  (.seq 
  (.seq (.reg [] [⟨(some 17), (.mv (.t 1)), none⟩, ⟨(some 18), (.bin .eql (.t 17) (.c (.v (.int .i64 0)))), none⟩]) (.cond (.t 18) 
  (.seq (.reg [] [⟨(some 19), (.mv (.t 5)), none⟩, ⟨(some 4), (.mv (.t 19)), none⟩]) .ret) .skip)) (.reg [] [⟨(some 20), (.mv (.t 1)), none⟩, ⟨(some 21), (.bin .sub (.t 20) (.c (.v (.int .i64 1)))), none⟩, ⟨(some 1), (.mv (.t 21)), none⟩])) .skip))) (.reg [] [⟨(some 10), (.mv (.t 5)), none⟩, ⟨(some 11), (.bin .add (.t 10) (.c (.v (.int .i64 1)))), none⟩, ⟨(some 5), (.mv (.t 11)), none⟩])))

def c18 : MF := ⟨2, 22, 
  (.seq (.reg [] [⟨(some 4), (.mv (.c (.v (.int .i64 0)))), none⟩]) 
  (.seq 
  (.seq (.reg [] [⟨(some 5), (.mv (.c (.v (.int .i64 0)))), none⟩]) (.block 0 
  (.loopN [11, 10, 21, 20, 4, 19, 18, 17, 16, 15, 14, 13, 12, 9, 8, 7, 6] c18b0))) 
  (.seq (.reg [] [⟨(some 4), (.mv (.c (.v (.int .i64 (-1))))), none⟩]) .ret))), [(.t 4)]⟩

def c19 : MF := ⟨2, 38, 
  (.seq (.reg [] [⟨(some 4), (.mv (.c (.v (.int .i64 0)))), none⟩]) 
  (.seq 
  (.seq (.reg [] [⟨(some 7), (.mv (.t 0)), none⟩, ⟨(some 8), (.bin .eql (.t 7) (.c (.v (.int .i64 (-9223372036854775808))))), none⟩, ⟨(some 9), (.mv (.t 8)), none⟩, ⟨(some 10), (.mv (.t 1)), (some (9, true))⟩, ⟨(some 11), (.bin .eql (.t 10) (.c (.v (.int .i64 (-1))))), (some (9, true))⟩, ⟨(some 12), (.pick (.t 9) (.t 11) (.c (.v (.bool false)))), none⟩]) (.cond (.t 12) 
  (.seq (.reg [] [⟨(some 4), (.mv (.c (.v (.int .i64 9223372036854775807)))), none⟩]) .ret) .skip)) 
  (.seq (.reg [] [⟨(some 13), (.mv (.t 0)), none⟩, ⟨(some 14), (.mv (.t 1)), none⟩, ⟨(some 15), (.bin .quo (.t 13) (.t 14)), none⟩, ⟨(some 5), (.mv (.t 15)), none⟩]) 
  (.seq (.reg [] [⟨(some 16), (.mv (.t 0)), none⟩, ⟨(some 17), (.mv (.t 5)), none⟩, ⟨(some 18), (.mv (.t 1)), none⟩, ⟨(some 19), (.bin .mul (.t 17) (.t 18)), none⟩, ⟨(some 20), (.bin .sub (.t 16) (.t 19)), none⟩, ⟨(some 6), (.mv (.t 20)), none⟩]) 
  (.seq 
  (.seq (.reg [] [⟨(some 21), (.mv (.t 6)), none⟩, ⟨(some 22), (.bin .lss (.t 21) (.c (.v (.int .i64 0)))), none⟩, ⟨(some 23), (.mv (.t 22)), none⟩, ⟨(some 24), (.mv (.t 1)), (some (23, true))⟩, ⟨(some 25), (.bin .gtr (.t 24) (.c (.v (.int .i64 0)))), (some (23, true))⟩, ⟨(some 26), (.pick (.t 23) (.t 25) (.c (.v (.bool false)))), none⟩, ⟨(some 27), (.mv (.t 26)), none⟩, ⟨(some 28), (.mv (.t 6)), (some (27, false))⟩, ⟨(some 29), (.bin .gtr (.t 28) (.c (.v (.int .i64 0)))), (some (27, false))⟩, ⟨(some 30), (.mv (.t 29)), (some (27, false))⟩, ⟨(some 31), (.mv (.t 1)), (some (30, true))⟩, ⟨(some 32), (.bin .lss (.t 31) (.c (.v (.int .i64 0)))), (some (30, true))⟩, ⟨(some 33), (.pick (.t 30) (.t 32) (.c (.v (.bool false)))), (some (27, false))⟩, ⟨(some 34), (.pick (.t 27) (.c (.v (.bool true))) (.t 33)), none⟩]) (.cond (.t 34) 
  (.seq (.reg [] [⟨(some 35), (.mv (.t 5)), none⟩, ⟨(some 36), (.bin .sub (.t 35) (.c (.v (.int .i64 1)))), none⟩, ⟨(some 4), (.mv (.t 36)), none⟩]) .ret) .skip)) 
  (.seq (.reg [] [⟨(some 37), (.mv (.t 5)), none⟩, ⟨(some 4), (.mv (.t 37)), none⟩]) .ret)))))), [(.t 4)]⟩

def c20b0 : MC := 
  (.seq 
  (.seq (.reg [] [⟨(some 7), (.mv (.t 5)), none⟩, ⟨(some 8), (.mv (.t 0)), none⟩, ⟨(some 9), (.len (.t 8)), none⟩, ⟨(some 10), (.bin .leq (.t 7) (.t 9)), none⟩]) (.cond (.t 10) .skip (.exit 0))) 
  (.seq (.block 1 
  (.seq (.reg [] [⟨(some 13), (.mv (.t 1)), none⟩, ⟨(some 14), (.mv (.t 5)), none⟩, ⟨(some 15), (.bin .add (.t 13) (.t 14)), none⟩, ⟨(some 16), (.mv (.t 0)), none⟩, ⟨(some 17), (.len (.t 16)), none⟩, ⟨(some 18), (.bin .rem (.t 15) (.t 17)), none⟩, ⟨(some 6), (.mv (.t 18)), none⟩]) 
  (.seq (.reg [] [⟨(some 19), (.mv (.t 0)), none⟩, ⟨(some 20), (.mv (.t 6)), none⟩, ⟨(some 21), (.ixs (.t 19) (.t 20) 1), none⟩, ⟨(some 22), (.ld (.t 21) none), none⟩, ⟨(some 23), (.bin .gtr (.t 22) (.c (.v (.int .i64 0)))), none⟩]) (.cond (.t 23) 
  (.seq (.reg [] [⟨(some 24), (.mv (.t 6)), none⟩, ⟨(some 4), (.mv (.t 24)), none⟩]) .ret) .skip)))) (.reg [] [⟨(some 11), (.mv (.t 5)), none⟩, ⟨(some 12), (.bin .add (.t 11) (.c (.v (.int .i64 1)))), none⟩, ⟨(some 5), (.mv (.t 12)), none⟩])))

def c20 : MF := ⟨2, 25, 
  (.seq (.reg [] [⟨(some 4), (.mv (.c (.v (.int .i64 0)))), none⟩]) 
  (.seq 
  (.seq (.reg [] [⟨(some 5), (.mv (.c (.v (.int .i64 1)))), none⟩]) (.block 0 
  (.loopN [12, 11, 4, 24, 23, 22, 21, 20, 19, 18, 17, 16, 15, 14, 13, 10, 9, 8, 7] c20b0))) 
  (.seq (.reg [] [⟨(some 4), (.mv (.c (.v (.int .i64 (-1))))), none⟩]) .ret))), [(.t 4)]⟩

def c21 : MF := ⟨3, 16, 
  (.seq (.reg [] [⟨(some 6), (.mv (.c (.v (.int .i64 0)))), none⟩]) 
  (.seq 
  (.seq (.reg [] [⟨(some 7), (.mv (.t 0)), none⟩, ⟨(some 8), (.mv (.t 1)), none⟩, ⟨(some 9), (.bin .lss (.t 7) (.t 8)), none⟩]) (.cond (.t 9) 
  (.seq (.reg [] [⟨(some 10), (.mv (.t 1)), none⟩, ⟨(some 6), (.mv (.t 10)), none⟩]) .ret) .skip)) 
  (.seq 
  (.seq (.reg [] [⟨(some 11), (.mv (.t 0)), none⟩, ⟨(some 12), (.mv (.t 2)), none⟩, ⟨(some 13), (.bin .gtr (.t 11) (.t 12)), none⟩]) (.cond (.t 13) 
  (.seq (.reg [] [⟨(some 14), (.mv (.t 2)), none⟩, ⟨(some 6), (.mv (.t 14)), none⟩]) .ret) .skip)) 
  (.seq (.reg [] [⟨(some 15), (.mv (.t 0)), none⟩, ⟨(some 6), (.mv (.t 15)), none⟩]) .ret)))), [(.t 6)]⟩

def c22 : MF := ⟨1, 57, 
  (.seq (.reg [] [⟨(some 2), (.mv (.c (.v (.int .i64 0)))), none⟩]) 
  (.seq 
  (.seq (.reg [] [⟨(some 7), (.mv (.t 0)), none⟩, ⟨(some 8), (.nilc (.t 7)), none⟩, ⟨(some 9), (.fa (.t 8) 2), none⟩, ⟨(some 10), (.ld (.t 9) none), none⟩, ⟨(some 11), (.len (.t 10)), none⟩, ⟨(some 12), (.bin .gtr (.t 11) (.c (.v (.int .i64 0)))), none⟩]) (.cond (.t 12) 
  (.seq (.alt (.regM [(.p, ⟨(some 14), (.mv (.t 0)), none⟩), (.p, ⟨(some 15), (.nilc (.t 14)), none⟩), (.p, ⟨(some 16), (.fa (.t 15) 2), none⟩), (.p, ⟨(some 17), (.ld (.t 16) none), none⟩), (.p, ⟨(some 18), (.ixs (.t 17) (.c (.v (.int .i64 0))) 1), none⟩), (.p, ⟨(some 19), (.ld (.t 18) none), none⟩), (.p, ⟨(some 20), (.mv (.t 0)), none⟩), (.p, ⟨(some 21), (.nilc (.t 20)), none⟩), (.p, ⟨(some 22), (.fa (.t 21) 0), none⟩), (.p, ⟨(some 23), (.ld (.t 22) none), none⟩), (.p, ⟨(some 24), (.len (.t 23)), none⟩), ((.q [0, 1, 2, 3, 4, 5, 6, 7, 8, 9, 10]), ⟨(some 25), (.call (.c (.f 24 [])) [(.t 19), (.t 24)]), none⟩), (.p, ⟨(some 13), (.mv (.t 25)), none⟩), (.p, ⟨(some 26), (.ext (.t 13) 0), none⟩), (.p, ⟨(some 27), (.ext (.t 13) 1), none⟩), (.p, ⟨(some 3), (.mv (.t 26)), none⟩)] [⟨(some 4), (.mv (.t 27)), none⟩]) (.reg [⟨(some 14), (.mv (.t 0)), none⟩, ⟨(some 15), (.nilc (.t 14)), none⟩, ⟨(some 16), (.fa (.t 15) 2), none⟩, ⟨(some 17), (.ld (.t 16) none), none⟩, ⟨(some 18), (.ixs (.t 17) (.c (.v (.int .i64 0))) 1), none⟩, ⟨(some 19), (.ld (.t 18) none), none⟩, ⟨(some 20), (.mv (.t 0)), none⟩, ⟨(some 21), (.nilc (.t 20)), none⟩, ⟨(some 22), (.fa (.t 21) 0), none⟩, ⟨(some 23), (.ld (.t 22) none), none⟩, ⟨(some 24), (.len (.t 23)), none⟩, ⟨(some 25), (.call (.c (.f 24 [])) [(.t 19), (.t 24)]), none⟩, ⟨(some 13), (.mv (.t 25)), none⟩, ⟨(some 26), (.ext (.t 13) 0), none⟩, ⟨(some 27), (.ext (.t 13) 1), none⟩, ⟨(some 3), (.mv (.t 26)), none⟩] [⟨(some 4), (.mv (.t 27)), none⟩])) 
  (.seq (.reg [] [⟨(some 28), (.mv (.t 0)), none⟩, ⟨(some 29), (.mv (.t 0)), none⟩, ⟨(some 30), (.nilc (.t 29)), none⟩, ⟨(some 31), (.fa (.t 30) 2), none⟩, ⟨(some 32), (.ld (.t 31) none), none⟩, ⟨(some 33), (.slc (.t 32) (some (.c (.v (.int .i64 1)))) none none 1), none⟩, ⟨(some 34), (.nilc (.t 28)), none⟩, ⟨(some 35), (.fa (.t 34) 2), none⟩, ⟨none, (.st (.t 35) (.t 33) 1), none⟩]) 
  (.seq (.reg [] [⟨(some 36), (.mv (.t 3)), none⟩, ⟨(some 2), (.mv (.t 36)), none⟩]) .ret))) .skip)) 
  (.seq (.alt (.regM [(.p, ⟨(some 38), (.mv (.t 0)), none⟩), (.p, ⟨(some 39), (.nilc (.t 38)), none⟩), (.p, ⟨(some 40), (.fa (.t 39) 0), none⟩), (.p, ⟨(some 41), (.ld (.t 40) none), none⟩), (.p, ⟨(some 42), (.mv (.t 0)), none⟩), (.p, ⟨(some 43), (.nilc (.t 42)), none⟩), (.p, ⟨(some 44), (.fa (.t 43) 1), none⟩), (.p, ⟨(some 45), (.ld (.t 44) none), none⟩), (.p, ⟨(some 46), (.bin .add (.t 45) (.c (.v (.int .i64 1)))), none⟩), ((.q [0, 1, 2, 3, 4, 5, 6, 7, 8]), ⟨(some 47), (.call (.c (.f 25 [])) [(.t 41), (.t 46)]), none⟩), (.p, ⟨(some 37), (.mv (.t 47)), none⟩), (.p, ⟨(some 48), (.ext (.t 37) 0), none⟩), (.p, ⟨(some 49), (.ext (.t 37) 1), none⟩), (.p, ⟨(some 5), (.mv (.t 48)), none⟩)] [⟨(some 6), (.mv (.t 49)), none⟩]) (.reg [⟨(some 38), (.mv (.t 0)), none⟩, ⟨(some 39), (.nilc (.t 38)), none⟩, ⟨(some 40), (.fa (.t 39) 0), none⟩, ⟨(some 41), (.ld (.t 40) none), none⟩, ⟨(some 42), (.mv (.t 0)), none⟩, ⟨(some 43), (.nilc (.t 42)), none⟩, ⟨(some 44), (.fa (.t 43) 1), none⟩, ⟨(some 45), (.ld (.t 44) none), none⟩, ⟨(some 46), (.bin .add (.t 45) (.c (.v (.int .i64 1)))), none⟩, ⟨(some 47), (.call (.c (.f 25 [])) [(.t 41), (.t 46)]), none⟩, ⟨(some 37), (.mv (.t 47)), none⟩, ⟨(some 48), (.ext (.t 37) 0), none⟩, ⟨(some 49), (.ext (.t 37) 1), none⟩, ⟨(some 5), (.mv (.t 48)), none⟩] [⟨(some 6), (.mv (.t 49)), none⟩])) 
  (.seq (.reg [] [⟨(some 50), (.mv (.t 5)), none⟩, ⟨(some 51), (.mv (.t 0)), none⟩, ⟨(some 52), (.nilc (.t 51)), none⟩, ⟨(some 53), (.fa (.t 52) 0), none⟩, ⟨(some 54), (.ld (.t 53) none), none⟩, ⟨(some 55), (.len (.t 54)), none⟩, ⟨(some 56), (.bin .rem (.t 50) (.t 55)), none⟩, ⟨(some 2), (.mv (.t 56)), none⟩]) .ret)))), [(.t 2)]⟩

def c23 : MF := ⟨3, 33, 
  (.seq (.reg [] [⟨(some 6), (.mv (.c (.v (.slice none 0 0)))), none⟩]) 
  (.seq (.reg [] [⟨(some 8), (.mv (.t 0)), none⟩, ⟨(some 9), (.mv (.t 1)), none⟩, ⟨(some 10), (.mv (.t 2)), none⟩, ⟨(some 11), (.mv (.t 0)), none⟩, ⟨(some 12), (.len (.t 11)), none⟩, ⟨(some 13), (.slc (.t 8) (some (.t 9)) (some (.t 10)) (some (.t 12)) 1), none⟩]) 
  (.seq 
  (.seq (.reg [] [⟨(some 14), (.mv (.t 1)), none⟩, ⟨(some 15), (.mv (.t 2)), none⟩, ⟨(some 16), (.bin .eql (.t 14) (.t 15)), none⟩]) (.cond (.t 16) 
  (.seq (.reg [] [⟨(some 17), (.mv (.t 0)), none⟩, ⟨(some 6), (.mv (.t 17)), none⟩]) .ret) .skip)) 
  (.seq (.reg [] [⟨(some 18), (.mv (.t 0)), none⟩, ⟨(some 19), (.len (.t 18)), none⟩, ⟨(some 7), (.mv (.t 19)), none⟩]) 
  (.seq (.reg [⟨(some 20), (.mv (.t 0)), none⟩, ⟨(some 21), (.mv (.t 1)), none⟩, ⟨(some 22), (.slc (.t 20) none (some (.t 21)) none 1), none⟩, ⟨(some 23), (.mv (.t 0)), none⟩, ⟨(some 24), (.mv (.t 2)), none⟩, ⟨(some 25), (.slc (.t 23) (some (.t 24)) none none 1), none⟩] [⟨(some 26), (.app (.t 22) (.t 25) 1 8), none⟩, ⟨(some 0), (.mv (.t 26)), none⟩]) 
  (.seq (.reg [] [⟨(some 27), (.mv (.t 0)), none⟩, ⟨(some 28), (.mv (.t 0)), none⟩, ⟨(some 29), (.len (.t 28)), none⟩, ⟨(some 30), (.mv (.t 7)), none⟩, ⟨(some 31), (.slc (.t 27) (some (.t 29)) (some (.t 30)) none 1), none⟩, ⟨none, (.clr (.t 31) [(.v (.int .i64 0))] 1), none⟩]) 
  (.seq (.reg [] [⟨(some 32), (.mv (.t 0)), none⟩, ⟨(some 6), (.mv (.t 32)), none⟩]) .ret))))))), [(.t 6)]⟩

def c24 : MF := ⟨2, 18, 
  (.seq (.reg [] [⟨(some 4), (.mv (.c (.v (.int .i64 0)))), none⟩, ⟨(some 5), (.mv (.c (.v (.int .i64 0)))), none⟩]) 
  (.seq 
  (.seq (.reg [] [⟨(some 7), (.mv (.t 1)), none⟩, ⟨(some 8), (.bin .lss (.t 7) (.c (.v (.int .i64 1)))), none⟩]) (.cond (.t 8) 
  (.seq (.reg [] [⟨(some 4), (.mv (.c (.v (.int .i64 0)))), none⟩, ⟨(some 5), (.mv (.c (.v (.int .i64 2)))), none⟩]) .ret) .skip)) 
  (.seq (.reg [] [⟨(some 9), (.mv (.t 0)), none⟩, ⟨(some 10), (.mv (.t 1)), none⟩, ⟨(some 11), (.bin .rem (.t 9) (.t 10)), none⟩, ⟨(some 6), (.mv (.t 11)), none⟩]) 
  (.seq 
  (.seq (.reg [] [⟨(some 12), (.mv (.t 6)), none⟩, ⟨(some 13), (.bin .lss (.t 12) (.c (.v (.int .i64 0)))), none⟩]) (.cond (.t 13) (.reg [] [⟨(some 14), (.mv (.t 6)), none⟩, ⟨(some 15), (.mv (.t 1)), none⟩, ⟨(some 16), (.bin .add (.t 14) (.t 15)), none⟩, ⟨(some 6), (.mv (.t 16)), none⟩]) .skip)) 
  (.seq (.reg [] [⟨(some 17), (.mv (.t 6)), none⟩, ⟨(some 4), (.mv (.t 17)), none⟩, ⟨(some 5), (.mv (.c (.v (.int .i64 0)))), none⟩]) .ret))))), [(.t 4), (.t 5)]⟩

def c25b0 : MC := 
  (.seq 
  (.seq (.reg [] [⟨(some 13), (.mv (.t 7)), none⟩, ⟨(some 14), (.mv (.t 8)), none⟩, ⟨(some 15), (.bin .lss (.t 13) (.t 14)), none⟩]) (.cond (.t 15) .skip (.exit 0))) (.block 1 
  (.seq (.reg [] [⟨(some 16), (.mv (.t 7)), none⟩, ⟨(some 17), (.mv (.t 8)), none⟩, ⟨(some 18), (.bin .add (.t 16) (.t 17)), none⟩, ⟨(some 19), (.conv .u64 (.t 18)), none⟩, ⟨(some 20), (.bin .shr (.t 19) (.c (.v (.int .u64 1)))), none⟩, ⟨(some 21), (.conv .i64 (.t 20)), none⟩, ⟨(some 9), (.mv (.t 21)), none⟩]) 
  (.seq (.reg [] [⟨(some 22), (.mv (.t 0)), none⟩, ⟨(some 23), (.mv (.t 9)), none⟩, ⟨(some 24), (.ixs (.t 22) (.t 23) 1), none⟩, ⟨(some 25), (.ld (.t 24) none), none⟩, ⟨(some 26), (.mv (.t 1)), none⟩, ⟨(some 27), (.call (.c (.f 26 [])) [(.t 25), (.t 26)]), none⟩]) (.cond (.t 27) (.reg [] [⟨(some 28), (.mv (.t 9)), none⟩, ⟨(some 29), (.bin .add (.t 28) (.c (.v (.int .i64 1)))), none⟩, ⟨(some 7), (.mv (.t 29)), none⟩]) (.reg [] [⟨(some 30), (.mv (.t 9)), none⟩, ⟨(some 8), (.mv (.t 30)), none⟩]))))))

def c25 : MF := ⟨2, 54, 
  (.seq (.reg [] [⟨(some 4), (.mv (.c (.v (.int .i64 0)))), none⟩, ⟨(some 5), (.mv (.c (.v (.bool false)))), none⟩]) 
  (.seq (.reg [] [⟨(some 10), (.mv (.t 0)), none⟩, ⟨(some 11), (.len (.t 10)), none⟩, ⟨(some 6), (.mv (.t 11)), none⟩]) 
  (.seq (.reg [] [⟨(some 12), (.mv (.t 6)), none⟩, ⟨(some 7), (.mv (.c (.v (.int .i64 0)))), none⟩, ⟨(some 8), (.mv (.t 12)), none⟩]) 
  (.seq (.block 0 
  (.loopN [30, 29, 28, 27, 26, 25, 24, 23, 22, 21, 20, 19, 18, 17, 16, 15, 14, 13] c25b0)) 
  (.seq (.reg [] [⟨(some 31), (.mv (.t 7)), none⟩, ⟨(some 32), (.mv (.t 7)), none⟩, ⟨(some 33), (.mv (.t 6)), none⟩, ⟨(some 34), (.bin .lss (.t 32) (.t 33)), none⟩, ⟨(some 35), (.mv (.t 34)), none⟩, ⟨(some 36), (.mv (.t 0)), (some (35, true))⟩, ⟨(some 37), (.mv (.t 7)), (some (35, true))⟩, ⟨(some 38), (.ixs (.t 36) (.t 37) 1), (some (35, true))⟩, ⟨(some 39), (.ld (.t 38) none), (some (35, true))⟩, ⟨(some 40), (.mv (.t 1)), (some (35, true))⟩, ⟨(some 41), (.bin .eql (.t 39) (.t 40)), (some (35, true))⟩, ⟨(some 42), (.mv (.t 41)), (some (35, true))⟩, ⟨(some 43), (.mv (.t 0)), (some (42, false))⟩, ⟨(some 44), (.mv (.t 7)), (some (42, false))⟩, ⟨(some 45), (.ixs (.t 43) (.t 44) 1), (some (42, false))⟩, ⟨(some 46), (.ld (.t 45) none), (some (42, false))⟩, ⟨(some 47), (.call (.c (.f 27 [])) [(.t 46)]), (some (42, false))⟩, ⟨(some 48), (.mv (.t 47)), (some (42, false))⟩, ⟨(some 49), (.mv (.t 1)), (some (48, true))⟩, ⟨(some 50), (.call (.c (.f 27 [])) [(.t 49)]), (some (48, true))⟩, ⟨(some 51), (.pick (.t 48) (.t 50) (.c (.v (.bool false)))), (some (42, false))⟩, ⟨(some 52), (.pick (.t 42) (.c (.v (.bool true))) (.t 51)), (some (35, true))⟩, ⟨(some 53), (.pick (.t 35) (.t 52) (.c (.v (.bool false)))), none⟩, ⟨(some 4), (.mv (.t 31)), none⟩, ⟨(some 5), (.mv (.t 53)), none⟩]) .ret))))), [(.t 4), (.t 5)]⟩

def c26 : MF := ⟨2, 17, 
  (.seq (.reg [] [⟨(some 4), (.mv (.c (.v (.bool false)))), none⟩]) 
  (.seq (.reg [] [⟨(some 5), (.mv (.t 0)), none⟩, ⟨(some 6), (.call (.c (.f 28 [])) [(.t 5)]), none⟩, ⟨(some 7), (.mv (.t 6)), none⟩, ⟨(some 8), (.mv (.t 1)), (some (7, true))⟩, ⟨(some 9), (.call (.c (.f 28 [])) [(.t 8)]), (some (7, true))⟩, ⟨(some 10), (.un .not (.t 9)), (some (7, true))⟩, ⟨(some 11), (.pick (.t 7) (.t 10) (.c (.v (.bool false)))), none⟩, ⟨(some 12), (.mv (.t 11)), none⟩, ⟨(some 13), (.mv (.t 0)), (some (12, false))⟩, ⟨(some 14), (.mv (.t 1)), (some (12, false))⟩, ⟨(some 15), (.bin .lss (.t 13) (.t 14)), (some (12, false))⟩, ⟨(some 16), (.pick (.t 12) (.c (.v (.bool true))) (.t 15)), none⟩, ⟨(some 4), (.mv (.t 16)), none⟩]) .ret)), [(.t 4)]⟩

def c27 : MF := ⟨1, 6, 
  (.seq (.reg [] [⟨(some 2), (.mv (.c (.v (.bool false)))), none⟩]) 
  (.seq (.reg [] [⟨(some 3), (.mv (.t 0)), none⟩, ⟨(some 4), (.mv (.t 0)), none⟩, ⟨(some 5), (.bin .neq (.t 3) (.t 4)), none⟩, ⟨(some 2), (.mv (.t 5)), none⟩]) .ret)), [(.t 2)]⟩

def c28 : MF := ⟨1, 6, 
  (.seq (.reg [] [⟨(some 2), (.mv (.c (.v (.bool false)))), none⟩]) 
  (.seq (.reg [] [⟨(some 3), (.mv (.t 0)), none⟩, ⟨(some 4), (.mv (.t 0)), none⟩, ⟨(some 5), (.bin .neq (.t 3) (.t 4)), none⟩, ⟨(some 2), (.mv (.t 5)), none⟩]) .ret)), [(.t 2)]⟩

def pureL : List FuncId := [11, 12, 13, 14, 15, 19, 20, 21, 22, 24, 25, 26, 27, 28]
theorem ok3 : ∃ md, cF Try.prog md 3 = some c3 := ⟨(true, pureL), by kernel_rfl⟩
theorem ok4 : ∃ md, cF Try.prog md 4 = some c4 := ⟨(true, pureL), by kernel_rfl⟩
theorem ok5 : ∃ md, cF Try.prog md 5 = some c5 := ⟨(true, pureL), by kernel_rfl⟩
theorem ok6 : ∃ md, cF Try.prog md 6 = some c6 := ⟨(true, pureL), by kernel_rfl⟩
theorem ok7 : ∃ md, cF Try.prog md 7 = some c7 := ⟨(true, pureL), by kernel_rfl⟩
theorem ok8 : ∃ md, cF Try.prog md 8 = some c8 := ⟨(true, pureL), by kernel_rfl⟩
theorem ok9 : ∃ md, cF Try.prog md 9 = some c9 := ⟨(true, pureL), by kernel_rfl⟩
theorem ok10 : ∃ md, cF Try.prog md 10 = some c10 := ⟨(true, pureL), by kernel_rfl⟩
theorem ok11 : ∃ md, cF Try.prog md 11 = some c11 := ⟨(true, pureL), by kernel_rfl⟩
theorem ok12 : ∃ md, cF Try.prog md 12 = some c12 := ⟨(true, pureL), by kernel_rfl⟩
theorem ok13 : ∃ md, cF Try.prog md 13 = some c13 := ⟨(true, pureL), by kernel_rfl⟩
theorem ok14 : ∃ md, cF Try.prog md 14 = some c14 := ⟨(true, pureL), by kernel_rfl⟩
theorem ok15 : ∃ md, cF Try.prog md 15 = some c15 := ⟨(true, pureL), by kernel_rfl⟩
theorem ok16 : ∃ md, cF Try.prog md 16 = some c16 := ⟨(true, pureL), by kernel_rfl⟩
theorem ok17 : ∃ md, cF Try.prog md 17 = some c17 := ⟨(true, pureL), by kernel_rfl⟩
theorem ok18 : ∃ md, cF Try.prog md 18 = some c18 := ⟨(true, pureL), by kernel_rfl⟩
theorem ok19 : ∃ md, cF Try.prog md 19 = some c19 := ⟨(true, pureL), by kernel_rfl⟩
theorem ok20 : ∃ md, cF Try.prog md 20 = some c20 := ⟨(true, pureL), by kernel_rfl⟩
theorem ok21 : ∃ md, cF Try.prog md 21 = some c21 := ⟨(true, pureL), by kernel_rfl⟩
theorem ok22 : ∃ md, cF Try.prog md 22 = some c22 := ⟨(true, pureL), by kernel_rfl⟩
theorem ok23 : ∃ md, cF Try.prog md 23 = some c23 := ⟨(true, pureL), by kernel_rfl⟩
theorem ok24 : ∃ md, cF Try.prog md 24 = some c24 := ⟨(true, pureL), by kernel_rfl⟩
theorem ok25 : ∃ md, cF Try.prog md 25 = some c25 := ⟨(true, pureL), by kernel_rfl⟩
theorem ok26 : ∃ md, cF Try.prog md 26 = some c26 := ⟨(true, pureL), by kernel_rfl⟩
theorem ok27 : ∃ md, cF Try.prog md 27 = some c27 := ⟨(true, pureL), by kernel_rfl⟩
theorem ok28 : ∃ md, cF Try.prog md 28 = some c28 := ⟨(true, pureL), by kernel_rfl⟩

def cmL : List (Nat × MF) := [(3, c3), (4, c4), (5, c5), (6, c6), (7, c7), (8, c8), (9, c9), (10, c10), (11, c11), (12, c12), (13, c13), (14, c14), (15, c15), (16, c16), (17, c17), (18, c18), (19, c19), (20, c20), (21, c21), (22, c22), (23, c23), (24, c24), (25, c25), (26, c26), (27, c27), (28, c28)]

def cm : FuncId → Option MF := look cmL

theorem hcm : ∀ g m, cm g = some m → ∃ md, cF Try.prog md g = some m := look_ok ⟨ok3, ok4, ok5, ok6, ok7, ok8, ok9, ok10, ok11, ok12, ok13, ok14, ok15, ok16, ok17, ok18, ok19, ok20, ok21, ok22, ok23, ok24, ok25, ok26, ok27, ok28, trivial⟩

theorem cm3 (k : Nat) (args : List LV) (h : List Row) (lim : Nat) : evF cm (k + 1) 3 args h lim = runF (evF cm k) k lim c3 args h := rfl
theorem cm4 (k : Nat) (args : List LV) (h : List Row) (lim : Nat) : evF cm (k + 1) 4 args h lim = runF (evF cm k) k lim c4 args h := rfl
theorem cm5 (k : Nat) (args : List LV) (h : List Row) (lim : Nat) : evF cm (k + 1) 5 args h lim = runF (evF cm k) k lim c5 args h := rfl
theorem cm6 (k : Nat) (args : List LV) (h : List Row) (lim : Nat) : evF cm (k + 1) 6 args h lim = runF (evF cm k) k lim c6 args h := rfl
theorem cm7 (k : Nat) (args : List LV) (h : List Row) (lim : Nat) : evF cm (k + 1) 7 args h lim = runF (evF cm k) k lim c7 args h := rfl
theorem cm8 (k : Nat) (args : List LV) (h : List Row) (lim : Nat) : evF cm (k + 1) 8 args h lim = runF (evF cm k) k lim c8 args h := rfl
theorem cm9 (k : Nat) (args : List LV) (h : List Row) (lim : Nat) : evF cm (k + 1) 9 args h lim = runF (evF cm k) k lim c9 args h := rfl
theorem cm10 (k : Nat) (args : List LV) (h : List Row) (lim : Nat) : evF cm (k + 1) 10 args h lim = runF (evF cm k) k lim c10 args h := rfl
theorem cm11 (k : Nat) (args : List LV) (h : List Row) (lim : Nat) : evF cm (k + 1) 11 args h lim = runF (evF cm k) k lim c11 args h := rfl
theorem cm12 (k : Nat) (args : List LV) (h : List Row) (lim : Nat) : evF cm (k + 1) 12 args h lim = runF (evF cm k) k lim c12 args h := rfl
theorem cm13 (k : Nat) (args : List LV) (h : List Row) (lim : Nat) : evF cm (k + 1) 13 args h lim = runF (evF cm k) k lim c13 args h := rfl
theorem cm14 (k : Nat) (args : List LV) (h : List Row) (lim : Nat) : evF cm (k + 1) 14 args h lim = runF (evF cm k) k lim c14 args h := rfl
theorem cm15 (k : Nat) (args : List LV) (h : List Row) (lim : Nat) : evF cm (k + 1) 15 args h lim = runF (evF cm k) k lim c15 args h := rfl
theorem cm16 (k : Nat) (args : List LV) (h : List Row) (lim : Nat) : evF cm (k + 1) 16 args h lim = runF (evF cm k) k lim c16 args h := rfl
theorem cm17 (k : Nat) (args : List LV) (h : List Row) (lim : Nat) : evF cm (k + 1) 17 args h lim = runF (evF cm k) k lim c17 args h := rfl
theorem cm18 (k : Nat) (args : List LV) (h : List Row) (lim : Nat) : evF cm (k + 1) 18 args h lim = runF (evF cm k) k lim c18 args h := rfl
theorem cm19 (k : Nat) (args : List LV) (h : List Row) (lim : Nat) : evF cm (k + 1) 19 args h lim = runF (evF cm k) k lim c19 args h := rfl
theorem cm20 (k : Nat) (args : List LV) (h : List Row) (lim : Nat) : evF cm (k + 1) 20 args h lim = runF (evF cm k) k lim c20 args h := rfl
theorem cm21 (k : Nat) (args : List LV) (h : List Row) (lim : Nat) : evF cm (k + 1) 21 args h lim = runF (evF cm k) k lim c21 args h := rfl
theorem cm22 (k : Nat) (args : List LV) (h : List Row) (lim : Nat) : evF cm (k + 1) 22 args h lim = runF (evF cm k) k lim c22 args h := rfl
theorem cm23 (k : Nat) (args : List LV) (h : List Row) (lim : Nat) : evF cm (k + 1) 23 args h lim = runF (evF cm k) k lim c23 args h := rfl
theorem cm24 (k : Nat) (args : List LV) (h : List Row) (lim : Nat) : evF cm (k + 1) 24 args h lim = runF (evF cm k) k lim c24 args h := rfl
theorem cm25 (k : Nat) (args : List LV) (h : List Row) (lim : Nat) : evF cm (k + 1) 25 args h lim = runF (evF cm k) k lim c25 args h := rfl
theorem cm26 (k : Nat) (args : List LV) (h : List Row) (lim : Nat) : evF cm (k + 1) 26 args h lim = runF (evF cm k) k lim c26 args h := rfl
theorem cm27 (k : Nat) (args : List LV) (h : List Row) (lim : Nat) : evF cm (k + 1) 27 args h lim = runF (evF cm k) k lim c27 args h := rfl
theorem cm28 (k : Nat) (args : List LV) (h : List Row) (lim : Nat) : evF cm (k + 1) 28 args h lim = runF (evF cm k) k lim c28 args h := rfl
end Go.Proofs.Ytbmfmcimcdajcaa
