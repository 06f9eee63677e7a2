/- The resolved code of the functions that are reached, as a program of ours has printed it; each is checked against the given program. -/
import Derived.KernelRfl
import Derived.Test.YtjgnjpbplnmdmaaEng20
import Derived.Test.YtjgnjpbplnmdmaaProg
namespace Go.Proofs.Ytjgnjpbplnmdmaa
open Go

def c3 : MF := ⟨3, 65, 
  (.seq (.reg [] [⟨(some 5), (.box (.t 2)), none⟩, ⟨(some 6), (.mv (.c (.v (.bool false)))), none⟩]) 
  (.seq 
  (.seq (.reg [] [⟨(some 10), (.fa (.t 5) 74), none⟩, ⟨(some 11), (.fa (.t 10) 2), none⟩, ⟨(some 12), (.ld (.t 11) none), none⟩, ⟨(some 13), (.len (.t 12)), none⟩, ⟨(some 14), (.bin .gtr (.t 13) (.c (.v (.int .i64 5000)))), none⟩]) (.cond (.t 14) 
  (.seq (.reg [] [⟨(some 15), (.call (.c (.f 4 [])) []), none⟩, ⟨(some 6), (.mv (.t 15)), none⟩]) .ret) .skip)) 
  (.seq (.reg [] [⟨(some 17), (.mv (.t 0)), none⟩, ⟨(some 18), (.mv (.t 1)), none⟩, ⟨(some 19), (.ld (.t 5) (some 88)), none⟩, ⟨(some 20), (.call (.c (.f 5 [])) [(.t 17), (.t 18), (.t 19)]), none⟩, ⟨(some 16), (.mv (.t 20)), none⟩, ⟨(some 21), (.ext (.t 16) 0), none⟩, ⟨(some 22), (.ext (.t 16) 1), none⟩, ⟨(some 7), (.mv (.t 21)), none⟩, ⟨(some 8), (.mv (.t 22)), none⟩]) 
  (.seq 
  (.seq (.reg [] [⟨(some 23), (.mv (.t 0)), none⟩, ⟨(some 24), (.mv (.t 1)), none⟩, ⟨(some 25), (.call (.c (.f 6 [])) [(.t 23), (.t 24)]), none⟩, ⟨(some 26), (.un .not (.t 25)), none⟩]) (.cond (.t 26) 
  (.seq (.reg [] [⟨(some 27), (.mv (.t 7)), none⟩, ⟨(some 28), (.len (.t 27)), none⟩, ⟨(some 29), (.bin .eql (.t 28) (.c (.v (.int .i64 0)))), none⟩, ⟨(some 30), (.mv (.t 29)), none⟩, ⟨(some 31), (.mv (.t 8)), (some (30, true))⟩, ⟨(some 32), (.bin .eql (.t 31) (.c (.v (.int .i64 3)))), (some (30, true))⟩, ⟨(some 33), (.pick (.t 30) (.t 32) (.c (.v (.bool false)))), none⟩, ⟨(some 34), (.mv (.t 33)), none⟩, ⟨(some 35), (.call (.c (.f 4 [])) []), (some (34, true))⟩, ⟨(some 36), (.pick (.t 34) (.t 35) (.c (.v (.bool false)))), none⟩, ⟨(some 6), (.mv (.t 36)), none⟩]) .ret) .skip)) 
  (.seq 
  (.seq (.reg [] [⟨(some 37), (.ld (.t 5) (some 88)), none⟩, ⟨(some 38), (.call (.c (.f 7 [])) [(.t 37)]), none⟩, ⟨(some 9), (.mv (.t 38)), none⟩]) 
  (.seq (.reg [] [⟨(some 39), (.mv (.t 9)), none⟩, ⟨(some 40), (.bin .neq (.t 39) (.c (.v (.int .i64 0)))), none⟩]) (.cond (.t 40) 
  (.seq (.reg [] [⟨(some 41), (.mv (.t 7)), none⟩, ⟨(some 42), (.len (.t 41)), none⟩, ⟨(some 43), (.bin .eql (.t 42) (.c (.v (.int .i64 0)))), none⟩, ⟨(some 44), (.mv (.t 43)), none⟩, ⟨(some 45), (.mv (.t 8)), (some (44, true))⟩, ⟨(some 46), (.mv (.t 9)), (some (44, true))⟩, ⟨(some 47), (.bin .eql (.t 45) (.t 46)), (some (44, true))⟩, ⟨(some 48), (.pick (.t 44) (.t 47) (.c (.v (.bool false)))), none⟩, ⟨(some 49), (.mv (.t 48)), none⟩, ⟨(some 50), (.call (.c (.f 4 [])) []), (some (49, true))⟩, ⟨(some 51), (.pick (.t 49) (.t 50) (.c (.v (.bool false)))), none⟩, ⟨(some 6), (.mv (.t 51)), none⟩]) .ret) .skip))) 
  (.seq (.reg [] [⟨(some 52), (.mv (.t 8)), none⟩, ⟨(some 53), (.bin .eql (.t 52) (.c (.v (.int .i64 0)))), none⟩, ⟨(some 54), (.mv (.t 53)), none⟩, ⟨(some 55), (.mv (.t 7)), (some (54, true))⟩, ⟨(some 56), (.mv (.t 0)), (some (54, true))⟩, ⟨(some 57), (.mv (.t 1)), (some (54, true))⟩, ⟨(some 58), (.ld (.t 5) (some 88)), (some (54, true))⟩, ⟨(some 59), (.call (.c (.f 9 [])) [(.t 56), (.t 57), (.t 58)]), (some (54, true))⟩, ⟨(some 60), (.call (.c (.f 8 [])) [(.t 55), (.t 59)]), (some (54, true))⟩, ⟨(some 61), (.pick (.t 54) (.t 60) (.c (.v (.bool false)))), none⟩, ⟨(some 62), (.mv (.t 61)), none⟩, ⟨(some 63), (.call (.c (.f 4 [])) []), (some (62, true))⟩, ⟨(some 64), (.pick (.t 62) (.t 63) (.c (.v (.bool false)))), none⟩, ⟨(some 6), (.mv (.t 64)), none⟩]) .ret)))))), [(.t 6)]⟩

def c4 : MF := ⟨0, 65, 
  (.seq (.reg [] [⟨(some 0), (.mv (.c (.v (.bool false)))), none⟩]) 
  (.seq (.reg [] [⟨(some 9), (.call (.c (.f 10 [])) [(.c (.v (.int .i64 32))), (.c (.v (.int .i64 16))), (.c (.v (.int .i64 1)))]), none⟩, ⟨(some 8), (.mv (.t 9)), none⟩, ⟨(some 10), (.ext (.t 8) 0), none⟩, ⟨(some 11), (.ext (.t 8) 1), none⟩, ⟨(some 1), (.mv (.t 10)), none⟩, ⟨(some 2), (.mv (.t 11)), none⟩]) 
  (.seq 
  (.seq (.reg [] [⟨(some 12), (.mv (.t 2)), none⟩, ⟨(some 13), (.bin .neq (.t 12) (.c (.v (.int .i64 0)))), none⟩, ⟨(some 14), (.mv (.t 13)), none⟩, ⟨(some 15), (.mv (.t 1)), (some (14, false))⟩, ⟨(some 16), (.eqn false 3 (.t 15)), (some (14, false))⟩, ⟨(some 17), (.pick (.t 14) (.c (.v (.bool true))) (.t 16)), none⟩]) (.cond (.t 17) 
  (.seq (.reg [] [⟨(some 0), (.mv (.c (.v (.bool false)))), none⟩]) .ret) .skip)) 
  (.seq (.reg [] [⟨(some 18), (.bld [(.v (.int .i64 0)), (.v (.int .i64 0)), (.v (.int .i64 0)), (.v (.int .i64 0))] [(2, (1, (.c (.v (.int .i64 32))))), (3, (1, (.c (.v (.int .i64 16)))))]), none⟩, ⟨(some 19), (.bld [(.v (.int .i64 0)), (.v (.int .i64 0)), (.v (.int .i64 0)), (.v (.int .i64 0)), (.v (.int .i64 0)), (.v (.int .i64 0)), (.v (.int .i64 0)), (.v (.int .i64 0)), (.v (.int .i64 0)), (.v (.int .i64 0)), (.v (.int .i64 0)), (.v (.int .i64 0)), (.v (.int .i64 0)), (.v (.int .i64 0)), (.v (.int .i64 0)), (.v (.int .i64 0)), (.v (.int .i64 0)), (.v (.int .i64 0)), (.v (.int .i64 0)), (.v (.int .i64 0)), (.v (.int .i64 0)), (.v (.int .i64 0)), (.v (.int .i64 0)), (.v (.int .i64 0)), (.v (.int .i64 0)), (.v (.int .i64 0)), (.v (.int .i64 0)), (.v (.int .i64 0)), (.v (.int .i64 0)), (.v (.int .i64 0)), (.v (.int .i64 0)), (.v (.int .i64 0)), (.v (.int .i64 0)), (.v (.int .i64 0)), (.v (.int .i64 0)), (.v (.int .i64 0)), (.v (.int .i64 0)), (.v (.int .i64 0)), (.v (.int .i64 0)), (.v (.int .i64 0)), (.v (.int .i64 0)), (.v (.int .i64 0)), (.v (.int .i64 0)), (.v (.int .i64 0)), (.v (.int .i64 0)), (.v (.int .i64 0)), (.v (.int .i64 0)), (.v (.int .i64 0)), (.v (.int .i64 0)), (.v (.int .i64 0)), (.v (.int .i64 0)), (.v (.int .i64 0)), (.v (.int .i64 0)), (.v (.int .i64 0)), (.v (.int .i64 0)), (.v (.int .i64 0)), (.v (.int .i64 0)), (.v (.int .i64 0)), (.v (.bool false)), (.v (.int .i64 0)), (.v (.int .i64 0)), (.v (.int .i64 0)), (.v (.int .i64 0)), (.v (.int .i64 0)), (.v (.int .i64 0)), (.v (.int .i64 0)), (.v (.int .i64 0)), (.v (.int .i64 0)), (.v (.int .i64 0)), (.v (.int .i64 0)), (.v (.int .i64 0)), (.v (.int .i64 0)), (.v (.int .i64 0)), (.v (.bool false)), (.v (.int .i64 0)), (.v (.int .i64 0)), (.v (.slice none 0 0)), (.v (.int .i64 0)), (.v (.int .i64 0)), (.v (.int .i64 0)), (.v (.int .i64 0)), (.v (.int .i64 0)), (.v (.int .i64 0)), (.v (.int .i64 0)), (.v (.int .i64 0)), (.v (.int .i64 0)), (.v (.int .i64 0)), (.v (.int .i64 0))] [(0, (1, (.c (.v (.int .i64 1))))), (77, (1, (.c (.v (.int .i64 1))))), (84, (4, (.t 18)))]), none⟩, ⟨(some 3), (.box (.c (.agg [(.v (.int .i64 0)), (.v (.int .i64 0)), (.v (.int .i64 0)), (.v (.int .i64 0)), (.v (.int .i64 0)), (.v (.int .i64 0)), (.v (.int .i64 0)), (.v (.int .i64 0)), (.v (.int .i64 0)), (.v (.int .i64 0)), (.v (.int .i64 0)), (.v (.int .i64 0)), (.v (.int .i64 0)), (.v (.int .i64 0)), (.v (.int .i64 0)), (.v (.int .i64 0)), (.v (.int .i64 0)), (.v (.int .i64 0)), (.v (.int .i64 0)), (.v (.int .i64 0)), (.v (.int .i64 0)), (.v (.int .i64 0)), (.v (.int .i64 0)), (.v (.int .i64 0)), (.v (.int .i64 0)), (.v (.int .i64 0)), (.v (.int .i64 0)), (.v (.int .i64 0)), (.v (.int .i64 0)), (.v (.int .i64 0)), (.v (.int .i64 0)), (.v (.int .i64 0)), (.v (.int .i64 0)), (.v (.int .i64 0)), (.v (.int .i64 0)), (.v (.int .i64 0)), (.v (.int .i64 0)), (.v (.int .i64 0)), (.v (.int .i64 0)), (.v (.int .i64 0)), (.v (.int .i64 0)), (.v (.int .i64 0)), (.v (.int .i64 0)), (.v (.int .i64 0)), (.v (.int .i64 0)), (.v (.int .i64 0)), (.v (.int .i64 0)), (.v (.int .i64 0)), (.v (.int .i64 0)), (.v (.int .i64 0)), (.v (.int .i64 0)), (.v (.int .i64 0)), (.v (.int .i64 0)), (.v (.int .i64 0)), (.v (.int .i64 0)), (.v (.int .i64 0)), (.v (.int .i64 0)), (.v (.int .i64 0)), (.v (.bool false)), (.v (.int .i64 0)), (.v (.int .i64 0)), (.v (.int .i64 0)), (.v (.int .i64 0)), (.v (.int .i64 0)), (.v (.int .i64 0)), (.v (.int .i64 0)), (.v (.int .i64 0)), (.v (.int .i64 0)), (.v (.int .i64 0)), (.v (.int .i64 0)), (.v (.int .i64 0)), (.v (.int .i64 0)), (.v (.int .i64 0)), (.v (.bool false)), (.v (.int .i64 0)), (.v (.int .i64 0)), (.v (.slice none 0 0)), (.v (.int .i64 0)), (.v (.int .i64 0)), (.v (.int .i64 0)), (.v (.int .i64 0)), (.v (.int .i64 0)), (.v (.int .i64 0)), (.v (.int .i64 0)), (.v (.int .i64 0)), (.v (.int .i64 0)), (.v (.int .i64 0)), (.v (.int .i64 0))]))), none⟩, ⟨none, (.st (.t 3) (.t 19) 88), none⟩]) 
  (.seq (.reg [] [⟨(some 21), (.ld (.t 3) (some 88)), none⟩, ⟨(some 22), (.call (.c (.f 5 [])) [(.c (.v (.int .i64 32))), (.c (.v (.int .i64 16))), (.t 21)]), none⟩, ⟨(some 20), (.mv (.t 22)), none⟩, ⟨(some 23), (.ext (.t 20) 0), none⟩, ⟨(some 24), (.ext (.t 20) 1), none⟩, ⟨(some 4), (.mv (.t 23)), none⟩, ⟨(some 5), (.mv (.t 24)), none⟩]) 
  (.seq (.reg [] [⟨(some 26), (.mv (.t 1)), none⟩, ⟨(some 27), (.ld (.t 3) (some 88)), none⟩, ⟨(some 28), (.mv (.t 4)), none⟩, ⟨(some 29), (.call (.c (.f 11 [])) [(.t 26), (.t 27), (.t 28)]), none⟩, ⟨(some 25), (.mv (.t 29)), none⟩, ⟨(some 30), (.ext (.t 25) 0), none⟩, ⟨(some 31), (.ext (.t 25) 1), none⟩, ⟨(some 6), (.mv (.t 30)), none⟩, ⟨(some 7), (.mv (.t 31)), none⟩]) 
  (.seq (.reg [] [⟨(some 32), (.mv (.t 5)), none⟩, ⟨(some 33), (.bin .eql (.t 32) (.c (.v (.int .i64 0)))), none⟩, ⟨(some 34), (.mv (.t 33)), none⟩, ⟨(some 35), (.mv (.t 7)), (some (34, true))⟩, ⟨(some 36), (.bin .eql (.t 35) (.c (.v (.int .i64 0)))), (some (34, true))⟩, ⟨(some 37), (.pick (.t 34) (.t 36) (.c (.v (.bool false)))), none⟩, ⟨(some 38), (.mv (.t 37)), none⟩, ⟨(some 39), (.mv (.t 4)), (some (38, true))⟩, ⟨(some 40), (.len (.t 39)), (some (38, true))⟩, ⟨(some 41), (.bin .eql (.t 40) (.c (.v (.int .i64 2)))), (some (38, true))⟩, ⟨(some 42), (.pick (.t 38) (.t 41) (.c (.v (.bool false)))), none⟩, ⟨(some 43), (.mv (.t 42)), none⟩, ⟨(some 44), (.mv (.t 6)), (some (43, true))⟩, ⟨(some 45), (.len (.t 44)), (some (43, true))⟩, ⟨(some 46), (.bin .eql (.t 45) (.c (.v (.int .i64 1)))), (some (43, true))⟩, ⟨(some 47), (.pick (.t 43) (.t 46) (.c (.v (.bool false)))), none⟩, ⟨(some 48), (.mv (.t 47)), none⟩, ⟨(some 49), (.mv (.t 6)), (some (48, true))⟩, ⟨(some 50), (.ixs (.t 49) (.c (.v (.int .i64 0))) 1), (some (48, true))⟩, ⟨(some 51), (.ld (.t 50) none), (some (48, true))⟩, ⟨(some 52), (.bin .eql (.t 51) (.c (.v (.int .i64 1)))), (some (48, true))⟩, ⟨(some 53), (.pick (.t 48) (.t 52) (.c (.v (.bool false)))), none⟩, ⟨(some 54), (.mv (.t 53)), none⟩, ⟨(some 55), (.mv (.t 1)), (some (54, true))⟩, ⟨(some 56), (.call (.c (.f 12 [])) [(.t 55), (.c (.v (.int .i64 0)))]), (some (54, true))⟩, ⟨(some 57), (.len (.t 56)), (some (54, true))⟩, ⟨(some 58), (.bin .eql (.t 57) (.c (.v (.int .i64 1)))), (some (54, true))⟩, ⟨(some 59), (.pick (.t 54) (.t 58) (.c (.v (.bool false)))), none⟩, ⟨(some 60), (.mv (.t 59)), none⟩, ⟨(some 61), (.mv (.t 1)), (some (60, true))⟩, ⟨(some 62), (.call (.c (.f 13 [])) [(.t 61)]), (some (60, true))⟩, ⟨(some 63), (.bin .eql (.t 62) (.c (.v (.int .i64 1)))), (some (60, true))⟩, ⟨(some 64), (.pick (.t 60) (.t 63) (.c (.v (.bool false)))), none⟩, ⟨(some 0), (.mv (.t 64)), none⟩]) .ret))))))), [(.t 0)]⟩

def c5b0 : MC := 
  (.seq (.reg [] [⟨(some 60), (.bin .lss (.t 59) (.t 58)), none⟩]) 
  (.seq (.cond (.t 60) .skip (.exit 0)) 
  (.seq (.block 1 
  (.seq (.reg [] [⟨(some 61), (.ixs (.t 57) (.t 59) 1), none⟩, ⟨(some 62), (.ld (.t 61) none), none⟩, ⟨(some 16), (.mv (.t 62)), none⟩]) 
  (.seq (.reg [] [⟨(some 64), (.mv (.t 0)), none⟩, ⟨(some 65), (.mv (.t 1)), none⟩, ⟨(some 66), (.mv (.t 16)), none⟩, ⟨(some 67), (.call (.c (.f 18 [])) [(.t 64), (.t 65), (.t 66)]), none⟩, ⟨(some 63), (.mv (.t 67)), none⟩, ⟨(some 68), (.ext (.t 63) 0), none⟩, ⟨(some 69), (.ext (.t 63) 1), none⟩, ⟨(some 17), (.box (.c (.agg [(.v (.int .i64 0)), (.v (.int .i64 0)), (.v (.int .i64 0)), (.v (.int .i64 0))]))), none⟩, ⟨none, (.st (.t 17) (.t 68) 4), none⟩, ⟨(some 18), (.mv (.t 69)), none⟩]) 
  (.seq (.reg [] [⟨(some 70), (.fa (.t 5) 1), none⟩, ⟨(some 71), (.ld (.t 70) (some 32)), none⟩, ⟨(some 72), (.ld (.t 17) (some 4)), none⟩, ⟨(some 73), (.call (.c (.f 19 [])) [(.t 71), (.t 72)]), none⟩]) (.cond (.t 73) (.reg [] [⟨(some 74), (.mv (.t 14)), none⟩, ⟨(some 75), (.mv (.t 16)), none⟩, ⟨(some 76), (.bsl [(.v (.int .i64 0))] 1 [(0, (1, (.t 75)))]), none⟩, ⟨(some 77), (.app (.t 74) (.t 76) 1 8), none⟩, ⟨(some 14), (.mv (.t 77)), none⟩]) .skip))))) (.reg [] [⟨(some 78), (.bin .add (.t 59) (.c (.v (.int .i64 1)))), none⟩, ⟨(some 59), (.mv (.t 78)), none⟩]))))

def c5 : MF := ⟨3, 81, 
  (.seq (.reg [] [⟨(some 5), (.box (.t 2)), none⟩, ⟨(some 6), (.mv (.c (.v (.slice none 0 0)))), none⟩, ⟨(some 7), (.mv (.c (.v (.int .i64 0)))), none⟩]) 
  (.seq 
  (.seq (.reg [] [⟨(some 20), (.mv (.t 0)), none⟩, ⟨(some 21), (.mv (.t 1)), none⟩, ⟨(some 22), (.call (.c (.f 14 [])) [(.t 20), (.t 21)]), none⟩, ⟨(some 19), (.mv (.t 22)), none⟩, ⟨(some 23), (.ext (.t 19) 0), none⟩, ⟨(some 24), (.ext (.t 19) 1), none⟩, ⟨(some 25), (.ext (.t 19) 2), none⟩, ⟨(some 8), (.mv (.t 23)), none⟩, ⟨(some 9), (.mv (.t 24)), none⟩, ⟨(some 10), (.mv (.t 25)), none⟩]) 
  (.seq (.reg [] [⟨(some 26), (.mv (.t 10)), none⟩, ⟨(some 27), (.bin .neq (.t 26) (.c (.v (.int .i64 0)))), none⟩]) (.cond (.t 27) 
  (.seq (.reg [] [⟨(some 28), (.mv (.t 10)), none⟩, ⟨(some 6), (.mv (.c (.v (.slice none 0 0)))), none⟩, ⟨(some 7), (.mv (.t 28)), none⟩]) .ret) .skip))) 
  (.seq 
  (.seq (.reg [] [⟨(some 29), (.ld (.t 5) (some 88)), none⟩, ⟨(some 30), (.call (.c (.f 15 [])) [(.t 29)]), none⟩, ⟨(some 11), (.mv (.t 30)), none⟩]) 
  (.seq (.reg [] [⟨(some 31), (.mv (.t 11)), none⟩, ⟨(some 32), (.bin .neq (.t 31) (.c (.v (.int .i64 0)))), none⟩]) (.cond (.t 32) 
  (.seq (.reg [] [⟨(some 33), (.mv (.t 11)), none⟩, ⟨(some 6), (.mv (.c (.v (.slice none 0 0)))), none⟩, ⟨(some 7), (.mv (.t 33)), none⟩]) .ret) .skip))) 
  (.seq 
  (.seq (.reg [] [⟨(some 34), (.fa (.t 5) 0), none⟩, ⟨(some 35), (.ld (.t 34) none), none⟩, ⟨(some 36), (.bin .eql (.t 35) (.c (.v (.int .i64 1)))), none⟩]) (.cond (.t 36) 
  (.seq (.reg [] [⟨(some 37), (.mv (.t 0)), none⟩, ⟨(some 38), (.mv (.t 1)), none⟩, ⟨(some 39), (.fa (.t 5) 84), none⟩, ⟨(some 40), (.ld (.t 39) (some 4)), none⟩, ⟨(some 41), (.call (.c (.f 16 [])) [(.t 37), (.t 38), (.t 40)]), none⟩, ⟨(some 42), (.ext (.t 41) 0), none⟩, ⟨(some 43), (.ext (.t 41) 1), none⟩, ⟨(some 6), (.mv (.t 42)), none⟩, ⟨(some 7), (.mv (.t 43)), none⟩]) .ret) .skip)) 
  (.seq (.reg [] [⟨(some 45), (.mv (.t 0)), none⟩, ⟨(some 46), (.mv (.t 1)), none⟩, ⟨(some 47), (.fa (.t 5) 1), none⟩, ⟨(some 48), (.fa (.t 47) 28), none⟩, ⟨(some 49), (.ld (.t 48) (some 4)), none⟩, ⟨(some 50), (.fa (.t 5) 33), none⟩, ⟨(some 51), (.fa (.t 50) 20), none⟩, ⟨(some 52), (.ld (.t 51) (some 4)), none⟩, ⟨(some 53), (.call (.c (.f 17 [])) [(.t 49), (.t 52)]), none⟩, ⟨(some 54), (.call (.c (.f 16 [])) [(.t 45), (.t 46), (.t 53)]), none⟩, ⟨(some 44), (.mv (.t 54)), none⟩, ⟨(some 55), (.ext (.t 44) 0), none⟩, ⟨(some 56), (.ext (.t 44) 1), none⟩, ⟨(some 12), (.mv (.t 55)), none⟩, ⟨(some 13), (.mv (.t 56)), none⟩]) 
  (.seq (.reg [] [⟨(some 14), (.mv (.c (.v (.slice none 0 0)))), none⟩]) 
  (.seq 
  (.seq (.reg [] [⟨(some 57), (.mv (.t 12)), none⟩, ⟨(some 58), (.len (.t 57)), none⟩, ⟨(some 59), (.mv (.c (.v (.int .i64 0)))), none⟩]) (.block 0 
  (.loopN [78, 77, 76, 75, 74, 73, 72, 71, 70, 69, 68, 63, 67, 66, 65, 64, 62, 61, 60] c5b0))) 
  (.seq (.reg [] [⟨(some 79), (.mv (.t 14)), none⟩, ⟨(some 80), (.mv (.t 13)), none⟩, ⟨(some 6), (.mv (.t 79)), none⟩, ⟨(some 7), (.mv (.t 80)), none⟩]) .ret)))))))), [(.t 6), (.t 7)]⟩

def c6 : MF := ⟨2, 19, 
  (.seq (.reg [] [⟨(some 4), (.mv (.c (.v (.bool false)))), none⟩]) 
  (.seq (.reg [] [⟨(some 5), (.mv (.t 0)), none⟩, ⟨(some 6), (.bin .geq (.t 5) (.c (.v (.int .i64 1)))), none⟩, ⟨(some 7), (.mv (.t 6)), none⟩, ⟨(some 8), (.mv (.t 0)), (some (7, true))⟩, ⟨(some 9), (.bin .leq (.t 8) (.c (.v (.int .i64 256)))), (some (7, true))⟩, ⟨(some 10), (.pick (.t 7) (.t 9) (.c (.v (.bool false)))), none⟩, ⟨(some 11), (.mv (.t 10)), none⟩, ⟨(some 12), (.mv (.t 1)), (some (11, true))⟩, ⟨(some 13), (.bin .geq (.t 12) (.c (.v (.int .i64 1)))), (some (11, true))⟩, ⟨(some 14), (.pick (.t 11) (.t 13) (.c (.v (.bool false)))), none⟩, ⟨(some 15), (.mv (.t 14)), none⟩, ⟨(some 16), (.mv (.t 1)), (some (15, true))⟩, ⟨(some 17), (.bin .leq (.t 16) (.c (.v (.int .i64 256)))), (some (15, true))⟩, ⟨(some 18), (.pick (.t 15) (.t 17) (.c (.v (.bool false)))), none⟩, ⟨(some 4), (.mv (.t 18)), none⟩]) .ret)), [(.t 4)]⟩

def c7b0 : MC := 
  (.seq 
  (.seq (.reg [] [⟨(some 31), (.mv (.t 4)), none⟩, ⟨(some 32), (.bin .lss (.t 31) (.c (.v (.int .i64 3)))), none⟩]) (.cond (.t 32) .skip (.exit 0))) 
  (.seq (.block 1 
  (.seq (.reg [] [⟨(some 35), (.mv (.t 4)), none⟩, ⟨(some 36), (.fa (.t 1) 1), none⟩, ⟨(some 37), (.fa (.t 36) 0), none⟩, ⟨(some 38), (.ixa (.t 37) (.t 35) 3 9), none⟩, ⟨(some 39), (.ld (.t 38) (some 9)), none⟩, ⟨(some 40), (.call (.c (.f 22 [])) [(.t 39)]), none⟩, ⟨(some 41), (.un .not (.t 40)), none⟩]) (.cond (.t 41) 
  (.seq (.reg [] [⟨(some 2), (.mv (.c (.v (.int .i64 6)))), none⟩]) .ret) .skip))) (.reg [] [⟨(some 33), (.mv (.t 4)), none⟩, ⟨(some 34), (.bin .add (.t 33) (.c (.v (.int .i64 1)))), none⟩, ⟨(some 4), (.mv (.t 34)), none⟩])))

def c7 : MF := ⟨1, 57, 
  (.seq (.reg [] [⟨(some 1), (.box (.t 0)), none⟩, ⟨(some 2), (.mv (.c (.v (.int .i64 0)))), none⟩]) 
  (.seq 
  (.seq (.reg [] [⟨(some 7), (.fa (.t 1) 0), none⟩, ⟨(some 8), (.ld (.t 7) none), none⟩, ⟨(some 9), (.bin .eql (.t 8) (.c (.v (.int .i64 1)))), none⟩]) (.cond (.t 9) 
  (.seq 
  (.seq (.reg [] [⟨(some 10), (.fa (.t 1) 77), none⟩, ⟨(some 11), (.ld (.t 10) none), none⟩, ⟨(some 12), (.bin .lss (.t 11) (.c (.v (.int .i64 1)))), none⟩, ⟨(some 13), (.mv (.t 12)), none⟩, ⟨(some 14), (.fa (.t 1) 77), (some (13, false))⟩, ⟨(some 15), (.ld (.t 14) none), (some (13, false))⟩, ⟨(some 16), (.bin .gtr (.t 15) (.c (.v (.int .i64 7)))), (some (13, false))⟩, ⟨(some 17), (.pick (.t 13) (.c (.v (.bool true))) (.t 16)), none⟩]) (.cond (.t 17) 
  (.seq (.reg [] [⟨(some 2), (.mv (.c (.v (.int .i64 9)))), none⟩]) .ret) .skip)) 
  (.seq 
  (.seq (.reg [] [⟨(some 18), (.fa (.t 1) 78), none⟩, ⟨(some 19), (.ld (.t 18) (some 6)), none⟩, ⟨(some 20), (.call (.c (.f 20 [])) [(.t 19)]), none⟩, ⟨(some 21), (.un .not (.t 20)), none⟩]) (.cond (.t 21) 
  (.seq (.reg [] [⟨(some 2), (.mv (.c (.v (.int .i64 3)))), none⟩]) .ret) .skip)) 
  (.seq (.reg [] [⟨(some 2), (.mv (.c (.v (.int .i64 0)))), none⟩]) .ret))) .skip)) 
  (.seq 
  (.seq (.reg [] [⟨(some 22), (.fa (.t 1) 0), none⟩, ⟨(some 23), (.ld (.t 22) none), none⟩, ⟨(some 24), (.bin .neq (.t 23) (.c (.v (.int .i64 0)))), none⟩]) (.cond (.t 24) 
  (.seq (.reg [] [⟨(some 2), (.mv (.c (.v (.int .i64 9)))), none⟩]) .ret) .skip)) 
  (.seq 
  (.seq (.reg [] [⟨(some 25), (.fa (.t 1) 33), none⟩, ⟨(some 26), (.ld (.t 25) (some 41)), none⟩, ⟨(some 27), (.call (.c (.f 21 [])) [(.t 26)]), none⟩, ⟨(some 3), (.mv (.t 27)), none⟩]) 
  (.seq (.reg [] [⟨(some 28), (.mv (.t 3)), none⟩, ⟨(some 29), (.bin .neq (.t 28) (.c (.v (.int .i64 0)))), none⟩]) (.cond (.t 29) 
  (.seq (.reg [] [⟨(some 30), (.mv (.t 3)), none⟩, ⟨(some 2), (.mv (.t 30)), none⟩]) .ret) .skip))) 
  (.seq 
  (.seq (.reg [] [⟨(some 4), (.mv (.c (.v (.int .i64 0)))), none⟩]) (.block 0 
  (.loopN [34, 33, 2, 41, 40, 39, 38, 37, 36, 35, 32, 31] c7b0))) 
  (.seq (.reg [] [⟨(some 43), (.fa (.t 1) 1), none⟩, ⟨(some 44), (.fa (.t 43) 0), none⟩, ⟨(some 45), (.ld (.t 44) (some 27)), none⟩, ⟨(some 46), (.call (.c (.f 23 [])) [(.t 45), (.c (.v (.int .i64 0)))]), none⟩, ⟨(some 42), (.mv (.t 46)), none⟩, ⟨(some 47), (.ext (.t 42) 0), none⟩, ⟨(some 48), (.ext (.t 42) 1), none⟩, ⟨(some 5), (.box (.c (.agg [(.v (.int .i64 0)), (.v (.int .i64 0)), (.v (.int .i64 0)), (.v (.int .i64 0)), (.v (.int .i64 0)), (.v (.int .i64 0)), (.v (.int .i64 0)), (.v (.int .i64 0)), (.v (.int .i64 0)), (.v (.int .i64 0)), (.v (.int .i64 0)), (.v (.int .i64 0)), (.v (.int .i64 0)), (.v (.int .i64 0)), (.v (.int .i64 0)), (.v (.int .i64 0)), (.v (.int .i64 0)), (.v (.int .i64 0)), (.v (.int .i64 0)), (.v (.int .i64 0)), (.v (.int .i64 0)), (.v (.int .i64 0)), (.v (.int .i64 0)), (.v (.int .i64 0)), (.v (.int .i64 0)), (.v (.int .i64 0)), (.v (.int .i64 0)), (.v (.int .i64 0)), (.v (.int .i64 0)), (.v (.int .i64 0)), (.v (.int .i64 0)), (.v (.int .i64 0))]))), none⟩, ⟨none, (.st (.t 5) (.t 47) 32), none⟩, ⟨(some 6), (.mv (.t 48)), none⟩]) 
  (.seq 
  (.seq (.reg [] [⟨(some 49), (.mv (.t 6)), none⟩, ⟨(some 50), (.un .not (.t 49)), none⟩, ⟨(some 51), (.mv (.t 50)), none⟩, ⟨(some 52), (.ld (.t 5) (some 32)), (some (51, false))⟩, ⟨(some 53), (.fa (.t 1) 1), (some (51, false))⟩, ⟨(some 54), (.ld (.t 53) (some 32)), (some (51, false))⟩, ⟨(some 55), (.eqv true true [.i, .i, .i, .i, .i, .i, .i, .i, .i, .i, .i, .i, .i, .i, .i, .i, .i, .i, .i, .i, .i, .i, .i, .i, .i, .i, .i, .i, .i, .i, .i, .i] (.t 52) (.t 54)), (some (51, false))⟩, ⟨(some 56), (.pick (.t 51) (.c (.v (.bool true))) (.t 55)), none⟩]) (.cond (.t 56) 
  (.seq (.reg [] [⟨(some 2), (.mv (.c (.v (.int .i64 6)))), none⟩]) .ret) .skip)) 
  (.seq (.reg [] [⟨(some 2), (.mv (.c (.v (.int .i64 0)))), none⟩]) .ret)))))))), [(.t 2)]⟩

def c8b0 : MC := 
  (.seq 
  (.seq (.reg [] [⟨(some 11), (.mv (.t 5)), none⟩, ⟨(some 12), (.mv (.t 0)), none⟩, ⟨(some 13), (.len (.t 12)), none⟩, ⟨(some 14), (.bin .lss (.t 11) (.t 13)), none⟩]) (.cond (.t 14) .skip (.exit 0))) 
  (.seq (.block 1 
  (.seq (.reg [⟨(some 17), (.mv (.t 0)), none⟩, ⟨(some 18), (.mv (.t 5)), none⟩, ⟨(some 19), (.ixs (.t 17) (.t 18) 1), none⟩, ⟨(some 20), (.ld (.t 19) none), none⟩, ⟨(some 21), (.mv (.t 1)), none⟩, ⟨(some 22), (.mv (.t 5)), none⟩, ⟨(some 23), (.ixs (.t 21) (.t 22) 1), none⟩, ⟨(some 24), (.ld (.t 23) none), none⟩] [⟨(some 25), (.bin .neq (.t 20) (.t 24)), none⟩]) (.cond (.t 25) 
  (.seq (.reg [] [⟨(some 4), (.mv (.c (.v (.bool false)))), none⟩]) .ret) .skip))) (.reg [] [⟨(some 15), (.mv (.t 5)), none⟩, ⟨(some 16), (.bin .add (.t 15) (.c (.v (.int .i64 1)))), none⟩, ⟨(some 5), (.mv (.t 16)), none⟩])))

def c8 : MF := ⟨2, 26, 
  (.seq (.reg [] [⟨(some 4), (.mv (.c (.v (.bool false)))), none⟩]) 
  (.seq 
  (.seq (.reg [] [⟨(some 6), (.mv (.t 0)), none⟩, ⟨(some 7), (.len (.t 6)), none⟩, ⟨(some 8), (.mv (.t 1)), none⟩, ⟨(some 9), (.len (.t 8)), none⟩, ⟨(some 10), (.bin .neq (.t 7) (.t 9)), none⟩]) (.cond (.t 10) 
  (.seq (.reg [] [⟨(some 4), (.mv (.c (.v (.bool false)))), none⟩]) .ret) .skip)) 
  (.seq 
  (.seq (.reg [] [⟨(some 5), (.mv (.c (.v (.int .i64 0)))), none⟩]) (.block 0 
  (.loopN [16, 15, 4, 25, 24, 23, 22, 21, 20, 19, 18, 17, 14, 13, 12, 11] c8b0))) 
  (.seq (.reg [] [⟨(some 4), (.mv (.c (.v (.bool true)))), none⟩]) .ret)))), [(.t 4)]⟩

def c9b0 : MC := 
  (.seq 
  (.seq (.reg [] [⟨(some 9), (.mv (.t 8)), none⟩, ⟨(some 10), (.mv (.t 0)), none⟩, ⟨(some 11), (.mv (.t 1)), none⟩, ⟨(some 12), (.call (.c (.f 24 [])) [(.t 10), (.t 11)]), none⟩, ⟨(some 13), (.bin .lss (.t 9) (.t 12)), none⟩]) (.cond (.t 13) .skip (.exit 0))) 
  (.seq (.block 1 
  (.seq (.alt (.regM [(.p, ⟨(some 16), (.ld (.t 5) (some 88)), none⟩), (.p, ⟨(some 17), (.mv (.t 0)), none⟩), (.p, ⟨(some 18), (.mv (.t 1)), none⟩), (.p, ⟨(some 19), (.mv (.t 8)), none⟩), ((.r [1, 2, 3]), ⟨(some 20), (.call (.c (.f 26 [])) [(.t 17), (.t 18), (.t 19)]), none⟩)] [⟨(some 21), (.call (.c (.f 25 [])) [(.t 16), (.t 20)]), none⟩]) (.reg [⟨(some 16), (.ld (.t 5) (some 88)), none⟩, ⟨(some 17), (.mv (.t 0)), none⟩, ⟨(some 18), (.mv (.t 1)), none⟩, ⟨(some 19), (.mv (.t 8)), none⟩, ⟨(some 20), (.call (.c (.f 26 [])) [(.t 17), (.t 18), (.t 19)]), none⟩] [⟨(some 21), (.call (.c (.f 25 [])) [(.t 16), (.t 20)]), none⟩])) (.cond (.t 21) (.reg [] [⟨(some 22), (.mv (.t 7)), none⟩, ⟨(some 23), (.mv (.t 8)), none⟩, ⟨(some 24), (.bsl [(.v (.int .i64 0))] 1 [(0, (1, (.t 23)))]), none⟩, ⟨(some 25), (.app (.t 22) (.t 24) 1 8), none⟩, ⟨(some 7), (.mv (.t 25)), none⟩]) .skip))) (.reg [] [⟨(some 14), (.mv (.t 8)), none⟩, ⟨(some 15), (.bin .add (.t 14) (.c (.v (.int .i64 1)))), none⟩, ⟨(some 8), (.mv (.t 15)), none⟩])))

def c9 : MF := ⟨3, 27, 
  (.seq (.reg [] [⟨(some 5), (.box (.t 2)), none⟩, ⟨(some 6), (.mv (.c (.v (.slice none 0 0)))), none⟩]) 
  (.seq (.reg [] [⟨(some 7), (.mv (.c (.v (.slice none 0 0)))), none⟩]) 
  (.seq 
  (.seq (.reg [] [⟨(some 8), (.mv (.c (.v (.int .i64 0)))), none⟩]) (.block 0 
  (.loopN [15, 14, 25, 24, 23, 22, 21, 20, 19, 18, 17, 16, 13, 12, 11, 10, 9] c9b0))) 
  (.seq (.reg [] [⟨(some 26), (.mv (.t 7)), none⟩, ⟨(some 6), (.mv (.t 26)), none⟩]) .ret)))), [(.t 6)]⟩

def c10 : MF := ⟨3, 38, 
  (.seq (.reg [] [⟨(some 6), (.mv (.c (.v (.pointer none)))), none⟩, ⟨(some 7), (.mv (.c (.v (.int .i64 0)))), none⟩]) 
  (.seq (.reg [] [⟨(some 12), (.mv (.t 0)), none⟩, ⟨(some 13), (.mv (.t 1)), none⟩, ⟨(some 14), (.call (.c (.f 14 [])) [(.t 12), (.t 13)]), none⟩, ⟨(some 11), (.mv (.t 14)), none⟩, ⟨(some 15), (.ext (.t 11) 0), none⟩, ⟨(some 16), (.ext (.t 11) 1), none⟩, ⟨(some 17), (.ext (.t 11) 2), none⟩, ⟨(some 8), (.mv (.t 15)), none⟩, ⟨(some 9), (.mv (.t 16)), none⟩, ⟨(some 10), (.mv (.t 17)), none⟩]) 
  (.seq (.block 0 
  (.seq (.reg [] [⟨(some 19), (.mv (.t 10)), none⟩, ⟨(some 20), (.bin .neq (.t 19) (.c (.v (.int .i64 0)))), none⟩, ⟨(some 18), (.mv (.t 20)), none⟩]) (.cond (.t 18) 
  (.seq (.reg [] [⟨(some 21), (.mv (.t 10)), none⟩, ⟨(some 6), (.mv (.c (.v (.pointer none)))), none⟩, ⟨(some 7), (.mv (.t 21)), none⟩]) .ret) 
  (.seq (.reg [] [⟨(some 23), (.mv (.t 2)), none⟩, ⟨(some 24), (.bin .lss (.t 23) (.c (.v (.int .i64 1)))), none⟩, ⟨(some 25), (.mv (.t 24)), none⟩, ⟨(some 26), (.mv (.t 2)), (some (25, false))⟩, ⟨(some 27), (.bin .gtr (.t 26) (.c (.v (.int .i64 65536)))), (some (25, false))⟩, ⟨(some 28), (.pick (.t 25) (.c (.v (.bool true))) (.t 27)), none⟩, ⟨(some 22), (.mv (.t 28)), none⟩]) (.cond (.t 22) 
  (.seq (.reg [] [⟨(some 6), (.mv (.c (.v (.pointer none)))), none⟩, ⟨(some 7), (.mv (.c (.v (.int .i64 2)))), none⟩]) .ret) .skip))))) 
  (.seq (.reg [] [⟨(some 29), (.mv (.t 0)), none⟩, ⟨(some 30), (.mv (.t 1)), none⟩, ⟨(some 31), (.mv (.t 2)), none⟩, ⟨(some 32), (.mv (.t 8)), none⟩, ⟨(some 33), (.mv (.t 9)), none⟩, ⟨(some 34), (.bin .mul (.t 32) (.t 33)), none⟩, ⟨(some 35), (.mks (.t 34) (.t 34) [(.v (.slice none 0 0))] 1 24), none⟩, ⟨(some 36), (.bld [(.v (.int .i64 0)), (.v (.int .i64 0)), (.v (.int .i64 0)), (.v (.int .i64 0)), (.v (.slice none 0 0))] [(0, (1, (.t 29))), (1, (1, (.t 30))), (2, (1, (.t 31))), (4, (1, (.t 35)))]), none⟩, ⟨(some 37), (.box (.t 36)), none⟩, ⟨(some 6), (.mv (.t 37)), none⟩, ⟨(some 7), (.mv (.c (.v (.int .i64 0)))), none⟩]) .ret)))), [(.t 6), (.t 7)]⟩

def c11b0 : MC := 
  (.seq (.reg [] [⟨(some 29), (.bin .lss (.t 28) (.t 27)), none⟩]) 
  (.seq (.cond (.t 29) .skip (.exit 0)) 
  (.seq (.block 1 
  (.seq (.reg [] [⟨(some 30), (.mv (.t 28)), none⟩, ⟨(some 31), (.ixs (.t 26) (.t 28) 1), none⟩, ⟨(some 32), (.ld (.t 31) none), none⟩, ⟨(some 9), (.mv (.t 30)), none⟩, ⟨(some 10), (.mv (.t 32)), none⟩]) 
  (.seq 
  (.seq (.reg [⟨(some 33), (.mv (.t 0)), none⟩, ⟨(some 34), (.nilc (.t 33)), none⟩, ⟨(some 35), (.fa (.t 34) 3), none⟩, ⟨(some 36), (.ld (.t 35) none), none⟩, ⟨(some 37), (.mv (.t 0)), none⟩, ⟨(some 38), (.nilc (.t 37)), none⟩, ⟨(some 39), (.fa (.t 38) 2), none⟩, ⟨(some 40), (.ld (.t 39) none), none⟩] [⟨(some 41), (.bin .eql (.t 36) (.t 40)), none⟩]) (.cond (.t 41) 
  (.seq (.reg [] [⟨(some 42), (.mv (.t 2)), none⟩, ⟨(some 43), (.mv (.t 9)), none⟩, ⟨(some 44), (.slc (.t 42) (some (.t 43)) none none 1), none⟩, ⟨(some 45), (.call (.c (.f 28 [])) [(.t 44)]), none⟩, ⟨(some 6), (.mv (.t 45)), none⟩, ⟨(some 7), (.mv (.c (.v (.int .i64 0)))), none⟩]) .ret) .skip)) 
  (.seq (.alt (.regM [(.p, ⟨(some 46), (.mv (.t 0)), none⟩), (.p, ⟨(some 47), (.nilc (.t 46)), none⟩), (.p, ⟨(some 48), (.fa (.t 47) 4), none⟩), (.p, ⟨(some 49), (.ld (.t 48) none), none⟩), (.p, ⟨(some 50), (.mv (.t 10)), none⟩), (.p, ⟨(some 51), (.mv (.t 0)), none⟩), (.p, ⟨(some 52), (.nilc (.t 51)), none⟩), (.p, ⟨(some 53), (.fa (.t 52) 4), none⟩), (.p, ⟨(some 54), (.ld (.t 53) none), none⟩), (.p, ⟨(some 55), (.mv (.t 10)), none⟩), (.p, ⟨(some 56), (.ixs (.t 54) (.t 55) 1), none⟩), (.p, ⟨(some 57), (.ld (.t 56) none), none⟩), (.p, ⟨(some 58), (.ld (.t 4) (some 88)), none⟩), ((.r [12]), ⟨(some 59), (.call (.c (.f 29 [])) [(.t 58)]), none⟩), (.p, ⟨(some 60), (.bsl [(.v (.int .i64 0)), (.v (.int .i64 0)), (.v (.int .i64 0)), (.v (.int .i64 0)), (.v (.int .i64 0)), (.v (.int .i64 0)), (.v (.int .i64 0)), (.v (.int .i64 0)), (.v (.int .i64 0)), (.v (.int .i64 0)), (.v (.int .i64 0)), (.v (.int .i64 0)), (.v (.int .i64 0)), (.v (.int .i64 0)), (.v (.int .i64 0)), (.v (.int .i64 0)), (.v (.int .i64 0)), (.v (.int .i64 0)), (.v (.int .i64 0)), (.v (.int .i64 0)), (.v (.int .i64 0)), (.v (.int .i64 0)), (.v (.int .i64 0)), (.v (.int .i64 0)), (.v (.int .i64 0)), (.v (.int .i64 0)), (.v (.int .i64 0)), (.v (.int .i64 0)), (.v (.int .i64 0)), (.v (.int .i64 0)), (.v (.int .i64 0)), (.v (.int .i64 0)), (.v (.int .i64 0)), (.v (.int .i64 0)), (.v (.int .i64 0)), (.v (.int .i64 0)), (.v (.int .i64 0)), (.v (.int .i64 0)), (.v (.int .i64 0)), (.v (.int .i64 0)), (.v (.int .i64 0)), (.v (.int .i64 0)), (.v (.int .i64 0)), (.v (.int .i64 0)), (.v (.int .i64 0)), (.v (.int .i64 0)), (.v (.int .i64 0)), (.v (.int .i64 0)), (.v (.int .i64 0)), (.v (.int .i64 0)), (.v (.int .i64 0)), (.v (.int .i64 0)), (.v (.int .i64 0)), (.v (.int .i64 0)), (.v (.int .i64 0)), (.v (.int .i64 0)), (.v (.int .i64 0)), (.v (.int .i64 0)), (.v (.bool false)), (.v (.int .i64 0)), (.v (.int .i64 0)), (.v (.int .i64 0)), (.v (.int .i64 0)), (.v (.int .i64 0)), (.v (.int .i64 0)), (.v (.int .i64 0)), (.v (.int .i64 0)), (.v (.int .i64 0)), (.v (.int .i64 0)), (.v (.int .i64 0)), (.v (.int .i64 0)), (.v (.int .i64 0)), (.v (.int .i64 0)), (.v (.bool false)), (.v (.int .i64 0)), (.v (.int .i64 0)), (.v (.slice none 0 0)), (.v (.int .i64 0)), (.v (.int .i64 0)), (.v (.int .i64 0)), (.v (.int .i64 0)), (.v (.int .i64 0)), (.v (.int .i64 0)), (.v (.int .i64 0)), (.v (.int .i64 0)), (.v (.int .i64 0)), (.v (.int .i64 0)), (.v (.int .i64 0))] 1 [(0, (88, (.t 59)))]), none⟩), ((.r [5, 6, 7, 8, 9, 10, 11, 12, 13, 14]), ⟨(some 61), (.app (.t 57) (.t 60) 88 720), none⟩)] [⟨(some 62), (.ixs (.t 49) (.t 50) 1), none⟩, ⟨none, (.st (.t 62) (.t 61) 1), none⟩]) (.regM [(.p, ⟨(some 46), (.mv (.t 0)), none⟩), (.p, ⟨(some 47), (.nilc (.t 46)), none⟩), (.p, ⟨(some 48), (.fa (.t 47) 4), none⟩), (.p, ⟨(some 49), (.ld (.t 48) none), none⟩), (.p, ⟨(some 50), (.mv (.t 10)), none⟩), (.p, ⟨(some 51), (.mv (.t 0)), none⟩), (.p, ⟨(some 52), (.nilc (.t 51)), none⟩), (.p, ⟨(some 53), (.fa (.t 52) 4), none⟩), (.p, ⟨(some 54), (.ld (.t 53) none), none⟩), (.p, ⟨(some 55), (.mv (.t 10)), none⟩), (.p, ⟨(some 56), (.ixs (.t 54) (.t 55) 1), none⟩), (.p, ⟨(some 57), (.ld (.t 56) none), none⟩), (.p, ⟨(some 58), (.ld (.t 4) (some 88)), none⟩), (.p, ⟨(some 59), (.call (.c (.f 29 [])) [(.t 58)]), none⟩), (.p, ⟨(some 60), (.bsl [(.v (.int .i64 0)), (.v (.int .i64 0)), (.v (.int .i64 0)), (.v (.int .i64 0)), (.v (.int .i64 0)), (.v (.int .i64 0)), (.v (.int .i64 0)), (.v (.int .i64 0)), (.v (.int .i64 0)), (.v (.int .i64 0)), (.v (.int .i64 0)), (.v (.int .i64 0)), (.v (.int .i64 0)), (.v (.int .i64 0)), (.v (.int .i64 0)), (.v (.int .i64 0)), (.v (.int .i64 0)), (.v (.int .i64 0)), (.v (.int .i64 0)), (.v (.int .i64 0)), (.v (.int .i64 0)), (.v (.int .i64 0)), (.v (.int .i64 0)), (.v (.int .i64 0)), (.v (.int .i64 0)), (.v (.int .i64 0)), (.v (.int .i64 0)), (.v (.int .i64 0)), (.v (.int .i64 0)), (.v (.int .i64 0)), (.v (.int .i64 0)), (.v (.int .i64 0)), (.v (.int .i64 0)), (.v (.int .i64 0)), (.v (.int .i64 0)), (.v (.int .i64 0)), (.v (.int .i64 0)), (.v (.int .i64 0)), (.v (.int .i64 0)), (.v (.int .i64 0)), (.v (.int .i64 0)), (.v (.int .i64 0)), (.v (.int .i64 0)), (.v (.int .i64 0)), (.v (.int .i64 0)), (.v (.int .i64 0)), (.v (.int .i64 0)), (.v (.int .i64 0)), (.v (.int .i64 0)), (.v (.int .i64 0)), (.v (.int .i64 0)), (.v (.int .i64 0)), (.v (.int .i64 0)), (.v (.int .i64 0)), (.v (.int .i64 0)), (.v (.int .i64 0)), (.v (.int .i64 0)), (.v (.int .i64 0)), (.v (.bool false)), (.v (.int .i64 0)), (.v (.int .i64 0)), (.v (.int .i64 0)), (.v (.int .i64 0)), (.v (.int .i64 0)), (.v (.int .i64 0)), (.v (.int .i64 0)), (.v (.int .i64 0)), (.v (.int .i64 0)), (.v (.int .i64 0)), (.v (.int .i64 0)), (.v (.int .i64 0)), (.v (.int .i64 0)), (.v (.int .i64 0)), (.v (.bool false)), (.v (.int .i64 0)), (.v (.int .i64 0)), (.v (.slice none 0 0)), (.v (.int .i64 0)), (.v (.int .i64 0)), (.v (.int .i64 0)), (.v (.int .i64 0)), (.v (.int .i64 0)), (.v (.int .i64 0)), (.v (.int .i64 0)), (.v (.int .i64 0)), (.v (.int .i64 0)), (.v (.int .i64 0)), (.v (.int .i64 0))] 1 [(0, (88, (.t 59)))]), none⟩), ((.r [5, 6, 7, 8, 9, 10, 11, 12, 13, 14]), ⟨(some 61), (.app (.t 57) (.t 60) 88 720), none⟩)] [⟨(some 62), (.ixs (.t 49) (.t 50) 1), none⟩, ⟨none, (.st (.t 62) (.t 61) 1), none⟩])) (.reg [] [⟨(some 63), (.mv (.t 0)), none⟩, ⟨(some 64), (.nilc (.t 63)), none⟩, ⟨(some 65), (.fa (.t 64) 3), none⟩, ⟨(some 66), (.ld (.t 65) none), none⟩, ⟨(some 67), (.bin .add (.t 66) (.c (.v (.int .i64 1)))), none⟩, ⟨(some 68), (.nilc (.t 63)), none⟩, ⟨(some 69), (.fa (.t 68) 3), none⟩, ⟨none, (.st (.t 69) (.t 67) 1), none⟩]))))) (.reg [] [⟨(some 70), (.bin .add (.t 28) (.c (.v (.int .i64 1)))), none⟩, ⟨(some 28), (.mv (.t 70)), none⟩]))))

def c11 : MF := ⟨3, 71, 
  (.seq (.reg [] [⟨(some 4), (.box (.t 1)), none⟩, ⟨(some 6), (.mv (.c (.v (.slice none 0 0)))), none⟩, ⟨(some 7), (.mv (.c (.v (.int .i64 0)))), none⟩]) 
  (.seq 
  (.seq (.reg [] [⟨(some 11), (.mv (.t 0)), none⟩, ⟨(some 12), (.eqn false 3 (.t 11)), none⟩]) (.cond (.t 12) 
  (.seq (.reg [] [⟨(some 6), (.mv (.c (.v (.slice none 0 0)))), none⟩, ⟨(some 7), (.mv (.c (.v (.int .i64 1)))), none⟩]) .ret) .skip)) 
  (.seq 
  (.seq (.reg [] [⟨(some 13), (.ld (.t 4) (some 88)), none⟩, ⟨(some 14), (.call (.c (.f 15 [])) [(.t 13)]), none⟩, ⟨(some 8), (.mv (.t 14)), none⟩]) 
  (.seq (.reg [] [⟨(some 15), (.mv (.t 8)), none⟩, ⟨(some 16), (.bin .neq (.t 15) (.c (.v (.int .i64 0)))), none⟩]) (.cond (.t 16) 
  (.seq (.reg [] [⟨(some 17), (.mv (.t 8)), none⟩, ⟨(some 6), (.mv (.c (.v (.slice none 0 0)))), none⟩, ⟨(some 7), (.mv (.t 17)), none⟩]) .ret) .skip))) 
  (.seq 
  (.seq (.reg [] [⟨(some 18), (.mv (.t 2)), none⟩, ⟨(some 19), (.mv (.t 0)), none⟩, ⟨(some 20), (.nilc (.t 19)), none⟩, ⟨(some 21), (.fa (.t 20) 4), none⟩, ⟨(some 22), (.ld (.t 21) none), none⟩, ⟨(some 23), (.len (.t 22)), none⟩, ⟨(some 24), (.call (.c (.f 27 [])) [(.t 18), (.t 23)]), none⟩, ⟨(some 25), (.un .not (.t 24)), none⟩]) (.cond (.t 25) 
  (.seq (.reg [] [⟨(some 6), (.mv (.c (.v (.slice none 0 0)))), none⟩, ⟨(some 7), (.mv (.c (.v (.int .i64 2)))), none⟩]) .ret) .skip)) 
  (.seq 
  (.seq (.reg [] [⟨(some 26), (.mv (.t 2)), none⟩, ⟨(some 27), (.len (.t 26)), none⟩, ⟨(some 28), (.mv (.c (.v (.int .i64 0)))), none⟩]) (.block 0 
  (.loopN [70, 69, 68, 67, 66, 65, 64, 63, 62, 61, 60, 59, 58, 57, 56, 55, 54, 53, 52, 51, 50, 49, 48, 47, 46, 7, 6, 45, 44, 43, 42, 41, 40, 39, 38, 37, 36, 35, 34, 33, 32, 31, 30, 29] c11b0))) 
  (.seq (.reg [] [⟨(some 6), (.mv (.c (.v (.slice none 0 0)))), none⟩, ⟨(some 7), (.mv (.c (.v (.int .i64 0)))), none⟩]) .ret)))))), [(.t 6), (.t 7)]⟩

def c12b0 : MC := 
  (.seq (.reg [] [⟨(some 32), (.bin .lss (.t 31) (.t 30)), none⟩]) 
  (.seq (.cond (.t 32) .skip (.exit 0)) 
  (.seq (.block 1 
  (.seq (.reg [] [⟨(some 33), (.ixs (.t 29) (.t 31) 88), none⟩, ⟨(some 34), (.ld (.t 33) (some 88)), none⟩, ⟨(some 7), (.box (.c (.agg [(.v (.int .i64 0)), (.v (.int .i64 0)), (.v (.int .i64 0)), (.v (.int .i64 0)), (.v (.int .i64 0)), (.v (.int .i64 0)), (.v (.int .i64 0)), (.v (.int .i64 0)), (.v (.int .i64 0)), (.v (.int .i64 0)), (.v (.int .i64 0)), (.v (.int .i64 0)), (.v (.int .i64 0)), (.v (.int .i64 0)), (.v (.int .i64 0)), (.v (.int .i64 0)), (.v (.int .i64 0)), (.v (.int .i64 0)), (.v (.int .i64 0)), (.v (.int .i64 0)), (.v (.int .i64 0)), (.v (.int .i64 0)), (.v (.int .i64 0)), (.v (.int .i64 0)), (.v (.int .i64 0)), (.v (.int .i64 0)), (.v (.int .i64 0)), (.v (.int .i64 0)), (.v (.int .i64 0)), (.v (.int .i64 0)), (.v (.int .i64 0)), (.v (.int .i64 0)), (.v (.int .i64 0)), (.v (.int .i64 0)), (.v (.int .i64 0)), (.v (.int .i64 0)), (.v (.int .i64 0)), (.v (.int .i64 0)), (.v (.int .i64 0)), (.v (.int .i64 0)), (.v (.int .i64 0)), (.v (.int .i64 0)), (.v (.int .i64 0)), (.v (.int .i64 0)), (.v (.int .i64 0)), (.v (.int .i64 0)), (.v (.int .i64 0)), (.v (.int .i64 0)), (.v (.int .i64 0)), (.v (.int .i64 0)), (.v (.int .i64 0)), (.v (.int .i64 0)), (.v (.int .i64 0)), (.v (.int .i64 0)), (.v (.int .i64 0)), (.v (.int .i64 0)), (.v (.int .i64 0)), (.v (.int .i64 0)), (.v (.bool false)), (.v (.int .i64 0)), (.v (.int .i64 0)), (.v (.int .i64 0)), (.v (.int .i64 0)), (.v (.int .i64 0)), (.v (.int .i64 0)), (.v (.int .i64 0)), (.v (.int .i64 0)), (.v (.int .i64 0)), (.v (.int .i64 0)), (.v (.int .i64 0)), (.v (.int .i64 0)), (.v (.int .i64 0)), (.v (.int .i64 0)), (.v (.bool false)), (.v (.int .i64 0)), (.v (.int .i64 0)), (.v (.slice none 0 0)), (.v (.int .i64 0)), (.v (.int .i64 0)), (.v (.int .i64 0)), (.v (.int .i64 0)), (.v (.int .i64 0)), (.v (.int .i64 0)), (.v (.int .i64 0)), (.v (.int .i64 0)), (.v (.int .i64 0)), (.v (.int .i64 0)), (.v (.int .i64 0))]))), none⟩, ⟨none, (.st (.t 7) (.t 34) 88), none⟩]) (.reg [] [⟨(some 35), (.mv (.t 5)), none⟩, ⟨(some 36), (.ld (.t 7) (some 88)), none⟩, ⟨(some 37), (.call (.c (.f 29 [])) [(.t 36)]), none⟩, ⟨(some 38), (.bsl [(.v (.int .i64 0)), (.v (.int .i64 0)), (.v (.int .i64 0)), (.v (.int .i64 0)), (.v (.int .i64 0)), (.v (.int .i64 0)), (.v (.int .i64 0)), (.v (.int .i64 0)), (.v (.int .i64 0)), (.v (.int .i64 0)), (.v (.int .i64 0)), (.v (.int .i64 0)), (.v (.int .i64 0)), (.v (.int .i64 0)), (.v (.int .i64 0)), (.v (.int .i64 0)), (.v (.int .i64 0)), (.v (.int .i64 0)), (.v (.int .i64 0)), (.v (.int .i64 0)), (.v (.int .i64 0)), (.v (.int .i64 0)), (.v (.int .i64 0)), (.v (.int .i64 0)), (.v (.int .i64 0)), (.v (.int .i64 0)), (.v (.int .i64 0)), (.v (.int .i64 0)), (.v (.int .i64 0)), (.v (.int .i64 0)), (.v (.int .i64 0)), (.v (.int .i64 0)), (.v (.int .i64 0)), (.v (.int .i64 0)), (.v (.int .i64 0)), (.v (.int .i64 0)), (.v (.int .i64 0)), (.v (.int .i64 0)), (.v (.int .i64 0)), (.v (.int .i64 0)), (.v (.int .i64 0)), (.v (.int .i64 0)), (.v (.int .i64 0)), (.v (.int .i64 0)), (.v (.int .i64 0)), (.v (.int .i64 0)), (.v (.int .i64 0)), (.v (.int .i64 0)), (.v (.int .i64 0)), (.v (.int .i64 0)), (.v (.int .i64 0)), (.v (.int .i64 0)), (.v (.int .i64 0)), (.v (.int .i64 0)), (.v (.int .i64 0)), (.v (.int .i64 0)), (.v (.int .i64 0)), (.v (.int .i64 0)), (.v (.bool false)), (.v (.int .i64 0)), (.v (.int .i64 0)), (.v (.int .i64 0)), (.v (.int .i64 0)), (.v (.int .i64 0)), (.v (.int .i64 0)), (.v (.int .i64 0)), (.v (.int .i64 0)), (.v (.int .i64 0)), (.v (.int .i64 0)), (.v (.int .i64 0)), (.v (.int .i64 0)), (.v (.int .i64 0)), (.v (.int .i64 0)), (.v (.bool false)), (.v (.int .i64 0)), (.v (.int .i64 0)), (.v (.slice none 0 0)), (.v (.int .i64 0)), (.v (.int .i64 0)), (.v (.int .i64 0)), (.v (.int .i64 0)), (.v (.int .i64 0)), (.v (.int .i64 0)), (.v (.int .i64 0)), (.v (.int .i64 0)), (.v (.int .i64 0)), (.v (.int .i64 0)), (.v (.int .i64 0))] 1 [(0, (88, (.t 37)))]), none⟩, ⟨(some 39), (.app (.t 35) (.t 38) 88 720), none⟩, ⟨(some 5), (.mv (.t 39)), none⟩]))) (.reg [] [⟨(some 40), (.bin .add (.t 31) (.c (.v (.int .i64 1)))), none⟩, ⟨(some 31), (.mv (.t 40)), none⟩]))))

def c12 : MF := ⟨2, 42, 
  (.seq (.reg [] [⟨(some 4), (.mv (.c (.v (.slice none 0 0)))), none⟩]) 
  (.seq 
  (.seq (.reg [] [⟨(some 8), (.mv (.t 0)), none⟩, ⟨(some 9), (.eqn false 3 (.t 8)), none⟩, ⟨(some 10), (.mv (.t 9)), none⟩, ⟨(some 11), (.mv (.t 1)), (some (10, false))⟩, ⟨(some 12), (.bin .lss (.t 11) (.c (.v (.int .i64 0)))), (some (10, false))⟩, ⟨(some 13), (.pick (.t 10) (.c (.v (.bool true))) (.t 12)), none⟩, ⟨(some 14), (.mv (.t 13)), none⟩, ⟨(some 15), (.mv (.t 1)), (some (14, false))⟩, ⟨(some 16), (.mv (.t 0)), (some (14, false))⟩, ⟨(some 17), (.nilc (.t 16)), (some (14, false))⟩, ⟨(some 18), (.fa (.t 17) 4), (some (14, false))⟩, ⟨(some 19), (.ld (.t 18) none), (some (14, false))⟩, ⟨(some 20), (.len (.t 19)), (some (14, false))⟩, ⟨(some 21), (.bin .geq (.t 15) (.t 20)), (some (14, false))⟩, ⟨(some 22), (.pick (.t 14) (.c (.v (.bool true))) (.t 21)), none⟩]) (.cond (.t 22) 
  (.seq (.reg [] [⟨(some 4), (.mv (.c (.v (.slice none 0 0)))), none⟩]) .ret) .skip)) 
  (.seq (.reg [] [⟨(some 5), (.mv (.c (.v (.slice none 0 0)))), none⟩]) 
  (.seq 
  (.seq (.reg [] [⟨(some 23), (.mv (.t 0)), none⟩, ⟨(some 24), (.nilc (.t 23)), none⟩, ⟨(some 25), (.fa (.t 24) 4), none⟩, ⟨(some 26), (.ld (.t 25) none), none⟩, ⟨(some 27), (.mv (.t 1)), none⟩, ⟨(some 28), (.ixs (.t 26) (.t 27) 1), none⟩, ⟨(some 29), (.ld (.t 28) none), none⟩, ⟨(some 30), (.len (.t 29)), none⟩, ⟨(some 31), (.mv (.c (.v (.int .i64 0)))), none⟩]) (.block 0 
  (.loopN [40, 39, 38, 37, 36, 35, 34, 33, 32] c12b0))) 
  (.seq (.reg [] [⟨(some 41), (.mv (.t 5)), none⟩, ⟨(some 4), (.mv (.t 41)), none⟩]) .ret))))), [(.t 4)]⟩

def c13 : MF := ⟨1, 9, 
  (.seq (.reg [] [⟨(some 2), (.mv (.c (.v (.int .i64 0)))), none⟩]) 
  (.seq 
  (.seq (.reg [] [⟨(some 3), (.mv (.t 0)), none⟩, ⟨(some 4), (.eqn false 3 (.t 3)), none⟩]) (.cond (.t 4) 
  (.seq (.reg [] [⟨(some 2), (.mv (.c (.v (.int .i64 0)))), none⟩]) .ret) .skip)) 
  (.seq (.reg [] [⟨(some 5), (.mv (.t 0)), none⟩, ⟨(some 6), (.nilc (.t 5)), none⟩, ⟨(some 7), (.fa (.t 6) 3), none⟩, ⟨(some 8), (.ld (.t 7) none), none⟩, ⟨(some 2), (.mv (.t 8)), none⟩]) .ret))), [(.t 2)]⟩

def c14 : MF := ⟨2, 26, 
  (.seq (.reg [] [⟨(some 4), (.mv (.c (.v (.int .i64 0)))), none⟩, ⟨(some 5), (.mv (.c (.v (.int .i64 0)))), none⟩, ⟨(some 6), (.mv (.c (.v (.int .i64 0)))), none⟩]) 
  (.seq 
  (.seq (.reg [] [⟨(some 10), (.mv (.t 0)), none⟩, ⟨(some 11), (.mv (.t 1)), none⟩, ⟨(some 12), (.call (.c (.f 30 [])) [(.t 10), (.t 11)]), none⟩, ⟨(some 9), (.mv (.t 12)), none⟩, ⟨(some 13), (.ext (.t 9) 0), none⟩, ⟨(some 14), (.ext (.t 9) 1), none⟩, ⟨(some 7), (.box (.c (.agg [(.v (.int .i64 0)), (.v (.int .i64 0)), (.v (.int .i64 0)), (.v (.int .i64 0))]))), none⟩, ⟨none, (.st (.t 7) (.t 13) 4), none⟩, ⟨(some 8), (.mv (.t 14)), none⟩]) 
  (.seq (.reg [] [⟨(some 15), (.mv (.t 8)), none⟩, ⟨(some 16), (.bin .neq (.t 15) (.c (.v (.int .i64 0)))), none⟩]) (.cond (.t 16) 
  (.seq (.reg [] [⟨(some 17), (.mv (.t 8)), none⟩, ⟨(some 4), (.mv (.c (.v (.int .i64 0)))), none⟩, ⟨(some 5), (.mv (.c (.v (.int .i64 0)))), none⟩, ⟨(some 6), (.mv (.t 17)), none⟩]) .ret) .skip))) 
  (.seq (.reg [] [⟨(some 18), (.mv (.t 0)), none⟩, ⟨(some 19), (.bin .add (.t 18) (.c (.v (.int .i64 16)))), none⟩, ⟨(some 20), (.bin .sub (.t 19) (.c (.v (.int .i64 1)))), none⟩, ⟨(some 21), (.bin .quo (.t 20) (.c (.v (.int .i64 16)))), none⟩, ⟨(some 22), (.mv (.t 1)), none⟩, ⟨(some 23), (.bin .add (.t 22) (.c (.v (.int .i64 16)))), none⟩, ⟨(some 24), (.bin .sub (.t 23) (.c (.v (.int .i64 1)))), none⟩, ⟨(some 25), (.bin .quo (.t 24) (.c (.v (.int .i64 16)))), none⟩, ⟨(some 4), (.mv (.t 21)), none⟩, ⟨(some 5), (.mv (.t 25)), none⟩, ⟨(some 6), (.mv (.c (.v (.int .i64 0)))), none⟩]) .ret))), [(.t 4), (.t 5), (.t 6)]⟩

def c15 : MF := ⟨1, 51, 
  (.seq (.reg [] [⟨(some 1), (.box (.t 0)), none⟩, ⟨(some 2), (.mv (.c (.v (.int .i64 0)))), none⟩]) 
  (.seq 
  (.seq (.reg [] [⟨(some 7), (.fa (.t 1) 0), none⟩, ⟨(some 8), (.ld (.t 7) none), none⟩]) (.block 0 
  (.seq (.reg [] [⟨(some 10), (.bin .eql (.t 8) (.c (.v (.int .i64 0)))), none⟩, ⟨(some 9), (.mv (.t 10)), none⟩]) (.cond (.t 9) 
  (.seq 
  (.seq (.reg [] [⟨(some 11), (.fa (.t 1) 33), none⟩, ⟨(some 12), (.ld (.t 11) (some 41)), none⟩, ⟨(some 13), (.call (.c (.f 31 [])) [(.t 12)]), none⟩, ⟨(some 3), (.mv (.t 13)), none⟩]) 
  (.seq (.reg [] [⟨(some 14), (.mv (.t 3)), none⟩, ⟨(some 15), (.bin .neq (.t 14) (.c (.v (.int .i64 0)))), none⟩]) (.cond (.t 15) 
  (.seq (.reg [] [⟨(some 16), (.mv (.t 3)), none⟩, ⟨(some 2), (.mv (.t 16)), none⟩]) .ret) .skip))) 
  (.seq 
  (.seq (.reg [] [⟨(some 18), (.fa (.t 1) 1), none⟩, ⟨(some 19), (.fa (.t 18) 0), none⟩, ⟨(some 20), (.ld (.t 19) (some 27)), none⟩, ⟨(some 21), (.call (.c (.f 32 [])) [(.t 20), (.c (.v (.int .i64 0)))]), none⟩, ⟨(some 17), (.mv (.t 21)), none⟩, ⟨(some 22), (.ext (.t 17) 0), none⟩, ⟨(some 23), (.ext (.t 17) 1), none⟩, ⟨(some 24), (.ext (.t 17) 2), none⟩, ⟨(some 4), (.box (.c (.agg [(.v (.int .i64 0)), (.v (.int .i64 0)), (.v (.int .i64 0)), (.v (.int .i64 0)), (.v (.int .i64 0)), (.v (.int .i64 0)), (.v (.int .i64 0)), (.v (.int .i64 0)), (.v (.int .i64 0)), (.v (.int .i64 0)), (.v (.int .i64 0)), (.v (.int .i64 0)), (.v (.int .i64 0)), (.v (.int .i64 0)), (.v (.int .i64 0)), (.v (.int .i64 0)), (.v (.int .i64 0)), (.v (.int .i64 0)), (.v (.int .i64 0)), (.v (.int .i64 0)), (.v (.int .i64 0)), (.v (.int .i64 0)), (.v (.int .i64 0)), (.v (.int .i64 0)), (.v (.int .i64 0)), (.v (.int .i64 0)), (.v (.int .i64 0)), (.v (.int .i64 0)), (.v (.int .i64 0)), (.v (.int .i64 0)), (.v (.int .i64 0)), (.v (.int .i64 0))]))), none⟩, ⟨none, (.st (.t 4) (.t 22) 32), none⟩, ⟨(some 5), (.mv (.t 23)), none⟩, ⟨(some 6), (.mv (.t 24)), none⟩]) 
  (.seq (.reg [] [⟨(some 25), (.mv (.t 6)), none⟩, ⟨(some 26), (.bin .neq (.t 25) (.c (.v (.int .i64 0)))), none⟩, ⟨(some 27), (.mv (.t 26)), none⟩, ⟨(some 28), (.mv (.t 5)), (some (27, false))⟩, ⟨(some 29), (.un .not (.t 28)), (some (27, false))⟩, ⟨(some 30), (.pick (.t 27) (.c (.v (.bool true))) (.t 29)), none⟩, ⟨(some 31), (.mv (.t 30)), none⟩, ⟨(some 32), (.ld (.t 4) (some 32)), (some (31, false))⟩, ⟨(some 33), (.fa (.t 1) 1), (some (31, false))⟩, ⟨(some 34), (.ld (.t 33) (some 32)), (some (31, false))⟩, ⟨(some 35), (.eqv true true [.i, .i, .i, .i, .i, .i, .i, .i, .i, .i, .i, .i, .i, .i, .i, .i, .i, .i, .i, .i, .i, .i, .i, .i, .i, .i, .i, .i, .i, .i, .i, .i] (.t 32) (.t 34)), (some (31, false))⟩, ⟨(some 36), (.pick (.t 31) (.c (.v (.bool true))) (.t 35)), none⟩]) (.cond (.t 36) 
  (.seq (.reg [] [⟨(some 2), (.mv (.c (.v (.int .i64 6)))), none⟩]) .ret) .skip))) 
  (.seq (.reg [] [⟨(some 2), (.mv (.c (.v (.int .i64 0)))), none⟩]) .ret))) 
  (.seq (.reg [] [⟨(some 38), (.bin .eql (.t 8) (.c (.v (.int .i64 1)))), none⟩, ⟨(some 37), (.mv (.t 38)), none⟩]) (.cond (.t 37) 
  (.seq 
  (.seq (.reg [] [⟨(some 39), (.fa (.t 1) 77), none⟩, ⟨(some 40), (.ld (.t 39) none), none⟩, ⟨(some 41), (.bin .lss (.t 40) (.c (.v (.int .i64 1)))), none⟩, ⟨(some 42), (.mv (.t 41)), none⟩, ⟨(some 43), (.fa (.t 1) 77), (some (42, false))⟩, ⟨(some 44), (.ld (.t 43) none), (some (42, false))⟩, ⟨(some 45), (.bin .gtr (.t 44) (.c (.v (.int .i64 7)))), (some (42, false))⟩, ⟨(some 46), (.pick (.t 42) (.c (.v (.bool true))) (.t 45)), none⟩]) (.cond (.t 46) 
  (.seq (.reg [] [⟨(some 2), (.mv (.c (.v (.int .i64 9)))), none⟩]) .ret) .skip)) 
  (.seq 
  (.seq (.reg [] [⟨(some 47), (.fa (.t 1) 78), none⟩, ⟨(some 48), (.ld (.t 47) (some 6)), none⟩, ⟨(some 49), (.call (.c (.f 33 [])) [(.t 48)]), none⟩, ⟨(some 50), (.un .not (.t 49)), none⟩]) (.cond (.t 50) 
  (.seq (.reg [] [⟨(some 2), (.mv (.c (.v (.int .i64 3)))), none⟩]) .ret) .skip)) 
  (.seq (.reg [] [⟨(some 2), (.mv (.c (.v (.int .i64 0)))), none⟩]) .ret))) .skip)))))) 
  (.seq (.reg [] [⟨(some 2), (.mv (.c (.v (.int .i64 9)))), none⟩]) .ret))), [(.t 2)]⟩

def c16b0 : MC := 
  (.seq (.reg [] [⟨(some 43), (.bin .lss (.t 42) (.t 41)), none⟩]) 
  (.seq (.cond (.t 43) .skip (.exit 0)) 
  (.seq (.block 1 
  (.seq (.reg [] [⟨(some 44), (.mv (.t 42)), none⟩, ⟨(some 15), (.mv (.t 44)), none⟩]) 
  (.seq (.reg [] [⟨(some 46), (.mv (.t 0)), none⟩, ⟨(some 47), (.mv (.t 1)), none⟩, ⟨(some 48), (.mv (.t 15)), none⟩, ⟨(some 49), (.call (.c (.f 18 [])) [(.t 46), (.t 47), (.t 48)]), none⟩, ⟨(some 45), (.mv (.t 49)), none⟩, ⟨(some 50), (.ext (.t 45) 0), none⟩, ⟨(some 51), (.ext (.t 45) 1), none⟩, ⟨(some 16), (.box (.c (.agg [(.v (.int .i64 0)), (.v (.int .i64 0)), (.v (.int .i64 0)), (.v (.int .i64 0))]))), none⟩, ⟨none, (.st (.t 16) (.t 50) 4), none⟩, ⟨(some 17), (.mv (.t 51)), none⟩]) 
  (.seq (.reg [] [⟨(some 52), (.ld (.t 16) (some 4)), none⟩, ⟨(some 53), (.ld (.t 10) (some 4)), none⟩, ⟨(some 54), (.call (.c (.f 17 [])) [(.t 52), (.t 53)]), none⟩, ⟨(some 55), (.call (.c (.f 34 [])) [(.t 54)]), none⟩, ⟨(some 56), (.un .not (.t 55)), none⟩]) (.cond (.t 56) (.reg [] [⟨(some 57), (.mv (.t 14)), none⟩, ⟨(some 58), (.mv (.t 15)), none⟩, ⟨(some 59), (.bsl [(.v (.int .i64 0))] 1 [(0, (1, (.t 58)))]), none⟩, ⟨(some 60), (.app (.t 57) (.t 59) 1 8), none⟩, ⟨(some 14), (.mv (.t 60)), none⟩]) .skip))))) (.reg [] [⟨(some 61), (.bin .add (.t 42) (.c (.v (.int .i64 1)))), none⟩, ⟨(some 42), (.mv (.t 61)), none⟩]))))

def c16 : MF := ⟨3, 63, 
  (.seq (.reg [] [⟨(some 5), (.box (.t 2)), none⟩, ⟨(some 6), (.mv (.c (.v (.slice none 0 0)))), none⟩, ⟨(some 7), (.mv (.c (.v (.int .i64 0)))), none⟩]) 
  (.seq (.reg [] [⟨(some 19), (.mv (.t 0)), none⟩, ⟨(some 20), (.mv (.t 1)), none⟩, ⟨(some 21), (.call (.c (.f 30 [])) [(.t 19), (.t 20)]), none⟩, ⟨(some 18), (.mv (.t 21)), none⟩, ⟨(some 22), (.ext (.t 18) 0), none⟩, ⟨(some 23), (.ext (.t 18) 1), none⟩, ⟨(some 8), (.box (.c (.agg [(.v (.int .i64 0)), (.v (.int .i64 0)), (.v (.int .i64 0)), (.v (.int .i64 0))]))), none⟩, ⟨none, (.st (.t 8) (.t 22) 4), none⟩, ⟨(some 9), (.mv (.t 23)), none⟩]) 
  (.seq 
  (.seq (.reg [] [⟨(some 24), (.mv (.t 9)), none⟩, ⟨(some 25), (.bin .neq (.t 24) (.c (.v (.int .i64 0)))), none⟩]) (.cond (.t 25) 
  (.seq (.reg [] [⟨(some 26), (.mv (.t 9)), none⟩, ⟨(some 6), (.mv (.c (.v (.slice none 0 0)))), none⟩, ⟨(some 7), (.mv (.t 26)), none⟩]) .ret) .skip)) 
  (.seq (.reg [] [⟨(some 27), (.ld (.t 8) (some 4)), none⟩, ⟨(some 28), (.ld (.t 5) (some 4)), none⟩, ⟨(some 29), (.call (.c (.f 17 [])) [(.t 27), (.t 28)]), none⟩, ⟨(some 10), (.box (.c (.agg [(.v (.int .i64 0)), (.v (.int .i64 0)), (.v (.int .i64 0)), (.v (.int .i64 0))]))), none⟩, ⟨none, (.st (.t 10) (.t 29) 4), none⟩]) 
  (.seq 
  (.seq (.reg [] [⟨(some 30), (.ld (.t 10) (some 4)), none⟩, ⟨(some 31), (.call (.c (.f 34 [])) [(.t 30)]), none⟩]) (.cond (.t 31) 
  (.seq (.reg [] [⟨(some 6), (.mv (.c (.v (.slice none 0 0)))), none⟩, ⟨(some 7), (.mv (.c (.v (.int .i64 0)))), none⟩]) .ret) .skip)) 
  (.seq (.reg [] [⟨(some 33), (.mv (.t 0)), none⟩, ⟨(some 34), (.mv (.t 1)), none⟩, ⟨(some 35), (.call (.c (.f 14 [])) [(.t 33), (.t 34)]), none⟩, ⟨(some 32), (.mv (.t 35)), none⟩, ⟨(some 36), (.ext (.t 32) 0), none⟩, ⟨(some 37), (.ext (.t 32) 1), none⟩, ⟨(some 38), (.ext (.t 32) 2), none⟩, ⟨(some 11), (.mv (.t 36)), none⟩, ⟨(some 12), (.mv (.t 37)), none⟩, ⟨(some 13), (.mv (.t 38)), none⟩]) 
  (.seq (.reg [] [⟨(some 14), (.mv (.c (.v (.slice none 0 0)))), none⟩]) 
  (.seq 
  (.seq (.reg [] [⟨(some 39), (.mv (.t 11)), none⟩, ⟨(some 40), (.mv (.t 12)), none⟩, ⟨(some 41), (.bin .mul (.t 39) (.t 40)), none⟩, ⟨(some 42), (.mv (.c (.v (.int .i64 0)))), none⟩]) (.block 0 
  (.loopN [61, 60, 59, 58, 57, 56, 55, 54, 53, 52, 51, 50, 45, 49, 48, 47, 46, 44, 43] c16b0))) 
  (.seq (.reg [] [⟨(some 62), (.mv (.t 14)), none⟩, ⟨(some 6), (.mv (.t 62)), none⟩, ⟨(some 7), (.mv (.c (.v (.int .i64 0)))), none⟩]) .ret))))))))), [(.t 6), (.t 7)]⟩

def c17 : MF := ⟨2, 31, 
  (.seq (.reg [] [⟨(some 2), (.box (.t 0)), none⟩, ⟨(some 3), (.box (.t 1)), none⟩, ⟨(some 4), (.box (.c (.agg [(.v (.int .i64 0)), (.v (.int .i64 0)), (.v (.int .i64 0)), (.v (.int .i64 0))]))), none⟩]) 
  (.seq (.reg [] [⟨(some 6), (.fa (.t 2) 0), none⟩, ⟨(some 7), (.ld (.t 6) none), none⟩, ⟨(some 8), (.fa (.t 3) 0), none⟩, ⟨(some 9), (.ld (.t 8) none), none⟩, ⟨(some 10), (.mm true [(.t 7), (.t 9)]), none⟩, ⟨(some 11), (.fa (.t 2) 1), none⟩, ⟨(some 12), (.ld (.t 11) none), none⟩, ⟨(some 13), (.fa (.t 3) 1), none⟩, ⟨(some 14), (.ld (.t 13) none), none⟩, ⟨(some 15), (.mm true [(.t 12), (.t 14)]), none⟩, ⟨(some 16), (.fa (.t 2) 2), none⟩, ⟨(some 17), (.ld (.t 16) none), none⟩, ⟨(some 18), (.fa (.t 3) 2), none⟩, ⟨(some 19), (.ld (.t 18) none), none⟩, ⟨(some 20), (.mm false [(.t 17), (.t 19)]), none⟩, ⟨(some 21), (.fa (.t 2) 3), none⟩, ⟨(some 22), (.ld (.t 21) none), none⟩, ⟨(some 23), (.fa (.t 3) 3), none⟩, ⟨(some 24), (.ld (.t 23) none), none⟩, ⟨(some 25), (.mm false [(.t 22), (.t 24)]), none⟩, ⟨(some 26), (.bld [(.v (.int .i64 0)), (.v (.int .i64 0)), (.v (.int .i64 0)), (.v (.int .i64 0))] [(0, (1, (.t 10))), (1, (1, (.t 15))), (2, (1, (.t 20))), (3, (1, (.t 25)))]), none⟩, ⟨(some 5), (.box (.c (.agg [(.v (.int .i64 0)), (.v (.int .i64 0)), (.v (.int .i64 0)), (.v (.int .i64 0))]))), none⟩, ⟨none, (.st (.t 5) (.t 26) 4), none⟩]) 
  (.seq 
  (.seq (.reg [] [⟨(some 27), (.ld (.t 5) (some 4)), none⟩, ⟨(some 28), (.call (.c (.f 34 [])) [(.t 27)]), none⟩]) (.cond (.t 28) 
  (.seq (.reg [] [⟨(some 29), (.bld [(.v (.int .i64 0)), (.v (.int .i64 0)), (.v (.int .i64 0)), (.v (.int .i64 0))] []), none⟩, ⟨none, (.st (.t 4) (.t 29) 4), none⟩]) .ret) .skip)) 
  (.seq (.reg [] [⟨(some 30), (.ld (.t 5) (some 4)), none⟩, ⟨none, (.st (.t 4) (.t 30) 4), none⟩]) .ret)))), [(.cell 4 (some 4))]⟩

def c18 : MF := ⟨3, 59, 
  (.seq (.reg [] [⟨(some 6), (.box (.c (.agg [(.v (.int .i64 0)), (.v (.int .i64 0)), (.v (.int .i64 0)), (.v (.int .i64 0))]))), none⟩, ⟨(some 7), (.mv (.c (.v (.int .i64 0)))), none⟩]) 
  (.seq (.reg [] [⟨(some 16), (.mv (.t 0)), none⟩, ⟨(some 17), (.mv (.t 1)), none⟩, ⟨(some 18), (.call (.c (.f 30 [])) [(.t 16), (.t 17)]), none⟩, ⟨(some 15), (.mv (.t 18)), none⟩, ⟨(some 19), (.ext (.t 15) 0), none⟩, ⟨(some 20), (.ext (.t 15) 1), none⟩, ⟨(some 8), (.box (.c (.agg [(.v (.int .i64 0)), (.v (.int .i64 0)), (.v (.int .i64 0)), (.v (.int .i64 0))]))), none⟩, ⟨none, (.st (.t 8) (.t 19) 4), none⟩, ⟨(some 9), (.mv (.t 20)), none⟩]) 
  (.seq 
  (.seq (.reg [] [⟨(some 21), (.mv (.t 9)), none⟩, ⟨(some 22), (.bin .neq (.t 21) (.c (.v (.int .i64 0)))), none⟩]) (.cond (.t 22) 
  (.seq (.reg [] [⟨(some 23), (.bld [(.v (.int .i64 0)), (.v (.int .i64 0)), (.v (.int .i64 0)), (.v (.int .i64 0))] []), none⟩, ⟨(some 24), (.mv (.t 9)), none⟩, ⟨none, (.st (.t 6) (.t 23) 4), none⟩, ⟨(some 7), (.mv (.t 24)), none⟩]) .ret) .skip)) 
  (.seq (.reg [] [⟨(some 26), (.mv (.t 0)), none⟩, ⟨(some 27), (.mv (.t 1)), none⟩, ⟨(some 28), (.call (.c (.f 14 [])) [(.t 26), (.t 27)]), none⟩, ⟨(some 25), (.mv (.t 28)), none⟩, ⟨(some 29), (.ext (.t 25) 0), none⟩, ⟨(some 30), (.ext (.t 25) 1), none⟩, ⟨(some 31), (.ext (.t 25) 2), none⟩, ⟨(some 10), (.mv (.t 29)), none⟩, ⟨(some 11), (.mv (.t 30)), none⟩, ⟨(some 12), (.mv (.t 31)), none⟩]) 
  (.seq 
  (.seq (.reg [] [⟨(some 32), (.mv (.t 2)), none⟩, ⟨(some 33), (.bin .lss (.t 32) (.c (.v (.int .i64 0)))), none⟩, ⟨(some 34), (.mv (.t 33)), none⟩, ⟨(some 35), (.mv (.t 2)), (some (34, false))⟩, ⟨(some 36), (.mv (.t 10)), (some (34, false))⟩, ⟨(some 37), (.mv (.t 11)), (some (34, false))⟩, ⟨(some 38), (.bin .mul (.t 36) (.t 37)), (some (34, false))⟩, ⟨(some 39), (.bin .geq (.t 35) (.t 38)), (some (34, false))⟩, ⟨(some 40), (.pick (.t 34) (.c (.v (.bool true))) (.t 39)), none⟩]) (.cond (.t 40) 
  (.seq (.reg [] [⟨(some 41), (.bld [(.v (.int .i64 0)), (.v (.int .i64 0)), (.v (.int .i64 0)), (.v (.int .i64 0))] []), none⟩, ⟨none, (.st (.t 6) (.t 41) 4), none⟩, ⟨(some 7), (.mv (.c (.v (.int .i64 2)))), none⟩]) .ret) .skip)) 
  (.seq (.reg [⟨(some 42), (.mv (.t 2)), none⟩, ⟨(some 43), (.mv (.t 10)), none⟩, ⟨(some 44), (.bin .rem (.t 42) (.t 43)), none⟩, ⟨(some 45), (.bin .mul (.t 44) (.c (.v (.int .i64 16)))), none⟩, ⟨(some 46), (.mv (.t 2)), none⟩, ⟨(some 47), (.mv (.t 10)), none⟩, ⟨(some 48), (.bin .quo (.t 46) (.t 47)), none⟩, ⟨(some 49), (.bin .mul (.t 48) (.c (.v (.int .i64 16)))), none⟩, ⟨(some 13), (.mv (.t 45)), none⟩] [⟨(some 14), (.mv (.t 49)), none⟩]) 
  (.seq (.reg [] [⟨(some 50), (.ld (.t 8) (some 4)), none⟩, ⟨(some 51), (.mv (.t 13)), none⟩, ⟨(some 52), (.mv (.t 14)), none⟩, ⟨(some 53), (.mv (.t 13)), none⟩, ⟨(some 54), (.bin .add (.t 53) (.c (.v (.int .i64 16)))), none⟩, ⟨(some 55), (.mv (.t 14)), none⟩, ⟨(some 56), (.bin .add (.t 55) (.c (.v (.int .i64 16)))), none⟩, ⟨(some 57), (.bld [(.v (.int .i64 0)), (.v (.int .i64 0)), (.v (.int .i64 0)), (.v (.int .i64 0))] [(0, (1, (.t 51))), (1, (1, (.t 52))), (2, (1, (.t 54))), (3, (1, (.t 56)))]), none⟩, ⟨(some 58), (.call (.c (.f 17 [])) [(.t 50), (.t 57)]), none⟩, ⟨none, (.st (.t 6) (.t 58) 4), none⟩, ⟨(some 7), (.mv (.c (.v (.int .i64 0)))), none⟩]) .ret))))))), [(.cell 6 (some 4)), (.t 7)]⟩

def c19b0 : MC := 
  (.seq (.reg [] [⟨(some 54), (.bin .lss (.t 53) (.c (.v (.int .i64 4)))), none⟩]) 
  (.seq (.cond (.t 54) .skip (.exit 2)) 
  (.seq (.block 3 
  (.seq (.reg [] [⟨(some 55), (.ix (.t 52) (.t 53) 4 2 (some 2)), none⟩, ⟨(some 10), (.box (.c (.agg [(.v (.int .i64 0)), (.v (.int .i64 0))]))), none⟩, ⟨none, (.st (.t 10) (.t 55) 2), none⟩]) 
  (.seq (.reg [] [⟨(some 57), (.ixa (.t 10) (.c (.v (.int .i64 0))) 2 1), none⟩, ⟨(some 58), (.ld (.t 57) none), none⟩, ⟨(some 59), (.ixa (.t 10) (.c (.v (.int .i64 1))) 2 1), none⟩, ⟨(some 60), (.ld (.t 59) none), none⟩, ⟨(some 61), (.call (.c (.f 35 [])) [(.t 58), (.t 60)]), none⟩, ⟨(some 56), (.mv (.t 61)), none⟩, ⟨(some 62), (.ext (.t 56) 0), none⟩, ⟨(some 63), (.ext (.t 56) 1), none⟩, ⟨(some 11), (.box (.c (.agg [(.v (.int .i64 0)), (.v (.int .i64 0))]))), none⟩, ⟨none, (.st (.t 11) (.t 62) 2), none⟩, ⟨(some 12), (.mv (.t 63)), none⟩]) 
  (.seq (.reg [] [⟨(some 65), (.fa (.t 7) 0), none⟩, ⟨(some 66), (.ld (.t 65) (some 2)), none⟩, ⟨(some 67), (.fa (.t 8) 0), none⟩, ⟨(some 68), (.ld (.t 67) (some 2)), none⟩, ⟨(some 69), (.ld (.t 11) (some 2)), none⟩, ⟨(some 70), (.call (.c (.f 36 [])) [(.t 66), (.t 68), (.t 69)]), none⟩, ⟨(some 64), (.mv (.t 70)), none⟩, ⟨(some 71), (.ext (.t 64) 0), none⟩, ⟨(some 72), (.ext (.t 64) 1), none⟩, ⟨(some 13), (.mv (.t 71)), none⟩, ⟨(some 14), (.mv (.t 72)), none⟩]) 
  (.seq (.reg [] [⟨(some 73), (.mv (.t 13)), none⟩, ⟨(some 74), (.bin .geq (.t 73) (.c (.v (.int .i64 0)))), none⟩]) (.cond (.t 74) (.exit 1) .skip)))))) (.reg [] [⟨(some 75), (.bin .add (.t 53) (.c (.v (.int .i64 1)))), none⟩, ⟨(some 53), (.mv (.t 75)), none⟩]))))

def c19b1 : MC := 
  (.seq (.reg [] [⟨(some 43), (.bin .lss (.t 42) (.c (.v (.int .i64 3)))), none⟩]) 
  (.seq (.cond (.t 43) .skip (.exit 0)) 
  (.seq (.block 1 
  (.seq (.reg [] [⟨(some 44), (.mv (.t 42)), none⟩, ⟨(some 45), (.ix (.t 41) (.t 42) 3 9 (some 9)), none⟩, ⟨(some 7), (.box (.c (.agg [(.v (.int .i64 0)), (.v (.int .i64 0)), (.v (.int .i64 0)), (.v (.int .i64 0)), (.v (.int .i64 0)), (.v (.int .i64 0)), (.v (.int .i64 0)), (.v (.int .i64 0)), (.v (.int .i64 0))]))), none⟩, ⟨(some 6), (.mv (.t 44)), none⟩, ⟨none, (.st (.t 7) (.t 45) 9), none⟩]) 
  (.seq (.reg [] [⟨(some 46), (.mv (.t 6)), none⟩, ⟨(some 47), (.bin .add (.t 46) (.c (.v (.int .i64 1)))), none⟩, ⟨(some 48), (.bin .rem (.t 47) (.c (.v (.int .i64 3)))), none⟩, ⟨(some 49), (.fa (.t 2) 0), none⟩, ⟨(some 50), (.ixa (.t 49) (.t 48) 3 9), none⟩, ⟨(some 51), (.ld (.t 50) (some 9)), none⟩, ⟨(some 8), (.box (.c (.agg [(.v (.int .i64 0)), (.v (.int .i64 0)), (.v (.int .i64 0)), (.v (.int .i64 0)), (.v (.int .i64 0)), (.v (.int .i64 0)), (.v (.int .i64 0)), (.v (.int .i64 0)), (.v (.int .i64 0))]))), none⟩, ⟨none, (.st (.t 8) (.t 51) 9), none⟩]) 
  (.seq 
  (.seq (.reg [] [⟨(some 52), (.ld (.t 5) (some 8)), none⟩, ⟨(some 53), (.mv (.c (.v (.int .i64 0)))), none⟩]) (.block 2 
  (.loop [75, 74, 73, 72, 71, 64, 70, 69, 68, 67, 66, 65, 63, 62, 56, 61, 60, 59, 58, 57, 55, 54] c19b0))) 
  (.seq (.reg [] [⟨(some 4), (.mv (.c (.v (.bool false)))), none⟩]) .ret))))) (.reg [] [⟨(some 76), (.bin .add (.t 42) (.c (.v (.int .i64 1)))), none⟩, ⟨(some 42), (.mv (.t 76)), none⟩]))))

def c19 : MF := ⟨2, 77, 
  (.seq (.reg [] [⟨(some 2), (.box (.t 0)), none⟩, ⟨(some 3), (.box (.t 1)), none⟩, ⟨(some 4), (.mv (.c (.v (.bool false)))), none⟩]) 
  (.seq (.reg [] [⟨(some 15), (.fa (.t 3) 0), none⟩, ⟨(some 16), (.ld (.t 15) none), none⟩, ⟨(some 17), (.fa (.t 3) 1), none⟩, ⟨(some 18), (.ld (.t 17) none), none⟩, ⟨(some 19), (.bld [(.v (.int .i64 0)), (.v (.int .i64 0))] [(0, (1, (.t 16))), (1, (1, (.t 18)))]), none⟩, ⟨(some 20), (.fa (.t 3) 2), none⟩, ⟨(some 21), (.ld (.t 20) none), none⟩, ⟨(some 22), (.bin .sub (.t 21) (.c (.v (.int .i64 1)))), none⟩, ⟨(some 23), (.fa (.t 3) 1), none⟩, ⟨(some 24), (.ld (.t 23) none), none⟩, ⟨(some 25), (.bld [(.v (.int .i64 0)), (.v (.int .i64 0))] [(0, (1, (.t 22))), (1, (1, (.t 24)))]), none⟩, ⟨(some 26), (.fa (.t 3) 0), none⟩, ⟨(some 27), (.ld (.t 26) none), none⟩, ⟨(some 28), (.fa (.t 3) 3), none⟩, ⟨(some 29), (.ld (.t 28) none), none⟩, ⟨(some 30), (.bin .sub (.t 29) (.c (.v (.int .i64 1)))), none⟩, ⟨(some 31), (.bld [(.v (.int .i64 0)), (.v (.int .i64 0))] [(0, (1, (.t 27))), (1, (1, (.t 30)))]), none⟩, ⟨(some 32), (.fa (.t 3) 2), none⟩, ⟨(some 33), (.ld (.t 32) none), none⟩, ⟨(some 34), (.bin .sub (.t 33) (.c (.v (.int .i64 1)))), none⟩, ⟨(some 35), (.fa (.t 3) 3), none⟩, ⟨(some 36), (.ld (.t 35) none), none⟩, ⟨(some 37), (.bin .sub (.t 36) (.c (.v (.int .i64 1)))), none⟩, ⟨(some 38), (.bld [(.v (.int .i64 0)), (.v (.int .i64 0))] [(0, (1, (.t 34))), (1, (1, (.t 37)))]), none⟩, ⟨(some 39), (.bld [(.v (.int .i64 0)), (.v (.int .i64 0)), (.v (.int .i64 0)), (.v (.int .i64 0)), (.v (.int .i64 0)), (.v (.int .i64 0)), (.v (.int .i64 0)), (.v (.int .i64 0))] [(0, (2, (.t 19))), (2, (2, (.t 25))), (4, (2, (.t 31))), (6, (2, (.t 38)))]), none⟩, ⟨(some 5), (.box (.c (.agg [(.v (.int .i64 0)), (.v (.int .i64 0)), (.v (.int .i64 0)), (.v (.int .i64 0)), (.v (.int .i64 0)), (.v (.int .i64 0)), (.v (.int .i64 0)), (.v (.int .i64 0))]))), none⟩, ⟨none, (.st (.t 5) (.t 39) 8), none⟩]) 
  (.seq .skip 
  (.seq 
  (.seq (.reg [] [⟨(some 40), (.fa (.t 2) 0), none⟩, ⟨(some 41), (.ld (.t 40) (some 27)), none⟩, ⟨(some 42), (.mv (.c (.v (.int .i64 0)))), none⟩]) (.block 0 
  (.loop [76, 4, 53, 75, 74, 73, 72, 71, 64, 70, 69, 68, 67, 66, 65, 63, 62, 56, 61, 60, 59, 58, 57, 55, 54, 52, 51, 50, 49, 48, 47, 46, 45, 44, 43] c19b1))) 
  (.seq (.reg [] [⟨(some 4), (.mv (.c (.v (.bool true)))), none⟩]) .ret))))), [(.t 4)]⟩

def c20 : MF := ⟨1, 16, 
  (.seq (.reg [] [⟨(some 1), (.box (.t 0)), none⟩, ⟨(some 2), (.mv (.c (.v (.bool false)))), none⟩]) 
  (.seq (.reg [] [⟨(some 3), (.fa (.t 1) 0), none⟩, ⟨(some 4), (.ld (.t 3) (some 4)), none⟩, ⟨(some 5), (.call (.c (.f 37 [])) [(.t 4)]), none⟩, ⟨(some 6), (.mv (.t 5)), none⟩, ⟨(some 7), (.fa (.t 1) 4), (some (6, true))⟩, ⟨(some 8), (.ld (.t 7) none), (some (6, true))⟩, ⟨(some 9), (.call (.c (.f 38 [])) [(.t 8)]), (some (6, true))⟩, ⟨(some 10), (.pick (.t 6) (.t 9) (.c (.v (.bool false)))), none⟩, ⟨(some 11), (.mv (.t 10)), none⟩, ⟨(some 12), (.fa (.t 1) 5), (some (11, true))⟩, ⟨(some 13), (.ld (.t 12) none), (some (11, true))⟩, ⟨(some 14), (.call (.c (.f 39 [])) [(.t 13)]), (some (11, true))⟩, ⟨(some 15), (.pick (.t 11) (.t 14) (.c (.v (.bool false)))), none⟩, ⟨(some 2), (.mv (.t 15)), none⟩]) .ret)), [(.t 2)]⟩

def c21 : MF := ⟨1, 59, 
  (.seq (.reg [] [⟨(some 1), (.box (.t 0)), none⟩, ⟨(some 2), (.mv (.c (.v (.int .i64 0)))), none⟩]) 
  (.seq 
  (.seq (.reg [] [⟨(some 5), (.fa (.t 1) 0), none⟩, ⟨(some 6), (.ld (.t 5) (some 16)), none⟩, ⟨(some 7), (.call (.c (.f 40 [])) [(.t 6)]), none⟩, ⟨(some 8), (.un .not (.t 7)), none⟩]) (.cond (.t 8) 
  (.seq (.reg [] [⟨(some 2), (.mv (.c (.v (.int .i64 11)))), none⟩]) .ret) .skip)) 
  (.seq 
  (.seq (.reg [] [⟨(some 9), (.fa (.t 1) 16), none⟩, ⟨(some 10), (.ld (.t 9) (some 4)), none⟩, ⟨(some 11), (.call (.c (.f 41 [])) [(.t 10)]), none⟩, ⟨(some 12), (.un .not (.t 11)), none⟩, ⟨(some 13), (.mv (.t 12)), none⟩, ⟨(some 14), (.fa (.t 1) 20), (some (13, false))⟩, ⟨(some 15), (.ld (.t 14) (some 4)), (some (13, false))⟩, ⟨(some 16), (.call (.c (.f 41 [])) [(.t 15)]), (some (13, false))⟩, ⟨(some 17), (.un .not (.t 16)), (some (13, false))⟩, ⟨(some 18), (.pick (.t 13) (.c (.v (.bool true))) (.t 17)), none⟩]) (.cond (.t 18) 
  (.seq (.reg [] [⟨(some 2), (.mv (.c (.v (.int .i64 12)))), none⟩]) .ret) .skip)) 
  (.seq 
  (.seq (.reg [] [⟨(some 19), (.fa (.t 1) 24), none⟩, ⟨(some 20), (.ld (.t 19) none), none⟩, ⟨(some 21), (.call (.c (.f 42 [])) [(.t 20)]), none⟩, ⟨(some 22), (.un .not (.t 21)), none⟩]) (.cond (.t 22) 
  (.seq (.reg [] [⟨(some 2), (.mv (.c (.v (.int .i64 9)))), none⟩]) .ret) .skip)) 
  (.seq 
  (.seq (.reg [] [⟨(some 23), (.fa (.t 1) 26), none⟩, ⟨(some 24), (.ld (.t 23) (some 7)), none⟩, ⟨(some 25), (.call (.c (.f 43 [])) [(.t 24)]), none⟩, ⟨(some 3), (.mv (.t 25)), none⟩]) 
  (.seq (.reg [] [⟨(some 26), (.mv (.t 3)), none⟩, ⟨(some 27), (.bin .neq (.t 26) (.c (.v (.int .i64 0)))), none⟩]) (.cond (.t 27) 
  (.seq (.reg [] [⟨(some 28), (.mv (.t 3)), none⟩, ⟨(some 2), (.mv (.t 28)), none⟩]) .ret) .skip))) 
  (.seq 
  (.seq (.reg [] [⟨(some 29), (.fa (.t 1) 33), none⟩, ⟨(some 30), (.ld (.t 29) (some 4)), none⟩, ⟨(some 31), (.call (.c (.f 44 [])) [(.t 30)]), none⟩, ⟨(some 4), (.mv (.t 31)), none⟩]) 
  (.seq (.reg [] [⟨(some 32), (.mv (.t 4)), none⟩, ⟨(some 33), (.bin .neq (.t 32) (.c (.v (.int .i64 0)))), none⟩]) (.cond (.t 33) 
  (.seq (.reg [] [⟨(some 34), (.mv (.t 4)), none⟩, ⟨(some 2), (.mv (.t 34)), none⟩]) .ret) .skip))) 
  (.seq 
  (.seq (.reg [] [⟨(some 35), (.fa (.t 1) 37), none⟩, ⟨(some 36), (.ld (.t 35) none), none⟩, ⟨(some 37), (.bin .lss (.t 36) (.c (.v (.int .i64 0)))), none⟩, ⟨(some 38), (.mv (.t 37)), none⟩, ⟨(some 39), (.fa (.t 1) 37), (some (38, false))⟩, ⟨(some 40), (.ld (.t 39) none), (some (38, false))⟩, ⟨(some 41), (.bin .gtr (.t 40) (.c (.v (.int .i64 2)))), (some (38, false))⟩, ⟨(some 42), (.pick (.t 38) (.c (.v (.bool true))) (.t 41)), none⟩]) (.cond (.t 42) 
  (.seq (.reg [] [⟨(some 2), (.mv (.c (.v (.int .i64 9)))), none⟩]) .ret) .skip)) 
  (.seq 
  (.seq (.reg [] [⟨(some 43), (.fa (.t 1) 38), none⟩, ⟨(some 44), (.ld (.t 43) none), none⟩, ⟨(some 45), (.bin .lss (.t 44) (.c (.v (.int .i64 0)))), none⟩, ⟨(some 46), (.mv (.t 45)), none⟩, ⟨(some 47), (.fa (.t 1) 38), (some (46, false))⟩, ⟨(some 48), (.ld (.t 47) none), (some (46, false))⟩, ⟨(some 49), (.bin .gtr (.t 48) (.c (.v (.int .i64 64)))), (some (46, false))⟩, ⟨(some 50), (.pick (.t 46) (.c (.v (.bool true))) (.t 49)), none⟩]) (.cond (.t 50) 
  (.seq (.reg [] [⟨(some 2), (.mv (.c (.v (.int .i64 7)))), none⟩]) .ret) .skip)) 
  (.seq 
  (.seq (.reg [] [⟨(some 51), (.fa (.t 1) 39), none⟩, ⟨(some 52), (.ld (.t 51) none), none⟩, ⟨(some 53), (.bin .lss (.t 52) (.c (.v (.int .i64 0)))), none⟩, ⟨(some 54), (.mv (.t 53)), none⟩, ⟨(some 55), (.fa (.t 1) 39), (some (54, false))⟩, ⟨(some 56), (.ld (.t 55) none), (some (54, false))⟩, ⟨(some 57), (.bin .gtr (.t 56) (.c (.v (.int .i64 2)))), (some (54, false))⟩, ⟨(some 58), (.pick (.t 54) (.c (.v (.bool true))) (.t 57)), none⟩]) (.cond (.t 58) 
  (.seq (.reg [] [⟨(some 2), (.mv (.c (.v (.int .i64 9)))), none⟩]) .ret) .skip)) 
  (.seq (.reg [] [⟨(some 2), (.mv (.c (.v (.int .i64 0)))), none⟩]) .ret)))))))))), [(.t 2)]⟩

def c22b0 : MC := 
  (.seq 
  (.seq (.reg [] [⟨(some 18), (.mv (.t 3)), none⟩, ⟨(some 19), (.bin .lss (.t 18) (.c (.v (.int .i64 6)))), none⟩]) (.cond (.t 19) .skip (.exit 0))) 
  (.seq (.block 1 
  (.seq (.reg [] [⟨(some 22), (.mv (.t 3)), none⟩, ⟨(some 23), (.fa (.t 1) 3), none⟩, ⟨(some 24), (.ixa (.t 23) (.t 22) 6 1), none⟩, ⟨(some 25), (.ld (.t 24) none), none⟩, ⟨(some 26), (.bin .lss (.t 25) (.c (.v (.int .i64 (-1048576))))), none⟩, ⟨(some 27), (.mv (.t 26)), none⟩, ⟨(some 28), (.mv (.t 3)), (some (27, false))⟩, ⟨(some 29), (.fa (.t 1) 3), (some (27, false))⟩, ⟨(some 30), (.ixa (.t 29) (.t 28) 6 1), (some (27, false))⟩, ⟨(some 31), (.ld (.t 30) none), (some (27, false))⟩, ⟨(some 32), (.bin .gtr (.t 31) (.c (.v (.int .i64 1048576)))), (some (27, false))⟩, ⟨(some 33), (.pick (.t 27) (.c (.v (.bool true))) (.t 32)), none⟩]) (.cond (.t 33) 
  (.seq (.reg [] [⟨(some 2), (.mv (.c (.v (.bool false)))), none⟩]) .ret) .skip))) (.reg [] [⟨(some 20), (.mv (.t 3)), none⟩, ⟨(some 21), (.bin .add (.t 20) (.c (.v (.int .i64 1)))), none⟩, ⟨(some 3), (.mv (.t 21)), none⟩])))

def c22 : MF := ⟨1, 34, 
  (.seq (.reg [] [⟨(some 1), (.box (.t 0)), none⟩, ⟨(some 2), (.mv (.c (.v (.bool false)))), none⟩]) 
  (.seq 
  (.seq (.reg [] [⟨(some 4), (.fa (.t 1) 0), none⟩, ⟨(some 5), (.ld (.t 4) (some 2)), none⟩, ⟨(some 6), (.call (.c (.f 45 [])) [(.t 5)]), none⟩, ⟨(some 7), (.un .not (.t 6)), none⟩, ⟨(some 8), (.mv (.t 7)), none⟩, ⟨(some 9), (.fa (.t 1) 2), (some (8, false))⟩, ⟨(some 10), (.ld (.t 9) none), (some (8, false))⟩, ⟨(some 11), (.bin .lss (.t 10) (.c (.v (.int .i64 0)))), (some (8, false))⟩, ⟨(some 12), (.pick (.t 8) (.c (.v (.bool true))) (.t 11)), none⟩, ⟨(some 13), (.mv (.t 12)), none⟩, ⟨(some 14), (.fa (.t 1) 2), (some (13, false))⟩, ⟨(some 15), (.ld (.t 14) none), (some (13, false))⟩, ⟨(some 16), (.bin .gtr (.t 15) (.c (.v (.int .i64 65535)))), (some (13, false))⟩, ⟨(some 17), (.pick (.t 13) (.c (.v (.bool true))) (.t 16)), none⟩]) (.cond (.t 17) 
  (.seq (.reg [] [⟨(some 2), (.mv (.c (.v (.bool false)))), none⟩]) .ret) .skip)) 
  (.seq 
  (.seq (.reg [] [⟨(some 3), (.mv (.c (.v (.int .i64 0)))), none⟩]) (.block 0 
  (.loopN [21, 20, 2, 33, 32, 31, 30, 29, 28, 27, 26, 25, 24, 23, 22, 19, 18] c22b0))) 
  (.seq (.reg [] [⟨(some 2), (.mv (.c (.v (.bool true)))), none⟩]) .ret)))), [(.t 2)]⟩

def c23 : MF := ⟨2, 52, 
  (.seq (.reg [] [⟨(some 2), (.box (.t 0)), none⟩, ⟨(some 4), (.box (.c (.agg [(.v (.int .i64 0)), (.v (.int .i64 0)), (.v (.int .i64 0)), (.v (.int .i64 0)), (.v (.int .i64 0)), (.v (.int .i64 0)), (.v (.int .i64 0)), (.v (.int .i64 0)), (.v (.int .i64 0)), (.v (.int .i64 0)), (.v (.int .i64 0)), (.v (.int .i64 0)), (.v (.int .i64 0)), (.v (.int .i64 0)), (.v (.int .i64 0)), (.v (.int .i64 0)), (.v (.int .i64 0)), (.v (.int .i64 0)), (.v (.int .i64 0)), (.v (.int .i64 0)), (.v (.int .i64 0)), (.v (.int .i64 0)), (.v (.int .i64 0)), (.v (.int .i64 0)), (.v (.int .i64 0)), (.v (.int .i64 0)), (.v (.int .i64 0)), (.v (.int .i64 0)), (.v (.int .i64 0)), (.v (.int .i64 0)), (.v (.int .i64 0)), (.v (.int .i64 0))]))), none⟩, ⟨(some 5), (.mv (.c (.v (.bool false)))), none⟩]) 
  (.seq (.reg [] [⟨(some 7), (.ixa (.t 2) (.c (.v (.int .i64 0))) 3 9), none⟩, ⟨(some 8), (.fa (.t 7) 0), none⟩, ⟨(some 9), (.ld (.t 8) (some 2)), none⟩, ⟨(some 10), (.ixa (.t 2) (.c (.v (.int .i64 1))) 3 9), none⟩, ⟨(some 11), (.fa (.t 10) 0), none⟩, ⟨(some 12), (.ld (.t 11) (some 2)), none⟩, ⟨(some 13), (.ixa (.t 2) (.c (.v (.int .i64 2))) 3 9), none⟩, ⟨(some 14), (.fa (.t 13) 0), none⟩, ⟨(some 15), (.ld (.t 14) (some 2)), none⟩, ⟨(some 16), (.call (.c (.f 46 [])) [(.t 9), (.t 12), (.t 15)]), none⟩, ⟨(some 6), (.mv (.t 16)), none⟩]) 
  (.seq 
  (.seq (.reg [] [⟨(some 17), (.mv (.t 6)), none⟩, ⟨(some 18), (.bin .eql (.t 17) (.c (.v (.int .i64 0)))), none⟩, ⟨(some 19), (.mv (.t 18)), none⟩, ⟨(some 20), (.mv (.t 6)), (some (19, false))⟩, ⟨(some 21), (.bin .lss (.t 20) (.c (.v (.int .i64 0)))), (some (19, false))⟩, ⟨(some 22), (.mv (.t 21)), (some (19, false))⟩, ⟨(some 23), (.mv (.t 1)), (some (22, true))⟩, ⟨(some 24), (.bin .eql (.t 23) (.c (.v (.int .i64 1)))), (some (22, true))⟩, ⟨(some 25), (.pick (.t 22) (.t 24) (.c (.v (.bool false)))), (some (19, false))⟩, ⟨(some 26), (.pick (.t 19) (.c (.v (.bool true))) (.t 25)), none⟩, ⟨(some 27), (.mv (.t 26)), none⟩, ⟨(some 28), (.mv (.t 6)), (some (27, false))⟩, ⟨(some 29), (.bin .gtr (.t 28) (.c (.v (.int .i64 0)))), (some (27, false))⟩, ⟨(some 30), (.mv (.t 29)), (some (27, false))⟩, ⟨(some 31), (.mv (.t 1)), (some (30, true))⟩, ⟨(some 32), (.bin .eql (.t 31) (.c (.v (.int .i64 2)))), (some (30, true))⟩, ⟨(some 33), (.pick (.t 30) (.t 32) (.c (.v (.bool false)))), (some (27, false))⟩, ⟨(some 34), (.pick (.t 27) (.c (.v (.bool true))) (.t 33)), none⟩]) (.cond (.t 34) 
  (.seq (.reg [] [⟨(some 35), (.bld [(.v (.int .i64 0)), (.v (.int .i64 0)), (.v (.int .i64 0)), (.v (.int .i64 0)), (.v (.int .i64 0)), (.v (.int .i64 0)), (.v (.int .i64 0)), (.v (.int .i64 0)), (.v (.int .i64 0)), (.v (.int .i64 0)), (.v (.int .i64 0)), (.v (.int .i64 0)), (.v (.int .i64 0)), (.v (.int .i64 0)), (.v (.int .i64 0)), (.v (.int .i64 0)), (.v (.int .i64 0)), (.v (.int .i64 0)), (.v (.int .i64 0)), (.v (.int .i64 0)), (.v (.int .i64 0)), (.v (.int .i64 0)), (.v (.int .i64 0)), (.v (.int .i64 0)), (.v (.int .i64 0)), (.v (.int .i64 0)), (.v (.int .i64 0)), (.v (.int .i64 0)), (.v (.int .i64 0)), (.v (.int .i64 0)), (.v (.int .i64 0)), (.v (.int .i64 0))] []), none⟩, ⟨none, (.st (.t 4) (.t 35) 32), none⟩, ⟨(some 5), (.mv (.c (.v (.bool false)))), none⟩]) .ret) .skip)) 
  (.seq 
  (.seq (.reg [] [⟨(some 36), (.mv (.t 6)), none⟩, ⟨(some 37), (.bin .lss (.t 36) (.c (.v (.int .i64 0)))), none⟩]) (.cond (.t 37) 
  (.seq (.reg [] [⟨(some 38), (.ixa (.t 2) (.c (.v (.int .i64 0))) 3 9), none⟩, ⟨(some 39), (.ld (.t 38) (some 9)), none⟩, ⟨(some 40), (.ixa (.t 2) (.c (.v (.int .i64 2))) 3 9), none⟩, ⟨(some 41), (.ld (.t 40) (some 9)), none⟩, ⟨(some 42), (.ixa (.t 2) (.c (.v (.int .i64 1))) 3 9), none⟩, ⟨(some 43), (.ld (.t 42) (some 9)), none⟩, ⟨(some 44), (.bld [(.v (.int .i64 0)), (.v (.int .i64 0)), (.v (.int .i64 0)), (.v (.int .i64 0)), (.v (.int .i64 0)), (.v (.int .i64 0)), (.v (.int .i64 0)), (.v (.int .i64 0)), (.v (.int .i64 0)), (.v (.int .i64 0)), (.v (.int .i64 0)), (.v (.int .i64 0)), (.v (.int .i64 0)), (.v (.int .i64 0)), (.v (.int .i64 0)), (.v (.int .i64 0)), (.v (.int .i64 0)), (.v (.int .i64 0)), (.v (.int .i64 0)), (.v (.int .i64 0)), (.v (.int .i64 0)), (.v (.int .i64 0)), (.v (.int .i64 0)), (.v (.int .i64 0)), (.v (.int .i64 0)), (.v (.int .i64 0)), (.v (.int .i64 0))] [(0, (9, (.t 39))), (9, (9, (.t 41))), (18, (9, (.t 43)))]), none⟩, ⟨none, (.st (.t 2) (.t 44) 27), none⟩]) (.reg [] [⟨(some 45), (.mv (.t 6)), none⟩, ⟨(some 46), (.bin .sub (.c (.v (.int .i64 0))) (.t 45)), none⟩, ⟨(some 6), (.mv (.t 46)), none⟩])) .skip)) 
  (.seq (.alt (.regM [(.p, ⟨(some 47), (.ld (.t 2) (some 27)), none⟩), (.p, ⟨(some 48), (.mv (.t 6)), none⟩), (.p, ⟨(some 49), (.ld (.t 2) (some 27)), none⟩), ((.r [2]), ⟨(some 50), (.call (.c (.f 47 [])) [(.t 49)]), none⟩)] [⟨(some 51), (.bld [(.v (.int .i64 0)), (.v (.int .i64 0)), (.v (.int .i64 0)), (.v (.int .i64 0)), (.v (.int .i64 0)), (.v (.int .i64 0)), (.v (.int .i64 0)), (.v (.int .i64 0)), (.v (.int .i64 0)), (.v (.int .i64 0)), (.v (.int .i64 0)), (.v (.int .i64 0)), (.v (.int .i64 0)), (.v (.int .i64 0)), (.v (.int .i64 0)), (.v (.int .i64 0)), (.v (.int .i64 0)), (.v (.int .i64 0)), (.v (.int .i64 0)), (.v (.int .i64 0)), (.v (.int .i64 0)), (.v (.int .i64 0)), (.v (.int .i64 0)), (.v (.int .i64 0)), (.v (.int .i64 0)), (.v (.int .i64 0)), (.v (.int .i64 0)), (.v (.int .i64 0)), (.v (.int .i64 0)), (.v (.int .i64 0)), (.v (.int .i64 0)), (.v (.int .i64 0))] [(0, (27, (.t 47))), (27, (1, (.t 48))), (28, (4, (.t 50)))]), none⟩, ⟨none, (.st (.t 4) (.t 51) 32), none⟩, ⟨(some 5), (.mv (.c (.v (.bool true)))), none⟩]) (.reg [⟨(some 47), (.ld (.t 2) (some 27)), none⟩, ⟨(some 48), (.mv (.t 6)), none⟩, ⟨(some 49), (.ld (.t 2) (some 27)), none⟩, ⟨(some 50), (.call (.c (.f 47 [])) [(.t 49)]), none⟩] [⟨(some 51), (.bld [(.v (.int .i64 0)), (.v (.int .i64 0)), (.v (.int .i64 0)), (.v (.int .i64 0)), (.v (.int .i64 0)), (.v (.int .i64 0)), (.v (.int .i64 0)), (.v (.int .i64 0)), (.v (.int .i64 0)), (.v (.int .i64 0)), (.v (.int .i64 0)), (.v (.int .i64 0)), (.v (.int .i64 0)), (.v (.int .i64 0)), (.v (.int .i64 0)), (.v (.int .i64 0)), (.v (.int .i64 0)), (.v (.int .i64 0)), (.v (.int .i64 0)), (.v (.int .i64 0)), (.v (.int .i64 0)), (.v (.int .i64 0)), (.v (.int .i64 0)), (.v (.int .i64 0)), (.v (.int .i64 0)), (.v (.int .i64 0)), (.v (.int .i64 0)), (.v (.int .i64 0)), (.v (.int .i64 0)), (.v (.int .i64 0)), (.v (.int .i64 0)), (.v (.int .i64 0))] [(0, (27, (.t 47))), (27, (1, (.t 48))), (28, (4, (.t 50)))]), none⟩, ⟨none, (.st (.t 4) (.t 51) 32), none⟩, ⟨(some 5), (.mv (.c (.v (.bool true)))), none⟩])) .ret))))), [(.cell 4 (some 32)), (.t 5)]⟩

def c24 : MF := ⟨2, 10, 
  (.seq (.reg [] [⟨(some 4), (.mv (.c (.v (.int .i64 0)))), none⟩]) 
  (.seq (.reg [] [⟨(some 5), (.mv (.t 0)), none⟩, ⟨(some 6), (.call (.c (.f 48 [])) [(.t 5)]), none⟩, ⟨(some 7), (.mv (.t 1)), none⟩, ⟨(some 8), (.call (.c (.f 48 [])) [(.t 7)]), none⟩, ⟨(some 9), (.bin .mul (.t 6) (.t 8)), none⟩, ⟨(some 4), (.mv (.t 9)), none⟩]) .ret)), [(.t 4)]⟩

def c25 : MF := ⟨2, 58, 
  (.seq (.reg [] [⟨(some 2), (.box (.t 0)), none⟩, ⟨(some 3), (.box (.t 1)), none⟩, ⟨(some 4), (.mv (.c (.v (.bool false)))), none⟩]) 
  (.seq 
  (.seq (.reg [] [⟨(some 8), (.fa (.t 2) 0), none⟩, ⟨(some 9), (.ld (.t 8) none), none⟩, ⟨(some 10), (.bin .eql (.t 9) (.c (.v (.int .i64 1)))), none⟩]) (.cond (.t 10) 
  (.seq (.reg [] [⟨(some 11), (.ld (.t 3) (some 4)), none⟩, ⟨(some 12), (.fa (.t 2) 84), none⟩, ⟨(some 13), (.ld (.t 12) (some 4)), none⟩, ⟨(some 14), (.call (.c (.f 50 [])) [(.t 11), (.t 13)]), none⟩, ⟨(some 15), (.call (.c (.f 49 [])) [(.t 14)]), none⟩, ⟨(some 16), (.un .not (.t 15)), none⟩, ⟨(some 4), (.mv (.t 16)), none⟩]) .ret) .skip)) 
  (.seq 
  (.seq (.alt (.regM [(.p, ⟨(some 17), (.ld (.t 3) (some 4)), none⟩), (.p, ⟨(some 18), (.fa (.t 2) 1), none⟩), (.p, ⟨(some 19), (.fa (.t 18) 28), none⟩), (.p, ⟨(some 20), (.ld (.t 19) (some 4)), none⟩), (.p, ⟨(some 21), (.fa (.t 2) 33), none⟩), (.p, ⟨(some 22), (.fa (.t 21) 20), none⟩), (.p, ⟨(some 23), (.ld (.t 22) (some 4)), none⟩), ((.r [1, 2, 3, 4, 5, 6]), ⟨(some 24), (.call (.c (.f 50 [])) [(.t 20), (.t 23)]), none⟩)] [⟨(some 25), (.call (.c (.f 50 [])) [(.t 17), (.t 24)]), none⟩, ⟨(some 26), (.call (.c (.f 49 [])) [(.t 25)]), none⟩]) (.reg [⟨(some 17), (.ld (.t 3) (some 4)), none⟩, ⟨(some 18), (.fa (.t 2) 1), none⟩, ⟨(some 19), (.fa (.t 18) 28), none⟩, ⟨(some 20), (.ld (.t 19) (some 4)), none⟩, ⟨(some 21), (.fa (.t 2) 33), none⟩, ⟨(some 22), (.fa (.t 21) 20), none⟩, ⟨(some 23), (.ld (.t 22) (some 4)), none⟩, ⟨(some 24), (.call (.c (.f 50 [])) [(.t 20), (.t 23)]), none⟩] [⟨(some 25), (.call (.c (.f 50 [])) [(.t 17), (.t 24)]), none⟩, ⟨(some 26), (.call (.c (.f 49 [])) [(.t 25)]), none⟩])) (.cond (.t 26) 
  (.seq (.reg [] [⟨(some 4), (.mv (.c (.v (.bool false)))), none⟩]) .ret) .skip)) 
  (.seq (.reg [] [⟨(some 27), (.fa (.t 2) 1), none⟩, ⟨(some 28), (.fa (.t 27) 0), none⟩, ⟨(some 29), (.ixa (.t 28) (.c (.v (.int .i64 0))) 3 9), none⟩, ⟨(some 30), (.fa (.t 29) 0), none⟩, ⟨(some 31), (.ld (.t 30) (some 2)), none⟩, ⟨(some 5), (.box (.c (.agg [(.v (.int .i64 0)), (.v (.int .i64 0))]))), none⟩, ⟨none, (.st (.t 5) (.t 31) 2), none⟩]) 
  (.seq (.reg [] [⟨(some 32), (.fa (.t 2) 1), none⟩, ⟨(some 33), (.fa (.t 32) 0), none⟩, ⟨(some 34), (.ixa (.t 33) (.c (.v (.int .i64 1))) 3 9), none⟩, ⟨(some 35), (.fa (.t 34) 0), none⟩, ⟨(some 36), (.ld (.t 35) (some 2)), none⟩, ⟨(some 6), (.box (.c (.agg [(.v (.int .i64 0)), (.v (.int .i64 0))]))), none⟩, ⟨none, (.st (.t 6) (.t 36) 2), none⟩]) 
  (.seq (.reg [] [⟨(some 37), (.fa (.t 2) 1), none⟩, ⟨(some 38), (.fa (.t 37) 0), none⟩, ⟨(some 39), (.ixa (.t 38) (.c (.v (.int .i64 2))) 3 9), none⟩, ⟨(some 40), (.fa (.t 39) 0), none⟩, ⟨(some 41), (.ld (.t 40) (some 2)), none⟩, ⟨(some 7), (.box (.c (.agg [(.v (.int .i64 0)), (.v (.int .i64 0))]))), none⟩, ⟨none, (.st (.t 7) (.t 41) 2), none⟩]) 
  (.seq (.reg [] [⟨(some 42), (.ld (.t 5) (some 2)), none⟩, ⟨(some 43), (.ld (.t 6) (some 2)), none⟩, ⟨(some 44), (.ld (.t 3) (some 4)), none⟩, ⟨(some 45), (.call (.c (.f 51 [])) [(.t 42), (.t 43), (.t 44)]), none⟩, ⟨(some 46), (.mv (.t 45)), none⟩, ⟨(some 47), (.ld (.t 6) (some 2)), (some (46, true))⟩, ⟨(some 48), (.ld (.t 7) (some 2)), (some (46, true))⟩, ⟨(some 49), (.ld (.t 3) (some 4)), (some (46, true))⟩, ⟨(some 50), (.call (.c (.f 51 [])) [(.t 47), (.t 48), (.t 49)]), (some (46, true))⟩, ⟨(some 51), (.pick (.t 46) (.t 50) (.c (.v (.bool false)))), none⟩, ⟨(some 52), (.mv (.t 51)), none⟩, ⟨(some 53), (.ld (.t 7) (some 2)), (some (52, true))⟩, ⟨(some 54), (.ld (.t 5) (some 2)), (some (52, true))⟩, ⟨(some 55), (.ld (.t 3) (some 4)), (some (52, true))⟩, ⟨(some 56), (.call (.c (.f 51 [])) [(.t 53), (.t 54), (.t 55)]), (some (52, true))⟩, ⟨(some 57), (.pick (.t 52) (.t 56) (.c (.v (.bool false)))), none⟩, ⟨(some 4), (.mv (.t 57)), none⟩]) .ret))))))), [(.t 4)]⟩

def c26 : MF := ⟨3, 30, 
  (.seq (.reg [] [⟨(some 6), (.box (.c (.agg [(.v (.int .i64 0)), (.v (.int .i64 0)), (.v (.int .i64 0)), (.v (.int .i64 0))]))), none⟩]) 
  (.seq (.reg [] [⟨(some 9), (.mv (.t 2)), none⟩, ⟨(some 10), (.mv (.t 0)), none⟩, ⟨(some 11), (.call (.c (.f 48 [])) [(.t 10)]), none⟩, ⟨(some 12), (.bin .rem (.t 9) (.t 11)), none⟩, ⟨(some 13), (.bin .mul (.t 12) (.c (.v (.int .i64 16)))), none⟩, ⟨(some 7), (.mv (.t 13)), none⟩]) 
  (.seq (.reg [] [⟨(some 14), (.mv (.t 2)), none⟩, ⟨(some 15), (.mv (.t 0)), none⟩, ⟨(some 16), (.call (.c (.f 48 [])) [(.t 15)]), none⟩, ⟨(some 17), (.bin .quo (.t 14) (.t 16)), none⟩, ⟨(some 18), (.bin .mul (.t 17) (.c (.v (.int .i64 16)))), none⟩, ⟨(some 8), (.mv (.t 18)), none⟩]) 
  (.seq (.reg [] [⟨(some 19), (.mv (.t 7)), none⟩, ⟨(some 20), (.mv (.t 8)), none⟩, ⟨(some 21), (.mv (.t 7)), none⟩, ⟨(some 22), (.bin .add (.t 21) (.c (.v (.int .i64 16)))), none⟩, ⟨(some 23), (.mv (.t 0)), none⟩, ⟨(some 24), (.call (.c (.f 52 [])) [(.t 22), (.t 23)]), none⟩, ⟨(some 25), (.mv (.t 8)), none⟩, ⟨(some 26), (.bin .add (.t 25) (.c (.v (.int .i64 16)))), none⟩, ⟨(some 27), (.mv (.t 1)), none⟩, ⟨(some 28), (.call (.c (.f 52 [])) [(.t 26), (.t 27)]), none⟩, ⟨(some 29), (.bld [(.v (.int .i64 0)), (.v (.int .i64 0)), (.v (.int .i64 0)), (.v (.int .i64 0))] [(0, (1, (.t 19))), (1, (1, (.t 20))), (2, (1, (.t 24))), (3, (1, (.t 28)))]), none⟩, ⟨none, (.st (.t 6) (.t 29) 4), none⟩]) .ret)))), [(.cell 6 (some 4))]⟩

def c27b0 : MC := 
  (.seq (.reg [] [⟨(some 11), (.bin .lss (.t 10) (.t 9)), none⟩]) 
  (.seq (.cond (.t 11) .skip (.exit 0)) 
  (.seq (.block 1 
  (.seq (.reg [] [⟨(some 12), (.ixs (.t 8) (.t 10) 1), none⟩, ⟨(some 13), (.ld (.t 12) none), none⟩, ⟨(some 7), (.mv (.t 13)), none⟩]) 
  (.seq 
  (.seq (.reg [] [⟨(some 14), (.mv (.t 7)), none⟩, ⟨(some 15), (.mv (.t 5)), none⟩, ⟨(some 16), (.bin .leq (.t 14) (.t 15)), none⟩, ⟨(some 17), (.mv (.t 16)), none⟩, ⟨(some 18), (.mv (.t 7)), (some (17, false))⟩, ⟨(some 19), (.mv (.t 1)), (some (17, false))⟩, ⟨(some 20), (.bin .geq (.t 18) (.t 19)), (some (17, false))⟩, ⟨(some 21), (.pick (.t 17) (.c (.v (.bool true))) (.t 20)), none⟩]) (.cond (.t 21) 
  (.seq (.reg [] [⟨(some 4), (.mv (.c (.v (.bool false)))), none⟩]) .ret) .skip)) (.reg [] [⟨(some 22), (.mv (.t 7)), none⟩, ⟨(some 5), (.mv (.t 22)), none⟩])))) (.reg [] [⟨(some 23), (.bin .add (.t 10) (.c (.v (.int .i64 1)))), none⟩, ⟨(some 10), (.mv (.t 23)), none⟩]))))

def c27 : MF := ⟨2, 24, 
  (.seq (.reg [] [⟨(some 4), (.mv (.c (.v (.bool false)))), none⟩]) 
  (.seq (.reg [] [⟨(some 5), (.mv (.c (.v (.int .i64 (-1))))), none⟩]) 
  (.seq 
  (.seq (.reg [] [⟨(some 8), (.mv (.t 0)), none⟩, ⟨(some 9), (.len (.t 8)), none⟩, ⟨(some 10), (.mv (.c (.v (.int .i64 0)))), none⟩]) (.block 0 
  (.loopN [23, 22, 4, 21, 20, 19, 18, 17, 16, 15, 14, 13, 12, 11] c27b0))) 
  (.seq (.reg [] [⟨(some 4), (.mv (.c (.v (.bool true)))), none⟩]) .ret)))), [(.t 4)]⟩

def c28 : MF := ⟨1, 8, 
  (.seq (.reg [] [⟨(some 2), (.mv (.c (.v (.slice none 0 0)))), none⟩]) 
  (.seq 
  (.seq (.reg [] [⟨(some 3), (.mv (.t 0)), none⟩, ⟨(some 4), (.eqn false 0 (.t 3)), none⟩]) (.cond (.t 4) 
  (.seq (.reg [] [⟨(some 2), (.mv (.c (.v (.slice none 0 0)))), none⟩]) .ret) .skip)) 
  (.seq (.reg [] [⟨(some 5), (.bsl [(.v (.int .i64 0))] 0 []), none⟩, ⟨(some 6), (.mv (.t 0)), none⟩, ⟨(some 7), (.app (.t 5) (.t 6) 1 8), none⟩, ⟨(some 2), (.mv (.t 7)), none⟩]) .ret))), [(.t 2)]⟩

def c29 : MF := ⟨1, 10, 
  (.seq (.reg [] [⟨(some 1), (.box (.t 0)), none⟩, ⟨(some 2), (.box (.c (.agg [(.v (.int .i64 0)), (.v (.int .i64 0)), (.v (.int .i64 0)), (.v (.int .i64 0)), (.v (.int .i64 0)), (.v (.int .i64 0)), (.v (.int .i64 0)), (.v (.int .i64 0)), (.v (.int .i64 0)), (.v (.int .i64 0)), (.v (.int .i64 0)), (.v (.int .i64 0)), (.v (.int .i64 0)), (.v (.int .i64 0)), (.v (.int .i64 0)), (.v (.int .i64 0)), (.v (.int .i64 0)), (.v (.int .i64 0)), (.v (.int .i64 0)), (.v (.int .i64 0)), (.v (.int .i64 0)), (.v (.int .i64 0)), (.v (.int .i64 0)), (.v (.int .i64 0)), (.v (.int .i64 0)), (.v (.int .i64 0)), (.v (.int .i64 0)), (.v (.int .i64 0)), (.v (.int .i64 0)), (.v (.int .i64 0)), (.v (.int .i64 0)), (.v (.int .i64 0)), (.v (.int .i64 0)), (.v (.int .i64 0)), (.v (.int .i64 0)), (.v (.int .i64 0)), (.v (.int .i64 0)), (.v (.int .i64 0)), (.v (.int .i64 0)), (.v (.int .i64 0)), (.v (.int .i64 0)), (.v (.int .i64 0)), (.v (.int .i64 0)), (.v (.int .i64 0)), (.v (.int .i64 0)), (.v (.int .i64 0)), (.v (.int .i64 0)), (.v (.int .i64 0)), (.v (.int .i64 0)), (.v (.int .i64 0)), (.v (.int .i64 0)), (.v (.int .i64 0)), (.v (.int .i64 0)), (.v (.int .i64 0)), (.v (.int .i64 0)), (.v (.int .i64 0)), (.v (.int .i64 0)), (.v (.int .i64 0)), (.v (.bool false)), (.v (.int .i64 0)), (.v (.int .i64 0)), (.v (.int .i64 0)), (.v (.int .i64 0)), (.v (.int .i64 0)), (.v (.int .i64 0)), (.v (.int .i64 0)), (.v (.int .i64 0)), (.v (.int .i64 0)), (.v (.int .i64 0)), (.v (.int .i64 0)), (.v (.int .i64 0)), (.v (.int .i64 0)), (.v (.int .i64 0)), (.v (.bool false)), (.v (.int .i64 0)), (.v (.int .i64 0)), (.v (.slice none 0 0)), (.v (.int .i64 0)), (.v (.int .i64 0)), (.v (.int .i64 0)), (.v (.int .i64 0)), (.v (.int .i64 0)), (.v (.int .i64 0)), (.v (.int .i64 0)), (.v (.int .i64 0)), (.v (.int .i64 0)), (.v (.int .i64 0)), (.v (.int .i64 0))]))), none⟩]) 
  (.seq (.reg [] [⟨(some 3), (.fa (.t 1) 74), none⟩, ⟨(some 4), (.fa (.t 3) 2), none⟩, ⟨(some 5), (.ld (.t 4) none), none⟩, ⟨(some 6), (.call (.c (.f 28 [])) [(.t 5)]), none⟩, ⟨(some 7), (.fa (.t 1) 74), none⟩, ⟨(some 8), (.fa (.t 7) 2), none⟩, ⟨none, (.st (.t 8) (.t 6) 1), none⟩]) 
  (.seq (.reg [] [⟨(some 9), (.ld (.t 1) (some 88)), none⟩, ⟨none, (.st (.t 2) (.t 9) 88), none⟩]) .ret))), [(.cell 2 (some 88))]⟩

def c30 : MF := ⟨2, 24, 
  (.seq (.reg [] [⟨(some 4), (.box (.c (.agg [(.v (.int .i64 0)), (.v (.int .i64 0)), (.v (.int .i64 0)), (.v (.int .i64 0))]))), none⟩, ⟨(some 5), (.mv (.c (.v (.int .i64 0)))), none⟩]) 
  (.seq 
  (.seq (.reg [] [⟨(some 6), (.mv (.t 0)), none⟩, ⟨(some 7), (.bin .lss (.t 6) (.c (.v (.int .i64 1)))), none⟩, ⟨(some 8), (.mv (.t 7)), none⟩, ⟨(some 9), (.mv (.t 0)), (some (8, false))⟩, ⟨(some 10), (.bin .gtr (.t 9) (.c (.v (.int .i64 256)))), (some (8, false))⟩, ⟨(some 11), (.pick (.t 8) (.c (.v (.bool true))) (.t 10)), none⟩, ⟨(some 12), (.mv (.t 11)), none⟩, ⟨(some 13), (.mv (.t 1)), (some (12, false))⟩, ⟨(some 14), (.bin .lss (.t 13) (.c (.v (.int .i64 1)))), (some (12, false))⟩, ⟨(some 15), (.pick (.t 12) (.c (.v (.bool true))) (.t 14)), none⟩, ⟨(some 16), (.mv (.t 15)), none⟩, ⟨(some 17), (.mv (.t 1)), (some (16, false))⟩, ⟨(some 18), (.bin .gtr (.t 17) (.c (.v (.int .i64 256)))), (some (16, false))⟩, ⟨(some 19), (.pick (.t 16) (.c (.v (.bool true))) (.t 18)), none⟩]) (.cond (.t 19) 
  (.seq (.reg [] [⟨(some 20), (.bld [(.v (.int .i64 0)), (.v (.int .i64 0)), (.v (.int .i64 0)), (.v (.int .i64 0))] []), none⟩, ⟨none, (.st (.t 4) (.t 20) 4), none⟩, ⟨(some 5), (.mv (.c (.v (.int .i64 3)))), none⟩]) .ret) .skip)) 
  (.seq (.reg [] [⟨(some 21), (.mv (.t 0)), none⟩, ⟨(some 22), (.mv (.t 1)), none⟩, ⟨(some 23), (.bld [(.v (.int .i64 0)), (.v (.int .i64 0)), (.v (.int .i64 0)), (.v (.int .i64 0))] [(2, (1, (.t 21))), (3, (1, (.t 22)))]), none⟩, ⟨none, (.st (.t 4) (.t 23) 4), none⟩, ⟨(some 5), (.mv (.c (.v (.int .i64 0)))), none⟩]) .ret))), [(.cell 4 (some 4)), (.t 5)]⟩

def c31 : MF := ⟨1, 32, 
  (.seq (.reg [] [⟨(some 1), (.box (.t 0)), none⟩, ⟨(some 2), (.mv (.c (.v (.int .i64 0)))), none⟩]) 
  (.seq (.alt (.regM [(.p, ⟨(some 3), (.fa (.t 1) 0), none⟩), (.p, ⟨(some 4), (.ld (.t 3) (some 16)), none⟩), ((.r [0, 1]), ⟨(some 5), (.call (.c (.f 54 [])) [(.t 4)]), none⟩), (.p, ⟨(some 6), (.fa (.t 1) 16), none⟩), (.p, ⟨(some 7), (.ld (.t 6) (some 4)), none⟩), ((.r [0, 1, 2, 3, 4]), ⟨(some 8), (.call (.c (.f 55 [])) [(.t 7)]), none⟩), (.p, ⟨(some 9), (.fa (.t 1) 20), none⟩), (.p, ⟨(some 10), (.ld (.t 9) (some 4)), none⟩), ((.r [0, 1, 2, 3, 4, 5, 6, 7]), ⟨(some 11), (.call (.c (.f 55 [])) [(.t 10)]), none⟩), (.p, ⟨(some 12), (.fa (.t 1) 24), none⟩), (.p, ⟨(some 13), (.ld (.t 12) none), none⟩), ((.r [0, 1, 2, 3, 4, 5, 6, 7, 8, 9, 10]), ⟨(some 14), (.call (.c (.f 56 [])) [(.t 13)]), none⟩), (.p, ⟨(some 15), (.fa (.t 1) 26), none⟩), (.p, ⟨(some 16), (.ld (.t 15) (some 7)), none⟩), ((.r [0, 1, 2, 3, 4, 5, 6, 7, 8, 9, 10, 11, 12, 13]), ⟨(some 17), (.call (.c (.f 57 [])) [(.t 16)]), none⟩), (.p, ⟨(some 18), (.fa (.t 1) 33), none⟩), (.p, ⟨(some 19), (.ld (.t 18) (some 4)), none⟩), ((.r [0, 1, 2, 3, 4, 5, 6, 7, 8, 9, 10, 11, 12, 13, 14, 15, 16]), ⟨(some 20), (.call (.c (.f 58 [])) [(.t 19)]), none⟩), (.p, ⟨(some 21), (.fa (.t 1) 37), none⟩), (.p, ⟨(some 22), (.ld (.t 21) none), none⟩), ((.r [0, 1, 2, 3, 4, 5, 6, 7, 8, 9, 10, 11, 12, 13, 14, 15, 16, 17, 18, 19]), ⟨(some 23), (.call (.c (.f 59 [])) [(.t 22)]), none⟩), (.p, ⟨(some 24), (.fa (.t 1) 38), none⟩), (.p, ⟨(some 25), (.ld (.t 24) none), none⟩), ((.r [0, 1, 2, 3, 4, 5, 6, 7, 8, 9, 10, 11, 12, 13, 14, 15, 16, 17, 18, 19, 20, 21, 22]), ⟨(some 26), (.call (.c (.f 60 [])) [(.t 25)]), none⟩), (.p, ⟨(some 27), (.fa (.t 1) 39), none⟩), (.p, ⟨(some 28), (.ld (.t 27) none), none⟩)] [⟨(some 29), (.call (.c (.f 59 [])) [(.t 28)]), none⟩, ⟨(some 30), (.bsl [(.v (.int .i64 0))] 9 [(0, (1, (.t 5))), (1, (1, (.t 8))), (2, (1, (.t 11))), (3, (1, (.t 14))), (4, (1, (.t 17))), (5, (1, (.t 20))), (6, (1, (.t 23))), (7, (1, (.t 26))), (8, (1, (.t 29)))]), none⟩, ⟨(some 31), (.call (.c (.f 53 [])) [(.t 30)]), none⟩, ⟨(some 2), (.mv (.t 31)), none⟩]) (.reg [⟨(some 3), (.fa (.t 1) 0), none⟩, ⟨(some 4), (.ld (.t 3) (some 16)), none⟩, ⟨(some 5), (.call (.c (.f 54 [])) [(.t 4)]), none⟩, ⟨(some 6), (.fa (.t 1) 16), none⟩, ⟨(some 7), (.ld (.t 6) (some 4)), none⟩, ⟨(some 8), (.call (.c (.f 55 [])) [(.t 7)]), none⟩, ⟨(some 9), (.fa (.t 1) 20), none⟩, ⟨(some 10), (.ld (.t 9) (some 4)), none⟩, ⟨(some 11), (.call (.c (.f 55 [])) [(.t 10)]), none⟩, ⟨(some 12), (.fa (.t 1) 24), none⟩, ⟨(some 13), (.ld (.t 12) none), none⟩, ⟨(some 14), (.call (.c (.f 56 [])) [(.t 13)]), none⟩, ⟨(some 15), (.fa (.t 1) 26), none⟩, ⟨(some 16), (.ld (.t 15) (some 7)), none⟩, ⟨(some 17), (.call (.c (.f 57 [])) [(.t 16)]), none⟩, ⟨(some 18), (.fa (.t 1) 33), none⟩, ⟨(some 19), (.ld (.t 18) (some 4)), none⟩, ⟨(some 20), (.call (.c (.f 58 [])) [(.t 19)]), none⟩, ⟨(some 21), (.fa (.t 1) 37), none⟩, ⟨(some 22), (.ld (.t 21) none), none⟩, ⟨(some 23), (.call (.c (.f 59 [])) [(.t 22)]), none⟩, ⟨(some 24), (.fa (.t 1) 38), none⟩, ⟨(some 25), (.ld (.t 24) none), none⟩, ⟨(some 26), (.call (.c (.f 60 [])) [(.t 25)]), none⟩, ⟨(some 27), (.fa (.t 1) 39), none⟩, ⟨(some 28), (.ld (.t 27) none), none⟩] [⟨(some 29), (.call (.c (.f 59 [])) [(.t 28)]), none⟩, ⟨(some 30), (.bsl [(.v (.int .i64 0))] 9 [(0, (1, (.t 5))), (1, (1, (.t 8))), (2, (1, (.t 11))), (3, (1, (.t 14))), (4, (1, (.t 17))), (5, (1, (.t 20))), (6, (1, (.t 23))), (7, (1, (.t 26))), (8, (1, (.t 29)))]), none⟩, ⟨(some 31), (.call (.c (.f 53 [])) [(.t 30)]), none⟩, ⟨(some 2), (.mv (.t 31)), none⟩])) .ret)), [(.t 2)]⟩

def c32b0 : MC := 
  (.seq (.reg [] [⟨(some 20), (.bin .lss (.t 19) (.c (.v (.int .i64 3)))), none⟩]) 
  (.seq (.cond (.t 20) .skip (.exit 0)) 
  (.seq (.block 1 
  (.seq (.reg [] [⟨(some 21), (.ix (.t 18) (.t 19) 3 9 (some 9)), none⟩, ⟨(some 8), (.box (.c (.agg [(.v (.int .i64 0)), (.v (.int .i64 0)), (.v (.int .i64 0)), (.v (.int .i64 0)), (.v (.int .i64 0)), (.v (.int .i64 0)), (.v (.int .i64 0)), (.v (.int .i64 0)), (.v (.int .i64 0))]))), none⟩, ⟨none, (.st (.t 8) (.t 21) 9), none⟩]) 
  (.seq (.reg [] [⟨(some 22), (.ld (.t 8) (some 9)), none⟩, ⟨(some 23), (.call (.c (.f 61 [])) [(.t 22)]), none⟩, ⟨(some 24), (.un .not (.t 23)), none⟩]) (.cond (.t 24) 
  (.seq (.reg [] [⟨(some 25), (.bld [(.v (.int .i64 0)), (.v (.int .i64 0)), (.v (.int .i64 0)), (.v (.int .i64 0)), (.v (.int .i64 0)), (.v (.int .i64 0)), (.v (.int .i64 0)), (.v (.int .i64 0)), (.v (.int .i64 0)), (.v (.int .i64 0)), (.v (.int .i64 0)), (.v (.int .i64 0)), (.v (.int .i64 0)), (.v (.int .i64 0)), (.v (.int .i64 0)), (.v (.int .i64 0)), (.v (.int .i64 0)), (.v (.int .i64 0)), (.v (.int .i64 0)), (.v (.int .i64 0)), (.v (.int .i64 0)), (.v (.int .i64 0)), (.v (.int .i64 0)), (.v (.int .i64 0)), (.v (.int .i64 0)), (.v (.int .i64 0)), (.v (.int .i64 0)), (.v (.int .i64 0)), (.v (.int .i64 0)), (.v (.int .i64 0)), (.v (.int .i64 0)), (.v (.int .i64 0))] []), none⟩, ⟨none, (.st (.t 4) (.t 25) 32), none⟩, ⟨(some 5), (.mv (.c (.v (.bool false)))), none⟩, ⟨(some 6), (.mv (.c (.v (.int .i64 3)))), none⟩]) .ret) .skip)))) (.reg [] [⟨(some 26), (.bin .add (.t 19) (.c (.v (.int .i64 1)))), none⟩, ⟨(some 19), (.mv (.t 26)), none⟩]))))

def c32 : MF := ⟨2, 79, 
  (.seq (.reg [] [⟨(some 2), (.box (.t 0)), none⟩, ⟨(some 4), (.box (.c (.agg [(.v (.int .i64 0)), (.v (.int .i64 0)), (.v (.int .i64 0)), (.v (.int .i64 0)), (.v (.int .i64 0)), (.v (.int .i64 0)), (.v (.int .i64 0)), (.v (.int .i64 0)), (.v (.int .i64 0)), (.v (.int .i64 0)), (.v (.int .i64 0)), (.v (.int .i64 0)), (.v (.int .i64 0)), (.v (.int .i64 0)), (.v (.int .i64 0)), (.v (.int .i64 0)), (.v (.int .i64 0)), (.v (.int .i64 0)), (.v (.int .i64 0)), (.v (.int .i64 0)), (.v (.int .i64 0)), (.v (.int .i64 0)), (.v (.int .i64 0)), (.v (.int .i64 0)), (.v (.int .i64 0)), (.v (.int .i64 0)), (.v (.int .i64 0)), (.v (.int .i64 0)), (.v (.int .i64 0)), (.v (.int .i64 0)), (.v (.int .i64 0)), (.v (.int .i64 0))]))), none⟩, ⟨(some 5), (.mv (.c (.v (.bool false)))), none⟩, ⟨(some 6), (.mv (.c (.v (.int .i64 0)))), none⟩]) 
  (.seq 
  (.seq (.reg [] [⟨(some 11), (.mv (.t 1)), none⟩, ⟨(some 12), (.bin .lss (.t 11) (.c (.v (.int .i64 0)))), none⟩, ⟨(some 13), (.mv (.t 12)), none⟩, ⟨(some 14), (.mv (.t 1)), (some (13, false))⟩, ⟨(some 15), (.bin .gtr (.t 14) (.c (.v (.int .i64 2)))), (some (13, false))⟩, ⟨(some 16), (.pick (.t 13) (.c (.v (.bool true))) (.t 15)), none⟩]) (.cond (.t 16) 
  (.seq (.reg [] [⟨(some 17), (.bld [(.v (.int .i64 0)), (.v (.int .i64 0)), (.v (.int .i64 0)), (.v (.int .i64 0)), (.v (.int .i64 0)), (.v (.int .i64 0)), (.v (.int .i64 0)), (.v (.int .i64 0)), (.v (.int .i64 0)), (.v (.int .i64 0)), (.v (.int .i64 0)), (.v (.int .i64 0)), (.v (.int .i64 0)), (.v (.int .i64 0)), (.v (.int .i64 0)), (.v (.int .i64 0)), (.v (.int .i64 0)), (.v (.int .i64 0)), (.v (.int .i64 0)), (.v (.int .i64 0)), (.v (.int .i64 0)), (.v (.int .i64 0)), (.v (.int .i64 0)), (.v (.int .i64 0)), (.v (.int .i64 0)), (.v (.int .i64 0)), (.v (.int .i64 0)), (.v (.int .i64 0)), (.v (.int .i64 0)), (.v (.int .i64 0)), (.v (.int .i64 0)), (.v (.int .i64 0))] []), none⟩, ⟨none, (.st (.t 4) (.t 17) 32), none⟩, ⟨(some 5), (.mv (.c (.v (.bool false)))), none⟩, ⟨(some 6), (.mv (.c (.v (.int .i64 9)))), none⟩]) .ret) .skip)) 
  (.seq 
  (.seq (.reg [] [⟨(some 18), (.ld (.t 2) (some 27)), none⟩, ⟨(some 19), (.mv (.c (.v (.int .i64 0)))), none⟩]) (.block 0 
  (.loopN [26, 6, 5, 25, 24, 23, 22, 21, 20] c32b0))) 
  (.seq (.reg [] [⟨(some 28), (.ixa (.t 2) (.c (.v (.int .i64 0))) 3 9), none⟩, ⟨(some 29), (.fa (.t 28) 0), none⟩, ⟨(some 30), (.ld (.t 29) (some 2)), none⟩, ⟨(some 31), (.ixa (.t 2) (.c (.v (.int .i64 1))) 3 9), none⟩, ⟨(some 32), (.fa (.t 31) 0), none⟩, ⟨(some 33), (.ld (.t 32) (some 2)), none⟩, ⟨(some 34), (.ixa (.t 2) (.c (.v (.int .i64 2))) 3 9), none⟩, ⟨(some 35), (.fa (.t 34) 0), none⟩, ⟨(some 36), (.ld (.t 35) (some 2)), none⟩, ⟨(some 37), (.call (.c (.f 36 [])) [(.t 30), (.t 33), (.t 36)]), none⟩, ⟨(some 27), (.mv (.t 37)), none⟩, ⟨(some 38), (.ext (.t 27) 0), none⟩, ⟨(some 39), (.ext (.t 27) 1), none⟩, ⟨(some 9), (.mv (.t 38)), none⟩, ⟨(some 10), (.mv (.t 39)), none⟩]) 
  (.seq 
  (.seq (.reg [] [⟨(some 40), (.mv (.t 10)), none⟩, ⟨(some 41), (.bin .neq (.t 40) (.c (.v (.int .i64 0)))), none⟩, ⟨(some 42), (.mv (.t 41)), none⟩, ⟨(some 43), (.mv (.t 9)), (some (42, false))⟩, ⟨(some 44), (.bin .eql (.t 43) (.c (.v (.int .i64 0)))), (some (42, false))⟩, ⟨(some 45), (.pick (.t 42) (.c (.v (.bool true))) (.t 44)), none⟩, ⟨(some 46), (.mv (.t 45)), none⟩, ⟨(some 47), (.mv (.t 9)), (some (46, false))⟩, ⟨(some 48), (.bin .lss (.t 47) (.c (.v (.int .i64 0)))), (some (46, false))⟩, ⟨(some 49), (.mv (.t 48)), (some (46, false))⟩, ⟨(some 50), (.mv (.t 1)), (some (49, true))⟩, ⟨(some 51), (.bin .eql (.t 50) (.c (.v (.int .i64 1)))), (some (49, true))⟩, ⟨(some 52), (.pick (.t 49) (.t 51) (.c (.v (.bool false)))), (some (46, false))⟩, ⟨(some 53), (.pick (.t 46) (.c (.v (.bool true))) (.t 52)), none⟩, ⟨(some 54), (.mv (.t 53)), none⟩, ⟨(some 55), (.mv (.t 9)), (some (54, false))⟩, ⟨(some 56), (.bin .gtr (.t 55) (.c (.v (.int .i64 0)))), (some (54, false))⟩, ⟨(some 57), (.mv (.t 56)), (some (54, false))⟩, ⟨(some 58), (.mv (.t 1)), (some (57, true))⟩, ⟨(some 59), (.bin .eql (.t 58) (.c (.v (.int .i64 2)))), (some (57, true))⟩, ⟨(some 60), (.pick (.t 57) (.t 59) (.c (.v (.bool false)))), (some (54, false))⟩, ⟨(some 61), (.pick (.t 54) (.c (.v (.bool true))) (.t 60)), none⟩]) (.cond (.t 61) 
  (.seq (.reg [] [⟨(some 62), (.bld [(.v (.int .i64 0)), (.v (.int .i64 0)), (.v (.int .i64 0)), (.v (.int .i64 0)), (.v (.int .i64 0)), (.v (.int .i64 0)), (.v (.int .i64 0)), (.v (.int .i64 0)), (.v (.int .i64 0)), (.v (.int .i64 0)), (.v (.int .i64 0)), (.v (.int .i64 0)), (.v (.int .i64 0)), (.v (.int .i64 0)), (.v (.int .i64 0)), (.v (.int .i64 0)), (.v (.int .i64 0)), (.v (.int .i64 0)), (.v (.int .i64 0)), (.v (.int .i64 0)), (.v (.int .i64 0)), (.v (.int .i64 0)), (.v (.int .i64 0)), (.v (.int .i64 0)), (.v (.int .i64 0)), (.v (.int .i64 0)), (.v (.int .i64 0)), (.v (.int .i64 0)), (.v (.int .i64 0)), (.v (.int .i64 0)), (.v (.int .i64 0)), (.v (.int .i64 0))] []), none⟩, ⟨(some 63), (.mv (.t 10)), none⟩, ⟨none, (.st (.t 4) (.t 62) 32), none⟩, ⟨(some 5), (.mv (.c (.v (.bool false)))), none⟩, ⟨(some 6), (.mv (.t 63)), none⟩]) .ret) .skip)) 
  (.seq 
  (.seq (.reg [] [⟨(some 64), (.mv (.t 9)), none⟩, ⟨(some 65), (.bin .lss (.t 64) (.c (.v (.int .i64 0)))), none⟩]) (.cond (.t 65) 
  (.seq (.reg [] [⟨(some 66), (.ixa (.t 2) (.c (.v (.int .i64 2))) 3 9), none⟩, ⟨(some 67), (.ld (.t 66) (some 9)), none⟩, ⟨(some 68), (.ixa (.t 2) (.c (.v (.int .i64 1))) 3 9), none⟩, ⟨(some 69), (.ld (.t 68) (some 9)), none⟩, ⟨(some 70), (.ixa (.t 2) (.c (.v (.int .i64 1))) 3 9), none⟩, ⟨none, (.st (.t 70) (.t 67) 9), none⟩, ⟨(some 71), (.ixa (.t 2) (.c (.v (.int .i64 2))) 3 9), none⟩, ⟨none, (.st (.t 71) (.t 69) 9), none⟩]) (.reg [] [⟨(some 72), (.mv (.t 9)), none⟩, ⟨(some 73), (.un .neg (.t 72)), none⟩, ⟨(some 9), (.mv (.t 73)), none⟩])) .skip)) 
  (.seq (.alt (.regM [(.p, ⟨(some 74), (.ld (.t 2) (some 27)), none⟩), (.p, ⟨(some 75), (.mv (.t 9)), none⟩), (.p, ⟨(some 76), (.ld (.t 2) (some 27)), none⟩), ((.r [2]), ⟨(some 77), (.call (.c (.f 62 [])) [(.t 76)]), none⟩)] [⟨(some 78), (.bld [(.v (.int .i64 0)), (.v (.int .i64 0)), (.v (.int .i64 0)), (.v (.int .i64 0)), (.v (.int .i64 0)), (.v (.int .i64 0)), (.v (.int .i64 0)), (.v (.int .i64 0)), (.v (.int .i64 0)), (.v (.int .i64 0)), (.v (.int .i64 0)), (.v (.int .i64 0)), (.v (.int .i64 0)), (.v (.int .i64 0)), (.v (.int .i64 0)), (.v (.int .i64 0)), (.v (.int .i64 0)), (.v (.int .i64 0)), (.v (.int .i64 0)), (.v (.int .i64 0)), (.v (.int .i64 0)), (.v (.int .i64 0)), (.v (.int .i64 0)), (.v (.int .i64 0)), (.v (.int .i64 0)), (.v (.int .i64 0)), (.v (.int .i64 0)), (.v (.int .i64 0)), (.v (.int .i64 0)), (.v (.int .i64 0)), (.v (.int .i64 0)), (.v (.int .i64 0))] [(0, (27, (.t 74))), (27, (1, (.t 75))), (28, (4, (.t 77)))]), none⟩, ⟨none, (.st (.t 4) (.t 78) 32), none⟩, ⟨(some 5), (.mv (.c (.v (.bool true)))), none⟩, ⟨(some 6), (.mv (.c (.v (.int .i64 0)))), none⟩]) (.reg [⟨(some 74), (.ld (.t 2) (some 27)), none⟩, ⟨(some 75), (.mv (.t 9)), none⟩, ⟨(some 76), (.ld (.t 2) (some 27)), none⟩, ⟨(some 77), (.call (.c (.f 62 [])) [(.t 76)]), none⟩] [⟨(some 78), (.bld [(.v (.int .i64 0)), (.v (.int .i64 0)), (.v (.int .i64 0)), (.v (.int .i64 0)), (.v (.int .i64 0)), (.v (.int .i64 0)), (.v (.int .i64 0)), (.v (.int .i64 0)), (.v (.int .i64 0)), (.v (.int .i64 0)), (.v (.int .i64 0)), (.v (.int .i64 0)), (.v (.int .i64 0)), (.v (.int .i64 0)), (.v (.int .i64 0)), (.v (.int .i64 0)), (.v (.int .i64 0)), (.v (.int .i64 0)), (.v (.int .i64 0)), (.v (.int .i64 0)), (.v (.int .i64 0)), (.v (.int .i64 0)), (.v (.int .i64 0)), (.v (.int .i64 0)), (.v (.int .i64 0)), (.v (.int .i64 0)), (.v (.int .i64 0)), (.v (.int .i64 0)), (.v (.int .i64 0)), (.v (.int .i64 0)), (.v (.int .i64 0)), (.v (.int .i64 0))] [(0, (27, (.t 74))), (27, (1, (.t 75))), (28, (4, (.t 77)))]), none⟩, ⟨none, (.st (.t 4) (.t 78) 32), none⟩, ⟨(some 5), (.mv (.c (.v (.bool true)))), none⟩, ⟨(some 6), (.mv (.c (.v (.int .i64 0)))), none⟩])) .ret))))))), [(.cell 4 (some 32)), (.t 5), (.t 6)]⟩

def c33 : MF := ⟨1, 21, 
  (.seq (.reg [] [⟨(some 1), (.box (.t 0)), none⟩, ⟨(some 2), (.mv (.c (.v (.bool false)))), none⟩]) 
  (.seq (.reg [] [⟨(some 3), (.fa (.t 1) 0), none⟩, ⟨(some 4), (.ld (.t 3) (some 4)), none⟩, ⟨(some 5), (.call (.c (.f 63 [])) [(.t 4)]), none⟩, ⟨(some 6), (.mv (.t 5)), none⟩, ⟨(some 7), (.fa (.t 1) 4), (some (6, true))⟩, ⟨(some 8), (.ld (.t 7) none), (some (6, true))⟩, ⟨(some 9), (.call (.c (.f 64 [])) [(.t 8)]), (some (6, true))⟩, ⟨(some 10), (.pick (.t 6) (.t 9) (.c (.v (.bool false)))), none⟩, ⟨(some 11), (.mv (.t 10)), none⟩, ⟨(some 12), (.fa (.t 1) 5), (some (11, true))⟩, ⟨(some 13), (.ld (.t 12) none), (some (11, true))⟩, ⟨(some 14), (.bin .geq (.t 13) (.c (.v (.int .i64 0)))), (some (11, true))⟩, ⟨(some 15), (.pick (.t 11) (.t 14) (.c (.v (.bool false)))), none⟩, ⟨(some 16), (.mv (.t 15)), none⟩, ⟨(some 17), (.fa (.t 1) 5), (some (16, true))⟩, ⟨(some 18), (.ld (.t 17) none), (some (16, true))⟩, ⟨(some 19), (.bin .leq (.t 18) (.c (.v (.int .i64 255)))), (some (16, true))⟩, ⟨(some 20), (.pick (.t 16) (.t 19) (.c (.v (.bool false)))), none⟩, ⟨(some 2), (.mv (.t 20)), none⟩]) .ret)), [(.t 2)]⟩

def c34 : MF := ⟨1, 15, 
  (.seq (.reg [] [⟨(some 1), (.box (.t 0)), none⟩, ⟨(some 2), (.mv (.c (.v (.bool false)))), none⟩]) 
  (.seq (.reg [] [⟨(some 3), (.fa (.t 1) 0), none⟩, ⟨(some 4), (.ld (.t 3) none), none⟩, ⟨(some 5), (.fa (.t 1) 2), none⟩, ⟨(some 6), (.ld (.t 5) none), none⟩, ⟨(some 7), (.bin .geq (.t 4) (.t 6)), none⟩, ⟨(some 8), (.mv (.t 7)), none⟩, ⟨(some 9), (.fa (.t 1) 1), (some (8, false))⟩, ⟨(some 10), (.ld (.t 9) none), (some (8, false))⟩, ⟨(some 11), (.fa (.t 1) 3), (some (8, false))⟩, ⟨(some 12), (.ld (.t 11) none), (some (8, false))⟩, ⟨(some 13), (.bin .geq (.t 10) (.t 12)), (some (8, false))⟩, ⟨(some 14), (.pick (.t 8) (.c (.v (.bool true))) (.t 13)), none⟩, ⟨(some 2), (.mv (.t 14)), none⟩]) .ret)), [(.t 2)]⟩

def c35 : MF := ⟨2, 28, 
  (.seq (.reg [] [⟨(some 4), (.box (.c (.agg [(.v (.int .i64 0)), (.v (.int .i64 0))]))), none⟩, ⟨(some 5), (.mv (.c (.v (.int .i64 0)))), none⟩]) 
  (.seq 
  (.seq (.reg [] [⟨(some 6), (.mv (.t 0)), none⟩, ⟨(some 7), (.bin .lss (.t 6) (.c (.v (.int .i64 (-32768))))), none⟩, ⟨(some 8), (.mv (.t 7)), none⟩, ⟨(some 9), (.mv (.t 0)), (some (8, false))⟩, ⟨(some 10), (.bin .geq (.t 9) (.c (.v (.int .i64 32768)))), (some (8, false))⟩, ⟨(some 11), (.pick (.t 8) (.c (.v (.bool true))) (.t 10)), none⟩, ⟨(some 12), (.mv (.t 11)), none⟩, ⟨(some 13), (.mv (.t 1)), (some (12, false))⟩, ⟨(some 14), (.bin .lss (.t 13) (.c (.v (.int .i64 (-32768))))), (some (12, false))⟩, ⟨(some 15), (.pick (.t 12) (.c (.v (.bool true))) (.t 14)), none⟩, ⟨(some 16), (.mv (.t 15)), none⟩, ⟨(some 17), (.mv (.t 1)), (some (16, false))⟩, ⟨(some 18), (.bin .geq (.t 17) (.c (.v (.int .i64 32768)))), (some (16, false))⟩, ⟨(some 19), (.pick (.t 16) (.c (.v (.bool true))) (.t 18)), none⟩]) (.cond (.t 19) 
  (.seq (.reg [] [⟨(some 20), (.bld [(.v (.int .i64 0)), (.v (.int .i64 0))] []), none⟩, ⟨none, (.st (.t 4) (.t 20) 2), none⟩, ⟨(some 5), (.mv (.c (.v (.int .i64 3)))), none⟩]) .ret) .skip)) 
  (.seq (.reg [] [⟨(some 21), (.mv (.t 0)), none⟩, ⟨(some 22), (.bin .mul (.t 21) (.c (.v (.int .i64 16)))), none⟩, ⟨(some 23), (.bin .add (.t 22) (.c (.v (.int .i64 8)))), none⟩, ⟨(some 24), (.mv (.t 1)), none⟩, ⟨(some 25), (.bin .mul (.t 24) (.c (.v (.int .i64 16)))), none⟩, ⟨(some 26), (.bin .add (.t 25) (.c (.v (.int .i64 8)))), none⟩, ⟨(some 27), (.bld [(.v (.int .i64 0)), (.v (.int .i64 0))] [(0, (1, (.t 23))), (1, (1, (.t 26)))]), none⟩, ⟨none, (.st (.t 4) (.t 27) 2), none⟩, ⟨(some 5), (.mv (.c (.v (.int .i64 0)))), none⟩]) .ret))), [(.cell 4 (some 2)), (.t 5)]⟩

def c36 : MF := ⟨3, 18, 
  (.seq (.reg [] [⟨(some 3), (.box (.t 0)), none⟩, ⟨(some 4), (.box (.t 1)), none⟩, ⟨(some 5), (.box (.t 2)), none⟩, ⟨(some 6), (.mv (.c (.v (.int .i64 0)))), none⟩, ⟨(some 7), (.mv (.c (.v (.int .i64 0)))), none⟩]) 
  (.seq 
  (.seq (.reg [] [⟨(some 8), (.ld (.t 3) (some 2)), none⟩, ⟨(some 9), (.ld (.t 4) (some 2)), none⟩, ⟨(some 10), (.ld (.t 5) (some 2)), none⟩, ⟨(some 11), (.bsl [(.v (.int .i64 0)), (.v (.int .i64 0))] 3 [(0, (2, (.t 8))), (2, (2, (.t 9))), (4, (2, (.t 10)))]), none⟩, ⟨(some 12), (.call (.c (.f 65 [])) [(.t 11)]), none⟩, ⟨(some 13), (.un .not (.t 12)), none⟩]) (.cond (.t 13) 
  (.seq (.reg [] [⟨(some 6), (.mv (.c (.v (.int .i64 0)))), none⟩, ⟨(some 7), (.mv (.c (.v (.int .i64 3)))), none⟩]) .ret) .skip)) 
  (.seq (.reg [] [⟨(some 14), (.ld (.t 3) (some 2)), none⟩, ⟨(some 15), (.ld (.t 4) (some 2)), none⟩, ⟨(some 16), (.ld (.t 5) (some 2)), none⟩, ⟨(some 17), (.call (.c (.f 66 [])) [(.t 14), (.t 15), (.t 16)]), none⟩, ⟨(some 6), (.mv (.t 17)), none⟩, ⟨(some 7), (.mv (.c (.v (.int .i64 0)))), none⟩]) .ret))), [(.t 6), (.t 7)]⟩

def c37 : MF := ⟨1, 21, 
  (.seq (.reg [] [⟨(some 1), (.box (.t 0)), none⟩, ⟨(some 2), (.mv (.c (.v (.bool false)))), none⟩]) 
  (.seq (.reg [] [⟨(some 3), (.fa (.t 1) 0), none⟩, ⟨(some 4), (.ld (.t 3) none), none⟩, ⟨(some 5), (.call (.c (.f 67 [])) [(.t 4)]), none⟩, ⟨(some 6), (.mv (.t 5)), none⟩, ⟨(some 7), (.fa (.t 1) 1), (some (6, true))⟩, ⟨(some 8), (.ld (.t 7) none), (some (6, true))⟩, ⟨(some 9), (.call (.c (.f 67 [])) [(.t 8)]), (some (6, true))⟩, ⟨(some 10), (.pick (.t 6) (.t 9) (.c (.v (.bool false)))), none⟩, ⟨(some 11), (.mv (.t 10)), none⟩, ⟨(some 12), (.fa (.t 1) 2), (some (11, true))⟩, ⟨(some 13), (.ld (.t 12) none), (some (11, true))⟩, ⟨(some 14), (.call (.c (.f 67 [])) [(.t 13)]), (some (11, true))⟩, ⟨(some 15), (.pick (.t 11) (.t 14) (.c (.v (.bool false)))), none⟩, ⟨(some 16), (.mv (.t 15)), none⟩, ⟨(some 17), (.fa (.t 1) 3), (some (16, true))⟩, ⟨(some 18), (.ld (.t 17) none), (some (16, true))⟩, ⟨(some 19), (.call (.c (.f 67 [])) [(.t 18)]), (some (16, true))⟩, ⟨(some 20), (.pick (.t 16) (.t 19) (.c (.v (.bool false)))), none⟩, ⟨(some 2), (.mv (.t 20)), none⟩]) .ret)), [(.t 2)]⟩

def c38 : MF := ⟨1, 9, 
  (.seq (.reg [] [⟨(some 2), (.mv (.c (.v (.bool false)))), none⟩]) 
  (.seq (.reg [] [⟨(some 3), (.mv (.t 0)), none⟩, ⟨(some 4), (.bin .geq (.t 3) (.c (.v (.int .i64 0)))), none⟩, ⟨(some 5), (.mv (.t 4)), none⟩, ⟨(some 6), (.mv (.t 0)), (some (5, true))⟩, ⟨(some 7), (.bin .leq (.t 6) (.c (.v (.int .i64 65535)))), (some (5, true))⟩, ⟨(some 8), (.pick (.t 5) (.t 7) (.c (.v (.bool false)))), none⟩, ⟨(some 2), (.mv (.t 8)), none⟩]) .ret)), [(.t 2)]⟩

def c39 : MF := ⟨1, 9, 
  (.seq (.reg [] [⟨(some 2), (.mv (.c (.v (.bool false)))), none⟩]) 
  (.seq (.reg [] [⟨(some 3), (.mv (.t 0)), none⟩, ⟨(some 4), (.bin .geq (.t 3) (.c (.v (.int .i64 0)))), none⟩, ⟨(some 5), (.mv (.t 4)), none⟩, ⟨(some 6), (.mv (.t 0)), (some (5, true))⟩, ⟨(some 7), (.bin .leq (.t 6) (.c (.v (.int .i64 255)))), (some (5, true))⟩, ⟨(some 8), (.pick (.t 5) (.t 7) (.c (.v (.bool false)))), none⟩, ⟨(some 2), (.mv (.t 8)), none⟩]) .ret)), [(.t 2)]⟩

def c40b0 : MC := 
  (.seq 
  (.seq (.reg [] [⟨(some 4), (.mv (.t 3)), none⟩, ⟨(some 5), (.bin .lss (.t 4) (.c (.v (.int .i64 16)))), none⟩]) (.cond (.t 5) .skip (.exit 0))) 
  (.seq (.block 1 
  (.seq (.reg [] [⟨(some 8), (.mv (.t 3)), none⟩, ⟨(some 9), (.ixa (.t 1) (.t 8) 16 1), none⟩, ⟨(some 10), (.ld (.t 9) none), none⟩, ⟨(some 11), (.call (.c (.f 68 [])) [(.t 10), (.c (.v (.int .i64 16777216)))]), none⟩, ⟨(some 12), (.un .not (.t 11)), none⟩]) (.cond (.t 12) 
  (.seq (.reg [] [⟨(some 2), (.mv (.c (.v (.bool false)))), none⟩]) .ret) .skip))) (.reg [] [⟨(some 6), (.mv (.t 3)), none⟩, ⟨(some 7), (.bin .add (.t 6) (.c (.v (.int .i64 1)))), none⟩, ⟨(some 3), (.mv (.t 7)), none⟩])))

def c40 : MF := ⟨1, 13, 
  (.seq (.reg [] [⟨(some 1), (.box (.t 0)), none⟩, ⟨(some 2), (.mv (.c (.v (.bool false)))), none⟩]) 
  (.seq 
  (.seq (.reg [] [⟨(some 3), (.mv (.c (.v (.int .i64 0)))), none⟩]) (.block 0 
  (.loopN [7, 6, 2, 12, 11, 10, 9, 8, 5, 4] c40b0))) 
  (.seq (.reg [] [⟨(some 2), (.mv (.c (.v (.bool true)))), none⟩]) .ret))), [(.t 2)]⟩

def c41 : MF := ⟨1, 49, 
  (.seq (.reg [] [⟨(some 1), (.box (.t 0)), none⟩, ⟨(some 2), (.mv (.c (.v (.bool false)))), none⟩]) 
  (.seq 
  (.seq (.reg [] [⟨(some 3), (.fa (.t 1) 0), none⟩, ⟨(some 4), (.ld (.t 3) none), none⟩, ⟨(some 5), (.bin .lss (.t 4) (.c (.v (.int .i64 (-4096))))), none⟩, ⟨(some 6), (.mv (.t 5)), none⟩, ⟨(some 7), (.fa (.t 1) 0), (some (6, false))⟩, ⟨(some 8), (.ld (.t 7) none), (some (6, false))⟩, ⟨(some 9), (.bin .gtr (.t 8) (.c (.v (.int .i64 4096)))), (some (6, false))⟩, ⟨(some 10), (.pick (.t 6) (.c (.v (.bool true))) (.t 9)), none⟩, ⟨(some 11), (.mv (.t 10)), none⟩, ⟨(some 12), (.fa (.t 1) 1), (some (11, false))⟩, ⟨(some 13), (.ld (.t 12) none), (some (11, false))⟩, ⟨(some 14), (.bin .lss (.t 13) (.c (.v (.int .i64 (-4096))))), (some (11, false))⟩, ⟨(some 15), (.pick (.t 11) (.c (.v (.bool true))) (.t 14)), none⟩, ⟨(some 16), (.mv (.t 15)), none⟩, ⟨(some 17), (.fa (.t 1) 1), (some (16, false))⟩, ⟨(some 18), (.ld (.t 17) none), (some (16, false))⟩, ⟨(some 19), (.bin .gtr (.t 18) (.c (.v (.int .i64 4096)))), (some (16, false))⟩, ⟨(some 20), (.pick (.t 16) (.c (.v (.bool true))) (.t 19)), none⟩]) (.cond (.t 20) 
  (.seq (.reg [] [⟨(some 2), (.mv (.c (.v (.bool false)))), none⟩]) .ret) .skip)) 
  (.seq (.reg [] [⟨(some 21), (.fa (.t 1) 2), none⟩, ⟨(some 22), (.ld (.t 21) none), none⟩, ⟨(some 23), (.fa (.t 1) 0), none⟩, ⟨(some 24), (.ld (.t 23) none), none⟩, ⟨(some 25), (.bin .geq (.t 22) (.t 24)), none⟩, ⟨(some 26), (.mv (.t 25)), none⟩, ⟨(some 27), (.fa (.t 1) 2), (some (26, true))⟩, ⟨(some 28), (.ld (.t 27) none), (some (26, true))⟩, ⟨(some 29), (.fa (.t 1) 0), (some (26, true))⟩, ⟨(some 30), (.ld (.t 29) none), (some (26, true))⟩, ⟨(some 31), (.bin .add (.t 30) (.c (.v (.int .i64 4096)))), (some (26, true))⟩, ⟨(some 32), (.bin .leq (.t 28) (.t 31)), (some (26, true))⟩, ⟨(some 33), (.pick (.t 26) (.t 32) (.c (.v (.bool false)))), none⟩, ⟨(some 34), (.mv (.t 33)), none⟩, ⟨(some 35), (.fa (.t 1) 3), (some (34, true))⟩, ⟨(some 36), (.ld (.t 35) none), (some (34, true))⟩, ⟨(some 37), (.fa (.t 1) 1), (some (34, true))⟩, ⟨(some 38), (.ld (.t 37) none), (some (34, true))⟩, ⟨(some 39), (.bin .geq (.t 36) (.t 38)), (some (34, true))⟩, ⟨(some 40), (.pick (.t 34) (.t 39) (.c (.v (.bool false)))), none⟩, ⟨(some 41), (.mv (.t 40)), none⟩, ⟨(some 42), (.fa (.t 1) 3), (some (41, true))⟩, ⟨(some 43), (.ld (.t 42) none), (some (41, true))⟩, ⟨(some 44), (.fa (.t 1) 1), (some (41, true))⟩, ⟨(some 45), (.ld (.t 44) none), (some (41, true))⟩, ⟨(some 46), (.bin .add (.t 45) (.c (.v (.int .i64 4096)))), (some (41, true))⟩, ⟨(some 47), (.bin .leq (.t 43) (.t 46)), (some (41, true))⟩, ⟨(some 48), (.pick (.t 41) (.t 47) (.c (.v (.bool false)))), none⟩, ⟨(some 2), (.mv (.t 48)), none⟩]) .ret))), [(.t 2)]⟩

def c42 : MF := ⟨1, 9, 
  (.seq (.reg [] [⟨(some 2), (.mv (.c (.v (.bool false)))), none⟩]) 
  (.seq (.reg [] [⟨(some 3), (.mv (.t 0)), none⟩, ⟨(some 4), (.bin .geq (.t 3) (.c (.v (.int .i64 0)))), none⟩, ⟨(some 5), (.mv (.t 4)), none⟩, ⟨(some 6), (.mv (.t 0)), (some (5, true))⟩, ⟨(some 7), (.bin .leq (.t 6) (.c (.v (.int .i64 7)))), (some (5, true))⟩, ⟨(some 8), (.pick (.t 5) (.t 7) (.c (.v (.bool false)))), none⟩, ⟨(some 2), (.mv (.t 8)), none⟩]) .ret)), [(.t 2)]⟩

def c43 : MF := ⟨1, 41, 
  (.seq (.reg [] [⟨(some 1), (.box (.t 0)), none⟩, ⟨(some 2), (.mv (.c (.v (.int .i64 0)))), none⟩]) 
  (.seq 
  (.seq (.reg [] [⟨(some 3), (.fa (.t 1) 0), none⟩, ⟨(some 4), (.ld (.t 3) none), none⟩, ⟨(some 5), (.call (.c (.f 42 [])) [(.t 4)]), none⟩, ⟨(some 6), (.un .not (.t 5)), none⟩, ⟨(some 7), (.mv (.t 6)), none⟩, ⟨(some 8), (.fa (.t 1) 4), (some (7, false))⟩, ⟨(some 9), (.ld (.t 8) none), (some (7, false))⟩, ⟨(some 10), (.call (.c (.f 42 [])) [(.t 9)]), (some (7, false))⟩, ⟨(some 11), (.un .not (.t 10)), (some (7, false))⟩, ⟨(some 12), (.pick (.t 7) (.c (.v (.bool true))) (.t 11)), none⟩, ⟨(some 13), (.mv (.t 12)), none⟩, ⟨(some 14), (.fa (.t 1) 5), (some (13, false))⟩, ⟨(some 15), (.ld (.t 14) none), (some (13, false))⟩, ⟨(some 16), (.call (.c (.f 42 [])) [(.t 15)]), (some (13, false))⟩, ⟨(some 17), (.un .not (.t 16)), (some (13, false))⟩, ⟨(some 18), (.pick (.t 13) (.c (.v (.bool true))) (.t 17)), none⟩, ⟨(some 19), (.mv (.t 18)), none⟩, ⟨(some 20), (.fa (.t 1) 6), (some (19, false))⟩, ⟨(some 21), (.ld (.t 20) none), (some (19, false))⟩, ⟨(some 22), (.call (.c (.f 42 [])) [(.t 21)]), (some (19, false))⟩, ⟨(some 23), (.un .not (.t 22)), (some (19, false))⟩, ⟨(some 24), (.pick (.t 19) (.c (.v (.bool true))) (.t 23)), none⟩]) (.cond (.t 24) 
  (.seq (.reg [] [⟨(some 2), (.mv (.c (.v (.int .i64 9)))), none⟩]) .ret) .skip)) 
  (.seq 
  (.seq (.reg [] [⟨(some 25), (.fa (.t 1) 1), none⟩, ⟨(some 26), (.ld (.t 25) none), none⟩, ⟨(some 27), (.call (.c (.f 39 [])) [(.t 26)]), none⟩, ⟨(some 28), (.un .not (.t 27)), none⟩, ⟨(some 29), (.mv (.t 28)), none⟩, ⟨(some 30), (.fa (.t 1) 2), (some (29, false))⟩, ⟨(some 31), (.ld (.t 30) none), (some (29, false))⟩, ⟨(some 32), (.call (.c (.f 39 [])) [(.t 31)]), (some (29, false))⟩, ⟨(some 33), (.un .not (.t 32)), (some (29, false))⟩, ⟨(some 34), (.pick (.t 29) (.c (.v (.bool true))) (.t 33)), none⟩, ⟨(some 35), (.mv (.t 34)), none⟩, ⟨(some 36), (.fa (.t 1) 3), (some (35, false))⟩, ⟨(some 37), (.ld (.t 36) none), (some (35, false))⟩, ⟨(some 38), (.call (.c (.f 39 [])) [(.t 37)]), (some (35, false))⟩, ⟨(some 39), (.un .not (.t 38)), (some (35, false))⟩, ⟨(some 40), (.pick (.t 35) (.c (.v (.bool true))) (.t 39)), none⟩]) (.cond (.t 40) 
  (.seq (.reg [] [⟨(some 2), (.mv (.c (.v (.int .i64 3)))), none⟩]) .ret) .skip)) 
  (.seq (.reg [] [⟨(some 2), (.mv (.c (.v (.int .i64 0)))), none⟩]) .ret)))), [(.t 2)]⟩

def c44 : MF := ⟨1, 39, 
  (.seq (.reg [] [⟨(some 1), (.box (.t 0)), none⟩, ⟨(some 2), (.mv (.c (.v (.int .i64 0)))), none⟩]) 
  (.seq 
  (.seq (.reg [] [⟨(some 3), (.fa (.t 1) 0), none⟩, ⟨(some 4), (.ld (.t 3) none), none⟩, ⟨(some 5), (.bin .lss (.t 4) (.c (.v (.int .i64 0)))), none⟩, ⟨(some 6), (.mv (.t 5)), none⟩, ⟨(some 7), (.fa (.t 1) 0), (some (6, false))⟩, ⟨(some 8), (.ld (.t 7) none), (some (6, false))⟩, ⟨(some 9), (.bin .gtr (.t 8) (.c (.v (.int .i64 9)))), (some (6, false))⟩, ⟨(some 10), (.pick (.t 6) (.c (.v (.bool true))) (.t 9)), none⟩, ⟨(some 11), (.mv (.t 10)), none⟩, ⟨(some 12), (.fa (.t 1) 1), (some (11, false))⟩, ⟨(some 13), (.ld (.t 12) none), (some (11, false))⟩, ⟨(some 14), (.bin .lss (.t 13) (.c (.v (.int .i64 0)))), (some (11, false))⟩, ⟨(some 15), (.pick (.t 11) (.c (.v (.bool true))) (.t 14)), none⟩, ⟨(some 16), (.mv (.t 15)), none⟩, ⟨(some 17), (.fa (.t 1) 1), (some (16, false))⟩, ⟨(some 18), (.ld (.t 17) none), (some (16, false))⟩, ⟨(some 19), (.bin .gtr (.t 18) (.c (.v (.int .i64 9)))), (some (16, false))⟩, ⟨(some 20), (.pick (.t 16) (.c (.v (.bool true))) (.t 19)), none⟩, ⟨(some 21), (.mv (.t 20)), none⟩, ⟨(some 22), (.fa (.t 1) 2), (some (21, false))⟩, ⟨(some 23), (.ld (.t 22) none), (some (21, false))⟩, ⟨(some 24), (.bin .lss (.t 23) (.c (.v (.int .i64 0)))), (some (21, false))⟩, ⟨(some 25), (.pick (.t 21) (.c (.v (.bool true))) (.t 24)), none⟩, ⟨(some 26), (.mv (.t 25)), none⟩, ⟨(some 27), (.fa (.t 1) 2), (some (26, false))⟩, ⟨(some 28), (.ld (.t 27) none), (some (26, false))⟩, ⟨(some 29), (.bin .gtr (.t 28) (.c (.v (.int .i64 4)))), (some (26, false))⟩, ⟨(some 30), (.pick (.t 26) (.c (.v (.bool true))) (.t 29)), none⟩]) (.cond (.t 30) 
  (.seq (.reg [] [⟨(some 2), (.mv (.c (.v (.int .i64 9)))), none⟩]) .ret) .skip)) 
  (.seq 
  (.seq (.reg [] [⟨(some 31), (.fa (.t 1) 3), none⟩, ⟨(some 32), (.ld (.t 31) none), none⟩, ⟨(some 33), (.bin .lss (.t 32) (.c (.v (.int .i64 0)))), none⟩, ⟨(some 34), (.mv (.t 33)), none⟩, ⟨(some 35), (.fa (.t 1) 3), (some (34, false))⟩, ⟨(some 36), (.ld (.t 35) none), (some (34, false))⟩, ⟨(some 37), (.bin .gtr (.t 36) (.c (.v (.int .i64 15)))), (some (34, false))⟩, ⟨(some 38), (.pick (.t 34) (.c (.v (.bool true))) (.t 37)), none⟩]) (.cond (.t 38) 
  (.seq (.reg [] [⟨(some 2), (.mv (.c (.v (.int .i64 3)))), none⟩]) .ret) .skip)) 
  (.seq (.reg [] [⟨(some 2), (.mv (.c (.v (.int .i64 0)))), none⟩]) .ret)))), [(.t 2)]⟩

def c45 : MF := ⟨1, 21, 
  (.seq (.reg [] [⟨(some 1), (.box (.t 0)), none⟩, ⟨(some 2), (.mv (.c (.v (.bool false)))), none⟩]) 
  (.seq (.reg [] [⟨(some 3), (.fa (.t 1) 0), none⟩, ⟨(some 4), (.ld (.t 3) none), none⟩, ⟨(some 5), (.bin .geq (.t 4) (.c (.v (.int .i64 (-524288))))), none⟩, ⟨(some 6), (.mv (.t 5)), none⟩, ⟨(some 7), (.fa (.t 1) 0), (some (6, true))⟩, ⟨(some 8), (.ld (.t 7) none), (some (6, true))⟩, ⟨(some 9), (.bin .leq (.t 8) (.c (.v (.int .i64 524288)))), (some (6, true))⟩, ⟨(some 10), (.pick (.t 6) (.t 9) (.c (.v (.bool false)))), none⟩, ⟨(some 11), (.mv (.t 10)), none⟩, ⟨(some 12), (.fa (.t 1) 1), (some (11, true))⟩, ⟨(some 13), (.ld (.t 12) none), (some (11, true))⟩, ⟨(some 14), (.bin .geq (.t 13) (.c (.v (.int .i64 (-524288))))), (some (11, true))⟩, ⟨(some 15), (.pick (.t 11) (.t 14) (.c (.v (.bool false)))), none⟩, ⟨(some 16), (.mv (.t 15)), none⟩, ⟨(some 17), (.fa (.t 1) 1), (some (16, true))⟩, ⟨(some 18), (.ld (.t 17) none), (some (16, true))⟩, ⟨(some 19), (.bin .leq (.t 18) (.c (.v (.int .i64 524288)))), (some (16, true))⟩, ⟨(some 20), (.pick (.t 16) (.t 19) (.c (.v (.bool false)))), none⟩, ⟨(some 2), (.mv (.t 20)), none⟩]) .ret)), [(.t 2)]⟩

def c46 : MF := ⟨3, 30, 
  (.seq (.reg [] [⟨(some 3), (.box (.t 0)), none⟩, ⟨(some 4), (.box (.t 1)), none⟩, ⟨(some 5), (.box (.t 2)), none⟩, ⟨(some 6), (.mv (.c (.v (.int .i64 0)))), none⟩]) 
  (.seq (.reg [] [⟨(some 7), (.fa (.t 4) 0), none⟩, ⟨(some 8), (.ld (.t 7) none), none⟩, ⟨(some 9), (.fa (.t 3) 0), none⟩, ⟨(some 10), (.ld (.t 9) none), none⟩, ⟨(some 11), (.bin .sub (.t 8) (.t 10)), none⟩, ⟨(some 12), (.fa (.t 5) 1), none⟩, ⟨(some 13), (.ld (.t 12) none), none⟩, ⟨(some 14), (.fa (.t 3) 1), none⟩, ⟨(some 15), (.ld (.t 14) none), none⟩, ⟨(some 16), (.bin .sub (.t 13) (.t 15)), none⟩, ⟨(some 17), (.bin .mul (.t 11) (.t 16)), none⟩, ⟨(some 18), (.fa (.t 4) 1), none⟩, ⟨(some 19), (.ld (.t 18) none), none⟩, ⟨(some 20), (.fa (.t 3) 1), none⟩, ⟨(some 21), (.ld (.t 20) none), none⟩, ⟨(some 22), (.bin .sub (.t 19) (.t 21)), none⟩, ⟨(some 23), (.fa (.t 5) 0), none⟩, ⟨(some 24), (.ld (.t 23) none), none⟩, ⟨(some 25), (.fa (.t 3) 0), none⟩, ⟨(some 26), (.ld (.t 25) none), none⟩, ⟨(some 27), (.bin .sub (.t 24) (.t 26)), none⟩, ⟨(some 28), (.bin .mul (.t 22) (.t 27)), none⟩, ⟨(some 29), (.bin .sub (.t 17) (.t 28)), none⟩, ⟨(some 6), (.mv (.t 29)), none⟩]) .ret)), [(.t 6)]⟩

def c47 : MF := ⟨1, 78, 
  (.seq (.reg [] [⟨(some 1), (.box (.t 0)), none⟩, ⟨(some 2), (.box (.c (.agg [(.v (.int .i64 0)), (.v (.int .i64 0)), (.v (.int .i64 0)), (.v (.int .i64 0))]))), none⟩]) 
  (.seq (.alt (.regM [(.p, ⟨(some 7), (.ixa (.t 1) (.c (.v (.int .i64 0))) 3 9), none⟩), (.p, ⟨(some 8), (.fa (.t 7) 0), none⟩), (.p, ⟨(some 9), (.fa (.t 8) 0), none⟩), (.p, ⟨(some 10), (.ld (.t 9) none), none⟩), (.p, ⟨(some 11), (.ixa (.t 1) (.c (.v (.int .i64 1))) 3 9), none⟩), (.p, ⟨(some 12), (.fa (.t 11) 0), none⟩), (.p, ⟨(some 13), (.fa (.t 12) 0), none⟩), (.p, ⟨(some 14), (.ld (.t 13) none), none⟩), ((.r [0, 1, 2, 3, 4, 5, 6, 7]), ⟨(some 15), (.call (.c (.f 52 [])) [(.t 10), (.t 14)]), none⟩), (.p, ⟨(some 16), (.ixa (.t 1) (.c (.v (.int .i64 2))) 3 9), none⟩), (.p, ⟨(some 17), (.fa (.t 16) 0), none⟩), (.p, ⟨(some 18), (.fa (.t 17) 0), none⟩), (.p, ⟨(some 19), (.ld (.t 18) none), none⟩)] [⟨(some 20), (.call (.c (.f 52 [])) [(.t 15), (.t 19)]), none⟩, ⟨(some 3), (.mv (.t 20)), none⟩]) (.reg [⟨(some 7), (.ixa (.t 1) (.c (.v (.int .i64 0))) 3 9), none⟩, ⟨(some 8), (.fa (.t 7) 0), none⟩, ⟨(some 9), (.fa (.t 8) 0), none⟩, ⟨(some 10), (.ld (.t 9) none), none⟩, ⟨(some 11), (.ixa (.t 1) (.c (.v (.int .i64 1))) 3 9), none⟩, ⟨(some 12), (.fa (.t 11) 0), none⟩, ⟨(some 13), (.fa (.t 12) 0), none⟩, ⟨(some 14), (.ld (.t 13) none), none⟩, ⟨(some 15), (.call (.c (.f 52 [])) [(.t 10), (.t 14)]), none⟩, ⟨(some 16), (.ixa (.t 1) (.c (.v (.int .i64 2))) 3 9), none⟩, ⟨(some 17), (.fa (.t 16) 0), none⟩, ⟨(some 18), (.fa (.t 17) 0), none⟩, ⟨(some 19), (.ld (.t 18) none), none⟩] [⟨(some 20), (.call (.c (.f 52 [])) [(.t 15), (.t 19)]), none⟩, ⟨(some 3), (.mv (.t 20)), none⟩])) 
  (.seq (.alt (.regM [(.p, ⟨(some 21), (.ixa (.t 1) (.c (.v (.int .i64 0))) 3 9), none⟩), (.p, ⟨(some 22), (.fa (.t 21) 0), none⟩), (.p, ⟨(some 23), (.fa (.t 22) 0), none⟩), (.p, ⟨(some 24), (.ld (.t 23) none), none⟩), (.p, ⟨(some 25), (.ixa (.t 1) (.c (.v (.int .i64 1))) 3 9), none⟩), (.p, ⟨(some 26), (.fa (.t 25) 0), none⟩), (.p, ⟨(some 27), (.fa (.t 26) 0), none⟩), (.p, ⟨(some 28), (.ld (.t 27) none), none⟩), ((.r [0, 1, 2, 3, 4, 5, 6, 7]), ⟨(some 29), (.call (.c (.f 69 [])) [(.t 24), (.t 28)]), none⟩), (.p, ⟨(some 30), (.ixa (.t 1) (.c (.v (.int .i64 2))) 3 9), none⟩), (.p, ⟨(some 31), (.fa (.t 30) 0), none⟩), (.p, ⟨(some 32), (.fa (.t 31) 0), none⟩), (.p, ⟨(some 33), (.ld (.t 32) none), none⟩)] [⟨(some 34), (.call (.c (.f 69 [])) [(.t 29), (.t 33)]), none⟩, ⟨(some 4), (.mv (.t 34)), none⟩]) (.reg [⟨(some 21), (.ixa (.t 1) (.c (.v (.int .i64 0))) 3 9), none⟩, ⟨(some 22), (.fa (.t 21) 0), none⟩, ⟨(some 23), (.fa (.t 22) 0), none⟩, ⟨(some 24), (.ld (.t 23) none), none⟩, ⟨(some 25), (.ixa (.t 1) (.c (.v (.int .i64 1))) 3 9), none⟩, ⟨(some 26), (.fa (.t 25) 0), none⟩, ⟨(some 27), (.fa (.t 26) 0), none⟩, ⟨(some 28), (.ld (.t 27) none), none⟩, ⟨(some 29), (.call (.c (.f 69 [])) [(.t 24), (.t 28)]), none⟩, ⟨(some 30), (.ixa (.t 1) (.c (.v (.int .i64 2))) 3 9), none⟩, ⟨(some 31), (.fa (.t 30) 0), none⟩, ⟨(some 32), (.fa (.t 31) 0), none⟩, ⟨(some 33), (.ld (.t 32) none), none⟩] [⟨(some 34), (.call (.c (.f 69 [])) [(.t 29), (.t 33)]), none⟩, ⟨(some 4), (.mv (.t 34)), none⟩])) 
  (.seq (.alt (.regM [(.p, ⟨(some 35), (.ixa (.t 1) (.c (.v (.int .i64 0))) 3 9), none⟩), (.p, ⟨(some 36), (.fa (.t 35) 0), none⟩), (.p, ⟨(some 37), (.fa (.t 36) 1), none⟩), (.p, ⟨(some 38), (.ld (.t 37) none), none⟩), (.p, ⟨(some 39), (.ixa (.t 1) (.c (.v (.int .i64 1))) 3 9), none⟩), (.p, ⟨(some 40), (.fa (.t 39) 0), none⟩), (.p, ⟨(some 41), (.fa (.t 40) 1), none⟩), (.p, ⟨(some 42), (.ld (.t 41) none), none⟩), ((.r [0, 1, 2, 3, 4, 5, 6, 7]), ⟨(some 43), (.call (.c (.f 52 [])) [(.t 38), (.t 42)]), none⟩), (.p, ⟨(some 44), (.ixa (.t 1) (.c (.v (.int .i64 2))) 3 9), none⟩), (.p, ⟨(some 45), (.fa (.t 44) 0), none⟩), (.p, ⟨(some 46), (.fa (.t 45) 1), none⟩), (.p, ⟨(some 47), (.ld (.t 46) none), none⟩)] [⟨(some 48), (.call (.c (.f 52 [])) [(.t 43), (.t 47)]), none⟩, ⟨(some 5), (.mv (.t 48)), none⟩]) (.reg [⟨(some 35), (.ixa (.t 1) (.c (.v (.int .i64 0))) 3 9), none⟩, ⟨(some 36), (.fa (.t 35) 0), none⟩, ⟨(some 37), (.fa (.t 36) 1), none⟩, ⟨(some 38), (.ld (.t 37) none), none⟩, ⟨(some 39), (.ixa (.t 1) (.c (.v (.int .i64 1))) 3 9), none⟩, ⟨(some 40), (.fa (.t 39) 0), none⟩, ⟨(some 41), (.fa (.t 40) 1), none⟩, ⟨(some 42), (.ld (.t 41) none), none⟩, ⟨(some 43), (.call (.c (.f 52 [])) [(.t 38), (.t 42)]), none⟩, ⟨(some 44), (.ixa (.t 1) (.c (.v (.int .i64 2))) 3 9), none⟩, ⟨(some 45), (.fa (.t 44) 0), none⟩, ⟨(some 46), (.fa (.t 45) 1), none⟩, ⟨(some 47), (.ld (.t 46) none), none⟩] [⟨(some 48), (.call (.c (.f 52 [])) [(.t 43), (.t 47)]), none⟩, ⟨(some 5), (.mv (.t 48)), none⟩])) 
  (.seq (.alt (.regM [(.p, ⟨(some 49), (.ixa (.t 1) (.c (.v (.int .i64 0))) 3 9), none⟩), (.p, ⟨(some 50), (.fa (.t 49) 0), none⟩), (.p, ⟨(some 51), (.fa (.t 50) 1), none⟩), (.p, ⟨(some 52), (.ld (.t 51) none), none⟩), (.p, ⟨(some 53), (.ixa (.t 1) (.c (.v (.int .i64 1))) 3 9), none⟩), (.p, ⟨(some 54), (.fa (.t 53) 0), none⟩), (.p, ⟨(some 55), (.fa (.t 54) 1), none⟩), (.p, ⟨(some 56), (.ld (.t 55) none), none⟩), ((.r [0, 1, 2, 3, 4, 5, 6, 7]), ⟨(some 57), (.call (.c (.f 69 [])) [(.t 52), (.t 56)]), none⟩), (.p, ⟨(some 58), (.ixa (.t 1) (.c (.v (.int .i64 2))) 3 9), none⟩), (.p, ⟨(some 59), (.fa (.t 58) 0), none⟩), (.p, ⟨(some 60), (.fa (.t 59) 1), none⟩), (.p, ⟨(some 61), (.ld (.t 60) none), none⟩)] [⟨(some 62), (.call (.c (.f 69 [])) [(.t 57), (.t 61)]), none⟩, ⟨(some 6), (.mv (.t 62)), none⟩]) (.reg [⟨(some 49), (.ixa (.t 1) (.c (.v (.int .i64 0))) 3 9), none⟩, ⟨(some 50), (.fa (.t 49) 0), none⟩, ⟨(some 51), (.fa (.t 50) 1), none⟩, ⟨(some 52), (.ld (.t 51) none), none⟩, ⟨(some 53), (.ixa (.t 1) (.c (.v (.int .i64 1))) 3 9), none⟩, ⟨(some 54), (.fa (.t 53) 0), none⟩, ⟨(some 55), (.fa (.t 54) 1), none⟩, ⟨(some 56), (.ld (.t 55) none), none⟩, ⟨(some 57), (.call (.c (.f 69 [])) [(.t 52), (.t 56)]), none⟩, ⟨(some 58), (.ixa (.t 1) (.c (.v (.int .i64 2))) 3 9), none⟩, ⟨(some 59), (.fa (.t 58) 0), none⟩, ⟨(some 60), (.fa (.t 59) 1), none⟩, ⟨(some 61), (.ld (.t 60) none), none⟩] [⟨(some 62), (.call (.c (.f 69 [])) [(.t 57), (.t 61)]), none⟩, ⟨(some 6), (.mv (.t 62)), none⟩])) 
  (.seq (.reg [] [⟨(some 63), (.mv (.t 3)), none⟩, ⟨(some 64), (.bin .sub (.t 63) (.c (.v (.int .i64 8)))), none⟩, ⟨(some 65), (.call (.c (.f 70 [])) [(.t 64), (.c (.v (.int .i64 16)))]), none⟩, ⟨(some 66), (.mv (.t 5)), none⟩, ⟨(some 67), (.bin .sub (.t 66) (.c (.v (.int .i64 8)))), none⟩, ⟨(some 68), (.call (.c (.f 70 [])) [(.t 67), (.c (.v (.int .i64 16)))]), none⟩, ⟨(some 69), (.mv (.t 4)), none⟩, ⟨(some 70), (.bin .sub (.t 69) (.c (.v (.int .i64 8)))), none⟩, ⟨(some 71), (.call (.c (.f 71 [])) [(.t 70), (.c (.v (.int .i64 16)))]), none⟩, ⟨(some 72), (.bin .add (.t 71) (.c (.v (.int .i64 1)))), none⟩, ⟨(some 73), (.mv (.t 6)), none⟩, ⟨(some 74), (.bin .sub (.t 73) (.c (.v (.int .i64 8)))), none⟩, ⟨(some 75), (.call (.c (.f 71 [])) [(.t 74), (.c (.v (.int .i64 16)))]), none⟩, ⟨(some 76), (.bin .add (.t 75) (.c (.v (.int .i64 1)))), none⟩, ⟨(some 77), (.bld [(.v (.int .i64 0)), (.v (.int .i64 0)), (.v (.int .i64 0)), (.v (.int .i64 0))] [(0, (1, (.t 65))), (1, (1, (.t 68))), (2, (1, (.t 72))), (3, (1, (.t 76)))]), none⟩, ⟨none, (.st (.t 2) (.t 77) 4), none⟩]) .ret)))))), [(.cell 2 (some 4))]⟩

def c48 : MF := ⟨1, 6, 
  (.seq (.reg [] [⟨(some 2), (.mv (.c (.v (.int .i64 0)))), none⟩]) 
  (.seq (.reg [] [⟨(some 3), (.mv (.t 0)), none⟩, ⟨(some 4), (.bin .add (.t 3) (.c (.v (.int .i64 15)))), none⟩, ⟨(some 5), (.bin .quo (.t 4) (.c (.v (.int .i64 16)))), none⟩, ⟨(some 2), (.mv (.t 5)), none⟩]) .ret)), [(.t 2)]⟩

def c49 : MF := ⟨1, 15, 
  (.seq (.reg [] [⟨(some 1), (.box (.t 0)), none⟩, ⟨(some 2), (.mv (.c (.v (.bool false)))), none⟩]) 
  (.seq (.reg [] [⟨(some 3), (.fa (.t 1) 0), none⟩, ⟨(some 4), (.ld (.t 3) none), none⟩, ⟨(some 5), (.fa (.t 1) 2), none⟩, ⟨(some 6), (.ld (.t 5) none), none⟩, ⟨(some 7), (.bin .geq (.t 4) (.t 6)), none⟩, ⟨(some 8), (.mv (.t 7)), none⟩, ⟨(some 9), (.fa (.t 1) 1), (some (8, false))⟩, ⟨(some 10), (.ld (.t 9) none), (some (8, false))⟩, ⟨(some 11), (.fa (.t 1) 3), (some (8, false))⟩, ⟨(some 12), (.ld (.t 11) none), (some (8, false))⟩, ⟨(some 13), (.bin .geq (.t 10) (.t 12)), (some (8, false))⟩, ⟨(some 14), (.pick (.t 8) (.c (.v (.bool true))) (.t 13)), none⟩, ⟨(some 2), (.mv (.t 14)), none⟩]) .ret)), [(.t 2)]⟩

def c50 : MF := ⟨2, 31, 
  (.seq (.reg [] [⟨(some 2), (.box (.t 0)), none⟩, ⟨(some 3), (.box (.t 1)), none⟩, ⟨(some 4), (.box (.c (.agg [(.v (.int .i64 0)), (.v (.int .i64 0)), (.v (.int .i64 0)), (.v (.int .i64 0))]))), none⟩]) 
  (.seq (.reg [⟨(some 6), (.fa (.t 2) 0), none⟩, ⟨(some 7), (.ld (.t 6) none), none⟩, ⟨(some 8), (.fa (.t 3) 0), none⟩, ⟨(some 9), (.ld (.t 8) none), none⟩, ⟨(some 10), (.call (.c (.f 69 [])) [(.t 7), (.t 9)]), none⟩, ⟨(some 11), (.fa (.t 2) 1), none⟩, ⟨(some 12), (.ld (.t 11) none), none⟩, ⟨(some 13), (.fa (.t 3) 1), none⟩, ⟨(some 14), (.ld (.t 13) none), none⟩, ⟨(some 15), (.call (.c (.f 69 [])) [(.t 12), (.t 14)]), none⟩, ⟨(some 16), (.fa (.t 2) 2), none⟩, ⟨(some 17), (.ld (.t 16) none), none⟩, ⟨(some 18), (.fa (.t 3) 2), none⟩, ⟨(some 19), (.ld (.t 18) none), none⟩, ⟨(some 20), (.call (.c (.f 52 [])) [(.t 17), (.t 19)]), none⟩, ⟨(some 21), (.fa (.t 2) 3), none⟩, ⟨(some 22), (.ld (.t 21) none), none⟩, ⟨(some 23), (.fa (.t 3) 3), none⟩, ⟨(some 24), (.ld (.t 23) none), none⟩, ⟨(some 25), (.call (.c (.f 52 [])) [(.t 22), (.t 24)]), none⟩, ⟨(some 26), (.bld [(.v (.int .i64 0)), (.v (.int .i64 0)), (.v (.int .i64 0)), (.v (.int .i64 0))] [(0, (1, (.t 10))), (1, (1, (.t 15))), (2, (1, (.t 20))), (3, (1, (.t 25)))]), none⟩, ⟨(some 5), (.mv (.c .bad)), none⟩] [⟨(some 5), (.box (.c (.agg [(.v (.int .i64 0)), (.v (.int .i64 0)), (.v (.int .i64 0)), (.v (.int .i64 0))]))), none⟩, ⟨none, (.fa (.t 5) 0), none⟩, ⟨none, (.st (.t 5) (.t 26) 4), none⟩]) 
  (.seq 
  (.seq (.reg [] [⟨(some 27), (.ld (.t 5) (some 4)), none⟩, ⟨(some 28), (.call (.c (.f 49 [])) [(.t 27)]), none⟩]) (.cond (.t 28) 
  (.seq (.reg [] [⟨(some 29), (.bld [(.v (.int .i64 0)), (.v (.int .i64 0)), (.v (.int .i64 0)), (.v (.int .i64 0))] []), none⟩, ⟨none, (.st (.t 4) (.t 29) 4), none⟩]) .ret) .skip)) 
  (.seq (.reg [] [⟨(some 30), (.ld (.t 5) (some 4)), none⟩, ⟨none, (.st (.t 4) (.t 30) 4), none⟩]) .ret)))), [(.cell 4 (some 4))]⟩

def c51b0 : MC := 
  (.seq 
  (.seq (.reg [] [⟨(some 10), (.mv (.t 7)), none⟩, ⟨(some 11), (.bin .lss (.t 10) (.c (.v (.int .i64 4)))), none⟩]) (.cond (.t 11) .skip (.exit 0))) 
  (.seq (.block 1 
  (.seq (.reg [] [⟨(some 14), (.fa (.t 5) 0), none⟩, ⟨(some 15), (.ld (.t 14) none), none⟩, ⟨(some 8), (.mv (.t 15)), none⟩]) 
  (.seq (.reg [] [⟨(some 16), (.fa (.t 5) 1), none⟩, ⟨(some 17), (.ld (.t 16) none), none⟩, ⟨(some 9), (.mv (.t 17)), none⟩]) 
  (.seq 
  (.seq (.reg [] [⟨(some 18), (.mv (.t 7)), none⟩, ⟨(some 19), (.bin .rem (.t 18) (.c (.v (.int .i64 2)))), none⟩, ⟨(some 20), (.bin .eql (.t 19) (.c (.v (.int .i64 1)))), none⟩]) (.cond (.t 20) (.reg [] [⟨(some 21), (.fa (.t 5) 2), none⟩, ⟨(some 22), (.ld (.t 21) none), none⟩, ⟨(some 23), (.bin .sub (.t 22) (.c (.v (.int .i64 1)))), none⟩, ⟨(some 8), (.mv (.t 23)), none⟩]) .skip)) 
  (.seq 
  (.seq (.reg [] [⟨(some 24), (.mv (.t 7)), none⟩, ⟨(some 25), (.bin .quo (.t 24) (.c (.v (.int .i64 2)))), none⟩, ⟨(some 26), (.bin .eql (.t 25) (.c (.v (.int .i64 1)))), none⟩]) (.cond (.t 26) (.reg [] [⟨(some 27), (.fa (.t 5) 3), none⟩, ⟨(some 28), (.ld (.t 27) none), none⟩, ⟨(some 29), (.bin .sub (.t 28) (.c (.v (.int .i64 1)))), none⟩, ⟨(some 9), (.mv (.t 29)), none⟩]) .skip)) 
  (.seq (.alt (.regM [(.p, ⟨(some 30), (.ld (.t 3) (some 2)), none⟩), (.p, ⟨(some 31), (.ld (.t 4) (some 2)), none⟩), (.p, ⟨(some 32), (.mv (.t 8)), none⟩), (.p, ⟨(some 33), (.mv (.t 9)), none⟩), ((.r [2, 3]), ⟨(some 34), (.call (.c (.f 72 [])) [(.t 32), (.t 33)]), none⟩)] [⟨(some 35), (.call (.c (.f 46 [])) [(.t 30), (.t 31), (.t 34)]), none⟩, ⟨(some 36), (.bin .geq (.t 35) (.c (.v (.int .i64 0)))), none⟩]) (.reg [⟨(some 30), (.ld (.t 3) (some 2)), none⟩, ⟨(some 31), (.ld (.t 4) (some 2)), none⟩, ⟨(some 32), (.mv (.t 8)), none⟩, ⟨(some 33), (.mv (.t 9)), none⟩, ⟨(some 34), (.call (.c (.f 72 [])) [(.t 32), (.t 33)]), none⟩] [⟨(some 35), (.call (.c (.f 46 [])) [(.t 30), (.t 31), (.t 34)]), none⟩, ⟨(some 36), (.bin .geq (.t 35) (.c (.v (.int .i64 0)))), none⟩])) (.cond (.t 36) 
  (.seq (.reg [] [⟨(some 6), (.mv (.c (.v (.bool true)))), none⟩]) .ret) .skip))))))) (.reg [] [⟨(some 12), (.mv (.t 7)), none⟩, ⟨(some 13), (.bin .add (.t 12) (.c (.v (.int .i64 1)))), none⟩, ⟨(some 7), (.mv (.t 13)), none⟩])))

def c51 : MF := ⟨3, 37, 
  (.seq (.reg [] [⟨(some 3), (.box (.t 0)), none⟩, ⟨(some 4), (.box (.t 1)), none⟩, ⟨(some 5), (.box (.t 2)), none⟩, ⟨(some 6), (.mv (.c (.v (.bool false)))), none⟩]) 
  (.seq 
  (.seq (.reg [] [⟨(some 7), (.mv (.c (.v (.int .i64 0)))), none⟩]) (.block 0 
  (.loopN [13, 12, 6, 36, 35, 34, 33, 32, 31, 30, 29, 28, 27, 26, 25, 24, 23, 22, 21, 20, 19, 18, 17, 16, 15, 14, 11, 10] c51b0))) 
  (.seq (.reg [] [⟨(some 6), (.mv (.c (.v (.bool false)))), none⟩]) .ret))), [(.t 6)]⟩

def c52 : MF := ⟨2, 10, 
  (.seq (.reg [] [⟨(some 4), (.mv (.c (.v (.int .i64 0)))), none⟩]) 
  (.seq 
  (.seq (.reg [] [⟨(some 5), (.mv (.t 0)), none⟩, ⟨(some 6), (.mv (.t 1)), none⟩, ⟨(some 7), (.bin .lss (.t 5) (.t 6)), none⟩]) (.cond (.t 7) 
  (.seq (.reg [] [⟨(some 8), (.mv (.t 0)), none⟩, ⟨(some 4), (.mv (.t 8)), none⟩]) .ret) .skip)) 
  (.seq (.reg [] [⟨(some 9), (.mv (.t 1)), none⟩, ⟨(some 4), (.mv (.t 9)), none⟩]) .ret))), [(.t 4)]⟩

def c53b0 : MC := 
  (.seq (.reg [] [⟨(some 8), (.bin .lss (.t 7) (.t 6)), none⟩]) 
  (.seq (.cond (.t 8) .skip (.exit 0)) 
  (.seq (.block 1 
  (.seq (.reg [] [⟨(some 9), (.ixs (.t 5) (.t 7) 1), none⟩, ⟨(some 10), (.ld (.t 9) none), none⟩, ⟨(some 4), (.mv (.t 10)), none⟩]) 
  (.seq (.reg [] [⟨(some 11), (.mv (.t 4)), none⟩, ⟨(some 12), (.bin .neq (.t 11) (.c (.v (.int .i64 0)))), none⟩]) (.cond (.t 12) 
  (.seq (.reg [] [⟨(some 13), (.mv (.t 4)), none⟩, ⟨(some 2), (.mv (.t 13)), none⟩]) .ret) .skip)))) (.reg [] [⟨(some 14), (.bin .add (.t 7) (.c (.v (.int .i64 1)))), none⟩, ⟨(some 7), (.mv (.t 14)), none⟩]))))

def c53 : MF := ⟨1, 15, 
  (.seq (.reg [] [⟨(some 2), (.mv (.c (.v (.int .i64 0)))), none⟩]) 
  (.seq 
  (.seq (.reg [] [⟨(some 5), (.mv (.t 0)), none⟩, ⟨(some 6), (.len (.t 5)), none⟩, ⟨(some 7), (.mv (.c (.v (.int .i64 0)))), none⟩]) (.block 0 
  (.loopN [14, 2, 13, 12, 11, 10, 9, 8] c53b0))) 
  (.seq (.reg [] [⟨(some 2), (.mv (.c (.v (.int .i64 0)))), none⟩]) .ret))), [(.t 2)]⟩

def c54 : MF := ⟨1, 13, 
  (.seq (.reg [] [⟨(some 1), (.box (.t 0)), none⟩, ⟨(some 2), (.mv (.c (.v (.int .i64 0)))), none⟩]) 
  (.seq 
  (.seq (.reg [] [⟨(some 6), (.ld (.t 1) (some 16)), none⟩, ⟨(some 7), (.bld [(.v (.int .i64 0)), (.v (.int .i64 0)), (.v (.int .i64 0)), (.v (.int .i64 0))] []), none⟩, ⟨(some 8), (.call (.c (.f 73 [])) [(.t 6), (.t 7)]), none⟩, ⟨(some 5), (.mv (.t 8)), none⟩, ⟨(some 9), (.ext (.t 5) 0), none⟩, ⟨(some 10), (.ext (.t 5) 1), none⟩, ⟨(some 3), (.box (.c (.agg [(.v (.int .i64 0)), (.v (.int .i64 0)), (.v (.int .i64 0)), (.v (.int .i64 0))]))), none⟩, ⟨none, (.st (.t 3) (.t 9) 4), none⟩, ⟨(some 4), (.mv (.t 10)), none⟩]) 
  (.seq (.reg [] [⟨(some 11), (.mv (.t 4)), none⟩, ⟨(some 12), (.bin .neq (.t 11) (.c (.v (.int .i64 0)))), none⟩]) (.cond (.t 12) 
  (.seq (.reg [] [⟨(some 2), (.mv (.c (.v (.int .i64 11)))), none⟩]) .ret) .skip))) 
  (.seq (.reg [] [⟨(some 2), (.mv (.c (.v (.int .i64 0)))), none⟩]) .ret))), [(.t 2)]⟩

def c55 : MF := ⟨1, 51, 
  (.seq (.reg [] [⟨(some 1), (.box (.t 0)), none⟩, ⟨(some 2), (.mv (.c (.v (.int .i64 0)))), none⟩]) 
  (.seq 
  (.seq (.reg [] [⟨(some 3), (.fa (.t 1) 0), none⟩, ⟨(some 4), (.ld (.t 3) none), none⟩, ⟨(some 5), (.bin .lss (.t 4) (.c (.v (.int .i64 (-4096))))), none⟩, ⟨(some 6), (.mv (.t 5)), none⟩, ⟨(some 7), (.fa (.t 1) 0), (some (6, false))⟩, ⟨(some 8), (.ld (.t 7) none), (some (6, false))⟩, ⟨(some 9), (.bin .gtr (.t 8) (.c (.v (.int .i64 4096)))), (some (6, false))⟩, ⟨(some 10), (.pick (.t 6) (.c (.v (.bool true))) (.t 9)), none⟩, ⟨(some 11), (.mv (.t 10)), none⟩, ⟨(some 12), (.fa (.t 1) 1), (some (11, false))⟩, ⟨(some 13), (.ld (.t 12) none), (some (11, false))⟩, ⟨(some 14), (.bin .lss (.t 13) (.c (.v (.int .i64 (-4096))))), (some (11, false))⟩, ⟨(some 15), (.pick (.t 11) (.c (.v (.bool true))) (.t 14)), none⟩, ⟨(some 16), (.mv (.t 15)), none⟩, ⟨(some 17), (.fa (.t 1) 1), (some (16, false))⟩, ⟨(some 18), (.ld (.t 17) none), (some (16, false))⟩, ⟨(some 19), (.bin .gtr (.t 18) (.c (.v (.int .i64 4096)))), (some (16, false))⟩, ⟨(some 20), (.pick (.t 16) (.c (.v (.bool true))) (.t 19)), none⟩, ⟨(some 21), (.mv (.t 20)), none⟩, ⟨(some 22), (.fa (.t 1) 2), (some (21, false))⟩, ⟨(some 23), (.ld (.t 22) none), (some (21, false))⟩, ⟨(some 24), (.fa (.t 1) 0), (some (21, false))⟩, ⟨(some 25), (.ld (.t 24) none), (some (21, false))⟩, ⟨(some 26), (.bin .lss (.t 23) (.t 25)), (some (21, false))⟩, ⟨(some 27), (.pick (.t 21) (.c (.v (.bool true))) (.t 26)), none⟩, ⟨(some 28), (.mv (.t 27)), none⟩, ⟨(some 29), (.fa (.t 1) 3), (some (28, false))⟩, ⟨(some 30), (.ld (.t 29) none), (some (28, false))⟩, ⟨(some 31), (.fa (.t 1) 1), (some (28, false))⟩, ⟨(some 32), (.ld (.t 31) none), (some (28, false))⟩, ⟨(some 33), (.bin .lss (.t 30) (.t 32)), (some (28, false))⟩, ⟨(some 34), (.pick (.t 28) (.c (.v (.bool true))) (.t 33)), none⟩, ⟨(some 35), (.mv (.t 34)), none⟩, ⟨(some 36), (.fa (.t 1) 2), (some (35, false))⟩, ⟨(some 37), (.ld (.t 36) none), (some (35, false))⟩, ⟨(some 38), (.fa (.t 1) 0), (some (35, false))⟩, ⟨(some 39), (.ld (.t 38) none), (some (35, false))⟩, ⟨(some 40), (.bin .add (.t 39) (.c (.v (.int .i64 4096)))), (some (35, false))⟩, ⟨(some 41), (.bin .gtr (.t 37) (.t 40)), (some (35, false))⟩, ⟨(some 42), (.pick (.t 35) (.c (.v (.bool true))) (.t 41)), none⟩, ⟨(some 43), (.mv (.t 42)), none⟩, ⟨(some 44), (.fa (.t 1) 3), (some (43, false))⟩, ⟨(some 45), (.ld (.t 44) none), (some (43, false))⟩, ⟨(some 46), (.fa (.t 1) 1), (some (43, false))⟩, ⟨(some 47), (.ld (.t 46) none), (some (43, false))⟩, ⟨(some 48), (.bin .add (.t 47) (.c (.v (.int .i64 4096)))), (some (43, false))⟩, ⟨(some 49), (.bin .gtr (.t 45) (.t 48)), (some (43, false))⟩, ⟨(some 50), (.pick (.t 43) (.c (.v (.bool true))) (.t 49)), none⟩]) (.cond (.t 50) 
  (.seq (.reg [] [⟨(some 2), (.mv (.c (.v (.int .i64 12)))), none⟩]) .ret) .skip)) 
  (.seq (.reg [] [⟨(some 2), (.mv (.c (.v (.int .i64 0)))), none⟩]) .ret))), [(.t 2)]⟩

def c56 : MF := ⟨1, 11, 
  (.seq (.reg [] [⟨(some 2), (.mv (.c (.v (.int .i64 0)))), none⟩]) 
  (.seq (.reg [] [⟨(some 6), (.mv (.t 0)), none⟩, ⟨(some 7), (.call (.c (.f 74 [])) [(.t 6)]), none⟩, ⟨(some 5), (.mv (.t 7)), none⟩, ⟨(some 8), (.ext (.t 5) 0), none⟩, ⟨(some 9), (.ext (.t 5) 1), none⟩, ⟨(some 3), (.mv (.t 8)), none⟩, ⟨(some 4), (.mv (.t 9)), none⟩]) 
  (.seq (.reg [] [⟨(some 10), (.mv (.t 4)), none⟩, ⟨(some 2), (.mv (.t 10)), none⟩]) .ret))), [(.t 2)]⟩

def c57 : MF := ⟨1, 47, 
  (.seq (.reg [] [⟨(some 1), (.box (.t 0)), none⟩, ⟨(some 2), (.mv (.c (.v (.int .i64 0)))), none⟩]) 
  (.seq (.block 0 
  (.seq (.reg [] [⟨(some 4), (.fa (.t 1) 0), none⟩, ⟨(some 5), (.ld (.t 4) none), none⟩, ⟨(some 6), (.bin .lss (.t 5) (.c (.v (.int .i64 0)))), none⟩, ⟨(some 7), (.mv (.t 6)), none⟩, ⟨(some 8), (.fa (.t 1) 0), (some (7, false))⟩, ⟨(some 9), (.ld (.t 8) none), (some (7, false))⟩, ⟨(some 10), (.bin .gtr (.t 9) (.c (.v (.int .i64 7)))), (some (7, false))⟩, ⟨(some 11), (.pick (.t 7) (.c (.v (.bool true))) (.t 10)), none⟩, ⟨(some 12), (.mv (.t 11)), none⟩, ⟨(some 13), (.fa (.t 1) 4), (some (12, false))⟩, ⟨(some 14), (.ld (.t 13) none), (some (12, false))⟩, ⟨(some 15), (.call (.c (.f 75 [])) [(.t 14)]), (some (12, false))⟩, ⟨(some 16), (.un .not (.t 15)), (some (12, false))⟩, ⟨(some 17), (.pick (.t 12) (.c (.v (.bool true))) (.t 16)), none⟩, ⟨(some 18), (.mv (.t 17)), none⟩, ⟨(some 19), (.fa (.t 1) 5), (some (18, false))⟩, ⟨(some 20), (.ld (.t 19) none), (some (18, false))⟩, ⟨(some 21), (.call (.c (.f 75 [])) [(.t 20)]), (some (18, false))⟩, ⟨(some 22), (.un .not (.t 21)), (some (18, false))⟩, ⟨(some 23), (.pick (.t 18) (.c (.v (.bool true))) (.t 22)), none⟩, ⟨(some 24), (.mv (.t 23)), none⟩, ⟨(some 25), (.fa (.t 1) 6), (some (24, false))⟩, ⟨(some 26), (.ld (.t 25) none), (some (24, false))⟩, ⟨(some 27), (.call (.c (.f 75 [])) [(.t 26)]), (some (24, false))⟩, ⟨(some 28), (.un .not (.t 27)), (some (24, false))⟩, ⟨(some 29), (.pick (.t 24) (.c (.v (.bool true))) (.t 28)), none⟩, ⟨(some 3), (.mv (.t 29)), none⟩]) (.cond (.t 3) 
  (.seq (.reg [] [⟨(some 2), (.mv (.c (.v (.int .i64 9)))), none⟩]) .ret) 
  (.seq (.reg [] [⟨(some 31), (.fa (.t 1) 1), none⟩, ⟨(some 32), (.ld (.t 31) none), none⟩, ⟨(some 33), (.call (.c (.f 76 [])) [(.t 32)]), none⟩, ⟨(some 34), (.un .not (.t 33)), none⟩, ⟨(some 35), (.mv (.t 34)), none⟩, ⟨(some 36), (.fa (.t 1) 2), (some (35, false))⟩, ⟨(some 37), (.ld (.t 36) none), (some (35, false))⟩, ⟨(some 38), (.call (.c (.f 76 [])) [(.t 37)]), (some (35, false))⟩, ⟨(some 39), (.un .not (.t 38)), (some (35, false))⟩, ⟨(some 40), (.pick (.t 35) (.c (.v (.bool true))) (.t 39)), none⟩, ⟨(some 41), (.mv (.t 40)), none⟩, ⟨(some 42), (.fa (.t 1) 3), (some (41, false))⟩, ⟨(some 43), (.ld (.t 42) none), (some (41, false))⟩, ⟨(some 44), (.call (.c (.f 76 [])) [(.t 43)]), (some (41, false))⟩, ⟨(some 45), (.un .not (.t 44)), (some (41, false))⟩, ⟨(some 46), (.pick (.t 41) (.c (.v (.bool true))) (.t 45)), none⟩, ⟨(some 30), (.mv (.t 46)), none⟩]) (.cond (.t 30) 
  (.seq (.reg [] [⟨(some 2), (.mv (.c (.v (.int .i64 3)))), none⟩]) .ret) .skip))))) 
  (.seq (.reg [] [⟨(some 2), (.mv (.c (.v (.int .i64 0)))), none⟩]) .ret))), [(.t 2)]⟩

def c58 : MF := ⟨1, 41, 
  (.seq (.reg [] [⟨(some 1), (.box (.t 0)), none⟩, ⟨(some 2), (.mv (.c (.v (.int .i64 0)))), none⟩]) 
  (.seq (.block 0 
  (.seq (.reg [] [⟨(some 4), (.fa (.t 1) 0), none⟩, ⟨(some 5), (.ld (.t 4) none), none⟩, ⟨(some 6), (.bin .lss (.t 5) (.c (.v (.int .i64 0)))), none⟩, ⟨(some 7), (.mv (.t 6)), none⟩, ⟨(some 8), (.fa (.t 1) 0), (some (7, false))⟩, ⟨(some 9), (.ld (.t 8) none), (some (7, false))⟩, ⟨(some 10), (.bin .gtr (.t 9) (.c (.v (.int .i64 9)))), (some (7, false))⟩, ⟨(some 11), (.pick (.t 7) (.c (.v (.bool true))) (.t 10)), none⟩, ⟨(some 12), (.mv (.t 11)), none⟩, ⟨(some 13), (.fa (.t 1) 1), (some (12, false))⟩, ⟨(some 14), (.ld (.t 13) none), (some (12, false))⟩, ⟨(some 15), (.bin .lss (.t 14) (.c (.v (.int .i64 0)))), (some (12, false))⟩, ⟨(some 16), (.pick (.t 12) (.c (.v (.bool true))) (.t 15)), none⟩, ⟨(some 17), (.mv (.t 16)), none⟩, ⟨(some 18), (.fa (.t 1) 1), (some (17, false))⟩, ⟨(some 19), (.ld (.t 18) none), (some (17, false))⟩, ⟨(some 20), (.bin .gtr (.t 19) (.c (.v (.int .i64 9)))), (some (17, false))⟩, ⟨(some 21), (.pick (.t 17) (.c (.v (.bool true))) (.t 20)), none⟩, ⟨(some 22), (.mv (.t 21)), none⟩, ⟨(some 23), (.fa (.t 1) 2), (some (22, false))⟩, ⟨(some 24), (.ld (.t 23) none), (some (22, false))⟩, ⟨(some 25), (.bin .lss (.t 24) (.c (.v (.int .i64 0)))), (some (22, false))⟩, ⟨(some 26), (.pick (.t 22) (.c (.v (.bool true))) (.t 25)), none⟩, ⟨(some 27), (.mv (.t 26)), none⟩, ⟨(some 28), (.fa (.t 1) 2), (some (27, false))⟩, ⟨(some 29), (.ld (.t 28) none), (some (27, false))⟩, ⟨(some 30), (.bin .gtr (.t 29) (.c (.v (.int .i64 4)))), (some (27, false))⟩, ⟨(some 31), (.pick (.t 27) (.c (.v (.bool true))) (.t 30)), none⟩, ⟨(some 3), (.mv (.t 31)), none⟩]) (.cond (.t 3) 
  (.seq (.reg [] [⟨(some 2), (.mv (.c (.v (.int .i64 9)))), none⟩]) .ret) 
  (.seq (.reg [] [⟨(some 33), (.fa (.t 1) 3), none⟩, ⟨(some 34), (.ld (.t 33) none), none⟩, ⟨(some 35), (.bin .lss (.t 34) (.c (.v (.int .i64 0)))), none⟩, ⟨(some 36), (.mv (.t 35)), none⟩, ⟨(some 37), (.fa (.t 1) 3), (some (36, false))⟩, ⟨(some 38), (.ld (.t 37) none), (some (36, false))⟩, ⟨(some 39), (.bin .gtr (.t 38) (.c (.v (.int .i64 15)))), (some (36, false))⟩, ⟨(some 40), (.pick (.t 36) (.c (.v (.bool true))) (.t 39)), none⟩, ⟨(some 32), (.mv (.t 40)), none⟩]) (.cond (.t 32) 
  (.seq (.reg [] [⟨(some 2), (.mv (.c (.v (.int .i64 3)))), none⟩]) .ret) .skip))))) 
  (.seq (.reg [] [⟨(some 2), (.mv (.c (.v (.int .i64 0)))), none⟩]) .ret))), [(.t 2)]⟩

def c59 : MF := ⟨1, 9, 
  (.seq (.reg [] [⟨(some 2), (.mv (.c (.v (.int .i64 0)))), none⟩]) 
  (.seq 
  (.seq (.reg [] [⟨(some 3), (.mv (.t 0)), none⟩, ⟨(some 4), (.bin .lss (.t 3) (.c (.v (.int .i64 0)))), none⟩, ⟨(some 5), (.mv (.t 4)), none⟩, ⟨(some 6), (.mv (.t 0)), (some (5, false))⟩, ⟨(some 7), (.bin .gtr (.t 6) (.c (.v (.int .i64 2)))), (some (5, false))⟩, ⟨(some 8), (.pick (.t 5) (.c (.v (.bool true))) (.t 7)), none⟩]) (.cond (.t 8) 
  (.seq (.reg [] [⟨(some 2), (.mv (.c (.v (.int .i64 9)))), none⟩]) .ret) .skip)) 
  (.seq (.reg [] [⟨(some 2), (.mv (.c (.v (.int .i64 0)))), none⟩]) .ret))), [(.t 2)]⟩

def c60 : MF := ⟨1, 9, 
  (.seq (.reg [] [⟨(some 2), (.mv (.c (.v (.int .i64 0)))), none⟩]) 
  (.seq 
  (.seq (.reg [] [⟨(some 3), (.mv (.t 0)), none⟩, ⟨(some 4), (.bin .lss (.t 3) (.c (.v (.int .i64 0)))), none⟩, ⟨(some 5), (.mv (.t 4)), none⟩, ⟨(some 6), (.mv (.t 0)), (some (5, false))⟩, ⟨(some 7), (.bin .gtr (.t 6) (.c (.v (.int .i64 64)))), (some (5, false))⟩, ⟨(some 8), (.pick (.t 5) (.c (.v (.bool true))) (.t 7)), none⟩]) (.cond (.t 8) 
  (.seq (.reg [] [⟨(some 2), (.mv (.c (.v (.int .i64 7)))), none⟩]) .ret) .skip)) 
  (.seq (.reg [] [⟨(some 2), (.mv (.c (.v (.int .i64 0)))), none⟩]) .ret))), [(.t 2)]⟩

def c61b0 : MC := 
  (.seq (.reg [] [⟨(some 32), (.bin .lss (.t 31) (.c (.v (.int .i64 6)))), none⟩]) 
  (.seq (.cond (.t 32) .skip (.exit 0)) 
  (.seq (.block 1 
  (.seq (.reg [] [⟨(some 33), (.ix (.t 30) (.t 31) 6 1 none), none⟩, ⟨(some 6), (.mv (.t 33)), none⟩]) 
  (.seq (.reg [] [⟨(some 34), (.mv (.t 6)), none⟩, ⟨(some 35), (.bin .lss (.t 34) (.c (.v (.int .i64 (-1048576))))), none⟩, ⟨(some 36), (.mv (.t 35)), none⟩, ⟨(some 37), (.mv (.t 6)), (some (36, false))⟩, ⟨(some 38), (.bin .gtr (.t 37) (.c (.v (.int .i64 1048576)))), (some (36, false))⟩, ⟨(some 39), (.pick (.t 36) (.c (.v (.bool true))) (.t 38)), none⟩]) (.cond (.t 39) 
  (.seq (.reg [] [⟨(some 2), (.mv (.c (.v (.bool false)))), none⟩]) .ret) .skip)))) (.reg [] [⟨(some 40), (.bin .add (.t 31) (.c (.v (.int .i64 1)))), none⟩, ⟨(some 31), (.mv (.t 40)), none⟩]))))

def c61 : MF := ⟨1, 41, 
  (.seq (.reg [] [⟨(some 1), (.box (.t 0)), none⟩, ⟨(some 2), (.mv (.c (.v (.bool false)))), none⟩]) 
  (.seq 
  (.seq (.reg [] [⟨(some 8), (.fa (.t 1) 0), none⟩, ⟨(some 9), (.ld (.t 8) (some 2)), none⟩, ⟨(some 10), (.fa (.t 1) 0), none⟩, ⟨(some 11), (.ld (.t 10) (some 2)), none⟩, ⟨(some 12), (.fa (.t 1) 0), none⟩, ⟨(some 13), (.ld (.t 12) (some 2)), none⟩, ⟨(some 14), (.call (.c (.f 36 [])) [(.t 9), (.t 11), (.t 13)]), none⟩, ⟨(some 7), (.mv (.t 14)), none⟩, ⟨(some 15), (.ext (.t 7) 0), none⟩, ⟨(some 16), (.ext (.t 7) 1), none⟩, ⟨(some 3), (.mv (.t 15)), none⟩, ⟨(some 4), (.mv (.t 16)), none⟩]) 
  (.seq (.reg [] [⟨(some 17), (.mv (.t 4)), none⟩, ⟨(some 18), (.bin .neq (.t 17) (.c (.v (.int .i64 0)))), none⟩, ⟨(some 19), (.mv (.t 18)), none⟩, ⟨(some 20), (.fa (.t 1) 2), (some (19, false))⟩, ⟨(some 21), (.ld (.t 20) none), (some (19, false))⟩, ⟨(some 22), (.bin .lss (.t 21) (.c (.v (.int .i64 0)))), (some (19, false))⟩, ⟨(some 23), (.pick (.t 19) (.c (.v (.bool true))) (.t 22)), none⟩, ⟨(some 24), (.mv (.t 23)), none⟩, ⟨(some 25), (.fa (.t 1) 2), (some (24, false))⟩, ⟨(some 26), (.ld (.t 25) none), (some (24, false))⟩, ⟨(some 27), (.bin .gtr (.t 26) (.c (.v (.int .i64 65535)))), (some (24, false))⟩, ⟨(some 28), (.pick (.t 24) (.c (.v (.bool true))) (.t 27)), none⟩]) (.cond (.t 28) 
  (.seq (.reg [] [⟨(some 2), (.mv (.c (.v (.bool false)))), none⟩]) .ret) .skip))) 
  (.seq 
  (.seq (.reg [] [⟨(some 29), (.fa (.t 1) 3), none⟩, ⟨(some 30), (.ld (.t 29) (some 6)), none⟩, ⟨(some 31), (.mv (.c (.v (.int .i64 0)))), none⟩]) (.block 0 
  (.loopN [40, 2, 39, 38, 37, 36, 35, 34, 33, 32] c61b0))) 
  (.seq (.reg [] [⟨(some 2), (.mv (.c (.v (.bool true)))), none⟩]) .ret)))), [(.t 2)]⟩

def c62b0 : MC := 
  (.seq (.reg [] [⟨(some 16), (.bin .lss (.t 15) (.c (.v (.int .i64 3)))), none⟩]) 
  (.seq (.cond (.t 16) .skip (.exit 0)) 
  (.seq (.block 1 
  (.seq (.reg [] [⟨(some 17), (.ix (.t 14) (.t 15) 3 9 (some 9)), none⟩, ⟨(some 6), (.box (.c (.agg [(.v (.int .i64 0)), (.v (.int .i64 0)), (.v (.int .i64 0)), (.v (.int .i64 0)), (.v (.int .i64 0)), (.v (.int .i64 0)), (.v (.int .i64 0)), (.v (.int .i64 0)), (.v (.int .i64 0))]))), none⟩, ⟨none, (.st (.t 6) (.t 17) 9), none⟩]) 
  (.seq (.reg [] [⟨(some 18), (.fa (.t 3) 0), none⟩, ⟨(some 19), (.ld (.t 18) none), none⟩, ⟨(some 20), (.fa (.t 6) 0), none⟩, ⟨(some 21), (.fa (.t 20) 0), none⟩, ⟨(some 22), (.ld (.t 21) none), none⟩, ⟨(some 23), (.mm false [(.t 19), (.t 22)]), none⟩, ⟨(some 24), (.fa (.t 3) 1), none⟩, ⟨(some 25), (.ld (.t 24) none), none⟩, ⟨(some 26), (.fa (.t 6) 0), none⟩, ⟨(some 27), (.fa (.t 26) 1), none⟩, ⟨(some 28), (.ld (.t 27) none), none⟩, ⟨(some 29), (.mm false [(.t 25), (.t 28)]), none⟩, ⟨(some 30), (.bld [(.v (.int .i64 0)), (.v (.int .i64 0))] [(0, (1, (.t 23))), (1, (1, (.t 29)))]), none⟩, ⟨none, (.st (.t 3) (.t 30) 2), none⟩]) (.reg [] [⟨(some 31), (.fa (.t 4) 0), none⟩, ⟨(some 32), (.ld (.t 31) none), none⟩, ⟨(some 33), (.fa (.t 6) 0), none⟩, ⟨(some 34), (.fa (.t 33) 0), none⟩, ⟨(some 35), (.ld (.t 34) none), none⟩, ⟨(some 36), (.mm true [(.t 32), (.t 35)]), none⟩, ⟨(some 37), (.fa (.t 4) 1), none⟩, ⟨(some 38), (.ld (.t 37) none), none⟩, ⟨(some 39), (.fa (.t 6) 0), none⟩, ⟨(some 40), (.fa (.t 39) 1), none⟩, ⟨(some 41), (.ld (.t 40) none), none⟩, ⟨(some 42), (.mm true [(.t 38), (.t 41)]), none⟩, ⟨(some 43), (.bld [(.v (.int .i64 0)), (.v (.int .i64 0))] [(0, (1, (.t 36))), (1, (1, (.t 42)))]), none⟩, ⟨none, (.st (.t 4) (.t 43) 2), none⟩])))) (.reg [] [⟨(some 44), (.bin .add (.t 15) (.c (.v (.int .i64 1)))), none⟩, ⟨(some 15), (.mv (.t 44)), none⟩]))))

def c62 : MF := ⟨1, 66, 
  (.seq (.reg [] [⟨(some 1), (.box (.t 0)), none⟩, ⟨(some 2), (.box (.c (.agg [(.v (.int .i64 0)), (.v (.int .i64 0)), (.v (.int .i64 0)), (.v (.int .i64 0))]))), none⟩]) 
  (.seq (.reg [⟨(some 8), (.ixa (.t 1) (.c (.v (.int .i64 0))) 3 9), none⟩, ⟨(some 9), (.fa (.t 8) 0), none⟩, ⟨(some 10), (.ld (.t 9) (some 2)), none⟩, ⟨(some 11), (.ixa (.t 1) (.c (.v (.int .i64 0))) 3 9), none⟩, ⟨(some 12), (.fa (.t 11) 0), none⟩, ⟨(some 13), (.ld (.t 12) (some 2)), none⟩, ⟨(some 3), (.mv (.c .bad)), none⟩, ⟨(some 4), (.mv (.c .bad)), none⟩, ⟨none, (.bld [(.v (.tuple #[])), (.v (.tuple #[]))] [(0, (2, (.t 10)))]), none⟩] [⟨(some 3), (.box (.t 10)), none⟩, ⟨(some 4), (.box (.c (.agg [(.v (.int .i64 0)), (.v (.int .i64 0))]))), none⟩, ⟨none, (.fa (.t 3) 0), none⟩, ⟨none, (.fa (.t 4) 0), none⟩, ⟨none, (.st (.t 4) (.t 13) 2), none⟩]) 
  (.seq 
  (.seq (.reg [] [⟨(some 14), (.ld (.t 1) (some 27)), none⟩, ⟨(some 15), (.mv (.c (.v (.int .i64 0)))), none⟩]) (.block 0 
  (.loopN [44, 43, 42, 41, 40, 39, 38, 37, 36, 35, 34, 33, 32, 31, 30, 29, 28, 27, 26, 25, 24, 23, 22, 21, 20, 19, 18, 17, 16] c62b0))) 
  (.seq (.reg [] [⟨(some 7), (.box (.c (.agg [(.v (.int .i64 0)), (.v (.int .i64 0)), (.v (.int .i64 0)), (.v (.int .i64 0))]))), none⟩]) 
  (.seq (.reg [] [⟨(some 46), (.fa (.t 3) 0), none⟩, ⟨(some 47), (.ld (.t 46) none), none⟩, ⟨(some 48), (.fa (.t 4) 0), none⟩, ⟨(some 49), (.ld (.t 48) none), none⟩, ⟨(some 50), (.call (.c (.f 77 [])) [(.t 47), (.t 49)]), none⟩, ⟨(some 45), (.mv (.t 50)), none⟩, ⟨(some 51), (.ext (.t 45) 0), none⟩, ⟨(some 52), (.ext (.t 45) 1), none⟩, ⟨(some 53), (.fa (.t 7) 0), none⟩, ⟨none, (.st (.t 53) (.t 51) 1), none⟩, ⟨(some 54), (.fa (.t 7) 2), none⟩, ⟨none, (.st (.t 54) (.t 52) 1), none⟩]) 
  (.seq (.reg [] [⟨(some 56), (.fa (.t 3) 1), none⟩, ⟨(some 57), (.ld (.t 56) none), none⟩, ⟨(some 58), (.fa (.t 4) 1), none⟩, ⟨(some 59), (.ld (.t 58) none), none⟩, ⟨(some 60), (.call (.c (.f 77 [])) [(.t 57), (.t 59)]), none⟩, ⟨(some 55), (.mv (.t 60)), none⟩, ⟨(some 61), (.ext (.t 55) 0), none⟩, ⟨(some 62), (.ext (.t 55) 1), none⟩, ⟨(some 63), (.fa (.t 7) 1), none⟩, ⟨none, (.st (.t 63) (.t 61) 1), none⟩, ⟨(some 64), (.fa (.t 7) 3), none⟩, ⟨none, (.st (.t 64) (.t 62) 1), none⟩]) 
  (.seq (.reg [] [⟨(some 65), (.ld (.t 7) (some 4)), none⟩, ⟨none, (.st (.t 2) (.t 65) 4), none⟩]) .ret))))))), [(.cell 2 (some 4))]⟩

def c63 : MF := ⟨1, 8, 
  (.seq (.reg [] [⟨(some 1), (.box (.t 0)), none⟩, ⟨(some 2), (.mv (.c (.v (.bool false)))), none⟩]) 
  (.seq (.alt (.regM [(.p, ⟨(some 3), (.ld (.t 1) (some 4)), none⟩), (.p, ⟨(some 4), (.ld (.t 1) (some 4)), none⟩), (.p, ⟨(some 5), (.ld (.t 1) (some 4)), none⟩), ((.r [1, 2]), ⟨(some 6), (.call (.c (.f 78 [])) [(.t 4), (.t 5), (.c (.f 79 []))]), none⟩)] [⟨(some 7), (.eqv false true [.i, .i, .i, .i] (.t 3) (.t 6)), none⟩, ⟨(some 2), (.mv (.t 7)), none⟩]) (.reg [⟨(some 3), (.ld (.t 1) (some 4)), none⟩, ⟨(some 4), (.ld (.t 1) (some 4)), none⟩, ⟨(some 5), (.ld (.t 1) (some 4)), none⟩, ⟨(some 6), (.call (.c (.f 78 [])) [(.t 4), (.t 5), (.c (.f 79 []))]), none⟩] [⟨(some 7), (.eqv false true [.i, .i, .i, .i] (.t 3) (.t 6)), none⟩, ⟨(some 2), (.mv (.t 7)), none⟩])) .ret)), [(.t 2)]⟩

def c64 : MF := ⟨1, 9, 
  (.seq (.reg [] [⟨(some 2), (.mv (.c (.v (.bool false)))), none⟩]) 
  (.seq (.reg [] [⟨(some 3), (.mv (.t 0)), none⟩, ⟨(some 4), (.bin .geq (.t 3) (.c (.v (.int .i64 0)))), none⟩, ⟨(some 5), (.mv (.t 4)), none⟩, ⟨(some 6), (.mv (.t 0)), (some (5, true))⟩, ⟨(some 7), (.bin .leq (.t 6) (.c (.v (.int .i64 65535)))), (some (5, true))⟩, ⟨(some 8), (.pick (.t 5) (.t 7) (.c (.v (.bool false)))), none⟩, ⟨(some 2), (.mv (.t 8)), none⟩]) .ret)), [(.t 2)]⟩

def c65b0 : MC := 
  (.seq (.reg [] [⟨(some 8), (.bin .lss (.t 7) (.t 6)), none⟩]) 
  (.seq (.cond (.t 8) .skip (.exit 0)) 
  (.seq (.block 1 
  (.seq (.reg [] [⟨(some 9), (.ixs (.t 5) (.t 7) 2), none⟩, ⟨(some 10), (.ld (.t 9) (some 2)), none⟩, ⟨(some 4), (.box (.c (.agg [(.v (.int .i64 0)), (.v (.int .i64 0))]))), none⟩, ⟨none, (.st (.t 4) (.t 10) 2), none⟩]) 
  (.seq (.reg [] [⟨(some 11), (.fa (.t 4) 0), none⟩, ⟨(some 12), (.ld (.t 11) none), none⟩, ⟨(some 13), (.bin .lss (.t 12) (.c (.v (.int .i64 (-524288))))), none⟩, ⟨(some 14), (.mv (.t 13)), none⟩, ⟨(some 15), (.fa (.t 4) 0), (some (14, false))⟩, ⟨(some 16), (.ld (.t 15) none), (some (14, false))⟩, ⟨(some 17), (.bin .gtr (.t 16) (.c (.v (.int .i64 524288)))), (some (14, false))⟩, ⟨(some 18), (.pick (.t 14) (.c (.v (.bool true))) (.t 17)), none⟩, ⟨(some 19), (.mv (.t 18)), none⟩, ⟨(some 20), (.fa (.t 4) 1), (some (19, false))⟩, ⟨(some 21), (.ld (.t 20) none), (some (19, false))⟩, ⟨(some 22), (.bin .lss (.t 21) (.c (.v (.int .i64 (-524288))))), (some (19, false))⟩, ⟨(some 23), (.pick (.t 19) (.c (.v (.bool true))) (.t 22)), none⟩, ⟨(some 24), (.mv (.t 23)), none⟩, ⟨(some 25), (.fa (.t 4) 1), (some (24, false))⟩, ⟨(some 26), (.ld (.t 25) none), (some (24, false))⟩, ⟨(some 27), (.bin .gtr (.t 26) (.c (.v (.int .i64 524288)))), (some (24, false))⟩, ⟨(some 28), (.pick (.t 24) (.c (.v (.bool true))) (.t 27)), none⟩]) (.cond (.t 28) 
  (.seq (.reg [] [⟨(some 2), (.mv (.c (.v (.bool false)))), none⟩]) .ret) .skip)))) (.reg [] [⟨(some 29), (.bin .add (.t 7) (.c (.v (.int .i64 1)))), none⟩, ⟨(some 7), (.mv (.t 29)), none⟩]))))

def c65 : MF := ⟨1, 30, 
  (.seq (.reg [] [⟨(some 2), (.mv (.c (.v (.bool false)))), none⟩]) 
  (.seq 
  (.seq (.reg [] [⟨(some 5), (.mv (.t 0)), none⟩, ⟨(some 6), (.len (.t 5)), none⟩, ⟨(some 7), (.mv (.c (.v (.int .i64 0)))), none⟩]) (.block 0 
  (.loopN [29, 2, 28, 27, 26, 25, 24, 23, 22, 21, 20, 19, 18, 17, 16, 15, 14, 13, 12, 11, 10, 9, 8] c65b0))) 
  (.seq (.reg [] [⟨(some 2), (.mv (.c (.v (.bool true)))), none⟩]) .ret))), [(.t 2)]⟩

def c66 : MF := ⟨3, 30, 
  (.seq (.reg [] [⟨(some 3), (.box (.t 0)), none⟩, ⟨(some 4), (.box (.t 1)), none⟩, ⟨(some 5), (.box (.t 2)), none⟩, ⟨(some 6), (.mv (.c (.v (.int .i64 0)))), none⟩]) 
  (.seq (.reg [] [⟨(some 7), (.fa (.t 4) 0), none⟩, ⟨(some 8), (.ld (.t 7) none), none⟩, ⟨(some 9), (.fa (.t 3) 0), none⟩, ⟨(some 10), (.ld (.t 9) none), none⟩, ⟨(some 11), (.bin .sub (.t 8) (.t 10)), none⟩, ⟨(some 12), (.fa (.t 5) 1), none⟩, ⟨(some 13), (.ld (.t 12) none), none⟩, ⟨(some 14), (.fa (.t 3) 1), none⟩, ⟨(some 15), (.ld (.t 14) none), none⟩, ⟨(some 16), (.bin .sub (.t 13) (.t 15)), none⟩, ⟨(some 17), (.bin .mul (.t 11) (.t 16)), none⟩, ⟨(some 18), (.fa (.t 4) 1), none⟩, ⟨(some 19), (.ld (.t 18) none), none⟩, ⟨(some 20), (.fa (.t 3) 1), none⟩, ⟨(some 21), (.ld (.t 20) none), none⟩, ⟨(some 22), (.bin .sub (.t 19) (.t 21)), none⟩, ⟨(some 23), (.fa (.t 5) 0), none⟩, ⟨(some 24), (.ld (.t 23) none), none⟩, ⟨(some 25), (.fa (.t 3) 0), none⟩, ⟨(some 26), (.ld (.t 25) none), none⟩, ⟨(some 27), (.bin .sub (.t 24) (.t 26)), none⟩, ⟨(some 28), (.bin .mul (.t 22) (.t 27)), none⟩, ⟨(some 29), (.bin .sub (.t 17) (.t 28)), none⟩, ⟨(some 6), (.mv (.t 29)), none⟩]) .ret)), [(.t 6)]⟩

def c67 : MF := ⟨1, 9, 
  (.seq (.reg [] [⟨(some 2), (.mv (.c (.v (.bool false)))), none⟩]) 
  (.seq (.reg [] [⟨(some 3), (.mv (.t 0)), none⟩, ⟨(some 4), (.bin .geq (.t 3) (.c (.v (.int .i64 0)))), none⟩, ⟨(some 5), (.mv (.t 4)), none⟩, ⟨(some 6), (.mv (.t 0)), (some (5, true))⟩, ⟨(some 7), (.bin .leq (.t 6) (.c (.v (.int .i64 255)))), (some (5, true))⟩, ⟨(some 8), (.pick (.t 5) (.t 7) (.c (.v (.bool false)))), none⟩, ⟨(some 2), (.mv (.t 8)), none⟩]) .ret)), [(.t 2)]⟩

def c68 : MF := ⟨2, 14, 
  (.seq (.reg [] [⟨(some 4), (.mv (.c (.v (.bool false)))), none⟩]) 
  (.seq (.reg [] [⟨(some 5), (.mv (.t 0)), none⟩, ⟨(some 6), (.mv (.t 1)), none⟩, ⟨(some 7), (.bin .sub (.c (.v (.int .i64 0))) (.t 6)), none⟩, ⟨(some 8), (.bin .geq (.t 5) (.t 7)), none⟩, ⟨(some 9), (.mv (.t 8)), none⟩, ⟨(some 10), (.mv (.t 0)), (some (9, true))⟩, ⟨(some 11), (.mv (.t 1)), (some (9, true))⟩, ⟨(some 12), (.bin .leq (.t 10) (.t 11)), (some (9, true))⟩, ⟨(some 13), (.pick (.t 9) (.t 12) (.c (.v (.bool false)))), none⟩, ⟨(some 4), (.mv (.t 13)), none⟩]) .ret)), [(.t 4)]⟩

def c69 : MF := ⟨2, 10, 
  (.seq (.reg [] [⟨(some 4), (.mv (.c (.v (.int .i64 0)))), none⟩]) 
  (.seq 
  (.seq (.reg [] [⟨(some 5), (.mv (.t 0)), none⟩, ⟨(some 6), (.mv (.t 1)), none⟩, ⟨(some 7), (.bin .gtr (.t 5) (.t 6)), none⟩]) (.cond (.t 7) 
  (.seq (.reg [] [⟨(some 8), (.mv (.t 0)), none⟩, ⟨(some 4), (.mv (.t 8)), none⟩]) .ret) .skip)) 
  (.seq (.reg [] [⟨(some 9), (.mv (.t 1)), none⟩, ⟨(some 4), (.mv (.t 9)), none⟩]) .ret))), [(.t 4)]⟩

def c70 : MF := ⟨2, 38, 
  (.seq (.reg [] [⟨(some 4), (.mv (.c (.v (.int .i64 0)))), none⟩]) 
  (.seq 
  (.seq (.reg [] [⟨(some 7), (.mv (.t 0)), none⟩, ⟨(some 8), (.bin .eql (.t 7) (.c (.v (.int .i64 (-9223372036854775808))))), none⟩, ⟨(some 9), (.mv (.t 8)), none⟩, ⟨(some 10), (.mv (.t 1)), (some (9, true))⟩, ⟨(some 11), (.bin .eql (.t 10) (.c (.v (.int .i64 (-1))))), (some (9, true))⟩, ⟨(some 12), (.pick (.t 9) (.t 11) (.c (.v (.bool false)))), none⟩]) (.cond (.t 12) 
  (.seq (.reg [] [⟨(some 4), (.mv (.c (.v (.int .i64 9223372036854775807)))), none⟩]) .ret) .skip)) 
  (.seq (.reg [] [⟨(some 13), (.mv (.t 0)), none⟩, ⟨(some 14), (.mv (.t 1)), none⟩, ⟨(some 15), (.bin .quo (.t 13) (.t 14)), none⟩, ⟨(some 5), (.mv (.t 15)), none⟩]) 
  (.seq (.reg [] [⟨(some 16), (.mv (.t 0)), none⟩, ⟨(some 17), (.mv (.t 5)), none⟩, ⟨(some 18), (.mv (.t 1)), none⟩, ⟨(some 19), (.bin .mul (.t 17) (.t 18)), none⟩, ⟨(some 20), (.bin .sub (.t 16) (.t 19)), none⟩, ⟨(some 6), (.mv (.t 20)), none⟩]) 
  (.seq 
  (.seq (.reg [] [⟨(some 21), (.mv (.t 6)), none⟩, ⟨(some 22), (.bin .gtr (.t 21) (.c (.v (.int .i64 0)))), none⟩, ⟨(some 23), (.mv (.t 22)), none⟩, ⟨(some 24), (.mv (.t 1)), (some (23, true))⟩, ⟨(some 25), (.bin .gtr (.t 24) (.c (.v (.int .i64 0)))), (some (23, true))⟩, ⟨(some 26), (.pick (.t 23) (.t 25) (.c (.v (.bool false)))), none⟩, ⟨(some 27), (.mv (.t 26)), none⟩, ⟨(some 28), (.mv (.t 6)), (some (27, false))⟩, ⟨(some 29), (.bin .lss (.t 28) (.c (.v (.int .i64 0)))), (some (27, false))⟩, ⟨(some 30), (.mv (.t 29)), (some (27, false))⟩, ⟨(some 31), (.mv (.t 1)), (some (30, true))⟩, ⟨(some 32), (.bin .lss (.t 31) (.c (.v (.int .i64 0)))), (some (30, true))⟩, ⟨(some 33), (.pick (.t 30) (.t 32) (.c (.v (.bool false)))), (some (27, false))⟩, ⟨(some 34), (.pick (.t 27) (.c (.v (.bool true))) (.t 33)), none⟩]) (.cond (.t 34) 
  (.seq (.reg [] [⟨(some 35), (.mv (.t 5)), none⟩, ⟨(some 36), (.bin .add (.t 35) (.c (.v (.int .i64 1)))), none⟩, ⟨(some 4), (.mv (.t 36)), none⟩]) .ret) .skip)) 
  (.seq (.reg [] [⟨(some 37), (.mv (.t 5)), none⟩, ⟨(some 4), (.mv (.t 37)), none⟩]) .ret)))))), [(.t 4)]⟩

def c71 : MF := ⟨2, 38, 
  (.seq (.reg [] [⟨(some 4), (.mv (.c (.v (.int .i64 0)))), none⟩]) 
  (.seq 
  (.seq (.reg [] [⟨(some 7), (.mv (.t 0)), none⟩, ⟨(some 8), (.bin .eql (.t 7) (.c (.v (.int .i64 (-9223372036854775808))))), none⟩, ⟨(some 9), (.mv (.t 8)), none⟩, ⟨(some 10), (.mv (.t 1)), (some (9, true))⟩, ⟨(some 11), (.bin .eql (.t 10) (.c (.v (.int .i64 (-1))))), (some (9, true))⟩, ⟨(some 12), (.pick (.t 9) (.t 11) (.c (.v (.bool false)))), none⟩]) (.cond (.t 12) 
  (.seq (.reg [] [⟨(some 4), (.mv (.c (.v (.int .i64 9223372036854775807)))), none⟩]) .ret) .skip)) 
  (.seq (.reg [] [⟨(some 13), (.mv (.t 0)), none⟩, ⟨(some 14), (.mv (.t 1)), none⟩, ⟨(some 15), (.bin .quo (.t 13) (.t 14)), none⟩, ⟨(some 5), (.mv (.t 15)), none⟩]) 
  (.seq (.reg [] [⟨(some 16), (.mv (.t 0)), none⟩, ⟨(some 17), (.mv (.t 5)), none⟩, ⟨(some 18), (.mv (.t 1)), none⟩, ⟨(some 19), (.bin .mul (.t 17) (.t 18)), none⟩, ⟨(some 20), (.bin .sub (.t 16) (.t 19)), none⟩, ⟨(some 6), (.mv (.t 20)), none⟩]) 
  (.seq 
  (.seq (.reg [] [⟨(some 21), (.mv (.t 6)), none⟩, ⟨(some 22), (.bin .lss (.t 21) (.c (.v (.int .i64 0)))), none⟩, ⟨(some 23), (.mv (.t 22)), none⟩, ⟨(some 24), (.mv (.t 1)), (some (23, true))⟩, ⟨(some 25), (.bin .gtr (.t 24) (.c (.v (.int .i64 0)))), (some (23, true))⟩, ⟨(some 26), (.pick (.t 23) (.t 25) (.c (.v (.bool false)))), none⟩, ⟨(some 27), (.mv (.t 26)), none⟩, ⟨(some 28), (.mv (.t 6)), (some (27, false))⟩, ⟨(some 29), (.bin .gtr (.t 28) (.c (.v (.int .i64 0)))), (some (27, false))⟩, ⟨(some 30), (.mv (.t 29)), (some (27, false))⟩, ⟨(some 31), (.mv (.t 1)), (some (30, true))⟩, ⟨(some 32), (.bin .lss (.t 31) (.c (.v (.int .i64 0)))), (some (30, true))⟩, ⟨(some 33), (.pick (.t 30) (.t 32) (.c (.v (.bool false)))), (some (27, false))⟩, ⟨(some 34), (.pick (.t 27) (.c (.v (.bool true))) (.t 33)), none⟩]) (.cond (.t 34) 
  (.seq (.reg [] [⟨(some 35), (.mv (.t 5)), none⟩, ⟨(some 36), (.bin .sub (.t 35) (.c (.v (.int .i64 1)))), none⟩, ⟨(some 4), (.mv (.t 36)), none⟩]) .ret) .skip)) 
  (.seq (.reg [] [⟨(some 37), (.mv (.t 5)), none⟩, ⟨(some 4), (.mv (.t 37)), none⟩]) .ret)))))), [(.t 4)]⟩

def c72 : MF := ⟨2, 12, 
  (.seq (.reg [] [⟨(some 4), (.box (.c (.agg [(.v (.int .i64 0)), (.v (.int .i64 0))]))), none⟩]) 
  (.seq (.reg [] [⟨(some 5), (.mv (.t 0)), none⟩, ⟨(some 6), (.bin .mul (.c (.v (.int .i64 16))) (.t 5)), none⟩, ⟨(some 7), (.bin .add (.t 6) (.c (.v (.int .i64 8)))), none⟩, ⟨(some 8), (.mv (.t 1)), none⟩, ⟨(some 9), (.bin .mul (.c (.v (.int .i64 16))) (.t 8)), none⟩, ⟨(some 10), (.bin .add (.t 9) (.c (.v (.int .i64 8)))), none⟩, ⟨(some 11), (.bld [(.v (.int .i64 0)), (.v (.int .i64 0))] [(0, (1, (.t 7))), (1, (1, (.t 10)))]), none⟩, ⟨none, (.st (.t 4) (.t 11) 2), none⟩]) .ret)), [(.cell 4 (some 2))]⟩

def c73b0 : MC := 
  (.seq (.reg [] [⟨(some 46), (.bin .lss (.t 45) (.c (.v (.int .i64 4)))), none⟩]) 
  (.seq (.cond (.t 46) .skip (.exit 2)) 
  (.seq (.block 3 
  (.seq (.reg [] [⟨(some 47), (.mv (.t 45)), none⟩, ⟨(some 48), (.ix (.t 44) (.t 45) 4 1 none), none⟩, ⟨(some 9), (.mv (.t 47)), none⟩, ⟨(some 10), (.mv (.t 48)), none⟩]) (.reg [⟨(some 49), (.mv (.t 8)), none⟩, ⟨(some 50), (.ixa (.t 7) (.t 49) 4 1), none⟩, ⟨(some 51), (.ld (.t 50) none), none⟩, ⟨(some 52), (.mv (.t 8)), none⟩, ⟨(some 53), (.bin .mul (.t 52) (.c (.v (.int .i64 4)))), none⟩, ⟨(some 54), (.mv (.t 9)), none⟩, ⟨(some 55), (.bin .add (.t 53) (.t 54)), none⟩, ⟨(some 56), (.ixa (.t 2) (.t 55) 16 1), none⟩, ⟨(some 57), (.ld (.t 56) none), none⟩, ⟨(some 58), (.mv (.t 10)), none⟩, ⟨(some 59), (.bin .mul (.t 57) (.t 58)), none⟩] [⟨(some 60), (.bin .add (.t 51) (.t 59)), none⟩, ⟨(some 61), (.ixa (.t 7) (.t 49) 4 1), none⟩, ⟨none, (.st (.t 61) (.t 60) 1), none⟩]))) (.reg [] [⟨(some 62), (.bin .add (.t 45) (.c (.v (.int .i64 1)))), none⟩, ⟨(some 45), (.mv (.t 62)), none⟩]))))

def c73b1 : MC := 
  (.seq (.reg [] [⟨(some 42), (.bin .lss (.t 41) (.c (.v (.int .i64 4)))), none⟩]) 
  (.seq (.cond (.t 42) .skip (.exit 0)) 
  (.seq (.block 1 
  (.seq (.reg [] [⟨(some 43), (.mv (.t 41)), none⟩, ⟨(some 8), (.mv (.t 43)), none⟩]) 
  (.seq 
  (.seq (.reg [] [⟨(some 44), (.ld (.t 6) (some 4)), none⟩, ⟨(some 45), (.mv (.c (.v (.int .i64 0)))), none⟩]) (.block 2 
  (.loopN [62, 61, 60, 59, 58, 57, 56, 55, 54, 53, 52, 51, 50, 49, 48, 47, 46] c73b0))) (.reg [] [⟨(some 63), (.mv (.t 8)), none⟩, ⟨(some 64), (.ixa (.t 7) (.t 63) 4 1), none⟩, ⟨(some 65), (.ld (.t 64) none), none⟩, ⟨(some 66), (.bin .shr (.t 65) (.c (.v (.int .u64 16)))), none⟩, ⟨(some 67), (.ixa (.t 7) (.t 63) 4 1), none⟩, ⟨none, (.st (.t 67) (.t 66) 1), none⟩])))) (.reg [] [⟨(some 68), (.bin .add (.t 41) (.c (.v (.int .i64 1)))), none⟩, ⟨(some 41), (.mv (.t 68)), none⟩]))))

def c73 : MF := ⟨2, 78, 
  (.seq (.reg [] [⟨(some 2), (.box (.t 0)), none⟩, ⟨(some 3), (.box (.t 1)), none⟩, ⟨(some 4), (.box (.c (.agg [(.v (.int .i64 0)), (.v (.int .i64 0)), (.v (.int .i64 0)), (.v (.int .i64 0))]))), none⟩, ⟨(some 5), (.mv (.c (.v (.int .i64 0)))), none⟩]) 
  (.seq (.reg [] [⟨(some 11), (.ld (.t 3) (some 4)), none⟩, ⟨(some 12), (.call (.c (.f 81 [])) [(.t 11)]), none⟩, ⟨(some 6), (.box (.c (.agg [(.v (.int .i64 0)), (.v (.int .i64 0)), (.v (.int .i64 0)), (.v (.int .i64 0))]))), none⟩, ⟨none, (.st (.t 6) (.t 12) 4), none⟩]) 
  (.seq 
  (.seq (.reg [] [⟨(some 13), (.ld (.t 2) (some 16)), none⟩, ⟨(some 14), (.call (.c (.f 82 [])) [(.t 13)]), none⟩, ⟨(some 15), (.un .not (.t 14)), none⟩, ⟨(some 16), (.mv (.t 15)), none⟩, ⟨(some 17), (.fa (.t 3) 0), (some (16, false))⟩, ⟨(some 18), (.ld (.t 17) none), (some (16, false))⟩, ⟨(some 19), (.call (.c (.f 83 [])) [(.t 18), (.c (.v (.int .i64 1073741824)))]), (some (16, false))⟩, ⟨(some 20), (.un .not (.t 19)), (some (16, false))⟩, ⟨(some 21), (.pick (.t 16) (.c (.v (.bool true))) (.t 20)), none⟩, ⟨(some 22), (.mv (.t 21)), none⟩, ⟨(some 23), (.fa (.t 3) 1), (some (22, false))⟩, ⟨(some 24), (.ld (.t 23) none), (some (22, false))⟩, ⟨(some 25), (.call (.c (.f 83 [])) [(.t 24), (.c (.v (.int .i64 1073741824)))]), (some (22, false))⟩, ⟨(some 26), (.un .not (.t 25)), (some (22, false))⟩, ⟨(some 27), (.pick (.t 22) (.c (.v (.bool true))) (.t 26)), none⟩, ⟨(some 28), (.mv (.t 27)), none⟩, ⟨(some 29), (.fa (.t 3) 2), (some (28, false))⟩, ⟨(some 30), (.ld (.t 29) none), (some (28, false))⟩, ⟨(some 31), (.call (.c (.f 83 [])) [(.t 30), (.c (.v (.int .i64 1073741824)))]), (some (28, false))⟩, ⟨(some 32), (.un .not (.t 31)), (some (28, false))⟩, ⟨(some 33), (.pick (.t 28) (.c (.v (.bool true))) (.t 32)), none⟩, ⟨(some 34), (.mv (.t 33)), none⟩, ⟨(some 35), (.fa (.t 3) 3), (some (34, false))⟩, ⟨(some 36), (.ld (.t 35) none), (some (34, false))⟩, ⟨(some 37), (.call (.c (.f 83 [])) [(.t 36), (.c (.v (.int .i64 1073741824)))]), (some (34, false))⟩, ⟨(some 38), (.un .not (.t 37)), (some (34, false))⟩, ⟨(some 39), (.pick (.t 34) (.c (.v (.bool true))) (.t 38)), none⟩]) (.cond (.t 39) 
  (.seq (.reg [] [⟨(some 40), (.bld [(.v (.int .i64 0)), (.v (.int .i64 0)), (.v (.int .i64 0)), (.v (.int .i64 0))] []), none⟩, ⟨none, (.st (.t 4) (.t 40) 4), none⟩, ⟨(some 5), (.mv (.c (.v (.int .i64 3)))), none⟩]) .ret) .skip)) 
  (.seq (.reg [] [⟨(some 7), (.box (.c (.agg [(.v (.int .i64 0)), (.v (.int .i64 0)), (.v (.int .i64 0)), (.v (.int .i64 0))]))), none⟩]) 
  (.seq 
  (.seq (.reg [] [⟨(some 41), (.mv (.c (.v (.int .i64 0)))), none⟩]) (.block 0 
  (.loopN [68, 67, 66, 65, 64, 63, 45, 62, 61, 60, 59, 58, 57, 56, 55, 54, 53, 52, 51, 50, 49, 48, 47, 46, 44, 43, 42] c73b1))) 
  (.seq (.reg [] [⟨(some 69), (.ixa (.t 7) (.c (.v (.int .i64 0))) 4 1), none⟩, ⟨(some 70), (.ld (.t 69) none), none⟩, ⟨(some 71), (.ixa (.t 7) (.c (.v (.int .i64 1))) 4 1), none⟩, ⟨(some 72), (.ld (.t 71) none), none⟩, ⟨(some 73), (.ixa (.t 7) (.c (.v (.int .i64 2))) 4 1), none⟩, ⟨(some 74), (.ld (.t 73) none), none⟩, ⟨(some 75), (.ixa (.t 7) (.c (.v (.int .i64 3))) 4 1), none⟩, ⟨(some 76), (.ld (.t 75) none), none⟩, ⟨(some 77), (.bld [(.v (.int .i64 0)), (.v (.int .i64 0)), (.v (.int .i64 0)), (.v (.int .i64 0))] [(0, (1, (.t 70))), (1, (1, (.t 72))), (2, (1, (.t 74))), (3, (1, (.t 76)))]), none⟩, ⟨none, (.st (.t 4) (.t 77) 4), none⟩, ⟨(some 5), (.mv (.c (.v (.int .i64 0)))), none⟩]) .ret)))))), [(.cell 4 (some 4)), (.t 5)]⟩

def c74 : MF := ⟨1, 12, 
  (.seq (.reg [] [⟨(some 2), (.mv (.c (.v (.int .i64 0)))), none⟩, ⟨(some 3), (.mv (.c (.v (.int .i64 0)))), none⟩]) 
  (.seq 
  (.seq (.reg [] [⟨(some 5), (.mv (.t 0)), none⟩, ⟨(some 6), (.call (.c (.f 84 [])) [(.t 5)]), none⟩, ⟨(some 4), (.mv (.t 6)), none⟩]) 
  (.seq (.reg [] [⟨(some 7), (.mv (.t 4)), none⟩, ⟨(some 8), (.bin .neq (.t 7) (.c (.v (.int .i64 0)))), none⟩]) (.cond (.t 8) 
  (.seq (.reg [] [⟨(some 9), (.mv (.t 4)), none⟩, ⟨(some 2), (.mv (.c (.v (.int .i64 0)))), none⟩, ⟨(some 3), (.mv (.t 9)), none⟩]) .ret) .skip))) 
  (.seq (.reg [] [⟨(some 10), (.mv (.t 0)), none⟩, ⟨(some 11), (.bin .andNot (.c (.v (.int .i64 7))) (.t 10)), none⟩, ⟨(some 2), (.mv (.t 11)), none⟩, ⟨(some 3), (.mv (.c (.v (.int .i64 0)))), none⟩]) .ret))), [(.t 2), (.t 3)]⟩

def c75 : MF := ⟨1, 9, 
  (.seq (.reg [] [⟨(some 2), (.mv (.c (.v (.bool false)))), none⟩]) 
  (.seq (.reg [] [⟨(some 3), (.mv (.t 0)), none⟩, ⟨(some 4), (.bin .geq (.t 3) (.c (.v (.int .i64 0)))), none⟩, ⟨(some 5), (.mv (.t 4)), none⟩, ⟨(some 6), (.mv (.t 0)), (some (5, true))⟩, ⟨(some 7), (.bin .lss (.t 6) (.c (.v (.int .i64 8)))), (some (5, true))⟩, ⟨(some 8), (.pick (.t 5) (.t 7) (.c (.v (.bool false)))), none⟩, ⟨(some 2), (.mv (.t 8)), none⟩]) .ret)), [(.t 2)]⟩

def c76 : MF := ⟨1, 9, 
  (.seq (.reg [] [⟨(some 2), (.mv (.c (.v (.bool false)))), none⟩]) 
  (.seq (.reg [] [⟨(some 3), (.mv (.t 0)), none⟩, ⟨(some 4), (.bin .geq (.t 3) (.c (.v (.int .i64 0)))), none⟩, ⟨(some 5), (.mv (.t 4)), none⟩, ⟨(some 6), (.mv (.t 0)), (some (5, true))⟩, ⟨(some 7), (.bin .leq (.t 6) (.c (.v (.int .i64 255)))), (some (5, true))⟩, ⟨(some 8), (.pick (.t 5) (.t 7) (.c (.v (.bool false)))), none⟩, ⟨(some 2), (.mv (.t 8)), none⟩]) .ret)), [(.t 2)]⟩

def c77 : MF := ⟨2, 15, 
  (.seq (.reg [] [⟨(some 4), (.mv (.c (.v (.int .i64 0)))), none⟩, ⟨(some 5), (.mv (.c (.v (.int .i64 0)))), none⟩]) 
  (.seq (.reg [] [⟨(some 6), (.mv (.t 0)), none⟩, ⟨(some 7), (.bin .sub (.t 6) (.c (.v (.int .i64 8)))), none⟩, ⟨(some 8), (.bin .add (.t 7) (.c (.v (.int .i64 16)))), none⟩, ⟨(some 9), (.bin .sub (.t 8) (.c (.v (.int .i64 1)))), none⟩, ⟨(some 10), (.bin .shr (.t 9) (.c (.v (.int .u64 4)))), none⟩, ⟨(some 11), (.mv (.t 1)), none⟩, ⟨(some 12), (.bin .sub (.t 11) (.c (.v (.int .i64 8)))), none⟩, ⟨(some 13), (.bin .shr (.t 12) (.c (.v (.int .u64 4)))), none⟩, ⟨(some 14), (.bin .add (.t 13) (.c (.v (.int .i64 1)))), none⟩, ⟨(some 4), (.mv (.t 10)), none⟩, ⟨(some 5), (.mv (.t 14)), none⟩]) .ret)), [(.t 4), (.t 5)]⟩

def c78 : MF := ⟨3, 32, 
  (.seq (.reg [] [⟨(some 3), (.box (.t 0)), none⟩, ⟨(some 4), (.box (.t 1)), none⟩, ⟨(some 6), (.box (.c (.agg [(.v (.int .i64 0)), (.v (.int .i64 0)), (.v (.int .i64 0)), (.v (.int .i64 0))]))), none⟩]) 
  (.seq (.alt (.regM [(.p, ⟨(some 7), (.mv (.t 2)), none⟩), (.p, ⟨(some 8), (.fa (.t 3) 0), none⟩), (.p, ⟨(some 9), (.ld (.t 8) none), none⟩), (.p, ⟨(some 10), (.fa (.t 4) 0), none⟩), (.p, ⟨(some 11), (.ld (.t 10) none), none⟩), ((.r [0, 1, 2, 3, 4]), ⟨(some 12), (.call (.t 7) [(.t 9), (.t 11)]), none⟩), (.p, ⟨(some 13), (.mv (.t 2)), none⟩), (.p, ⟨(some 14), (.fa (.t 3) 1), none⟩), (.p, ⟨(some 15), (.ld (.t 14) none), none⟩), (.p, ⟨(some 16), (.fa (.t 4) 1), none⟩), (.p, ⟨(some 17), (.ld (.t 16) none), none⟩), ((.r [0, 1, 2, 3, 4, 5, 6, 7, 8, 9, 10]), ⟨(some 18), (.call (.t 13) [(.t 15), (.t 17)]), none⟩), (.p, ⟨(some 19), (.mv (.t 2)), none⟩), (.p, ⟨(some 20), (.fa (.t 3) 2), none⟩), (.p, ⟨(some 21), (.ld (.t 20) none), none⟩), (.p, ⟨(some 22), (.fa (.t 4) 2), none⟩), (.p, ⟨(some 23), (.ld (.t 22) none), none⟩), ((.r [0, 1, 2, 3, 4, 5, 6, 7, 8, 9, 10, 11, 12, 13, 14, 15, 16]), ⟨(some 24), (.call (.t 19) [(.t 21), (.t 23)]), none⟩), (.p, ⟨(some 25), (.mv (.t 2)), none⟩), (.p, ⟨(some 26), (.fa (.t 3) 3), none⟩), (.p, ⟨(some 27), (.ld (.t 26) none), none⟩), (.p, ⟨(some 28), (.fa (.t 4) 3), none⟩), (.p, ⟨(some 29), (.ld (.t 28) none), none⟩)] [⟨(some 30), (.call (.t 25) [(.t 27), (.t 29)]), none⟩, ⟨(some 31), (.bld [(.v (.int .i64 0)), (.v (.int .i64 0)), (.v (.int .i64 0)), (.v (.int .i64 0))] [(0, (1, (.t 12))), (1, (1, (.t 18))), (2, (1, (.t 24))), (3, (1, (.t 30)))]), none⟩, ⟨none, (.st (.t 6) (.t 31) 4), none⟩]) (.reg [⟨(some 7), (.mv (.t 2)), none⟩, ⟨(some 8), (.fa (.t 3) 0), none⟩, ⟨(some 9), (.ld (.t 8) none), none⟩, ⟨(some 10), (.fa (.t 4) 0), none⟩, ⟨(some 11), (.ld (.t 10) none), none⟩, ⟨(some 12), (.call (.t 7) [(.t 9), (.t 11)]), none⟩, ⟨(some 13), (.mv (.t 2)), none⟩, ⟨(some 14), (.fa (.t 3) 1), none⟩, ⟨(some 15), (.ld (.t 14) none), none⟩, ⟨(some 16), (.fa (.t 4) 1), none⟩, ⟨(some 17), (.ld (.t 16) none), none⟩, ⟨(some 18), (.call (.t 13) [(.t 15), (.t 17)]), none⟩, ⟨(some 19), (.mv (.t 2)), none⟩, ⟨(some 20), (.fa (.t 3) 2), none⟩, ⟨(some 21), (.ld (.t 20) none), none⟩, ⟨(some 22), (.fa (.t 4) 2), none⟩, ⟨(some 23), (.ld (.t 22) none), none⟩, ⟨(some 24), (.call (.t 19) [(.t 21), (.t 23)]), none⟩, ⟨(some 25), (.mv (.t 2)), none⟩, ⟨(some 26), (.fa (.t 3) 3), none⟩, ⟨(some 27), (.ld (.t 26) none), none⟩, ⟨(some 28), (.fa (.t 4) 3), none⟩, ⟨(some 29), (.ld (.t 28) none), none⟩] [⟨(some 30), (.call (.t 25) [(.t 27), (.t 29)]), none⟩, ⟨(some 31), (.bld [(.v (.int .i64 0)), (.v (.int .i64 0)), (.v (.int .i64 0)), (.v (.int .i64 0))] [(0, (1, (.t 12))), (1, (1, (.t 18))), (2, (1, (.t 24))), (3, (1, (.t 30)))]), none⟩, ⟨none, (.st (.t 6) (.t 31) 4), none⟩])) .ret)), [(.cell 6 (some 4))]⟩

def c79 : MF := ⟨2, 7, 
  (.seq (.reg [] [⟨(some 4), (.mv (.c (.v (.int .i64 0)))), none⟩]) 
  (.seq (.reg [] [⟨(some 5), (.mv (.t 0)), none⟩, ⟨(some 6), (.call (.c (.f 80 [])) [(.t 5), (.c (.v (.int .i64 0))), (.c (.v (.int .i64 255)))]), none⟩, ⟨(some 4), (.mv (.t 6)), none⟩]) .ret)), [(.t 4)]⟩

def c80 : MF := ⟨3, 18, 
  (.seq (.reg [] [⟨(some 6), (.mv (.c (.v (.int .i64 0)))), none⟩]) 
  (.seq (.block 0 
  (.seq (.reg [] [⟨(some 8), (.mv (.t 0)), none⟩, ⟨(some 9), (.mv (.t 1)), none⟩, ⟨(some 10), (.bin .lss (.t 8) (.t 9)), none⟩, ⟨(some 7), (.mv (.t 10)), none⟩]) (.cond (.t 7) 
  (.seq (.reg [] [⟨(some 11), (.mv (.t 1)), none⟩, ⟨(some 6), (.mv (.t 11)), none⟩]) .ret) 
  (.seq (.reg [] [⟨(some 13), (.mv (.t 0)), none⟩, ⟨(some 14), (.mv (.t 2)), none⟩, ⟨(some 15), (.bin .gtr (.t 13) (.t 14)), none⟩, ⟨(some 12), (.mv (.t 15)), none⟩]) (.cond (.t 12) 
  (.seq (.reg [] [⟨(some 16), (.mv (.t 2)), none⟩, ⟨(some 6), (.mv (.t 16)), none⟩]) .ret) .skip))))) 
  (.seq (.reg [] [⟨(some 17), (.mv (.t 0)), none⟩, ⟨(some 6), (.mv (.t 17)), none⟩]) .ret))), [(.t 6)]⟩

def c81 : MF := ⟨1, 12, 
  (.seq (.reg [] [⟨(some 1), (.box (.t 0)), none⟩, ⟨(some 2), (.box (.c (.agg [(.v (.int .i64 0)), (.v (.int .i64 0)), (.v (.int .i64 0)), (.v (.int .i64 0))]))), none⟩]) 
  (.seq (.reg [] [⟨(some 3), (.fa (.t 1) 0), none⟩, ⟨(some 4), (.ld (.t 3) none), none⟩, ⟨(some 5), (.fa (.t 1) 1), none⟩, ⟨(some 6), (.ld (.t 5) none), none⟩, ⟨(some 7), (.fa (.t 1) 2), none⟩, ⟨(some 8), (.ld (.t 7) none), none⟩, ⟨(some 9), (.fa (.t 1) 3), none⟩, ⟨(some 10), (.ld (.t 9) none), none⟩, ⟨(some 11), (.bld [(.v (.int .i64 0)), (.v (.int .i64 0)), (.v (.int .i64 0)), (.v (.int .i64 0))] [(0, (1, (.t 4))), (1, (1, (.t 6))), (2, (1, (.t 8))), (3, (1, (.t 10)))]), none⟩, ⟨none, (.st (.t 2) (.t 11) 4), none⟩]) .ret)), [(.cell 2 (some 4))]⟩

def c82b0 : MC := 
  (.seq (.reg [] [⟨(some 7), (.bin .lss (.t 6) (.c (.v (.int .i64 16)))), none⟩]) 
  (.seq (.cond (.t 7) .skip (.exit 0)) 
  (.seq (.block 1 
  (.seq (.reg [] [⟨(some 8), (.ix (.t 5) (.t 6) 16 1 none), none⟩, ⟨(some 4), (.mv (.t 8)), none⟩]) 
  (.seq (.reg [] [⟨(some 9), (.mv (.t 4)), none⟩, ⟨(some 10), (.call (.c (.f 83 [])) [(.t 9), (.c (.v (.int .i64 16777216)))]), none⟩, ⟨(some 11), (.un .not (.t 10)), none⟩]) (.cond (.t 11) 
  (.seq (.reg [] [⟨(some 2), (.mv (.c (.v (.bool false)))), none⟩]) .ret) .skip)))) (.reg [] [⟨(some 12), (.bin .add (.t 6) (.c (.v (.int .i64 1)))), none⟩, ⟨(some 6), (.mv (.t 12)), none⟩]))))

def c82 : MF := ⟨1, 13, 
  (.seq (.reg [] [⟨(some 1), (.box (.t 0)), none⟩, ⟨(some 2), (.mv (.c (.v (.bool false)))), none⟩]) 
  (.seq 
  (.seq (.reg [] [⟨(some 5), (.ld (.t 1) (some 16)), none⟩, ⟨(some 6), (.mv (.c (.v (.int .i64 0)))), none⟩]) (.block 0 
  (.loopN [12, 2, 11, 10, 9, 8, 7] c82b0))) 
  (.seq (.reg [] [⟨(some 2), (.mv (.c (.v (.bool true)))), none⟩]) .ret))), [(.t 2)]⟩

def c83 : MF := ⟨2, 14, 
  (.seq (.reg [] [⟨(some 4), (.mv (.c (.v (.bool false)))), none⟩]) 
  (.seq (.reg [] [⟨(some 5), (.mv (.t 0)), none⟩, ⟨(some 6), (.mv (.t 1)), none⟩, ⟨(some 7), (.un .neg (.t 6)), none⟩, ⟨(some 8), (.bin .geq (.t 5) (.t 7)), none⟩, ⟨(some 9), (.mv (.t 8)), none⟩, ⟨(some 10), (.mv (.t 0)), (some (9, true))⟩, ⟨(some 11), (.mv (.t 1)), (some (9, true))⟩, ⟨(some 12), (.bin .leq (.t 10) (.t 11)), (some (9, true))⟩, ⟨(some 13), (.pick (.t 9) (.t 12) (.c (.v (.bool false)))), none⟩, ⟨(some 4), (.mv (.t 13)), none⟩]) .ret)), [(.t 4)]⟩

def c84 : MF := ⟨1, 9, 
  (.seq (.reg [] [⟨(some 2), (.mv (.c (.v (.int .i64 0)))), none⟩]) 
  (.seq 
  (.seq (.reg [] [⟨(some 3), (.mv (.t 0)), none⟩, ⟨(some 4), (.bin .lss (.t 3) (.c (.v (.int .i64 0)))), none⟩, ⟨(some 5), (.mv (.t 4)), none⟩, ⟨(some 6), (.mv (.t 0)), (some (5, false))⟩, ⟨(some 7), (.bin .gtr (.t 6) (.c (.v (.int .i64 7)))), (some (5, false))⟩, ⟨(some 8), (.pick (.t 5) (.c (.v (.bool true))) (.t 7)), none⟩]) (.cond (.t 8) 
  (.seq (.reg [] [⟨(some 2), (.mv (.c (.v (.int .i64 9)))), none⟩]) .ret) .skip)) 
  (.seq (.reg [] [⟨(some 2), (.mv (.c (.v (.int .i64 0)))), none⟩]) .ret))), [(.t 2)]⟩

def pureL : List FuncId := []
theorem ok3 : ∃ md, cF Try.prog md 3 = some c3 := ⟨(true, pureL), by kernel_rfl⟩
theorem ok4 : ∃ md, cF Try.prog md 4 = some c4 := ⟨(true, pureL), by kernel_rfl⟩
theorem ok5 : ∃ md, cF Try.prog md 5 = some c5 := ⟨(true, pureL), by kernel_rfl⟩
theorem ok6 : ∃ md, cF Try.prog md 6 = some c6 := ⟨(true, pureL), by kernel_rfl⟩
theorem ok7 : ∃ md, cF Try.prog md 7 = some c7 := ⟨(true, pureL), by kernel_rfl⟩
theorem ok8 : ∃ md, cF Try.prog md 8 = some c8 := ⟨(true, pureL), by kernel_rfl⟩
theorem ok9 : ∃ md, cF Try.prog md 9 = some c9 := ⟨(true, pureL), by kernel_rfl⟩
theorem ok10 : ∃ md, cF Try.prog md 10 = some c10 := ⟨(true, pureL), by kernel_rfl⟩
theorem ok11 : ∃ md, cF Try.prog md 11 = some c11 := ⟨(true, pureL), by kernel_rfl⟩
theorem ok12 : ∃ md, cF Try.prog md 12 = some c12 := ⟨(true, pureL), by kernel_rfl⟩
theorem ok13 : ∃ md, cF Try.prog md 13 = some c13 := ⟨(true, pureL), by kernel_rfl⟩
theorem ok14 : ∃ md, cF Try.prog md 14 = some c14 := ⟨(true, pureL), by kernel_rfl⟩
theorem ok15 : ∃ md, cF Try.prog md 15 = some c15 := ⟨(true, pureL), by kernel_rfl⟩
theorem ok16 : ∃ md, cF Try.prog md 16 = some c16 := ⟨(true, pureL), by kernel_rfl⟩
theorem ok17 : ∃ md, cF Try.prog md 17 = some c17 := ⟨(true, pureL), by kernel_rfl⟩
theorem ok18 : ∃ md, cF Try.prog md 18 = some c18 := ⟨(true, pureL), by kernel_rfl⟩
theorem ok19 : ∃ md, cF Try.prog md 19 = some c19 := ⟨(false, pureL), by kernel_rfl⟩
theorem ok20 : ∃ md, cF Try.prog md 20 = some c20 := ⟨(true, pureL), by kernel_rfl⟩
theorem ok21 : ∃ md, cF Try.prog md 21 = some c21 := ⟨(true, pureL), by kernel_rfl⟩
theorem ok22 : ∃ md, cF Try.prog md 22 = some c22 := ⟨(true, pureL), by kernel_rfl⟩
theorem ok23 : ∃ md, cF Try.prog md 23 = some c23 := ⟨(true, pureL), by kernel_rfl⟩
theorem ok24 : ∃ md, cF Try.prog md 24 = some c24 := ⟨(true, pureL), by kernel_rfl⟩
theorem ok25 : ∃ md, cF Try.prog md 25 = some c25 := ⟨(true, pureL), by kernel_rfl⟩
theorem ok26 : ∃ md, cF Try.prog md 26 = some c26 := ⟨(true, pureL), by kernel_rfl⟩
theorem ok27 : ∃ md, cF Try.prog md 27 = some c27 := ⟨(true, pureL), by kernel_rfl⟩
theorem ok28 : ∃ md, cF Try.prog md 28 = some c28 := ⟨(true, pureL), by kernel_rfl⟩
theorem ok29 : ∃ md, cF Try.prog md 29 = some c29 := ⟨(true, pureL), by kernel_rfl⟩
theorem ok30 : ∃ md, cF Try.prog md 30 = some c30 := ⟨(true, pureL), by kernel_rfl⟩
theorem ok31 : ∃ md, cF Try.prog md 31 = some c31 := ⟨(true, pureL), by kernel_rfl⟩
theorem ok32 : ∃ md, cF Try.prog md 32 = some c32 := ⟨(true, pureL), by kernel_rfl⟩
theorem ok33 : ∃ md, cF Try.prog md 33 = some c33 := ⟨(true, pureL), by kernel_rfl⟩
theorem ok34 : ∃ md, cF Try.prog md 34 = some c34 := ⟨(true, pureL), by kernel_rfl⟩
theorem ok35 : ∃ md, cF Try.prog md 35 = some c35 := ⟨(true, pureL), by kernel_rfl⟩
theorem ok36 : ∃ md, cF Try.prog md 36 = some c36 := ⟨(true, pureL), by kernel_rfl⟩
theorem ok37 : ∃ md, cF Try.prog md 37 = some c37 := ⟨(true, pureL), by kernel_rfl⟩
theorem ok38 : ∃ md, cF Try.prog md 38 = some c38 := ⟨(true, pureL), by kernel_rfl⟩
theorem ok39 : ∃ md, cF Try.prog md 39 = some c39 := ⟨(true, pureL), by kernel_rfl⟩
theorem ok40 : ∃ md, cF Try.prog md 40 = some c40 := ⟨(true, pureL), by kernel_rfl⟩
theorem ok41 : ∃ md, cF Try.prog md 41 = some c41 := ⟨(true, pureL), by kernel_rfl⟩
theorem ok42 : ∃ md, cF Try.prog md 42 = some c42 := ⟨(true, pureL), by kernel_rfl⟩
theorem ok43 : ∃ md, cF Try.prog md 43 = some c43 := ⟨(true, pureL), by kernel_rfl⟩
theorem ok44 : ∃ md, cF Try.prog md 44 = some c44 := ⟨(true, pureL), by kernel_rfl⟩
theorem ok45 : ∃ md, cF Try.prog md 45 = some c45 := ⟨(true, pureL), by kernel_rfl⟩
theorem ok46 : ∃ md, cF Try.prog md 46 = some c46 := ⟨(true, pureL), by kernel_rfl⟩
theorem ok47 : ∃ md, cF Try.prog md 47 = some c47 := ⟨(true, pureL), by kernel_rfl⟩
theorem ok48 : ∃ md, cF Try.prog md 48 = some c48 := ⟨(true, pureL), by kernel_rfl⟩
theorem ok49 : ∃ md, cF Try.prog md 49 = some c49 := ⟨(true, pureL), by kernel_rfl⟩
theorem ok50 : ∃ md, cF Try.prog md 50 = some c50 := ⟨(true, pureL), by kernel_rfl⟩
theorem ok51 : ∃ md, cF Try.prog md 51 = some c51 := ⟨(true, pureL), by kernel_rfl⟩
theorem ok52 : ∃ md, cF Try.prog md 52 = some c52 := ⟨(true, pureL), by kernel_rfl⟩
theorem ok53 : ∃ md, cF Try.prog md 53 = some c53 := ⟨(true, pureL), by kernel_rfl⟩
theorem ok54 : ∃ md, cF Try.prog md 54 = some c54 := ⟨(true, pureL), by kernel_rfl⟩
theorem ok55 : ∃ md, cF Try.prog md 55 = some c55 := ⟨(true, pureL), by kernel_rfl⟩
theorem ok56 : ∃ md, cF Try.prog md 56 = some c56 := ⟨(true, pureL), by kernel_rfl⟩
theorem ok57 : ∃ md, cF Try.prog md 57 = some c57 := ⟨(true, pureL), by kernel_rfl⟩
theorem ok58 : ∃ md, cF Try.prog md 58 = some c58 := ⟨(true, pureL), by kernel_rfl⟩
theorem ok59 : ∃ md, cF Try.prog md 59 = some c59 := ⟨(true, pureL), by kernel_rfl⟩
theorem ok60 : ∃ md, cF Try.prog md 60 = some c60 := ⟨(true, pureL), by kernel_rfl⟩
theorem ok61 : ∃ md, cF Try.prog md 61 = some c61 := ⟨(true, pureL), by kernel_rfl⟩
theorem ok62 : ∃ md, cF Try.prog md 62 = some c62 := ⟨(true, pureL), by kernel_rfl⟩
theorem ok63 : ∃ md, cF Try.prog md 63 = some c63 := ⟨(true, pureL), by kernel_rfl⟩
theorem ok64 : ∃ md, cF Try.prog md 64 = some c64 := ⟨(true, pureL), by kernel_rfl⟩
theorem ok65 : ∃ md, cF Try.prog md 65 = some c65 := ⟨(true, pureL), by kernel_rfl⟩
theorem ok66 : ∃ md, cF Try.prog md 66 = some c66 := ⟨(true, pureL), by kernel_rfl⟩
theorem ok67 : ∃ md, cF Try.prog md 67 = some c67 := ⟨(true, pureL), by kernel_rfl⟩
theorem ok68 : ∃ md, cF Try.prog md 68 = some c68 := ⟨(true, pureL), by kernel_rfl⟩
theorem ok69 : ∃ md, cF Try.prog md 69 = some c69 := ⟨(true, pureL), by kernel_rfl⟩
theorem ok70 : ∃ md, cF Try.prog md 70 = some c70 := ⟨(true, pureL), by kernel_rfl⟩
theorem ok71 : ∃ md, cF Try.prog md 71 = some c71 := ⟨(true, pureL), by kernel_rfl⟩
theorem ok72 : ∃ md, cF Try.prog md 72 = some c72 := ⟨(true, pureL), by kernel_rfl⟩
theorem ok73 : ∃ md, cF Try.prog md 73 = some c73 := ⟨(true, pureL), by kernel_rfl⟩
theorem ok74 : ∃ md, cF Try.prog md 74 = some c74 := ⟨(true, pureL), by kernel_rfl⟩
theorem ok75 : ∃ md, cF Try.prog md 75 = some c75 := ⟨(true, pureL), by kernel_rfl⟩
theorem ok76 : ∃ md, cF Try.prog md 76 = some c76 := ⟨(true, pureL), by kernel_rfl⟩
theorem ok77 : ∃ md, cF Try.prog md 77 = some c77 := ⟨(true, pureL), by kernel_rfl⟩
theorem ok78 : ∃ md, cF Try.prog md 78 = some c78 := ⟨(true, pureL), by kernel_rfl⟩
theorem ok79 : ∃ md, cF Try.prog md 79 = some c79 := ⟨(true, pureL), by kernel_rfl⟩
theorem ok80 : ∃ md, cF Try.prog md 80 = some c80 := ⟨(true, pureL), by kernel_rfl⟩
theorem ok81 : ∃ md, cF Try.prog md 81 = some c81 := ⟨(true, pureL), by kernel_rfl⟩
theorem ok82 : ∃ md, cF Try.prog md 82 = some c82 := ⟨(true, pureL), by kernel_rfl⟩
theorem ok83 : ∃ md, cF Try.prog md 83 = some c83 := ⟨(true, pureL), by kernel_rfl⟩
theorem ok84 : ∃ md, cF Try.prog md 84 = some c84 := ⟨(true, pureL), by kernel_rfl⟩

def cmL : List (Nat × ME) := [(3, .n c3), (4, .n c4), (5, .n c5), (6, .n c6), (7, .n c7), (8, .n c8), (9, .n c9), (10, .n c10), (11, .n c11), (12, .n c12), (13, .n c13), (14, .n c14), (15, .n c15), (16, .n c16), (17, .n c17), (18, .n c18), (19, .n c19), (20, .n c20), (21, .n c21), (22, .n c22), (23, .n c23), (24, .n c24), (25, .n c25), (26, .n c26), (27, .n c27), (28, .n c28), (29, .n c29), (30, .n c30), (31, .n c31), (32, .n c32), (33, .n c33), (34, .n c34), (35, .n c35), (36, .n c36), (37, .n c37), (38, .n c38), (39, .n c39), (40, .n c40), (41, .n c41), (42, .n c42), (43, .n c43), (44, .n c44), (45, .n c45), (46, .n c46), (47, .n c47), (48, .n c48), (49, .n c49), (50, .n c50), (51, .n c51), (52, .n c52), (53, .n c53), (54, .n c54), (55, .n c55), (56, .n c56), (57, .n c57), (58, .n c58), (59, .n c59), (60, .n c60), (61, .n c61), (62, .n c62), (63, .n c63), (64, .n c64), (65, .n c65), (66, .n c66), (67, .n c67), (68, .n c68), (69, .n c69), (70, .n c70), (71, .n c71), (72, .n c72), (73, .n c73), (74, .n c74), (75, .n c75), (76, .n c76), (77, .n c77), (78, .n c78), (79, .n c79), (80, .n c80), (81, .n c81), (82, .n c82), (83, .n c83), (84, .n c84)]

def cm : FuncId → Option ME := look cmL

theorem hcm : ∀ g m, cm g = some m → Good Try.prog g m := look_ok ⟨ok3, ok4, ok5, ok6, ok7, ok8, ok9, ok10, ok11, ok12, ok13, ok14, ok15, ok16, ok17, ok18, ok19, ok20, ok21, ok22, ok23, ok24, ok25, ok26, ok27, ok28, ok29, ok30, ok31, ok32, ok33, ok34, ok35, ok36, ok37, ok38, ok39, ok40, ok41, ok42, ok43, ok44, ok45, ok46, ok47, ok48, ok49, ok50, ok51, ok52, ok53, ok54, ok55, ok56, ok57, ok58, ok59, ok60, ok61, ok62, ok63, ok64, ok65, ok66, ok67, ok68, ok69, ok70, ok71, ok72, ok73, ok74, ok75, ok76, ok77, ok78, ok79, ok80, ok81, ok82, ok83, ok84, trivial⟩

end Go.Proofs.Ytjgnjpbplnmdmaa
