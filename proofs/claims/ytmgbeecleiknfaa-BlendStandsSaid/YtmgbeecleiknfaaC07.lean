/- The resolved code of the functions that are reached, as a program of ours has printed it; each is checked against the given program. -/
import Derived.KernelRfl
import Derived.Test.YtmgbeecleiknfaaEng13
import Derived.Test.YtmgbeecleiknfaaProg
namespace Go.Proofs.Ytmgbeecleiknfaa
open Go

def c3 : MF := ⟨3, 81, 
  (.seq (.reg [] [⟨(some 3), (.box (.t 0)), none⟩, ⟨(some 4), (.box (.t 1)), none⟩, ⟨(some 5), (.box (.t 2)), none⟩, ⟨(some 6), (.mv (.c (.v (.bool false)))), none⟩]) 
  (.seq (.reg [] [⟨(some 11), (.ld (.t 3) (some 4)), none⟩, ⟨(some 12), (.ld (.t 4) (some 4)), none⟩, ⟨(some 13), (.ld (.t 5) (some 4)), none⟩, ⟨(some 14), (.call (.c (.f 6 [])) [(.t 11), (.t 12), (.t 13)]), none⟩, ⟨(some 10), (.mv (.t 14)), none⟩, ⟨(some 15), (.ext (.t 10) 0), none⟩, ⟨(some 16), (.ext (.t 10) 1), none⟩, ⟨(some 7), (.box (.c (.agg [(.v (.int .i64 0)), (.v (.int .i64 0)), (.v (.int .i64 0)), (.v (.int .i64 0))]))), none⟩, ⟨none, (.st (.t 7) (.t 15) 4), none⟩, ⟨(some 8), (.mv (.t 16)), none⟩]) 
  (.seq (.reg [] [⟨(some 17), (.ld (.t 3) (some 4)), none⟩, ⟨(some 18), (.call (.c (.f 7 [])) [(.t 17)]), none⟩, ⟨(some 9), (.mv (.t 18)), none⟩]) 
  (.seq 
  (.seq (.reg [] [⟨(some 19), (.ld (.t 3) (some 4)), none⟩, ⟨(some 20), (.call (.c (.f 8 [])) [(.t 19)]), none⟩, ⟨(some 21), (.mv (.t 9)), none⟩, ⟨(some 22), (.bin .neq (.t 20) (.t 21)), none⟩]) (.cond (.t 22) 
  (.seq (.reg [] [⟨(some 6), (.mv (.c (.v (.bool false)))), none⟩]) .ret) .skip)) 
  (.seq 
  (.seq (.reg [] [⟨(some 23), (.mv (.t 9)), none⟩, ⟨(some 24), (.bin .neq (.t 23) (.c (.v (.int .i64 0)))), none⟩]) (.cond (.t 24) 
  (.seq (.reg [] [⟨(some 25), (.ld (.t 7) (some 4)), none⟩, ⟨(some 26), (.bld [(.v (.int .i64 0)), (.v (.int .i64 0)), (.v (.int .i64 0)), (.v (.int .i64 0))] []), none⟩, ⟨(some 27), (.eqv false true [.i, .i, .i, .i] (.t 25) (.t 26)), none⟩, ⟨(some 28), (.mv (.t 27)), none⟩, ⟨(some 29), (.mv (.t 8)), (some (28, true))⟩, ⟨(some 30), (.mv (.t 9)), (some (28, true))⟩, ⟨(some 31), (.bin .eql (.t 29) (.t 30)), (some (28, true))⟩, ⟨(some 32), (.pick (.t 28) (.t 31) (.c (.v (.bool false)))), none⟩, ⟨(some 33), (.mv (.t 32)), none⟩, ⟨(some 34), (.call (.c (.f 9 [])) []), (some (33, true))⟩, ⟨(some 35), (.pick (.t 33) (.t 34) (.c (.v (.bool false)))), none⟩, ⟨(some 6), (.mv (.t 35)), none⟩]) .ret) .skip)) 
  (.seq 
  (.seq (.reg [] [⟨(some 36), (.ld (.t 4) (some 4)), none⟩, ⟨(some 37), (.call (.c (.f 10 [])) [(.t 36)]), none⟩, ⟨(some 38), (.un .not (.t 37)), none⟩, ⟨(some 39), (.mv (.t 38)), none⟩, ⟨(some 40), (.ld (.t 5) (some 4)), (some (39, false))⟩, ⟨(some 41), (.call (.c (.f 10 [])) [(.t 40)]), (some (39, false))⟩, ⟨(some 42), (.un .not (.t 41)), (some (39, false))⟩, ⟨(some 43), (.pick (.t 39) (.c (.v (.bool true))) (.t 42)), none⟩]) (.cond (.t 43) 
  (.seq (.reg [] [⟨(some 44), (.ld (.t 7) (some 4)), none⟩, ⟨(some 45), (.bld [(.v (.int .i64 0)), (.v (.int .i64 0)), (.v (.int .i64 0)), (.v (.int .i64 0))] []), none⟩, ⟨(some 46), (.eqv false true [.i, .i, .i, .i] (.t 44) (.t 45)), none⟩, ⟨(some 47), (.mv (.t 46)), none⟩, ⟨(some 48), (.mv (.t 8)), (some (47, true))⟩, ⟨(some 49), (.bin .eql (.t 48) (.c (.v (.int .i64 3)))), (some (47, true))⟩, ⟨(some 50), (.pick (.t 47) (.t 49) (.c (.v (.bool false)))), none⟩, ⟨(some 51), (.mv (.t 50)), none⟩, ⟨(some 52), (.call (.c (.f 9 [])) []), (some (51, true))⟩, ⟨(some 53), (.pick (.t 51) (.t 52) (.c (.v (.bool false)))), none⟩, ⟨(some 6), (.mv (.t 53)), none⟩]) .ret) .skip)) 
  (.seq (.reg [⟨(some 54), (.mv (.t 8)), none⟩, ⟨(some 55), (.bin .eql (.t 54) (.c (.v (.int .i64 0)))), none⟩, ⟨(some 56), (.mv (.t 55)), none⟩, ⟨(some 57), (.ld (.t 7) (some 4)), (some (56, true))⟩, ⟨(some 58), (.ld (.t 3) (some 4)), (some (56, true))⟩, ⟨(some 59), (.ld (.t 4) (some 4)), (some (56, true))⟩, ⟨(some 60), (.ld (.t 5) (some 4)), (some (56, true))⟩, ⟨(some 61), (.call (.c (.f 11 [])) [(.t 58), (.t 59), (.t 60)]), (some (56, true))⟩, ⟨(some 62), (.eqv false true [.i, .i, .i, .i] (.t 57) (.t 61)), (some (56, true))⟩, ⟨(some 63), (.pick (.t 56) (.t 62) (.c (.v (.bool false)))), none⟩, ⟨(some 64), (.mv (.t 63)), none⟩, ⟨(some 65), (.ld (.t 7) (some 4)), (some (64, true))⟩, ⟨(some 66), (.call (.c (.f 10 [])) [(.t 65)]), (some (64, true))⟩, ⟨(some 67), (.pick (.t 64) (.t 66) (.c (.v (.bool false)))), none⟩, ⟨(some 68), (.mv (.t 67)), none⟩, ⟨(some 69), (.fa (.t 3) 3), (some (68, true))⟩, ⟨(some 70), (.ld (.t 69) none), (some (68, true))⟩, ⟨(some 71), (.bin .neq (.t 70) (.c (.v (.int .i64 0)))), (some (68, true))⟩, ⟨(some 72), (.mv (.t 71)), (some (68, true))⟩, ⟨(some 73), (.ld (.t 7) (some 4)), (some (72, false))⟩, ⟨(some 74), (.ld (.t 5) (some 4)), (some (72, false))⟩] [⟨(some 75), (.eqv false true [.i, .i, .i, .i] (.t 73) (.t 74)), (some (72, false))⟩, ⟨(some 76), (.pick (.t 72) (.c (.v (.bool true))) (.t 75)), (some (68, true))⟩, ⟨(some 77), (.pick (.t 68) (.t 76) (.c (.v (.bool false)))), none⟩, ⟨(some 78), (.mv (.t 77)), none⟩, ⟨(some 79), (.call (.c (.f 9 [])) []), (some (78, true))⟩, ⟨(some 80), (.pick (.t 78) (.t 79) (.c (.v (.bool false)))), none⟩, ⟨(some 6), (.mv (.t 80)), none⟩]) .ret))))))), [(.t 6)]⟩

def c4 : MF := ⟨3, 100, 
  (.seq (.reg [] [⟨(some 4), (.box (.t 1)), none⟩, ⟨(some 5), (.box (.t 2)), none⟩, ⟨(some 6), (.mv (.c (.v (.bool false)))), none⟩]) 
  (.seq (.reg [] [⟨(some 10), (.mv (.t 0)), none⟩, ⟨(some 11), (.ld (.t 4) (some 4)), none⟩, ⟨(some 12), (.ld (.t 5) (some 4)), none⟩, ⟨(some 13), (.call (.c (.f 12 [])) [(.t 10), (.t 11), (.t 12)]), none⟩, ⟨(some 9), (.mv (.t 13)), none⟩, ⟨(some 14), (.ext (.t 9) 0), none⟩, ⟨(some 15), (.ext (.t 9) 1), none⟩, ⟨(some 7), (.box (.c (.agg [(.v (.int .i64 0)), (.v (.int .i64 0)), (.v (.int .i64 0)), (.v (.int .i64 0))]))), none⟩, ⟨none, (.st (.t 7) (.t 14) 4), none⟩, ⟨(some 8), (.mv (.t 15)), none⟩]) 
  (.seq 
  (.seq (.reg [] [⟨(some 16), (.mv (.t 0)), none⟩, ⟨(some 17), (.bin .lss (.t 16) (.c (.v (.int .i64 0)))), none⟩, ⟨(some 18), (.mv (.t 17)), none⟩, ⟨(some 19), (.mv (.t 0)), (some (18, false))⟩, ⟨(some 20), (.bin .gtr (.t 19) (.c (.v (.int .i64 9)))), (some (18, false))⟩, ⟨(some 21), (.pick (.t 18) (.c (.v (.bool true))) (.t 20)), none⟩]) (.cond (.t 21) 
  (.seq (.reg [] [⟨(some 22), (.ld (.t 7) (some 4)), none⟩, ⟨(some 23), (.bld [(.v (.int .i64 0)), (.v (.int .i64 0)), (.v (.int .i64 0)), (.v (.int .i64 0))] []), none⟩, ⟨(some 24), (.eqv false true [.i, .i, .i, .i] (.t 22) (.t 23)), none⟩, ⟨(some 25), (.mv (.t 24)), none⟩, ⟨(some 26), (.mv (.t 8)), (some (25, true))⟩, ⟨(some 27), (.bin .eql (.t 26) (.c (.v (.int .i64 9)))), (some (25, true))⟩, ⟨(some 28), (.pick (.t 25) (.t 27) (.c (.v (.bool false)))), none⟩, ⟨(some 29), (.mv (.t 28)), none⟩, ⟨(some 30), (.call (.c (.f 9 [])) []), (some (29, true))⟩, ⟨(some 31), (.pick (.t 29) (.t 30) (.c (.v (.bool false)))), none⟩, ⟨(some 6), (.mv (.t 31)), none⟩]) .ret) .skip)) 
  (.seq 
  (.seq (.reg [] [⟨(some 32), (.ld (.t 4) (some 4)), none⟩, ⟨(some 33), (.call (.c (.f 10 [])) [(.t 32)]), none⟩, ⟨(some 34), (.un .not (.t 33)), none⟩, ⟨(some 35), (.mv (.t 34)), none⟩, ⟨(some 36), (.ld (.t 5) (some 4)), (some (35, false))⟩, ⟨(some 37), (.call (.c (.f 10 [])) [(.t 36)]), (some (35, false))⟩, ⟨(some 38), (.un .not (.t 37)), (some (35, false))⟩, ⟨(some 39), (.pick (.t 35) (.c (.v (.bool true))) (.t 38)), none⟩]) (.cond (.t 39) 
  (.seq (.reg [] [⟨(some 40), (.ld (.t 7) (some 4)), none⟩, ⟨(some 41), (.bld [(.v (.int .i64 0)), (.v (.int .i64 0)), (.v (.int .i64 0)), (.v (.int .i64 0))] []), none⟩, ⟨(some 42), (.eqv false true [.i, .i, .i, .i] (.t 40) (.t 41)), none⟩, ⟨(some 43), (.mv (.t 42)), none⟩, ⟨(some 44), (.mv (.t 8)), (some (43, true))⟩, ⟨(some 45), (.bin .eql (.t 44) (.c (.v (.int .i64 3)))), (some (43, true))⟩, ⟨(some 46), (.pick (.t 43) (.t 45) (.c (.v (.bool false)))), none⟩, ⟨(some 47), (.mv (.t 46)), none⟩, ⟨(some 48), (.call (.c (.f 9 [])) []), (some (47, true))⟩, ⟨(some 49), (.pick (.t 47) (.t 48) (.c (.v (.bool false)))), none⟩, ⟨(some 6), (.mv (.t 49)), none⟩]) .ret) .skip)) 
  (.seq (.reg [⟨(some 50), (.mv (.t 8)), none⟩, ⟨(some 51), (.bin .eql (.t 50) (.c (.v (.int .i64 0)))), none⟩, ⟨(some 52), (.mv (.t 51)), none⟩, ⟨(some 53), (.ld (.t 7) (some 4)), (some (52, true))⟩, ⟨(some 54), (.mv (.t 0)), (some (52, true))⟩, ⟨(some 55), (.fa (.t 4) 0), (some (52, true))⟩, ⟨(some 56), (.ld (.t 55) none), (some (52, true))⟩, ⟨(some 57), (.fa (.t 5) 0), (some (52, true))⟩, ⟨(some 58), (.ld (.t 57) none), (some (52, true))⟩, ⟨(some 59), (.fa (.t 4) 3), (some (52, true))⟩, ⟨(some 60), (.ld (.t 59) none), (some (52, true))⟩, ⟨(some 61), (.fa (.t 5) 3), (some (52, true))⟩, ⟨(some 62), (.ld (.t 61) none), (some (52, true))⟩, ⟨(some 63), (.call (.c (.f 13 [])) [(.t 54), (.t 56), (.t 58), (.t 60), (.t 62)]), (some (52, true))⟩, ⟨(some 64), (.mv (.t 0)), (some (52, true))⟩, ⟨(some 65), (.fa (.t 4) 1), (some (52, true))⟩, ⟨(some 66), (.ld (.t 65) none), (some (52, true))⟩, ⟨(some 67), (.fa (.t 5) 1), (some (52, true))⟩, ⟨(some 68), (.ld (.t 67) none), (some (52, true))⟩, ⟨(some 69), (.fa (.t 4) 3), (some (52, true))⟩, ⟨(some 70), (.ld (.t 69) none), (some (52, true))⟩, ⟨(some 71), (.fa (.t 5) 3), (some (52, true))⟩, ⟨(some 72), (.ld (.t 71) none), (some (52, true))⟩, ⟨(some 73), (.call (.c (.f 13 [])) [(.t 64), (.t 66), (.t 68), (.t 70), (.t 72)]), (some (52, true))⟩, ⟨(some 74), (.mv (.t 0)), (some (52, true))⟩, ⟨(some 75), (.fa (.t 4) 2), (some (52, true))⟩, ⟨(some 76), (.ld (.t 75) none), (some (52, true))⟩, ⟨(some 77), (.fa (.t 5) 2), (some (52, true))⟩, ⟨(some 78), (.ld (.t 77) none), (some (52, true))⟩, ⟨(some 79), (.fa (.t 4) 3), (some (52, true))⟩, ⟨(some 80), (.ld (.t 79) none), (some (52, true))⟩, ⟨(some 81), (.fa (.t 5) 3), (some (52, true))⟩, ⟨(some 82), (.ld (.t 81) none), (some (52, true))⟩, ⟨(some 83), (.call (.c (.f 13 [])) [(.t 74), (.t 76), (.t 78), (.t 80), (.t 82)]), (some (52, true))⟩, ⟨(some 84), (.mv (.t 0)), (some (52, true))⟩, ⟨(some 85), (.fa (.t 4) 3), (some (52, true))⟩, ⟨(some 86), (.ld (.t 85) none), (some (52, true))⟩, ⟨(some 87), (.fa (.t 5) 3), (some (52, true))⟩, ⟨(some 88), (.ld (.t 87) none), (some (52, true))⟩, ⟨(some 89), (.fa (.t 4) 3), (some (52, true))⟩, ⟨(some 90), (.ld (.t 89) none), (some (52, true))⟩, ⟨(some 91), (.fa (.t 5) 3), (some (52, true))⟩, ⟨(some 92), (.ld (.t 91) none), (some (52, true))⟩, ⟨(some 93), (.call (.c (.f 13 [])) [(.t 84), (.t 86), (.t 88), (.t 90), (.t 92)]), (some (52, true))⟩, ⟨(some 94), (.bld [(.v (.int .i64 0)), (.v (.int .i64 0)), (.v (.int .i64 0)), (.v (.int .i64 0))] [(0, (1, (.t 63))), (1, (1, (.t 73))), (2, (1, (.t 83))), (3, (1, (.t 93)))]), (some (52, true))⟩] [⟨(some 95), (.eqv false true [.i, .i, .i, .i] (.t 53) (.t 94)), (some (52, true))⟩, ⟨(some 96), (.pick (.t 52) (.t 95) (.c (.v (.bool false)))), none⟩, ⟨(some 97), (.mv (.t 96)), none⟩, ⟨(some 98), (.call (.c (.f 9 [])) []), (some (97, true))⟩, ⟨(some 99), (.pick (.t 97) (.t 98) (.c (.v (.bool false)))), none⟩, ⟨(some 6), (.mv (.t 99)), none⟩]) .ret))))), [(.t 6)]⟩

def c5 : MF := ⟨2, 85, 
  (.seq (.reg [] [⟨(some 2), (.box (.t 0)), none⟩, ⟨(some 3), (.box (.t 1)), none⟩, ⟨(some 4), (.mv (.c (.v (.bool false)))), none⟩]) 
  (.seq 
  (.seq (.reg [] [⟨(some 14), (.ld (.t 2) (some 4)), none⟩, ⟨(some 15), (.call (.c (.f 10 [])) [(.t 14)]), none⟩, ⟨(some 16), (.un .not (.t 15)), none⟩, ⟨(some 17), (.mv (.t 16)), none⟩, ⟨(some 18), (.ld (.t 3) (some 4)), (some (17, false))⟩, ⟨(some 19), (.call (.c (.f 10 [])) [(.t 18)]), (some (17, false))⟩, ⟨(some 20), (.un .not (.t 19)), (some (17, false))⟩, ⟨(some 21), (.pick (.t 17) (.c (.v (.bool true))) (.t 20)), none⟩]) (.cond (.t 21) 
  (.seq (.reg [] [⟨(some 22), (.call (.c (.f 9 [])) []), none⟩, ⟨(some 4), (.mv (.t 22)), none⟩]) .ret) .skip)) 
  (.seq (.reg [⟨(some 24), (.call (.c (.f 14 [])) []), none⟩, ⟨(some 25), (.ld (.t 2) (some 4)), none⟩, ⟨(some 26), (.ld (.t 3) (some 4)), none⟩, ⟨(some 27), (.call (.c (.f 6 [])) [(.t 24), (.t 25), (.t 26)]), none⟩, ⟨(some 23), (.mv (.t 27)), none⟩, ⟨(some 28), (.ext (.t 23) 0), none⟩, ⟨(some 29), (.ext (.t 23) 1), none⟩, ⟨(some 5), (.mv (.c .bad)), none⟩, ⟨none, (.bld [(.v (.tuple #[])), (.v (.tuple #[])), (.v (.tuple #[])), (.v (.tuple #[]))] [(0, (4, (.t 28)))]), none⟩] [⟨(some 5), (.box (.t 28)), none⟩, ⟨none, (.fa (.t 5) 0), none⟩, ⟨(some 6), (.mv (.t 29)), none⟩]) 
  (.seq (.reg [] [⟨(some 30), (.bld [(.v (.int .i64 0)), (.v (.int .i64 0)), (.v (.int .i64 0)), (.v (.int .i64 0))] [(0, (1, (.c (.v (.int .i64 6))))), (1, (1, (.c (.v (.int .i64 7))))), (3, (1, (.c (.v (.int .i64 7)))))]), none⟩, ⟨(some 7), (.box (.c (.agg [(.v (.int .i64 0)), (.v (.int .i64 0)), (.v (.int .i64 0)), (.v (.int .i64 0))]))), none⟩, ⟨none, (.st (.t 7) (.t 30) 4), none⟩]) 
  (.seq (.reg [⟨(some 31), (.ld (.t 2) (some 4)), none⟩, ⟨(some 32), (.ld (.t 2) (some 4)), none⟩, ⟨(some 8), (.mv (.c .bad)), none⟩, ⟨(some 9), (.mv (.c .bad)), none⟩, ⟨none, (.bld [(.v (.tuple #[])), (.v (.tuple #[])), (.v (.tuple #[])), (.v (.tuple #[]))] [(0, (4, (.t 31)))]), none⟩] [⟨(some 8), (.box (.t 31)), none⟩, ⟨(some 9), (.box (.c (.agg [(.v (.int .i64 0)), (.v (.int .i64 0)), (.v (.int .i64 0)), (.v (.int .i64 0))]))), none⟩, ⟨none, (.fa (.t 8) 0), none⟩, ⟨none, (.fa (.t 9) 0), none⟩, ⟨none, (.st (.t 9) (.t 32) 4), none⟩]) 
  (.seq (.reg [] [⟨(some 33), (.fa (.t 8) 3), none⟩, ⟨none, (.st (.t 33) (.c (.v (.int .i64 255))) 1), none⟩]) 
  (.seq (.reg [] [⟨(some 34), (.fa (.t 9) 3), none⟩, ⟨none, (.st (.t 34) (.c (.v (.int .i64 0))) 1), none⟩]) 
  (.seq (.reg [] [⟨(some 36), (.ld (.t 7) (some 4)), none⟩, ⟨(some 37), (.ld (.t 8) (some 4)), none⟩, ⟨(some 38), (.ld (.t 3) (some 4)), none⟩, ⟨(some 39), (.call (.c (.f 6 [])) [(.t 36), (.t 37), (.t 38)]), none⟩, ⟨(some 35), (.mv (.t 39)), none⟩, ⟨(some 40), (.ext (.t 35) 0), none⟩, ⟨(some 41), (.ext (.t 35) 1), none⟩, ⟨(some 10), (.box (.c (.agg [(.v (.int .i64 0)), (.v (.int .i64 0)), (.v (.int .i64 0)), (.v (.int .i64 0))]))), none⟩, ⟨none, (.st (.t 10) (.t 40) 4), none⟩, ⟨(some 11), (.mv (.t 41)), none⟩]) 
  (.seq (.reg [] [⟨(some 43), (.ld (.t 7) (some 4)), none⟩, ⟨(some 44), (.ld (.t 9) (some 4)), none⟩, ⟨(some 45), (.ld (.t 3) (some 4)), none⟩, ⟨(some 46), (.call (.c (.f 6 [])) [(.t 43), (.t 44), (.t 45)]), none⟩, ⟨(some 42), (.mv (.t 46)), none⟩, ⟨(some 47), (.ext (.t 42) 0), none⟩, ⟨(some 48), (.ext (.t 42) 1), none⟩, ⟨(some 12), (.box (.c (.agg [(.v (.int .i64 0)), (.v (.int .i64 0)), (.v (.int .i64 0)), (.v (.int .i64 0))]))), none⟩, ⟨none, (.st (.t 12) (.t 47) 4), none⟩, ⟨(some 13), (.mv (.t 48)), none⟩]) 
  (.seq (.reg [] [⟨(some 49), (.mv (.t 6)), none⟩, ⟨(some 50), (.bin .eql (.t 49) (.c (.v (.int .i64 0)))), none⟩, ⟨(some 51), (.mv (.t 50)), none⟩, ⟨(some 52), (.mv (.t 11)), (some (51, true))⟩, ⟨(some 53), (.bin .eql (.t 52) (.c (.v (.int .i64 0)))), (some (51, true))⟩, ⟨(some 54), (.pick (.t 51) (.t 53) (.c (.v (.bool false)))), none⟩, ⟨(some 55), (.mv (.t 54)), none⟩, ⟨(some 56), (.mv (.t 13)), (some (55, true))⟩, ⟨(some 57), (.bin .eql (.t 56) (.c (.v (.int .i64 0)))), (some (55, true))⟩, ⟨(some 58), (.pick (.t 55) (.t 57) (.c (.v (.bool false)))), none⟩, ⟨(some 59), (.mv (.t 58)), none⟩, ⟨(some 60), (.ld (.t 5) (some 4)), (some (59, true))⟩, ⟨(some 61), (.ld (.t 2) (some 4)), (some (59, true))⟩, ⟨(some 62), (.eqv false true [.i, .i, .i, .i] (.t 60) (.t 61)), (some (59, true))⟩, ⟨(some 63), (.pick (.t 59) (.t 62) (.c (.v (.bool false)))), none⟩, ⟨(some 64), (.mv (.t 63)), none⟩, ⟨(some 65), (.ld (.t 10) (some 4)), (some (64, true))⟩, ⟨(some 66), (.fa (.t 2) 0), (some (64, true))⟩, ⟨(some 67), (.ld (.t 66) none), (some (64, true))⟩, ⟨(some 68), (.fa (.t 2) 1), (some (64, true))⟩, ⟨(some 69), (.ld (.t 68) none), (some (64, true))⟩, ⟨(some 70), (.fa (.t 2) 2), (some (64, true))⟩, ⟨(some 71), (.ld (.t 70) none), (some (64, true))⟩, ⟨(some 72), (.fa (.t 3) 3), (some (64, true))⟩, ⟨(some 73), (.ld (.t 72) none), (some (64, true))⟩, ⟨(some 74), (.bld [(.v (.int .i64 0)), (.v (.int .i64 0)), (.v (.int .i64 0)), (.v (.int .i64 0))] [(0, (1, (.t 67))), (1, (1, (.t 69))), (2, (1, (.t 71))), (3, (1, (.t 73)))]), (some (64, true))⟩, ⟨(some 75), (.eqv false true [.i, .i, .i, .i] (.t 65) (.t 74)), (some (64, true))⟩, ⟨(some 76), (.pick (.t 64) (.t 75) (.c (.v (.bool false)))), none⟩, ⟨(some 77), (.mv (.t 76)), none⟩, ⟨(some 78), (.ld (.t 12) (some 4)), (some (77, true))⟩, ⟨(some 79), (.ld (.t 3) (some 4)), (some (77, true))⟩, ⟨(some 80), (.eqv false true [.i, .i, .i, .i] (.t 78) (.t 79)), (some (77, true))⟩, ⟨(some 81), (.pick (.t 77) (.t 80) (.c (.v (.bool false)))), none⟩, ⟨(some 82), (.mv (.t 81)), none⟩, ⟨(some 83), (.call (.c (.f 9 [])) []), (some (82, true))⟩, ⟨(some 84), (.pick (.t 82) (.t 83) (.c (.v (.bool false)))), none⟩, ⟨(some 4), (.mv (.t 84)), none⟩]) .ret)))))))))), [(.t 4)]⟩

def c6 : MF := ⟨3, 109, 
  (.seq (.reg [] [⟨(some 3), (.box (.t 0)), none⟩, ⟨(some 4), (.box (.t 1)), none⟩, ⟨(some 5), (.box (.t 2)), none⟩, ⟨(some 6), (.box (.c (.agg [(.v (.int .i64 0)), (.v (.int .i64 0)), (.v (.int .i64 0)), (.v (.int .i64 0))]))), none⟩, ⟨(some 7), (.mv (.c (.v (.int .i64 0)))), none⟩]) 
  (.seq 
  (.seq (.reg [] [⟨(some 15), (.ld (.t 3) (some 4)), none⟩, ⟨(some 16), (.call (.c (.f 8 [])) [(.t 15)]), none⟩, ⟨(some 8), (.mv (.t 16)), none⟩]) 
  (.seq (.reg [] [⟨(some 17), (.mv (.t 8)), none⟩, ⟨(some 18), (.bin .neq (.t 17) (.c (.v (.int .i64 0)))), none⟩]) (.cond (.t 18) 
  (.seq (.reg [] [⟨(some 19), (.bld [(.v (.int .i64 0)), (.v (.int .i64 0)), (.v (.int .i64 0)), (.v (.int .i64 0))] []), none⟩, ⟨(some 20), (.mv (.t 8)), none⟩, ⟨none, (.st (.t 6) (.t 19) 4), none⟩, ⟨(some 7), (.mv (.t 20)), none⟩]) .ret) .skip))) 
  (.seq (.reg [] [⟨(some 22), (.fa (.t 3) 0), none⟩, ⟨(some 23), (.ld (.t 22) none), none⟩, ⟨(some 24), (.ld (.t 4) (some 4)), none⟩, ⟨(some 25), (.ld (.t 5) (some 4)), none⟩, ⟨(some 26), (.call (.c (.f 12 [])) [(.t 23), (.t 24), (.t 25)]), none⟩, ⟨(some 21), (.mv (.t 26)), none⟩, ⟨(some 27), (.ext (.t 21) 0), none⟩, ⟨(some 28), (.ext (.t 21) 1), none⟩, ⟨(some 9), (.box (.c (.agg [(.v (.int .i64 0)), (.v (.int .i64 0)), (.v (.int .i64 0)), (.v (.int .i64 0))]))), none⟩, ⟨none, (.st (.t 9) (.t 27) 4), none⟩, ⟨(some 10), (.mv (.t 28)), none⟩]) 
  (.seq (.reg [] [⟨(some 30), (.fa (.t 3) 1), none⟩, ⟨(some 31), (.ld (.t 30) none), none⟩, ⟨(some 32), (.ld (.t 4) (some 4)), none⟩, ⟨(some 33), (.ld (.t 5) (some 4)), none⟩, ⟨(some 34), (.call (.c (.f 12 [])) [(.t 31), (.t 32), (.t 33)]), none⟩, ⟨(some 29), (.mv (.t 34)), none⟩, ⟨(some 35), (.ext (.t 29) 0), none⟩, ⟨(some 36), (.ext (.t 29) 1), none⟩, ⟨(some 11), (.box (.c (.agg [(.v (.int .i64 0)), (.v (.int .i64 0)), (.v (.int .i64 0)), (.v (.int .i64 0))]))), none⟩, ⟨none, (.st (.t 11) (.t 35) 4), none⟩, ⟨(some 12), (.mv (.t 36)), none⟩]) 
  (.seq 
  (.seq (.reg [] [⟨(some 37), (.mv (.t 10)), none⟩, ⟨(some 38), (.bin .neq (.t 37) (.c (.v (.int .i64 0)))), none⟩, ⟨(some 39), (.mv (.t 38)), none⟩, ⟨(some 40), (.mv (.t 12)), (some (39, false))⟩, ⟨(some 41), (.bin .neq (.t 40) (.c (.v (.int .i64 0)))), (some (39, false))⟩, ⟨(some 42), (.pick (.t 39) (.c (.v (.bool true))) (.t 41)), none⟩]) (.cond (.t 42) 
  (.seq (.reg [] [⟨(some 43), (.bld [(.v (.int .i64 0)), (.v (.int .i64 0)), (.v (.int .i64 0)), (.v (.int .i64 0))] []), none⟩, ⟨none, (.st (.t 6) (.t 43) 4), none⟩, ⟨(some 7), (.mv (.c (.v (.int .i64 3)))), none⟩]) .ret) .skip)) 
  (.seq (.reg [] [⟨(some 44), (.fa (.t 3) 2), none⟩, ⟨(some 45), (.ld (.t 44) none), none⟩, ⟨(some 46), (.call (.c (.f 15 [])) [(.t 45)]), none⟩, ⟨(some 13), (.mv (.t 46)), none⟩]) 
  (.seq (.reg [] [⟨(some 47), (.ld (.t 5) (some 4)), none⟩, ⟨(some 14), (.box (.c (.agg [(.v (.int .i64 0)), (.v (.int .i64 0)), (.v (.int .i64 0)), (.v (.int .i64 0))]))), none⟩, ⟨none, (.st (.t 14) (.t 47) 4), none⟩]) 
  (.seq 
  (.seq (.reg [] [⟨(some 48), (.fa (.t 3) 3), none⟩, ⟨(some 49), (.ld (.t 48) none), none⟩, ⟨(some 50), (.bin .and (.t 49) (.c (.v (.int .i64 1)))), none⟩, ⟨(some 51), (.bin .neq (.t 50) (.c (.v (.int .i64 0)))), none⟩]) (.cond (.t 51) (.reg [] [⟨(some 52), (.mv (.t 13)), none⟩, ⟨(some 53), (.fa (.t 4) 0), none⟩, ⟨(some 54), (.ld (.t 53) none), none⟩, ⟨(some 55), (.fa (.t 9) 0), none⟩, ⟨(some 56), (.ld (.t 55) none), none⟩, ⟨(some 57), (.fa (.t 5) 0), none⟩, ⟨(some 58), (.ld (.t 57) none), none⟩, ⟨(some 59), (.fa (.t 11) 0), none⟩, ⟨(some 60), (.ld (.t 59) none), none⟩, ⟨(some 61), (.call (.t 52) [(.t 54), (.t 56), (.t 58), (.t 60)]), none⟩, ⟨(some 62), (.fa (.t 14) 0), none⟩, ⟨none, (.st (.t 62) (.t 61) 1), none⟩]) .skip)) 
  (.seq 
  (.seq (.reg [] [⟨(some 63), (.fa (.t 3) 3), none⟩, ⟨(some 64), (.ld (.t 63) none), none⟩, ⟨(some 65), (.bin .and (.t 64) (.c (.v (.int .i64 2)))), none⟩, ⟨(some 66), (.bin .neq (.t 65) (.c (.v (.int .i64 0)))), none⟩]) (.cond (.t 66) (.reg [] [⟨(some 67), (.mv (.t 13)), none⟩, ⟨(some 68), (.fa (.t 4) 1), none⟩, ⟨(some 69), (.ld (.t 68) none), none⟩, ⟨(some 70), (.fa (.t 9) 1), none⟩, ⟨(some 71), (.ld (.t 70) none), none⟩, ⟨(some 72), (.fa (.t 5) 1), none⟩, ⟨(some 73), (.ld (.t 72) none), none⟩, ⟨(some 74), (.fa (.t 11) 1), none⟩, ⟨(some 75), (.ld (.t 74) none), none⟩, ⟨(some 76), (.call (.t 67) [(.t 69), (.t 71), (.t 73), (.t 75)]), none⟩, ⟨(some 77), (.fa (.t 14) 1), none⟩, ⟨none, (.st (.t 77) (.t 76) 1), none⟩]) .skip)) 
  (.seq 
  (.seq (.reg [] [⟨(some 78), (.fa (.t 3) 3), none⟩, ⟨(some 79), (.ld (.t 78) none), none⟩, ⟨(some 80), (.bin .and (.t 79) (.c (.v (.int .i64 4)))), none⟩, ⟨(some 81), (.bin .neq (.t 80) (.c (.v (.int .i64 0)))), none⟩]) (.cond (.t 81) (.reg [] [⟨(some 82), (.mv (.t 13)), none⟩, ⟨(some 83), (.fa (.t 4) 2), none⟩, ⟨(some 84), (.ld (.t 83) none), none⟩, ⟨(some 85), (.fa (.t 9) 2), none⟩, ⟨(some 86), (.ld (.t 85) none), none⟩, ⟨(some 87), (.fa (.t 5) 2), none⟩, ⟨(some 88), (.ld (.t 87) none), none⟩, ⟨(some 89), (.fa (.t 11) 2), none⟩, ⟨(some 90), (.ld (.t 89) none), none⟩, ⟨(some 91), (.call (.t 82) [(.t 84), (.t 86), (.t 88), (.t 90)]), none⟩, ⟨(some 92), (.fa (.t 14) 2), none⟩, ⟨none, (.st (.t 92) (.t 91) 1), none⟩]) .skip)) 
  (.seq 
  (.seq (.reg [] [⟨(some 93), (.fa (.t 3) 3), none⟩, ⟨(some 94), (.ld (.t 93) none), none⟩, ⟨(some 95), (.bin .and (.t 94) (.c (.v (.int .i64 8)))), none⟩, ⟨(some 96), (.bin .neq (.t 95) (.c (.v (.int .i64 0)))), none⟩]) (.cond (.t 96) (.reg [] [⟨(some 97), (.mv (.t 13)), none⟩, ⟨(some 98), (.fa (.t 4) 3), none⟩, ⟨(some 99), (.ld (.t 98) none), none⟩, ⟨(some 100), (.fa (.t 9) 3), none⟩, ⟨(some 101), (.ld (.t 100) none), none⟩, ⟨(some 102), (.fa (.t 5) 3), none⟩, ⟨(some 103), (.ld (.t 102) none), none⟩, ⟨(some 104), (.fa (.t 11) 3), none⟩, ⟨(some 105), (.ld (.t 104) none), none⟩, ⟨(some 106), (.call (.t 97) [(.t 99), (.t 101), (.t 103), (.t 105)]), none⟩, ⟨(some 107), (.fa (.t 14) 3), none⟩, ⟨none, (.st (.t 107) (.t 106) 1), none⟩]) .skip)) 
  (.seq (.reg [] [⟨(some 108), (.ld (.t 14) (some 4)), none⟩, ⟨none, (.st (.t 6) (.t 108) 4), none⟩, ⟨(some 7), (.mv (.c (.v (.int .i64 0)))), none⟩]) .ret)))))))))))), [(.cell 6 (some 4)), (.t 7)]⟩

def c7 : MF := ⟨1, 39, 
  (.seq (.reg [] [⟨(some 1), (.box (.t 0)), none⟩, ⟨(some 2), (.mv (.c (.v (.int .i64 0)))), none⟩]) 
  (.seq 
  (.seq (.reg [] [⟨(some 3), (.fa (.t 1) 0), none⟩, ⟨(some 4), (.ld (.t 3) none), none⟩, ⟨(some 5), (.bin .lss (.t 4) (.c (.v (.int .i64 0)))), none⟩, ⟨(some 6), (.mv (.t 5)), none⟩, ⟨(some 7), (.fa (.t 1) 0), (some (6, false))⟩, ⟨(some 8), (.ld (.t 7) none), (some (6, false))⟩, ⟨(some 9), (.bin .gtr (.t 8) (.c (.v (.int .i64 9)))), (some (6, false))⟩, ⟨(some 10), (.pick (.t 6) (.c (.v (.bool true))) (.t 9)), none⟩, ⟨(some 11), (.mv (.t 10)), none⟩, ⟨(some 12), (.fa (.t 1) 1), (some (11, false))⟩, ⟨(some 13), (.ld (.t 12) none), (some (11, false))⟩, ⟨(some 14), (.bin .lss (.t 13) (.c (.v (.int .i64 0)))), (some (11, false))⟩, ⟨(some 15), (.pick (.t 11) (.c (.v (.bool true))) (.t 14)), none⟩, ⟨(some 16), (.mv (.t 15)), none⟩, ⟨(some 17), (.fa (.t 1) 1), (some (16, false))⟩, ⟨(some 18), (.ld (.t 17) none), (some (16, false))⟩, ⟨(some 19), (.bin .gtr (.t 18) (.c (.v (.int .i64 9)))), (some (16, false))⟩, ⟨(some 20), (.pick (.t 16) (.c (.v (.bool true))) (.t 19)), none⟩, ⟨(some 21), (.mv (.t 20)), none⟩, ⟨(some 22), (.fa (.t 1) 2), (some (21, false))⟩, ⟨(some 23), (.ld (.t 22) none), (some (21, false))⟩, ⟨(some 24), (.bin .lss (.t 23) (.c (.v (.int .i64 0)))), (some (21, false))⟩, ⟨(some 25), (.pick (.t 21) (.c (.v (.bool true))) (.t 24)), none⟩, ⟨(some 26), (.mv (.t 25)), none⟩, ⟨(some 27), (.fa (.t 1) 2), (some (26, false))⟩, ⟨(some 28), (.ld (.t 27) none), (some (26, false))⟩, ⟨(some 29), (.bin .gtr (.t 28) (.c (.v (.int .i64 4)))), (some (26, false))⟩, ⟨(some 30), (.pick (.t 26) (.c (.v (.bool true))) (.t 29)), none⟩]) (.cond (.t 30) 
  (.seq (.reg [] [⟨(some 2), (.mv (.c (.v (.int .i64 9)))), none⟩]) .ret) .skip)) 
  (.seq 
  (.seq (.reg [] [⟨(some 31), (.fa (.t 1) 3), none⟩, ⟨(some 32), (.ld (.t 31) none), none⟩, ⟨(some 33), (.bin .lss (.t 32) (.c (.v (.int .i64 0)))), none⟩, ⟨(some 34), (.mv (.t 33)), none⟩, ⟨(some 35), (.fa (.t 1) 3), (some (34, false))⟩, ⟨(some 36), (.ld (.t 35) none), (some (34, false))⟩, ⟨(some 37), (.bin .gtr (.t 36) (.c (.v (.int .i64 15)))), (some (34, false))⟩, ⟨(some 38), (.pick (.t 34) (.c (.v (.bool true))) (.t 37)), none⟩]) (.cond (.t 38) 
  (.seq (.reg [] [⟨(some 2), (.mv (.c (.v (.int .i64 3)))), none⟩]) .ret) .skip)) 
  (.seq (.reg [] [⟨(some 2), (.mv (.c (.v (.int .i64 0)))), none⟩]) .ret)))), [(.t 2)]⟩

def c8 : MF := ⟨1, 41, 
  (.seq (.reg [] [⟨(some 1), (.box (.t 0)), none⟩, ⟨(some 2), (.mv (.c (.v (.int .i64 0)))), none⟩]) 
  (.seq (.block 0 
  (.seq (.reg [] [⟨(some 4), (.fa (.t 1) 0), none⟩, ⟨(some 5), (.ld (.t 4) none), none⟩, ⟨(some 6), (.bin .lss (.t 5) (.c (.v (.int .i64 0)))), none⟩, ⟨(some 7), (.mv (.t 6)), none⟩, ⟨(some 8), (.fa (.t 1) 0), (some (7, false))⟩, ⟨(some 9), (.ld (.t 8) none), (some (7, false))⟩, ⟨(some 10), (.bin .gtr (.t 9) (.c (.v (.int .i64 9)))), (some (7, false))⟩, ⟨(some 11), (.pick (.t 7) (.c (.v (.bool true))) (.t 10)), none⟩, ⟨(some 12), (.mv (.t 11)), none⟩, ⟨(some 13), (.fa (.t 1) 1), (some (12, false))⟩, ⟨(some 14), (.ld (.t 13) none), (some (12, false))⟩, ⟨(some 15), (.bin .lss (.t 14) (.c (.v (.int .i64 0)))), (some (12, false))⟩, ⟨(some 16), (.pick (.t 12) (.c (.v (.bool true))) (.t 15)), none⟩, ⟨(some 17), (.mv (.t 16)), none⟩, ⟨(some 18), (.fa (.t 1) 1), (some (17, false))⟩, ⟨(some 19), (.ld (.t 18) none), (some (17, false))⟩, ⟨(some 20), (.bin .gtr (.t 19) (.c (.v (.int .i64 9)))), (some (17, false))⟩, ⟨(some 21), (.pick (.t 17) (.c (.v (.bool true))) (.t 20)), none⟩, ⟨(some 22), (.mv (.t 21)), none⟩, ⟨(some 23), (.fa (.t 1) 2), (some (22, false))⟩, ⟨(some 24), (.ld (.t 23) none), (some (22, false))⟩, ⟨(some 25), (.bin .lss (.t 24) (.c (.v (.int .i64 0)))), (some (22, false))⟩, ⟨(some 26), (.pick (.t 22) (.c (.v (.bool true))) (.t 25)), none⟩, ⟨(some 27), (.mv (.t 26)), none⟩, ⟨(some 28), (.fa (.t 1) 2), (some (27, false))⟩, ⟨(some 29), (.ld (.t 28) none), (some (27, false))⟩, ⟨(some 30), (.bin .gtr (.t 29) (.c (.v (.int .i64 4)))), (some (27, false))⟩, ⟨(some 31), (.pick (.t 27) (.c (.v (.bool true))) (.t 30)), none⟩, ⟨(some 3), (.mv (.t 31)), none⟩]) (.cond (.t 3) 
  (.seq (.reg [] [⟨(some 2), (.mv (.c (.v (.int .i64 9)))), none⟩]) .ret) 
  (.seq (.reg [] [⟨(some 33), (.fa (.t 1) 3), none⟩, ⟨(some 34), (.ld (.t 33) none), none⟩, ⟨(some 35), (.bin .lss (.t 34) (.c (.v (.int .i64 0)))), none⟩, ⟨(some 36), (.mv (.t 35)), none⟩, ⟨(some 37), (.fa (.t 1) 3), (some (36, false))⟩, ⟨(some 38), (.ld (.t 37) none), (some (36, false))⟩, ⟨(some 39), (.bin .gtr (.t 38) (.c (.v (.int .i64 15)))), (some (36, false))⟩, ⟨(some 40), (.pick (.t 36) (.c (.v (.bool true))) (.t 39)), none⟩, ⟨(some 32), (.mv (.t 40)), none⟩]) (.cond (.t 32) 
  (.seq (.reg [] [⟨(some 2), (.mv (.c (.v (.int .i64 3)))), none⟩]) .ret) .skip))))) 
  (.seq (.reg [] [⟨(some 2), (.mv (.c (.v (.int .i64 0)))), none⟩]) .ret))), [(.t 2)]⟩

def c9 : MF := ⟨0, 17, 
  (.seq (.reg [] [⟨(some 0), (.mv (.c (.v (.bool false)))), none⟩]) 
  (.seq (.reg [] [⟨(some 4), (.bld [(.v (.int .i64 0)), (.v (.int .i64 0)), (.v (.int .i64 0)), (.v (.int .i64 0))] [(0, (1, (.c (.v (.int .i64 6))))), (1, (1, (.c (.v (.int .i64 7))))), (3, (1, (.c (.v (.int .i64 7)))))]), none⟩, ⟨(some 5), (.bld [(.v (.int .i64 0)), (.v (.int .i64 0)), (.v (.int .i64 0)), (.v (.int .i64 0))] [(0, (1, (.c (.v (.int .i64 255))))), (3, (1, (.c (.v (.int .i64 128)))))]), none⟩, ⟨(some 6), (.bld [(.v (.int .i64 0)), (.v (.int .i64 0)), (.v (.int .i64 0)), (.v (.int .i64 0))] [(0, (1, (.c (.v (.int .i64 255))))), (1, (1, (.c (.v (.int .i64 255))))), (2, (1, (.c (.v (.int .i64 255))))), (3, (1, (.c (.v (.int .i64 9)))))]), none⟩, ⟨(some 7), (.call (.c (.f 6 [])) [(.t 4), (.t 5), (.t 6)]), none⟩, ⟨(some 3), (.mv (.t 7)), none⟩, ⟨(some 8), (.ext (.t 3) 0), none⟩, ⟨(some 9), (.ext (.t 3) 1), none⟩, ⟨(some 1), (.box (.c (.agg [(.v (.int .i64 0)), (.v (.int .i64 0)), (.v (.int .i64 0)), (.v (.int .i64 0))]))), none⟩, ⟨none, (.st (.t 1) (.t 8) 4), none⟩, ⟨(some 2), (.mv (.t 9)), none⟩]) 
  (.seq (.reg [] [⟨(some 10), (.mv (.t 2)), none⟩, ⟨(some 11), (.bin .eql (.t 10) (.c (.v (.int .i64 0)))), none⟩, ⟨(some 12), (.mv (.t 11)), none⟩, ⟨(some 13), (.ld (.t 1) (some 4)), (some (12, true))⟩, ⟨(some 14), (.bld [(.v (.int .i64 0)), (.v (.int .i64 0)), (.v (.int .i64 0)), (.v (.int .i64 0))] [(0, (1, (.c (.v (.int .i64 255))))), (1, (1, (.c (.v (.int .i64 127))))), (2, (1, (.c (.v (.int .i64 127))))), (3, (1, (.c (.v (.int .i64 9)))))]), (some (12, true))⟩, ⟨(some 15), (.eqv false true [.i, .i, .i, .i] (.t 13) (.t 14)), (some (12, true))⟩, ⟨(some 16), (.pick (.t 12) (.t 15) (.c (.v (.bool false)))), none⟩, ⟨(some 0), (.mv (.t 16)), none⟩]) .ret))), [(.t 0)]⟩

def c10 : MF := ⟨1, 21, 
  (.seq (.reg [] [⟨(some 1), (.box (.t 0)), none⟩, ⟨(some 2), (.mv (.c (.v (.bool false)))), none⟩]) 
  (.seq (.reg [] [⟨(some 3), (.fa (.t 1) 0), none⟩, ⟨(some 4), (.ld (.t 3) none), none⟩, ⟨(some 5), (.call (.c (.f 16 [])) [(.t 4)]), none⟩, ⟨(some 6), (.mv (.t 5)), none⟩, ⟨(some 7), (.fa (.t 1) 1), (some (6, true))⟩, ⟨(some 8), (.ld (.t 7) none), (some (6, true))⟩, ⟨(some 9), (.call (.c (.f 16 [])) [(.t 8)]), (some (6, true))⟩, ⟨(some 10), (.pick (.t 6) (.t 9) (.c (.v (.bool false)))), none⟩, ⟨(some 11), (.mv (.t 10)), none⟩, ⟨(some 12), (.fa (.t 1) 2), (some (11, true))⟩, ⟨(some 13), (.ld (.t 12) none), (some (11, true))⟩, ⟨(some 14), (.call (.c (.f 16 [])) [(.t 13)]), (some (11, true))⟩, ⟨(some 15), (.pick (.t 11) (.t 14) (.c (.v (.bool false)))), none⟩, ⟨(some 16), (.mv (.t 15)), none⟩, ⟨(some 17), (.fa (.t 1) 3), (some (16, true))⟩, ⟨(some 18), (.ld (.t 17) none), (some (16, true))⟩, ⟨(some 19), (.call (.c (.f 16 [])) [(.t 18)]), (some (16, true))⟩, ⟨(some 20), (.pick (.t 16) (.t 19) (.c (.v (.bool false)))), none⟩, ⟨(some 2), (.mv (.t 20)), none⟩]) .ret)), [(.t 2)]⟩

def c11 : MF := ⟨3, 72, 
  (.seq (.reg [] [⟨(some 3), (.box (.t 0)), none⟩, ⟨(some 4), (.box (.t 1)), none⟩, ⟨(some 5), (.box (.t 2)), none⟩, ⟨(some 6), (.box (.c (.agg [(.v (.int .i64 0)), (.v (.int .i64 0)), (.v (.int .i64 0)), (.v (.int .i64 0))]))), none⟩]) 
  (.seq (.reg [] [⟨(some 8), (.ld (.t 5) (some 4)), none⟩, ⟨(some 7), (.box (.c (.agg [(.v (.int .i64 0)), (.v (.int .i64 0)), (.v (.int .i64 0)), (.v (.int .i64 0))]))), none⟩, ⟨none, (.st (.t 7) (.t 8) 4), none⟩]) 
  (.seq 
  (.seq (.reg [] [⟨(some 9), (.fa (.t 3) 3), none⟩, ⟨(some 10), (.ld (.t 9) none), none⟩, ⟨(some 11), (.bin .rem (.t 10) (.c (.v (.int .i64 2)))), none⟩, ⟨(some 12), (.bin .eql (.t 11) (.c (.v (.int .i64 1)))), none⟩]) (.cond (.t 12) (.reg [] [⟨(some 13), (.ld (.t 3) (some 4)), none⟩, ⟨(some 14), (.fa (.t 4) 0), none⟩, ⟨(some 15), (.ld (.t 14) none), none⟩, ⟨(some 16), (.fa (.t 5) 0), none⟩, ⟨(some 17), (.ld (.t 16) none), none⟩, ⟨(some 18), (.fa (.t 4) 3), none⟩, ⟨(some 19), (.ld (.t 18) none), none⟩, ⟨(some 20), (.fa (.t 5) 3), none⟩, ⟨(some 21), (.ld (.t 20) none), none⟩, ⟨(some 22), (.call (.c (.f 17 [])) [(.t 13), (.t 15), (.t 17), (.t 19), (.t 21)]), none⟩, ⟨(some 23), (.fa (.t 7) 0), none⟩, ⟨none, (.st (.t 23) (.t 22) 1), none⟩]) .skip)) 
  (.seq 
  (.seq (.reg [] [⟨(some 24), (.fa (.t 3) 3), none⟩, ⟨(some 25), (.ld (.t 24) none), none⟩, ⟨(some 26), (.bin .quo (.t 25) (.c (.v (.int .i64 2)))), none⟩, ⟨(some 27), (.bin .rem (.t 26) (.c (.v (.int .i64 2)))), none⟩, ⟨(some 28), (.bin .eql (.t 27) (.c (.v (.int .i64 1)))), none⟩]) (.cond (.t 28) (.reg [] [⟨(some 29), (.ld (.t 3) (some 4)), none⟩, ⟨(some 30), (.fa (.t 4) 1), none⟩, ⟨(some 31), (.ld (.t 30) none), none⟩, ⟨(some 32), (.fa (.t 5) 1), none⟩, ⟨(some 33), (.ld (.t 32) none), none⟩, ⟨(some 34), (.fa (.t 4) 3), none⟩, ⟨(some 35), (.ld (.t 34) none), none⟩, ⟨(some 36), (.fa (.t 5) 3), none⟩, ⟨(some 37), (.ld (.t 36) none), none⟩, ⟨(some 38), (.call (.c (.f 17 [])) [(.t 29), (.t 31), (.t 33), (.t 35), (.t 37)]), none⟩, ⟨(some 39), (.fa (.t 7) 1), none⟩, ⟨none, (.st (.t 39) (.t 38) 1), none⟩]) .skip)) 
  (.seq 
  (.seq (.reg [] [⟨(some 40), (.fa (.t 3) 3), none⟩, ⟨(some 41), (.ld (.t 40) none), none⟩, ⟨(some 42), (.bin .quo (.t 41) (.c (.v (.int .i64 4)))), none⟩, ⟨(some 43), (.bin .rem (.t 42) (.c (.v (.int .i64 2)))), none⟩, ⟨(some 44), (.bin .eql (.t 43) (.c (.v (.int .i64 1)))), none⟩]) (.cond (.t 44) (.reg [] [⟨(some 45), (.ld (.t 3) (some 4)), none⟩, ⟨(some 46), (.fa (.t 4) 2), none⟩, ⟨(some 47), (.ld (.t 46) none), none⟩, ⟨(some 48), (.fa (.t 5) 2), none⟩, ⟨(some 49), (.ld (.t 48) none), none⟩, ⟨(some 50), (.fa (.t 4) 3), none⟩, ⟨(some 51), (.ld (.t 50) none), none⟩, ⟨(some 52), (.fa (.t 5) 3), none⟩, ⟨(some 53), (.ld (.t 52) none), none⟩, ⟨(some 54), (.call (.c (.f 17 [])) [(.t 45), (.t 47), (.t 49), (.t 51), (.t 53)]), none⟩, ⟨(some 55), (.fa (.t 7) 2), none⟩, ⟨none, (.st (.t 55) (.t 54) 1), none⟩]) .skip)) 
  (.seq 
  (.seq (.reg [] [⟨(some 56), (.fa (.t 3) 3), none⟩, ⟨(some 57), (.ld (.t 56) none), none⟩, ⟨(some 58), (.bin .quo (.t 57) (.c (.v (.int .i64 8)))), none⟩, ⟨(some 59), (.bin .eql (.t 58) (.c (.v (.int .i64 1)))), none⟩]) (.cond (.t 59) (.reg [] [⟨(some 60), (.ld (.t 3) (some 4)), none⟩, ⟨(some 61), (.fa (.t 4) 3), none⟩, ⟨(some 62), (.ld (.t 61) none), none⟩, ⟨(some 63), (.fa (.t 5) 3), none⟩, ⟨(some 64), (.ld (.t 63) none), none⟩, ⟨(some 65), (.fa (.t 4) 3), none⟩, ⟨(some 66), (.ld (.t 65) none), none⟩, ⟨(some 67), (.fa (.t 5) 3), none⟩, ⟨(some 68), (.ld (.t 67) none), none⟩, ⟨(some 69), (.call (.c (.f 17 [])) [(.t 60), (.t 62), (.t 64), (.t 66), (.t 68)]), none⟩, ⟨(some 70), (.fa (.t 7) 3), none⟩, ⟨none, (.st (.t 70) (.t 69) 1), none⟩]) .skip)) 
  (.seq (.reg [] [⟨(some 71), (.ld (.t 7) (some 4)), none⟩, ⟨none, (.st (.t 6) (.t 71) 4), none⟩]) .ret))))))), [(.cell 6 (some 4))]⟩

def c12 : MF := ⟨3, 83, 
  (.seq (.reg [] [⟨(some 4), (.box (.t 1)), none⟩, ⟨(some 5), (.box (.t 2)), none⟩, ⟨(some 6), (.box (.c (.agg [(.v (.int .i64 0)), (.v (.int .i64 0)), (.v (.int .i64 0)), (.v (.int .i64 0))]))), none⟩, ⟨(some 7), (.mv (.c (.v (.int .i64 0)))), none⟩]) 
  (.seq (.block 0 
  (.seq (.reg [] [⟨(some 10), (.mv (.t 0)), none⟩, ⟨(some 11), (.bin .lss (.t 10) (.c (.v (.int .i64 0)))), none⟩, ⟨(some 12), (.mv (.t 11)), none⟩, ⟨(some 13), (.mv (.t 0)), (some (12, false))⟩, ⟨(some 14), (.bin .gtr (.t 13) (.c (.v (.int .i64 9)))), (some (12, false))⟩, ⟨(some 15), (.pick (.t 12) (.c (.v (.bool true))) (.t 14)), none⟩, ⟨(some 9), (.mv (.t 15)), none⟩]) (.cond (.t 9) 
  (.seq (.reg [] [⟨(some 16), (.bld [(.v (.int .i64 0)), (.v (.int .i64 0)), (.v (.int .i64 0)), (.v (.int .i64 0))] []), none⟩, ⟨none, (.st (.t 6) (.t 16) 4), none⟩, ⟨(some 7), (.mv (.c (.v (.int .i64 9)))), none⟩]) .ret) 
  (.seq (.reg [] [⟨(some 18), (.ld (.t 4) (some 4)), none⟩, ⟨(some 19), (.call (.c (.f 18 [])) [(.t 18)]), none⟩, ⟨(some 20), (.un .not (.t 19)), none⟩, ⟨(some 21), (.mv (.t 20)), none⟩, ⟨(some 22), (.ld (.t 5) (some 4)), (some (21, false))⟩, ⟨(some 23), (.call (.c (.f 18 [])) [(.t 22)]), (some (21, false))⟩, ⟨(some 24), (.un .not (.t 23)), (some (21, false))⟩, ⟨(some 25), (.pick (.t 21) (.c (.v (.bool true))) (.t 24)), none⟩, ⟨(some 17), (.mv (.t 25)), none⟩]) (.cond (.t 17) 
  (.seq (.reg [] [⟨(some 26), (.bld [(.v (.int .i64 0)), (.v (.int .i64 0)), (.v (.int .i64 0)), (.v (.int .i64 0))] []), none⟩, ⟨none, (.st (.t 6) (.t 26) 4), none⟩, ⟨(some 7), (.mv (.c (.v (.int .i64 3)))), none⟩]) .ret) .skip))))) 
  (.seq (.reg [] [⟨(some 8), (.box (.c (.agg [(.v (.int .i64 0)), (.v (.int .i64 0)), (.v (.int .i64 0)), (.v (.int .i64 0))]))), none⟩]) 
  (.seq 
  (.seq (.reg [] [⟨(some 27), (.mv (.t 0)), none⟩]) (.block 1 
  (.seq (.reg [] [⟨(some 29), (.bin .eql (.t 27) (.c (.v (.int .i64 1)))), none⟩, ⟨(some 28), (.mv (.t 29)), none⟩]) (.cond (.t 28) (.reg [] [⟨(some 30), (.bld [(.v (.int .i64 0)), (.v (.int .i64 0)), (.v (.int .i64 0)), (.v (.int .i64 0))] [(0, (1, (.c (.v (.int .i64 255))))), (1, (1, (.c (.v (.int .i64 255))))), (2, (1, (.c (.v (.int .i64 255))))), (3, (1, (.c (.v (.int .i64 255)))))]), none⟩, ⟨none, (.st (.t 8) (.t 30) 4), none⟩]) 
  (.seq 
  (.seq (.reg [] [⟨(some 32), (.bin .eql (.t 27) (.c (.v (.int .i64 2)))), none⟩, ⟨(some 31), (.mv (.t 32)), none⟩]) (.cond (.t 31) .skip (.reg [] [⟨(some 33), (.bin .eql (.t 27) (.c (.v (.int .i64 3)))), none⟩, ⟨(some 31), (.mv (.t 33)), none⟩]))) (.cond (.t 31) (.reg [] [⟨(some 34), (.ld (.t 4) (some 4)), none⟩, ⟨none, (.st (.t 8) (.t 34) 4), none⟩]) 
  (.seq 
  (.seq (.reg [] [⟨(some 36), (.bin .eql (.t 27) (.c (.v (.int .i64 4)))), none⟩, ⟨(some 35), (.mv (.t 36)), none⟩]) (.cond (.t 35) .skip (.reg [] [⟨(some 37), (.bin .eql (.t 27) (.c (.v (.int .i64 5)))), none⟩, ⟨(some 35), (.mv (.t 37)), none⟩]))) (.cond (.t 35) (.reg [] [⟨(some 38), (.ld (.t 5) (some 4)), none⟩, ⟨none, (.st (.t 8) (.t 38) 4), none⟩]) 
  (.seq 
  (.seq (.reg [] [⟨(some 40), (.bin .eql (.t 27) (.c (.v (.int .i64 6)))), none⟩, ⟨(some 39), (.mv (.t 40)), none⟩]) (.cond (.t 39) .skip (.reg [] [⟨(some 41), (.bin .eql (.t 27) (.c (.v (.int .i64 7)))), none⟩, ⟨(some 39), (.mv (.t 41)), none⟩]))) (.cond (.t 39) (.reg [] [⟨(some 42), (.fa (.t 4) 3), none⟩, ⟨(some 43), (.ld (.t 42) none), none⟩, ⟨(some 44), (.fa (.t 4) 3), none⟩, ⟨(some 45), (.ld (.t 44) none), none⟩, ⟨(some 46), (.fa (.t 4) 3), none⟩, ⟨(some 47), (.ld (.t 46) none), none⟩, ⟨(some 48), (.fa (.t 4) 3), none⟩, ⟨(some 49), (.ld (.t 48) none), none⟩, ⟨(some 50), (.bld [(.v (.int .i64 0)), (.v (.int .i64 0)), (.v (.int .i64 0)), (.v (.int .i64 0))] [(0, (1, (.t 43))), (1, (1, (.t 45))), (2, (1, (.t 47))), (3, (1, (.t 49)))]), none⟩, ⟨none, (.st (.t 8) (.t 50) 4), none⟩]) 
  (.seq 
  (.seq (.reg [] [⟨(some 52), (.bin .eql (.t 27) (.c (.v (.int .i64 8)))), none⟩, ⟨(some 51), (.mv (.t 52)), none⟩]) (.cond (.t 51) .skip (.reg [] [⟨(some 53), (.bin .eql (.t 27) (.c (.v (.int .i64 9)))), none⟩, ⟨(some 51), (.mv (.t 53)), none⟩]))) (.cond (.t 51) (.reg [] [⟨(some 54), (.fa (.t 5) 3), none⟩, ⟨(some 55), (.ld (.t 54) none), none⟩, ⟨(some 56), (.fa (.t 5) 3), none⟩, ⟨(some 57), (.ld (.t 56) none), none⟩, ⟨(some 58), (.fa (.t 5) 3), none⟩, ⟨(some 59), (.ld (.t 58) none), none⟩, ⟨(some 60), (.fa (.t 5) 3), none⟩, ⟨(some 61), (.ld (.t 60) none), none⟩, ⟨(some 62), (.bld [(.v (.int .i64 0)), (.v (.int .i64 0)), (.v (.int .i64 0)), (.v (.int .i64 0))] [(0, (1, (.t 55))), (1, (1, (.t 57))), (2, (1, (.t 59))), (3, (1, (.t 61)))]), none⟩, ⟨none, (.st (.t 8) (.t 62) 4), none⟩]) .skip)))))))))))) 
  (.seq 
  (.seq (.reg [] [⟨(some 63), (.mv (.t 0)), none⟩]) (.block 2 
  (.seq 
  (.seq (.reg [] [⟨(some 65), (.bin .eql (.t 63) (.c (.v (.int .i64 3)))), none⟩, ⟨(some 64), (.mv (.t 65)), none⟩]) (.cond (.t 64) .skip 
  (.seq (.reg [] [⟨(some 66), (.bin .eql (.t 63) (.c (.v (.int .i64 5)))), none⟩, ⟨(some 64), (.mv (.t 66)), none⟩]) (.cond (.t 64) .skip 
  (.seq (.reg [] [⟨(some 67), (.bin .eql (.t 63) (.c (.v (.int .i64 7)))), none⟩, ⟨(some 64), (.mv (.t 67)), none⟩]) (.cond (.t 64) .skip (.reg [] [⟨(some 68), (.bin .eql (.t 63) (.c (.v (.int .i64 9)))), none⟩, ⟨(some 64), (.mv (.t 68)), none⟩]))))))) (.cond (.t 64) (.reg [] [⟨(some 69), (.fa (.t 8) 0), none⟩, ⟨(some 70), (.ld (.t 69) none), none⟩, ⟨(some 71), (.bin .sub (.c (.v (.int .i64 255))) (.t 70)), none⟩, ⟨(some 72), (.fa (.t 8) 1), none⟩, ⟨(some 73), (.ld (.t 72) none), none⟩, ⟨(some 74), (.bin .sub (.c (.v (.int .i64 255))) (.t 73)), none⟩, ⟨(some 75), (.fa (.t 8) 2), none⟩, ⟨(some 76), (.ld (.t 75) none), none⟩, ⟨(some 77), (.bin .sub (.c (.v (.int .i64 255))) (.t 76)), none⟩, ⟨(some 78), (.fa (.t 8) 3), none⟩, ⟨(some 79), (.ld (.t 78) none), none⟩, ⟨(some 80), (.bin .sub (.c (.v (.int .i64 255))) (.t 79)), none⟩, ⟨(some 81), (.bld [(.v (.int .i64 0)), (.v (.int .i64 0)), (.v (.int .i64 0)), (.v (.int .i64 0))] [(0, (1, (.t 71))), (1, (1, (.t 74))), (2, (1, (.t 77))), (3, (1, (.t 80)))]), none⟩, ⟨none, (.st (.t 8) (.t 81) 4), none⟩]) .skip)))) 
  (.seq (.reg [] [⟨(some 82), (.ld (.t 8) (some 4)), none⟩, ⟨none, (.st (.t 6) (.t 82) 4), none⟩, ⟨(some 7), (.mv (.c (.v (.int .i64 0)))), none⟩]) .ret)))))), [(.cell 6 (some 4)), (.t 7)]⟩

def c13 : MF := ⟨5, 29, 
  (.seq (.reg [] [⟨(some 10), (.mv (.c (.v (.int .i64 0)))), none⟩]) 
  (.seq (.reg [] [⟨(some 12), (.mv (.t 1)), none⟩, ⟨(some 13), (.mv (.t 1)), none⟩, ⟨(some 14), (.bin .sub (.c (.v (.int .i64 255))) (.t 13)), none⟩, ⟨(some 15), (.mv (.t 2)), none⟩, ⟨(some 16), (.mv (.t 2)), none⟩, ⟨(some 17), (.bin .sub (.c (.v (.int .i64 255))) (.t 16)), none⟩, ⟨(some 18), (.mv (.t 3)), none⟩, ⟨(some 19), (.mv (.t 3)), none⟩, ⟨(some 20), (.bin .sub (.c (.v (.int .i64 255))) (.t 19)), none⟩, ⟨(some 21), (.mv (.t 4)), none⟩, ⟨(some 22), (.mv (.t 4)), none⟩, ⟨(some 23), (.bin .sub (.c (.v (.int .i64 255))) (.t 22)), none⟩, ⟨(some 24), (.bsl [(.v (.int .i64 0))] 10 [(0, (1, (.c (.v (.int .i64 0))))), (1, (1, (.c (.v (.int .i64 255))))), (2, (1, (.t 12))), (3, (1, (.t 14))), (4, (1, (.t 15))), (5, (1, (.t 17))), (6, (1, (.t 18))), (7, (1, (.t 20))), (8, (1, (.t 21))), (9, (1, (.t 23)))]), none⟩, ⟨(some 11), (.mv (.t 24)), none⟩]) 
  (.seq (.reg [] [⟨(some 25), (.mv (.t 11)), none⟩, ⟨(some 26), (.mv (.t 0)), none⟩, ⟨(some 27), (.ixs (.t 25) (.t 26) 1), none⟩, ⟨(some 28), (.ld (.t 27) none), none⟩, ⟨(some 10), (.mv (.t 28)), none⟩]) .ret))), [(.t 10)]⟩

def c14 : MF := ⟨0, 2, 
  (.seq (.reg [] [⟨(some 0), (.box (.c (.agg [(.v (.int .i64 0)), (.v (.int .i64 0)), (.v (.int .i64 0)), (.v (.int .i64 0))]))), none⟩]) 
  (.seq (.reg [] [⟨(some 1), (.bld [(.v (.int .i64 0)), (.v (.int .i64 0)), (.v (.int .i64 0)), (.v (.int .i64 0))] [(0, (1, (.c (.v (.int .i64 1))))), (3, (1, (.c (.v (.int .i64 15)))))]), none⟩, ⟨none, (.st (.t 0) (.t 1) 4), none⟩]) .ret)), [(.cell 0 (some 4))]⟩

def c15 : MF := ⟨1, 16, 
  (.seq (.reg [] [⟨(some 2), (.mv (.c (.v .nilFunc))), none⟩]) 
  (.seq (.reg [] [⟨(some 3), (.box (.c (.v .nilFunc))), none⟩, ⟨none, (.st (.t 3) (.c (.f 19 [])) 1), none⟩]) 
  (.seq 
  (.seq (.reg [] [⟨(some 4), (.mv (.t 0)), none⟩]) (.block 0 
  (.seq (.reg [] [⟨(some 6), (.bin .eql (.t 4) (.c (.v (.int .i64 1)))), none⟩, ⟨(some 5), (.mv (.t 6)), none⟩]) (.cond (.t 5) 
  (.seq (.reg [] [⟨(some 7), (.mkf 21 [(.t 3)]), none⟩, ⟨(some 2), (.mv (.t 7)), none⟩]) .ret) 
  (.seq (.reg [] [⟨(some 9), (.bin .eql (.t 4) (.c (.v (.int .i64 2)))), none⟩, ⟨(some 8), (.mv (.t 9)), none⟩]) (.cond (.t 8) 
  (.seq (.reg [] [⟨(some 10), (.mkf 22 [(.t 3)]), none⟩, ⟨(some 2), (.mv (.t 10)), none⟩]) .ret) 
  (.seq (.reg [] [⟨(some 12), (.bin .eql (.t 4) (.c (.v (.int .i64 3)))), none⟩, ⟨(some 11), (.mv (.t 12)), none⟩]) (.cond (.t 11) 
  (.seq (.reg [] [⟨(some 2), (.mv (.c (.f 23 []))), none⟩]) .ret) 
  (.seq (.reg [] [⟨(some 14), (.bin .eql (.t 4) (.c (.v (.int .i64 4)))), none⟩, ⟨(some 13), (.mv (.t 14)), none⟩]) (.cond (.t 13) 
  (.seq (.reg [] [⟨(some 2), (.mv (.c (.f 24 []))), none⟩]) .ret) .skip)))))))))) 
  (.seq (.reg [] [⟨(some 15), (.mkf 25 [(.t 3)]), none⟩, ⟨(some 2), (.mv (.t 15)), none⟩]) .ret)))), [(.t 2)]⟩

def c16 : MF := ⟨1, 9, 
  (.seq (.reg [] [⟨(some 2), (.mv (.c (.v (.bool false)))), none⟩]) 
  (.seq (.reg [] [⟨(some 3), (.mv (.t 0)), none⟩, ⟨(some 4), (.bin .geq (.t 3) (.c (.v (.int .i64 0)))), none⟩, ⟨(some 5), (.mv (.t 4)), none⟩, ⟨(some 6), (.mv (.t 0)), (some (5, true))⟩, ⟨(some 7), (.bin .leq (.t 6) (.c (.v (.int .i64 255)))), (some (5, true))⟩, ⟨(some 8), (.pick (.t 5) (.t 7) (.c (.v (.bool false)))), none⟩, ⟨(some 2), (.mv (.t 8)), none⟩]) .ret)), [(.t 2)]⟩

def c17 : MF := ⟨5, 63, 
  (.seq (.reg [] [⟨(some 5), (.box (.t 0)), none⟩, ⟨(some 10), (.mv (.c (.v (.int .i64 0)))), none⟩]) 
  (.seq (.reg [] [⟨(some 14), (.mv (.t 1)), none⟩, ⟨(some 15), (.fa (.t 5) 0), none⟩, ⟨(some 16), (.ld (.t 15) none), none⟩, ⟨(some 17), (.mv (.t 1)), none⟩, ⟨(some 18), (.mv (.t 2)), none⟩, ⟨(some 19), (.mv (.t 3)), none⟩, ⟨(some 20), (.mv (.t 4)), none⟩, ⟨(some 21), (.call (.c (.f 13 [])) [(.t 16), (.t 17), (.t 18), (.t 19), (.t 20)]), none⟩, ⟨(some 22), (.bin .mul (.t 14) (.t 21)), none⟩, ⟨(some 11), (.mv (.t 22)), none⟩]) 
  (.seq (.reg [] [⟨(some 23), (.mv (.t 2)), none⟩, ⟨(some 24), (.fa (.t 5) 1), none⟩, ⟨(some 25), (.ld (.t 24) none), none⟩, ⟨(some 26), (.mv (.t 1)), none⟩, ⟨(some 27), (.mv (.t 2)), none⟩, ⟨(some 28), (.mv (.t 3)), none⟩, ⟨(some 29), (.mv (.t 4)), none⟩, ⟨(some 30), (.call (.c (.f 13 [])) [(.t 25), (.t 26), (.t 27), (.t 28), (.t 29)]), none⟩, ⟨(some 31), (.bin .mul (.t 23) (.t 30)), none⟩, ⟨(some 12), (.mv (.t 31)), none⟩]) 
  (.seq 
  (.seq (.reg [] [⟨(some 32), (.fa (.t 5) 2), none⟩, ⟨(some 33), (.ld (.t 32) none), none⟩, ⟨(some 34), (.bin .eql (.t 33) (.c (.v (.int .i64 3)))), none⟩]) (.cond (.t 34) 
  (.seq (.reg [] [⟨(some 35), (.mv (.t 1)), none⟩, ⟨(some 36), (.mv (.t 2)), none⟩, ⟨(some 37), (.call (.c (.f 26 [])) [(.t 35), (.t 36)]), none⟩, ⟨(some 10), (.mv (.t 37)), none⟩]) .ret) .skip)) 
  (.seq 
  (.seq (.reg [] [⟨(some 38), (.fa (.t 5) 2), none⟩, ⟨(some 39), (.ld (.t 38) none), none⟩, ⟨(some 40), (.bin .eql (.t 39) (.c (.v (.int .i64 4)))), none⟩]) (.cond (.t 40) 
  (.seq (.reg [] [⟨(some 41), (.mv (.t 1)), none⟩, ⟨(some 42), (.mv (.t 2)), none⟩, ⟨(some 43), (.call (.c (.f 27 [])) [(.t 41), (.t 42)]), none⟩, ⟨(some 10), (.mv (.t 43)), none⟩]) .ret) .skip)) 
  (.seq (.reg [] [⟨(some 44), (.mv (.t 11)), none⟩, ⟨(some 45), (.mv (.t 12)), none⟩, ⟨(some 46), (.bin .add (.t 44) (.t 45)), none⟩, ⟨(some 13), (.mv (.t 46)), none⟩]) 
  (.seq 
  (.seq (.reg [] [⟨(some 47), (.fa (.t 5) 2), none⟩, ⟨(some 48), (.ld (.t 47) none), none⟩, ⟨(some 49), (.bin .eql (.t 48) (.c (.v (.int .i64 1)))), none⟩]) (.cond (.t 49) (.reg [] [⟨(some 50), (.mv (.t 11)), none⟩, ⟨(some 51), (.mv (.t 12)), none⟩, ⟨(some 52), (.bin .sub (.t 50) (.t 51)), none⟩, ⟨(some 13), (.mv (.t 52)), none⟩]) .skip)) 
  (.seq 
  (.seq (.reg [] [⟨(some 53), (.fa (.t 5) 2), none⟩, ⟨(some 54), (.ld (.t 53) none), none⟩, ⟨(some 55), (.bin .eql (.t 54) (.c (.v (.int .i64 2)))), none⟩]) (.cond (.t 55) (.reg [] [⟨(some 56), (.mv (.t 12)), none⟩, ⟨(some 57), (.mv (.t 11)), none⟩, ⟨(some 58), (.bin .sub (.t 56) (.t 57)), none⟩, ⟨(some 13), (.mv (.t 58)), none⟩]) .skip)) 
  (.seq (.reg [] [⟨(some 59), (.mv (.t 13)), none⟩, ⟨(some 60), (.bin .add (.t 59) (.c (.v (.int .i64 127)))), none⟩, ⟨(some 61), (.call (.c (.f 29 [])) [(.t 60), (.c (.v (.int .i64 255)))]), none⟩, ⟨(some 62), (.call (.c (.f 28 [])) [(.t 61), (.c (.v (.int .i64 0))), (.c (.v (.int .i64 255)))]), none⟩, ⟨(some 10), (.mv (.t 62)), none⟩]) .ret))))))))), [(.t 10)]⟩

def c18 : MF := ⟨1, 8, 
  (.seq (.reg [] [⟨(some 1), (.box (.t 0)), none⟩, ⟨(some 2), (.mv (.c (.v (.bool false)))), none⟩]) 
  (.seq (.reg [⟨(some 3), (.ld (.t 1) (some 4)), none⟩, ⟨(some 4), (.ld (.t 1) (some 4)), none⟩, ⟨(some 5), (.ld (.t 1) (some 4)), none⟩, ⟨(some 6), (.call (.c (.f 30 [])) [(.t 4), (.t 5), (.c (.f 31 []))]), none⟩] [⟨(some 7), (.eqv false true [.i, .i, .i, .i] (.t 3) (.t 6)), none⟩, ⟨(some 2), (.mv (.t 7)), none⟩]) .ret)), [(.t 2)]⟩

def c19 : MF := ⟨1, 7, 
  (.seq (.reg [] [⟨(some 2), (.mv (.c (.v (.int .i64 0)))), none⟩]) 
  (.seq (.reg [] [⟨(some 3), (.mv (.t 0)), none⟩, ⟨(some 4), (.bin .add (.t 3) (.c (.v (.int .i64 127)))), none⟩, ⟨(some 5), (.bin .quo (.t 4) (.c (.v (.int .i64 255)))), none⟩, ⟨(some 6), (.call (.c (.f 20 [])) [(.t 5), (.c (.v (.int .i64 0))), (.c (.v (.int .i64 255)))]), none⟩, ⟨(some 2), (.mv (.t 6)), none⟩]) .ret)), [(.t 2)]⟩

def c20 : MF := ⟨3, 18, 
  (.seq (.reg [] [⟨(some 6), (.mv (.c (.v (.int .i64 0)))), none⟩]) 
  (.seq (.block 0 
  (.seq (.reg [] [⟨(some 8), (.mv (.t 0)), none⟩, ⟨(some 9), (.mv (.t 1)), none⟩, ⟨(some 10), (.bin .lss (.t 8) (.t 9)), none⟩, ⟨(some 7), (.mv (.t 10)), none⟩]) (.cond (.t 7) 
  (.seq (.reg [] [⟨(some 11), (.mv (.t 1)), none⟩, ⟨(some 6), (.mv (.t 11)), none⟩]) .ret) 
  (.seq (.reg [] [⟨(some 13), (.mv (.t 0)), none⟩, ⟨(some 14), (.mv (.t 2)), none⟩, ⟨(some 15), (.bin .gtr (.t 13) (.t 14)), none⟩, ⟨(some 12), (.mv (.t 15)), none⟩]) (.cond (.t 12) 
  (.seq (.reg [] [⟨(some 16), (.mv (.t 2)), none⟩, ⟨(some 6), (.mv (.t 16)), none⟩]) .ret) .skip))))) 
  (.seq (.reg [] [⟨(some 17), (.mv (.t 0)), none⟩, ⟨(some 6), (.mv (.t 17)), none⟩]) .ret))), [(.t 6)]⟩

def c21 : MF := ⟨5, 20, 
  (.seq (.reg [] [⟨(some 9), (.mv (.c (.v (.int .i64 0)))), none⟩]) 
  (.seq (.reg [] [⟨(some 10), (.ld (.t 4) none), none⟩, ⟨(some 11), (.mv (.t 0)), none⟩, ⟨(some 12), (.mv (.t 1)), none⟩, ⟨(some 13), (.bin .mul (.t 11) (.t 12)), none⟩, ⟨(some 14), (.mv (.t 2)), none⟩, ⟨(some 15), (.mv (.t 3)), none⟩, ⟨(some 16), (.bin .mul (.t 14) (.t 15)), none⟩, ⟨(some 17), (.bin .sub (.t 13) (.t 16)), none⟩, ⟨(some 18), (.mm true [(.t 17), (.c (.v (.int .i64 0)))]), none⟩, ⟨(some 19), (.call (.t 10) [(.t 18)]), none⟩, ⟨(some 9), (.mv (.t 19)), none⟩]) .ret)), [(.t 9)]⟩

def c22 : MF := ⟨5, 20, 
  (.seq (.reg [] [⟨(some 9), (.mv (.c (.v (.int .i64 0)))), none⟩]) 
  (.seq (.reg [] [⟨(some 10), (.ld (.t 4) none), none⟩, ⟨(some 11), (.mv (.t 2)), none⟩, ⟨(some 12), (.mv (.t 3)), none⟩, ⟨(some 13), (.bin .mul (.t 11) (.t 12)), none⟩, ⟨(some 14), (.mv (.t 0)), none⟩, ⟨(some 15), (.mv (.t 1)), none⟩, ⟨(some 16), (.bin .mul (.t 14) (.t 15)), none⟩, ⟨(some 17), (.bin .sub (.t 13) (.t 16)), none⟩, ⟨(some 18), (.mm true [(.t 17), (.c (.v (.int .i64 0)))]), none⟩, ⟨(some 19), (.call (.t 10) [(.t 18)]), none⟩, ⟨(some 9), (.mv (.t 19)), none⟩]) .ret)), [(.t 9)]⟩

def c23 : MF := ⟨4, 12, 
  (.seq (.reg [] [⟨(some 8), (.mv (.c (.v (.int .i64 0)))), none⟩]) 
  (.seq (.reg [] [⟨(some 9), (.mv (.t 0)), none⟩, ⟨(some 10), (.mv (.t 2)), none⟩, ⟨(some 11), (.mm false [(.t 9), (.t 10)]), none⟩, ⟨(some 8), (.mv (.t 11)), none⟩]) .ret)), [(.t 8)]⟩

def c24 : MF := ⟨4, 12, 
  (.seq (.reg [] [⟨(some 8), (.mv (.c (.v (.int .i64 0)))), none⟩]) 
  (.seq (.reg [] [⟨(some 9), (.mv (.t 0)), none⟩, ⟨(some 10), (.mv (.t 2)), none⟩, ⟨(some 11), (.mm true [(.t 9), (.t 10)]), none⟩, ⟨(some 8), (.mv (.t 11)), none⟩]) .ret)), [(.t 8)]⟩

def c25 : MF := ⟨5, 19, 
  (.seq (.reg [] [⟨(some 9), (.mv (.c (.v (.int .i64 0)))), none⟩]) 
  (.seq (.reg [] [⟨(some 10), (.ld (.t 4) none), none⟩, ⟨(some 11), (.mv (.t 0)), none⟩, ⟨(some 12), (.mv (.t 1)), none⟩, ⟨(some 13), (.bin .mul (.t 11) (.t 12)), none⟩, ⟨(some 14), (.mv (.t 2)), none⟩, ⟨(some 15), (.mv (.t 3)), none⟩, ⟨(some 16), (.bin .mul (.t 14) (.t 15)), none⟩, ⟨(some 17), (.bin .add (.t 13) (.t 16)), none⟩, ⟨(some 18), (.call (.t 10) [(.t 17)]), none⟩, ⟨(some 9), (.mv (.t 18)), none⟩]) .ret)), [(.t 9)]⟩

def c26 : MF := ⟨2, 10, 
  (.seq (.reg [] [⟨(some 4), (.mv (.c (.v (.int .i64 0)))), none⟩]) 
  (.seq 
  (.seq (.reg [] [⟨(some 5), (.mv (.t 0)), none⟩, ⟨(some 6), (.mv (.t 1)), none⟩, ⟨(some 7), (.bin .lss (.t 5) (.t 6)), none⟩]) (.cond (.t 7) 
  (.seq (.reg [] [⟨(some 8), (.mv (.t 0)), none⟩, ⟨(some 4), (.mv (.t 8)), none⟩]) .ret) .skip)) 
  (.seq (.reg [] [⟨(some 9), (.mv (.t 1)), none⟩, ⟨(some 4), (.mv (.t 9)), none⟩]) .ret))), [(.t 4)]⟩

def c27 : MF := ⟨2, 10, 
  (.seq (.reg [] [⟨(some 4), (.mv (.c (.v (.int .i64 0)))), none⟩]) 
  (.seq 
  (.seq (.reg [] [⟨(some 5), (.mv (.t 0)), none⟩, ⟨(some 6), (.mv (.t 1)), none⟩, ⟨(some 7), (.bin .gtr (.t 5) (.t 6)), none⟩]) (.cond (.t 7) 
  (.seq (.reg [] [⟨(some 8), (.mv (.t 0)), none⟩, ⟨(some 4), (.mv (.t 8)), none⟩]) .ret) .skip)) 
  (.seq (.reg [] [⟨(some 9), (.mv (.t 1)), none⟩, ⟨(some 4), (.mv (.t 9)), none⟩]) .ret))), [(.t 4)]⟩

def c28 : MF := ⟨3, 16, 
  (.seq (.reg [] [⟨(some 6), (.mv (.c (.v (.int .i64 0)))), none⟩]) 
  (.seq 
  (.seq (.reg [] [⟨(some 7), (.mv (.t 0)), none⟩, ⟨(some 8), (.mv (.t 1)), none⟩, ⟨(some 9), (.bin .lss (.t 7) (.t 8)), none⟩]) (.cond (.t 9) 
  (.seq (.reg [] [⟨(some 10), (.mv (.t 1)), none⟩, ⟨(some 6), (.mv (.t 10)), none⟩]) .ret) .skip)) 
  (.seq 
  (.seq (.reg [] [⟨(some 11), (.mv (.t 0)), none⟩, ⟨(some 12), (.mv (.t 2)), none⟩, ⟨(some 13), (.bin .gtr (.t 11) (.t 12)), none⟩]) (.cond (.t 13) 
  (.seq (.reg [] [⟨(some 14), (.mv (.t 2)), none⟩, ⟨(some 6), (.mv (.t 14)), none⟩]) .ret) .skip)) 
  (.seq (.reg [] [⟨(some 15), (.mv (.t 0)), none⟩, ⟨(some 6), (.mv (.t 15)), none⟩]) .ret)))), [(.t 6)]⟩

def c29 : MF := ⟨2, 38, 
  (.seq (.reg [] [⟨(some 4), (.mv (.c (.v (.int .i64 0)))), none⟩]) 
  (.seq 
  (.seq (.reg [] [⟨(some 7), (.mv (.t 0)), none⟩, ⟨(some 8), (.bin .eql (.t 7) (.c (.v (.int .i64 (-9223372036854775808))))), none⟩, ⟨(some 9), (.mv (.t 8)), none⟩, ⟨(some 10), (.mv (.t 1)), (some (9, true))⟩, ⟨(some 11), (.bin .eql (.t 10) (.c (.v (.int .i64 (-1))))), (some (9, true))⟩, ⟨(some 12), (.pick (.t 9) (.t 11) (.c (.v (.bool false)))), none⟩]) (.cond (.t 12) 
  (.seq (.reg [] [⟨(some 4), (.mv (.c (.v (.int .i64 9223372036854775807)))), none⟩]) .ret) .skip)) 
  (.seq (.reg [] [⟨(some 13), (.mv (.t 0)), none⟩, ⟨(some 14), (.mv (.t 1)), none⟩, ⟨(some 15), (.bin .quo (.t 13) (.t 14)), none⟩, ⟨(some 5), (.mv (.t 15)), none⟩]) 
  (.seq (.reg [] [⟨(some 16), (.mv (.t 0)), none⟩, ⟨(some 17), (.mv (.t 5)), none⟩, ⟨(some 18), (.mv (.t 1)), none⟩, ⟨(some 19), (.bin .mul (.t 17) (.t 18)), none⟩, ⟨(some 20), (.bin .sub (.t 16) (.t 19)), none⟩, ⟨(some 6), (.mv (.t 20)), none⟩]) 
  (.seq 
  (.seq (.reg [] [⟨(some 21), (.mv (.t 6)), none⟩, ⟨(some 22), (.bin .lss (.t 21) (.c (.v (.int .i64 0)))), none⟩, ⟨(some 23), (.mv (.t 22)), none⟩, ⟨(some 24), (.mv (.t 1)), (some (23, true))⟩, ⟨(some 25), (.bin .gtr (.t 24) (.c (.v (.int .i64 0)))), (some (23, true))⟩, ⟨(some 26), (.pick (.t 23) (.t 25) (.c (.v (.bool false)))), none⟩, ⟨(some 27), (.mv (.t 26)), none⟩, ⟨(some 28), (.mv (.t 6)), (some (27, false))⟩, ⟨(some 29), (.bin .gtr (.t 28) (.c (.v (.int .i64 0)))), (some (27, false))⟩, ⟨(some 30), (.mv (.t 29)), (some (27, false))⟩, ⟨(some 31), (.mv (.t 1)), (some (30, true))⟩, ⟨(some 32), (.bin .lss (.t 31) (.c (.v (.int .i64 0)))), (some (30, true))⟩, ⟨(some 33), (.pick (.t 30) (.t 32) (.c (.v (.bool false)))), (some (27, false))⟩, ⟨(some 34), (.pick (.t 27) (.c (.v (.bool true))) (.t 33)), none⟩]) (.cond (.t 34) 
  (.seq (.reg [] [⟨(some 35), (.mv (.t 5)), none⟩, ⟨(some 36), (.bin .sub (.t 35) (.c (.v (.int .i64 1)))), none⟩, ⟨(some 4), (.mv (.t 36)), none⟩]) .ret) .skip)) 
  (.seq (.reg [] [⟨(some 37), (.mv (.t 5)), none⟩, ⟨(some 4), (.mv (.t 37)), none⟩]) .ret)))))), [(.t 4)]⟩

def c30 : MF := ⟨3, 32, 
  (.seq (.reg [] [⟨(some 3), (.box (.t 0)), none⟩, ⟨(some 4), (.box (.t 1)), none⟩, ⟨(some 6), (.box (.c (.agg [(.v (.int .i64 0)), (.v (.int .i64 0)), (.v (.int .i64 0)), (.v (.int .i64 0))]))), none⟩]) 
  (.seq (.reg [⟨(some 7), (.mv (.t 2)), none⟩, ⟨(some 8), (.fa (.t 3) 0), none⟩, ⟨(some 9), (.ld (.t 8) none), none⟩, ⟨(some 10), (.fa (.t 4) 0), none⟩, ⟨(some 11), (.ld (.t 10) none), none⟩, ⟨(some 12), (.call (.t 7) [(.t 9), (.t 11)]), none⟩, ⟨(some 13), (.mv (.t 2)), none⟩, ⟨(some 14), (.fa (.t 3) 1), none⟩, ⟨(some 15), (.ld (.t 14) none), none⟩, ⟨(some 16), (.fa (.t 4) 1), none⟩, ⟨(some 17), (.ld (.t 16) none), none⟩, ⟨(some 18), (.call (.t 13) [(.t 15), (.t 17)]), none⟩, ⟨(some 19), (.mv (.t 2)), none⟩, ⟨(some 20), (.fa (.t 3) 2), none⟩, ⟨(some 21), (.ld (.t 20) none), none⟩, ⟨(some 22), (.fa (.t 4) 2), none⟩, ⟨(some 23), (.ld (.t 22) none), none⟩, ⟨(some 24), (.call (.t 19) [(.t 21), (.t 23)]), none⟩, ⟨(some 25), (.mv (.t 2)), none⟩, ⟨(some 26), (.fa (.t 3) 3), none⟩, ⟨(some 27), (.ld (.t 26) none), none⟩, ⟨(some 28), (.fa (.t 4) 3), none⟩, ⟨(some 29), (.ld (.t 28) none), none⟩] [⟨(some 30), (.call (.t 25) [(.t 27), (.t 29)]), none⟩, ⟨(some 31), (.bld [(.v (.int .i64 0)), (.v (.int .i64 0)), (.v (.int .i64 0)), (.v (.int .i64 0))] [(0, (1, (.t 12))), (1, (1, (.t 18))), (2, (1, (.t 24))), (3, (1, (.t 30)))]), none⟩, ⟨none, (.st (.t 6) (.t 31) 4), none⟩]) .ret)), [(.cell 6 (some 4))]⟩

def c31 : MF := ⟨2, 7, 
  (.seq (.reg [] [⟨(some 4), (.mv (.c (.v (.int .i64 0)))), none⟩]) 
  (.seq (.reg [] [⟨(some 5), (.mv (.t 0)), none⟩, ⟨(some 6), (.call (.c (.f 20 [])) [(.t 5), (.c (.v (.int .i64 0))), (.c (.v (.int .i64 255)))]), none⟩, ⟨(some 4), (.mv (.t 6)), none⟩]) .ret)), [(.t 4)]⟩

theorem ok3 : cF Try.prog 3 = some c3 := by kernel_rfl
theorem ok4 : cF Try.prog 4 = some c4 := by kernel_rfl
theorem ok5 : cF Try.prog 5 = some c5 := by kernel_rfl
theorem ok6 : cF Try.prog 6 = some c6 := by kernel_rfl
theorem ok7 : cF Try.prog 7 = some c7 := by kernel_rfl
theorem ok8 : cF Try.prog 8 = some c8 := by kernel_rfl
theorem ok9 : cF Try.prog 9 = some c9 := by kernel_rfl
theorem ok10 : cF Try.prog 10 = some c10 := by kernel_rfl
theorem ok11 : cF Try.prog 11 = some c11 := by kernel_rfl
theorem ok12 : cF Try.prog 12 = some c12 := by kernel_rfl
theorem ok13 : cF Try.prog 13 = some c13 := by kernel_rfl
theorem ok14 : cF Try.prog 14 = some c14 := by kernel_rfl
theorem ok15 : cF Try.prog 15 = some c15 := by kernel_rfl
theorem ok16 : cF Try.prog 16 = some c16 := by kernel_rfl
theorem ok17 : cF Try.prog 17 = some c17 := by kernel_rfl
theorem ok18 : cF Try.prog 18 = some c18 := by kernel_rfl
theorem ok19 : cF Try.prog 19 = some c19 := by kernel_rfl
theorem ok20 : cF Try.prog 20 = some c20 := by kernel_rfl
theorem ok21 : cF Try.prog 21 = some c21 := by kernel_rfl
theorem ok22 : cF Try.prog 22 = some c22 := by kernel_rfl
theorem ok23 : cF Try.prog 23 = some c23 := by kernel_rfl
theorem ok24 : cF Try.prog 24 = some c24 := by kernel_rfl
theorem ok25 : cF Try.prog 25 = some c25 := by kernel_rfl
theorem ok26 : cF Try.prog 26 = some c26 := by kernel_rfl
theorem ok27 : cF Try.prog 27 = some c27 := by kernel_rfl
theorem ok28 : cF Try.prog 28 = some c28 := by kernel_rfl
theorem ok29 : cF Try.prog 29 = some c29 := by kernel_rfl
theorem ok30 : cF Try.prog 30 = some c30 := by kernel_rfl
theorem ok31 : cF Try.prog 31 = some c31 := by kernel_rfl

def cmL : List (Nat × MF) := [(3, c3), (4, c4), (5, c5), (6, c6), (7, c7), (8, c8), (9, c9), (10, c10), (11, c11), (12, c12), (13, c13), (14, c14), (15, c15), (16, c16), (17, c17), (18, c18), (19, c19), (20, c20), (21, c21), (22, c22), (23, c23), (24, c24), (25, c25), (26, c26), (27, c27), (28, c28), (29, c29), (30, c30), (31, c31)]

def cm : FuncId → Option MF := look cmL

theorem hcm : ∀ g m, cm g = some m → cF Try.prog g = some m := look_ok ⟨ok3, ok4, ok5, ok6, ok7, ok8, ok9, ok10, ok11, ok12, ok13, ok14, ok15, ok16, ok17, ok18, ok19, ok20, ok21, ok22, ok23, ok24, ok25, ok26, ok27, ok28, ok29, ok30, ok31, trivial⟩

theorem cm3 (k : Nat) (args : List LV) (h : List Row) (lim : Nat) : evF cm (k + 1) 3 args h lim = runF (evF cm k) k lim c3 args h := rfl
theorem cm4 (k : Nat) (args : List LV) (h : List Row) (lim : Nat) : evF cm (k + 1) 4 args h lim = runF (evF cm k) k lim c4 args h := rfl
theorem cm5 (k : Nat) (args : List LV) (h : List Row) (lim : Nat) : evF cm (k + 1) 5 args h lim = runF (evF cm k) k lim c5 args h := rfl
theorem cm6 (k : Nat) (args : List LV) (h : List Row) (lim : Nat) : evF cm (k + 1) 6 args h lim = runF (evF cm k) k lim c6 args h := rfl
theorem cm7 (k : Nat) (args : List LV) (h : List Row) (lim : Nat) : evF cm (k + 1) 7 args h lim = runF (evF cm k) k lim c7 args h := rfl
theorem cm8 (k : Nat) (args : List LV) (h : List Row) (lim : Nat) : evF cm (k + 1) 8 args h lim = runF (evF cm k) k lim c8 args h := rfl
theorem cm9 (k : Nat) (args : List LV) (h : List Row) (lim : Nat) : evF cm (k + 1) 9 args h lim = runF (evF cm k) k lim c9 args h := rfl
theorem cm10 (k : Nat) (args : List LV) (h : List Row) (lim : Nat) : evF cm (k + 1) 10 args h lim = runF (evF cm k) k lim c10 args h := rfl
theorem cm11 (k : Nat) (args : List LV) (h : List Row) (lim : Nat) : evF cm (k + 1) 11 args h lim = runF (evF cm k) k lim c11 args h := rfl
theorem cm12 (k : Nat) (args : List LV) (h : List Row) (lim : Nat) : evF cm (k + 1) 12 args h lim = runF (evF cm k) k lim c12 args h := rfl
theorem cm13 (k : Nat) (args : List LV) (h : List Row) (lim : Nat) : evF cm (k + 1) 13 args h lim = runF (evF cm k) k lim c13 args h := rfl
theorem cm14 (k : Nat) (args : List LV) (h : List Row) (lim : Nat) : evF cm (k + 1) 14 args h lim = runF (evF cm k) k lim c14 args h := rfl
theorem cm15 (k : Nat) (args : List LV) (h : List Row) (lim : Nat) : evF cm (k + 1) 15 args h lim = runF (evF cm k) k lim c15 args h := rfl
theorem cm16 (k : Nat) (args : List LV) (h : List Row) (lim : Nat) : evF cm (k + 1) 16 args h lim = runF (evF cm k) k lim c16 args h := rfl
theorem cm17 (k : Nat) (args : List LV) (h : List Row) (lim : Nat) : evF cm (k + 1) 17 args h lim = runF (evF cm k) k lim c17 args h := rfl
theorem cm18 (k : Nat) (args : List LV) (h : List Row) (lim : Nat) : evF cm (k + 1) 18 args h lim = runF (evF cm k) k lim c18 args h := rfl
theorem cm19 (k : Nat) (args : List LV) (h : List Row) (lim : Nat) : evF cm (k + 1) 19 args h lim = runF (evF cm k) k lim c19 args h := rfl
theorem cm20 (k : Nat) (args : List LV) (h : List Row) (lim : Nat) : evF cm (k + 1) 20 args h lim = runF (evF cm k) k lim c20 args h := rfl
theorem cm21 (k : Nat) (args : List LV) (h : List Row) (lim : Nat) : evF cm (k + 1) 21 args h lim = runF (evF cm k) k lim c21 args h := rfl
theorem cm22 (k : Nat) (args : List LV) (h : List Row) (lim : Nat) : evF cm (k + 1) 22 args h lim = runF (evF cm k) k lim c22 args h := rfl
theorem cm23 (k : Nat) (args : List LV) (h : List Row) (lim : Nat) : evF cm (k + 1) 23 args h lim = runF (evF cm k) k lim c23 args h := rfl
theorem cm24 (k : Nat) (args : List LV) (h : List Row) (lim : Nat) : evF cm (k + 1) 24 args h lim = runF (evF cm k) k lim c24 args h := rfl
theorem cm25 (k : Nat) (args : List LV) (h : List Row) (lim : Nat) : evF cm (k + 1) 25 args h lim = runF (evF cm k) k lim c25 args h := rfl
theorem cm26 (k : Nat) (args : List LV) (h : List Row) (lim : Nat) : evF cm (k + 1) 26 args h lim = runF (evF cm k) k lim c26 args h := rfl
theorem cm27 (k : Nat) (args : List LV) (h : List Row) (lim : Nat) : evF cm (k + 1) 27 args h lim = runF (evF cm k) k lim c27 args h := rfl
theorem cm28 (k : Nat) (args : List LV) (h : List Row) (lim : Nat) : evF cm (k + 1) 28 args h lim = runF (evF cm k) k lim c28 args h := rfl
theorem cm29 (k : Nat) (args : List LV) (h : List Row) (lim : Nat) : evF cm (k + 1) 29 args h lim = runF (evF cm k) k lim c29 args h := rfl
theorem cm30 (k : Nat) (args : List LV) (h : List Row) (lim : Nat) : evF cm (k + 1) 30 args h lim = runF (evF cm k) k lim c30 args h := rfl
theorem cm31 (k : Nat) (args : List LV) (h : List Row) (lim : Nat) : evF cm (k + 1) 31 args h lim = runF (evF cm k) k lim c31 args h := rfl
end Go.Proofs.Ytmgbeecleiknfaa
