/- The resolved code of the functions that are reached, as a program of ours has printed it; each is checked against the given program. -/
import Derived.KernelRfl
import Derived.Test.YtmadcmmkbngemaaEng20
import Derived.Test.YtmadcmmkbngemaaProg
namespace Go.Proofs.Ytmadcmmkbngemaa
open Go

def c3 : MF := ⟨3, 101, 
  (.seq (.reg [] [⟨(some 6), (.mv (.c (.v (.bool false)))), none⟩]) 
  (.seq 
  (.seq (.reg [] [⟨(some 12), (.mv (.t 0)), none⟩, ⟨(some 13), (.bin .lss (.t 12) (.c (.v (.int .i64 0)))), none⟩, ⟨(some 14), (.mv (.t 13)), none⟩, ⟨(some 15), (.mv (.t 0)), (some (14, false))⟩, ⟨(some 16), (.bin .gtr (.t 15) (.c (.v (.int .i64 4)))), (some (14, false))⟩, ⟨(some 17), (.pick (.t 14) (.c (.v (.bool true))) (.t 16)), none⟩]) (.cond (.t 17) 
  (.seq (.reg [] [⟨(some 18), (.call (.c (.f 6 [])) []), none⟩, ⟨(some 6), (.mv (.t 18)), none⟩]) .ret) .skip)) 
  (.seq (.reg [] [⟨(some 19), (.bld [(.v (.int .i64 0)), (.v (.int .i64 0)), (.v (.int .i64 0)), (.v (.int .i64 0)), (.v (.int .i64 0)), (.v (.int .i64 0))] [(4, (1, (.c (.v (.int .i64 7))))), (5, (1, (.c (.v (.int .i64 2)))))]), none⟩, ⟨(some 7), (.box (.c (.agg [(.v (.int .i64 0)), (.v (.int .i64 0)), (.v (.int .i64 0)), (.v (.int .i64 0)), (.v (.int .i64 0)), (.v (.int .i64 0))]))), none⟩, ⟨none, (.st (.t 7) (.t 19) 6), none⟩]) 
  (.seq (.reg [⟨(some 21), (.mv (.t 0)), none⟩, ⟨(some 22), (.mv (.t 1)), none⟩, ⟨(some 23), (.call (.c (.f 8 [])) [(.t 21), (.t 22)]), none⟩, ⟨(some 24), (.ifc 31 (.t 23)), none⟩, ⟨(some 25), (.ld (.t 7) (some 6)), none⟩, ⟨(some 26), (.bld [(.v (.int .i64 0)), (.v (.int .i64 0)), (.v (.int .i64 0)), (.v (.int .i64 0)), (.v (.int .i64 0))] []), none⟩, ⟨(some 27), (.mv (.t 2)), none⟩, ⟨(some 28), (.call (.c (.f 7 [])) [(.t 24), (.t 25), (.t 26), (.t 27)]), none⟩, ⟨(some 20), (.mv (.t 28)), none⟩, ⟨(some 29), (.ext (.t 20) 0), none⟩, ⟨(some 30), (.ext (.t 20) 1), none⟩, ⟨(some 8), (.mv (.c .bad)), none⟩, ⟨none, (.bld [(.v (.tuple #[])), (.v (.tuple #[])), (.v (.tuple #[])), (.v (.tuple #[])), (.v (.tuple #[])), (.v (.tuple #[]))] [(0, (6, (.t 29)))]), none⟩] [⟨(some 8), (.box (.t 29)), none⟩, ⟨none, (.fa (.t 8) 0), none⟩, ⟨(some 9), (.mv (.t 30)), none⟩]) 
  (.seq 
  (.seq (.reg [] [⟨(some 31), (.mv (.t 2)), none⟩, ⟨(some 32), (.bin .lss (.t 31) (.c (.v (.int .i64 0)))), none⟩, ⟨(some 33), (.mv (.t 32)), none⟩, ⟨(some 34), (.mv (.t 2)), (some (33, false))⟩, ⟨(some 35), (.bin .gtr (.t 34) (.c (.v (.int .i64 100)))), (some (33, false))⟩, ⟨(some 36), (.pick (.t 33) (.c (.v (.bool true))) (.t 35)), none⟩]) (.cond (.t 36) 
  (.seq (.reg [] [⟨(some 37), (.ld (.t 8) (some 6)), none⟩, ⟨(some 38), (.bld [(.v (.int .i64 0)), (.v (.int .i64 0)), (.v (.int .i64 0)), (.v (.int .i64 0)), (.v (.int .i64 0)), (.v (.int .i64 0))] []), none⟩, ⟨(some 39), (.eqv false true [.i, .i, .i, .i, .i, .i] (.t 37) (.t 38)), none⟩, ⟨(some 40), (.mv (.t 39)), none⟩, ⟨(some 41), (.mv (.t 9)), (some (40, true))⟩, ⟨(some 42), (.bin .eql (.t 41) (.c (.v (.int .i64 2)))), (some (40, true))⟩, ⟨(some 43), (.pick (.t 40) (.t 42) (.c (.v (.bool false)))), none⟩, ⟨(some 44), (.mv (.t 43)), none⟩, ⟨(some 45), (.call (.c (.f 6 [])) []), (some (44, true))⟩, ⟨(some 46), (.pick (.t 44) (.t 45) (.c (.v (.bool false)))), none⟩, ⟨(some 6), (.mv (.t 46)), none⟩]) .ret) .skip)) 
  (.seq 
  (.seq (.reg [] [⟨(some 47), (.mv (.t 2)), none⟩, ⟨(some 48), (.bin .eql (.t 47) (.c (.v (.int .i64 0)))), none⟩]) (.cond (.t 48) 
  (.seq (.reg [] [⟨(some 49), (.ld (.t 8) (some 6)), none⟩, ⟨(some 50), (.ld (.t 7) (some 6)), none⟩, ⟨(some 51), (.eqv false true [.i, .i, .i, .i, .i, .i] (.t 49) (.t 50)), none⟩, ⟨(some 52), (.mv (.t 51)), none⟩, ⟨(some 53), (.mv (.t 9)), (some (52, true))⟩, ⟨(some 54), (.bin .eql (.t 53) (.c (.v (.int .i64 0)))), (some (52, true))⟩, ⟨(some 55), (.pick (.t 52) (.t 54) (.c (.v (.bool false)))), none⟩, ⟨(some 56), (.mv (.t 55)), none⟩, ⟨(some 57), (.call (.c (.f 6 [])) []), (some (56, true))⟩, ⟨(some 58), (.pick (.t 56) (.t 57) (.c (.v (.bool false)))), none⟩, ⟨(some 6), (.mv (.t 58)), none⟩]) .ret) .skip)) 
  (.seq (.reg [] [⟨(some 60), (.mv (.t 0)), none⟩, ⟨(some 61), (.mv (.t 1)), none⟩, ⟨(some 62), (.ld (.t 7) (some 6)), none⟩, ⟨(some 63), (.call (.c (.f 9 [])) [(.t 60), (.t 61), (.t 62)]), none⟩, ⟨(some 59), (.mv (.t 63)), none⟩, ⟨(some 64), (.ext (.t 59) 0), none⟩, ⟨(some 65), (.ext (.t 59) 1), none⟩, ⟨(some 10), (.box (.c (.agg [(.v (.int .i64 0)), (.v (.int .i64 0)), (.v (.int .i64 0)), (.v (.int .i64 0)), (.v (.int .i64 0)), (.v (.int .i64 0))]))), none⟩, ⟨none, (.st (.t 10) (.t 64) 6), none⟩, ⟨(some 11), (.mv (.t 65)), none⟩]) 
  (.seq 
  (.seq (.reg [] [⟨(some 66), (.mv (.t 11)), none⟩, ⟨(some 67), (.un .not (.t 66)), none⟩]) (.cond (.t 67) 
  (.seq (.reg [] [⟨(some 68), (.ld (.t 8) (some 6)), none⟩, ⟨(some 69), (.bld [(.v (.int .i64 0)), (.v (.int .i64 0)), (.v (.int .i64 0)), (.v (.int .i64 0)), (.v (.int .i64 0)), (.v (.int .i64 0))] []), none⟩, ⟨(some 70), (.eqv false true [.i, .i, .i, .i, .i, .i] (.t 68) (.t 69)), none⟩, ⟨(some 71), (.mv (.t 70)), none⟩, ⟨(some 72), (.mv (.t 9)), (some (71, true))⟩, ⟨(some 73), (.bin .eql (.t 72) (.c (.v (.int .i64 14)))), (some (71, true))⟩, ⟨(some 74), (.pick (.t 71) (.t 73) (.c (.v (.bool false)))), none⟩, ⟨(some 75), (.mv (.t 74)), none⟩, ⟨(some 76), (.call (.c (.f 6 [])) []), (some (75, true))⟩, ⟨(some 77), (.pick (.t 75) (.t 76) (.c (.v (.bool false)))), none⟩, ⟨(some 6), (.mv (.t 77)), none⟩]) .ret) .skip)) 
  (.seq 
  (.seq (.reg [] [⟨(some 78), (.ld (.t 10) (some 6)), none⟩, ⟨(some 79), (.call (.c (.f 10 [])) [(.t 78)]), none⟩, ⟨(some 80), (.un .not (.t 79)), none⟩]) (.cond (.t 80) 
  (.seq (.reg [] [⟨(some 81), (.ld (.t 8) (some 6)), none⟩, ⟨(some 82), (.bld [(.v (.int .i64 0)), (.v (.int .i64 0)), (.v (.int .i64 0)), (.v (.int .i64 0)), (.v (.int .i64 0)), (.v (.int .i64 0))] []), none⟩, ⟨(some 83), (.eqv false true [.i, .i, .i, .i, .i, .i] (.t 81) (.t 82)), none⟩, ⟨(some 84), (.mv (.t 83)), none⟩, ⟨(some 85), (.mv (.t 9)), (some (84, true))⟩, ⟨(some 86), (.bin .eql (.t 85) (.c (.v (.int .i64 3)))), (some (84, true))⟩, ⟨(some 87), (.pick (.t 84) (.t 86) (.c (.v (.bool false)))), none⟩, ⟨(some 88), (.mv (.t 87)), none⟩, ⟨(some 89), (.call (.c (.f 6 [])) []), (some (88, true))⟩, ⟨(some 90), (.pick (.t 88) (.t 89) (.c (.v (.bool false)))), none⟩, ⟨(some 6), (.mv (.t 90)), none⟩]) .ret) .skip)) 
  (.seq (.reg [] [⟨(some 91), (.ld (.t 8) (some 6)), none⟩, ⟨(some 92), (.ld (.t 10) (some 6)), none⟩, ⟨(some 93), (.eqv false true [.i, .i, .i, .i, .i, .i] (.t 91) (.t 92)), none⟩, ⟨(some 94), (.mv (.t 93)), none⟩, ⟨(some 95), (.mv (.t 9)), (some (94, true))⟩, ⟨(some 96), (.bin .eql (.t 95) (.c (.v (.int .i64 0)))), (some (94, true))⟩, ⟨(some 97), (.pick (.t 94) (.t 96) (.c (.v (.bool false)))), none⟩, ⟨(some 98), (.mv (.t 97)), none⟩, ⟨(some 99), (.call (.c (.f 6 [])) []), (some (98, true))⟩, ⟨(some 100), (.pick (.t 98) (.t 99) (.c (.v (.bool false)))), none⟩, ⟨(some 6), (.mv (.t 100)), none⟩]) .ret)))))))))), [(.t 6)]⟩

def c4 : MF := ⟨3, 86, 
  (.seq (.reg [] [⟨(some 5), (.box (.t 2)), none⟩, ⟨(some 6), (.mv (.c (.v (.bool false)))), none⟩]) 
  (.seq 
  (.seq (.reg [] [⟨(some 11), (.mv (.t 0)), none⟩, ⟨(some 12), (.bin .lss (.t 11) (.c (.v (.int .i64 0)))), none⟩, ⟨(some 13), (.mv (.t 12)), none⟩, ⟨(some 14), (.mv (.t 0)), (some (13, false))⟩, ⟨(some 15), (.bin .gtr (.t 14) (.c (.v (.int .i64 4)))), (some (13, false))⟩, ⟨(some 16), (.pick (.t 13) (.c (.v (.bool true))) (.t 15)), none⟩]) (.cond (.t 16) 
  (.seq (.reg [] [⟨(some 17), (.call (.c (.f 6 [])) []), none⟩, ⟨(some 6), (.mv (.t 17)), none⟩]) .ret) .skip)) 
  (.seq (.reg [⟨(some 19), (.mv (.t 0)), none⟩, ⟨(some 20), (.mv (.t 1)), none⟩, ⟨(some 21), (.call (.c (.f 8 [])) [(.t 19), (.t 20)]), none⟩, ⟨(some 22), (.ifc 31 (.t 21)), none⟩, ⟨(some 23), (.ld (.t 5) (some 6)), none⟩, ⟨(some 24), (.bld [(.v (.int .i64 0)), (.v (.int .i64 0)), (.v (.int .i64 0)), (.v (.int .i64 0)), (.v (.int .i64 0))] []), none⟩, ⟨(some 25), (.call (.c (.f 11 [])) [(.t 22), (.t 23), (.t 24)]), none⟩, ⟨(some 18), (.mv (.t 25)), none⟩, ⟨(some 26), (.ext (.t 18) 0), none⟩, ⟨(some 27), (.ext (.t 18) 1), none⟩, ⟨(some 7), (.mv (.c .bad)), none⟩, ⟨none, (.bld [(.v (.tuple #[])), (.v (.tuple #[])), (.v (.tuple #[])), (.v (.tuple #[])), (.v (.tuple #[])), (.v (.tuple #[]))] [(0, (6, (.t 26)))]), none⟩] [⟨(some 7), (.box (.t 26)), none⟩, ⟨none, (.fa (.t 7) 0), none⟩, ⟨(some 8), (.mv (.t 27)), none⟩]) 
  (.seq (.reg [] [⟨(some 29), (.mv (.t 0)), none⟩, ⟨(some 30), (.mv (.t 1)), none⟩, ⟨(some 31), (.ld (.t 5) (some 6)), none⟩, ⟨(some 32), (.call (.c (.f 9 [])) [(.t 29), (.t 30), (.t 31)]), none⟩, ⟨(some 28), (.mv (.t 32)), none⟩, ⟨(some 33), (.ext (.t 28) 0), none⟩, ⟨(some 34), (.ext (.t 28) 1), none⟩, ⟨(some 9), (.box (.c (.agg [(.v (.int .i64 0)), (.v (.int .i64 0)), (.v (.int .i64 0)), (.v (.int .i64 0)), (.v (.int .i64 0)), (.v (.int .i64 0))]))), none⟩, ⟨none, (.st (.t 9) (.t 33) 6), none⟩, ⟨(some 10), (.mv (.t 34)), none⟩]) 
  (.seq 
  (.seq (.alt (.regM [(.p, ⟨(some 35), (.mv (.t 10)), none⟩), (.p, ⟨(some 36), (.mv (.t 35)), none⟩), (.p, ⟨(some 37), (.mv (.t 0)), (some (36, true))⟩), (.p, ⟨(some 38), (.mv (.t 1)), (some (36, true))⟩), ((.r [0, 1, 2, 3]), ⟨(some 39), (.call (.c (.f 8 [])) [(.t 37), (.t 38)]), (some (36, true))⟩), (.p, ⟨(some 40), (.ld (.t 5) (some 6)), (some (36, true))⟩), (.p, ⟨(some 41), (.bld [(.v (.int .i64 0)), (.v (.int .i64 0)), (.v (.int .i64 0)), (.v (.int .i64 0)), (.v (.int .i64 0))] []), (some (36, true))⟩), ((.r [0, 1, 2, 3, 4, 5, 6]), ⟨(some 42), (.call (.c (.f 13 [])) [(.t 39), (.t 40), (.t 41)]), (some (36, true))⟩), (.p, ⟨(some 43), (.bsl [(.v .nilIface)] 1 [(0, (1, (.t 42)))]), (some (36, true))⟩), ((.r [0, 1, 2, 3, 4, 5, 6, 7, 8]), ⟨(some 44), (.call (.c (.f 12 [])) [(.t 43)]), (some (36, true))⟩), (.p, ⟨(some 45), (.mv (.t 0)), (some (36, true))⟩), (.p, ⟨(some 46), (.mv (.t 0)), (some (36, true))⟩), (.p, ⟨(some 47), (.bin .add (.t 46) (.c (.v (.int .i64 1)))), (some (36, true))⟩), (.p, ⟨(some 48), (.sst (.c (.v (.string ⟨#[112, 99, 110]⟩))) (.t 45) (.t 47)), (some (36, true))⟩)] [⟨(some 49), (.eqv true false [.s] (.t 44) (.t 48)), (some (36, true))⟩, ⟨(some 50), (.pick (.t 36) (.t 49) (.c (.v (.bool false)))), none⟩]) (.reg [⟨(some 35), (.mv (.t 10)), none⟩, ⟨(some 36), (.mv (.t 35)), none⟩, ⟨(some 37), (.mv (.t 0)), (some (36, true))⟩, ⟨(some 38), (.mv (.t 1)), (some (36, true))⟩, ⟨(some 39), (.call (.c (.f 8 [])) [(.t 37), (.t 38)]), (some (36, true))⟩, ⟨(some 40), (.ld (.t 5) (some 6)), (some (36, true))⟩, ⟨(some 41), (.bld [(.v (.int .i64 0)), (.v (.int .i64 0)), (.v (.int .i64 0)), (.v (.int .i64 0)), (.v (.int .i64 0))] []), (some (36, true))⟩, ⟨(some 42), (.call (.c (.f 13 [])) [(.t 39), (.t 40), (.t 41)]), (some (36, true))⟩, ⟨(some 43), (.bsl [(.v .nilIface)] 1 [(0, (1, (.t 42)))]), (some (36, true))⟩, ⟨(some 44), (.call (.c (.f 12 [])) [(.t 43)]), (some (36, true))⟩, ⟨(some 45), (.mv (.t 0)), (some (36, true))⟩, ⟨(some 46), (.mv (.t 0)), (some (36, true))⟩, ⟨(some 47), (.bin .add (.t 46) (.c (.v (.int .i64 1)))), (some (36, true))⟩, ⟨(some 48), (.sst (.c (.v (.string ⟨#[112, 99, 110]⟩))) (.t 45) (.t 47)), (some (36, true))⟩] [⟨(some 49), (.eqv true false [.s] (.t 44) (.t 48)), (some (36, true))⟩, ⟨(some 50), (.pick (.t 36) (.t 49) (.c (.v (.bool false)))), none⟩])) (.cond (.t 50) 
  (.seq (.reg [] [⟨(some 6), (.mv (.c (.v (.bool false)))), none⟩]) .ret) .skip)) 
  (.seq 
  (.seq (.reg [] [⟨(some 51), (.mv (.t 10)), none⟩, ⟨(some 52), (.un .not (.t 51)), none⟩]) (.cond (.t 52) 
  (.seq (.reg [] [⟨(some 53), (.ld (.t 7) (some 6)), none⟩, ⟨(some 54), (.bld [(.v (.int .i64 0)), (.v (.int .i64 0)), (.v (.int .i64 0)), (.v (.int .i64 0)), (.v (.int .i64 0)), (.v (.int .i64 0))] []), none⟩, ⟨(some 55), (.eqv false true [.i, .i, .i, .i, .i, .i] (.t 53) (.t 54)), none⟩, ⟨(some 56), (.mv (.t 55)), none⟩, ⟨(some 57), (.mv (.t 8)), (some (56, true))⟩, ⟨(some 58), (.bin .eql (.t 57) (.c (.v (.int .i64 14)))), (some (56, true))⟩, ⟨(some 59), (.pick (.t 56) (.t 58) (.c (.v (.bool false)))), none⟩, ⟨(some 60), (.mv (.t 59)), none⟩, ⟨(some 61), (.call (.c (.f 6 [])) []), (some (60, true))⟩, ⟨(some 62), (.pick (.t 60) (.t 61) (.c (.v (.bool false)))), none⟩, ⟨(some 6), (.mv (.t 62)), none⟩]) .ret) .skip)) 
  (.seq 
  (.seq (.reg [] [⟨(some 63), (.ld (.t 9) (some 6)), none⟩, ⟨(some 64), (.call (.c (.f 10 [])) [(.t 63)]), none⟩, ⟨(some 65), (.un .not (.t 64)), none⟩]) (.cond (.t 65) 
  (.seq (.reg [] [⟨(some 66), (.ld (.t 7) (some 6)), none⟩, ⟨(some 67), (.bld [(.v (.int .i64 0)), (.v (.int .i64 0)), (.v (.int .i64 0)), (.v (.int .i64 0)), (.v (.int .i64 0)), (.v (.int .i64 0))] []), none⟩, ⟨(some 68), (.eqv false true [.i, .i, .i, .i, .i, .i] (.t 66) (.t 67)), none⟩, ⟨(some 69), (.mv (.t 68)), none⟩, ⟨(some 70), (.mv (.t 8)), (some (69, true))⟩, ⟨(some 71), (.bin .eql (.t 70) (.c (.v (.int .i64 3)))), (some (69, true))⟩, ⟨(some 72), (.pick (.t 69) (.t 71) (.c (.v (.bool false)))), none⟩, ⟨(some 73), (.mv (.t 72)), none⟩, ⟨(some 74), (.call (.c (.f 6 [])) []), (some (73, true))⟩, ⟨(some 75), (.pick (.t 73) (.t 74) (.c (.v (.bool false)))), none⟩, ⟨(some 6), (.mv (.t 75)), none⟩]) .ret) .skip)) 
  (.seq (.reg [] [⟨(some 76), (.ld (.t 7) (some 6)), none⟩, ⟨(some 77), (.ld (.t 9) (some 6)), none⟩, ⟨(some 78), (.eqv false true [.i, .i, .i, .i, .i, .i] (.t 76) (.t 77)), none⟩, ⟨(some 79), (.mv (.t 78)), none⟩, ⟨(some 80), (.mv (.t 8)), (some (79, true))⟩, ⟨(some 81), (.bin .eql (.t 80) (.c (.v (.int .i64 0)))), (some (79, true))⟩, ⟨(some 82), (.pick (.t 79) (.t 81) (.c (.v (.bool false)))), none⟩, ⟨(some 83), (.mv (.t 82)), none⟩, ⟨(some 84), (.call (.c (.f 6 [])) []), (some (83, true))⟩, ⟨(some 85), (.pick (.t 83) (.t 84) (.c (.v (.bool false)))), none⟩, ⟨(some 6), (.mv (.t 85)), none⟩]) .ret)))))))), [(.t 6)]⟩

def c5 : MF := ⟨3, 45, 
  (.seq (.reg [] [⟨(some 3), (.box (.t 0)), none⟩, ⟨(some 6), (.mv (.c (.v (.bool false)))), none⟩]) 
  (.seq (.reg [] [⟨(some 10), (.fa (.t 3) 0), none⟩, ⟨(some 11), (.ld (.t 10) (some 4)), none⟩, ⟨(some 7), (.box (.c (.agg [(.v (.int .i64 0)), (.v (.int .i64 0)), (.v (.int .i64 0)), (.v (.int .i64 0))]))), none⟩, ⟨none, (.st (.t 7) (.t 11) 4), none⟩]) 
  (.seq (.reg [] [⟨(some 13), (.ld (.t 3) (some 6)), none⟩, ⟨(some 14), (.bld [(.v (.int .i64 0)), (.v (.int .i64 0)), (.v (.int .i64 0)), (.v (.int .i64 0)), (.v (.int .i64 0))] []), none⟩, ⟨(some 15), (.call (.c (.f 11 [])) [(.c (.v .nilIface)), (.t 13), (.t 14)]), none⟩, ⟨(some 12), (.mv (.t 15)), none⟩, ⟨(some 16), (.ext (.t 12) 0), none⟩, ⟨(some 17), (.ext (.t 12) 1), none⟩, ⟨(some 8), (.box (.c (.agg [(.v (.int .i64 0)), (.v (.int .i64 0)), (.v (.int .i64 0)), (.v (.int .i64 0)), (.v (.int .i64 0)), (.v (.int .i64 0))]))), none⟩, ⟨none, (.st (.t 8) (.t 16) 6), none⟩, ⟨(some 9), (.mv (.t 17)), none⟩]) 
  (.seq (.reg [] [⟨(some 18), (.ld (.t 8) (some 6)), none⟩, ⟨(some 19), (.bld [(.v (.int .i64 0)), (.v (.int .i64 0)), (.v (.int .i64 0)), (.v (.int .i64 0)), (.v (.int .i64 0)), (.v (.int .i64 0))] []), none⟩, ⟨(some 20), (.eqv false true [.i, .i, .i, .i, .i, .i] (.t 18) (.t 19)), none⟩, ⟨(some 21), (.mv (.t 20)), none⟩, ⟨(some 22), (.mv (.t 9)), (some (21, true))⟩, ⟨(some 23), (.bin .eql (.t 22) (.c (.v (.int .i64 1)))), (some (21, true))⟩, ⟨(some 24), (.pick (.t 21) (.t 23) (.c (.v (.bool false)))), none⟩, ⟨(some 25), (.mv (.t 24)), none⟩, ⟨(some 26), (.ld (.t 3) (some 6)), (some (25, true))⟩, ⟨(some 27), (.ifc 26 (.t 26)), (some (25, true))⟩, ⟨(some 28), (.ld (.t 7) (some 4)), (some (25, true))⟩, ⟨(some 29), (.ifc 24 (.t 28)), (some (25, true))⟩, ⟨(some 30), (.mv (.t 1)), (some (25, true))⟩, ⟨(some 31), (.ifc 3 (.t 30)), (some (25, true))⟩, ⟨(some 32), (.mv (.t 2)), (some (25, true))⟩, ⟨(some 33), (.ifc 9 (.t 32)), (some (25, true))⟩, ⟨(some 34), (.bsl [(.v .nilIface)] 5 [(0, (1, (.t 27))), (1, (1, (.t 29))), (2, (1, (.t 31))), (3, (1, (.t 33))), (4, (1, (.c (.v .nilIface))))]), (some (25, true))⟩, ⟨(some 35), (.call (.c (.f 12 [])) [(.t 34)]), (some (25, true))⟩, ⟨(some 36), (.eqv false false [.s] (.t 35) (.c (.v (.string ⟨#[112, 99, 110, 120, 120]⟩)))), (some (25, true))⟩, ⟨(some 37), (.pick (.t 25) (.t 36) (.c (.v (.bool false)))), none⟩, ⟨(some 38), (.mv (.t 37)), none⟩, ⟨(some 39), (.call (.c (.f 12 [])) [(.c (.v (.slice none 0 0)))]), (some (38, true))⟩, ⟨(some 40), (.eqv false false [.s] (.t 39) (.c (.v (.string ⟨#[]⟩)))), (some (38, true))⟩, ⟨(some 41), (.pick (.t 38) (.t 40) (.c (.v (.bool false)))), none⟩, ⟨(some 42), (.mv (.t 41)), none⟩, ⟨(some 43), (.call (.c (.f 6 [])) []), (some (42, true))⟩, ⟨(some 44), (.pick (.t 42) (.t 43) (.c (.v (.bool false)))), none⟩, ⟨(some 6), (.mv (.t 44)), none⟩]) .ret)))), [(.t 6)]⟩

def c6 : MF := ⟨0, 47, 
  (.seq (.reg [] [⟨(some 0), (.mv (.c (.v (.bool false)))), none⟩]) 
  (.seq (.reg [] [⟨(some 8), (.call (.c (.f 8 [])) [(.c (.v (.int .i64 1))), (.c (.v (.int .i64 9)))]), none⟩, ⟨(some 9), (.ifc 31 (.t 8)), none⟩, ⟨(some 10), (.bld [(.v (.int .i64 0)), (.v (.int .i64 0)), (.v (.int .i64 0)), (.v (.int .i64 0)), (.v (.int .i64 0)), (.v (.int .i64 0))] [(4, (1, (.c (.v (.int .i64 3)))))]), none⟩, ⟨(some 11), (.bld [(.v (.int .i64 0)), (.v (.int .i64 0)), (.v (.int .i64 0)), (.v (.int .i64 0)), (.v (.int .i64 0))] []), none⟩, ⟨(some 12), (.call (.c (.f 11 [])) [(.t 9), (.t 10), (.t 11)]), none⟩, ⟨(some 7), (.mv (.t 12)), none⟩, ⟨(some 13), (.ext (.t 7) 0), none⟩, ⟨(some 14), (.ext (.t 7) 1), none⟩, ⟨(some 1), (.box (.c (.agg [(.v (.int .i64 0)), (.v (.int .i64 0)), (.v (.int .i64 0)), (.v (.int .i64 0)), (.v (.int .i64 0)), (.v (.int .i64 0))]))), none⟩, ⟨none, (.st (.t 1) (.t 13) 6), none⟩, ⟨(some 2), (.mv (.t 14)), none⟩]) 
  (.seq (.reg [] [⟨(some 16), (.call (.c (.f 8 [])) [(.c (.v (.int .i64 3))), (.c (.v (.int .i64 0)))]), none⟩, ⟨(some 17), (.ifc 31 (.t 16)), none⟩, ⟨(some 18), (.bld [(.v (.int .i64 0)), (.v (.int .i64 0)), (.v (.int .i64 0)), (.v (.int .i64 0)), (.v (.int .i64 0)), (.v (.int .i64 0))] []), none⟩, ⟨(some 19), (.bld [(.v (.int .i64 0)), (.v (.int .i64 0)), (.v (.int .i64 0)), (.v (.int .i64 0)), (.v (.int .i64 0))] []), none⟩, ⟨(some 20), (.call (.c (.f 11 [])) [(.t 17), (.t 18), (.t 19)]), none⟩, ⟨(some 15), (.mv (.t 20)), none⟩, ⟨(some 21), (.ext (.t 15) 0), none⟩, ⟨(some 22), (.ext (.t 15) 1), none⟩, ⟨(some 3), (.box (.c (.agg [(.v (.int .i64 0)), (.v (.int .i64 0)), (.v (.int .i64 0)), (.v (.int .i64 0)), (.v (.int .i64 0)), (.v (.int .i64 0))]))), none⟩, ⟨none, (.st (.t 3) (.t 21) 6), none⟩, ⟨(some 4), (.mv (.t 22)), none⟩]) 
  (.seq (.reg [] [⟨(some 24), (.call (.c (.f 8 [])) [(.c (.v (.int .i64 4))), (.c (.v (.int .i64 0)))]), none⟩, ⟨(some 25), (.ifc 31 (.t 24)), none⟩, ⟨(some 26), (.bld [(.v (.int .i64 0)), (.v (.int .i64 0)), (.v (.int .i64 0)), (.v (.int .i64 0)), (.v (.int .i64 0)), (.v (.int .i64 0))] []), none⟩, ⟨(some 27), (.bld [(.v (.int .i64 0)), (.v (.int .i64 0)), (.v (.int .i64 0)), (.v (.int .i64 0)), (.v (.int .i64 0))] []), none⟩, ⟨(some 28), (.call (.c (.f 11 [])) [(.t 25), (.t 26), (.t 27)]), none⟩, ⟨(some 23), (.mv (.t 28)), none⟩, ⟨(some 29), (.ext (.t 23) 0), none⟩, ⟨(some 30), (.ext (.t 23) 1), none⟩, ⟨(some 5), (.box (.c (.agg [(.v (.int .i64 0)), (.v (.int .i64 0)), (.v (.int .i64 0)), (.v (.int .i64 0)), (.v (.int .i64 0)), (.v (.int .i64 0))]))), none⟩, ⟨none, (.st (.t 5) (.t 29) 6), none⟩, ⟨(some 6), (.mv (.t 30)), none⟩]) 
  (.seq (.reg [] [⟨(some 31), (.mv (.t 2)), none⟩, ⟨(some 32), (.bin .eql (.t 31) (.c (.v (.int .i64 0)))), none⟩, ⟨(some 33), (.mv (.t 32)), none⟩, ⟨(some 34), (.ld (.t 1) (some 6)), (some (33, true))⟩, ⟨(some 35), (.bld [(.v (.int .i64 0)), (.v (.int .i64 0)), (.v (.int .i64 0)), (.v (.int .i64 0))] [(0, (1, (.c (.v (.int .i64 9)))))]), (some (33, true))⟩, ⟨(some 36), (.bld [(.v (.int .i64 0)), (.v (.int .i64 0)), (.v (.int .i64 0)), (.v (.int .i64 0)), (.v (.int .i64 0)), (.v (.int .i64 0))] [(0, (4, (.t 35))), (4, (1, (.c (.v (.int .i64 3)))))]), (some (33, true))⟩, ⟨(some 37), (.eqv false true [.i, .i, .i, .i, .i, .i] (.t 34) (.t 36)), (some (33, true))⟩, ⟨(some 38), (.pick (.t 33) (.t 37) (.c (.v (.bool false)))), none⟩, ⟨(some 39), (.mv (.t 38)), none⟩, ⟨(some 40), (.mv (.t 4)), (some (39, true))⟩, ⟨(some 41), (.bin .eql (.t 40) (.c (.v (.int .i64 14)))), (some (39, true))⟩, ⟨(some 42), (.pick (.t 39) (.t 41) (.c (.v (.bool false)))), none⟩, ⟨(some 43), (.mv (.t 42)), none⟩, ⟨(some 44), (.mv (.t 6)), (some (43, true))⟩, ⟨(some 45), (.bin .eql (.t 44) (.c (.v (.int .i64 14)))), (some (43, true))⟩, ⟨(some 46), (.pick (.t 43) (.t 45) (.c (.v (.bool false)))), none⟩, ⟨(some 0), (.mv (.t 46)), none⟩]) .ret))))), [(.t 0)]⟩

def c7b0 : MC := 
  (.seq (.reg [] [⟨(some 21), (.bin .lss (.t 20) (.t 19)), none⟩]) 
  (.seq (.cond (.t 21) .skip (.exit 0)) 
  (.seq (.block 1 
  (.seq (.reg [] [⟨(some 23), (.mv (.t 0)), none⟩, ⟨(some 24), (.ld (.t 5) (some 6)), none⟩, ⟨(some 25), (.ld (.t 6) (some 5)), none⟩, ⟨(some 26), (.call (.c (.f 11 [])) [(.t 23), (.t 24), (.t 25)]), none⟩, ⟨(some 22), (.mv (.t 26)), none⟩, ⟨(some 27), (.ext (.t 22) 0), none⟩, ⟨(some 28), (.ext (.t 22) 1), none⟩, ⟨(some 10), (.box (.c (.agg [(.v (.int .i64 0)), (.v (.int .i64 0)), (.v (.int .i64 0)), (.v (.int .i64 0)), (.v (.int .i64 0)), (.v (.int .i64 0))]))), none⟩, ⟨none, (.st (.t 10) (.t 27) 6), none⟩, ⟨(some 11), (.mv (.t 28)), none⟩]) 
  (.seq 
  (.seq (.reg [] [⟨(some 29), (.mv (.t 11)), none⟩, ⟨(some 30), (.bin .neq (.t 29) (.c (.v (.int .i64 0)))), none⟩]) (.cond (.t 30) 
  (.seq (.reg [] [⟨(some 31), (.bld [(.v (.int .i64 0)), (.v (.int .i64 0)), (.v (.int .i64 0)), (.v (.int .i64 0)), (.v (.int .i64 0)), (.v (.int .i64 0))] []), none⟩, ⟨(some 32), (.mv (.t 11)), none⟩, ⟨none, (.st (.t 8) (.t 31) 6), none⟩, ⟨(some 9), (.mv (.t 32)), none⟩]) .ret) .skip)) (.reg [] [⟨(some 33), (.ld (.t 10) (some 6)), none⟩, ⟨none, (.st (.t 5) (.t 33) 6), none⟩])))) (.reg [] [⟨(some 34), (.bin .add (.t 20) (.c (.v (.int .i64 1)))), none⟩, ⟨(some 20), (.mv (.t 34)), none⟩]))))

def c7 : MF := ⟨4, 36, 
  (.seq (.reg [] [⟨(some 5), (.box (.t 1)), none⟩, ⟨(some 6), (.box (.t 2)), none⟩, ⟨(some 8), (.box (.c (.agg [(.v (.int .i64 0)), (.v (.int .i64 0)), (.v (.int .i64 0)), (.v (.int .i64 0)), (.v (.int .i64 0)), (.v (.int .i64 0))]))), none⟩, ⟨(some 9), (.mv (.c (.v (.int .i64 0)))), none⟩]) 
  (.seq 
  (.seq (.reg [] [⟨(some 12), (.mv (.t 3)), none⟩, ⟨(some 13), (.bin .lss (.t 12) (.c (.v (.int .i64 0)))), none⟩, ⟨(some 14), (.mv (.t 13)), none⟩, ⟨(some 15), (.mv (.t 3)), (some (14, false))⟩, ⟨(some 16), (.bin .gtr (.t 15) (.c (.v (.int .i64 100)))), (some (14, false))⟩, ⟨(some 17), (.pick (.t 14) (.c (.v (.bool true))) (.t 16)), none⟩]) (.cond (.t 17) 
  (.seq (.reg [] [⟨(some 18), (.bld [(.v (.int .i64 0)), (.v (.int .i64 0)), (.v (.int .i64 0)), (.v (.int .i64 0)), (.v (.int .i64 0)), (.v (.int .i64 0))] []), none⟩, ⟨none, (.st (.t 8) (.t 18) 6), none⟩, ⟨(some 9), (.mv (.c (.v (.int .i64 2)))), none⟩]) .ret) .skip)) 
  (.seq 
  (.seq (.reg [] [⟨(some 19), (.mv (.t 3)), none⟩, ⟨(some 20), (.mv (.c (.v (.int .i64 0)))), none⟩]) (.block 0 
  (.loopN [34, 33, 9, 32, 31, 30, 29, 28, 27, 22, 26, 25, 24, 23, 21] c7b0))) 
  (.seq (.reg [] [⟨(some 35), (.ld (.t 5) (some 6)), none⟩, ⟨none, (.st (.t 8) (.t 35) 6), none⟩, ⟨(some 9), (.mv (.c (.v (.int .i64 0)))), none⟩]) .ret)))), [(.cell 8 (some 6)), (.t 9)]⟩

def c8 : MF := ⟨2, 6, 
  (.seq (.reg [] [⟨(some 2), (.box (.t 0)), none⟩, ⟨(some 3), (.box (.t 1)), none⟩, ⟨(some 4), (.mv (.c (.v .nilFunc))), none⟩]) 
  (.seq (.reg [] [⟨(some 5), (.mkf 14 [(.t 2), (.t 3)]), none⟩, ⟨(some 4), (.mv (.t 5)), none⟩]) .ret)), [(.t 4)]⟩

def c9 : MF := ⟨3, 26, 
  (.seq (.reg [] [⟨(some 5), (.box (.t 2)), none⟩, ⟨(some 6), (.box (.c (.agg [(.v (.int .i64 0)), (.v (.int .i64 0)), (.v (.int .i64 0)), (.v (.int .i64 0)), (.v (.int .i64 0)), (.v (.int .i64 0))]))), none⟩, ⟨(some 7), (.mv (.c (.v (.bool false)))), none⟩]) 
  (.seq 
  (.seq (.reg [] [⟨(some 8), (.mv (.t 0)), none⟩]) (.block 0 
  (.seq (.reg [] [⟨(some 10), (.bin .eql (.t 8) (.c (.v (.int .i64 0)))), none⟩, ⟨(some 9), (.mv (.t 10)), none⟩]) (.cond (.t 9) 
  (.seq (.reg [] [⟨(some 11), (.mv (.t 1)), none⟩, ⟨(some 12), (.fa (.t 5) 4), none⟩, ⟨none, (.st (.t 12) (.t 11) 1), none⟩]) 
  (.seq (.reg [] [⟨(some 13), (.ld (.t 5) (some 6)), none⟩, ⟨none, (.st (.t 6) (.t 13) 6), none⟩, ⟨(some 7), (.mv (.c (.v (.bool true)))), none⟩]) .ret)) 
  (.seq (.reg [] [⟨(some 15), (.bin .eql (.t 8) (.c (.v (.int .i64 1)))), none⟩, ⟨(some 14), (.mv (.t 15)), none⟩]) (.cond (.t 14) 
  (.seq (.reg [] [⟨(some 16), (.mv (.t 1)), none⟩, ⟨(some 17), (.bld [(.v (.int .i64 0)), (.v (.int .i64 0)), (.v (.int .i64 0)), (.v (.int .i64 0))] [(0, (1, (.t 16)))]), none⟩, ⟨(some 18), (.fa (.t 5) 0), none⟩, ⟨none, (.st (.t 18) (.t 17) 4), none⟩]) 
  (.seq (.reg [] [⟨(some 19), (.ld (.t 5) (some 6)), none⟩, ⟨none, (.st (.t 6) (.t 19) 6), none⟩, ⟨(some 7), (.mv (.c (.v (.bool true)))), none⟩]) .ret)) 
  (.seq (.reg [] [⟨(some 21), (.bin .eql (.t 8) (.c (.v (.int .i64 2)))), none⟩, ⟨(some 20), (.mv (.t 21)), none⟩]) (.cond (.t 20) 
  (.seq (.reg [] [⟨(some 22), (.mv (.t 1)), none⟩, ⟨(some 23), (.fa (.t 5) 5), none⟩, ⟨none, (.st (.t 23) (.t 22) 1), none⟩]) 
  (.seq (.reg [] [⟨(some 24), (.ld (.t 5) (some 6)), none⟩, ⟨none, (.st (.t 6) (.t 24) 6), none⟩, ⟨(some 7), (.mv (.c (.v (.bool true)))), none⟩]) .ret)) .skip)))))))) 
  (.seq (.reg [] [⟨(some 25), (.bld [(.v (.int .i64 0)), (.v (.int .i64 0)), (.v (.int .i64 0)), (.v (.int .i64 0)), (.v (.int .i64 0)), (.v (.int .i64 0))] []), none⟩, ⟨none, (.st (.t 6) (.t 25) 6), none⟩, ⟨(some 7), (.mv (.c (.v (.bool false)))), none⟩]) .ret))), [(.cell 6 (some 6)), (.t 7)]⟩

def c10 : MF := ⟨1, 16, 
  (.seq (.reg [] [⟨(some 1), (.box (.t 0)), none⟩, ⟨(some 2), (.mv (.c (.v (.bool false)))), none⟩]) 
  (.seq (.reg [] [⟨(some 3), (.fa (.t 1) 0), none⟩, ⟨(some 4), (.ld (.t 3) (some 4)), none⟩, ⟨(some 5), (.call (.c (.f 15 [])) [(.t 4)]), none⟩, ⟨(some 6), (.mv (.t 5)), none⟩, ⟨(some 7), (.fa (.t 1) 4), (some (6, true))⟩, ⟨(some 8), (.ld (.t 7) none), (some (6, true))⟩, ⟨(some 9), (.call (.c (.f 16 [])) [(.t 8)]), (some (6, true))⟩, ⟨(some 10), (.pick (.t 6) (.t 9) (.c (.v (.bool false)))), none⟩, ⟨(some 11), (.mv (.t 10)), none⟩, ⟨(some 12), (.fa (.t 1) 5), (some (11, true))⟩, ⟨(some 13), (.ld (.t 12) none), (some (11, true))⟩, ⟨(some 14), (.call (.c (.f 17 [])) [(.t 13)]), (some (11, true))⟩, ⟨(some 15), (.pick (.t 11) (.t 14) (.c (.v (.bool false)))), none⟩, ⟨(some 2), (.mv (.t 15)), none⟩]) .ret)), [(.t 2)]⟩

def c11 : MF := ⟨3, 23, 
  (.seq (.reg [] [⟨(some 4), (.box (.t 1)), none⟩, ⟨(some 5), (.box (.t 2)), none⟩, ⟨(some 6), (.box (.c (.agg [(.v (.int .i64 0)), (.v (.int .i64 0)), (.v (.int .i64 0)), (.v (.int .i64 0)), (.v (.int .i64 0)), (.v (.int .i64 0))]))), none⟩, ⟨(some 7), (.box (.c (.v (.int .i64 0)))), none⟩]) 
  (.seq 
  (.seq (.reg [] [⟨(some 8), (.mv (.t 0)), none⟩, ⟨(some 9), (.eqn false 2 (.t 8)), none⟩]) (.cond (.t 9) 
  (.seq (.reg [] [⟨(some 10), (.bld [(.v (.int .i64 0)), (.v (.int .i64 0)), (.v (.int .i64 0)), (.v (.int .i64 0)), (.v (.int .i64 0)), (.v (.int .i64 0))] []), none⟩, ⟨none, (.st (.t 6) (.t 10) 6), none⟩, ⟨none, (.st (.t 7) (.c (.v (.int .i64 1))) 1), none⟩]) .ret) .skip)) 
  (.seq (.reg [] [⟨(some 11), (.mkf 18 [(.t 6), (.t 7)]), none⟩, ⟨none, .stk, none⟩]) 
  (.seq (.alt (.regM [(.p, ⟨(some 12), (.ld (.t 4) (some 6)), none⟩), (.p, ⟨(some 13), (.mv (.t 0)), none⟩), (.p, ⟨(some 14), (.ld (.t 4) (some 6)), none⟩), (.p, ⟨(some 15), (.ld (.t 5) (some 5)), none⟩), ((.r [1, 2, 3]), ⟨(some 16), (.inv [(31, 13)] (.t 13) [(.t 14), (.t 15)]), none⟩)] [⟨(some 17), (.call (.c (.f 19 [])) [(.t 12), (.t 16)]), none⟩, ⟨none, (.st (.t 6) (.t 17) 6), none⟩]) (.reg [⟨(some 12), (.ld (.t 4) (some 6)), none⟩, ⟨(some 13), (.mv (.t 0)), none⟩, ⟨(some 14), (.ld (.t 4) (some 6)), none⟩, ⟨(some 15), (.ld (.t 5) (some 5)), none⟩, ⟨(some 16), (.inv [(31, 13)] (.t 13) [(.t 14), (.t 15)]), none⟩] [⟨(some 17), (.call (.c (.f 19 [])) [(.t 12), (.t 16)]), none⟩, ⟨none, (.st (.t 6) (.t 17) 6), none⟩])) 
  (.seq 
  (.seq (.reg [] [⟨(some 18), (.ld (.t 6) (some 6)), none⟩, ⟨(some 19), (.call (.c (.f 20 [])) [(.t 18)]), none⟩, ⟨(some 20), (.un .not (.t 19)), none⟩]) (.cond (.t 20) 
  (.seq (.reg [] [⟨(some 21), (.bld [(.v (.int .i64 0)), (.v (.int .i64 0)), (.v (.int .i64 0)), (.v (.int .i64 0)), (.v (.int .i64 0)), (.v (.int .i64 0))] []), none⟩, ⟨none, (.st (.t 6) (.t 21) 6), none⟩, ⟨none, (.st (.t 7) (.c (.v (.int .i64 3))) 1), none⟩]) .ret) .skip)) 
  (.seq (.reg [] [⟨(some 22), (.ld (.t 6) (some 6)), none⟩, ⟨none, (.st (.t 6) (.t 22) 6), none⟩, ⟨none, (.st (.t 7) (.c (.v (.int .i64 0))) 1), none⟩]) .ret)))))), [(.cell 6 (some 6)), (.cell 7 none)]⟩

def c12b0 : MC := 
  (.seq (.reg [] [⟨(some 9), (.bin .lss (.t 8) (.t 7)), none⟩]) 
  (.seq (.cond (.t 9) .skip (.exit 0)) 
  (.seq (.block 1 
  (.seq (.reg [] [⟨(some 10), (.ixs (.t 6) (.t 8) 1), none⟩, ⟨(some 11), (.ld (.t 10) none), none⟩, ⟨(some 5), (.mv (.t 11)), none⟩]) 
  (.seq (.reg [] [⟨(some 12), (.mv (.t 5)), none⟩]) (.block 2 
  (.seq (.reg [] [⟨(some 16), (.tas (.t 12) 26 true (.agg [(.v (.int .i64 0)), (.v (.int .i64 0)), (.v (.int .i64 0)), (.v (.int .i64 0)), (.v (.int .i64 0)), (.v (.int .i64 0))])), none⟩, ⟨(some 17), (.ext (.t 16) 1), none⟩, ⟨(some 18), (.ext (.t 16) 0), none⟩]) (.cond (.t 17) (.reg [] [⟨(some 19), (.mv (.t 3)), none⟩, ⟨(some 20), (.bsl [(.v (.int .u8 0))] 1 [(0, (1, (.c (.v (.int .u8 112)))))]), none⟩, ⟨(some 21), (.app (.t 19) (.t 20) 1 1), none⟩, ⟨(some 3), (.mv (.t 21)), none⟩]) 
  (.seq (.reg [] [⟨(some 22), (.tas (.t 12) 24 true (.agg [(.v (.int .i64 0)), (.v (.int .i64 0)), (.v (.int .i64 0)), (.v (.int .i64 0))])), none⟩, ⟨(some 23), (.ext (.t 22) 1), none⟩, ⟨(some 24), (.ext (.t 22) 0), none⟩]) (.cond (.t 23) (.reg [] [⟨(some 25), (.mv (.t 3)), none⟩, ⟨(some 26), (.bsl [(.v (.int .u8 0))] 1 [(0, (1, (.c (.v (.int .u8 99)))))]), none⟩, ⟨(some 27), (.app (.t 25) (.t 26) 1 1), none⟩, ⟨(some 3), (.mv (.t 27)), none⟩]) 
  (.seq (.reg [] [⟨(some 28), (.tas (.t 12) 3 true (.v (.int .i64 0))), none⟩, ⟨(some 29), (.ext (.t 28) 1), none⟩, ⟨(some 30), (.ext (.t 28) 0), none⟩]) (.cond (.t 29) (.reg [] [⟨(some 31), (.mv (.t 3)), none⟩, ⟨(some 32), (.bsl [(.v (.int .u8 0))] 1 [(0, (1, (.c (.v (.int .u8 110)))))]), none⟩, ⟨(some 33), (.app (.t 31) (.t 32) 1 1), none⟩, ⟨(some 3), (.mv (.t 33)), none⟩]) (.reg [] [⟨(some 13), (.mv (.t 3)), none⟩, ⟨(some 14), (.bsl [(.v (.int .u8 0))] 1 [(0, (1, (.c (.v (.int .u8 120)))))]), none⟩, ⟨(some 15), (.app (.t 13) (.t 14) 1 1), none⟩, ⟨(some 3), (.mv (.t 15)), none⟩]))))))))))) (.reg [] [⟨(some 34), (.bin .add (.t 8) (.c (.v (.int .i64 1)))), none⟩, ⟨(some 8), (.mv (.t 34)), none⟩]))))

def c12 : MF := ⟨1, 37, 
  (.seq (.reg [] [⟨(some 2), (.mv (.c (.v (.string ⟨#[]⟩)))), none⟩]) 
  (.seq (.reg [] [⟨(some 3), (.mv (.c (.v (.slice none 0 0)))), none⟩]) 
  (.seq 
  (.seq (.reg [] [⟨(some 6), (.mv (.t 0)), none⟩, ⟨(some 7), (.len (.t 6)), none⟩, ⟨(some 8), (.mv (.c (.v (.int .i64 0)))), none⟩]) (.block 0 
  (.loopN [34, 15, 14, 13, 33, 32, 31, 30, 29, 28, 27, 26, 25, 24, 23, 22, 21, 20, 19, 18, 17, 16, 12, 11, 10, 9] c12b0))) 
  (.seq (.reg [] [⟨(some 35), (.mv (.t 3)), none⟩, ⟨(some 36), (.bst (.t 35)), none⟩, ⟨(some 2), (.mv (.t 36)), none⟩]) .ret)))), [(.t 2)]⟩

def c13 : MF := ⟨3, 11, 
  (.seq (.reg [] [⟨(some 4), (.box (.t 1)), none⟩, ⟨(some 5), (.box (.t 2)), none⟩, ⟨(some 6), (.mv (.c (.v .nilIface))), none⟩]) 
  (.seq (.reg [] [⟨(some 7), (.mv (.t 0)), none⟩, ⟨(some 8), (.ld (.t 4) (some 6)), none⟩, ⟨(some 9), (.ld (.t 5) (some 5)), none⟩, ⟨(some 10), (.call (.t 7) [(.t 8), (.t 9)]), none⟩, ⟨(some 6), (.mv (.t 10)), none⟩]) .ret)), [(.t 6)]⟩

def c14 : MF := ⟨4, 33, 
  (.seq (.reg [] [⟨(some 4), (.box (.t 0)), none⟩, ⟨(some 5), (.box (.t 1)), none⟩, ⟨(some 6), (.mv (.c (.v .nilIface))), none⟩]) 
  (.seq 
  (.seq (.reg [] [⟨(some 8), (.ld (.t 2) none), none⟩]) (.block 0 
  (.seq (.reg [] [⟨(some 10), (.bin .eql (.t 8) (.c (.v (.int .i64 0)))), none⟩, ⟨(some 9), (.mv (.t 10)), none⟩]) (.cond (.t 9) 
  (.seq (.reg [] [⟨(some 11), (.ld (.t 3) none), none⟩, ⟨(some 12), (.fa (.t 4) 4), none⟩, ⟨none, (.st (.t 12) (.t 11) 1), none⟩]) 
  (.seq (.reg [] [⟨(some 13), (.ld (.t 4) (some 6)), none⟩, ⟨(some 14), (.ifc 26 (.t 13)), none⟩, ⟨(some 6), (.mv (.t 14)), none⟩]) .ret)) 
  (.seq (.reg [] [⟨(some 16), (.bin .eql (.t 8) (.c (.v (.int .i64 1)))), none⟩, ⟨(some 15), (.mv (.t 16)), none⟩]) (.cond (.t 15) 
  (.seq (.reg [] [⟨(some 17), (.ld (.t 3) none), none⟩, ⟨(some 18), (.bld [(.v (.int .i64 0)), (.v (.int .i64 0)), (.v (.int .i64 0)), (.v (.int .i64 0))] [(0, (1, (.t 17)))]), none⟩, ⟨(some 19), (.ifc 24 (.t 18)), none⟩, ⟨(some 6), (.mv (.t 19)), none⟩]) .ret) 
  (.seq (.reg [] [⟨(some 21), (.bin .eql (.t 8) (.c (.v (.int .i64 2)))), none⟩, ⟨(some 20), (.mv (.t 21)), none⟩]) (.cond (.t 20) 
  (.seq (.reg [] [⟨(some 22), (.ld (.t 3) none), none⟩, ⟨(some 23), (.ifc 3 (.t 22)), none⟩, ⟨(some 6), (.mv (.t 23)), none⟩]) .ret) 
  (.seq (.reg [] [⟨(some 25), (.bin .eql (.t 8) (.c (.v (.int .i64 3)))), none⟩, ⟨(some 24), (.mv (.t 25)), none⟩]) (.cond (.t 24) 
  (.seq (.reg [] [⟨(some 26), (.ifc 9 (.c (.v (.string ⟨#[116, 101, 120, 116]⟩)))), none⟩, ⟨(some 6), (.mv (.t 26)), none⟩]) .ret) .skip)))))))))) 
  (.seq (.reg [] [⟨(some 7), (.mv (.c (.v (.slice none 0 0)))), none⟩]) 
  (.seq (.reg [] [⟨(some 27), (.mv (.t 7)), none⟩, ⟨(some 28), (.mv (.t 7)), none⟩, ⟨(some 29), (.len (.t 28)), none⟩, ⟨(some 30), (.ixs (.t 27) (.t 29) 1), none⟩, ⟨(some 31), (.ld (.t 30) none), none⟩, ⟨(some 32), (.ifc 3 (.t 31)), none⟩, ⟨(some 6), (.mv (.t 32)), none⟩]) .ret)))), [(.t 6)]⟩

def c15 : MF := ⟨1, 21, 
  (.seq (.reg [] [⟨(some 1), (.box (.t 0)), none⟩, ⟨(some 2), (.mv (.c (.v (.bool false)))), none⟩]) 
  (.seq (.reg [] [⟨(some 3), (.fa (.t 1) 0), none⟩, ⟨(some 4), (.ld (.t 3) none), none⟩, ⟨(some 5), (.call (.c (.f 21 [])) [(.t 4)]), none⟩, ⟨(some 6), (.mv (.t 5)), none⟩, ⟨(some 7), (.fa (.t 1) 1), (some (6, true))⟩, ⟨(some 8), (.ld (.t 7) none), (some (6, true))⟩, ⟨(some 9), (.call (.c (.f 21 [])) [(.t 8)]), (some (6, true))⟩, ⟨(some 10), (.pick (.t 6) (.t 9) (.c (.v (.bool false)))), none⟩, ⟨(some 11), (.mv (.t 10)), none⟩, ⟨(some 12), (.fa (.t 1) 2), (some (11, true))⟩, ⟨(some 13), (.ld (.t 12) none), (some (11, true))⟩, ⟨(some 14), (.call (.c (.f 21 [])) [(.t 13)]), (some (11, true))⟩, ⟨(some 15), (.pick (.t 11) (.t 14) (.c (.v (.bool false)))), none⟩, ⟨(some 16), (.mv (.t 15)), none⟩, ⟨(some 17), (.fa (.t 1) 3), (some (16, true))⟩, ⟨(some 18), (.ld (.t 17) none), (some (16, true))⟩, ⟨(some 19), (.call (.c (.f 21 [])) [(.t 18)]), (some (16, true))⟩, ⟨(some 20), (.pick (.t 16) (.t 19) (.c (.v (.bool false)))), none⟩, ⟨(some 2), (.mv (.t 20)), none⟩]) .ret)), [(.t 2)]⟩

def c16 : MF := ⟨1, 9, 
  (.seq (.reg [] [⟨(some 2), (.mv (.c (.v (.bool false)))), none⟩]) 
  (.seq (.reg [] [⟨(some 3), (.mv (.t 0)), none⟩, ⟨(some 4), (.bin .geq (.t 3) (.c (.v (.int .i64 0)))), none⟩, ⟨(some 5), (.mv (.t 4)), none⟩, ⟨(some 6), (.mv (.t 0)), (some (5, true))⟩, ⟨(some 7), (.bin .leq (.t 6) (.c (.v (.int .i64 65535)))), (some (5, true))⟩, ⟨(some 8), (.pick (.t 5) (.t 7) (.c (.v (.bool false)))), none⟩, ⟨(some 2), (.mv (.t 8)), none⟩]) .ret)), [(.t 2)]⟩

def c17 : MF := ⟨1, 9, 
  (.seq (.reg [] [⟨(some 2), (.mv (.c (.v (.bool false)))), none⟩]) 
  (.seq (.reg [] [⟨(some 3), (.mv (.t 0)), none⟩, ⟨(some 4), (.bin .geq (.t 3) (.c (.v (.int .i64 0)))), none⟩, ⟨(some 5), (.mv (.t 4)), none⟩, ⟨(some 6), (.mv (.t 0)), (some (5, true))⟩, ⟨(some 7), (.bin .leq (.t 6) (.c (.v (.int .i64 255)))), (some (5, true))⟩, ⟨(some 8), (.pick (.t 5) (.t 7) (.c (.v (.bool false)))), none⟩, ⟨(some 2), (.mv (.t 8)), none⟩]) .ret)), [(.t 2)]⟩

def c18 : MF := ⟨2, 5, 
  (.seq (.reg [] [⟨(some 2), .stk, none⟩, ⟨(some 3), (.eqn true 2 (.t 2)), none⟩]) (.cond (.t 3) (.reg [] [⟨(some 4), (.bld [(.v (.int .i64 0)), (.v (.int .i64 0)), (.v (.int .i64 0)), (.v (.int .i64 0)), (.v (.int .i64 0)), (.v (.int .i64 0))] []), none⟩, ⟨none, (.st (.t 0) (.t 4) 6), none⟩, ⟨none, (.st (.t 1) (.c (.v (.int .i64 14))) 1), none⟩]) .skip)), []⟩

def c19 : MF := ⟨2, 29, 
  (.seq (.reg [] [⟨(some 2), (.box (.t 0)), none⟩, ⟨(some 4), (.box (.c (.agg [(.v (.int .i64 0)), (.v (.int .i64 0)), (.v (.int .i64 0)), (.v (.int .i64 0)), (.v (.int .i64 0)), (.v (.int .i64 0))]))), none⟩]) 
  (.seq 
  (.seq (.reg [] [⟨(some 10), (.mv (.t 1)), none⟩, ⟨(some 11), (.tas (.t 10) 24 true (.agg [(.v (.int .i64 0)), (.v (.int .i64 0)), (.v (.int .i64 0)), (.v (.int .i64 0))])), none⟩, ⟨(some 9), (.mv (.t 11)), none⟩, ⟨(some 12), (.ext (.t 9) 0), none⟩, ⟨(some 13), (.ext (.t 9) 1), none⟩, ⟨(some 5), (.box (.c (.agg [(.v (.int .i64 0)), (.v (.int .i64 0)), (.v (.int .i64 0)), (.v (.int .i64 0))]))), none⟩, ⟨none, (.st (.t 5) (.t 12) 4), none⟩, ⟨(some 6), (.mv (.t 13)), none⟩]) 
  (.seq (.reg [] [⟨(some 14), (.mv (.t 6)), none⟩]) (.cond (.t 14) 
  (.seq (.reg [] [⟨(some 15), (.ld (.t 5) (some 4)), none⟩, ⟨(some 16), (.fa (.t 2) 0), none⟩, ⟨none, (.st (.t 16) (.t 15) 4), none⟩]) 
  (.seq (.reg [] [⟨(some 17), (.ld (.t 2) (some 6)), none⟩, ⟨none, (.st (.t 4) (.t 17) 6), none⟩]) .ret)) .skip))) 
  (.seq 
  (.seq (.reg [] [⟨(some 19), (.mv (.t 1)), none⟩, ⟨(some 20), (.tas (.t 19) 26 true (.agg [(.v (.int .i64 0)), (.v (.int .i64 0)), (.v (.int .i64 0)), (.v (.int .i64 0)), (.v (.int .i64 0)), (.v (.int .i64 0))])), none⟩, ⟨(some 18), (.mv (.t 20)), none⟩, ⟨(some 21), (.ext (.t 18) 0), none⟩, ⟨(some 22), (.ext (.t 18) 1), none⟩, ⟨(some 7), (.box (.c (.agg [(.v (.int .i64 0)), (.v (.int .i64 0)), (.v (.int .i64 0)), (.v (.int .i64 0)), (.v (.int .i64 0)), (.v (.int .i64 0))]))), none⟩, ⟨none, (.st (.t 7) (.t 21) 6), none⟩, ⟨(some 8), (.mv (.t 22)), none⟩]) 
  (.seq (.reg [] [⟨(some 23), (.mv (.t 8)), none⟩]) (.cond (.t 23) 
  (.seq (.reg [] [⟨(some 24), (.ld (.t 7) (some 6)), none⟩, ⟨none, (.st (.t 4) (.t 24) 6), none⟩]) .ret) .skip))) 
  (.seq (.reg [] [⟨(some 25), (.mv (.t 1)), none⟩, ⟨(some 26), (.tas (.t 25) 3 false (.v (.int .i64 0))), none⟩, ⟨(some 27), (.fa (.t 2) 5), none⟩, ⟨none, (.st (.t 27) (.t 26) 1), none⟩]) 
  (.seq (.reg [] [⟨(some 28), (.ld (.t 2) (some 6)), none⟩, ⟨none, (.st (.t 4) (.t 28) 6), none⟩]) .ret))))), [(.cell 4 (some 6))]⟩

def c20 : MF := ⟨1, 21, 
  (.seq (.reg [] [⟨(some 1), (.box (.t 0)), none⟩, ⟨(some 2), (.mv (.c (.v (.bool false)))), none⟩]) 
  (.seq (.reg [] [⟨(some 3), (.fa (.t 1) 0), none⟩, ⟨(some 4), (.ld (.t 3) (some 4)), none⟩, ⟨(some 5), (.call (.c (.f 22 [])) [(.t 4)]), none⟩, ⟨(some 6), (.mv (.t 5)), none⟩, ⟨(some 7), (.fa (.t 1) 4), (some (6, true))⟩, ⟨(some 8), (.ld (.t 7) none), (some (6, true))⟩, ⟨(some 9), (.call (.c (.f 23 [])) [(.t 8)]), (some (6, true))⟩, ⟨(some 10), (.pick (.t 6) (.t 9) (.c (.v (.bool false)))), none⟩, ⟨(some 11), (.mv (.t 10)), none⟩, ⟨(some 12), (.fa (.t 1) 5), (some (11, true))⟩, ⟨(some 13), (.ld (.t 12) none), (some (11, true))⟩, ⟨(some 14), (.bin .geq (.t 13) (.c (.v (.int .i64 0)))), (some (11, true))⟩, ⟨(some 15), (.pick (.t 11) (.t 14) (.c (.v (.bool false)))), none⟩, ⟨(some 16), (.mv (.t 15)), none⟩, ⟨(some 17), (.fa (.t 1) 5), (some (16, true))⟩, ⟨(some 18), (.ld (.t 17) none), (some (16, true))⟩, ⟨(some 19), (.bin .leq (.t 18) (.c (.v (.int .i64 255)))), (some (16, true))⟩, ⟨(some 20), (.pick (.t 16) (.t 19) (.c (.v (.bool false)))), none⟩, ⟨(some 2), (.mv (.t 20)), none⟩]) .ret)), [(.t 2)]⟩

def c21 : MF := ⟨1, 9, 
  (.seq (.reg [] [⟨(some 2), (.mv (.c (.v (.bool false)))), none⟩]) 
  (.seq (.reg [] [⟨(some 3), (.mv (.t 0)), none⟩, ⟨(some 4), (.bin .geq (.t 3) (.c (.v (.int .i64 0)))), none⟩, ⟨(some 5), (.mv (.t 4)), none⟩, ⟨(some 6), (.mv (.t 0)), (some (5, true))⟩, ⟨(some 7), (.bin .leq (.t 6) (.c (.v (.int .i64 255)))), (some (5, true))⟩, ⟨(some 8), (.pick (.t 5) (.t 7) (.c (.v (.bool false)))), none⟩, ⟨(some 2), (.mv (.t 8)), none⟩]) .ret)), [(.t 2)]⟩

def c22 : MF := ⟨1, 8, 
  (.seq (.reg [] [⟨(some 1), (.box (.t 0)), none⟩, ⟨(some 2), (.mv (.c (.v (.bool false)))), none⟩]) 
  (.seq (.alt (.regM [(.p, ⟨(some 3), (.ld (.t 1) (some 4)), none⟩), (.p, ⟨(some 4), (.ld (.t 1) (some 4)), none⟩), (.p, ⟨(some 5), (.ld (.t 1) (some 4)), none⟩), ((.r [1, 2]), ⟨(some 6), (.call (.c (.f 24 [])) [(.t 4), (.t 5), (.c (.f 25 []))]), none⟩)] [⟨(some 7), (.eqv false true [.i, .i, .i, .i] (.t 3) (.t 6)), none⟩, ⟨(some 2), (.mv (.t 7)), none⟩]) (.reg [⟨(some 3), (.ld (.t 1) (some 4)), none⟩, ⟨(some 4), (.ld (.t 1) (some 4)), none⟩, ⟨(some 5), (.ld (.t 1) (some 4)), none⟩, ⟨(some 6), (.call (.c (.f 24 [])) [(.t 4), (.t 5), (.c (.f 25 []))]), none⟩] [⟨(some 7), (.eqv false true [.i, .i, .i, .i] (.t 3) (.t 6)), none⟩, ⟨(some 2), (.mv (.t 7)), none⟩])) .ret)), [(.t 2)]⟩

def c23 : MF := ⟨1, 9, 
  (.seq (.reg [] [⟨(some 2), (.mv (.c (.v (.bool false)))), none⟩]) 
  (.seq (.reg [] [⟨(some 3), (.mv (.t 0)), none⟩, ⟨(some 4), (.bin .geq (.t 3) (.c (.v (.int .i64 0)))), none⟩, ⟨(some 5), (.mv (.t 4)), none⟩, ⟨(some 6), (.mv (.t 0)), (some (5, true))⟩, ⟨(some 7), (.bin .leq (.t 6) (.c (.v (.int .i64 65535)))), (some (5, true))⟩, ⟨(some 8), (.pick (.t 5) (.t 7) (.c (.v (.bool false)))), none⟩, ⟨(some 2), (.mv (.t 8)), none⟩]) .ret)), [(.t 2)]⟩

def c24 : MF := ⟨3, 32, 
  (.seq (.reg [] [⟨(some 3), (.box (.t 0)), none⟩, ⟨(some 4), (.box (.t 1)), none⟩, ⟨(some 6), (.box (.c (.agg [(.v (.int .i64 0)), (.v (.int .i64 0)), (.v (.int .i64 0)), (.v (.int .i64 0))]))), none⟩]) 
  (.seq (.alt (.regM [(.p, ⟨(some 7), (.mv (.t 2)), none⟩), (.p, ⟨(some 8), (.fa (.t 3) 0), none⟩), (.p, ⟨(some 9), (.ld (.t 8) none), none⟩), (.p, ⟨(some 10), (.fa (.t 4) 0), none⟩), (.p, ⟨(some 11), (.ld (.t 10) none), none⟩), ((.r [0, 1, 2, 3, 4]), ⟨(some 12), (.call (.t 7) [(.t 9), (.t 11)]), none⟩), (.p, ⟨(some 13), (.mv (.t 2)), none⟩), (.p, ⟨(some 14), (.fa (.t 3) 1), none⟩), (.p, ⟨(some 15), (.ld (.t 14) none), none⟩), (.p, ⟨(some 16), (.fa (.t 4) 1), none⟩), (.p, ⟨(some 17), (.ld (.t 16) none), none⟩), ((.r [0, 1, 2, 3, 4, 5, 6, 7, 8, 9, 10]), ⟨(some 18), (.call (.t 13) [(.t 15), (.t 17)]), none⟩), (.p, ⟨(some 19), (.mv (.t 2)), none⟩), (.p, ⟨(some 20), (.fa (.t 3) 2), none⟩), (.p, ⟨(some 21), (.ld (.t 20) none), none⟩), (.p, ⟨(some 22), (.fa (.t 4) 2), none⟩), (.p, ⟨(some 23), (.ld (.t 22) none), none⟩), ((.r [0, 1, 2, 3, 4, 5, 6, 7, 8, 9, 10, 11, 12, 13, 14, 15, 16]), ⟨(some 24), (.call (.t 19) [(.t 21), (.t 23)]), none⟩), (.p, ⟨(some 25), (.mv (.t 2)), none⟩), (.p, ⟨(some 26), (.fa (.t 3) 3), none⟩), (.p, ⟨(some 27), (.ld (.t 26) none), none⟩), (.p, ⟨(some 28), (.fa (.t 4) 3), none⟩), (.p, ⟨(some 29), (.ld (.t 28) none), none⟩)] [⟨(some 30), (.call (.t 25) [(.t 27), (.t 29)]), none⟩, ⟨(some 31), (.bld [(.v (.int .i64 0)), (.v (.int .i64 0)), (.v (.int .i64 0)), (.v (.int .i64 0))] [(0, (1, (.t 12))), (1, (1, (.t 18))), (2, (1, (.t 24))), (3, (1, (.t 30)))]), none⟩, ⟨none, (.st (.t 6) (.t 31) 4), none⟩]) (.reg [⟨(some 7), (.mv (.t 2)), none⟩, ⟨(some 8), (.fa (.t 3) 0), none⟩, ⟨(some 9), (.ld (.t 8) none), none⟩, ⟨(some 10), (.fa (.t 4) 0), none⟩, ⟨(some 11), (.ld (.t 10) none), none⟩, ⟨(some 12), (.call (.t 7) [(.t 9), (.t 11)]), none⟩, ⟨(some 13), (.mv (.t 2)), none⟩, ⟨(some 14), (.fa (.t 3) 1), none⟩, ⟨(some 15), (.ld (.t 14) none), none⟩, ⟨(some 16), (.fa (.t 4) 1), none⟩, ⟨(some 17), (.ld (.t 16) none), none⟩, ⟨(some 18), (.call (.t 13) [(.t 15), (.t 17)]), none⟩, ⟨(some 19), (.mv (.t 2)), none⟩, ⟨(some 20), (.fa (.t 3) 2), none⟩, ⟨(some 21), (.ld (.t 20) none), none⟩, ⟨(some 22), (.fa (.t 4) 2), none⟩, ⟨(some 23), (.ld (.t 22) none), none⟩, ⟨(some 24), (.call (.t 19) [(.t 21), (.t 23)]), none⟩, ⟨(some 25), (.mv (.t 2)), none⟩, ⟨(some 26), (.fa (.t 3) 3), none⟩, ⟨(some 27), (.ld (.t 26) none), none⟩, ⟨(some 28), (.fa (.t 4) 3), none⟩, ⟨(some 29), (.ld (.t 28) none), none⟩] [⟨(some 30), (.call (.t 25) [(.t 27), (.t 29)]), none⟩, ⟨(some 31), (.bld [(.v (.int .i64 0)), (.v (.int .i64 0)), (.v (.int .i64 0)), (.v (.int .i64 0))] [(0, (1, (.t 12))), (1, (1, (.t 18))), (2, (1, (.t 24))), (3, (1, (.t 30)))]), none⟩, ⟨none, (.st (.t 6) (.t 31) 4), none⟩])) .ret)), [(.cell 6 (some 4))]⟩

def c25 : MF := ⟨2, 7, 
  (.seq (.reg [] [⟨(some 4), (.mv (.c (.v (.int .i64 0)))), none⟩]) 
  (.seq (.reg [] [⟨(some 5), (.mv (.t 0)), none⟩, ⟨(some 6), (.call (.c (.f 26 [])) [(.t 5), (.c (.v (.int .i64 0))), (.c (.v (.int .i64 255)))]), none⟩, ⟨(some 4), (.mv (.t 6)), none⟩]) .ret)), [(.t 4)]⟩

def c26 : MF := ⟨3, 18, 
  (.seq (.reg [] [⟨(some 6), (.mv (.c (.v (.int .i64 0)))), none⟩]) 
  (.seq (.block 0 
  (.seq (.reg [] [⟨(some 8), (.mv (.t 0)), none⟩, ⟨(some 9), (.mv (.t 1)), none⟩, ⟨(some 10), (.bin .lss (.t 8) (.t 9)), none⟩, ⟨(some 7), (.mv (.t 10)), none⟩]) (.cond (.t 7) 
  (.seq (.reg [] [⟨(some 11), (.mv (.t 1)), none⟩, ⟨(some 6), (.mv (.t 11)), none⟩]) .ret) 
  (.seq (.reg [] [⟨(some 13), (.mv (.t 0)), none⟩, ⟨(some 14), (.mv (.t 2)), none⟩, ⟨(some 15), (.bin .gtr (.t 13) (.t 14)), none⟩, ⟨(some 12), (.mv (.t 15)), none⟩]) (.cond (.t 12) 
  (.seq (.reg [] [⟨(some 16), (.mv (.t 2)), none⟩, ⟨(some 6), (.mv (.t 16)), none⟩]) .ret) .skip))))) 
  (.seq (.reg [] [⟨(some 17), (.mv (.t 0)), none⟩, ⟨(some 6), (.mv (.t 17)), none⟩]) .ret))), [(.t 6)]⟩

def pureL : List FuncId := []
theorem ok3 : ∃ md, cF Try.prog md 3 = some c3 := ⟨(true, pureL), by kernel_rfl⟩
theorem ok4 : ∃ md, cF Try.prog md 4 = some c4 := ⟨(true, pureL), by kernel_rfl⟩
theorem ok5 : ∃ md, cF Try.prog md 5 = some c5 := ⟨(true, pureL), by kernel_rfl⟩
theorem ok6 : ∃ md, cF Try.prog md 6 = some c6 := ⟨(true, pureL), by kernel_rfl⟩
theorem ok7 : ∃ md, cF Try.prog md 7 = some c7 := ⟨(true, pureL), by kernel_rfl⟩
theorem ok8 : ∃ md, cF Try.prog md 8 = some c8 := ⟨(true, pureL), by kernel_rfl⟩
theorem ok9 : ∃ md, cF Try.prog md 9 = some c9 := ⟨(true, pureL), by kernel_rfl⟩
theorem ok10 : ∃ md, cF Try.prog md 10 = some c10 := ⟨(true, pureL), by kernel_rfl⟩
theorem ok11 : ∃ md, cF Try.prog md 11 = some c11 := ⟨(true, pureL), by kernel_rfl⟩
theorem ok12 : ∃ md, cF Try.prog md 12 = some c12 := ⟨(true, pureL), by kernel_rfl⟩
theorem ok13 : ∃ md, cF Try.prog md 13 = some c13 := ⟨(true, pureL), by kernel_rfl⟩
theorem ok14 : ∃ md, cF Try.prog md 14 = some c14 := ⟨(true, pureL), by kernel_rfl⟩
theorem ok15 : ∃ md, cF Try.prog md 15 = some c15 := ⟨(true, pureL), by kernel_rfl⟩
theorem ok16 : ∃ md, cF Try.prog md 16 = some c16 := ⟨(true, pureL), by kernel_rfl⟩
theorem ok17 : ∃ md, cF Try.prog md 17 = some c17 := ⟨(true, pureL), by kernel_rfl⟩
theorem ok18 : ∃ md, cF Try.prog md 18 = some c18 := ⟨(true, pureL), by kernel_rfl⟩
theorem ok19 : ∃ md, cF Try.prog md 19 = some c19 := ⟨(true, pureL), by kernel_rfl⟩
theorem ok20 : ∃ md, cF Try.prog md 20 = some c20 := ⟨(true, pureL), by kernel_rfl⟩
theorem ok21 : ∃ md, cF Try.prog md 21 = some c21 := ⟨(true, pureL), by kernel_rfl⟩
theorem ok22 : ∃ md, cF Try.prog md 22 = some c22 := ⟨(true, pureL), by kernel_rfl⟩
theorem ok23 : ∃ md, cF Try.prog md 23 = some c23 := ⟨(true, pureL), by kernel_rfl⟩
theorem ok24 : ∃ md, cF Try.prog md 24 = some c24 := ⟨(true, pureL), by kernel_rfl⟩
theorem ok25 : ∃ md, cF Try.prog md 25 = some c25 := ⟨(true, pureL), by kernel_rfl⟩
theorem ok26 : ∃ md, cF Try.prog md 26 = some c26 := ⟨(true, pureL), by kernel_rfl⟩

def cmL : List (Nat × ME) := [(3, .n c3), (4, .n c4), (5, .n c5), (6, .n c6), (7, .n c7), (8, .n c8), (9, .n c9), (10, .n c10), (11, .n c11), (12, .n c12), (13, .n c13), (14, .n c14), (15, .n c15), (16, .n c16), (17, .n c17), (18, .n c18), (19, .n c19), (20, .n c20), (21, .n c21), (22, .n c22), (23, .n c23), (24, .n c24), (25, .n c25), (26, .n c26)]

def cm : FuncId → Option ME := look cmL

theorem hcm : ∀ g m, cm g = some m → Good Try.prog g m := look_ok ⟨ok3, ok4, ok5, ok6, ok7, ok8, ok9, ok10, ok11, ok12, ok13, ok14, ok15, ok16, ok17, ok18, ok19, ok20, ok21, ok22, ok23, ok24, ok25, ok26, trivial⟩

end Go.Proofs.Ytmadcmmkbngemaa
