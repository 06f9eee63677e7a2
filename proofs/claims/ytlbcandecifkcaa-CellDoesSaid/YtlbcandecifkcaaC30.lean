/- The resolved code of the functions that are reached, as a program of ours has printed it; each is checked against the given program. -/
import Derived.KernelRfl
import Derived.Test.YtlbcandecifkcaaEng20
import Derived.Test.YtlbcandecifkcaaProg
namespace Go.Proofs.Ytlbcandecifkcaa
open Go

def c3b0 : MC := 
  (.seq 
  (.seq (.reg [] [⟨(some 25), (.mv (.t 5)), none⟩, ⟨(some 26), (.mv (.t 0)), none⟩, ⟨(some 27), (.len (.t 26)), none⟩, ⟨(some 28), (.bin .lss (.t 25) (.t 27)), none⟩]) (.cond (.t 28) .skip (.exit 0))) 
  (.seq (.block 1 
  (.seq (.reg [] [⟨(some 31), (.mv (.t 0)), none⟩, ⟨(some 32), (.mv (.t 5)), none⟩, ⟨(some 33), (.ixs (.t 31) (.t 32) 5), none⟩, ⟨(some 34), (.fa (.t 33) 1), none⟩, ⟨(some 35), (.ld (.t 34) none), none⟩, ⟨(some 36), (.bin .and (.t 35) (.c (.v (.int .i64 3)))), none⟩, ⟨(some 6), (.mv (.t 36)), none⟩]) 
  (.seq (.reg [] [⟨(some 38), (.mv (.t 3)), none⟩, ⟨(some 39), (.mv (.t 6)), none⟩, ⟨(some 40), (.call (.c (.f 8 [])) [(.t 38), (.t 39), (.c (.v (.int .i64 0)))]), none⟩, ⟨(some 37), (.mv (.t 40)), none⟩, ⟨(some 41), (.ext (.t 37) 0), none⟩, ⟨(some 42), (.ext (.t 37) 1), none⟩, ⟨(some 7), (.mv (.t 41)), none⟩, ⟨(some 8), (.mv (.t 42)), none⟩]) 
  (.seq 
  (.seq (.reg [] [⟨(some 43), (.mv (.t 7)), none⟩, ⟨(some 44), (.un .not (.t 43)), none⟩, ⟨(some 45), (.mv (.t 44)), none⟩, ⟨(some 46), (.mv (.t 8)), (some (45, false))⟩, ⟨(some 47), (.bin .neq (.t 46) (.c (.v (.int .i64 0)))), (some (45, false))⟩, ⟨(some 48), (.pick (.t 45) (.c (.v (.bool true))) (.t 47)), none⟩]) (.cond (.t 48) 
  (.seq (.reg [] [⟨(some 2), (.mv (.c (.v (.bool false)))), none⟩]) .ret) .skip)) 
  (.seq (.reg [] [⟨(some 50), (.mv (.t 3)), none⟩, ⟨(some 51), (.mv (.t 6)), none⟩, ⟨(some 52), (.bin .add (.t 51) (.c (.v (.int .i64 1)))), none⟩, ⟨(some 53), (.bin .and (.t 52) (.c (.v (.int .i64 3)))), none⟩, ⟨(some 54), (.call (.c (.f 8 [])) [(.t 50), (.t 53), (.c (.v (.int .i64 0)))]), none⟩, ⟨(some 49), (.mv (.t 54)), none⟩, ⟨(some 55), (.ext (.t 49) 0), none⟩, ⟨(some 56), (.ext (.t 49) 1), none⟩, ⟨(some 9), (.mv (.t 55)), none⟩, ⟨(some 10), (.mv (.t 56)), none⟩]) 
  (.seq 
  (.seq (.reg [] [⟨(some 57), (.mv (.t 9)), none⟩, ⟨(some 58), (.mv (.t 57)), none⟩, ⟨(some 59), (.mv (.t 10)), (some (58, false))⟩, ⟨(some 60), (.bin .neq (.t 59) (.c (.v (.int .i64 0)))), (some (58, false))⟩, ⟨(some 61), (.pick (.t 58) (.c (.v (.bool true))) (.t 60)), none⟩, ⟨(some 62), (.mv (.t 61)), none⟩, ⟨(some 63), (.mv (.t 3)), (some (62, false))⟩, ⟨(some 64), (.mv (.t 6)), (some (62, false))⟩, ⟨(some 65), (.bin .add (.t 64) (.c (.v (.int .i64 1)))), (some (62, false))⟩, ⟨(some 66), (.bin .and (.t 65) (.c (.v (.int .i64 3)))), (some (62, false))⟩, ⟨(some 67), (.call (.c (.f 9 [])) [(.t 63), (.t 66), (.c (.v (.int .i64 0)))]), (some (62, false))⟩, ⟨(some 68), (.bin .neq (.t 67) (.c (.v (.int .i64 2)))), (some (62, false))⟩, ⟨(some 69), (.pick (.t 62) (.c (.v (.bool true))) (.t 68)), none⟩]) (.cond (.t 69) 
  (.seq (.reg [] [⟨(some 2), (.mv (.c (.v (.bool false)))), none⟩]) .ret) .skip)) 
  (.seq 
  (.seq (.reg [] [⟨(some 70), (.mv (.t 0)), none⟩, ⟨(some 71), (.mv (.t 5)), none⟩, ⟨(some 72), (.ixs (.t 70) (.t 71) 5), none⟩, ⟨(some 73), (.fa (.t 72) 0), none⟩, ⟨(some 74), (.ld (.t 73) none), none⟩, ⟨(some 75), (.bin .rem (.t 74) (.c (.v (.int .i64 2)))), none⟩, ⟨(some 76), (.bin .eql (.t 75) (.c (.v (.int .i64 0)))), none⟩]) (.cond (.t 76) (.reg [] [⟨(some 77), (.mv (.t 3)), none⟩, ⟨(some 78), (.mv (.t 6)), none⟩, ⟨(some 79), (.call (.c (.f 10 [])) [(.t 77), (.t 78), (.c (.v (.int .i64 0)))]), none⟩, ⟨(some 8), (.mv (.t 79)), none⟩]) (.reg [] [⟨(some 80), (.mv (.t 3)), none⟩, ⟨(some 81), (.mv (.t 6)), none⟩, ⟨(some 82), (.call (.c (.f 11 [])) [(.t 80), (.t 81), (.c (.v (.int .i64 0)))]), none⟩, ⟨(some 8), (.mv (.t 82)), none⟩]))) 
  (.seq (.reg [] [⟨(some 83), (.mv (.t 8)), none⟩, ⟨(some 84), (.bin .neq (.t 83) (.c (.v (.int .i64 0)))), none⟩, ⟨(some 85), (.mv (.t 84)), none⟩, ⟨(some 86), (.mv (.t 3)), (some (85, false))⟩, ⟨(some 87), (.mv (.t 6)), (some (85, false))⟩, ⟨(some 88), (.call (.c (.f 9 [])) [(.t 86), (.t 87), (.c (.v (.int .i64 0)))]), (some (85, false))⟩, ⟨(some 89), (.bin .neq (.t 88) (.c (.v (.int .i64 0)))), (some (85, false))⟩, ⟨(some 90), (.pick (.t 85) (.c (.v (.bool true))) (.t 89)), none⟩]) (.cond (.t 90) 
  (.seq (.reg [] [⟨(some 2), (.mv (.c (.v (.bool false)))), none⟩]) .ret) .skip))))))))) (.reg [] [⟨(some 29), (.mv (.t 5)), none⟩, ⟨(some 30), (.bin .add (.t 29) (.c (.v (.int .i64 1)))), none⟩, ⟨(some 5), (.mv (.t 30)), none⟩])))

def c3 : MF := ⟨1, 98, 
  (.seq (.reg [] [⟨(some 2), (.mv (.c (.v (.bool false)))), none⟩]) 
  (.seq 
  (.seq (.reg [] [⟨(some 11), (.mv (.t 0)), none⟩, ⟨(some 12), (.len (.t 11)), none⟩, ⟨(some 13), (.bin .gtr (.t 12) (.c (.v (.int .i64 60)))), none⟩]) (.cond (.t 13) 
  (.seq (.reg [] [⟨(some 14), (.call (.c (.f 6 [])) []), none⟩, ⟨(some 2), (.mv (.t 14)), none⟩]) .ret) .skip)) 
  (.seq (.reg [] [⟨(some 16), (.call (.c (.f 7 [])) [(.c (.v (.int .i64 4))), (.c (.v (.int .i64 1))), (.c (.v (.int .i64 1))), (.c (.v (.int .i64 1)))]), none⟩, ⟨(some 15), (.mv (.t 16)), none⟩, ⟨(some 17), (.ext (.t 15) 0), none⟩, ⟨(some 18), (.ext (.t 15) 1), none⟩, ⟨(some 3), (.mv (.t 17)), none⟩, ⟨(some 4), (.mv (.t 18)), none⟩]) 
  (.seq 
  (.seq (.reg [] [⟨(some 19), (.mv (.t 4)), none⟩, ⟨(some 20), (.bin .neq (.t 19) (.c (.v (.int .i64 0)))), none⟩, ⟨(some 21), (.mv (.t 20)), none⟩, ⟨(some 22), (.mv (.t 3)), (some (21, false))⟩, ⟨(some 23), (.eqn false 3 (.t 22)), (some (21, false))⟩, ⟨(some 24), (.pick (.t 21) (.c (.v (.bool true))) (.t 23)), none⟩]) (.cond (.t 24) 
  (.seq (.reg [] [⟨(some 2), (.mv (.c (.v (.bool false)))), none⟩]) .ret) .skip)) 
  (.seq 
  (.seq (.reg [] [⟨(some 5), (.mv (.c (.v (.int .i64 0)))), none⟩]) (.block 0 
  (.loopN [30, 29, 2, 90, 89, 88, 87, 86, 85, 84, 83, 82, 81, 80, 79, 78, 77, 76, 75, 74, 73, 72, 71, 70, 69, 68, 67, 66, 65, 64, 63, 62, 61, 60, 59, 58, 57, 56, 55, 49, 54, 53, 52, 51, 50, 48, 47, 46, 45, 44, 43, 42, 41, 37, 40, 39, 38, 36, 35, 34, 33, 32, 31, 28, 27, 26, 25] c3b0))) 
  (.seq (.reg [] [⟨(some 91), (.mv (.t 3)), none⟩, ⟨(some 92), (.call (.c (.f 12 [])) [(.t 91)]), none⟩, ⟨(some 93), (.len (.t 92)), none⟩, ⟨(some 94), (.bin .eql (.t 93) (.c (.v (.int .i64 0)))), none⟩, ⟨(some 95), (.mv (.t 94)), none⟩, ⟨(some 96), (.call (.c (.f 6 [])) []), (some (95, true))⟩, ⟨(some 97), (.pick (.t 95) (.t 96) (.c (.v (.bool false)))), none⟩, ⟨(some 2), (.mv (.t 97)), none⟩]) .ret)))))), [(.t 2)]⟩

def c4b0 : MC := 
  (.seq 
  (.seq (.reg [] [⟨(some 91), (.mv (.t 8)), none⟩, ⟨(some 92), (.mv (.t 1)), none⟩, ⟨(some 93), (.len (.t 92)), none⟩, ⟨(some 94), (.bin .lss (.t 91) (.t 93)), none⟩]) (.cond (.t 94) .skip (.exit 0))) 
  (.seq (.block 1 
  (.seq (.reg [] [⟨(some 97), (.mv (.t 1)), none⟩, ⟨(some 98), (.mv (.t 8)), none⟩, ⟨(some 99), (.ixs (.t 97) (.t 98) 5), none⟩, ⟨(some 100), (.ld (.t 99) (some 5)), none⟩, ⟨(some 9), (.box (.c (.agg [(.v (.int .i64 0)), (.v (.int .i64 0)), (.v (.int .i64 0)), (.v (.int .i64 0)), (.v (.int .i64 0))]))), none⟩, ⟨none, (.st (.t 9) (.t 100) 5), none⟩]) 
  (.seq 
  (.seq (.reg [] [⟨(some 101), (.fa (.t 9) 0), none⟩, ⟨(some 102), (.ld (.t 101) none), none⟩, ⟨(some 103), (.bin .lss (.t 102) (.c (.v (.int .i64 0)))), none⟩, ⟨(some 104), (.mv (.t 103)), none⟩, ⟨(some 105), (.fa (.t 9) 0), (some (104, false))⟩, ⟨(some 106), (.ld (.t 105) none), (some (104, false))⟩, ⟨(some 107), (.bin .gtr (.t 106) (.c (.v (.int .i64 7)))), (some (104, false))⟩, ⟨(some 108), (.pick (.t 104) (.c (.v (.bool true))) (.t 107)), none⟩]) (.cond (.t 108) (.exit 1) .skip)) 
  (.seq (.reg [] [⟨(some 109), (.mv (.t 5)), none⟩, ⟨(some 110), (.ld (.t 9) (some 5)), none⟩, ⟨(some 111), (.call (.c (.f 13 [])) [(.t 109), (.t 110)]), none⟩, ⟨(some 10), (.box (.c (.agg [(.v (.int .i64 0)), (.v (.bool false)), (.v (.int .i64 0))]))), none⟩, ⟨none, (.st (.t 10) (.t 111) 3), none⟩]) 
  (.seq 
  (.seq (.reg [] [⟨(some 112), (.ld (.t 7) (some 6)), none⟩, ⟨(some 113), (.ld (.t 9) (some 5)), none⟩, ⟨(some 114), (.call (.c (.f 14 [])) [(.t 112), (.t 113)]), none⟩, ⟨(some 115), (.un .not (.t 114)), none⟩]) (.cond (.t 115) 
  (.seq 
  (.seq (.alt (.regM [(.p, ⟨(some 116), (.ld (.t 10) (some 3)), none⟩), (.p, ⟨(some 117), (.bld [(.v (.int .i64 0)), (.v (.bool false)), (.v (.int .i64 0))] [(2, (1, (.c (.v (.int .i64 2)))))]), none⟩), (.p, ⟨(some 118), (.eqv true true [.i, .b, .i] (.t 116) (.t 117)), none⟩), (.p, ⟨(some 119), (.mv (.t 118)), none⟩), (.p, ⟨(some 120), (.mv (.t 5)), (some (119, false))⟩), ((.r [0, 1, 2, 3, 4]), ⟨(some 121), (.call (.c (.f 15 [])) [(.t 120)]), (some (119, false))⟩), (.p, ⟨(some 122), (.fa (.t 7) 4), (some (119, false))⟩), (.p, ⟨(some 123), (.ld (.t 122) none), (some (119, false))⟩), (.p, ⟨(some 124), (.len (.t 123)), (some (119, false))⟩)] [⟨(some 125), (.bin .neq (.t 121) (.t 124)), (some (119, false))⟩, ⟨(some 126), (.pick (.t 119) (.c (.v (.bool true))) (.t 125)), none⟩]) (.reg [⟨(some 116), (.ld (.t 10) (some 3)), none⟩, ⟨(some 117), (.bld [(.v (.int .i64 0)), (.v (.bool false)), (.v (.int .i64 0))] [(2, (1, (.c (.v (.int .i64 2)))))]), none⟩, ⟨(some 118), (.eqv true true [.i, .b, .i] (.t 116) (.t 117)), none⟩, ⟨(some 119), (.mv (.t 118)), none⟩, ⟨(some 120), (.mv (.t 5)), (some (119, false))⟩, ⟨(some 121), (.call (.c (.f 15 [])) [(.t 120)]), (some (119, false))⟩, ⟨(some 122), (.fa (.t 7) 4), (some (119, false))⟩, ⟨(some 123), (.ld (.t 122) none), (some (119, false))⟩, ⟨(some 124), (.len (.t 123)), (some (119, false))⟩] [⟨(some 125), (.bin .neq (.t 121) (.t 124)), (some (119, false))⟩, ⟨(some 126), (.pick (.t 119) (.c (.v (.bool true))) (.t 125)), none⟩])) (.cond (.t 126) 
  (.seq (.reg [] [⟨(some 4), (.mv (.c (.v (.bool false)))), none⟩]) .ret) .skip)) (.exit 1)) .skip)) 
  (.seq (.reg [] [⟨(some 127), (.ld (.t 7) (some 6)), none⟩, ⟨(some 128), (.ld (.t 9) (some 5)), none⟩, ⟨(some 129), (.call (.c (.f 16 [])) [(.t 127), (.t 128)]), none⟩, ⟨none, (.st (.t 7) (.t 129) 6), none⟩]) 
  (.seq (.reg [] [⟨(some 130), (.fa (.t 7) 4), none⟩, ⟨(some 131), (.ld (.t 130) none), none⟩, ⟨(some 132), (.fa (.t 7) 4), none⟩, ⟨(some 133), (.ld (.t 132) none), none⟩, ⟨(some 134), (.len (.t 133)), none⟩, ⟨(some 135), (.bin .sub (.t 134) (.c (.v (.int .i64 1)))), none⟩, ⟨(some 136), (.ixs (.t 131) (.t 135) 9), none⟩, ⟨(some 137), (.ld (.t 136) (some 9)), none⟩, ⟨(some 11), (.box (.c (.agg [(.v (.int .i64 0)), (.v (.int .i64 0)), (.v (.int .i64 0)), (.v (.int .i64 0)), (.v (.int .i64 0)), (.v (.slice none 0 0)), (.v (.bool false)), (.v (.int .i64 0)), (.v (.bool false))]))), none⟩, ⟨none, (.st (.t 11) (.t 137) 9), none⟩]) 
  (.seq (.reg [] [⟨(some 138), (.fa (.t 11) 8), none⟩, ⟨(some 139), (.ld (.t 138) none), none⟩, ⟨(some 140), (.bld [(.v (.int .i64 0)), (.v (.bool false)), (.v (.int .i64 0))] [(1, (1, (.t 139)))]), none⟩, ⟨(some 12), (.box (.c (.agg [(.v (.int .i64 0)), (.v (.bool false)), (.v (.int .i64 0))]))), none⟩, ⟨none, (.st (.t 12) (.t 140) 3), none⟩]) 
  (.seq 
  (.seq (.reg [] [⟨(some 141), (.fa (.t 9) 0), none⟩, ⟨(some 142), (.ld (.t 141) none), none⟩, ⟨(some 143), (.bin .eql (.t 142) (.c (.v (.int .i64 0)))), none⟩, ⟨(some 144), (.mv (.t 143)), none⟩, ⟨(some 145), (.fa (.t 9) 0), (some (144, false))⟩, ⟨(some 146), (.ld (.t 145) none), (some (144, false))⟩, ⟨(some 147), (.bin .eql (.t 146) (.c (.v (.int .i64 3)))), (some (144, false))⟩, ⟨(some 148), (.pick (.t 144) (.c (.v (.bool true))) (.t 147)), none⟩]) (.cond (.t 148) (.reg [] [⟨(some 149), (.fa (.t 11) 7), none⟩, ⟨(some 150), (.ld (.t 149) none), none⟩, ⟨(some 151), (.fa (.t 12) 0), none⟩, ⟨none, (.st (.t 151) (.t 150) 1), none⟩]) .skip)) 
  (.seq (.alt (.regM [(.p, ⟨(some 152), (.ld (.t 10) (some 3)), none⟩), (.p, ⟨(some 153), (.ld (.t 12) (some 3)), none⟩), (.p, ⟨(some 154), (.eqv true true [.i, .b, .i] (.t 152) (.t 153)), none⟩), (.p, ⟨(some 155), (.mv (.t 154)), none⟩), (.p, ⟨(some 156), (.mv (.t 5)), (some (155, false))⟩), ((.r [0, 1, 2, 3, 4]), ⟨(some 157), (.call (.c (.f 15 [])) [(.t 156)]), (some (155, false))⟩), (.p, ⟨(some 158), (.fa (.t 7) 4), (some (155, false))⟩), (.p, ⟨(some 159), (.ld (.t 158) none), (some (155, false))⟩), (.p, ⟨(some 160), (.len (.t 159)), (some (155, false))⟩), (.p, ⟨(some 161), (.bin .neq (.t 157) (.t 160)), (some (155, false))⟩), (.p, ⟨(some 162), (.pick (.t 155) (.c (.v (.bool true))) (.t 161)), none⟩), (.p, ⟨(some 163), (.mv (.t 162)), none⟩), (.p, ⟨(some 164), (.mv (.t 5)), (some (163, false))⟩), ((.r [0, 1, 2, 3, 4, 5, 6, 7, 8, 9, 10, 11, 12]), ⟨(some 165), (.call (.c (.f 12 [])) [(.t 164)]), (some (163, false))⟩), (.p, ⟨(some 166), (.fa (.t 7) 5), (some (163, false))⟩), (.p, ⟨(some 167), (.ld (.t 166) none), (some (163, false))⟩)] [⟨(some 168), (.call (.c (.f 17 [])) [(.t 165), (.t 167)]), (some (163, false))⟩, ⟨(some 169), (.un .not (.t 168)), (some (163, false))⟩, ⟨(some 170), (.pick (.t 163) (.c (.v (.bool true))) (.t 169)), none⟩]) (.reg [⟨(some 152), (.ld (.t 10) (some 3)), none⟩, ⟨(some 153), (.ld (.t 12) (some 3)), none⟩, ⟨(some 154), (.eqv true true [.i, .b, .i] (.t 152) (.t 153)), none⟩, ⟨(some 155), (.mv (.t 154)), none⟩, ⟨(some 156), (.mv (.t 5)), (some (155, false))⟩, ⟨(some 157), (.call (.c (.f 15 [])) [(.t 156)]), (some (155, false))⟩, ⟨(some 158), (.fa (.t 7) 4), (some (155, false))⟩, ⟨(some 159), (.ld (.t 158) none), (some (155, false))⟩, ⟨(some 160), (.len (.t 159)), (some (155, false))⟩, ⟨(some 161), (.bin .neq (.t 157) (.t 160)), (some (155, false))⟩, ⟨(some 162), (.pick (.t 155) (.c (.v (.bool true))) (.t 161)), none⟩, ⟨(some 163), (.mv (.t 162)), none⟩, ⟨(some 164), (.mv (.t 5)), (some (163, false))⟩, ⟨(some 165), (.call (.c (.f 12 [])) [(.t 164)]), (some (163, false))⟩, ⟨(some 166), (.fa (.t 7) 5), (some (163, false))⟩, ⟨(some 167), (.ld (.t 166) none), (some (163, false))⟩] [⟨(some 168), (.call (.c (.f 17 [])) [(.t 165), (.t 167)]), (some (163, false))⟩, ⟨(some 169), (.un .not (.t 168)), (some (163, false))⟩, ⟨(some 170), (.pick (.t 163) (.c (.v (.bool true))) (.t 169)), none⟩])) (.cond (.t 170) 
  (.seq (.reg [] [⟨(some 4), (.mv (.c (.v (.bool false)))), none⟩]) .ret) .skip))))))))))) (.reg [] [⟨(some 95), (.mv (.t 8)), none⟩, ⟨(some 96), (.bin .add (.t 95) (.c (.v (.int .i64 1)))), none⟩, ⟨(some 8), (.mv (.t 96)), none⟩])))

def c4 : MF := ⟨2, 172, 
  (.seq (.reg [] [⟨(some 2), (.box (.t 0)), none⟩, ⟨(some 4), (.mv (.c (.v (.bool false)))), none⟩]) 
  (.seq 
  (.seq (.reg [] [⟨(some 13), (.mv (.t 1)), none⟩, ⟨(some 14), (.len (.t 13)), none⟩, ⟨(some 15), (.bin .gtr (.t 14) (.c (.v (.int .i64 60)))), none⟩, ⟨(some 16), (.mv (.t 15)), none⟩, ⟨(some 17), (.ixa (.t 2) (.c (.v (.int .i64 1))) 4 1), (some (16, false))⟩, ⟨(some 18), (.ld (.t 17) none), (some (16, false))⟩, ⟨(some 19), (.bin .gtr (.t 18) (.c (.v (.int .i64 65536)))), (some (16, false))⟩, ⟨(some 20), (.pick (.t 16) (.c (.v (.bool true))) (.t 19)), none⟩, ⟨(some 21), (.mv (.t 20)), none⟩, ⟨(some 22), (.ixa (.t 2) (.c (.v (.int .i64 2))) 4 1), (some (21, false))⟩, ⟨(some 23), (.ld (.t 22) none), (some (21, false))⟩, ⟨(some 24), (.bin .gtr (.t 23) (.c (.v (.int .i64 65536)))), (some (21, false))⟩, ⟨(some 25), (.pick (.t 21) (.c (.v (.bool true))) (.t 24)), none⟩, ⟨(some 26), (.mv (.t 25)), none⟩, ⟨(some 27), (.ixa (.t 2) (.c (.v (.int .i64 3))) 4 1), (some (26, false))⟩, ⟨(some 28), (.ld (.t 27) none), (some (26, false))⟩, ⟨(some 29), (.bin .gtr (.t 28) (.c (.v (.int .i64 65536)))), (some (26, false))⟩, ⟨(some 30), (.pick (.t 26) (.c (.v (.bool true))) (.t 29)), none⟩]) (.cond (.t 30) 
  (.seq (.reg [] [⟨(some 31), (.call (.c (.f 6 [])) []), none⟩, ⟨(some 4), (.mv (.t 31)), none⟩]) .ret) .skip)) 
  (.seq (.reg [] [⟨(some 33), (.ixa (.t 2) (.c (.v (.int .i64 0))) 4 1), none⟩, ⟨(some 34), (.ld (.t 33) none), none⟩, ⟨(some 35), (.ixa (.t 2) (.c (.v (.int .i64 1))) 4 1), none⟩, ⟨(some 36), (.ld (.t 35) none), none⟩, ⟨(some 37), (.ixa (.t 2) (.c (.v (.int .i64 2))) 4 1), none⟩, ⟨(some 38), (.ld (.t 37) none), none⟩, ⟨(some 39), (.ixa (.t 2) (.c (.v (.int .i64 3))) 4 1), none⟩, ⟨(some 40), (.ld (.t 39) none), none⟩, ⟨(some 41), (.call (.c (.f 7 [])) [(.t 34), (.t 36), (.t 38), (.t 40)]), none⟩, ⟨(some 32), (.mv (.t 41)), none⟩, ⟨(some 42), (.ext (.t 32) 0), none⟩, ⟨(some 43), (.ext (.t 32) 1), none⟩, ⟨(some 5), (.mv (.t 42)), none⟩, ⟨(some 6), (.mv (.t 43)), none⟩]) 
  (.seq 
  (.seq (.reg [] [⟨(some 44), (.ixa (.t 2) (.c (.v (.int .i64 0))) 4 1), none⟩, ⟨(some 45), (.ld (.t 44) none), none⟩, ⟨(some 46), (.bin .lss (.t 45) (.c (.v (.int .i64 1)))), none⟩, ⟨(some 47), (.mv (.t 46)), none⟩, ⟨(some 48), (.ixa (.t 2) (.c (.v (.int .i64 0))) 4 1), (some (47, false))⟩, ⟨(some 49), (.ld (.t 48) none), (some (47, false))⟩, ⟨(some 50), (.bin .gtr (.t 49) (.c (.v (.int .i64 80)))), (some (47, false))⟩, ⟨(some 51), (.pick (.t 47) (.c (.v (.bool true))) (.t 50)), none⟩, ⟨(some 52), (.mv (.t 51)), none⟩, ⟨(some 53), (.ixa (.t 2) (.c (.v (.int .i64 1))) 4 1), (some (52, false))⟩, ⟨(some 54), (.ld (.t 53) none), (some (52, false))⟩, ⟨(some 55), (.bin .lss (.t 54) (.c (.v (.int .i64 0)))), (some (52, false))⟩, ⟨(some 56), (.pick (.t 52) (.c (.v (.bool true))) (.t 55)), none⟩, ⟨(some 57), (.mv (.t 56)), none⟩, ⟨(some 58), (.ixa (.t 2) (.c (.v (.int .i64 2))) 4 1), (some (57, false))⟩, ⟨(some 59), (.ld (.t 58) none), (some (57, false))⟩, ⟨(some 60), (.bin .lss (.t 59) (.c (.v (.int .i64 0)))), (some (57, false))⟩, ⟨(some 61), (.pick (.t 57) (.c (.v (.bool true))) (.t 60)), none⟩, ⟨(some 62), (.mv (.t 61)), none⟩, ⟨(some 63), (.ixa (.t 2) (.c (.v (.int .i64 3))) 4 1), (some (62, false))⟩, ⟨(some 64), (.ld (.t 63) none), (some (62, false))⟩, ⟨(some 65), (.bin .lss (.t 64) (.c (.v (.int .i64 0)))), (some (62, false))⟩, ⟨(some 66), (.pick (.t 62) (.c (.v (.bool true))) (.t 65)), none⟩]) (.cond (.t 66) 
  (.seq (.reg [] [⟨(some 67), (.mv (.t 5)), none⟩, ⟨(some 68), (.eqn false 3 (.t 67)), none⟩, ⟨(some 69), (.mv (.t 68)), none⟩, ⟨(some 70), (.mv (.t 6)), (some (69, true))⟩, ⟨(some 71), (.bin .eql (.t 70) (.c (.v (.int .i64 2)))), (some (69, true))⟩, ⟨(some 72), (.pick (.t 69) (.t 71) (.c (.v (.bool false)))), none⟩, ⟨(some 73), (.mv (.t 72)), none⟩, ⟨(some 74), (.call (.c (.f 6 [])) []), (some (73, true))⟩, ⟨(some 75), (.pick (.t 73) (.t 74) (.c (.v (.bool false)))), none⟩, ⟨(some 4), (.mv (.t 75)), none⟩]) .ret) .skip)) 
  (.seq 
  (.seq (.reg [] [⟨(some 76), (.mv (.t 6)), none⟩, ⟨(some 77), (.bin .neq (.t 76) (.c (.v (.int .i64 0)))), none⟩, ⟨(some 78), (.mv (.t 77)), none⟩, ⟨(some 79), (.mv (.t 5)), (some (78, false))⟩, ⟨(some 80), (.eqn false 3 (.t 79)), (some (78, false))⟩, ⟨(some 81), (.pick (.t 78) (.c (.v (.bool true))) (.t 80)), none⟩]) (.cond (.t 81) 
  (.seq (.reg [] [⟨(some 4), (.mv (.c (.v (.bool false)))), none⟩]) .ret) .skip)) 
  (.seq (.reg [] [⟨(some 82), (.ixa (.t 2) (.c (.v (.int .i64 0))) 4 1), none⟩, ⟨(some 83), (.ld (.t 82) none), none⟩, ⟨(some 84), (.ixa (.t 2) (.c (.v (.int .i64 1))) 4 1), none⟩, ⟨(some 85), (.ld (.t 84) none), none⟩, ⟨(some 86), (.ixa (.t 2) (.c (.v (.int .i64 2))) 4 1), none⟩, ⟨(some 87), (.ld (.t 86) none), none⟩, ⟨(some 88), (.ixa (.t 2) (.c (.v (.int .i64 3))) 4 1), none⟩, ⟨(some 89), (.ld (.t 88) none), none⟩, ⟨(some 90), (.bld [(.v (.int .i64 0)), (.v (.int .i64 0)), (.v (.int .i64 0)), (.v (.int .i64 0)), (.v (.slice none 0 0)), (.v (.slice none 0 0))] [(0, (1, (.t 83))), (1, (1, (.t 85))), (2, (1, (.t 87))), (3, (1, (.t 89)))]), none⟩, ⟨(some 7), (.box (.c (.agg [(.v (.int .i64 0)), (.v (.int .i64 0)), (.v (.int .i64 0)), (.v (.int .i64 0)), (.v (.slice none 0 0)), (.v (.slice none 0 0))]))), none⟩, ⟨none, (.st (.t 7) (.t 90) 6), none⟩]) 
  (.seq 
  (.seq (.reg [] [⟨(some 8), (.mv (.c (.v (.int .i64 0)))), none⟩]) (.block 0 
  (.loopN [96, 95, 4, 170, 169, 168, 167, 166, 165, 164, 163, 162, 161, 160, 159, 158, 157, 156, 155, 154, 153, 152, 151, 150, 149, 148, 147, 146, 145, 144, 143, 142, 141, 140, 139, 138, 137, 136, 135, 134, 133, 132, 131, 130, 129, 128, 127, 126, 125, 124, 123, 122, 121, 120, 119, 118, 117, 116, 115, 114, 113, 112, 111, 110, 109, 108, 107, 106, 105, 104, 103, 102, 101, 100, 99, 98, 97, 94, 93, 92, 91] c4b0))) 
  (.seq (.reg [] [⟨(some 171), (.call (.c (.f 6 [])) []), none⟩, ⟨(some 4), (.mv (.t 171)), none⟩]) .ret)))))))), [(.t 4)]⟩

def c5 : MF := ⟨1, 32, 
  (.seq (.reg [] [⟨(some 1), (.box (.t 0)), none⟩, ⟨(some 2), (.mv (.c (.v (.bool false)))), none⟩]) 
  (.seq (.reg [] [⟨(some 3), (.mv (.c (.v (.pointer none)))), none⟩]) 
  (.seq 
  (.seq (.reg [] [⟨(some 4), (.fa (.t 1) 0), none⟩, ⟨(some 5), (.ld (.t 4) none), none⟩, ⟨(some 6), (.bin .lss (.t 5) (.c (.v (.int .i64 0)))), none⟩, ⟨(some 7), (.mv (.t 6)), none⟩, ⟨(some 8), (.fa (.t 1) 0), (some (7, false))⟩, ⟨(some 9), (.ld (.t 8) none), (some (7, false))⟩, ⟨(some 10), (.bin .gtr (.t 9) (.c (.v (.int .i64 7)))), (some (7, false))⟩, ⟨(some 11), (.pick (.t 7) (.c (.v (.bool true))) (.t 10)), none⟩]) (.cond (.t 11) 
  (.seq (.reg [] [⟨(some 12), (.call (.c (.f 6 [])) []), none⟩, ⟨(some 2), (.mv (.t 12)), none⟩]) .ret) .skip)) 
  (.seq (.reg [] [⟨(some 13), (.mv (.t 3)), none⟩, ⟨(some 14), (.ld (.t 1) (some 5)), none⟩, ⟨(some 15), (.call (.c (.f 13 [])) [(.t 13), (.t 14)]), none⟩, ⟨(some 16), (.bld [(.v (.int .i64 0)), (.v (.bool false)), (.v (.int .i64 0))] [(2, (1, (.c (.v (.int .i64 1)))))]), none⟩, ⟨(some 17), (.eqv false true [.i, .b, .i] (.t 15) (.t 16)), none⟩, ⟨(some 18), (.mv (.t 17)), none⟩, ⟨(some 19), (.mv (.t 3)), (some (18, true))⟩, ⟨(some 20), (.call (.c (.f 12 [])) [(.t 19)]), (some (18, true))⟩, ⟨(some 21), (.len (.t 20)), (some (18, true))⟩, ⟨(some 22), (.bin .eql (.t 21) (.c (.v (.int .i64 0)))), (some (18, true))⟩, ⟨(some 23), (.pick (.t 18) (.t 22) (.c (.v (.bool false)))), none⟩, ⟨(some 24), (.mv (.t 23)), none⟩, ⟨(some 25), (.mv (.t 3)), (some (24, true))⟩, ⟨(some 26), (.call (.c (.f 15 [])) [(.t 25)]), (some (24, true))⟩, ⟨(some 27), (.bin .eql (.t 26) (.c (.v (.int .i64 0)))), (some (24, true))⟩, ⟨(some 28), (.pick (.t 24) (.t 27) (.c (.v (.bool false)))), none⟩, ⟨(some 29), (.mv (.t 28)), none⟩, ⟨(some 30), (.call (.c (.f 6 [])) []), (some (29, true))⟩, ⟨(some 31), (.pick (.t 29) (.t 30) (.c (.v (.bool false)))), none⟩, ⟨(some 2), (.mv (.t 31)), none⟩]) .ret)))), [(.t 2)]⟩

def c6 : MF := ⟨0, 62, 
  (.seq (.reg [] [⟨(some 0), (.mv (.c (.v (.bool false)))), none⟩]) 
  (.seq (.reg [] [⟨(some 8), (.call (.c (.f 7 [])) [(.c (.v (.int .i64 2))), (.c (.v (.int .i64 1))), (.c (.v (.int .i64 1))), (.c (.v (.int .i64 1)))]), none⟩, ⟨(some 7), (.mv (.t 8)), none⟩, ⟨(some 9), (.ext (.t 7) 0), none⟩, ⟨(some 10), (.ext (.t 7) 1), none⟩, ⟨(some 1), (.mv (.t 9)), none⟩, ⟨(some 2), (.mv (.t 10)), none⟩]) 
  (.seq 
  (.seq (.reg [] [⟨(some 11), (.mv (.t 2)), none⟩, ⟨(some 12), (.bin .neq (.t 11) (.c (.v (.int .i64 0)))), none⟩, ⟨(some 13), (.mv (.t 12)), none⟩, ⟨(some 14), (.mv (.t 1)), (some (13, false))⟩, ⟨(some 15), (.eqn false 3 (.t 14)), (some (13, false))⟩, ⟨(some 16), (.pick (.t 13) (.c (.v (.bool true))) (.t 15)), none⟩]) (.cond (.t 16) 
  (.seq (.reg [] [⟨(some 0), (.mv (.c (.v (.bool false)))), none⟩]) .ret) .skip)) 
  (.seq (.reg [] [⟨(some 17), (.mv (.t 1)), none⟩, ⟨(some 18), (.call (.c (.f 11 [])) [(.t 17), (.c (.v (.int .i64 0))), (.c (.v (.int .i64 0)))]), none⟩]) 
  (.seq (.reg [] [⟨(some 19), (.mv (.t 1)), none⟩, ⟨(some 20), (.call (.c (.f 18 [])) [(.t 19), (.c (.v (.int .i64 0))), (.c (.v (.int .i64 0))), (.c (.v (.int .i64 7)))]), none⟩]) 
  (.seq (.reg [] [⟨(some 22), (.mv (.t 1)), none⟩, ⟨(some 23), (.call (.c (.f 19 [])) [(.t 22), (.c (.v (.int .i64 1))), (.c (.v (.int .i64 0)))]), none⟩, ⟨(some 21), (.mv (.t 23)), none⟩, ⟨(some 24), (.ext (.t 21) 0), none⟩, ⟨(some 25), (.ext (.t 21) 1), none⟩, ⟨(some 3), (.mv (.t 24)), none⟩, ⟨(some 4), (.mv (.t 25)), none⟩]) 
  (.seq (.reg [] [⟨(some 26), (.mv (.t 1)), none⟩, ⟨(some 27), (.call (.c (.f 10 [])) [(.t 26), (.c (.v (.int .i64 1))), (.c (.v (.int .i64 0)))]), none⟩]) 
  (.seq (.reg [] [⟨(some 28), (.mv (.t 1)), none⟩, ⟨(some 29), (.call (.c (.f 12 [])) [(.t 28)]), none⟩, ⟨(some 30), (.len (.t 29)), none⟩, ⟨(some 31), (.bin .eql (.t 30) (.c (.v (.int .i64 0)))), none⟩, ⟨(some 5), (.mv (.t 31)), none⟩]) 
  (.seq (.reg [] [⟨(some 32), (.mv (.t 1)), none⟩, ⟨(some 33), (.call (.c (.f 11 [])) [(.t 32), (.c (.v (.int .i64 0))), (.c (.v (.int .i64 0)))]), none⟩]) 
  (.seq (.reg [] [⟨(some 34), (.mv (.t 1)), none⟩, ⟨(some 35), (.call (.c (.f 12 [])) [(.t 34)]), none⟩, ⟨(some 6), (.mv (.t 35)), none⟩]) 
  (.seq (.reg [] [⟨(some 36), (.mv (.t 4)), none⟩, ⟨(some 37), (.bin .eql (.t 36) (.c (.v (.int .i64 0)))), none⟩, ⟨(some 38), (.mv (.t 37)), none⟩, ⟨(some 39), (.mv (.t 3)), (some (38, true))⟩, ⟨(some 40), (.bin .eql (.t 39) (.c (.v (.int .i64 7)))), (some (38, true))⟩, ⟨(some 41), (.pick (.t 38) (.t 40) (.c (.v (.bool false)))), none⟩, ⟨(some 42), (.mv (.t 41)), none⟩, ⟨(some 43), (.mv (.t 5)), (some (42, true))⟩, ⟨(some 44), (.pick (.t 42) (.t 43) (.c (.v (.bool false)))), none⟩, ⟨(some 45), (.mv (.t 44)), none⟩, ⟨(some 46), (.mv (.t 6)), (some (45, true))⟩, ⟨(some 47), (.len (.t 46)), (some (45, true))⟩, ⟨(some 48), (.bin .eql (.t 47) (.c (.v (.int .i64 1)))), (some (45, true))⟩, ⟨(some 49), (.pick (.t 45) (.t 48) (.c (.v (.bool false)))), none⟩, ⟨(some 50), (.mv (.t 49)), none⟩, ⟨(some 51), (.mv (.t 6)), (some (50, true))⟩, ⟨(some 52), (.ixs (.t 51) (.c (.v (.int .i64 0))) 3), (some (50, true))⟩, ⟨(some 53), (.ld (.t 52) (some 3)), (some (50, true))⟩, ⟨(some 54), (.bld [(.v (.int .i64 0)), (.v (.int .i64 0)), (.v (.int .i64 0))] [(0, (1, (.c (.v (.int .i64 0))))), (1, (1, (.c (.v (.int .i64 1))))), (2, (1, (.c (.v (.int .i64 0)))))]), (some (50, true))⟩, ⟨(some 55), (.eqv false true [.i, .i, .i] (.t 53) (.t 54)), (some (50, true))⟩, ⟨(some 56), (.pick (.t 50) (.t 55) (.c (.v (.bool false)))), none⟩, ⟨(some 57), (.mv (.t 56)), none⟩, ⟨(some 58), (.mv (.t 1)), (some (57, true))⟩, ⟨(some 59), (.call (.c (.f 15 [])) [(.t 58)]), (some (57, true))⟩, ⟨(some 60), (.bin .eql (.t 59) (.c (.v (.int .i64 5)))), (some (57, true))⟩, ⟨(some 61), (.pick (.t 57) (.t 60) (.c (.v (.bool false)))), none⟩, ⟨(some 0), (.mv (.t 61)), none⟩]) .ret))))))))))), [(.t 0)]⟩

def c7b0 : MC := 
  (.seq (.reg [] [⟨(some 65), (.bin .lss (.t 64) (.t 63)), none⟩]) 
  (.seq (.cond (.t 65) .skip (.exit 4)) 
  (.seq (.block 5 
  (.seq (.reg [] [⟨(some 66), (.mv (.t 64)), none⟩, ⟨(some 13), (.mv (.t 66)), none⟩]) (.reg [] [⟨(some 67), (.mv (.t 12)), none⟩, ⟨(some 68), (.nilc (.t 67)), none⟩, ⟨(some 69), (.fa (.t 68) 3), none⟩, ⟨(some 70), (.ld (.t 69) none), none⟩, ⟨(some 71), (.mv (.t 13)), none⟩, ⟨(some 72), (.ixs (.t 70) (.t 71) 2), none⟩, ⟨(some 73), (.fa (.t 72) 0), none⟩, ⟨none, (.st (.t 73) (.c (.v (.int .i64 (-1)))) 1), none⟩]))) (.reg [] [⟨(some 74), (.bin .add (.t 64) (.c (.v (.int .i64 1)))), none⟩, ⟨(some 64), (.mv (.t 74)), none⟩]))))

def c7b1 : MC := 
  (.seq (.reg [] [⟨(some 46), (.bin .lss (.t 45) (.t 44)), none⟩]) 
  (.seq (.cond (.t 46) .skip (.exit 2)) 
  (.seq (.block 3 (.regM [(.p, ⟨(some 47), (.mv (.t 12)), none⟩), (.p, ⟨(some 48), (.mv (.t 12)), none⟩), (.p, ⟨(some 49), (.nilc (.t 48)), none⟩), (.p, ⟨(some 50), (.fa (.t 49) 0), none⟩), (.p, ⟨(some 51), (.ld (.t 50) none), none⟩), (.p, ⟨(some 52), (.mv (.t 0)), none⟩), ((.m 0), ⟨(some 53), (.mks (.t 52) (.t 52) [(.v (.int .i64 0))] 1 8), none⟩), (.p, ⟨(some 54), (.bsl [(.v (.slice none 0 0))] 1 [(0, (1, (.t 53)))]), none⟩), ((.r [1, 2, 3, 4, 5, 6, 7]), ⟨(some 55), (.app (.t 51) (.t 54) 1 24), none⟩)] [⟨(some 56), (.nilc (.t 47)), none⟩, ⟨(some 57), (.fa (.t 56) 0), none⟩, ⟨none, (.st (.t 57) (.t 55) 1), none⟩])) (.reg [] [⟨(some 58), (.bin .add (.t 45) (.c (.v (.int .i64 1)))), none⟩, ⟨(some 45), (.mv (.t 58)), none⟩]))))

def c7b2 : MC := 
  (.seq (.reg [] [⟨(some 26), (.bin .lss (.t 25) (.t 24)), none⟩]) 
  (.seq (.cond (.t 26) .skip (.exit 0)) 
  (.seq (.block 1 
  (.seq (.reg [] [⟨(some 27), (.ixs (.t 23) (.t 25) 1), none⟩, ⟨(some 28), (.ld (.t 27) none), none⟩, ⟨(some 11), (.mv (.t 28)), none⟩]) 
  (.seq (.reg [] [⟨(some 29), (.mv (.t 11)), none⟩, ⟨(some 30), (.bin .lss (.t 29) (.c (.v (.int .i64 0)))), none⟩, ⟨(some 31), (.mv (.t 30)), none⟩, ⟨(some 32), (.mv (.t 11)), (some (31, false))⟩, ⟨(some 33), (.bin .gtr (.t 32) (.c (.v (.int .i64 65536)))), (some (31, false))⟩, ⟨(some 34), (.pick (.t 31) (.c (.v (.bool true))) (.t 33)), none⟩]) (.cond (.t 34) 
  (.seq (.reg [] [⟨(some 8), (.mv (.c (.v (.pointer none)))), none⟩, ⟨(some 9), (.mv (.c (.v (.int .i64 2)))), none⟩]) .ret) .skip)))) (.reg [] [⟨(some 35), (.bin .add (.t 25) (.c (.v (.int .i64 1)))), none⟩, ⟨(some 25), (.mv (.t 35)), none⟩]))))

def c7 : MF := ⟨4, 76, 
  (.seq (.reg [] [⟨(some 8), (.mv (.c (.v (.pointer none)))), none⟩, ⟨(some 9), (.mv (.c (.v (.int .i64 0)))), none⟩]) 
  (.seq 
  (.seq (.reg [] [⟨(some 14), (.mv (.t 0)), none⟩, ⟨(some 15), (.bin .lss (.t 14) (.c (.v (.int .i64 1)))), none⟩, ⟨(some 16), (.mv (.t 15)), none⟩, ⟨(some 17), (.mv (.t 0)), (some (16, false))⟩, ⟨(some 18), (.bin .gtr (.t 17) (.c (.v (.int .i64 80)))), (some (16, false))⟩, ⟨(some 19), (.pick (.t 16) (.c (.v (.bool true))) (.t 18)), none⟩]) (.cond (.t 19) 
  (.seq (.reg [] [⟨(some 8), (.mv (.c (.v (.pointer none)))), none⟩, ⟨(some 9), (.mv (.c (.v (.int .i64 2)))), none⟩]) .ret) .skip)) 
  (.seq 
  (.seq (.reg [] [⟨(some 20), (.mv (.t 1)), none⟩, ⟨(some 21), (.mv (.t 2)), none⟩, ⟨(some 22), (.mv (.t 3)), none⟩, ⟨(some 23), (.bsl [(.v (.int .i64 0))] 3 [(0, (1, (.t 20))), (1, (1, (.t 21))), (2, (1, (.t 22)))]), none⟩, ⟨(some 24), (.len (.t 23)), none⟩, ⟨(some 25), (.mv (.c (.v (.int .i64 0)))), none⟩]) (.block 0 
  (.loopN [35, 9, 8, 34, 33, 32, 31, 30, 29, 28, 27, 26] c7b2))) 
  (.seq (.regM [(.p, ⟨(some 36), (.mv (.t 1)), none⟩), ((.m 0), ⟨(some 37), (.mks (.t 36) (.t 36) [(.v (.int .i64 0)), (.v (.slice none 0 0))] 2 32), none⟩), (.p, ⟨(some 38), (.mv (.t 2)), none⟩), ((.m 1), ⟨(some 39), (.mks (.t 38) (.t 38) [(.v (.slice none 0 0)), (.v (.slice none 0 0))] 2 48), none⟩), (.p, ⟨(some 40), (.mv (.t 3)), none⟩), ((.m 2), ⟨(some 41), (.mks (.t 40) (.t 40) [(.v (.int .i64 0)), (.v (.slice none 0 0))] 2 32), none⟩)] [⟨(some 42), (.bld [(.v (.slice none 0 0)), (.v (.slice none 0 0)), (.v (.slice none 0 0)), (.v (.slice none 0 0)), (.v (.slice none 0 0)), (.v (.int .i64 0))] [(1, (1, (.t 37))), (2, (1, (.t 39))), (3, (1, (.t 41)))]), none⟩, ⟨(some 43), (.box (.t 42)), none⟩, ⟨(some 12), (.mv (.t 43)), none⟩]) 
  (.seq 
  (.seq (.reg [] [⟨(some 44), (.mv (.t 0)), none⟩, ⟨(some 45), (.mv (.c (.v (.int .i64 0)))), none⟩]) (.block 2 
  (.loopN [58, 57, 56, 55, 54, 53, 52, 51, 50, 49, 48, 47, 46] c7b1))) 
  (.seq 
  (.seq (.reg [] [⟨(some 59), (.mv (.t 12)), none⟩, ⟨(some 60), (.nilc (.t 59)), none⟩, ⟨(some 61), (.fa (.t 60) 3), none⟩, ⟨(some 62), (.ld (.t 61) none), none⟩, ⟨(some 63), (.len (.t 62)), none⟩, ⟨(some 64), (.mv (.c (.v (.int .i64 0)))), none⟩]) (.block 4 
  (.loopN [74, 73, 72, 71, 70, 69, 68, 67, 66, 65] c7b0))) 
  (.seq (.reg [] [⟨(some 75), (.mv (.t 12)), none⟩, ⟨(some 8), (.mv (.t 75)), none⟩, ⟨(some 9), (.mv (.c (.v (.int .i64 0)))), none⟩]) .ret))))))), [(.t 8), (.t 9)]⟩

def c8 : MF := ⟨3, 51, 
  (.seq (.reg [] [⟨(some 6), (.mv (.c (.v (.bool false)))), none⟩, ⟨(some 7), (.mv (.c (.v (.int .i64 0)))), none⟩]) 
  (.seq 
  (.seq (.reg [] [⟨(some 9), (.mv (.t 0)), none⟩, ⟨(some 10), (.mv (.t 1)), none⟩, ⟨(some 11), (.mv (.t 2)), none⟩, ⟨(some 12), (.mv (.t 0)), none⟩, ⟨(some 13), (.call (.c (.f 21 [])) [(.t 12), (.c (.f 22 []))]), none⟩, ⟨(some 14), (.call (.c (.f 20 [])) [(.t 9), (.t 10), (.t 11), (.t 13)]), none⟩, ⟨(some 8), (.mv (.t 14)), none⟩]) 
  (.seq (.reg [] [⟨(some 15), (.mv (.t 8)), none⟩, ⟨(some 16), (.bin .neq (.t 15) (.c (.v (.int .i64 0)))), none⟩]) (.cond (.t 16) 
  (.seq (.reg [] [⟨(some 17), (.mv (.t 8)), none⟩, ⟨(some 6), (.mv (.c (.v (.bool false)))), none⟩, ⟨(some 7), (.mv (.t 17)), none⟩]) .ret) .skip))) 
  (.seq 
  (.seq (.reg [] [⟨(some 18), (.mv (.t 0)), none⟩, ⟨(some 19), (.nilc (.t 18)), none⟩, ⟨(some 20), (.fa (.t 19) 3), none⟩, ⟨(some 21), (.ld (.t 20) none), none⟩, ⟨(some 22), (.mv (.t 2)), none⟩, ⟨(some 23), (.ixs (.t 21) (.t 22) 2), none⟩, ⟨(some 24), (.fa (.t 23) 0), none⟩, ⟨(some 25), (.ld (.t 24) none), none⟩, ⟨(some 26), (.bin .neq (.t 25) (.c (.v (.int .i64 (-1))))), none⟩]) (.cond (.t 26) 
  (.seq (.reg [] [⟨(some 6), (.mv (.c (.v (.bool false)))), none⟩, ⟨(some 7), (.mv (.c (.v (.int .i64 0)))), none⟩]) .ret) .skip)) 
  (.seq (.reg [] [⟨(some 27), (.mv (.t 0)), none⟩, ⟨(some 28), (.nilc (.t 27)), none⟩, ⟨(some 29), (.fa (.t 28) 3), none⟩, ⟨(some 30), (.ld (.t 29) none), none⟩, ⟨(some 31), (.mv (.t 2)), none⟩, ⟨(some 32), (.mv (.t 1)), none⟩, ⟨(some 33), (.ixs (.t 30) (.t 31) 2), none⟩, ⟨(some 34), (.fa (.t 33) 0), none⟩, ⟨none, (.st (.t 34) (.t 32) 1), none⟩]) 
  (.seq (.reg [⟨(some 35), (.mv (.t 0)), none⟩, ⟨(some 36), (.nilc (.t 35)), none⟩, ⟨(some 37), (.fa (.t 36) 0), none⟩, ⟨(some 38), (.ld (.t 37) none), none⟩, ⟨(some 39), (.mv (.t 1)), none⟩, ⟨(some 40), (.ixs (.t 38) (.t 39) 1), none⟩, ⟨(some 41), (.ld (.t 40) none), none⟩, ⟨(some 42), (.mv (.t 0)), none⟩, ⟨(some 43), (.nilc (.t 42)), none⟩, ⟨(some 44), (.fa (.t 43) 3), none⟩, ⟨(some 45), (.ld (.t 44) none), none⟩, ⟨(some 46), (.mv (.t 2)), none⟩, ⟨(some 47), (.ixs (.t 45) (.t 46) 2), none⟩, ⟨(some 48), (.fa (.t 47) 1), none⟩, ⟨(some 49), (.ld (.t 48) none), none⟩] [⟨(some 50), (.call (.c (.f 23 [])) [(.t 41), (.t 49)]), none⟩]) 
  (.seq (.reg [] [⟨(some 6), (.mv (.c (.v (.bool true)))), none⟩, ⟨(some 7), (.mv (.c (.v (.int .i64 0)))), none⟩]) .ret)))))), [(.t 6), (.t 7)]⟩

def c9 : MF := ⟨3, 53, 
  (.seq (.reg [] [⟨(some 6), (.mv (.c (.v (.int .i64 0)))), none⟩]) 
  (.seq (.reg [] [⟨(some 9), (.mv (.t 0)), none⟩, ⟨(some 10), (.call (.c (.f 21 [])) [(.t 9), (.c (.f 22 []))]), none⟩, ⟨(some 7), (.mv (.t 10)), none⟩]) 
  (.seq 
  (.seq (.reg [] [⟨(some 11), (.mv (.t 2)), none⟩, ⟨(some 12), (.bin .geq (.t 11) (.c (.v (.int .i64 0)))), none⟩, ⟨(some 13), (.mv (.t 12)), none⟩, ⟨(some 14), (.mv (.t 2)), (some (13, true))⟩, ⟨(some 15), (.mv (.t 7)), (some (13, true))⟩, ⟨(some 16), (.bin .lss (.t 14) (.t 15)), (some (13, true))⟩, ⟨(some 17), (.pick (.t 13) (.t 16) (.c (.v (.bool false)))), none⟩, ⟨(some 18), (.mv (.t 17)), none⟩, ⟨(some 19), (.mv (.t 0)), (some (18, true))⟩, ⟨(some 20), (.nilc (.t 19)), (some (18, true))⟩, ⟨(some 21), (.fa (.t 20) 3), (some (18, true))⟩, ⟨(some 22), (.ld (.t 21) none), (some (18, true))⟩, ⟨(some 23), (.mv (.t 2)), (some (18, true))⟩, ⟨(some 24), (.ixs (.t 22) (.t 23) 2), (some (18, true))⟩, ⟨(some 25), (.fa (.t 24) 0), (some (18, true))⟩, ⟨(some 26), (.ld (.t 25) none), (some (18, true))⟩, ⟨(some 27), (.mv (.t 1)), (some (18, true))⟩, ⟨(some 28), (.bin .neq (.t 26) (.t 27)), (some (18, true))⟩, ⟨(some 29), (.pick (.t 18) (.t 28) (.c (.v (.bool false)))), none⟩]) (.cond (.t 29) 
  (.seq (.reg [] [⟨(some 6), (.mv (.c (.v (.int .i64 2)))), none⟩]) .ret) .skip)) 
  (.seq 
  (.seq (.reg [] [⟨(some 30), (.mv (.t 0)), none⟩, ⟨(some 31), (.mv (.t 1)), none⟩, ⟨(some 32), (.mv (.t 2)), none⟩, ⟨(some 33), (.mv (.t 7)), none⟩, ⟨(some 34), (.call (.c (.f 20 [])) [(.t 30), (.t 31), (.t 32), (.t 33)]), none⟩, ⟨(some 8), (.mv (.t 34)), none⟩]) 
  (.seq (.reg [] [⟨(some 35), (.mv (.t 8)), none⟩, ⟨(some 36), (.bin .neq (.t 35) (.c (.v (.int .i64 0)))), none⟩]) (.cond (.t 36) 
  (.seq (.reg [] [⟨(some 37), (.mv (.t 8)), none⟩, ⟨(some 6), (.mv (.t 37)), none⟩]) .ret) .skip))) 
  (.seq (.alt (.regM [(.p, ⟨(some 38), (.mv (.t 0)), none⟩), (.p, ⟨(some 39), (.nilc (.t 38)), none⟩), (.p, ⟨(some 40), (.fa (.t 39) 3), none⟩), (.p, ⟨(some 41), (.ld (.t 40) none), none⟩), (.p, ⟨(some 42), (.mv (.t 2)), none⟩), (.p, ⟨(some 43), (.mv (.t 0)), none⟩), (.p, ⟨(some 44), (.nilc (.t 43)), none⟩), (.p, ⟨(some 45), (.fa (.t 44) 0), none⟩), (.p, ⟨(some 46), (.ld (.t 45) none), none⟩), (.p, ⟨(some 47), (.mv (.t 1)), none⟩), (.p, ⟨(some 48), (.ixs (.t 46) (.t 47) 1), none⟩), (.p, ⟨(some 49), (.ld (.t 48) none), none⟩), ((.r [5, 6, 7, 8, 9, 10, 11]), ⟨(some 50), (.call (.c (.f 24 [])) [(.t 49)]), none⟩), (.p, ⟨(some 51), (.bld [(.v (.int .i64 0)), (.v (.slice none 0 0))] [(0, (1, (.c (.v (.int .i64 (-1)))))), (1, (1, (.t 50)))]), none⟩)] [⟨(some 52), (.ixs (.t 41) (.t 42) 2), none⟩, ⟨none, (.st (.t 52) (.t 51) 2), none⟩]) (.reg [⟨(some 38), (.mv (.t 0)), none⟩, ⟨(some 39), (.nilc (.t 38)), none⟩, ⟨(some 40), (.fa (.t 39) 3), none⟩, ⟨(some 41), (.ld (.t 40) none), none⟩, ⟨(some 42), (.mv (.t 2)), none⟩, ⟨(some 43), (.mv (.t 0)), none⟩, ⟨(some 44), (.nilc (.t 43)), none⟩, ⟨(some 45), (.fa (.t 44) 0), none⟩, ⟨(some 46), (.ld (.t 45) none), none⟩, ⟨(some 47), (.mv (.t 1)), none⟩, ⟨(some 48), (.ixs (.t 46) (.t 47) 1), none⟩, ⟨(some 49), (.ld (.t 48) none), none⟩, ⟨(some 50), (.call (.c (.f 24 [])) [(.t 49)]), none⟩, ⟨(some 51), (.bld [(.v (.int .i64 0)), (.v (.slice none 0 0))] [(0, (1, (.c (.v (.int .i64 (-1)))))), (1, (1, (.t 50)))]), none⟩] [⟨(some 52), (.ixs (.t 41) (.t 42) 2), none⟩, ⟨none, (.st (.t 52) (.t 51) 2), none⟩])) 
  (.seq (.reg [] [⟨(some 6), (.mv (.c (.v (.int .i64 0)))), none⟩]) .ret)))))), [(.t 6)]⟩

def c10 : MF := ⟨3, 11, 
  (.seq (.reg [] [⟨(some 6), (.mv (.c (.v (.int .i64 0)))), none⟩]) 
  (.seq (.reg [] [⟨(some 7), (.mv (.t 0)), none⟩, ⟨(some 8), (.mv (.t 1)), none⟩, ⟨(some 9), (.mv (.t 2)), none⟩, ⟨(some 10), (.call (.c (.f 25 [])) [(.t 7), (.t 8), (.t 9), (.c (.v (.bool false)))]), none⟩, ⟨(some 6), (.mv (.t 10)), none⟩]) .ret)), [(.t 6)]⟩

def c11 : MF := ⟨3, 11, 
  (.seq (.reg [] [⟨(some 6), (.mv (.c (.v (.int .i64 0)))), none⟩]) 
  (.seq (.reg [] [⟨(some 7), (.mv (.t 0)), none⟩, ⟨(some 8), (.mv (.t 1)), none⟩, ⟨(some 9), (.mv (.t 2)), none⟩, ⟨(some 10), (.call (.c (.f 25 [])) [(.t 7), (.t 8), (.t 9), (.c (.v (.bool true)))]), none⟩, ⟨(some 6), (.mv (.t 10)), none⟩]) .ret)), [(.t 6)]⟩

def c12 : MF := ⟨1, 10, 
  (.seq (.reg [] [⟨(some 2), (.mv (.c (.v (.slice none 0 0)))), none⟩]) 
  (.seq 
  (.seq (.reg [] [⟨(some 3), (.mv (.t 0)), none⟩, ⟨(some 4), (.eqn false 3 (.t 3)), none⟩]) (.cond (.t 4) 
  (.seq (.reg [] [⟨(some 2), (.mv (.c (.v (.slice none 0 0)))), none⟩]) .ret) .skip)) 
  (.seq (.reg [] [⟨(some 5), (.mv (.t 0)), none⟩, ⟨(some 6), (.nilc (.t 5)), none⟩, ⟨(some 7), (.fa (.t 6) 4), none⟩, ⟨(some 8), (.ld (.t 7) none), none⟩, ⟨(some 9), (.call (.c (.f 26 [])) [(.t 8)]), none⟩, ⟨(some 2), (.mv (.t 9)), none⟩]) .ret))), [(.t 2)]⟩

def c13 : MF := ⟨2, 105, 
  (.seq (.reg [] [⟨(some 3), (.box (.t 1)), none⟩, ⟨(some 4), (.box (.c (.agg [(.v (.int .i64 0)), (.v (.bool false)), (.v (.int .i64 0))]))), none⟩]) 
  (.seq (.reg [] [⟨(some 5), (.box (.c (.agg [(.v (.int .i64 0)), (.v (.bool false)), (.v (.int .i64 0))]))), none⟩]) 
  (.seq 
  (.seq (.reg [] [⟨(some 6), (.fa (.t 3) 0), none⟩, ⟨(some 7), (.ld (.t 6) none), none⟩]) (.block 0 
  (.seq (.reg [] [⟨(some 9), (.bin .eql (.t 7) (.c (.v (.int .i64 0)))), none⟩, ⟨(some 8), (.mv (.t 9)), none⟩]) (.cond (.t 8) (.reg [] [⟨(some 11), (.mv (.t 0)), none⟩, ⟨(some 12), (.fa (.t 3) 1), none⟩, ⟨(some 13), (.ld (.t 12) none), none⟩, ⟨(some 14), (.fa (.t 3) 2), none⟩, ⟨(some 15), (.ld (.t 14) none), none⟩, ⟨(some 16), (.call (.c (.f 19 [])) [(.t 11), (.t 13), (.t 15)]), none⟩, ⟨(some 10), (.mv (.t 16)), none⟩, ⟨(some 17), (.ext (.t 10) 0), none⟩, ⟨(some 18), (.ext (.t 10) 1), none⟩, ⟨(some 19), (.fa (.t 5) 0), none⟩, ⟨none, (.st (.t 19) (.t 17) 1), none⟩, ⟨(some 20), (.fa (.t 5) 2), none⟩, ⟨none, (.st (.t 20) (.t 18) 1), none⟩]) 
  (.seq (.reg [] [⟨(some 22), (.bin .eql (.t 7) (.c (.v (.int .i64 1)))), none⟩, ⟨(some 21), (.mv (.t 22)), none⟩]) (.cond (.t 21) (.reg [] [⟨(some 23), (.mv (.t 0)), none⟩, ⟨(some 24), (.fa (.t 3) 1), none⟩, ⟨(some 25), (.ld (.t 24) none), none⟩, ⟨(some 26), (.fa (.t 3) 2), none⟩, ⟨(some 27), (.ld (.t 26) none), none⟩, ⟨(some 28), (.fa (.t 3) 4), none⟩, ⟨(some 29), (.ld (.t 28) none), none⟩, ⟨(some 30), (.call (.c (.f 18 [])) [(.t 23), (.t 25), (.t 27), (.t 29)]), none⟩, ⟨(some 31), (.fa (.t 5) 2), none⟩, ⟨none, (.st (.t 31) (.t 30) 1), none⟩]) 
  (.seq (.reg [] [⟨(some 33), (.bin .eql (.t 7) (.c (.v (.int .i64 2)))), none⟩, ⟨(some 32), (.mv (.t 33)), none⟩]) (.cond (.t 32) (.reg [] [⟨(some 35), (.mv (.t 0)), none⟩, ⟨(some 36), (.fa (.t 3) 1), none⟩, ⟨(some 37), (.ld (.t 36) none), none⟩, ⟨(some 38), (.fa (.t 3) 2), none⟩, ⟨(some 39), (.ld (.t 38) none), none⟩, ⟨(some 40), (.fa (.t 3) 3), none⟩, ⟨(some 41), (.ld (.t 40) none), none⟩, ⟨(some 42), (.fa (.t 3) 4), none⟩, ⟨(some 43), (.ld (.t 42) none), none⟩, ⟨(some 44), (.call (.c (.f 27 [])) [(.t 35), (.t 37), (.t 39), (.t 41), (.t 43)]), none⟩, ⟨(some 34), (.mv (.t 44)), none⟩, ⟨(some 45), (.ext (.t 34) 0), none⟩, ⟨(some 46), (.ext (.t 34) 1), none⟩, ⟨(some 47), (.fa (.t 5) 1), none⟩, ⟨none, (.st (.t 47) (.t 45) 1), none⟩, ⟨(some 48), (.fa (.t 5) 2), none⟩, ⟨none, (.st (.t 48) (.t 46) 1), none⟩]) 
  (.seq (.reg [] [⟨(some 50), (.bin .eql (.t 7) (.c (.v (.int .i64 3)))), none⟩, ⟨(some 49), (.mv (.t 50)), none⟩]) (.cond (.t 49) (.reg [] [⟨(some 52), (.mv (.t 0)), none⟩, ⟨(some 53), (.fa (.t 3) 1), none⟩, ⟨(some 54), (.ld (.t 53) none), none⟩, ⟨(some 55), (.fa (.t 3) 2), none⟩, ⟨(some 56), (.ld (.t 55) none), none⟩, ⟨(some 57), (.fa (.t 3) 4), none⟩, ⟨(some 58), (.ld (.t 57) none), none⟩, ⟨(some 59), (.call (.c (.f 28 [])) [(.t 52), (.t 54), (.t 56), (.t 58)]), none⟩, ⟨(some 51), (.mv (.t 59)), none⟩, ⟨(some 60), (.ext (.t 51) 0), none⟩, ⟨(some 61), (.ext (.t 51) 1), none⟩, ⟨(some 62), (.fa (.t 5) 0), none⟩, ⟨none, (.st (.t 62) (.t 60) 1), none⟩, ⟨(some 63), (.fa (.t 5) 2), none⟩, ⟨none, (.st (.t 63) (.t 61) 1), none⟩]) 
  (.seq (.reg [] [⟨(some 65), (.bin .eql (.t 7) (.c (.v (.int .i64 4)))), none⟩, ⟨(some 64), (.mv (.t 65)), none⟩]) (.cond (.t 64) (.reg [] [⟨(some 66), (.mv (.t 0)), none⟩, ⟨(some 67), (.fa (.t 3) 1), none⟩, ⟨(some 68), (.ld (.t 67) none), none⟩, ⟨(some 69), (.fa (.t 3) 2), none⟩, ⟨(some 70), (.ld (.t 69) none), none⟩, ⟨(some 71), (.call (.c (.f 10 [])) [(.t 66), (.t 68), (.t 70)]), none⟩, ⟨(some 72), (.fa (.t 5) 2), none⟩, ⟨none, (.st (.t 72) (.t 71) 1), none⟩]) 
  (.seq (.reg [] [⟨(some 74), (.bin .eql (.t 7) (.c (.v (.int .i64 5)))), none⟩, ⟨(some 73), (.mv (.t 74)), none⟩]) (.cond (.t 73) (.reg [] [⟨(some 75), (.mv (.t 0)), none⟩, ⟨(some 76), (.fa (.t 3) 1), none⟩, ⟨(some 77), (.ld (.t 76) none), none⟩, ⟨(some 78), (.fa (.t 3) 2), none⟩, ⟨(some 79), (.ld (.t 78) none), none⟩, ⟨(some 80), (.call (.c (.f 11 [])) [(.t 75), (.t 77), (.t 79)]), none⟩, ⟨(some 81), (.fa (.t 5) 2), none⟩, ⟨none, (.st (.t 81) (.t 80) 1), none⟩]) 
  (.seq (.reg [] [⟨(some 83), (.bin .eql (.t 7) (.c (.v (.int .i64 6)))), none⟩, ⟨(some 82), (.mv (.t 83)), none⟩]) (.cond (.t 82) (.reg [] [⟨(some 85), (.mv (.t 0)), none⟩, ⟨(some 86), (.fa (.t 3) 1), none⟩, ⟨(some 87), (.ld (.t 86) none), none⟩, ⟨(some 88), (.fa (.t 3) 2), none⟩, ⟨(some 89), (.ld (.t 88) none), none⟩, ⟨(some 90), (.call (.c (.f 8 [])) [(.t 85), (.t 87), (.t 89)]), none⟩, ⟨(some 84), (.mv (.t 90)), none⟩, ⟨(some 91), (.ext (.t 84) 0), none⟩, ⟨(some 92), (.ext (.t 84) 1), none⟩, ⟨(some 93), (.fa (.t 5) 1), none⟩, ⟨none, (.st (.t 93) (.t 91) 1), none⟩, ⟨(some 94), (.fa (.t 5) 2), none⟩, ⟨none, (.st (.t 94) (.t 92) 1), none⟩]) 
  (.seq (.reg [] [⟨(some 96), (.bin .eql (.t 7) (.c (.v (.int .i64 7)))), none⟩, ⟨(some 95), (.mv (.t 96)), none⟩]) (.cond (.t 95) (.reg [] [⟨(some 97), (.mv (.t 0)), none⟩, ⟨(some 98), (.fa (.t 3) 1), none⟩, ⟨(some 99), (.ld (.t 98) none), none⟩, ⟨(some 100), (.fa (.t 3) 2), none⟩, ⟨(some 101), (.ld (.t 100) none), none⟩, ⟨(some 102), (.call (.c (.f 9 [])) [(.t 97), (.t 99), (.t 101)]), none⟩, ⟨(some 103), (.fa (.t 5) 2), none⟩, ⟨none, (.st (.t 103) (.t 102) 1), none⟩]) .skip)))))))))))))))))) 
  (.seq (.reg [] [⟨(some 104), (.ld (.t 5) (some 3)), none⟩, ⟨none, (.st (.t 4) (.t 104) 3), none⟩]) .ret)))), [(.cell 4 (some 3))]⟩

def c14 : MF := ⟨2, 51, 
  (.seq (.reg [] [⟨(some 2), (.box (.t 0)), none⟩, ⟨(some 3), (.box (.t 1)), none⟩, ⟨(some 4), (.mv (.c (.v (.bool false)))), none⟩]) 
  (.seq 
  (.seq (.alt (.regM [(.p, ⟨(some 5), (.fa (.t 3) 0), none⟩), (.p, ⟨(some 6), (.ld (.t 5) none), none⟩), (.p, ⟨(some 7), (.bin .lss (.t 6) (.c (.v (.int .i64 0)))), none⟩), (.p, ⟨(some 8), (.mv (.t 7)), none⟩), (.p, ⟨(some 9), (.fa (.t 3) 0), (some (8, false))⟩), (.p, ⟨(some 10), (.ld (.t 9) none), (some (8, false))⟩), (.p, ⟨(some 11), (.bin .gtr (.t 10) (.c (.v (.int .i64 7)))), (some (8, false))⟩), (.p, ⟨(some 12), (.pick (.t 8) (.c (.v (.bool true))) (.t 11)), none⟩), (.p, ⟨(some 13), (.mv (.t 12)), none⟩), (.p, ⟨(some 14), (.fa (.t 3) 1), (some (13, false))⟩), (.p, ⟨(some 15), (.ld (.t 14) none), (some (13, false))⟩), (.p, ⟨(some 16), (.bin .lss (.t 15) (.c (.v (.int .i64 0)))), (some (13, false))⟩), (.p, ⟨(some 17), (.pick (.t 13) (.c (.v (.bool true))) (.t 16)), none⟩), (.p, ⟨(some 18), (.mv (.t 17)), none⟩), (.p, ⟨(some 19), (.fa (.t 3) 1), (some (18, false))⟩), (.p, ⟨(some 20), (.ld (.t 19) none), (some (18, false))⟩), (.p, ⟨(some 21), (.fa (.t 2) 0), (some (18, false))⟩), (.p, ⟨(some 22), (.ld (.t 21) none), (some (18, false))⟩), (.p, ⟨(some 23), (.bin .geq (.t 20) (.t 22)), (some (18, false))⟩), (.p, ⟨(some 24), (.pick (.t 18) (.c (.v (.bool true))) (.t 23)), none⟩), (.p, ⟨(some 25), (.mv (.t 24)), none⟩), (.p, ⟨(some 26), (.fa (.t 3) 2), (some (25, false))⟩), (.p, ⟨(some 27), (.ld (.t 26) none), (some (25, false))⟩), (.p, ⟨(some 28), (.bin .lss (.t 27) (.c (.v (.int .i64 0)))), (some (25, false))⟩), (.p, ⟨(some 29), (.pick (.t 25) (.c (.v (.bool true))) (.t 28)), none⟩), (.p, ⟨(some 30), (.mv (.t 29)), none⟩), (.p, ⟨(some 31), (.fa (.t 3) 2), (some (30, false))⟩), (.p, ⟨(some 32), (.ld (.t 31) none), (some (30, false))⟩), (.p, ⟨(some 33), (.ld (.t 2) (some 6)), (some (30, false))⟩), (.p, ⟨(some 34), (.fa (.t 3) 0), (some (30, false))⟩), (.p, ⟨(some 35), (.ld (.t 34) none), (some (30, false))⟩), ((.q [0, 1, 2, 3, 4, 5, 6, 7, 8, 9, 10, 11, 12, 13, 14, 15, 16, 17, 18, 19, 20, 21, 22, 23, 24, 25, 28, 29, 30]), ⟨(some 36), (.call (.c (.f 29 [])) [(.t 33), (.t 35)]), (some (30, false))⟩)] [⟨(some 37), (.bin .geq (.t 32) (.t 36)), (some (30, false))⟩, ⟨(some 38), (.pick (.t 30) (.c (.v (.bool true))) (.t 37)), none⟩]) (.reg [⟨(some 5), (.fa (.t 3) 0), none⟩, ⟨(some 6), (.ld (.t 5) none), none⟩, ⟨(some 7), (.bin .lss (.t 6) (.c (.v (.int .i64 0)))), none⟩, ⟨(some 8), (.mv (.t 7)), none⟩, ⟨(some 9), (.fa (.t 3) 0), (some (8, false))⟩, ⟨(some 10), (.ld (.t 9) none), (some (8, false))⟩, ⟨(some 11), (.bin .gtr (.t 10) (.c (.v (.int .i64 7)))), (some (8, false))⟩, ⟨(some 12), (.pick (.t 8) (.c (.v (.bool true))) (.t 11)), none⟩, ⟨(some 13), (.mv (.t 12)), none⟩, ⟨(some 14), (.fa (.t 3) 1), (some (13, false))⟩, ⟨(some 15), (.ld (.t 14) none), (some (13, false))⟩, ⟨(some 16), (.bin .lss (.t 15) (.c (.v (.int .i64 0)))), (some (13, false))⟩, ⟨(some 17), (.pick (.t 13) (.c (.v (.bool true))) (.t 16)), none⟩, ⟨(some 18), (.mv (.t 17)), none⟩, ⟨(some 19), (.fa (.t 3) 1), (some (18, false))⟩, ⟨(some 20), (.ld (.t 19) none), (some (18, false))⟩, ⟨(some 21), (.fa (.t 2) 0), (some (18, false))⟩, ⟨(some 22), (.ld (.t 21) none), (some (18, false))⟩, ⟨(some 23), (.bin .geq (.t 20) (.t 22)), (some (18, false))⟩, ⟨(some 24), (.pick (.t 18) (.c (.v (.bool true))) (.t 23)), none⟩, ⟨(some 25), (.mv (.t 24)), none⟩, ⟨(some 26), (.fa (.t 3) 2), (some (25, false))⟩, ⟨(some 27), (.ld (.t 26) none), (some (25, false))⟩, ⟨(some 28), (.bin .lss (.t 27) (.c (.v (.int .i64 0)))), (some (25, false))⟩, ⟨(some 29), (.pick (.t 25) (.c (.v (.bool true))) (.t 28)), none⟩, ⟨(some 30), (.mv (.t 29)), none⟩, ⟨(some 31), (.fa (.t 3) 2), (some (30, false))⟩, ⟨(some 32), (.ld (.t 31) none), (some (30, false))⟩, ⟨(some 33), (.ld (.t 2) (some 6)), (some (30, false))⟩, ⟨(some 34), (.fa (.t 3) 0), (some (30, false))⟩, ⟨(some 35), (.ld (.t 34) none), (some (30, false))⟩, ⟨(some 36), (.call (.c (.f 29 [])) [(.t 33), (.t 35)]), (some (30, false))⟩] [⟨(some 37), (.bin .geq (.t 32) (.t 36)), (some (30, false))⟩, ⟨(some 38), (.pick (.t 30) (.c (.v (.bool true))) (.t 37)), none⟩])) (.cond (.t 38) 
  (.seq (.reg [] [⟨(some 4), (.mv (.c (.v (.bool false)))), none⟩]) .ret) .skip)) 
  (.seq (.alt (.regM [(.p, ⟨(some 39), (.fa (.t 3) 0), none⟩), (.p, ⟨(some 40), (.ld (.t 39) none), none⟩), (.p, ⟨(some 41), (.bin .neq (.t 40) (.c (.v (.int .i64 7)))), none⟩), (.p, ⟨(some 42), (.mv (.t 41)), none⟩), (.p, ⟨(some 43), (.ld (.t 2) (some 6)), (some (42, false))⟩), (.p, ⟨(some 44), (.fa (.t 3) 2), (some (42, false))⟩), (.p, ⟨(some 45), (.ld (.t 44) none), (some (42, false))⟩), ((.q [0, 1, 2, 3, 4, 5, 6]), ⟨(some 46), (.call (.c (.f 30 [])) [(.t 43), (.t 45)]), (some (42, false))⟩), (.p, ⟨(some 47), (.fa (.t 3) 1), (some (42, false))⟩), (.p, ⟨(some 48), (.ld (.t 47) none), (some (42, false))⟩)] [⟨(some 49), (.bin .eql (.t 46) (.t 48)), (some (42, false))⟩, ⟨(some 50), (.pick (.t 42) (.c (.v (.bool true))) (.t 49)), none⟩, ⟨(some 4), (.mv (.t 50)), none⟩]) (.reg [⟨(some 39), (.fa (.t 3) 0), none⟩, ⟨(some 40), (.ld (.t 39) none), none⟩, ⟨(some 41), (.bin .neq (.t 40) (.c (.v (.int .i64 7)))), none⟩, ⟨(some 42), (.mv (.t 41)), none⟩, ⟨(some 43), (.ld (.t 2) (some 6)), (some (42, false))⟩, ⟨(some 44), (.fa (.t 3) 2), (some (42, false))⟩, ⟨(some 45), (.ld (.t 44) none), (some (42, false))⟩, ⟨(some 46), (.call (.c (.f 30 [])) [(.t 43), (.t 45)]), (some (42, false))⟩, ⟨(some 47), (.fa (.t 3) 1), (some (42, false))⟩, ⟨(some 48), (.ld (.t 47) none), (some (42, false))⟩] [⟨(some 49), (.bin .eql (.t 46) (.t 48)), (some (42, false))⟩, ⟨(some 50), (.pick (.t 42) (.c (.v (.bool true))) (.t 49)), none⟩, ⟨(some 4), (.mv (.t 50)), none⟩])) .ret))), [(.t 4)]⟩

def c15 : MF := ⟨1, 9, 
  (.seq (.reg [] [⟨(some 2), (.mv (.c (.v (.int .i64 0)))), none⟩]) 
  (.seq 
  (.seq (.reg [] [⟨(some 3), (.mv (.t 0)), none⟩, ⟨(some 4), (.eqn false 3 (.t 3)), none⟩]) (.cond (.t 4) 
  (.seq (.reg [] [⟨(some 2), (.mv (.c (.v (.int .i64 0)))), none⟩]) .ret) .skip)) 
  (.seq (.reg [] [⟨(some 5), (.mv (.t 0)), none⟩, ⟨(some 6), (.nilc (.t 5)), none⟩, ⟨(some 7), (.fa (.t 6) 5), none⟩, ⟨(some 8), (.ld (.t 7) none), none⟩, ⟨(some 2), (.mv (.t 8)), none⟩]) .ret))), [(.t 2)]⟩

def c16 : MF := ⟨2, 121, 
  (.seq (.reg [] [⟨(some 2), (.box (.t 0)), none⟩, ⟨(some 3), (.box (.t 1)), none⟩, ⟨(some 4), (.box (.c (.agg [(.v (.int .i64 0)), (.v (.int .i64 0)), (.v (.int .i64 0)), (.v (.int .i64 0)), (.v (.slice none 0 0)), (.v (.slice none 0 0))]))), none⟩]) 
  (.seq (.reg [] [⟨(some 6), (.ld (.t 3) (some 5)), none⟩, ⟨(some 7), (.bld [(.v (.int .i64 0)), (.v (.int .i64 0)), (.v (.int .i64 0)), (.v (.int .i64 0)), (.v (.int .i64 0)), (.v (.slice none 0 0)), (.v (.bool false)), (.v (.int .i64 0)), (.v (.bool false))] [(0, (5, (.t 6)))]), none⟩, ⟨(some 5), (.box (.c (.agg [(.v (.int .i64 0)), (.v (.int .i64 0)), (.v (.int .i64 0)), (.v (.int .i64 0)), (.v (.int .i64 0)), (.v (.slice none 0 0)), (.v (.bool false)), (.v (.int .i64 0)), (.v (.bool false))]))), none⟩, ⟨none, (.st (.t 5) (.t 7) 9), none⟩]) 
  (.seq 
  (.seq (.reg [] [⟨(some 8), (.fa (.t 3) 0), none⟩, ⟨(some 9), (.ld (.t 8) none), none⟩]) (.block 0 
  (.seq (.reg [] [⟨(some 11), (.bin .eql (.t 9) (.c (.v (.int .i64 0)))), none⟩, ⟨(some 10), (.mv (.t 11)), none⟩]) (.cond (.t 10) (.reg [] [⟨(some 12), (.ld (.t 2) (some 6)), none⟩, ⟨(some 13), (.fa (.t 3) 2), none⟩, ⟨(some 14), (.ld (.t 13) none), none⟩, ⟨(some 15), (.call (.c (.f 31 [])) [(.t 12), (.t 14)]), none⟩, ⟨(some 16), (.fa (.t 5) 7), none⟩, ⟨none, (.st (.t 16) (.t 15) 1), none⟩]) 
  (.seq (.reg [] [⟨(some 18), (.bin .eql (.t 9) (.c (.v (.int .i64 1)))), none⟩, ⟨(some 17), (.mv (.t 18)), none⟩]) (.cond (.t 17) 
  (.seq (.reg [] [⟨(some 19), (.fa (.t 3) 4), none⟩, ⟨(some 20), (.ld (.t 19) none), none⟩, ⟨(some 21), (.fa (.t 5) 7), none⟩, ⟨none, (.st (.t 21) (.t 20) 1), none⟩]) (.reg [] [⟨(some 22), (.fa (.t 5) 6), none⟩, ⟨none, (.st (.t 22) (.c (.v (.bool true))) 1), none⟩])) 
  (.seq (.reg [] [⟨(some 24), (.bin .eql (.t 9) (.c (.v (.int .i64 2)))), none⟩, ⟨(some 23), (.mv (.t 24)), none⟩]) (.cond (.t 23) 
  (.seq (.reg [] [⟨(some 25), (.ld (.t 2) (some 6)), none⟩, ⟨(some 26), (.fa (.t 3) 2), none⟩, ⟨(some 27), (.ld (.t 26) none), none⟩, ⟨(some 28), (.call (.c (.f 31 [])) [(.t 25), (.t 27)]), none⟩, ⟨(some 29), (.fa (.t 5) 7), none⟩, ⟨none, (.st (.t 29) (.t 28) 1), none⟩]) 
  (.seq (.reg [] [⟨(some 30), (.fa (.t 5) 7), none⟩, ⟨(some 31), (.ld (.t 30) none), none⟩, ⟨(some 32), (.fa (.t 3) 3), none⟩, ⟨(some 33), (.ld (.t 32) none), none⟩, ⟨(some 34), (.bin .eql (.t 31) (.t 33)), none⟩, ⟨(some 35), (.fa (.t 5) 8), none⟩, ⟨none, (.st (.t 35) (.t 34) 1), none⟩]) 
  (.seq (.reg [] [⟨(some 36), (.fa (.t 5) 8), none⟩, ⟨(some 37), (.ld (.t 36) none), none⟩, ⟨(some 38), (.fa (.t 5) 6), none⟩, ⟨none, (.st (.t 38) (.t 37) 1), none⟩]) 
  (.seq (.reg [] [⟨(some 39), (.fa (.t 5) 8), none⟩, ⟨(some 40), (.ld (.t 39) none), none⟩]) (.cond (.t 40) (.reg [] [⟨(some 41), (.fa (.t 3) 4), none⟩, ⟨(some 42), (.ld (.t 41) none), none⟩, ⟨(some 43), (.fa (.t 5) 7), none⟩, ⟨none, (.st (.t 43) (.t 42) 1), none⟩]) .skip))))) 
  (.seq (.reg [] [⟨(some 45), (.bin .eql (.t 9) (.c (.v (.int .i64 3)))), none⟩, ⟨(some 44), (.mv (.t 45)), none⟩]) (.cond (.t 44) 
  (.seq (.alt (.regM [(.p, ⟨(some 46), (.ld (.t 2) (some 6)), none⟩), (.p, ⟨(some 47), (.fa (.t 3) 2), none⟩), (.p, ⟨(some 48), (.ld (.t 47) none), none⟩), ((.q [0, 1, 2]), ⟨(some 49), (.call (.c (.f 31 [])) [(.t 46), (.t 48)]), none⟩), (.p, ⟨(some 50), (.fa (.t 3) 4), none⟩), (.p, ⟨(some 51), (.ld (.t 50) none), none⟩)] [⟨(some 52), (.bin .add (.t 49) (.t 51)), none⟩, ⟨(some 53), (.fa (.t 5) 7), none⟩, ⟨none, (.st (.t 53) (.t 52) 1), none⟩]) (.reg [⟨(some 46), (.ld (.t 2) (some 6)), none⟩, ⟨(some 47), (.fa (.t 3) 2), none⟩, ⟨(some 48), (.ld (.t 47) none), none⟩, ⟨(some 49), (.call (.c (.f 31 [])) [(.t 46), (.t 48)]), none⟩, ⟨(some 50), (.fa (.t 3) 4), none⟩, ⟨(some 51), (.ld (.t 50) none), none⟩] [⟨(some 52), (.bin .add (.t 49) (.t 51)), none⟩, ⟨(some 53), (.fa (.t 5) 7), none⟩, ⟨none, (.st (.t 53) (.t 52) 1), none⟩])) (.reg [] [⟨(some 54), (.fa (.t 5) 6), none⟩, ⟨none, (.st (.t 54) (.c (.v (.bool true))) 1), none⟩])) 
  (.seq (.reg [] [⟨(some 56), (.bin .eql (.t 9) (.c (.v (.int .i64 6)))), none⟩, ⟨(some 55), (.mv (.t 56)), none⟩]) (.cond (.t 55) 
  (.seq (.reg [] [⟨(some 57), (.ld (.t 2) (some 6)), none⟩, ⟨(some 58), (.fa (.t 3) 2), none⟩, ⟨(some 59), (.ld (.t 58) none), none⟩, ⟨(some 60), (.call (.c (.f 30 [])) [(.t 57), (.t 59)]), none⟩, ⟨(some 61), (.bin .lss (.t 60) (.c (.v (.int .i64 0)))), none⟩, ⟨(some 62), (.fa (.t 5) 8), none⟩, ⟨none, (.st (.t 62) (.t 61) 1), none⟩]) (.reg [] [⟨(some 63), (.fa (.t 5) 8), none⟩, ⟨(some 64), (.ld (.t 63) none), none⟩, ⟨(some 65), (.fa (.t 5) 6), none⟩, ⟨none, (.st (.t 65) (.t 64) 1), none⟩])) 
  (.seq (.reg [] [⟨(some 67), (.bin .eql (.t 9) (.c (.v (.int .i64 7)))), none⟩, ⟨(some 66), (.mv (.t 67)), none⟩]) (.cond (.t 66) (.reg [] [⟨(some 68), (.fa (.t 5) 6), none⟩, ⟨none, (.st (.t 68) (.c (.v (.bool true))) 1), none⟩]) .skip)))))))))))))) 
  (.seq (.reg [] [⟨(some 69), (.ld (.t 2) (some 6)), none⟩, ⟨(some 70), (.ld (.t 3) (some 5)), none⟩, ⟨(some 71), (.fa (.t 3) 0), none⟩, ⟨(some 72), (.ld (.t 71) none), none⟩, ⟨(some 73), (.bin .eql (.t 72) (.c (.v (.int .i64 0)))), none⟩, ⟨(some 74), (.mv (.t 73)), none⟩, ⟨(some 75), (.fa (.t 3) 0), (some (74, false))⟩, ⟨(some 76), (.ld (.t 75) none), (some (74, false))⟩, ⟨(some 77), (.bin .eql (.t 76) (.c (.v (.int .i64 2)))), (some (74, false))⟩, ⟨(some 78), (.pick (.t 74) (.c (.v (.bool true))) (.t 77)), none⟩, ⟨(some 79), (.mv (.t 78)), none⟩, ⟨(some 80), (.fa (.t 3) 0), (some (79, false))⟩, ⟨(some 81), (.ld (.t 80) none), (some (79, false))⟩, ⟨(some 82), (.bin .eql (.t 81) (.c (.v (.int .i64 3)))), (some (79, false))⟩, ⟨(some 83), (.pick (.t 79) (.c (.v (.bool true))) (.t 82)), none⟩, ⟨(some 84), (.mv (.t 83)), none⟩, ⟨(some 85), (.fa (.t 3) 0), (some (84, false))⟩, ⟨(some 86), (.ld (.t 85) none), (some (84, false))⟩, ⟨(some 87), (.bin .eql (.t 86) (.c (.v (.int .i64 6)))), (some (84, false))⟩, ⟨(some 88), (.mv (.t 87)), (some (84, false))⟩, ⟨(some 89), (.fa (.t 5) 8), (some (88, true))⟩, ⟨(some 90), (.ld (.t 89) none), (some (88, true))⟩, ⟨(some 91), (.pick (.t 88) (.t 90) (.c (.v (.bool false)))), (some (84, false))⟩, ⟨(some 92), (.pick (.t 84) (.c (.v (.bool true))) (.t 91)), none⟩, ⟨(some 93), (.call (.c (.f 32 [])) [(.t 69), (.t 70), (.t 92)]), none⟩, ⟨(some 94), (.fa (.t 5) 5), none⟩, ⟨none, (.st (.t 94) (.t 93) 1), none⟩]) 
  (.seq 
  (.seq (.reg [] [⟨(some 95), (.fa (.t 3) 0), none⟩, ⟨(some 96), (.ld (.t 95) none), none⟩, ⟨(some 97), (.bin .eql (.t 96) (.c (.v (.int .i64 4)))), none⟩, ⟨(some 98), (.mv (.t 97)), none⟩, ⟨(some 99), (.fa (.t 3) 0), (some (98, false))⟩, ⟨(some 100), (.ld (.t 99) none), (some (98, false))⟩, ⟨(some 101), (.bin .eql (.t 100) (.c (.v (.int .i64 5)))), (some (98, false))⟩, ⟨(some 102), (.pick (.t 98) (.c (.v (.bool true))) (.t 101)), none⟩]) (.cond (.t 102) (.regM [(.p, ⟨(some 103), (.bsl [(.v (.int .i64 0)), (.v (.int .i64 0)), (.v (.int .i64 0))] 0 []), none⟩), (.p, ⟨(some 104), (.fa (.t 2) 5), none⟩), (.p, ⟨(some 105), (.ld (.t 104) none), none⟩), ((.r [0, 1, 2]), ⟨(some 106), (.app (.t 103) (.t 105) 3 24), none⟩), (.p, ⟨(some 107), (.ld (.t 2) (some 6)), none⟩), (.p, ⟨(some 108), (.ld (.t 5) (some 9)), none⟩)] [⟨(some 109), (.call (.c (.f 33 [])) [(.t 107), (.t 108)]), none⟩, ⟨(some 110), (.app (.t 106) (.t 109) 3 24), none⟩, ⟨(some 111), (.fa (.t 2) 5), none⟩, ⟨none, (.st (.t 111) (.t 110) 1), none⟩]) .skip)) 
  (.seq (.regM [(.p, ⟨(some 112), (.bsl [(.v (.int .i64 0)), (.v (.int .i64 0)), (.v (.int .i64 0)), (.v (.int .i64 0)), (.v (.int .i64 0)), (.v (.slice none 0 0)), (.v (.bool false)), (.v (.int .i64 0)), (.v (.bool false))] 0 []), none⟩), (.p, ⟨(some 113), (.fa (.t 2) 4), none⟩), (.p, ⟨(some 114), (.ld (.t 113) none), none⟩), ((.r [0, 1, 2]), ⟨(some 115), (.app (.t 112) (.t 114) 9 88), none⟩), (.p, ⟨(some 116), (.ld (.t 5) (some 9)), none⟩), (.p, ⟨(some 117), (.bsl [(.v (.int .i64 0)), (.v (.int .i64 0)), (.v (.int .i64 0)), (.v (.int .i64 0)), (.v (.int .i64 0)), (.v (.slice none 0 0)), (.v (.bool false)), (.v (.int .i64 0)), (.v (.bool false))] 1 [(0, (9, (.t 116)))]), none⟩)] [⟨(some 118), (.app (.t 115) (.t 117) 9 88), none⟩, ⟨(some 119), (.fa (.t 2) 4), none⟩, ⟨none, (.st (.t 119) (.t 118) 1), none⟩]) 
  (.seq (.reg [] [⟨(some 120), (.ld (.t 2) (some 6)), none⟩, ⟨none, (.st (.t 4) (.t 120) 6), none⟩]) .ret))))))), [(.cell 4 (some 6))]⟩

def c17b0 : MC := 
  (.seq 
  (.seq (.reg [] [⟨(some 11), (.mv (.t 5)), none⟩, ⟨(some 12), (.mv (.t 0)), none⟩, ⟨(some 13), (.len (.t 12)), none⟩, ⟨(some 14), (.bin .lss (.t 11) (.t 13)), none⟩]) (.cond (.t 14) .skip (.exit 0))) 
  (.seq (.block 1 
  (.seq (.reg [⟨(some 17), (.mv (.t 0)), none⟩, ⟨(some 18), (.mv (.t 5)), none⟩, ⟨(some 19), (.ixs (.t 17) (.t 18) 3), none⟩, ⟨(some 20), (.ld (.t 19) (some 3)), none⟩, ⟨(some 21), (.mv (.t 1)), none⟩, ⟨(some 22), (.mv (.t 5)), none⟩, ⟨(some 23), (.ixs (.t 21) (.t 22) 3), none⟩, ⟨(some 24), (.ld (.t 23) (some 3)), none⟩] [⟨(some 25), (.eqv true true [.i, .i, .i] (.t 20) (.t 24)), none⟩]) (.cond (.t 25) 
  (.seq (.reg [] [⟨(some 4), (.mv (.c (.v (.bool false)))), none⟩]) .ret) .skip))) (.reg [] [⟨(some 15), (.mv (.t 5)), none⟩, ⟨(some 16), (.bin .add (.t 15) (.c (.v (.int .i64 1)))), none⟩, ⟨(some 5), (.mv (.t 16)), none⟩])))

def c17 : MF := ⟨2, 26, 
  (.seq (.reg [] [⟨(some 4), (.mv (.c (.v (.bool false)))), none⟩]) 
  (.seq 
  (.seq (.reg [] [⟨(some 6), (.mv (.t 0)), none⟩, ⟨(some 7), (.len (.t 6)), none⟩, ⟨(some 8), (.mv (.t 1)), none⟩, ⟨(some 9), (.len (.t 8)), none⟩, ⟨(some 10), (.bin .neq (.t 7) (.t 9)), none⟩]) (.cond (.t 10) 
  (.seq (.reg [] [⟨(some 4), (.mv (.c (.v (.bool false)))), none⟩]) .ret) .skip)) 
  (.seq 
  (.seq (.reg [] [⟨(some 5), (.mv (.c (.v (.int .i64 0)))), none⟩]) (.block 0 
  (.loopN [16, 15, 4, 25, 24, 23, 22, 21, 20, 19, 18, 17, 14, 13, 12, 11] c17b0))) 
  (.seq (.reg [] [⟨(some 4), (.mv (.c (.v (.bool true)))), none⟩]) .ret)))), [(.t 4)]⟩

def c18 : MF := ⟨4, 24, 
  (.seq (.reg [] [⟨(some 8), (.mv (.c (.v (.int .i64 0)))), none⟩]) 
  (.seq 
  (.seq (.reg [] [⟨(some 10), (.mv (.t 0)), none⟩, ⟨(some 11), (.mv (.t 1)), none⟩, ⟨(some 12), (.mv (.t 2)), none⟩, ⟨(some 13), (.mv (.t 0)), none⟩, ⟨(some 14), (.call (.c (.f 34 [])) [(.t 13), (.c (.f 35 []))]), none⟩, ⟨(some 15), (.call (.c (.f 20 [])) [(.t 10), (.t 11), (.t 12), (.t 14)]), none⟩, ⟨(some 9), (.mv (.t 15)), none⟩]) 
  (.seq (.reg [] [⟨(some 16), (.mv (.t 9)), none⟩, ⟨(some 17), (.bin .neq (.t 16) (.c (.v (.int .i64 0)))), none⟩]) (.cond (.t 17) 
  (.seq (.reg [] [⟨(some 18), (.mv (.t 9)), none⟩, ⟨(some 8), (.mv (.t 18)), none⟩]) .ret) .skip))) 
  (.seq (.reg [] [⟨(some 19), (.mv (.t 0)), none⟩, ⟨(some 20), (.mv (.t 1)), none⟩, ⟨(some 21), (.mv (.t 2)), none⟩, ⟨(some 22), (.mv (.t 3)), none⟩, ⟨(some 23), (.call (.c (.f 36 [])) [(.t 19), (.t 20), (.t 21), (.t 22)]), none⟩]) 
  (.seq (.reg [] [⟨(some 8), (.mv (.c (.v (.int .i64 0)))), none⟩]) .ret)))), [(.t 8)]⟩

def c19 : MF := ⟨3, 42, 
  (.seq (.reg [] [⟨(some 6), (.mv (.c (.v (.int .i64 0)))), none⟩, ⟨(some 7), (.mv (.c (.v (.int .i64 0)))), none⟩]) 
  (.seq 
  (.seq (.reg [] [⟨(some 9), (.mv (.t 0)), none⟩, ⟨(some 10), (.mv (.t 1)), none⟩, ⟨(some 11), (.mv (.t 2)), none⟩, ⟨(some 12), (.mv (.t 0)), none⟩, ⟨(some 13), (.call (.c (.f 34 [])) [(.t 12), (.c (.f 35 []))]), none⟩, ⟨(some 14), (.call (.c (.f 20 [])) [(.t 9), (.t 10), (.t 11), (.t 13)]), none⟩, ⟨(some 8), (.mv (.t 14)), none⟩]) 
  (.seq (.reg [] [⟨(some 15), (.mv (.t 8)), none⟩, ⟨(some 16), (.bin .neq (.t 15) (.c (.v (.int .i64 0)))), none⟩]) (.cond (.t 16) 
  (.seq (.reg [] [⟨(some 17), (.mv (.t 8)), none⟩, ⟨(some 6), (.mv (.c (.v (.int .i64 0)))), none⟩, ⟨(some 7), (.mv (.t 17)), none⟩]) .ret) .skip))) 
  (.seq (.reg [⟨(some 18), (.mv (.t 0)), none⟩, ⟨(some 19), (.nilc (.t 18)), none⟩, ⟨(some 20), (.fa (.t 19) 0), none⟩, ⟨(some 21), (.ld (.t 20) none), none⟩, ⟨(some 22), (.mv (.t 1)), none⟩, ⟨(some 23), (.ixs (.t 21) (.t 22) 1), none⟩, ⟨(some 24), (.ld (.t 23) none), none⟩, ⟨(some 25), (.mv (.t 0)), none⟩, ⟨(some 26), (.nilc (.t 25)), none⟩, ⟨(some 27), (.fa (.t 26) 1), none⟩, ⟨(some 28), (.ld (.t 27) none), none⟩, ⟨(some 29), (.mv (.t 2)), none⟩, ⟨(some 30), (.ixs (.t 28) (.t 29) 2), none⟩, ⟨(some 31), (.fa (.t 30) 1), none⟩, ⟨(some 32), (.ld (.t 31) none), none⟩] [⟨(some 33), (.call (.c (.f 23 [])) [(.t 24), (.t 32)]), none⟩]) 
  (.seq (.reg [] [⟨(some 34), (.mv (.t 0)), none⟩, ⟨(some 35), (.nilc (.t 34)), none⟩, ⟨(some 36), (.fa (.t 35) 1), none⟩, ⟨(some 37), (.ld (.t 36) none), none⟩, ⟨(some 38), (.mv (.t 2)), none⟩, ⟨(some 39), (.ixs (.t 37) (.t 38) 2), none⟩, ⟨(some 40), (.fa (.t 39) 0), none⟩, ⟨(some 41), (.ld (.t 40) none), none⟩, ⟨(some 6), (.mv (.t 41)), none⟩, ⟨(some 7), (.mv (.c (.v (.int .i64 0)))), none⟩]) .ret)))), [(.t 6), (.t 7)]⟩

def c20 : MF := ⟨4, 52, 
  (.seq (.reg [] [⟨(some 8), (.mv (.c (.v (.int .i64 0)))), none⟩]) 
  (.seq (.block 0 
  (.seq (.reg [] [⟨(some 10), (.mv (.t 0)), none⟩, ⟨(some 11), (.eqn false 3 (.t 10)), none⟩, ⟨(some 9), (.mv (.t 11)), none⟩]) (.cond (.t 9) 
  (.seq (.reg [] [⟨(some 8), (.mv (.c (.v (.int .i64 1)))), none⟩]) .ret) 
  (.seq (.reg [] [⟨(some 13), (.mv (.t 1)), none⟩, ⟨(some 14), (.bin .lss (.t 13) (.c (.v (.int .i64 0)))), none⟩, ⟨(some 15), (.mv (.t 14)), none⟩, ⟨(some 16), (.mv (.t 1)), (some (15, false))⟩, ⟨(some 17), (.mv (.t 0)), (some (15, false))⟩, ⟨(some 18), (.nilc (.t 17)), (some (15, false))⟩, ⟨(some 19), (.fa (.t 18) 0), (some (15, false))⟩, ⟨(some 20), (.ld (.t 19) none), (some (15, false))⟩, ⟨(some 21), (.len (.t 20)), (some (15, false))⟩, ⟨(some 22), (.bin .geq (.t 16) (.t 21)), (some (15, false))⟩, ⟨(some 23), (.pick (.t 15) (.c (.v (.bool true))) (.t 22)), none⟩, ⟨(some 24), (.mv (.t 23)), none⟩, ⟨(some 25), (.mv (.t 2)), (some (24, false))⟩, ⟨(some 26), (.bin .lss (.t 25) (.c (.v (.int .i64 0)))), (some (24, false))⟩, ⟨(some 27), (.pick (.t 24) (.c (.v (.bool true))) (.t 26)), none⟩, ⟨(some 28), (.mv (.t 27)), none⟩, ⟨(some 29), (.mv (.t 2)), (some (28, false))⟩, ⟨(some 30), (.mv (.t 3)), (some (28, false))⟩, ⟨(some 31), (.bin .geq (.t 29) (.t 30)), (some (28, false))⟩, ⟨(some 32), (.pick (.t 28) (.c (.v (.bool true))) (.t 31)), none⟩, ⟨(some 12), (.mv (.t 32)), none⟩]) (.cond (.t 12) 
  (.seq (.reg [] [⟨(some 8), (.mv (.c (.v (.int .i64 2)))), none⟩]) .ret) .skip))))) 
  (.seq (.reg [] [⟨(some 33), (.mv (.t 0)), none⟩, ⟨(some 34), (.nilc (.t 33)), none⟩, ⟨(some 35), (.fa (.t 34) 5), none⟩, ⟨(some 36), (.ld (.t 35) none), none⟩, ⟨(some 37), (.bin .add (.t 36) (.c (.v (.int .i64 1)))), none⟩, ⟨(some 38), (.nilc (.t 33)), none⟩, ⟨(some 39), (.fa (.t 38) 5), none⟩, ⟨none, (.st (.t 39) (.t 37) 1), none⟩]) 
  (.seq (.reg [] [⟨(some 40), (.mv (.t 0)), none⟩, ⟨(some 41), (.nilc (.t 40)), none⟩, ⟨(some 42), (.fa (.t 41) 0), none⟩, ⟨(some 43), (.ld (.t 42) none), none⟩, ⟨(some 44), (.mv (.t 1)), none⟩, ⟨(some 45), (.ixs (.t 43) (.t 44) 1), none⟩, ⟨(some 46), (.ld (.t 45) none), none⟩, ⟨(some 47), (.mv (.t 1)), none⟩, ⟨(some 48), (.ixs (.t 46) (.t 47) 1), none⟩, ⟨(some 49), (.ld (.t 48) none), none⟩, ⟨(some 50), (.bin .add (.t 49) (.c (.v (.int .i64 1)))), none⟩, ⟨(some 51), (.ixs (.t 46) (.t 47) 1), none⟩, ⟨none, (.st (.t 51) (.t 50) 1), none⟩]) 
  (.seq (.reg [] [⟨(some 8), (.mv (.c (.v (.int .i64 0)))), none⟩]) .ret))))), [(.t 8)]⟩

def c21 : MF := ⟨2, 11, 
  (.seq (.reg [] [⟨(some 4), (.mv (.c (.v (.int .i64 0)))), none⟩]) 
  (.seq 
  (.seq (.reg [] [⟨(some 5), (.mv (.t 0)), none⟩, ⟨(some 6), (.eqn false 3 (.t 5)), none⟩]) (.cond (.t 6) 
  (.seq (.reg [] [⟨(some 4), (.mv (.c (.v (.int .i64 0)))), none⟩]) .ret) .skip)) 
  (.seq (.reg [] [⟨(some 7), (.mv (.t 1)), none⟩, ⟨(some 8), (.mv (.t 0)), none⟩, ⟨(some 9), (.call (.t 7) [(.t 8)]), none⟩, ⟨(some 10), (.len (.t 9)), none⟩, ⟨(some 4), (.mv (.t 10)), none⟩]) .ret))), [(.t 4)]⟩

def c22 : MF := ⟨1, 7, 
  (.seq (.reg [] [⟨(some 2), (.mv (.c (.v (.slice none 0 0)))), none⟩]) 
  (.seq (.reg [] [⟨(some 3), (.mv (.t 0)), none⟩, ⟨(some 4), (.nilc (.t 3)), none⟩, ⟨(some 5), (.fa (.t 4) 3), none⟩, ⟨(some 6), (.ld (.t 5) none), none⟩, ⟨(some 2), (.mv (.t 6)), none⟩]) .ret)), [(.t 2)]⟩

def c23b0 : MC := 
  (.seq (.reg [] [⟨(some 9), (.bin .lss (.t 8) (.t 7)), none⟩]) 
  (.seq (.cond (.t 9) .skip (.exit 0)) 
  (.seq (.block 1 
  (.seq (.reg [] [⟨(some 10), (.mv (.t 8)), none⟩, ⟨(some 11), (.ixs (.t 6) (.t 8) 1), none⟩, ⟨(some 12), (.ld (.t 11) none), none⟩, ⟨(some 4), (.mv (.t 10)), none⟩, ⟨(some 5), (.mv (.t 12)), none⟩]) (.reg [] [⟨(some 13), (.mv (.t 0)), none⟩, ⟨(some 14), (.mv (.t 4)), none⟩, ⟨(some 15), (.mv (.t 0)), none⟩, ⟨(some 16), (.mv (.t 4)), none⟩, ⟨(some 17), (.ixs (.t 15) (.t 16) 1), none⟩, ⟨(some 18), (.ld (.t 17) none), none⟩, ⟨(some 19), (.mv (.t 5)), none⟩, ⟨(some 20), (.mm true [(.t 18), (.t 19)]), none⟩, ⟨(some 21), (.ixs (.t 13) (.t 14) 1), none⟩, ⟨none, (.st (.t 21) (.t 20) 1), none⟩]))) (.reg [] [⟨(some 22), (.bin .add (.t 8) (.c (.v (.int .i64 1)))), none⟩, ⟨(some 8), (.mv (.t 22)), none⟩]))))

def c23 : MF := ⟨2, 23, 
  (.seq (.reg [] [⟨(some 6), (.mv (.t 1)), none⟩, ⟨(some 7), (.len (.t 6)), none⟩, ⟨(some 8), (.mv (.c (.v (.int .i64 0)))), none⟩]) (.block 0 
  (.loopN [22, 21, 20, 19, 18, 17, 16, 15, 14, 13, 12, 11, 10, 9] c23b0))), []⟩

def c24 : MF := ⟨1, 8, 
  (.seq (.reg [] [⟨(some 2), (.mv (.c (.v (.slice none 0 0)))), none⟩]) 
  (.seq 
  (.seq (.reg [] [⟨(some 3), (.mv (.t 0)), none⟩, ⟨(some 4), (.eqn false 0 (.t 3)), none⟩]) (.cond (.t 4) 
  (.seq (.reg [] [⟨(some 2), (.mv (.c (.v (.slice none 0 0)))), none⟩]) .ret) .skip)) 
  (.seq (.reg [] [⟨(some 5), (.bsl [(.v (.int .i64 0))] 0 []), none⟩, ⟨(some 6), (.mv (.t 0)), none⟩, ⟨(some 7), (.app (.t 5) (.t 6) 1 8), none⟩, ⟨(some 2), (.mv (.t 7)), none⟩]) .ret))), [(.t 2)]⟩

def c25b0 : MC := 
  (.seq (.reg [] [⟨(some 60), (.bin .lss (.t 59) (.t 58)), none⟩]) 
  (.seq (.cond (.t 60) .skip (.exit 0)) 
  (.seq (.block 1 
  (.seq (.reg [] [⟨(some 61), (.mv (.t 59)), none⟩, ⟨(some 62), (.ixs (.t 57) (.t 59) 1), none⟩, ⟨(some 63), (.ld (.t 62) none), none⟩, ⟨(some 11), (.mv (.t 61)), none⟩, ⟨(some 12), (.mv (.t 63)), none⟩]) 
  (.seq (.reg [] [⟨(some 64), (.mv (.t 11)), none⟩, ⟨(some 65), (.mv (.t 1)), none⟩, ⟨(some 66), (.bin .neq (.t 64) (.t 65)), none⟩, ⟨(some 67), (.mv (.t 66)), none⟩, ⟨(some 68), (.mv (.t 10)), (some (67, true))⟩, ⟨(some 69), (.nilc (.t 68)), (some (67, true))⟩, ⟨(some 70), (.fa (.t 69) 1), (some (67, true))⟩, ⟨(some 71), (.ld (.t 70) none), (some (67, true))⟩, ⟨(some 72), (.mv (.t 11)), (some (67, true))⟩, ⟨(some 73), (.ixs (.t 71) (.t 72) 1), (some (67, true))⟩, ⟨(some 74), (.ld (.t 73) none), (some (67, true))⟩, ⟨(some 75), (.mv (.t 12)), (some (67, true))⟩, ⟨(some 76), (.bin .gtr (.t 74) (.t 75)), (some (67, true))⟩, ⟨(some 77), (.mv (.t 76)), (some (67, true))⟩, ⟨(some 78), (.mv (.t 3)), (some (77, false))⟩, ⟨(some 79), (.mv (.t 78)), (some (77, false))⟩, ⟨(some 80), (.mv (.t 10)), (some (79, true))⟩, ⟨(some 81), (.nilc (.t 80)), (some (79, true))⟩, ⟨(some 82), (.fa (.t 81) 0), (some (79, true))⟩, ⟨(some 83), (.ld (.t 82) none), (some (79, true))⟩, ⟨(some 84), (.mv (.t 11)), (some (79, true))⟩, ⟨(some 85), (.ixs (.t 83) (.t 84) 1), (some (79, true))⟩, ⟨(some 86), (.ld (.t 85) none), (some (79, true))⟩, ⟨(some 87), (.mv (.t 12)), (some (79, true))⟩, ⟨(some 88), (.bin .gtr (.t 86) (.t 87)), (some (79, true))⟩, ⟨(some 89), (.pick (.t 79) (.t 88) (.c (.v (.bool false)))), (some (77, false))⟩, ⟨(some 90), (.pick (.t 77) (.c (.v (.bool true))) (.t 89)), (some (67, true))⟩, ⟨(some 91), (.pick (.t 67) (.t 90) (.c (.v (.bool false)))), none⟩]) (.cond (.t 91) (.reg [] [⟨(some 92), (.mv (.t 0)), none⟩, ⟨(some 93), (.mv (.t 0)), none⟩, ⟨(some 94), (.nilc (.t 93)), none⟩, ⟨(some 95), (.fa (.t 94) 4), none⟩, ⟨(some 96), (.ld (.t 95) none), none⟩, ⟨(some 97), (.mv (.t 2)), none⟩, ⟨(some 98), (.mv (.t 11)), none⟩, ⟨(some 99), (.mv (.t 1)), none⟩, ⟨(some 100), (.bld [(.v (.int .i64 0)), (.v (.int .i64 0)), (.v (.int .i64 0))] [(0, (1, (.t 97))), (1, (1, (.t 98))), (2, (1, (.t 99)))]), none⟩, ⟨(some 101), (.bsl [(.v (.int .i64 0)), (.v (.int .i64 0)), (.v (.int .i64 0))] 1 [(0, (3, (.t 100)))]), none⟩, ⟨(some 102), (.app (.t 96) (.t 101) 3 24), none⟩, ⟨(some 103), (.nilc (.t 92)), none⟩, ⟨(some 104), (.fa (.t 103) 4), none⟩, ⟨none, (.st (.t 104) (.t 102) 1), none⟩]) .skip)))) (.reg [] [⟨(some 105), (.bin .add (.t 59) (.c (.v (.int .i64 1)))), none⟩, ⟨(some 59), (.mv (.t 105)), none⟩]))))

def c25 : MF := ⟨4, 139, 
  (.seq (.reg [] [⟨(some 8), (.mv (.c (.v (.int .i64 0)))), none⟩]) 
  (.seq 
  (.seq (.reg [] [⟨(some 13), (.mv (.t 0)), none⟩, ⟨(some 14), (.mv (.t 1)), none⟩, ⟨(some 15), (.mv (.t 2)), none⟩, ⟨(some 16), (.mv (.t 0)), none⟩, ⟨(some 17), (.call (.c (.f 37 [])) [(.t 16), (.c (.f 38 []))]), none⟩, ⟨(some 18), (.call (.c (.f 20 [])) [(.t 13), (.t 14), (.t 15), (.t 17)]), none⟩, ⟨(some 9), (.mv (.t 18)), none⟩]) 
  (.seq (.reg [] [⟨(some 19), (.mv (.t 9)), none⟩, ⟨(some 20), (.bin .neq (.t 19) (.c (.v (.int .i64 0)))), none⟩]) (.cond (.t 20) 
  (.seq (.reg [] [⟨(some 21), (.mv (.t 9)), none⟩, ⟨(some 8), (.mv (.t 21)), none⟩]) .ret) .skip))) 
  (.seq (.reg [] [⟨(some 22), (.mv (.t 0)), none⟩, ⟨(some 23), (.nilc (.t 22)), none⟩, ⟨(some 24), (.fa (.t 23) 2), none⟩, ⟨(some 25), (.ld (.t 24) none), none⟩, ⟨(some 26), (.mv (.t 2)), none⟩, ⟨(some 27), (.ixs (.t 25) (.t 26) 2), none⟩, ⟨(some 10), (.mv (.t 27)), none⟩]) 
  (.seq 
  (.seq (.reg [] [⟨(some 28), (.mv (.t 10)), none⟩, ⟨(some 29), (.nilc (.t 28)), none⟩, ⟨(some 30), (.fa (.t 29) 0), none⟩, ⟨(some 31), (.ld (.t 30) none), none⟩, ⟨(some 32), (.eqn false 0 (.t 31)), none⟩]) (.cond (.t 32) (.regM [(.p, ⟨(some 33), (.mv (.t 10)), none⟩), (.p, ⟨(some 34), (.mv (.t 10)), none⟩), (.p, ⟨(some 35), (.mv (.t 0)), none⟩), (.p, ⟨(some 36), (.nilc (.t 35)), none⟩), (.p, ⟨(some 37), (.fa (.t 36) 0), none⟩), (.p, ⟨(some 38), (.ld (.t 37) none), none⟩), (.p, ⟨(some 39), (.len (.t 38)), none⟩), ((.m 0), ⟨(some 40), (.mks (.t 39) (.t 39) [(.v (.int .i64 0))] 1 8), none⟩), (.p, ⟨(some 41), (.mv (.t 0)), none⟩), (.p, ⟨(some 42), (.nilc (.t 41)), none⟩), (.p, ⟨(some 43), (.fa (.t 42) 0), none⟩), (.p, ⟨(some 44), (.ld (.t 43) none), none⟩), (.p, ⟨(some 45), (.len (.t 44)), none⟩), ((.m 1), ⟨(some 46), (.mks (.t 45) (.t 45) [(.v (.int .i64 0))] 1 8), none⟩), (.p, ⟨(some 47), (.nilc (.t 33)), none⟩), (.p, ⟨(some 48), (.fa (.t 47) 0), none⟩), ((.r [0, 2, 3, 4, 5, 6, 7, 8, 9, 10, 11, 14, 15]), ⟨none, (.st (.t 48) (.t 40) 1), none⟩)] [⟨(some 49), (.nilc (.t 34)), none⟩, ⟨(some 50), (.fa (.t 49) 1), none⟩, ⟨none, (.st (.t 50) (.t 46) 1), none⟩]) .skip)) 
  (.seq 
  (.seq (.reg [] [⟨(some 51), (.mv (.t 0)), none⟩, ⟨(some 52), (.nilc (.t 51)), none⟩, ⟨(some 53), (.fa (.t 52) 0), none⟩, ⟨(some 54), (.ld (.t 53) none), none⟩, ⟨(some 55), (.mv (.t 1)), none⟩, ⟨(some 56), (.ixs (.t 54) (.t 55) 1), none⟩, ⟨(some 57), (.ld (.t 56) none), none⟩, ⟨(some 58), (.len (.t 57)), none⟩, ⟨(some 59), (.mv (.c (.v (.int .i64 0)))), none⟩]) (.block 0 
  (.loopN [105, 104, 103, 102, 101, 100, 99, 98, 97, 96, 95, 94, 93, 92, 91, 90, 89, 88, 87, 86, 85, 84, 83, 82, 81, 80, 79, 78, 77, 76, 75, 74, 73, 72, 71, 70, 69, 68, 67, 66, 65, 64, 63, 62, 61, 60] c25b0))) 
  (.seq 
  (.seq (.reg [] [⟨(some 106), (.mv (.t 3)), none⟩]) (.cond (.t 106) (.reg [⟨(some 107), (.mv (.t 10)), none⟩, ⟨(some 108), (.nilc (.t 107)), none⟩, ⟨(some 109), (.fa (.t 108) 1), none⟩, ⟨(some 110), (.ld (.t 109) none), none⟩, ⟨(some 111), (.mv (.t 1)), none⟩, ⟨(some 112), (.mv (.t 0)), none⟩, ⟨(some 113), (.nilc (.t 112)), none⟩, ⟨(some 114), (.fa (.t 113) 0), none⟩, ⟨(some 115), (.ld (.t 114) none), none⟩, ⟨(some 116), (.mv (.t 1)), none⟩, ⟨(some 117), (.ixs (.t 115) (.t 116) 1), none⟩, ⟨(some 118), (.ld (.t 117) none), none⟩, ⟨(some 119), (.mv (.t 1)), none⟩, ⟨(some 120), (.ixs (.t 118) (.t 119) 1), none⟩, ⟨(some 121), (.ld (.t 120) none), none⟩] [⟨(some 122), (.ixs (.t 110) (.t 111) 1), none⟩, ⟨none, (.st (.t 122) (.t 121) 1), none⟩]) (.reg [⟨(some 123), (.mv (.t 10)), none⟩, ⟨(some 124), (.nilc (.t 123)), none⟩, ⟨(some 125), (.fa (.t 124) 0), none⟩, ⟨(some 126), (.ld (.t 125) none), none⟩, ⟨(some 127), (.mv (.t 1)), none⟩, ⟨(some 128), (.mv (.t 0)), none⟩, ⟨(some 129), (.nilc (.t 128)), none⟩, ⟨(some 130), (.fa (.t 129) 0), none⟩, ⟨(some 131), (.ld (.t 130) none), none⟩, ⟨(some 132), (.mv (.t 1)), none⟩, ⟨(some 133), (.ixs (.t 131) (.t 132) 1), none⟩, ⟨(some 134), (.ld (.t 133) none), none⟩, ⟨(some 135), (.mv (.t 1)), none⟩, ⟨(some 136), (.ixs (.t 134) (.t 135) 1), none⟩, ⟨(some 137), (.ld (.t 136) none), none⟩] [⟨(some 138), (.ixs (.t 126) (.t 127) 1), none⟩, ⟨none, (.st (.t 138) (.t 137) 1), none⟩]))) 
  (.seq (.reg [] [⟨(some 8), (.mv (.c (.v (.int .i64 0)))), none⟩]) .ret))))))), [(.t 8)]⟩

def c26 : MF := ⟨1, 8, 
  (.seq (.reg [] [⟨(some 2), (.mv (.c (.v (.slice none 0 0)))), none⟩]) 
  (.seq 
  (.seq (.reg [] [⟨(some 3), (.mv (.t 0)), none⟩, ⟨(some 4), (.eqn false 0 (.t 3)), none⟩]) (.cond (.t 4) 
  (.seq (.reg [] [⟨(some 2), (.mv (.c (.v (.slice none 0 0)))), none⟩]) .ret) .skip)) 
  (.seq (.reg [] [⟨(some 5), (.bsl [(.v (.int .i64 0)), (.v (.int .i64 0)), (.v (.int .i64 0))] 0 []), none⟩, ⟨(some 6), (.mv (.t 0)), none⟩, ⟨(some 7), (.app (.t 5) (.t 6) 3 24), none⟩, ⟨(some 2), (.mv (.t 7)), none⟩]) .ret))), [(.t 2)]⟩

def c27 : MF := ⟨5, 53, 
  (.seq (.reg [] [⟨(some 10), (.mv (.c (.v (.bool false)))), none⟩, ⟨(some 11), (.mv (.c (.v (.int .i64 0)))), none⟩]) 
  (.seq 
  (.seq (.reg [] [⟨(some 13), (.mv (.t 0)), none⟩, ⟨(some 14), (.mv (.t 1)), none⟩, ⟨(some 15), (.mv (.t 2)), none⟩, ⟨(some 16), (.mv (.t 0)), none⟩, ⟨(some 17), (.call (.c (.f 34 [])) [(.t 16), (.c (.f 35 []))]), none⟩, ⟨(some 18), (.call (.c (.f 20 [])) [(.t 13), (.t 14), (.t 15), (.t 17)]), none⟩, ⟨(some 12), (.mv (.t 18)), none⟩]) 
  (.seq (.reg [] [⟨(some 19), (.mv (.t 12)), none⟩, ⟨(some 20), (.bin .neq (.t 19) (.c (.v (.int .i64 0)))), none⟩]) (.cond (.t 20) 
  (.seq (.reg [] [⟨(some 21), (.mv (.t 12)), none⟩, ⟨(some 10), (.mv (.c (.v (.bool false)))), none⟩, ⟨(some 11), (.mv (.t 21)), none⟩]) .ret) .skip))) 
  (.seq (.reg [⟨(some 22), (.mv (.t 0)), none⟩, ⟨(some 23), (.nilc (.t 22)), none⟩, ⟨(some 24), (.fa (.t 23) 0), none⟩, ⟨(some 25), (.ld (.t 24) none), none⟩, ⟨(some 26), (.mv (.t 1)), none⟩, ⟨(some 27), (.ixs (.t 25) (.t 26) 1), none⟩, ⟨(some 28), (.ld (.t 27) none), none⟩, ⟨(some 29), (.mv (.t 0)), none⟩, ⟨(some 30), (.nilc (.t 29)), none⟩, ⟨(some 31), (.fa (.t 30) 1), none⟩, ⟨(some 32), (.ld (.t 31) none), none⟩, ⟨(some 33), (.mv (.t 2)), none⟩, ⟨(some 34), (.ixs (.t 32) (.t 33) 2), none⟩, ⟨(some 35), (.fa (.t 34) 1), none⟩, ⟨(some 36), (.ld (.t 35) none), none⟩] [⟨(some 37), (.call (.c (.f 23 [])) [(.t 28), (.t 36)]), none⟩]) 
  (.seq 
  (.seq (.reg [] [⟨(some 38), (.mv (.t 0)), none⟩, ⟨(some 39), (.nilc (.t 38)), none⟩, ⟨(some 40), (.fa (.t 39) 1), none⟩, ⟨(some 41), (.ld (.t 40) none), none⟩, ⟨(some 42), (.mv (.t 2)), none⟩, ⟨(some 43), (.ixs (.t 41) (.t 42) 2), none⟩, ⟨(some 44), (.fa (.t 43) 0), none⟩, ⟨(some 45), (.ld (.t 44) none), none⟩, ⟨(some 46), (.mv (.t 3)), none⟩, ⟨(some 47), (.bin .neq (.t 45) (.t 46)), none⟩]) (.cond (.t 47) 
  (.seq (.reg [] [⟨(some 10), (.mv (.c (.v (.bool false)))), none⟩, ⟨(some 11), (.mv (.c (.v (.int .i64 0)))), none⟩]) .ret) .skip)) 
  (.seq (.reg [] [⟨(some 48), (.mv (.t 0)), none⟩, ⟨(some 49), (.mv (.t 1)), none⟩, ⟨(some 50), (.mv (.t 2)), none⟩, ⟨(some 51), (.mv (.t 4)), none⟩, ⟨(some 52), (.call (.c (.f 36 [])) [(.t 48), (.t 49), (.t 50), (.t 51)]), none⟩]) 
  (.seq (.reg [] [⟨(some 10), (.mv (.c (.v (.bool true)))), none⟩, ⟨(some 11), (.mv (.c (.v (.int .i64 0)))), none⟩]) .ret)))))), [(.t 10), (.t 11)]⟩

def c28 : MF := ⟨4, 58, 
  (.seq (.reg [] [⟨(some 8), (.mv (.c (.v (.int .i64 0)))), none⟩, ⟨(some 9), (.mv (.c (.v (.int .i64 0)))), none⟩]) 
  (.seq 
  (.seq (.reg [] [⟨(some 11), (.mv (.t 0)), none⟩, ⟨(some 12), (.mv (.t 1)), none⟩, ⟨(some 13), (.mv (.t 2)), none⟩, ⟨(some 14), (.mv (.t 0)), none⟩, ⟨(some 15), (.call (.c (.f 34 [])) [(.t 14), (.c (.f 35 []))]), none⟩, ⟨(some 16), (.call (.c (.f 20 [])) [(.t 11), (.t 12), (.t 13), (.t 15)]), none⟩, ⟨(some 10), (.mv (.t 16)), none⟩]) 
  (.seq (.reg [] [⟨(some 17), (.mv (.t 10)), none⟩, ⟨(some 18), (.bin .neq (.t 17) (.c (.v (.int .i64 0)))), none⟩]) (.cond (.t 18) 
  (.seq (.reg [] [⟨(some 19), (.mv (.t 10)), none⟩, ⟨(some 8), (.mv (.c (.v (.int .i64 0)))), none⟩, ⟨(some 9), (.mv (.t 19)), none⟩]) .ret) .skip))) 
  (.seq (.reg [⟨(some 20), (.mv (.t 0)), none⟩, ⟨(some 21), (.nilc (.t 20)), none⟩, ⟨(some 22), (.fa (.t 21) 0), none⟩, ⟨(some 23), (.ld (.t 22) none), none⟩, ⟨(some 24), (.mv (.t 1)), none⟩, ⟨(some 25), (.ixs (.t 23) (.t 24) 1), none⟩, ⟨(some 26), (.ld (.t 25) none), none⟩, ⟨(some 27), (.mv (.t 0)), none⟩, ⟨(some 28), (.nilc (.t 27)), none⟩, ⟨(some 29), (.fa (.t 28) 1), none⟩, ⟨(some 30), (.ld (.t 29) none), none⟩, ⟨(some 31), (.mv (.t 2)), none⟩, ⟨(some 32), (.ixs (.t 30) (.t 31) 2), none⟩, ⟨(some 33), (.fa (.t 32) 1), none⟩, ⟨(some 34), (.ld (.t 33) none), none⟩] [⟨(some 35), (.call (.c (.f 23 [])) [(.t 26), (.t 34)]), none⟩]) 
  (.seq (.reg [] [⟨(some 36), (.mv (.t 0)), none⟩, ⟨(some 37), (.mv (.t 1)), none⟩, ⟨(some 38), (.mv (.t 2)), none⟩, ⟨(some 39), (.mv (.t 0)), none⟩, ⟨(some 40), (.nilc (.t 39)), none⟩, ⟨(some 41), (.fa (.t 40) 1), none⟩, ⟨(some 42), (.ld (.t 41) none), none⟩, ⟨(some 43), (.mv (.t 2)), none⟩, ⟨(some 44), (.ixs (.t 42) (.t 43) 2), none⟩, ⟨(some 45), (.fa (.t 44) 0), none⟩, ⟨(some 46), (.ld (.t 45) none), none⟩, ⟨(some 47), (.mv (.t 3)), none⟩, ⟨(some 48), (.bin .add (.t 46) (.t 47)), none⟩, ⟨(some 49), (.call (.c (.f 36 [])) [(.t 36), (.t 37), (.t 38), (.t 48)]), none⟩]) 
  (.seq (.reg [] [⟨(some 50), (.mv (.t 0)), none⟩, ⟨(some 51), (.nilc (.t 50)), none⟩, ⟨(some 52), (.fa (.t 51) 1), none⟩, ⟨(some 53), (.ld (.t 52) none), none⟩, ⟨(some 54), (.mv (.t 2)), none⟩, ⟨(some 55), (.ixs (.t 53) (.t 54) 2), none⟩, ⟨(some 56), (.fa (.t 55) 0), none⟩, ⟨(some 57), (.ld (.t 56) none), none⟩, ⟨(some 8), (.mv (.t 57)), none⟩, ⟨(some 9), (.mv (.c (.v (.int .i64 0)))), none⟩]) .ret))))), [(.t 8), (.t 9)]⟩

def c29 : MF := ⟨2, 15, 
  (.seq (.reg [] [⟨(some 2), (.box (.t 0)), none⟩, ⟨(some 4), (.mv (.c (.v (.int .i64 0)))), none⟩]) 
  (.seq 
  (.seq (.reg [] [⟨(some 5), (.mv (.t 1)), none⟩, ⟨(some 6), (.bin .leq (.t 5) (.c (.v (.int .i64 3)))), none⟩]) (.cond (.t 6) 
  (.seq (.reg [] [⟨(some 7), (.fa (.t 2) 1), none⟩, ⟨(some 8), (.ld (.t 7) none), none⟩, ⟨(some 4), (.mv (.t 8)), none⟩]) .ret) .skip)) 
  (.seq 
  (.seq (.reg [] [⟨(some 9), (.mv (.t 1)), none⟩, ⟨(some 10), (.bin .leq (.t 9) (.c (.v (.int .i64 5)))), none⟩]) (.cond (.t 10) 
  (.seq (.reg [] [⟨(some 11), (.fa (.t 2) 2), none⟩, ⟨(some 12), (.ld (.t 11) none), none⟩, ⟨(some 4), (.mv (.t 12)), none⟩]) .ret) .skip)) 
  (.seq (.reg [] [⟨(some 13), (.fa (.t 2) 3), none⟩, ⟨(some 14), (.ld (.t 13) none), none⟩, ⟨(some 4), (.mv (.t 14)), none⟩]) .ret)))), [(.t 4)]⟩

def c30 : MF := ⟨2, 28, 
  (.seq (.reg [] [⟨(some 2), (.box (.t 0)), none⟩, ⟨(some 4), (.mv (.c (.v (.int .i64 0)))), none⟩]) 
  (.seq (.reg [] [⟨(some 6), (.ld (.t 2) (some 6)), none⟩, ⟨(some 7), (.mv (.t 1)), none⟩, ⟨(some 8), (.call (.c (.f 39 [])) [(.t 6), (.c (.v (.int .i64 6))), (.t 7)]), none⟩, ⟨(some 5), (.mv (.t 8)), none⟩]) 
  (.seq 
  (.seq (.reg [] [⟨(some 9), (.mv (.t 5)), none⟩, ⟨(some 10), (.bin .lss (.t 9) (.c (.v (.int .i64 0)))), none⟩, ⟨(some 11), (.mv (.t 10)), none⟩, ⟨(some 12), (.fa (.t 2) 4), (some (11, false))⟩, ⟨(some 13), (.ld (.t 12) none), (some (11, false))⟩, ⟨(some 14), (.mv (.t 5)), (some (11, false))⟩, ⟨(some 15), (.ixs (.t 13) (.t 14) 9), (some (11, false))⟩, ⟨(some 16), (.fa (.t 15) 0), (some (11, false))⟩, ⟨(some 17), (.fa (.t 16) 0), (some (11, false))⟩, ⟨(some 18), (.ld (.t 17) none), (some (11, false))⟩, ⟨(some 19), (.bin .eql (.t 18) (.c (.v (.int .i64 7)))), (some (11, false))⟩, ⟨(some 20), (.pick (.t 11) (.c (.v (.bool true))) (.t 19)), none⟩]) (.cond (.t 20) 
  (.seq (.reg [] [⟨(some 4), (.mv (.c (.v (.int .i64 (-1))))), none⟩]) .ret) .skip)) 
  (.seq (.reg [] [⟨(some 21), (.fa (.t 2) 4), none⟩, ⟨(some 22), (.ld (.t 21) none), none⟩, ⟨(some 23), (.mv (.t 5)), none⟩, ⟨(some 24), (.ixs (.t 22) (.t 23) 9), none⟩, ⟨(some 25), (.fa (.t 24) 0), none⟩, ⟨(some 26), (.fa (.t 25) 1), none⟩, ⟨(some 27), (.ld (.t 26) none), none⟩, ⟨(some 4), (.mv (.t 27)), none⟩]) .ret)))), [(.t 4)]⟩

def c31 : MF := ⟨2, 17, 
  (.seq (.reg [] [⟨(some 2), (.box (.t 0)), none⟩, ⟨(some 4), (.mv (.c (.v (.int .i64 0)))), none⟩]) 
  (.seq (.reg [] [⟨(some 6), (.ld (.t 2) (some 6)), none⟩, ⟨(some 7), (.mv (.t 1)), none⟩, ⟨(some 8), (.call (.c (.f 39 [])) [(.t 6), (.c (.v (.int .i64 0))), (.t 7)]), none⟩, ⟨(some 5), (.mv (.t 8)), none⟩]) 
  (.seq 
  (.seq (.reg [] [⟨(some 9), (.mv (.t 5)), none⟩, ⟨(some 10), (.bin .lss (.t 9) (.c (.v (.int .i64 0)))), none⟩]) (.cond (.t 10) 
  (.seq (.reg [] [⟨(some 4), (.mv (.c (.v (.int .i64 0)))), none⟩]) .ret) .skip)) 
  (.seq (.reg [] [⟨(some 11), (.fa (.t 2) 4), none⟩, ⟨(some 12), (.ld (.t 11) none), none⟩, ⟨(some 13), (.mv (.t 5)), none⟩, ⟨(some 14), (.ixs (.t 12) (.t 13) 9), none⟩, ⟨(some 15), (.fa (.t 14) 7), none⟩, ⟨(some 16), (.ld (.t 15) none), none⟩, ⟨(some 4), (.mv (.t 16)), none⟩]) .ret)))), [(.t 4)]⟩

def c32b0 : MC := 
  (.seq 
  (.seq (.reg [] [⟨(some 73), (.mv (.t 11)), none⟩, ⟨(some 74), (.mv (.t 10)), none⟩, ⟨(some 75), (.bin .lss (.t 73) (.t 74)), none⟩]) (.cond (.t 75) .skip (.exit 4))) 
  (.seq (.block 5 (.reg [] [⟨(some 78), (.mv (.t 7)), none⟩, ⟨(some 79), (.mv (.t 11)), none⟩, ⟨(some 80), (.mv (.t 7)), none⟩, ⟨(some 81), (.mv (.t 11)), none⟩, ⟨(some 82), (.ixs (.t 80) (.t 81) 1), none⟩, ⟨(some 83), (.ld (.t 82) none), none⟩, ⟨(some 84), (.mv (.t 83)), none⟩, ⟨(some 85), (.fa (.t 3) 4), (some (84, false))⟩, ⟨(some 86), (.ld (.t 85) none), (some (84, false))⟩, ⟨(some 87), (.mv (.t 10)), (some (84, false))⟩, ⟨(some 88), (.ixs (.t 86) (.t 87) 9), (some (84, false))⟩, ⟨(some 89), (.fa (.t 88) 5), (some (84, false))⟩, ⟨(some 90), (.ld (.t 89) none), (some (84, false))⟩, ⟨(some 91), (.mv (.t 11)), (some (84, false))⟩, ⟨(some 92), (.ixs (.t 90) (.t 91) 1), (some (84, false))⟩, ⟨(some 93), (.ld (.t 92) none), (some (84, false))⟩, ⟨(some 94), (.pick (.t 84) (.c (.v (.bool true))) (.t 93)), none⟩, ⟨(some 95), (.ixs (.t 78) (.t 79) 1), none⟩, ⟨none, (.st (.t 95) (.t 94) 1), none⟩])) (.reg [] [⟨(some 76), (.mv (.t 11)), none⟩, ⟨(some 77), (.bin .add (.t 76) (.c (.v (.int .i64 1)))), none⟩, ⟨(some 11), (.mv (.t 77)), none⟩])))

def c32b1 : MC := 
  (.seq 
  (.seq (.reg [] [⟨(some 36), (.mv (.t 9)), none⟩, ⟨(some 37), (.mv (.t 8)), none⟩, ⟨(some 38), (.bin .lss (.t 36) (.t 37)), none⟩]) (.cond (.t 38) .skip (.exit 2))) 
  (.seq (.block 3 (.reg [] [⟨(some 41), (.mv (.t 7)), none⟩, ⟨(some 42), (.mv (.t 9)), none⟩, ⟨(some 43), (.mv (.t 7)), none⟩, ⟨(some 44), (.mv (.t 9)), none⟩, ⟨(some 45), (.ixs (.t 43) (.t 44) 1), none⟩, ⟨(some 46), (.ld (.t 45) none), none⟩, ⟨(some 47), (.mv (.t 46)), none⟩, ⟨(some 48), (.fa (.t 3) 4), (some (47, false))⟩, ⟨(some 49), (.ld (.t 48) none), (some (47, false))⟩, ⟨(some 50), (.mv (.t 8)), (some (47, false))⟩, ⟨(some 51), (.ixs (.t 49) (.t 50) 9), (some (47, false))⟩, ⟨(some 52), (.fa (.t 51) 5), (some (47, false))⟩, ⟨(some 53), (.ld (.t 52) none), (some (47, false))⟩, ⟨(some 54), (.mv (.t 9)), (some (47, false))⟩, ⟨(some 55), (.ixs (.t 53) (.t 54) 1), (some (47, false))⟩, ⟨(some 56), (.ld (.t 55) none), (some (47, false))⟩, ⟨(some 57), (.pick (.t 47) (.c (.v (.bool true))) (.t 56)), none⟩, ⟨(some 58), (.ixs (.t 41) (.t 42) 1), none⟩, ⟨none, (.st (.t 58) (.t 57) 1), none⟩])) (.reg [] [⟨(some 39), (.mv (.t 9)), none⟩, ⟨(some 40), (.bin .add (.t 39) (.c (.v (.int .i64 1)))), none⟩, ⟨(some 9), (.mv (.t 40)), none⟩])))

def c32b2 : MC := 
  (.seq 
  (.seq (.reg [] [⟨(some 16), (.mv (.t 8)), none⟩, ⟨(some 17), (.fa (.t 3) 4), none⟩, ⟨(some 18), (.ld (.t 17) none), none⟩, ⟨(some 19), (.len (.t 18)), none⟩, ⟨(some 20), (.bin .lss (.t 16) (.t 19)), none⟩]) (.cond (.t 20) .skip (.exit 0))) 
  (.seq (.block 1 
  (.seq (.reg [⟨(some 23), (.fa (.t 3) 4), none⟩, ⟨(some 24), (.ld (.t 23) none), none⟩, ⟨(some 25), (.mv (.t 8)), none⟩, ⟨(some 26), (.ixs (.t 24) (.t 25) 9), none⟩, ⟨(some 27), (.fa (.t 26) 0), none⟩, ⟨(some 28), (.fa (.t 27) 1), none⟩, ⟨(some 29), (.ld (.t 28) none), none⟩, ⟨(some 30), (.fa (.t 4) 1), none⟩, ⟨(some 31), (.ld (.t 30) none), none⟩] [⟨(some 32), (.bin .eql (.t 29) (.t 31)), none⟩]) (.cond (.t 32) 
  (.seq (.reg [] [⟨(some 33), (.mv (.t 7)), none⟩, ⟨(some 34), (.mv (.t 8)), none⟩, ⟨(some 35), (.ixs (.t 33) (.t 34) 1), none⟩, ⟨none, (.st (.t 35) (.c (.v (.bool true))) 1), none⟩]) 
  (.seq (.reg [] [⟨(some 9), (.mv (.c (.v (.int .i64 0)))), none⟩]) (.block 2 
  (.loopN [40, 39, 58, 57, 56, 55, 54, 53, 52, 51, 50, 49, 48, 47, 46, 45, 44, 43, 42, 41, 38, 37, 36] c32b1)))) .skip))) (.reg [] [⟨(some 21), (.mv (.t 8)), none⟩, ⟨(some 22), (.bin .add (.t 21) (.c (.v (.int .i64 1)))), none⟩, ⟨(some 8), (.mv (.t 22)), none⟩])))

def c32 : MF := ⟨3, 97, 
  (.seq (.reg [] [⟨(some 3), (.box (.t 0)), none⟩, ⟨(some 4), (.box (.t 1)), none⟩, ⟨(some 6), (.mv (.c (.v (.slice none 0 0)))), none⟩]) 
  (.seq (.reg [] [⟨(some 12), (.fa (.t 3) 4), none⟩, ⟨(some 13), (.ld (.t 12) none), none⟩, ⟨(some 14), (.len (.t 13)), none⟩, ⟨(some 15), (.mks (.t 14) (.t 14) [(.v (.bool false))] 1 1), none⟩, ⟨(some 7), (.mv (.t 15)), none⟩]) 
  (.seq 
  (.seq (.reg [] [⟨(some 8), (.mv (.c (.v (.int .i64 0)))), none⟩]) (.block 0 
  (.loopN [22, 21, 40, 39, 58, 57, 56, 55, 54, 53, 52, 51, 50, 49, 48, 47, 46, 45, 44, 43, 42, 41, 38, 37, 36, 35, 34, 33, 32, 31, 30, 29, 28, 27, 26, 25, 24, 23, 20, 19, 18, 17, 16] c32b2))) 
  (.seq (.reg [] [⟨(some 59), (.ld (.t 3) (some 6)), none⟩, ⟨(some 60), (.fa (.t 4) 0), none⟩, ⟨(some 61), (.ld (.t 60) none), none⟩, ⟨(some 62), (.fa (.t 4) 2), none⟩, ⟨(some 63), (.ld (.t 62) none), none⟩, ⟨(some 64), (.call (.c (.f 39 [])) [(.t 59), (.t 61), (.t 63)]), none⟩, ⟨(some 10), (.mv (.t 64)), none⟩]) 
  (.seq 
  (.seq (.reg [] [⟨(some 65), (.mv (.t 2)), none⟩, ⟨(some 66), (.mv (.t 65)), none⟩, ⟨(some 67), (.mv (.t 10)), (some (66, true))⟩, ⟨(some 68), (.bin .geq (.t 67) (.c (.v (.int .i64 0)))), (some (66, true))⟩, ⟨(some 69), (.pick (.t 66) (.t 68) (.c (.v (.bool false)))), none⟩]) (.cond (.t 69) 
  (.seq (.reg [] [⟨(some 70), (.mv (.t 7)), none⟩, ⟨(some 71), (.mv (.t 10)), none⟩, ⟨(some 72), (.ixs (.t 70) (.t 71) 1), none⟩, ⟨none, (.st (.t 72) (.c (.v (.bool true))) 1), none⟩]) 
  (.seq (.reg [] [⟨(some 11), (.mv (.c (.v (.int .i64 0)))), none⟩]) (.block 4 
  (.loopN [77, 76, 95, 94, 93, 92, 91, 90, 89, 88, 87, 86, 85, 84, 83, 82, 81, 80, 79, 78, 75, 74, 73] c32b0)))) .skip)) 
  (.seq (.reg [] [⟨(some 96), (.mv (.t 7)), none⟩, ⟨(some 6), (.mv (.t 96)), none⟩]) .ret)))))), [(.t 6)]⟩

def c33b0 : MC := 
  (.seq 
  (.seq (.reg [] [⟨(some 16), (.mv (.t 8)), none⟩, ⟨(some 17), (.fa (.t 2) 4), none⟩, ⟨(some 18), (.ld (.t 17) none), none⟩, ⟨(some 19), (.len (.t 18)), none⟩, ⟨(some 20), (.bin .lss (.t 16) (.t 19)), none⟩]) (.cond (.t 20) .skip (.exit 2))) 
  (.seq (.block 3 
  (.seq (.reg [] [⟨(some 23), (.fa (.t 2) 4), none⟩, ⟨(some 24), (.ld (.t 23) none), none⟩, ⟨(some 25), (.mv (.t 8)), none⟩, ⟨(some 26), (.ixs (.t 24) (.t 25) 9), none⟩, ⟨(some 27), (.fa (.t 26) 0), none⟩, ⟨(some 28), (.ld (.t 27) (some 5)), none⟩, ⟨(some 9), (.box (.c (.agg [(.v (.int .i64 0)), (.v (.int .i64 0)), (.v (.int .i64 0)), (.v (.int .i64 0)), (.v (.int .i64 0))]))), none⟩, ⟨none, (.st (.t 9) (.t 28) 5), none⟩]) 
  (.seq (.reg [] [⟨(some 29), (.fa (.t 9) 1), none⟩, ⟨(some 30), (.ld (.t 29) none), none⟩, ⟨(some 31), (.mv (.t 6)), none⟩, ⟨(some 32), (.bin .eql (.t 30) (.t 31)), none⟩, ⟨(some 33), (.mv (.t 32)), none⟩, ⟨(some 34), (.mv (.t 6)), (some (33, true))⟩, ⟨(some 35), (.fa (.t 3) 0), (some (33, true))⟩, ⟨(some 36), (.fa (.t 35) 1), (some (33, true))⟩, ⟨(some 37), (.ld (.t 36) none), (some (33, true))⟩, ⟨(some 38), (.bin .neq (.t 34) (.t 37)), (some (33, true))⟩, ⟨(some 39), (.pick (.t 33) (.t 38) (.c (.v (.bool false)))), none⟩, ⟨(some 40), (.mv (.t 39)), none⟩, ⟨(some 41), (.fa (.t 9) 2), (some (40, true))⟩, ⟨(some 42), (.ld (.t 41) none), (some (40, true))⟩, ⟨(some 43), (.fa (.t 3) 0), (some (40, true))⟩, ⟨(some 44), (.fa (.t 43) 2), (some (40, true))⟩, ⟨(some 45), (.ld (.t 44) none), (some (40, true))⟩, ⟨(some 46), (.bin .eql (.t 42) (.t 45)), (some (40, true))⟩, ⟨(some 47), (.pick (.t 40) (.t 46) (.c (.v (.bool false)))), none⟩, ⟨(some 48), (.mv (.t 47)), none⟩, ⟨(some 49), (.fa (.t 9) 0), (some (48, true))⟩, ⟨(some 50), (.ld (.t 49) none), (some (48, true))⟩, ⟨(some 51), (.bin .eql (.t 50) (.c (.v (.int .i64 5)))), (some (48, true))⟩, ⟨(some 52), (.mv (.t 51)), (some (48, true))⟩, ⟨(some 53), (.fa (.t 9) 0), (some (52, false))⟩, ⟨(some 54), (.ld (.t 53) none), (some (52, false))⟩, ⟨(some 55), (.bin .eql (.t 54) (.c (.v (.int .i64 4)))), (some (52, false))⟩, ⟨(some 56), (.mv (.t 55)), (some (52, false))⟩, ⟨(some 57), (.fa (.t 3) 0), (some (56, true))⟩, ⟨(some 58), (.fa (.t 57) 0), (some (56, true))⟩, ⟨(some 59), (.ld (.t 58) none), (some (56, true))⟩, ⟨(some 60), (.bin .eql (.t 59) (.c (.v (.int .i64 5)))), (some (56, true))⟩, ⟨(some 61), (.pick (.t 56) (.t 60) (.c (.v (.bool false)))), (some (52, false))⟩, ⟨(some 62), (.pick (.t 52) (.c (.v (.bool true))) (.t 61)), (some (48, true))⟩, ⟨(some 63), (.pick (.t 48) (.t 62) (.c (.v (.bool false)))), none⟩, ⟨(some 64), (.mv (.t 63)), none⟩, ⟨(some 65), (.fa (.t 3) 5), (some (64, true))⟩, ⟨(some 66), (.ld (.t 65) none), (some (64, true))⟩, ⟨(some 67), (.mv (.t 8)), (some (64, true))⟩, ⟨(some 68), (.ixs (.t 66) (.t 67) 1), (some (64, true))⟩, ⟨(some 69), (.ld (.t 68) none), (some (64, true))⟩, ⟨(some 70), (.un .not (.t 69)), (some (64, true))⟩, ⟨(some 71), (.pick (.t 64) (.t 70) (.c (.v (.bool false)))), none⟩]) (.cond (.t 71) (.reg [] [⟨(some 7), (.mv (.c (.v (.bool true)))), none⟩]) .skip)))) (.reg [] [⟨(some 21), (.mv (.t 8)), none⟩, ⟨(some 22), (.bin .add (.t 21) (.c (.v (.int .i64 1)))), none⟩, ⟨(some 8), (.mv (.t 22)), none⟩])))

def c33b1 : MC := 
  (.seq 
  (.seq (.reg [] [⟨(some 10), (.mv (.t 6)), none⟩, ⟨(some 11), (.fa (.t 2) 0), none⟩, ⟨(some 12), (.ld (.t 11) none), none⟩, ⟨(some 13), (.bin .lss (.t 10) (.t 12)), none⟩]) (.cond (.t 13) .skip (.exit 0))) 
  (.seq (.block 1 
  (.seq (.reg [] [⟨(some 7), (.mv (.c (.v (.bool false)))), none⟩]) 
  (.seq 
  (.seq (.reg [] [⟨(some 8), (.mv (.c (.v (.int .i64 0)))), none⟩]) (.block 2 
  (.loopN [22, 21, 71, 70, 69, 68, 67, 66, 65, 64, 63, 62, 61, 60, 59, 58, 57, 56, 55, 54, 53, 52, 51, 50, 49, 48, 47, 46, 45, 44, 43, 42, 41, 40, 39, 38, 37, 36, 35, 34, 33, 32, 31, 30, 29, 28, 27, 26, 25, 24, 23, 20, 19, 18, 17, 16] c33b0))) 
  (.seq (.reg [] [⟨(some 72), (.mv (.t 7)), none⟩]) (.cond (.t 72) (.reg [] [⟨(some 73), (.mv (.t 5)), none⟩, ⟨(some 74), (.fa (.t 3) 0), none⟩, ⟨(some 75), (.fa (.t 74) 2), none⟩, ⟨(some 76), (.ld (.t 75) none), none⟩, ⟨(some 77), (.mv (.t 6)), none⟩, ⟨(some 78), (.fa (.t 3) 0), none⟩, ⟨(some 79), (.fa (.t 78) 1), none⟩, ⟨(some 80), (.ld (.t 79) none), none⟩, ⟨(some 81), (.bld [(.v (.int .i64 0)), (.v (.int .i64 0)), (.v (.int .i64 0))] [(0, (1, (.t 76))), (1, (1, (.t 77))), (2, (1, (.t 80)))]), none⟩, ⟨(some 82), (.bsl [(.v (.int .i64 0)), (.v (.int .i64 0)), (.v (.int .i64 0))] 1 [(0, (3, (.t 81)))]), none⟩, ⟨(some 83), (.app (.t 73) (.t 82) 3 24), none⟩, ⟨(some 5), (.mv (.t 83)), none⟩]) .skip))))) (.reg [] [⟨(some 14), (.mv (.t 6)), none⟩, ⟨(some 15), (.bin .add (.t 14) (.c (.v (.int .i64 1)))), none⟩, ⟨(some 6), (.mv (.t 15)), none⟩])))

def c33 : MF := ⟨2, 85, 
  (.seq (.reg [] [⟨(some 2), (.box (.t 0)), none⟩, ⟨(some 3), (.box (.t 1)), none⟩, ⟨(some 4), (.mv (.c (.v (.slice none 0 0)))), none⟩]) 
  (.seq (.reg [] [⟨(some 5), (.mv (.c (.v (.slice none 0 0)))), none⟩]) 
  (.seq 
  (.seq (.reg [] [⟨(some 6), (.mv (.c (.v (.int .i64 0)))), none⟩]) (.block 0 
  (.loopN [15, 14, 83, 82, 81, 80, 79, 78, 77, 76, 75, 74, 73, 72, 22, 21, 71, 70, 69, 68, 67, 66, 65, 64, 63, 62, 61, 60, 59, 58, 57, 56, 55, 54, 53, 52, 51, 50, 49, 48, 47, 46, 45, 44, 43, 42, 41, 40, 39, 38, 37, 36, 35, 34, 33, 32, 31, 30, 29, 28, 27, 26, 25, 24, 23, 20, 19, 18, 17, 16, 13, 12, 11, 10] c33b1))) 
  (.seq (.reg [] [⟨(some 84), (.mv (.t 5)), none⟩, ⟨(some 4), (.mv (.t 84)), none⟩]) .ret)))), [(.t 4)]⟩

def c34 : MF := ⟨2, 11, 
  (.seq (.reg [] [⟨(some 4), (.mv (.c (.v (.int .i64 0)))), none⟩]) 
  (.seq 
  (.seq (.reg [] [⟨(some 5), (.mv (.t 0)), none⟩, ⟨(some 6), (.eqn false 3 (.t 5)), none⟩]) (.cond (.t 6) 
  (.seq (.reg [] [⟨(some 4), (.mv (.c (.v (.int .i64 0)))), none⟩]) .ret) .skip)) 
  (.seq (.reg [] [⟨(some 7), (.mv (.t 1)), none⟩, ⟨(some 8), (.mv (.t 0)), none⟩, ⟨(some 9), (.call (.t 7) [(.t 8)]), none⟩, ⟨(some 10), (.len (.t 9)), none⟩, ⟨(some 4), (.mv (.t 10)), none⟩]) .ret))), [(.t 4)]⟩

def c35 : MF := ⟨1, 7, 
  (.seq (.reg [] [⟨(some 2), (.mv (.c (.v (.slice none 0 0)))), none⟩]) 
  (.seq (.reg [] [⟨(some 3), (.mv (.t 0)), none⟩, ⟨(some 4), (.nilc (.t 3)), none⟩, ⟨(some 5), (.fa (.t 4) 1), none⟩, ⟨(some 6), (.ld (.t 5) none), none⟩, ⟨(some 2), (.mv (.t 6)), none⟩]) .ret)), [(.t 2)]⟩

def c36 : MF := ⟨4, 24, (.alt (.regM [(.p, ⟨(some 8), (.mv (.t 0)), none⟩), (.p, ⟨(some 9), (.nilc (.t 8)), none⟩), (.p, ⟨(some 10), (.fa (.t 9) 1), none⟩), (.p, ⟨(some 11), (.ld (.t 10) none), none⟩), (.p, ⟨(some 12), (.mv (.t 2)), none⟩), (.p, ⟨(some 13), (.mv (.t 3)), none⟩), (.p, ⟨(some 14), (.mv (.t 0)), none⟩), (.p, ⟨(some 15), (.nilc (.t 14)), none⟩), (.p, ⟨(some 16), (.fa (.t 15) 0), none⟩), (.p, ⟨(some 17), (.ld (.t 16) none), none⟩), (.p, ⟨(some 18), (.mv (.t 1)), none⟩), (.p, ⟨(some 19), (.ixs (.t 17) (.t 18) 1), none⟩), (.p, ⟨(some 20), (.ld (.t 19) none), none⟩), ((.r [6, 7, 8, 9, 10, 11, 12]), ⟨(some 21), (.call (.c (.f 24 [])) [(.t 20)]), none⟩), (.p, ⟨(some 22), (.bld [(.v (.int .i64 0)), (.v (.slice none 0 0))] [(0, (1, (.t 13))), (1, (1, (.t 21)))]), none⟩)] [⟨(some 23), (.ixs (.t 11) (.t 12) 2), none⟩, ⟨none, (.st (.t 23) (.t 22) 2), none⟩]) (.reg [⟨(some 8), (.mv (.t 0)), none⟩, ⟨(some 9), (.nilc (.t 8)), none⟩, ⟨(some 10), (.fa (.t 9) 1), none⟩, ⟨(some 11), (.ld (.t 10) none), none⟩, ⟨(some 12), (.mv (.t 2)), none⟩, ⟨(some 13), (.mv (.t 3)), none⟩, ⟨(some 14), (.mv (.t 0)), none⟩, ⟨(some 15), (.nilc (.t 14)), none⟩, ⟨(some 16), (.fa (.t 15) 0), none⟩, ⟨(some 17), (.ld (.t 16) none), none⟩, ⟨(some 18), (.mv (.t 1)), none⟩, ⟨(some 19), (.ixs (.t 17) (.t 18) 1), none⟩, ⟨(some 20), (.ld (.t 19) none), none⟩, ⟨(some 21), (.call (.c (.f 24 [])) [(.t 20)]), none⟩, ⟨(some 22), (.bld [(.v (.int .i64 0)), (.v (.slice none 0 0))] [(0, (1, (.t 13))), (1, (1, (.t 21)))]), none⟩] [⟨(some 23), (.ixs (.t 11) (.t 12) 2), none⟩, ⟨none, (.st (.t 23) (.t 22) 2), none⟩])), []⟩

def c37 : MF := ⟨2, 11, 
  (.seq (.reg [] [⟨(some 4), (.mv (.c (.v (.int .i64 0)))), none⟩]) 
  (.seq 
  (.seq (.reg [] [⟨(some 5), (.mv (.t 0)), none⟩, ⟨(some 6), (.eqn false 3 (.t 5)), none⟩]) (.cond (.t 6) 
  (.seq (.reg [] [⟨(some 4), (.mv (.c (.v (.int .i64 0)))), none⟩]) .ret) .skip)) 
  (.seq (.reg [] [⟨(some 7), (.mv (.t 1)), none⟩, ⟨(some 8), (.mv (.t 0)), none⟩, ⟨(some 9), (.call (.t 7) [(.t 8)]), none⟩, ⟨(some 10), (.len (.t 9)), none⟩, ⟨(some 4), (.mv (.t 10)), none⟩]) .ret))), [(.t 4)]⟩

def c38 : MF := ⟨1, 7, 
  (.seq (.reg [] [⟨(some 2), (.mv (.c (.v (.slice none 0 0)))), none⟩]) 
  (.seq (.reg [] [⟨(some 3), (.mv (.t 0)), none⟩, ⟨(some 4), (.nilc (.t 3)), none⟩, ⟨(some 5), (.fa (.t 4) 2), none⟩, ⟨(some 6), (.ld (.t 5) none), none⟩, ⟨(some 2), (.mv (.t 6)), none⟩]) .ret)), [(.t 2)]⟩

def c39b0 : MC := 
  (.seq 
  (.seq (.reg [] [⟨(some 13), (.mv (.t 7)), none⟩, ⟨(some 14), (.bin .geq (.t 13) (.c (.v (.int .i64 0)))), none⟩]) (.cond (.t 14) .skip (.exit 0))) 
  (.seq (.block 1 
  (.seq (.reg [] [⟨(some 17), (.fa (.t 3) 4), none⟩, ⟨(some 18), (.ld (.t 17) none), none⟩, ⟨(some 19), (.mv (.t 7)), none⟩, ⟨(some 20), (.ixs (.t 18) (.t 19) 9), none⟩, ⟨(some 21), (.ld (.t 20) (some 9)), none⟩, ⟨(some 8), (.box (.c (.agg [(.v (.int .i64 0)), (.v (.int .i64 0)), (.v (.int .i64 0)), (.v (.int .i64 0)), (.v (.int .i64 0)), (.v (.slice none 0 0)), (.v (.bool false)), (.v (.int .i64 0)), (.v (.bool false))]))), none⟩, ⟨none, (.st (.t 8) (.t 21) 9), none⟩]) 
  (.seq (.reg [] [⟨(some 22), (.fa (.t 8) 0), none⟩, ⟨(some 23), (.fa (.t 22) 2), none⟩, ⟨(some 24), (.ld (.t 23) none), none⟩, ⟨(some 25), (.mv (.t 2)), none⟩, ⟨(some 26), (.bin .eql (.t 24) (.t 25)), none⟩, ⟨(some 27), (.mv (.t 26)), none⟩, ⟨(some 28), (.mv (.t 1)), (some (27, true))⟩, ⟨(some 29), (.bin .leq (.t 28) (.c (.v (.int .i64 3)))), (some (27, true))⟩, ⟨(some 30), (.mv (.t 29)), (some (27, true))⟩, ⟨(some 31), (.fa (.t 8) 0), (some (30, true))⟩, ⟨(some 32), (.fa (.t 31) 0), (some (30, true))⟩, ⟨(some 33), (.ld (.t 32) none), (some (30, true))⟩, ⟨(some 34), (.bin .leq (.t 33) (.c (.v (.int .i64 3)))), (some (30, true))⟩, ⟨(some 35), (.pick (.t 30) (.t 34) (.c (.v (.bool false)))), (some (27, true))⟩, ⟨(some 36), (.mv (.t 35)), (some (27, true))⟩, ⟨(some 37), (.mv (.t 1)), (some (36, false))⟩, ⟨(some 38), (.bin .geq (.t 37) (.c (.v (.int .i64 6)))), (some (36, false))⟩, ⟨(some 39), (.mv (.t 38)), (some (36, false))⟩, ⟨(some 40), (.fa (.t 8) 0), (some (39, true))⟩, ⟨(some 41), (.fa (.t 40) 0), (some (39, true))⟩, ⟨(some 42), (.ld (.t 41) none), (some (39, true))⟩, ⟨(some 43), (.bin .geq (.t 42) (.c (.v (.int .i64 6)))), (some (39, true))⟩, ⟨(some 44), (.pick (.t 39) (.t 43) (.c (.v (.bool false)))), (some (36, false))⟩, ⟨(some 45), (.pick (.t 36) (.c (.v (.bool true))) (.t 44)), (some (27, true))⟩, ⟨(some 46), (.pick (.t 27) (.t 45) (.c (.v (.bool false)))), none⟩, ⟨(some 47), (.mv (.t 46)), none⟩, ⟨(some 48), (.fa (.t 8) 6), (some (47, true))⟩, ⟨(some 49), (.ld (.t 48) none), (some (47, true))⟩, ⟨(some 50), (.pick (.t 47) (.t 49) (.c (.v (.bool false)))), none⟩]) (.cond (.t 50) 
  (.seq (.reg [] [⟨(some 51), (.mv (.t 7)), none⟩, ⟨(some 6), (.mv (.t 51)), none⟩]) .ret) .skip)))) (.reg [] [⟨(some 15), (.mv (.t 7)), none⟩, ⟨(some 16), (.bin .sub (.t 15) (.c (.v (.int .i64 1)))), none⟩, ⟨(some 7), (.mv (.t 16)), none⟩])))

def c39 : MF := ⟨3, 52, 
  (.seq (.reg [] [⟨(some 3), (.box (.t 0)), none⟩, ⟨(some 6), (.mv (.c (.v (.int .i64 0)))), none⟩]) 
  (.seq 
  (.seq (.reg [] [⟨(some 9), (.fa (.t 3) 4), none⟩, ⟨(some 10), (.ld (.t 9) none), none⟩, ⟨(some 11), (.len (.t 10)), none⟩, ⟨(some 12), (.bin .sub (.t 11) (.c (.v (.int .i64 1)))), none⟩, ⟨(some 7), (.mv (.t 12)), none⟩]) (.block 0 
  (.loopN [16, 15, 6, 51, 50, 49, 48, 47, 46, 45, 44, 43, 42, 41, 40, 39, 38, 37, 36, 35, 34, 33, 32, 31, 30, 29, 28, 27, 26, 25, 24, 23, 22, 21, 20, 19, 18, 17, 14, 13] c39b0))) 
  (.seq (.reg [] [⟨(some 6), (.mv (.c (.v (.int .i64 (-1))))), none⟩]) .ret))), [(.t 6)]⟩

def pureL : List FuncId := [14, 29, 30, 31, 39]
theorem ok3 : ∃ md, cF Try.prog md 3 = some c3 := ⟨(true, pureL), by kernel_rfl⟩
theorem ok4 : ∃ md, cF Try.prog md 4 = some c4 := ⟨(true, pureL), by kernel_rfl⟩
theorem ok5 : ∃ md, cF Try.prog md 5 = some c5 := ⟨(true, pureL), by kernel_rfl⟩
theorem ok6 : ∃ md, cF Try.prog md 6 = some c6 := ⟨(true, pureL), by kernel_rfl⟩
theorem ok7 : ∃ md, cF Try.prog md 7 = some c7 := ⟨(true, pureL), by kernel_rfl⟩
theorem ok8 : ∃ md, cF Try.prog md 8 = some c8 := ⟨(true, pureL), by kernel_rfl⟩
theorem ok9 : ∃ md, cF Try.prog md 9 = some c9 := ⟨(true, pureL), by kernel_rfl⟩
theorem ok10 : ∃ md, cF Try.prog md 10 = some c10 := ⟨(true, pureL), by kernel_rfl⟩
theorem ok11 : ∃ md, cF Try.prog md 11 = some c11 := ⟨(true, pureL), by kernel_rfl⟩
theorem ok12 : ∃ md, cF Try.prog md 12 = some c12 := ⟨(true, pureL), by kernel_rfl⟩
theorem ok13 : ∃ md, cF Try.prog md 13 = some c13 := ⟨(true, pureL), by kernel_rfl⟩
theorem ok14 : ∃ md, cF Try.prog md 14 = some c14 := ⟨(true, pureL), by kernel_rfl⟩
theorem ok15 : ∃ md, cF Try.prog md 15 = some c15 := ⟨(true, pureL), by kernel_rfl⟩
theorem ok16 : ∃ md, cF Try.prog md 16 = some c16 := ⟨(true, pureL), by kernel_rfl⟩
theorem ok17 : ∃ md, cF Try.prog md 17 = some c17 := ⟨(true, pureL), by kernel_rfl⟩
theorem ok18 : ∃ md, cF Try.prog md 18 = some c18 := ⟨(true, pureL), by kernel_rfl⟩
theorem ok19 : ∃ md, cF Try.prog md 19 = some c19 := ⟨(true, pureL), by kernel_rfl⟩
theorem ok20 : ∃ md, cF Try.prog md 20 = some c20 := ⟨(true, pureL), by kernel_rfl⟩
theorem ok21 : ∃ md, cF Try.prog md 21 = some c21 := ⟨(true, pureL), by kernel_rfl⟩
theorem ok22 : ∃ md, cF Try.prog md 22 = some c22 := ⟨(true, pureL), by kernel_rfl⟩
theorem ok23 : ∃ md, cF Try.prog md 23 = some c23 := ⟨(true, pureL), by kernel_rfl⟩
theorem ok24 : ∃ md, cF Try.prog md 24 = some c24 := ⟨(true, pureL), by kernel_rfl⟩
theorem ok25 : ∃ md, cF Try.prog md 25 = some c25 := ⟨(true, pureL), by kernel_rfl⟩
theorem ok26 : ∃ md, cF Try.prog md 26 = some c26 := ⟨(true, pureL), by kernel_rfl⟩
theorem ok27 : ∃ md, cF Try.prog md 27 = some c27 := ⟨(true, pureL), by kernel_rfl⟩
theorem ok28 : ∃ md, cF Try.prog md 28 = some c28 := ⟨(true, pureL), by kernel_rfl⟩
theorem ok29 : ∃ md, cF Try.prog md 29 = some c29 := ⟨(true, pureL), by kernel_rfl⟩
theorem ok30 : ∃ md, cF Try.prog md 30 = some c30 := ⟨(true, pureL), by kernel_rfl⟩
theorem ok31 : ∃ md, cF Try.prog md 31 = some c31 := ⟨(true, pureL), by kernel_rfl⟩
theorem ok32 : ∃ md, cF Try.prog md 32 = some c32 := ⟨(true, pureL), by kernel_rfl⟩
theorem ok33 : ∃ md, cF Try.prog md 33 = some c33 := ⟨(true, pureL), by kernel_rfl⟩
theorem ok34 : ∃ md, cF Try.prog md 34 = some c34 := ⟨(true, pureL), by kernel_rfl⟩
theorem ok35 : ∃ md, cF Try.prog md 35 = some c35 := ⟨(true, pureL), by kernel_rfl⟩
theorem ok36 : ∃ md, cF Try.prog md 36 = some c36 := ⟨(true, pureL), by kernel_rfl⟩
theorem ok37 : ∃ md, cF Try.prog md 37 = some c37 := ⟨(true, pureL), by kernel_rfl⟩
theorem ok38 : ∃ md, cF Try.prog md 38 = some c38 := ⟨(true, pureL), by kernel_rfl⟩
theorem ok39 : ∃ md, cF Try.prog md 39 = some c39 := ⟨(true, pureL), by kernel_rfl⟩

def cmL : List (Nat × ME) := [(3, .n c3), (4, .n c4), (5, .n c5), (6, .n c6), (7, .n c7), (8, .s c8), (9, .s c9), (10, .s c10), (11, .s c11), (12, .s c12), (13, .s c13), (14, .n c14), (15, .s c15), (16, .s c16), (17, .n c17), (18, .s c18), (19, .s c19), (20, .s c20), (21, .s c21), (22, .n c22), (23, .s c23), (24, .n c24), (25, .s c25), (26, .n c26), (27, .s c27), (28, .s c28), (29, .n c29), (30, .n c30), (31, .n c31), (32, .s c32), (33, .s c33), (34, .s c34), (35, .n c35), (36, .s c36), (37, .s c37), (38, .n c38), (39, .n c39)]

def cm : FuncId → Option ME := look cmL

theorem hcm : ∀ g m, cm g = some m → Good Try.prog g m := look_ok ⟨ok3, ok4, ok5, ok6, ok7, ok8, ok9, ok10, ok11, ok12, ok13, ok14, ok15, ok16, ok17, ok18, ok19, ok20, ok21, ok22, ok23, ok24, ok25, ok26, ok27, ok28, ok29, ok30, ok31, ok32, ok33, ok34, ok35, ok36, ok37, ok38, ok39, trivial⟩

theorem sh8 : isS cm 8 = true := rfl
theorem sh9 : isS cm 9 = true := rfl
theorem sh10 : isS cm 10 = true := rfl
theorem sh11 : isS cm 11 = true := rfl
theorem sh12 : isS cm 12 = true := rfl
theorem sh13 : isS cm 13 = true := rfl
theorem sh15 : isS cm 15 = true := rfl
theorem sh16 : isS cm 16 = true := rfl
theorem sh18 : isS cm 18 = true := rfl
theorem sh19 : isS cm 19 = true := rfl
theorem sh20 : isS cm 20 = true := rfl
theorem sh21 : isS cm 21 = true := rfl
theorem sh23 : isS cm 23 = true := rfl
theorem sh25 : isS cm 25 = true := rfl
theorem sh27 : isS cm 27 = true := rfl
theorem sh28 : isS cm 28 = true := rfl
theorem sh32 : isS cm 32 = true := rfl
theorem sh33 : isS cm 33 = true := rfl
theorem sh34 : isS cm 34 = true := rfl
theorem sh36 : isS cm 36 = true := rfl
theorem sh37 : isS cm 37 = true := rfl
attribute [push_cast] sh8 sh9 sh10 sh11 sh12 sh13 sh15 sh16 sh18 sh19 sh20 sh21 sh23 sh25 sh27 sh28 sh32 sh33 sh34 sh36 sh37
end Go.Proofs.Ytlbcandecifkcaa
