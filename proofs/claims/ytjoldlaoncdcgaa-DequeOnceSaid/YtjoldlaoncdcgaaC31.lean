/- The resolved code of the functions that are reached, as a program of ours has printed it; each is checked against the given program. -/
import Derived.KernelRfl
import Derived.Test.YtjoldlaoncdcgaaEng20
import Derived.Test.YtjoldlaoncdcgaaProg
namespace Go.Proofs.Ytjoldlaoncdcgaa
open Go

def c3b0 : MC := 
  (.seq 
  (.seq (.reg [] [⟨(some 49), (.mv (.t 10)), none⟩, ⟨(some 50), (.mv (.t 1)), none⟩, ⟨(some 51), (.len (.t 50)), none⟩, ⟨(some 52), (.bin .lss (.t 49) (.t 51)), none⟩]) (.cond (.t 52) .skip (.exit 0))) 
  (.seq (.block 1 
  (.seq (.reg [] [⟨(some 11), (.mv (.c (.v (.int .i64 0)))), none⟩, ⟨(some 12), (.mv (.c (.v (.int .i64 0)))), none⟩]) 
  (.seq (.reg [] [⟨(some 13), (.mv (.c (.v (.pointer none)))), none⟩]) 
  (.seq (.reg [] [⟨(some 55), (.mv (.t 1)), none⟩, ⟨(some 56), (.mv (.t 10)), none⟩, ⟨(some 57), (.ixs (.t 55) (.t 56) 1), none⟩, ⟨(some 58), (.ld (.t 57) none), none⟩, ⟨(some 59), (.bin .and (.t 58) (.c (.v (.int .i64 3)))), none⟩, ⟨(some 14), (.mv (.t 59)), none⟩]) 
  (.seq 
  (.seq (.reg [] [⟨(some 60), (.mv (.t 14)), none⟩]) (.block 2 
  (.seq (.reg [] [⟨(some 79), (.bin .eql (.t 60) (.c (.v (.int .i64 0)))), none⟩, ⟨(some 78), (.mv (.t 79)), none⟩]) (.cond (.t 78) 
  (.seq (.reg [] [⟨(some 80), (.ld (.t 8) (some 2)), none⟩, ⟨(some 81), (.call (.c (.f 9 [])) [(.t 80)]), none⟩, ⟨(some 13), (.mv (.t 81)), none⟩]) (.reg [] [⟨(some 83), (.mv (.t 9)), none⟩, ⟨(some 84), (.mv (.t 5)), none⟩, ⟨(some 85), (.call (.c (.f 10 [])) [(.t 83), (.t 84), (.c (.v (.int .i64 1))), (.c (.v (.int .i64 0)))]), none⟩, ⟨(some 82), (.mv (.t 85)), none⟩, ⟨(some 86), (.ext (.t 82) 0), none⟩, ⟨(some 87), (.ext (.t 82) 1), none⟩, ⟨(some 88), (.ext (.t 82) 2), none⟩, ⟨(some 9), (.mv (.t 86)), none⟩, ⟨(some 11), (.mv (.t 87)), none⟩, ⟨(some 12), (.mv (.t 88)), none⟩])) 
  (.seq (.reg [] [⟨(some 90), (.bin .eql (.t 60) (.c (.v (.int .i64 1)))), none⟩, ⟨(some 89), (.mv (.t 90)), none⟩]) (.cond (.t 89) 
  (.seq (.reg [] [⟨(some 91), (.ld (.t 8) (some 2)), none⟩, ⟨(some 92), (.call (.c (.f 11 [])) [(.t 91)]), none⟩, ⟨(some 13), (.mv (.t 92)), none⟩]) (.reg [] [⟨(some 94), (.mv (.t 9)), none⟩, ⟨(some 95), (.mv (.t 5)), none⟩, ⟨(some 96), (.call (.c (.f 10 [])) [(.t 94), (.t 95), (.c (.v (.int .i64 2))), (.c (.v (.int .i64 0)))]), none⟩, ⟨(some 93), (.mv (.t 96)), none⟩, ⟨(some 97), (.ext (.t 93) 0), none⟩, ⟨(some 98), (.ext (.t 93) 1), none⟩, ⟨(some 99), (.ext (.t 93) 2), none⟩, ⟨(some 9), (.mv (.t 97)), none⟩, ⟨(some 11), (.mv (.t 98)), none⟩, ⟨(some 12), (.mv (.t 99)), none⟩])) 
  (.seq (.reg [⟨(some 61), (.ld (.t 8) (some 2)), none⟩, ⟨(some 62), (.mv (.t 1)), none⟩, ⟨(some 63), (.mv (.t 10)), none⟩, ⟨(some 64), (.ixs (.t 62) (.t 63) 1), none⟩, ⟨(some 65), (.ld (.t 64) none), none⟩] [⟨(some 66), (.call (.c (.f 12 [])) [(.t 61), (.t 65)]), none⟩, ⟨(some 13), (.mv (.t 66)), none⟩]) (.reg [] [⟨(some 68), (.mv (.t 9)), none⟩, ⟨(some 69), (.mv (.t 5)), none⟩, ⟨(some 70), (.mv (.t 1)), none⟩, ⟨(some 71), (.mv (.t 10)), none⟩, ⟨(some 72), (.ixs (.t 70) (.t 71) 1), none⟩, ⟨(some 73), (.ld (.t 72) none), none⟩, ⟨(some 74), (.call (.c (.f 10 [])) [(.t 68), (.t 69), (.c (.v (.int .i64 0))), (.t 73)]), none⟩, ⟨(some 67), (.mv (.t 74)), none⟩, ⟨(some 75), (.ext (.t 67) 0), none⟩, ⟨(some 76), (.ext (.t 67) 1), none⟩, ⟨(some 77), (.ext (.t 67) 2), none⟩, ⟨(some 9), (.mv (.t 75)), none⟩, ⟨(some 11), (.mv (.t 76)), none⟩, ⟨(some 12), (.mv (.t 77)), none⟩])))))))) 
  (.seq (.reg [] [⟨(some 15), (.mv (.c (.v (.int .i64 0)))), none⟩]) 
  (.seq 
  (.seq (.reg [] [⟨(some 100), (.mv (.t 14)), none⟩, ⟨(some 101), (.bin .eql (.t 100) (.c (.v (.int .i64 1)))), none⟩]) (.cond (.t 101) (.reg [] [⟨(some 15), (.mv (.c (.v (.int .i64 2)))), none⟩]) .skip)) 
  (.seq (.reg [] [⟨(some 102), (.mv (.t 13)), none⟩, ⟨(some 103), (.mv (.t 6)), none⟩, ⟨(some 104), (.mv (.t 15)), none⟩, ⟨(some 105), (.call (.c (.f 13 [])) [(.t 102), (.t 103), (.t 104)]), none⟩, ⟨(some 16), (.mv (.t 105)), none⟩]) 
  (.seq (.reg [] [⟨(some 107), (.mv (.t 13)), none⟩, ⟨(some 108), (.call (.c (.f 14 [])) [(.t 107)]), none⟩, ⟨(some 106), (.mv (.t 108)), none⟩, ⟨(some 109), (.ext (.t 106) 0), none⟩, ⟨(some 110), (.ext (.t 106) 1), none⟩, ⟨(some 17), (.mv (.t 109)), none⟩, ⟨(some 18), (.mv (.t 110)), none⟩]) 
  (.seq (.reg [] [⟨(some 111), (.mv (.t 16)), none⟩, ⟨(some 112), (.bin .lss (.t 111) (.c (.v (.int .i64 0)))), none⟩, ⟨(some 113), (.mv (.t 112)), none⟩, ⟨(some 114), (.mv (.t 16)), (some (113, false))⟩, ⟨(some 115), (.bin .gtr (.t 114) (.c (.v (.int .i64 6)))), (some (113, false))⟩, ⟨(some 116), (.pick (.t 113) (.c (.v (.bool true))) (.t 115)), none⟩, ⟨(some 117), (.mv (.t 116)), none⟩, ⟨(some 118), (.mv (.t 14)), (some (117, false))⟩, ⟨(some 119), (.bin .neq (.t 118) (.c (.v (.int .i64 0)))), (some (117, false))⟩, ⟨(some 120), (.mv (.t 119)), (some (117, false))⟩, ⟨(some 121), (.mv (.t 16)), (some (120, true))⟩, ⟨(some 122), (.bin .gtr (.t 121) (.c (.v (.int .i64 4)))), (some (120, true))⟩, ⟨(some 123), (.pick (.t 120) (.t 122) (.c (.v (.bool false)))), (some (117, false))⟩, ⟨(some 124), (.pick (.t 117) (.c (.v (.bool true))) (.t 123)), none⟩, ⟨(some 125), (.mv (.t 124)), none⟩, ⟨(some 126), (.mv (.t 13)), (some (125, false))⟩, ⟨(some 127), (.call (.c (.f 15 [])) [(.t 126)]), (some (125, false))⟩, ⟨(some 128), (.mv (.t 11)), (some (125, false))⟩, ⟨(some 129), (.bin .neq (.t 127) (.t 128)), (some (125, false))⟩, ⟨(some 130), (.pick (.t 125) (.c (.v (.bool true))) (.t 129)), none⟩, ⟨(some 131), (.mv (.t 130)), none⟩, ⟨(some 132), (.mv (.t 18)), (some (131, false))⟩, ⟨(some 133), (.mv (.t 14)), (some (131, false))⟩, ⟨(some 134), (.bin .lss (.t 133) (.c (.v (.int .i64 2)))), (some (131, false))⟩, ⟨(some 135), (.mv (.t 134)), (some (131, false))⟩, ⟨(some 136), (.mv (.t 11)), (some (135, true))⟩, ⟨(some 137), (.bin .eql (.t 136) (.c (.v (.int .i64 1)))), (some (135, true))⟩, ⟨(some 138), (.pick (.t 135) (.t 137) (.c (.v (.bool false)))), (some (131, false))⟩, ⟨(some 139), (.eqv true false [.b] (.t 132) (.t 138)), (some (131, false))⟩, ⟨(some 140), (.pick (.t 131) (.c (.v (.bool true))) (.t 139)), none⟩, ⟨(some 141), (.mv (.t 140)), none⟩, ⟨(some 142), (.mv (.t 18)), (some (141, false))⟩, ⟨(some 143), (.mv (.t 142)), (some (141, false))⟩, ⟨(some 144), (.mv (.t 17)), (some (143, true))⟩, ⟨(some 145), (.mv (.t 12)), (some (143, true))⟩, ⟨(some 146), (.bin .neq (.t 144) (.t 145)), (some (143, true))⟩, ⟨(some 147), (.pick (.t 143) (.t 146) (.c (.v (.bool false)))), (some (141, false))⟩, ⟨(some 148), (.pick (.t 141) (.c (.v (.bool true))) (.t 147)), none⟩, ⟨(some 149), (.mv (.t 148)), none⟩, ⟨(some 150), (.mv (.t 18)), (some (149, false))⟩, ⟨(some 151), (.un .not (.t 150)), (some (149, false))⟩, ⟨(some 152), (.mv (.t 151)), (some (149, false))⟩, ⟨(some 153), (.mv (.t 17)), (some (152, true))⟩, ⟨(some 154), (.bin .neq (.t 153) (.c (.v (.int .i64 0)))), (some (152, true))⟩, ⟨(some 155), (.pick (.t 152) (.t 154) (.c (.v (.bool false)))), (some (149, false))⟩, ⟨(some 156), (.pick (.t 149) (.c (.v (.bool true))) (.t 155)), none⟩]) (.cond (.t 156) 
  (.seq (.reg [] [⟨(some 4), (.mv (.c (.v (.bool false)))), none⟩]) .ret) .skip))))))))))) (.reg [] [⟨(some 53), (.mv (.t 10)), none⟩, ⟨(some 54), (.bin .add (.t 53) (.c (.v (.int .i64 1)))), none⟩, ⟨(some 10), (.mv (.t 54)), none⟩])))

def c3 : MF := ⟨2, 158, 
  (.seq (.reg [] [⟨(some 4), (.mv (.c (.v (.bool false)))), none⟩]) 
  (.seq (.reg [] [⟨(some 19), (.mv (.t 0)), none⟩, ⟨(some 20), (.bin .rem (.t 19) (.c (.v (.int .u8 9)))), none⟩, ⟨(some 21), (.conv .i64 (.t 20)), none⟩, ⟨(some 22), (.bin .add (.t 21) (.c (.v (.int .i64 1)))), none⟩, ⟨(some 5), (.mv (.t 22)), none⟩]) 
  (.seq (.reg [] [⟨(some 24), (.mv (.t 5)), none⟩, ⟨(some 25), (.call (.c (.f 7 [])) [(.t 24)]), none⟩, ⟨(some 26), (.bin .add (.t 25) (.c (.v (.int .i64 2)))), none⟩, ⟨(some 27), (.call (.c (.f 6 [])) [(.c (.v (.int .i64 3))), (.t 26), (.c (.v (.int .i64 0))), (.c (.v (.int .i64 0)))]), none⟩, ⟨(some 23), (.mv (.t 27)), none⟩, ⟨(some 28), (.ext (.t 23) 0), none⟩, ⟨(some 29), (.ext (.t 23) 1), none⟩, ⟨(some 6), (.mv (.t 28)), none⟩, ⟨(some 7), (.mv (.t 29)), none⟩]) 
  (.seq 
  (.seq (.reg [] [⟨(some 30), (.mv (.t 7)), none⟩, ⟨(some 31), (.bin .neq (.t 30) (.c (.v (.int .i64 0)))), none⟩, ⟨(some 32), (.mv (.t 31)), none⟩, ⟨(some 33), (.mv (.t 6)), (some (32, false))⟩, ⟨(some 34), (.eqn false 3 (.t 33)), (some (32, false))⟩, ⟨(some 35), (.pick (.t 32) (.c (.v (.bool true))) (.t 34)), none⟩, ⟨(some 36), (.mv (.t 35)), none⟩, ⟨(some 37), (.mv (.t 1)), (some (36, false))⟩, ⟨(some 38), (.len (.t 37)), (some (36, false))⟩, ⟨(some 39), (.bin .gtr (.t 38) (.c (.v (.int .i64 60)))), (some (36, false))⟩, ⟨(some 40), (.pick (.t 36) (.c (.v (.bool true))) (.t 39)), none⟩]) (.cond (.t 40) 
  (.seq (.reg [] [⟨(some 41), (.mv (.t 1)), none⟩, ⟨(some 42), (.len (.t 41)), none⟩, ⟨(some 43), (.bin .gtr (.t 42) (.c (.v (.int .i64 60)))), none⟩, ⟨(some 44), (.mv (.t 43)), none⟩, ⟨(some 45), (.call (.c (.f 8 [])) []), (some (44, true))⟩, ⟨(some 46), (.pick (.t 44) (.t 45) (.c (.v (.bool false)))), none⟩, ⟨(some 4), (.mv (.t 46)), none⟩]) .ret) .skip)) 
  (.seq (.reg [] [⟨(some 47), (.mv (.t 5)), none⟩, ⟨(some 48), (.bld [(.v (.int .i64 0)), (.v (.int .i64 0))] [(0, (1, (.c (.v (.int .i64 1))))), (1, (1, (.t 47)))]), none⟩, ⟨(some 8), (.box (.c (.agg [(.v (.int .i64 0)), (.v (.int .i64 0))]))), none⟩, ⟨none, (.st (.t 8) (.t 48) 2), none⟩]) 
  (.seq (.reg [] [⟨(some 9), (.mv (.c (.v (.slice none 0 0)))), none⟩]) 
  (.seq 
  (.seq (.reg [] [⟨(some 10), (.mv (.c (.v (.int .i64 0)))), none⟩]) (.block 0 
  (.loopN [54, 53, 4, 156, 155, 154, 153, 152, 151, 150, 149, 148, 147, 146, 145, 144, 143, 142, 141, 140, 139, 138, 137, 136, 135, 134, 133, 132, 131, 130, 129, 128, 127, 126, 125, 124, 123, 122, 121, 120, 119, 118, 117, 116, 115, 114, 113, 112, 111, 110, 109, 106, 108, 107, 105, 104, 103, 102, 101, 100, 77, 76, 75, 67, 74, 73, 72, 71, 70, 69, 68, 66, 65, 64, 63, 62, 61, 99, 98, 97, 93, 96, 95, 94, 92, 91, 89, 90, 88, 87, 86, 82, 85, 84, 83, 81, 80, 78, 79, 60, 59, 58, 57, 56, 55, 52, 51, 50, 49] c3b0))) 
  (.seq (.reg [] [⟨(some 157), (.call (.c (.f 8 [])) []), none⟩, ⟨(some 4), (.mv (.t 157)), none⟩]) .ret)))))))), [(.t 4)]⟩

def c4b0 : MC := 
  (.seq 
  (.seq (.reg [] [⟨(some 107), (.mv (.t 7)), none⟩, ⟨(some 108), (.mv (.t 5)), none⟩, ⟨(some 109), (.nilc (.t 108)), none⟩, ⟨(some 110), (.fa (.t 109) 9), none⟩, ⟨(some 111), (.ld (.t 110) none), none⟩, ⟨(some 112), (.len (.t 111)), none⟩, ⟨(some 113), (.bin .lss (.t 107) (.t 112)), none⟩]) (.cond (.t 113) .skip (.exit 2))) 
  (.seq (.block 3 
  (.seq (.reg [⟨(some 116), (.mv (.t 5)), none⟩, ⟨(some 117), (.nilc (.t 116)), none⟩, ⟨(some 118), (.fa (.t 117) 9), none⟩, ⟨(some 119), (.ld (.t 118) none), none⟩, ⟨(some 120), (.mv (.t 7)), none⟩, ⟨(some 121), (.ixs (.t 119) (.t 120) 1), none⟩, ⟨(some 122), (.ld (.t 121) none), none⟩, ⟨(some 123), (.mv (.t 5)), none⟩, ⟨(some 124), (.nilc (.t 123)), none⟩, ⟨(some 125), (.fa (.t 124) 9), none⟩, ⟨(some 126), (.ld (.t 125) none), none⟩, ⟨(some 127), (.mv (.t 7)), none⟩, ⟨(some 128), (.bin .sub (.t 127) (.c (.v (.int .i64 1)))), none⟩, ⟨(some 129), (.ixs (.t 126) (.t 128) 1), none⟩, ⟨(some 130), (.ld (.t 129) none), none⟩] [⟨(some 131), (.bin .leq (.t 122) (.t 130)), none⟩]) (.cond (.t 131) 
  (.seq (.reg [] [⟨(some 2), (.mv (.c (.v (.bool false)))), none⟩]) .ret) .skip))) (.reg [] [⟨(some 114), (.mv (.t 7)), none⟩, ⟨(some 115), (.bin .add (.t 114) (.c (.v (.int .i64 1)))), none⟩, ⟨(some 7), (.mv (.t 115)), none⟩])))

def c4b1 : MC := 
  (.seq 
  (.seq (.reg [] [⟨(some 85), (.mv (.t 6)), none⟩, ⟨(some 86), (.mv (.t 5)), none⟩, ⟨(some 87), (.nilc (.t 86)), none⟩, ⟨(some 88), (.fa (.t 87) 8), none⟩, ⟨(some 89), (.ld (.t 88) none), none⟩, ⟨(some 90), (.len (.t 89)), none⟩, ⟨(some 91), (.bin .lss (.t 85) (.t 90)), none⟩]) (.cond (.t 91) .skip (.exit 0))) 
  (.seq (.block 1 
  (.seq (.reg [⟨(some 94), (.mv (.t 5)), none⟩, ⟨(some 95), (.nilc (.t 94)), none⟩, ⟨(some 96), (.fa (.t 95) 10), none⟩, ⟨(some 97), (.ld (.t 96) none), none⟩, ⟨(some 98), (.mv (.t 5)), none⟩, ⟨(some 99), (.nilc (.t 98)), none⟩, ⟨(some 100), (.fa (.t 99) 8), none⟩, ⟨(some 101), (.ld (.t 100) none), none⟩, ⟨(some 102), (.mv (.t 6)), none⟩, ⟨(some 103), (.ixs (.t 101) (.t 102) 1), none⟩, ⟨(some 104), (.ld (.t 103) none), none⟩] [⟨(some 105), (.call (.c (.f 17 [])) [(.t 97), (.t 104)]), none⟩, ⟨(some 106), (.bin .neq (.t 105) (.c (.v (.int .i64 1)))), none⟩]) (.cond (.t 106) 
  (.seq (.reg [] [⟨(some 2), (.mv (.c (.v (.bool false)))), none⟩]) .ret) .skip))) (.reg [] [⟨(some 92), (.mv (.t 6)), none⟩, ⟨(some 93), (.bin .add (.t 92) (.c (.v (.int .i64 1)))), none⟩, ⟨(some 6), (.mv (.t 93)), none⟩])))

def c4 : MF := ⟨1, 133, 
  (.seq (.reg [] [⟨(some 1), (.box (.t 0)), none⟩, ⟨(some 2), (.mv (.c (.v (.bool false)))), none⟩]) 
  (.seq 
  (.seq (.reg [] [⟨(some 8), (.fa (.t 1) 0), none⟩, ⟨(some 9), (.ld (.t 8) none), none⟩, ⟨(some 10), (.len (.t 9)), none⟩, ⟨(some 11), (.bin .gtr (.t 10) (.c (.v (.int .i64 40)))), none⟩, ⟨(some 12), (.mv (.t 11)), none⟩, ⟨(some 13), (.fa (.t 1) 1), (some (12, false))⟩, ⟨(some 14), (.ld (.t 13) none), (some (12, false))⟩, ⟨(some 15), (.bin .lss (.t 14) (.c (.v (.int .i64 1)))), (some (12, false))⟩, ⟨(some 16), (.pick (.t 12) (.c (.v (.bool true))) (.t 15)), none⟩, ⟨(some 17), (.mv (.t 16)), none⟩, ⟨(some 18), (.fa (.t 1) 1), (some (17, false))⟩, ⟨(some 19), (.ld (.t 18) none), (some (17, false))⟩, ⟨(some 20), (.bin .gtr (.t 19) (.c (.v (.int .i64 50)))), (some (17, false))⟩, ⟨(some 21), (.pick (.t 17) (.c (.v (.bool true))) (.t 20)), none⟩, ⟨(some 22), (.mv (.t 21)), none⟩, ⟨(some 23), (.fa (.t 1) 2), (some (22, false))⟩, ⟨(some 24), (.ld (.t 23) none), (some (22, false))⟩, ⟨(some 25), (.bin .lss (.t 24) (.c (.v (.int .i64 0)))), (some (22, false))⟩, ⟨(some 26), (.pick (.t 22) (.c (.v (.bool true))) (.t 25)), none⟩, ⟨(some 27), (.mv (.t 26)), none⟩, ⟨(some 28), (.fa (.t 1) 2), (some (27, false))⟩, ⟨(some 29), (.ld (.t 28) none), (some (27, false))⟩, ⟨(some 30), (.bin .gtr (.t 29) (.c (.v (.int .i64 6)))), (some (27, false))⟩, ⟨(some 31), (.pick (.t 27) (.c (.v (.bool true))) (.t 30)), none⟩, ⟨(some 32), (.mv (.t 31)), none⟩, ⟨(some 33), (.fa (.t 1) 3), (some (32, false))⟩, ⟨(some 34), (.ld (.t 33) none), (some (32, false))⟩, ⟨(some 35), (.len (.t 34)), (some (32, false))⟩, ⟨(some 36), (.bin .gtr (.t 35) (.c (.v (.int .i64 400)))), (some (32, false))⟩, ⟨(some 37), (.pick (.t 32) (.c (.v (.bool true))) (.t 36)), none⟩]) (.cond (.t 37) 
  (.seq (.reg [] [⟨(some 38), (.call (.c (.f 8 [])) []), none⟩, ⟨(some 2), (.mv (.t 38)), none⟩]) .ret) .skip)) 
  (.seq (.alt (.regM [(.p, ⟨(some 40), (.fa (.t 1) 2), none⟩), (.p, ⟨(some 41), (.ld (.t 40) none), none⟩), (.p, ⟨(some 42), (.bin .add (.t 41) (.c (.v (.int .i64 1)))), none⟩), (.p, ⟨(some 43), (.fa (.t 1) 1), none⟩), (.p, ⟨(some 44), (.ld (.t 43) none), none⟩), ((.q [3, 4]), ⟨(some 45), (.call (.c (.f 7 [])) [(.t 44)]), none⟩), ((.r [0, 1, 2, 3, 4, 5]), ⟨(some 46), (.call (.c (.f 6 [])) [(.t 42), (.t 45), (.c (.v (.int .i64 0))), (.c (.v (.int .i64 0)))]), none⟩), (.p, ⟨(some 39), (.mv (.t 46)), none⟩), (.p, ⟨(some 47), (.ext (.t 39) 0), none⟩), (.p, ⟨(some 48), (.ext (.t 39) 1), none⟩), (.p, ⟨(some 3), (.mv (.t 47)), none⟩)] [⟨(some 4), (.mv (.t 48)), none⟩]) (.reg [⟨(some 40), (.fa (.t 1) 2), none⟩, ⟨(some 41), (.ld (.t 40) none), none⟩, ⟨(some 42), (.bin .add (.t 41) (.c (.v (.int .i64 1)))), none⟩, ⟨(some 43), (.fa (.t 1) 1), none⟩, ⟨(some 44), (.ld (.t 43) none), none⟩, ⟨(some 45), (.call (.c (.f 7 [])) [(.t 44)]), none⟩, ⟨(some 46), (.call (.c (.f 6 [])) [(.t 42), (.t 45), (.c (.v (.int .i64 0))), (.c (.v (.int .i64 0)))]), none⟩, ⟨(some 39), (.mv (.t 46)), none⟩, ⟨(some 47), (.ext (.t 39) 0), none⟩, ⟨(some 48), (.ext (.t 39) 1), none⟩, ⟨(some 3), (.mv (.t 47)), none⟩] [⟨(some 4), (.mv (.t 48)), none⟩])) 
  (.seq 
  (.seq (.reg [] [⟨(some 49), (.mv (.t 4)), none⟩, ⟨(some 50), (.bin .neq (.t 49) (.c (.v (.int .i64 0)))), none⟩, ⟨(some 51), (.mv (.t 50)), none⟩, ⟨(some 52), (.mv (.t 3)), (some (51, false))⟩, ⟨(some 53), (.eqn false 3 (.t 52)), (some (51, false))⟩, ⟨(some 54), (.pick (.t 51) (.c (.v (.bool true))) (.t 53)), none⟩]) (.cond (.t 54) 
  (.seq (.reg [] [⟨(some 2), (.mv (.c (.v (.bool false)))), none⟩]) .ret) .skip)) 
  (.seq (.regM [(.p, ⟨(some 55), (.ld (.t 1) (some 4)), none⟩), (.p, ⟨(some 56), (.mv (.t 3)), none⟩), (.p, ⟨(some 57), (.fa (.t 1) 1), none⟩), (.p, ⟨(some 58), (.ld (.t 57) none), none⟩), (.p, ⟨(some 59), (.bld [(.v (.int .i64 0)), (.v (.int .i64 0))] [(1, (1, (.t 58)))]), none⟩), (.p, ⟨(some 60), (.fa (.t 1) 2), none⟩), (.p, ⟨(some 61), (.ld (.t 60) none), none⟩), (.p, ⟨(some 62), (.bin .add (.t 61) (.c (.v (.int .i64 1)))), none⟩), ((.m 0), ⟨(some 63), (.mks (.t 62) (.t 62) [(.v (.pointer none)), (.v (.int .i64 0)), (.v (.int .i64 0)), (.v (.bool false))] 4 32), none⟩)] [⟨(some 64), (.bld [(.v (.slice none 0 0)), (.v (.int .i64 0)), (.v (.int .i64 0)), (.v (.slice none 0 0)), (.v (.pointer none)), (.v (.int .i64 0)), (.v (.int .i64 0)), (.v (.slice none 0 0)), (.v (.slice none 0 0)), (.v (.slice none 0 0)), (.v (.slice none 0 0)), (.v (.bool false))] [(0, (4, (.t 55))), (4, (1, (.t 56))), (5, (2, (.t 59))), (7, (1, (.t 63)))]), none⟩, ⟨(some 65), (.box (.t 64)), none⟩, ⟨(some 5), (.mv (.t 65)), none⟩]) 
  (.seq (.reg [] [⟨(some 66), (.mv (.t 5)), none⟩, ⟨(some 67), (.call (.c (.f 16 [])) [(.t 66)]), none⟩]) 
  (.seq 
  (.seq (.reg [⟨(some 68), (.mv (.t 5)), none⟩, ⟨(some 69), (.nilc (.t 68)), none⟩, ⟨(some 70), (.fa (.t 69) 11), none⟩, ⟨(some 71), (.ld (.t 70) none), none⟩, ⟨(some 72), (.mv (.t 71)), none⟩, ⟨(some 73), (.mv (.t 5)), (some (72, false))⟩, ⟨(some 74), (.nilc (.t 73)), (some (72, false))⟩, ⟨(some 75), (.fa (.t 74) 10), (some (72, false))⟩, ⟨(some 76), (.ld (.t 75) none), (some (72, false))⟩, ⟨(some 77), (.len (.t 76)), (some (72, false))⟩, ⟨(some 78), (.mv (.t 5)), (some (72, false))⟩, ⟨(some 79), (.nilc (.t 78)), (some (72, false))⟩, ⟨(some 80), (.fa (.t 79) 8), (some (72, false))⟩, ⟨(some 81), (.ld (.t 80) none), (some (72, false))⟩, ⟨(some 82), (.len (.t 81)), (some (72, false))⟩] [⟨(some 83), (.bin .neq (.t 77) (.t 82)), (some (72, false))⟩, ⟨(some 84), (.pick (.t 72) (.c (.v (.bool true))) (.t 83)), none⟩]) (.cond (.t 84) 
  (.seq (.reg [] [⟨(some 2), (.mv (.c (.v (.bool false)))), none⟩]) .ret) .skip)) 
  (.seq 
  (.seq (.reg [] [⟨(some 6), (.mv (.c (.v (.int .i64 0)))), none⟩]) (.block 0 
  (.loopN [93, 92, 2, 106, 105, 104, 103, 102, 101, 100, 99, 98, 97, 96, 95, 94, 91, 90, 89, 88, 87, 86, 85] c4b1))) 
  (.seq 
  (.seq (.reg [] [⟨(some 7), (.mv (.c (.v (.int .i64 1)))), none⟩]) (.block 2 
  (.loopN [115, 114, 2, 131, 130, 129, 128, 127, 126, 125, 124, 123, 122, 121, 120, 119, 118, 117, 116, 113, 112, 111, 110, 109, 108, 107] c4b0))) 
  (.seq (.reg [] [⟨(some 132), (.call (.c (.f 8 [])) []), none⟩, ⟨(some 2), (.mv (.t 132)), none⟩]) .ret)))))))))), [(.t 2)]⟩

def c5 : MF := ⟨2, 128, 
  (.seq (.reg [] [⟨(some 2), (.box (.t 0)), none⟩, ⟨(some 4), (.mv (.c (.v (.bool false)))), none⟩]) 
  (.seq (.reg [] [⟨(some 17), (.call (.c (.f 6 [])) [(.c (.v (.int .i64 2))), (.c (.v (.int .i64 6))), (.c (.v (.int .i64 0))), (.c (.v (.int .i64 0)))]), none⟩, ⟨(some 16), (.mv (.t 17)), none⟩, ⟨(some 18), (.ext (.t 16) 0), none⟩, ⟨(some 19), (.ext (.t 16) 1), none⟩, ⟨(some 5), (.mv (.t 18)), none⟩, ⟨(some 6), (.mv (.t 19)), none⟩]) 
  (.seq 
  (.seq (.reg [] [⟨(some 20), (.mv (.t 6)), none⟩, ⟨(some 21), (.bin .neq (.t 20) (.c (.v (.int .i64 0)))), none⟩, ⟨(some 22), (.mv (.t 21)), none⟩, ⟨(some 23), (.mv (.t 5)), (some (22, false))⟩, ⟨(some 24), (.eqn false 3 (.t 23)), (some (22, false))⟩, ⟨(some 25), (.pick (.t 22) (.c (.v (.bool true))) (.t 24)), none⟩, ⟨(some 26), (.mv (.t 25)), none⟩, ⟨(some 27), (.fa (.t 2) 0), (some (26, false))⟩, ⟨(some 28), (.ld (.t 27) none), (some (26, false))⟩, ⟨(some 29), (.bin .lss (.t 28) (.c (.v (.int .i64 (-100))))), (some (26, false))⟩, ⟨(some 30), (.pick (.t 26) (.c (.v (.bool true))) (.t 29)), none⟩, ⟨(some 31), (.mv (.t 30)), none⟩, ⟨(some 32), (.fa (.t 2) 0), (some (31, false))⟩, ⟨(some 33), (.ld (.t 32) none), (some (31, false))⟩, ⟨(some 34), (.bin .gtr (.t 33) (.c (.v (.int .i64 100)))), (some (31, false))⟩, ⟨(some 35), (.pick (.t 31) (.c (.v (.bool true))) (.t 34)), none⟩]) (.cond (.t 35) 
  (.seq (.reg [] [⟨(some 36), (.fa (.t 2) 0), none⟩, ⟨(some 37), (.ld (.t 36) none), none⟩, ⟨(some 38), (.bin .lss (.t 37) (.c (.v (.int .i64 (-100))))), none⟩, ⟨(some 39), (.mv (.t 38)), none⟩, ⟨(some 40), (.fa (.t 2) 0), (some (39, false))⟩, ⟨(some 41), (.ld (.t 40) none), (some (39, false))⟩, ⟨(some 42), (.bin .gtr (.t 41) (.c (.v (.int .i64 100)))), (some (39, false))⟩, ⟨(some 43), (.pick (.t 39) (.c (.v (.bool true))) (.t 42)), none⟩, ⟨(some 44), (.mv (.t 43)), none⟩, ⟨(some 45), (.call (.c (.f 8 [])) []), (some (44, true))⟩, ⟨(some 46), (.pick (.t 44) (.t 45) (.c (.v (.bool false)))), none⟩, ⟨(some 4), (.mv (.t 46)), none⟩]) .ret) .skip)) 
  (.seq (.reg [] [⟨(some 7), (.mv (.c (.v (.pointer none)))), none⟩]) 
  (.seq (.reg [] [⟨(some 48), (.mv (.t 7)), none⟩, ⟨(some 49), (.mv (.t 5)), none⟩, ⟨(some 50), (.call (.c (.f 18 [])) [(.t 48), (.t 49), (.c (.v (.int .i64 0)))]), none⟩, ⟨(some 47), (.mv (.t 50)), none⟩, ⟨(some 51), (.ext (.t 47) 0), none⟩, ⟨(some 52), (.ext (.t 47) 1), none⟩, ⟨(some 8), (.mv (.t 51)), none⟩, ⟨(some 9), (.mv (.t 52)), none⟩]) 
  (.seq (.reg [] [⟨(some 54), (.mv (.t 7)), none⟩, ⟨(some 55), (.call (.c (.f 14 [])) [(.t 54)]), none⟩, ⟨(some 53), (.mv (.t 55)), none⟩, ⟨(some 56), (.ext (.t 53) 0), none⟩, ⟨(some 57), (.ext (.t 53) 1), none⟩, ⟨(some 10), (.mv (.t 56)), none⟩, ⟨(some 11), (.mv (.t 57)), none⟩]) 
  (.seq (.reg [] [⟨(some 58), (.ld (.t 2) (some 2)), none⟩, ⟨(some 59), (.call (.c (.f 11 [])) [(.t 58)]), none⟩, ⟨(some 12), (.mv (.t 59)), none⟩]) 
  (.seq (.reg [] [⟨(some 61), (.mv (.t 12)), none⟩, ⟨(some 62), (.mv (.t 5)), none⟩, ⟨(some 63), (.mv (.t 1)), none⟩, ⟨(some 64), (.call (.c (.f 18 [])) [(.t 61), (.t 62), (.t 63)]), none⟩, ⟨(some 60), (.mv (.t 64)), none⟩, ⟨(some 65), (.ext (.t 60) 0), none⟩, ⟨(some 66), (.ext (.t 60) 1), none⟩, ⟨(some 13), (.mv (.t 65)), none⟩, ⟨(some 14), (.mv (.t 66)), none⟩]) 
  (.seq (.reg [] [⟨(some 67), (.fa (.t 2) 0), none⟩, ⟨(some 68), (.ld (.t 67) none), none⟩, ⟨(some 69), (.bin .geq (.t 68) (.c (.v (.int .i64 0)))), none⟩, ⟨(some 70), (.mv (.t 69)), none⟩, ⟨(some 71), (.fa (.t 2) 0), (some (70, true))⟩, ⟨(some 72), (.ld (.t 71) none), (some (70, true))⟩, ⟨(some 73), (.bin .lss (.t 72) (.c (.v (.int .i64 6)))), (some (70, true))⟩, ⟨(some 74), (.pick (.t 70) (.t 73) (.c (.v (.bool false)))), none⟩, ⟨(some 75), (.mv (.t 74)), none⟩, ⟨(some 76), (.mv (.t 1)), (some (75, true))⟩, ⟨(some 77), (.bin .geq (.t 76) (.c (.v (.int .i64 0)))), (some (75, true))⟩, ⟨(some 78), (.pick (.t 75) (.t 77) (.c (.v (.bool false)))), none⟩, ⟨(some 79), (.mv (.t 78)), none⟩, ⟨(some 80), (.mv (.t 1)), (some (79, true))⟩, ⟨(some 81), (.bin .lss (.t 80) (.c (.v (.int .i64 2)))), (some (79, true))⟩, ⟨(some 82), (.pick (.t 79) (.t 81) (.c (.v (.bool false)))), none⟩, ⟨(some 15), (.mv (.t 82)), none⟩]) 
  (.seq 
  (.seq (.reg [] [⟨(some 83), (.mv (.t 9)), none⟩, ⟨(some 84), (.bin .neq (.t 83) (.c (.v (.int .i64 1)))), none⟩, ⟨(some 85), (.mv (.t 84)), none⟩, ⟨(some 86), (.mv (.t 11)), (some (85, false))⟩, ⟨(some 87), (.pick (.t 85) (.c (.v (.bool true))) (.t 86)), none⟩, ⟨(some 88), (.mv (.t 87)), none⟩, ⟨(some 89), (.mv (.t 7)), (some (88, false))⟩, ⟨(some 90), (.call (.c (.f 15 [])) [(.t 89)]), (some (88, false))⟩, ⟨(some 91), (.bin .neq (.t 90) (.c (.v (.int .i64 0)))), (some (88, false))⟩, ⟨(some 92), (.pick (.t 88) (.c (.v (.bool true))) (.t 91)), none⟩, ⟨(some 93), (.mv (.t 92)), none⟩, ⟨(some 94), (.mv (.t 13)), (some (93, false))⟩, ⟨(some 95), (.pick (.t 93) (.c (.v (.bool true))) (.t 94)), none⟩]) (.cond (.t 95) 
  (.seq (.reg [] [⟨(some 4), (.mv (.c (.v (.bool false)))), none⟩]) .ret) .skip)) 
  (.seq 
  (.seq (.reg [] [⟨(some 96), (.fa (.t 2) 1), none⟩, ⟨(some 97), (.ld (.t 96) none), none⟩, ⟨(some 98), (.bin .lss (.t 97) (.c (.v (.int .i64 1)))), none⟩, ⟨(some 99), (.mv (.t 98)), none⟩, ⟨(some 100), (.mv (.t 15)), (some (99, false))⟩, ⟨(some 101), (.un .not (.t 100)), (some (99, false))⟩, ⟨(some 102), (.pick (.t 99) (.c (.v (.bool true))) (.t 101)), none⟩]) (.cond (.t 102) 
  (.seq (.reg [] [⟨(some 103), (.mv (.t 14)), none⟩, ⟨(some 104), (.bin .eql (.t 103) (.c (.v (.int .i64 2)))), none⟩, ⟨(some 105), (.mv (.t 104)), none⟩, ⟨(some 106), (.mv (.t 5)), (some (105, true))⟩, ⟨(some 107), (.call (.c (.f 19 [])) [(.t 106)]), (some (105, true))⟩, ⟨(some 108), (.bin .eql (.t 107) (.c (.v (.int .i64 0)))), (some (105, true))⟩, ⟨(some 109), (.pick (.t 105) (.t 108) (.c (.v (.bool false)))), none⟩, ⟨(some 110), (.mv (.t 109)), none⟩, ⟨(some 111), (.mv (.t 12)), (some (110, true))⟩, ⟨(some 112), (.call (.c (.f 15 [])) [(.t 111)]), (some (110, true))⟩, ⟨(some 113), (.bin .eql (.t 112) (.c (.v (.int .i64 0)))), (some (110, true))⟩, ⟨(some 114), (.pick (.t 110) (.t 113) (.c (.v (.bool false)))), none⟩, ⟨(some 115), (.mv (.t 114)), none⟩, ⟨(some 116), (.call (.c (.f 8 [])) []), (some (115, true))⟩, ⟨(some 117), (.pick (.t 115) (.t 116) (.c (.v (.bool false)))), none⟩, ⟨(some 4), (.mv (.t 117)), none⟩]) .ret) .skip)) 
  (.seq (.reg [] [⟨(some 118), (.mv (.t 14)), none⟩, ⟨(some 119), (.bin .eql (.t 118) (.c (.v (.int .i64 0)))), none⟩, ⟨(some 120), (.mv (.t 119)), none⟩, ⟨(some 121), (.mv (.t 5)), (some (120, true))⟩, ⟨(some 122), (.call (.c (.f 19 [])) [(.t 121)]), (some (120, true))⟩, ⟨(some 123), (.bin .eql (.t 122) (.c (.v (.int .i64 1)))), (some (120, true))⟩, ⟨(some 124), (.pick (.t 120) (.t 123) (.c (.v (.bool false)))), none⟩, ⟨(some 125), (.mv (.t 124)), none⟩, ⟨(some 126), (.call (.c (.f 8 [])) []), (some (125, true))⟩, ⟨(some 127), (.pick (.t 125) (.t 126) (.c (.v (.bool false)))), none⟩, ⟨(some 4), (.mv (.t 127)), none⟩]) .ret)))))))))))), [(.t 4)]⟩

def c6b0 : MC := 
  (.seq (.reg [] [⟨(some 65), (.bin .lss (.t 64) (.t 63)), none⟩]) 
  (.seq (.cond (.t 65) .skip (.exit 4)) 
  (.seq (.block 5 
  (.seq (.reg [] [⟨(some 66), (.mv (.t 64)), none⟩, ⟨(some 13), (.mv (.t 66)), none⟩]) (.reg [] [⟨(some 67), (.mv (.t 12)), none⟩, ⟨(some 68), (.nilc (.t 67)), none⟩, ⟨(some 69), (.fa (.t 68) 3), none⟩, ⟨(some 70), (.ld (.t 69) none), none⟩, ⟨(some 71), (.mv (.t 13)), none⟩, ⟨(some 72), (.ixs (.t 70) (.t 71) 2), none⟩, ⟨(some 73), (.fa (.t 72) 0), none⟩, ⟨none, (.st (.t 73) (.c (.v (.int .i64 (-1)))) 1), none⟩]))) (.reg [] [⟨(some 74), (.bin .add (.t 64) (.c (.v (.int .i64 1)))), none⟩, ⟨(some 64), (.mv (.t 74)), none⟩]))))

def c6b1 : MC := 
  (.seq (.reg [] [⟨(some 46), (.bin .lss (.t 45) (.t 44)), none⟩]) 
  (.seq (.cond (.t 46) .skip (.exit 2)) 
  (.seq (.block 3 (.regM [(.p, ⟨(some 47), (.mv (.t 12)), none⟩), (.p, ⟨(some 48), (.mv (.t 12)), none⟩), (.p, ⟨(some 49), (.nilc (.t 48)), none⟩), (.p, ⟨(some 50), (.fa (.t 49) 0), none⟩), (.p, ⟨(some 51), (.ld (.t 50) none), none⟩), (.p, ⟨(some 52), (.mv (.t 0)), none⟩), ((.m 0), ⟨(some 53), (.mks (.t 52) (.t 52) [(.v (.int .i64 0))] 1 8), none⟩), (.p, ⟨(some 54), (.bsl [(.v (.slice none 0 0))] 1 [(0, (1, (.t 53)))]), none⟩), ((.r [1, 2, 3, 4, 5, 6, 7]), ⟨(some 55), (.app (.t 51) (.t 54) 1 24), none⟩)] [⟨(some 56), (.nilc (.t 47)), none⟩, ⟨(some 57), (.fa (.t 56) 0), none⟩, ⟨none, (.st (.t 57) (.t 55) 1), none⟩])) (.reg [] [⟨(some 58), (.bin .add (.t 45) (.c (.v (.int .i64 1)))), none⟩, ⟨(some 45), (.mv (.t 58)), none⟩]))))

def c6b2 : MC := 
  (.seq (.reg [] [⟨(some 26), (.bin .lss (.t 25) (.t 24)), none⟩]) 
  (.seq (.cond (.t 26) .skip (.exit 0)) 
  (.seq (.block 1 
  (.seq (.reg [] [⟨(some 27), (.ixs (.t 23) (.t 25) 1), none⟩, ⟨(some 28), (.ld (.t 27) none), none⟩, ⟨(some 11), (.mv (.t 28)), none⟩]) 
  (.seq (.reg [] [⟨(some 29), (.mv (.t 11)), none⟩, ⟨(some 30), (.bin .lss (.t 29) (.c (.v (.int .i64 0)))), none⟩, ⟨(some 31), (.mv (.t 30)), none⟩, ⟨(some 32), (.mv (.t 11)), (some (31, false))⟩, ⟨(some 33), (.bin .gtr (.t 32) (.c (.v (.int .i64 65536)))), (some (31, false))⟩, ⟨(some 34), (.pick (.t 31) (.c (.v (.bool true))) (.t 33)), none⟩]) (.cond (.t 34) 
  (.seq (.reg [] [⟨(some 8), (.mv (.c (.v (.pointer none)))), none⟩, ⟨(some 9), (.mv (.c (.v (.int .i64 2)))), none⟩]) .ret) .skip)))) (.reg [] [⟨(some 35), (.bin .add (.t 25) (.c (.v (.int .i64 1)))), none⟩, ⟨(some 25), (.mv (.t 35)), none⟩]))))

def c6 : MF := ⟨4, 76, 
  (.seq (.reg [] [⟨(some 8), (.mv (.c (.v (.pointer none)))), none⟩, ⟨(some 9), (.mv (.c (.v (.int .i64 0)))), none⟩]) 
  (.seq 
  (.seq (.reg [] [⟨(some 14), (.mv (.t 0)), none⟩, ⟨(some 15), (.bin .lss (.t 14) (.c (.v (.int .i64 1)))), none⟩, ⟨(some 16), (.mv (.t 15)), none⟩, ⟨(some 17), (.mv (.t 0)), (some (16, false))⟩, ⟨(some 18), (.bin .gtr (.t 17) (.c (.v (.int .i64 80)))), (some (16, false))⟩, ⟨(some 19), (.pick (.t 16) (.c (.v (.bool true))) (.t 18)), none⟩]) (.cond (.t 19) 
  (.seq (.reg [] [⟨(some 8), (.mv (.c (.v (.pointer none)))), none⟩, ⟨(some 9), (.mv (.c (.v (.int .i64 2)))), none⟩]) .ret) .skip)) 
  (.seq 
  (.seq (.reg [] [⟨(some 20), (.mv (.t 1)), none⟩, ⟨(some 21), (.mv (.t 2)), none⟩, ⟨(some 22), (.mv (.t 3)), none⟩, ⟨(some 23), (.bsl [(.v (.int .i64 0))] 3 [(0, (1, (.t 20))), (1, (1, (.t 21))), (2, (1, (.t 22)))]), none⟩, ⟨(some 24), (.len (.t 23)), none⟩, ⟨(some 25), (.mv (.c (.v (.int .i64 0)))), none⟩]) (.block 0 
  (.loopN [35, 9, 8, 34, 33, 32, 31, 30, 29, 28, 27, 26] c6b2))) 
  (.seq (.regM [(.p, ⟨(some 36), (.mv (.t 1)), none⟩), ((.m 0), ⟨(some 37), (.mks (.t 36) (.t 36) [(.v (.int .i64 0)), (.v (.slice none 0 0))] 2 32), none⟩), (.p, ⟨(some 38), (.mv (.t 2)), none⟩), ((.m 1), ⟨(some 39), (.mks (.t 38) (.t 38) [(.v (.slice none 0 0)), (.v (.slice none 0 0))] 2 48), none⟩), (.p, ⟨(some 40), (.mv (.t 3)), none⟩), ((.m 2), ⟨(some 41), (.mks (.t 40) (.t 40) [(.v (.int .i64 0)), (.v (.slice none 0 0))] 2 32), none⟩)] [⟨(some 42), (.bld [(.v (.slice none 0 0)), (.v (.slice none 0 0)), (.v (.slice none 0 0)), (.v (.slice none 0 0)), (.v (.slice none 0 0)), (.v (.int .i64 0))] [(1, (1, (.t 37))), (2, (1, (.t 39))), (3, (1, (.t 41)))]), none⟩, ⟨(some 43), (.box (.t 42)), none⟩, ⟨(some 12), (.mv (.t 43)), none⟩]) 
  (.seq 
  (.seq (.reg [] [⟨(some 44), (.mv (.t 0)), none⟩, ⟨(some 45), (.mv (.c (.v (.int .i64 0)))), none⟩]) (.block 2 
  (.loopN [58, 57, 56, 55, 54, 53, 52, 51, 50, 49, 48, 47, 46] c6b1))) 
  (.seq 
  (.seq (.reg [] [⟨(some 59), (.mv (.t 12)), none⟩, ⟨(some 60), (.nilc (.t 59)), none⟩, ⟨(some 61), (.fa (.t 60) 3), none⟩, ⟨(some 62), (.ld (.t 61) none), none⟩, ⟨(some 63), (.len (.t 62)), none⟩, ⟨(some 64), (.mv (.c (.v (.int .i64 0)))), none⟩]) (.block 4 
  (.loopN [74, 73, 72, 71, 70, 69, 68, 67, 66, 65] c6b0))) 
  (.seq (.reg [] [⟨(some 75), (.mv (.t 12)), none⟩, ⟨(some 8), (.mv (.t 75)), none⟩, ⟨(some 9), (.mv (.c (.v (.int .i64 0)))), none⟩]) .ret))))))), [(.t 8), (.t 9)]⟩

def c7 : MF := ⟨1, 5, 
  (.seq (.reg [] [⟨(some 2), (.mv (.c (.v (.int .i64 0)))), none⟩]) 
  (.seq (.reg [] [⟨(some 3), (.mv (.t 0)), none⟩, ⟨(some 4), (.bin .add (.t 3) (.c (.v (.int .i64 2)))), none⟩, ⟨(some 2), (.mv (.t 4)), none⟩]) .ret)), [(.t 2)]⟩

def c8 : MF := ⟨0, 62, 
  (.seq (.reg [] [⟨(some 0), (.mv (.c (.v (.bool false)))), none⟩]) 
  (.seq (.reg [] [⟨(some 10), (.call (.c (.f 6 [])) [(.c (.v (.int .i64 2))), (.c (.v (.int .i64 5))), (.c (.v (.int .i64 0))), (.c (.v (.int .i64 0)))]), none⟩, ⟨(some 9), (.mv (.t 10)), none⟩, ⟨(some 11), (.ext (.t 9) 0), none⟩, ⟨(some 12), (.ext (.t 9) 1), none⟩, ⟨(some 1), (.mv (.t 11)), none⟩, ⟨(some 2), (.mv (.t 12)), none⟩]) 
  (.seq 
  (.seq (.reg [] [⟨(some 13), (.mv (.t 2)), none⟩, ⟨(some 14), (.bin .neq (.t 13) (.c (.v (.int .i64 0)))), none⟩]) (.cond (.t 14) 
  (.seq (.reg [] [⟨(some 0), (.mv (.c (.v (.bool false)))), none⟩]) .ret) .skip)) 
  (.seq (.reg [] [⟨(some 15), (.bld [(.v (.int .i64 0)), (.v (.int .i64 0))] [(0, (1, (.c (.v (.int .i64 1))))), (1, (1, (.c (.v (.int .i64 2)))))]), none⟩, ⟨(some 3), (.box (.c (.agg [(.v (.int .i64 0)), (.v (.int .i64 0))]))), none⟩, ⟨none, (.st (.t 3) (.t 15) 2), none⟩]) 
  (.seq (.alt (.regM [(.p, ⟨(some 16), (.ld (.t 3) (some 2)), none⟩), ((.r [0]), ⟨(some 17), (.call (.c (.f 12 [])) [(.t 16), (.c (.v (.int .i64 7)))]), none⟩), (.p, ⟨(some 18), (.ld (.t 3) (some 2)), none⟩), ((.r [0, 1, 2]), ⟨(some 19), (.call (.c (.f 11 [])) [(.t 18)]), none⟩), (.p, ⟨(some 20), (.ld (.t 3) (some 2)), none⟩)] [⟨(some 21), (.call (.c (.f 9 [])) [(.t 20)]), none⟩, ⟨(some 4), (.mv (.t 17)), none⟩, ⟨(some 5), (.mv (.t 19)), none⟩, ⟨(some 6), (.mv (.t 21)), none⟩]) (.reg [⟨(some 16), (.ld (.t 3) (some 2)), none⟩, ⟨(some 17), (.call (.c (.f 12 [])) [(.t 16), (.c (.v (.int .i64 7)))]), none⟩, ⟨(some 18), (.ld (.t 3) (some 2)), none⟩, ⟨(some 19), (.call (.c (.f 11 [])) [(.t 18)]), none⟩, ⟨(some 20), (.ld (.t 3) (some 2)), none⟩] [⟨(some 21), (.call (.c (.f 9 [])) [(.t 20)]), none⟩, ⟨(some 4), (.mv (.t 17)), none⟩, ⟨(some 5), (.mv (.t 19)), none⟩, ⟨(some 6), (.mv (.t 21)), none⟩])) 
  (.seq 
  (.seq (.reg [] [⟨(some 22), (.mv (.t 4)), none⟩, ⟨(some 23), (.mv (.t 1)), none⟩, ⟨(some 24), (.call (.c (.f 13 [])) [(.t 22), (.t 23), (.c (.v (.int .i64 0)))]), none⟩, ⟨(some 25), (.bin .neq (.t 24) (.c (.v (.int .i64 4)))), none⟩, ⟨(some 26), (.mv (.t 25)), none⟩, ⟨(some 27), (.mv (.t 5)), (some (26, false))⟩, ⟨(some 28), (.mv (.t 1)), (some (26, false))⟩, ⟨(some 29), (.call (.c (.f 13 [])) [(.t 27), (.t 28), (.c (.v (.int .i64 1)))]), (some (26, false))⟩, ⟨(some 30), (.bin .neq (.t 29) (.c (.v (.int .i64 4)))), (some (26, false))⟩, ⟨(some 31), (.pick (.t 26) (.c (.v (.bool true))) (.t 30)), none⟩, ⟨(some 32), (.mv (.t 31)), none⟩, ⟨(some 33), (.mv (.t 6)), (some (32, false))⟩, ⟨(some 34), (.mv (.t 1)), (some (32, false))⟩, ⟨(some 35), (.call (.c (.f 13 [])) [(.t 33), (.t 34), (.c (.v (.int .i64 0)))]), (some (32, false))⟩, ⟨(some 36), (.bin .neq (.t 35) (.c (.v (.int .i64 4)))), (some (32, false))⟩, ⟨(some 37), (.pick (.t 32) (.c (.v (.bool true))) (.t 36)), none⟩]) (.cond (.t 37) 
  (.seq (.reg [] [⟨(some 0), (.mv (.c (.v (.bool false)))), none⟩]) .ret) .skip)) 
  (.seq (.reg [] [⟨(some 39), (.mv (.t 5)), none⟩, ⟨(some 40), (.call (.c (.f 14 [])) [(.t 39)]), none⟩, ⟨(some 38), (.mv (.t 40)), none⟩, ⟨(some 41), (.ext (.t 38) 0), none⟩, ⟨(some 42), (.ext (.t 38) 1), none⟩, ⟨(some 7), (.mv (.t 41)), none⟩, ⟨(some 8), (.mv (.t 42)), none⟩]) 
  (.seq (.reg [] [⟨(some 43), (.mv (.t 7)), none⟩, ⟨(some 44), (.bin .eql (.t 43) (.c (.v (.int .i64 7)))), none⟩, ⟨(some 45), (.mv (.t 44)), none⟩, ⟨(some 46), (.mv (.t 8)), (some (45, true))⟩, ⟨(some 47), (.pick (.t 45) (.t 46) (.c (.v (.bool false)))), none⟩, ⟨(some 48), (.mv (.t 47)), none⟩, ⟨(some 49), (.mv (.t 6)), (some (48, true))⟩, ⟨(some 50), (.call (.c (.f 15 [])) [(.t 49)]), (some (48, true))⟩, ⟨(some 51), (.bin .eql (.t 50) (.c (.v (.int .i64 2)))), (some (48, true))⟩, ⟨(some 52), (.pick (.t 48) (.t 51) (.c (.v (.bool false)))), none⟩, ⟨(some 53), (.mv (.t 52)), none⟩, ⟨(some 54), (.mv (.t 4)), (some (53, true))⟩, ⟨(some 55), (.call (.c (.f 15 [])) [(.t 54)]), (some (53, true))⟩, ⟨(some 56), (.bin .eql (.t 55) (.c (.v (.int .i64 1)))), (some (53, true))⟩, ⟨(some 57), (.pick (.t 53) (.t 56) (.c (.v (.bool false)))), none⟩, ⟨(some 58), (.mv (.t 57)), none⟩, ⟨(some 59), (.call (.c (.f 7 [])) [(.c (.v (.int .i64 3)))]), (some (58, true))⟩, ⟨(some 60), (.bin .eql (.t 59) (.c (.v (.int .i64 5)))), (some (58, true))⟩, ⟨(some 61), (.pick (.t 58) (.t 60) (.c (.v (.bool false)))), none⟩, ⟨(some 0), (.mv (.t 61)), none⟩]) .ret)))))))), [(.t 0)]⟩

def c9 : MF := ⟨1, 6, 
  (.seq (.reg [] [⟨(some 1), (.box (.t 0)), none⟩, ⟨(some 2), (.mv (.c (.v (.pointer none)))), none⟩]) 
  (.seq (.reg [] [⟨(some 3), (.ld (.t 1) (some 2)), none⟩, ⟨(some 4), (.bld [(.v (.int .i64 0)), (.v (.int .i64 0)), (.v .nilFunc), (.v (.int .i64 0)), (.v (.bool false)), (.v (.int .i64 0)), (.v (.int .i64 0)), (.v (.int .i64 0))] [(0, (2, (.t 3))), (4, (1, (.c (.v (.bool true))))), (2, (1, (.c (.f 20 []))))]), none⟩, ⟨(some 5), (.box (.t 4)), none⟩, ⟨(some 2), (.mv (.t 5)), none⟩]) .ret)), [(.t 2)]⟩

def c10 : MF := ⟨4, 46, 
  (.seq (.reg [] [⟨(some 8), (.mv (.c (.v (.slice none 0 0)))), none⟩, ⟨(some 9), (.mv (.c (.v (.int .i64 0)))), none⟩, ⟨(some 10), (.mv (.c (.v (.int .i64 0)))), none⟩]) 
  (.seq 
  (.seq (.reg [] [⟨(some 11), (.mv (.t 2)), none⟩, ⟨(some 12), (.bin .eql (.t 11) (.c (.v (.int .i64 0)))), none⟩]) (.cond (.t 12) 
  (.seq 
  (.seq (.reg [] [⟨(some 13), (.mv (.t 0)), none⟩, ⟨(some 14), (.len (.t 13)), none⟩, ⟨(some 15), (.mv (.t 1)), none⟩, ⟨(some 16), (.bin .geq (.t 14) (.t 15)), none⟩]) (.cond (.t 16) 
  (.seq (.reg [] [⟨(some 17), (.mv (.t 0)), none⟩, ⟨(some 8), (.mv (.t 17)), none⟩, ⟨(some 9), (.mv (.c (.v (.int .i64 4)))), none⟩, ⟨(some 10), (.mv (.c (.v (.int .i64 0)))), none⟩]) .ret) .skip)) 
  (.seq (.reg [] [⟨(some 18), (.bsl [(.v (.int .i64 0))] 0 []), none⟩, ⟨(some 19), (.mv (.t 0)), none⟩, ⟨(some 20), (.app (.t 18) (.t 19) 1 8), none⟩, ⟨(some 21), (.mv (.t 3)), none⟩, ⟨(some 22), (.bsl [(.v (.int .i64 0))] 1 [(0, (1, (.t 21)))]), none⟩, ⟨(some 23), (.app (.t 20) (.t 22) 1 8), none⟩, ⟨(some 8), (.mv (.t 23)), none⟩, ⟨(some 9), (.mv (.c (.v (.int .i64 1)))), none⟩, ⟨(some 10), (.mv (.c (.v (.int .i64 0)))), none⟩]) .ret)) .skip)) 
  (.seq 
  (.seq (.reg [] [⟨(some 24), (.mv (.t 0)), none⟩, ⟨(some 25), (.len (.t 24)), none⟩, ⟨(some 26), (.bin .eql (.t 25) (.c (.v (.int .i64 0)))), none⟩]) (.cond (.t 26) 
  (.seq (.reg [] [⟨(some 27), (.mv (.t 0)), none⟩, ⟨(some 8), (.mv (.t 27)), none⟩, ⟨(some 9), (.mv (.c (.v (.int .i64 2)))), none⟩, ⟨(some 10), (.mv (.c (.v (.int .i64 0)))), none⟩]) .ret) .skip)) 
  (.seq 
  (.seq (.reg [] [⟨(some 28), (.mv (.t 2)), none⟩, ⟨(some 29), (.bin .eql (.t 28) (.c (.v (.int .i64 1)))), none⟩]) (.cond (.t 29) 
  (.seq (.reg [⟨(some 30), (.mv (.t 0)), none⟩, ⟨(some 31), (.mv (.t 0)), none⟩, ⟨(some 32), (.len (.t 31)), none⟩, ⟨(some 33), (.bin .sub (.t 32) (.c (.v (.int .i64 1)))), none⟩, ⟨(some 34), (.slc (.t 30) none (some (.t 33)) none 1), none⟩, ⟨(some 35), (.mv (.t 0)), none⟩, ⟨(some 36), (.mv (.t 0)), none⟩, ⟨(some 37), (.len (.t 36)), none⟩, ⟨(some 38), (.bin .sub (.t 37) (.c (.v (.int .i64 1)))), none⟩, ⟨(some 39), (.ixs (.t 35) (.t 38) 1), none⟩, ⟨(some 40), (.ld (.t 39) none), none⟩, ⟨(some 8), (.mv (.t 34)), none⟩, ⟨(some 9), (.mv (.c (.v (.int .i64 1)))), none⟩] [⟨(some 10), (.mv (.t 40)), none⟩]) .ret) .skip)) 
  (.seq (.reg [⟨(some 41), (.mv (.t 0)), none⟩, ⟨(some 42), (.slc (.t 41) (some (.c (.v (.int .i64 1)))) none none 1), none⟩, ⟨(some 43), (.mv (.t 0)), none⟩, ⟨(some 44), (.ixs (.t 43) (.c (.v (.int .i64 0))) 1), none⟩, ⟨(some 45), (.ld (.t 44) none), none⟩, ⟨(some 8), (.mv (.t 42)), none⟩, ⟨(some 9), (.mv (.c (.v (.int .i64 1)))), none⟩] [⟨(some 10), (.mv (.t 45)), none⟩]) .ret))))), [(.t 8), (.t 9), (.t 10)]⟩

def c11 : MF := ⟨1, 6, 
  (.seq (.reg [] [⟨(some 1), (.box (.t 0)), none⟩, ⟨(some 2), (.mv (.c (.v (.pointer none)))), none⟩]) 
  (.seq (.reg [] [⟨(some 3), (.ld (.t 1) (some 2)), none⟩, ⟨(some 4), (.bld [(.v (.int .i64 0)), (.v (.int .i64 0)), (.v .nilFunc), (.v (.int .i64 0)), (.v (.bool false)), (.v (.int .i64 0)), (.v (.int .i64 0)), (.v (.int .i64 0))] [(0, (2, (.t 3))), (4, (1, (.c (.v (.bool true))))), (2, (1, (.c (.f 21 []))))]), none⟩, ⟨(some 5), (.box (.t 4)), none⟩, ⟨(some 2), (.mv (.t 5)), none⟩]) .ret)), [(.t 2)]⟩

def c12 : MF := ⟨2, 9, 
  (.seq (.reg [] [⟨(some 2), (.box (.t 0)), none⟩, ⟨(some 4), (.mv (.c (.v (.pointer none)))), none⟩]) 
  (.seq (.reg [] [⟨(some 5), (.ld (.t 2) (some 2)), none⟩, ⟨(some 6), (.mv (.t 1)), none⟩, ⟨(some 7), (.bld [(.v (.int .i64 0)), (.v (.int .i64 0)), (.v .nilFunc), (.v (.int .i64 0)), (.v (.bool false)), (.v (.int .i64 0)), (.v (.int .i64 0)), (.v (.int .i64 0))] [(0, (2, (.t 5))), (7, (1, (.t 6))), (2, (1, (.c (.f 22 []))))]), none⟩, ⟨(some 8), (.box (.t 7)), none⟩, ⟨(some 4), (.mv (.t 8)), none⟩]) .ret)), [(.t 4)]⟩

def c13b0 : MC := 
  (.seq 
  (.seq (.reg [] [⟨(some 10), (.mv (.t 7)), none⟩, ⟨(some 11), (.bin .leq (.t 10) (.c (.v (.int .i64 10)))), none⟩]) (.cond (.t 11) .skip (.exit 0))) 
  (.seq (.block 1 
  (.seq (.reg [] [⟨(some 15), (.mv (.t 0)), none⟩, ⟨(some 16), (.mv (.t 1)), none⟩, ⟨(some 17), (.mv (.t 2)), none⟩, ⟨(some 18), (.call (.c (.f 18 [])) [(.t 15), (.t 16), (.t 17)]), none⟩, ⟨(some 14), (.mv (.t 18)), none⟩, ⟨(some 19), (.ext (.t 14) 0), none⟩, ⟨(some 20), (.ext (.t 14) 1), none⟩, ⟨(some 8), (.mv (.t 19)), none⟩, ⟨(some 9), (.mv (.t 20)), none⟩]) 
  (.seq 
  (.seq (.reg [] [⟨(some 21), (.mv (.t 9)), none⟩, ⟨(some 22), (.bin .neq (.t 21) (.c (.v (.int .i64 0)))), none⟩]) (.cond (.t 22) 
  (.seq (.reg [] [⟨(some 6), (.mv (.c (.v (.int .i64 (-1))))), none⟩]) .ret) .skip)) 
  (.seq (.reg [] [⟨(some 23), (.mv (.t 8)), none⟩]) (.cond (.t 23) 
  (.seq (.reg [] [⟨(some 24), (.mv (.t 7)), none⟩, ⟨(some 6), (.mv (.t 24)), none⟩]) .ret) .skip))))) (.reg [] [⟨(some 12), (.mv (.t 7)), none⟩, ⟨(some 13), (.bin .add (.t 12) (.c (.v (.int .i64 1)))), none⟩, ⟨(some 7), (.mv (.t 13)), none⟩])))

def c13 : MF := ⟨3, 25, 
  (.seq (.reg [] [⟨(some 6), (.mv (.c (.v (.int .i64 0)))), none⟩]) 
  (.seq 
  (.seq (.reg [] [⟨(some 7), (.mv (.c (.v (.int .i64 1)))), none⟩]) (.block 0 
  (.loopN [13, 12, 6, 24, 23, 22, 21, 20, 19, 14, 18, 17, 16, 15, 11, 10] c13b0))) 
  (.seq (.reg [] [⟨(some 6), (.mv (.c (.v (.int .i64 (-1))))), none⟩]) .ret))), [(.t 6)]⟩

def c14 : MF := ⟨1, 24, 
  (.seq (.reg [] [⟨(some 2), (.mv (.c (.v (.int .i64 0)))), none⟩, ⟨(some 3), (.mv (.c (.v (.bool false)))), none⟩]) 
  (.seq 
  (.seq (.reg [] [⟨(some 4), (.mv (.t 0)), none⟩, ⟨(some 5), (.eqn false 3 (.t 4)), none⟩, ⟨(some 6), (.mv (.t 5)), none⟩, ⟨(some 7), (.mv (.t 0)), (some (6, false))⟩, ⟨(some 8), (.nilc (.t 7)), (some (6, false))⟩, ⟨(some 9), (.fa (.t 8) 4), (some (6, false))⟩, ⟨(some 10), (.ld (.t 9) none), (some (6, false))⟩, ⟨(some 11), (.un .not (.t 10)), (some (6, false))⟩, ⟨(some 12), (.pick (.t 6) (.c (.v (.bool true))) (.t 11)), none⟩, ⟨(some 13), (.mv (.t 12)), none⟩, ⟨(some 14), (.mv (.t 0)), (some (13, false))⟩, ⟨(some 15), (.nilc (.t 14)), (some (13, false))⟩, ⟨(some 16), (.fa (.t 15) 3), (some (13, false))⟩, ⟨(some 17), (.ld (.t 16) none), (some (13, false))⟩, ⟨(some 18), (.bin .neq (.t 17) (.c (.v (.int .i64 1)))), (some (13, false))⟩, ⟨(some 19), (.pick (.t 13) (.c (.v (.bool true))) (.t 18)), none⟩]) (.cond (.t 19) 
  (.seq (.reg [] [⟨(some 2), (.mv (.c (.v (.int .i64 0)))), none⟩, ⟨(some 3), (.mv (.c (.v (.bool false)))), none⟩]) .ret) .skip)) 
  (.seq (.reg [] [⟨(some 20), (.mv (.t 0)), none⟩, ⟨(some 21), (.nilc (.t 20)), none⟩, ⟨(some 22), (.fa (.t 21) 7), none⟩, ⟨(some 23), (.ld (.t 22) none), none⟩, ⟨(some 2), (.mv (.t 23)), none⟩, ⟨(some 3), (.mv (.c (.v (.bool true)))), none⟩]) .ret))), [(.t 2), (.t 3)]⟩

def c15 : MF := ⟨1, 9, 
  (.seq (.reg [] [⟨(some 2), (.mv (.c (.v (.int .i64 0)))), none⟩]) 
  (.seq 
  (.seq (.reg [] [⟨(some 3), (.mv (.t 0)), none⟩, ⟨(some 4), (.eqn false 3 (.t 3)), none⟩]) (.cond (.t 4) 
  (.seq (.reg [] [⟨(some 2), (.mv (.c (.v (.int .i64 0)))), none⟩]) .ret) .skip)) 
  (.seq (.reg [] [⟨(some 5), (.mv (.t 0)), none⟩, ⟨(some 6), (.nilc (.t 5)), none⟩, ⟨(some 7), (.fa (.t 6) 3), none⟩, ⟨(some 8), (.ld (.t 7) none), none⟩, ⟨(some 2), (.mv (.t 8)), none⟩]) .ret))), [(.t 2)]⟩

def c16b0 : MC := 
  (.seq 
  (.seq (.reg [] [⟨(some 50), (.mv (.t 6)), none⟩, ⟨(some 51), (.bin .lss (.t 50) (.c (.v (.int .i64 60)))), none⟩]) (.cond (.t 51) .skip (.exit 6))) 
  (.seq (.block 7 
  (.seq (.reg [] [⟨(some 54), (.mv (.t 0)), none⟩, ⟨(some 55), (.nilc (.t 54)), none⟩, ⟨(some 56), (.fa (.t 55) 5), none⟩, ⟨(some 57), (.ld (.t 56) (some 2)), none⟩, ⟨(some 58), (.call (.c (.f 9 [])) [(.t 57)]), none⟩, ⟨(some 7), (.mv (.t 58)), none⟩]) 
  (.seq 
  (.seq (.reg [] [⟨(some 59), (.mv (.t 7)), none⟩, ⟨(some 60), (.mv (.t 0)), none⟩, ⟨(some 61), (.nilc (.t 60)), none⟩, ⟨(some 62), (.fa (.t 61) 4), none⟩, ⟨(some 63), (.ld (.t 62) none), none⟩, ⟨(some 64), (.call (.c (.f 13 [])) [(.t 59), (.t 63), (.c (.v (.int .i64 0)))]), none⟩, ⟨(some 65), (.bin .lss (.t 64) (.c (.v (.int .i64 0)))), none⟩]) (.cond (.t 65) 
  (.seq (.reg [] [⟨(some 66), (.mv (.t 0)), none⟩, ⟨(some 67), (.nilc (.t 66)), none⟩, ⟨(some 68), (.fa (.t 67) 11), none⟩, ⟨none, (.st (.t 68) (.c (.v (.bool true))) 1), none⟩]) .ret) .skip)) 
  (.seq (.reg [] [⟨(some 70), (.mv (.t 7)), none⟩, ⟨(some 71), (.call (.c (.f 14 [])) [(.t 70)]), none⟩, ⟨(some 69), (.mv (.t 71)), none⟩, ⟨(some 72), (.ext (.t 69) 0), none⟩, ⟨(some 73), (.ext (.t 69) 1), none⟩, ⟨(some 8), (.mv (.t 72)), none⟩, ⟨(some 9), (.mv (.t 73)), none⟩]) 
  (.seq 
  (.seq (.reg [] [⟨(some 74), (.mv (.t 9)), none⟩, ⟨(some 75), (.un .not (.t 74)), none⟩]) (.cond (.t 75) .ret .skip)) (.reg [] [⟨(some 76), (.mv (.t 0)), none⟩, ⟨(some 77), (.mv (.t 0)), none⟩, ⟨(some 78), (.nilc (.t 77)), none⟩, ⟨(some 79), (.fa (.t 78) 10), none⟩, ⟨(some 80), (.ld (.t 79) none), none⟩, ⟨(some 81), (.mv (.t 8)), none⟩, ⟨(some 82), (.bsl [(.v (.int .i64 0))] 1 [(0, (1, (.t 81)))]), none⟩, ⟨(some 83), (.app (.t 80) (.t 82) 1 8), none⟩, ⟨(some 84), (.nilc (.t 76)), none⟩, ⟨(some 85), (.fa (.t 84) 10), none⟩, ⟨none, (.st (.t 85) (.t 83) 1), none⟩])))))) (.reg [] [⟨(some 52), (.mv (.t 6)), none⟩, ⟨(some 53), (.bin .add (.t 52) (.c (.v (.int .i64 1)))), none⟩, ⟨(some 6), (.mv (.t 53)), none⟩])))

def c16b1 : MC := 
  (.seq 
  (.seq (.reg [] [⟨(some 42), (.mv (.t 5)), none⟩, ⟨(some 43), (.mv (.t 2)), none⟩, ⟨(some 44), (.bin .lss (.t 42) (.t 43)), none⟩]) (.cond (.t 44) .skip (.exit 4))) 
  (.seq (.block 5 (.reg [] [⟨(some 47), (.mv (.t 0)), none⟩, ⟨(some 48), (.mv (.t 5)), none⟩, ⟨(some 49), (.call (.c (.f 23 [])) [(.t 47), (.t 48)]), none⟩])) (.reg [] [⟨(some 45), (.mv (.t 5)), none⟩, ⟨(some 46), (.bin .add (.t 45) (.c (.v (.int .i64 1)))), none⟩, ⟨(some 5), (.mv (.t 46)), none⟩])))

def c16b2 : MC := 
  (.seq 
  (.seq (.reg [] [⟨(some 38), (.mv (.t 4)), none⟩, ⟨(some 39), (.bin .lss (.t 38) (.c (.v (.int .i64 400)))), none⟩]) (.cond (.t 39) .skip (.exit 2))) 
  (.seq (.block 3 
  (.seq (.reg [] [⟨(some 5), (.mv (.c (.v (.int .i64 0)))), none⟩]) (.block 4 
  (.loopN [46, 45, 49, 48, 47, 44, 43, 42] c16b1)))) (.reg [] [⟨(some 40), (.mv (.t 4)), none⟩, ⟨(some 41), (.bin .add (.t 40) (.c (.v (.int .i64 1)))), none⟩, ⟨(some 4), (.mv (.t 41)), none⟩])))

def c16b3 : MC := 
  (.seq 
  (.seq (.reg [] [⟨(some 15), (.mv (.t 3)), none⟩, ⟨(some 16), (.mv (.t 0)), none⟩, ⟨(some 17), (.nilc (.t 16)), none⟩, ⟨(some 18), (.fa (.t 17) 0), none⟩, ⟨(some 19), (.fa (.t 18) 3), none⟩, ⟨(some 20), (.ld (.t 19) none), none⟩, ⟨(some 21), (.len (.t 20)), none⟩, ⟨(some 22), (.bin .lss (.t 15) (.t 21)), none⟩]) (.cond (.t 22) .skip (.exit 0))) 
  (.seq (.block 1 (.reg [] [⟨(some 25), (.mv (.t 0)), none⟩, ⟨(some 26), (.mv (.t 0)), none⟩, ⟨(some 27), (.nilc (.t 26)), none⟩, ⟨(some 28), (.fa (.t 27) 0), none⟩, ⟨(some 29), (.fa (.t 28) 3), none⟩, ⟨(some 30), (.ld (.t 29) none), none⟩, ⟨(some 31), (.mv (.t 3)), none⟩, ⟨(some 32), (.ixs (.t 30) (.t 31) 1), none⟩, ⟨(some 33), (.ld (.t 32) none), none⟩, ⟨(some 34), (.conv .i64 (.t 33)), none⟩, ⟨(some 35), (.mv (.t 2)), none⟩, ⟨(some 36), (.bin .rem (.t 34) (.t 35)), none⟩, ⟨(some 37), (.call (.c (.f 23 [])) [(.t 25), (.t 36)]), none⟩])) (.reg [] [⟨(some 23), (.mv (.t 3)), none⟩, ⟨(some 24), (.bin .add (.t 23) (.c (.v (.int .i64 1)))), none⟩, ⟨(some 3), (.mv (.t 24)), none⟩])))

def c16 : MF := ⟨1, 86, 
  (.seq (.reg [] [⟨(some 10), (.mv (.t 0)), none⟩, ⟨(some 11), (.nilc (.t 10)), none⟩, ⟨(some 12), (.fa (.t 11) 7), none⟩, ⟨(some 13), (.ld (.t 12) none), none⟩, ⟨(some 14), (.len (.t 13)), none⟩, ⟨(some 2), (.mv (.t 14)), none⟩]) 
  (.seq 
  (.seq (.reg [] [⟨(some 3), (.mv (.c (.v (.int .i64 0)))), none⟩]) (.block 0 
  (.loopN [24, 23, 37, 36, 35, 34, 33, 32, 31, 30, 29, 28, 27, 26, 25, 22, 21, 20, 19, 18, 17, 16, 15] c16b3))) 
  (.seq 
  (.seq (.reg [] [⟨(some 4), (.mv (.c (.v (.int .i64 0)))), none⟩]) (.block 2 
  (.loopN [41, 40, 46, 45, 49, 48, 47, 44, 43, 42, 39, 38] c16b2))) 
  (.seq (.reg [] [⟨(some 6), (.mv (.c (.v (.int .i64 0)))), none⟩]) (.block 6 
  (.loopN [53, 52, 85, 84, 83, 82, 81, 80, 79, 78, 77, 76, 75, 74, 73, 72, 69, 71, 70, 68, 67, 66, 65, 64, 63, 62, 61, 60, 59, 58, 57, 56, 55, 54, 51, 50] c16b0)))))), []⟩

def c17b0 : MC := 
  (.seq 
  (.seq (.reg [] [⟨(some 7), (.mv (.t 6)), none⟩, ⟨(some 8), (.mv (.t 0)), none⟩, ⟨(some 9), (.len (.t 8)), none⟩, ⟨(some 10), (.bin .lss (.t 7) (.t 9)), none⟩]) (.cond (.t 10) .skip (.exit 0))) 
  (.seq (.block 1 
  (.seq (.reg [] [⟨(some 13), (.mv (.t 0)), none⟩, ⟨(some 14), (.mv (.t 6)), none⟩, ⟨(some 15), (.ixs (.t 13) (.t 14) 1), none⟩, ⟨(some 16), (.ld (.t 15) none), none⟩, ⟨(some 17), (.mv (.t 1)), none⟩, ⟨(some 18), (.bin .eql (.t 16) (.t 17)), none⟩]) (.cond (.t 18) (.reg [] [⟨(some 19), (.mv (.t 5)), none⟩, ⟨(some 20), (.bin .add (.t 19) (.c (.v (.int .i64 1)))), none⟩, ⟨(some 5), (.mv (.t 20)), none⟩]) .skip))) (.reg [] [⟨(some 11), (.mv (.t 6)), none⟩, ⟨(some 12), (.bin .add (.t 11) (.c (.v (.int .i64 1)))), none⟩, ⟨(some 6), (.mv (.t 12)), none⟩])))

def c17 : MF := ⟨2, 22, 
  (.seq (.reg [] [⟨(some 4), (.mv (.c (.v (.int .i64 0)))), none⟩]) 
  (.seq (.reg [] [⟨(some 5), (.mv (.c (.v (.int .i64 0)))), none⟩]) 
  (.seq 
  (.seq (.reg [] [⟨(some 6), (.mv (.c (.v (.int .i64 0)))), none⟩]) (.block 0 
  (.loopN [12, 11, 20, 19, 18, 17, 16, 15, 14, 13, 10, 9, 8, 7] c17b0))) 
  (.seq (.reg [] [⟨(some 21), (.mv (.t 5)), none⟩, ⟨(some 4), (.mv (.t 21)), none⟩]) .ret)))), [(.t 4)]⟩

def c18 : MF := ⟨3, 40, 
  (.seq (.reg [] [⟨(some 6), (.mv (.c (.v (.bool false)))), none⟩, ⟨(some 7), (.mv (.c (.v (.int .i64 0)))), none⟩]) 
  (.seq (.block 0 
  (.seq (.reg [] [⟨(some 10), (.mv (.t 0)), none⟩, ⟨(some 11), (.eqn false 3 (.t 10)), none⟩, ⟨(some 9), (.mv (.t 11)), none⟩]) (.cond (.t 9) 
  (.seq (.reg [] [⟨(some 6), (.mv (.c (.v (.bool false)))), none⟩, ⟨(some 7), (.mv (.c (.v (.int .i64 1)))), none⟩]) .ret) 
  (.seq (.reg [] [⟨(some 13), (.mv (.t 0)), none⟩, ⟨(some 14), (.nilc (.t 13)), none⟩, ⟨(some 15), (.fa (.t 14) 0), none⟩, ⟨(some 16), (.fa (.t 15) 1), none⟩, ⟨(some 17), (.ld (.t 16) none), none⟩, ⟨(some 18), (.bin .lss (.t 17) (.c (.v (.int .i64 1)))), none⟩, ⟨(some 12), (.mv (.t 18)), none⟩]) (.cond (.t 12) 
  (.seq (.reg [] [⟨(some 6), (.mv (.c (.v (.bool false)))), none⟩, ⟨(some 7), (.mv (.c (.v (.int .i64 2)))), none⟩]) .ret) 
  (.seq (.reg [] [⟨(some 20), (.mv (.t 0)), none⟩, ⟨(some 21), (.nilc (.t 20)), none⟩, ⟨(some 22), (.fa (.t 21) 3), none⟩, ⟨(some 23), (.ld (.t 22) none), none⟩, ⟨(some 24), (.bin .neq (.t 23) (.c (.v (.int .i64 0)))), none⟩, ⟨(some 19), (.mv (.t 24)), none⟩]) (.cond (.t 19) 
  (.seq (.reg [] [⟨(some 6), (.mv (.c (.v (.bool true)))), none⟩, ⟨(some 7), (.mv (.c (.v (.int .i64 0)))), none⟩]) .ret) .skip))))))) 
  (.seq (.reg [] [⟨(some 25), (.mv (.t 0)), none⟩, ⟨(some 26), (.nilc (.t 25)), none⟩, ⟨(some 27), (.fa (.t 26) 2), none⟩, ⟨(some 28), (.ld (.t 27) none), none⟩, ⟨(some 29), (.mv (.t 0)), none⟩, ⟨(some 30), (.mv (.t 1)), none⟩, ⟨(some 31), (.mv (.t 2)), none⟩, ⟨(some 32), (.bld [(.v (.pointer none)), (.v (.int .i64 0))] [(0, (1, (.t 30))), (1, (1, (.t 31)))]), none⟩, ⟨(some 33), (.call (.t 28) [(.t 29), (.t 32)]), none⟩, ⟨(some 8), (.mv (.t 33)), none⟩]) 
  (.seq (.reg [] [⟨(some 34), (.mv (.t 0)), none⟩, ⟨(some 35), (.nilc (.t 34)), none⟩, ⟨(some 36), (.fa (.t 35) 3), none⟩, ⟨(some 37), (.ld (.t 36) none), none⟩, ⟨(some 38), (.bin .neq (.t 37) (.c (.v (.int .i64 0)))), none⟩, ⟨(some 39), (.mv (.t 8)), none⟩, ⟨(some 6), (.mv (.t 38)), none⟩, ⟨(some 7), (.mv (.t 39)), none⟩]) .ret)))), [(.t 6), (.t 7)]⟩

def c19 : MF := ⟨1, 9, 
  (.seq (.reg [] [⟨(some 2), (.mv (.c (.v (.int .i64 0)))), none⟩]) 
  (.seq 
  (.seq (.reg [] [⟨(some 3), (.mv (.t 0)), none⟩, ⟨(some 4), (.eqn false 3 (.t 3)), none⟩]) (.cond (.t 4) 
  (.seq (.reg [] [⟨(some 2), (.mv (.c (.v (.int .i64 0)))), none⟩]) .ret) .skip)) 
  (.seq (.reg [] [⟨(some 5), (.mv (.t 0)), none⟩, ⟨(some 6), (.nilc (.t 5)), none⟩, ⟨(some 7), (.fa (.t 6) 5), none⟩, ⟨(some 8), (.ld (.t 7) none), none⟩, ⟨(some 2), (.mv (.t 8)), none⟩]) .ret))), [(.t 2)]⟩

def c20 : MF := ⟨2, 30, 
  (.seq (.reg [] [⟨(some 3), (.box (.t 1)), none⟩, ⟨(some 4), (.mv (.c (.v (.int .i64 0)))), none⟩]) 
  (.seq (.reg [⟨(some 6), (.mv (.t 0)), none⟩, ⟨(some 7), (.ld (.t 3) (some 2)), none⟩, ⟨(some 8), (.mv (.t 0)), none⟩, ⟨(some 9), (.nilc (.t 8)), none⟩, ⟨(some 10), (.fa (.t 9) 0), none⟩, ⟨(some 11), (.fa (.t 10) 0), none⟩, ⟨(some 12), (.ld (.t 11) none), none⟩, ⟨(some 13), (.bin .add (.t 12) (.c (.v (.int .i64 1)))), none⟩, ⟨(some 14), (.mv (.t 0)), none⟩, ⟨(some 15), (.nilc (.t 14)), none⟩, ⟨(some 16), (.fa (.t 15) 5), none⟩] [⟨(some 17), (.call (.c (.f 24 [])) [(.t 6), (.t 7), (.t 13), (.t 16)]), none⟩, ⟨(some 5), (.mv (.t 17)), none⟩]) 
  (.seq 
  (.seq (.reg [] [⟨(some 18), (.mv (.t 5)), none⟩, ⟨(some 19), (.bin .eql (.t 18) (.c (.v (.int .i64 0)))), none⟩]) (.cond (.t 19) (.reg [] [⟨(some 20), (.mv (.t 0)), none⟩, ⟨(some 21), (.nilc (.t 20)), none⟩, ⟨(some 22), (.fa (.t 21) 5), none⟩, ⟨(some 23), (.ld (.t 22) none), none⟩, ⟨(some 24), (.bin .sub (.t 23) (.c (.v (.int .i64 1)))), none⟩, ⟨(some 25), (.nilc (.t 20)), none⟩, ⟨(some 26), (.fa (.t 25) 5), none⟩, ⟨none, (.st (.t 26) (.t 24) 1), none⟩]) .skip)) 
  (.seq (.reg [] [⟨(some 27), (.mv (.t 0)), none⟩, ⟨(some 28), (.mv (.t 5)), none⟩, ⟨(some 29), (.call (.c (.f 25 [])) [(.t 27), (.c (.f 26 [])), (.t 28)]), none⟩, ⟨(some 4), (.mv (.t 29)), none⟩]) .ret)))), [(.t 4)]⟩

def c21 : MF := ⟨2, 19, 
  (.seq (.reg [] [⟨(some 3), (.box (.t 1)), none⟩, ⟨(some 4), (.mv (.c (.v (.int .i64 0)))), none⟩]) 
  (.seq (.alt (.regM [(.p, ⟨(some 5), (.mv (.t 0)), none⟩), (.p, ⟨(some 6), (.mv (.t 0)), none⟩), (.p, ⟨(some 7), (.ld (.t 3) (some 2)), none⟩), (.p, ⟨(some 8), (.mv (.t 0)), none⟩), (.p, ⟨(some 9), (.nilc (.t 8)), none⟩), (.p, ⟨(some 10), (.fa (.t 9) 0), none⟩), (.p, ⟨(some 11), (.fa (.t 10) 0), none⟩), (.p, ⟨(some 12), (.ld (.t 11) none), none⟩), (.p, ⟨(some 13), (.bin .add (.t 12) (.c (.v (.int .i64 0)))), none⟩), (.p, ⟨(some 14), (.mv (.t 0)), none⟩), (.p, ⟨(some 15), (.nilc (.t 14)), none⟩), (.p, ⟨(some 16), (.fa (.t 15) 6), none⟩), ((.r [1, 2, 3, 4, 5, 6, 7, 8, 9, 10, 11]), ⟨(some 17), (.call (.c (.f 24 [])) [(.t 6), (.t 7), (.t 13), (.t 16)]), none⟩)] [⟨(some 18), (.call (.c (.f 25 [])) [(.t 5), (.c (.f 27 [])), (.t 17)]), none⟩, ⟨(some 4), (.mv (.t 18)), none⟩]) (.reg [⟨(some 5), (.mv (.t 0)), none⟩, ⟨(some 6), (.mv (.t 0)), none⟩, ⟨(some 7), (.ld (.t 3) (some 2)), none⟩, ⟨(some 8), (.mv (.t 0)), none⟩, ⟨(some 9), (.nilc (.t 8)), none⟩, ⟨(some 10), (.fa (.t 9) 0), none⟩, ⟨(some 11), (.fa (.t 10) 0), none⟩, ⟨(some 12), (.ld (.t 11) none), none⟩, ⟨(some 13), (.bin .add (.t 12) (.c (.v (.int .i64 0)))), none⟩, ⟨(some 14), (.mv (.t 0)), none⟩, ⟨(some 15), (.nilc (.t 14)), none⟩, ⟨(some 16), (.fa (.t 15) 6), none⟩, ⟨(some 17), (.call (.c (.f 24 [])) [(.t 6), (.t 7), (.t 13), (.t 16)]), none⟩] [⟨(some 18), (.call (.c (.f 25 [])) [(.t 5), (.c (.f 27 [])), (.t 17)]), none⟩, ⟨(some 4), (.mv (.t 18)), none⟩])) .ret)), [(.t 4)]⟩

def c22 : MF := ⟨2, 19, 
  (.seq (.reg [] [⟨(some 3), (.box (.t 1)), none⟩, ⟨(some 4), (.mv (.c (.v (.int .i64 0)))), none⟩]) 
  (.seq (.alt (.regM [(.p, ⟨(some 5), (.mv (.t 0)), none⟩), (.p, ⟨(some 6), (.mv (.t 0)), none⟩), (.p, ⟨(some 7), (.ld (.t 3) (some 2)), none⟩), (.p, ⟨(some 8), (.mv (.t 0)), none⟩), (.p, ⟨(some 9), (.nilc (.t 8)), none⟩), (.p, ⟨(some 10), (.fa (.t 9) 0), none⟩), (.p, ⟨(some 11), (.fa (.t 10) 0), none⟩), (.p, ⟨(some 12), (.ld (.t 11) none), none⟩), (.p, ⟨(some 13), (.bin .add (.t 12) (.c (.v (.int .i64 1)))), none⟩), (.p, ⟨(some 14), (.mv (.t 0)), none⟩), (.p, ⟨(some 15), (.nilc (.t 14)), none⟩), (.p, ⟨(some 16), (.fa (.t 15) 5), none⟩), ((.r [1, 2, 3, 4, 5, 6, 7, 8, 9, 10, 11]), ⟨(some 17), (.call (.c (.f 24 [])) [(.t 6), (.t 7), (.t 13), (.t 16)]), none⟩)] [⟨(some 18), (.call (.c (.f 25 [])) [(.t 5), (.c (.f 28 [])), (.t 17)]), none⟩, ⟨(some 4), (.mv (.t 18)), none⟩]) (.reg [⟨(some 5), (.mv (.t 0)), none⟩, ⟨(some 6), (.mv (.t 0)), none⟩, ⟨(some 7), (.ld (.t 3) (some 2)), none⟩, ⟨(some 8), (.mv (.t 0)), none⟩, ⟨(some 9), (.nilc (.t 8)), none⟩, ⟨(some 10), (.fa (.t 9) 0), none⟩, ⟨(some 11), (.fa (.t 10) 0), none⟩, ⟨(some 12), (.ld (.t 11) none), none⟩, ⟨(some 13), (.bin .add (.t 12) (.c (.v (.int .i64 1)))), none⟩, ⟨(some 14), (.mv (.t 0)), none⟩, ⟨(some 15), (.nilc (.t 14)), none⟩, ⟨(some 16), (.fa (.t 15) 5), none⟩, ⟨(some 17), (.call (.c (.f 24 [])) [(.t 6), (.t 7), (.t 13), (.t 16)]), none⟩] [⟨(some 18), (.call (.c (.f 25 [])) [(.t 5), (.c (.f 28 [])), (.t 17)]), none⟩, ⟨(some 4), (.mv (.t 18)), none⟩])) .ret)), [(.t 4)]⟩

def c23 : MF := ⟨2, 63, 
  (.seq (.reg [] [⟨(some 7), (.mv (.t 0)), none⟩, ⟨(some 8), (.nilc (.t 7)), none⟩, ⟨(some 9), (.fa (.t 8) 7), none⟩, ⟨(some 10), (.ld (.t 9) none), none⟩, ⟨(some 11), (.mv (.t 1)), none⟩, ⟨(some 12), (.ixs (.t 10) (.t 11) 4), none⟩, ⟨(some 4), (.mv (.t 12)), none⟩]) 
  (.seq 
  (.seq (.reg [] [⟨(some 13), (.mv (.t 4)), none⟩, ⟨(some 14), (.nilc (.t 13)), none⟩, ⟨(some 15), (.fa (.t 14) 3), none⟩, ⟨(some 16), (.ld (.t 15) none), none⟩]) (.cond (.t 16) .ret .skip)) 
  (.seq 
  (.seq (.reg [] [⟨(some 17), (.mv (.t 4)), none⟩, ⟨(some 18), (.nilc (.t 17)), none⟩, ⟨(some 19), (.fa (.t 18) 0), none⟩, ⟨(some 20), (.ld (.t 19) none), none⟩, ⟨(some 21), (.eqn false 3 (.t 20)), none⟩, ⟨(some 22), (.mv (.t 21)), none⟩, ⟨(some 23), (.mv (.t 0)), (some (22, true))⟩, ⟨(some 24), (.mv (.t 1)), (some (22, true))⟩, ⟨(some 25), (.call (.c (.f 29 [])) [(.t 23), (.t 24)]), (some (22, true))⟩, ⟨(some 26), (.un .not (.t 25)), (some (22, true))⟩, ⟨(some 27), (.pick (.t 22) (.t 26) (.c (.v (.bool false)))), none⟩]) (.cond (.t 27) 
  (.seq (.reg [] [⟨(some 28), (.mv (.t 4)), none⟩, ⟨(some 29), (.nilc (.t 28)), none⟩, ⟨(some 30), (.fa (.t 29) 3), none⟩, ⟨none, (.st (.t 30) (.c (.v (.bool true))) 1), none⟩]) .ret) .skip)) 
  (.seq (.alt (.regM [(.p, ⟨(some 32), (.mv (.t 4)), none⟩), (.p, ⟨(some 33), (.nilc (.t 32)), none⟩), (.p, ⟨(some 34), (.fa (.t 33) 0), none⟩), (.p, ⟨(some 35), (.ld (.t 34) none), none⟩), (.p, ⟨(some 36), (.mv (.t 0)), none⟩), (.p, ⟨(some 37), (.nilc (.t 36)), none⟩), (.p, ⟨(some 38), (.fa (.t 37) 4), none⟩), (.p, ⟨(some 39), (.ld (.t 38) none), none⟩), (.p, ⟨(some 40), (.mv (.t 1)), none⟩), ((.r [0, 1, 2, 3, 4, 5, 6, 7, 8]), ⟨(some 41), (.call (.c (.f 18 [])) [(.t 35), (.t 39), (.t 40)]), none⟩), (.p, ⟨(some 31), (.mv (.t 41)), none⟩), (.p, ⟨(some 42), (.ext (.t 31) 0), none⟩), (.p, ⟨(some 43), (.ext (.t 31) 1), none⟩), (.p, ⟨(some 5), (.mv (.t 42)), none⟩)] [⟨(some 6), (.mv (.t 43)), none⟩]) (.reg [⟨(some 32), (.mv (.t 4)), none⟩, ⟨(some 33), (.nilc (.t 32)), none⟩, ⟨(some 34), (.fa (.t 33) 0), none⟩, ⟨(some 35), (.ld (.t 34) none), none⟩, ⟨(some 36), (.mv (.t 0)), none⟩, ⟨(some 37), (.nilc (.t 36)), none⟩, ⟨(some 38), (.fa (.t 37) 4), none⟩, ⟨(some 39), (.ld (.t 38) none), none⟩, ⟨(some 40), (.mv (.t 1)), none⟩, ⟨(some 41), (.call (.c (.f 18 [])) [(.t 35), (.t 39), (.t 40)]), none⟩, ⟨(some 31), (.mv (.t 41)), none⟩, ⟨(some 42), (.ext (.t 31) 0), none⟩, ⟨(some 43), (.ext (.t 31) 1), none⟩, ⟨(some 5), (.mv (.t 42)), none⟩] [⟨(some 6), (.mv (.t 43)), none⟩])) 
  (.seq (.reg [] [⟨(some 44), (.mv (.t 4)), none⟩, ⟨(some 45), (.nilc (.t 44)), none⟩, ⟨(some 46), (.fa (.t 45) 2), none⟩, ⟨(some 47), (.ld (.t 46) none), none⟩, ⟨(some 48), (.bin .add (.t 47) (.c (.v (.int .i64 1)))), none⟩, ⟨(some 49), (.nilc (.t 44)), none⟩, ⟨(some 50), (.fa (.t 49) 2), none⟩, ⟨none, (.st (.t 50) (.t 48) 1), none⟩]) 
  (.seq 
  (.seq (.reg [] [⟨(some 51), (.mv (.t 6)), none⟩, ⟨(some 52), (.bin .neq (.t 51) (.c (.v (.int .i64 0)))), none⟩]) (.cond (.t 52) 
  (.seq (.reg [] [⟨(some 53), (.mv (.t 0)), none⟩, ⟨(some 54), (.nilc (.t 53)), none⟩, ⟨(some 55), (.fa (.t 54) 11), none⟩, ⟨none, (.st (.t 55) (.c (.v (.bool true))) 1), none⟩]) 
  (.seq (.reg [] [⟨(some 56), (.mv (.t 4)), none⟩, ⟨(some 57), (.nilc (.t 56)), none⟩, ⟨(some 58), (.fa (.t 57) 3), none⟩, ⟨none, (.st (.t 58) (.c (.v (.bool true))) 1), none⟩]) .ret)) .skip)) 
  (.seq (.reg [] [⟨(some 59), (.mv (.t 5)), none⟩]) (.cond (.t 59) (.reg [] [⟨(some 60), (.mv (.t 0)), none⟩, ⟨(some 61), (.mv (.t 1)), none⟩, ⟨(some 62), (.call (.c (.f 30 [])) [(.t 60), (.t 61)]), none⟩]) .skip)))))))), []⟩

def c24 : MF := ⟨4, 26, 
  (.seq (.reg [] [⟨(some 5), (.box (.t 1)), none⟩, ⟨(some 8), (.mv (.c (.v (.int .i64 0)))), none⟩]) 
  (.seq (.reg [] [⟨(some 12), (.fa (.t 5) 0), none⟩, ⟨(some 13), (.ld (.t 12) none), none⟩, ⟨(some 14), (.fa (.t 5) 1), none⟩, ⟨(some 15), (.ld (.t 14) none), none⟩, ⟨(some 16), (.mv (.t 2)), none⟩, ⟨(some 17), (.call (.c (.f 31 [])) [(.t 13), (.t 15), (.t 16)]), none⟩, ⟨(some 11), (.mv (.t 17)), none⟩, ⟨(some 18), (.ext (.t 11) 0), none⟩, ⟨(some 19), (.ext (.t 11) 1), none⟩, ⟨(some 9), (.mv (.t 18)), none⟩, ⟨(some 10), (.mv (.t 19)), none⟩]) 
  (.seq 
  (.seq (.reg [] [⟨(some 20), (.mv (.t 10)), none⟩, ⟨(some 21), (.bin .eql (.t 20) (.c (.v (.int .i64 0)))), none⟩]) (.cond (.t 21) (.reg [] [⟨(some 22), (.mv (.t 3)), none⟩, ⟨(some 23), (.mv (.t 9)), none⟩, ⟨(some 24), (.nilc (.t 22)), none⟩, ⟨none, (.st (.t 24) (.t 23) 1), none⟩]) .skip)) 
  (.seq (.reg [] [⟨(some 25), (.mv (.t 10)), none⟩, ⟨(some 8), (.mv (.t 25)), none⟩]) .ret)))), [(.t 8)]⟩

def c25 : MF := ⟨3, 14, 
  (.seq (.reg [] [⟨(some 6), (.mv (.c (.v (.int .i64 0)))), none⟩]) 
  (.seq 
  (.seq (.reg [] [⟨(some 7), (.mv (.t 2)), none⟩, ⟨(some 8), (.bin .eql (.t 7) (.c (.v (.int .i64 0)))), none⟩]) (.cond (.t 8) (.reg [] [⟨(some 9), (.mv (.t 0)), none⟩, ⟨(some 10), (.mv (.t 1)), none⟩, ⟨(some 11), (.nilc (.t 9)), none⟩, ⟨(some 12), (.fa (.t 11) 2), none⟩, ⟨none, (.st (.t 12) (.t 10) 1), none⟩]) .skip)) 
  (.seq (.reg [] [⟨(some 13), (.mv (.t 2)), none⟩, ⟨(some 6), (.mv (.t 13)), none⟩]) .ret))), [(.t 6)]⟩

def c26 : MF := ⟨2, 22, 
  (.seq (.reg [] [⟨(some 3), (.box (.t 1)), none⟩, ⟨(some 4), (.mv (.c (.v (.int .i64 0)))), none⟩]) 
  (.seq (.alt (.regM [(.p, ⟨(some 5), (.mv (.t 0)), none⟩), (.p, ⟨(some 6), (.fa (.t 3) 0), none⟩), (.p, ⟨(some 7), (.ld (.t 6) none), none⟩), (.p, ⟨(some 8), (.fa (.t 3) 1), none⟩), (.p, ⟨(some 9), (.ld (.t 8) none), none⟩), (.p, ⟨(some 10), (.mv (.t 0)), none⟩), (.p, ⟨(some 11), (.nilc (.t 10)), none⟩), (.p, ⟨(some 12), (.fa (.t 11) 0), none⟩), (.p, ⟨(some 13), (.fa (.t 12) 0), none⟩), (.p, ⟨(some 14), (.ld (.t 13) none), none⟩), (.p, ⟨(some 15), (.bin .add (.t 14) (.c (.v (.int .i64 1)))), none⟩), (.p, ⟨(some 16), (.mv (.t 0)), none⟩), (.p, ⟨(some 17), (.nilc (.t 16)), none⟩), (.p, ⟨(some 18), (.fa (.t 17) 5), none⟩), (.p, ⟨(some 19), (.ld (.t 18) none), none⟩), ((.r [1, 2, 3, 4, 5, 6, 7, 8, 9, 10, 11, 12, 13, 14]), ⟨(some 20), (.call (.c (.f 33 [])) [(.t 7), (.t 9), (.t 15), (.t 19)]), none⟩)] [⟨(some 21), (.call (.c (.f 25 [])) [(.t 5), (.c (.f 32 [])), (.t 20)]), none⟩, ⟨(some 4), (.mv (.t 21)), none⟩]) (.reg [⟨(some 5), (.mv (.t 0)), none⟩, ⟨(some 6), (.fa (.t 3) 0), none⟩, ⟨(some 7), (.ld (.t 6) none), none⟩, ⟨(some 8), (.fa (.t 3) 1), none⟩, ⟨(some 9), (.ld (.t 8) none), none⟩, ⟨(some 10), (.mv (.t 0)), none⟩, ⟨(some 11), (.nilc (.t 10)), none⟩, ⟨(some 12), (.fa (.t 11) 0), none⟩, ⟨(some 13), (.fa (.t 12) 0), none⟩, ⟨(some 14), (.ld (.t 13) none), none⟩, ⟨(some 15), (.bin .add (.t 14) (.c (.v (.int .i64 1)))), none⟩, ⟨(some 16), (.mv (.t 0)), none⟩, ⟨(some 17), (.nilc (.t 16)), none⟩, ⟨(some 18), (.fa (.t 17) 5), none⟩, ⟨(some 19), (.ld (.t 18) none), none⟩, ⟨(some 20), (.call (.c (.f 33 [])) [(.t 7), (.t 9), (.t 15), (.t 19)]), none⟩] [⟨(some 21), (.call (.c (.f 25 [])) [(.t 5), (.c (.f 32 [])), (.t 20)]), none⟩, ⟨(some 4), (.mv (.t 21)), none⟩])) .ret)), [(.t 4)]⟩

def c27 : MF := ⟨2, 37, 
  (.seq (.reg [] [⟨(some 3), (.box (.t 1)), none⟩, ⟨(some 4), (.mv (.c (.v (.int .i64 0)))), none⟩]) 
  (.seq (.reg [⟨(some 6), (.mv (.t 0)), none⟩, ⟨(some 7), (.ld (.t 3) (some 2)), none⟩, ⟨(some 8), (.mv (.t 0)), none⟩, ⟨(some 9), (.nilc (.t 8)), none⟩, ⟨(some 10), (.fa (.t 9) 0), none⟩, ⟨(some 11), (.fa (.t 10) 0), none⟩, ⟨(some 12), (.ld (.t 11) none), none⟩, ⟨(some 13), (.bin .add (.t 12) (.c (.v (.int .i64 1)))), none⟩, ⟨(some 14), (.mv (.t 0)), none⟩, ⟨(some 15), (.nilc (.t 14)), none⟩, ⟨(some 16), (.fa (.t 15) 5), none⟩] [⟨(some 17), (.call (.c (.f 24 [])) [(.t 6), (.t 7), (.t 13), (.t 16)]), none⟩, ⟨(some 5), (.mv (.t 17)), none⟩]) 
  (.seq 
  (.seq (.reg [⟨(some 18), (.mv (.t 5)), none⟩, ⟨(some 19), (.bin .eql (.t 18) (.c (.v (.int .i64 0)))), none⟩, ⟨(some 20), (.mv (.t 19)), none⟩, ⟨(some 21), (.mv (.t 0)), (some (20, true))⟩, ⟨(some 22), (.nilc (.t 21)), (some (20, true))⟩, ⟨(some 23), (.fa (.t 22) 6), (some (20, true))⟩, ⟨(some 24), (.ld (.t 23) none), (some (20, true))⟩, ⟨(some 25), (.mv (.t 0)), (some (20, true))⟩, ⟨(some 26), (.nilc (.t 25)), (some (20, true))⟩, ⟨(some 27), (.fa (.t 26) 5), (some (20, true))⟩, ⟨(some 28), (.ld (.t 27) none), (some (20, true))⟩] [⟨(some 29), (.bin .geq (.t 24) (.t 28)), (some (20, true))⟩, ⟨(some 30), (.pick (.t 20) (.t 29) (.c (.v (.bool false)))), none⟩]) (.cond (.t 30) 
  (.seq (.reg [] [⟨(some 31), (.mv (.t 0)), none⟩, ⟨(some 32), (.mv (.t 5)), none⟩, ⟨(some 33), (.call (.c (.f 34 [])) [(.t 31), (.c (.v (.int .i64 2))), (.t 32)]), none⟩, ⟨(some 4), (.mv (.t 33)), none⟩]) .ret) .skip)) 
  (.seq (.reg [] [⟨(some 34), (.mv (.t 0)), none⟩, ⟨(some 35), (.mv (.t 5)), none⟩, ⟨(some 36), (.call (.c (.f 25 [])) [(.t 34), (.c (.f 35 [])), (.t 35)]), none⟩, ⟨(some 4), (.mv (.t 36)), none⟩]) .ret)))), [(.t 4)]⟩

def c28 : MF := ⟨2, 43, 
  (.seq (.reg [] [⟨(some 3), (.box (.t 1)), none⟩, ⟨(some 4), (.mv (.c (.v (.int .i64 0)))), none⟩]) 
  (.seq (.reg [⟨(some 6), (.mv (.t 0)), none⟩, ⟨(some 7), (.ld (.t 3) (some 2)), none⟩, ⟨(some 8), (.mv (.t 0)), none⟩, ⟨(some 9), (.nilc (.t 8)), none⟩, ⟨(some 10), (.fa (.t 9) 0), none⟩, ⟨(some 11), (.fa (.t 10) 0), none⟩, ⟨(some 12), (.ld (.t 11) none), none⟩, ⟨(some 13), (.bin .add (.t 12) (.c (.v (.int .i64 0)))), none⟩, ⟨(some 14), (.mv (.t 0)), none⟩, ⟨(some 15), (.nilc (.t 14)), none⟩, ⟨(some 16), (.fa (.t 15) 6), none⟩] [⟨(some 17), (.call (.c (.f 24 [])) [(.t 6), (.t 7), (.t 13), (.t 16)]), none⟩, ⟨(some 5), (.mv (.t 17)), none⟩]) 
  (.seq 
  (.seq (.reg [⟨(some 18), (.mv (.t 5)), none⟩, ⟨(some 19), (.bin .eql (.t 18) (.c (.v (.int .i64 0)))), none⟩, ⟨(some 20), (.mv (.t 19)), none⟩, ⟨(some 21), (.mv (.t 0)), (some (20, true))⟩, ⟨(some 22), (.nilc (.t 21)), (some (20, true))⟩, ⟨(some 23), (.fa (.t 22) 5), (some (20, true))⟩, ⟨(some 24), (.ld (.t 23) none), (some (20, true))⟩, ⟨(some 25), (.mv (.t 0)), (some (20, true))⟩, ⟨(some 26), (.nilc (.t 25)), (some (20, true))⟩, ⟨(some 27), (.fa (.t 26) 6), (some (20, true))⟩, ⟨(some 28), (.ld (.t 27) none), (some (20, true))⟩, ⟨(some 29), (.bin .sub (.t 24) (.t 28)), (some (20, true))⟩, ⟨(some 30), (.mv (.t 0)), (some (20, true))⟩, ⟨(some 31), (.nilc (.t 30)), (some (20, true))⟩, ⟨(some 32), (.fa (.t 31) 0), (some (20, true))⟩, ⟨(some 33), (.fa (.t 32) 1), (some (20, true))⟩, ⟨(some 34), (.ld (.t 33) none), (some (20, true))⟩] [⟨(some 35), (.bin .geq (.t 29) (.t 34)), (some (20, true))⟩, ⟨(some 36), (.pick (.t 20) (.t 35) (.c (.v (.bool false)))), none⟩]) (.cond (.t 36) 
  (.seq (.reg [] [⟨(some 37), (.mv (.t 0)), none⟩, ⟨(some 38), (.mv (.t 5)), none⟩, ⟨(some 39), (.call (.c (.f 34 [])) [(.t 37), (.c (.v (.int .i64 4))), (.t 38)]), none⟩, ⟨(some 4), (.mv (.t 39)), none⟩]) .ret) .skip)) 
  (.seq (.reg [] [⟨(some 40), (.mv (.t 0)), none⟩, ⟨(some 41), (.mv (.t 5)), none⟩, ⟨(some 42), (.call (.c (.f 25 [])) [(.t 40), (.c (.f 36 [])), (.t 41)]), none⟩, ⟨(some 4), (.mv (.t 42)), none⟩]) .ret)))), [(.t 4)]⟩

def c29 : MF := ⟨2, 80, 
  (.seq (.reg [] [⟨(some 4), (.mv (.c (.v (.bool false)))), none⟩]) 
  (.seq (.reg [] [⟨(some 6), (.mv (.t 0)), none⟩, ⟨(some 7), (.nilc (.t 6)), none⟩, ⟨(some 8), (.fa (.t 7) 7), none⟩, ⟨(some 9), (.ld (.t 8) none), none⟩, ⟨(some 10), (.mv (.t 1)), none⟩, ⟨(some 11), (.ixs (.t 9) (.t 10) 4), none⟩, ⟨(some 5), (.mv (.t 11)), none⟩]) 
  (.seq 
  (.seq (.reg [] [⟨(some 12), (.mv (.t 1)), none⟩, ⟨(some 13), (.bin .gtr (.t 12) (.c (.v (.int .i64 0)))), none⟩]) (.cond (.t 13) 
  (.seq 
  (.seq (.reg [] [⟨(some 14), (.mv (.t 5)), none⟩, ⟨(some 15), (.nilc (.t 14)), none⟩, ⟨(some 16), (.fa (.t 15) 1), none⟩, ⟨(some 17), (.ld (.t 16) none), none⟩, ⟨(some 18), (.bin .geq (.t 17) (.c (.v (.int .i64 12)))), none⟩]) (.cond (.t 18) 
  (.seq (.reg [] [⟨(some 4), (.mv (.c (.v (.bool false)))), none⟩]) .ret) .skip)) (.reg [] [⟨(some 19), (.mv (.t 5)), none⟩, ⟨(some 20), (.mv (.t 0)), none⟩, ⟨(some 21), (.nilc (.t 20)), none⟩, ⟨(some 22), (.fa (.t 21) 5), none⟩, ⟨(some 23), (.ld (.t 22) (some 2)), none⟩, ⟨(some 24), (.call (.c (.f 11 [])) [(.t 23)]), none⟩, ⟨(some 25), (.nilc (.t 19)), none⟩, ⟨(some 26), (.fa (.t 25) 0), none⟩, ⟨none, (.st (.t 26) (.t 24) 1), none⟩])) 
  (.seq 
  (.seq (.reg [⟨(some 27), (.mv (.t 5)), none⟩, ⟨(some 28), (.nilc (.t 27)), none⟩, ⟨(some 29), (.fa (.t 28) 1), none⟩, ⟨(some 30), (.ld (.t 29) none), none⟩, ⟨(some 31), (.mv (.t 0)), none⟩, ⟨(some 32), (.nilc (.t 31)), none⟩, ⟨(some 33), (.fa (.t 32) 0), none⟩, ⟨(some 34), (.fa (.t 33) 0), none⟩, ⟨(some 35), (.ld (.t 34) none), none⟩, ⟨(some 36), (.len (.t 35)), none⟩] [⟨(some 37), (.bin .geq (.t 30) (.t 36)), none⟩]) (.cond (.t 37) 
  (.seq (.reg [] [⟨(some 4), (.mv (.c (.v (.bool false)))), none⟩]) .ret) .skip)) 
  (.seq (.reg [⟨(some 38), (.mv (.t 0)), none⟩, ⟨(some 39), (.nilc (.t 38)), none⟩, ⟨(some 40), (.fa (.t 39) 0), none⟩, ⟨(some 41), (.fa (.t 40) 0), none⟩, ⟨(some 42), (.ld (.t 41) none), none⟩, ⟨(some 43), (.mv (.t 5)), none⟩, ⟨(some 44), (.nilc (.t 43)), none⟩, ⟨(some 45), (.fa (.t 44) 1), none⟩, ⟨(some 46), (.ld (.t 45) none), none⟩] [⟨(some 47), (.ixs (.t 42) (.t 46) 1), none⟩, ⟨(some 48), (.ld (.t 47) none), none⟩]) (.cond (.t 48) (.alt (.regM [(.p, ⟨(some 49), (.mv (.t 5)), none⟩), (.p, ⟨(some 50), (.mv (.t 0)), none⟩), (.p, ⟨(some 51), (.nilc (.t 50)), none⟩), (.p, ⟨(some 52), (.fa (.t 51) 5), none⟩), (.p, ⟨(some 53), (.ld (.t 52) (some 2)), none⟩), (.p, ⟨(some 54), (.mv (.t 5)), none⟩), (.p, ⟨(some 55), (.nilc (.t 54)), none⟩), (.p, ⟨(some 56), (.fa (.t 55) 1), none⟩), (.p, ⟨(some 57), (.ld (.t 56) none), none⟩), (.p, ⟨(some 58), (.bin .add (.c (.v (.int .i64 100))) (.t 57)), none⟩), ((.r [1, 2, 3, 4, 5, 6, 7, 8, 9]), ⟨(some 59), (.call (.c (.f 12 [])) [(.t 53), (.t 58)]), none⟩)] [⟨(some 60), (.nilc (.t 49)), none⟩, ⟨(some 61), (.fa (.t 60) 0), none⟩, ⟨none, (.st (.t 61) (.t 59) 1), none⟩]) (.reg [⟨(some 49), (.mv (.t 5)), none⟩, ⟨(some 50), (.mv (.t 0)), none⟩, ⟨(some 51), (.nilc (.t 50)), none⟩, ⟨(some 52), (.fa (.t 51) 5), none⟩, ⟨(some 53), (.ld (.t 52) (some 2)), none⟩, ⟨(some 54), (.mv (.t 5)), none⟩, ⟨(some 55), (.nilc (.t 54)), none⟩, ⟨(some 56), (.fa (.t 55) 1), none⟩, ⟨(some 57), (.ld (.t 56) none), none⟩, ⟨(some 58), (.bin .add (.c (.v (.int .i64 100))) (.t 57)), none⟩, ⟨(some 59), (.call (.c (.f 12 [])) [(.t 53), (.t 58)]), none⟩] [⟨(some 60), (.nilc (.t 49)), none⟩, ⟨(some 61), (.fa (.t 60) 0), none⟩, ⟨none, (.st (.t 61) (.t 59) 1), none⟩])) (.reg [] [⟨(some 62), (.mv (.t 5)), none⟩, ⟨(some 63), (.mv (.t 0)), none⟩, ⟨(some 64), (.nilc (.t 63)), none⟩, ⟨(some 65), (.fa (.t 64) 5), none⟩, ⟨(some 66), (.ld (.t 65) (some 2)), none⟩, ⟨(some 67), (.call (.c (.f 9 [])) [(.t 66)]), none⟩, ⟨(some 68), (.nilc (.t 62)), none⟩, ⟨(some 69), (.fa (.t 68) 0), none⟩, ⟨none, (.st (.t 69) (.t 67) 1), none⟩])))))) 
  (.seq (.reg [] [⟨(some 70), (.mv (.t 5)), none⟩, ⟨(some 71), (.nilc (.t 70)), none⟩, ⟨(some 72), (.fa (.t 71) 1), none⟩, ⟨(some 73), (.ld (.t 72) none), none⟩, ⟨(some 74), (.bin .add (.t 73) (.c (.v (.int .i64 1)))), none⟩, ⟨(some 75), (.nilc (.t 70)), none⟩, ⟨(some 76), (.fa (.t 75) 1), none⟩, ⟨none, (.st (.t 76) (.t 74) 1), none⟩]) 
  (.seq (.reg [] [⟨(some 77), (.mv (.t 5)), none⟩, ⟨(some 78), (.nilc (.t 77)), none⟩, ⟨(some 79), (.fa (.t 78) 2), none⟩, ⟨none, (.st (.t 79) (.c (.v (.int .i64 0))) 1), none⟩]) 
  (.seq (.reg [] [⟨(some 4), (.mv (.c (.v (.bool true)))), none⟩]) .ret)))))), [(.t 4)]⟩

def c30 : MF := ⟨2, 122, 
  (.seq (.reg [] [⟨(some 7), (.mv (.t 0)), none⟩, ⟨(some 8), (.nilc (.t 7)), none⟩, ⟨(some 9), (.fa (.t 8) 7), none⟩, ⟨(some 10), (.ld (.t 9) none), none⟩, ⟨(some 11), (.mv (.t 1)), none⟩, ⟨(some 12), (.ixs (.t 10) (.t 11) 4), none⟩, ⟨(some 4), (.mv (.t 12)), none⟩]) 
  (.seq (.reg [] [⟨(some 14), (.mv (.t 4)), none⟩, ⟨(some 15), (.nilc (.t 14)), none⟩, ⟨(some 16), (.fa (.t 15) 0), none⟩, ⟨(some 17), (.ld (.t 16) none), none⟩, ⟨(some 18), (.call (.c (.f 14 [])) [(.t 17)]), none⟩, ⟨(some 13), (.mv (.t 18)), none⟩, ⟨(some 19), (.ext (.t 13) 0), none⟩, ⟨(some 20), (.ext (.t 13) 1), none⟩, ⟨(some 5), (.mv (.t 19)), none⟩, ⟨(some 6), (.mv (.t 20)), none⟩]) 
  (.seq 
  (.seq (.reg [] [⟨(some 21), (.mv (.t 6)), none⟩]) (.cond (.t 21) 
  (.seq (.reg [] [⟨(some 22), (.mv (.t 0)), none⟩, ⟨(some 23), (.mv (.t 0)), none⟩, ⟨(some 24), (.nilc (.t 23)), none⟩, ⟨(some 25), (.fa (.t 24) 10), none⟩, ⟨(some 26), (.ld (.t 25) none), none⟩, ⟨(some 27), (.mv (.t 5)), none⟩, ⟨(some 28), (.bsl [(.v (.int .i64 0))] 1 [(0, (1, (.t 27)))]), none⟩, ⟨(some 29), (.app (.t 26) (.t 28) 1 8), none⟩, ⟨(some 30), (.nilc (.t 22)), none⟩, ⟨(some 31), (.fa (.t 30) 10), none⟩, ⟨none, (.st (.t 31) (.t 29) 1), none⟩]) 
  (.seq (.reg [] [⟨(some 32), (.mv (.t 1)), none⟩, ⟨(some 33), (.bin .gtr (.t 32) (.c (.v (.int .i64 0)))), none⟩]) (.cond (.t 33) (.reg [] [⟨(some 34), (.mv (.t 0)), none⟩, ⟨(some 35), (.mv (.t 0)), none⟩, ⟨(some 36), (.nilc (.t 35)), none⟩, ⟨(some 37), (.fa (.t 36) 9), none⟩, ⟨(some 38), (.ld (.t 37) none), none⟩, ⟨(some 39), (.mv (.t 5)), none⟩, ⟨(some 40), (.bsl [(.v (.int .i64 0))] 1 [(0, (1, (.t 39)))]), none⟩, ⟨(some 41), (.app (.t 38) (.t 40) 1 8), none⟩, ⟨(some 42), (.nilc (.t 34)), none⟩, ⟨(some 43), (.fa (.t 42) 9), none⟩, ⟨none, (.st (.t 43) (.t 41) 1), none⟩]) .skip))) .skip)) 
  (.seq 
  (.seq (.reg [⟨(some 44), (.mv (.t 1)), none⟩, ⟨(some 45), (.bin .eql (.t 44) (.c (.v (.int .i64 0)))), none⟩, ⟨(some 46), (.mv (.t 45)), none⟩, ⟨(some 47), (.mv (.t 0)), (some (46, true))⟩, ⟨(some 48), (.nilc (.t 47)), (some (46, true))⟩, ⟨(some 49), (.fa (.t 48) 0), (some (46, true))⟩, ⟨(some 50), (.fa (.t 49) 0), (some (46, true))⟩, ⟨(some 51), (.ld (.t 50) none), (some (46, true))⟩, ⟨(some 52), (.mv (.t 4)), (some (46, true))⟩, ⟨(some 53), (.nilc (.t 52)), (some (46, true))⟩, ⟨(some 54), (.fa (.t 53) 1), (some (46, true))⟩, ⟨(some 55), (.ld (.t 54) none), (some (46, true))⟩, ⟨(some 56), (.bin .sub (.t 55) (.c (.v (.int .i64 1)))), (some (46, true))⟩] [⟨(some 57), (.ixs (.t 51) (.t 56) 1), (some (46, true))⟩, ⟨(some 58), (.ld (.t 57) none), (some (46, true))⟩, ⟨(some 59), (.pick (.t 46) (.t 58) (.c (.v (.bool false)))), none⟩]) (.cond (.t 59) 
  (.seq 
  (.seq (.reg [] [⟨(some 60), (.mv (.t 4)), none⟩, ⟨(some 61), (.nilc (.t 60)), none⟩, ⟨(some 62), (.fa (.t 61) 0), none⟩, ⟨(some 63), (.ld (.t 62) none), none⟩, ⟨(some 64), (.call (.c (.f 15 [])) [(.t 63)]), none⟩, ⟨(some 65), (.bin .eql (.t 64) (.c (.v (.int .i64 1)))), none⟩]) (.cond (.t 65) (.regM [(.p, ⟨(some 66), (.mv (.t 0)), none⟩), (.p, ⟨(some 67), (.mv (.t 0)), none⟩), (.p, ⟨(some 68), (.nilc (.t 67)), none⟩), (.p, ⟨(some 69), (.fa (.t 68) 8), none⟩), (.p, ⟨(some 70), (.ld (.t 69) none), none⟩), (.p, ⟨(some 71), (.mv (.t 4)), none⟩), (.p, ⟨(some 72), (.nilc (.t 71)), none⟩), (.p, ⟨(some 73), (.fa (.t 72) 1), none⟩), (.p, ⟨(some 74), (.ld (.t 73) none), none⟩), (.p, ⟨(some 75), (.bin .add (.c (.v (.int .i64 99))) (.t 74)), none⟩), (.p, ⟨(some 76), (.bsl [(.v (.int .i64 0))] 1 [(0, (1, (.t 75)))]), none⟩), ((.r [1, 2, 3, 4, 5, 6, 7, 8, 9, 10]), ⟨(some 77), (.app (.t 70) (.t 76) 1 8), none⟩)] [⟨(some 78), (.nilc (.t 66)), none⟩, ⟨(some 79), (.fa (.t 78) 8), none⟩, ⟨none, (.st (.t 79) (.t 77) 1), none⟩]) .skip)) (.reg [] [⟨(some 80), (.mv (.t 0)), none⟩, ⟨(some 81), (.mv (.t 0)), none⟩, ⟨(some 82), (.nilc (.t 81)), none⟩, ⟨(some 83), (.fa (.t 82) 11), none⟩, ⟨(some 84), (.ld (.t 83) none), none⟩, ⟨(some 85), (.mv (.t 84)), none⟩, ⟨(some 86), (.mv (.t 4)), (some (85, false))⟩, ⟨(some 87), (.nilc (.t 86)), (some (85, false))⟩, ⟨(some 88), (.fa (.t 87) 2), (some (85, false))⟩, ⟨(some 89), (.ld (.t 88) none), (some (85, false))⟩, ⟨(some 90), (.bin .gtr (.t 89) (.c (.v (.int .i64 4)))), (some (85, false))⟩, ⟨(some 91), (.pick (.t 85) (.c (.v (.bool true))) (.t 90)), none⟩, ⟨(some 92), (.nilc (.t 80)), none⟩, ⟨(some 93), (.fa (.t 92) 11), none⟩, ⟨none, (.st (.t 93) (.t 91) 1), none⟩])) .skip)) 
  (.seq (.reg [] [⟨(some 94), (.mv (.t 0)), none⟩, ⟨(some 95), (.mv (.t 0)), none⟩, ⟨(some 96), (.nilc (.t 95)), none⟩, ⟨(some 97), (.fa (.t 96) 11), none⟩, ⟨(some 98), (.ld (.t 97) none), none⟩, ⟨(some 99), (.mv (.t 98)), none⟩, ⟨(some 100), (.mv (.t 4)), (some (99, false))⟩, ⟨(some 101), (.nilc (.t 100)), (some (99, false))⟩, ⟨(some 102), (.fa (.t 101) 2), (some (99, false))⟩, ⟨(some 103), (.ld (.t 102) none), (some (99, false))⟩, ⟨(some 104), (.bin .gtr (.t 103) (.c (.v (.int .i64 6)))), (some (99, false))⟩, ⟨(some 105), (.pick (.t 99) (.c (.v (.bool true))) (.t 104)), none⟩, ⟨(some 106), (.mv (.t 105)), none⟩, ⟨(some 107), (.mv (.t 1)), (some (106, false))⟩, ⟨(some 108), (.bin .gtr (.t 107) (.c (.v (.int .i64 0)))), (some (106, false))⟩, ⟨(some 109), (.mv (.t 108)), (some (106, false))⟩, ⟨(some 110), (.mv (.t 4)), (some (109, true))⟩, ⟨(some 111), (.nilc (.t 110)), (some (109, true))⟩, ⟨(some 112), (.fa (.t 111) 2), (some (109, true))⟩, ⟨(some 113), (.ld (.t 112) none), (some (109, true))⟩, ⟨(some 114), (.bin .gtr (.t 113) (.c (.v (.int .i64 4)))), (some (109, true))⟩, ⟨(some 115), (.pick (.t 109) (.t 114) (.c (.v (.bool false)))), (some (106, false))⟩, ⟨(some 116), (.pick (.t 106) (.c (.v (.bool true))) (.t 115)), none⟩, ⟨(some 117), (.nilc (.t 94)), none⟩, ⟨(some 118), (.fa (.t 117) 11), none⟩, ⟨none, (.st (.t 118) (.t 116) 1), none⟩]) (.reg [] [⟨(some 119), (.mv (.t 4)), none⟩, ⟨(some 120), (.nilc (.t 119)), none⟩, ⟨(some 121), (.fa (.t 120) 0), none⟩, ⟨none, (.st (.t 121) (.c (.v (.pointer none))) 1), none⟩])))))), []⟩

def c31 : MF := ⟨3, 42, 
  (.seq (.reg [] [⟨(some 6), (.mv (.c (.v (.int .i64 0)))), none⟩, ⟨(some 7), (.mv (.c (.v (.int .i64 0)))), none⟩]) 
  (.seq 
  (.seq (.reg [] [⟨(some 9), (.mv (.t 0)), none⟩, ⟨(some 10), (.mv (.t 1)), none⟩, ⟨(some 11), (.mv (.t 2)), none⟩, ⟨(some 12), (.mv (.t 0)), none⟩, ⟨(some 13), (.call (.c (.f 38 [])) [(.t 12), (.c (.f 39 []))]), none⟩, ⟨(some 14), (.call (.c (.f 37 [])) [(.t 9), (.t 10), (.t 11), (.t 13)]), none⟩, ⟨(some 8), (.mv (.t 14)), none⟩]) 
  (.seq (.reg [] [⟨(some 15), (.mv (.t 8)), none⟩, ⟨(some 16), (.bin .neq (.t 15) (.c (.v (.int .i64 0)))), none⟩]) (.cond (.t 16) 
  (.seq (.reg [] [⟨(some 17), (.mv (.t 8)), none⟩, ⟨(some 6), (.mv (.c (.v (.int .i64 0)))), none⟩, ⟨(some 7), (.mv (.t 17)), none⟩]) .ret) .skip))) 
  (.seq (.reg [⟨(some 18), (.mv (.t 0)), none⟩, ⟨(some 19), (.nilc (.t 18)), none⟩, ⟨(some 20), (.fa (.t 19) 0), none⟩, ⟨(some 21), (.ld (.t 20) none), none⟩, ⟨(some 22), (.mv (.t 1)), none⟩, ⟨(some 23), (.ixs (.t 21) (.t 22) 1), none⟩, ⟨(some 24), (.ld (.t 23) none), none⟩, ⟨(some 25), (.mv (.t 0)), none⟩, ⟨(some 26), (.nilc (.t 25)), none⟩, ⟨(some 27), (.fa (.t 26) 1), none⟩, ⟨(some 28), (.ld (.t 27) none), none⟩, ⟨(some 29), (.mv (.t 2)), none⟩, ⟨(some 30), (.ixs (.t 28) (.t 29) 2), none⟩, ⟨(some 31), (.fa (.t 30) 1), none⟩, ⟨(some 32), (.ld (.t 31) none), none⟩] [⟨(some 33), (.call (.c (.f 40 [])) [(.t 24), (.t 32)]), none⟩]) 
  (.seq (.reg [] [⟨(some 34), (.mv (.t 0)), none⟩, ⟨(some 35), (.nilc (.t 34)), none⟩, ⟨(some 36), (.fa (.t 35) 1), none⟩, ⟨(some 37), (.ld (.t 36) none), none⟩, ⟨(some 38), (.mv (.t 2)), none⟩, ⟨(some 39), (.ixs (.t 37) (.t 38) 2), none⟩, ⟨(some 40), (.fa (.t 39) 0), none⟩, ⟨(some 41), (.ld (.t 40) none), none⟩, ⟨(some 6), (.mv (.t 41)), none⟩, ⟨(some 7), (.mv (.c (.v (.int .i64 0)))), none⟩]) .ret)))), [(.t 6), (.t 7)]⟩

def c32 : MF := ⟨2, 37, 
  (.seq (.reg [] [⟨(some 3), (.box (.t 1)), none⟩, ⟨(some 4), (.mv (.c (.v (.int .i64 0)))), none⟩]) 
  (.seq (.reg [⟨(some 6), (.mv (.t 0)), none⟩, ⟨(some 7), (.ld (.t 3) (some 2)), none⟩, ⟨(some 8), (.mv (.t 0)), none⟩, ⟨(some 9), (.nilc (.t 8)), none⟩, ⟨(some 10), (.fa (.t 9) 0), none⟩, ⟨(some 11), (.fa (.t 10) 0), none⟩, ⟨(some 12), (.ld (.t 11) none), none⟩, ⟨(some 13), (.bin .add (.t 12) (.c (.v (.int .i64 0)))), none⟩, ⟨(some 14), (.mv (.t 0)), none⟩, ⟨(some 15), (.nilc (.t 14)), none⟩, ⟨(some 16), (.fa (.t 15) 6), none⟩] [⟨(some 17), (.call (.c (.f 24 [])) [(.t 6), (.t 7), (.t 13), (.t 16)]), none⟩, ⟨(some 5), (.mv (.t 17)), none⟩]) 
  (.seq 
  (.seq (.reg [⟨(some 18), (.mv (.t 5)), none⟩, ⟨(some 19), (.bin .eql (.t 18) (.c (.v (.int .i64 0)))), none⟩, ⟨(some 20), (.mv (.t 19)), none⟩, ⟨(some 21), (.mv (.t 0)), (some (20, true))⟩, ⟨(some 22), (.nilc (.t 21)), (some (20, true))⟩, ⟨(some 23), (.fa (.t 22) 5), (some (20, true))⟩, ⟨(some 24), (.ld (.t 23) none), (some (20, true))⟩, ⟨(some 25), (.mv (.t 0)), (some (20, true))⟩, ⟨(some 26), (.nilc (.t 25)), (some (20, true))⟩, ⟨(some 27), (.fa (.t 26) 6), (some (20, true))⟩, ⟨(some 28), (.ld (.t 27) none), (some (20, true))⟩] [⟨(some 29), (.bin .lss (.t 24) (.t 28)), (some (20, true))⟩, ⟨(some 30), (.pick (.t 20) (.t 29) (.c (.v (.bool false)))), none⟩]) (.cond (.t 30) 
  (.seq (.reg [] [⟨(some 31), (.mv (.t 0)), none⟩, ⟨(some 32), (.mv (.t 5)), none⟩, ⟨(some 33), (.call (.c (.f 25 [])) [(.t 31), (.c (.f 41 [])), (.t 32)]), none⟩, ⟨(some 4), (.mv (.t 33)), none⟩]) .ret) .skip)) 
  (.seq (.reg [] [⟨(some 34), (.mv (.t 0)), none⟩, ⟨(some 35), (.mv (.t 5)), none⟩, ⟨(some 36), (.call (.c (.f 25 [])) [(.t 34), (.c (.f 42 [])), (.t 35)]), none⟩, ⟨(some 4), (.mv (.t 36)), none⟩]) .ret)))), [(.t 4)]⟩

def c33 : MF := ⟨4, 24, 
  (.seq (.reg [] [⟨(some 8), (.mv (.c (.v (.int .i64 0)))), none⟩]) 
  (.seq 
  (.seq (.reg [] [⟨(some 10), (.mv (.t 0)), none⟩, ⟨(some 11), (.mv (.t 1)), none⟩, ⟨(some 12), (.mv (.t 2)), none⟩, ⟨(some 13), (.mv (.t 0)), none⟩, ⟨(some 14), (.call (.c (.f 38 [])) [(.t 13), (.c (.f 39 []))]), none⟩, ⟨(some 15), (.call (.c (.f 37 [])) [(.t 10), (.t 11), (.t 12), (.t 14)]), none⟩, ⟨(some 9), (.mv (.t 15)), none⟩]) 
  (.seq (.reg [] [⟨(some 16), (.mv (.t 9)), none⟩, ⟨(some 17), (.bin .neq (.t 16) (.c (.v (.int .i64 0)))), none⟩]) (.cond (.t 17) 
  (.seq (.reg [] [⟨(some 18), (.mv (.t 9)), none⟩, ⟨(some 8), (.mv (.t 18)), none⟩]) .ret) .skip))) 
  (.seq (.reg [] [⟨(some 19), (.mv (.t 0)), none⟩, ⟨(some 20), (.mv (.t 1)), none⟩, ⟨(some 21), (.mv (.t 2)), none⟩, ⟨(some 22), (.mv (.t 3)), none⟩, ⟨(some 23), (.call (.c (.f 43 [])) [(.t 19), (.t 20), (.t 21), (.t 22)]), none⟩]) 
  (.seq (.reg [] [⟨(some 8), (.mv (.c (.v (.int .i64 0)))), none⟩]) .ret)))), [(.t 8)]⟩

def c34 : MF := ⟨3, 14, 
  (.seq (.reg [] [⟨(some 6), (.mv (.c (.v (.int .i64 0)))), none⟩]) 
  (.seq 
  (.seq (.reg [] [⟨(some 7), (.mv (.t 2)), none⟩, ⟨(some 8), (.bin .eql (.t 7) (.c (.v (.int .i64 0)))), none⟩]) (.cond (.t 8) (.reg [] [⟨(some 9), (.mv (.t 0)), none⟩, ⟨(some 10), (.mv (.t 1)), none⟩, ⟨(some 11), (.nilc (.t 9)), none⟩, ⟨(some 12), (.fa (.t 11) 3), none⟩, ⟨none, (.st (.t 12) (.t 10) 1), none⟩]) .skip)) 
  (.seq (.reg [] [⟨(some 13), (.mv (.t 2)), none⟩, ⟨(some 6), (.mv (.t 13)), none⟩]) .ret))), [(.t 6)]⟩

def c35 : MF := ⟨2, 19, 
  (.seq (.reg [] [⟨(some 3), (.box (.t 1)), none⟩, ⟨(some 4), (.mv (.c (.v (.int .i64 0)))), none⟩]) 
  (.seq (.alt (.regM [(.p, ⟨(some 5), (.mv (.t 0)), none⟩), (.p, ⟨(some 6), (.mv (.t 0)), none⟩), (.p, ⟨(some 7), (.ld (.t 3) (some 2)), none⟩), (.p, ⟨(some 8), (.mv (.t 0)), none⟩), (.p, ⟨(some 9), (.mv (.t 0)), none⟩), (.p, ⟨(some 10), (.nilc (.t 9)), none⟩), (.p, ⟨(some 11), (.fa (.t 10) 6), none⟩), (.p, ⟨(some 12), (.ld (.t 11) none), none⟩), ((.q [3, 4, 5, 6, 7]), ⟨(some 13), (.call (.c (.f 45 [])) [(.t 8), (.t 12)]), none⟩), (.p, ⟨(some 14), (.mv (.t 0)), none⟩), (.p, ⟨(some 15), (.nilc (.t 14)), none⟩), (.p, ⟨(some 16), (.fa (.t 15) 7), none⟩), ((.r [1, 2, 3, 4, 5, 6, 7, 8, 9, 10, 11]), ⟨(some 17), (.call (.c (.f 24 [])) [(.t 6), (.t 7), (.t 13), (.t 16)]), none⟩)] [⟨(some 18), (.call (.c (.f 25 [])) [(.t 5), (.c (.f 44 [])), (.t 17)]), none⟩, ⟨(some 4), (.mv (.t 18)), none⟩]) (.reg [⟨(some 5), (.mv (.t 0)), none⟩, ⟨(some 6), (.mv (.t 0)), none⟩, ⟨(some 7), (.ld (.t 3) (some 2)), none⟩, ⟨(some 8), (.mv (.t 0)), none⟩, ⟨(some 9), (.mv (.t 0)), none⟩, ⟨(some 10), (.nilc (.t 9)), none⟩, ⟨(some 11), (.fa (.t 10) 6), none⟩, ⟨(some 12), (.ld (.t 11) none), none⟩, ⟨(some 13), (.call (.c (.f 45 [])) [(.t 8), (.t 12)]), none⟩, ⟨(some 14), (.mv (.t 0)), none⟩, ⟨(some 15), (.nilc (.t 14)), none⟩, ⟨(some 16), (.fa (.t 15) 7), none⟩, ⟨(some 17), (.call (.c (.f 24 [])) [(.t 6), (.t 7), (.t 13), (.t 16)]), none⟩] [⟨(some 18), (.call (.c (.f 25 [])) [(.t 5), (.c (.f 44 [])), (.t 17)]), none⟩, ⟨(some 4), (.mv (.t 18)), none⟩])) .ret)), [(.t 4)]⟩

def c36 : MF := ⟨2, 22, 
  (.seq (.reg [] [⟨(some 3), (.box (.t 1)), none⟩, ⟨(some 4), (.mv (.c (.v (.int .i64 0)))), none⟩]) 
  (.seq (.alt (.regM [(.p, ⟨(some 5), (.mv (.t 0)), none⟩), (.p, ⟨(some 6), (.fa (.t 3) 0), none⟩), (.p, ⟨(some 7), (.ld (.t 6) none), none⟩), (.p, ⟨(some 8), (.fa (.t 3) 1), none⟩), (.p, ⟨(some 9), (.ld (.t 8) none), none⟩), (.p, ⟨(some 10), (.mv (.t 0)), none⟩), (.p, ⟨(some 11), (.mv (.t 0)), none⟩), (.p, ⟨(some 12), (.nilc (.t 11)), none⟩), (.p, ⟨(some 13), (.fa (.t 12) 5), none⟩), (.p, ⟨(some 14), (.ld (.t 13) none), none⟩), ((.q [5, 6, 7, 8, 9]), ⟨(some 15), (.call (.c (.f 45 [])) [(.t 10), (.t 14)]), none⟩), (.p, ⟨(some 16), (.mv (.t 0)), none⟩), (.p, ⟨(some 17), (.nilc (.t 16)), none⟩), (.p, ⟨(some 18), (.fa (.t 17) 7), none⟩), (.p, ⟨(some 19), (.ld (.t 18) none), none⟩), ((.r [1, 2, 3, 4, 5, 6, 7, 8, 9, 10, 11, 12, 13, 14]), ⟨(some 20), (.call (.c (.f 33 [])) [(.t 7), (.t 9), (.t 15), (.t 19)]), none⟩)] [⟨(some 21), (.call (.c (.f 25 [])) [(.t 5), (.c (.f 46 [])), (.t 20)]), none⟩, ⟨(some 4), (.mv (.t 21)), none⟩]) (.reg [⟨(some 5), (.mv (.t 0)), none⟩, ⟨(some 6), (.fa (.t 3) 0), none⟩, ⟨(some 7), (.ld (.t 6) none), none⟩, ⟨(some 8), (.fa (.t 3) 1), none⟩, ⟨(some 9), (.ld (.t 8) none), none⟩, ⟨(some 10), (.mv (.t 0)), none⟩, ⟨(some 11), (.mv (.t 0)), none⟩, ⟨(some 12), (.nilc (.t 11)), none⟩, ⟨(some 13), (.fa (.t 12) 5), none⟩, ⟨(some 14), (.ld (.t 13) none), none⟩, ⟨(some 15), (.call (.c (.f 45 [])) [(.t 10), (.t 14)]), none⟩, ⟨(some 16), (.mv (.t 0)), none⟩, ⟨(some 17), (.nilc (.t 16)), none⟩, ⟨(some 18), (.fa (.t 17) 7), none⟩, ⟨(some 19), (.ld (.t 18) none), none⟩, ⟨(some 20), (.call (.c (.f 33 [])) [(.t 7), (.t 9), (.t 15), (.t 19)]), none⟩] [⟨(some 21), (.call (.c (.f 25 [])) [(.t 5), (.c (.f 46 [])), (.t 20)]), none⟩, ⟨(some 4), (.mv (.t 21)), none⟩])) .ret)), [(.t 4)]⟩

def c37 : MF := ⟨4, 52, 
  (.seq (.reg [] [⟨(some 8), (.mv (.c (.v (.int .i64 0)))), none⟩]) 
  (.seq (.block 0 
  (.seq (.reg [] [⟨(some 10), (.mv (.t 0)), none⟩, ⟨(some 11), (.eqn false 3 (.t 10)), none⟩, ⟨(some 9), (.mv (.t 11)), none⟩]) (.cond (.t 9) 
  (.seq (.reg [] [⟨(some 8), (.mv (.c (.v (.int .i64 1)))), none⟩]) .ret) 
  (.seq (.reg [] [⟨(some 13), (.mv (.t 1)), none⟩, ⟨(some 14), (.bin .lss (.t 13) (.c (.v (.int .i64 0)))), none⟩, ⟨(some 15), (.mv (.t 14)), none⟩, ⟨(some 16), (.mv (.t 1)), (some (15, false))⟩, ⟨(some 17), (.mv (.t 0)), (some (15, false))⟩, ⟨(some 18), (.nilc (.t 17)), (some (15, false))⟩, ⟨(some 19), (.fa (.t 18) 0), (some (15, false))⟩, ⟨(some 20), (.ld (.t 19) none), (some (15, false))⟩, ⟨(some 21), (.len (.t 20)), (some (15, false))⟩, ⟨(some 22), (.bin .geq (.t 16) (.t 21)), (some (15, false))⟩, ⟨(some 23), (.pick (.t 15) (.c (.v (.bool true))) (.t 22)), none⟩, ⟨(some 24), (.mv (.t 23)), none⟩, ⟨(some 25), (.mv (.t 2)), (some (24, false))⟩, ⟨(some 26), (.bin .lss (.t 25) (.c (.v (.int .i64 0)))), (some (24, false))⟩, ⟨(some 27), (.pick (.t 24) (.c (.v (.bool true))) (.t 26)), none⟩, ⟨(some 28), (.mv (.t 27)), none⟩, ⟨(some 29), (.mv (.t 2)), (some (28, false))⟩, ⟨(some 30), (.mv (.t 3)), (some (28, false))⟩, ⟨(some 31), (.bin .geq (.t 29) (.t 30)), (some (28, false))⟩, ⟨(some 32), (.pick (.t 28) (.c (.v (.bool true))) (.t 31)), none⟩, ⟨(some 12), (.mv (.t 32)), none⟩]) (.cond (.t 12) 
  (.seq (.reg [] [⟨(some 8), (.mv (.c (.v (.int .i64 2)))), none⟩]) .ret) .skip))))) 
  (.seq (.reg [] [⟨(some 33), (.mv (.t 0)), none⟩, ⟨(some 34), (.nilc (.t 33)), none⟩, ⟨(some 35), (.fa (.t 34) 5), none⟩, ⟨(some 36), (.ld (.t 35) none), none⟩, ⟨(some 37), (.bin .add (.t 36) (.c (.v (.int .i64 1)))), none⟩, ⟨(some 38), (.nilc (.t 33)), none⟩, ⟨(some 39), (.fa (.t 38) 5), none⟩, ⟨none, (.st (.t 39) (.t 37) 1), none⟩]) 
  (.seq (.reg [] [⟨(some 40), (.mv (.t 0)), none⟩, ⟨(some 41), (.nilc (.t 40)), none⟩, ⟨(some 42), (.fa (.t 41) 0), none⟩, ⟨(some 43), (.ld (.t 42) none), none⟩, ⟨(some 44), (.mv (.t 1)), none⟩, ⟨(some 45), (.ixs (.t 43) (.t 44) 1), none⟩, ⟨(some 46), (.ld (.t 45) none), none⟩, ⟨(some 47), (.mv (.t 1)), none⟩, ⟨(some 48), (.ixs (.t 46) (.t 47) 1), none⟩, ⟨(some 49), (.ld (.t 48) none), none⟩, ⟨(some 50), (.bin .add (.t 49) (.c (.v (.int .i64 1)))), none⟩, ⟨(some 51), (.ixs (.t 46) (.t 47) 1), none⟩, ⟨none, (.st (.t 51) (.t 50) 1), none⟩]) 
  (.seq (.reg [] [⟨(some 8), (.mv (.c (.v (.int .i64 0)))), none⟩]) .ret))))), [(.t 8)]⟩

def c38 : MF := ⟨2, 11, 
  (.seq (.reg [] [⟨(some 4), (.mv (.c (.v (.int .i64 0)))), none⟩]) 
  (.seq 
  (.seq (.reg [] [⟨(some 5), (.mv (.t 0)), none⟩, ⟨(some 6), (.eqn false 3 (.t 5)), none⟩]) (.cond (.t 6) 
  (.seq (.reg [] [⟨(some 4), (.mv (.c (.v (.int .i64 0)))), none⟩]) .ret) .skip)) 
  (.seq (.reg [] [⟨(some 7), (.mv (.t 1)), none⟩, ⟨(some 8), (.mv (.t 0)), none⟩, ⟨(some 9), (.call (.t 7) [(.t 8)]), none⟩, ⟨(some 10), (.len (.t 9)), none⟩, ⟨(some 4), (.mv (.t 10)), none⟩]) .ret))), [(.t 4)]⟩

def c39 : MF := ⟨1, 7, 
  (.seq (.reg [] [⟨(some 2), (.mv (.c (.v (.slice none 0 0)))), none⟩]) 
  (.seq (.reg [] [⟨(some 3), (.mv (.t 0)), none⟩, ⟨(some 4), (.nilc (.t 3)), none⟩, ⟨(some 5), (.fa (.t 4) 1), none⟩, ⟨(some 6), (.ld (.t 5) none), none⟩, ⟨(some 2), (.mv (.t 6)), none⟩]) .ret)), [(.t 2)]⟩

def c40b0 : MC := 
  (.seq (.reg [] [⟨(some 9), (.bin .lss (.t 8) (.t 7)), none⟩]) 
  (.seq (.cond (.t 9) .skip (.exit 0)) 
  (.seq (.block 1 
  (.seq (.reg [] [⟨(some 10), (.mv (.t 8)), none⟩, ⟨(some 11), (.ixs (.t 6) (.t 8) 1), none⟩, ⟨(some 12), (.ld (.t 11) none), none⟩, ⟨(some 4), (.mv (.t 10)), none⟩, ⟨(some 5), (.mv (.t 12)), none⟩]) (.reg [] [⟨(some 13), (.mv (.t 0)), none⟩, ⟨(some 14), (.mv (.t 4)), none⟩, ⟨(some 15), (.mv (.t 0)), none⟩, ⟨(some 16), (.mv (.t 4)), none⟩, ⟨(some 17), (.ixs (.t 15) (.t 16) 1), none⟩, ⟨(some 18), (.ld (.t 17) none), none⟩, ⟨(some 19), (.mv (.t 5)), none⟩, ⟨(some 20), (.mm true [(.t 18), (.t 19)]), none⟩, ⟨(some 21), (.ixs (.t 13) (.t 14) 1), none⟩, ⟨none, (.st (.t 21) (.t 20) 1), none⟩]))) (.reg [] [⟨(some 22), (.bin .add (.t 8) (.c (.v (.int .i64 1)))), none⟩, ⟨(some 8), (.mv (.t 22)), none⟩]))))

def c40 : MF := ⟨2, 23, 
  (.seq (.reg [] [⟨(some 6), (.mv (.t 1)), none⟩, ⟨(some 7), (.len (.t 6)), none⟩, ⟨(some 8), (.mv (.c (.v (.int .i64 0)))), none⟩]) (.block 0 
  (.loopN [22, 21, 20, 19, 18, 17, 16, 15, 14, 13, 12, 11, 10, 9] c40b0))), []⟩

def c41 : MF := ⟨2, 22, 
  (.seq (.reg [] [⟨(some 3), (.box (.t 1)), none⟩, ⟨(some 4), (.mv (.c (.v (.int .i64 0)))), none⟩]) 
  (.seq (.alt (.regM [(.p, ⟨(some 5), (.mv (.t 0)), none⟩), (.p, ⟨(some 6), (.fa (.t 3) 0), none⟩), (.p, ⟨(some 7), (.ld (.t 6) none), none⟩), (.p, ⟨(some 8), (.fa (.t 3) 1), none⟩), (.p, ⟨(some 9), (.ld (.t 8) none), none⟩), (.p, ⟨(some 10), (.mv (.t 0)), none⟩), (.p, ⟨(some 11), (.nilc (.t 10)), none⟩), (.p, ⟨(some 12), (.fa (.t 11) 0), none⟩), (.p, ⟨(some 13), (.fa (.t 12) 0), none⟩), (.p, ⟨(some 14), (.ld (.t 13) none), none⟩), (.p, ⟨(some 15), (.bin .add (.t 14) (.c (.v (.int .i64 1)))), none⟩), (.p, ⟨(some 16), (.mv (.t 0)), none⟩), (.p, ⟨(some 17), (.nilc (.t 16)), none⟩), (.p, ⟨(some 18), (.fa (.t 17) 6), none⟩), (.p, ⟨(some 19), (.ld (.t 18) none), none⟩), ((.r [1, 2, 3, 4, 5, 6, 7, 8, 9, 10, 11, 12, 13, 14]), ⟨(some 20), (.call (.c (.f 33 [])) [(.t 7), (.t 9), (.t 15), (.t 19)]), none⟩)] [⟨(some 21), (.call (.c (.f 34 [])) [(.t 5), (.c (.v (.int .i64 2))), (.t 20)]), none⟩, ⟨(some 4), (.mv (.t 21)), none⟩]) (.reg [⟨(some 5), (.mv (.t 0)), none⟩, ⟨(some 6), (.fa (.t 3) 0), none⟩, ⟨(some 7), (.ld (.t 6) none), none⟩, ⟨(some 8), (.fa (.t 3) 1), none⟩, ⟨(some 9), (.ld (.t 8) none), none⟩, ⟨(some 10), (.mv (.t 0)), none⟩, ⟨(some 11), (.nilc (.t 10)), none⟩, ⟨(some 12), (.fa (.t 11) 0), none⟩, ⟨(some 13), (.fa (.t 12) 0), none⟩, ⟨(some 14), (.ld (.t 13) none), none⟩, ⟨(some 15), (.bin .add (.t 14) (.c (.v (.int .i64 1)))), none⟩, ⟨(some 16), (.mv (.t 0)), none⟩, ⟨(some 17), (.nilc (.t 16)), none⟩, ⟨(some 18), (.fa (.t 17) 6), none⟩, ⟨(some 19), (.ld (.t 18) none), none⟩, ⟨(some 20), (.call (.c (.f 33 [])) [(.t 7), (.t 9), (.t 15), (.t 19)]), none⟩] [⟨(some 21), (.call (.c (.f 34 [])) [(.t 5), (.c (.v (.int .i64 2))), (.t 20)]), none⟩, ⟨(some 4), (.mv (.t 21)), none⟩])) .ret)), [(.t 4)]⟩

def c42 : MF := ⟨2, 37, 
  (.seq (.reg [] [⟨(some 3), (.box (.t 1)), none⟩, ⟨(some 4), (.mv (.c (.v (.int .i64 0)))), none⟩]) 
  (.seq (.alt (.regM [(.p, ⟨(some 6), (.mv (.t 0)), none⟩), (.p, ⟨(some 7), (.ld (.t 3) (some 2)), none⟩), (.p, ⟨(some 8), (.mv (.t 0)), none⟩), (.p, ⟨(some 9), (.mv (.t 0)), none⟩), (.p, ⟨(some 10), (.nilc (.t 9)), none⟩), (.p, ⟨(some 11), (.fa (.t 10) 5), none⟩), (.p, ⟨(some 12), (.ld (.t 11) none), none⟩), ((.q [2, 3, 4, 5, 6]), ⟨(some 13), (.call (.c (.f 45 [])) [(.t 8), (.t 12)]), none⟩), (.p, ⟨(some 14), (.mv (.t 0)), none⟩), (.p, ⟨(some 15), (.nilc (.t 14)), none⟩), (.p, ⟨(some 16), (.fa (.t 15) 7), none⟩)] [⟨(some 17), (.call (.c (.f 24 [])) [(.t 6), (.t 7), (.t 13), (.t 16)]), none⟩, ⟨(some 5), (.mv (.t 17)), none⟩]) (.reg [⟨(some 6), (.mv (.t 0)), none⟩, ⟨(some 7), (.ld (.t 3) (some 2)), none⟩, ⟨(some 8), (.mv (.t 0)), none⟩, ⟨(some 9), (.mv (.t 0)), none⟩, ⟨(some 10), (.nilc (.t 9)), none⟩, ⟨(some 11), (.fa (.t 10) 5), none⟩, ⟨(some 12), (.ld (.t 11) none), none⟩, ⟨(some 13), (.call (.c (.f 45 [])) [(.t 8), (.t 12)]), none⟩, ⟨(some 14), (.mv (.t 0)), none⟩, ⟨(some 15), (.nilc (.t 14)), none⟩, ⟨(some 16), (.fa (.t 15) 7), none⟩] [⟨(some 17), (.call (.c (.f 24 [])) [(.t 6), (.t 7), (.t 13), (.t 16)]), none⟩, ⟨(some 5), (.mv (.t 17)), none⟩])) 
  (.seq 
  (.seq (.reg [⟨(some 18), (.mv (.t 5)), none⟩, ⟨(some 19), (.bin .eql (.t 18) (.c (.v (.int .i64 0)))), none⟩, ⟨(some 20), (.mv (.t 19)), none⟩, ⟨(some 21), (.mv (.t 0)), (some (20, true))⟩, ⟨(some 22), (.nilc (.t 21)), (some (20, true))⟩, ⟨(some 23), (.fa (.t 22) 5), (some (20, true))⟩, ⟨(some 24), (.ld (.t 23) none), (some (20, true))⟩, ⟨(some 25), (.mv (.t 0)), (some (20, true))⟩, ⟨(some 26), (.nilc (.t 25)), (some (20, true))⟩, ⟨(some 27), (.fa (.t 26) 6), (some (20, true))⟩, ⟨(some 28), (.ld (.t 27) none), (some (20, true))⟩] [⟨(some 29), (.bin .gtr (.t 24) (.t 28)), (some (20, true))⟩, ⟨(some 30), (.pick (.t 20) (.t 29) (.c (.v (.bool false)))), none⟩]) (.cond (.t 30) 
  (.seq (.reg [] [⟨(some 31), (.mv (.t 0)), none⟩, ⟨(some 32), (.mv (.t 5)), none⟩, ⟨(some 33), (.call (.c (.f 34 [])) [(.t 31), (.c (.v (.int .i64 1))), (.t 32)]), none⟩, ⟨(some 4), (.mv (.t 33)), none⟩]) .ret) .skip)) 
  (.seq (.reg [] [⟨(some 34), (.mv (.t 0)), none⟩, ⟨(some 35), (.mv (.t 5)), none⟩, ⟨(some 36), (.call (.c (.f 25 [])) [(.t 34), (.c (.f 47 [])), (.t 35)]), none⟩, ⟨(some 4), (.mv (.t 36)), none⟩]) .ret)))), [(.t 4)]⟩

def c43 : MF := ⟨4, 24, (.alt (.regM [(.p, ⟨(some 8), (.mv (.t 0)), none⟩), (.p, ⟨(some 9), (.nilc (.t 8)), none⟩), (.p, ⟨(some 10), (.fa (.t 9) 1), none⟩), (.p, ⟨(some 11), (.ld (.t 10) none), none⟩), (.p, ⟨(some 12), (.mv (.t 2)), none⟩), (.p, ⟨(some 13), (.mv (.t 3)), none⟩), (.p, ⟨(some 14), (.mv (.t 0)), none⟩), (.p, ⟨(some 15), (.nilc (.t 14)), none⟩), (.p, ⟨(some 16), (.fa (.t 15) 0), none⟩), (.p, ⟨(some 17), (.ld (.t 16) none), none⟩), (.p, ⟨(some 18), (.mv (.t 1)), none⟩), (.p, ⟨(some 19), (.ixs (.t 17) (.t 18) 1), none⟩), (.p, ⟨(some 20), (.ld (.t 19) none), none⟩), ((.r [6, 7, 8, 9, 10, 11, 12]), ⟨(some 21), (.call (.c (.f 48 [])) [(.t 20)]), none⟩), (.p, ⟨(some 22), (.bld [(.v (.int .i64 0)), (.v (.slice none 0 0))] [(0, (1, (.t 13))), (1, (1, (.t 21)))]), none⟩)] [⟨(some 23), (.ixs (.t 11) (.t 12) 2), none⟩, ⟨none, (.st (.t 23) (.t 22) 2), none⟩]) (.reg [⟨(some 8), (.mv (.t 0)), none⟩, ⟨(some 9), (.nilc (.t 8)), none⟩, ⟨(some 10), (.fa (.t 9) 1), none⟩, ⟨(some 11), (.ld (.t 10) none), none⟩, ⟨(some 12), (.mv (.t 2)), none⟩, ⟨(some 13), (.mv (.t 3)), none⟩, ⟨(some 14), (.mv (.t 0)), none⟩, ⟨(some 15), (.nilc (.t 14)), none⟩, ⟨(some 16), (.fa (.t 15) 0), none⟩, ⟨(some 17), (.ld (.t 16) none), none⟩, ⟨(some 18), (.mv (.t 1)), none⟩, ⟨(some 19), (.ixs (.t 17) (.t 18) 1), none⟩, ⟨(some 20), (.ld (.t 19) none), none⟩, ⟨(some 21), (.call (.c (.f 48 [])) [(.t 20)]), none⟩, ⟨(some 22), (.bld [(.v (.int .i64 0)), (.v (.slice none 0 0))] [(0, (1, (.t 13))), (1, (1, (.t 21)))]), none⟩] [⟨(some 23), (.ixs (.t 11) (.t 12) 2), none⟩, ⟨none, (.st (.t 23) (.t 22) 2), none⟩])), []⟩

def c44 : MF := ⟨2, 37, 
  (.seq (.reg [] [⟨(some 3), (.box (.t 1)), none⟩, ⟨(some 4), (.mv (.c (.v (.int .i64 0)))), none⟩]) 
  (.seq (.alt (.regM [(.p, ⟨(some 8), (.fa (.t 3) 0), none⟩), (.p, ⟨(some 9), (.ld (.t 8) none), none⟩), (.p, ⟨(some 10), (.fa (.t 3) 1), none⟩), (.p, ⟨(some 11), (.ld (.t 10) none), none⟩), (.p, ⟨(some 12), (.mv (.t 0)), none⟩), (.p, ⟨(some 13), (.nilc (.t 12)), none⟩), (.p, ⟨(some 14), (.fa (.t 13) 0), none⟩), (.p, ⟨(some 15), (.fa (.t 14) 0), none⟩), (.p, ⟨(some 16), (.ld (.t 15) none), none⟩), (.p, ⟨(some 17), (.bin .add (.t 16) (.c (.v (.int .i64 0)))), none⟩), (.p, ⟨(some 18), (.mv (.t 0)), none⟩), (.p, ⟨(some 19), (.nilc (.t 18)), none⟩), (.p, ⟨(some 20), (.fa (.t 19) 6), none⟩), (.p, ⟨(some 21), (.ld (.t 20) none), none⟩), (.p, ⟨(some 22), (.mv (.t 0)), none⟩), (.p, ⟨(some 23), (.nilc (.t 22)), none⟩), (.p, ⟨(some 24), (.fa (.t 23) 6), none⟩), (.p, ⟨(some 25), (.ld (.t 24) none), none⟩), (.p, ⟨(some 26), (.bin .add (.t 25) (.c (.v (.int .i64 1)))), none⟩), ((.r [0, 1, 2, 3, 4, 5, 6, 7, 8, 9, 10, 11, 12, 13, 14, 15, 16, 17, 18]), ⟨(some 27), (.call (.c (.f 49 [])) [(.t 9), (.t 11), (.t 17), (.t 21), (.t 26)]), none⟩), (.p, ⟨(some 7), (.mv (.t 27)), none⟩), (.p, ⟨(some 28), (.ext (.t 7) 0), none⟩), (.p, ⟨(some 29), (.ext (.t 7) 1), none⟩), (.p, ⟨(some 5), (.mv (.t 28)), none⟩)] [⟨(some 6), (.mv (.t 29)), none⟩]) (.reg [⟨(some 8), (.fa (.t 3) 0), none⟩, ⟨(some 9), (.ld (.t 8) none), none⟩, ⟨(some 10), (.fa (.t 3) 1), none⟩, ⟨(some 11), (.ld (.t 10) none), none⟩, ⟨(some 12), (.mv (.t 0)), none⟩, ⟨(some 13), (.nilc (.t 12)), none⟩, ⟨(some 14), (.fa (.t 13) 0), none⟩, ⟨(some 15), (.fa (.t 14) 0), none⟩, ⟨(some 16), (.ld (.t 15) none), none⟩, ⟨(some 17), (.bin .add (.t 16) (.c (.v (.int .i64 0)))), none⟩, ⟨(some 18), (.mv (.t 0)), none⟩, ⟨(some 19), (.nilc (.t 18)), none⟩, ⟨(some 20), (.fa (.t 19) 6), none⟩, ⟨(some 21), (.ld (.t 20) none), none⟩, ⟨(some 22), (.mv (.t 0)), none⟩, ⟨(some 23), (.nilc (.t 22)), none⟩, ⟨(some 24), (.fa (.t 23) 6), none⟩, ⟨(some 25), (.ld (.t 24) none), none⟩, ⟨(some 26), (.bin .add (.t 25) (.c (.v (.int .i64 1)))), none⟩, ⟨(some 27), (.call (.c (.f 49 [])) [(.t 9), (.t 11), (.t 17), (.t 21), (.t 26)]), none⟩, ⟨(some 7), (.mv (.t 27)), none⟩, ⟨(some 28), (.ext (.t 7) 0), none⟩, ⟨(some 29), (.ext (.t 7) 1), none⟩, ⟨(some 5), (.mv (.t 28)), none⟩] [⟨(some 6), (.mv (.t 29)), none⟩])) 
  (.seq 
  (.seq (.reg [] [⟨(some 30), (.mv (.t 5)), none⟩]) (.cond (.t 30) 
  (.seq (.reg [] [⟨(some 31), (.mv (.t 0)), none⟩, ⟨(some 32), (.mv (.t 6)), none⟩, ⟨(some 33), (.call (.c (.f 34 [])) [(.t 31), (.c (.v (.int .i64 1))), (.t 32)]), none⟩, ⟨(some 4), (.mv (.t 33)), none⟩]) .ret) .skip)) 
  (.seq (.reg [] [⟨(some 34), (.mv (.t 0)), none⟩, ⟨(some 35), (.mv (.t 6)), none⟩, ⟨(some 36), (.call (.c (.f 34 [])) [(.t 34), (.c (.v (.int .i64 3))), (.t 35)]), none⟩, ⟨(some 4), (.mv (.t 36)), none⟩]) .ret)))), [(.t 4)]⟩

def c45 : MF := ⟨2, 19, 
  (.seq (.reg [] [⟨(some 4), (.mv (.c (.v (.int .i64 0)))), none⟩]) 
  (.seq (.reg [⟨(some 5), (.mv (.t 0)), none⟩, ⟨(some 6), (.nilc (.t 5)), none⟩, ⟨(some 7), (.fa (.t 6) 0), none⟩, ⟨(some 8), (.fa (.t 7) 0), none⟩, ⟨(some 9), (.ld (.t 8) none), none⟩, ⟨(some 10), (.bin .add (.t 9) (.c (.v (.int .i64 2)))), none⟩, ⟨(some 11), (.mv (.t 1)), none⟩, ⟨(some 12), (.mv (.t 0)), none⟩, ⟨(some 13), (.nilc (.t 12)), none⟩, ⟨(some 14), (.fa (.t 13) 0), none⟩, ⟨(some 15), (.fa (.t 14) 1), none⟩, ⟨(some 16), (.ld (.t 15) none), none⟩, ⟨(some 17), (.bin .rem (.t 11) (.t 16)), none⟩] [⟨(some 18), (.bin .add (.t 10) (.t 17)), none⟩, ⟨(some 4), (.mv (.t 18)), none⟩]) .ret)), [(.t 4)]⟩

def c46 : MF := ⟨2, 23, 
  (.seq (.reg [] [⟨(some 3), (.box (.t 1)), none⟩, ⟨(some 4), (.mv (.c (.v (.int .i64 0)))), none⟩]) 
  (.seq (.alt (.regM [(.p, ⟨(some 5), (.mv (.t 0)), none⟩), (.p, ⟨(some 6), (.fa (.t 3) 0), none⟩), (.p, ⟨(some 7), (.ld (.t 6) none), none⟩), (.p, ⟨(some 8), (.fa (.t 3) 1), none⟩), (.p, ⟨(some 9), (.ld (.t 8) none), none⟩), (.p, ⟨(some 10), (.mv (.t 0)), none⟩), (.p, ⟨(some 11), (.nilc (.t 10)), none⟩), (.p, ⟨(some 12), (.fa (.t 11) 0), none⟩), (.p, ⟨(some 13), (.fa (.t 12) 0), none⟩), (.p, ⟨(some 14), (.ld (.t 13) none), none⟩), (.p, ⟨(some 15), (.bin .add (.t 14) (.c (.v (.int .i64 1)))), none⟩), (.p, ⟨(some 16), (.mv (.t 0)), none⟩), (.p, ⟨(some 17), (.nilc (.t 16)), none⟩), (.p, ⟨(some 18), (.fa (.t 17) 5), none⟩), (.p, ⟨(some 19), (.ld (.t 18) none), none⟩), (.p, ⟨(some 20), (.bin .add (.t 19) (.c (.v (.int .i64 1)))), none⟩), ((.r [1, 2, 3, 4, 5, 6, 7, 8, 9, 10, 11, 12, 13, 14, 15]), ⟨(some 21), (.call (.c (.f 33 [])) [(.t 7), (.t 9), (.t 15), (.t 20)]), none⟩)] [⟨(some 22), (.call (.c (.f 34 [])) [(.t 5), (.c (.v (.int .i64 1))), (.t 21)]), none⟩, ⟨(some 4), (.mv (.t 22)), none⟩]) (.reg [⟨(some 5), (.mv (.t 0)), none⟩, ⟨(some 6), (.fa (.t 3) 0), none⟩, ⟨(some 7), (.ld (.t 6) none), none⟩, ⟨(some 8), (.fa (.t 3) 1), none⟩, ⟨(some 9), (.ld (.t 8) none), none⟩, ⟨(some 10), (.mv (.t 0)), none⟩, ⟨(some 11), (.nilc (.t 10)), none⟩, ⟨(some 12), (.fa (.t 11) 0), none⟩, ⟨(some 13), (.fa (.t 12) 0), none⟩, ⟨(some 14), (.ld (.t 13) none), none⟩, ⟨(some 15), (.bin .add (.t 14) (.c (.v (.int .i64 1)))), none⟩, ⟨(some 16), (.mv (.t 0)), none⟩, ⟨(some 17), (.nilc (.t 16)), none⟩, ⟨(some 18), (.fa (.t 17) 5), none⟩, ⟨(some 19), (.ld (.t 18) none), none⟩, ⟨(some 20), (.bin .add (.t 19) (.c (.v (.int .i64 1)))), none⟩, ⟨(some 21), (.call (.c (.f 33 [])) [(.t 7), (.t 9), (.t 15), (.t 20)]), none⟩] [⟨(some 22), (.call (.c (.f 34 [])) [(.t 5), (.c (.v (.int .i64 1))), (.t 21)]), none⟩, ⟨(some 4), (.mv (.t 22)), none⟩])) .ret)), [(.t 4)]⟩

def c47 : MF := ⟨2, 37, 
  (.seq (.reg [] [⟨(some 3), (.box (.t 1)), none⟩, ⟨(some 4), (.mv (.c (.v (.int .i64 0)))), none⟩]) 
  (.seq (.alt (.regM [(.p, ⟨(some 8), (.fa (.t 3) 0), none⟩), (.p, ⟨(some 9), (.ld (.t 8) none), none⟩), (.p, ⟨(some 10), (.fa (.t 3) 1), none⟩), (.p, ⟨(some 11), (.ld (.t 10) none), none⟩), (.p, ⟨(some 12), (.mv (.t 0)), none⟩), (.p, ⟨(some 13), (.nilc (.t 12)), none⟩), (.p, ⟨(some 14), (.fa (.t 13) 0), none⟩), (.p, ⟨(some 15), (.fa (.t 14) 0), none⟩), (.p, ⟨(some 16), (.ld (.t 15) none), none⟩), (.p, ⟨(some 17), (.bin .add (.t 16) (.c (.v (.int .i64 0)))), none⟩), (.p, ⟨(some 18), (.mv (.t 0)), none⟩), (.p, ⟨(some 19), (.nilc (.t 18)), none⟩), (.p, ⟨(some 20), (.fa (.t 19) 6), none⟩), (.p, ⟨(some 21), (.ld (.t 20) none), none⟩), (.p, ⟨(some 22), (.mv (.t 0)), none⟩), (.p, ⟨(some 23), (.nilc (.t 22)), none⟩), (.p, ⟨(some 24), (.fa (.t 23) 6), none⟩), (.p, ⟨(some 25), (.ld (.t 24) none), none⟩), (.p, ⟨(some 26), (.bin .add (.t 25) (.c (.v (.int .i64 1)))), none⟩), ((.r [0, 1, 2, 3, 4, 5, 6, 7, 8, 9, 10, 11, 12, 13, 14, 15, 16, 17, 18]), ⟨(some 27), (.call (.c (.f 49 [])) [(.t 9), (.t 11), (.t 17), (.t 21), (.t 26)]), none⟩), (.p, ⟨(some 7), (.mv (.t 27)), none⟩), (.p, ⟨(some 28), (.ext (.t 7) 0), none⟩), (.p, ⟨(some 29), (.ext (.t 7) 1), none⟩), (.p, ⟨(some 5), (.mv (.t 28)), none⟩)] [⟨(some 6), (.mv (.t 29)), none⟩]) (.reg [⟨(some 8), (.fa (.t 3) 0), none⟩, ⟨(some 9), (.ld (.t 8) none), none⟩, ⟨(some 10), (.fa (.t 3) 1), none⟩, ⟨(some 11), (.ld (.t 10) none), none⟩, ⟨(some 12), (.mv (.t 0)), none⟩, ⟨(some 13), (.nilc (.t 12)), none⟩, ⟨(some 14), (.fa (.t 13) 0), none⟩, ⟨(some 15), (.fa (.t 14) 0), none⟩, ⟨(some 16), (.ld (.t 15) none), none⟩, ⟨(some 17), (.bin .add (.t 16) (.c (.v (.int .i64 0)))), none⟩, ⟨(some 18), (.mv (.t 0)), none⟩, ⟨(some 19), (.nilc (.t 18)), none⟩, ⟨(some 20), (.fa (.t 19) 6), none⟩, ⟨(some 21), (.ld (.t 20) none), none⟩, ⟨(some 22), (.mv (.t 0)), none⟩, ⟨(some 23), (.nilc (.t 22)), none⟩, ⟨(some 24), (.fa (.t 23) 6), none⟩, ⟨(some 25), (.ld (.t 24) none), none⟩, ⟨(some 26), (.bin .add (.t 25) (.c (.v (.int .i64 1)))), none⟩, ⟨(some 27), (.call (.c (.f 49 [])) [(.t 9), (.t 11), (.t 17), (.t 21), (.t 26)]), none⟩, ⟨(some 7), (.mv (.t 27)), none⟩, ⟨(some 28), (.ext (.t 7) 0), none⟩, ⟨(some 29), (.ext (.t 7) 1), none⟩, ⟨(some 5), (.mv (.t 28)), none⟩] [⟨(some 6), (.mv (.t 29)), none⟩])) 
  (.seq 
  (.seq (.reg [] [⟨(some 30), (.mv (.t 5)), none⟩]) (.cond (.t 30) 
  (.seq (.reg [] [⟨(some 31), (.mv (.t 0)), none⟩, ⟨(some 32), (.mv (.t 6)), none⟩, ⟨(some 33), (.call (.c (.f 25 [])) [(.t 31), (.c (.f 50 [])), (.t 32)]), none⟩, ⟨(some 4), (.mv (.t 33)), none⟩]) .ret) .skip)) 
  (.seq (.reg [] [⟨(some 34), (.mv (.t 0)), none⟩, ⟨(some 35), (.mv (.t 6)), none⟩, ⟨(some 36), (.call (.c (.f 25 [])) [(.t 34), (.c (.f 51 [])), (.t 35)]), none⟩, ⟨(some 4), (.mv (.t 36)), none⟩]) .ret)))), [(.t 4)]⟩

def c48 : MF := ⟨1, 8, 
  (.seq (.reg [] [⟨(some 2), (.mv (.c (.v (.slice none 0 0)))), none⟩]) 
  (.seq 
  (.seq (.reg [] [⟨(some 3), (.mv (.t 0)), none⟩, ⟨(some 4), (.eqn false 0 (.t 3)), none⟩]) (.cond (.t 4) 
  (.seq (.reg [] [⟨(some 2), (.mv (.c (.v (.slice none 0 0)))), none⟩]) .ret) .skip)) 
  (.seq (.reg [] [⟨(some 5), (.bsl [(.v (.int .i64 0))] 0 []), none⟩, ⟨(some 6), (.mv (.t 0)), none⟩, ⟨(some 7), (.app (.t 5) (.t 6) 1 8), none⟩, ⟨(some 2), (.mv (.t 7)), none⟩]) .ret))), [(.t 2)]⟩

def c49 : MF := ⟨5, 53, 
  (.seq (.reg [] [⟨(some 10), (.mv (.c (.v (.bool false)))), none⟩, ⟨(some 11), (.mv (.c (.v (.int .i64 0)))), none⟩]) 
  (.seq 
  (.seq (.reg [] [⟨(some 13), (.mv (.t 0)), none⟩, ⟨(some 14), (.mv (.t 1)), none⟩, ⟨(some 15), (.mv (.t 2)), none⟩, ⟨(some 16), (.mv (.t 0)), none⟩, ⟨(some 17), (.call (.c (.f 38 [])) [(.t 16), (.c (.f 39 []))]), none⟩, ⟨(some 18), (.call (.c (.f 37 [])) [(.t 13), (.t 14), (.t 15), (.t 17)]), none⟩, ⟨(some 12), (.mv (.t 18)), none⟩]) 
  (.seq (.reg [] [⟨(some 19), (.mv (.t 12)), none⟩, ⟨(some 20), (.bin .neq (.t 19) (.c (.v (.int .i64 0)))), none⟩]) (.cond (.t 20) 
  (.seq (.reg [] [⟨(some 21), (.mv (.t 12)), none⟩, ⟨(some 10), (.mv (.c (.v (.bool false)))), none⟩, ⟨(some 11), (.mv (.t 21)), none⟩]) .ret) .skip))) 
  (.seq (.reg [⟨(some 22), (.mv (.t 0)), none⟩, ⟨(some 23), (.nilc (.t 22)), none⟩, ⟨(some 24), (.fa (.t 23) 0), none⟩, ⟨(some 25), (.ld (.t 24) none), none⟩, ⟨(some 26), (.mv (.t 1)), none⟩, ⟨(some 27), (.ixs (.t 25) (.t 26) 1), none⟩, ⟨(some 28), (.ld (.t 27) none), none⟩, ⟨(some 29), (.mv (.t 0)), none⟩, ⟨(some 30), (.nilc (.t 29)), none⟩, ⟨(some 31), (.fa (.t 30) 1), none⟩, ⟨(some 32), (.ld (.t 31) none), none⟩, ⟨(some 33), (.mv (.t 2)), none⟩, ⟨(some 34), (.ixs (.t 32) (.t 33) 2), none⟩, ⟨(some 35), (.fa (.t 34) 1), none⟩, ⟨(some 36), (.ld (.t 35) none), none⟩] [⟨(some 37), (.call (.c (.f 40 [])) [(.t 28), (.t 36)]), none⟩]) 
  (.seq 
  (.seq (.reg [] [⟨(some 38), (.mv (.t 0)), none⟩, ⟨(some 39), (.nilc (.t 38)), none⟩, ⟨(some 40), (.fa (.t 39) 1), none⟩, ⟨(some 41), (.ld (.t 40) none), none⟩, ⟨(some 42), (.mv (.t 2)), none⟩, ⟨(some 43), (.ixs (.t 41) (.t 42) 2), none⟩, ⟨(some 44), (.fa (.t 43) 0), none⟩, ⟨(some 45), (.ld (.t 44) none), none⟩, ⟨(some 46), (.mv (.t 3)), none⟩, ⟨(some 47), (.bin .neq (.t 45) (.t 46)), none⟩]) (.cond (.t 47) 
  (.seq (.reg [] [⟨(some 10), (.mv (.c (.v (.bool false)))), none⟩, ⟨(some 11), (.mv (.c (.v (.int .i64 0)))), none⟩]) .ret) .skip)) 
  (.seq (.reg [] [⟨(some 48), (.mv (.t 0)), none⟩, ⟨(some 49), (.mv (.t 1)), none⟩, ⟨(some 50), (.mv (.t 2)), none⟩, ⟨(some 51), (.mv (.t 4)), none⟩, ⟨(some 52), (.call (.c (.f 43 [])) [(.t 48), (.t 49), (.t 50), (.t 51)]), none⟩]) 
  (.seq (.reg [] [⟨(some 10), (.mv (.c (.v (.bool true)))), none⟩, ⟨(some 11), (.mv (.c (.v (.int .i64 0)))), none⟩]) .ret)))))), [(.t 10), (.t 11)]⟩

def c50 : MF := ⟨2, 23, 
  (.seq (.reg [] [⟨(some 3), (.box (.t 1)), none⟩, ⟨(some 4), (.mv (.c (.v (.int .i64 0)))), none⟩]) 
  (.seq (.alt (.regM [(.p, ⟨(some 5), (.mv (.t 0)), none⟩), (.p, ⟨(some 6), (.fa (.t 3) 0), none⟩), (.p, ⟨(some 7), (.ld (.t 6) none), none⟩), (.p, ⟨(some 8), (.fa (.t 3) 1), none⟩), (.p, ⟨(some 9), (.ld (.t 8) none), none⟩), (.p, ⟨(some 10), (.mv (.t 0)), none⟩), (.p, ⟨(some 11), (.nilc (.t 10)), none⟩), (.p, ⟨(some 12), (.fa (.t 11) 0), none⟩), (.p, ⟨(some 13), (.fa (.t 12) 0), none⟩), (.p, ⟨(some 14), (.ld (.t 13) none), none⟩), (.p, ⟨(some 15), (.bin .add (.t 14) (.c (.v (.int .i64 1)))), none⟩), (.p, ⟨(some 16), (.mv (.t 0)), none⟩), (.p, ⟨(some 17), (.nilc (.t 16)), none⟩), (.p, ⟨(some 18), (.fa (.t 17) 6), none⟩), (.p, ⟨(some 19), (.ld (.t 18) none), none⟩), (.p, ⟨(some 20), (.bin .add (.t 19) (.c (.v (.int .i64 1)))), none⟩), ((.r [1, 2, 3, 4, 5, 6, 7, 8, 9, 10, 11, 12, 13, 14, 15]), ⟨(some 21), (.call (.c (.f 33 [])) [(.t 7), (.t 9), (.t 15), (.t 20)]), none⟩)] [⟨(some 22), (.call (.c (.f 34 [])) [(.t 5), (.c (.v (.int .i64 1))), (.t 21)]), none⟩, ⟨(some 4), (.mv (.t 22)), none⟩]) (.reg [⟨(some 5), (.mv (.t 0)), none⟩, ⟨(some 6), (.fa (.t 3) 0), none⟩, ⟨(some 7), (.ld (.t 6) none), none⟩, ⟨(some 8), (.fa (.t 3) 1), none⟩, ⟨(some 9), (.ld (.t 8) none), none⟩, ⟨(some 10), (.mv (.t 0)), none⟩, ⟨(some 11), (.nilc (.t 10)), none⟩, ⟨(some 12), (.fa (.t 11) 0), none⟩, ⟨(some 13), (.fa (.t 12) 0), none⟩, ⟨(some 14), (.ld (.t 13) none), none⟩, ⟨(some 15), (.bin .add (.t 14) (.c (.v (.int .i64 1)))), none⟩, ⟨(some 16), (.mv (.t 0)), none⟩, ⟨(some 17), (.nilc (.t 16)), none⟩, ⟨(some 18), (.fa (.t 17) 6), none⟩, ⟨(some 19), (.ld (.t 18) none), none⟩, ⟨(some 20), (.bin .add (.t 19) (.c (.v (.int .i64 1)))), none⟩, ⟨(some 21), (.call (.c (.f 33 [])) [(.t 7), (.t 9), (.t 15), (.t 20)]), none⟩] [⟨(some 22), (.call (.c (.f 34 [])) [(.t 5), (.c (.v (.int .i64 1))), (.t 21)]), none⟩, ⟨(some 4), (.mv (.t 22)), none⟩])) .ret)), [(.t 4)]⟩

def c51 : MF := ⟨2, 23, 
  (.seq (.reg [] [⟨(some 3), (.box (.t 1)), none⟩, ⟨(some 4), (.mv (.c (.v (.int .i64 0)))), none⟩]) 
  (.seq (.alt (.regM [(.p, ⟨(some 5), (.mv (.t 0)), none⟩), (.p, ⟨(some 6), (.fa (.t 3) 0), none⟩), (.p, ⟨(some 7), (.ld (.t 6) none), none⟩), (.p, ⟨(some 8), (.fa (.t 3) 1), none⟩), (.p, ⟨(some 9), (.ld (.t 8) none), none⟩), (.p, ⟨(some 10), (.mv (.t 0)), none⟩), (.p, ⟨(some 11), (.nilc (.t 10)), none⟩), (.p, ⟨(some 12), (.fa (.t 11) 0), none⟩), (.p, ⟨(some 13), (.fa (.t 12) 0), none⟩), (.p, ⟨(some 14), (.ld (.t 13) none), none⟩), (.p, ⟨(some 15), (.bin .add (.t 14) (.c (.v (.int .i64 1)))), none⟩), (.p, ⟨(some 16), (.mv (.t 0)), none⟩), (.p, ⟨(some 17), (.nilc (.t 16)), none⟩), (.p, ⟨(some 18), (.fa (.t 17) 6), none⟩), (.p, ⟨(some 19), (.ld (.t 18) none), none⟩), (.p, ⟨(some 20), (.bin .add (.t 19) (.c (.v (.int .i64 1)))), none⟩), ((.r [1, 2, 3, 4, 5, 6, 7, 8, 9, 10, 11, 12, 13, 14, 15]), ⟨(some 21), (.call (.c (.f 33 [])) [(.t 7), (.t 9), (.t 15), (.t 20)]), none⟩)] [⟨(some 22), (.call (.c (.f 34 [])) [(.t 5), (.c (.v (.int .i64 3))), (.t 21)]), none⟩, ⟨(some 4), (.mv (.t 22)), none⟩]) (.reg [⟨(some 5), (.mv (.t 0)), none⟩, ⟨(some 6), (.fa (.t 3) 0), none⟩, ⟨(some 7), (.ld (.t 6) none), none⟩, ⟨(some 8), (.fa (.t 3) 1), none⟩, ⟨(some 9), (.ld (.t 8) none), none⟩, ⟨(some 10), (.mv (.t 0)), none⟩, ⟨(some 11), (.nilc (.t 10)), none⟩, ⟨(some 12), (.fa (.t 11) 0), none⟩, ⟨(some 13), (.fa (.t 12) 0), none⟩, ⟨(some 14), (.ld (.t 13) none), none⟩, ⟨(some 15), (.bin .add (.t 14) (.c (.v (.int .i64 1)))), none⟩, ⟨(some 16), (.mv (.t 0)), none⟩, ⟨(some 17), (.nilc (.t 16)), none⟩, ⟨(some 18), (.fa (.t 17) 6), none⟩, ⟨(some 19), (.ld (.t 18) none), none⟩, ⟨(some 20), (.bin .add (.t 19) (.c (.v (.int .i64 1)))), none⟩, ⟨(some 21), (.call (.c (.f 33 [])) [(.t 7), (.t 9), (.t 15), (.t 20)]), none⟩] [⟨(some 22), (.call (.c (.f 34 [])) [(.t 5), (.c (.v (.int .i64 3))), (.t 21)]), none⟩, ⟨(some 4), (.mv (.t 22)), none⟩])) .ret)), [(.t 4)]⟩

def pureL : List FuncId := [45, 7]
theorem ok3 : ∃ md, cF Try.prog md 3 = some c3 := ⟨(true, pureL), by kernel_rfl⟩
theorem ok4 : ∃ md, cF Try.prog md 4 = some c4 := ⟨(true, pureL), by kernel_rfl⟩
theorem ok5 : ∃ md, cF Try.prog md 5 = some c5 := ⟨(true, pureL), by kernel_rfl⟩
theorem ok6 : ∃ md, cF Try.prog md 6 = some c6 := ⟨(true, pureL), by kernel_rfl⟩
theorem ok7 : ∃ md, cF Try.prog md 7 = some c7 := ⟨(true, pureL), by kernel_rfl⟩
theorem ok8 : ∃ md, cF Try.prog md 8 = some c8 := ⟨(true, pureL), by kernel_rfl⟩
theorem ok9 : ∃ md, cF Try.prog md 9 = some c9 := ⟨(true, pureL), by kernel_rfl⟩
theorem ok10 : ∃ md, cF Try.prog md 10 = some c10 := ⟨(true, pureL), by kernel_rfl⟩
theorem ok11 : ∃ md, cF Try.prog md 11 = some c11 := ⟨(true, pureL), by kernel_rfl⟩
theorem ok12 : ∃ md, cF Try.prog md 12 = some c12 := ⟨(true, pureL), by kernel_rfl⟩
theorem ok13 : ∃ md, cF Try.prog md 13 = some c13 := ⟨(true, pureL), by kernel_rfl⟩
theorem ok14 : ∃ md, cF Try.prog md 14 = some c14 := ⟨(true, pureL), by kernel_rfl⟩
theorem ok15 : ∃ md, cF Try.prog md 15 = some c15 := ⟨(true, pureL), by kernel_rfl⟩
theorem ok16 : ∃ md, cF Try.prog md 16 = some c16 := ⟨(true, pureL), by kernel_rfl⟩
theorem ok17 : ∃ md, cF Try.prog md 17 = some c17 := ⟨(true, pureL), by kernel_rfl⟩
theorem ok18 : ∃ md, cF Try.prog md 18 = some c18 := ⟨(true, pureL), by kernel_rfl⟩
theorem ok19 : ∃ md, cF Try.prog md 19 = some c19 := ⟨(true, pureL), by kernel_rfl⟩
theorem ok20 : ∃ md, cF Try.prog md 20 = some c20 := ⟨(true, pureL), by kernel_rfl⟩
theorem ok21 : ∃ md, cF Try.prog md 21 = some c21 := ⟨(true, pureL), by kernel_rfl⟩
theorem ok22 : ∃ md, cF Try.prog md 22 = some c22 := ⟨(true, pureL), by kernel_rfl⟩
theorem ok23 : ∃ md, cF Try.prog md 23 = some c23 := ⟨(true, pureL), by kernel_rfl⟩
theorem ok24 : ∃ md, cF Try.prog md 24 = some c24 := ⟨(true, pureL), by kernel_rfl⟩
theorem ok25 : ∃ md, cF Try.prog md 25 = some c25 := ⟨(true, pureL), by kernel_rfl⟩
theorem ok26 : ∃ md, cF Try.prog md 26 = some c26 := ⟨(true, pureL), by kernel_rfl⟩
theorem ok27 : ∃ md, cF Try.prog md 27 = some c27 := ⟨(true, pureL), by kernel_rfl⟩
theorem ok28 : ∃ md, cF Try.prog md 28 = some c28 := ⟨(true, pureL), by kernel_rfl⟩
theorem ok29 : ∃ md, cF Try.prog md 29 = some c29 := ⟨(true, pureL), by kernel_rfl⟩
theorem ok30 : ∃ md, cF Try.prog md 30 = some c30 := ⟨(true, pureL), by kernel_rfl⟩
theorem ok31 : ∃ md, cF Try.prog md 31 = some c31 := ⟨(true, pureL), by kernel_rfl⟩
theorem ok32 : ∃ md, cF Try.prog md 32 = some c32 := ⟨(true, pureL), by kernel_rfl⟩
theorem ok33 : ∃ md, cF Try.prog md 33 = some c33 := ⟨(true, pureL), by kernel_rfl⟩
theorem ok34 : ∃ md, cF Try.prog md 34 = some c34 := ⟨(true, pureL), by kernel_rfl⟩
theorem ok35 : ∃ md, cF Try.prog md 35 = some c35 := ⟨(true, pureL), by kernel_rfl⟩
theorem ok36 : ∃ md, cF Try.prog md 36 = some c36 := ⟨(true, pureL), by kernel_rfl⟩
theorem ok37 : ∃ md, cF Try.prog md 37 = some c37 := ⟨(true, pureL), by kernel_rfl⟩
theorem ok38 : ∃ md, cF Try.prog md 38 = some c38 := ⟨(true, pureL), by kernel_rfl⟩
theorem ok39 : ∃ md, cF Try.prog md 39 = some c39 := ⟨(true, pureL), by kernel_rfl⟩
theorem ok40 : ∃ md, cF Try.prog md 40 = some c40 := ⟨(true, pureL), by kernel_rfl⟩
theorem ok41 : ∃ md, cF Try.prog md 41 = some c41 := ⟨(true, pureL), by kernel_rfl⟩
theorem ok42 : ∃ md, cF Try.prog md 42 = some c42 := ⟨(true, pureL), by kernel_rfl⟩
theorem ok43 : ∃ md, cF Try.prog md 43 = some c43 := ⟨(true, pureL), by kernel_rfl⟩
theorem ok44 : ∃ md, cF Try.prog md 44 = some c44 := ⟨(true, pureL), by kernel_rfl⟩
theorem ok45 : ∃ md, cF Try.prog md 45 = some c45 := ⟨(true, pureL), by kernel_rfl⟩
theorem ok46 : ∃ md, cF Try.prog md 46 = some c46 := ⟨(true, pureL), by kernel_rfl⟩
theorem ok47 : ∃ md, cF Try.prog md 47 = some c47 := ⟨(true, pureL), by kernel_rfl⟩
theorem ok48 : ∃ md, cF Try.prog md 48 = some c48 := ⟨(true, pureL), by kernel_rfl⟩
theorem ok49 : ∃ md, cF Try.prog md 49 = some c49 := ⟨(true, pureL), by kernel_rfl⟩
theorem ok50 : ∃ md, cF Try.prog md 50 = some c50 := ⟨(true, pureL), by kernel_rfl⟩
theorem ok51 : ∃ md, cF Try.prog md 51 = some c51 := ⟨(true, pureL), by kernel_rfl⟩

def cmL : List (Nat × ME) := [(3, .n c3), (4, .n c4), (5, .n c5), (6, .n c6), (7, .n c7), (8, .n c8), (9, .s c9), (10, .s c10), (11, .s c11), (12, .s c12), (13, .s c13), (14, .s c14), (15, .s c15), (16, .s c16), (17, .n c17), (18, .s c18), (19, .s c19), (20, .s c20), (21, .s c21), (22, .s c22), (23, .s c23), (24, .s c24), (25, .s c25), (26, .s c26), (27, .s c27), (28, .s c28), (29, .s c29), (30, .s c30), (31, .s c31), (32, .s c32), (33, .s c33), (34, .s c34), (35, .s c35), (36, .s c36), (37, .s c37), (38, .s c38), (39, .n c39), (40, .s c40), (41, .s c41), (42, .s c42), (43, .s c43), (44, .s c44), (45, .n c45), (46, .s c46), (47, .s c47), (48, .n c48), (49, .s c49), (50, .s c50), (51, .s c51)]

def cm : FuncId → Option ME := look cmL

theorem hcm : ∀ g m, cm g = some m → Good Try.prog g m := look_ok ⟨ok3, ok4, ok5, ok6, ok7, ok8, ok9, ok10, ok11, ok12, ok13, ok14, ok15, ok16, ok17, ok18, ok19, ok20, ok21, ok22, ok23, ok24, ok25, ok26, ok27, ok28, ok29, ok30, ok31, ok32, ok33, ok34, ok35, ok36, ok37, ok38, ok39, ok40, ok41, ok42, ok43, ok44, ok45, ok46, ok47, ok48, ok49, ok50, ok51, trivial⟩

theorem sh9 : isS cm 9 = true := rfl
theorem sh10 : isS cm 10 = true := rfl
theorem sh11 : isS cm 11 = true := rfl
theorem sh12 : isS cm 12 = true := rfl
theorem sh13 : isS cm 13 = true := rfl
theorem sh14 : isS cm 14 = true := rfl
theorem sh15 : isS cm 15 = true := rfl
theorem sh16 : isS cm 16 = true := rfl
theorem sh18 : isS cm 18 = true := rfl
theorem sh19 : isS cm 19 = true := rfl
theorem sh20 : isS cm 20 = true := rfl
theorem sh21 : isS cm 21 = true := rfl
theorem sh22 : isS cm 22 = true := rfl
theorem sh23 : isS cm 23 = true := rfl
theorem sh24 : isS cm 24 = true := rfl
theorem sh25 : isS cm 25 = true := rfl
theorem sh26 : isS cm 26 = true := rfl
theorem sh27 : isS cm 27 = true := rfl
theorem sh28 : isS cm 28 = true := rfl
theorem sh29 : isS cm 29 = true := rfl
theorem sh30 : isS cm 30 = true := rfl
theorem sh31 : isS cm 31 = true := rfl
theorem sh32 : isS cm 32 = true := rfl
theorem sh33 : isS cm 33 = true := rfl
theorem sh34 : isS cm 34 = true := rfl
theorem sh35 : isS cm 35 = true := rfl
theorem sh36 : isS cm 36 = true := rfl
theorem sh37 : isS cm 37 = true := rfl
theorem sh38 : isS cm 38 = true := rfl
theorem sh40 : isS cm 40 = true := rfl
theorem sh41 : isS cm 41 = true := rfl
theorem sh42 : isS cm 42 = true := rfl
theorem sh43 : isS cm 43 = true := rfl
theorem sh44 : isS cm 44 = true := rfl
theorem sh46 : isS cm 46 = true := rfl
theorem sh47 : isS cm 47 = true := rfl
theorem sh49 : isS cm 49 = true := rfl
theorem sh50 : isS cm 50 = true := rfl
theorem sh51 : isS cm 51 = true := rfl
attribute [push_cast] sh9 sh10 sh11 sh12 sh13 sh14 sh15 sh16 sh18 sh19 sh20 sh21 sh22 sh23 sh24 sh25 sh26 sh27 sh28 sh29 sh30 sh31 sh32 sh33 sh34 sh35 sh36 sh37 sh38 sh40 sh41 sh42 sh43 sh44 sh46 sh47 sh49 sh50 sh51
end Go.Proofs.Ytjoldlaoncdcgaa
