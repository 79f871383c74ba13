/- The abstract machine's code of the program's functions (printed by gen.py out of the loaded program; that it is that program's is proved elsewhere). -/
import Derived.Test.YtmbdccekcfeomaaT02
namespace Go.Proofs.Ytmbdccekcfeomaa.Am
set_option maxRecDepth 100000
/-- umpirage/umpiragelaw7.SuperEnds -/
def body3 : ACode := (.seq (.region none [
 ⟨some 2, .fbox (.t 0), none, []⟩,
 ⟨some 4, .mov (.c (.bool false)), none, []⟩])
 (.seq (.region none [
 ⟨some 11, .call (.c (.clo 6 [])) [], none, []⟩,
 ⟨some 12, .call (.c (.clo 5 [])) [(.t 11), (.c (.int .i64 100))], none, []⟩,
 ⟨some 10, .mov (.t 12), none, []⟩,
 ⟨some 13, .extract 0 (.t 10), none, []⟩,
 ⟨some 14, .extract 1 (.t 10), none, []⟩,
 ⟨some 15, .extract 2 (.t 10), none, []⟩,
 ⟨some 7, .lalloc (.agg [(.int .i64 0), (.int .i64 0)]), none, []⟩,
 ⟨some 5, .mov (.t 13), none, []⟩,
 ⟨some 6, .mov (.t 14), none, []⟩,
 ⟨none, .store 2 (.t 7) (.t 15), none, []⟩])
 (.seq (.seq (.region none [
 ⟨some 16, .faddr 0 (.t 7), none, []⟩,
 ⟨some 17, .load 1 false (.t 16), none, []⟩,
 ⟨some 18, .bin .neq (.t 17) (.c (.int .i64 0)), none, []⟩,
 ⟨some 19, .mov (.t 18), none, []⟩,
 ⟨some 20, .mov (.t 5), some (19, false), []⟩,
 ⟨some 21, .bin .neq (.t 20) (.c (.int .i64 2)), some (19, false), []⟩,
 ⟨some 22, .pick (.t 19) (.c (.bool true)) (.t 21), none, []⟩,
 ⟨some 23, .mov (.t 22), none, []⟩,
 ⟨some 24, .mov (.t 6), some (23, false), []⟩,
 ⟨some 25, .len (.t 24), some (23, false), []⟩,
 ⟨some 26, .bin .eql (.t 25) (.c (.int .i64 0)), some (23, false), []⟩,
 ⟨some 27, .pick (.t 23) (.c (.bool true)) (.t 26), none, []⟩])
 (.cond (.t 27)
 (.seq (.region none [
 ⟨some 4, .mov (.c (.bool false)), none, []⟩])
 .ret)
 .skip))
 (.seq (.seq (.region none [
 ⟨some 28, .load 2 true (.t 2), none, []⟩,
 ⟨some 29, .call (.c (.clo 7 [])) [(.t 28)], none, []⟩,
 ⟨some 30, .mov (.t 29), none, []⟩,
 ⟨some 31, .mov (.t 1), some (30, false), []⟩,
 ⟨some 32, .bin .gtr (.t 31) (.c (.int .i64 60)), some (30, false), []⟩,
 ⟨some 33, .pick (.t 30) (.c (.bool true)) (.t 32), none, []⟩])
 (.cond (.t 33)
 (.seq (.region none [
 ⟨some 4, .mov (.c (.bool true)), none, []⟩])
 .ret)
 .skip))
 (.seq (.region none [
 ⟨some 34, .load 2 true (.t 2), none, []⟩,
 ⟨some 35, .call (.c (.clo 8 [])) [(.t 34)], none, []⟩,
 ⟨some 8, .lalloc (.agg [(.int .i64 0), (.int .i64 0)]), none, []⟩,
 ⟨none, .store 2 (.t 8) (.t 35), none, []⟩])
 (.seq (.seq (.region none [
 ⟨some 36, .faddr 0 (.t 8), none, []⟩,
 ⟨some 37, .load 1 false (.t 36), none, []⟩,
 ⟨some 38, .bin .eql (.t 37) (.c (.int .i64 0)), none, []⟩,
 ⟨some 39, .mov (.t 38), none, []⟩,
 ⟨some 40, .mov (.t 1), some (39, true), []⟩,
 ⟨some 41, .call (.c (.clo 9 [])) [(.t 40), (.c (.int .i64 0)), (.c (.int .i64 2000))], some (39, true), []⟩,
 ⟨some 42, .un .not (.t 41), some (39, true), []⟩,
 ⟨some 43, .pick (.t 39) (.t 42) (.c (.bool false)), none, []⟩])
 (.cond (.t 43)
 (.region none [
 ⟨some 44, .call (.c (.clo 10 [])) [(.c (.int .i64 3)), (.c (.int .i64 (-1)))], none, []⟩,
 ⟨none, .store 2 (.t 8) (.t 44), none, []⟩])
 .skip))
 (.seq (.region none [
 ⟨some 46, .load 2 true (.t 2), none, []⟩,
 ⟨some 47, .mov (.t 1), none, []⟩,
 ⟨some 48, .call (.c (.clo 5 [])) [(.t 46), (.t 47)], none, []⟩,
 ⟨some 45, .mov (.t 48), none, []⟩,
 ⟨some 49, .extract 0 (.t 45), none, []⟩,
 ⟨some 50, .extract 1 (.t 45), none, []⟩,
 ⟨some 51, .extract 2 (.t 45), none, []⟩,
 ⟨some 5, .mov (.t 49), none, []⟩,
 ⟨some 6, .mov (.t 50), none, []⟩,
 ⟨none, .store 2 (.t 7) (.t 51), none, []⟩])
 (.seq (.seq (.region none [
 ⟨some 52, .load 2 true (.t 7), none, []⟩,
 ⟨some 53, .load 2 true (.t 8), none, []⟩,
 ⟨some 54, .eqs [0, 0] true (.t 52) (.t 53), none, []⟩])
 (.cond (.t 54)
 (.seq (.region none [
 ⟨some 4, .mov (.c (.bool false)), none, []⟩])
 .ret)
 .skip))
 (.seq (.seq (.region none [
 ⟨some 55, .faddr 0 (.t 8), none, []⟩,
 ⟨some 56, .load 1 false (.t 55), none, []⟩,
 ⟨some 57, .bin .neq (.t 56) (.c (.int .i64 0)), none, []⟩])
 (.cond (.t 57)
 (.seq (.region none [
 ⟨some 58, .mov (.t 5), none, []⟩,
 ⟨some 59, .bin .eql (.t 58) (.c (.int .i64 0)), none, []⟩,
 ⟨some 60, .mov (.t 59), none, []⟩,
 ⟨some 61, .mov (.t 6), some (60, true), []⟩,
 ⟨some 62, .len (.t 61), some (60, true), []⟩,
 ⟨some 63, .bin .eql (.t 62) (.c (.int .i64 0)), some (60, true), []⟩,
 ⟨some 64, .pick (.t 60) (.t 63) (.c (.bool false)), none, []⟩,
 ⟨some 4, .mov (.t 64), none, []⟩])
 .ret)
 .skip))
 (.seq (.seq (.region none [
 ⟨some 65, .faddr 1 (.t 2), none, []⟩,
 ⟨some 66, .load 1 false (.t 65), none, []⟩,
 ⟨some 67, .len (.t 66), none, []⟩,
 ⟨some 68, .bin .eql (.t 67) (.c (.int .i64 0)), none, []⟩,
 ⟨some 69, .mov (.t 68), none, []⟩,
 ⟨some 70, .mov (.t 5), some (69, true), []⟩,
 ⟨some 71, .bin .eql (.t 70) (.c (.int .i64 2)), some (69, true), []⟩,
 ⟨some 72, .pick (.t 69) (.t 71) (.c (.bool false)), none, []⟩,
 ⟨some 73, .mov (.t 72), none, []⟩,
 ⟨some 74, .mov (.t 5), some (73, false), []⟩,
 ⟨some 75, .call (.c (.clo 9 [])) [(.t 74), (.c (.int .i64 1)), (.c (.int .i64 3))], some (73, false), []⟩,
 ⟨some 76, .un .not (.t 75), some (73, false), []⟩,
 ⟨some 77, .pick (.t 73) (.c (.bool true)) (.t 76), none, []⟩])
 (.cond (.t 77)
 (.seq (.region none [
 ⟨some 4, .mov (.c (.bool false)), none, []⟩])
 .ret)
 .skip))
 (.seq (.seq (.region none [
 ⟨some 78, .mov (.t 5), none, []⟩,
 ⟨some 79, .bin .neq (.t 78) (.c (.int .i64 2)), none, []⟩])
 (.cond (.t 79)
 (.seq (.region none [
 ⟨some 80, .mov (.t 6), none, []⟩,
 ⟨some 81, .len (.t 80), none, []⟩,
 ⟨some 82, .bin .eql (.t 81) (.c (.int .i64 0)), none, []⟩,
 ⟨some 4, .mov (.t 82), none, []⟩])
 .ret)
 .skip))
 (.seq (.region none [
 ⟨some 84, .load 2 true (.t 2), none, []⟩,
 ⟨some 85, .mov (.t 6), none, []⟩,
 ⟨some 86, .call (.c (.clo 11 [])) [(.t 84), (.t 85)], none, []⟩,
 ⟨some 83, .mov (.t 86), none, []⟩,
 ⟨some 87, .extract 0 (.t 83), none, []⟩,
 ⟨some 88, .extract 1 (.t 83), none, []⟩,
 ⟨some 9, .mov (.t 87), none, []⟩,
 ⟨none, .store 2 (.t 7) (.t 88), none, []⟩])
 (.seq (.region none [
 ⟨some 89, .faddr 0 (.t 7), none, []⟩,
 ⟨some 90, .load 1 false (.t 89), none, []⟩,
 ⟨some 91, .bin .eql (.t 90) (.c (.int .i64 0)), none, []⟩,
 ⟨some 92, .mov (.t 91), none, []⟩,
 ⟨some 93, .mov (.t 9), some (92, true), []⟩,
 ⟨some 94, .pick (.t 92) (.t 93) (.c (.bool false)), none, []⟩,
 ⟨some 4, .mov (.t 94), none, []⟩])
 .ret)))))))))))))
def af3 : AFun := ⟨.pure, 1, 3, body3, [.t 4]⟩

/-- umpirage/umpiragetop.TopFirst -/
def body4 : ACode := (.seq (.region none [
 ⟨some 6, .mov (.c (.bool false)), none, []⟩])
 (.seq (.region none [
 ⟨some 21, .mov (.t 0), none, []⟩,
 ⟨some 22, .call (.c (.clo 12 [])) [(.t 21), (.c (.int .i64 3))], none, []⟩,
 ⟨some 7, .lalloc (.agg [.nilSlice, .nilSlice]), none, []⟩,
 ⟨none, .store 2 (.t 7) (.t 22), none, []⟩])
 (.seq (.region (some [0, 0, 2, 7, 15, 31, 31, 31, 0, 319, 895, 2047]) [
 ⟨some 24, .load 2 true (.t 7), none, []⟩,
 ⟨some 25, .mov (.t 2), none, []⟩,
 ⟨some 26, .call (.c (.clo 13 [])) [(.t 25), (.c (.int .i64 200))], none, []⟩,
 ⟨some 27, .call (.c (.clo 5 [])) [(.t 24), (.t 26)], none, []⟩,
 ⟨some 23, .mov (.t 27), none, []⟩,
 ⟨some 28, .extract 0 (.t 23), none, []⟩,
 ⟨some 29, .extract 1 (.t 23), none, []⟩,
 ⟨some 30, .extract 2 (.t 23), none, []⟩,
 ⟨some 10, .lalloc (.agg [(.int .i64 0), (.int .i64 0)]), none, []⟩,
 ⟨some 8, .mov (.t 28), none, []⟩,
 ⟨some 9, .mov (.t 29), none, []⟩,
 ⟨none, .store 2 (.t 10) (.t 30), none, []⟩])
 (.seq (.region (some [0, 0, 2, 6, 15, 31, 63, 63, 63, 0, 0, 1663, 3839, 8191]) [
 ⟨some 32, .load 2 true (.t 7), none, []⟩,
 ⟨some 33, .mov (.t 1), none, []⟩,
 ⟨some 34, .call (.c (.clo 13 [])) [(.t 33), (.c (.int .i64 2))], none, []⟩,
 ⟨some 35, .bin .add (.c (.int .i64 1)) (.t 34), none, []⟩,
 ⟨some 36, .call (.c (.clo 14 [])) [(.t 32), (.t 35), (.c (.int .i64 400))], none, []⟩,
 ⟨some 31, .mov (.t 36), none, []⟩,
 ⟨some 37, .extract 0 (.t 31), none, []⟩,
 ⟨some 38, .extract 1 (.t 31), none, []⟩,
 ⟨some 39, .extract 2 (.t 31), none, []⟩,
 ⟨some 12, .lalloc (.agg [(.int .i64 0), .nilSlice]), none, []⟩,
 ⟨some 13, .lalloc (.agg [(.int .i64 0), (.int .i64 0)]), none, []⟩,
 ⟨some 11, .mov (.t 37), none, []⟩,
 ⟨none, .store 2 (.t 12) (.t 38), none, []⟩,
 ⟨none, .store 2 (.t 13) (.t 39), none, []⟩])
 (.seq (.region none [
 ⟨some 41, .bslice false 1 1 [(.int .i64 0)] [(0, 1, (.c (.int .i64 0)))], none, []⟩,
 ⟨some 42, .build [.nilSlice] [], none, []⟩,
 ⟨some 43, .bslice false 1 1 [.nilSlice] [(0, 1, (.t 42))], none, []⟩,
 ⟨some 44, .build [.nilSlice, .nilSlice] [(0, 1, (.t 41)), (1, 1, (.t 43))], none, []⟩,
 ⟨some 45, .build [(.int .i64 0), (.int .i64 0), (.int .i64 0), (.int .i64 0), (.int .i64 0), (.bool false), .nilSlice, .nilSlice] [(0, 1, (.c (.int .i64 1)))], none, []⟩,
 ⟨some 46, .bslice false 8 1 [(.int .i64 0), (.int .i64 0), (.int .i64 0), (.int .i64 0), (.int .i64 0), (.bool false), .nilSlice, .nilSlice] [(0, 8, (.t 45))], none, []⟩,
 ⟨some 47, .call (.c (.clo 11 [])) [(.t 44), (.t 46)], none, []⟩,
 ⟨some 40, .mov (.t 47), none, []⟩,
 ⟨some 48, .extract 0 (.t 40), none, []⟩,
 ⟨some 49, .extract 1 (.t 40), none, []⟩,
 ⟨some 15, .lalloc (.agg [(.int .i64 0), (.int .i64 0)]), none, []⟩,
 ⟨some 14, .mov (.t 48), none, []⟩,
 ⟨none, .store 2 (.t 15) (.t 49), none, []⟩])
 (.seq (.seq (.region none [
 ⟨some 50, .faddr 0 (.t 10), none, []⟩,
 ⟨some 51, .load 1 false (.t 50), none, []⟩,
 ⟨some 52, .bin .neq (.t 51) (.c (.int .i64 0)), none, []⟩,
 ⟨some 53, .mov (.t 52), none, []⟩,
 ⟨some 54, .faddr 0 (.t 13), some (53, false), []⟩,
 ⟨some 55, .load 1 false (.t 54), some (53, false), []⟩,
 ⟨some 56, .bin .neq (.t 55) (.c (.int .i64 0)), some (53, false), []⟩,
 ⟨some 57, .pick (.t 53) (.c (.bool true)) (.t 56), none, []⟩,
 ⟨some 58, .mov (.t 57), none, []⟩,
 ⟨some 59, .faddr 0 (.t 15), some (58, false), []⟩,
 ⟨some 60, .load 1 false (.t 59), some (58, false), []⟩,
 ⟨some 61, .bin .neq (.t 60) (.c (.int .i64 0)), some (58, false), []⟩,
 ⟨some 62, .pick (.t 58) (.c (.bool true)) (.t 61), none, []⟩,
 ⟨some 63, .mov (.t 62), none, []⟩,
 ⟨some 64, .mov (.t 14), some (63, false), []⟩,
 ⟨some 65, .un .not (.t 64), some (63, false), []⟩,
 ⟨some 66, .pick (.t 63) (.c (.bool true)) (.t 65), none, []⟩])
 (.cond (.t 66)
 (.seq (.region none [
 ⟨some 6, .mov (.c (.bool false)), none, []⟩])
 .ret)
 .skip))
 (.seq (.seq (.region none [
 ⟨some 67, .mov (.t 11), none, []⟩,
 ⟨some 68, .bin .eql (.t 67) (.c (.int .i64 1)), none, []⟩])
 (.cond (.t 68)
 (.seq (.region none [
 ⟨some 70, .load 2 true (.t 7), none, []⟩,
 ⟨some 71, .load 2 true (.t 12), none, []⟩,
 ⟨some 72, .call (.c (.clo 15 [])) [(.t 70), (.t 71)], none, []⟩,
 ⟨some 69, .mov (.t 72), none, []⟩,
 ⟨some 73, .extract 0 (.t 69), none, []⟩,
 ⟨some 74, .extract 1 (.t 69), none, []⟩,
 ⟨some 17, .lalloc (.agg [(.int .i64 0), (.int .i64 0)]), none, []⟩,
 ⟨some 16, .mov (.t 73), none, []⟩,
 ⟨none, .store 2 (.t 17) (.t 74), none, []⟩])
 (.seq (.seq (.region none [
 ⟨some 75, .faddr 0 (.t 17), none, []⟩,
 ⟨some 76, .load 1 false (.t 75), none, []⟩,
 ⟨some 77, .bin .neq (.t 76) (.c (.int .i64 0)), none, []⟩,
 ⟨some 78, .mov (.t 77), none, []⟩,
 ⟨some 79, .mov (.t 16), some (78, false), []⟩,
 ⟨some 80, .len (.t 79), some (78, false), []⟩,
 ⟨some 81, .faddr 1 (.t 7), some (78, false), []⟩,
 ⟨some 82, .load 1 false (.t 81), some (78, false), []⟩,
 ⟨some 83, .len (.t 82), some (78, false), []⟩,
 ⟨some 84, .bin .neq (.t 80) (.t 83), some (78, false), []⟩,
 ⟨some 85, .pick (.t 78) (.c (.bool true)) (.t 84), none, []⟩,
 ⟨some 86, .mov (.t 85), none, []⟩,
 ⟨some 87, .mov (.t 8), some (86, false), []⟩,
 ⟨some 88, .bin .eql (.t 87) (.c (.int .i64 2)), some (86, false), []⟩,
 ⟨some 89, .pick (.t 86) (.c (.bool true)) (.t 88), none, []⟩])
 (.cond (.t 89)
 (.seq (.region none [
 ⟨some 6, .mov (.c (.bool false)), none, []⟩])
 .ret)
 .skip))
 (.seq (.region none [
 ⟨some 18, .mov (.c (.int .i64 0)), none, []⟩])
 (.block 0
 (.loop (.seq (.seq (.region none [
 ⟨some 90, .mov (.t 18), none, []⟩,
 ⟨some 91, .mov (.t 16), none, []⟩,
 ⟨some 92, .len (.t 91), none, []⟩,
 ⟨some 93, .bin .lss (.t 90) (.t 92), none, []⟩])
 (.cond (.t 93)
 .skip
 (.exit 0)))
 (.seq (.block 1
 (.seq (.region none [
 ⟨some 96, .mov (.t 16), none, []⟩,
 ⟨some 97, .mov (.t 18), none, []⟩,
 ⟨some 98, .iaddr 1 (.t 96) (.t 97), none, []⟩,
 ⟨some 99, .load 1 false (.t 98), none, []⟩,
 ⟨some 100, .un .not (.t 99), none, []⟩])
 (.cond (.t 100)
 (.seq (.region none [
 ⟨some 6, .mov (.c (.bool false)), none, []⟩])
 .ret)
 .skip)))
 (.region none [
 ⟨some 94, .mov (.t 18), none, []⟩,
 ⟨some 95, .bin .add (.t 94) (.c (.int .i64 1)), none, []⟩,
 ⟨some 18, .mov (.t 95), none, []⟩]))))))))
 .skip))
 (.seq (.seq (.region none [
 ⟨some 101, .mov (.t 8), none, []⟩,
 ⟨some 102, .bin .neq (.t 101) (.c (.int .i64 2)), none, []⟩])
 (.cond (.t 102)
 (.seq (.region none [
 ⟨some 103, .mov (.t 9), none, []⟩,
 ⟨some 104, .len (.t 103), none, []⟩,
 ⟨some 105, .bin .eql (.t 104) (.c (.int .i64 0)), none, []⟩,
 ⟨some 6, .mov (.t 105), none, []⟩])
 .ret)
 .skip))
 (.seq (.region none [
 ⟨some 107, .load 2 true (.t 7), none, []⟩,
 ⟨some 108, .mov (.t 9), none, []⟩,
 ⟨some 109, .call (.c (.clo 11 [])) [(.t 107), (.t 108)], none, []⟩,
 ⟨some 106, .mov (.t 109), none, []⟩,
 ⟨some 110, .extract 0 (.t 106), none, []⟩,
 ⟨some 111, .extract 1 (.t 106), none, []⟩,
 ⟨some 20, .lalloc (.agg [(.int .i64 0), (.int .i64 0)]), none, []⟩,
 ⟨some 19, .mov (.t 110), none, []⟩,
 ⟨none, .store 2 (.t 20) (.t 111), none, []⟩])
 (.seq (.region none [
 ⟨some 112, .faddr 0 (.t 20), none, []⟩,
 ⟨some 113, .load 1 false (.t 112), none, []⟩,
 ⟨some 114, .bin .eql (.t 113) (.c (.int .i64 0)), none, []⟩,
 ⟨some 115, .mov (.t 114), none, []⟩,
 ⟨some 116, .mov (.t 19), some (115, true), []⟩,
 ⟨some 117, .pick (.t 115) (.t 116) (.c (.bool false)), none, []⟩,
 ⟨some 6, .mov (.t 117), none, []⟩])
 .ret))))))))))
def af4 : AFun := ⟨.pure, 1, 4, body4, [.t 6]⟩

/-- umpirage/super.Do -/
def body5 : ACode := (.seq (.region none [
 ⟨some 2, .fbox (.t 0), none, []⟩,
 ⟨some 4, .mov (.c (.int .i64 0)), none, []⟩,
 ⟨some 5, .mov (.c .nilSlice), none, []⟩,
 ⟨some 6, .lalloc (.agg [(.int .i64 0), (.int .i64 0)]), none, []⟩])
 (.seq (.seq (.region none [
 ⟨some 16, .load 2 true (.t 2), none, []⟩,
 ⟨some 17, .call (.c (.clo 16 [])) [(.t 16)], none, []⟩,
 ⟨some 7, .lalloc (.agg [(.int .i64 0), (.int .i64 0)]), none, []⟩,
 ⟨none, .store 2 (.t 7) (.t 17), none, []⟩])
 (.seq (.region none [
 ⟨some 18, .load 2 true (.t 7), none, []⟩,
 ⟨some 19, .build [(.int .i64 0), (.int .i64 0)] [], none, []⟩,
 ⟨some 20, .eqs [0, 0] true (.t 18) (.t 19), none, []⟩])
 (.cond (.t 20)
 (.seq (.region (some [0, 0, 2, 7]) [
 ⟨some 21, .load 2 true (.t 7), none, []⟩,
 ⟨some 4, .mov (.c (.int .i64 0)), none, []⟩,
 ⟨some 5, .mov (.c .nilSlice), none, []⟩,
 ⟨none, .store 2 (.t 6) (.t 21), none, []⟩])
 .ret)
 .skip)))
 (.seq (.seq (.region none [
 ⟨some 22, .mov (.t 1), none, []⟩,
 ⟨some 23, .call (.c (.clo 17 [])) [(.t 22), (.c (.int .i64 0)), (.c (.int .i64 2000))], none, []⟩,
 ⟨some 24, .un .not (.t 23), none, []⟩])
 (.cond (.t 24)
 (.seq (.region none [
 ⟨some 25, .call (.c (.clo 18 [])) [(.c (.int .i64 3)), (.c (.int .i64 (-1)))], none, []⟩,
 ⟨some 4, .mov (.c (.int .i64 0)), none, []⟩,
 ⟨some 5, .mov (.c .nilSlice), none, []⟩,
 ⟨none, .store 2 (.t 6) (.t 25), none, []⟩])
 .ret)
 .skip))
 (.seq (.region none [
 ⟨some 26, .load 2 true (.t 2), none, []⟩,
 ⟨some 27, .build [.nilSlice, .nilSlice, .nilSlice, .nilSlice, .nilSlice, .nilSlice, (.bool false)] [(0, 2, (.t 26))], none, []⟩,
 ⟨some 28, .hbox (.t 27), none, []⟩,
 ⟨some 8, .mov (.t 28), none, []⟩])
 (.seq (.seq (.region none [
 ⟨some 29, .faddr 1 (.t 2), none, []⟩,
 ⟨some 30, .load 1 false (.t 29), none, []⟩,
 ⟨some 31, .len (.t 30), none, []⟩,
 ⟨some 32, .mov (.c (.int .i64 0)), none, []⟩])
 (.block 0
 (.loop (.seq (.region none [
 ⟨some 33, .bin .lss (.t 32) (.t 31), none, []⟩])
 (.seq (.cond (.t 33)
 .skip
 (.exit 0))
 (.seq (.block 1
 (.seq (.region none [
 ⟨some 34, .mov (.t 32), none, []⟩,
 ⟨some 9, .mov (.t 34), none, []⟩])
 (.seq (.region none [
 ⟨some 36, .mov (.t 8), none, []⟩,
 ⟨some 37, .mov (.t 9), none, []⟩,
 ⟨some 38, .build [(.int .i64 0), (.int .i64 0), (.int .i64 0), (.int .i64 0), (.int .i64 0), (.bool false), .nilSlice, .nilSlice] [(0, 1, (.c (.int .i64 1))), (1, 1, (.t 37))], none, []⟩,
 ⟨some 39, .call (.c (.clo 19 [])) [(.t 36), (.t 38)], none, []⟩,
 ⟨some 35, .mov (.t 39), none, []⟩,
 ⟨some 40, .extract 0 (.t 35), none, []⟩,
 ⟨some 41, .extract 1 (.t 35), none, []⟩,
 ⟨some 10, .mov (.t 40), none, []⟩,
 ⟨some 11, .mov (.t 41), none, []⟩])
 (.seq (.region none [
 ⟨some 42, .mov (.t 11), none, []⟩,
 ⟨some 43, .mov (.t 42), none, []⟩,
 ⟨some 44, .mov (.t 8), some (43, true), []⟩,
 ⟨some 45, .mov (.t 10), some (43, true), []⟩,
 ⟨some 46, .call (.c (.clo 20 [])) [(.t 44), (.t 45)], some (43, true), []⟩,
 ⟨some 47, .pick (.t 43) (.t 46) (.c (.bool false)), none, []⟩])
 (.cond (.t 47)
 (.seq (.region (some [0, 1, 3, 7, 0, 0, 47, 127]) [
 ⟨some 48, .mov (.t 8), none, []⟩,
 ⟨some 49, .ncheck (.t 48), none, []⟩,
 ⟨some 50, .faddr 2 (.t 49), none, []⟩,
 ⟨some 51, .load 1 false (.t 50), none, []⟩,
 ⟨some 52, .build [(.int .i64 0), (.int .i64 0)] [], none, []⟩,
 ⟨some 4, .mov (.c (.int .i64 2)), none, []⟩,
 ⟨some 5, .mov (.t 51), none, []⟩,
 ⟨none, .store 2 (.t 6) (.t 52), none, []⟩])
 .ret)
 .skip)))))
 (.region none [
 ⟨some 53, .bin .add (.t 32) (.c (.int .i64 1)), none, []⟩,
 ⟨some 32, .mov (.t 53), none, []⟩])))))))
 (.seq (.block 2
 (.loop (.seq (.seq (.region none [
 ⟨some 54, .mov (.t 1), none, []⟩,
 ⟨some 55, .bin .gtr (.t 54) (.c (.int .i64 0)), none, []⟩,
 ⟨some 56, .mov (.t 55), none, []⟩,
 ⟨some 57, .mov (.t 8), some (56, true), []⟩,
 ⟨some 58, .ncheck (.t 57), some (56, true), []⟩,
 ⟨some 59, .faddr 4 (.t 58), some (56, true), []⟩,
 ⟨some 60, .load 1 false (.t 59), some (56, true), []⟩,
 ⟨some 61, .len (.t 60), some (56, true), []⟩,
 ⟨some 62, .bin .gtr (.t 61) (.c (.int .i64 0)), some (56, true), []⟩,
 ⟨some 63, .pick (.t 56) (.t 62) (.c (.bool false)), none, []⟩])
 (.cond (.t 63)
 .skip
 (.exit 2)))
 (.seq (.block 3
 (.seq (.region none [
 ⟨some 12, .mov (.c (.int .i64 0)), none, []⟩])
 (.seq (.seq (.region none [
 ⟨some 66, .mov (.t 8), none, []⟩,
 ⟨some 67, .ncheck (.t 66), none, []⟩,
 ⟨some 68, .faddr 4 (.t 67), none, []⟩,
 ⟨some 69, .load 1 false (.t 68), none, []⟩,
 ⟨some 70, .len (.t 69), none, []⟩,
 ⟨some 71, .mov (.c (.int .i64 0)), none, []⟩])
 (.block 4
 (.loop (.seq (.region none [
 ⟨some 72, .bin .lss (.t 71) (.t 70), none, []⟩])
 (.seq (.cond (.t 72)
 .skip
 (.exit 4))
 (.seq (.block 5
 (.seq (.region none [
 ⟨some 73, .mov (.t 71), none, []⟩,
 ⟨some 74, .iaddr 1 (.t 69) (.t 71), none, []⟩,
 ⟨some 75, .load 1 false (.t 74), none, []⟩,
 ⟨some 13, .mov (.t 73), none, []⟩,
 ⟨some 14, .mov (.t 75), none, []⟩])
 (.seq (.region (some [0, 1, 3, 7, 0, 31, 63, 127, 0, 256, 768, 1792, 0, 4096, 12288, 28672, 0, 126976, 258048, 524032, 1048320, 2097151, 4194303]) [
 ⟨some 76, .mov (.t 8), none, []⟩,
 ⟨some 77, .ncheck (.t 76), none, []⟩,
 ⟨some 78, .faddr 3 (.t 77), none, []⟩,
 ⟨some 79, .load 1 false (.t 78), none, []⟩,
 ⟨some 80, .mov (.t 14), none, []⟩,
 ⟨some 81, .iaddr 1 (.t 79) (.t 80), none, []⟩,
 ⟨some 82, .load 1 true (.t 81), none, []⟩,
 ⟨some 83, .call (.c (.clo 21 [])) [(.t 82)], none, []⟩,
 ⟨some 84, .mov (.t 8), none, []⟩,
 ⟨some 85, .ncheck (.t 84), none, []⟩,
 ⟨some 86, .faddr 3 (.t 85), none, []⟩,
 ⟨some 87, .load 1 false (.t 86), none, []⟩,
 ⟨some 88, .mov (.t 8), none, []⟩,
 ⟨some 89, .ncheck (.t 88), none, []⟩,
 ⟨some 90, .faddr 4 (.t 89), none, []⟩,
 ⟨some 91, .load 1 false (.t 90), none, []⟩,
 ⟨some 92, .mov (.t 12), none, []⟩,
 ⟨some 93, .iaddr 1 (.t 91) (.t 92), none, []⟩,
 ⟨some 94, .load 1 false (.t 93), none, []⟩,
 ⟨some 95, .iaddr 1 (.t 87) (.t 94), none, []⟩,
 ⟨some 96, .load 1 true (.t 95), none, []⟩,
 ⟨some 97, .call (.c (.clo 21 [])) [(.t 96)], none, []⟩,
 ⟨some 98, .bin .lss (.t 83) (.t 97), none, []⟩])
 (.cond (.t 98)
 (.region none [
 ⟨some 99, .mov (.t 13), none, []⟩,
 ⟨some 12, .mov (.t 99), none, []⟩])
 .skip))))
 (.region none [
 ⟨some 100, .bin .add (.t 71) (.c (.int .i64 1)), none, []⟩,
 ⟨some 71, .mov (.t 100), none, []⟩])))))))
 (.seq (.region none [
 ⟨some 101, .mov (.t 8), none, []⟩,
 ⟨some 102, .ncheck (.t 101), none, []⟩,
 ⟨some 103, .faddr 4 (.t 102), none, []⟩,
 ⟨some 104, .load 1 false (.t 103), none, []⟩,
 ⟨some 105, .mov (.t 12), none, []⟩,
 ⟨some 106, .iaddr 1 (.t 104) (.t 105), none, []⟩,
 ⟨some 107, .load 1 false (.t 106), none, []⟩,
 ⟨some 15, .mov (.t 107), none, []⟩])
 (.seq (.region none [
 ⟨some 108, .mov (.t 8), none, []⟩,
 ⟨some 109, .mov (.t 8), none, []⟩,
 ⟨some 110, .ncheck (.t 109), none, []⟩,
 ⟨some 111, .faddr 4 (.t 110), none, []⟩,
 ⟨some 112, .load 1 false (.t 111), none, []⟩,
 ⟨some 113, .mov (.t 12), none, []⟩,
 ⟨some 114, .mov (.t 12), none, []⟩,
 ⟨some 115, .bin .add (.t 114) (.c (.int .i64 1)), none, []⟩,
 ⟨some 116, .call (.c (.clo 22 [])) [(.t 112), (.t 113), (.t 115)], none, []⟩,
 ⟨some 117, .ncheck (.t 108), none, []⟩,
 ⟨some 118, .faddr 4 (.t 117), none, []⟩,
 ⟨none, .store 1 (.t 118) (.t 116), none, []⟩])
 (.seq (.region none [
 ⟨some 119, .mov (.t 8), none, []⟩,
 ⟨some 120, .mov (.t 15), none, []⟩,
 ⟨some 121, .call (.c (.clo 23 [])) [(.t 119), (.t 120)], none, []⟩])
 (.cond (.t 121)
 (.seq (.region (some [0, 1, 3, 7, 0, 0, 47, 127]) [
 ⟨some 122, .mov (.t 8), none, []⟩,
 ⟨some 123, .ncheck (.t 122), none, []⟩,
 ⟨some 124, .faddr 2 (.t 123), none, []⟩,
 ⟨some 125, .load 1 false (.t 124), none, []⟩,
 ⟨some 126, .build [(.int .i64 0), (.int .i64 0)] [], none, []⟩,
 ⟨some 4, .mov (.c (.int .i64 2)), none, []⟩,
 ⟨some 5, .mov (.t 125), none, []⟩,
 ⟨none, .store 2 (.t 6) (.t 126), none, []⟩])
 .ret)
 .skip)))))))
 (.region none [
 ⟨some 64, .mov (.t 1), none, []⟩,
 ⟨some 65, .bin .sub (.t 64) (.c (.int .i64 1)), none, []⟩,
 ⟨some 1, .mov (.t 65), none, []⟩])))))
 (.seq (.seq (.region none [
 ⟨some 127, .mov (.t 8), none, []⟩,
 ⟨some 128, .ncheck (.t 127), none, []⟩,
 ⟨some 129, .faddr 4 (.t 128), none, []⟩,
 ⟨some 130, .load 1 false (.t 129), none, []⟩,
 ⟨some 131, .len (.t 130), none, []⟩,
 ⟨some 132, .bin .gtr (.t 131) (.c (.int .i64 0)), none, []⟩,
 ⟨some 133, .mov (.t 132), none, []⟩,
 ⟨some 134, .mov (.t 8), some (133, false), []⟩,
 ⟨some 135, .ncheck (.t 134), some (133, false), []⟩,
 ⟨some 136, .faddr 6 (.t 135), some (133, false), []⟩,
 ⟨some 137, .load 1 false (.t 136), some (133, false), []⟩,
 ⟨some 138, .pick (.t 133) (.c (.bool true)) (.t 137), none, []⟩])
 (.cond (.t 138)
 (.seq (.region none [
 ⟨some 139, .build [(.int .i64 0), (.int .i64 0)] [], none, []⟩,
 ⟨some 4, .mov (.c (.int .i64 3)), none, []⟩,
 ⟨some 5, .mov (.c .nilSlice), none, []⟩,
 ⟨none, .store 2 (.t 6) (.t 139), none, []⟩])
 .ret)
 .skip))
 (.seq (.region none [
 ⟨some 140, .build [(.int .i64 0), (.int .i64 0)] [], none, []⟩,
 ⟨some 4, .mov (.c (.int .i64 1)), none, []⟩,
 ⟨some 5, .mov (.c .nilSlice), none, []⟩,
 ⟨none, .store 2 (.t 6) (.t 140), none, []⟩])
 .ret))))))))
def af5 : AFun := ⟨.pure, 1, 5, body5, [.t 4, .t 5, .cell 6 2 true]⟩

/-- umpirage/umpiragelaw7.apart -/
def body6 : ACode := (.seq (.region none [
 ⟨some 0, .lalloc (.agg [.nilSlice, .nilSlice]), none, []⟩])
 (.seq (.region none [
 ⟨some 1, .bslice false 1 1 [(.int .i64 0)] [(0, 1, (.c (.int .i64 0)))], none, []⟩,
 ⟨some 2, .call (.c (.clo 24 [])) [(.c (.int .i64 1))], none, []⟩,
 ⟨some 3, .call (.c (.clo 24 [])) [(.c (.int .i64 1))], none, []⟩,
 ⟨some 4, .build [(.bool false), (.int .i64 0), .nilSlice, (.int .i64 0), .nilSlice] [(0, 1, (.c (.bool true))), (1, 2, (.t 2)), (3, 2, (.t 3))], none, []⟩,
 ⟨some 5, .bslice false 5 1 [(.bool false), (.int .i64 0), .nilSlice, (.int .i64 0), .nilSlice] [(0, 5, (.t 4))], none, []⟩,
 ⟨some 6, .build [.nilSlice] [(0, 1, (.t 5))], none, []⟩,
 ⟨some 7, .bslice false 1 1 [.nilSlice] [(0, 1, (.t 6))], none, []⟩,
 ⟨some 8, .build [.nilSlice, .nilSlice] [(0, 1, (.t 1)), (1, 1, (.t 7))], none, []⟩,
 ⟨none, .store 2 (.t 0) (.t 8), none, []⟩])
 .ret))
def af6 : AFun := ⟨.pure, 1, 6, body6, [.cell 0 2 true]⟩

/-- umpirage/umpiragelaw7.vastLore -/
def body7 : ACode := (.seq (.region none [
 ⟨some 1, .fbox (.t 0), none, []⟩,
 ⟨some 2, .mov (.c (.bool false)), none, []⟩])
 (.seq (.seq (.region none [
 ⟨some 6, .faddr 1 (.t 1), none, []⟩,
 ⟨some 7, .load 1 false (.t 6), none, []⟩,
 ⟨some 8, .len (.t 7), none, []⟩,
 ⟨some 9, .bin .gtr (.t 8) (.c (.int .i64 80)), none, []⟩,
 ⟨some 10, .mov (.t 9), none, []⟩,
 ⟨some 11, .faddr 0 (.t 1), some (10, false), []⟩,
 ⟨some 12, .load 1 false (.t 11), some (10, false), []⟩,
 ⟨some 13, .len (.t 12), some (10, false), []⟩,
 ⟨some 14, .bin .gtr (.t 13) (.c (.int .i64 40)), some (10, false), []⟩,
 ⟨some 15, .pick (.t 10) (.c (.bool true)) (.t 14), none, []⟩])
 (.cond (.t 15)
 (.seq (.region none [
 ⟨some 2, .mov (.c (.bool true)), none, []⟩])
 .ret)
 .skip))
 (.seq (.seq (.region none [
 ⟨some 3, .mov (.c (.int .i64 0)), none, []⟩])
 (.block 0
 (.loop (.seq (.seq (.region none [
 ⟨some 16, .mov (.t 3), none, []⟩,
 ⟨some 17, .faddr 1 (.t 1), none, []⟩,
 ⟨some 18, .load 1 false (.t 17), none, []⟩,
 ⟨some 19, .len (.t 18), none, []⟩,
 ⟨some 20, .bin .lss (.t 16) (.t 19), none, []⟩])
 (.cond (.t 20)
 .skip
 (.exit 0)))
 (.seq (.block 1
 (.seq (.region none [
 ⟨some 23, .faddr 1 (.t 1), none, []⟩,
 ⟨some 24, .load 1 false (.t 23), none, []⟩,
 ⟨some 25, .mov (.t 3), none, []⟩,
 ⟨some 26, .iaddr 1 (.t 24) (.t 25), none, []⟩,
 ⟨some 27, .load 1 true (.t 26), none, []⟩,
 ⟨some 28, .call (.c (.clo 25 [])) [(.t 27)], none, []⟩,
 ⟨some 4, .mov (.t 28), none, []⟩])
 (.seq (.seq (.region none [
 ⟨some 29, .mov (.t 4), none, []⟩,
 ⟨some 30, .len (.t 29), none, []⟩,
 ⟨some 31, .bin .gtr (.t 30) (.c (.int .i64 40)), none, []⟩])
 (.cond (.t 31)
 (.seq (.region none [
 ⟨some 2, .mov (.c (.bool true)), none, []⟩])
 .ret)
 .skip))
 (.seq (.region none [
 ⟨some 5, .mov (.c (.int .i64 0)), none, []⟩])
 (.block 2
 (.loop (.seq (.seq (.region none [
 ⟨some 32, .mov (.t 5), none, []⟩,
 ⟨some 33, .mov (.t 4), none, []⟩,
 ⟨some 34, .len (.t 33), none, []⟩,
 ⟨some 35, .bin .lss (.t 32) (.t 34), none, []⟩])
 (.cond (.t 35)
 .skip
 (.exit 2)))
 (.seq (.block 3
 (.seq (.region none [
 ⟨some 38, .mov (.t 4), none, []⟩,
 ⟨some 39, .mov (.t 5), none, []⟩,
 ⟨some 40, .iaddr 2 (.t 38) (.t 39), none, []⟩,
 ⟨some 41, .load 2 true (.t 40), none, []⟩,
 ⟨some 42, .call (.c (.clo 26 [])) [(.t 41)], none, []⟩])
 (.cond (.t 42)
 (.seq (.region none [
 ⟨some 2, .mov (.c (.bool true)), none, []⟩])
 .ret)
 .skip)))
 (.region none [
 ⟨some 36, .mov (.t 5), none, []⟩,
 ⟨some 37, .bin .add (.t 36) (.c (.int .i64 1)), none, []⟩,
 ⟨some 5, .mov (.t 37), none, []⟩])))))))))
 (.region none [
 ⟨some 21, .mov (.t 3), none, []⟩,
 ⟨some 22, .bin .add (.t 21) (.c (.int .i64 1)), none, []⟩,
 ⟨some 3, .mov (.t 22), none, []⟩]))))))
 (.seq (.region none [
 ⟨some 2, .mov (.c (.bool false)), none, []⟩])
 .ret))))
def af7 : AFun := ⟨.pure, 1, 7, body7, [.t 2]⟩

/-- umpirage/umpirageref7.Lore -/
def body8 : ACode := (.seq (.region none [
 ⟨some 1, .fbox (.t 0), none, []⟩,
 ⟨some 2, .lalloc (.agg [(.int .i64 0), (.int .i64 0)]), none, []⟩])
 (.seq (.seq (.region none [
 ⟨some 6, .faddr 0 (.t 1), none, []⟩,
 ⟨some 7, .load 1 false (.t 6), none, []⟩,
 ⟨some 8, .len (.t 7), none, []⟩,
 ⟨some 9, .bin .gtr (.t 8) (.c (.int .i64 12)), none, []⟩,
 ⟨some 10, .mov (.t 9), none, []⟩,
 ⟨some 11, .faddr 1 (.t 1), some (10, false), []⟩,
 ⟨some 12, .load 1 false (.t 11), some (10, false), []⟩,
 ⟨some 13, .len (.t 12), some (10, false), []⟩,
 ⟨some 14, .bin .gtr (.t 13) (.c (.int .i64 60)), some (10, false), []⟩,
 ⟨some 15, .pick (.t 10) (.c (.bool true)) (.t 14), none, []⟩])
 (.cond (.t 15)
 (.seq (.region none [
 ⟨some 16, .call (.c (.clo 27 [])) [(.c (.int .i64 2)), (.c (.int .i64 0))], none, []⟩,
 ⟨none, .store 2 (.t 2) (.t 16), none, []⟩])
 .ret)
 .skip))
 (.seq (.seq (.region none [
 ⟨some 3, .mov (.c (.int .i64 0)), none, []⟩])
 (.block 0
 (.loop (.seq (.seq (.region none [
 ⟨some 17, .mov (.t 3), none, []⟩,
 ⟨some 18, .faddr 0 (.t 1), none, []⟩,
 ⟨some 19, .load 1 false (.t 18), none, []⟩,
 ⟨some 20, .len (.t 19), none, []⟩,
 ⟨some 21, .bin .lss (.t 17) (.t 20), none, []⟩])
 (.cond (.t 21)
 .skip
 (.exit 0)))
 (.seq (.block 1
 (.seq (.region none [
 ⟨some 24, .faddr 0 (.t 1), none, []⟩,
 ⟨some 25, .load 1 false (.t 24), none, []⟩,
 ⟨some 26, .mov (.t 3), none, []⟩,
 ⟨some 27, .iaddr 1 (.t 25) (.t 26), none, []⟩,
 ⟨some 28, .load 1 false (.t 27), none, []⟩,
 ⟨some 29, .call (.c (.clo 28 [])) [(.t 28), (.c (.int .i64 0)), (.c (.int .i64 3))], none, []⟩,
 ⟨some 30, .un .not (.t 29), none, []⟩])
 (.cond (.t 30)
 (.seq (.region none [
 ⟨some 31, .mov (.t 3), none, []⟩,
 ⟨some 32, .call (.c (.clo 27 [])) [(.c (.int .i64 3)), (.t 31)], none, []⟩,
 ⟨none, .store 2 (.t 2) (.t 32), none, []⟩])
 .ret)
 .skip)))
 (.region none [
 ⟨some 22, .mov (.t 3), none, []⟩,
 ⟨some 23, .bin .add (.t 22) (.c (.int .i64 1)), none, []⟩,
 ⟨some 3, .mov (.t 23), none, []⟩]))))))
 (.seq (.seq (.region none [
 ⟨some 4, .mov (.c (.int .i64 0)), none, []⟩])
 (.block 2
 (.loop (.seq (.seq (.region none [
 ⟨some 33, .mov (.t 4), none, []⟩,
 ⟨some 34, .faddr 1 (.t 1), none, []⟩,
 ⟨some 35, .load 1 false (.t 34), none, []⟩,
 ⟨some 36, .len (.t 35), none, []⟩,
 ⟨some 37, .bin .lss (.t 33) (.t 36), none, []⟩])
 (.cond (.t 37)
 .skip
 (.exit 2)))
 (.seq (.block 3
 (.seq (.region (some [0, 1, 0, 7, 15, 0, 32, 127, 255]) [
 ⟨some 40, .faddr 1 (.t 1), none, []⟩,
 ⟨some 41, .load 1 false (.t 40), none, []⟩,
 ⟨some 42, .mov (.t 4), none, []⟩,
 ⟨some 43, .iaddr 1 (.t 41) (.t 42), none, []⟩,
 ⟨some 44, .load 1 true (.t 43), none, []⟩,
 ⟨some 45, .faddr 0 (.t 1), none, []⟩,
 ⟨some 46, .load 1 false (.t 45), none, []⟩,
 ⟨some 47, .call (.c (.clo 29 [])) [(.t 44), (.t 46)], none, []⟩,
 ⟨some 5, .mov (.t 47), none, []⟩])
 (.seq (.region none [
 ⟨some 48, .mov (.t 5), none, []⟩,
 ⟨some 49, .bin .neq (.t 48) (.c (.int .i64 0)), none, []⟩])
 (.cond (.t 49)
 (.seq (.region none [
 ⟨some 50, .mov (.t 5), none, []⟩,
 ⟨some 51, .mov (.t 4), none, []⟩,
 ⟨some 52, .call (.c (.clo 27 [])) [(.t 50), (.t 51)], none, []⟩,
 ⟨none, .store 2 (.t 2) (.t 52), none, []⟩])
 .ret)
 .skip))))
 (.region none [
 ⟨some 38, .mov (.t 4), none, []⟩,
 ⟨some 39, .bin .add (.t 38) (.c (.int .i64 1)), none, []⟩,
 ⟨some 4, .mov (.t 39), none, []⟩]))))))
 (.seq (.region none [
 ⟨some 53, .build [(.int .i64 0), (.int .i64 0)] [], none, []⟩,
 ⟨none, .store 2 (.t 2) (.t 53), none, []⟩])
 .ret)))))
def af8 : AFun := ⟨.pure, 1, 8, body8, [.cell 2 2 true]⟩

/-- umpirage/umpiragelaw7.in -/
def body9 : ACode := (.seq (.region none [
 ⟨some 6, .mov (.c (.bool false)), none, []⟩])
 (.seq (.region none [
 ⟨some 7, .mov (.t 0), none, []⟩,
 ⟨some 8, .mov (.t 1), none, []⟩,
 ⟨some 9, .bin .geq (.t 7) (.t 8), none, []⟩,
 ⟨some 10, .mov (.t 9), none, []⟩,
 ⟨some 11, .mov (.t 0), some (10, true), []⟩,
 ⟨some 12, .mov (.t 2), some (10, true), []⟩,
 ⟨some 13, .bin .leq (.t 11) (.t 12), some (10, true), []⟩,
 ⟨some 14, .pick (.t 10) (.t 13) (.c (.bool false)), none, []⟩,
 ⟨some 6, .mov (.t 14), none, []⟩])
 .ret))
def af9 : AFun := ⟨.pure, 1, 9, body9, [.t 6]⟩

/-- umpirage/umpiragelaw7.fault -/
def body10 : ACode := (.seq (.region none [
 ⟨some 4, .lalloc (.agg [(.int .i64 0), (.int .i64 0)]), none, []⟩])
 (.seq (.region none [
 ⟨some 5, .mov (.t 0), none, []⟩,
 ⟨some 6, .mov (.t 1), none, []⟩,
 ⟨some 7, .build [(.int .i64 0), (.int .i64 0)] [(0, 1, (.t 5)), (1, 1, (.t 6))], none, []⟩,
 ⟨none, .store 2 (.t 4) (.t 7), none, []⟩])
 .ret))
def af10 : AFun := ⟨.pure, 1, 10, body10, [.cell 4 2 true]⟩

/-- umpirage/trace.Ends -/
def body11 : ACode := (.seq (.region none [
 ⟨some 2, .fbox (.t 0), none, []⟩,
 ⟨some 4, .mov (.c (.bool false)), none, []⟩,
 ⟨some 5, .lalloc (.agg [(.int .i64 0), (.int .i64 0)]), none, []⟩])
 (.seq (.region none [
 ⟨some 9, .load 2 true (.t 2), none, []⟩,
 ⟨some 10, .mov (.t 1), none, []⟩,
 ⟨some 11, .call (.c (.clo 30 [])) [(.t 9), (.t 10)], none, []⟩,
 ⟨some 8, .mov (.t 11), none, []⟩,
 ⟨some 12, .extract 0 (.t 8), none, []⟩,
 ⟨some 13, .extract 1 (.t 8), none, []⟩,
 ⟨some 7, .lalloc (.agg [(.int .i64 0), (.int .i64 0)]), none, []⟩,
 ⟨some 6, .mov (.t 12), none, []⟩,
 ⟨none, .store 2 (.t 7) (.t 13), none, []⟩])
 (.seq (.seq (.region none [
 ⟨some 14, .load 2 true (.t 7), none, []⟩,
 ⟨some 15, .build [(.int .i64 0), (.int .i64 0)] [], none, []⟩,
 ⟨some 16, .eqs [0, 0] true (.t 14) (.t 15), none, []⟩])
 (.cond (.t 16)
 (.seq (.region (some [0, 0, 3]) [
 ⟨some 17, .load 2 true (.t 7), none, []⟩,
 ⟨some 4, .mov (.c (.bool false)), none, []⟩,
 ⟨none, .store 2 (.t 5) (.t 17), none, []⟩])
 .ret)
 .skip))
 (.seq (.region none [
 ⟨some 18, .mov (.t 6), none, []⟩,
 ⟨some 19, .len (.t 18), none, []⟩,
 ⟨some 20, .bin .gtr (.t 19) (.c (.int .i64 0)), none, []⟩,
 ⟨some 21, .mov (.t 20), none, []⟩,
 ⟨some 22, .mov (.t 6), some (21, true), []⟩,
 ⟨some 23, .mov (.t 6), some (21, true), []⟩,
 ⟨some 24, .len (.t 23), some (21, true), []⟩,
 ⟨some 25, .bin .sub (.t 24) (.c (.int .i64 1)), some (21, true), []⟩,
 ⟨some 26, .iaddr 1 (.t 22) (.t 25), some (21, true), []⟩,
 ⟨some 27, .faddr 0 (.t 26), some (21, true), []⟩,
 ⟨some 28, .load 1 false (.t 27), some (21, true), []⟩,
 ⟨some 29, .len (.t 28), some (21, true), []⟩,
 ⟨some 30, .bin .eql (.t 29) (.c (.int .i64 0)), some (21, true), []⟩,
 ⟨some 31, .pick (.t 21) (.t 30) (.c (.bool false)), none, []⟩,
 ⟨some 32, .build [(.int .i64 0), (.int .i64 0)] [], none, []⟩,
 ⟨some 4, .mov (.t 31), none, []⟩,
 ⟨none, .store 2 (.t 5) (.t 32), none, []⟩])
 .ret))))
def af11 : AFun := ⟨.pure, 1, 11, body11, [.t 4, .cell 5 2 true]⟩

/-- umpirage/umpiragetop.loreOf -/
def body12 : ACode := (.seq (.region none [
 ⟨some 4, .lalloc (.agg [.nilSlice, .nilSlice]), none, []⟩])
 (.seq (.region none [
 ⟨some 10, .bslice false 1 3 [(.int .i64 0), (.int .i64 0), (.int .i64 0)] [(0, 1, (.c (.int .i64 0))), (1, 1, (.c (.int .i64 1))), (2, 1, (.c (.int .i64 2)))], none, []⟩,
 ⟨some 11, .build [.nilSlice, .nilSlice] [(0, 1, (.t 10))], none, []⟩,
 ⟨some 5, .lalloc (.agg [.nilSlice, .nilSlice]), none, []⟩,
 ⟨none, .store 2 (.t 5) (.t 11), none, []⟩])
 (.seq (.block 0
 (.loop (.seq (.seq (.region none [
 ⟨some 12, .mov (.t 0), none, []⟩,
 ⟨some 13, .len (.t 12), none, []⟩,
 ⟨some 14, .bin .gtr (.t 13) (.c (.int .i64 0)), none, []⟩,
 ⟨some 15, .mov (.t 14), none, []⟩,
 ⟨some 16, .faddr 1 (.t 5), some (15, true), []⟩,
 ⟨some 17, .load 1 false (.t 16), some (15, true), []⟩,
 ⟨some 18, .len (.t 17), some (15, true), []⟩,
 ⟨some 19, .mov (.t 1), some (15, true), []⟩,
 ⟨some 20, .bin .lss (.t 18) (.t 19), some (15, true), []⟩,
 ⟨some 21, .pick (.t 15) (.t 20) (.c (.bool false)), none, []⟩])
 (.cond (.t 21)
 .skip
 (.exit 0)))
 (.block 1
 (.seq (.region none [
 ⟨some 22, .mov (.t 0), none, []⟩,
 ⟨some 23, .iaddr 1 (.t 22) (.c (.int .i64 0)), none, []⟩,
 ⟨some 24, .load 1 false (.t 23), none, []⟩,
 ⟨some 6, .mov (.t 24), none, []⟩])
 (.seq (.region none [
 ⟨some 25, .mov (.t 0), none, []⟩,
 ⟨some 26, .slice 1 (.t 25) (some (.c (.int .i64 1))) none, none, []⟩,
 ⟨some 0, .mov (.t 26), none, []⟩])
 (.seq (.region none [
 ⟨some 7, .lalloc (.agg [.nilSlice]), none, []⟩])
 (.seq (.seq (.region none [
 ⟨some 8, .mov (.c (.int .i64 0)), none, []⟩])
 (.block 2
 (.loop (.seq (.seq (.region none [
 ⟨some 27, .mov (.t 8), none, []⟩,
 ⟨some 28, .mov (.t 6), none, []⟩,
 ⟨some 29, .call (.c (.clo 13 [])) [(.t 28), (.c (.int .i64 2))], none, []⟩,
 ⟨some 30, .bin .leq (.t 27) (.t 29), none, []⟩])
 (.cond (.t 30)
 .skip
 (.exit 2)))
 (.seq (.block 3
 (.seq (.region none [
 ⟨some 33, .mov (.t 6), none, []⟩,
 ⟨some 34, .bin .quo (.t 33) (.c (.int .i64 2)), none, []⟩,
 ⟨some 35, .mov (.t 8), none, []⟩,
 ⟨some 36, .bin .add (.t 34) (.t 35), none, []⟩,
 ⟨some 37, .call (.c (.clo 13 [])) [(.t 36), (.c (.int .i64 3))], none, []⟩,
 ⟨some 38, .bin .eql (.t 37) (.c (.int .i64 0)), none, []⟩,
 ⟨some 39, .build [(.bool false), (.int .i64 0), .nilSlice, (.int .i64 0), .nilSlice] [(0, 1, (.t 38))], none, []⟩,
 ⟨some 9, .lalloc (.agg [(.bool false), (.int .i64 0), .nilSlice, (.int .i64 0), .nilSlice]), none, []⟩,
 ⟨none, .store 5 (.t 9) (.t 39), none, []⟩])
 (.seq (.region none [
 ⟨some 41, .mov (.t 0), none, []⟩,
 ⟨some 42, .call (.c (.clo 31 [])) [(.t 41), (.c (.int .i64 2)), (.c (.int .i64 2))], none, []⟩,
 ⟨some 40, .mov (.t 42), none, []⟩,
 ⟨some 43, .extract 0 (.t 40), none, []⟩,
 ⟨some 44, .extract 1 (.t 40), none, []⟩,
 ⟨some 45, .faddr 1 (.t 9), none, []⟩,
 ⟨none, .store 2 (.t 45) (.t 43), none, []⟩,
 ⟨some 0, .mov (.t 44), none, []⟩])
 (.seq (.region none [
 ⟨some 47, .mov (.t 0), none, []⟩,
 ⟨some 48, .call (.c (.clo 31 [])) [(.t 47), (.c (.int .i64 2)), (.c (.int .i64 2))], none, []⟩,
 ⟨some 46, .mov (.t 48), none, []⟩,
 ⟨some 49, .extract 0 (.t 46), none, []⟩,
 ⟨some 50, .extract 1 (.t 46), none, []⟩,
 ⟨some 51, .faddr 3 (.t 9), none, []⟩,
 ⟨none, .store 2 (.t 51) (.t 49), none, []⟩,
 ⟨some 0, .mov (.t 50), none, []⟩])
 (.region none [
 ⟨some 52, .faddr 0 (.t 7), none, []⟩,
 ⟨some 53, .load 1 false (.t 52), none, []⟩,
 ⟨some 54, .load 5 true (.t 9), none, []⟩,
 ⟨some 55, .bslice false 5 1 [(.bool false), (.int .i64 0), .nilSlice, (.int .i64 0), .nilSlice] [(0, 5, (.t 54))], none, []⟩,
 ⟨some 56, .append false 5 72 (.t 53) (.t 55), none, []⟩,
 ⟨some 57, .faddr 0 (.t 7), none, []⟩,
 ⟨none, .store 1 (.t 57) (.t 56), none, []⟩])))))
 (.region none [
 ⟨some 31, .mov (.t 8), none, []⟩,
 ⟨some 32, .bin .add (.t 31) (.c (.int .i64 1)), none, []⟩,
 ⟨some 8, .mov (.t 32), none, []⟩]))))))
 (.region none [
 ⟨some 58, .faddr 1 (.t 5), none, [(true, 7)]⟩,
 ⟨some 59, .load 1 false (.t 58), none, []⟩,
 ⟨some 60, .load 1 true (.t 7), none, []⟩,
 ⟨some 61, .bslice false 1 1 [.nilSlice] [(0, 1, (.t 60))], none, []⟩,
 ⟨some 62, .append false 1 24 (.t 59) (.t 61), none, []⟩,
 ⟨some 63, .faddr 1 (.t 5), none, []⟩,
 ⟨none, .store 1 (.t 63) (.t 62), none, []⟩])))))))))
 (.seq (.region none [
 ⟨some 64, .load 2 true (.t 5), none, []⟩,
 ⟨none, .store 2 (.t 4) (.t 64), none, []⟩])
 .ret))))
def af12 : AFun := ⟨.pure, 1, 12, body12, [.cell 4 2 true]⟩

/-- umpirage/umpiragekit.Picked -/
def body13 : ACode := (.seq (.region none [
 ⟨some 4, .mov (.c (.int .i64 0)), none, []⟩])
 (.seq (.region none [
 ⟨some 5, .mov (.t 0), none, []⟩,
 ⟨some 6, .mov (.t 1), none, []⟩,
 ⟨some 7, .bin .rem (.t 5) (.t 6), none, []⟩,
 ⟨some 0, .mov (.t 7), none, []⟩])
 (.seq (.seq (.region none [
 ⟨some 8, .mov (.t 0), none, []⟩,
 ⟨some 9, .bin .lss (.t 8) (.c (.int .i64 0)), none, []⟩])
 (.cond (.t 9)
 (.seq (.region none [
 ⟨some 10, .mov (.t 0), none, []⟩,
 ⟨some 11, .mov (.t 1), none, []⟩,
 ⟨some 12, .bin .add (.t 10) (.t 11), none, []⟩,
 ⟨some 4, .mov (.t 12), none, []⟩])
 .ret)
 .skip))
 (.seq (.region none [
 ⟨some 13, .mov (.t 0), none, []⟩,
 ⟨some 4, .mov (.t 13), none, []⟩])
 .ret))))
def af13 : AFun := ⟨.pure, 1, 13, body13, [.t 4]⟩

/-- umpirage/find.Do -/
def body14 : ACode := (.seq (.region none [
 ⟨some 3, .fbox (.t 0), none, []⟩,
 ⟨some 6, .mov (.c (.int .i64 0)), none, []⟩,
 ⟨some 7, .lalloc (.agg [(.int .i64 0), .nilSlice]), none, []⟩,
 ⟨some 8, .lalloc (.agg [(.int .i64 0), (.int .i64 0)]), none, []⟩])
 (.seq (.seq (.region none [
 ⟨some 20, .load 2 true (.t 3), none, []⟩,
 ⟨some 21, .call (.c (.clo 16 [])) [(.t 20)], none, []⟩,
 ⟨some 9, .lalloc (.agg [(.int .i64 0), (.int .i64 0)]), none, []⟩,
 ⟨none, .store 2 (.t 9) (.t 21), none, []⟩])
 (.seq (.region none [
 ⟨some 22, .load 2 true (.t 9), none, []⟩,
 ⟨some 23, .build [(.int .i64 0), (.int .i64 0)] [], none, []⟩,
 ⟨some 24, .eqs [0, 0] true (.t 22) (.t 23), none, []⟩])
 (.cond (.t 24)
 (.seq (.region (some [0, 0, 0, 5, 15]) [
 ⟨some 25, .build [(.int .i64 0), .nilSlice] [], none, []⟩,
 ⟨some 26, .load 2 true (.t 9), none, []⟩,
 ⟨some 6, .mov (.c (.int .i64 0)), none, []⟩,
 ⟨none, .store 2 (.t 7) (.t 25), none, []⟩,
 ⟨none, .store 2 (.t 8) (.t 26), none, []⟩])
 .ret)
 .skip)))
 (.seq (.seq (.region none [
 ⟨some 27, .mov (.t 1), none, []⟩,
 ⟨some 28, .call (.c (.clo 17 [])) [(.t 27), (.c (.int .i64 1)), (.c (.int .i64 4))], none, []⟩,
 ⟨some 29, .un .not (.t 28), none, []⟩,
 ⟨some 30, .mov (.t 29), none, []⟩,
 ⟨some 31, .mov (.t 2), some (30, false), []⟩,
 ⟨some 32, .call (.c (.clo 17 [])) [(.t 31), (.c (.int .i64 0)), (.c (.int .i64 2000))], some (30, false), []⟩,
 ⟨some 33, .un .not (.t 32), some (30, false), []⟩,
 ⟨some 34, .pick (.t 30) (.c (.bool true)) (.t 33), none, []⟩])
 (.cond (.t 34)
 (.seq (.region none [
 ⟨some 35, .build [(.int .i64 0), .nilSlice] [], none, []⟩,
 ⟨some 36, .call (.c (.clo 18 [])) [(.c (.int .i64 3)), (.c (.int .i64 (-1)))], none, []⟩,
 ⟨some 6, .mov (.c (.int .i64 0)), none, []⟩,
 ⟨none, .store 2 (.t 7) (.t 35), none, []⟩,
 ⟨none, .store 2 (.t 8) (.t 36), none, []⟩])
 .ret)
 .skip))
 (.seq (.region none [
 ⟨some 37, .load 2 true (.t 3), none, []⟩,
 ⟨some 38, .mov (.t 1), none, []⟩,
 ⟨some 39, .build [(.int .i64 0), .nilSlice] [(0, 1, (.t 38))], none, []⟩,
 ⟨some 40, .mov (.t 2), none, []⟩,
 ⟨some 41, .build [.nilSlice, .nilSlice, (.int .i64 0), .nilSlice, (.int .i64 0)] [(0, 2, (.t 37)), (2, 2, (.t 39)), (4, 1, (.t 40))], none, []⟩,
 ⟨some 42, .hbox (.t 41), none, []⟩,
 ⟨some 10, .mov (.t 42), none, []⟩])
 (.seq (.seq (.region none [
 ⟨some 43, .faddr 1 (.t 3), none, []⟩,
 ⟨some 44, .load 1 false (.t 43), none, []⟩,
 ⟨some 45, .len (.t 44), none, []⟩,
 ⟨some 46, .mov (.c (.int .i64 0)), none, []⟩])
 (.block 0
 (.loop (.seq (.region none [
 ⟨some 47, .bin .lss (.t 46) (.t 45), none, []⟩])
 (.seq (.cond (.t 47)
 .skip
 (.exit 0))
 (.seq (.block 1
 (.seq (.region none [
 ⟨some 48, .mov (.t 46), none, []⟩,
 ⟨some 49, .iaddr 1 (.t 44) (.t 46), none, []⟩,
 ⟨some 50, .load 1 true (.t 49), none, []⟩,
 ⟨some 12, .lalloc (.agg [.nilSlice]), none, []⟩,
 ⟨some 11, .mov (.t 48), none, []⟩,
 ⟨none, .store 1 (.t 12) (.t 50), none, []⟩])
 (.seq (.region none [
 ⟨some 13, .mov (.c (.int .i64 1)), none, []⟩])
 (.seq (.seq (.region none [
 ⟨some 51, .load 1 true (.t 12), none, []⟩,
 ⟨some 52, .call (.c (.clo 32 [])) [(.t 51)], none, []⟩,
 ⟨some 53, .mov (.c (.int .i64 0)), none, []⟩])
 (.block 2
 (.loop (.seq (.region none [
 ⟨some 54, .bin .lss (.t 53) (.t 52), none, []⟩])
 (.seq (.cond (.t 54)
 .skip
 (.exit 2))
 (.seq (.block 3
 (.region none [
 ⟨some 55, .mov (.t 13), none, []⟩,
 ⟨some 56, .mov (.t 1), none, []⟩,
 ⟨some 57, .bin .mul (.t 55) (.t 56), none, []⟩,
 ⟨some 13, .mov (.t 57), none, []⟩]))
 (.region none [
 ⟨some 58, .bin .add (.t 53) (.c (.int .i64 1)), none, []⟩,
 ⟨some 53, .mov (.t 58), none, []⟩])))))))
 (.seq (.region none [
 ⟨some 59, .mov (.t 13), none, []⟩,
 ⟨some 60, .bin .gtr (.t 59) (.c (.int .i64 4096)), none, []⟩])
 (.cond (.t 60)
 (.seq (.region none [
 ⟨some 61, .build [(.int .i64 0), .nilSlice] [], none, []⟩,
 ⟨some 62, .mov (.t 11), none, []⟩,
 ⟨some 63, .call (.c (.clo 18 [])) [(.c (.int .i64 10)), (.t 62)], none, []⟩,
 ⟨some 6, .mov (.c (.int .i64 0)), none, []⟩,
 ⟨none, .store 2 (.t 7) (.t 61), none, []⟩,
 ⟨none, .store 2 (.t 8) (.t 63), none, []⟩])
 .ret)
 .skip))))))
 (.region none [
 ⟨some 64, .bin .add (.t 46) (.c (.int .i64 1)), none, []⟩,
 ⟨some 46, .mov (.t 64), none, []⟩])))))))
 (.seq (.seq (.region none [
 ⟨some 65, .faddr 0 (.t 3), none, []⟩,
 ⟨some 66, .load 1 false (.t 65), none, []⟩,
 ⟨some 67, .len (.t 66), none, []⟩,
 ⟨some 68, .mov (.c (.int .i64 0)), none, []⟩])
 (.block 4
 (.loop (.seq (.region none [
 ⟨some 69, .bin .lss (.t 68) (.t 67), none, []⟩])
 (.seq (.cond (.t 69)
 .skip
 (.exit 4))
 (.seq (.block 5
 (.seq (.region none [
 ⟨some 70, .iaddr 1 (.t 66) (.t 68), none, []⟩,
 ⟨some 71, .load 1 false (.t 70), none, []⟩,
 ⟨some 15, .mov (.t 71), none, []⟩])
 (.seq (.region none [
 ⟨some 16, .mov (.c (.int .i64 1)), none, []⟩])
 (.seq (.seq (.region none [
 ⟨some 72, .mov (.t 15), none, []⟩,
 ⟨some 73, .mov (.c (.int .i64 0)), none, []⟩])
 (.block 6
 (.loop (.seq (.region none [
 ⟨some 74, .bin .lss (.t 73) (.t 72), none, []⟩])
 (.seq (.cond (.t 74)
 .skip
 (.exit 6))
 (.seq (.block 7
 (.region none [
 ⟨some 75, .mov (.t 16), none, []⟩,
 ⟨some 76, .mov (.t 1), none, []⟩,
 ⟨some 77, .bin .mul (.t 75) (.t 76), none, []⟩,
 ⟨some 16, .mov (.t 77), none, []⟩]))
 (.region none [
 ⟨some 78, .bin .add (.t 73) (.c (.int .i64 1)), none, []⟩,
 ⟨some 73, .mov (.t 78), none, []⟩])))))))
 (.seq (.region none [
 ⟨some 79, .mov (.t 16), none, []⟩,
 ⟨some 80, .mkslice 1 8 (.int .i64 0) (.t 79) (.t 79), none, []⟩,
 ⟨some 17, .mov (.t 80), none, []⟩])
 (.seq (.seq (.region none [
 ⟨some 81, .mov (.t 17), none, []⟩,
 ⟨some 82, .len (.t 81), none, []⟩,
 ⟨some 83, .mov (.c (.int .i64 0)), none, []⟩])
 (.block 8
 (.loop (.seq (.region none [
 ⟨some 84, .bin .lss (.t 83) (.t 82), none, []⟩])
 (.seq (.cond (.t 84)
 .skip
 (.exit 8))
 (.seq (.block 9
 (.seq (.region none [
 ⟨some 85, .mov (.t 83), none, []⟩,
 ⟨some 18, .mov (.t 85), none, []⟩])
 (.region none [
 ⟨some 86, .mov (.t 17), none, []⟩,
 ⟨some 87, .mov (.t 18), none, []⟩,
 ⟨some 88, .iaddr 1 (.t 86) (.t 87), none, []⟩,
 ⟨none, .store 1 (.t 88) (.c (.int .i64 (-1))), none, []⟩])))
 (.region none [
 ⟨some 89, .bin .add (.t 83) (.c (.int .i64 1)), none, []⟩,
 ⟨some 83, .mov (.t 89), none, []⟩])))))))
 (.region none [
 ⟨some 90, .mov (.t 10), none, []⟩,
 ⟨some 91, .mov (.t 10), none, []⟩,
 ⟨some 92, .ncheck (.t 91), none, []⟩,
 ⟨some 93, .faddr 2 (.t 92), none, []⟩,
 ⟨some 94, .faddr 1 (.t 93), none, []⟩,
 ⟨some 95, .load 1 false (.t 94), none, []⟩,
 ⟨some 96, .mov (.t 17), none, []⟩,
 ⟨some 97, .bslice true 1 1 [.nilSlice] [(0, 1, (.t 96))], none, []⟩,
 ⟨some 98, .append false 1 24 (.t 95) (.t 97), none, []⟩,
 ⟨some 99, .ncheck (.t 90), none, []⟩,
 ⟨some 100, .faddr 2 (.t 99), none, []⟩,
 ⟨some 101, .faddr 1 (.t 100), none, []⟩,
 ⟨none, .store 1 (.t 101) (.t 98), none, []⟩])))))))
 (.region none [
 ⟨some 102, .bin .add (.t 68) (.c (.int .i64 1)), none, []⟩,
 ⟨some 68, .mov (.t 102), none, []⟩])))))))
 (.seq (.seq (.region none [
 ⟨some 103, .mov (.t 10), none, []⟩,
 ⟨some 104, .call (.c (.clo 33 [])) [(.t 103)], none, []⟩,
 ⟨some 105, .un .not (.t 104), none, []⟩])
 (.cond (.t 105)
 (.seq (.region none [
 ⟨some 106, .build [(.int .i64 0), .nilSlice] [], none, []⟩,
 ⟨some 107, .build [(.int .i64 0), (.int .i64 0)] [], none, []⟩,
 ⟨some 6, .mov (.c (.int .i64 2)), none, []⟩,
 ⟨none, .store 2 (.t 7) (.t 106), none, []⟩,
 ⟨none, .store 2 (.t 8) (.t 107), none, []⟩])
 .ret)
 .skip))
 (.seq (.region none [
 ⟨some 108, .mov (.t 10), none, []⟩,
 ⟨some 109, .call (.c (.clo 34 [])) [(.t 108), (.c (.int .i64 0)), (.c (.int .i64 0))], none, []⟩,
 ⟨some 19, .mov (.t 109), none, []⟩])
 (.seq (.seq (.region none [
 ⟨some 110, .mov (.t 19), none, []⟩,
 ⟨some 111, .bin .neq (.t 110) (.c (.int .i64 1)), none, []⟩])
 (.cond (.t 111)
 (.seq (.region none [
 ⟨some 112, .mov (.t 19), none, []⟩,
 ⟨some 113, .build [(.int .i64 0), .nilSlice] [], none, []⟩,
 ⟨some 114, .build [(.int .i64 0), (.int .i64 0)] [], none, []⟩,
 ⟨some 6, .mov (.t 112), none, []⟩,
 ⟨none, .store 2 (.t 7) (.t 113), none, []⟩,
 ⟨none, .store 2 (.t 8) (.t 114), none, []⟩])
 .ret)
 .skip))
 (.seq (.region (some [0, 1, 3, 7, 0, 0, 47, 127]) [
 ⟨some 115, .mov (.t 10), none, []⟩,
 ⟨some 116, .ncheck (.t 115), none, []⟩,
 ⟨some 117, .faddr 2 (.t 116), none, []⟩,
 ⟨some 118, .load 2 true (.t 117), none, []⟩,
 ⟨some 119, .build [(.int .i64 0), (.int .i64 0)] [], none, []⟩,
 ⟨some 6, .mov (.c (.int .i64 1)), none, []⟩,
 ⟨none, .store 2 (.t 7) (.t 118), none, []⟩,
 ⟨none, .store 2 (.t 8) (.t 119), none, []⟩])
 .ret))))))))))
def af14 : AFun := ⟨.pure, 2, 14, body14, [.t 6, .cell 7 2 true, .cell 8 2 true]⟩

/-- umpirage/table.Holds -/
def body15 : ACode := (.seq (.region none [
 ⟨some 2, .fbox (.t 0), none, []⟩,
 ⟨some 3, .fbox (.t 1), none, []⟩,
 ⟨some 4, .mov (.c .nilSlice), none, []⟩,
 ⟨some 5, .lalloc (.agg [(.int .i64 0), (.int .i64 0)]), none, []⟩])
 (.seq (.seq (.region none [
 ⟨some 10, .load 2 true (.t 2), none, []⟩,
 ⟨some 11, .load 2 true (.t 3), none, []⟩,
 ⟨some 12, .call (.c (.clo 35 [])) [(.t 10), (.t 11)], none, []⟩,
 ⟨some 6, .lalloc (.agg [(.int .i64 0), (.int .i64 0)]), none, []⟩,
 ⟨none, .store 2 (.t 6) (.t 12), none, []⟩])
 (.seq (.region none [
 ⟨some 13, .load 2 true (.t 6), none, []⟩,
 ⟨some 14, .build [(.int .i64 0), (.int .i64 0)] [], none, []⟩,
 ⟨some 15, .eqs [0, 0] true (.t 13) (.t 14), none, []⟩])
 (.cond (.t 15)
 (.seq (.region (some [0, 0, 3]) [
 ⟨some 16, .load 2 true (.t 6), none, []⟩,
 ⟨some 4, .mov (.c .nilSlice), none, []⟩,
 ⟨none, .store 2 (.t 5) (.t 16), none, []⟩])
 .ret)
 .skip)))
 (.seq (.region none [
 ⟨some 7, .mov (.c .nilSlice), none, []⟩])
 (.seq (.seq (.region none [
 ⟨some 17, .faddr 1 (.t 2), none, []⟩,
 ⟨some 18, .load 1 false (.t 17), none, []⟩,
 ⟨some 19, .len (.t 18), none, []⟩,
 ⟨some 20, .mov (.c (.int .i64 0)), none, []⟩])
 (.block 0
 (.loop (.seq (.region none [
 ⟨some 21, .bin .lss (.t 20) (.t 19), none, []⟩])
 (.seq (.cond (.t 21)
 .skip
 (.exit 0))
 (.seq (.block 1
 (.seq (.region none [
 ⟨some 22, .mov (.t 20), none, []⟩,
 ⟨some 23, .iaddr 1 (.t 18) (.t 20), none, []⟩,
 ⟨some 24, .load 1 true (.t 23), none, []⟩,
 ⟨some 9, .lalloc (.agg [.nilSlice]), none, []⟩,
 ⟨some 8, .mov (.t 22), none, []⟩,
 ⟨none, .store 1 (.t 9) (.t 24), none, []⟩])
 (.seq (.seq (.region (some [0, 1, 0, 4, 15, 31]) [
 ⟨some 25, .faddr 0 (.t 3), none, []⟩,
 ⟨some 26, .load 1 false (.t 25), none, []⟩,
 ⟨some 27, .load 1 true (.t 9), none, []⟩,
 ⟨some 28, .call (.c (.clo 32 [])) [(.t 27)], none, []⟩,
 ⟨some 29, .call (.c (.clo 36 [])) [(.t 26), (.t 28)], none, []⟩,
 ⟨some 30, .bin .gtr (.t 29) (.c (.int .i64 4096)), none, []⟩])
 (.cond (.t 30)
 (.seq (.region none [
 ⟨some 31, .mov (.t 8), none, []⟩,
 ⟨some 32, .call (.c (.clo 18 [])) [(.c (.int .i64 10)), (.t 31)], none, []⟩,
 ⟨some 4, .mov (.c .nilSlice), none, []⟩,
 ⟨none, .store 2 (.t 5) (.t 32), none, []⟩])
 .ret)
 .skip))
 (.region none [
 ⟨some 33, .mov (.t 7), none, []⟩,
 ⟨some 34, .load 2 true (.t 3), none, []⟩,
 ⟨some 35, .load 1 true (.t 9), none, []⟩,
 ⟨some 36, .call (.c (.clo 37 [])) [(.t 34), (.t 35)], none, []⟩,
 ⟨some 37, .bslice false 1 1 [(.bool false)] [(0, 1, (.t 36))], none, []⟩,
 ⟨some 38, .append false 1 1 (.t 33) (.t 37), none, []⟩,
 ⟨some 7, .mov (.t 38), none, []⟩]))))
 (.region none [
 ⟨some 39, .bin .add (.t 20) (.c (.int .i64 1)), none, []⟩,
 ⟨some 20, .mov (.t 39), none, []⟩])))))))
 (.seq (.region none [
 ⟨some 40, .mov (.t 7), none, []⟩,
 ⟨some 41, .build [(.int .i64 0), (.int .i64 0)] [], none, []⟩,
 ⟨some 4, .mov (.t 40), none, []⟩,
 ⟨none, .store 2 (.t 5) (.t 41), none, []⟩])
 .ret)))))
def af15 : AFun := ⟨.pure, 1, 15, body15, [.t 4, .cell 5 2 true]⟩

/-- umpirage/claim.Check -/
def body16 : ACode := (.seq (.region none [
 ⟨some 1, .fbox (.t 0), none, []⟩,
 ⟨some 2, .lalloc (.agg [(.int .i64 0), (.int .i64 0)]), none, []⟩])
 (.seq (.seq (.region none [
 ⟨some 13, .faddr 0 (.t 1), none, []⟩,
 ⟨some 14, .load 1 false (.t 13), none, []⟩,
 ⟨some 15, .len (.t 14), none, []⟩,
 ⟨some 16, .bin .gtr (.t 15) (.c (.int .i64 12)), none, []⟩,
 ⟨some 17, .mov (.t 16), none, []⟩,
 ⟨some 18, .faddr 1 (.t 1), some (17, false), []⟩,
 ⟨some 19, .load 1 false (.t 18), some (17, false), []⟩,
 ⟨some 20, .len (.t 19), some (17, false), []⟩,
 ⟨some 21, .bin .gtr (.t 20) (.c (.int .i64 60)), some (17, false), []⟩,
 ⟨some 22, .pick (.t 17) (.c (.bool true)) (.t 21), none, []⟩])
 (.cond (.t 22)
 (.seq (.region none [
 ⟨some 23, .call (.c (.clo 18 [])) [(.c (.int .i64 2)), (.c (.int .i64 0))], none, []⟩,
 ⟨none, .store 2 (.t 2) (.t 23), none, []⟩])
 .ret)
 .skip))
 (.seq (.seq (.region none [
 ⟨some 24, .faddr 0 (.t 1), none, []⟩,
 ⟨some 25, .load 1 false (.t 24), none, []⟩,
 ⟨some 26, .len (.t 25), none, []⟩,
 ⟨some 27, .mov (.c (.int .i64 0)), none, []⟩])
 (.block 0
 (.loop (.seq (.region none [
 ⟨some 28, .bin .lss (.t 27) (.t 26), none, []⟩])
 (.seq (.cond (.t 28)
 .skip
 (.exit 0))
 (.seq (.block 1
 (.seq (.region none [
 ⟨some 29, .mov (.t 27), none, []⟩,
 ⟨some 30, .iaddr 1 (.t 25) (.t 27), none, []⟩,
 ⟨some 31, .load 1 false (.t 30), none, []⟩,
 ⟨some 3, .mov (.t 29), none, []⟩,
 ⟨some 4, .mov (.t 31), none, []⟩])
 (.seq (.region none [
 ⟨some 32, .mov (.t 4), none, []⟩,
 ⟨some 33, .call (.c (.clo 17 [])) [(.t 32), (.c (.int .i64 0)), (.c (.int .i64 3))], none, []⟩,
 ⟨some 34, .un .not (.t 33), none, []⟩])
 (.cond (.t 34)
 (.seq (.region none [
 ⟨some 35, .mov (.t 3), none, []⟩,
 ⟨some 36, .call (.c (.clo 18 [])) [(.c (.int .i64 3)), (.t 35)], none, []⟩,
 ⟨none, .store 2 (.t 2) (.t 36), none, []⟩])
 .ret)
 .skip))))
 (.region none [
 ⟨some 37, .bin .add (.t 27) (.c (.int .i64 1)), none, []⟩,
 ⟨some 27, .mov (.t 37), none, []⟩])))))))
 (.seq (.seq (.region none [
 ⟨some 38, .faddr 1 (.t 1), none, []⟩,
 ⟨some 39, .load 1 false (.t 38), none, []⟩,
 ⟨some 40, .len (.t 39), none, []⟩,
 ⟨some 41, .mov (.c (.int .i64 0)), none, []⟩])
 (.block 2
 (.loop (.seq (.region none [
 ⟨some 42, .bin .lss (.t 41) (.t 40), none, []⟩])
 (.seq (.cond (.t 42)
 .skip
 (.exit 2))
 (.seq (.block 3
 (.seq (.region none [
 ⟨some 43, .mov (.t 41), none, []⟩,
 ⟨some 44, .iaddr 1 (.t 39) (.t 41), none, []⟩,
 ⟨some 45, .load 1 true (.t 44), none, []⟩,
 ⟨some 6, .lalloc (.agg [.nilSlice]), none, []⟩,
 ⟨some 5, .mov (.t 43), none, []⟩,
 ⟨none, .store 1 (.t 6) (.t 45), none, []⟩])
 (.seq (.seq (.region none [
 ⟨some 46, .faddr 0 (.t 6), none, []⟩,
 ⟨some 47, .load 1 false (.t 46), none, []⟩,
 ⟨some 48, .len (.t 47), none, []⟩,
 ⟨some 49, .bin .gtr (.t 48) (.c (.int .i64 6)), none, []⟩])
 (.cond (.t 49)
 (.seq (.region none [
 ⟨some 50, .mov (.t 5), none, []⟩,
 ⟨some 51, .call (.c (.clo 18 [])) [(.c (.int .i64 2)), (.t 50)], none, []⟩,
 ⟨none, .store 2 (.t 2) (.t 51), none, []⟩])
 .ret)
 .skip))
 (.seq (.region none [
 ⟨some 52, .faddr 0 (.t 6), none, []⟩,
 ⟨some 53, .load 1 false (.t 52), none, []⟩,
 ⟨some 54, .len (.t 53), none, []⟩,
 ⟨some 55, .mov (.c (.int .i64 0)), none, []⟩])
 (.block 4
 (.loop (.seq (.region none [
 ⟨some 56, .bin .lss (.t 55) (.t 54), none, []⟩])
 (.seq (.cond (.t 56)
 .skip
 (.exit 4))
 (.seq (.block 5
 (.seq (.region none [
 ⟨some 57, .iaddr 5 (.t 53) (.t 55), none, []⟩,
 ⟨some 58, .load 5 true (.t 57), none, []⟩,
 ⟨some 8, .lalloc (.agg [(.bool false), (.int .i64 0), .nilSlice, (.int .i64 0), .nilSlice]), none, []⟩,
 ⟨none, .store 5 (.t 8) (.t 58), none, []⟩])
 (.seq (.region none [
 ⟨some 59, .faddr 1 (.t 8), none, []⟩,
 ⟨some 60, .load 2 true (.t 59), none, []⟩,
 ⟨some 61, .faddr 3 (.t 8), none, []⟩,
 ⟨some 62, .load 2 true (.t 61), none, []⟩,
 ⟨some 63, .build [(.int .i64 0), .nilSlice, (.int .i64 0), .nilSlice] [(0, 2, (.t 60)), (2, 2, (.t 62))], none, []⟩,
 ⟨some 64, .mov (.c (.int .i64 0)), none, []⟩])
 (.block 6
 (.loop (.seq (.region none [
 ⟨some 65, .bin .lss (.t 64) (.c (.int .i64 2)), none, []⟩])
 (.seq (.cond (.t 65)
 .skip
 (.exit 6))
 (.seq (.block 7
 (.seq (.region none [
 ⟨some 66, .indexA 2 2 true (.t 63) (.t 64), none, []⟩,
 ⟨some 10, .lalloc (.agg [(.int .i64 0), .nilSlice]), none, []⟩,
 ⟨none, .store 2 (.t 10) (.t 66), none, []⟩])
 (.seq (.seq (.region none [
 ⟨some 67, .load 2 true (.t 10), none, []⟩,
 ⟨some 68, .call (.c (.clo 38 [])) [(.t 67)], none, []⟩,
 ⟨some 69, .field 0 1 false (.t 68), none, []⟩,
 ⟨some 11, .mov (.t 69), none, []⟩])
 (.seq (.region none [
 ⟨some 70, .mov (.t 11), none, []⟩,
 ⟨some 71, .bin .neq (.t 70) (.c (.int .i64 0)), none, []⟩])
 (.cond (.t 71)
 (.seq (.region none [
 ⟨some 72, .mov (.t 11), none, []⟩,
 ⟨some 73, .mov (.t 5), none, []⟩,
 ⟨some 74, .call (.c (.clo 18 [])) [(.t 72), (.t 73)], none, []⟩,
 ⟨none, .store 2 (.t 2) (.t 74), none, []⟩])
 .ret)
 .skip)))
 (.seq (.region none [
 ⟨some 75, .load 2 true (.t 10), none, []⟩,
 ⟨some 76, .faddr 0 (.t 1), none, []⟩,
 ⟨some 77, .load 1 false (.t 76), none, []⟩,
 ⟨some 78, .call (.c (.clo 39 [])) [(.t 75), (.t 77)], none, []⟩,
 ⟨some 12, .mov (.t 78), none, []⟩])
 (.seq (.region none [
 ⟨some 79, .mov (.t 12), none, []⟩,
 ⟨some 80, .bin .neq (.t 79) (.c (.int .i64 0)), none, []⟩])
 (.cond (.t 80)
 (.seq (.region none [
 ⟨some 81, .mov (.t 12), none, []⟩,
 ⟨some 82, .mov (.t 5), none, []⟩,
 ⟨some 83, .call (.c (.clo 18 [])) [(.t 81), (.t 82)], none, []⟩,
 ⟨none, .store 2 (.t 2) (.t 83), none, []⟩])
 .ret)
 .skip))))))
 (.region none [
 ⟨some 84, .bin .add (.t 64) (.c (.int .i64 1)), none, []⟩,
 ⟨some 64, .mov (.t 84), none, []⟩])))))))))
 (.region none [
 ⟨some 85, .bin .add (.t 55) (.c (.int .i64 1)), none, []⟩,
 ⟨some 55, .mov (.t 85), none, []⟩]))))))))))
 (.region none [
 ⟨some 86, .bin .add (.t 41) (.c (.int .i64 1)), none, []⟩,
 ⟨some 41, .mov (.t 86), none, []⟩])))))))
 (.seq (.region none [
 ⟨some 87, .build [(.int .i64 0), (.int .i64 0)] [], none, []⟩,
 ⟨none, .store 2 (.t 2) (.t 87), none, []⟩])
 .ret)))))
def af16 : AFun := ⟨.pure, 1, 16, body16, [.cell 2 2 true]⟩

/-- umpirage/eltool.In -/
def body17 : ACode := (.seq (.region none [
 ⟨some 6, .mov (.c (.bool false)), none, []⟩])
 (.seq (.region none [
 ⟨some 7, .mov (.t 0), none, []⟩,
 ⟨some 8, .mov (.t 1), none, []⟩,
 ⟨some 9, .bin .geq (.t 7) (.t 8), none, []⟩,
 ⟨some 10, .mov (.t 9), none, []⟩,
 ⟨some 11, .mov (.t 0), some (10, true), []⟩,
 ⟨some 12, .mov (.t 2), some (10, true), []⟩,
 ⟨some 13, .bin .leq (.t 11) (.t 12), some (10, true), []⟩,
 ⟨some 14, .pick (.t 10) (.t 13) (.c (.bool false)), none, []⟩,
 ⟨some 6, .mov (.t 14), none, []⟩])
 .ret))
def af17 : AFun := ⟨.pure, 1, 17, body17, [.t 6]⟩

/-- umpirage/eltool.Fault -/
def body18 : ACode := (.seq (.region none [
 ⟨some 4, .lalloc (.agg [(.int .i64 0), (.int .i64 0)]), none, []⟩])
 (.seq (.region none [
 ⟨some 5, .mov (.t 0), none, []⟩,
 ⟨some 6, .mov (.t 1), none, []⟩,
 ⟨some 7, .build [(.int .i64 0), (.int .i64 0)] [(0, 1, (.t 5)), (1, 1, (.t 6))], none, []⟩,
 ⟨none, .store 2 (.t 4) (.t 7), none, []⟩])
 .ret))
def af18 : AFun := ⟨.pure, 1, 18, body18, [.cell 4 2 true]⟩

/-- (*umpirage/super.search).add -/
def body19 : ACode := (.seq (.region none [
 ⟨some 3, .fbox (.t 1), none, []⟩,
 ⟨some 4, .mov (.c (.int .i64 0)), none, []⟩,
 ⟨some 5, .mov (.c (.bool false)), none, []⟩])
 (.seq (.seq (.region none [
 ⟨some 8, .mov (.t 0), none, []⟩,
 ⟨some 9, .ncheck (.t 8), none, []⟩,
 ⟨some 10, .faddr 2 (.t 9), none, []⟩,
 ⟨some 11, .load 1 false (.t 10), none, []⟩,
 ⟨some 12, .len (.t 11), none, []⟩,
 ⟨some 13, .bin .eql (.t 12) (.c (.int .i64 400)), none, []⟩])
 (.cond (.t 13)
 (.seq (.region none [
 ⟨some 14, .mov (.t 0), none, []⟩,
 ⟨some 15, .ncheck (.t 14), none, []⟩,
 ⟨some 16, .faddr 6 (.t 15), none, []⟩,
 ⟨none, .store 1 (.t 16) (.c (.bool true)), none, []⟩])
 (.seq (.region none [
 ⟨some 4, .mov (.c (.int .i64 0)), none, []⟩,
 ⟨some 5, .mov (.c (.bool false)), none, []⟩])
 .ret))
 .skip))
 (.seq (.region (some [0, 1, 3, 7, 0, 16, 48, 112, 0, 511, 1023, 2047, 2047, 0, 12287, 32767]) [
 ⟨some 18, .mov (.t 0), none, []⟩,
 ⟨some 19, .ncheck (.t 18), none, []⟩,
 ⟨some 20, .faddr 0 (.t 19), none, []⟩,
 ⟨some 21, .load 2 true (.t 20), none, []⟩,
 ⟨some 22, .mov (.t 0), none, []⟩,
 ⟨some 23, .ncheck (.t 22), none, []⟩,
 ⟨some 24, .faddr 3 (.t 23), none, []⟩,
 ⟨some 25, .load 1 false (.t 24), none, []⟩,
 ⟨some 26, .load 8 true (.t 3), none, []⟩,
 ⟨some 27, .call (.c (.clo 40 [])) [(.t 21), (.t 25), (.t 26)], none, []⟩,
 ⟨some 17, .mov (.t 27), none, []⟩,
 ⟨some 28, .extract 0 (.t 17), none, []⟩,
 ⟨some 29, .extract 1 (.t 17), none, []⟩,
 ⟨some 6, .lalloc (.agg [.nilSlice]), none, []⟩,
 ⟨none, .store 1 (.t 6) (.t 28), none, []⟩,
 ⟨some 7, .mov (.t 29), none, []⟩])
 (.seq (.seq (.region none [
 ⟨some 30, .mov (.t 7), none, []⟩,
 ⟨some 31, .bin .neq (.t 30) (.c (.int .i64 0)), none, []⟩])
 (.cond (.t 31)
 (.seq (.region none [
 ⟨some 32, .mov (.t 0), none, []⟩,
 ⟨some 33, .ncheck (.t 32), none, []⟩,
 ⟨some 34, .faddr 6 (.t 33), none, []⟩,
 ⟨none, .store 1 (.t 34) (.c (.bool true)), none, []⟩])
 (.seq (.region none [
 ⟨some 4, .mov (.c (.int .i64 0)), none, []⟩,
 ⟨some 5, .mov (.c (.bool false)), none, []⟩])
 .ret))
 .skip))
 (.seq (.region (some [0, 0, 2, 6, 14, 0, 32, 126, 255, 511, 1023]) [
 ⟨some 35, .mov (.t 0), none, []⟩,
 ⟨some 36, .mov (.t 0), none, []⟩,
 ⟨some 37, .ncheck (.t 36), none, []⟩,
 ⟨some 38, .faddr 2 (.t 37), none, []⟩,
 ⟨some 39, .load 1 false (.t 38), none, []⟩,
 ⟨some 40, .load 8 true (.t 3), none, []⟩,
 ⟨some 41, .bslice false 8 1 [(.int .i64 0), (.int .i64 0), (.int .i64 0), (.int .i64 0), (.int .i64 0), (.bool false), .nilSlice, .nilSlice] [(0, 8, (.t 40))], none, []⟩,
 ⟨some 42, .append false 8 96 (.t 39) (.t 41), none, []⟩,
 ⟨some 43, .ncheck (.t 35), none, []⟩,
 ⟨some 44, .faddr 2 (.t 43), none, []⟩,
 ⟨none, .store 1 (.t 44) (.t 42), none, []⟩])
 (.seq (.region (some [0, 0, 2, 6, 14, 0, 32, 126, 255, 511, 1023]) [
 ⟨some 45, .mov (.t 0), none, []⟩,
 ⟨some 46, .mov (.t 0), none, []⟩,
 ⟨some 47, .ncheck (.t 46), none, []⟩,
 ⟨some 48, .faddr 3 (.t 47), none, []⟩,
 ⟨some 49, .load 1 false (.t 48), none, []⟩,
 ⟨some 50, .load 1 true (.t 6), none, []⟩,
 ⟨some 51, .bslice false 1 1 [.nilSlice] [(0, 1, (.t 50))], none, []⟩,
 ⟨some 52, .append false 1 24 (.t 49) (.t 51), none, []⟩,
 ⟨some 53, .ncheck (.t 45), none, []⟩,
 ⟨some 54, .faddr 3 (.t 53), none, []⟩,
 ⟨none, .store 1 (.t 54) (.t 52), none, []⟩])
 (.seq (.region none [
 ⟨some 55, .mov (.t 0), none, []⟩,
 ⟨some 56, .ncheck (.t 55), none, []⟩,
 ⟨some 57, .faddr 3 (.t 56), none, []⟩,
 ⟨some 58, .load 1 false (.t 57), none, []⟩,
 ⟨some 59, .len (.t 58), none, []⟩,
 ⟨some 60, .bin .sub (.t 59) (.c (.int .i64 1)), none, []⟩,
 ⟨some 4, .mov (.t 60), none, []⟩,
 ⟨some 5, .mov (.c (.bool true)), none, []⟩])
 .ret)))))))
def af19 : AFun := ⟨.mut, 1, 19, body19, [.t 4, .t 5]⟩

/-- (*umpirage/super.search).keep -/
def body20 : ACode := (.seq (.region none [
 ⟨some 4, .mov (.c (.bool false)), none, []⟩])
 (.seq (.seq (.region none [
 ⟨some 11, .mov (.t 0), none, []⟩,
 ⟨some 12, .ncheck (.t 11), none, []⟩,
 ⟨some 13, .faddr 3 (.t 12), none, []⟩,
 ⟨some 14, .load 1 false (.t 13), none, []⟩,
 ⟨some 15, .mov (.t 1), none, []⟩,
 ⟨some 16, .iaddr 1 (.t 14) (.t 15), none, []⟩,
 ⟨some 17, .load 1 true (.t 16), none, []⟩,
 ⟨some 18, .call (.c (.clo 32 [])) [(.t 17)], none, []⟩,
 ⟨some 19, .bin .gtr (.t 18) (.c (.int .i64 0)), none, []⟩])
 (.cond (.t 19)
 (.seq (.region none [
 ⟨some 21, .mov (.t 0), none, []⟩,
 ⟨some 22, .mov (.t 1), none, []⟩,
 ⟨some 23, .mov (.t 0), none, []⟩,
 ⟨some 24, .ncheck (.t 23), none, []⟩,
 ⟨some 25, .faddr 3 (.t 24), none, []⟩,
 ⟨some 26, .load 1 false (.t 25), none, []⟩,
 ⟨some 27, .mov (.t 1), none, []⟩,
 ⟨some 28, .iaddr 1 (.t 26) (.t 27), none, []⟩,
 ⟨some 29, .load 1 true (.t 28), none, []⟩,
 ⟨some 30, .call (.c (.clo 41 [])) [(.t 29)], none, []⟩,
 ⟨some 31, .build [(.int .i64 0), (.int .i64 0), (.int .i64 0), (.int .i64 0), (.int .i64 0), (.bool false), .nilSlice, .nilSlice] [(0, 1, (.c (.int .i64 2))), (1, 1, (.t 22)), (7, 1, (.t 30))], none, []⟩,
 ⟨some 32, .call (.c (.clo 19 [])) [(.t 21), (.t 31)], none, []⟩,
 ⟨some 20, .mov (.t 32), none, []⟩,
 ⟨some 33, .extract 0 (.t 20), none, []⟩,
 ⟨some 34, .extract 1 (.t 20), none, []⟩,
 ⟨some 5, .mov (.t 33), none, []⟩,
 ⟨some 6, .mov (.t 34), none, []⟩])
 (.seq (.seq (.region none [
 ⟨some 35, .mov (.t 6), none, []⟩,
 ⟨some 36, .un .not (.t 35), none, []⟩])
 (.cond (.t 36)
 (.seq (.region none [
 ⟨some 4, .mov (.c (.bool false)), none, []⟩])
 .ret)
 .skip))
 (.region none [
 ⟨some 37, .mov (.t 5), none, []⟩,
 ⟨some 1, .mov (.t 37), none, []⟩])))
 .skip))
 (.seq (.region none [
 ⟨some 39, .mov (.t 0), none, []⟩,
 ⟨some 40, .mov (.t 1), none, []⟩,
 ⟨some 41, .call (.c (.clo 42 [])) [(.t 39), (.t 40)], none, []⟩,
 ⟨some 38, .mov (.t 41), none, []⟩,
 ⟨some 42, .extract 0 (.t 38), none, []⟩,
 ⟨some 43, .extract 1 (.t 38), none, []⟩,
 ⟨some 1, .mov (.t 42), none, []⟩,
 ⟨some 7, .mov (.t 43), none, []⟩])
 (.seq (.seq (.region none [
 ⟨some 44, .mov (.t 7), none, []⟩,
 ⟨some 45, .un .not (.t 44), none, []⟩])
 (.cond (.t 45)
 (.seq (.region none [
 ⟨some 4, .mov (.c (.bool false)), none, []⟩])
 .ret)
 .skip))
 (.seq (.region none [
 ⟨some 46, .mov (.t 0), none, []⟩,
 ⟨some 47, .ncheck (.t 46), none, []⟩,
 ⟨some 48, .faddr 3 (.t 47), none, []⟩,
 ⟨some 49, .load 1 false (.t 48), none, []⟩,
 ⟨some 50, .mov (.t 1), none, []⟩,
 ⟨some 51, .iaddr 1 (.t 49) (.t 50), none, []⟩,
 ⟨some 52, .load 1 true (.t 51), none, []⟩,
 ⟨some 53, .call (.c (.clo 43 [])) [(.t 52)], none, []⟩,
 ⟨some 8, .lalloc (.agg [.nilSlice]), none, []⟩,
 ⟨none, .store 1 (.t 8) (.t 53), none, []⟩])
 (.seq (.seq (.region none [
 ⟨some 54, .faddr 0 (.t 8), none, []⟩,
 ⟨some 55, .load 1 false (.t 54), none, []⟩,
 ⟨some 56, .len (.t 55), none, []⟩,
 ⟨some 57, .bin .eql (.t 56) (.c (.int .i64 0)), none, []⟩])
 (.cond (.t 57)
 (.seq (.region none [
 ⟨some 4, .mov (.c (.bool true)), none, []⟩])
 .ret)
 .skip))
 (.seq (.seq (.region none [
 ⟨some 58, .load 1 true (.t 8), none, []⟩,
 ⟨some 59, .call (.c (.clo 44 [])) [(.t 58)], none, []⟩])
 (.cond (.t 59)
 (.seq (.region none [
 ⟨some 4, .mov (.c (.bool false)), none, []⟩])
 .ret)
 .skip))
 (.seq (.seq (.region (some [0, 1, 3, 7, 15, 0, 32, 96, 224, 511, 1023, 0]) [
 ⟨some 60, .mov (.t 0), none, []⟩,
 ⟨some 61, .ncheck (.t 60), none, []⟩,
 ⟨some 62, .faddr 4 (.t 61), none, []⟩,
 ⟨some 63, .load 1 false (.t 62), none, []⟩,
 ⟨some 64, .call (.c (.clo 45 [])) [(.t 63)], none, []⟩,
 ⟨some 65, .mov (.t 0), none, []⟩,
 ⟨some 66, .ncheck (.t 65), none, []⟩,
 ⟨some 67, .faddr 5 (.t 66), none, []⟩,
 ⟨some 68, .load 1 false (.t 67), none, []⟩,
 ⟨some 69, .append true 1 8 (.t 64) (.t 68), none, []⟩,
 ⟨some 70, .len (.t 69), none, []⟩,
 ⟨some 71, .mov (.c (.int .i64 0)), none, []⟩])
 (.block 0
 (.loop (.seq (.region none [
 ⟨some 72, .bin .lss (.t 71) (.t 70), none, []⟩])
 (.seq (.cond (.t 72)
 .skip
 (.exit 0))
 (.seq (.block 1
 (.seq (.region none [
 ⟨some 73, .iaddr 1 (.t 69) (.t 71), none, []⟩,
 ⟨some 74, .load 1 false (.t 73), none, []⟩,
 ⟨some 10, .mov (.t 74), none, []⟩])
 (.seq (.region (some [0, 1, 3, 7, 0, 31, 63, 127, 255, 0, 512, 2047]) [
 ⟨some 75, .mov (.t 0), none, []⟩,
 ⟨some 76, .ncheck (.t 75), none, []⟩,
 ⟨some 77, .faddr 3 (.t 76), none, []⟩,
 ⟨some 78, .load 1 false (.t 77), none, []⟩,
 ⟨some 79, .mov (.t 10), none, []⟩,
 ⟨some 80, .iaddr 1 (.t 78) (.t 79), none, []⟩,
 ⟨some 81, .load 1 true (.t 80), none, []⟩,
 ⟨some 82, .call (.c (.clo 43 [])) [(.t 81)], none, []⟩,
 ⟨some 83, .field 0 1 false (.t 82), none, []⟩,
 ⟨some 84, .faddr 0 (.t 8), none, []⟩,
 ⟨some 85, .load 1 false (.t 84), none, []⟩,
 ⟨some 86, .call (.c (.clo 46 [])) [(.t 83), (.t 85), (.c (.clo 47 []))], none, []⟩])
 (.cond (.t 86)
 (.seq (.region none [
 ⟨some 4, .mov (.c (.bool false)), none, []⟩])
 .ret)
 .skip))))
 (.region none [
 ⟨some 87, .bin .add (.t 71) (.c (.int .i64 1)), none, []⟩,
 ⟨some 71, .mov (.t 87), none, []⟩])))))))
 (.seq (.region none [
 ⟨some 88, .mov (.t 0), none, []⟩,
 ⟨some 89, .mov (.t 0), none, []⟩,
 ⟨some 90, .ncheck (.t 89), none, []⟩,
 ⟨some 91, .faddr 4 (.t 90), none, []⟩,
 ⟨some 92, .load 1 false (.t 91), none, []⟩,
 ⟨some 93, .mov (.t 1), none, []⟩,
 ⟨some 94, .bslice false 1 1 [(.int .i64 0)] [(0, 1, (.t 93))], none, []⟩,
 ⟨some 95, .append false 1 8 (.t 92) (.t 94), none, []⟩,
 ⟨some 96, .ncheck (.t 88), none, []⟩,
 ⟨some 97, .faddr 4 (.t 96), none, []⟩,
 ⟨none, .store 1 (.t 97) (.t 95), none, []⟩])
 (.seq (.region none [
 ⟨some 4, .mov (.c (.bool false)), none, []⟩])
 .ret))))))))))
def af20 : AFun := ⟨.mut, 1, 20, body20, [.t 4]⟩

/-- umpirage/super.weight -/
def body21 : ACode := (.seq (.region none [
 ⟨some 1, .fbox (.t 0), none, []⟩,
 ⟨some 2, .mov (.c (.int .i64 0)), none, []⟩])
 (.seq (.region none [
 ⟨some 3, .mov (.c (.int .i64 0)), none, []⟩])
 (.seq (.seq (.region none [
 ⟨some 6, .faddr 0 (.t 1), none, []⟩,
 ⟨some 7, .load 1 false (.t 6), none, []⟩,
 ⟨some 8, .len (.t 7), none, []⟩,
 ⟨some 9, .mov (.c (.int .i64 0)), none, []⟩])
 (.block 0
 (.loop (.seq (.region none [
 ⟨some 10, .bin .lss (.t 9) (.t 8), none, []⟩])
 (.seq (.cond (.t 10)
 .skip
 (.exit 0))
 (.seq (.block 1
 (.seq (.region none [
 ⟨some 11, .iaddr 5 (.t 7) (.t 9), none, []⟩,
 ⟨some 12, .load 5 true (.t 11), none, []⟩,
 ⟨some 5, .lalloc (.agg [(.bool false), (.int .i64 0), .nilSlice, (.int .i64 0), .nilSlice]), none, []⟩,
 ⟨none, .store 5 (.t 5) (.t 12), none, []⟩])
 (.region (some [0, 0, 2, 6, 0, 16, 62, 126, 255, 511]) [
 ⟨some 13, .mov (.t 3), none, []⟩,
 ⟨some 14, .faddr 1 (.t 5), none, []⟩,
 ⟨some 15, .load 2 true (.t 14), none, []⟩,
 ⟨some 16, .call (.c (.clo 48 [])) [(.t 15)], none, []⟩,
 ⟨some 17, .faddr 3 (.t 5), none, []⟩,
 ⟨some 18, .load 2 true (.t 17), none, []⟩,
 ⟨some 19, .call (.c (.clo 48 [])) [(.t 18)], none, []⟩,
 ⟨some 20, .bin .add (.t 16) (.t 19), none, []⟩,
 ⟨some 21, .bin .add (.t 13) (.t 20), none, []⟩,
 ⟨some 3, .mov (.t 21), none, []⟩])))
 (.region none [
 ⟨some 22, .bin .add (.t 9) (.c (.int .i64 1)), none, []⟩,
 ⟨some 9, .mov (.t 22), none, []⟩])))))))
 (.seq (.region none [
 ⟨some 23, .mov (.t 3), none, []⟩,
 ⟨some 2, .mov (.t 23), none, []⟩])
 .ret))))
def af21 : AFun := ⟨.pure, 1, 21, body21, [.t 2]⟩

/-- slices.Delete[[]int,int] -/
def body22 : ACode := (.seq (.region none [
 ⟨some 6, .mov (.c .nilSlice), none, []⟩])
 (.seq (.region none [
 ⟨some 8, .mov (.t 0), none, []⟩,
 ⟨some 9, .mov (.t 1), none, []⟩,
 ⟨some 10, .mov (.t 2), none, []⟩,
 ⟨some 11, .mov (.t 0), none, []⟩,
 ⟨some 12, .len (.t 11), none, []⟩,
 ⟨some 13, .slice3 (.t 8) (some (.t 9)) (.t 10) (.t 12), none, []⟩])
 (.seq (.seq (.region none [
 ⟨some 14, .mov (.t 1), none, []⟩,
 ⟨some 15, .mov (.t 2), none, []⟩,
 ⟨some 16, .bin .eql (.t 14) (.t 15), none, []⟩])
 (.cond (.t 16)
 (.seq (.region none [
 ⟨some 17, .mov (.t 0), none, []⟩,
 ⟨some 6, .mov (.t 17), none, []⟩])
 .ret)
 .skip))
 (.seq (.region none [
 ⟨some 18, .mov (.t 0), none, []⟩,
 ⟨some 19, .len (.t 18), none, []⟩,
 ⟨some 7, .mov (.t 19), none, []⟩])
 (.seq (.region (some [0, 0, 3, 0, 0, 24, 63, 127]) [
 ⟨some 20, .mov (.t 0), none, []⟩,
 ⟨some 21, .mov (.t 1), none, []⟩,
 ⟨some 22, .slice 1 (.t 20) none (some (.t 21)), none, []⟩,
 ⟨some 23, .mov (.t 0), none, []⟩,
 ⟨some 24, .mov (.t 2), none, []⟩,
 ⟨some 25, .slice 1 (.t 23) (some (.t 24)) none, none, []⟩,
 ⟨some 26, .append false 1 8 (.t 22) (.t 25), none, []⟩,
 ⟨some 0, .mov (.t 26), none, []⟩])
 (.seq (.region none [
 ⟨some 27, .mov (.t 0), none, []⟩,
 ⟨some 28, .mov (.t 0), none, []⟩,
 ⟨some 29, .len (.t 28), none, []⟩,
 ⟨some 30, .mov (.t 7), none, []⟩,
 ⟨some 31, .slice 1 (.t 27) (some (.t 29)) (some (.t 30)), none, []⟩,
 ⟨none, .clear (.int .i64 0) (.t 31), none, []⟩])
 (.seq (.region none [
 ⟨some 32, .mov (.t 0), none, []⟩,
 ⟨some 6, .mov (.t 32), none, []⟩])
 .ret)))))))
def af22 : AFun := ⟨.mut, 1, 22, body22, [.t 6]⟩

/-- (*umpirage/super.search).given -/
def body23 : ACode := (.seq (.region none [
 ⟨some 4, .mov (.c (.bool false)), none, []⟩])
 (.seq (.seq (.region none [
 ⟨some 10, .mov (.t 0), none, []⟩,
 ⟨some 11, .mov (.t 1), none, []⟩,
 ⟨some 12, .call (.c (.clo 49 [])) [(.t 10), (.t 11)], none, []⟩,
 ⟨some 9, .mov (.t 12), none, []⟩,
 ⟨some 13, .extract 0 (.t 9), none, []⟩,
 ⟨some 14, .extract 1 (.t 9), none, []⟩,
 ⟨some 5, .mov (.t 13), none, []⟩,
 ⟨some 6, .mov (.t 14), none, []⟩])
 (.seq (.region none [
 ⟨some 15, .mov (.t 6), none, []⟩])
 (.cond (.t 15)
 (.seq (.region none [
 ⟨some 16, .mov (.t 0), none, []⟩,
 ⟨some 17, .mov (.t 1), none, []⟩,
 ⟨some 18, .call (.c (.clo 20 [])) [(.t 16), (.t 17)], none, []⟩,
 ⟨some 4, .mov (.t 18), none, []⟩])
 .ret)
 .skip)))
 (.seq (.seq (.region none [
 ⟨some 19, .mov (.t 0), none, []⟩,
 ⟨some 20, .mov (.t 1), none, []⟩,
 ⟨some 21, .call (.c (.clo 50 [])) [(.t 19), (.t 20)], none, []⟩])
 (.cond (.t 21)
 (.seq (.region none [
 ⟨some 4, .mov (.c (.bool true)), none, []⟩])
 .ret)
 .skip))
 (.seq (.region none [
 ⟨some 22, .mov (.t 0), none, []⟩,
 ⟨some 23, .mov (.t 0), none, []⟩,
 ⟨some 24, .ncheck (.t 23), none, []⟩,
 ⟨some 25, .faddr 5 (.t 24), none, []⟩,
 ⟨some 26, .load 1 false (.t 25), none, []⟩,
 ⟨some 27, .mov (.t 1), none, []⟩,
 ⟨some 28, .bslice false 1 1 [(.int .i64 0)] [(0, 1, (.t 27))], none, []⟩,
 ⟨some 29, .append false 1 8 (.t 26) (.t 28), none, []⟩,
 ⟨some 30, .ncheck (.t 22), none, []⟩,
 ⟨some 31, .faddr 5 (.t 30), none, []⟩,
 ⟨none, .store 1 (.t 31) (.t 29), none, []⟩])
 (.seq (.seq (.region none [
 ⟨some 32, .mov (.t 0), none, []⟩,
 ⟨some 33, .ncheck (.t 32), none, []⟩,
 ⟨some 34, .faddr 5 (.t 33), none, []⟩,
 ⟨some 35, .load 1 false (.t 34), none, []⟩,
 ⟨some 36, .len (.t 35), none, []⟩,
 ⟨some 37, .mov (.c (.int .i64 0)), none, []⟩])
 (.block 0
 (.loop (.seq (.region none [
 ⟨some 38, .bin .lss (.t 37) (.t 36), none, []⟩])
 (.seq (.cond (.t 38)
 .skip
 (.exit 0))
 (.seq (.block 1
 (.seq (.region none [
 ⟨some 39, .iaddr 1 (.t 35) (.t 37), none, []⟩,
 ⟨some 40, .load 1 false (.t 39), none, []⟩,
 ⟨some 8, .mov (.t 40), none, []⟩])
 (.seq (.region none [
 ⟨some 41, .mov (.t 0), none, []⟩,
 ⟨some 42, .mov (.t 8), none, []⟩,
 ⟨some 43, .mov (.t 1), none, []⟩,
 ⟨some 44, .call (.c (.clo 51 [])) [(.t 41), (.t 42), (.t 43)], none, []⟩,
 ⟨some 45, .mov (.t 44), none, []⟩,
 ⟨some 46, .mov (.t 8), some (45, false), []⟩,
 ⟨some 47, .mov (.t 1), some (45, false), []⟩,
 ⟨some 48, .bin .neq (.t 46) (.t 47), some (45, false), []⟩,
 ⟨some 49, .mov (.t 48), some (45, false), []⟩,
 ⟨some 50, .mov (.t 0), some (49, true), []⟩,
 ⟨some 51, .mov (.t 1), some (49, true), []⟩,
 ⟨some 52, .mov (.t 8), some (49, true), []⟩,
 ⟨some 53, .call (.c (.clo 51 [])) [(.t 50), (.t 51), (.t 52)], some (49, true), []⟩,
 ⟨some 54, .pick (.t 49) (.t 53) (.c (.bool false)), some (45, false), []⟩,
 ⟨some 55, .pick (.t 45) (.c (.bool true)) (.t 54), none, []⟩])
 (.cond (.t 55)
 (.seq (.region none [
 ⟨some 4, .mov (.c (.bool true)), none, []⟩])
 .ret)
 .skip))))
 (.region none [
 ⟨some 56, .bin .add (.t 37) (.c (.int .i64 1)), none, []⟩,
 ⟨some 37, .mov (.t 56), none, []⟩])))))))
 (.seq (.region none [
 ⟨some 4, .mov (.c (.bool false)), none, []⟩])
 .ret))))))
def af23 : AFun := ⟨.mut, 1, 23, body23, [.t 4]⟩

/-- umpirage/umpiragelaw7.leaf -/
def body24 : ACode := (.seq (.region none [
 ⟨some 2, .lalloc (.agg [(.int .i64 0), .nilSlice]), none, []⟩])
 (.seq (.region none [
 ⟨some 3, .mov (.t 0), none, []⟩,
 ⟨some 4, .build [(.int .i64 0), .nilSlice] [(0, 1, (.t 3))], none, []⟩,
 ⟨none, .store 2 (.t 2) (.t 4), none, []⟩])
 .ret))
def af24 : AFun := ⟨.pure, 1, 24, body24, [.cell 2 2 true]⟩

/-- umpirage/umpirageref7.Trees -/
def body25 : ACode := (.seq (.region none [
 ⟨some 1, .fbox (.t 0), none, []⟩,
 ⟨some 2, .mov (.c .nilSlice), none, []⟩])
 (.seq (.region none [
 ⟨some 3, .mov (.c .nilSlice), none, []⟩])
 (.seq (.seq (.region none [
 ⟨some 4, .mov (.c (.int .i64 0)), none, []⟩])
 (.block 0
 (.loop (.seq (.seq (.region none [
 ⟨some 5, .mov (.t 4), none, []⟩,
 ⟨some 6, .faddr 0 (.t 1), none, []⟩,
 ⟨some 7, .load 1 false (.t 6), none, []⟩,
 ⟨some 8, .len (.t 7), none, []⟩,
 ⟨some 9, .bin .lss (.t 5) (.t 8), none, []⟩])
 (.cond (.t 9)
 .skip
 (.exit 0)))
 (.seq (.block 1
 (.seq (.region none [
 ⟨some 12, .mov (.t 3), none, []⟩,
 ⟨some 13, .faddr 0 (.t 1), none, []⟩,
 ⟨some 14, .load 1 false (.t 13), none, []⟩,
 ⟨some 15, .mov (.t 4), none, []⟩,
 ⟨some 16, .iaddr 5 (.t 14) (.t 15), none, []⟩,
 ⟨some 17, .faddr 1 (.t 16), none, []⟩,
 ⟨some 18, .load 2 true (.t 17), none, []⟩,
 ⟨some 19, .bslice false 2 1 [(.int .i64 0), .nilSlice] [(0, 2, (.t 18))], none, []⟩,
 ⟨some 20, .append false 2 32 (.t 12) (.t 19), none, []⟩,
 ⟨some 3, .mov (.t 20), none, []⟩])
 (.region none [
 ⟨some 21, .mov (.t 3), none, []⟩,
 ⟨some 22, .faddr 0 (.t 1), none, []⟩,
 ⟨some 23, .load 1 false (.t 22), none, []⟩,
 ⟨some 24, .mov (.t 4), none, []⟩,
 ⟨some 25, .iaddr 5 (.t 23) (.t 24), none, []⟩,
 ⟨some 26, .faddr 3 (.t 25), none, []⟩,
 ⟨some 27, .load 2 true (.t 26), none, []⟩,
 ⟨some 28, .bslice false 2 1 [(.int .i64 0), .nilSlice] [(0, 2, (.t 27))], none, []⟩,
 ⟨some 29, .append false 2 32 (.t 21) (.t 28), none, []⟩,
 ⟨some 3, .mov (.t 29), none, []⟩])))
 (.region none [
 ⟨some 10, .mov (.t 4), none, []⟩,
 ⟨some 11, .bin .add (.t 10) (.c (.int .i64 1)), none, []⟩,
 ⟨some 4, .mov (.t 11), none, []⟩]))))))
 (.seq (.region none [
 ⟨some 30, .mov (.t 3), none, []⟩,
 ⟨some 2, .mov (.t 30), none, []⟩])
 .ret))))
def af25 : AFun := ⟨.pure, 1, 25, body25, [.t 2]⟩

/-- umpirage/umpiragelaw7.vast -/
def body26 : ACode := (.seq (.region none [
 ⟨some 1, .fbox (.t 0), none, []⟩,
 ⟨some 2, .mov (.c (.bool false)), none, []⟩])
 (.seq (.region none [
 ⟨some 3, .load 2 true (.t 1), none, []⟩,
 ⟨some 4, .call (.c (.clo 52 [])) [(.t 3)], none, []⟩,
 ⟨some 5, .bin .gtr (.t 4) (.c (.int .i64 200)), none, []⟩,
 ⟨some 2, .mov (.t 5), none, []⟩])
 .ret))
def af26 : AFun := ⟨.pure, 1, 26, body26, [.t 2]⟩

/-- umpirage/umpirageref7.fault -/
def body27 : ACode := (.seq (.region none [
 ⟨some 4, .lalloc (.agg [(.int .i64 0), (.int .i64 0)]), none, []⟩])
 (.seq (.region none [
 ⟨some 5, .mov (.t 0), none, []⟩,
 ⟨some 6, .mov (.t 1), none, []⟩,
 ⟨some 7, .build [(.int .i64 0), (.int .i64 0)] [(0, 1, (.t 5)), (1, 1, (.t 6))], none, []⟩,
 ⟨none, .store 2 (.t 4) (.t 7), none, []⟩])
 .ret))
def af27 : AFun := ⟨.pure, 1, 27, body27, [.cell 4 2 true]⟩

/-- umpirage/umpirageref7.in -/
def body28 : ACode := (.seq (.region none [
 ⟨some 6, .mov (.c (.bool false)), none, []⟩])
 (.seq (.region none [
 ⟨some 7, .mov (.t 0), none, []⟩,
 ⟨some 8, .mov (.t 1), none, []⟩,
 ⟨some 9, .bin .geq (.t 7) (.t 8), none, []⟩,
 ⟨some 10, .mov (.t 9), none, []⟩,
 ⟨some 11, .mov (.t 0), some (10, true), []⟩,
 ⟨some 12, .mov (.t 2), some (10, true), []⟩,
 ⟨some 13, .bin .leq (.t 11) (.t 12), some (10, true), []⟩,
 ⟨some 14, .pick (.t 10) (.t 13) (.c (.bool false)), none, []⟩,
 ⟨some 6, .mov (.t 14), none, []⟩])
 .ret))
def af28 : AFun := ⟨.pure, 1, 28, body28, [.t 6]⟩

/-- umpirage/umpirageref7.Claim -/
def body29 : ACode := (.seq (.region none [
 ⟨some 2, .fbox (.t 0), none, []⟩,
 ⟨some 4, .mov (.c (.int .i64 0)), none, []⟩])
 (.seq (.seq (.region none [
 ⟨some 9, .faddr 0 (.t 2), none, []⟩,
 ⟨some 10, .load 1 false (.t 9), none, []⟩,
 ⟨some 11, .len (.t 10), none, []⟩,
 ⟨some 12, .bin .gtr (.t 11) (.c (.int .i64 6)), none, []⟩])
 (.cond (.t 12)
 (.seq (.region none [
 ⟨some 4, .mov (.c (.int .i64 2)), none, []⟩])
 .ret)
 .skip))
 (.seq (.region none [
 ⟨some 13, .load 1 true (.t 2), none, []⟩,
 ⟨some 14, .call (.c (.clo 25 [])) [(.t 13)], none, []⟩,
 ⟨some 5, .mov (.t 14), none, []⟩])
 (.seq (.seq (.region none [
 ⟨some 6, .mov (.c (.int .i64 0)), none, []⟩])
 (.block 0
 (.loop (.seq (.seq (.region none [
 ⟨some 15, .mov (.t 6), none, []⟩,
 ⟨some 16, .mov (.t 5), none, []⟩,
 ⟨some 17, .len (.t 16), none, []⟩,
 ⟨some 18, .bin .lss (.t 15) (.t 17), none, []⟩])
 (.cond (.t 18)
 .skip
 (.exit 0)))
 (.seq (.block 1
 (.seq (.region none [
 ⟨some 21, .mov (.t 5), none, []⟩,
 ⟨some 22, .mov (.t 6), none, []⟩,
 ⟨some 23, .iaddr 2 (.t 21) (.t 22), none, []⟩,
 ⟨some 24, .load 2 true (.t 23), none, []⟩,
 ⟨some 25, .call (.c (.clo 53 [])) [(.t 24)], none, []⟩,
 ⟨some 7, .lalloc (.agg [(.int .i64 0), (.int .i64 0)]), none, []⟩,
 ⟨none, .store 2 (.t 7) (.t 25), none, []⟩])
 (.seq (.seq (.region none [
 ⟨some 26, .faddr 0 (.t 7), none, []⟩,
 ⟨some 27, .load 1 false (.t 26), none, []⟩,
 ⟨some 28, .bin .neq (.t 27) (.c (.int .i64 0)), none, []⟩])
 (.cond (.t 28)
 (.seq (.region none [
 ⟨some 29, .faddr 0 (.t 7), none, []⟩,
 ⟨some 30, .load 1 false (.t 29), none, []⟩,
 ⟨some 4, .mov (.t 30), none, []⟩])
 .ret)
 .skip))
 (.seq (.region none [
 ⟨some 31, .mov (.t 5), none, []⟩,
 ⟨some 32, .mov (.t 6), none, []⟩,
 ⟨some 33, .iaddr 2 (.t 31) (.t 32), none, []⟩,
 ⟨some 34, .load 2 true (.t 33), none, []⟩,
 ⟨some 35, .mov (.t 1), none, []⟩,
 ⟨some 36, .call (.c (.clo 54 [])) [(.t 34), (.t 35)], none, []⟩,
 ⟨some 8, .mov (.t 36), none, []⟩])
 (.seq (.region none [
 ⟨some 37, .mov (.t 8), none, []⟩,
 ⟨some 38, .bin .neq (.t 37) (.c (.int .i64 0)), none, []⟩])
 (.cond (.t 38)
 (.seq (.region none [
 ⟨some 39, .mov (.t 8), none, []⟩,
 ⟨some 4, .mov (.t 39), none, []⟩])
 .ret)
 .skip))))))
 (.region none [
 ⟨some 19, .mov (.t 6), none, []⟩,
 ⟨some 20, .bin .add (.t 19) (.c (.int .i64 1)), none, []⟩,
 ⟨some 6, .mov (.t 20), none, []⟩]))))))
 (.seq (.region none [
 ⟨some 4, .mov (.c (.int .i64 0)), none, []⟩])
 .ret)))))
def af29 : AFun := ⟨.pure, 1, 29, body29, [.t 4]⟩

/-- umpirage/trace.Take -/
def body30 : ACode := (.seq (.region none [
 ⟨some 2, .fbox (.t 0), none, []⟩,
 ⟨some 4, .mov (.c .nilSlice), none, []⟩,
 ⟨some 5, .lalloc (.agg [(.int .i64 0), (.int .i64 0)]), none, []⟩])
 (.seq (.seq (.region none [
 ⟨some 12, .load 2 true (.t 2), none, []⟩,
 ⟨some 13, .call (.c (.clo 16 [])) [(.t 12)], none, []⟩,
 ⟨some 6, .lalloc (.agg [(.int .i64 0), (.int .i64 0)]), none, []⟩,
 ⟨none, .store 2 (.t 6) (.t 13), none, []⟩])
 (.seq (.region none [
 ⟨some 14, .load 2 true (.t 6), none, []⟩,
 ⟨some 15, .build [(.int .i64 0), (.int .i64 0)] [], none, []⟩,
 ⟨some 16, .eqs [0, 0] true (.t 14) (.t 15), none, []⟩])
 (.cond (.t 16)
 (.seq (.region (some [0, 0, 3]) [
 ⟨some 17, .load 2 true (.t 6), none, []⟩,
 ⟨some 4, .mov (.c .nilSlice), none, []⟩,
 ⟨none, .store 2 (.t 5) (.t 17), none, []⟩])
 .ret)
 .skip)))
 (.seq (.seq (.region none [
 ⟨some 18, .mov (.t 1), none, []⟩,
 ⟨some 19, .len (.t 18), none, []⟩,
 ⟨some 20, .bin .gtr (.t 19) (.c (.int .i64 400)), none, []⟩])
 (.cond (.t 20)
 (.seq (.region none [
 ⟨some 21, .call (.c (.clo 18 [])) [(.c (.int .i64 2)), (.c (.int .i64 (-1)))], none, []⟩,
 ⟨some 4, .mov (.c .nilSlice), none, []⟩,
 ⟨none, .store 2 (.t 5) (.t 21), none, []⟩])
 .ret)
 .skip))
 (.seq (.region none [
 ⟨some 7, .mov (.c .nilSlice), none, []⟩])
 (.seq (.seq (.region none [
 ⟨some 22, .mov (.t 1), none, []⟩,
 ⟨some 23, .len (.t 22), none, []⟩,
 ⟨some 24, .mov (.c (.int .i64 0)), none, []⟩])
 (.block 0
 (.loop (.seq (.region none [
 ⟨some 25, .bin .lss (.t 24) (.t 23), none, []⟩])
 (.seq (.cond (.t 25)
 .skip
 (.exit 0))
 (.seq (.block 1
 (.seq (.region none [
 ⟨some 26, .mov (.t 24), none, []⟩,
 ⟨some 27, .iaddr 8 (.t 22) (.t 24), none, []⟩,
 ⟨some 28, .load 8 true (.t 27), none, []⟩,
 ⟨some 9, .lalloc (.agg [(.int .i64 0), (.int .i64 0), (.int .i64 0), (.int .i64 0), (.int .i64 0), (.bool false), .nilSlice, .nilSlice]), none, []⟩,
 ⟨some 8, .mov (.t 26), none, []⟩,
 ⟨none, .store 8 (.t 9) (.t 28), none, []⟩])
 (.seq (.region none [
 ⟨some 30, .load 2 true (.t 2), none, []⟩,
 ⟨some 31, .mov (.t 7), none, []⟩,
 ⟨some 32, .load 8 true (.t 9), none, []⟩,
 ⟨some 33, .call (.c (.clo 40 [])) [(.t 30), (.t 31), (.t 32)], none, []⟩,
 ⟨some 29, .mov (.t 33), none, []⟩,
 ⟨some 34, .extract 0 (.t 29), none, []⟩,
 ⟨some 35, .extract 1 (.t 29), none, []⟩,
 ⟨some 10, .lalloc (.agg [.nilSlice]), none, []⟩,
 ⟨none, .store 1 (.t 10) (.t 34), none, []⟩,
 ⟨some 11, .mov (.t 35), none, []⟩])
 (.seq (.seq (.region none [
 ⟨some 36, .mov (.t 11), none, []⟩,
 ⟨some 37, .bin .neq (.t 36) (.c (.int .i64 0)), none, []⟩])
 (.cond (.t 37)
 (.seq (.region none [
 ⟨some 38, .mov (.t 11), none, []⟩,
 ⟨some 39, .mov (.t 8), none, []⟩,
 ⟨some 40, .call (.c (.clo 18 [])) [(.t 38), (.t 39)], none, []⟩,
 ⟨some 4, .mov (.c .nilSlice), none, []⟩,
 ⟨none, .store 2 (.t 5) (.t 40), none, []⟩])
 .ret)
 .skip))
 (.region none [
 ⟨some 41, .mov (.t 7), none, []⟩,
 ⟨some 42, .load 1 true (.t 10), none, []⟩,
 ⟨some 43, .bslice false 1 1 [.nilSlice] [(0, 1, (.t 42))], none, []⟩,
 ⟨some 44, .append false 1 24 (.t 41) (.t 43), none, []⟩,
 ⟨some 7, .mov (.t 44), none, []⟩])))))
 (.region none [
 ⟨some 45, .bin .add (.t 24) (.c (.int .i64 1)), none, []⟩,
 ⟨some 24, .mov (.t 45), none, []⟩])))))))
 (.seq (.region none [
 ⟨some 46, .mov (.t 7), none, []⟩,
 ⟨some 47, .build [(.int .i64 0), (.int .i64 0)] [], none, []⟩,
 ⟨some 4, .mov (.t 46), none, []⟩,
 ⟨none, .store 2 (.t 5) (.t 47), none, []⟩])
 .ret))))))
def af30 : AFun := ⟨.pure, 1, 30, body30, [.t 4, .cell 5 2 true]⟩

/-- umpirage/umpiragetop.treeOf -/
def body31 : ACode := (.seq (.region none [
 ⟨some 6, .lalloc (.agg [(.int .i64 0), .nilSlice]), none, []⟩,
 ⟨some 7, .mov (.c .nilSlice), none, []⟩])
 (.seq (.seq (.region none [
 ⟨some 11, .mov (.t 0), none, []⟩,
 ⟨some 12, .len (.t 11), none, []⟩,
 ⟨some 13, .bin .eql (.t 12) (.c (.int .i64 0)), none, []⟩])
 (.cond (.t 13)
 (.seq (.region none [
 ⟨some 14, .build [(.int .i64 0), .nilSlice] [(0, 1, (.c (.int .i64 1)))], none, []⟩,
 ⟨some 15, .mov (.t 0), none, []⟩,
 ⟨none, .store 2 (.t 6) (.t 14), none, []⟩,
 ⟨some 7, .mov (.t 15), none, []⟩])
 .ret)
 .skip))
 (.seq (.region none [
 ⟨some 16, .mov (.t 0), none, []⟩,
 ⟨some 17, .iaddr 1 (.t 16) (.c (.int .i64 0)), none, []⟩,
 ⟨some 18, .load 1 false (.t 17), none, []⟩,
 ⟨some 19, .call (.c (.clo 13 [])) [(.t 18), (.c (.int .i64 5))], none, []⟩,
 ⟨some 8, .mov (.t 19), none, []⟩])
 (.seq (.region none [
 ⟨some 20, .mov (.t 0), none, []⟩,
 ⟨some 21, .slice 1 (.t 20) (some (.c (.int .i64 1))) none, none, []⟩,
 ⟨some 0, .mov (.t 21), none, []⟩])
 (.seq (.seq (.region none [
 ⟨some 22, .mov (.t 8), none, []⟩,
 ⟨some 23, .bin .eql (.t 22) (.c (.int .i64 0)), none, []⟩,
 ⟨some 24, .mov (.t 23), none, []⟩,
 ⟨some 25, .mov (.t 1), some (24, false), []⟩,
 ⟨some 26, .bin .eql (.t 25) (.c (.int .i64 0)), some (24, false), []⟩,
 ⟨some 27, .pick (.t 24) (.c (.bool true)) (.t 26), none, []⟩])
 (.cond (.t 27)
 (.seq (.region none [
 ⟨some 28, .build [(.int .i64 0), .nilSlice] [(0, 1, (.c (.int .i64 1)))], none, []⟩,
 ⟨some 29, .mov (.t 0), none, []⟩,
 ⟨none, .store 2 (.t 6) (.t 28), none, []⟩,
 ⟨some 7, .mov (.t 29), none, []⟩])
 .ret)
 .skip))
 (.seq (.seq (.region none [
 ⟨some 30, .mov (.t 8), none, []⟩,
 ⟨some 31, .bin .eql (.t 30) (.c (.int .i64 1)), none, []⟩,
 ⟨some 32, .mov (.t 31), none, []⟩,
 ⟨some 33, .mov (.t 2), some (32, true), []⟩,
 ⟨some 34, .bin .gtr (.t 33) (.c (.int .i64 0)), some (32, true), []⟩,
 ⟨some 35, .pick (.t 32) (.t 34) (.c (.bool false)), none, []⟩])
 (.cond (.t 35)
 (.seq (.region none [
 ⟨some 36, .mov (.t 0), none, []⟩,
 ⟨some 37, .len (.t 36), none, []⟩,
 ⟨some 38, .mov (.t 2), none, []⟩,
 ⟨some 39, .call (.c (.clo 13 [])) [(.t 37), (.t 38)], none, []⟩,
 ⟨some 40, .bin .sub (.c (.int .i64 (-1))) (.t 39), none, []⟩,
 ⟨some 41, .build [(.int .i64 0), .nilSlice] [(0, 1, (.t 40))], none, []⟩,
 ⟨some 42, .mov (.t 0), none, []⟩,
 ⟨none, .store 2 (.t 6) (.t 41), none, []⟩,
 ⟨some 7, .mov (.t 42), none, []⟩])
 .ret)
 .skip))
 (.seq (.region none [
 ⟨some 44, .mov (.t 0), none, []⟩,
 ⟨some 45, .mov (.t 1), none, []⟩,
 ⟨some 46, .bin .sub (.t 45) (.c (.int .i64 1)), none, []⟩,
 ⟨some 47, .mov (.t 2), none, []⟩,
 ⟨some 48, .call (.c (.clo 31 [])) [(.t 44), (.t 46), (.t 47)], none, []⟩,
 ⟨some 43, .mov (.t 48), none, []⟩,
 ⟨some 49, .extract 0 (.t 43), none, []⟩,
 ⟨some 50, .extract 1 (.t 43), none, []⟩,
 ⟨some 9, .lalloc (.agg [(.int .i64 0), .nilSlice]), none, []⟩,
 ⟨none, .store 2 (.t 9) (.t 49), none, []⟩,
 ⟨some 0, .mov (.t 50), none, []⟩])
 (.seq (.seq (.region none [
 ⟨some 51, .mov (.t 8), none, []⟩,
 ⟨some 52, .bin .lss (.t 51) (.c (.int .i64 4)), none, []⟩])
 (.cond (.t 52)
 (.seq (.region none [
 ⟨some 53, .load 2 true (.t 9), none, []⟩,
 ⟨some 54, .bslice false 2 1 [(.int .i64 0), .nilSlice] [(0, 2, (.t 53))], none, []⟩,
 ⟨some 55, .build [(.int .i64 0), .nilSlice] [(0, 1, (.c (.int .i64 2))), (1, 1, (.t 54))], none, []⟩,
 ⟨some 56, .mov (.t 0), none, []⟩,
 ⟨none, .store 2 (.t 6) (.t 55), none, []⟩,
 ⟨some 7, .mov (.t 56), none, []⟩])
 .ret)
 .skip))
 (.seq (.region none [
 ⟨some 58, .mov (.t 0), none, []⟩,
 ⟨some 59, .mov (.t 1), none, []⟩,
 ⟨some 60, .bin .sub (.t 59) (.c (.int .i64 1)), none, []⟩,
 ⟨some 61, .mov (.t 2), none, []⟩,
 ⟨some 62, .call (.c (.clo 31 [])) [(.t 58), (.t 60), (.t 61)], none, []⟩,
 ⟨some 57, .mov (.t 62), none, []⟩,
 ⟨some 63, .extract 0 (.t 57), none, []⟩,
 ⟨some 64, .extract 1 (.t 57), none, []⟩,
 ⟨some 10, .lalloc (.agg [(.int .i64 0), .nilSlice]), none, []⟩,
 ⟨none, .store 2 (.t 10) (.t 63), none, []⟩,
 ⟨some 0, .mov (.t 64), none, []⟩])
 (.seq (.region none [
 ⟨some 65, .load 2 true (.t 9), none, []⟩,
 ⟨some 66, .load 2 true (.t 10), none, []⟩,
 ⟨some 67, .bslice false 2 2 [(.int .i64 0), .nilSlice, (.int .i64 0), .nilSlice] [(0, 2, (.t 65)), (2, 2, (.t 66))], none, []⟩,
 ⟨some 68, .build [(.int .i64 0), .nilSlice] [(0, 1, (.c (.int .i64 3))), (1, 1, (.t 67))], none, []⟩,
 ⟨some 69, .mov (.t 0), none, []⟩,
 ⟨none, .store 2 (.t 6) (.t 68), none, []⟩,
 ⟨some 7, .mov (.t 69), none, []⟩])
 .ret))))))))))
def af31 : AFun := ⟨.pure, 1, 31, body31, [.cell 6 2 true, .t 7]⟩

/-- umpirage/eltool.ClaimMost -/
def body32 : ACode := (.seq (.region none [
 ⟨some 1, .fbox (.t 0), none, []⟩,
 ⟨some 2, .mov (.c (.int .i64 0)), none, []⟩])
 (.seq (.region none [
 ⟨some 3, .mov (.c (.int .i64 0)), none, []⟩])
 (.seq (.seq (.region none [
 ⟨some 6, .faddr 0 (.t 1), none, []⟩,
 ⟨some 7, .load 1 false (.t 6), none, []⟩,
 ⟨some 8, .len (.t 7), none, []⟩,
 ⟨some 9, .mov (.c (.int .i64 0)), none, []⟩])
 (.block 0
 (.loop (.seq (.region none [
 ⟨some 10, .bin .lss (.t 9) (.t 8), none, []⟩])
 (.seq (.cond (.t 10)
 .skip
 (.exit 0))
 (.seq (.block 1
 (.seq (.region none [
 ⟨some 11, .iaddr 5 (.t 7) (.t 9), none, []⟩,
 ⟨some 12, .load 5 true (.t 11), none, []⟩,
 ⟨some 5, .lalloc (.agg [(.bool false), (.int .i64 0), .nilSlice, (.int .i64 0), .nilSlice]), none, []⟩,
 ⟨none, .store 5 (.t 5) (.t 12), none, []⟩])
 (.region (some [0, 0, 2, 6, 0, 16, 62, 127, 255]) [
 ⟨some 13, .mov (.t 3), none, []⟩,
 ⟨some 14, .faddr 1 (.t 5), none, []⟩,
 ⟨some 15, .load 2 true (.t 14), none, []⟩,
 ⟨some 16, .call (.c (.clo 55 [])) [(.t 15)], none, []⟩,
 ⟨some 17, .faddr 3 (.t 5), none, []⟩,
 ⟨some 18, .load 2 true (.t 17), none, []⟩,
 ⟨some 19, .call (.c (.clo 55 [])) [(.t 18)], none, []⟩,
 ⟨some 20, .max (.t 13) (.t 16) [(.t 19)], none, []⟩,
 ⟨some 3, .mov (.t 20), none, []⟩])))
 (.region none [
 ⟨some 21, .bin .add (.t 9) (.c (.int .i64 1)), none, []⟩,
 ⟨some 9, .mov (.t 21), none, []⟩])))))))
 (.seq (.region none [
 ⟨some 22, .mov (.t 3), none, []⟩,
 ⟨some 2, .mov (.t 22), none, []⟩])
 .ret))))
def af32 : AFun := ⟨.pure, 1, 32, body32, [.t 2]⟩

/-- (*umpirage/find.finder).fine -/
def body33 : ACode := (.seq (.region none [
 ⟨some 2, .mov (.c (.bool false)), none, []⟩])
 (.seq (.seq (.region none [
 ⟨some 8, .mov (.t 0), none, []⟩,
 ⟨some 9, .ncheck (.t 8), none, []⟩,
 ⟨some 10, .faddr 0 (.t 9), none, []⟩,
 ⟨some 11, .faddr 1 (.t 10), none, []⟩,
 ⟨some 12, .load 1 false (.t 11), none, []⟩,
 ⟨some 13, .len (.t 12), none, []⟩,
 ⟨some 14, .mov (.c (.int .i64 0)), none, []⟩])
 (.block 0
 (.loop (.seq (.region none [
 ⟨some 15, .bin .lss (.t 14) (.t 13), none, []⟩])
 (.seq (.cond (.t 15)
 .skip
 (.exit 0))
 (.seq (.block 1
 (.seq (.region none [
 ⟨some 16, .iaddr 1 (.t 12) (.t 14), none, []⟩,
 ⟨some 17, .load 1 true (.t 16), none, []⟩,
 ⟨some 4, .lalloc (.agg [.nilSlice]), none, []⟩,
 ⟨none, .store 1 (.t 4) (.t 17), none, []⟩])
 (.seq (.region none [
 ⟨some 18, .load 1 true (.t 4), none, []⟩,
 ⟨some 19, .call (.c (.clo 32 [])) [(.t 18)], none, []⟩,
 ⟨some 5, .mov (.t 19), none, []⟩])
 (.seq (.region none [
 ⟨some 20, .mov (.t 5), none, []⟩,
 ⟨some 21, .mkslice 1 8 (.int .i64 0) (.t 20) (.t 20), none, []⟩,
 ⟨some 6, .mov (.t 21), none, []⟩])
 (.block 2
 (.loop (.block 3
 (.seq (.seq (.region none [
 ⟨some 22, .mov (.t 0), none, []⟩,
 ⟨some 23, .load 1 true (.t 4), none, []⟩,
 ⟨some 24, .mov (.t 6), none, []⟩,
 ⟨some 25, .call (.c (.clo 56 [])) [(.t 22), (.t 23), (.t 24)], none, []⟩])
 (.cond (.t 25)
 (.seq (.region none [
 ⟨some 2, .mov (.c (.bool false)), none, []⟩])
 .ret)
 .skip))
 (.seq (.region none [
 ⟨some 26, .mov (.t 5), none, []⟩,
 ⟨some 27, .bin .sub (.t 26) (.c (.int .i64 1)), none, []⟩,
 ⟨some 7, .mov (.t 27), none, []⟩])
 (.seq (.block 4
 (.loop (.seq (.seq (.region (some [0, 1, 3, 7, 7, 31, 63, 7, 135, 391, 903, 1927, 3975, 8191, 16383]) [
 ⟨some 28, .mov (.t 7), none, []⟩,
 ⟨some 29, .bin .geq (.t 28) (.c (.int .i64 0)), none, []⟩,
 ⟨some 30, .mov (.t 29), none, []⟩,
 ⟨some 31, .mov (.t 6), some (30, true), []⟩,
 ⟨some 32, .mov (.t 7), some (30, true), []⟩,
 ⟨some 33, .iaddr 1 (.t 31) (.t 32), some (30, true), []⟩,
 ⟨some 34, .load 1 false (.t 33), some (30, true), []⟩,
 ⟨some 35, .mov (.t 0), some (30, true), []⟩,
 ⟨some 36, .ncheck (.t 35), some (30, true), []⟩,
 ⟨some 37, .faddr 2 (.t 36), some (30, true), []⟩,
 ⟨some 38, .faddr 0 (.t 37), some (30, true), []⟩,
 ⟨some 39, .load 1 false (.t 38), some (30, true), []⟩,
 ⟨some 40, .bin .sub (.t 39) (.c (.int .i64 1)), some (30, true), []⟩,
 ⟨some 41, .bin .eql (.t 34) (.t 40), some (30, true), []⟩,
 ⟨some 42, .pick (.t 30) (.t 41) (.c (.bool false)), none, []⟩])
 (.cond (.t 42)
 .skip
 (.exit 4)))
 (.block 5
 (.seq (.region none [
 ⟨some 43, .mov (.t 6), none, []⟩,
 ⟨some 44, .mov (.t 7), none, []⟩,
 ⟨some 45, .iaddr 1 (.t 43) (.t 44), none, []⟩,
 ⟨none, .store 1 (.t 45) (.c (.int .i64 0)), none, []⟩])
 (.region none [
 ⟨some 46, .mov (.t 7), none, []⟩,
 ⟨some 47, .bin .sub (.t 46) (.c (.int .i64 1)), none, []⟩,
 ⟨some 7, .mov (.t 47), none, []⟩]))))))
 (.seq (.seq (.region none [
 ⟨some 48, .mov (.t 7), none, []⟩,
 ⟨some 49, .bin .lss (.t 48) (.c (.int .i64 0)), none, []⟩])
 (.cond (.t 49)
 (.exit 2)
 .skip))
 (.region none [
 ⟨some 50, .mov (.t 6), none, []⟩,
 ⟨some 51, .mov (.t 7), none, []⟩,
 ⟨some 52, .iaddr 1 (.t 50) (.t 51), none, []⟩,
 ⟨some 53, .load 1 false (.t 52), none, []⟩,
 ⟨some 54, .bin .add (.t 53) (.c (.int .i64 1)), none, []⟩,
 ⟨some 55, .iaddr 1 (.t 50) (.t 51), none, []⟩,
 ⟨none, .store 1 (.t 55) (.t 54), none, []⟩]))))))))))))
 (.region none [
 ⟨some 56, .bin .add (.t 14) (.c (.int .i64 1)), none, []⟩,
 ⟨some 14, .mov (.t 56), none, []⟩])))))))
 (.seq (.region none [
 ⟨some 2, .mov (.c (.bool true)), none, []⟩])
 .ret)))
def af33 : AFun := ⟨.pure, 1, 33, body33, [.t 2]⟩

/-- (*umpirage/find.finder).from -/
def body34 : ACode := (.seq (.region none [
 ⟨some 6, .mov (.c (.int .i64 0)), none, []⟩])
 (.seq (.seq (.region none [
 ⟨some 9, .mov (.t 1), none, []⟩,
 ⟨some 10, .mov (.t 0), none, []⟩,
 ⟨some 11, .ncheck (.t 10), none, []⟩,
 ⟨some 12, .faddr 2 (.t 11), none, []⟩,
 ⟨some 13, .faddr 1 (.t 12), none, []⟩,
 ⟨some 14, .load 1 false (.t 13), none, []⟩,
 ⟨some 15, .len (.t 14), none, []⟩,
 ⟨some 16, .bin .eql (.t 9) (.t 15), none, []⟩])
 (.cond (.t 16)
 (.seq (.region none [
 ⟨some 6, .mov (.c (.int .i64 1)), none, []⟩])
 .ret)
 .skip))
 (.seq (.seq (.region none [
 ⟨some 17, .mov (.t 2), none, []⟩,
 ⟨some 18, .mov (.t 0), none, []⟩,
 ⟨some 19, .ncheck (.t 18), none, []⟩,
 ⟨some 20, .faddr 2 (.t 19), none, []⟩,
 ⟨some 21, .faddr 1 (.t 20), none, []⟩,
 ⟨some 22, .load 1 false (.t 21), none, []⟩,
 ⟨some 23, .mov (.t 1), none, []⟩,
 ⟨some 24, .iaddr 1 (.t 22) (.t 23), none, []⟩,
 ⟨some 25, .load 1 false (.t 24), none, []⟩,
 ⟨some 26, .len (.t 25), none, []⟩,
 ⟨some 27, .bin .eql (.t 17) (.t 26), none, []⟩])
 (.cond (.t 27)
 (.seq (.region none [
 ⟨some 28, .mov (.t 0), none, []⟩,
 ⟨some 29, .mov (.t 1), none, []⟩,
 ⟨some 30, .bin .add (.t 29) (.c (.int .i64 1)), none, []⟩,
 ⟨some 31, .call (.c (.clo 34 [])) [(.t 28), (.t 30), (.c (.int .i64 0))], none, []⟩,
 ⟨some 6, .mov (.t 31), none, []⟩])
 .ret)
 .skip))
 (.seq (.seq (.region none [
 ⟨some 32, .mov (.t 0), none, []⟩,
 ⟨some 33, .ncheck (.t 32), none, []⟩,
 ⟨some 34, .faddr 2 (.t 33), none, []⟩,
 ⟨some 35, .faddr 0 (.t 34), none, []⟩,
 ⟨some 36, .load 1 false (.t 35), none, []⟩,
 ⟨some 37, .mov (.c (.int .i64 0)), none, []⟩])
 (.block 0
 (.loop (.seq (.region none [
 ⟨some 38, .bin .lss (.t 37) (.t 36), none, []⟩])
 (.seq (.cond (.t 38)
 .skip
 (.exit 0))
 (.seq (.block 1
 (.seq (.region none [
 ⟨some 39, .mov (.t 37), none, []⟩,
 ⟨some 7, .mov (.t 39), none, []⟩])
 (.seq (.seq (.region none [
 ⟨some 40, .mov (.t 0), none, []⟩,
 ⟨some 41, .ncheck (.t 40), none, []⟩,
 ⟨some 42, .faddr 4 (.t 41), none, []⟩,
 ⟨some 43, .load 1 false (.t 42), none, []⟩,
 ⟨some 44, .bin .eql (.t 43) (.c (.int .i64 0)), none, []⟩])
 (.cond (.t 44)
 (.seq (.region none [
 ⟨some 6, .mov (.c (.int .i64 3)), none, []⟩])
 .ret)
 .skip))
 (.seq (.region none [
 ⟨some 45, .mov (.t 0), none, []⟩,
 ⟨some 46, .ncheck (.t 45), none, []⟩,
 ⟨some 47, .faddr 4 (.t 46), none, []⟩,
 ⟨some 48, .load 1 false (.t 47), none, []⟩,
 ⟨some 49, .bin .sub (.t 48) (.c (.int .i64 1)), none, []⟩,
 ⟨some 50, .ncheck (.t 45), none, []⟩,
 ⟨some 51, .faddr 4 (.t 50), none, []⟩,
 ⟨none, .store 1 (.t 51) (.t 49), none, []⟩])
 (.seq (.region none [
 ⟨some 52, .mov (.t 0), none, []⟩,
 ⟨some 53, .ncheck (.t 52), none, []⟩,
 ⟨some 54, .faddr 2 (.t 53), none, []⟩,
 ⟨some 55, .faddr 1 (.t 54), none, []⟩,
 ⟨some 56, .load 1 false (.t 55), none, []⟩,
 ⟨some 57, .mov (.t 1), none, []⟩,
 ⟨some 58, .iaddr 1 (.t 56) (.t 57), none, []⟩,
 ⟨some 59, .load 1 false (.t 58), none, []⟩,
 ⟨some 60, .mov (.t 2), none, []⟩,
 ⟨some 61, .mov (.t 7), none, []⟩,
 ⟨some 62, .iaddr 1 (.t 59) (.t 60), none, []⟩,
 ⟨none, .store 1 (.t 62) (.t 61), none, []⟩])
 (.seq (.region none [
 ⟨some 63, .mov (.t 0), none, []⟩,
 ⟨some 64, .call (.c (.clo 33 [])) [(.t 63)], none, []⟩])
 (.cond (.t 64)
 (.seq (.region none [
 ⟨some 65, .mov (.t 0), none, []⟩,
 ⟨some 66, .mov (.t 1), none, []⟩,
 ⟨some 67, .mov (.t 2), none, []⟩,
 ⟨some 68, .bin .add (.t 67) (.c (.int .i64 1)), none, []⟩,
 ⟨some 69, .call (.c (.clo 34 [])) [(.t 65), (.t 66), (.t 68)], none, []⟩,
 ⟨some 8, .mov (.t 69), none, []⟩])
 (.seq (.region none [
 ⟨some 70, .mov (.t 8), none, []⟩,
 ⟨some 71, .bin .neq (.t 70) (.c (.int .i64 2)), none, []⟩])
 (.cond (.t 71)
 (.seq (.region none [
 ⟨some 72, .mov (.t 8), none, []⟩,
 ⟨some 6, .mov (.t 72), none, []⟩])
 .ret)
 .skip)))
 .skip)))))))
 (.region none [
 ⟨some 73, .bin .add (.t 37) (.c (.int .i64 1)), none, []⟩,
 ⟨some 37, .mov (.t 73), none, []⟩])))))))
 (.seq (.region none [
 ⟨some 74, .mov (.t 0), none, []⟩,
 ⟨some 75, .ncheck (.t 74), none, []⟩,
 ⟨some 76, .faddr 2 (.t 75), none, []⟩,
 ⟨some 77, .faddr 1 (.t 76), none, []⟩,
 ⟨some 78, .load 1 false (.t 77), none, []⟩,
 ⟨some 79, .mov (.t 1), none, []⟩,
 ⟨some 80, .iaddr 1 (.t 78) (.t 79), none, []⟩,
 ⟨some 81, .load 1 false (.t 80), none, []⟩,
 ⟨some 82, .mov (.t 2), none, []⟩,
 ⟨some 83, .iaddr 1 (.t 81) (.t 82), none, []⟩,
 ⟨none, .store 1 (.t 83) (.c (.int .i64 (-1))), none, []⟩])
 (.seq (.region none [
 ⟨some 6, .mov (.c (.int .i64 2)), none, []⟩])
 .ret))))))
def af34 : AFun := ⟨.mut, 1, 34, body34, [.t 6]⟩

/-- umpirage/table.Check -/
def body35 : ACode := (.seq (.region none [
 ⟨some 2, .fbox (.t 0), none, []⟩,
 ⟨some 3, .fbox (.t 1), none, []⟩,
 ⟨some 4, .lalloc (.agg [(.int .i64 0), (.int .i64 0)]), none, []⟩])
 (.seq (.seq (.region none [
 ⟨some 10, .load 2 true (.t 2), none, []⟩,
 ⟨some 11, .call (.c (.clo 16 [])) [(.t 10)], none, []⟩,
 ⟨some 5, .lalloc (.agg [(.int .i64 0), (.int .i64 0)]), none, []⟩,
 ⟨none, .store 2 (.t 5) (.t 11), none, []⟩])
 (.seq (.region none [
 ⟨some 12, .load 2 true (.t 5), none, []⟩,
 ⟨some 13, .build [(.int .i64 0), (.int .i64 0)] [], none, []⟩,
 ⟨some 14, .eqs [0, 0] true (.t 12) (.t 13), none, []⟩])
 (.cond (.t 14)
 (.seq (.region none [
 ⟨some 15, .load 2 true (.t 5), none, []⟩,
 ⟨none, .store 2 (.t 4) (.t 15), none, []⟩])
 .ret)
 .skip)))
 (.seq (.seq (.region none [
 ⟨some 16, .faddr 0 (.t 3), none, []⟩,
 ⟨some 17, .load 1 false (.t 16), none, []⟩,
 ⟨some 18, .call (.c (.clo 17 [])) [(.t 17), (.c (.int .i64 1)), (.c (.int .i64 4))], none, []⟩,
 ⟨some 19, .un .not (.t 18), none, []⟩])
 (.cond (.t 19)
 (.seq (.region none [
 ⟨some 20, .call (.c (.clo 18 [])) [(.c (.int .i64 3)), (.c (.int .i64 (-1)))], none, []⟩,
 ⟨none, .store 2 (.t 4) (.t 20), none, []⟩])
 .ret)
 .skip))
 (.seq (.seq (.region none [
 ⟨some 21, .faddr 1 (.t 3), none, []⟩,
 ⟨some 22, .load 1 false (.t 21), none, []⟩,
 ⟨some 23, .len (.t 22), none, []⟩,
 ⟨some 24, .faddr 0 (.t 2), none, []⟩,
 ⟨some 25, .load 1 false (.t 24), none, []⟩,
 ⟨some 26, .len (.t 25), none, []⟩,
 ⟨some 27, .bin .neq (.t 23) (.t 26), none, []⟩])
 (.cond (.t 27)
 (.seq (.region none [
 ⟨some 28, .call (.c (.clo 18 [])) [(.c (.int .i64 9)), (.c (.int .i64 (-1)))], none, []⟩,
 ⟨none, .store 2 (.t 4) (.t 28), none, []⟩])
 .ret)
 .skip))
 (.seq (.seq (.region none [
 ⟨some 29, .faddr 1 (.t 3), none, []⟩,
 ⟨some 30, .load 1 false (.t 29), none, []⟩,
 ⟨some 31, .len (.t 30), none, []⟩,
 ⟨some 32, .mov (.c (.int .i64 0)), none, []⟩])
 (.block 0
 (.loop (.seq (.region none [
 ⟨some 33, .bin .lss (.t 32) (.t 31), none, []⟩])
 (.seq (.cond (.t 33)
 .skip
 (.exit 0))
 (.seq (.block 1
 (.seq (.region none [
 ⟨some 34, .mov (.t 32), none, []⟩,
 ⟨some 35, .iaddr 1 (.t 30) (.t 32), none, []⟩,
 ⟨some 36, .load 1 false (.t 35), none, []⟩,
 ⟨some 6, .mov (.t 34), none, []⟩,
 ⟨some 7, .mov (.t 36), none, []⟩])
 (.seq (.seq (.region (some [0, 1, 0, 4, 0, 16, 0, 112, 240, 508, 1023]) [
 ⟨some 37, .mov (.t 7), none, []⟩,
 ⟨some 38, .len (.t 37), none, []⟩,
 ⟨some 39, .faddr 0 (.t 3), none, []⟩,
 ⟨some 40, .load 1 false (.t 39), none, []⟩,
 ⟨some 41, .faddr 0 (.t 2), none, []⟩,
 ⟨some 42, .load 1 false (.t 41), none, []⟩,
 ⟨some 43, .mov (.t 6), none, []⟩,
 ⟨some 44, .iaddr 1 (.t 42) (.t 43), none, []⟩,
 ⟨some 45, .load 1 false (.t 44), none, []⟩,
 ⟨some 46, .call (.c (.clo 36 [])) [(.t 40), (.t 45)], none, []⟩,
 ⟨some 47, .bin .neq (.t 38) (.t 46), none, []⟩])
 (.cond (.t 47)
 (.seq (.region none [
 ⟨some 48, .mov (.t 6), none, []⟩,
 ⟨some 49, .call (.c (.clo 18 [])) [(.c (.int .i64 9)), (.t 48)], none, []⟩,
 ⟨none, .store 2 (.t 4) (.t 49), none, []⟩])
 .ret)
 .skip))
 (.seq (.region none [
 ⟨some 50, .mov (.t 7), none, []⟩,
 ⟨some 51, .len (.t 50), none, []⟩,
 ⟨some 52, .mov (.c (.int .i64 0)), none, []⟩])
 (.block 2
 (.loop (.seq (.region none [
 ⟨some 53, .bin .lss (.t 52) (.t 51), none, []⟩])
 (.seq (.cond (.t 53)
 .skip
 (.exit 2))
 (.seq (.block 3
 (.seq (.region none [
 ⟨some 54, .iaddr 1 (.t 50) (.t 52), none, []⟩,
 ⟨some 55, .load 1 false (.t 54), none, []⟩,
 ⟨some 9, .mov (.t 55), none, []⟩])
 (.seq (.region none [
 ⟨some 56, .mov (.t 9), none, []⟩,
 ⟨some 57, .faddr 0 (.t 3), none, []⟩,
 ⟨some 58, .load 1 false (.t 57), none, []⟩,
 ⟨some 59, .bin .sub (.t 58) (.c (.int .i64 1)), none, []⟩,
 ⟨some 60, .call (.c (.clo 17 [])) [(.t 56), (.c (.int .i64 0)), (.t 59)], none, []⟩,
 ⟨some 61, .un .not (.t 60), none, []⟩])
 (.cond (.t 61)
 (.seq (.region none [
 ⟨some 62, .mov (.t 6), none, []⟩,
 ⟨some 63, .call (.c (.clo 18 [])) [(.c (.int .i64 3)), (.t 62)], none, []⟩,
 ⟨none, .store 2 (.t 4) (.t 63), none, []⟩])
 .ret)
 .skip))))
 (.region none [
 ⟨some 64, .bin .add (.t 52) (.c (.int .i64 1)), none, []⟩,
 ⟨some 52, .mov (.t 64), none, []⟩]))))))))))
 (.region none [
 ⟨some 65, .bin .add (.t 32) (.c (.int .i64 1)), none, []⟩,
 ⟨some 32, .mov (.t 65), none, []⟩])))))))
 (.seq (.region none [
 ⟨some 66, .build [(.int .i64 0), (.int .i64 0)] [], none, []⟩,
 ⟨none, .store 2 (.t 4) (.t 66), none, []⟩])
 .ret))))))
def af35 : AFun := ⟨.pure, 1, 35, body35, [.cell 4 2 true]⟩

/-- umpirage/table.power -/
def body36 : ACode := (.seq (.region none [
 ⟨some 4, .mov (.c (.int .i64 0)), none, []⟩])
 (.seq (.region none [
 ⟨some 5, .mov (.c (.int .i64 1)), none, []⟩])
 (.seq (.seq (.region none [
 ⟨some 6, .mov (.t 1), none, []⟩,
 ⟨some 7, .mov (.c (.int .i64 0)), none, []⟩])
 (.block 0
 (.loop (.seq (.region none [
 ⟨some 8, .bin .lss (.t 7) (.t 6), none, []⟩])
 (.seq (.cond (.t 8)
 .skip
 (.exit 0))
 (.seq (.block 1
 (.region none [
 ⟨some 9, .mov (.t 5), none, []⟩,
 ⟨some 10, .mov (.t 0), none, []⟩,
 ⟨some 11, .bin .mul (.t 9) (.t 10), none, []⟩,
 ⟨some 5, .mov (.t 11), none, []⟩]))
 (.region none [
 ⟨some 12, .bin .add (.t 7) (.c (.int .i64 1)), none, []⟩,
 ⟨some 7, .mov (.t 12), none, []⟩])))))))
 (.seq (.region none [
 ⟨some 13, .mov (.t 5), none, []⟩,
 ⟨some 4, .mov (.t 13), none, []⟩])
 .ret))))
def af36 : AFun := ⟨.pure, 1, 36, body36, [.t 4]⟩

/-- umpirage/table.All -/
def body37 : ACode := (.seq (.region none [
 ⟨some 2, .fbox (.t 0), none, []⟩,
 ⟨some 3, .fbox (.t 1), none, []⟩,
 ⟨some 4, .mov (.c (.bool false)), none, []⟩])
 (.seq (.region none [
 ⟨some 9, .load 1 true (.t 3), none, []⟩,
 ⟨some 10, .call (.c (.clo 32 [])) [(.t 9)], none, []⟩,
 ⟨some 5, .mov (.t 10), none, []⟩])
 (.seq (.seq (.region none [
 ⟨some 11, .faddr 0 (.t 2), none, []⟩,
 ⟨some 12, .load 1 false (.t 11), none, []⟩,
 ⟨some 13, .mov (.t 5), none, []⟩,
 ⟨some 14, .call (.c (.clo 36 [])) [(.t 12), (.t 13)], none, []⟩,
 ⟨some 15, .mov (.c (.int .i64 0)), none, []⟩])
 (.block 0
 (.loop (.seq (.region none [
 ⟨some 16, .bin .lss (.t 15) (.t 14), none, []⟩])
 (.seq (.cond (.t 16)
 .skip
 (.exit 0))
 (.seq (.block 1
 (.seq (.region none [
 ⟨some 17, .mov (.t 15), none, []⟩,
 ⟨some 6, .mov (.t 17), none, []⟩])
 (.seq (.region none [
 ⟨some 18, .mov (.t 5), none, []⟩,
 ⟨some 19, .mkslice 1 8 (.int .i64 0) (.t 18) (.t 18), none, []⟩,
 ⟨some 7, .mov (.t 19), none, []⟩])
 (.seq (.seq (.region none [
 ⟨some 20, .mov (.t 5), none, []⟩,
 ⟨some 21, .bin .sub (.t 20) (.c (.int .i64 1)), none, []⟩,
 ⟨some 8, .mov (.t 21), none, []⟩])
 (.block 2
 (.loop (.seq (.seq (.region none [
 ⟨some 22, .mov (.t 8), none, []⟩,
 ⟨some 23, .bin .geq (.t 22) (.c (.int .i64 0)), none, []⟩])
 (.cond (.t 23)
 .skip
 (.exit 2)))
 (.seq (.block 3
 (.seq (.region none [
 ⟨some 26, .mov (.t 7), none, []⟩,
 ⟨some 27, .mov (.t 8), none, []⟩,
 ⟨some 28, .mov (.t 6), none, []⟩,
 ⟨some 29, .faddr 0 (.t 2), none, []⟩,
 ⟨some 30, .load 1 false (.t 29), none, []⟩,
 ⟨some 31, .bin .rem (.t 28) (.t 30), none, []⟩,
 ⟨some 32, .iaddr 1 (.t 26) (.t 27), none, []⟩,
 ⟨none, .store 1 (.t 32) (.t 31), none, []⟩])
 (.region none [
 ⟨some 33, .mov (.t 6), none, []⟩,
 ⟨some 34, .faddr 0 (.t 2), none, []⟩,
 ⟨some 35, .load 1 false (.t 34), none, []⟩,
 ⟨some 36, .bin .quo (.t 33) (.t 35), none, []⟩,
 ⟨some 6, .mov (.t 36), none, []⟩])))
 (.region none [
 ⟨some 24, .mov (.t 8), none, []⟩,
 ⟨some 25, .bin .sub (.t 24) (.c (.int .i64 1)), none, []⟩,
 ⟨some 8, .mov (.t 25), none, []⟩]))))))
 (.seq (.region none [
 ⟨some 37, .load 2 true (.t 2), none, []⟩,
 ⟨some 38, .load 1 true (.t 3), none, []⟩,
 ⟨some 39, .mov (.t 7), none, []⟩,
 ⟨some 40, .call (.c (.clo 57 [])) [(.t 37), (.t 38), (.t 39)], none, []⟩,
 ⟨some 41, .un .not (.t 40), none, []⟩])
 (.cond (.t 41)
 (.seq (.region none [
 ⟨some 4, .mov (.c (.bool false)), none, []⟩])
 .ret)
 .skip))))))
 (.region none [
 ⟨some 42, .bin .add (.t 15) (.c (.int .i64 1)), none, []⟩,
 ⟨some 15, .mov (.t 42), none, []⟩])))))))
 (.seq (.region none [
 ⟨some 4, .mov (.c (.bool true)), none, []⟩])
 .ret))))
def af37 : AFun := ⟨.pure, 1, 37, body37, [.t 4]⟩

/-- umpirage/tree.Check -/
def body38 : ACode := (.seq (.region none [
 ⟨some 1, .fbox (.t 0), none, []⟩,
 ⟨some 2, .lalloc (.agg [(.int .i64 0), (.int .i64 0)]), none, []⟩])
 (.seq (.block 0
 (.seq (.region none [
 ⟨some 7, .load 2 true (.t 1), none, []⟩,
 ⟨some 8, .call (.c (.clo 48 [])) [(.t 7)], none, []⟩,
 ⟨some 9, .bin .gtr (.t 8) (.c (.int .i64 40)), none, []⟩,
 ⟨some 6, .mov (.t 9), none, []⟩])
 (.cond (.t 6)
 (.seq (.region none [
 ⟨some 10, .call (.c (.clo 18 [])) [(.c (.int .i64 2)), (.c (.int .i64 0))], none, []⟩,
 ⟨none, .store 2 (.t 2) (.t 10), none, []⟩])
 .ret)
 (.seq (.region none [
 ⟨some 12, .load 2 true (.t 1), none, []⟩,
 ⟨some 13, .call (.c (.clo 58 [])) [(.t 12)], none, []⟩,
 ⟨some 14, .bin .gtr (.t 13) (.c (.int .i64 12)), none, []⟩,
 ⟨some 11, .mov (.t 14), none, []⟩])
 (.cond (.t 11)
 (.seq (.region none [
 ⟨some 15, .call (.c (.clo 18 [])) [(.c (.int .i64 10)), (.c (.int .i64 0))], none, []⟩,
 ⟨none, .store 2 (.t 2) (.t 15), none, []⟩])
 .ret)
 .skip)))))
 (.seq (.region none [
 ⟨some 3, .halloc (.int .i64 0), none, []⟩,
 ⟨none, .store 1 (.t 3) (.c (.int .i64 0)), none, []⟩])
 (.seq (.seq (.region none [
 ⟨some 17, .load 2 true (.t 1), none, []⟩,
 ⟨some 18, .call (.c (.clo 59 [])) [(.t 17), (.t 3)], none, []⟩,
 ⟨some 16, .mov (.t 18), none, []⟩,
 ⟨some 19, .extract 0 (.t 16), none, []⟩,
 ⟨some 20, .extract 1 (.t 16), none, []⟩,
 ⟨some 4, .mov (.t 19), none, []⟩,
 ⟨some 5, .mov (.t 20), none, []⟩])
 (.seq (.region none [
 ⟨some 21, .mov (.t 5), none, []⟩,
 ⟨some 22, .un .not (.t 21), none, []⟩])
 (.cond (.t 22)
 (.seq (.region none [
 ⟨some 23, .mov (.t 4), none, []⟩,
 ⟨some 24, .load 1 false (.t 3), none, []⟩,
 ⟨some 25, .call (.c (.clo 18 [])) [(.t 23), (.t 24)], none, []⟩,
 ⟨none, .store 2 (.t 2) (.t 25), none, []⟩])
 .ret)
 .skip)))
 (.seq (.region none [
 ⟨some 26, .build [(.int .i64 0), (.int .i64 0)] [], none, []⟩,
 ⟨none, .store 2 (.t 2) (.t 26), none, []⟩])
 .ret)))))
def af38 : AFun := ⟨.pure, 1, 38, body38, [.cell 2 2 true]⟩

/-- umpirage/claim.signs -/
def body39 : ACode := (.seq (.region none [
 ⟨some 2, .fbox (.t 0), none, []⟩,
 ⟨some 4, .mov (.c (.int .i64 0)), none, []⟩])
 (.seq (.seq (.region none [
 ⟨some 8, .faddr 0 (.t 2), none, []⟩,
 ⟨some 9, .load 1 false (.t 8), none, []⟩,
 ⟨some 10, .bin .gtr (.t 9) (.c (.int .i64 0)), none, []⟩])
 (.cond (.t 10)
 (.seq (.seq (.region none [
 ⟨some 11, .faddr 0 (.t 2), none, []⟩,
 ⟨some 12, .load 1 false (.t 11), none, []⟩,
 ⟨some 13, .mov (.t 1), none, []⟩,
 ⟨some 14, .len (.t 13), none, []⟩,
 ⟨some 15, .bin .gtr (.t 12) (.t 14), none, []⟩])
 (.cond (.t 15)
 (.seq (.region none [
 ⟨some 4, .mov (.c (.int .i64 12)), none, []⟩])
 .ret)
 .skip))
 (.seq (.region (some [0, 1, 3, 0, 0, 16, 48, 120, 248, 511]) [
 ⟨some 16, .faddr 1 (.t 2), none, []⟩,
 ⟨some 17, .load 1 false (.t 16), none, []⟩,
 ⟨some 18, .len (.t 17), none, []⟩,
 ⟨some 19, .mov (.t 1), none, []⟩,
 ⟨some 20, .faddr 0 (.t 2), none, []⟩,
 ⟨some 21, .load 1 false (.t 20), none, []⟩,
 ⟨some 22, .bin .sub (.t 21) (.c (.int .i64 1)), none, []⟩,
 ⟨some 23, .iaddr 1 (.t 19) (.t 22), none, []⟩,
 ⟨some 24, .load 1 false (.t 23), none, []⟩,
 ⟨some 25, .bin .neq (.t 18) (.t 24), none, []⟩])
 (.cond (.t 25)
 (.seq (.region none [
 ⟨some 4, .mov (.c (.int .i64 9)), none, []⟩])
 .ret)
 .skip)))
 .skip))
 (.seq (.seq (.region none [
 ⟨some 26, .faddr 1 (.t 2), none, []⟩,
 ⟨some 27, .load 1 false (.t 26), none, []⟩,
 ⟨some 28, .len (.t 27), none, []⟩,
 ⟨some 29, .mov (.c (.int .i64 0)), none, []⟩])
 (.block 0
 (.loop (.seq (.region none [
 ⟨some 30, .bin .lss (.t 29) (.t 28), none, []⟩])
 (.seq (.cond (.t 30)
 .skip
 (.exit 0))
 (.seq (.block 1
 (.seq (.region none [
 ⟨some 31, .iaddr 2 (.t 27) (.t 29), none, []⟩,
 ⟨some 32, .load 2 true (.t 31), none, []⟩,
 ⟨some 6, .lalloc (.agg [(.int .i64 0), .nilSlice]), none, []⟩,
 ⟨none, .store 2 (.t 6) (.t 32), none, []⟩])
 (.seq (.region none [
 ⟨some 33, .load 2 true (.t 6), none, []⟩,
 ⟨some 34, .mov (.t 1), none, []⟩,
 ⟨some 35, .call (.c (.clo 39 [])) [(.t 33), (.t 34)], none, []⟩,
 ⟨some 7, .mov (.t 35), none, []⟩])
 (.seq (.region none [
 ⟨some 36, .mov (.t 7), none, []⟩,
 ⟨some 37, .bin .neq (.t 36) (.c (.int .i64 0)), none, []⟩])
 (.cond (.t 37)
 (.seq (.region none [
 ⟨some 38, .mov (.t 7), none, []⟩,
 ⟨some 4, .mov (.t 38), none, []⟩])
 .ret)
 .skip)))))
 (.region none [
 ⟨some 39, .bin .add (.t 29) (.c (.int .i64 1)), none, []⟩,
 ⟨some 29, .mov (.t 39), none, []⟩])))))))
 (.seq (.region none [
 ⟨some 4, .mov (.c (.int .i64 0)), none, []⟩])
 .ret))))
def af39 : AFun := ⟨.pure, 1, 39, body39, [.t 4]⟩

/-- umpirage/trace.Next -/
def body40 : ACode := (.seq (.region none [
 ⟨some 3, .fbox (.t 0), none, []⟩,
 ⟨some 5, .fbox (.t 2), none, []⟩,
 ⟨some 6, .lalloc (.agg [.nilSlice]), none, []⟩,
 ⟨some 7, .mov (.c (.int .i64 0)), none, []⟩])
 (.seq (.region none [
 ⟨some 15, .mov (.t 1), none, []⟩,
 ⟨some 8, .mov (.t 15), none, []⟩])
 (.seq (.seq (.region none [
 ⟨some 16, .faddr 0 (.t 5), none, []⟩,
 ⟨some 17, .load 1 false (.t 16), none, []⟩,
 ⟨some 18, .bin .eql (.t 17) (.c (.int .i64 1)), none, []⟩])
 (.cond (.t 18)
 (.region none [
 ⟨some 19, .faddr 1 (.t 3), none, []⟩,
 ⟨some 20, .load 1 false (.t 19), none, []⟩,
 ⟨some 8, .mov (.t 20), none, []⟩])
 .skip))
 (.seq (.block 0
 (.seq (.region none [
 ⟨some 22, .faddr 0 (.t 5), none, []⟩,
 ⟨some 23, .load 1 false (.t 22), none, []⟩,
 ⟨some 24, .call (.c (.clo 17 [])) [(.t 23), (.c (.int .i64 1)), (.c (.int .i64 4))], none, []⟩,
 ⟨some 25, .un .not (.t 24), none, []⟩,
 ⟨some 21, .mov (.t 25), none, []⟩])
 (.cond (.t 21)
 (.seq (.region none [
 ⟨some 26, .build [.nilSlice] [], none, []⟩,
 ⟨none, .store 1 (.t 6) (.t 26), none, []⟩,
 ⟨some 7, .mov (.c (.int .i64 4)), none, []⟩])
 .ret)
 (.seq (.region none [
 ⟨some 28, .faddr 1 (.t 5), none, []⟩,
 ⟨some 29, .load 1 false (.t 28), none, []⟩,
 ⟨some 30, .mov (.t 8), none, []⟩,
 ⟨some 31, .len (.t 30), none, []⟩,
 ⟨some 32, .bin .sub (.t 31) (.c (.int .i64 1)), none, []⟩,
 ⟨some 33, .call (.c (.clo 17 [])) [(.t 29), (.c (.int .i64 0)), (.t 32)], none, []⟩,
 ⟨some 34, .un .not (.t 33), none, []⟩,
 ⟨some 35, .mov (.t 34), none, []⟩,
 ⟨some 36, .faddr 0 (.t 5), some (35, false), []⟩,
 ⟨some 37, .load 1 false (.t 36), some (35, false), []⟩,
 ⟨some 38, .bin .eql (.t 37) (.c (.int .i64 3)), some (35, false), []⟩,
 ⟨some 39, .mov (.t 38), some (35, false), []⟩,
 ⟨some 40, .faddr 2 (.t 5), some (39, true), []⟩,
 ⟨some 41, .load 1 false (.t 40), some (39, true), []⟩,
 ⟨some 42, .mov (.t 8), some (39, true), []⟩,
 ⟨some 43, .len (.t 42), some (39, true), []⟩,
 ⟨some 44, .bin .sub (.t 43) (.c (.int .i64 1)), some (39, true), []⟩,
 ⟨some 45, .call (.c (.clo 17 [])) [(.t 41), (.c (.int .i64 0)), (.t 44)], some (39, true), []⟩,
 ⟨some 46, .un .not (.t 45), some (39, true), []⟩,
 ⟨some 47, .pick (.t 39) (.t 46) (.c (.bool false)), some (35, false), []⟩,
 ⟨some 48, .pick (.t 35) (.c (.bool true)) (.t 47), none, []⟩,
 ⟨some 27, .mov (.t 48), none, []⟩])
 (.cond (.t 27)
 (.seq (.region none [
 ⟨some 49, .build [.nilSlice] [], none, []⟩,
 ⟨none, .store 1 (.t 6) (.t 49), none, []⟩,
 ⟨some 7, .mov (.c (.int .i64 3)), none, []⟩])
 .ret)
 .skip)))))
 (.seq (.region none [
 ⟨some 50, .mov (.t 8), none, []⟩,
 ⟨some 51, .faddr 1 (.t 5), none, []⟩,
 ⟨some 52, .load 1 false (.t 51), none, []⟩,
 ⟨some 53, .iaddr 1 (.t 50) (.t 52), none, []⟩,
 ⟨some 54, .load 1 true (.t 53), none, []⟩,
 ⟨some 9, .lalloc (.agg [.nilSlice]), none, []⟩,
 ⟨none, .store 1 (.t 9) (.t 54), none, []⟩])
 (.seq (.region none [
 ⟨some 10, .lalloc (.agg [.nilSlice]), none, []⟩])
 (.seq (.seq (.region none [
 ⟨some 55, .faddr 0 (.t 5), none, []⟩,
 ⟨some 56, .load 1 false (.t 55), none, []⟩])
 (.block 1
 (.seq (.region none [
 ⟨some 58, .bin .eql (.t 56) (.c (.int .i64 1)), none, []⟩,
 ⟨some 57, .mov (.t 58), none, []⟩])
 (.cond (.t 57)
 (.region none [
 ⟨some 59, .load 1 true (.t 9), none, []⟩,
 ⟨none, .store 1 (.t 10) (.t 59), none, []⟩])
 (.seq (.region none [
 ⟨some 61, .bin .eql (.t 56) (.c (.int .i64 2)), none, []⟩,
 ⟨some 60, .mov (.t 61), none, []⟩])
 (.cond (.t 60)
 (.seq (.seq (.region none [
 ⟨some 62, .faddr 7 (.t 5), none, []⟩,
 ⟨some 63, .load 1 false (.t 62), none, []⟩,
 ⟨some 64, .call (.c (.clo 60 [])) [(.t 63)], none, []⟩,
 ⟨some 11, .lalloc (.agg [(.int .i64 0), (.int .i64 0)]), none, []⟩,
 ⟨none, .store 2 (.t 11) (.t 64), none, []⟩])
 (.seq (.region none [
 ⟨some 65, .load 2 true (.t 11), none, []⟩,
 ⟨some 66, .build [(.int .i64 0), (.int .i64 0)] [], none, []⟩,
 ⟨some 67, .eqs [0, 0] true (.t 65) (.t 66), none, []⟩])
 (.cond (.t 67)
 (.seq (.region (some [0, 0, 2, 1, 15]) [
 ⟨some 68, .build [.nilSlice] [], none, []⟩,
 ⟨some 69, .faddr 0 (.t 11), none, []⟩,
 ⟨some 70, .load 1 false (.t 69), none, []⟩,
 ⟨none, .store 1 (.t 6) (.t 68), none, []⟩,
 ⟨some 7, .mov (.t 70), none, []⟩])
 .ret)
 .skip)))
 (.region none [
 ⟨some 71, .load 1 true (.t 9), none, []⟩,
 ⟨some 72, .mkfn 62 [(.t 5)], none, []⟩,
 ⟨some 73, .call (.c (.clo 61 [])) [(.t 71), (.t 72)], none, []⟩,
 ⟨none, .store 1 (.t 10) (.t 73), none, []⟩]))
 (.seq (.region none [
 ⟨some 75, .bin .eql (.t 56) (.c (.int .i64 3)), none, []⟩,
 ⟨some 74, .mov (.t 75), none, []⟩])
 (.cond (.t 74)
 (.seq (.region (some [0, 0, 0, 0, 8, 28, 60, 127, 255, 511, 511, 0, 3071, 8191]) [
 ⟨some 77, .load 8 true (.t 5), none, []⟩,
 ⟨some 78, .load 1 true (.t 9), none, []⟩,
 ⟨some 79, .mov (.t 8), none, []⟩,
 ⟨some 80, .faddr 2 (.t 5), none, []⟩,
 ⟨some 81, .load 1 false (.t 80), none, []⟩,
 ⟨some 82, .iaddr 1 (.t 79) (.t 81), none, []⟩,
 ⟨some 83, .load 1 true (.t 82), none, []⟩,
 ⟨some 84, .call (.c (.clo 64 [])) [(.t 77), (.t 78), (.t 83)], none, []⟩,
 ⟨some 76, .mov (.t 84), none, []⟩,
 ⟨some 85, .extract 0 (.t 76), none, []⟩,
 ⟨some 86, .extract 1 (.t 76), none, []⟩,
 ⟨some 12, .lalloc (.agg [.nilSlice]), none, []⟩,
 ⟨none, .store 1 (.t 12) (.t 85), none, []⟩,
 ⟨some 13, .mov (.t 86), none, []⟩])
 (.seq (.seq (.region none [
 ⟨some 87, .mov (.t 13), none, []⟩,
 ⟨some 88, .bin .neq (.t 87) (.c (.int .i64 0)), none, []⟩])
 (.cond (.t 88)
 (.seq (.region none [
 ⟨some 89, .build [.nilSlice] [], none, []⟩,
 ⟨some 90, .mov (.t 13), none, []⟩,
 ⟨none, .store 1 (.t 6) (.t 89), none, []⟩,
 ⟨some 7, .mov (.t 90), none, []⟩])
 .ret)
 .skip))
 (.region none [
 ⟨some 91, .load 1 true (.t 12), none, []⟩,
 ⟨none, .store 1 (.t 10) (.t 91), none, []⟩])))
 (.seq (.region none [
 ⟨some 93, .bin .eql (.t 56) (.c (.int .i64 4)), none, []⟩,
 ⟨some 92, .mov (.t 93), none, []⟩])
 (.cond (.t 92)
 (.region none [
 ⟨some 94, .load 1 true (.t 9), none, []⟩,
 ⟨some 95, .call (.c (.clo 65 [])) [(.t 94)], none, []⟩,
 ⟨none, .store 1 (.t 10) (.t 95), none, []⟩])
 .skip))))))))))
 (.seq (.region none [
 ⟨some 96, .faddr 0 (.t 3), none, []⟩,
 ⟨some 97, .load 1 false (.t 96), none, []⟩,
 ⟨some 98, .load 1 true (.t 10), none, []⟩,
 ⟨some 99, .bslice false 1 1 [.nilSlice] [(0, 1, (.t 98))], none, []⟩,
 ⟨some 100, .build [.nilSlice, .nilSlice] [(0, 1, (.t 97)), (1, 1, (.t 99))], none, []⟩,
 ⟨some 14, .lalloc (.agg [.nilSlice, .nilSlice]), none, []⟩,
 ⟨none, .store 2 (.t 14) (.t 100), none, []⟩])
 (.seq (.seq (.region none [
 ⟨some 101, .load 2 true (.t 14), none, []⟩,
 ⟨some 102, .call (.c (.clo 16 [])) [(.t 101)], none, []⟩,
 ⟨some 103, .build [(.int .i64 0), (.int .i64 0)] [], none, []⟩,
 ⟨some 104, .eqs [0, 0] true (.t 102) (.t 103), none, []⟩])
 (.cond (.t 104)
 (.seq (.region none [
 ⟨some 105, .build [.nilSlice] [], none, []⟩,
 ⟨none, .store 1 (.t 6) (.t 105), none, []⟩,
 ⟨some 7, .mov (.c (.int .i64 10)), none, []⟩])
 .ret)
 .skip))
 (.seq (.region none [
 ⟨some 106, .load 1 true (.t 10), none, []⟩,
 ⟨some 107, .call (.c (.clo 61 [])) [(.t 106), (.c (.clo 66 []))], none, []⟩,
 ⟨none, .store 1 (.t 6) (.t 107), none, []⟩,
 ⟨some 7, .mov (.c (.int .i64 0)), none, []⟩])
 .ret))))))))))
def af40 : AFun := ⟨.pure, 1, 40, body40, [.cell 6 1 true, .t 7]⟩

/-- umpirage/super.renaming -/
def body41 : ACode := (.seq (.region none [
 ⟨some 1, .fbox (.t 0), none, []⟩,
 ⟨some 2, .mov (.c .nilSlice), none, []⟩])
 (.seq (.region none [
 ⟨some 8, .load 1 true (.t 1), none, []⟩,
 ⟨some 9, .call (.c (.clo 32 [])) [(.t 8)], none, []⟩,
 ⟨some 10, .mkslice 2 32 (.agg [(.int .i64 0), .nilSlice]) (.t 9) (.t 9), none, []⟩,
 ⟨some 3, .halloc .nilSlice, none, []⟩,
 ⟨none, .store 1 (.t 3) (.t 10), none, []⟩])
 (.seq (.region none [
 ⟨some 4, .halloc (.int .i64 0), none, []⟩,
 ⟨none, .store 1 (.t 4) (.c (.int .i64 0)), none, []⟩])
 (.seq (.region none [
 ⟨some 5, .halloc .nilFunc, none, []⟩])
 (.seq (.region none [
 ⟨some 11, .mkfn 67 [(.t 3), (.t 4), (.t 5)], none, []⟩,
 ⟨none, .store 1 (.t 5) (.t 11), none, []⟩])
 (.seq (.seq (.region none [
 ⟨some 12, .faddr 0 (.t 1), none, []⟩,
 ⟨some 13, .load 1 false (.t 12), none, []⟩,
 ⟨some 14, .len (.t 13), none, []⟩,
 ⟨some 15, .mov (.c (.int .i64 0)), none, []⟩])
 (.block 0
 (.loop (.seq (.region none [
 ⟨some 16, .bin .lss (.t 15) (.t 14), none, []⟩])
 (.seq (.cond (.t 16)
 .skip
 (.exit 0))
 (.seq (.block 1
 (.seq (.region none [
 ⟨some 17, .iaddr 5 (.t 13) (.t 15), none, []⟩,
 ⟨some 18, .load 5 true (.t 17), none, []⟩,
 ⟨some 7, .lalloc (.agg [(.bool false), (.int .i64 0), .nilSlice, (.int .i64 0), .nilSlice]), none, []⟩,
 ⟨none, .store 5 (.t 7) (.t 18), none, []⟩])
 (.seq (.region none [
 ⟨some 19, .load 1 false (.t 5), none, []⟩,
 ⟨some 20, .faddr 1 (.t 7), none, []⟩,
 ⟨some 21, .load 2 true (.t 20), none, []⟩,
 ⟨some 22, .call (.t 19) [(.t 21)], none, []⟩])
 (.region none [
 ⟨some 23, .load 1 false (.t 5), none, []⟩,
 ⟨some 24, .faddr 3 (.t 7), none, []⟩,
 ⟨some 25, .load 2 true (.t 24), none, []⟩,
 ⟨some 26, .call (.t 23) [(.t 25)], none, []⟩]))))
 (.region none [
 ⟨some 27, .bin .add (.t 15) (.c (.int .i64 1)), none, []⟩,
 ⟨some 15, .mov (.t 27), none, []⟩])))))))
 (.seq (.region none [
 ⟨some 28, .load 1 false (.t 3), none, []⟩,
 ⟨some 2, .mov (.t 28), none, []⟩])
 .ret)))))))
def af41 : AFun := ⟨.pure, 1, 41, body41, [.t 2]⟩

/-- (*umpirage/super.search).less -/
def body42 : ACode := (.seq (.region none [
 ⟨some 4, .mov (.c (.int .i64 0)), none, []⟩,
 ⟨some 5, .mov (.c (.bool false)), none, []⟩])
 (.seq (.seq (.region none [
 ⟨some 8, .mov (.c (.int .i64 0)), none, []⟩])
 (.block 0
 (.loop (.seq (.region none [
 ⟨some 9, .bin .lss (.t 8) (.c (.int .i64 40)), none, []⟩])
 (.seq (.cond (.t 9)
 .skip
 (.exit 0))
 (.seq (.block 1
 (.seq (.region none [
 ⟨some 11, .mov (.t 0), none, []⟩,
 ⟨some 12, .mov (.t 1), none, []⟩,
 ⟨some 13, .call (.c (.clo 49 [])) [(.t 11), (.t 12)], none, []⟩,
 ⟨some 10, .mov (.t 13), none, []⟩,
 ⟨some 14, .extract 0 (.t 10), none, []⟩,
 ⟨some 15, .extract 1 (.t 10), none, []⟩,
 ⟨some 6, .mov (.t 14), none, []⟩,
 ⟨some 7, .mov (.t 15), none, []⟩])
 (.seq (.seq (.region none [
 ⟨some 16, .mov (.t 7), none, []⟩,
 ⟨some 17, .un .not (.t 16), none, []⟩])
 (.cond (.t 17)
 (.exit 0)
 .skip))
 (.region none [
 ⟨some 18, .mov (.t 6), none, []⟩,
 ⟨some 1, .mov (.t 18), none, []⟩]))))
 (.region none [
 ⟨some 19, .bin .add (.t 8) (.c (.int .i64 1)), none, []⟩,
 ⟨some 8, .mov (.t 19), none, []⟩])))))))
 (.seq (.region none [
 ⟨some 20, .mov (.t 0), none, []⟩,
 ⟨some 21, .mov (.t 1), none, []⟩,
 ⟨some 22, .call (.c (.clo 68 [])) [(.t 20), (.t 21)], none, []⟩,
 ⟨some 23, .extract 0 (.t 22), none, []⟩,
 ⟨some 24, .extract 1 (.t 22), none, []⟩,
 ⟨some 4, .mov (.t 23), none, []⟩,
 ⟨some 5, .mov (.t 24), none, []⟩])
 .ret)))
def af42 : AFun := ⟨.mut, 1, 42, body42, [.t 4, .t 5]⟩

/-- umpirage/claim.Named -/
def body43 : ACode := (.seq (.region none [
 ⟨some 1, .fbox (.t 0), none, []⟩,
 ⟨some 2, .lalloc (.agg [.nilSlice]), none, []⟩])
 (.seq (.region none [
 ⟨some 5, .mkmap (some .i64), none, []⟩,
 ⟨some 3, .halloc .nilMap, none, []⟩,
 ⟨none, .store 1 (.t 3) (.t 5), none, []⟩])
 (.seq (.region none [
 ⟨some 4, .halloc .nilFunc, none, []⟩])
 (.seq (.region none [
 ⟨some 6, .mkfn 69 [(.t 3), (.t 4)], none, []⟩,
 ⟨none, .store 1 (.t 4) (.t 6), none, []⟩])
 (.seq (.region none [
 ⟨some 7, .load 1 true (.t 1), none, []⟩,
 ⟨some 8, .load 1 false (.t 4), none, []⟩,
 ⟨some 9, .call (.c (.clo 1061 [])) [(.t 7), (.t 8)], none, []⟩,
 ⟨none, .store 1 (.t 2) (.t 9), none, []⟩])
 .ret)))))
def af43 : AFun := ⟨.pure, 1, 43, body43, [.cell 2 1 true]⟩

/-- umpirage/super.idle -/
def body44 : ACode := (.seq (.region none [
 ⟨some 1, .fbox (.t 0), none, []⟩,
 ⟨some 2, .mov (.c (.bool false)), none, []⟩])
 (.seq (.region none [
 ⟨some 3, .faddr 0 (.t 1), none, []⟩,
 ⟨some 4, .load 1 false (.t 3), none, []⟩,
 ⟨some 5, .call (.c (.clo 70 [])) [(.t 4), (.c (.clo 71 []))], none, []⟩,
 ⟨some 2, .mov (.t 5), none, []⟩])
 .ret))
def af44 : AFun := ⟨.pure, 1, 44, body44, [.t 2]⟩

/-- slices.Clone[[]int,int] -/
def body45 : ACode := (.seq (.region none [
 ⟨some 2, .mov (.c .nilSlice), none, []⟩])
 (.seq (.seq (.region none [
 ⟨some 3, .mov (.t 0), none, []⟩,
 ⟨some 4, .eqnil false (.t 3), none, []⟩])
 (.cond (.t 4)
 (.seq (.region none [
 ⟨some 2, .mov (.c .nilSlice), none, []⟩])
 .ret)
 .skip))
 (.seq (.region none [
 ⟨some 5, .bslice true 1 0 [] [], none, []⟩,
 ⟨some 6, .mov (.t 0), none, []⟩,
 ⟨some 7, .append false 1 8 (.t 5) (.t 6), none, []⟩,
 ⟨some 2, .mov (.t 7), none, []⟩])
 .ret)))
def af45 : AFun := ⟨.new, 1, 45, body45, [.t 2]⟩

/-- slices.EqualFunc[[]umpirage/api.Fact,[]umpirage/api.Fact,umpirage/api.Fact,umpirage/api.Fact] -/
def body46 : ACode := (.seq (.region none [
 ⟨some 6, .mov (.c (.bool false)), none, []⟩])
 (.seq (.seq (.region none [
 ⟨some 10, .mov (.t 0), none, []⟩,
 ⟨some 11, .len (.t 10), none, []⟩,
 ⟨some 12, .mov (.t 1), none, []⟩,
 ⟨some 13, .len (.t 12), none, []⟩,
 ⟨some 14, .bin .neq (.t 11) (.t 13), none, []⟩])
 (.cond (.t 14)
 (.seq (.region none [
 ⟨some 6, .mov (.c (.bool false)), none, []⟩])
 .ret)
 .skip))
 (.seq (.seq (.region none [
 ⟨some 15, .mov (.t 0), none, []⟩,
 ⟨some 16, .len (.t 15), none, []⟩,
 ⟨some 17, .mov (.c (.int .i64 0)), none, []⟩])
 (.block 0
 (.loop (.seq (.region none [
 ⟨some 18, .bin .lss (.t 17) (.t 16), none, []⟩])
 (.seq (.cond (.t 18)
 .skip
 (.exit 0))
 (.seq (.block 1
 (.seq (.region none [
 ⟨some 19, .mov (.t 17), none, []⟩,
 ⟨some 20, .iaddr 5 (.t 15) (.t 17), none, []⟩,
 ⟨some 21, .load 5 true (.t 20), none, []⟩,
 ⟨some 8, .lalloc (.agg [(.bool false), (.int .i64 0), .nilSlice, (.int .i64 0), .nilSlice]), none, []⟩,
 ⟨some 7, .mov (.t 19), none, []⟩,
 ⟨none, .store 5 (.t 8) (.t 21), none, []⟩])
 (.seq (.region none [
 ⟨some 22, .mov (.t 1), none, []⟩,
 ⟨some 23, .mov (.t 7), none, []⟩,
 ⟨some 24, .iaddr 5 (.t 22) (.t 23), none, []⟩,
 ⟨some 25, .load 5 true (.t 24), none, []⟩,
 ⟨some 9, .lalloc (.agg [(.bool false), (.int .i64 0), .nilSlice, (.int .i64 0), .nilSlice]), none, []⟩,
 ⟨none, .store 5 (.t 9) (.t 25), none, []⟩])
 (.seq (.region none [
 ⟨some 26, .mov (.t 2), none, []⟩,
 ⟨some 27, .load 5 true (.t 8), none, []⟩,
 ⟨some 28, .load 5 true (.t 9), none, []⟩,
 ⟨some 29, .call (.t 26) [(.t 27), (.t 28)], none, []⟩,
 ⟨some 30, .un .not (.t 29), none, []⟩])
 (.cond (.t 30)
 (.seq (.region none [
 ⟨some 6, .mov (.c (.bool false)), none, []⟩])
 .ret)
 .skip)))))
 (.region none [
 ⟨some 31, .bin .add (.t 17) (.c (.int .i64 1)), none, []⟩,
 ⟨some 17, .mov (.t 31), none, []⟩])))))))
 (.seq (.region none [
 ⟨some 6, .mov (.c (.bool true)), none, []⟩])
 .ret))))
def af46 : AFun := ⟨.pure, 1, 46, body46, [.t 6]⟩

/-- umpirage/eltool.SameFact -/
def body47 : ACode := (.seq (.region none [
 ⟨some 2, .fbox (.t 0), none, []⟩,
 ⟨some 3, .fbox (.t 1), none, []⟩,
 ⟨some 4, .mov (.c (.bool false)), none, []⟩])
 (.seq (.region none [
 ⟨some 5, .faddr 0 (.t 2), none, []⟩,
 ⟨some 6, .load 1 false (.t 5), none, []⟩,
 ⟨some 7, .faddr 0 (.t 3), none, []⟩,
 ⟨some 8, .load 1 false (.t 7), none, []⟩,
 ⟨some 9, .eqb false (.t 6) (.t 8), none, []⟩,
 ⟨some 10, .mov (.t 9), none, []⟩,
 ⟨some 11, .faddr 1 (.t 2), some (10, true), []⟩,
 ⟨some 12, .load 2 true (.t 11), some (10, true), []⟩,
 ⟨some 13, .faddr 1 (.t 3), some (10, true), []⟩,
 ⟨some 14, .load 2 true (.t 13), some (10, true), []⟩,
 ⟨some 15, .call (.c (.clo 72 [])) [(.t 12), (.t 14)], some (10, true), []⟩,
 ⟨some 16, .pick (.t 10) (.t 15) (.c (.bool false)), none, []⟩,
 ⟨some 17, .mov (.t 16), none, []⟩,
 ⟨some 18, .faddr 3 (.t 2), some (17, true), []⟩,
 ⟨some 19, .load 2 true (.t 18), some (17, true), []⟩,
 ⟨some 20, .faddr 3 (.t 3), some (17, true), []⟩,
 ⟨some 21, .load 2 true (.t 20), some (17, true), []⟩,
 ⟨some 22, .call (.c (.clo 72 [])) [(.t 19), (.t 21)], some (17, true), []⟩,
 ⟨some 23, .pick (.t 17) (.t 22) (.c (.bool false)), none, []⟩,
 ⟨some 4, .mov (.t 23), none, []⟩])
 .ret))
def af47 : AFun := ⟨.pure, 1, 47, body47, [.t 4]⟩

/-- umpirage/eltool.Size -/
def body48 : ACode := (.seq (.region none [
 ⟨some 1, .fbox (.t 0), none, []⟩,
 ⟨some 2, .mov (.c (.int .i64 0)), none, []⟩])
 (.seq (.region none [
 ⟨some 3, .mov (.c (.int .i64 1)), none, []⟩])
 (.seq (.seq (.region none [
 ⟨some 6, .faddr 1 (.t 1), none, []⟩,
 ⟨some 7, .load 1 false (.t 6), none, []⟩,
 ⟨some 8, .len (.t 7), none, []⟩,
 ⟨some 9, .mov (.c (.int .i64 0)), none, []⟩])
 (.block 0
 (.loop (.seq (.region none [
 ⟨some 10, .bin .lss (.t 9) (.t 8), none, []⟩])
 (.seq (.cond (.t 10)
 .skip
 (.exit 0))
 (.seq (.block 1
 (.seq (.region none [
 ⟨some 11, .iaddr 2 (.t 7) (.t 9), none, []⟩,
 ⟨some 12, .load 2 true (.t 11), none, []⟩,
 ⟨some 5, .lalloc (.agg [(.int .i64 0), .nilSlice]), none, []⟩,
 ⟨none, .store 2 (.t 5) (.t 12), none, []⟩])
 (.region none [
 ⟨some 13, .mov (.t 3), none, []⟩,
 ⟨some 14, .load 2 true (.t 5), none, []⟩,
 ⟨some 15, .call (.c (.clo 48 [])) [(.t 14)], none, []⟩,
 ⟨some 16, .bin .add (.t 13) (.t 15), none, []⟩,
 ⟨some 3, .mov (.t 16), none, []⟩])))
 (.region none [
 ⟨some 17, .bin .add (.t 9) (.c (.int .i64 1)), none, []⟩,
 ⟨some 9, .mov (.t 17), none, []⟩])))))))
 (.seq (.region none [
 ⟨some 18, .mov (.t 3), none, []⟩,
 ⟨some 2, .mov (.t 18), none, []⟩])
 .ret))))
def af48 : AFun := ⟨.pure, 1, 48, body48, [.t 2]⟩

/-- (*umpirage/super.search).lower -/
def body49 : ACode := (.seq (.region none [
 ⟨some 4, .mov (.c (.int .i64 0)), none, []⟩,
 ⟨some 5, .mov (.c (.bool false)), none, []⟩])
 (.seq (.seq (.region none [
 ⟨some 22, .mov (.t 0), none, []⟩,
 ⟨some 23, .ncheck (.t 22), none, []⟩,
 ⟨some 24, .faddr 5 (.t 23), none, []⟩,
 ⟨some 25, .load 1 false (.t 24), none, []⟩,
 ⟨some 26, .len (.t 25), none, []⟩,
 ⟨some 27, .mov (.c (.int .i64 0)), none, []⟩])
 (.block 0
 (.loop (.seq (.region none [
 ⟨some 28, .bin .lss (.t 27) (.t 26), none, []⟩])
 (.seq (.cond (.t 28)
 .skip
 (.exit 0))
 (.seq (.block 1
 (.seq (.region none [
 ⟨some 29, .iaddr 1 (.t 25) (.t 27), none, []⟩,
 ⟨some 30, .load 1 false (.t 29), none, []⟩,
 ⟨some 7, .mov (.t 30), none, []⟩])
 (.seq (.region none [
 ⟨some 31, .mov (.t 0), none, []⟩,
 ⟨some 32, .ncheck (.t 31), none, []⟩,
 ⟨some 33, .faddr 3 (.t 32), none, []⟩,
 ⟨some 34, .load 1 false (.t 33), none, []⟩,
 ⟨some 35, .mov (.t 7), none, []⟩,
 ⟨some 36, .iaddr 1 (.t 34) (.t 35), none, []⟩,
 ⟨some 37, .load 1 true (.t 36), none, []⟩,
 ⟨some 8, .lalloc (.agg [.nilSlice]), none, []⟩,
 ⟨none, .store 1 (.t 8) (.t 37), none, []⟩])
 (.seq (.seq (.region none [
 ⟨some 38, .faddr 0 (.t 8), none, []⟩,
 ⟨some 39, .load 1 false (.t 38), none, []⟩,
 ⟨some 40, .len (.t 39), none, []⟩,
 ⟨some 41, .bin .neq (.t 40) (.c (.int .i64 1)), none, []⟩,
 ⟨some 42, .mov (.t 41), none, []⟩,
 ⟨some 43, .faddr 0 (.t 8), some (42, false), []⟩,
 ⟨some 44, .load 1 false (.t 43), some (42, false), []⟩,
 ⟨some 45, .iaddr 5 (.t 44) (.c (.int .i64 0)), some (42, false), []⟩,
 ⟨some 46, .faddr 0 (.t 45), some (42, false), []⟩,
 ⟨some 47, .load 1 false (.t 46), some (42, false), []⟩,
 ⟨some 48, .pick (.t 42) (.c (.bool true)) (.t 47), none, []⟩,
 ⟨some 49, .mov (.t 48), none, []⟩,
 ⟨some 50, .mov (.t 7), some (49, false), []⟩,
 ⟨some 51, .mov (.t 1), some (49, false), []⟩,
 ⟨some 52, .bin .eql (.t 50) (.t 51), some (49, false), []⟩,
 ⟨some 53, .pick (.t 49) (.c (.bool true)) (.t 52), none, []⟩])
 (.cond (.t 53)
 (.exit 1)
 .skip))
 (.seq (.region none [
 ⟨some 54, .build [(.bool false), (.bool false)] [(0, 1, (.c (.bool false))), (1, 1, (.c (.bool true)))], none, []⟩,
 ⟨some 55, .mov (.c (.int .i64 0)), none, []⟩])
 (.block 2
 (.loop (.seq (.region none [
 ⟨some 56, .bin .lss (.t 55) (.c (.int .i64 2)), none, []⟩])
 (.seq (.cond (.t 56)
 .skip
 (.exit 2))
 (.seq (.block 3
 (.seq (.region none [
 ⟨some 57, .indexA 2 1 false (.t 54) (.t 55), none, []⟩,
 ⟨some 10, .mov (.t 57), none, []⟩])
 (.seq (.region (some [0, 1, 3, 7, 15, 0, 32, 96, 224, 480, 0, 0, 3103, 8191]) [
 ⟨some 58, .faddr 0 (.t 8), none, []⟩,
 ⟨some 59, .load 1 false (.t 58), none, []⟩,
 ⟨some 60, .iaddr 5 (.t 59) (.c (.int .i64 0)), none, []⟩,
 ⟨some 61, .faddr 1 (.t 60), none, []⟩,
 ⟨some 62, .load 2 true (.t 61), none, []⟩,
 ⟨some 63, .faddr 0 (.t 8), none, []⟩,
 ⟨some 64, .load 1 false (.t 63), none, []⟩,
 ⟨some 65, .iaddr 5 (.t 64) (.c (.int .i64 0)), none, []⟩,
 ⟨some 66, .faddr 3 (.t 65), none, []⟩,
 ⟨some 67, .load 2 true (.t 66), none, []⟩,
 ⟨some 11, .lalloc (.agg [(.int .i64 0), .nilSlice]), none, []⟩,
 ⟨some 12, .lalloc (.agg [(.int .i64 0), .nilSlice]), none, []⟩,
 ⟨none, .store 2 (.t 11) (.t 62), none, []⟩,
 ⟨none, .store 2 (.t 12) (.t 67), none, []⟩])
 (.seq (.seq (.region none [
 ⟨some 68, .mov (.t 10), none, []⟩])
 (.cond (.t 68)
 (.region none [
 ⟨some 69, .load 2 true (.t 12), none, []⟩,
 ⟨some 70, .load 2 true (.t 11), none, []⟩,
 ⟨none, .store 2 (.t 11) (.t 69), none, []⟩,
 ⟨none, .store 2 (.t 12) (.t 70), none, []⟩])
 .skip))
 (.seq (.seq (.region none [
 ⟨some 71, .load 2 true (.t 11), none, []⟩,
 ⟨some 72, .load 2 true (.t 12), none, []⟩,
 ⟨some 73, .call (.c (.clo 73 [])) [(.t 71), (.t 72)], none, []⟩,
 ⟨some 74, .un .not (.t 73), none, []⟩])
 (.cond (.t 74)
 (.exit 3)
 .skip))
 (.seq (.region none [
 ⟨some 75, .mov (.t 0), none, []⟩,
 ⟨some 76, .ncheck (.t 75), none, []⟩,
 ⟨some 77, .faddr 3 (.t 76), none, []⟩,
 ⟨some 78, .load 1 false (.t 77), none, []⟩,
 ⟨some 79, .mov (.t 1), none, []⟩,
 ⟨some 80, .iaddr 1 (.t 78) (.t 79), none, []⟩,
 ⟨some 81, .faddr 0 (.t 80), none, []⟩,
 ⟨some 82, .load 1 false (.t 81), none, []⟩,
 ⟨some 83, .len (.t 82), none, []⟩,
 ⟨some 84, .mov (.c (.int .i64 0)), none, []⟩])
 (.block 4
 (.loop (.seq (.region none [
 ⟨some 85, .bin .lss (.t 84) (.t 83), none, []⟩])
 (.seq (.cond (.t 85)
 .skip
 (.exit 4))
 (.seq (.block 5
 (.seq (.region none [
 ⟨some 86, .mov (.t 84), none, []⟩,
 ⟨some 87, .iaddr 5 (.t 82) (.t 84), none, []⟩,
 ⟨some 88, .load 5 true (.t 87), none, []⟩,
 ⟨some 14, .lalloc (.agg [(.bool false), (.int .i64 0), .nilSlice, (.int .i64 0), .nilSlice]), none, []⟩,
 ⟨some 13, .mov (.t 86), none, []⟩,
 ⟨none, .store 5 (.t 14) (.t 88), none, []⟩])
 (.seq (.region none [
 ⟨some 89, .faddr 1 (.t 14), none, []⟩,
 ⟨some 90, .load 2 true (.t 89), none, []⟩,
 ⟨some 91, .faddr 3 (.t 14), none, []⟩,
 ⟨some 92, .load 2 true (.t 91), none, []⟩,
 ⟨some 93, .build [(.int .i64 0), .nilSlice, (.int .i64 0), .nilSlice] [(0, 2, (.t 90)), (2, 2, (.t 92))], none, []⟩,
 ⟨some 94, .mov (.c (.int .i64 0)), none, []⟩])
 (.block 6
 (.loop (.seq (.region none [
 ⟨some 95, .bin .lss (.t 94) (.c (.int .i64 2)), none, []⟩])
 (.seq (.cond (.t 95)
 .skip
 (.exit 6))
 (.seq (.block 7
 (.seq (.region none [
 ⟨some 96, .mov (.t 94), none, []⟩,
 ⟨some 97, .indexA 2 2 true (.t 93) (.t 94), none, []⟩,
 ⟨some 16, .lalloc (.agg [(.int .i64 0), .nilSlice]), none, []⟩,
 ⟨some 15, .mov (.t 96), none, []⟩,
 ⟨none, .store 2 (.t 16) (.t 97), none, []⟩])
 (.seq (.region none [
 ⟨some 98, .load 2 true (.t 16), none, []⟩,
 ⟨some 99, .call (.c (.clo 74 [])) [(.t 98), (.c .nilSlice)], none, []⟩,
 ⟨some 100, .len (.t 99), none, []⟩,
 ⟨some 101, .mov (.c (.int .i64 0)), none, []⟩])
 (.block 8
 (.loop (.seq (.region none [
 ⟨some 102, .bin .lss (.t 101) (.t 100), none, []⟩])
 (.seq (.cond (.t 102)
 .skip
 (.exit 8))
 (.seq (.block 9
 (.seq (.region none [
 ⟨some 103, .iaddr 1 (.t 99) (.t 101), none, []⟩,
 ⟨some 104, .load 1 false (.t 103), none, []⟩,
 ⟨some 18, .mov (.t 104), none, []⟩])
 (.seq (.region none [
 ⟨some 105, .load 2 true (.t 11), none, []⟩,
 ⟨some 106, .call (.c (.clo 55 [])) [(.t 105)], none, []⟩,
 ⟨some 107, .mkslice 2 32 (.agg [(.int .i64 0), .nilSlice]) (.t 106) (.t 106), none, []⟩,
 ⟨some 19, .mov (.t 107), none, []⟩])
 (.seq (.seq (.region (some [0, 0, 0, 6, 0, 31, 63]) [
 ⟨some 108, .load 2 true (.t 11), none, []⟩,
 ⟨some 109, .load 2 true (.t 16), none, []⟩,
 ⟨some 110, .mov (.t 18), none, []⟩,
 ⟨some 111, .call (.c (.clo 76 [])) [(.t 109), (.t 110)], none, []⟩,
 ⟨some 112, .mov (.t 19), none, []⟩,
 ⟨some 113, .call (.c (.clo 75 [])) [(.t 108), (.t 111), (.t 112)], none, []⟩,
 ⟨some 114, .un .not (.t 113), none, []⟩])
 (.cond (.t 114)
 (.exit 9)
 .skip))
 (.seq (.region none [
 ⟨some 115, .mov (.t 7), none, []⟩,
 ⟨some 20, .mov (.t 115), none, []⟩,
 ⟨some 21, .mov (.c (.bool true)), none, []⟩])
 (.seq (.seq (.region none [
 ⟨some 116, .mov (.t 19), none, [(false, 19)]⟩,
 ⟨some 117, .len (.t 116), none, []⟩,
 ⟨some 118, .bin .gtr (.t 117) (.c (.int .i64 0)), none, []⟩])
 (.cond (.t 118)
 (.region none [
 ⟨some 120, .mov (.t 0), none, []⟩,
 ⟨some 121, .mov (.t 7), none, []⟩,
 ⟨some 122, .mov (.t 19), none, []⟩,
 ⟨some 123, .call (.c (.clo 77 [])) [(.t 120), (.t 121), (.t 122)], none, []⟩,
 ⟨some 119, .mov (.t 123), none, []⟩,
 ⟨some 124, .extract 0 (.t 119), none, []⟩,
 ⟨some 125, .extract 1 (.t 119), none, []⟩,
 ⟨some 20, .mov (.t 124), none, []⟩,
 ⟨some 21, .mov (.t 125), none, []⟩])
 .skip))
 (.seq (.seq (.region none [
 ⟨some 126, .mov (.t 21), none, []⟩,
 ⟨some 127, .un .not (.t 126), none, []⟩])
 (.cond (.t 127)
 (.seq (.region none [
 ⟨some 4, .mov (.c (.int .i64 0)), none, []⟩,
 ⟨some 5, .mov (.c (.bool false)), none, []⟩])
 .ret)
 .skip))
 (.seq (.region none [
 ⟨some 128, .mov (.t 0), none, []⟩,
 ⟨some 129, .mov (.t 20), none, []⟩,
 ⟨some 130, .mov (.t 1), none, []⟩,
 ⟨some 131, .mov (.t 13), none, []⟩,
 ⟨some 132, .mov (.t 10), none, []⟩,
 ⟨some 133, .mov (.t 15), none, []⟩,
 ⟨some 134, .bin .add (.t 133) (.c (.int .i64 1)), none, []⟩,
 ⟨some 135, .bslice true 1 1 [(.int .i64 0)] [(0, 1, (.t 134))], none, []⟩,
 ⟨some 136, .mov (.t 18), none, []⟩,
 ⟨some 137, .append true 1 8 (.t 135) (.t 136), none, []⟩,
 ⟨some 138, .build [(.int .i64 0), (.int .i64 0), (.int .i64 0), (.int .i64 0), (.int .i64 0), (.bool false), .nilSlice, .nilSlice] [(0, 1, (.c (.int .i64 3))), (1, 1, (.t 129)), (2, 1, (.t 130)), (4, 1, (.t 131)), (5, 1, (.t 132)), (6, 1, (.t 137))], none, []⟩,
 ⟨some 139, .call (.c (.clo 19 [])) [(.t 128), (.t 138)], none, []⟩,
 ⟨some 140, .extract 0 (.t 139), none, []⟩,
 ⟨some 141, .extract 1 (.t 139), none, []⟩,
 ⟨some 4, .mov (.t 140), none, []⟩,
 ⟨some 5, .mov (.t 141), none, []⟩])
 .ret))))))))
 (.region none [
 ⟨some 142, .bin .add (.t 101) (.c (.int .i64 1)), none, []⟩,
 ⟨some 101, .mov (.t 142), none, []⟩])))))))))
 (.region none [
 ⟨some 143, .bin .add (.t 94) (.c (.int .i64 1)), none, []⟩,
 ⟨some 94, .mov (.t 143), none, []⟩])))))))))
 (.region none [
 ⟨some 144, .bin .add (.t 84) (.c (.int .i64 1)), none, []⟩,
 ⟨some 84, .mov (.t 144), none, []⟩]))))))))))))
 (.region none [
 ⟨some 145, .bin .add (.t 55) (.c (.int .i64 1)), none, []⟩,
 ⟨some 55, .mov (.t 145), none, []⟩])))))))))))
 (.region none [
 ⟨some 146, .bin .add (.t 27) (.c (.int .i64 1)), none, []⟩,
 ⟨some 27, .mov (.t 146), none, []⟩])))))))
 (.seq (.region none [
 ⟨some 4, .mov (.c (.int .i64 0)), none, []⟩,
 ⟨some 5, .mov (.c (.bool false)), none, []⟩])
 .ret)))
def af49 : AFun := ⟨.mut, 1, 49, body49, [.t 4, .t 5]⟩

/-- (*umpirage/super.search).single -/
def body50 : ACode := (.seq (.region none [
 ⟨some 2, .hbox (.t 0), none, []⟩,
 ⟨some 3, .fbox (.t 1), none, []⟩,
 ⟨some 4, .mov (.c (.bool false)), none, []⟩])
 (.seq (.region (some [0, 1, 3, 7, 0, 31, 63, 0, 255]) [
 ⟨some 12, .load 1 false (.t 2), none, []⟩,
 ⟨some 13, .ncheck (.t 12), none, []⟩,
 ⟨some 14, .faddr 3 (.t 13), none, []⟩,
 ⟨some 15, .load 1 false (.t 14), none, []⟩,
 ⟨some 16, .load 1 false (.t 3), none, []⟩,
 ⟨some 17, .iaddr 1 (.t 15) (.t 16), none, []⟩,
 ⟨some 18, .load 1 true (.t 17), none, []⟩,
 ⟨some 5, .lalloc (.agg [.nilSlice]), none, []⟩,
 ⟨none, .store 1 (.t 5) (.t 18), none, []⟩])
 (.seq (.region none [
 ⟨some 19, .load 1 true (.t 5), none, []⟩,
 ⟨some 20, .call (.c (.clo 32 [])) [(.t 19)], none, []⟩,
 ⟨some 6, .halloc (.int .i64 0), none, []⟩,
 ⟨none, .store 1 (.t 6) (.t 20), none, []⟩])
 (.seq (.region none [
 ⟨some 21, .mkfn 78 [(.t 6), (.t 2), (.t 3)], none, []⟩,
 ⟨some 7, .mov (.t 21), none, []⟩])
 (.seq (.seq (.region none [
 ⟨some 22, .faddr 0 (.t 5), none, []⟩,
 ⟨some 23, .load 1 false (.t 22), none, []⟩,
 ⟨some 24, .len (.t 23), none, []⟩,
 ⟨some 25, .mov (.c (.int .i64 0)), none, []⟩])
 (.block 0
 (.loop (.seq (.region none [
 ⟨some 26, .bin .lss (.t 25) (.t 24), none, []⟩])
 (.seq (.cond (.t 26)
 .skip
 (.exit 0))
 (.seq (.block 1
 (.seq (.region none [
 ⟨some 27, .mov (.t 25), none, []⟩,
 ⟨some 28, .iaddr 5 (.t 23) (.t 25), none, []⟩,
 ⟨some 29, .load 5 true (.t 28), none, []⟩,
 ⟨some 9, .lalloc (.agg [(.bool false), (.int .i64 0), .nilSlice, (.int .i64 0), .nilSlice]), none, []⟩,
 ⟨some 8, .mov (.t 27), none, []⟩,
 ⟨none, .store 5 (.t 9) (.t 29), none, []⟩])
 (.seq (.seq (.region none [
 ⟨some 30, .faddr 0 (.t 9), none, []⟩,
 ⟨some 31, .load 1 false (.t 30), none, []⟩,
 ⟨some 32, .mov (.t 31), none, []⟩,
 ⟨some 33, .mov (.t 7), some (32, true), []⟩,
 ⟨some 34, .faddr 1 (.t 9), some (32, true), []⟩,
 ⟨some 35, .load 2 true (.t 34), some (32, true), []⟩,
 ⟨some 36, .faddr 3 (.t 9), some (32, true), []⟩,
 ⟨some 37, .load 2 true (.t 36), some (32, true), []⟩,
 ⟨some 38, .call (.t 33) [(.t 35), (.t 37)], some (32, true), []⟩,
 ⟨some 39, .pick (.t 32) (.t 38) (.c (.bool false)), none, []⟩])
 (.cond (.t 39)
 (.seq (.region none [
 ⟨some 4, .mov (.c (.bool true)), none, []⟩])
 .ret)
 .skip))
 (.seq (.region none [
 ⟨some 40, .faddr 0 (.t 5), none, []⟩,
 ⟨some 41, .load 1 false (.t 40), none, []⟩,
 ⟨some 42, .mov (.t 8), none, []⟩,
 ⟨some 43, .slice 5 (.t 41) none (some (.t 42)), none, []⟩,
 ⟨some 44, .len (.t 43), none, []⟩,
 ⟨some 45, .mov (.c (.int .i64 0)), none, []⟩])
 (.block 2
 (.loop (.seq (.region none [
 ⟨some 46, .bin .lss (.t 45) (.t 44), none, []⟩])
 (.seq (.cond (.t 46)
 .skip
 (.exit 2))
 (.seq (.block 3
 (.seq (.region none [
 ⟨some 47, .iaddr 5 (.t 43) (.t 45), none, []⟩,
 ⟨some 48, .load 5 true (.t 47), none, []⟩,
 ⟨some 11, .lalloc (.agg [(.bool false), (.int .i64 0), .nilSlice, (.int .i64 0), .nilSlice]), none, []⟩,
 ⟨none, .store 5 (.t 11) (.t 48), none, []⟩])
 (.seq (.region (some [0, 1, 0, 4, 15, 31, 63, 127, 63, 319, 1023, 2047, 4095, 4095, 12287, 4095, 36863, 131071, 262143, 524287, 1048575, 2097151, 1048575, 5242879, 16777215, 33554431, 67108863, 134217727, 134217727, 402653183, 134217727, 1207959551, 4160749567, 134217727, 8724152319, 134217727, 34493956095, 137304735743, 274877906943, 549755813887, 1099511627775, 2199023255551, 4398046511103, 4398046511103, 13194139533311, 4398046511103, 39582418599935, 136339441844223, 4398046511103, 285873023221759, 4398046511103, 1130297953353727, 4499201580859391, 9007199254740991, 18014398509481983, 36028797018963967]) [
 ⟨some 49, .faddr 0 (.t 9), none, []⟩,
 ⟨some 50, .load 1 false (.t 49), none, []⟩,
 ⟨some 51, .faddr 0 (.t 11), none, []⟩,
 ⟨some 52, .load 1 false (.t 51), none, []⟩,
 ⟨some 53, .eqb false (.t 50) (.t 52), none, []⟩,
 ⟨some 54, .mov (.t 53), none, []⟩,
 ⟨some 55, .faddr 1 (.t 9), some (54, true), []⟩,
 ⟨some 56, .load 2 true (.t 55), some (54, true), []⟩,
 ⟨some 57, .faddr 1 (.t 11), some (54, true), []⟩,
 ⟨some 58, .load 2 true (.t 57), some (54, true), []⟩,
 ⟨some 59, .call (.c (.clo 72 [])) [(.t 56), (.t 58)], some (54, true), []⟩,
 ⟨some 60, .mov (.t 59), some (54, true), []⟩,
 ⟨some 61, .mov (.t 7), some (60, true), []⟩,
 ⟨some 62, .faddr 3 (.t 9), some (60, true), []⟩,
 ⟨some 63, .load 2 true (.t 62), some (60, true), []⟩,
 ⟨some 64, .faddr 3 (.t 11), some (60, true), []⟩,
 ⟨some 65, .load 2 true (.t 64), some (60, true), []⟩,
 ⟨some 66, .call (.t 61) [(.t 63), (.t 65)], some (60, true), []⟩,
 ⟨some 67, .pick (.t 60) (.t 66) (.c (.bool false)), some (54, true), []⟩,
 ⟨some 68, .mov (.t 67), some (54, true), []⟩,
 ⟨some 69, .faddr 1 (.t 9), some (68, false), []⟩,
 ⟨some 70, .load 2 true (.t 69), some (68, false), []⟩,
 ⟨some 71, .faddr 1 (.t 11), some (68, false), []⟩,
 ⟨some 72, .load 2 true (.t 71), some (68, false), []⟩,
 ⟨some 73, .call (.c (.clo 72 [])) [(.t 70), (.t 72)], some (68, false), []⟩,
 ⟨some 74, .un .not (.t 73), some (68, false), []⟩,
 ⟨some 75, .mov (.t 74), some (68, false), []⟩,
 ⟨some 76, .mov (.t 7), some (75, true), []⟩,
 ⟨some 77, .faddr 1 (.t 9), some (75, true), []⟩,
 ⟨some 78, .load 2 true (.t 77), some (75, true), []⟩,
 ⟨some 79, .faddr 3 (.t 9), some (75, true), []⟩,
 ⟨some 80, .load 2 true (.t 79), some (75, true), []⟩,
 ⟨some 81, .call (.c (.clo 80 [])) [(.t 78), (.t 80)], some (75, true), []⟩,
 ⟨some 82, .faddr 1 (.t 11), some (75, true), []⟩,
 ⟨some 83, .load 2 true (.t 82), some (75, true), []⟩,
 ⟨some 84, .faddr 3 (.t 11), some (75, true), []⟩,
 ⟨some 85, .load 2 true (.t 84), some (75, true), []⟩,
 ⟨some 86, .call (.c (.clo 80 [])) [(.t 83), (.t 85)], some (75, true), []⟩,
 ⟨some 87, .call (.t 76) [(.t 81), (.t 86)], some (75, true), []⟩,
 ⟨some 88, .pick (.t 75) (.t 87) (.c (.bool false)), some (68, false), []⟩,
 ⟨some 89, .pick (.t 68) (.c (.bool true)) (.t 88), some (54, true), []⟩,
 ⟨some 90, .mov (.t 89), some (54, true), []⟩,
 ⟨some 91, .mov (.t 7), some (90, false), []⟩,
 ⟨some 92, .faddr 1 (.t 9), some (90, false), []⟩,
 ⟨some 93, .load 2 true (.t 92), some (90, false), []⟩,
 ⟨some 94, .faddr 3 (.t 9), some (90, false), []⟩,
 ⟨some 95, .load 2 true (.t 94), some (90, false), []⟩,
 ⟨some 96, .call (.c (.clo 80 [])) [(.t 93), (.t 95)], some (90, false), []⟩,
 ⟨some 97, .faddr 3 (.t 11), some (90, false), []⟩,
 ⟨some 98, .load 2 true (.t 97), some (90, false), []⟩,
 ⟨some 99, .faddr 1 (.t 11), some (90, false), []⟩,
 ⟨some 100, .load 2 true (.t 99), some (90, false), []⟩,
 ⟨some 101, .call (.c (.clo 80 [])) [(.t 98), (.t 100)], some (90, false), []⟩,
 ⟨some 102, .call (.t 91) [(.t 96), (.t 101)], some (90, false), []⟩,
 ⟨some 103, .pick (.t 90) (.c (.bool true)) (.t 102), some (54, true), []⟩,
 ⟨some 104, .pick (.t 54) (.t 103) (.c (.bool false)), none, []⟩])
 (.cond (.t 104)
 (.seq (.region none [
 ⟨some 4, .mov (.c (.bool true)), none, []⟩])
 .ret)
 .skip))))
 (.region none [
 ⟨some 105, .bin .add (.t 45) (.c (.int .i64 1)), none, []⟩,
 ⟨some 45, .mov (.t 105), none, []⟩]))))))))))
 (.region none [
 ⟨some 106, .bin .add (.t 25) (.c (.int .i64 1)), none, []⟩,
 ⟨some 25, .mov (.t 106), none, []⟩])))))))
 (.seq (.region none [
 ⟨some 4, .mov (.c (.bool false)), none, []⟩])
 .ret))))))
def af50 : AFun := ⟨.mut, 1, 50, body50, [.t 4]⟩

/-- (*umpirage/super.search).into -/
def body51 : ACode := (.seq (.region none [
 ⟨some 6, .mov (.c (.bool false)), none, []⟩])
 (.seq (.region none [
 ⟨some 27, .mov (.t 0), none, []⟩,
 ⟨some 28, .ncheck (.t 27), none, []⟩,
 ⟨some 29, .faddr 3 (.t 28), none, []⟩,
 ⟨some 30, .load 1 false (.t 29), none, []⟩,
 ⟨some 31, .mov (.t 1), none, []⟩,
 ⟨some 32, .iaddr 1 (.t 30) (.t 31), none, []⟩,
 ⟨some 33, .load 1 true (.t 32), none, []⟩,
 ⟨some 34, .call (.c (.clo 32 [])) [(.t 33)], none, []⟩,
 ⟨some 7, .halloc (.int .i64 0), none, []⟩,
 ⟨none, .store 1 (.t 7) (.t 34), none, []⟩])
 (.seq (.region none [
 ⟨some 35, .mov (.t 0), none, []⟩,
 ⟨some 36, .ncheck (.t 35), none, []⟩,
 ⟨some 37, .faddr 3 (.t 36), none, []⟩,
 ⟨some 38, .load 1 false (.t 37), none, []⟩,
 ⟨some 39, .mov (.t 2), none, []⟩,
 ⟨some 40, .iaddr 1 (.t 38) (.t 39), none, []⟩,
 ⟨some 41, .load 1 true (.t 40), none, []⟩,
 ⟨some 42, .mkfn 81 [(.t 7)], none, []⟩,
 ⟨some 43, .call (.c (.clo 61 [])) [(.t 41), (.t 42)], none, []⟩,
 ⟨some 8, .lalloc (.agg [.nilSlice]), none, []⟩,
 ⟨none, .store 1 (.t 8) (.t 43), none, []⟩])
 (.seq (.region (some [0, 0, 2, 7, 15]) [
 ⟨some 44, .load 1 false (.t 7), none, []⟩,
 ⟨some 45, .load 1 true (.t 8), none, []⟩,
 ⟨some 46, .call (.c (.clo 32 [])) [(.t 45)], none, []⟩,
 ⟨some 47, .max (.t 44) (.t 46) [], none, []⟩,
 ⟨some 9, .mov (.t 47), none, []⟩])
 (.seq (.seq (.region none [
 ⟨some 48, .mov (.t 9), none, []⟩,
 ⟨some 49, .bin .gtr (.t 48) (.c (.int .i64 8)), none, []⟩])
 (.cond (.t 49)
 (.seq (.region none [
 ⟨some 50, .mov (.t 0), none, []⟩,
 ⟨some 51, .ncheck (.t 50), none, []⟩,
 ⟨some 52, .faddr 6 (.t 51), none, []⟩,
 ⟨none, .store 1 (.t 52) (.c (.bool true)), none, []⟩])
 (.seq (.region none [
 ⟨some 6, .mov (.c (.bool false)), none, []⟩])
 .ret))
 .skip))
 (.seq (.region none [
 ⟨some 53, .mov (.t 0), none, []⟩,
 ⟨some 54, .ncheck (.t 53), none, []⟩,
 ⟨some 55, .faddr 3 (.t 54), none, []⟩,
 ⟨some 56, .load 1 false (.t 55), none, []⟩,
 ⟨some 57, .mov (.t 2), none, []⟩,
 ⟨some 58, .iaddr 1 (.t 56) (.t 57), none, []⟩,
 ⟨some 59, .load 1 true (.t 58), none, []⟩,
 ⟨some 60, .call (.c (.clo 32 [])) [(.t 59)], none, []⟩,
 ⟨some 61, .mkslice 2 32 (.agg [(.int .i64 0), .nilSlice]) (.t 60) (.t 60), none, []⟩,
 ⟨some 10, .mov (.t 61), none, []⟩])
 (.seq (.seq (.region none [
 ⟨some 62, .mov (.t 10), none, []⟩,
 ⟨some 63, .len (.t 62), none, []⟩,
 ⟨some 64, .mov (.c (.int .i64 0)), none, []⟩])
 (.block 0
 (.loop (.seq (.region none [
 ⟨some 65, .bin .lss (.t 64) (.t 63), none, []⟩])
 (.seq (.cond (.t 65)
 .skip
 (.exit 0))
 (.seq (.block 1
 (.seq (.region none [
 ⟨some 66, .mov (.t 64), none, []⟩,
 ⟨some 11, .mov (.t 66), none, []⟩])
 (.region none [
 ⟨some 67, .mov (.t 10), none, []⟩,
 ⟨some 68, .mov (.t 11), none, []⟩,
 ⟨some 69, .mov (.t 11), none, []⟩,
 ⟨some 70, .un .neg (.t 69), none, []⟩,
 ⟨some 71, .bin .sub (.t 70) (.c (.int .i64 1)), none, []⟩,
 ⟨some 72, .load 1 false (.t 7), none, []⟩,
 ⟨some 73, .bin .sub (.t 71) (.t 72), none, []⟩,
 ⟨some 74, .build [(.int .i64 0), .nilSlice] [(0, 1, (.t 73))], none, []⟩,
 ⟨some 75, .iaddr 2 (.t 67) (.t 68), none, []⟩,
 ⟨none, .store 2 (.t 75) (.t 74), none, []⟩])))
 (.region none [
 ⟨some 76, .bin .add (.t 64) (.c (.int .i64 1)), none, []⟩,
 ⟨some 64, .mov (.t 76), none, []⟩])))))))
 (.seq (.seq (.region none [
 ⟨some 77, .mov (.t 0), none, [(false, 10)]⟩,
 ⟨some 78, .ncheck (.t 77), none, []⟩,
 ⟨some 79, .faddr 3 (.t 78), none, []⟩,
 ⟨some 80, .load 1 false (.t 79), none, []⟩,
 ⟨some 81, .mov (.t 1), none, []⟩,
 ⟨some 82, .iaddr 1 (.t 80) (.t 81), none, []⟩,
 ⟨some 83, .faddr 0 (.t 82), none, []⟩,
 ⟨some 84, .load 1 false (.t 83), none, []⟩,
 ⟨some 85, .len (.t 84), none, []⟩,
 ⟨some 86, .mov (.c (.int .i64 0)), none, []⟩])
 (.block 2
 (.loop (.seq (.region none [
 ⟨some 87, .bin .lss (.t 86) (.t 85), none, []⟩])
 (.seq (.cond (.t 87)
 .skip
 (.exit 2))
 (.seq (.block 3
 (.seq (.region none [
 ⟨some 88, .mov (.t 86), none, []⟩,
 ⟨some 89, .iaddr 5 (.t 84) (.t 86), none, []⟩,
 ⟨some 90, .load 5 true (.t 89), none, []⟩,
 ⟨some 13, .lalloc (.agg [(.bool false), (.int .i64 0), .nilSlice, (.int .i64 0), .nilSlice]), none, []⟩,
 ⟨some 12, .mov (.t 88), none, []⟩,
 ⟨none, .store 5 (.t 13) (.t 90), none, []⟩])
 (.seq (.seq (.region none [
 ⟨some 91, .faddr 0 (.t 13), none, []⟩,
 ⟨some 92, .load 1 false (.t 91), none, []⟩])
 (.cond (.t 92)
 (.exit 3)
 .skip))
 (.seq (.region none [
 ⟨some 93, .build [(.bool false), (.bool false)] [(0, 1, (.c (.bool false))), (1, 1, (.c (.bool true)))], none, []⟩,
 ⟨some 94, .mov (.c (.int .i64 0)), none, []⟩])
 (.block 4
 (.loop (.seq (.region none [
 ⟨some 95, .bin .lss (.t 94) (.c (.int .i64 2)), none, []⟩])
 (.seq (.cond (.t 95)
 .skip
 (.exit 4))
 (.seq (.block 5
 (.seq (.region none [
 ⟨some 96, .indexA 2 1 false (.t 93) (.t 94), none, []⟩,
 ⟨some 15, .mov (.t 96), none, []⟩])
 (.seq (.region (some [0, 1, 0, 4, 0, 0, 51, 127]) [
 ⟨some 97, .faddr 1 (.t 13), none, []⟩,
 ⟨some 98, .load 2 true (.t 97), none, []⟩,
 ⟨some 99, .faddr 3 (.t 13), none, []⟩,
 ⟨some 100, .load 2 true (.t 99), none, []⟩,
 ⟨some 16, .lalloc (.agg [(.int .i64 0), .nilSlice]), none, []⟩,
 ⟨some 17, .lalloc (.agg [(.int .i64 0), .nilSlice]), none, []⟩,
 ⟨none, .store 2 (.t 16) (.t 98), none, []⟩,
 ⟨none, .store 2 (.t 17) (.t 100), none, []⟩])
 (.seq (.seq (.region none [
 ⟨some 101, .mov (.t 15), none, []⟩])
 (.cond (.t 101)
 (.region none [
 ⟨some 102, .load 2 true (.t 17), none, []⟩,
 ⟨some 103, .load 2 true (.t 16), none, []⟩,
 ⟨none, .store 2 (.t 16) (.t 102), none, []⟩,
 ⟨none, .store 2 (.t 17) (.t 103), none, []⟩])
 .skip))
 (.seq (.seq (.region none [
 ⟨some 104, .faddr 0 (.t 16), none, []⟩,
 ⟨some 105, .load 1 false (.t 104), none, []⟩,
 ⟨some 106, .bin .lss (.t 105) (.c (.int .i64 0)), none, []⟩,
 ⟨some 107, .mov (.t 106), none, []⟩,
 ⟨some 108, .load 2 true (.t 17), some (107, false), []⟩,
 ⟨some 109, .load 2 true (.t 16), some (107, false), []⟩,
 ⟨some 110, .call (.c (.clo 73 [])) [(.t 108), (.t 109)], some (107, false), []⟩,
 ⟨some 111, .pick (.t 107) (.c (.bool true)) (.t 110), none, []⟩])
 (.cond (.t 111)
 (.exit 5)
 .skip))
 (.seq (.region none [
 ⟨some 112, .faddr 0 (.t 8), none, []⟩,
 ⟨some 113, .load 1 false (.t 112), none, []⟩,
 ⟨some 114, .len (.t 113), none, []⟩,
 ⟨some 115, .mov (.c (.int .i64 0)), none, []⟩])
 (.block 6
 (.loop (.seq (.region none [
 ⟨some 116, .bin .lss (.t 115) (.t 114), none, []⟩])
 (.seq (.cond (.t 116)
 .skip
 (.exit 6))
 (.seq (.block 7
 (.seq (.region none [
 ⟨some 117, .mov (.t 115), none, []⟩,
 ⟨some 118, .iaddr 5 (.t 113) (.t 115), none, []⟩,
 ⟨some 119, .load 5 true (.t 118), none, []⟩,
 ⟨some 19, .lalloc (.agg [(.bool false), (.int .i64 0), .nilSlice, (.int .i64 0), .nilSlice]), none, []⟩,
 ⟨some 18, .mov (.t 117), none, []⟩,
 ⟨none, .store 5 (.t 19) (.t 119), none, []⟩])
 (.seq (.region none [
 ⟨some 120, .faddr 1 (.t 19), none, []⟩,
 ⟨some 121, .load 2 true (.t 120), none, []⟩,
 ⟨some 122, .faddr 3 (.t 19), none, []⟩,
 ⟨some 123, .load 2 true (.t 122), none, []⟩,
 ⟨some 124, .build [(.int .i64 0), .nilSlice, (.int .i64 0), .nilSlice] [(0, 2, (.t 121)), (2, 2, (.t 123))], none, []⟩,
 ⟨some 125, .mov (.c (.int .i64 0)), none, []⟩])
 (.block 8
 (.loop (.seq (.region none [
 ⟨some 126, .bin .lss (.t 125) (.c (.int .i64 2)), none, []⟩])
 (.seq (.cond (.t 126)
 .skip
 (.exit 8))
 (.seq (.block 9
 (.seq (.region none [
 ⟨some 127, .mov (.t 125), none, []⟩,
 ⟨some 128, .indexA 2 2 true (.t 124) (.t 125), none, []⟩,
 ⟨some 21, .lalloc (.agg [(.int .i64 0), .nilSlice]), none, []⟩,
 ⟨some 20, .mov (.t 127), none, []⟩,
 ⟨none, .store 2 (.t 21) (.t 128), none, []⟩])
 (.seq (.region none [
 ⟨some 129, .load 2 true (.t 21), none, []⟩,
 ⟨some 130, .call (.c (.clo 74 [])) [(.t 129), (.c .nilSlice)], none, []⟩,
 ⟨some 131, .len (.t 130), none, []⟩,
 ⟨some 132, .mov (.c (.int .i64 0)), none, []⟩])
 (.block 10
 (.loop (.seq (.region none [
 ⟨some 133, .bin .lss (.t 132) (.t 131), none, []⟩])
 (.seq (.cond (.t 133)
 .skip
 (.exit 10))
 (.seq (.block 11
 (.seq (.region none [
 ⟨some 134, .iaddr 1 (.t 130) (.t 132), none, []⟩,
 ⟨some 135, .load 1 false (.t 134), none, []⟩,
 ⟨some 23, .mov (.t 135), none, []⟩])
 (.seq (.region (some [0, 0, 0, 6, 0, 31, 63, 127, 127, 127, 255, 1535, 4095]) [
 ⟨some 137, .load 2 true (.t 16), none, []⟩,
 ⟨some 138, .load 2 true (.t 21), none, []⟩,
 ⟨some 139, .mov (.t 23), none, []⟩,
 ⟨some 140, .call (.c (.clo 76 [])) [(.t 138), (.t 139)], none, []⟩,
 ⟨some 141, .mov (.t 9), none, []⟩,
 ⟨some 142, .call (.c (.clo 79 [])) [(.t 137), (.t 140), (.t 141)], none, []⟩,
 ⟨some 136, .mov (.t 142), none, []⟩,
 ⟨some 143, .extract 0 (.t 136), none, []⟩,
 ⟨some 144, .extract 1 (.t 136), none, []⟩,
 ⟨some 145, .extract 2 (.t 136), none, []⟩,
 ⟨some 24, .mov (.t 143), none, []⟩,
 ⟨some 25, .mov (.t 144), none, []⟩,
 ⟨some 26, .mov (.t 145), none, []⟩])
 (.seq (.seq (.region none [
 ⟨some 146, .mov (.t 26), none, []⟩,
 ⟨some 147, .un .not (.t 146), none, []⟩])
 (.cond (.t 147)
 (.region none [
 ⟨some 148, .mov (.t 0), none, []⟩,
 ⟨some 149, .ncheck (.t 148), none, []⟩,
 ⟨some 150, .faddr 6 (.t 149), none, []⟩,
 ⟨none, .store 1 (.t 150) (.c (.bool true)), none, []⟩])
 .skip))
 (.seq (.seq (.region none [
 ⟨some 151, .mov (.t 25), none, []⟩,
 ⟨some 152, .un .not (.t 151), none, []⟩,
 ⟨some 153, .mov (.t 152), none, []⟩,
 ⟨some 154, .mov (.t 26), some (153, false), []⟩,
 ⟨some 155, .un .not (.t 154), some (153, false), []⟩,
 ⟨some 156, .pick (.t 153) (.c (.bool true)) (.t 155), none, []⟩])
 (.cond (.t 156)
 (.exit 11)
 .skip))
 (.seq (.region none [
 ⟨some 157, .mov (.t 0), none, []⟩,
 ⟨some 158, .mov (.t 1), none, []⟩,
 ⟨some 159, .mov (.t 2), none, []⟩,
 ⟨some 160, .mov (.t 10), none, []⟩,
 ⟨some 161, .mov (.t 24), none, []⟩,
 ⟨some 162, .mov (.t 12), none, []⟩,
 ⟨some 163, .mov (.t 18), none, []⟩,
 ⟨some 164, .mov (.t 15), none, []⟩,
 ⟨some 165, .mov (.t 20), none, []⟩,
 ⟨some 166, .bin .add (.t 165) (.c (.int .i64 1)), none, []⟩,
 ⟨some 167, .bslice true 1 1 [(.int .i64 0)] [(0, 1, (.t 166))], none, []⟩,
 ⟨some 168, .mov (.t 23), none, []⟩,
 ⟨some 169, .append true 1 8 (.t 167) (.t 168), none, []⟩,
 ⟨some 170, .build [(.int .i64 0), (.int .i64 0), (.int .i64 0), (.int .i64 0), (.int .i64 0), (.bool false), .nilSlice, .nilSlice] [(0, 1, (.c (.int .i64 3))), (3, 1, (.t 162)), (4, 1, (.t 163)), (5, 1, (.t 164)), (6, 1, (.t 169))], none, []⟩,
 ⟨some 171, .call (.c (.clo 83 [])) [(.t 157), (.t 158), (.t 159), (.t 160), (.t 161), (.t 170)], none, []⟩])
 (.cond (.t 171)
 (.seq (.region none [
 ⟨some 6, .mov (.c (.bool true)), none, []⟩])
 .ret)
 .skip)))))))
 (.region none [
 ⟨some 172, .bin .add (.t 132) (.c (.int .i64 1)), none, []⟩,
 ⟨some 132, .mov (.t 172), none, []⟩])))))))))
 (.region none [
 ⟨some 173, .bin .add (.t 125) (.c (.int .i64 1)), none, []⟩,
 ⟨some 125, .mov (.t 173), none, []⟩])))))))))
 (.region none [
 ⟨some 174, .bin .add (.t 115) (.c (.int .i64 1)), none, []⟩,
 ⟨some 115, .mov (.t 174), none, []⟩]))))))))))))
 (.region none [
 ⟨some 175, .bin .add (.t 94) (.c (.int .i64 1)), none, []⟩,
 ⟨some 94, .mov (.t 175), none, []⟩]))))))))))
 (.region none [
 ⟨some 176, .bin .add (.t 86) (.c (.int .i64 1)), none, []⟩,
 ⟨some 86, .mov (.t 176), none, []⟩])))))))
 (.seq (.region none [
 ⟨some 6, .mov (.c (.bool false)), none, []⟩])
 .ret)))))))))
def af51 : AFun := ⟨.mut, 1, 51, body51, [.t 6]⟩

/-- umpirage/umpirageref7.Size -/
def body52 : ACode := (.seq (.region none [
 ⟨some 1, .fbox (.t 0), none, []⟩,
 ⟨some 2, .mov (.c (.int .i64 0)), none, []⟩])
 (.seq (.region none [
 ⟨some 3, .mov (.c (.int .i64 1)), none, []⟩])
 (.seq (.seq (.region none [
 ⟨some 4, .mov (.c (.int .i64 0)), none, []⟩])
 (.block 0
 (.loop (.seq (.seq (.region none [
 ⟨some 5, .mov (.t 4), none, []⟩,
 ⟨some 6, .faddr 1 (.t 1), none, []⟩,
 ⟨some 7, .load 1 false (.t 6), none, []⟩,
 ⟨some 8, .len (.t 7), none, []⟩,
 ⟨some 9, .bin .lss (.t 5) (.t 8), none, []⟩])
 (.cond (.t 9)
 .skip
 (.exit 0)))
 (.seq (.block 1
 (.region none [
 ⟨some 12, .mov (.t 3), none, []⟩,
 ⟨some 13, .faddr 1 (.t 1), none, []⟩,
 ⟨some 14, .load 1 false (.t 13), none, []⟩,
 ⟨some 15, .mov (.t 4), none, []⟩,
 ⟨some 16, .iaddr 2 (.t 14) (.t 15), none, []⟩,
 ⟨some 17, .load 2 true (.t 16), none, []⟩,
 ⟨some 18, .call (.c (.clo 52 [])) [(.t 17)], none, []⟩,
 ⟨some 19, .bin .add (.t 12) (.t 18), none, []⟩,
 ⟨some 3, .mov (.t 19), none, []⟩]))
 (.region none [
 ⟨some 10, .mov (.t 4), none, []⟩,
 ⟨some 11, .bin .add (.t 10) (.c (.int .i64 1)), none, []⟩,
 ⟨some 4, .mov (.t 11), none, []⟩]))))))
 (.seq (.region none [
 ⟨some 20, .mov (.t 3), none, []⟩,
 ⟨some 2, .mov (.t 20), none, []⟩])
 .ret))))
def af52 : AFun := ⟨.pure, 1, 52, body52, [.t 2]⟩

/-- umpirage/umpirageref7.Tree -/
def body53 : ACode := (.seq (.region none [
 ⟨some 1, .fbox (.t 0), none, []⟩,
 ⟨some 2, .lalloc (.agg [(.int .i64 0), (.int .i64 0)]), none, []⟩])
 (.seq (.seq (.region none [
 ⟨some 5, .load 2 true (.t 1), none, []⟩,
 ⟨some 6, .call (.c (.clo 52 [])) [(.t 5)], none, []⟩,
 ⟨some 7, .bin .gtr (.t 6) (.c (.int .i64 40)), none, []⟩])
 (.cond (.t 7)
 (.seq (.region none [
 ⟨some 8, .call (.c (.clo 27 [])) [(.c (.int .i64 2)), (.c (.int .i64 0))], none, []⟩,
 ⟨none, .store 2 (.t 2) (.t 8), none, []⟩])
 .ret)
 .skip))
 (.seq (.seq (.region none [
 ⟨some 9, .load 2 true (.t 1), none, []⟩,
 ⟨some 10, .call (.c (.clo 84 [])) [(.t 9)], none, []⟩,
 ⟨some 11, .bin .gtr (.t 10) (.c (.int .i64 12)), none, []⟩])
 (.cond (.t 11)
 (.seq (.region none [
 ⟨some 12, .call (.c (.clo 27 [])) [(.c (.int .i64 10)), (.c (.int .i64 0))], none, []⟩,
 ⟨none, .store 2 (.t 2) (.t 12), none, []⟩])
 .ret)
 .skip))
 (.seq (.region none [
 ⟨some 14, .load 2 true (.t 1), none, []⟩,
 ⟨some 15, .call (.c (.clo 85 [])) [(.t 14), (.c (.int .i64 0))], none, []⟩,
 ⟨some 13, .mov (.t 15), none, []⟩,
 ⟨some 16, .extract 0 (.t 13), none, []⟩,
 ⟨some 17, .extract 1 (.t 13), none, []⟩,
 ⟨some 3, .lalloc (.agg [(.int .i64 0), (.int .i64 0)]), none, []⟩,
 ⟨none, .store 2 (.t 3) (.t 16), none, []⟩,
 ⟨some 4, .mov (.t 17), none, []⟩])
 (.seq (.region none [
 ⟨some 18, .load 2 true (.t 3), none, []⟩,
 ⟨none, .store 2 (.t 2) (.t 18), none, []⟩])
 .ret)))))
def af53 : AFun := ⟨.pure, 1, 53, body53, [.cell 2 2 true]⟩

/-- umpirage/umpirageref7.signs -/
def body54 : ACode := (.seq (.region none [
 ⟨some 2, .fbox (.t 0), none, []⟩,
 ⟨some 4, .mov (.c (.int .i64 0)), none, []⟩])
 (.seq (.seq (.region none [
 ⟨some 7, .faddr 0 (.t 2), none, []⟩,
 ⟨some 8, .load 1 false (.t 7), none, []⟩,
 ⟨some 9, .mov (.t 1), none, []⟩,
 ⟨some 10, .len (.t 9), none, []⟩,
 ⟨some 11, .bin .gtr (.t 8) (.t 10), none, []⟩])
 (.cond (.t 11)
 (.seq (.region none [
 ⟨some 4, .mov (.c (.int .i64 12)), none, []⟩])
 .ret)
 .skip))
 (.seq (.seq (.region (some [0, 1, 3, 7, 15, 31, 63, 15, 15, 271, 783, 1935, 3983, 8191, 16383]) [
 ⟨some 12, .faddr 0 (.t 2), none, []⟩,
 ⟨some 13, .load 1 false (.t 12), none, []⟩,
 ⟨some 14, .bin .gtr (.t 13) (.c (.int .i64 0)), none, []⟩,
 ⟨some 15, .mov (.t 14), none, []⟩,
 ⟨some 16, .faddr 1 (.t 2), some (15, true), []⟩,
 ⟨some 17, .load 1 false (.t 16), some (15, true), []⟩,
 ⟨some 18, .len (.t 17), some (15, true), []⟩,
 ⟨some 19, .mov (.t 1), some (15, true), []⟩,
 ⟨some 20, .faddr 0 (.t 2), some (15, true), []⟩,
 ⟨some 21, .load 1 false (.t 20), some (15, true), []⟩,
 ⟨some 22, .bin .sub (.t 21) (.c (.int .i64 1)), some (15, true), []⟩,
 ⟨some 23, .iaddr 1 (.t 19) (.t 22), some (15, true), []⟩,
 ⟨some 24, .load 1 false (.t 23), some (15, true), []⟩,
 ⟨some 25, .bin .neq (.t 18) (.t 24), some (15, true), []⟩,
 ⟨some 26, .pick (.t 15) (.t 25) (.c (.bool false)), none, []⟩])
 (.cond (.t 26)
 (.seq (.region none [
 ⟨some 4, .mov (.c (.int .i64 9)), none, []⟩])
 .ret)
 .skip))
 (.seq (.seq (.region none [
 ⟨some 5, .mov (.c (.int .i64 0)), none, []⟩])
 (.block 0
 (.loop (.seq (.seq (.region none [
 ⟨some 27, .mov (.t 5), none, []⟩,
 ⟨some 28, .faddr 1 (.t 2), none, []⟩,
 ⟨some 29, .load 1 false (.t 28), none, []⟩,
 ⟨some 30, .len (.t 29), none, []⟩,
 ⟨some 31, .bin .lss (.t 27) (.t 30), none, []⟩])
 (.cond (.t 31)
 .skip
 (.exit 0)))
 (.seq (.block 1
 (.seq (.region none [
 ⟨some 34, .faddr 1 (.t 2), none, []⟩,
 ⟨some 35, .load 1 false (.t 34), none, []⟩,
 ⟨some 36, .mov (.t 5), none, []⟩,
 ⟨some 37, .iaddr 2 (.t 35) (.t 36), none, []⟩,
 ⟨some 38, .load 2 true (.t 37), none, []⟩,
 ⟨some 39, .mov (.t 1), none, []⟩,
 ⟨some 40, .call (.c (.clo 54 [])) [(.t 38), (.t 39)], none, []⟩,
 ⟨some 6, .mov (.t 40), none, []⟩])
 (.seq (.region none [
 ⟨some 41, .mov (.t 6), none, []⟩,
 ⟨some 42, .bin .neq (.t 41) (.c (.int .i64 0)), none, []⟩])
 (.cond (.t 42)
 (.seq (.region none [
 ⟨some 43, .mov (.t 6), none, []⟩,
 ⟨some 4, .mov (.t 43), none, []⟩])
 .ret)
 .skip))))
 (.region none [
 ⟨some 32, .mov (.t 5), none, []⟩,
 ⟨some 33, .bin .add (.t 32) (.c (.int .i64 1)), none, []⟩,
 ⟨some 5, .mov (.t 33), none, []⟩]))))))
 (.seq (.region none [
 ⟨some 4, .mov (.c (.int .i64 0)), none, []⟩])
 .ret)))))
def af54 : AFun := ⟨.pure, 1, 54, body54, [.t 4]⟩

/-- umpirage/eltool.Most -/
def body55 : ACode := (.seq (.region none [
 ⟨some 1, .fbox (.t 0), none, []⟩,
 ⟨some 2, .mov (.c (.int .i64 0)), none, []⟩])
 (.seq (.region none [
 ⟨some 6, .faddr 0 (.t 1), none, []⟩,
 ⟨some 7, .load 1 false (.t 6), none, []⟩,
 ⟨some 8, .un .neg (.t 7), none, []⟩,
 ⟨some 9, .max (.c (.int .i64 0)) (.t 8) [], none, []⟩,
 ⟨some 3, .mov (.t 9), none, []⟩])
 (.seq (.seq (.region none [
 ⟨some 10, .faddr 1 (.t 1), none, []⟩,
 ⟨some 11, .load 1 false (.t 10), none, []⟩,
 ⟨some 12, .len (.t 11), none, []⟩,
 ⟨some 13, .mov (.c (.int .i64 0)), none, []⟩])
 (.block 0
 (.loop (.seq (.region none [
 ⟨some 14, .bin .lss (.t 13) (.t 12), none, []⟩])
 (.seq (.cond (.t 14)
 .skip
 (.exit 0))
 (.seq (.block 1
 (.seq (.region none [
 ⟨some 15, .iaddr 2 (.t 11) (.t 13), none, []⟩,
 ⟨some 16, .load 2 true (.t 15), none, []⟩,
 ⟨some 5, .lalloc (.agg [(.int .i64 0), .nilSlice]), none, []⟩,
 ⟨none, .store 2 (.t 5) (.t 16), none, []⟩])
 (.region none [
 ⟨some 17, .mov (.t 3), none, []⟩,
 ⟨some 18, .load 2 true (.t 5), none, []⟩,
 ⟨some 19, .call (.c (.clo 55 [])) [(.t 18)], none, []⟩,
 ⟨some 20, .max (.t 17) (.t 19) [], none, []⟩,
 ⟨some 3, .mov (.t 20), none, []⟩])))
 (.region none [
 ⟨some 21, .bin .add (.t 13) (.c (.int .i64 1)), none, []⟩,
 ⟨some 13, .mov (.t 21), none, []⟩])))))))
 (.seq (.region none [
 ⟨some 22, .mov (.t 3), none, []⟩,
 ⟨some 2, .mov (.t 22), none, []⟩])
 .ret))))
def af55 : AFun := ⟨.pure, 1, 55, body55, [.t 2]⟩

/-- (*umpirage/find.finder).broken -/
def body56 : ACode := (.seq (.region none [
 ⟨some 4, .fbox (.t 1), none, []⟩,
 ⟨some 6, .mov (.c (.bool false)), none, []⟩])
 (.seq (.seq (.region none [
 ⟨some 11, .faddr 0 (.t 4), none, []⟩,
 ⟨some 12, .load 1 false (.t 11), none, []⟩,
 ⟨some 13, .len (.t 12), none, []⟩,
 ⟨some 14, .mov (.c (.int .i64 0)), none, []⟩])
 (.block 0
 (.loop (.seq (.region none [
 ⟨some 15, .bin .lss (.t 14) (.t 13), none, []⟩])
 (.seq (.cond (.t 15)
 .skip
 (.exit 0))
 (.seq (.block 1
 (.seq (.region none [
 ⟨some 16, .iaddr 5 (.t 12) (.t 14), none, []⟩,
 ⟨some 17, .load 5 true (.t 16), none, []⟩,
 ⟨some 8, .lalloc (.agg [(.bool false), (.int .i64 0), .nilSlice, (.int .i64 0), .nilSlice]), none, []⟩,
 ⟨none, .store 5 (.t 8) (.t 17), none, []⟩])
 (.seq (.region (some [0, 0, 2, 0, 15, 0, 0, 64, 0, 511, 1023, 2047]) [
 ⟨some 18, .mov (.t 0), none, []⟩,
 ⟨some 19, .faddr 1 (.t 8), none, []⟩,
 ⟨some 20, .load 2 true (.t 19), none, []⟩,
 ⟨some 21, .mov (.t 2), none, []⟩,
 ⟨some 22, .call (.c (.clo 86 [])) [(.t 18), (.t 20), (.t 21)], none, []⟩,
 ⟨some 23, .mov (.t 0), none, []⟩,
 ⟨some 24, .faddr 3 (.t 8), none, []⟩,
 ⟨some 25, .load 2 true (.t 24), none, []⟩,
 ⟨some 26, .mov (.t 2), none, []⟩,
 ⟨some 27, .call (.c (.clo 86 [])) [(.t 23), (.t 25), (.t 26)], none, []⟩,
 ⟨some 9, .mov (.t 22), none, []⟩,
 ⟨some 10, .mov (.t 27), none, []⟩])
 (.seq (.region none [
 ⟨some 28, .mov (.t 9), none, []⟩,
 ⟨some 29, .bin .lss (.t 28) (.c (.int .i64 0)), none, []⟩,
 ⟨some 30, .mov (.t 29), none, []⟩,
 ⟨some 31, .mov (.t 10), some (30, false), []⟩,
 ⟨some 32, .bin .lss (.t 31) (.c (.int .i64 0)), some (30, false), []⟩,
 ⟨some 33, .pick (.t 30) (.c (.bool true)) (.t 32), none, []⟩,
 ⟨some 34, .mov (.t 33), none, []⟩,
 ⟨some 35, .mov (.t 9), some (34, false), []⟩,
 ⟨some 36, .mov (.t 10), some (34, false), []⟩,
 ⟨some 37, .bin .eql (.t 35) (.t 36), some (34, false), []⟩,
 ⟨some 38, .faddr 0 (.t 8), some (34, false), []⟩,
 ⟨some 39, .load 1 false (.t 38), some (34, false), []⟩,
 ⟨some 40, .eqb true (.t 37) (.t 39), some (34, false), []⟩,
 ⟨some 41, .pick (.t 34) (.c (.bool true)) (.t 40), none, []⟩])
 (.cond (.t 41)
 (.seq (.region none [
 ⟨some 6, .mov (.c (.bool false)), none, []⟩])
 .ret)
 .skip)))))
 (.region none [
 ⟨some 42, .bin .add (.t 14) (.c (.int .i64 1)), none, []⟩,
 ⟨some 14, .mov (.t 42), none, []⟩])))))))
 (.seq (.region none [
 ⟨some 6, .mov (.c (.bool true)), none, []⟩])
 .ret)))
def af56 : AFun := ⟨.pure, 1, 56, body56, [.t 6]⟩

/-- umpirage/table.True -/
def body57 : ACode := (.seq (.region none [
 ⟨some 3, .fbox (.t 0), none, []⟩,
 ⟨some 4, .fbox (.t 1), none, []⟩,
 ⟨some 6, .mov (.c (.bool false)), none, []⟩])
 (.seq (.seq (.region none [
 ⟨some 9, .faddr 0 (.t 4), none, []⟩,
 ⟨some 10, .load 1 false (.t 9), none, []⟩,
 ⟨some 11, .len (.t 10), none, []⟩,
 ⟨some 12, .mov (.c (.int .i64 0)), none, []⟩])
 (.block 0
 (.loop (.seq (.region none [
 ⟨some 13, .bin .lss (.t 12) (.t 11), none, []⟩])
 (.seq (.cond (.t 13)
 .skip
 (.exit 0))
 (.seq (.block 1
 (.seq (.region none [
 ⟨some 14, .iaddr 5 (.t 10) (.t 12), none, []⟩,
 ⟨some 15, .load 5 true (.t 14), none, []⟩,
 ⟨some 8, .lalloc (.agg [(.bool false), (.int .i64 0), .nilSlice, (.int .i64 0), .nilSlice]), none, []⟩,
 ⟨none, .store 5 (.t 8) (.t 15), none, []⟩])
 (.seq (.region (some [0, 0, 2, 0, 15, 0, 0, 64, 0, 511, 1023, 0, 2048, 8191]) [
 ⟨some 16, .load 2 true (.t 3), none, []⟩,
 ⟨some 17, .faddr 1 (.t 8), none, []⟩,
 ⟨some 18, .load 2 true (.t 17), none, []⟩,
 ⟨some 19, .mov (.t 2), none, []⟩,
 ⟨some 20, .call (.c (.clo 87 [])) [(.t 16), (.t 18), (.t 19)], none, []⟩,
 ⟨some 21, .load 2 true (.t 3), none, []⟩,
 ⟨some 22, .faddr 3 (.t 8), none, []⟩,
 ⟨some 23, .load 2 true (.t 22), none, []⟩,
 ⟨some 24, .mov (.t 2), none, []⟩,
 ⟨some 25, .call (.c (.clo 87 [])) [(.t 21), (.t 23), (.t 24)], none, []⟩,
 ⟨some 26, .bin .eql (.t 20) (.t 25), none, []⟩,
 ⟨some 27, .faddr 0 (.t 8), none, []⟩,
 ⟨some 28, .load 1 false (.t 27), none, []⟩,
 ⟨some 29, .eqb true (.t 26) (.t 28), none, []⟩])
 (.cond (.t 29)
 (.seq (.region none [
 ⟨some 6, .mov (.c (.bool true)), none, []⟩])
 .ret)
 .skip))))
 (.region none [
 ⟨some 30, .bin .add (.t 12) (.c (.int .i64 1)), none, []⟩,
 ⟨some 12, .mov (.t 30), none, []⟩])))))))
 (.seq (.region none [
 ⟨some 6, .mov (.c (.bool false)), none, []⟩])
 .ret)))
def af57 : AFun := ⟨.pure, 1, 57, body57, [.t 6]⟩

/-- umpirage/eltool.Deep -/
def body58 : ACode := (.seq (.region none [
 ⟨some 1, .fbox (.t 0), none, []⟩,
 ⟨some 2, .mov (.c (.int .i64 0)), none, []⟩])
 (.seq (.region none [
 ⟨some 3, .mov (.c (.int .i64 0)), none, []⟩])
 (.seq (.seq (.region none [
 ⟨some 6, .faddr 1 (.t 1), none, []⟩,
 ⟨some 7, .load 1 false (.t 6), none, []⟩,
 ⟨some 8, .len (.t 7), none, []⟩,
 ⟨some 9, .mov (.c (.int .i64 0)), none, []⟩])
 (.block 0
 (.loop (.seq (.region none [
 ⟨some 10, .bin .lss (.t 9) (.t 8), none, []⟩])
 (.seq (.cond (.t 10)
 .skip
 (.exit 0))
 (.seq (.block 1
 (.seq (.region none [
 ⟨some 11, .iaddr 2 (.t 7) (.t 9), none, []⟩,
 ⟨some 12, .load 2 true (.t 11), none, []⟩,
 ⟨some 5, .lalloc (.agg [(.int .i64 0), .nilSlice]), none, []⟩,
 ⟨none, .store 2 (.t 5) (.t 12), none, []⟩])
 (.region none [
 ⟨some 13, .mov (.t 3), none, []⟩,
 ⟨some 14, .load 2 true (.t 5), none, []⟩,
 ⟨some 15, .call (.c (.clo 58 [])) [(.t 14)], none, []⟩,
 ⟨some 16, .max (.t 13) (.t 15) [], none, []⟩,
 ⟨some 3, .mov (.t 16), none, []⟩])))
 (.region none [
 ⟨some 17, .bin .add (.t 9) (.c (.int .i64 1)), none, []⟩,
 ⟨some 9, .mov (.t 17), none, []⟩])))))))
 (.seq (.region none [
 ⟨some 18, .mov (.t 3), none, []⟩,
 ⟨some 19, .bin .add (.t 18) (.c (.int .i64 1)), none, []⟩,
 ⟨some 2, .mov (.t 19), none, []⟩])
 .ret))))
def af58 : AFun := ⟨.pure, 1, 58, body58, [.t 2]⟩

/-- umpirage/tree.node -/
def body59 : ACode := (.seq (.region none [
 ⟨some 2, .fbox (.t 0), none, []⟩,
 ⟨some 4, .mov (.c (.int .i64 0)), none, []⟩,
 ⟨some 5, .mov (.c (.bool false)), none, []⟩])
 (.seq (.block 0
 (.seq (.region none [
 ⟨some 11, .faddr 0 (.t 2), none, []⟩,
 ⟨some 12, .load 1 false (.t 11), none, []⟩,
 ⟨some 13, .bin .eql (.t 12) (.c (.int .i64 0)), none, []⟩,
 ⟨some 14, .mov (.t 13), none, []⟩,
 ⟨some 15, .faddr 0 (.t 2), some (14, false), []⟩,
 ⟨some 16, .load 1 false (.t 15), some (14, false), []⟩,
 ⟨some 17, .call (.c (.clo 17 [])) [(.t 16), (.c (.int .i64 (-8))), (.c (.int .i64 12))], some (14, false), []⟩,
 ⟨some 18, .un .not (.t 17), some (14, false), []⟩,
 ⟨some 19, .pick (.t 14) (.c (.bool true)) (.t 18), none, []⟩,
 ⟨some 10, .mov (.t 19), none, []⟩])
 (.cond (.t 10)
 (.seq (.region none [
 ⟨some 4, .mov (.c (.int .i64 3)), none, []⟩,
 ⟨some 5, .mov (.c (.bool false)), none, []⟩])
 .ret)
 (.seq (.region none [
 ⟨some 21, .faddr 1 (.t 2), none, []⟩,
 ⟨some 22, .load 1 false (.t 21), none, []⟩,
 ⟨some 23, .len (.t 22), none, []⟩,
 ⟨some 24, .bin .gtr (.t 23) (.c (.int .i64 3)), none, []⟩,
 ⟨some 25, .mov (.t 24), none, []⟩,
 ⟨some 26, .faddr 0 (.t 2), some (25, false), []⟩,
 ⟨some 27, .load 1 false (.t 26), some (25, false), []⟩,
 ⟨some 28, .bin .lss (.t 27) (.c (.int .i64 0)), some (25, false), []⟩,
 ⟨some 29, .mov (.t 28), some (25, false), []⟩,
 ⟨some 30, .faddr 1 (.t 2), some (29, true), []⟩,
 ⟨some 31, .load 1 false (.t 30), some (29, true), []⟩,
 ⟨some 32, .len (.t 31), some (29, true), []⟩,
 ⟨some 33, .bin .gtr (.t 32) (.c (.int .i64 0)), some (29, true), []⟩,
 ⟨some 34, .pick (.t 29) (.t 33) (.c (.bool false)), some (25, false), []⟩,
 ⟨some 35, .pick (.t 25) (.c (.bool true)) (.t 34), none, []⟩,
 ⟨some 20, .mov (.t 35), none, []⟩])
 (.cond (.t 20)
 (.seq (.region none [
 ⟨some 4, .mov (.c (.int .i64 9)), none, []⟩,
 ⟨some 5, .mov (.c (.bool false)), none, []⟩])
 .ret)
 .skip)))))
 (.seq (.seq (.region none [
 ⟨some 36, .faddr 1 (.t 2), none, []⟩,
 ⟨some 37, .load 1 false (.t 36), none, []⟩,
 ⟨some 38, .len (.t 37), none, []⟩,
 ⟨some 39, .mov (.c (.int .i64 0)), none, []⟩])
 (.block 1
 (.loop (.seq (.region none [
 ⟨some 40, .bin .lss (.t 39) (.t 38), none, []⟩])
 (.seq (.cond (.t 40)
 .skip
 (.exit 1))
 (.seq (.block 2
 (.seq (.region none [
 ⟨some 41, .iaddr 2 (.t 37) (.t 39), none, []⟩,
 ⟨some 42, .load 2 true (.t 41), none, []⟩,
 ⟨some 7, .lalloc (.agg [(.int .i64 0), .nilSlice]), none, []⟩,
 ⟨none, .store 2 (.t 7) (.t 42), none, []⟩])
 (.seq (.region none [
 ⟨some 43, .mov (.t 1), none, []⟩,
 ⟨some 44, .ncheck (.t 43), none, []⟩,
 ⟨some 45, .load 1 false (.t 44), none, []⟩,
 ⟨some 46, .bin .add (.t 45) (.c (.int .i64 1)), none, []⟩,
 ⟨some 47, .ncheck (.t 43), none, []⟩,
 ⟨none, .store 1 (.t 47) (.t 46), none, []⟩])
 (.seq (.region none [
 ⟨some 49, .load 2 true (.t 7), none, []⟩,
 ⟨some 50, .mov (.t 1), none, []⟩,
 ⟨some 51, .call (.c (.clo 59 [])) [(.t 49), (.t 50)], none, []⟩,
 ⟨some 48, .mov (.t 51), none, []⟩,
 ⟨some 52, .extract 0 (.t 48), none, []⟩,
 ⟨some 53, .extract 1 (.t 48), none, []⟩,
 ⟨some 8, .mov (.t 52), none, []⟩,
 ⟨some 9, .mov (.t 53), none, []⟩])
 (.seq (.region none [
 ⟨some 54, .mov (.t 9), none, []⟩,
 ⟨some 55, .un .not (.t 54), none, []⟩])
 (.cond (.t 55)
 (.seq (.region none [
 ⟨some 56, .mov (.t 8), none, []⟩,
 ⟨some 4, .mov (.t 56), none, []⟩,
 ⟨some 5, .mov (.c (.bool false)), none, []⟩])
 .ret)
 .skip))))))
 (.region none [
 ⟨some 57, .bin .add (.t 39) (.c (.int .i64 1)), none, []⟩,
 ⟨some 39, .mov (.t 57), none, []⟩])))))))
 (.seq (.region none [
 ⟨some 4, .mov (.c (.int .i64 0)), none, []⟩,
 ⟨some 5, .mov (.c (.bool true)), none, []⟩])
 .ret))))
def af59 : AFun := ⟨.mut, 1, 59, body59, [.t 4, .t 5]⟩

/-- umpirage/tree.Bind -/
def body60 : ACode := (.seq (.region none [
 ⟨some 2, .lalloc (.agg [(.int .i64 0), (.int .i64 0)]), none, []⟩])
 (.seq (.seq (.region none [
 ⟨some 6, .mov (.t 0), none, []⟩,
 ⟨some 7, .len (.t 6), none, []⟩,
 ⟨some 8, .bin .gtr (.t 7) (.c (.int .i64 8)), none, []⟩])
 (.cond (.t 8)
 (.seq (.region none [
 ⟨some 9, .call (.c (.clo 18 [])) [(.c (.int .i64 2)), (.c (.int .i64 (-1)))], none, []⟩,
 ⟨none, .store 2 (.t 2) (.t 9), none, []⟩])
 .ret)
 .skip))
 (.seq (.seq (.region none [
 ⟨some 10, .mov (.t 0), none, []⟩,
 ⟨some 11, .len (.t 10), none, []⟩,
 ⟨some 12, .mov (.c (.int .i64 0)), none, []⟩])
 (.block 0
 (.loop (.seq (.region none [
 ⟨some 13, .bin .lss (.t 12) (.t 11), none, []⟩])
 (.seq (.cond (.t 13)
 .skip
 (.exit 0))
 (.seq (.block 1
 (.seq (.region none [
 ⟨some 14, .mov (.t 12), none, []⟩,
 ⟨some 15, .iaddr 2 (.t 10) (.t 12), none, []⟩,
 ⟨some 16, .load 2 true (.t 15), none, []⟩,
 ⟨some 4, .lalloc (.agg [(.int .i64 0), .nilSlice]), none, []⟩,
 ⟨some 3, .mov (.t 14), none, []⟩,
 ⟨none, .store 2 (.t 4) (.t 16), none, []⟩])
 (.seq (.seq (.region none [
 ⟨some 17, .faddr 0 (.t 4), none, []⟩,
 ⟨some 18, .load 1 false (.t 17), none, []⟩,
 ⟨some 19, .bin .eql (.t 18) (.c (.int .i64 0)), none, []⟩])
 (.cond (.t 19)
 (.seq (.seq (.region none [
 ⟨some 20, .faddr 1 (.t 4), none, []⟩,
 ⟨some 21, .load 1 false (.t 20), none, []⟩,
 ⟨some 22, .len (.t 21), none, []⟩,
 ⟨some 23, .bin .gtr (.t 22) (.c (.int .i64 0)), none, []⟩])
 (.cond (.t 23)
 (.seq (.region none [
 ⟨some 24, .mov (.t 3), none, []⟩,
 ⟨some 25, .bin .sub (.c (.int .i64 (-1))) (.t 24), none, []⟩,
 ⟨some 26, .call (.c (.clo 18 [])) [(.c (.int .i64 5)), (.t 25)], none, []⟩,
 ⟨none, .store 2 (.t 2) (.t 26), none, []⟩])
 .ret)
 .skip))
 (.exit 1))
 .skip))
 (.seq (.region none [
 ⟨some 27, .load 2 true (.t 4), none, []⟩,
 ⟨some 28, .call (.c (.clo 38 [])) [(.t 27)], none, []⟩,
 ⟨some 5, .lalloc (.agg [(.int .i64 0), (.int .i64 0)]), none, []⟩,
 ⟨none, .store 2 (.t 5) (.t 28), none, []⟩])
 (.seq (.region none [
 ⟨some 29, .load 2 true (.t 5), none, []⟩,
 ⟨some 30, .build [(.int .i64 0), (.int .i64 0)] [], none, []⟩,
 ⟨some 31, .eqs [0, 0] true (.t 29) (.t 30), none, []⟩])
 (.cond (.t 31)
 (.seq (.region none [
 ⟨some 32, .faddr 0 (.t 5), none, []⟩,
 ⟨some 33, .load 1 false (.t 32), none, []⟩,
 ⟨some 34, .mov (.t 3), none, []⟩,
 ⟨some 35, .bin .sub (.c (.int .i64 (-1))) (.t 34), none, []⟩,
 ⟨some 36, .call (.c (.clo 18 [])) [(.t 33), (.t 35)], none, []⟩,
 ⟨none, .store 2 (.t 2) (.t 36), none, []⟩])
 .ret)
 .skip))))))
 (.region none [
 ⟨some 37, .bin .add (.t 12) (.c (.int .i64 1)), none, []⟩,
 ⟨some 12, .mov (.t 37), none, []⟩])))))))
 (.seq (.region none [
 ⟨some 38, .build [(.int .i64 0), (.int .i64 0)] [], none, []⟩,
 ⟨none, .store 2 (.t 2) (.t 38), none, []⟩])
 .ret))))
def af60 : AFun := ⟨.pure, 1, 60, body60, [.cell 2 2 true]⟩

/-- umpirage/eltool.Claim -/
def body61 : ACode := (.seq (.region none [
 ⟨some 2, .fbox (.t 0), none, []⟩,
 ⟨some 4, .lalloc (.agg [.nilSlice]), none, []⟩])
 (.seq (.region none [
 ⟨some 5, .lalloc (.agg [.nilSlice]), none, []⟩])
 (.seq (.seq (.region none [
 ⟨some 8, .faddr 0 (.t 2), none, []⟩,
 ⟨some 9, .load 1 false (.t 8), none, []⟩,
 ⟨some 10, .len (.t 9), none, []⟩,
 ⟨some 11, .mov (.c (.int .i64 0)), none, []⟩])
 (.block 0
 (.loop (.seq (.region none [
 ⟨some 12, .bin .lss (.t 11) (.t 10), none, []⟩])
 (.seq (.cond (.t 12)
 .skip
 (.exit 0))
 (.seq (.block 1
 (.seq (.region none [
 ⟨some 13, .iaddr 5 (.t 9) (.t 11), none, []⟩,
 ⟨some 14, .load 5 true (.t 13), none, []⟩,
 ⟨some 7, .lalloc (.agg [(.bool false), (.int .i64 0), .nilSlice, (.int .i64 0), .nilSlice]), none, []⟩,
 ⟨none, .store 5 (.t 7) (.t 14), none, []⟩])
 (.region (some [0, 1, 0, 4, 0, 0, 32, 112, 0, 0, 512, 2032, 4092, 8188, 16383, 32767, 65535]) [
 ⟨some 15, .faddr 0 (.t 5), none, []⟩,
 ⟨some 16, .load 1 false (.t 15), none, []⟩,
 ⟨some 17, .faddr 0 (.t 7), none, []⟩,
 ⟨some 18, .load 1 false (.t 17), none, []⟩,
 ⟨some 19, .mov (.t 1), none, []⟩,
 ⟨some 20, .faddr 1 (.t 7), none, []⟩,
 ⟨some 21, .load 2 true (.t 20), none, []⟩,
 ⟨some 22, .call (.t 19) [(.t 21)], none, []⟩,
 ⟨some 23, .mov (.t 1), none, []⟩,
 ⟨some 24, .faddr 3 (.t 7), none, []⟩,
 ⟨some 25, .load 2 true (.t 24), none, []⟩,
 ⟨some 26, .call (.t 23) [(.t 25)], none, []⟩,
 ⟨some 27, .build [(.bool false), (.int .i64 0), .nilSlice, (.int .i64 0), .nilSlice] [(0, 1, (.t 18)), (1, 2, (.t 22)), (3, 2, (.t 26))], none, []⟩,
 ⟨some 28, .bslice false 5 1 [(.bool false), (.int .i64 0), .nilSlice, (.int .i64 0), .nilSlice] [(0, 5, (.t 27))], none, []⟩,
 ⟨some 29, .append false 5 72 (.t 16) (.t 28), none, []⟩,
 ⟨some 30, .faddr 0 (.t 5), none, []⟩,
 ⟨none, .store 1 (.t 30) (.t 29), none, []⟩])))
 (.region none [
 ⟨some 31, .bin .add (.t 11) (.c (.int .i64 1)), none, []⟩,
 ⟨some 11, .mov (.t 31), none, []⟩])))))))
 (.seq (.region none [
 ⟨some 32, .load 1 true (.t 5), none, []⟩,
 ⟨none, .store 1 (.t 4) (.t 32), none, []⟩])
 .ret))))
def af61 : AFun := ⟨.pure, 1, 61, body61, [.cell 4 1 true]⟩

/-- umpirage/eltool.Claim -/
def body1061 : ACode := (.seq (.region none [
 ⟨some 2, .fbox (.t 0), none, []⟩,
 ⟨some 4, .lalloc (.agg [.nilSlice]), none, []⟩])
 (.seq (.region none [
 ⟨some 5, .lalloc (.agg [.nilSlice]), none, []⟩])
 (.seq (.seq (.region none [
 ⟨some 8, .faddr 0 (.t 2), none, []⟩,
 ⟨some 9, .load 1 false (.t 8), none, []⟩,
 ⟨some 10, .len (.t 9), none, []⟩,
 ⟨some 11, .mov (.c (.int .i64 0)), none, []⟩])
 (.block 0
 (.loop (.seq (.region none [
 ⟨some 12, .bin .lss (.t 11) (.t 10), none, []⟩])
 (.seq (.cond (.t 12)
 .skip
 (.exit 0))
 (.seq (.block 1
 (.seq (.region none [
 ⟨some 13, .iaddr 5 (.t 9) (.t 11), none, []⟩,
 ⟨some 14, .load 5 true (.t 13), none, []⟩,
 ⟨some 7, .lalloc (.agg [(.bool false), (.int .i64 0), .nilSlice, (.int .i64 0), .nilSlice]), none, []⟩,
 ⟨none, .store 5 (.t 7) (.t 14), none, []⟩])
 (.region (some [0, 1, 0, 4, 0, 0, 32, 112, 0, 0, 512, 2032, 4092, 8188, 16383, 32767, 65535]) [
 ⟨some 15, .faddr 0 (.t 5), none, []⟩,
 ⟨some 16, .load 1 false (.t 15), none, []⟩,
 ⟨some 17, .faddr 0 (.t 7), none, []⟩,
 ⟨some 18, .load 1 false (.t 17), none, []⟩,
 ⟨some 19, .mov (.t 1), none, []⟩,
 ⟨some 20, .faddr 1 (.t 7), none, []⟩,
 ⟨some 21, .load 2 true (.t 20), none, []⟩,
 ⟨some 22, .call (.t 19) [(.t 21)], none, []⟩,
 ⟨some 23, .mov (.t 1), none, []⟩,
 ⟨some 24, .faddr 3 (.t 7), none, []⟩,
 ⟨some 25, .load 2 true (.t 24), none, []⟩,
 ⟨some 26, .call (.t 23) [(.t 25)], none, []⟩,
 ⟨some 27, .build [(.bool false), (.int .i64 0), .nilSlice, (.int .i64 0), .nilSlice] [(0, 1, (.t 18)), (1, 2, (.t 22)), (3, 2, (.t 26))], none, []⟩,
 ⟨some 28, .bslice false 5 1 [(.bool false), (.int .i64 0), .nilSlice, (.int .i64 0), .nilSlice] [(0, 5, (.t 27))], none, []⟩,
 ⟨some 29, .append false 5 72 (.t 16) (.t 28), none, []⟩,
 ⟨some 30, .faddr 0 (.t 5), none, []⟩,
 ⟨none, .store 1 (.t 30) (.t 29), none, []⟩])))
 (.region none [
 ⟨some 31, .bin .add (.t 11) (.c (.int .i64 1)), none, []⟩,
 ⟨some 11, .mov (.t 31), none, []⟩])))))))
 (.seq (.region none [
 ⟨some 32, .load 1 true (.t 5), none, []⟩,
 ⟨none, .store 1 (.t 4) (.t 32), none, []⟩])
 .ret))))
def af1061 : AFun := ⟨.mutf, 1, 61, body1061, [.cell 4 1 true]⟩

/-- umpirage/trace.Next$1 -/
def body62 : ACode := (.seq (.region none [
 ⟨some 2, .fbox (.t 0), none, []⟩,
 ⟨some 3, .lalloc (.agg [(.int .i64 0), .nilSlice]), none, []⟩])
 (.seq (.region none [
 ⟨some 4, .load 2 true (.t 2), none, []⟩,
 ⟨some 5, .faddr 7 (.t 1), none, []⟩,
 ⟨some 6, .load 1 false (.t 5), none, []⟩,
 ⟨some 7, .call (.c (.clo 63 [])) [(.t 4), (.t 6)], none, []⟩,
 ⟨none, .store 2 (.t 3) (.t 7), none, []⟩])
 .ret))
def af62 : AFun := ⟨.pure, 1, 62, body62, [.cell 3 2 true]⟩

/-- umpirage/eltool.Bound -/
def body63 : ACode := (.seq (.region none [
 ⟨some 2, .fbox (.t 0), none, []⟩,
 ⟨some 4, .lalloc (.agg [(.int .i64 0), .nilSlice]), none, []⟩])
 (.seq (.seq (.region none [
 ⟨some 9, .faddr 0 (.t 2), none, []⟩,
 ⟨some 10, .load 1 false (.t 9), none, []⟩,
 ⟨some 11, .bin .lss (.t 10) (.c (.int .i64 0)), none, []⟩])
 (.cond (.t 11)
 (.seq (.seq (.region none [
 ⟨some 12, .faddr 0 (.t 2), none, []⟩,
 ⟨some 13, .load 1 false (.t 12), none, []⟩,
 ⟨some 14, .un .neg (.t 13), none, []⟩,
 ⟨some 15, .bin .sub (.t 14) (.c (.int .i64 1)), none, []⟩,
 ⟨some 5, .mov (.t 15), none, []⟩])
 (.seq (.region none [
 ⟨some 16, .mov (.t 5), none, []⟩,
 ⟨some 17, .mov (.t 1), none, []⟩,
 ⟨some 18, .len (.t 17), none, []⟩,
 ⟨some 19, .bin .lss (.t 16) (.t 18), none, []⟩,
 ⟨some 20, .mov (.t 19), none, []⟩,
 ⟨some 21, .mov (.t 1), some (20, true), []⟩,
 ⟨some 22, .mov (.t 5), some (20, true), []⟩,
 ⟨some 23, .iaddr 2 (.t 21) (.t 22), some (20, true), []⟩,
 ⟨some 24, .faddr 0 (.t 23), some (20, true), []⟩,
 ⟨some 25, .load 1 false (.t 24), some (20, true), []⟩,
 ⟨some 26, .bin .neq (.t 25) (.c (.int .i64 0)), some (20, true), []⟩,
 ⟨some 27, .pick (.t 20) (.t 26) (.c (.bool false)), none, []⟩])
 (.cond (.t 27)
 (.seq (.region none [
 ⟨some 28, .mov (.t 1), none, []⟩,
 ⟨some 29, .mov (.t 5), none, []⟩,
 ⟨some 30, .iaddr 2 (.t 28) (.t 29), none, []⟩,
 ⟨some 31, .load 2 true (.t 30), none, []⟩,
 ⟨some 32, .call (.c (.clo 66 [])) [(.t 31)], none, []⟩,
 ⟨none, .store 2 (.t 4) (.t 32), none, []⟩])
 .ret)
 .skip)))
 (.seq (.region none [
 ⟨some 33, .load 2 true (.t 2), none, []⟩,
 ⟨none, .store 2 (.t 4) (.t 33), none, []⟩])
 .ret))
 .skip))
 (.seq (.region none [
 ⟨some 34, .faddr 0 (.t 2), none, []⟩,
 ⟨some 35, .load 1 false (.t 34), none, []⟩,
 ⟨some 36, .build [(.int .i64 0), .nilSlice] [(0, 1, (.t 35))], none, []⟩,
 ⟨some 6, .lalloc (.agg [(.int .i64 0), .nilSlice]), none, []⟩,
 ⟨none, .store 2 (.t 6) (.t 36), none, []⟩])
 (.seq (.seq (.region none [
 ⟨some 37, .faddr 1 (.t 2), none, []⟩,
 ⟨some 38, .load 1 false (.t 37), none, []⟩,
 ⟨some 39, .len (.t 38), none, []⟩,
 ⟨some 40, .mov (.c (.int .i64 0)), none, []⟩])
 (.block 0
 (.loop (.seq (.region none [
 ⟨some 41, .bin .lss (.t 40) (.t 39), none, []⟩])
 (.seq (.cond (.t 41)
 .skip
 (.exit 0))
 (.seq (.block 1
 (.seq (.region none [
 ⟨some 42, .iaddr 2 (.t 38) (.t 40), none, []⟩,
 ⟨some 43, .load 2 true (.t 42), none, []⟩,
 ⟨some 8, .lalloc (.agg [(.int .i64 0), .nilSlice]), none, []⟩,
 ⟨none, .store 2 (.t 8) (.t 43), none, []⟩])
 (.region (some [0, 1, 0, 0, 12, 28, 63, 127, 255]) [
 ⟨some 44, .faddr 1 (.t 6), none, []⟩,
 ⟨some 45, .load 1 false (.t 44), none, []⟩,
 ⟨some 46, .load 2 true (.t 8), none, []⟩,
 ⟨some 47, .mov (.t 1), none, []⟩,
 ⟨some 48, .call (.c (.clo 63 [])) [(.t 46), (.t 47)], none, []⟩,
 ⟨some 49, .bslice false 2 1 [(.int .i64 0), .nilSlice] [(0, 2, (.t 48))], none, []⟩,
 ⟨some 50, .append false 2 32 (.t 45) (.t 49), none, []⟩,
 ⟨some 51, .faddr 1 (.t 6), none, []⟩,
 ⟨none, .store 1 (.t 51) (.t 50), none, []⟩])))
 (.region none [
 ⟨some 52, .bin .add (.t 40) (.c (.int .i64 1)), none, []⟩,
 ⟨some 40, .mov (.t 52), none, []⟩])))))))
 (.seq (.region none [
 ⟨some 53, .load 2 true (.t 6), none, []⟩,
 ⟨none, .store 2 (.t 4) (.t 53), none, []⟩])
 .ret)))))
def af63 : AFun := ⟨.pure, 1, 63, body63, [.cell 4 2 true]⟩

/-- umpirage/trace.right -/
def body64 : ACode := (.seq (.region none [
 ⟨some 3, .fbox (.t 0), none, []⟩,
 ⟨some 4, .fbox (.t 1), none, []⟩,
 ⟨some 5, .fbox (.t 2), none, []⟩,
 ⟨some 6, .lalloc (.agg [.nilSlice]), none, []⟩,
 ⟨some 7, .mov (.c (.int .i64 0)), none, []⟩])
 (.seq (.seq (.region none [
 ⟨some 14, .faddr 3 (.t 3), none, []⟩,
 ⟨some 15, .load 1 false (.t 14), none, []⟩,
 ⟨some 16, .faddr 0 (.t 4), none, []⟩,
 ⟨some 17, .load 1 false (.t 16), none, []⟩,
 ⟨some 18, .len (.t 17), none, []⟩,
 ⟨some 19, .bin .sub (.t 18) (.c (.int .i64 1)), none, []⟩,
 ⟨some 20, .call (.c (.clo 17 [])) [(.t 15), (.c (.int .i64 0)), (.t 19)], none, []⟩,
 ⟨some 21, .un .not (.t 20), none, []⟩,
 ⟨some 22, .mov (.t 21), none, []⟩,
 ⟨some 23, .faddr 4 (.t 3), some (22, false), []⟩,
 ⟨some 24, .load 1 false (.t 23), some (22, false), []⟩,
 ⟨some 25, .faddr 0 (.t 5), some (22, false), []⟩,
 ⟨some 26, .load 1 false (.t 25), some (22, false), []⟩,
 ⟨some 27, .len (.t 26), some (22, false), []⟩,
 ⟨some 28, .bin .sub (.t 27) (.c (.int .i64 1)), some (22, false), []⟩,
 ⟨some 29, .call (.c (.clo 17 [])) [(.t 24), (.c (.int .i64 0)), (.t 28)], some (22, false), []⟩,
 ⟨some 30, .un .not (.t 29), some (22, false), []⟩,
 ⟨some 31, .pick (.t 22) (.c (.bool true)) (.t 30), none, []⟩])
 (.cond (.t 31)
 (.seq (.region none [
 ⟨some 32, .build [.nilSlice] [], none, []⟩,
 ⟨none, .store 1 (.t 6) (.t 32), none, []⟩,
 ⟨some 7, .mov (.c (.int .i64 3)), none, []⟩])
 .ret)
 .skip))
 (.seq (.region none [
 ⟨some 33, .faddr 0 (.t 4), none, []⟩,
 ⟨some 34, .load 1 false (.t 33), none, []⟩,
 ⟨some 35, .faddr 3 (.t 3), none, []⟩,
 ⟨some 36, .load 1 false (.t 35), none, []⟩,
 ⟨some 37, .iaddr 5 (.t 34) (.t 36), none, []⟩,
 ⟨some 38, .load 5 true (.t 37), none, []⟩,
 ⟨some 8, .lalloc (.agg [(.bool false), (.int .i64 0), .nilSlice, (.int .i64 0), .nilSlice]), none, []⟩,
 ⟨none, .store 5 (.t 8) (.t 38), none, []⟩])
 (.seq (.seq (.region none [
 ⟨some 39, .faddr 0 (.t 8), none, []⟩,
 ⟨some 40, .load 1 false (.t 39), none, []⟩])
 (.cond (.t 40)
 (.seq (.region none [
 ⟨some 41, .build [.nilSlice] [], none, []⟩,
 ⟨none, .store 1 (.t 6) (.t 41), none, []⟩,
 ⟨some 7, .mov (.c (.int .i64 5)), none, []⟩])
 .ret)
 .skip))
 (.seq (.region (some [0, 1, 0, 4, 0, 0, 51, 127]) [
 ⟨some 42, .faddr 1 (.t 8), none, []⟩,
 ⟨some 43, .load 2 true (.t 42), none, []⟩,
 ⟨some 44, .faddr 3 (.t 8), none, []⟩,
 ⟨some 45, .load 2 true (.t 44), none, []⟩,
 ⟨some 9, .lalloc (.agg [(.int .i64 0), .nilSlice]), none, []⟩,
 ⟨some 10, .lalloc (.agg [(.int .i64 0), .nilSlice]), none, []⟩,
 ⟨none, .store 2 (.t 9) (.t 43), none, []⟩,
 ⟨none, .store 2 (.t 10) (.t 45), none, []⟩])
 (.seq (.seq (.region none [
 ⟨some 46, .faddr 5 (.t 3), none, []⟩,
 ⟨some 47, .load 1 false (.t 46), none, []⟩])
 (.cond (.t 47)
 (.region none [
 ⟨some 48, .load 2 true (.t 10), none, []⟩,
 ⟨some 49, .load 2 true (.t 9), none, []⟩,
 ⟨none, .store 2 (.t 9) (.t 48), none, []⟩,
 ⟨none, .store 2 (.t 10) (.t 49), none, []⟩])
 .skip))
 (.seq (.region (some [0, 1, 0, 4, 15, 31, 0, 64, 255, 511, 1023, 1023, 0, 6143, 16383]) [
 ⟨some 51, .faddr 0 (.t 5), none, []⟩,
 ⟨some 52, .load 1 false (.t 51), none, []⟩,
 ⟨some 53, .faddr 4 (.t 3), none, []⟩,
 ⟨some 54, .load 1 false (.t 53), none, []⟩,
 ⟨some 55, .iaddr 5 (.t 52) (.t 54), none, []⟩,
 ⟨some 56, .load 5 true (.t 55), none, []⟩,
 ⟨some 57, .faddr 6 (.t 3), none, []⟩,
 ⟨some 58, .load 1 false (.t 57), none, []⟩,
 ⟨some 59, .call (.c (.clo 88 [])) [(.t 56), (.t 58)], none, []⟩,
 ⟨some 50, .mov (.t 59), none, []⟩,
 ⟨some 60, .extract 0 (.t 50), none, []⟩,
 ⟨some 61, .extract 1 (.t 50), none, []⟩,
 ⟨some 11, .lalloc (.agg [(.int .i64 0), .nilSlice]), none, []⟩,
 ⟨none, .store 2 (.t 11) (.t 60), none, []⟩,
 ⟨some 12, .mov (.t 61), none, []⟩])
 (.seq (.block 0
 (.seq (.region none [
 ⟨some 63, .mov (.t 12), none, []⟩,
 ⟨some 64, .un .not (.t 63), none, []⟩,
 ⟨some 62, .mov (.t 64), none, []⟩])
 (.cond (.t 62)
 (.seq (.region none [
 ⟨some 65, .build [.nilSlice] [], none, []⟩,
 ⟨none, .store 1 (.t 6) (.t 65), none, []⟩,
 ⟨some 7, .mov (.c (.int .i64 6)), none, []⟩])
 .ret)
 (.seq (.region none [
 ⟨some 67, .load 2 true (.t 11), none, []⟩,
 ⟨some 68, .load 2 true (.t 9), none, []⟩,
 ⟨some 69, .call (.c (.clo 72 [])) [(.t 67), (.t 68)], none, []⟩,
 ⟨some 70, .un .not (.t 69), none, []⟩,
 ⟨some 66, .mov (.t 70), none, []⟩])
 (.cond (.t 66)
 (.seq (.region none [
 ⟨some 71, .build [.nilSlice] [], none, []⟩,
 ⟨none, .store 1 (.t 6) (.t 71), none, []⟩,
 ⟨some 7, .mov (.c (.int .i64 11)), none, []⟩])
 .ret)
 .skip)))))
 (.seq (.region none [
 ⟨some 72, .build [.nilSlice] [], none, []⟩,
 ⟨some 13, .lalloc (.agg [.nilSlice]), none, []⟩,
 ⟨none, .store 1 (.t 13) (.t 72), none, []⟩])
 (.seq (.region (some [0, 1, 0, 4, 0, 16, 60, 127, 0, 256, 0, 1024, 3072, 7936, 16383, 32767, 65535]) [
 ⟨some 73, .faddr 0 (.t 13), none, []⟩,
 ⟨some 74, .load 1 false (.t 73), none, []⟩,
 ⟨some 75, .faddr 0 (.t 4), none, []⟩,
 ⟨some 76, .load 1 false (.t 75), none, []⟩,
 ⟨some 77, .faddr 3 (.t 3), none, []⟩,
 ⟨some 78, .load 1 false (.t 77), none, []⟩,
 ⟨some 79, .slice 5 (.t 76) none (some (.t 78)), none, []⟩,
 ⟨some 80, .append false 5 72 (.t 74) (.t 79), none, []⟩,
 ⟨some 81, .faddr 0 (.t 4), none, []⟩,
 ⟨some 82, .load 1 false (.t 81), none, []⟩,
 ⟨some 83, .faddr 3 (.t 3), none, []⟩,
 ⟨some 84, .load 1 false (.t 83), none, []⟩,
 ⟨some 85, .bin .add (.t 84) (.c (.int .i64 1)), none, []⟩,
 ⟨some 86, .slice 5 (.t 82) (some (.t 85)) none, none, []⟩,
 ⟨some 87, .append false 5 72 (.t 80) (.t 86), none, []⟩,
 ⟨some 88, .faddr 0 (.t 13), none, []⟩,
 ⟨none, .store 1 (.t 88) (.t 87), none, []⟩])
 (.seq (.region (some [0, 1, 0, 4, 0, 16, 60, 127, 0, 256, 0, 1024, 3072, 7936, 16383, 32767, 65535]) [
 ⟨some 89, .faddr 0 (.t 13), none, []⟩,
 ⟨some 90, .load 1 false (.t 89), none, []⟩,
 ⟨some 91, .faddr 0 (.t 5), none, []⟩,
 ⟨some 92, .load 1 false (.t 91), none, []⟩,
 ⟨some 93, .faddr 4 (.t 3), none, []⟩,
 ⟨some 94, .load 1 false (.t 93), none, []⟩,
 ⟨some 95, .slice 5 (.t 92) none (some (.t 94)), none, []⟩,
 ⟨some 96, .append false 5 72 (.t 90) (.t 95), none, []⟩,
 ⟨some 97, .faddr 0 (.t 5), none, []⟩,
 ⟨some 98, .load 1 false (.t 97), none, []⟩,
 ⟨some 99, .faddr 4 (.t 3), none, []⟩,
 ⟨some 100, .load 1 false (.t 99), none, []⟩,
 ⟨some 101, .bin .add (.t 100) (.c (.int .i64 1)), none, []⟩,
 ⟨some 102, .slice 5 (.t 98) (some (.t 101)) none, none, []⟩,
 ⟨some 103, .append false 5 72 (.t 96) (.t 102), none, []⟩,
 ⟨some 104, .faddr 0 (.t 13), none, []⟩,
 ⟨none, .store 1 (.t 104) (.t 103), none, []⟩])
 (.seq (.region (some [0, 1, 0, 4, 0, 16, 60, 124, 0, 256, 0, 2044, 4092, 8191, 16383, 32767]) [
 ⟨some 105, .faddr 0 (.t 13), none, []⟩,
 ⟨some 106, .load 1 false (.t 105), none, []⟩,
 ⟨some 107, .faddr 0 (.t 5), none, []⟩,
 ⟨some 108, .load 1 false (.t 107), none, []⟩,
 ⟨some 109, .faddr 4 (.t 3), none, []⟩,
 ⟨some 110, .load 1 false (.t 109), none, []⟩,
 ⟨some 111, .iaddr 5 (.t 108) (.t 110), none, []⟩,
 ⟨some 112, .load 5 true (.t 111), none, []⟩,
 ⟨some 113, .faddr 6 (.t 3), none, []⟩,
 ⟨some 114, .load 1 false (.t 113), none, []⟩,
 ⟨some 115, .load 2 true (.t 10), none, []⟩,
 ⟨some 116, .call (.c (.clo 89 [])) [(.t 112), (.t 114), (.t 115)], none, []⟩,
 ⟨some 117, .bslice false 5 1 [(.bool false), (.int .i64 0), .nilSlice, (.int .i64 0), .nilSlice] [(0, 5, (.t 116))], none, []⟩,
 ⟨some 118, .append false 5 72 (.t 106) (.t 117), none, []⟩,
 ⟨some 119, .faddr 0 (.t 13), none, []⟩,
 ⟨none, .store 1 (.t 119) (.t 118), none, []⟩])
 (.seq (.region none [
 ⟨some 120, .load 1 true (.t 13), none, []⟩,
 ⟨none, .store 1 (.t 6) (.t 120), none, []⟩,
 ⟨some 7, .mov (.c (.int .i64 0)), none, []⟩])
 .ret)))))))))))))
def af64 : AFun := ⟨.pure, 1, 64, body64, [.cell 6 1 true, .t 7]⟩

/-- umpirage/trace.once -/
def body65 : ACode := (.seq (.region none [
 ⟨some 1, .fbox (.t 0), none, []⟩,
 ⟨some 2, .lalloc (.agg [.nilSlice]), none, []⟩])
 (.seq (.region none [
 ⟨some 3, .lalloc (.agg [.nilSlice]), none, []⟩])
 (.seq (.seq (.region none [
 ⟨some 6, .faddr 0 (.t 1), none, []⟩,
 ⟨some 7, .load 1 false (.t 6), none, []⟩,
 ⟨some 8, .len (.t 7), none, []⟩,
 ⟨some 9, .mov (.c (.int .i64 0)), none, []⟩])
 (.block 0
 (.loop (.seq (.region none [
 ⟨some 10, .bin .lss (.t 9) (.t 8), none, []⟩])
 (.seq (.cond (.t 10)
 .skip
 (.exit 0))
 (.seq (.block 1
 (.seq (.region none [
 ⟨some 11, .iaddr 5 (.t 7) (.t 9), none, []⟩,
 ⟨some 12, .load 5 true (.t 11), none, []⟩,
 ⟨some 5, .halloc (.agg [(.bool false), (.int .i64 0), .nilSlice, (.int .i64 0), .nilSlice]), none, []⟩,
 ⟨none, .store 5 (.t 5) (.t 12), none, []⟩])
 (.seq (.seq (.region none [
 ⟨some 13, .faddr 0 (.t 5), none, []⟩,
 ⟨some 14, .load 1 false (.t 13), none, []⟩,
 ⟨some 15, .mov (.t 14), none, []⟩,
 ⟨some 16, .faddr 1 (.t 5), some (15, true), []⟩,
 ⟨some 17, .load 2 true (.t 16), some (15, true), []⟩,
 ⟨some 18, .faddr 3 (.t 5), some (15, true), []⟩,
 ⟨some 19, .load 2 true (.t 18), some (15, true), []⟩,
 ⟨some 20, .call (.c (.clo 72 [])) [(.t 17), (.t 19)], some (15, true), []⟩,
 ⟨some 21, .pick (.t 15) (.t 20) (.c (.bool false)), none, []⟩,
 ⟨some 22, .mov (.t 21), none, []⟩,
 ⟨some 23, .faddr 0 (.t 3), some (22, false), []⟩,
 ⟨some 24, .load 1 false (.t 23), some (22, false), []⟩,
 ⟨some 25, .mkfn 90 [(.t 5)], some (22, false), []⟩,
 ⟨some 26, .call (.c (.clo 70 [])) [(.t 24), (.t 25)], some (22, false), []⟩,
 ⟨some 27, .pick (.t 22) (.c (.bool true)) (.t 26), none, []⟩])
 (.cond (.t 27)
 (.exit 1)
 .skip))
 (.region none [
 ⟨some 28, .faddr 0 (.t 3), none, []⟩,
 ⟨some 29, .load 1 false (.t 28), none, []⟩,
 ⟨some 30, .load 5 true (.t 5), none, []⟩,
 ⟨some 31, .bslice false 5 1 [(.bool false), (.int .i64 0), .nilSlice, (.int .i64 0), .nilSlice] [(0, 5, (.t 30))], none, []⟩,
 ⟨some 32, .append false 5 72 (.t 29) (.t 31), none, []⟩,
 ⟨some 33, .faddr 0 (.t 3), none, []⟩,
 ⟨none, .store 1 (.t 33) (.t 32), none, []⟩]))))
 (.region none [
 ⟨some 34, .bin .add (.t 9) (.c (.int .i64 1)), none, []⟩,
 ⟨some 9, .mov (.t 34), none, []⟩])))))))
 (.seq (.region none [
 ⟨some 35, .load 1 true (.t 3), none, []⟩,
 ⟨none, .store 1 (.t 2) (.t 35), none, []⟩])
 .ret))))
def af65 : AFun := ⟨.pure, 1, 65, body65, [.cell 2 1 true]⟩

/-- umpirage/eltool.Copy -/
def body66 : ACode := (.seq (.region none [
 ⟨some 1, .fbox (.t 0), none, []⟩,
 ⟨some 2, .lalloc (.agg [(.int .i64 0), .nilSlice]), none, []⟩])
 (.seq (.region none [
 ⟨some 6, .faddr 0 (.t 1), none, []⟩,
 ⟨some 7, .load 1 false (.t 6), none, []⟩,
 ⟨some 8, .build [(.int .i64 0), .nilSlice] [(0, 1, (.t 7))], none, []⟩,
 ⟨some 3, .lalloc (.agg [(.int .i64 0), .nilSlice]), none, []⟩,
 ⟨none, .store 2 (.t 3) (.t 8), none, []⟩])
 (.seq (.seq (.region none [
 ⟨some 9, .faddr 1 (.t 1), none, []⟩,
 ⟨some 10, .load 1 false (.t 9), none, []⟩,
 ⟨some 11, .len (.t 10), none, []⟩,
 ⟨some 12, .mov (.c (.int .i64 0)), none, []⟩])
 (.block 0
 (.loop (.seq (.region none [
 ⟨some 13, .bin .lss (.t 12) (.t 11), none, []⟩])
 (.seq (.cond (.t 13)
 .skip
 (.exit 0))
 (.seq (.block 1
 (.seq (.region none [
 ⟨some 14, .iaddr 2 (.t 10) (.t 12), none, []⟩,
 ⟨some 15, .load 2 true (.t 14), none, []⟩,
 ⟨some 5, .lalloc (.agg [(.int .i64 0), .nilSlice]), none, []⟩,
 ⟨none, .store 2 (.t 5) (.t 15), none, []⟩])
 (.region (some [0, 1, 0, 4, 12, 31, 63, 127]) [
 ⟨some 16, .faddr 1 (.t 3), none, []⟩,
 ⟨some 17, .load 1 false (.t 16), none, []⟩,
 ⟨some 18, .load 2 true (.t 5), none, []⟩,
 ⟨some 19, .call (.c (.clo 66 [])) [(.t 18)], none, []⟩,
 ⟨some 20, .bslice false 2 1 [(.int .i64 0), .nilSlice] [(0, 2, (.t 19))], none, []⟩,
 ⟨some 21, .append false 2 32 (.t 17) (.t 20), none, []⟩,
 ⟨some 22, .faddr 1 (.t 3), none, []⟩,
 ⟨none, .store 1 (.t 22) (.t 21), none, []⟩])))
 (.region none [
 ⟨some 23, .bin .add (.t 12) (.c (.int .i64 1)), none, []⟩,
 ⟨some 12, .mov (.t 23), none, []⟩])))))))
 (.seq (.region none [
 ⟨some 24, .load 2 true (.t 3), none, []⟩,
 ⟨none, .store 2 (.t 2) (.t 24), none, []⟩])
 .ret))))
def af66 : AFun := ⟨.pure, 1, 66, body66, [.cell 2 2 true]⟩

/-- umpirage/super.renaming$1 -/
def body67 : ACode := (.seq (.region none [
 ⟨some 4, .fbox (.t 0), none, []⟩])
 (.seq (.seq (.region none [
 ⟨some 7, .faddr 0 (.t 4), none, []⟩,
 ⟨some 8, .load 1 false (.t 7), none, []⟩,
 ⟨some 9, .bin .lss (.t 8) (.c (.int .i64 0)), none, []⟩,
 ⟨some 10, .mov (.t 9), none, []⟩,
 ⟨some 11, .load 1 false (.t 1), some (10, true), []⟩,
 ⟨some 12, .faddr 0 (.t 4), some (10, true), []⟩,
 ⟨some 13, .load 1 false (.t 12), some (10, true), []⟩,
 ⟨some 14, .un .neg (.t 13), some (10, true), []⟩,
 ⟨some 15, .bin .sub (.t 14) (.c (.int .i64 1)), some (10, true), []⟩,
 ⟨some 16, .iaddr 2 (.t 11) (.t 15), some (10, true), []⟩,
 ⟨some 17, .faddr 0 (.t 16), some (10, true), []⟩,
 ⟨some 18, .load 1 false (.t 17), some (10, true), []⟩,
 ⟨some 19, .bin .eql (.t 18) (.c (.int .i64 0)), some (10, true), []⟩,
 ⟨some 20, .pick (.t 10) (.t 19) (.c (.bool false)), none, []⟩])
 (.cond (.t 20)
 (.seq (.region none [
 ⟨some 21, .load 1 false (.t 2), none, []⟩,
 ⟨some 22, .bin .add (.t 21) (.c (.int .i64 1)), none, []⟩,
 ⟨none, .store 1 (.t 2) (.t 22), none, []⟩])
 (.region none [
 ⟨some 23, .load 1 false (.t 1), none, []⟩,
 ⟨some 24, .faddr 0 (.t 4), none, []⟩,
 ⟨some 25, .load 1 false (.t 24), none, []⟩,
 ⟨some 26, .un .neg (.t 25), none, []⟩,
 ⟨some 27, .bin .sub (.t 26) (.c (.int .i64 1)), none, []⟩,
 ⟨some 28, .load 1 false (.t 2), none, []⟩,
 ⟨some 29, .un .neg (.t 28), none, []⟩,
 ⟨some 30, .build [(.int .i64 0), .nilSlice] [(0, 1, (.t 29))], none, []⟩,
 ⟨some 31, .iaddr 2 (.t 23) (.t 27), none, []⟩,
 ⟨none, .store 2 (.t 31) (.t 30), none, []⟩]))
 .skip))
 (.seq (.region none [
 ⟨some 32, .faddr 1 (.t 4), none, []⟩,
 ⟨some 33, .load 1 false (.t 32), none, []⟩,
 ⟨some 34, .len (.t 33), none, []⟩,
 ⟨some 35, .mov (.c (.int .i64 0)), none, []⟩])
 (.block 0
 (.loop (.seq (.region none [
 ⟨some 36, .bin .lss (.t 35) (.t 34), none, []⟩])
 (.seq (.cond (.t 36)
 .skip
 (.exit 0))
 (.seq (.block 1
 (.seq (.region none [
 ⟨some 37, .iaddr 2 (.t 33) (.t 35), none, []⟩,
 ⟨some 38, .load 2 true (.t 37), none, []⟩,
 ⟨some 6, .lalloc (.agg [(.int .i64 0), .nilSlice]), none, []⟩,
 ⟨none, .store 2 (.t 6) (.t 38), none, []⟩])
 (.region none [
 ⟨some 39, .load 1 false (.t 3), none, []⟩,
 ⟨some 40, .load 2 true (.t 6), none, []⟩,
 ⟨some 41, .call (.t 39) [(.t 40)], none, []⟩])))
 (.region none [
 ⟨some 42, .bin .add (.t 35) (.c (.int .i64 1)), none, []⟩,
 ⟨some 35, .mov (.t 42), none, []⟩])))))))))
def af67 : AFun := ⟨.mut, 1, 67, body67, []⟩

/-- (*umpirage/super.search).once -/
def body68 : ACode := (.seq (.region none [
 ⟨some 4, .mov (.c (.int .i64 0)), none, []⟩,
 ⟨some 5, .mov (.c (.bool false)), none, []⟩])
 (.seq (.region none [
 ⟨some 6, .mov (.t 0), none, []⟩,
 ⟨some 7, .mov (.t 1), none, []⟩,
 ⟨some 8, .build [(.int .i64 0), (.int .i64 0), (.int .i64 0), (.int .i64 0), (.int .i64 0), (.bool false), .nilSlice, .nilSlice] [(0, 1, (.c (.int .i64 4))), (1, 1, (.t 7))], none, []⟩,
 ⟨some 9, .call (.c (.clo 19 [])) [(.t 6), (.t 8)], none, []⟩,
 ⟨some 10, .extract 0 (.t 9), none, []⟩,
 ⟨some 11, .extract 1 (.t 9), none, []⟩,
 ⟨some 4, .mov (.t 10), none, []⟩,
 ⟨some 5, .mov (.t 11), none, []⟩])
 .ret))
def af68 : AFun := ⟨.mut, 1, 68, body68, [.t 4, .t 5]⟩

/-- umpirage/claim.Named$1 -/
def body69 : ACode := (.seq (.region none [
 ⟨some 3, .fbox (.t 0), none, []⟩,
 ⟨some 4, .lalloc (.agg [(.int .i64 0), .nilSlice]), none, []⟩])
 (.seq (.region none [
 ⟨some 10, .faddr 0 (.t 3), none, []⟩,
 ⟨some 11, .load 1 false (.t 10), none, []⟩,
 ⟨some 12, .build [(.int .i64 0), .nilSlice] [(0, 1, (.t 11))], none, []⟩,
 ⟨some 5, .lalloc (.agg [(.int .i64 0), .nilSlice]), none, []⟩,
 ⟨none, .store 2 (.t 5) (.t 12), none, []⟩])
 (.seq (.seq (.region none [
 ⟨some 13, .faddr 0 (.t 3), none, []⟩,
 ⟨some 14, .load 1 false (.t 13), none, []⟩,
 ⟨some 15, .bin .lss (.t 14) (.c (.int .i64 0)), none, []⟩])
 (.cond (.t 15)
 (.seq (.seq (.region none [
 ⟨some 17, .load 1 false (.t 1), none, []⟩,
 ⟨some 18, .faddr 0 (.t 3), none, []⟩,
 ⟨some 19, .load 1 false (.t 18), none, []⟩,
 ⟨some 20, .lookup false (.int .i64 0) true (.t 17) (.t 19), none, []⟩,
 ⟨some 16, .mov (.t 20), none, []⟩,
 ⟨some 21, .extract 0 (.t 16), none, []⟩,
 ⟨some 22, .extract 1 (.t 16), none, []⟩,
 ⟨some 6, .mov (.t 21), none, []⟩,
 ⟨some 7, .mov (.t 22), none, []⟩])
 (.seq (.region none [
 ⟨some 23, .mov (.t 7), none, []⟩,
 ⟨some 24, .un .not (.t 23), none, []⟩])
 (.cond (.t 24)
 (.region none [
 ⟨some 25, .load 1 false (.t 1), none, []⟩,
 ⟨some 26, .faddr 0 (.t 3), none, []⟩,
 ⟨some 27, .load 1 false (.t 26), none, []⟩,
 ⟨some 28, .load 1 false (.t 1), none, []⟩,
 ⟨some 29, .lenmap (.t 28), none, []⟩,
 ⟨some 30, .un .neg (.t 29), none, []⟩,
 ⟨some 31, .bin .sub (.t 30) (.c (.int .i64 1)), none, []⟩,
 ⟨none, .mapup false (.t 25) (.t 27) (.t 31), none, []⟩])
 .skip)))
 (.region none [
 ⟨some 32, .load 1 false (.t 1), none, []⟩,
 ⟨some 33, .faddr 0 (.t 3), none, []⟩,
 ⟨some 34, .load 1 false (.t 33), none, []⟩,
 ⟨some 35, .lookup false (.int .i64 0) false (.t 32) (.t 34), none, []⟩,
 ⟨some 36, .faddr 0 (.t 5), none, []⟩,
 ⟨none, .store 1 (.t 36) (.t 35), none, []⟩]))
 .skip))
 (.seq (.seq (.region none [
 ⟨some 37, .faddr 1 (.t 3), none, []⟩,
 ⟨some 38, .load 1 false (.t 37), none, []⟩,
 ⟨some 39, .len (.t 38), none, []⟩,
 ⟨some 40, .mov (.c (.int .i64 0)), none, []⟩])
 (.block 0
 (.loop (.seq (.region none [
 ⟨some 41, .bin .lss (.t 40) (.t 39), none, []⟩])
 (.seq (.cond (.t 41)
 .skip
 (.exit 0))
 (.seq (.block 1
 (.seq (.region none [
 ⟨some 42, .iaddr 2 (.t 38) (.t 40), none, []⟩,
 ⟨some 43, .load 2 true (.t 42), none, []⟩,
 ⟨some 9, .lalloc (.agg [(.int .i64 0), .nilSlice]), none, []⟩,
 ⟨none, .store 2 (.t 9) (.t 43), none, []⟩])
 (.region (some [0, 1, 0, 0, 12, 28, 63, 127, 255]) [
 ⟨some 44, .faddr 1 (.t 5), none, []⟩,
 ⟨some 45, .load 1 false (.t 44), none, []⟩,
 ⟨some 46, .load 1 false (.t 2), none, []⟩,
 ⟨some 47, .load 2 true (.t 9), none, []⟩,
 ⟨some 48, .call (.t 46) [(.t 47)], none, []⟩,
 ⟨some 49, .bslice false 2 1 [(.int .i64 0), .nilSlice] [(0, 2, (.t 48))], none, []⟩,
 ⟨some 50, .append false 2 32 (.t 45) (.t 49), none, []⟩,
 ⟨some 51, .faddr 1 (.t 5), none, []⟩,
 ⟨none, .store 1 (.t 51) (.t 50), none, []⟩])))
 (.region none [
 ⟨some 52, .bin .add (.t 40) (.c (.int .i64 1)), none, []⟩,
 ⟨some 40, .mov (.t 52), none, []⟩])))))))
 (.seq (.region none [
 ⟨some 53, .load 2 true (.t 5), none, []⟩,
 ⟨none, .store 2 (.t 4) (.t 53), none, []⟩])
 .ret)))))
def af69 : AFun := ⟨.mutf, 1, 69, body69, [.cell 4 2 true]⟩

/-- slices.ContainsFunc[[]umpirage/api.Fact,umpirage/api.Fact] -/
def body70 : ACode := (.seq (.region none [
 ⟨some 4, .mov (.c (.bool false)), none, []⟩])
 (.seq (.region none [
 ⟨some 5, .mov (.t 0), none, []⟩,
 ⟨some 6, .mov (.t 1), none, []⟩,
 ⟨some 7, .call (.c (.clo 91 [])) [(.t 5), (.t 6)], none, []⟩,
 ⟨some 8, .bin .geq (.t 7) (.c (.int .i64 0)), none, []⟩,
 ⟨some 4, .mov (.t 8), none, []⟩])
 .ret))
def af70 : AFun := ⟨.pure, 1, 70, body70, [.t 4]⟩

/-- umpirage/super.idle$1 -/
def body71 : ACode := (.seq (.region none [
 ⟨some 1, .fbox (.t 0), none, []⟩,
 ⟨some 2, .mov (.c (.bool false)), none, []⟩])
 (.seq (.region none [
 ⟨some 3, .faddr 0 (.t 1), none, []⟩,
 ⟨some 4, .load 1 false (.t 3), none, []⟩,
 ⟨some 5, .un .not (.t 4), none, []⟩,
 ⟨some 6, .mov (.t 5), none, []⟩,
 ⟨some 7, .faddr 1 (.t 1), some (6, true), []⟩,
 ⟨some 8, .load 2 true (.t 7), some (6, true), []⟩,
 ⟨some 9, .faddr 3 (.t 1), some (6, true), []⟩,
 ⟨some 10, .load 2 true (.t 9), some (6, true), []⟩,
 ⟨some 11, .call (.c (.clo 72 [])) [(.t 8), (.t 10)], some (6, true), []⟩,
 ⟨some 12, .pick (.t 6) (.t 11) (.c (.bool false)), none, []⟩,
 ⟨some 2, .mov (.t 12), none, []⟩])
 .ret))
def af71 : AFun := ⟨.pure, 1, 71, body71, [.t 2]⟩

/-- umpirage/eltool.Same -/
def body72 : ACode := (.seq (.region none [
 ⟨some 2, .fbox (.t 0), none, []⟩,
 ⟨some 3, .fbox (.t 1), none, []⟩,
 ⟨some 4, .mov (.c (.bool false)), none, []⟩])
 (.seq (.region none [
 ⟨some 5, .faddr 0 (.t 2), none, []⟩,
 ⟨some 6, .load 1 false (.t 5), none, []⟩,
 ⟨some 7, .faddr 0 (.t 3), none, []⟩,
 ⟨some 8, .load 1 false (.t 7), none, []⟩,
 ⟨some 9, .bin .eql (.t 6) (.t 8), none, []⟩,
 ⟨some 10, .mov (.t 9), none, []⟩,
 ⟨some 11, .faddr 1 (.t 2), some (10, true), []⟩,
 ⟨some 12, .load 1 false (.t 11), some (10, true), []⟩,
 ⟨some 13, .faddr 1 (.t 3), some (10, true), []⟩,
 ⟨some 14, .load 1 false (.t 13), some (10, true), []⟩,
 ⟨some 15, .call (.c (.clo 92 [])) [(.t 12), (.t 14), (.c (.clo 72 []))], some (10, true), []⟩,
 ⟨some 16, .pick (.t 10) (.t 15) (.c (.bool false)), none, []⟩,
 ⟨some 4, .mov (.t 16), none, []⟩])
 .ret))
def af72 : AFun := ⟨.pure, 1, 72, body72, [.t 4]⟩

/-- umpirage/above.Over -/
def body73 : ACode := (.seq (.region none [
 ⟨some 2, .fbox (.t 0), none, []⟩,
 ⟨some 3, .fbox (.t 1), none, []⟩,
 ⟨some 4, .mov (.c (.bool false)), none, []⟩])
 (.seq (.block 0
 (.seq (.region none [
 ⟨some 7, .faddr 0 (.t 2), none, []⟩,
 ⟨some 8, .load 1 false (.t 7), none, []⟩,
 ⟨some 9, .bin .lss (.t 8) (.c (.int .i64 0)), none, []⟩,
 ⟨some 6, .mov (.t 9), none, []⟩])
 (.cond (.t 6)
 (.seq (.region none [
 ⟨some 4, .mov (.c (.bool false)), none, []⟩])
 .ret)
 (.seq (.region none [
 ⟨some 11, .faddr 0 (.t 3), none, []⟩,
 ⟨some 12, .load 1 false (.t 11), none, []⟩,
 ⟨some 13, .bin .lss (.t 12) (.c (.int .i64 0)), none, []⟩,
 ⟨some 10, .mov (.t 13), none, []⟩])
 (.cond (.t 10)
 (.seq (.region none [
 ⟨some 14, .load 2 true (.t 2), none, []⟩,
 ⟨some 15, .faddr 0 (.t 3), none, []⟩,
 ⟨some 16, .load 1 false (.t 15), none, []⟩,
 ⟨some 17, .call (.c (.clo 93 [])) [(.t 14), (.t 16)], none, []⟩,
 ⟨some 4, .mov (.t 17), none, []⟩])
 .ret)
 (.seq (.region none [
 ⟨some 19, .faddr 1 (.t 2), none, []⟩,
 ⟨some 20, .load 1 false (.t 19), none, []⟩,
 ⟨some 21, .mkfn 95 [(.t 3)], none, []⟩,
 ⟨some 22, .call (.c (.clo 94 [])) [(.t 20), (.t 21)], none, []⟩,
 ⟨some 18, .mov (.t 22), none, []⟩])
 (.cond (.t 18)
 (.seq (.region none [
 ⟨some 4, .mov (.c (.bool true)), none, []⟩])
 .ret)
 (.seq (.region none [
 ⟨some 24, .faddr 1 (.t 3), none, []⟩,
 ⟨some 25, .load 1 false (.t 24), none, []⟩,
 ⟨some 26, .mkfn 96 [(.t 2)], none, []⟩,
 ⟨some 27, .call (.c (.clo 94 [])) [(.t 25), (.t 26)], none, []⟩,
 ⟨some 23, .mov (.t 27), none, []⟩])
 (.cond (.t 23)
 (.seq (.region none [
 ⟨some 4, .mov (.c (.bool false)), none, []⟩])
 .ret)
 (.seq (.region none [
 ⟨some 29, .faddr 0 (.t 2), none, []⟩,
 ⟨some 30, .load 1 false (.t 29), none, []⟩,
 ⟨some 31, .faddr 0 (.t 3), none, []⟩,
 ⟨some 32, .load 1 false (.t 31), none, []⟩,
 ⟨some 33, .bin .neq (.t 30) (.t 32), none, []⟩,
 ⟨some 28, .mov (.t 33), none, []⟩])
 (.cond (.t 28)
 (.seq (.region none [
 ⟨some 34, .faddr 0 (.t 2), none, []⟩,
 ⟨some 35, .load 1 false (.t 34), none, []⟩,
 ⟨some 36, .faddr 0 (.t 3), none, []⟩,
 ⟨some 37, .load 1 false (.t 36), none, []⟩,
 ⟨some 38, .bin .gtr (.t 35) (.t 37), none, []⟩,
 ⟨some 4, .mov (.t 38), none, []⟩])
 .ret)
 (.seq (.region none [
 ⟨some 40, .faddr 1 (.t 2), none, []⟩,
 ⟨some 41, .load 1 false (.t 40), none, []⟩,
 ⟨some 42, .len (.t 41), none, []⟩,
 ⟨some 43, .faddr 1 (.t 3), none, []⟩,
 ⟨some 44, .load 1 false (.t 43), none, []⟩,
 ⟨some 45, .len (.t 44), none, []⟩,
 ⟨some 46, .bin .neq (.t 42) (.t 45), none, []⟩,
 ⟨some 39, .mov (.t 46), none, []⟩])
 (.cond (.t 39)
 (.seq (.region none [
 ⟨some 47, .faddr 1 (.t 2), none, []⟩,
 ⟨some 48, .load 1 false (.t 47), none, []⟩,
 ⟨some 49, .len (.t 48), none, []⟩,
 ⟨some 50, .faddr 1 (.t 3), none, []⟩,
 ⟨some 51, .load 1 false (.t 50), none, []⟩,
 ⟨some 52, .len (.t 51), none, []⟩,
 ⟨some 53, .bin .gtr (.t 49) (.t 52), none, []⟩,
 ⟨some 4, .mov (.t 53), none, []⟩])
 .ret)
 .skip)))))))))))))
 (.seq (.seq (.region none [
 ⟨some 54, .faddr 1 (.t 2), none, []⟩,
 ⟨some 55, .load 1 false (.t 54), none, []⟩,
 ⟨some 56, .len (.t 55), none, []⟩,
 ⟨some 57, .mov (.c (.int .i64 0)), none, []⟩])
 (.block 1
 (.loop (.seq (.region none [
 ⟨some 58, .bin .lss (.t 57) (.t 56), none, []⟩])
 (.seq (.cond (.t 58)
 .skip
 (.exit 1))
 (.seq (.block 2
 (.seq (.region none [
 ⟨some 59, .mov (.t 57), none, []⟩,
 ⟨some 5, .mov (.t 59), none, []⟩])
 (.seq (.region (some [0, 1, 0, 7, 15, 0, 32, 0, 224, 480, 1023, 2047]) [
 ⟨some 60, .faddr 1 (.t 2), none, []⟩,
 ⟨some 61, .load 1 false (.t 60), none, []⟩,
 ⟨some 62, .mov (.t 5), none, []⟩,
 ⟨some 63, .iaddr 2 (.t 61) (.t 62), none, []⟩,
 ⟨some 64, .load 2 true (.t 63), none, []⟩,
 ⟨some 65, .faddr 1 (.t 3), none, []⟩,
 ⟨some 66, .load 1 false (.t 65), none, []⟩,
 ⟨some 67, .mov (.t 5), none, []⟩,
 ⟨some 68, .iaddr 2 (.t 66) (.t 67), none, []⟩,
 ⟨some 69, .load 2 true (.t 68), none, []⟩,
 ⟨some 70, .call (.c (.clo 72 [])) [(.t 64), (.t 69)], none, []⟩,
 ⟨some 71, .un .not (.t 70), none, []⟩])
 (.cond (.t 71)
 (.seq (.region (some [0, 1, 0, 7, 15, 0, 32, 0, 224, 480, 1023, 2047]) [
 ⟨some 72, .faddr 1 (.t 2), none, []⟩,
 ⟨some 73, .load 1 false (.t 72), none, []⟩,
 ⟨some 74, .mov (.t 5), none, []⟩,
 ⟨some 75, .iaddr 2 (.t 73) (.t 74), none, []⟩,
 ⟨some 76, .load 2 true (.t 75), none, []⟩,
 ⟨some 77, .faddr 1 (.t 3), none, []⟩,
 ⟨some 78, .load 1 false (.t 77), none, []⟩,
 ⟨some 79, .mov (.t 5), none, []⟩,
 ⟨some 80, .iaddr 2 (.t 78) (.t 79), none, []⟩,
 ⟨some 81, .load 2 true (.t 80), none, []⟩,
 ⟨some 82, .call (.c (.clo 73 [])) [(.t 76), (.t 81)], none, []⟩,
 ⟨some 4, .mov (.t 82), none, []⟩])
 .ret)
 .skip))))
 (.region none [
 ⟨some 83, .bin .add (.t 57) (.c (.int .i64 1)), none, []⟩,
 ⟨some 57, .mov (.t 83), none, []⟩])))))))
 (.seq (.region none [
 ⟨some 4, .mov (.c (.bool false)), none, []⟩])
 .ret))))
def af73 : AFun := ⟨.pure, 1, 73, body73, [.t 4]⟩

/-- umpirage/super.places -/
def body74 : ACode := (.seq (.region none [
 ⟨some 2, .fbox (.t 0), none, []⟩,
 ⟨some 4, .mov (.c .nilSlice), none, []⟩])
 (.seq (.seq (.region none [
 ⟨some 8, .faddr 0 (.t 2), none, []⟩,
 ⟨some 9, .load 1 false (.t 8), none, []⟩,
 ⟨some 10, .bin .lss (.t 9) (.c (.int .i64 0)), none, []⟩])
 (.cond (.t 10)
 (.seq (.region none [
 ⟨some 4, .mov (.c .nilSlice), none, []⟩])
 .ret)
 .skip))
 (.seq (.region none [
 ⟨some 11, .mov (.t 1), none, []⟩,
 ⟨some 12, .bslice true 1 1 [.nilSlice] [(0, 1, (.t 11))], none, []⟩,
 ⟨some 5, .mov (.t 12), none, []⟩])
 (.seq (.seq (.region none [
 ⟨some 13, .faddr 1 (.t 2), none, []⟩,
 ⟨some 14, .load 1 false (.t 13), none, []⟩,
 ⟨some 15, .len (.t 14), none, []⟩,
 ⟨some 16, .mov (.c (.int .i64 0)), none, []⟩])
 (.block 0
 (.loop (.seq (.region none [
 ⟨some 17, .bin .lss (.t 16) (.t 15), none, []⟩])
 (.seq (.cond (.t 17)
 .skip
 (.exit 0))
 (.seq (.block 1
 (.seq (.region none [
 ⟨some 18, .mov (.t 16), none, []⟩,
 ⟨some 19, .iaddr 2 (.t 14) (.t 16), none, []⟩,
 ⟨some 20, .load 2 true (.t 19), none, []⟩,
 ⟨some 7, .lalloc (.agg [(.int .i64 0), .nilSlice]), none, []⟩,
 ⟨some 6, .mov (.t 18), none, []⟩,
 ⟨none, .store 2 (.t 7) (.t 20), none, []⟩])
 (.region (some [0, 0, 0, 4, 0, 16, 48, 124, 254, 511, 1023]) [
 ⟨some 21, .mov (.t 5), none, []⟩,
 ⟨some 22, .load 2 true (.t 7), none, []⟩,
 ⟨some 23, .mov (.t 1), none, []⟩,
 ⟨some 24, .call (.c (.clo 45 [])) [(.t 23)], none, []⟩,
 ⟨some 25, .mov (.t 6), none, []⟩,
 ⟨some 26, .bin .add (.t 25) (.c (.int .i64 1)), none, []⟩,
 ⟨some 27, .bslice false 1 1 [(.int .i64 0)] [(0, 1, (.t 26))], none, []⟩,
 ⟨some 28, .append true 1 8 (.t 24) (.t 27), none, []⟩,
 ⟨some 29, .call (.c (.clo 74 [])) [(.t 22), (.t 28)], none, []⟩,
 ⟨some 30, .append false 1 24 (.t 21) (.t 29), none, []⟩,
 ⟨some 5, .mov (.t 30), none, []⟩])))
 (.region none [
 ⟨some 31, .bin .add (.t 16) (.c (.int .i64 1)), none, []⟩,
 ⟨some 16, .mov (.t 31), none, []⟩])))))))
 (.seq (.region none [
 ⟨some 32, .mov (.t 5), none, []⟩,
 ⟨some 4, .mov (.t 32), none, []⟩])
 .ret)))))
def af74 : AFun := ⟨.pure, 1, 74, body74, [.t 4]⟩

/-- umpirage/fit.Onto -/
def body75 : ACode := (.seq (.region none [
 ⟨some 3, .fbox (.t 0), none, []⟩,
 ⟨some 4, .fbox (.t 1), none, []⟩,
 ⟨some 6, .mov (.c (.bool false)), none, []⟩])
 (.seq (.seq (.region none [
 ⟨some 9, .faddr 0 (.t 3), none, []⟩,
 ⟨some 10, .load 1 false (.t 9), none, []⟩,
 ⟨some 11, .bin .lss (.t 10) (.c (.int .i64 0)), none, []⟩])
 (.cond (.t 11)
 (.seq (.region none [
 ⟨some 12, .faddr 0 (.t 3), none, []⟩,
 ⟨some 13, .load 1 false (.t 12), none, []⟩,
 ⟨some 14, .un .neg (.t 13), none, []⟩,
 ⟨some 15, .bin .sub (.t 14) (.c (.int .i64 1)), none, []⟩,
 ⟨some 7, .mov (.t 15), none, []⟩])
 (.seq (.seq (.region none [
 ⟨some 16, .mov (.t 2), none, []⟩,
 ⟨some 17, .mov (.t 7), none, []⟩,
 ⟨some 18, .iaddr 2 (.t 16) (.t 17), none, []⟩,
 ⟨some 19, .faddr 0 (.t 18), none, []⟩,
 ⟨some 20, .load 1 false (.t 19), none, []⟩,
 ⟨some 21, .bin .neq (.t 20) (.c (.int .i64 0)), none, []⟩])
 (.cond (.t 21)
 (.seq (.region (some [0, 0, 3, 7, 0, 31, 63]) [
 ⟨some 22, .mov (.t 2), none, []⟩,
 ⟨some 23, .mov (.t 7), none, []⟩,
 ⟨some 24, .iaddr 2 (.t 22) (.t 23), none, []⟩,
 ⟨some 25, .load 2 true (.t 24), none, []⟩,
 ⟨some 26, .load 2 true (.t 4), none, []⟩,
 ⟨some 27, .call (.c (.clo 72 [])) [(.t 25), (.t 26)], none, []⟩,
 ⟨some 6, .mov (.t 27), none, []⟩])
 .ret)
 .skip))
 (.seq (.region none [
 ⟨some 28, .mov (.t 2), none, []⟩,
 ⟨some 29, .mov (.t 7), none, []⟩,
 ⟨some 30, .load 2 true (.t 4), none, []⟩,
 ⟨some 31, .call (.c (.clo 66 [])) [(.t 30)], none, []⟩,
 ⟨some 32, .iaddr 2 (.t 28) (.t 29), none, []⟩,
 ⟨none, .store 2 (.t 32) (.t 31), none, []⟩])
 (.seq (.region none [
 ⟨some 6, .mov (.c (.bool true)), none, []⟩])
 .ret))))
 .skip))
 (.seq (.seq (.region none [
 ⟨some 33, .faddr 0 (.t 3), none, []⟩,
 ⟨some 34, .load 1 false (.t 33), none, []⟩,
 ⟨some 35, .faddr 0 (.t 4), none, []⟩,
 ⟨some 36, .load 1 false (.t 35), none, []⟩,
 ⟨some 37, .bin .neq (.t 34) (.t 36), none, []⟩,
 ⟨some 38, .mov (.t 37), none, []⟩,
 ⟨some 39, .faddr 1 (.t 3), some (38, false), []⟩,
 ⟨some 40, .load 1 false (.t 39), some (38, false), []⟩,
 ⟨some 41, .len (.t 40), some (38, false), []⟩,
 ⟨some 42, .faddr 1 (.t 4), some (38, false), []⟩,
 ⟨some 43, .load 1 false (.t 42), some (38, false), []⟩,
 ⟨some 44, .len (.t 43), some (38, false), []⟩,
 ⟨some 45, .bin .neq (.t 41) (.t 44), some (38, false), []⟩,
 ⟨some 46, .pick (.t 38) (.c (.bool true)) (.t 45), none, []⟩])
 (.cond (.t 46)
 (.seq (.region none [
 ⟨some 6, .mov (.c (.bool false)), none, []⟩])
 .ret)
 .skip))
 (.seq (.seq (.region none [
 ⟨some 47, .faddr 1 (.t 3), none, []⟩,
 ⟨some 48, .load 1 false (.t 47), none, []⟩,
 ⟨some 49, .len (.t 48), none, []⟩,
 ⟨some 50, .mov (.c (.int .i64 0)), none, []⟩])
 (.block 0
 (.loop (.seq (.region none [
 ⟨some 51, .bin .lss (.t 50) (.t 49), none, []⟩])
 (.seq (.cond (.t 51)
 .skip
 (.exit 0))
 (.seq (.block 1
 (.seq (.region none [
 ⟨some 52, .mov (.t 50), none, []⟩,
 ⟨some 8, .mov (.t 52), none, []⟩])
 (.seq (.region (some [0, 1, 0, 7, 15, 0, 32, 0, 224, 480, 0, 2047, 4095]) [
 ⟨some 53, .faddr 1 (.t 3), none, []⟩,
 ⟨some 54, .load 1 false (.t 53), none, []⟩,
 ⟨some 55, .mov (.t 8), none, []⟩,
 ⟨some 56, .iaddr 2 (.t 54) (.t 55), none, []⟩,
 ⟨some 57, .load 2 true (.t 56), none, []⟩,
 ⟨some 58, .faddr 1 (.t 4), none, []⟩,
 ⟨some 59, .load 1 false (.t 58), none, []⟩,
 ⟨some 60, .mov (.t 8), none, []⟩,
 ⟨some 61, .iaddr 2 (.t 59) (.t 60), none, []⟩,
 ⟨some 62, .load 2 true (.t 61), none, []⟩,
 ⟨some 63, .mov (.t 2), none, []⟩,
 ⟨some 64, .call (.c (.clo 75 [])) [(.t 57), (.t 62), (.t 63)], none, []⟩,
 ⟨some 65, .un .not (.t 64), none, []⟩])
 (.cond (.t 65)
 (.seq (.region none [
 ⟨some 6, .mov (.c (.bool false)), none, []⟩])
 .ret)
 .skip))))
 (.region none [
 ⟨some 66, .bin .add (.t 50) (.c (.int .i64 1)), none, []⟩,
 ⟨some 50, .mov (.t 66), none, []⟩])))))))
 (.seq (.region none [
 ⟨some 6, .mov (.c (.bool true)), none, []⟩])
 .ret)))))
def af75 : AFun := ⟨.mut, 1, 75, body75, [.t 6]⟩

/-- umpirage/super.at -/
def body76 : ACode := (.seq (.region none [
 ⟨some 2, .lbox (.t 0), none, []⟩,
 ⟨some 4, .lalloc (.agg [(.int .i64 0), .nilSlice]), none, []⟩])
 (.seq (.seq (.region none [
 ⟨some 7, .mov (.t 1), none, []⟩,
 ⟨some 8, .len (.t 7), none, []⟩,
 ⟨some 9, .mov (.c (.int .i64 0)), none, []⟩])
 (.block 0
 (.loop (.seq (.region none [
 ⟨some 10, .bin .lss (.t 9) (.t 8), none, []⟩])
 (.seq (.cond (.t 10)
 .skip
 (.exit 0))
 (.seq (.block 1
 (.seq (.region none [
 ⟨some 11, .iaddr 1 (.t 7) (.t 9), none, []⟩,
 ⟨some 12, .load 1 false (.t 11), none, []⟩,
 ⟨some 6, .mov (.t 12), none, []⟩])
 (.region none [
 ⟨some 13, .faddr 1 (.t 2), none, []⟩,
 ⟨some 14, .load 1 false (.t 13), none, []⟩,
 ⟨some 15, .mov (.t 6), none, []⟩,
 ⟨some 16, .bin .sub (.t 15) (.c (.int .i64 1)), none, []⟩,
 ⟨some 17, .iaddr 2 (.t 14) (.t 16), none, []⟩,
 ⟨some 18, .load 2 true (.t 17), none, []⟩,
 ⟨none, .store 2 (.t 2) (.t 18), none, []⟩])))
 (.region none [
 ⟨some 19, .bin .add (.t 9) (.c (.int .i64 1)), none, []⟩,
 ⟨some 9, .mov (.t 19), none, []⟩])))))))
 (.seq (.region none [
 ⟨some 20, .load 2 true (.t 2), none, []⟩,
 ⟨none, .store 2 (.t 4) (.t 20), none, []⟩])
 .ret)))
def af76 : AFun := ⟨.pure, 1, 76, body76, [.cell 4 2 true]⟩

/-- (*umpirage/super.search).bound -/
def body77 : ACode := (.seq (.region none [
 ⟨some 6, .mov (.c (.int .i64 0)), none, []⟩,
 ⟨some 7, .mov (.c (.bool false)), none, []⟩])
 (.seq (.region none [
 ⟨some 8, .mov (.t 0), none, []⟩,
 ⟨some 9, .mov (.t 1), none, []⟩,
 ⟨some 10, .mov (.t 2), none, []⟩,
 ⟨some 11, .build [(.int .i64 0), (.int .i64 0), (.int .i64 0), (.int .i64 0), (.int .i64 0), (.bool false), .nilSlice, .nilSlice] [(0, 1, (.c (.int .i64 2))), (1, 1, (.t 9)), (7, 1, (.t 10))], none, []⟩,
 ⟨some 12, .call (.c (.clo 19 [])) [(.t 8), (.t 11)], none, []⟩,
 ⟨some 13, .extract 0 (.t 12), none, []⟩,
 ⟨some 14, .extract 1 (.t 12), none, []⟩,
 ⟨some 6, .mov (.t 13), none, []⟩,
 ⟨some 7, .mov (.t 14), none, []⟩])
 .ret))
def af77 : AFun := ⟨.mut, 1, 77, body77, [.t 6, .t 7]⟩

/-- (*umpirage/super.search).single$1 -/
def body78 : ACode := (.seq (.region none [
 ⟨some 5, .fbox (.t 0), none, []⟩,
 ⟨some 6, .fbox (.t 1), none, []⟩,
 ⟨some 7, .mov (.c (.bool false)), none, []⟩])
 (.seq (.region none [
 ⟨some 13, .load 2 true (.t 5), none, []⟩,
 ⟨some 14, .load 2 true (.t 6), none, []⟩,
 ⟨some 15, .load 1 false (.t 2), none, []⟩,
 ⟨some 16, .call (.c (.clo 79 [])) [(.t 13), (.t 14), (.t 15)], none, []⟩,
 ⟨some 12, .mov (.t 16), none, []⟩,
 ⟨some 17, .extract 0 (.t 12), none, []⟩,
 ⟨some 18, .extract 1 (.t 12), none, []⟩,
 ⟨some 19, .extract 2 (.t 12), none, []⟩,
 ⟨some 8, .mov (.t 17), none, []⟩,
 ⟨some 9, .mov (.t 18), none, []⟩,
 ⟨some 10, .mov (.t 19), none, []⟩])
 (.seq (.seq (.region none [
 ⟨some 20, .mov (.t 10), none, []⟩,
 ⟨some 21, .un .not (.t 20), none, []⟩])
 (.cond (.t 21)
 (.region none [
 ⟨some 22, .load 1 false (.t 3), none, []⟩,
 ⟨some 23, .ncheck (.t 22), none, []⟩,
 ⟨some 24, .faddr 6 (.t 23), none, []⟩,
 ⟨none, .store 1 (.t 24) (.c (.bool true)), none, []⟩])
 .skip))
 (.seq (.seq (.region none [
 ⟨some 25, .mov (.t 9), none, []⟩,
 ⟨some 26, .un .not (.t 25), none, []⟩,
 ⟨some 27, .mov (.t 26), none, []⟩,
 ⟨some 28, .mov (.t 10), some (27, false), []⟩,
 ⟨some 29, .un .not (.t 28), some (27, false), []⟩,
 ⟨some 30, .pick (.t 27) (.c (.bool true)) (.t 29), none, []⟩])
 (.cond (.t 30)
 (.seq (.region none [
 ⟨some 7, .mov (.c (.bool false)), none, []⟩])
 .ret)
 .skip))
 (.seq (.region none [
 ⟨some 32, .load 1 false (.t 3), none, []⟩,
 ⟨some 33, .load 1 false (.t 4), none, []⟩,
 ⟨some 34, .mov (.t 8), none, []⟩,
 ⟨some 35, .call (.c (.clo 77 [])) [(.t 32), (.t 33), (.t 34)], none, []⟩,
 ⟨some 31, .mov (.t 35), none, []⟩,
 ⟨some 36, .extract 0 (.t 31), none, []⟩,
 ⟨some 37, .extract 1 (.t 31), none, []⟩,
 ⟨some 11, .mov (.t 36), none, []⟩,
 ⟨some 9, .mov (.t 37), none, []⟩])
 (.seq (.region none [
 ⟨some 38, .mov (.t 9), none, []⟩,
 ⟨some 39, .mov (.t 38), none, []⟩,
 ⟨some 40, .load 1 false (.t 3), some (39, true), []⟩,
 ⟨some 41, .mov (.t 11), some (39, true), []⟩,
 ⟨some 42, .call (.c (.clo 20 [])) [(.t 40), (.t 41)], some (39, true), []⟩,
 ⟨some 43, .pick (.t 39) (.t 42) (.c (.bool false)), none, []⟩,
 ⟨some 7, .mov (.t 43), none, []⟩])
 .ret))))))
def af78 : AFun := ⟨.mut, 1, 78, body78, [.t 7]⟩

/-- umpirage/unify.Mgu -/
def body79 : ACode := (.seq (.region none [
 ⟨some 3, .fbox (.t 0), none, []⟩,
 ⟨some 4, .fbox (.t 1), none, []⟩,
 ⟨some 6, .mov (.c .nilSlice), none, []⟩,
 ⟨some 7, .mov (.c (.bool false)), none, []⟩,
 ⟨some 8, .mov (.c (.bool false)), none, []⟩])
 (.seq (.region none [
 ⟨some 12, .mov (.t 2), none, []⟩,
 ⟨some 13, .mkslice 2 32 (.agg [(.int .i64 0), .nilSlice]) (.t 12) (.t 12), none, []⟩,
 ⟨some 9, .mov (.t 13), none, []⟩])
 (.seq (.seq (.region none [
 ⟨some 14, .mov (.t 9), none, []⟩,
 ⟨some 15, .load 2 true (.t 3), none, []⟩,
 ⟨some 16, .load 2 true (.t 4), none, []⟩,
 ⟨some 17, .call (.c (.clo 97 [])) [(.t 14), (.t 15), (.t 16)], none, []⟩,
 ⟨some 18, .un .not (.t 17), none, []⟩])
 (.cond (.t 18)
 (.seq (.region none [
 ⟨some 6, .mov (.c .nilSlice), none, []⟩,
 ⟨some 7, .mov (.c (.bool false)), none, []⟩,
 ⟨some 8, .mov (.c (.bool true)), none, []⟩])
 .ret)
 .skip))
 (.seq (.region none [
 ⟨some 19, .mov (.t 2), none, []⟩,
 ⟨some 20, .mkslice 2 32 (.agg [(.int .i64 0), .nilSlice]) (.t 19) (.t 19), none, []⟩,
 ⟨some 6, .mov (.t 20), none, []⟩])
 (.seq (.seq (.region none [
 ⟨some 21, .mov (.t 9), none, []⟩,
 ⟨some 22, .len (.t 21), none, []⟩,
 ⟨some 23, .mov (.c (.int .i64 0)), none, []⟩])
 (.block 0
 (.loop (.seq (.region none [
 ⟨some 24, .bin .lss (.t 23) (.t 22), none, []⟩])
 (.seq (.cond (.t 24)
 .skip
 (.exit 0))
 (.seq (.block 1
 (.seq (.region none [
 ⟨some 25, .mov (.t 23), none, []⟩,
 ⟨some 10, .mov (.t 25), none, []⟩])
 (.seq (.seq (.region none [
 ⟨some 26, .mov (.t 9), none, []⟩,
 ⟨some 27, .mov (.t 10), none, []⟩,
 ⟨some 28, .iaddr 2 (.t 26) (.t 27), none, []⟩,
 ⟨some 29, .faddr 0 (.t 28), none, []⟩,
 ⟨some 30, .load 1 false (.t 29), none, []⟩,
 ⟨some 31, .bin .eql (.t 30) (.c (.int .i64 0)), none, []⟩])
 (.cond (.t 31)
 (.exit 1)
 .skip))
 (.seq (.region none [
 ⟨some 11, .halloc (.int .i64 0), none, []⟩,
 ⟨none, .store 1 (.t 11) (.c (.int .i64 40)), none, []⟩])
 (.seq (.region none [
 ⟨some 32, .mov (.t 6), none, []⟩,
 ⟨some 33, .mov (.t 10), none, []⟩,
 ⟨some 34, .mov (.t 9), none, []⟩,
 ⟨some 35, .mov (.t 9), none, []⟩,
 ⟨some 36, .mov (.t 10), none, []⟩,
 ⟨some 37, .iaddr 2 (.t 35) (.t 36), none, []⟩,
 ⟨some 38, .load 2 true (.t 37), none, []⟩,
 ⟨some 39, .call (.c (.clo 98 [])) [(.t 34), (.t 38), (.t 11)], none, []⟩,
 ⟨some 40, .iaddr 2 (.t 32) (.t 33), none, []⟩,
 ⟨none, .store 2 (.t 40) (.t 39), none, []⟩])
 (.seq (.region none [
 ⟨some 41, .load 1 false (.t 11), none, []⟩,
 ⟨some 42, .bin .lss (.t 41) (.c (.int .i64 0)), none, []⟩,
 ⟨some 43, .mov (.t 42), none, []⟩,
 ⟨some 44, .mov (.t 6), some (43, false), []⟩,
 ⟨some 45, .mov (.t 10), some (43, false), []⟩,
 ⟨some 46, .iaddr 2 (.t 44) (.t 45), some (43, false), []⟩,
 ⟨some 47, .load 2 true (.t 46), some (43, false), []⟩,
 ⟨some 48, .call (.c (.clo 58 [])) [(.t 47)], some (43, false), []⟩,
 ⟨some 49, .bin .gtr (.t 48) (.c (.int .i64 12)), some (43, false), []⟩,
 ⟨some 50, .pick (.t 43) (.c (.bool true)) (.t 49), none, []⟩])
 (.cond (.t 50)
 (.seq (.region none [
 ⟨some 6, .mov (.c .nilSlice), none, []⟩,
 ⟨some 7, .mov (.c (.bool true)), none, []⟩,
 ⟨some 8, .mov (.c (.bool false)), none, []⟩])
 .ret)
 .skip)))))))
 (.region none [
 ⟨some 51, .bin .add (.t 23) (.c (.int .i64 1)), none, []⟩,
 ⟨some 23, .mov (.t 51), none, []⟩])))))))
 (.seq (.region none [
 ⟨some 52, .mov (.t 6), none, []⟩,
 ⟨some 6, .mov (.t 52), none, []⟩,
 ⟨some 7, .mov (.c (.bool true)), none, []⟩,
 ⟨some 8, .mov (.c (.bool true)), none, []⟩])
 .ret))))))
def af79 : AFun := ⟨.pure, 1, 79, body79, [.t 6, .t 7, .t 8]⟩

/-- umpirage/super.pair -/
def body80 : ACode := (.seq (.region none [
 ⟨some 2, .fbox (.t 0), none, []⟩,
 ⟨some 3, .fbox (.t 1), none, []⟩,
 ⟨some 4, .lalloc (.agg [(.int .i64 0), .nilSlice]), none, []⟩])
 (.seq (.region none [
 ⟨some 5, .load 2 true (.t 2), none, []⟩,
 ⟨some 6, .load 2 true (.t 3), none, []⟩,
 ⟨some 7, .bslice false 2 2 [(.int .i64 0), .nilSlice, (.int .i64 0), .nilSlice] [(0, 2, (.t 5)), (2, 2, (.t 6))], none, []⟩,
 ⟨some 8, .build [(.int .i64 0), .nilSlice] [(0, 1, (.c (.int .i64 13))), (1, 1, (.t 7))], none, []⟩,
 ⟨none, .store 2 (.t 4) (.t 8), none, []⟩])
 .ret))
def af80 : AFun := ⟨.pure, 1, 80, body80, [.cell 4 2 true]⟩

/-- (*umpirage/super.search).into$1 -/
def body81 : ACode := (.seq (.region none [
 ⟨some 2, .fbox (.t 0), none, []⟩,
 ⟨some 3, .lalloc (.agg [(.int .i64 0), .nilSlice]), none, []⟩])
 (.seq (.region none [
 ⟨some 4, .load 2 true (.t 2), none, []⟩,
 ⟨some 5, .load 1 false (.t 1), none, []⟩,
 ⟨some 6, .call (.c (.clo 82 [])) [(.t 4), (.t 5)], none, []⟩,
 ⟨none, .store 2 (.t 3) (.t 6), none, []⟩])
 .ret))
def af81 : AFun := ⟨.pure, 1, 81, body81, [.cell 3 2 true]⟩

/-- umpirage/eltool.Moved -/
def body82 : ACode := (.seq (.region none [
 ⟨some 2, .fbox (.t 0), none, []⟩,
 ⟨some 4, .lalloc (.agg [(.int .i64 0), .nilSlice]), none, []⟩])
 (.seq (.region none [
 ⟨some 8, .faddr 0 (.t 2), none, []⟩,
 ⟨some 9, .load 1 false (.t 8), none, []⟩,
 ⟨some 10, .build [(.int .i64 0), .nilSlice] [(0, 1, (.t 9))], none, []⟩,
 ⟨some 5, .lalloc (.agg [(.int .i64 0), .nilSlice]), none, []⟩,
 ⟨none, .store 2 (.t 5) (.t 10), none, []⟩])
 (.seq (.seq (.region none [
 ⟨some 11, .faddr 0 (.t 2), none, []⟩,
 ⟨some 12, .load 1 false (.t 11), none, []⟩,
 ⟨some 13, .bin .lss (.t 12) (.c (.int .i64 0)), none, []⟩])
 (.cond (.t 13)
 (.region none [
 ⟨some 14, .faddr 0 (.t 5), none, []⟩,
 ⟨some 15, .load 1 false (.t 14), none, []⟩,
 ⟨some 16, .mov (.t 1), none, []⟩,
 ⟨some 17, .bin .sub (.t 15) (.t 16), none, []⟩,
 ⟨some 18, .faddr 0 (.t 5), none, []⟩,
 ⟨none, .store 1 (.t 18) (.t 17), none, []⟩])
 .skip))
 (.seq (.seq (.region none [
 ⟨some 19, .faddr 1 (.t 2), none, []⟩,
 ⟨some 20, .load 1 false (.t 19), none, []⟩,
 ⟨some 21, .len (.t 20), none, []⟩,
 ⟨some 22, .mov (.c (.int .i64 0)), none, []⟩])
 (.block 0
 (.loop (.seq (.region none [
 ⟨some 23, .bin .lss (.t 22) (.t 21), none, []⟩])
 (.seq (.cond (.t 23)
 .skip
 (.exit 0))
 (.seq (.block 1
 (.seq (.region none [
 ⟨some 24, .iaddr 2 (.t 20) (.t 22), none, []⟩,
 ⟨some 25, .load 2 true (.t 24), none, []⟩,
 ⟨some 7, .lalloc (.agg [(.int .i64 0), .nilSlice]), none, []⟩,
 ⟨none, .store 2 (.t 7) (.t 25), none, []⟩])
 (.region (some [0, 1, 0, 0, 12, 28, 63, 127, 255]) [
 ⟨some 26, .faddr 1 (.t 5), none, []⟩,
 ⟨some 27, .load 1 false (.t 26), none, []⟩,
 ⟨some 28, .load 2 true (.t 7), none, []⟩,
 ⟨some 29, .mov (.t 1), none, []⟩,
 ⟨some 30, .call (.c (.clo 82 [])) [(.t 28), (.t 29)], none, []⟩,
 ⟨some 31, .bslice false 2 1 [(.int .i64 0), .nilSlice] [(0, 2, (.t 30))], none, []⟩,
 ⟨some 32, .append false 2 32 (.t 27) (.t 31), none, []⟩,
 ⟨some 33, .faddr 1 (.t 5), none, []⟩,
 ⟨none, .store 1 (.t 33) (.t 32), none, []⟩])))
 (.region none [
 ⟨some 34, .bin .add (.t 22) (.c (.int .i64 1)), none, []⟩,
 ⟨some 22, .mov (.t 34), none, []⟩])))))))
 (.seq (.region none [
 ⟨some 35, .load 2 true (.t 5), none, []⟩,
 ⟨none, .store 2 (.t 4) (.t 35), none, []⟩])
 .ret)))))
def af82 : AFun := ⟨.pure, 1, 82, body82, [.cell 4 2 true]⟩

/-- (*umpirage/super.search).put -/
def body83 : ACode := (.seq (.region none [
 ⟨some 11, .lbox (.t 5), none, []⟩,
 ⟨some 12, .mov (.c (.bool false)), none, []⟩])
 (.seq (.region none [
 ⟨some 19, .mov (.t 0), none, []⟩,
 ⟨some 20, .mov (.t 1), none, []⟩,
 ⟨some 21, .mov (.t 4), none, []⟩,
 ⟨some 22, .call (.c (.clo 77 [])) [(.t 19), (.t 20), (.t 21)], none, []⟩,
 ⟨some 18, .mov (.t 22), none, []⟩,
 ⟨some 23, .extract 0 (.t 18), none, []⟩,
 ⟨some 24, .extract 1 (.t 18), none, []⟩,
 ⟨some 13, .mov (.t 23), none, []⟩,
 ⟨some 14, .mov (.t 24), none, []⟩])
 (.seq (.seq (.region none [
 ⟨some 25, .mov (.t 14), none, []⟩,
 ⟨some 26, .un .not (.t 25), none, []⟩])
 (.cond (.t 26)
 (.seq (.region none [
 ⟨some 12, .mov (.c (.bool false)), none, []⟩])
 .ret)
 .skip))
 (.seq (.region none [
 ⟨some 27, .mov (.t 2), none, []⟩,
 ⟨some 15, .mov (.t 27), none, []⟩,
 ⟨some 14, .mov (.c (.bool true)), none, []⟩])
 (.seq (.seq (.region none [
 ⟨some 28, .mov (.t 3), none, []⟩,
 ⟨some 29, .len (.t 28), none, []⟩,
 ⟨some 30, .bin .gtr (.t 29) (.c (.int .i64 0)), none, []⟩])
 (.cond (.t 30)
 (.region none [
 ⟨some 32, .mov (.t 0), none, []⟩,
 ⟨some 33, .mov (.t 2), none, []⟩,
 ⟨some 34, .mov (.t 3), none, []⟩,
 ⟨some 35, .call (.c (.clo 77 [])) [(.t 32), (.t 33), (.t 34)], none, []⟩,
 ⟨some 31, .mov (.t 35), none, []⟩,
 ⟨some 36, .extract 0 (.t 31), none, []⟩,
 ⟨some 37, .extract 1 (.t 31), none, []⟩,
 ⟨some 15, .mov (.t 36), none, []⟩,
 ⟨some 14, .mov (.t 37), none, []⟩])
 .skip))
 (.seq (.seq (.region none [
 ⟨some 38, .mov (.t 14), none, []⟩,
 ⟨some 39, .un .not (.t 38), none, []⟩])
 (.cond (.t 39)
 (.seq (.region none [
 ⟨some 12, .mov (.c (.bool false)), none, []⟩])
 .ret)
 .skip))
 (.seq (.region none [
 ⟨some 41, .mov (.t 0), none, []⟩,
 ⟨some 42, .mov (.t 15), none, []⟩,
 ⟨some 43, .mov (.t 4), none, []⟩,
 ⟨some 44, .call (.c (.clo 77 [])) [(.t 41), (.t 42), (.t 43)], none, []⟩,
 ⟨some 40, .mov (.t 44), none, []⟩,
 ⟨some 45, .extract 0 (.t 40), none, []⟩,
 ⟨some 46, .extract 1 (.t 40), none, []⟩,
 ⟨some 16, .mov (.t 45), none, []⟩,
 ⟨some 14, .mov (.t 46), none, []⟩])
 (.seq (.seq (.region none [
 ⟨some 47, .mov (.t 14), none, []⟩,
 ⟨some 48, .un .not (.t 47), none, []⟩])
 (.cond (.t 48)
 (.seq (.region none [
 ⟨some 12, .mov (.c (.bool false)), none, []⟩])
 .ret)
 .skip))
 (.seq (.region none [
 ⟨some 49, .mov (.t 13), none, []⟩,
 ⟨some 50, .mov (.t 16), none, []⟩,
 ⟨some 51, .faddr 1 (.t 11), none, []⟩,
 ⟨none, .store 1 (.t 51) (.t 49), none, []⟩,
 ⟨some 52, .faddr 2 (.t 11), none, []⟩,
 ⟨none, .store 1 (.t 52) (.t 50), none, []⟩])
 (.seq (.region none [
 ⟨some 54, .mov (.t 0), none, []⟩,
 ⟨some 55, .load 8 true (.t 11), none, []⟩,
 ⟨some 56, .call (.c (.clo 19 [])) [(.t 54), (.t 55)], none, []⟩,
 ⟨some 53, .mov (.t 56), none, []⟩,
 ⟨some 57, .extract 0 (.t 53), none, []⟩,
 ⟨some 58, .extract 1 (.t 53), none, []⟩,
 ⟨some 17, .mov (.t 57), none, []⟩,
 ⟨some 14, .mov (.t 58), none, []⟩])
 (.seq (.region none [
 ⟨some 59, .mov (.t 14), none, []⟩,
 ⟨some 60, .mov (.t 59), none, []⟩,
 ⟨some 61, .mov (.t 0), some (60, true), []⟩,
 ⟨some 62, .mov (.t 17), some (60, true), []⟩,
 ⟨some 63, .call (.c (.clo 20 [])) [(.t 61), (.t 62)], some (60, true), []⟩,
 ⟨some 64, .pick (.t 60) (.t 63) (.c (.bool false)), none, []⟩,
 ⟨some 12, .mov (.t 64), none, []⟩])
 .ret)))))))))))
def af83 : AFun := ⟨.mut, 1, 83, body83, [.t 12]⟩

/-- umpirage/umpirageref7.Deep -/
def body84 : ACode := (.seq (.region none [
 ⟨some 1, .fbox (.t 0), none, []⟩,
 ⟨some 2, .mov (.c (.int .i64 0)), none, []⟩])
 (.seq (.region none [
 ⟨some 3, .mov (.c (.int .i64 0)), none, []⟩])
 (.seq (.seq (.region none [
 ⟨some 4, .mov (.c (.int .i64 0)), none, []⟩])
 (.block 0
 (.loop (.seq (.seq (.region none [
 ⟨some 6, .mov (.t 4), none, []⟩,
 ⟨some 7, .faddr 1 (.t 1), none, []⟩,
 ⟨some 8, .load 1 false (.t 7), none, []⟩,
 ⟨some 9, .len (.t 8), none, []⟩,
 ⟨some 10, .bin .lss (.t 6) (.t 9), none, []⟩])
 (.cond (.t 10)
 .skip
 (.exit 0)))
 (.seq (.block 1
 (.seq (.region none [
 ⟨some 13, .faddr 1 (.t 1), none, []⟩,
 ⟨some 14, .load 1 false (.t 13), none, []⟩,
 ⟨some 15, .mov (.t 4), none, []⟩,
 ⟨some 16, .iaddr 2 (.t 14) (.t 15), none, []⟩,
 ⟨some 17, .load 2 true (.t 16), none, []⟩,
 ⟨some 18, .call (.c (.clo 84 [])) [(.t 17)], none, []⟩,
 ⟨some 5, .mov (.t 18), none, []⟩])
 (.seq (.region none [
 ⟨some 19, .mov (.t 5), none, []⟩,
 ⟨some 20, .mov (.t 3), none, []⟩,
 ⟨some 21, .bin .gtr (.t 19) (.t 20), none, []⟩])
 (.cond (.t 21)
 (.region none [
 ⟨some 22, .mov (.t 5), none, []⟩,
 ⟨some 3, .mov (.t 22), none, []⟩])
 .skip))))
 (.region none [
 ⟨some 11, .mov (.t 4), none, []⟩,
 ⟨some 12, .bin .add (.t 11) (.c (.int .i64 1)), none, []⟩,
 ⟨some 4, .mov (.t 12), none, []⟩]))))))
 (.seq (.region none [
 ⟨some 23, .mov (.t 3), none, []⟩,
 ⟨some 24, .bin .add (.t 23) (.c (.int .i64 1)), none, []⟩,
 ⟨some 2, .mov (.t 24), none, []⟩])
 .ret))))
def af84 : AFun := ⟨.pure, 1, 84, body84, [.t 2]⟩

/-- umpirage/umpirageref7.nodes -/
def body85 : ACode := (.seq (.region none [
 ⟨some 2, .fbox (.t 0), none, []⟩,
 ⟨some 4, .lalloc (.agg [(.int .i64 0), (.int .i64 0)]), none, []⟩,
 ⟨some 5, .mov (.c (.int .i64 0)), none, []⟩])
 (.seq (.seq (.region none [
 ⟨some 9, .faddr 0 (.t 2), none, []⟩,
 ⟨some 10, .load 1 false (.t 9), none, []⟩,
 ⟨some 11, .bin .eql (.t 10) (.c (.int .i64 0)), none, []⟩,
 ⟨some 12, .mov (.t 11), none, []⟩,
 ⟨some 13, .faddr 0 (.t 2), some (12, false), []⟩,
 ⟨some 14, .load 1 false (.t 13), some (12, false), []⟩,
 ⟨some 15, .bin .lss (.t 14) (.c (.int .i64 (-8))), some (12, false), []⟩,
 ⟨some 16, .pick (.t 12) (.c (.bool true)) (.t 15), none, []⟩,
 ⟨some 17, .mov (.t 16), none, []⟩,
 ⟨some 18, .faddr 0 (.t 2), some (17, false), []⟩,
 ⟨some 19, .load 1 false (.t 18), some (17, false), []⟩,
 ⟨some 20, .bin .gtr (.t 19) (.c (.int .i64 12)), some (17, false), []⟩,
 ⟨some 21, .pick (.t 17) (.c (.bool true)) (.t 20), none, []⟩])
 (.cond (.t 21)
 (.seq (.region none [
 ⟨some 22, .mov (.t 1), none, []⟩,
 ⟨some 23, .call (.c (.clo 27 [])) [(.c (.int .i64 3)), (.t 22)], none, []⟩,
 ⟨some 24, .mov (.t 1), none, []⟩,
 ⟨none, .store 2 (.t 4) (.t 23), none, []⟩,
 ⟨some 5, .mov (.t 24), none, []⟩])
 .ret)
 .skip))
 (.seq (.seq (.region none [
 ⟨some 25, .faddr 1 (.t 2), none, []⟩,
 ⟨some 26, .load 1 false (.t 25), none, []⟩,
 ⟨some 27, .len (.t 26), none, []⟩,
 ⟨some 28, .bin .gtr (.t 27) (.c (.int .i64 3)), none, []⟩,
 ⟨some 29, .mov (.t 28), none, []⟩,
 ⟨some 30, .faddr 0 (.t 2), some (29, false), []⟩,
 ⟨some 31, .load 1 false (.t 30), some (29, false), []⟩,
 ⟨some 32, .bin .lss (.t 31) (.c (.int .i64 0)), some (29, false), []⟩,
 ⟨some 33, .mov (.t 32), some (29, false), []⟩,
 ⟨some 34, .faddr 1 (.t 2), some (33, true), []⟩,
 ⟨some 35, .load 1 false (.t 34), some (33, true), []⟩,
 ⟨some 36, .len (.t 35), some (33, true), []⟩,
 ⟨some 37, .bin .gtr (.t 36) (.c (.int .i64 0)), some (33, true), []⟩,
 ⟨some 38, .pick (.t 33) (.t 37) (.c (.bool false)), some (29, false), []⟩,
 ⟨some 39, .pick (.t 29) (.c (.bool true)) (.t 38), none, []⟩])
 (.cond (.t 39)
 (.seq (.region none [
 ⟨some 40, .mov (.t 1), none, []⟩,
 ⟨some 41, .call (.c (.clo 27 [])) [(.c (.int .i64 9)), (.t 40)], none, []⟩,
 ⟨some 42, .mov (.t 1), none, []⟩,
 ⟨none, .store 2 (.t 4) (.t 41), none, []⟩,
 ⟨some 5, .mov (.t 42), none, []⟩])
 .ret)
 .skip))
 (.seq (.region none [
 ⟨some 43, .mov (.t 1), none, []⟩,
 ⟨some 44, .bin .add (.t 43) (.c (.int .i64 1)), none, []⟩,
 ⟨some 1, .mov (.t 44), none, []⟩])
 (.seq (.seq (.region none [
 ⟨some 6, .mov (.c (.int .i64 0)), none, []⟩])
 (.block 0
 (.loop (.seq (.seq (.region none [
 ⟨some 45, .mov (.t 6), none, []⟩,
 ⟨some 46, .faddr 1 (.t 2), none, []⟩,
 ⟨some 47, .load 1 false (.t 46), none, []⟩,
 ⟨some 48, .len (.t 47), none, []⟩,
 ⟨some 49, .bin .lss (.t 45) (.t 48), none, []⟩])
 (.cond (.t 49)
 .skip
 (.exit 0)))
 (.seq (.block 1
 (.seq (.region none [
 ⟨some 53, .faddr 1 (.t 2), none, []⟩,
 ⟨some 54, .load 1 false (.t 53), none, []⟩,
 ⟨some 55, .mov (.t 6), none, []⟩,
 ⟨some 56, .iaddr 2 (.t 54) (.t 55), none, []⟩,
 ⟨some 57, .load 2 true (.t 56), none, []⟩,
 ⟨some 58, .mov (.t 1), none, []⟩,
 ⟨some 59, .call (.c (.clo 85 [])) [(.t 57), (.t 58)], none, []⟩,
 ⟨some 52, .mov (.t 59), none, []⟩,
 ⟨some 60, .extract 0 (.t 52), none, []⟩,
 ⟨some 61, .extract 1 (.t 52), none, []⟩,
 ⟨some 7, .lalloc (.agg [(.int .i64 0), (.int .i64 0)]), none, []⟩,
 ⟨none, .store 2 (.t 7) (.t 60), none, []⟩,
 ⟨some 8, .mov (.t 61), none, []⟩])
 (.seq (.seq (.region none [
 ⟨some 62, .faddr 0 (.t 7), none, []⟩,
 ⟨some 63, .load 1 false (.t 62), none, []⟩,
 ⟨some 64, .bin .neq (.t 63) (.c (.int .i64 0)), none, []⟩])
 (.cond (.t 64)
 (.seq (.region none [
 ⟨some 65, .load 2 true (.t 7), none, []⟩,
 ⟨some 66, .mov (.t 8), none, []⟩,
 ⟨none, .store 2 (.t 4) (.t 65), none, []⟩,
 ⟨some 5, .mov (.t 66), none, []⟩])
 .ret)
 .skip))
 (.region none [
 ⟨some 67, .mov (.t 8), none, []⟩,
 ⟨some 1, .mov (.t 67), none, []⟩]))))
 (.region none [
 ⟨some 50, .mov (.t 6), none, []⟩,
 ⟨some 51, .bin .add (.t 50) (.c (.int .i64 1)), none, []⟩,
 ⟨some 6, .mov (.t 51), none, []⟩]))))))
 (.seq (.region none [
 ⟨some 68, .build [(.int .i64 0), (.int .i64 0)] [], none, []⟩,
 ⟨some 69, .mov (.t 1), none, []⟩,
 ⟨none, .store 2 (.t 4) (.t 68), none, []⟩,
 ⟨some 5, .mov (.t 69), none, []⟩])
 .ret))))))
def af85 : AFun := ⟨.pure, 1, 85, body85, [.cell 4 2 true, .t 5]⟩

/-- (*umpirage/find.finder).value -/
def body86 : ACode := (.seq (.region none [
 ⟨some 4, .fbox (.t 1), none, []⟩,
 ⟨some 6, .mov (.c (.int .i64 0)), none, []⟩])
 (.seq (.seq (.region none [
 ⟨some 11, .faddr 0 (.t 4), none, []⟩,
 ⟨some 12, .load 1 false (.t 11), none, []⟩,
 ⟨some 13, .bin .lss (.t 12) (.c (.int .i64 0)), none, []⟩])
 (.cond (.t 13)
 (.seq (.region none [
 ⟨some 14, .mov (.t 2), none, []⟩,
 ⟨some 15, .faddr 0 (.t 4), none, []⟩,
 ⟨some 16, .load 1 false (.t 15), none, []⟩,
 ⟨some 17, .un .neg (.t 16), none, []⟩,
 ⟨some 18, .bin .sub (.t 17) (.c (.int .i64 1)), none, []⟩,
 ⟨some 19, .iaddr 1 (.t 14) (.t 18), none, []⟩,
 ⟨some 20, .load 1 false (.t 19), none, []⟩,
 ⟨some 6, .mov (.t 20), none, []⟩])
 .ret)
 .skip))
 (.seq (.region none [
 ⟨some 7, .mov (.c (.int .i64 0)), none, []⟩])
 (.seq (.seq (.region none [
 ⟨some 21, .faddr 1 (.t 4), none, []⟩,
 ⟨some 22, .load 1 false (.t 21), none, []⟩,
 ⟨some 23, .len (.t 22), none, []⟩,
 ⟨some 24, .mov (.c (.int .i64 0)), none, []⟩])
 (.block 0
 (.loop (.seq (.region none [
 ⟨some 25, .bin .lss (.t 24) (.t 23), none, []⟩])
 (.seq (.cond (.t 25)
 .skip
 (.exit 0))
 (.seq (.block 1
 (.seq (.region none [
 ⟨some 26, .iaddr 2 (.t 22) (.t 24), none, []⟩,
 ⟨some 27, .load 2 true (.t 26), none, []⟩,
 ⟨some 9, .lalloc (.agg [(.int .i64 0), .nilSlice]), none, []⟩,
 ⟨none, .store 2 (.t 9) (.t 27), none, []⟩])
 (.seq (.region none [
 ⟨some 28, .mov (.t 0), none, []⟩,
 ⟨some 29, .load 2 true (.t 9), none, []⟩,
 ⟨some 30, .mov (.t 2), none, []⟩,
 ⟨some 31, .call (.c (.clo 86 [])) [(.t 28), (.t 29), (.t 30)], none, []⟩,
 ⟨some 10, .mov (.t 31), none, []⟩])
 (.seq (.seq (.region none [
 ⟨some 32, .mov (.t 10), none, []⟩,
 ⟨some 33, .bin .lss (.t 32) (.c (.int .i64 0)), none, []⟩])
 (.cond (.t 33)
 (.seq (.region none [
 ⟨some 6, .mov (.c (.int .i64 (-1))), none, []⟩])
 .ret)
 .skip))
 (.region none [
 ⟨some 34, .mov (.t 7), none, []⟩,
 ⟨some 35, .mov (.t 0), none, []⟩,
 ⟨some 36, .ncheck (.t 35), none, []⟩,
 ⟨some 37, .faddr 2 (.t 36), none, []⟩,
 ⟨some 38, .faddr 0 (.t 37), none, []⟩,
 ⟨some 39, .load 1 false (.t 38), none, []⟩,
 ⟨some 40, .bin .mul (.t 34) (.t 39), none, []⟩,
 ⟨some 41, .mov (.t 10), none, []⟩,
 ⟨some 42, .bin .add (.t 40) (.t 41), none, []⟩,
 ⟨some 7, .mov (.t 42), none, []⟩])))))
 (.region none [
 ⟨some 43, .bin .add (.t 24) (.c (.int .i64 1)), none, []⟩,
 ⟨some 24, .mov (.t 43), none, []⟩])))))))
 (.seq (.region (some [0, 1, 3, 7, 15, 0, 32, 96, 255, 511, 0, 2047, 4095, 8191]) [
 ⟨some 44, .mov (.t 0), none, []⟩,
 ⟨some 45, .ncheck (.t 44), none, []⟩,
 ⟨some 46, .faddr 2 (.t 45), none, []⟩,
 ⟨some 47, .faddr 1 (.t 46), none, []⟩,
 ⟨some 48, .load 1 false (.t 47), none, []⟩,
 ⟨some 49, .faddr 0 (.t 4), none, []⟩,
 ⟨some 50, .load 1 false (.t 49), none, []⟩,
 ⟨some 51, .bin .sub (.t 50) (.c (.int .i64 1)), none, []⟩,
 ⟨some 52, .iaddr 1 (.t 48) (.t 51), none, []⟩,
 ⟨some 53, .load 1 false (.t 52), none, []⟩,
 ⟨some 54, .mov (.t 7), none, []⟩,
 ⟨some 55, .iaddr 1 (.t 53) (.t 54), none, []⟩,
 ⟨some 56, .load 1 false (.t 55), none, []⟩,
 ⟨some 6, .mov (.t 56), none, []⟩])
 .ret)))))
def af86 : AFun := ⟨.pure, 1, 86, body86, [.t 6]⟩

/-- umpirage/table.value -/
def body87 : ACode := (.seq (.region none [
 ⟨some 3, .fbox (.t 0), none, []⟩,
 ⟨some 4, .fbox (.t 1), none, []⟩,
 ⟨some 6, .mov (.c (.int .i64 0)), none, []⟩])
 (.seq (.seq (.region none [
 ⟨some 11, .faddr 0 (.t 4), none, []⟩,
 ⟨some 12, .load 1 false (.t 11), none, []⟩,
 ⟨some 13, .bin .lss (.t 12) (.c (.int .i64 0)), none, []⟩])
 (.cond (.t 13)
 (.seq (.seq (.region none [
 ⟨some 14, .faddr 0 (.t 4), none, []⟩,
 ⟨some 15, .load 1 false (.t 14), none, []⟩,
 ⟨some 16, .un .neg (.t 15), none, []⟩,
 ⟨some 17, .bin .sub (.t 16) (.c (.int .i64 1)), none, []⟩,
 ⟨some 7, .mov (.t 17), none, []⟩])
 (.seq (.region none [
 ⟨some 18, .mov (.t 7), none, []⟩,
 ⟨some 19, .mov (.t 2), none, []⟩,
 ⟨some 20, .len (.t 19), none, []⟩,
 ⟨some 21, .bin .lss (.t 18) (.t 20), none, []⟩])
 (.cond (.t 21)
 (.seq (.region none [
 ⟨some 22, .mov (.t 2), none, []⟩,
 ⟨some 23, .mov (.t 7), none, []⟩,
 ⟨some 24, .iaddr 1 (.t 22) (.t 23), none, []⟩,
 ⟨some 25, .load 1 false (.t 24), none, []⟩,
 ⟨some 6, .mov (.t 25), none, []⟩])
 .ret)
 .skip)))
 (.seq (.region none [
 ⟨some 6, .mov (.c (.int .i64 0)), none, []⟩])
 .ret))
 .skip))
 (.seq (.region none [
 ⟨some 8, .mov (.c (.int .i64 0)), none, []⟩])
 (.seq (.seq (.region none [
 ⟨some 26, .faddr 1 (.t 4), none, []⟩,
 ⟨some 27, .load 1 false (.t 26), none, []⟩,
 ⟨some 28, .len (.t 27), none, []⟩,
 ⟨some 29, .mov (.c (.int .i64 0)), none, []⟩])
 (.block 0
 (.loop (.seq (.region none [
 ⟨some 30, .bin .lss (.t 29) (.t 28), none, []⟩])
 (.seq (.cond (.t 30)
 .skip
 (.exit 0))
 (.seq (.block 1
 (.seq (.region none [
 ⟨some 31, .iaddr 2 (.t 27) (.t 29), none, []⟩,
 ⟨some 32, .load 2 true (.t 31), none, []⟩,
 ⟨some 10, .lalloc (.agg [(.int .i64 0), .nilSlice]), none, []⟩,
 ⟨none, .store 2 (.t 10) (.t 32), none, []⟩])
 (.region (some [0, 0, 2, 7, 0, 0, 0, 112, 255, 511]) [
 ⟨some 33, .mov (.t 8), none, []⟩,
 ⟨some 34, .faddr 0 (.t 3), none, []⟩,
 ⟨some 35, .load 1 false (.t 34), none, []⟩,
 ⟨some 36, .bin .mul (.t 33) (.t 35), none, []⟩,
 ⟨some 37, .load 2 true (.t 3), none, []⟩,
 ⟨some 38, .load 2 true (.t 10), none, []⟩,
 ⟨some 39, .mov (.t 2), none, []⟩,
 ⟨some 40, .call (.c (.clo 87 [])) [(.t 37), (.t 38), (.t 39)], none, []⟩,
 ⟨some 41, .bin .add (.t 36) (.t 40), none, []⟩,
 ⟨some 8, .mov (.t 41), none, []⟩])))
 (.region none [
 ⟨some 42, .bin .add (.t 29) (.c (.int .i64 1)), none, []⟩,
 ⟨some 29, .mov (.t 42), none, []⟩])))))))
 (.seq (.region none [
 ⟨some 43, .faddr 1 (.t 3), none, []⟩,
 ⟨some 44, .load 1 false (.t 43), none, []⟩,
 ⟨some 45, .faddr 0 (.t 4), none, []⟩,
 ⟨some 46, .load 1 false (.t 45), none, []⟩,
 ⟨some 47, .bin .sub (.t 46) (.c (.int .i64 1)), none, []⟩,
 ⟨some 48, .iaddr 1 (.t 44) (.t 47), none, []⟩,
 ⟨some 49, .load 1 false (.t 48), none, []⟩,
 ⟨some 50, .mov (.t 8), none, []⟩,
 ⟨some 51, .iaddr 1 (.t 49) (.t 50), none, []⟩,
 ⟨some 52, .load 1 false (.t 51), none, []⟩,
 ⟨some 6, .mov (.t 52), none, []⟩])
 .ret)))))
def af87 : AFun := ⟨.pure, 1, 87, body87, [.t 6]⟩

/-- umpirage/trace.stands -/
def body88 : ACode := (.seq (.region none [
 ⟨some 2, .fbox (.t 0), none, []⟩,
 ⟨some 4, .lalloc (.agg [(.int .i64 0), .nilSlice]), none, []⟩,
 ⟨some 5, .mov (.c (.bool false)), none, []⟩])
 (.seq (.seq (.region none [
 ⟨some 9, .mov (.t 1), none, []⟩,
 ⟨some 10, .len (.t 9), none, []⟩,
 ⟨some 11, .bin .eql (.t 10) (.c (.int .i64 0)), none, []⟩,
 ⟨some 12, .mov (.t 11), none, []⟩,
 ⟨some 13, .mov (.t 1), some (12, false), []⟩,
 ⟨some 14, .iaddr 1 (.t 13) (.c (.int .i64 0)), some (12, false), []⟩,
 ⟨some 15, .load 1 false (.t 14), some (12, false), []⟩,
 ⟨some 16, .call (.c (.clo 17 [])) [(.t 15), (.c (.int .i64 1)), (.c (.int .i64 2))], some (12, false), []⟩,
 ⟨some 17, .un .not (.t 16), some (12, false), []⟩,
 ⟨some 18, .pick (.t 12) (.c (.bool true)) (.t 17), none, []⟩])
 (.cond (.t 18)
 (.seq (.region none [
 ⟨some 19, .build [(.int .i64 0), .nilSlice] [], none, []⟩,
 ⟨none, .store 2 (.t 4) (.t 19), none, []⟩,
 ⟨some 5, .mov (.c (.bool false)), none, []⟩])
 .ret)
 .skip))
 (.seq (.region (some [0, 1, 0, 4, 15, 0, 32, 96, 224, 511, 0, 2047]) [
 ⟨some 20, .faddr 1 (.t 2), none, []⟩,
 ⟨some 21, .load 2 true (.t 20), none, []⟩,
 ⟨some 22, .faddr 3 (.t 2), none, []⟩,
 ⟨some 23, .load 2 true (.t 22), none, []⟩,
 ⟨some 24, .build [(.int .i64 0), .nilSlice, (.int .i64 0), .nilSlice] [(0, 2, (.t 21)), (2, 2, (.t 23))], none, []⟩,
 ⟨some 25, .mov (.t 1), none, []⟩,
 ⟨some 26, .iaddr 1 (.t 25) (.c (.int .i64 0)), none, []⟩,
 ⟨some 27, .load 1 false (.t 26), none, []⟩,
 ⟨some 28, .bin .sub (.t 27) (.c (.int .i64 1)), none, []⟩,
 ⟨some 29, .indexA 2 2 true (.t 24) (.t 28), none, []⟩,
 ⟨some 6, .lalloc (.agg [(.int .i64 0), .nilSlice]), none, []⟩,
 ⟨none, .store 2 (.t 6) (.t 29), none, []⟩])
 (.seq (.seq (.region none [
 ⟨some 30, .mov (.t 1), none, []⟩,
 ⟨some 31, .slice 1 (.t 30) (some (.c (.int .i64 1))) none, none, []⟩,
 ⟨some 32, .len (.t 31), none, []⟩,
 ⟨some 33, .mov (.c (.int .i64 0)), none, []⟩])
 (.block 0
 (.loop (.seq (.region none [
 ⟨some 34, .bin .lss (.t 33) (.t 32), none, []⟩])
 (.seq (.cond (.t 34)
 .skip
 (.exit 0))
 (.seq (.block 1
 (.seq (.region none [
 ⟨some 35, .iaddr 1 (.t 31) (.t 33), none, []⟩,
 ⟨some 36, .load 1 false (.t 35), none, []⟩,
 ⟨some 8, .mov (.t 36), none, []⟩])
 (.seq (.seq (.region none [
 ⟨some 37, .mov (.t 8), none, []⟩,
 ⟨some 38, .faddr 1 (.t 6), none, []⟩,
 ⟨some 39, .load 1 false (.t 38), none, []⟩,
 ⟨some 40, .len (.t 39), none, []⟩,
 ⟨some 41, .call (.c (.clo 17 [])) [(.t 37), (.c (.int .i64 1)), (.t 40)], none, []⟩,
 ⟨some 42, .un .not (.t 41), none, []⟩])
 (.cond (.t 42)
 (.seq (.region none [
 ⟨some 43, .build [(.int .i64 0), .nilSlice] [], none, []⟩,
 ⟨none, .store 2 (.t 4) (.t 43), none, []⟩,
 ⟨some 5, .mov (.c (.bool false)), none, []⟩])
 .ret)
 .skip))
 (.region none [
 ⟨some 44, .faddr 1 (.t 6), none, []⟩,
 ⟨some 45, .load 1 false (.t 44), none, []⟩,
 ⟨some 46, .mov (.t 8), none, []⟩,
 ⟨some 47, .bin .sub (.t 46) (.c (.int .i64 1)), none, []⟩,
 ⟨some 48, .iaddr 2 (.t 45) (.t 47), none, []⟩,
 ⟨some 49, .load 2 true (.t 48), none, []⟩,
 ⟨none, .store 2 (.t 6) (.t 49), none, []⟩]))))
 (.region none [
 ⟨some 50, .bin .add (.t 33) (.c (.int .i64 1)), none, []⟩,
 ⟨some 33, .mov (.t 50), none, []⟩])))))))
 (.seq (.region none [
 ⟨some 51, .load 2 true (.t 6), none, []⟩,
 ⟨none, .store 2 (.t 4) (.t 51), none, []⟩,
 ⟨some 5, .mov (.c (.bool true)), none, []⟩])
 .ret)))))
def af88 : AFun := ⟨.pure, 1, 88, body88, [.cell 4 2 true, .t 5]⟩

/-- umpirage/trace.changed -/
def body89 : ACode := (.seq (.region none [
 ⟨some 3, .lbox (.t 0), none, []⟩,
 ⟨some 5, .fbox (.t 2), none, []⟩,
 ⟨some 6, .lalloc (.agg [(.bool false), (.int .i64 0), .nilSlice, (.int .i64 0), .nilSlice]), none, []⟩])
 (.seq (.seq (.region none [
 ⟨some 7, .mov (.t 1), none, []⟩,
 ⟨some 8, .iaddr 1 (.t 7) (.c (.int .i64 0)), none, []⟩,
 ⟨some 9, .load 1 false (.t 8), none, []⟩,
 ⟨some 10, .bin .eql (.t 9) (.c (.int .i64 1)), none, []⟩])
 (.cond (.t 10)
 (.region (some [0, 1, 0, 4, 0, 31, 63, 127]) [
 ⟨some 11, .faddr 1 (.t 3), none, []⟩,
 ⟨some 12, .load 2 true (.t 11), none, []⟩,
 ⟨some 13, .mov (.t 1), none, []⟩,
 ⟨some 14, .slice 1 (.t 13) (some (.c (.int .i64 1))) none, none, []⟩,
 ⟨some 15, .load 2 true (.t 5), none, []⟩,
 ⟨some 16, .call (.c (.clo 99 [])) [(.t 12), (.t 14), (.t 15)], none, []⟩,
 ⟨some 17, .faddr 1 (.t 3), none, []⟩,
 ⟨none, .store 2 (.t 17) (.t 16), none, []⟩])
 (.region (some [0, 1, 0, 4, 0, 31, 63, 127]) [
 ⟨some 18, .faddr 3 (.t 3), none, []⟩,
 ⟨some 19, .load 2 true (.t 18), none, []⟩,
 ⟨some 20, .mov (.t 1), none, []⟩,
 ⟨some 21, .slice 1 (.t 20) (some (.c (.int .i64 1))) none, none, []⟩,
 ⟨some 22, .load 2 true (.t 5), none, []⟩,
 ⟨some 23, .call (.c (.clo 99 [])) [(.t 19), (.t 21), (.t 22)], none, []⟩,
 ⟨some 24, .faddr 3 (.t 3), none, []⟩,
 ⟨none, .store 2 (.t 24) (.t 23), none, []⟩])))
 (.seq (.region none [
 ⟨some 25, .load 5 true (.t 3), none, []⟩,
 ⟨none, .store 5 (.t 6) (.t 25), none, []⟩])
 .ret)))
def af89 : AFun := ⟨.pure, 1, 89, body89, [.cell 6 5 true]⟩

/-- umpirage/trace.once$1 -/
def body90 : ACode := (.seq (.region none [
 ⟨some 2, .fbox (.t 0), none, []⟩,
 ⟨some 3, .mov (.c (.bool false)), none, []⟩])
 (.seq (.region none [
 ⟨some 4, .load 5 true (.t 1), none, []⟩,
 ⟨some 5, .load 5 true (.t 2), none, []⟩,
 ⟨some 6, .call (.c (.clo 47 [])) [(.t 4), (.t 5)], none, []⟩,
 ⟨some 3, .mov (.t 6), none, []⟩])
 .ret))
def af90 : AFun := ⟨.pure, 1, 90, body90, [.t 3]⟩

/-- slices.IndexFunc[[]umpirage/api.Fact,umpirage/api.Fact] -/
def body91 : ACode := (.seq (.region none [
 ⟨some 4, .mov (.c (.int .i64 0)), none, []⟩])
 (.seq (.seq (.region none [
 ⟨some 6, .mov (.t 0), none, []⟩,
 ⟨some 7, .len (.t 6), none, []⟩,
 ⟨some 8, .mov (.c (.int .i64 0)), none, []⟩])
 (.block 0
 (.loop (.seq (.region none [
 ⟨some 9, .bin .lss (.t 8) (.t 7), none, []⟩])
 (.seq (.cond (.t 9)
 .skip
 (.exit 0))
 (.seq (.block 1
 (.seq (.region none [
 ⟨some 10, .mov (.t 8), none, []⟩,
 ⟨some 5, .mov (.t 10), none, []⟩])
 (.seq (.region none [
 ⟨some 11, .mov (.t 1), none, []⟩,
 ⟨some 12, .mov (.t 0), none, []⟩,
 ⟨some 13, .mov (.t 5), none, []⟩,
 ⟨some 14, .iaddr 5 (.t 12) (.t 13), none, []⟩,
 ⟨some 15, .load 5 true (.t 14), none, []⟩,
 ⟨some 16, .call (.t 11) [(.t 15)], none, []⟩])
 (.cond (.t 16)
 (.seq (.region none [
 ⟨some 17, .mov (.t 5), none, []⟩,
 ⟨some 4, .mov (.t 17), none, []⟩])
 .ret)
 .skip))))
 (.region none [
 ⟨some 18, .bin .add (.t 8) (.c (.int .i64 1)), none, []⟩,
 ⟨some 8, .mov (.t 18), none, []⟩])))))))
 (.seq (.region none [
 ⟨some 4, .mov (.c (.int .i64 (-1))), none, []⟩])
 .ret)))
def af91 : AFun := ⟨.pure, 1, 91, body91, [.t 4]⟩

/-- slices.EqualFunc[[]umpirage/api.Tree,[]umpirage/api.Tree,umpirage/api.Tree,umpirage/api.Tree] -/
def body92 : ACode := (.seq (.region none [
 ⟨some 6, .mov (.c (.bool false)), none, []⟩])
 (.seq (.seq (.region none [
 ⟨some 10, .mov (.t 0), none, []⟩,
 ⟨some 11, .len (.t 10), none, []⟩,
 ⟨some 12, .mov (.t 1), none, []⟩,
 ⟨some 13, .len (.t 12), none, []⟩,
 ⟨some 14, .bin .neq (.t 11) (.t 13), none, []⟩])
 (.cond (.t 14)
 (.seq (.region none [
 ⟨some 6, .mov (.c (.bool false)), none, []⟩])
 .ret)
 .skip))
 (.seq (.seq (.region none [
 ⟨some 15, .mov (.t 0), none, []⟩,
 ⟨some 16, .len (.t 15), none, []⟩,
 ⟨some 17, .mov (.c (.int .i64 0)), none, []⟩])
 (.block 0
 (.loop (.seq (.region none [
 ⟨some 18, .bin .lss (.t 17) (.t 16), none, []⟩])
 (.seq (.cond (.t 18)
 .skip
 (.exit 0))
 (.seq (.block 1
 (.seq (.region none [
 ⟨some 19, .mov (.t 17), none, []⟩,
 ⟨some 20, .iaddr 2 (.t 15) (.t 17), none, []⟩,
 ⟨some 21, .load 2 true (.t 20), none, []⟩,
 ⟨some 8, .lalloc (.agg [(.int .i64 0), .nilSlice]), none, []⟩,
 ⟨some 7, .mov (.t 19), none, []⟩,
 ⟨none, .store 2 (.t 8) (.t 21), none, []⟩])
 (.seq (.region none [
 ⟨some 22, .mov (.t 1), none, []⟩,
 ⟨some 23, .mov (.t 7), none, []⟩,
 ⟨some 24, .iaddr 2 (.t 22) (.t 23), none, []⟩,
 ⟨some 25, .load 2 true (.t 24), none, []⟩,
 ⟨some 9, .lalloc (.agg [(.int .i64 0), .nilSlice]), none, []⟩,
 ⟨none, .store 2 (.t 9) (.t 25), none, []⟩])
 (.seq (.region none [
 ⟨some 26, .mov (.t 2), none, []⟩,
 ⟨some 27, .load 2 true (.t 8), none, []⟩,
 ⟨some 28, .load 2 true (.t 9), none, []⟩,
 ⟨some 29, .call (.t 26) [(.t 27), (.t 28)], none, []⟩,
 ⟨some 30, .un .not (.t 29), none, []⟩])
 (.cond (.t 30)
 (.seq (.region none [
 ⟨some 6, .mov (.c (.bool false)), none, []⟩])
 .ret)
 .skip)))))
 (.region none [
 ⟨some 31, .bin .add (.t 17) (.c (.int .i64 1)), none, []⟩,
 ⟨some 17, .mov (.t 31), none, []⟩])))))))
 (.seq (.region none [
 ⟨some 6, .mov (.c (.bool true)), none, []⟩])
 .ret))))
def af92 : AFun := ⟨.pure, 1, 92, body92, [.t 6]⟩

/-- umpirage/above.holds -/
def body93 : ACode := (.seq (.region none [
 ⟨some 2, .fbox (.t 0), none, []⟩,
 ⟨some 3, .fbox (.t 1), none, []⟩,
 ⟨some 4, .mov (.c (.bool false)), none, []⟩])
 (.seq (.region none [
 ⟨some 5, .faddr 0 (.t 2), none, []⟩,
 ⟨some 6, .load 1 false (.t 5), none, []⟩,
 ⟨some 7, .load 1 false (.t 3), none, []⟩,
 ⟨some 8, .bin .eql (.t 6) (.t 7), none, []⟩,
 ⟨some 9, .mov (.t 8), none, []⟩,
 ⟨some 10, .faddr 1 (.t 2), some (9, false), []⟩,
 ⟨some 11, .load 1 false (.t 10), some (9, false), []⟩,
 ⟨some 12, .mkfn 100 [(.t 3)], some (9, false), []⟩,
 ⟨some 13, .call (.c (.clo 94 [])) [(.t 11), (.t 12)], some (9, false), []⟩,
 ⟨some 14, .pick (.t 9) (.c (.bool true)) (.t 13), none, []⟩,
 ⟨some 4, .mov (.t 14), none, []⟩])
 .ret))
def af93 : AFun := ⟨.pure, 1, 93, body93, [.t 4]⟩

/-- slices.ContainsFunc[[]umpirage/api.Tree,umpirage/api.Tree] -/
def body94 : ACode := (.seq (.region none [
 ⟨some 4, .mov (.c (.bool false)), none, []⟩])
 (.seq (.region none [
 ⟨some 5, .mov (.t 0), none, []⟩,
 ⟨some 6, .mov (.t 1), none, []⟩,
 ⟨some 7, .call (.c (.clo 101 [])) [(.t 5), (.t 6)], none, []⟩,
 ⟨some 8, .bin .geq (.t 7) (.c (.int .i64 0)), none, []⟩,
 ⟨some 4, .mov (.t 8), none, []⟩])
 .ret))
def af94 : AFun := ⟨.pure, 1, 94, body94, [.t 4]⟩

/-- umpirage/above.Over$1 -/
def body95 : ACode := (.seq (.region none [
 ⟨some 2, .fbox (.t 0), none, []⟩,
 ⟨some 3, .mov (.c (.bool false)), none, []⟩])
 (.seq (.region none [
 ⟨some 4, .load 2 true (.t 2), none, []⟩,
 ⟨some 5, .load 2 true (.t 1), none, []⟩,
 ⟨some 6, .call (.c (.clo 72 [])) [(.t 4), (.t 5)], none, []⟩,
 ⟨some 7, .mov (.t 6), none, []⟩,
 ⟨some 8, .load 2 true (.t 2), some (7, false), []⟩,
 ⟨some 9, .load 2 true (.t 1), some (7, false), []⟩,
 ⟨some 10, .call (.c (.clo 73 [])) [(.t 8), (.t 9)], some (7, false), []⟩,
 ⟨some 11, .pick (.t 7) (.c (.bool true)) (.t 10), none, []⟩,
 ⟨some 3, .mov (.t 11), none, []⟩])
 .ret))
def af95 : AFun := ⟨.pure, 1, 95, body95, [.t 3]⟩

/-- umpirage/above.Over$2 -/
def body96 : ACode := (.seq (.region none [
 ⟨some 2, .fbox (.t 0), none, []⟩,
 ⟨some 3, .mov (.c (.bool false)), none, []⟩])
 (.seq (.region none [
 ⟨some 4, .load 2 true (.t 1), none, []⟩,
 ⟨some 5, .load 2 true (.t 2), none, []⟩,
 ⟨some 6, .call (.c (.clo 73 [])) [(.t 4), (.t 5)], none, []⟩,
 ⟨some 7, .un .not (.t 6), none, []⟩,
 ⟨some 3, .mov (.t 7), none, []⟩])
 .ret))
def af96 : AFun := ⟨.pure, 1, 96, body96, [.t 3]⟩

/-- (umpirage/unify.classes).join -/
def body97 : ACode := (.seq (.region none [
 ⟨some 4, .lbox (.t 1), none, []⟩,
 ⟨some 5, .lbox (.t 2), none, []⟩,
 ⟨some 6, .mov (.c (.bool false)), none, []⟩])
 (.seq (.region (some [0, 0, 3, 0, 0, 31, 63, 127]) [
 ⟨some 8, .mov (.t 0), none, []⟩,
 ⟨some 9, .load 2 true (.t 4), none, []⟩,
 ⟨some 10, .call (.c (.clo 102 [])) [(.t 8), (.t 9)], none, []⟩,
 ⟨some 11, .mov (.t 0), none, []⟩,
 ⟨some 12, .load 2 true (.t 5), none, []⟩,
 ⟨some 13, .call (.c (.clo 102 [])) [(.t 11), (.t 12)], none, []⟩,
 ⟨none, .store 2 (.t 4) (.t 10), none, []⟩,
 ⟨none, .store 2 (.t 5) (.t 13), none, []⟩])
 (.seq (.block 0
 (.seq (.region none [
 ⟨some 15, .faddr 0 (.t 4), none, []⟩,
 ⟨some 16, .load 1 false (.t 15), none, []⟩,
 ⟨some 17, .bin .lss (.t 16) (.c (.int .i64 0)), none, []⟩,
 ⟨some 18, .mov (.t 17), none, []⟩,
 ⟨some 19, .faddr 0 (.t 5), some (18, true), []⟩,
 ⟨some 20, .load 1 false (.t 19), some (18, true), []⟩,
 ⟨some 21, .bin .lss (.t 20) (.c (.int .i64 0)), some (18, true), []⟩,
 ⟨some 22, .pick (.t 18) (.t 21) (.c (.bool false)), none, []⟩,
 ⟨some 14, .mov (.t 22), none, []⟩])
 (.cond (.t 14)
 (.seq (.seq (.region none [
 ⟨some 23, .faddr 0 (.t 4), none, []⟩,
 ⟨some 24, .load 1 false (.t 23), none, []⟩,
 ⟨some 25, .faddr 0 (.t 5), none, []⟩,
 ⟨some 26, .load 1 false (.t 25), none, []⟩,
 ⟨some 27, .bin .lss (.t 24) (.t 26), none, []⟩])
 (.cond (.t 27)
 (.region none [
 ⟨some 28, .load 2 true (.t 5), none, []⟩,
 ⟨some 29, .load 2 true (.t 4), none, []⟩,
 ⟨none, .store 2 (.t 4) (.t 28), none, []⟩,
 ⟨none, .store 2 (.t 5) (.t 29), none, []⟩])
 .skip))
 (.seq (.seq (.region none [
 ⟨some 30, .faddr 0 (.t 4), none, []⟩,
 ⟨some 31, .load 1 false (.t 30), none, []⟩,
 ⟨some 32, .faddr 0 (.t 5), none, []⟩,
 ⟨some 33, .load 1 false (.t 32), none, []⟩,
 ⟨some 34, .bin .neq (.t 31) (.t 33), none, []⟩])
 (.cond (.t 34)
 (.region none [
 ⟨some 35, .mov (.t 0), none, []⟩,
 ⟨some 36, .faddr 0 (.t 5), none, []⟩,
 ⟨some 37, .load 1 false (.t 36), none, []⟩,
 ⟨some 38, .un .neg (.t 37), none, []⟩,
 ⟨some 39, .bin .sub (.t 38) (.c (.int .i64 1)), none, []⟩,
 ⟨some 40, .load 2 true (.t 4), none, []⟩,
 ⟨some 41, .iaddr 2 (.t 35) (.t 39), none, []⟩,
 ⟨none, .store 2 (.t 41) (.t 40), none, []⟩])
 .skip))
 (.seq (.region none [
 ⟨some 6, .mov (.c (.bool true)), none, []⟩])
 .ret)))
 (.seq (.region none [
 ⟨some 43, .faddr 0 (.t 4), none, []⟩,
 ⟨some 44, .load 1 false (.t 43), none, []⟩,
 ⟨some 45, .bin .lss (.t 44) (.c (.int .i64 0)), none, []⟩,
 ⟨some 42, .mov (.t 45), none, []⟩])
 (.cond (.t 42)
 (.seq (.region none [
 ⟨some 46, .mov (.t 0), none, []⟩,
 ⟨some 47, .faddr 0 (.t 4), none, []⟩,
 ⟨some 48, .load 1 false (.t 47), none, []⟩,
 ⟨some 49, .un .neg (.t 48), none, []⟩,
 ⟨some 50, .bin .sub (.t 49) (.c (.int .i64 1)), none, []⟩,
 ⟨some 51, .load 2 true (.t 5), none, []⟩,
 ⟨some 52, .call (.c (.clo 103 [])) [(.t 46), (.t 50), (.t 51)], none, []⟩,
 ⟨some 6, .mov (.t 52), none, []⟩])
 .ret)
 (.seq (.region none [
 ⟨some 54, .faddr 0 (.t 5), none, []⟩,
 ⟨some 55, .load 1 false (.t 54), none, []⟩,
 ⟨some 56, .bin .lss (.t 55) (.c (.int .i64 0)), none, []⟩,
 ⟨some 53, .mov (.t 56), none, []⟩])
 (.cond (.t 53)
 (.seq (.region none [
 ⟨some 57, .mov (.t 0), none, []⟩,
 ⟨some 58, .faddr 0 (.t 5), none, []⟩,
 ⟨some 59, .load 1 false (.t 58), none, []⟩,
 ⟨some 60, .un .neg (.t 59), none, []⟩,
 ⟨some 61, .bin .sub (.t 60) (.c (.int .i64 1)), none, []⟩,
 ⟨some 62, .load 2 true (.t 4), none, []⟩,
 ⟨some 63, .call (.c (.clo 103 [])) [(.t 57), (.t 61), (.t 62)], none, []⟩,
 ⟨some 6, .mov (.t 63), none, []⟩])
 .ret)
 (.seq (.region none [
 ⟨some 65, .faddr 0 (.t 4), none, []⟩,
 ⟨some 66, .load 1 false (.t 65), none, []⟩,
 ⟨some 67, .faddr 0 (.t 5), none, []⟩,
 ⟨some 68, .load 1 false (.t 67), none, []⟩,
 ⟨some 69, .bin .neq (.t 66) (.t 68), none, []⟩,
 ⟨some 70, .mov (.t 69), none, []⟩,
 ⟨some 71, .faddr 1 (.t 4), some (70, false), []⟩,
 ⟨some 72, .load 1 false (.t 71), some (70, false), []⟩,
 ⟨some 73, .len (.t 72), some (70, false), []⟩,
 ⟨some 74, .faddr 1 (.t 5), some (70, false), []⟩,
 ⟨some 75, .load 1 false (.t 74), some (70, false), []⟩,
 ⟨some 76, .len (.t 75), some (70, false), []⟩,
 ⟨some 77, .bin .neq (.t 73) (.t 76), some (70, false), []⟩,
 ⟨some 78, .pick (.t 70) (.c (.bool true)) (.t 77), none, []⟩,
 ⟨some 64, .mov (.t 78), none, []⟩])
 (.cond (.t 64)
 (.seq (.region none [
 ⟨some 6, .mov (.c (.bool false)), none, []⟩])
 .ret)
 .skip)))))))))
 (.seq (.seq (.region none [
 ⟨some 79, .faddr 1 (.t 4), none, []⟩,
 ⟨some 80, .load 1 false (.t 79), none, []⟩,
 ⟨some 81, .len (.t 80), none, []⟩,
 ⟨some 82, .mov (.c (.int .i64 0)), none, []⟩])
 (.block 1
 (.loop (.seq (.region none [
 ⟨some 83, .bin .lss (.t 82) (.t 81), none, []⟩])
 (.seq (.cond (.t 83)
 .skip
 (.exit 1))
 (.seq (.block 2
 (.seq (.region none [
 ⟨some 84, .mov (.t 82), none, []⟩,
 ⟨some 7, .mov (.t 84), none, []⟩])
 (.seq (.region (some [0, 0, 2, 0, 14, 30, 0, 64, 0, 448, 960, 2047, 4095]) [
 ⟨some 85, .mov (.t 0), none, []⟩,
 ⟨some 86, .faddr 1 (.t 4), none, []⟩,
 ⟨some 87, .load 1 false (.t 86), none, []⟩,
 ⟨some 88, .mov (.t 7), none, []⟩,
 ⟨some 89, .iaddr 2 (.t 87) (.t 88), none, []⟩,
 ⟨some 90, .load 2 true (.t 89), none, []⟩,
 ⟨some 91, .faddr 1 (.t 5), none, []⟩,
 ⟨some 92, .load 1 false (.t 91), none, []⟩,
 ⟨some 93, .mov (.t 7), none, []⟩,
 ⟨some 94, .iaddr 2 (.t 92) (.t 93), none, []⟩,
 ⟨some 95, .load 2 true (.t 94), none, []⟩,
 ⟨some 96, .call (.c (.clo 97 [])) [(.t 85), (.t 90), (.t 95)], none, []⟩,
 ⟨some 97, .un .not (.t 96), none, []⟩])
 (.cond (.t 97)
 (.seq (.region none [
 ⟨some 6, .mov (.c (.bool false)), none, []⟩])
 .ret)
 .skip))))
 (.region none [
 ⟨some 98, .bin .add (.t 82) (.c (.int .i64 1)), none, []⟩,
 ⟨some 82, .mov (.t 98), none, []⟩])))))))
 (.seq (.region none [
 ⟨some 6, .mov (.c (.bool true)), none, []⟩])
 .ret)))))
def af97 : AFun := ⟨.mut, 1, 97, body97, [.t 6]⟩

/-- (umpirage/unify.classes).full -/
def body98 : ACode := (.seq (.region none [
 ⟨some 4, .lbox (.t 1), none, []⟩,
 ⟨some 6, .lalloc (.agg [(.int .i64 0), .nilSlice]), none, []⟩])
 (.seq (.region none [
 ⟨some 10, .mov (.t 0), none, []⟩,
 ⟨some 11, .load 2 true (.t 4), none, []⟩,
 ⟨some 12, .call (.c (.clo 102 [])) [(.t 10), (.t 11)], none, []⟩,
 ⟨none, .store 2 (.t 4) (.t 12), none, []⟩])
 (.seq (.region none [
 ⟨some 13, .mov (.t 2), none, []⟩,
 ⟨some 14, .ncheck (.t 13), none, []⟩,
 ⟨some 15, .load 1 false (.t 14), none, []⟩,
 ⟨some 16, .bin .sub (.t 15) (.c (.int .i64 1)), none, []⟩,
 ⟨some 17, .ncheck (.t 13), none, []⟩,
 ⟨none, .store 1 (.t 17) (.t 16), none, []⟩])
 (.seq (.region none [
 ⟨some 18, .faddr 0 (.t 4), none, []⟩,
 ⟨some 19, .load 1 false (.t 18), none, []⟩,
 ⟨some 20, .build [(.int .i64 0), .nilSlice] [(0, 1, (.t 19))], none, []⟩,
 ⟨some 7, .lalloc (.agg [(.int .i64 0), .nilSlice]), none, []⟩,
 ⟨none, .store 2 (.t 7) (.t 20), none, []⟩])
 (.seq (.seq (.region none [
 ⟨some 21, .faddr 1 (.t 4), none, []⟩,
 ⟨some 22, .load 1 false (.t 21), none, []⟩,
 ⟨some 23, .len (.t 22), none, []⟩,
 ⟨some 24, .mov (.c (.int .i64 0)), none, []⟩])
 (.block 0
 (.loop (.seq (.region none [
 ⟨some 25, .bin .lss (.t 24) (.t 23), none, []⟩])
 (.seq (.cond (.t 25)
 .skip
 (.exit 0))
 (.seq (.block 1
 (.seq (.region none [
 ⟨some 26, .iaddr 2 (.t 22) (.t 24), none, []⟩,
 ⟨some 27, .load 2 true (.t 26), none, []⟩,
 ⟨some 9, .lalloc (.agg [(.int .i64 0), .nilSlice]), none, []⟩,
 ⟨none, .store 2 (.t 9) (.t 27), none, []⟩])
 (.seq (.seq (.region none [
 ⟨some 28, .mov (.t 2), none, []⟩,
 ⟨some 29, .ncheck (.t 28), none, []⟩,
 ⟨some 30, .load 1 false (.t 29), none, []⟩,
 ⟨some 31, .bin .lss (.t 30) (.c (.int .i64 0)), none, []⟩])
 (.cond (.t 31)
 (.exit 0)
 .skip))
 (.region (some [0, 1, 0, 0, 0, 28, 60, 127, 255, 511]) [
 ⟨some 32, .faddr 1 (.t 7), none, []⟩,
 ⟨some 33, .load 1 false (.t 32), none, []⟩,
 ⟨some 34, .mov (.t 0), none, []⟩,
 ⟨some 35, .load 2 true (.t 9), none, []⟩,
 ⟨some 36, .mov (.t 2), none, []⟩,
 ⟨some 37, .call (.c (.clo 98 [])) [(.t 34), (.t 35), (.t 36)], none, []⟩,
 ⟨some 38, .bslice false 2 1 [(.int .i64 0), .nilSlice] [(0, 2, (.t 37))], none, []⟩,
 ⟨some 39, .append false 2 32 (.t 33) (.t 38), none, []⟩,
 ⟨some 40, .faddr 1 (.t 7), none, []⟩,
 ⟨none, .store 1 (.t 40) (.t 39), none, []⟩]))))
 (.region none [
 ⟨some 41, .bin .add (.t 24) (.c (.int .i64 1)), none, []⟩,
 ⟨some 24, .mov (.t 41), none, []⟩])))))))
 (.seq (.region none [
 ⟨some 42, .load 2 true (.t 7), none, []⟩,
 ⟨none, .store 2 (.t 6) (.t 42), none, []⟩])
 .ret))))))
def af98 : AFun := ⟨.mutf, 1, 98, body98, [.cell 6 2 true]⟩

/-- umpirage/trace.put -/
def body99 : ACode := (.seq (.region none [
 ⟨some 3, .fbox (.t 0), none, []⟩,
 ⟨some 5, .fbox (.t 2), none, []⟩,
 ⟨some 6, .lalloc (.agg [(.int .i64 0), .nilSlice]), none, []⟩])
 (.seq (.seq (.region none [
 ⟨some 8, .mov (.t 1), none, []⟩,
 ⟨some 9, .len (.t 8), none, []⟩,
 ⟨some 10, .bin .eql (.t 9) (.c (.int .i64 0)), none, []⟩])
 (.cond (.t 10)
 (.seq (.region none [
 ⟨some 11, .load 2 true (.t 5), none, []⟩,
 ⟨none, .store 2 (.t 6) (.t 11), none, []⟩])
 .ret)
 .skip))
 (.seq (.region (some [0, 1, 0, 4, 12, 31, 0, 127]) [
 ⟨some 12, .faddr 0 (.t 3), none, []⟩,
 ⟨some 13, .load 1 false (.t 12), none, []⟩,
 ⟨some 14, .faddr 1 (.t 3), none, []⟩,
 ⟨some 15, .load 1 false (.t 14), none, []⟩,
 ⟨some 16, .call (.c (.clo 104 [])) [(.t 15)], none, []⟩,
 ⟨some 17, .build [(.int .i64 0), .nilSlice] [(0, 1, (.t 13)), (1, 1, (.t 16))], none, []⟩,
 ⟨some 7, .lalloc (.agg [(.int .i64 0), .nilSlice]), none, []⟩,
 ⟨none, .store 2 (.t 7) (.t 17), none, []⟩])
 (.seq (.region (some [0, 1, 0, 4, 12, 28, 0, 64, 0, 256, 768, 1792, 4032, 8128, 0, 16384, 0, 131008, 262143, 524287]) [
 ⟨some 18, .faddr 1 (.t 7), none, []⟩,
 ⟨some 19, .load 1 false (.t 18), none, []⟩,
 ⟨some 20, .mov (.t 1), none, []⟩,
 ⟨some 21, .iaddr 1 (.t 20) (.c (.int .i64 0)), none, []⟩,
 ⟨some 22, .load 1 false (.t 21), none, []⟩,
 ⟨some 23, .bin .sub (.t 22) (.c (.int .i64 1)), none, []⟩,
 ⟨some 24, .faddr 1 (.t 3), none, []⟩,
 ⟨some 25, .load 1 false (.t 24), none, []⟩,
 ⟨some 26, .mov (.t 1), none, []⟩,
 ⟨some 27, .iaddr 1 (.t 26) (.c (.int .i64 0)), none, []⟩,
 ⟨some 28, .load 1 false (.t 27), none, []⟩,
 ⟨some 29, .bin .sub (.t 28) (.c (.int .i64 1)), none, []⟩,
 ⟨some 30, .iaddr 2 (.t 25) (.t 29), none, []⟩,
 ⟨some 31, .load 2 true (.t 30), none, []⟩,
 ⟨some 32, .mov (.t 1), none, []⟩,
 ⟨some 33, .slice 1 (.t 32) (some (.c (.int .i64 1))) none, none, []⟩,
 ⟨some 34, .load 2 true (.t 5), none, []⟩,
 ⟨some 35, .call (.c (.clo 99 [])) [(.t 31), (.t 33), (.t 34)], none, []⟩,
 ⟨some 36, .iaddr 2 (.t 19) (.t 23), none, []⟩,
 ⟨none, .store 2 (.t 36) (.t 35), none, []⟩])
 (.seq (.region none [
 ⟨some 37, .load 2 true (.t 7), none, []⟩,
 ⟨none, .store 2 (.t 6) (.t 37), none, []⟩])
 .ret)))))
def af99 : AFun := ⟨.pure, 1, 99, body99, [.cell 6 2 true]⟩

/-- umpirage/above.holds$1 -/
def body100 : ACode := (.seq (.region none [
 ⟨some 2, .fbox (.t 0), none, []⟩,
 ⟨some 3, .mov (.c (.bool false)), none, []⟩])
 (.seq (.region none [
 ⟨some 4, .load 2 true (.t 2), none, []⟩,
 ⟨some 5, .load 1 false (.t 1), none, []⟩,
 ⟨some 6, .call (.c (.clo 93 [])) [(.t 4), (.t 5)], none, []⟩,
 ⟨some 3, .mov (.t 6), none, []⟩])
 .ret))
def af100 : AFun := ⟨.pure, 1, 100, body100, [.t 3]⟩

/-- slices.IndexFunc[[]umpirage/api.Tree,umpirage/api.Tree] -/
def body101 : ACode := (.seq (.region none [
 ⟨some 4, .mov (.c (.int .i64 0)), none, []⟩])
 (.seq (.seq (.region none [
 ⟨some 6, .mov (.t 0), none, []⟩,
 ⟨some 7, .len (.t 6), none, []⟩,
 ⟨some 8, .mov (.c (.int .i64 0)), none, []⟩])
 (.block 0
 (.loop (.seq (.region none [
 ⟨some 9, .bin .lss (.t 8) (.t 7), none, []⟩])
 (.seq (.cond (.t 9)
 .skip
 (.exit 0))
 (.seq (.block 1
 (.seq (.region none [
 ⟨some 10, .mov (.t 8), none, []⟩,
 ⟨some 5, .mov (.t 10), none, []⟩])
 (.seq (.region none [
 ⟨some 11, .mov (.t 1), none, []⟩,
 ⟨some 12, .mov (.t 0), none, []⟩,
 ⟨some 13, .mov (.t 5), none, []⟩,
 ⟨some 14, .iaddr 2 (.t 12) (.t 13), none, []⟩,
 ⟨some 15, .load 2 true (.t 14), none, []⟩,
 ⟨some 16, .call (.t 11) [(.t 15)], none, []⟩])
 (.cond (.t 16)
 (.seq (.region none [
 ⟨some 17, .mov (.t 5), none, []⟩,
 ⟨some 4, .mov (.t 17), none, []⟩])
 .ret)
 .skip))))
 (.region none [
 ⟨some 18, .bin .add (.t 8) (.c (.int .i64 1)), none, []⟩,
 ⟨some 8, .mov (.t 18), none, []⟩])))))))
 (.seq (.region none [
 ⟨some 4, .mov (.c (.int .i64 (-1))), none, []⟩])
 .ret)))
def af101 : AFun := ⟨.pure, 1, 101, body101, [.t 4]⟩

/-- (umpirage/unify.classes).look -/
def body102 : ACode := (.seq (.region none [
 ⟨some 3, .lbox (.t 1), none, []⟩,
 ⟨some 4, .lalloc (.agg [(.int .i64 0), .nilSlice]), none, []⟩])
 (.seq (.block 0
 (.loop (.seq (.seq (.region none [
 ⟨some 5, .faddr 0 (.t 3), none, []⟩,
 ⟨some 6, .load 1 false (.t 5), none, []⟩,
 ⟨some 7, .bin .lss (.t 6) (.c (.int .i64 0)), none, []⟩,
 ⟨some 8, .mov (.t 7), none, []⟩,
 ⟨some 9, .mov (.t 0), some (8, true), []⟩,
 ⟨some 10, .faddr 0 (.t 3), some (8, true), []⟩,
 ⟨some 11, .load 1 false (.t 10), some (8, true), []⟩,
 ⟨some 12, .un .neg (.t 11), some (8, true), []⟩,
 ⟨some 13, .bin .sub (.t 12) (.c (.int .i64 1)), some (8, true), []⟩,
 ⟨some 14, .iaddr 2 (.t 9) (.t 13), some (8, true), []⟩,
 ⟨some 15, .faddr 0 (.t 14), some (8, true), []⟩,
 ⟨some 16, .load 1 false (.t 15), some (8, true), []⟩,
 ⟨some 17, .bin .neq (.t 16) (.c (.int .i64 0)), some (8, true), []⟩,
 ⟨some 18, .pick (.t 8) (.t 17) (.c (.bool false)), none, []⟩])
 (.cond (.t 18)
 .skip
 (.exit 0)))
 (.block 1
 (.region none [
 ⟨some 19, .mov (.t 0), none, []⟩,
 ⟨some 20, .faddr 0 (.t 3), none, []⟩,
 ⟨some 21, .load 1 false (.t 20), none, []⟩,
 ⟨some 22, .un .neg (.t 21), none, []⟩,
 ⟨some 23, .bin .sub (.t 22) (.c (.int .i64 1)), none, []⟩,
 ⟨some 24, .iaddr 2 (.t 19) (.t 23), none, []⟩,
 ⟨some 25, .load 2 true (.t 24), none, []⟩,
 ⟨none, .store 2 (.t 3) (.t 25), none, []⟩])))))
 (.seq (.region none [
 ⟨some 26, .load 2 true (.t 3), none, []⟩,
 ⟨none, .store 2 (.t 4) (.t 26), none, []⟩])
 .ret)))
def af102 : AFun := ⟨.pure, 1, 102, body102, [.cell 4 2 true]⟩

/-- (umpirage/unify.classes).bind -/
def body103 : ACode := (.seq (.region none [
 ⟨some 5, .fbox (.t 2), none, []⟩,
 ⟨some 6, .mov (.c (.bool false)), none, []⟩])
 (.seq (.seq (.region (some [0, 0, 0, 0, 8, 24, 63]) [
 ⟨some 7, .mov (.t 0), none, []⟩,
 ⟨some 8, .mov (.t 1), none, []⟩,
 ⟨some 9, .load 2 true (.t 5), none, []⟩,
 ⟨some 10, .mov (.t 0), none, []⟩,
 ⟨some 11, .len (.t 10), none, []⟩,
 ⟨some 12, .mkslice 1 1 (.bool false) (.t 11) (.t 11), none, []⟩,
 ⟨some 13, .call (.c (.clo 105 [])) [(.t 7), (.t 8), (.t 9), (.t 12)], none, []⟩])
 (.cond (.t 13)
 (.seq (.region none [
 ⟨some 6, .mov (.c (.bool false)), none, []⟩])
 .ret)
 .skip))
 (.seq (.region none [
 ⟨some 14, .mov (.t 0), none, []⟩,
 ⟨some 15, .mov (.t 1), none, []⟩,
 ⟨some 16, .load 2 true (.t 5), none, []⟩,
 ⟨some 17, .iaddr 2 (.t 14) (.t 15), none, []⟩,
 ⟨none, .store 2 (.t 17) (.t 16), none, []⟩])
 (.seq (.region none [
 ⟨some 6, .mov (.c (.bool true)), none, []⟩])
 .ret))))
def af103 : AFun := ⟨.mut, 1, 103, body103, [.t 6]⟩

/-- slices.Clone[[]umpirage/api.Tree,umpirage/api.Tree] -/
def body104 : ACode := (.seq (.region none [
 ⟨some 2, .mov (.c .nilSlice), none, []⟩])
 (.seq (.seq (.region none [
 ⟨some 3, .mov (.t 0), none, []⟩,
 ⟨some 4, .eqnil false (.t 3), none, []⟩])
 (.cond (.t 4)
 (.seq (.region none [
 ⟨some 2, .mov (.c .nilSlice), none, []⟩])
 .ret)
 .skip))
 (.seq (.region none [
 ⟨some 5, .bslice true 2 0 [] [], none, []⟩,
 ⟨some 6, .mov (.t 0), none, []⟩,
 ⟨some 7, .append false 2 32 (.t 5) (.t 6), none, []⟩,
 ⟨some 2, .mov (.t 7), none, []⟩])
 .ret)))
def af104 : AFun := ⟨.new, 1, 104, body104, [.t 2]⟩

/-- (umpirage/unify.classes).within -/
def body105 : ACode := (.seq (.region none [
 ⟨some 6, .fbox (.t 2), none, []⟩,
 ⟨some 8, .mov (.c (.bool false)), none, []⟩])
 (.seq (.seq (.region none [
 ⟨some 12, .faddr 0 (.t 6), none, []⟩,
 ⟨some 13, .load 1 false (.t 12), none, []⟩,
 ⟨some 14, .bin .lss (.t 13) (.c (.int .i64 0)), none, []⟩])
 (.cond (.t 14)
 (.seq (.region none [
 ⟨some 15, .faddr 0 (.t 6), none, []⟩,
 ⟨some 16, .load 1 false (.t 15), none, []⟩,
 ⟨some 17, .un .neg (.t 16), none, []⟩,
 ⟨some 18, .bin .sub (.t 17) (.c (.int .i64 1)), none, []⟩,
 ⟨some 9, .mov (.t 18), none, []⟩])
 (.seq (.seq (.region none [
 ⟨some 19, .mov (.t 9), none, []⟩,
 ⟨some 20, .mov (.t 1), none, []⟩,
 ⟨some 21, .bin .eql (.t 19) (.t 20), none, []⟩,
 ⟨some 22, .mov (.t 21), none, []⟩,
 ⟨some 23, .mov (.t 3), some (22, false), []⟩,
 ⟨some 24, .mov (.t 9), some (22, false), []⟩,
 ⟨some 25, .iaddr 1 (.t 23) (.t 24), some (22, false), []⟩,
 ⟨some 26, .load 1 false (.t 25), some (22, false), []⟩,
 ⟨some 27, .pick (.t 22) (.c (.bool true)) (.t 26), none, []⟩,
 ⟨some 28, .mov (.t 27), none, []⟩,
 ⟨some 29, .mov (.t 0), some (28, false), []⟩,
 ⟨some 30, .mov (.t 9), some (28, false), []⟩,
 ⟨some 31, .iaddr 2 (.t 29) (.t 30), some (28, false), []⟩,
 ⟨some 32, .faddr 0 (.t 31), some (28, false), []⟩,
 ⟨some 33, .load 1 false (.t 32), some (28, false), []⟩,
 ⟨some 34, .bin .eql (.t 33) (.c (.int .i64 0)), some (28, false), []⟩,
 ⟨some 35, .pick (.t 28) (.c (.bool true)) (.t 34), none, []⟩])
 (.cond (.t 35)
 (.seq (.region none [
 ⟨some 36, .mov (.t 9), none, []⟩,
 ⟨some 37, .mov (.t 1), none, []⟩,
 ⟨some 38, .bin .eql (.t 36) (.t 37), none, []⟩,
 ⟨some 8, .mov (.t 38), none, []⟩])
 .ret)
 .skip))
 (.seq (.region none [
 ⟨some 39, .mov (.t 3), none, []⟩,
 ⟨some 40, .mov (.t 9), none, []⟩,
 ⟨some 41, .iaddr 1 (.t 39) (.t 40), none, []⟩,
 ⟨none, .store 1 (.t 41) (.c (.bool true)), none, []⟩])
 (.seq (.region none [
 ⟨some 42, .mov (.t 0), none, []⟩,
 ⟨some 43, .mov (.t 1), none, []⟩,
 ⟨some 44, .mov (.t 0), none, []⟩,
 ⟨some 45, .mov (.t 9), none, []⟩,
 ⟨some 46, .iaddr 2 (.t 44) (.t 45), none, []⟩,
 ⟨some 47, .load 2 true (.t 46), none, []⟩,
 ⟨some 48, .mov (.t 3), none, []⟩,
 ⟨some 49, .call (.c (.clo 105 [])) [(.t 42), (.t 43), (.t 47), (.t 48)], none, []⟩,
 ⟨some 8, .mov (.t 49), none, []⟩])
 .ret))))
 .skip))
 (.seq (.seq (.region none [
 ⟨some 50, .faddr 1 (.t 6), none, []⟩,
 ⟨some 51, .load 1 false (.t 50), none, []⟩,
 ⟨some 52, .len (.t 51), none, []⟩,
 ⟨some 53, .mov (.c (.int .i64 0)), none, []⟩])
 (.block 0
 (.loop (.seq (.region none [
 ⟨some 54, .bin .lss (.t 53) (.t 52), none, []⟩])
 (.seq (.cond (.t 54)
 .skip
 (.exit 0))
 (.seq (.block 1
 (.seq (.region none [
 ⟨some 55, .iaddr 2 (.t 51) (.t 53), none, []⟩,
 ⟨some 56, .load 2 true (.t 55), none, []⟩,
 ⟨some 11, .lalloc (.agg [(.int .i64 0), .nilSlice]), none, []⟩,
 ⟨none, .store 2 (.t 11) (.t 56), none, []⟩])
 (.seq (.region none [
 ⟨some 57, .mov (.t 0), none, []⟩,
 ⟨some 58, .mov (.t 1), none, []⟩,
 ⟨some 59, .load 2 true (.t 11), none, []⟩,
 ⟨some 60, .mov (.t 3), none, []⟩,
 ⟨some 61, .call (.c (.clo 105 [])) [(.t 57), (.t 58), (.t 59), (.t 60)], none, []⟩])
 (.cond (.t 61)
 (.seq (.region none [
 ⟨some 8, .mov (.c (.bool true)), none, []⟩])
 .ret)
 .skip))))
 (.region none [
 ⟨some 62, .bin .add (.t 53) (.c (.int .i64 1)), none, []⟩,
 ⟨some 53, .mov (.t 62), none, []⟩])))))))
 (.seq (.region none [
 ⟨some 8, .mov (.c (.bool false)), none, []⟩])
 .ret))))
def af105 : AFun := ⟨.mut, 1, 105, body105, [.t 8]⟩

def tabL : List (Nat × AFun) := [(3, af3), (4, af4), (5, af5), (6, af6), (7, af7), (8, af8), (9, af9), (10, af10), (11, af11), (12, af12), (13, af13), (14, af14), (15, af15), (16, af16), (17, af17), (18, af18), (19, af19), (20, af20), (21, af21), (22, af22), (23, af23), (24, af24), (25, af25), (26, af26), (27, af27), (28, af28), (29, af29), (30, af30), (31, af31), (32, af32), (33, af33), (34, af34), (35, af35), (36, af36), (37, af37), (38, af38), (39, af39), (40, af40), (41, af41), (42, af42), (43, af43), (44, af44), (45, af45), (46, af46), (47, af47), (48, af48), (49, af49), (50, af50), (51, af51), (52, af52), (53, af53), (54, af54), (55, af55), (56, af56), (57, af57), (58, af58), (59, af59), (60, af60), (61, af61), (1061, af1061), (62, af62), (63, af63), (64, af64), (65, af65), (66, af66), (67, af67), (68, af68), (69, af69), (70, af70), (71, af71), (72, af72), (73, af73), (74, af74), (75, af75), (76, af76), (77, af77), (78, af78), (79, af79), (80, af80), (81, af81), (82, af82), (83, af83), (84, af84), (85, af85), (86, af86), (87, af87), (88, af88), (89, af89), (90, af90), (91, af91), (92, af92), (93, af93), (94, af94), (95, af95), (96, af96), (97, af97), (98, af98), (99, af99), (100, af100), (101, af101), (102, af102), (103, af103), (104, af104), (105, af105)]
def look (f : Nat) : List (Nat × AFun) → Option AFun
 | [] => none
 | (g, a) :: l => if f == g then some a else look f l
def tab (f : Nat) : Option AFun := look f tabL
theorem tab_3 : tab 3 = some af3 := rfl
theorem tab_4 : tab 4 = some af4 := rfl
theorem tab_5 : tab 5 = some af5 := rfl
theorem tab_6 : tab 6 = some af6 := rfl
theorem tab_7 : tab 7 = some af7 := rfl
theorem tab_8 : tab 8 = some af8 := rfl
theorem tab_9 : tab 9 = some af9 := rfl
theorem tab_10 : tab 10 = some af10 := rfl
theorem tab_11 : tab 11 = some af11 := rfl
theorem tab_12 : tab 12 = some af12 := rfl
theorem tab_13 : tab 13 = some af13 := rfl
theorem tab_14 : tab 14 = some af14 := rfl
theorem tab_15 : tab 15 = some af15 := rfl
theorem tab_16 : tab 16 = some af16 := rfl
theorem tab_17 : tab 17 = some af17 := rfl
theorem tab_18 : tab 18 = some af18 := rfl
theorem tab_19 : tab 19 = some af19 := rfl
theorem tab_20 : tab 20 = some af20 := rfl
theorem tab_21 : tab 21 = some af21 := rfl
theorem tab_22 : tab 22 = some af22 := rfl
theorem tab_23 : tab 23 = some af23 := rfl
theorem tab_24 : tab 24 = some af24 := rfl
theorem tab_25 : tab 25 = some af25 := rfl
theorem tab_26 : tab 26 = some af26 := rfl
theorem tab_27 : tab 27 = some af27 := rfl
theorem tab_28 : tab 28 = some af28 := rfl
theorem tab_29 : tab 29 = some af29 := rfl
theorem tab_30 : tab 30 = some af30 := rfl
theorem tab_31 : tab 31 = some af31 := rfl
theorem tab_32 : tab 32 = some af32 := rfl
theorem tab_33 : tab 33 = some af33 := rfl
theorem tab_34 : tab 34 = some af34 := rfl
theorem tab_35 : tab 35 = some af35 := rfl
theorem tab_36 : tab 36 = some af36 := rfl
theorem tab_37 : tab 37 = some af37 := rfl
theorem tab_38 : tab 38 = some af38 := rfl
theorem tab_39 : tab 39 = some af39 := rfl
theorem tab_40 : tab 40 = some af40 := rfl
theorem tab_41 : tab 41 = some af41 := rfl
theorem tab_42 : tab 42 = some af42 := rfl
theorem tab_43 : tab 43 = some af43 := rfl
theorem tab_44 : tab 44 = some af44 := rfl
theorem tab_45 : tab 45 = some af45 := rfl
theorem tab_46 : tab 46 = some af46 := rfl
theorem tab_47 : tab 47 = some af47 := rfl
theorem tab_48 : tab 48 = some af48 := rfl
theorem tab_49 : tab 49 = some af49 := rfl
theorem tab_50 : tab 50 = some af50 := rfl
theorem tab_51 : tab 51 = some af51 := rfl
theorem tab_52 : tab 52 = some af52 := rfl
theorem tab_53 : tab 53 = some af53 := rfl
theorem tab_54 : tab 54 = some af54 := rfl
theorem tab_55 : tab 55 = some af55 := rfl
theorem tab_56 : tab 56 = some af56 := rfl
theorem tab_57 : tab 57 = some af57 := rfl
theorem tab_58 : tab 58 = some af58 := rfl
theorem tab_59 : tab 59 = some af59 := rfl
theorem tab_60 : tab 60 = some af60 := rfl
theorem tab_61 : tab 61 = some af61 := rfl
theorem tab_1061 : tab 1061 = some af1061 := rfl
theorem tab_62 : tab 62 = some af62 := rfl
theorem tab_63 : tab 63 = some af63 := rfl
theorem tab_64 : tab 64 = some af64 := rfl
theorem tab_65 : tab 65 = some af65 := rfl
theorem tab_66 : tab 66 = some af66 := rfl
theorem tab_67 : tab 67 = some af67 := rfl
theorem tab_68 : tab 68 = some af68 := rfl
theorem tab_69 : tab 69 = some af69 := rfl
theorem tab_70 : tab 70 = some af70 := rfl
theorem tab_71 : tab 71 = some af71 := rfl
theorem tab_72 : tab 72 = some af72 := rfl
theorem tab_73 : tab 73 = some af73 := rfl
theorem tab_74 : tab 74 = some af74 := rfl
theorem tab_75 : tab 75 = some af75 := rfl
theorem tab_76 : tab 76 = some af76 := rfl
theorem tab_77 : tab 77 = some af77 := rfl
theorem tab_78 : tab 78 = some af78 := rfl
theorem tab_79 : tab 79 = some af79 := rfl
theorem tab_80 : tab 80 = some af80 := rfl
theorem tab_81 : tab 81 = some af81 := rfl
theorem tab_82 : tab 82 = some af82 := rfl
theorem tab_83 : tab 83 = some af83 := rfl
theorem tab_84 : tab 84 = some af84 := rfl
theorem tab_85 : tab 85 = some af85 := rfl
theorem tab_86 : tab 86 = some af86 := rfl
theorem tab_87 : tab 87 = some af87 := rfl
theorem tab_88 : tab 88 = some af88 := rfl
theorem tab_89 : tab 89 = some af89 := rfl
theorem tab_90 : tab 90 = some af90 := rfl
theorem tab_91 : tab 91 = some af91 := rfl
theorem tab_92 : tab 92 = some af92 := rfl
theorem tab_93 : tab 93 = some af93 := rfl
theorem tab_94 : tab 94 = some af94 := rfl
theorem tab_95 : tab 95 = some af95 := rfl
theorem tab_96 : tab 96 = some af96 := rfl
theorem tab_97 : tab 97 = some af97 := rfl
theorem tab_98 : tab 98 = some af98 := rfl
theorem tab_99 : tab 99 = some af99 := rfl
theorem tab_100 : tab 100 = some af100 := rfl
theorem tab_101 : tab 101 = some af101 := rfl
theorem tab_102 : tab 102 = some af102 := rfl
theorem tab_103 : tab 103 = some af103 := rfl
theorem tab_104 : tab 104 = some af104 := rfl
theorem tab_105 : tab 105 = some af105 := rfl
end Go.Proofs.Ytmbdccekcfeomaa.Am
