/- The abstract machine's code of the program's functions (printed by gen.py out of the loaded program; that it is that program's is proved elsewhere). -/
import Derived.Test.YtmbdccekcfeomaaT02
namespace Go.Proofs.Ytmbdccekcfeomaa.Am
set_option maxRecDepth 100000
def qm (d x : Nat) : AInstr := ⟨some d, .mov (.t x), none, []⟩
def qf (k d x : Nat) : AInstr := ⟨some d, .faddr k (.t x), none, []⟩
def ql (n d x : Nat) : AInstr := ⟨some d, .load n false (.t x), none, []⟩
def qL (n d x : Nat) : AInstr := ⟨some d, .load n true (.t x), none, []⟩
def qs (n x y : Nat) : AInstr := ⟨none, .store n (.t x) (.t y), none, []⟩
def qc (d f : Nat) (l : List Opd) : AInstr := ⟨some d, .call (.c (.clo f [])) l, none, []⟩
def qk (d : Nat) (n : Int) : AInstr := ⟨some d, .mov (.c (.int .i64 n)), none, []⟩
def qi (n d x y : Nat) : AInstr := ⟨some d, .iaddr n (.t x) (.t y), none, []⟩
def qn (d x : Nat) : AInstr := ⟨some d, .len (.t x), none, []⟩
def qb (o : BinOp) (d x y : Nat) : AInstr := ⟨some d, .bin o (.t x) (.t y), none, []⟩
def qB (o : BinOp) (d x : Nat) (n : Int) : AInstr := ⟨some d, .bin o (.t x) (.c (.int .i64 n)), none, []⟩
def qe (i d x : Nat) : AInstr := ⟨some d, .extract i (.t x), none, []⟩
def qx (d x : Nat) : AInstr := ⟨some d, .fbox (.t x), none, []⟩
def qo (d : Nat) (o : AOp) : AInstr := ⟨some d, o, none, []⟩
def qg (s : Nat) (b : Bool) (d : Nat) (o : AOp) : AInstr := ⟨some d, o, some (s, b), []⟩
/-- umpirage/umpiragelaw7.SuperEnds -/
def body3 : ACode := (.seq (.region none [
 qx 2 0, qo 4 (.mov (.c (.bool false)))])
 (.seq (.region none [
 qc 11 6 [], qc 12 5 [(.t 11), (.c (.int .i64 100))], qm 10 12, qe 0 13 10, qe 1 14 10, qe 2 15 10, qo 7 (.lalloc (.agg [(.int .i64 0), (.int .i64 0)])), qm 5 13, qm 6 14, qs 2 7 15])
 (.seq (.seq (.region none [
 qf 0 16 7, ql 1 17 16, qB .neq 18 17 0, qm 19 18, qg 19 false 20 (.mov (.t 5)), qg 19 false 21 (.bin .neq (.t 20) (.c (.int .i64 2))), qo 22 (.pick (.t 19) (.c (.bool true)) (.t 21)), qm 23 22, qg 23 false 24 (.mov (.t 6)), qg 23 false 25 (.len (.t 24)), qg 23 false 26 (.bin .eql (.t 25) (.c (.int .i64 0))), qo 27 (.pick (.t 23) (.c (.bool true)) (.t 26))])
 (.cond (.t 27)
 (.seq (.region none [
 qo 4 (.mov (.c (.bool false)))])
 .ret)
 .skip))
 (.seq (.seq (.region none [
 qL 2 28 2, qc 29 7 [(.t 28)], qm 30 29, qg 30 false 31 (.mov (.t 1)), qg 30 false 32 (.bin .gtr (.t 31) (.c (.int .i64 60))), qo 33 (.pick (.t 30) (.c (.bool true)) (.t 32))])
 (.cond (.t 33)
 (.seq (.region none [
 qo 4 (.mov (.c (.bool true)))])
 .ret)
 .skip))
 (.seq (.region none [
 qL 2 34 2, qc 35 8 [(.t 34)], qo 8 (.lalloc (.agg [(.int .i64 0), (.int .i64 0)])), qs 2 8 35])
 (.seq (.seq (.region none [
 qf 0 36 8, ql 1 37 36, qB .eql 38 37 0, qm 39 38, qg 39 true 40 (.mov (.t 1)), qg 39 true 41 (.call (.c (.clo 9 [])) [(.t 40), (.c (.int .i64 0)), (.c (.int .i64 2000))]), qg 39 true 42 (.un .not (.t 41)), qo 43 (.pick (.t 39) (.t 42) (.c (.bool false)))])
 (.cond (.t 43)
 (.region none [
 qc 44 10 [(.c (.int .i64 3)), (.c (.int .i64 (-1)))], qs 2 8 44])
 .skip))
 (.seq (.region none [
 qL 2 46 2, qm 47 1, qc 48 5 [(.t 46), (.t 47)], qm 45 48, qe 0 49 45, qe 1 50 45, qe 2 51 45, qm 5 49, qm 6 50, qs 2 7 51])
 (.seq (.seq (.region none [
 qL 2 52 7, qL 2 53 8, qo 54 (.eqs [0, 0] true (.t 52) (.t 53))])
 (.cond (.t 54)
 (.seq (.region none [
 qo 4 (.mov (.c (.bool false)))])
 .ret)
 .skip))
 (.seq (.seq (.region none [
 qf 0 55 8, ql 1 56 55, qB .neq 57 56 0])
 (.cond (.t 57)
 (.seq (.region none [
 qm 58 5, qB .eql 59 58 0, qm 60 59, qg 60 true 61 (.mov (.t 6)), qg 60 true 62 (.len (.t 61)), qg 60 true 63 (.bin .eql (.t 62) (.c (.int .i64 0))), qo 64 (.pick (.t 60) (.t 63) (.c (.bool false))), qm 4 64])
 .ret)
 .skip))
 (.seq (.seq (.region none [
 qf 1 65 2, ql 1 66 65, qn 67 66, qB .eql 68 67 0, qm 69 68, qg 69 true 70 (.mov (.t 5)), qg 69 true 71 (.bin .eql (.t 70) (.c (.int .i64 2))), qo 72 (.pick (.t 69) (.t 71) (.c (.bool false))), qm 73 72, qg 73 false 74 (.mov (.t 5)), qg 73 false 75 (.call (.c (.clo 9 [])) [(.t 74), (.c (.int .i64 1)), (.c (.int .i64 3))]), qg 73 false 76 (.un .not (.t 75)), qo 77 (.pick (.t 73) (.c (.bool true)) (.t 76))])
 (.cond (.t 77)
 (.seq (.region none [
 qo 4 (.mov (.c (.bool false)))])
 .ret)
 .skip))
 (.seq (.seq (.region none [
 qm 78 5, qB .neq 79 78 2])
 (.cond (.t 79)
 (.seq (.region none [
 qm 80 6, qn 81 80, qB .eql 82 81 0, qm 4 82])
 .ret)
 .skip))
 (.seq (.region none [
 qL 2 84 2, qm 85 6, qc 86 11 [(.t 84), (.t 85)], qm 83 86, qe 0 87 83, qe 1 88 83, qm 9 87, qs 2 7 88])
 (.seq (.region none [
 qf 0 89 7, ql 1 90 89, qB .eql 91 90 0, qm 92 91, qg 92 true 93 (.mov (.t 9)), qo 94 (.pick (.t 92) (.t 93) (.c (.bool false))), qm 4 94])
 .ret)))))))))))))
def af3 : AFun := ⟨.pure, 1, 3, body3, [.t 4]⟩

/-- umpirage/umpiragetop.TopFirst -/
def body4 : ACode := (.seq (.region none [
 qo 6 (.mov (.c (.bool false)))])
 (.seq (.region none [
 qm 21 0, qc 22 12 [(.t 21), (.c (.int .i64 3))], qo 7 (.lalloc (.agg [.nilSlice, .nilSlice])), qs 2 7 22])
 (.seq (.region (some [0, 0, 2, 7, 15, 31, 31, 31, 0, 319, 895, 2047]) [
 qL 2 24 7, qm 25 2, qc 26 13 [(.t 25), (.c (.int .i64 200))], qc 27 5 [(.t 24), (.t 26)], qm 23 27, qe 0 28 23, qe 1 29 23, qe 2 30 23, qo 10 (.lalloc (.agg [(.int .i64 0), (.int .i64 0)])), qm 8 28, qm 9 29, qs 2 10 30])
 (.seq (.region (some [0, 0, 2, 6, 15, 31, 63, 63, 63, 0, 0, 1663, 3839, 8191]) [
 qL 2 32 7, qm 33 1, qc 34 13 [(.t 33), (.c (.int .i64 2))], qo 35 (.bin .add (.c (.int .i64 1)) (.t 34)), qc 36 14 [(.t 32), (.t 35), (.c (.int .i64 400))], qm 31 36, qe 0 37 31, qe 1 38 31, qe 2 39 31, qo 12 (.lalloc (.agg [(.int .i64 0), .nilSlice])), qo 13 (.lalloc (.agg [(.int .i64 0), (.int .i64 0)])), qm 11 37, qs 2 12 38, qs 2 13 39])
 (.seq (.region none [
 qo 41 (.bslice false 1 1 [(.int .i64 0)] [(0, 1, (.c (.int .i64 0)))]), qo 42 (.build [.nilSlice] []), qo 43 (.bslice false 1 1 [.nilSlice] [(0, 1, (.t 42))]), qo 44 (.build [.nilSlice, .nilSlice] [(0, 1, (.t 41)), (1, 1, (.t 43))]), qo 45 (.build [(.int .i64 0), (.int .i64 0), (.int .i64 0), (.int .i64 0), (.int .i64 0), (.bool false), .nilSlice, .nilSlice] [(0, 1, (.c (.int .i64 1)))]), qo 46 (.bslice false 8 1 [(.int .i64 0), (.int .i64 0), (.int .i64 0), (.int .i64 0), (.int .i64 0), (.bool false), .nilSlice, .nilSlice] [(0, 8, (.t 45))]), qc 47 11 [(.t 44), (.t 46)], qm 40 47, qe 0 48 40, qe 1 49 40, qo 15 (.lalloc (.agg [(.int .i64 0), (.int .i64 0)])), qm 14 48, qs 2 15 49])
 (.seq (.seq (.region none [
 qf 0 50 10, ql 1 51 50, qB .neq 52 51 0, qm 53 52, qg 53 false 54 (.faddr 0 (.t 13)), qg 53 false 55 (.load 1 false (.t 54)), qg 53 false 56 (.bin .neq (.t 55) (.c (.int .i64 0))), qo 57 (.pick (.t 53) (.c (.bool true)) (.t 56)), qm 58 57, qg 58 false 59 (.faddr 0 (.t 15)), qg 58 false 60 (.load 1 false (.t 59)), qg 58 false 61 (.bin .neq (.t 60) (.c (.int .i64 0))), qo 62 (.pick (.t 58) (.c (.bool true)) (.t 61)), qm 63 62, qg 63 false 64 (.mov (.t 14)), qg 63 false 65 (.un .not (.t 64)), qo 66 (.pick (.t 63) (.c (.bool true)) (.t 65))])
 (.cond (.t 66)
 (.seq (.region none [
 qo 6 (.mov (.c (.bool false)))])
 .ret)
 .skip))
 (.seq (.seq (.region none [
 qm 67 11, qB .eql 68 67 1])
 (.cond (.t 68)
 (.seq (.region none [
 qL 2 70 7, qL 2 71 12, qc 72 15 [(.t 70), (.t 71)], qm 69 72, qe 0 73 69, qe 1 74 69, qo 17 (.lalloc (.agg [(.int .i64 0), (.int .i64 0)])), qm 16 73, qs 2 17 74])
 (.seq (.seq (.region none [
 qf 0 75 17, ql 1 76 75, qB .neq 77 76 0, qm 78 77, qg 78 false 79 (.mov (.t 16)), qg 78 false 80 (.len (.t 79)), qg 78 false 81 (.faddr 1 (.t 7)), qg 78 false 82 (.load 1 false (.t 81)), qg 78 false 83 (.len (.t 82)), qg 78 false 84 (.bin .neq (.t 80) (.t 83)), qo 85 (.pick (.t 78) (.c (.bool true)) (.t 84)), qm 86 85, qg 86 false 87 (.mov (.t 8)), qg 86 false 88 (.bin .eql (.t 87) (.c (.int .i64 2))), qo 89 (.pick (.t 86) (.c (.bool true)) (.t 88))])
 (.cond (.t 89)
 (.seq (.region none [
 qo 6 (.mov (.c (.bool false)))])
 .ret)
 .skip))
 (.seq (.region none [
 qk 18 0])
 (.block 0
 (.loop (.seq (.seq (.region none [
 qm 90 18, qm 91 16, qn 92 91, qb .lss 93 90 92])
 (.cond (.t 93)
 .skip
 (.exit 0)))
 (.seq (.block 1
 (.seq (.region none [
 qm 96 16, qm 97 18, qi 1 98 96 97, ql 1 99 98, qo 100 (.un .not (.t 99))])
 (.cond (.t 100)
 (.seq (.region none [
 qo 6 (.mov (.c (.bool false)))])
 .ret)
 .skip)))
 (.region none [
 qm 94 18, qB .add 95 94 1, qm 18 95]))))))))
 .skip))
 (.seq (.seq (.region none [
 qm 101 8, qB .neq 102 101 2])
 (.cond (.t 102)
 (.seq (.region none [
 qm 103 9, qn 104 103, qB .eql 105 104 0, qm 6 105])
 .ret)
 .skip))
 (.seq (.region none [
 qL 2 107 7, qm 108 9, qc 109 11 [(.t 107), (.t 108)], qm 106 109, qe 0 110 106, qe 1 111 106, qo 20 (.lalloc (.agg [(.int .i64 0), (.int .i64 0)])), qm 19 110, qs 2 20 111])
 (.seq (.region none [
 qf 0 112 20, ql 1 113 112, qB .eql 114 113 0, qm 115 114, qg 115 true 116 (.mov (.t 19)), qo 117 (.pick (.t 115) (.t 116) (.c (.bool false))), qm 6 117])
 .ret))))))))))
def af4 : AFun := ⟨.pure, 1, 4, body4, [.t 6]⟩

/-- umpirage/super.Do -/
def body5 : ACode := (.seq (.region none [
 qx 2 0, qk 4 0, qo 5 (.mov (.c .nilSlice)), qo 6 (.lalloc (.agg [(.int .i64 0), (.int .i64 0)]))])
 (.seq (.seq (.region none [
 qL 2 16 2, qc 17 16 [(.t 16)], qo 7 (.lalloc (.agg [(.int .i64 0), (.int .i64 0)])), qs 2 7 17])
 (.seq (.region none [
 qL 2 18 7, qo 19 (.build [(.int .i64 0), (.int .i64 0)] []), qo 20 (.eqs [0, 0] true (.t 18) (.t 19))])
 (.cond (.t 20)
 (.seq (.region (some [0, 0, 2, 7]) [
 qL 2 21 7, qk 4 0, qo 5 (.mov (.c .nilSlice)), qs 2 6 21])
 .ret)
 .skip)))
 (.seq (.seq (.region none [
 qm 22 1, qc 23 17 [(.t 22), (.c (.int .i64 0)), (.c (.int .i64 2000))], qo 24 (.un .not (.t 23))])
 (.cond (.t 24)
 (.seq (.region none [
 qc 25 18 [(.c (.int .i64 3)), (.c (.int .i64 (-1)))], qk 4 0, qo 5 (.mov (.c .nilSlice)), qs 2 6 25])
 .ret)
 .skip))
 (.seq (.region none [
 qL 2 26 2, qo 27 (.build [.nilSlice, .nilSlice, .nilSlice, .nilSlice, .nilSlice, .nilSlice, (.bool false)] [(0, 2, (.t 26))]), qo 28 (.hbox (.t 27)), qm 8 28])
 (.seq (.seq (.region none [
 qf 1 29 2, ql 1 30 29, qn 31 30, qk 32 0])
 (.block 0
 (.loop (.seq (.region none [
 qb .lss 33 32 31])
 (.seq (.cond (.t 33)
 .skip
 (.exit 0))
 (.seq (.block 1
 (.seq (.region none [
 qm 34 32, qm 9 34])
 (.seq (.region none [
 qm 36 8, qm 37 9, qo 38 (.build [(.int .i64 0), (.int .i64 0), (.int .i64 0), (.int .i64 0), (.int .i64 0), (.bool false), .nilSlice, .nilSlice] [(0, 1, (.c (.int .i64 1))), (1, 1, (.t 37))]), qc 39 19 [(.t 36), (.t 38)], qm 35 39, qe 0 40 35, qe 1 41 35, qm 10 40, qm 11 41])
 (.seq (.region none [
 qm 42 11, qm 43 42, qg 43 true 44 (.mov (.t 8)), qg 43 true 45 (.mov (.t 10)), qg 43 true 46 (.call (.c (.clo 20 [])) [(.t 44), (.t 45)]), qo 47 (.pick (.t 43) (.t 46) (.c (.bool false)))])
 (.cond (.t 47)
 (.seq (.region (some [0, 1, 3, 7, 0, 0, 47, 127]) [
 qm 48 8, qo 49 (.ncheck (.t 48)), qf 2 50 49, ql 1 51 50, qo 52 (.build [(.int .i64 0), (.int .i64 0)] []), qk 4 2, qm 5 51, qs 2 6 52])
 .ret)
 .skip)))))
 (.region none [
 qB .add 53 32 1, qm 32 53])))))))
 (.seq (.block 2
 (.loop (.seq (.seq (.region none [
 qm 54 1, qB .gtr 55 54 0, qm 56 55, qg 56 true 57 (.mov (.t 8)), qg 56 true 58 (.ncheck (.t 57)), qg 56 true 59 (.faddr 4 (.t 58)), qg 56 true 60 (.load 1 false (.t 59)), qg 56 true 61 (.len (.t 60)), qg 56 true 62 (.bin .gtr (.t 61) (.c (.int .i64 0))), qo 63 (.pick (.t 56) (.t 62) (.c (.bool false)))])
 (.cond (.t 63)
 .skip
 (.exit 2)))
 (.seq (.block 3
 (.seq (.region none [
 qk 12 0])
 (.seq (.seq (.region none [
 qm 66 8, qo 67 (.ncheck (.t 66)), qf 4 68 67, ql 1 69 68, qn 70 69, qk 71 0])
 (.block 4
 (.loop (.seq (.region none [
 qb .lss 72 71 70])
 (.seq (.cond (.t 72)
 .skip
 (.exit 4))
 (.seq (.block 5
 (.seq (.region none [
 qm 73 71, qi 1 74 69 71, ql 1 75 74, qm 13 73, qm 14 75])
 (.seq (.region (some [0, 1, 3, 7, 0, 31, 63, 127, 0, 256, 768, 1792, 0, 4096, 12288, 28672, 0, 126976, 258048, 524032, 1048320, 2097151, 4194303]) [
 qm 76 8, qo 77 (.ncheck (.t 76)), qf 3 78 77, ql 1 79 78, qm 80 14, qi 1 81 79 80, qL 1 82 81, qc 83 21 [(.t 82)], qm 84 8, qo 85 (.ncheck (.t 84)), qf 3 86 85, ql 1 87 86, qm 88 8, qo 89 (.ncheck (.t 88)), qf 4 90 89, ql 1 91 90, qm 92 12, qi 1 93 91 92, ql 1 94 93, qi 1 95 87 94, qL 1 96 95, qc 97 21 [(.t 96)], qb .lss 98 83 97])
 (.cond (.t 98)
 (.region none [
 qm 99 13, qm 12 99])
 .skip))))
 (.region none [
 qB .add 100 71 1, qm 71 100])))))))
 (.seq (.region none [
 qm 101 8, qo 102 (.ncheck (.t 101)), qf 4 103 102, ql 1 104 103, qm 105 12, qi 1 106 104 105, ql 1 107 106, qm 15 107])
 (.seq (.region none [
 qm 108 8, qm 109 8, qo 110 (.ncheck (.t 109)), qf 4 111 110, ql 1 112 111, qm 113 12, qm 114 12, qB .add 115 114 1, qc 116 22 [(.t 112), (.t 113), (.t 115)], qo 117 (.ncheck (.t 108)), qf 4 118 117, qs 1 118 116])
 (.seq (.region none [
 qm 119 8, qm 120 15, qc 121 23 [(.t 119), (.t 120)]])
 (.cond (.t 121)
 (.seq (.region (some [0, 1, 3, 7, 0, 0, 47, 127]) [
 qm 122 8, qo 123 (.ncheck (.t 122)), qf 2 124 123, ql 1 125 124, qo 126 (.build [(.int .i64 0), (.int .i64 0)] []), qk 4 2, qm 5 125, qs 2 6 126])
 .ret)
 .skip)))))))
 (.region none [
 qm 64 1, qB .sub 65 64 1, qm 1 65])))))
 (.seq (.seq (.region none [
 qm 127 8, qo 128 (.ncheck (.t 127)), qf 4 129 128, ql 1 130 129, qn 131 130, qB .gtr 132 131 0, qm 133 132, qg 133 false 134 (.mov (.t 8)), qg 133 false 135 (.ncheck (.t 134)), qg 133 false 136 (.faddr 6 (.t 135)), qg 133 false 137 (.load 1 false (.t 136)), qo 138 (.pick (.t 133) (.c (.bool true)) (.t 137))])
 (.cond (.t 138)
 (.seq (.region none [
 qo 139 (.build [(.int .i64 0), (.int .i64 0)] []), qk 4 3, qo 5 (.mov (.c .nilSlice)), qs 2 6 139])
 .ret)
 .skip))
 (.seq (.region none [
 qo 140 (.build [(.int .i64 0), (.int .i64 0)] []), qk 4 1, qo 5 (.mov (.c .nilSlice)), qs 2 6 140])
 .ret))))))))
def af5 : AFun := ⟨.pure, 1, 5, body5, [.t 4, .t 5, .cell 6 2 true]⟩

/-- umpirage/umpiragelaw7.apart -/
def body6 : ACode := (.seq (.region none [
 qo 0 (.lalloc (.agg [.nilSlice, .nilSlice]))])
 (.seq (.region none [
 qo 1 (.bslice false 1 1 [(.int .i64 0)] [(0, 1, (.c (.int .i64 0)))]), qc 2 24 [(.c (.int .i64 1))], qc 3 24 [(.c (.int .i64 1))], qo 4 (.build [(.bool false), (.int .i64 0), .nilSlice, (.int .i64 0), .nilSlice] [(0, 1, (.c (.bool true))), (1, 2, (.t 2)), (3, 2, (.t 3))]), qo 5 (.bslice false 5 1 [(.bool false), (.int .i64 0), .nilSlice, (.int .i64 0), .nilSlice] [(0, 5, (.t 4))]), qo 6 (.build [.nilSlice] [(0, 1, (.t 5))]), qo 7 (.bslice false 1 1 [.nilSlice] [(0, 1, (.t 6))]), qo 8 (.build [.nilSlice, .nilSlice] [(0, 1, (.t 1)), (1, 1, (.t 7))]), qs 2 0 8])
 .ret))
def af6 : AFun := ⟨.pure, 1, 6, body6, [.cell 0 2 true]⟩

/-- umpirage/umpiragelaw7.vastLore -/
def body7 : ACode := (.seq (.region none [
 qx 1 0, qo 2 (.mov (.c (.bool false)))])
 (.seq (.seq (.region none [
 qf 1 6 1, ql 1 7 6, qn 8 7, qB .gtr 9 8 80, qm 10 9, qg 10 false 11 (.faddr 0 (.t 1)), qg 10 false 12 (.load 1 false (.t 11)), qg 10 false 13 (.len (.t 12)), qg 10 false 14 (.bin .gtr (.t 13) (.c (.int .i64 40))), qo 15 (.pick (.t 10) (.c (.bool true)) (.t 14))])
 (.cond (.t 15)
 (.seq (.region none [
 qo 2 (.mov (.c (.bool true)))])
 .ret)
 .skip))
 (.seq (.seq (.region none [
 qk 3 0])
 (.block 0
 (.loop (.seq (.seq (.region none [
 qm 16 3, qf 1 17 1, ql 1 18 17, qn 19 18, qb .lss 20 16 19])
 (.cond (.t 20)
 .skip
 (.exit 0)))
 (.seq (.block 1
 (.seq (.region none [
 qf 1 23 1, ql 1 24 23, qm 25 3, qi 1 26 24 25, qL 1 27 26, qc 28 25 [(.t 27)], qm 4 28])
 (.seq (.seq (.region none [
 qm 29 4, qn 30 29, qB .gtr 31 30 40])
 (.cond (.t 31)
 (.seq (.region none [
 qo 2 (.mov (.c (.bool true)))])
 .ret)
 .skip))
 (.seq (.region none [
 qk 5 0])
 (.block 2
 (.loop (.seq (.seq (.region none [
 qm 32 5, qm 33 4, qn 34 33, qb .lss 35 32 34])
 (.cond (.t 35)
 .skip
 (.exit 2)))
 (.seq (.block 3
 (.seq (.region none [
 qm 38 4, qm 39 5, qi 2 40 38 39, qL 2 41 40, qc 42 26 [(.t 41)]])
 (.cond (.t 42)
 (.seq (.region none [
 qo 2 (.mov (.c (.bool true)))])
 .ret)
 .skip)))
 (.region none [
 qm 36 5, qB .add 37 36 1, qm 5 37])))))))))
 (.region none [
 qm 21 3, qB .add 22 21 1, qm 3 22]))))))
 (.seq (.region none [
 qo 2 (.mov (.c (.bool false)))])
 .ret))))
def af7 : AFun := ⟨.pure, 1, 7, body7, [.t 2]⟩

/-- umpirage/umpirageref7.Lore -/
def body8 : ACode := (.seq (.region none [
 qx 1 0, qo 2 (.lalloc (.agg [(.int .i64 0), (.int .i64 0)]))])
 (.seq (.seq (.region none [
 qf 0 6 1, ql 1 7 6, qn 8 7, qB .gtr 9 8 12, qm 10 9, qg 10 false 11 (.faddr 1 (.t 1)), qg 10 false 12 (.load 1 false (.t 11)), qg 10 false 13 (.len (.t 12)), qg 10 false 14 (.bin .gtr (.t 13) (.c (.int .i64 60))), qo 15 (.pick (.t 10) (.c (.bool true)) (.t 14))])
 (.cond (.t 15)
 (.seq (.region none [
 qc 16 27 [(.c (.int .i64 2)), (.c (.int .i64 0))], qs 2 2 16])
 .ret)
 .skip))
 (.seq (.seq (.region none [
 qk 3 0])
 (.block 0
 (.loop (.seq (.seq (.region none [
 qm 17 3, qf 0 18 1, ql 1 19 18, qn 20 19, qb .lss 21 17 20])
 (.cond (.t 21)
 .skip
 (.exit 0)))
 (.seq (.block 1
 (.seq (.region none [
 qf 0 24 1, ql 1 25 24, qm 26 3, qi 1 27 25 26, ql 1 28 27, qc 29 28 [(.t 28), (.c (.int .i64 0)), (.c (.int .i64 3))], qo 30 (.un .not (.t 29))])
 (.cond (.t 30)
 (.seq (.region none [
 qm 31 3, qc 32 27 [(.c (.int .i64 3)), (.t 31)], qs 2 2 32])
 .ret)
 .skip)))
 (.region none [
 qm 22 3, qB .add 23 22 1, qm 3 23]))))))
 (.seq (.seq (.region none [
 qk 4 0])
 (.block 2
 (.loop (.seq (.seq (.region none [
 qm 33 4, qf 1 34 1, ql 1 35 34, qn 36 35, qb .lss 37 33 36])
 (.cond (.t 37)
 .skip
 (.exit 2)))
 (.seq (.block 3
 (.seq (.region (some [0, 1, 0, 7, 15, 0, 32, 127, 255]) [
 qf 1 40 1, ql 1 41 40, qm 42 4, qi 1 43 41 42, qL 1 44 43, qf 0 45 1, ql 1 46 45, qc 47 29 [(.t 44), (.t 46)], qm 5 47])
 (.seq (.region none [
 qm 48 5, qB .neq 49 48 0])
 (.cond (.t 49)
 (.seq (.region none [
 qm 50 5, qm 51 4, qc 52 27 [(.t 50), (.t 51)], qs 2 2 52])
 .ret)
 .skip))))
 (.region none [
 qm 38 4, qB .add 39 38 1, qm 4 39]))))))
 (.seq (.region none [
 qo 53 (.build [(.int .i64 0), (.int .i64 0)] []), qs 2 2 53])
 .ret)))))
def af8 : AFun := ⟨.pure, 1, 8, body8, [.cell 2 2 true]⟩

/-- umpirage/umpiragelaw7.in -/
def body9 : ACode := (.seq (.region none [
 qo 6 (.mov (.c (.bool false)))])
 (.seq (.region none [
 qm 7 0, qm 8 1, qb .geq 9 7 8, qm 10 9, qg 10 true 11 (.mov (.t 0)), qg 10 true 12 (.mov (.t 2)), qg 10 true 13 (.bin .leq (.t 11) (.t 12)), qo 14 (.pick (.t 10) (.t 13) (.c (.bool false))), qm 6 14])
 .ret))
def af9 : AFun := ⟨.pure, 1, 9, body9, [.t 6]⟩

/-- umpirage/umpiragelaw7.fault -/
def body10 : ACode := (.seq (.region none [
 qo 4 (.lalloc (.agg [(.int .i64 0), (.int .i64 0)]))])
 (.seq (.region none [
 qm 5 0, qm 6 1, qo 7 (.build [(.int .i64 0), (.int .i64 0)] [(0, 1, (.t 5)), (1, 1, (.t 6))]), qs 2 4 7])
 .ret))
def af10 : AFun := ⟨.pure, 1, 10, body10, [.cell 4 2 true]⟩

/-- umpirage/trace.Ends -/
def body11 : ACode := (.seq (.region none [
 qx 2 0, qo 4 (.mov (.c (.bool false))), qo 5 (.lalloc (.agg [(.int .i64 0), (.int .i64 0)]))])
 (.seq (.region none [
 qL 2 9 2, qm 10 1, qc 11 30 [(.t 9), (.t 10)], qm 8 11, qe 0 12 8, qe 1 13 8, qo 7 (.lalloc (.agg [(.int .i64 0), (.int .i64 0)])), qm 6 12, qs 2 7 13])
 (.seq (.seq (.region none [
 qL 2 14 7, qo 15 (.build [(.int .i64 0), (.int .i64 0)] []), qo 16 (.eqs [0, 0] true (.t 14) (.t 15))])
 (.cond (.t 16)
 (.seq (.region (some [0, 0, 3]) [
 qL 2 17 7, qo 4 (.mov (.c (.bool false))), qs 2 5 17])
 .ret)
 .skip))
 (.seq (.region none [
 qm 18 6, qn 19 18, qB .gtr 20 19 0, qm 21 20, qg 21 true 22 (.mov (.t 6)), qg 21 true 23 (.mov (.t 6)), qg 21 true 24 (.len (.t 23)), qg 21 true 25 (.bin .sub (.t 24) (.c (.int .i64 1))), qg 21 true 26 (.iaddr 1 (.t 22) (.t 25)), qg 21 true 27 (.faddr 0 (.t 26)), qg 21 true 28 (.load 1 false (.t 27)), qg 21 true 29 (.len (.t 28)), qg 21 true 30 (.bin .eql (.t 29) (.c (.int .i64 0))), qo 31 (.pick (.t 21) (.t 30) (.c (.bool false))), qo 32 (.build [(.int .i64 0), (.int .i64 0)] []), qm 4 31, qs 2 5 32])
 .ret))))
def af11 : AFun := ⟨.pure, 1, 11, body11, [.t 4, .cell 5 2 true]⟩

/-- umpirage/umpiragetop.loreOf -/
def body12 : ACode := (.seq (.region none [
 qo 4 (.lalloc (.agg [.nilSlice, .nilSlice]))])
 (.seq (.region none [
 qo 10 (.bslice false 1 3 [(.int .i64 0), (.int .i64 0), (.int .i64 0)] [(0, 1, (.c (.int .i64 0))), (1, 1, (.c (.int .i64 1))), (2, 1, (.c (.int .i64 2)))]), qo 11 (.build [.nilSlice, .nilSlice] [(0, 1, (.t 10))]), qo 5 (.lalloc (.agg [.nilSlice, .nilSlice])), qs 2 5 11])
 (.seq (.block 0
 (.loop (.seq (.seq (.region none [
 qm 12 0, qn 13 12, qB .gtr 14 13 0, qm 15 14, qg 15 true 16 (.faddr 1 (.t 5)), qg 15 true 17 (.load 1 false (.t 16)), qg 15 true 18 (.len (.t 17)), qg 15 true 19 (.mov (.t 1)), qg 15 true 20 (.bin .lss (.t 18) (.t 19)), qo 21 (.pick (.t 15) (.t 20) (.c (.bool false)))])
 (.cond (.t 21)
 .skip
 (.exit 0)))
 (.block 1
 (.seq (.region none [
 qm 22 0, qo 23 (.iaddr 1 (.t 22) (.c (.int .i64 0))), ql 1 24 23, qm 6 24])
 (.seq (.region none [
 qm 25 0, qo 26 (.slice 1 (.t 25) (some (.c (.int .i64 1))) none), qm 0 26])
 (.seq (.region none [
 qo 7 (.lalloc (.agg [.nilSlice]))])
 (.seq (.seq (.region none [
 qk 8 0])
 (.block 2
 (.loop (.seq (.seq (.region none [
 qm 27 8, qm 28 6, qc 29 13 [(.t 28), (.c (.int .i64 2))], qb .leq 30 27 29])
 (.cond (.t 30)
 .skip
 (.exit 2)))
 (.seq (.block 3
 (.seq (.region none [
 qm 33 6, qB .quo 34 33 2, qm 35 8, qb .add 36 34 35, qc 37 13 [(.t 36), (.c (.int .i64 3))], qB .eql 38 37 0, qo 39 (.build [(.bool false), (.int .i64 0), .nilSlice, (.int .i64 0), .nilSlice] [(0, 1, (.t 38))]), qo 9 (.lalloc (.agg [(.bool false), (.int .i64 0), .nilSlice, (.int .i64 0), .nilSlice])), qs 5 9 39])
 (.seq (.region none [
 qm 41 0, qc 42 31 [(.t 41), (.c (.int .i64 2)), (.c (.int .i64 2))], qm 40 42, qe 0 43 40, qe 1 44 40, qf 1 45 9, qs 2 45 43, qm 0 44])
 (.seq (.region none [
 qm 47 0, qc 48 31 [(.t 47), (.c (.int .i64 2)), (.c (.int .i64 2))], qm 46 48, qe 0 49 46, qe 1 50 46, qf 3 51 9, qs 2 51 49, qm 0 50])
 (.region none [
 qf 0 52 7, ql 1 53 52, qL 5 54 9, qo 55 (.bslice false 5 1 [(.bool false), (.int .i64 0), .nilSlice, (.int .i64 0), .nilSlice] [(0, 5, (.t 54))]), qo 56 (.append false 5 72 (.t 53) (.t 55)), qf 0 57 7, qs 1 57 56])))))
 (.region none [
 qm 31 8, qB .add 32 31 1, qm 8 32]))))))
 (.region none [
 ⟨some 58, .faddr 1 (.t 5), none, [(true, 7)]⟩, ql 1 59 58, qL 1 60 7, qo 61 (.bslice false 1 1 [.nilSlice] [(0, 1, (.t 60))]), qo 62 (.append false 1 24 (.t 59) (.t 61)), qf 1 63 5, qs 1 63 62])))))))))
 (.seq (.region none [
 qL 2 64 5, qs 2 4 64])
 .ret))))
def af12 : AFun := ⟨.pure, 1, 12, body12, [.cell 4 2 true]⟩

/-- umpirage/umpiragekit.Picked -/
def body13 : ACode := (.seq (.region none [
 qk 4 0])
 (.seq (.region none [
 qm 5 0, qm 6 1, qb .rem 7 5 6, qm 0 7])
 (.seq (.seq (.region none [
 qm 8 0, qB .lss 9 8 0])
 (.cond (.t 9)
 (.seq (.region none [
 qm 10 0, qm 11 1, qb .add 12 10 11, qm 4 12])
 .ret)
 .skip))
 (.seq (.region none [
 qm 13 0, qm 4 13])
 .ret))))
def af13 : AFun := ⟨.pure, 1, 13, body13, [.t 4]⟩

/-- umpirage/find.Do -/
def body14 : ACode := (.seq (.region none [
 qx 3 0, qk 6 0, qo 7 (.lalloc (.agg [(.int .i64 0), .nilSlice])), qo 8 (.lalloc (.agg [(.int .i64 0), (.int .i64 0)]))])
 (.seq (.seq (.region none [
 qL 2 20 3, qc 21 16 [(.t 20)], qo 9 (.lalloc (.agg [(.int .i64 0), (.int .i64 0)])), qs 2 9 21])
 (.seq (.region none [
 qL 2 22 9, qo 23 (.build [(.int .i64 0), (.int .i64 0)] []), qo 24 (.eqs [0, 0] true (.t 22) (.t 23))])
 (.cond (.t 24)
 (.seq (.region (some [0, 0, 0, 5, 15]) [
 qo 25 (.build [(.int .i64 0), .nilSlice] []), qL 2 26 9, qk 6 0, qs 2 7 25, qs 2 8 26])
 .ret)
 .skip)))
 (.seq (.seq (.region none [
 qm 27 1, qc 28 17 [(.t 27), (.c (.int .i64 1)), (.c (.int .i64 4))], qo 29 (.un .not (.t 28)), qm 30 29, qg 30 false 31 (.mov (.t 2)), qg 30 false 32 (.call (.c (.clo 17 [])) [(.t 31), (.c (.int .i64 0)), (.c (.int .i64 2000))]), qg 30 false 33 (.un .not (.t 32)), qo 34 (.pick (.t 30) (.c (.bool true)) (.t 33))])
 (.cond (.t 34)
 (.seq (.region none [
 qo 35 (.build [(.int .i64 0), .nilSlice] []), qc 36 18 [(.c (.int .i64 3)), (.c (.int .i64 (-1)))], qk 6 0, qs 2 7 35, qs 2 8 36])
 .ret)
 .skip))
 (.seq (.region none [
 qL 2 37 3, qm 38 1, qo 39 (.build [(.int .i64 0), .nilSlice] [(0, 1, (.t 38))]), qm 40 2, qo 41 (.build [.nilSlice, .nilSlice, (.int .i64 0), .nilSlice, (.int .i64 0)] [(0, 2, (.t 37)), (2, 2, (.t 39)), (4, 1, (.t 40))]), qo 42 (.hbox (.t 41)), qm 10 42])
 (.seq (.seq (.region none [
 qf 1 43 3, ql 1 44 43, qn 45 44, qk 46 0])
 (.block 0
 (.loop (.seq (.region none [
 qb .lss 47 46 45])
 (.seq (.cond (.t 47)
 .skip
 (.exit 0))
 (.seq (.block 1
 (.seq (.region none [
 qm 48 46, qi 1 49 44 46, qL 1 50 49, qo 12 (.lalloc (.agg [.nilSlice])), qm 11 48, qs 1 12 50])
 (.seq (.region none [
 qk 13 1])
 (.seq (.seq (.region none [
 qL 1 51 12, qc 52 32 [(.t 51)], qk 53 0])
 (.block 2
 (.loop (.seq (.region none [
 qb .lss 54 53 52])
 (.seq (.cond (.t 54)
 .skip
 (.exit 2))
 (.seq (.block 3
 (.region none [
 qm 55 13, qm 56 1, qb .mul 57 55 56, qm 13 57]))
 (.region none [
 qB .add 58 53 1, qm 53 58])))))))
 (.seq (.region none [
 qm 59 13, qB .gtr 60 59 4096])
 (.cond (.t 60)
 (.seq (.region none [
 qo 61 (.build [(.int .i64 0), .nilSlice] []), qm 62 11, qc 63 18 [(.c (.int .i64 10)), (.t 62)], qk 6 0, qs 2 7 61, qs 2 8 63])
 .ret)
 .skip))))))
 (.region none [
 qB .add 64 46 1, qm 46 64])))))))
 (.seq (.seq (.region none [
 qf 0 65 3, ql 1 66 65, qn 67 66, qk 68 0])
 (.block 4
 (.loop (.seq (.region none [
 qb .lss 69 68 67])
 (.seq (.cond (.t 69)
 .skip
 (.exit 4))
 (.seq (.block 5
 (.seq (.region none [
 qi 1 70 66 68, ql 1 71 70, qm 15 71])
 (.seq (.region none [
 qk 16 1])
 (.seq (.seq (.region none [
 qm 72 15, qk 73 0])
 (.block 6
 (.loop (.seq (.region none [
 qb .lss 74 73 72])
 (.seq (.cond (.t 74)
 .skip
 (.exit 6))
 (.seq (.block 7
 (.region none [
 qm 75 16, qm 76 1, qb .mul 77 75 76, qm 16 77]))
 (.region none [
 qB .add 78 73 1, qm 73 78])))))))
 (.seq (.region none [
 qm 79 16, qo 80 (.mkslice 1 8 (.int .i64 0) (.t 79) (.t 79)), qm 17 80])
 (.seq (.seq (.region none [
 qm 81 17, qn 82 81, qk 83 0])
 (.block 8
 (.loop (.seq (.region none [
 qb .lss 84 83 82])
 (.seq (.cond (.t 84)
 .skip
 (.exit 8))
 (.seq (.block 9
 (.seq (.region none [
 qm 85 83, qm 18 85])
 (.region none [
 qm 86 17, qm 87 18, qi 1 88 86 87, ⟨none, .store 1 (.t 88) (.c (.int .i64 (-1))), none, []⟩])))
 (.region none [
 qB .add 89 83 1, qm 83 89])))))))
 (.region none [
 qm 90 10, qm 91 10, qo 92 (.ncheck (.t 91)), qf 2 93 92, qf 1 94 93, ql 1 95 94, qm 96 17, qo 97 (.bslice true 1 1 [.nilSlice] [(0, 1, (.t 96))]), qo 98 (.append false 1 24 (.t 95) (.t 97)), qo 99 (.ncheck (.t 90)), qf 2 100 99, qf 1 101 100, qs 1 101 98])))))))
 (.region none [
 qB .add 102 68 1, qm 68 102])))))))
 (.seq (.seq (.region none [
 qm 103 10, qc 104 33 [(.t 103)], qo 105 (.un .not (.t 104))])
 (.cond (.t 105)
 (.seq (.region none [
 qo 106 (.build [(.int .i64 0), .nilSlice] []), qo 107 (.build [(.int .i64 0), (.int .i64 0)] []), qk 6 2, qs 2 7 106, qs 2 8 107])
 .ret)
 .skip))
 (.seq (.region none [
 qm 108 10, qc 109 34 [(.t 108), (.c (.int .i64 0)), (.c (.int .i64 0))], qm 19 109])
 (.seq (.seq (.region none [
 qm 110 19, qB .neq 111 110 1])
 (.cond (.t 111)
 (.seq (.region none [
 qm 112 19, qo 113 (.build [(.int .i64 0), .nilSlice] []), qo 114 (.build [(.int .i64 0), (.int .i64 0)] []), qm 6 112, qs 2 7 113, qs 2 8 114])
 .ret)
 .skip))
 (.seq (.region (some [0, 1, 3, 7, 0, 0, 47, 127]) [
 qm 115 10, qo 116 (.ncheck (.t 115)), qf 2 117 116, qL 2 118 117, qo 119 (.build [(.int .i64 0), (.int .i64 0)] []), qk 6 1, qs 2 7 118, qs 2 8 119])
 .ret))))))))))
def af14 : AFun := ⟨.pure, 2, 14, body14, [.t 6, .cell 7 2 true, .cell 8 2 true]⟩

/-- umpirage/table.Holds -/
def body15 : ACode := (.seq (.region none [
 qx 2 0, qx 3 1, qo 4 (.mov (.c .nilSlice)), qo 5 (.lalloc (.agg [(.int .i64 0), (.int .i64 0)]))])
 (.seq (.seq (.region none [
 qL 2 10 2, qL 2 11 3, qc 12 35 [(.t 10), (.t 11)], qo 6 (.lalloc (.agg [(.int .i64 0), (.int .i64 0)])), qs 2 6 12])
 (.seq (.region none [
 qL 2 13 6, qo 14 (.build [(.int .i64 0), (.int .i64 0)] []), qo 15 (.eqs [0, 0] true (.t 13) (.t 14))])
 (.cond (.t 15)
 (.seq (.region (some [0, 0, 3]) [
 qL 2 16 6, qo 4 (.mov (.c .nilSlice)), qs 2 5 16])
 .ret)
 .skip)))
 (.seq (.region none [
 qo 7 (.mov (.c .nilSlice))])
 (.seq (.seq (.region none [
 qf 1 17 2, ql 1 18 17, qn 19 18, qk 20 0])
 (.block 0
 (.loop (.seq (.region none [
 qb .lss 21 20 19])
 (.seq (.cond (.t 21)
 .skip
 (.exit 0))
 (.seq (.block 1
 (.seq (.region none [
 qm 22 20, qi 1 23 18 20, qL 1 24 23, qo 9 (.lalloc (.agg [.nilSlice])), qm 8 22, qs 1 9 24])
 (.seq (.seq (.region (some [0, 1, 0, 4, 15, 31]) [
 qf 0 25 3, ql 1 26 25, qL 1 27 9, qc 28 32 [(.t 27)], qc 29 36 [(.t 26), (.t 28)], qB .gtr 30 29 4096])
 (.cond (.t 30)
 (.seq (.region none [
 qm 31 8, qc 32 18 [(.c (.int .i64 10)), (.t 31)], qo 4 (.mov (.c .nilSlice)), qs 2 5 32])
 .ret)
 .skip))
 (.region none [
 qm 33 7, qL 2 34 3, qL 1 35 9, qc 36 37 [(.t 34), (.t 35)], qo 37 (.bslice false 1 1 [(.bool false)] [(0, 1, (.t 36))]), qo 38 (.append false 1 1 (.t 33) (.t 37)), qm 7 38]))))
 (.region none [
 qB .add 39 20 1, qm 20 39])))))))
 (.seq (.region none [
 qm 40 7, qo 41 (.build [(.int .i64 0), (.int .i64 0)] []), qm 4 40, qs 2 5 41])
 .ret)))))
def af15 : AFun := ⟨.pure, 1, 15, body15, [.t 4, .cell 5 2 true]⟩

/-- umpirage/claim.Check -/
def body16 : ACode := (.seq (.region none [
 qx 1 0, qo 2 (.lalloc (.agg [(.int .i64 0), (.int .i64 0)]))])
 (.seq (.seq (.region none [
 qf 0 13 1, ql 1 14 13, qn 15 14, qB .gtr 16 15 12, qm 17 16, qg 17 false 18 (.faddr 1 (.t 1)), qg 17 false 19 (.load 1 false (.t 18)), qg 17 false 20 (.len (.t 19)), qg 17 false 21 (.bin .gtr (.t 20) (.c (.int .i64 60))), qo 22 (.pick (.t 17) (.c (.bool true)) (.t 21))])
 (.cond (.t 22)
 (.seq (.region none [
 qc 23 18 [(.c (.int .i64 2)), (.c (.int .i64 0))], qs 2 2 23])
 .ret)
 .skip))
 (.seq (.seq (.region none [
 qf 0 24 1, ql 1 25 24, qn 26 25, qk 27 0])
 (.block 0
 (.loop (.seq (.region none [
 qb .lss 28 27 26])
 (.seq (.cond (.t 28)
 .skip
 (.exit 0))
 (.seq (.block 1
 (.seq (.region none [
 qm 29 27, qi 1 30 25 27, ql 1 31 30, qm 3 29, qm 4 31])
 (.seq (.region none [
 qm 32 4, qc 33 17 [(.t 32), (.c (.int .i64 0)), (.c (.int .i64 3))], qo 34 (.un .not (.t 33))])
 (.cond (.t 34)
 (.seq (.region none [
 qm 35 3, qc 36 18 [(.c (.int .i64 3)), (.t 35)], qs 2 2 36])
 .ret)
 .skip))))
 (.region none [
 qB .add 37 27 1, qm 27 37])))))))
 (.seq (.seq (.region none [
 qf 1 38 1, ql 1 39 38, qn 40 39, qk 41 0])
 (.block 2
 (.loop (.seq (.region none [
 qb .lss 42 41 40])
 (.seq (.cond (.t 42)
 .skip
 (.exit 2))
 (.seq (.block 3
 (.seq (.region none [
 qm 43 41, qi 1 44 39 41, qL 1 45 44, qo 6 (.lalloc (.agg [.nilSlice])), qm 5 43, qs 1 6 45])
 (.seq (.seq (.region none [
 qf 0 46 6, ql 1 47 46, qn 48 47, qB .gtr 49 48 6])
 (.cond (.t 49)
 (.seq (.region none [
 qm 50 5, qc 51 18 [(.c (.int .i64 2)), (.t 50)], qs 2 2 51])
 .ret)
 .skip))
 (.seq (.region none [
 qf 0 52 6, ql 1 53 52, qn 54 53, qk 55 0])
 (.block 4
 (.loop (.seq (.region none [
 qb .lss 56 55 54])
 (.seq (.cond (.t 56)
 .skip
 (.exit 4))
 (.seq (.block 5
 (.seq (.region none [
 qi 5 57 53 55, qL 5 58 57, qo 8 (.lalloc (.agg [(.bool false), (.int .i64 0), .nilSlice, (.int .i64 0), .nilSlice])), qs 5 8 58])
 (.seq (.region none [
 qf 1 59 8, qL 2 60 59, qf 3 61 8, qL 2 62 61, qo 63 (.build [(.int .i64 0), .nilSlice, (.int .i64 0), .nilSlice] [(0, 2, (.t 60)), (2, 2, (.t 62))]), qk 64 0])
 (.block 6
 (.loop (.seq (.region none [
 qB .lss 65 64 2])
 (.seq (.cond (.t 65)
 .skip
 (.exit 6))
 (.seq (.block 7
 (.seq (.region none [
 qo 66 (.indexA 2 2 true (.t 63) (.t 64)), qo 10 (.lalloc (.agg [(.int .i64 0), .nilSlice])), qs 2 10 66])
 (.seq (.seq (.region none [
 qL 2 67 10, qc 68 38 [(.t 67)], qo 69 (.field 0 1 false (.t 68)), qm 11 69])
 (.seq (.region none [
 qm 70 11, qB .neq 71 70 0])
 (.cond (.t 71)
 (.seq (.region none [
 qm 72 11, qm 73 5, qc 74 18 [(.t 72), (.t 73)], qs 2 2 74])
 .ret)
 .skip)))
 (.seq (.region none [
 qL 2 75 10, qf 0 76 1, ql 1 77 76, qc 78 39 [(.t 75), (.t 77)], qm 12 78])
 (.seq (.region none [
 qm 79 12, qB .neq 80 79 0])
 (.cond (.t 80)
 (.seq (.region none [
 qm 81 12, qm 82 5, qc 83 18 [(.t 81), (.t 82)], qs 2 2 83])
 .ret)
 .skip))))))
 (.region none [
 qB .add 84 64 1, qm 64 84])))))))))
 (.region none [
 qB .add 85 55 1, qm 55 85]))))))))))
 (.region none [
 qB .add 86 41 1, qm 41 86])))))))
 (.seq (.region none [
 qo 87 (.build [(.int .i64 0), (.int .i64 0)] []), qs 2 2 87])
 .ret)))))
def af16 : AFun := ⟨.pure, 1, 16, body16, [.cell 2 2 true]⟩

/-- umpirage/eltool.In -/
def body17 : ACode := (.seq (.region none [
 qo 6 (.mov (.c (.bool false)))])
 (.seq (.region none [
 qm 7 0, qm 8 1, qb .geq 9 7 8, qm 10 9, qg 10 true 11 (.mov (.t 0)), qg 10 true 12 (.mov (.t 2)), qg 10 true 13 (.bin .leq (.t 11) (.t 12)), qo 14 (.pick (.t 10) (.t 13) (.c (.bool false))), qm 6 14])
 .ret))
def af17 : AFun := ⟨.pure, 1, 17, body17, [.t 6]⟩

/-- umpirage/eltool.Fault -/
def body18 : ACode := (.seq (.region none [
 qo 4 (.lalloc (.agg [(.int .i64 0), (.int .i64 0)]))])
 (.seq (.region none [
 qm 5 0, qm 6 1, qo 7 (.build [(.int .i64 0), (.int .i64 0)] [(0, 1, (.t 5)), (1, 1, (.t 6))]), qs 2 4 7])
 .ret))
def af18 : AFun := ⟨.pure, 1, 18, body18, [.cell 4 2 true]⟩

/-- (*umpirage/super.search).add -/
def body19 : ACode := (.seq (.region none [
 qx 3 1, qk 4 0, qo 5 (.mov (.c (.bool false)))])
 (.seq (.seq (.region none [
 qm 8 0, qo 9 (.ncheck (.t 8)), qf 2 10 9, ql 1 11 10, qn 12 11, qB .eql 13 12 400])
 (.cond (.t 13)
 (.seq (.region none [
 qm 14 0, qo 15 (.ncheck (.t 14)), qf 6 16 15, ⟨none, .store 1 (.t 16) (.c (.bool true)), none, []⟩])
 (.seq (.region none [
 qk 4 0, qo 5 (.mov (.c (.bool false)))])
 .ret))
 .skip))
 (.seq (.region (some [0, 1, 3, 7, 0, 16, 48, 112, 0, 511, 1023, 2047, 2047, 0, 12287, 32767]) [
 qm 18 0, qo 19 (.ncheck (.t 18)), qf 0 20 19, qL 2 21 20, qm 22 0, qo 23 (.ncheck (.t 22)), qf 3 24 23, ql 1 25 24, qL 8 26 3, qc 27 40 [(.t 21), (.t 25), (.t 26)], qm 17 27, qe 0 28 17, qe 1 29 17, qo 6 (.lalloc (.agg [.nilSlice])), qs 1 6 28, qm 7 29])
 (.seq (.seq (.region none [
 qm 30 7, qB .neq 31 30 0])
 (.cond (.t 31)
 (.seq (.region none [
 qm 32 0, qo 33 (.ncheck (.t 32)), qf 6 34 33, ⟨none, .store 1 (.t 34) (.c (.bool true)), none, []⟩])
 (.seq (.region none [
 qk 4 0, qo 5 (.mov (.c (.bool false)))])
 .ret))
 .skip))
 (.seq (.region (some [0, 0, 2, 6, 14, 0, 32, 126, 255, 511, 1023]) [
 qm 35 0, qm 36 0, qo 37 (.ncheck (.t 36)), qf 2 38 37, ql 1 39 38, qL 8 40 3, qo 41 (.bslice false 8 1 [(.int .i64 0), (.int .i64 0), (.int .i64 0), (.int .i64 0), (.int .i64 0), (.bool false), .nilSlice, .nilSlice] [(0, 8, (.t 40))]), qo 42 (.append false 8 96 (.t 39) (.t 41)), qo 43 (.ncheck (.t 35)), qf 2 44 43, qs 1 44 42])
 (.seq (.region (some [0, 0, 2, 6, 14, 0, 32, 126, 255, 511, 1023]) [
 qm 45 0, qm 46 0, qo 47 (.ncheck (.t 46)), qf 3 48 47, ql 1 49 48, qL 1 50 6, qo 51 (.bslice false 1 1 [.nilSlice] [(0, 1, (.t 50))]), qo 52 (.append false 1 24 (.t 49) (.t 51)), qo 53 (.ncheck (.t 45)), qf 3 54 53, qs 1 54 52])
 (.seq (.region none [
 qm 55 0, qo 56 (.ncheck (.t 55)), qf 3 57 56, ql 1 58 57, qn 59 58, qB .sub 60 59 1, qm 4 60, qo 5 (.mov (.c (.bool true)))])
 .ret)))))))
def af19 : AFun := ⟨.mut, 1, 19, body19, [.t 4, .t 5]⟩

/-- (*umpirage/super.search).keep -/
def body20 : ACode := (.seq (.region none [
 qo 4 (.mov (.c (.bool false)))])
 (.seq (.seq (.region none [
 qm 11 0, qo 12 (.ncheck (.t 11)), qf 3 13 12, ql 1 14 13, qm 15 1, qi 1 16 14 15, qL 1 17 16, qc 18 32 [(.t 17)], qB .gtr 19 18 0])
 (.cond (.t 19)
 (.seq (.region none [
 qm 21 0, qm 22 1, qm 23 0, qo 24 (.ncheck (.t 23)), qf 3 25 24, ql 1 26 25, qm 27 1, qi 1 28 26 27, qL 1 29 28, qc 30 41 [(.t 29)], qo 31 (.build [(.int .i64 0), (.int .i64 0), (.int .i64 0), (.int .i64 0), (.int .i64 0), (.bool false), .nilSlice, .nilSlice] [(0, 1, (.c (.int .i64 2))), (1, 1, (.t 22)), (7, 1, (.t 30))]), qc 32 19 [(.t 21), (.t 31)], qm 20 32, qe 0 33 20, qe 1 34 20, qm 5 33, qm 6 34])
 (.seq (.seq (.region none [
 qm 35 6, qo 36 (.un .not (.t 35))])
 (.cond (.t 36)
 (.seq (.region none [
 qo 4 (.mov (.c (.bool false)))])
 .ret)
 .skip))
 (.region none [
 qm 37 5, qm 1 37])))
 .skip))
 (.seq (.region none [
 qm 39 0, qm 40 1, qc 41 42 [(.t 39), (.t 40)], qm 38 41, qe 0 42 38, qe 1 43 38, qm 1 42, qm 7 43])
 (.seq (.seq (.region none [
 qm 44 7, qo 45 (.un .not (.t 44))])
 (.cond (.t 45)
 (.seq (.region none [
 qo 4 (.mov (.c (.bool false)))])
 .ret)
 .skip))
 (.seq (.region none [
 qm 46 0, qo 47 (.ncheck (.t 46)), qf 3 48 47, ql 1 49 48, qm 50 1, qi 1 51 49 50, qL 1 52 51, qc 53 43 [(.t 52)], qo 8 (.lalloc (.agg [.nilSlice])), qs 1 8 53])
 (.seq (.seq (.region none [
 qf 0 54 8, ql 1 55 54, qn 56 55, qB .eql 57 56 0])
 (.cond (.t 57)
 (.seq (.region none [
 qo 4 (.mov (.c (.bool true)))])
 .ret)
 .skip))
 (.seq (.seq (.region none [
 qL 1 58 8, qc 59 44 [(.t 58)]])
 (.cond (.t 59)
 (.seq (.region none [
 qo 4 (.mov (.c (.bool false)))])
 .ret)
 .skip))
 (.seq (.seq (.region (some [0, 1, 3, 7, 15, 0, 32, 96, 224, 511, 1023, 0]) [
 qm 60 0, qo 61 (.ncheck (.t 60)), qf 4 62 61, ql 1 63 62, qc 64 45 [(.t 63)], qm 65 0, qo 66 (.ncheck (.t 65)), qf 5 67 66, ql 1 68 67, qo 69 (.append true 1 8 (.t 64) (.t 68)), qn 70 69, qk 71 0])
 (.block 0
 (.loop (.seq (.region none [
 qb .lss 72 71 70])
 (.seq (.cond (.t 72)
 .skip
 (.exit 0))
 (.seq (.block 1
 (.seq (.region none [
 qi 1 73 69 71, ql 1 74 73, qm 10 74])
 (.seq (.region (some [0, 1, 3, 7, 0, 31, 63, 127, 255, 0, 512, 2047]) [
 qm 75 0, qo 76 (.ncheck (.t 75)), qf 3 77 76, ql 1 78 77, qm 79 10, qi 1 80 78 79, qL 1 81 80, qc 82 43 [(.t 81)], qo 83 (.field 0 1 false (.t 82)), qf 0 84 8, ql 1 85 84, qo 86 (.call (.c (.clo 46 [])) [(.t 83), (.t 85), (.c (.clo 47 []))])])
 (.cond (.t 86)
 (.seq (.region none [
 qo 4 (.mov (.c (.bool false)))])
 .ret)
 .skip))))
 (.region none [
 qB .add 87 71 1, qm 71 87])))))))
 (.seq (.region none [
 qm 88 0, qm 89 0, qo 90 (.ncheck (.t 89)), qf 4 91 90, ql 1 92 91, qm 93 1, qo 94 (.bslice false 1 1 [(.int .i64 0)] [(0, 1, (.t 93))]), qo 95 (.append false 1 8 (.t 92) (.t 94)), qo 96 (.ncheck (.t 88)), qf 4 97 96, qs 1 97 95])
 (.seq (.region none [
 qo 4 (.mov (.c (.bool false)))])
 .ret))))))))))
def af20 : AFun := ⟨.mut, 1, 20, body20, [.t 4]⟩

/-- umpirage/super.weight -/
def body21 : ACode := (.seq (.region none [
 qx 1 0, qk 2 0])
 (.seq (.region none [
 qk 3 0])
 (.seq (.seq (.region none [
 qf 0 6 1, ql 1 7 6, qn 8 7, qk 9 0])
 (.block 0
 (.loop (.seq (.region none [
 qb .lss 10 9 8])
 (.seq (.cond (.t 10)
 .skip
 (.exit 0))
 (.seq (.block 1
 (.seq (.region none [
 qi 5 11 7 9, qL 5 12 11, qo 5 (.lalloc (.agg [(.bool false), (.int .i64 0), .nilSlice, (.int .i64 0), .nilSlice])), qs 5 5 12])
 (.region (some [0, 0, 2, 6, 0, 16, 62, 126, 255, 511]) [
 qm 13 3, qf 1 14 5, qL 2 15 14, qc 16 48 [(.t 15)], qf 3 17 5, qL 2 18 17, qc 19 48 [(.t 18)], qb .add 20 16 19, qb .add 21 13 20, qm 3 21])))
 (.region none [
 qB .add 22 9 1, qm 9 22])))))))
 (.seq (.region none [
 qm 23 3, qm 2 23])
 .ret))))
def af21 : AFun := ⟨.pure, 1, 21, body21, [.t 2]⟩

/-- slices.Delete[[]int,int] -/
def body22 : ACode := (.seq (.region none [
 qo 6 (.mov (.c .nilSlice))])
 (.seq (.region none [
 qm 8 0, qm 9 1, qm 10 2, qm 11 0, qn 12 11, qo 13 (.slice3 (.t 8) (some (.t 9)) (.t 10) (.t 12))])
 (.seq (.seq (.region none [
 qm 14 1, qm 15 2, qb .eql 16 14 15])
 (.cond (.t 16)
 (.seq (.region none [
 qm 17 0, qm 6 17])
 .ret)
 .skip))
 (.seq (.region none [
 qm 18 0, qn 19 18, qm 7 19])
 (.seq (.region (some [0, 0, 3, 0, 0, 24, 63, 127]) [
 qm 20 0, qm 21 1, qo 22 (.slice 1 (.t 20) none (some (.t 21))), qm 23 0, qm 24 2, qo 25 (.slice 1 (.t 23) (some (.t 24)) none), qo 26 (.append false 1 8 (.t 22) (.t 25)), qm 0 26])
 (.seq (.region none [
 qm 27 0, qm 28 0, qn 29 28, qm 30 7, qo 31 (.slice 1 (.t 27) (some (.t 29)) (some (.t 30))), ⟨none, .clear (.int .i64 0) (.t 31), none, []⟩])
 (.seq (.region none [
 qm 32 0, qm 6 32])
 .ret)))))))
def af22 : AFun := ⟨.mut, 1, 22, body22, [.t 6]⟩

/-- (*umpirage/super.search).given -/
def body23 : ACode := (.seq (.region none [
 qo 4 (.mov (.c (.bool false)))])
 (.seq (.seq (.region none [
 qm 10 0, qm 11 1, qc 12 49 [(.t 10), (.t 11)], qm 9 12, qe 0 13 9, qe 1 14 9, qm 5 13, qm 6 14])
 (.seq (.region none [
 qm 15 6])
 (.cond (.t 15)
 (.seq (.region none [
 qm 16 0, qm 17 1, qc 18 20 [(.t 16), (.t 17)], qm 4 18])
 .ret)
 .skip)))
 (.seq (.seq (.region none [
 qm 19 0, qm 20 1, qc 21 50 [(.t 19), (.t 20)]])
 (.cond (.t 21)
 (.seq (.region none [
 qo 4 (.mov (.c (.bool true)))])
 .ret)
 .skip))
 (.seq (.region none [
 qm 22 0, qm 23 0, qo 24 (.ncheck (.t 23)), qf 5 25 24, ql 1 26 25, qm 27 1, qo 28 (.bslice false 1 1 [(.int .i64 0)] [(0, 1, (.t 27))]), qo 29 (.append false 1 8 (.t 26) (.t 28)), qo 30 (.ncheck (.t 22)), qf 5 31 30, qs 1 31 29])
 (.seq (.seq (.region none [
 qm 32 0, qo 33 (.ncheck (.t 32)), qf 5 34 33, ql 1 35 34, qn 36 35, qk 37 0])
 (.block 0
 (.loop (.seq (.region none [
 qb .lss 38 37 36])
 (.seq (.cond (.t 38)
 .skip
 (.exit 0))
 (.seq (.block 1
 (.seq (.region none [
 qi 1 39 35 37, ql 1 40 39, qm 8 40])
 (.seq (.region none [
 qm 41 0, qm 42 8, qm 43 1, qc 44 51 [(.t 41), (.t 42), (.t 43)], qm 45 44, qg 45 false 46 (.mov (.t 8)), qg 45 false 47 (.mov (.t 1)), qg 45 false 48 (.bin .neq (.t 46) (.t 47)), qg 45 false 49 (.mov (.t 48)), qg 49 true 50 (.mov (.t 0)), qg 49 true 51 (.mov (.t 1)), qg 49 true 52 (.mov (.t 8)), qg 49 true 53 (.call (.c (.clo 51 [])) [(.t 50), (.t 51), (.t 52)]), qg 45 false 54 (.pick (.t 49) (.t 53) (.c (.bool false))), qo 55 (.pick (.t 45) (.c (.bool true)) (.t 54))])
 (.cond (.t 55)
 (.seq (.region none [
 qo 4 (.mov (.c (.bool true)))])
 .ret)
 .skip))))
 (.region none [
 qB .add 56 37 1, qm 37 56])))))))
 (.seq (.region none [
 qo 4 (.mov (.c (.bool false)))])
 .ret))))))
def af23 : AFun := ⟨.mut, 1, 23, body23, [.t 4]⟩

/-- umpirage/umpiragelaw7.leaf -/
def body24 : ACode := (.seq (.region none [
 qo 2 (.lalloc (.agg [(.int .i64 0), .nilSlice]))])
 (.seq (.region none [
 qm 3 0, qo 4 (.build [(.int .i64 0), .nilSlice] [(0, 1, (.t 3))]), qs 2 2 4])
 .ret))
def af24 : AFun := ⟨.pure, 1, 24, body24, [.cell 2 2 true]⟩

/-- umpirage/umpirageref7.Trees -/
def body25 : ACode := (.seq (.region none [
 qx 1 0, qo 2 (.mov (.c .nilSlice))])
 (.seq (.region none [
 qo 3 (.mov (.c .nilSlice))])
 (.seq (.seq (.region none [
 qk 4 0])
 (.block 0
 (.loop (.seq (.seq (.region none [
 qm 5 4, qf 0 6 1, ql 1 7 6, qn 8 7, qb .lss 9 5 8])
 (.cond (.t 9)
 .skip
 (.exit 0)))
 (.seq (.block 1
 (.seq (.region none [
 qm 12 3, qf 0 13 1, ql 1 14 13, qm 15 4, qi 5 16 14 15, qf 1 17 16, qL 2 18 17, qo 19 (.bslice false 2 1 [(.int .i64 0), .nilSlice] [(0, 2, (.t 18))]), qo 20 (.append false 2 32 (.t 12) (.t 19)), qm 3 20])
 (.region none [
 qm 21 3, qf 0 22 1, ql 1 23 22, qm 24 4, qi 5 25 23 24, qf 3 26 25, qL 2 27 26, qo 28 (.bslice false 2 1 [(.int .i64 0), .nilSlice] [(0, 2, (.t 27))]), qo 29 (.append false 2 32 (.t 21) (.t 28)), qm 3 29])))
 (.region none [
 qm 10 4, qB .add 11 10 1, qm 4 11]))))))
 (.seq (.region none [
 qm 30 3, qm 2 30])
 .ret))))
def af25 : AFun := ⟨.pure, 1, 25, body25, [.t 2]⟩

/-- umpirage/umpiragelaw7.vast -/
def body26 : ACode := (.seq (.region none [
 qx 1 0, qo 2 (.mov (.c (.bool false)))])
 (.seq (.region none [
 qL 2 3 1, qc 4 52 [(.t 3)], qB .gtr 5 4 200, qm 2 5])
 .ret))
def af26 : AFun := ⟨.pure, 1, 26, body26, [.t 2]⟩

/-- umpirage/umpirageref7.fault -/
def body27 : ACode := (.seq (.region none [
 qo 4 (.lalloc (.agg [(.int .i64 0), (.int .i64 0)]))])
 (.seq (.region none [
 qm 5 0, qm 6 1, qo 7 (.build [(.int .i64 0), (.int .i64 0)] [(0, 1, (.t 5)), (1, 1, (.t 6))]), qs 2 4 7])
 .ret))
def af27 : AFun := ⟨.pure, 1, 27, body27, [.cell 4 2 true]⟩

/-- umpirage/umpirageref7.in -/
def body28 : ACode := (.seq (.region none [
 qo 6 (.mov (.c (.bool false)))])
 (.seq (.region none [
 qm 7 0, qm 8 1, qb .geq 9 7 8, qm 10 9, qg 10 true 11 (.mov (.t 0)), qg 10 true 12 (.mov (.t 2)), qg 10 true 13 (.bin .leq (.t 11) (.t 12)), qo 14 (.pick (.t 10) (.t 13) (.c (.bool false))), qm 6 14])
 .ret))
def af28 : AFun := ⟨.pure, 1, 28, body28, [.t 6]⟩

/-- umpirage/umpirageref7.Claim -/
def body29 : ACode := (.seq (.region none [
 qx 2 0, qk 4 0])
 (.seq (.seq (.region none [
 qf 0 9 2, ql 1 10 9, qn 11 10, qB .gtr 12 11 6])
 (.cond (.t 12)
 (.seq (.region none [
 qk 4 2])
 .ret)
 .skip))
 (.seq (.region none [
 qL 1 13 2, qc 14 25 [(.t 13)], qm 5 14])
 (.seq (.seq (.region none [
 qk 6 0])
 (.block 0
 (.loop (.seq (.seq (.region none [
 qm 15 6, qm 16 5, qn 17 16, qb .lss 18 15 17])
 (.cond (.t 18)
 .skip
 (.exit 0)))
 (.seq (.block 1
 (.seq (.region none [
 qm 21 5, qm 22 6, qi 2 23 21 22, qL 2 24 23, qc 25 53 [(.t 24)], qo 7 (.lalloc (.agg [(.int .i64 0), (.int .i64 0)])), qs 2 7 25])
 (.seq (.seq (.region none [
 qf 0 26 7, ql 1 27 26, qB .neq 28 27 0])
 (.cond (.t 28)
 (.seq (.region none [
 qf 0 29 7, ql 1 30 29, qm 4 30])
 .ret)
 .skip))
 (.seq (.region none [
 qm 31 5, qm 32 6, qi 2 33 31 32, qL 2 34 33, qm 35 1, qc 36 54 [(.t 34), (.t 35)], qm 8 36])
 (.seq (.region none [
 qm 37 8, qB .neq 38 37 0])
 (.cond (.t 38)
 (.seq (.region none [
 qm 39 8, qm 4 39])
 .ret)
 .skip))))))
 (.region none [
 qm 19 6, qB .add 20 19 1, qm 6 20]))))))
 (.seq (.region none [
 qk 4 0])
 .ret)))))
def af29 : AFun := ⟨.pure, 1, 29, body29, [.t 4]⟩

/-- umpirage/trace.Take -/
def body30 : ACode := (.seq (.region none [
 qx 2 0, qo 4 (.mov (.c .nilSlice)), qo 5 (.lalloc (.agg [(.int .i64 0), (.int .i64 0)]))])
 (.seq (.seq (.region none [
 qL 2 12 2, qc 13 16 [(.t 12)], qo 6 (.lalloc (.agg [(.int .i64 0), (.int .i64 0)])), qs 2 6 13])
 (.seq (.region none [
 qL 2 14 6, qo 15 (.build [(.int .i64 0), (.int .i64 0)] []), qo 16 (.eqs [0, 0] true (.t 14) (.t 15))])
 (.cond (.t 16)
 (.seq (.region (some [0, 0, 3]) [
 qL 2 17 6, qo 4 (.mov (.c .nilSlice)), qs 2 5 17])
 .ret)
 .skip)))
 (.seq (.seq (.region none [
 qm 18 1, qn 19 18, qB .gtr 20 19 400])
 (.cond (.t 20)
 (.seq (.region none [
 qc 21 18 [(.c (.int .i64 2)), (.c (.int .i64 (-1)))], qo 4 (.mov (.c .nilSlice)), qs 2 5 21])
 .ret)
 .skip))
 (.seq (.region none [
 qo 7 (.mov (.c .nilSlice))])
 (.seq (.seq (.region none [
 qm 22 1, qn 23 22, qk 24 0])
 (.block 0
 (.loop (.seq (.region none [
 qb .lss 25 24 23])
 (.seq (.cond (.t 25)
 .skip
 (.exit 0))
 (.seq (.block 1
 (.seq (.region none [
 qm 26 24, qi 8 27 22 24, qL 8 28 27, qo 9 (.lalloc (.agg [(.int .i64 0), (.int .i64 0), (.int .i64 0), (.int .i64 0), (.int .i64 0), (.bool false), .nilSlice, .nilSlice])), qm 8 26, qs 8 9 28])
 (.seq (.region none [
 qL 2 30 2, qm 31 7, qL 8 32 9, qc 33 40 [(.t 30), (.t 31), (.t 32)], qm 29 33, qe 0 34 29, qe 1 35 29, qo 10 (.lalloc (.agg [.nilSlice])), qs 1 10 34, qm 11 35])
 (.seq (.seq (.region none [
 qm 36 11, qB .neq 37 36 0])
 (.cond (.t 37)
 (.seq (.region none [
 qm 38 11, qm 39 8, qc 40 18 [(.t 38), (.t 39)], qo 4 (.mov (.c .nilSlice)), qs 2 5 40])
 .ret)
 .skip))
 (.region none [
 qm 41 7, qL 1 42 10, qo 43 (.bslice false 1 1 [.nilSlice] [(0, 1, (.t 42))]), qo 44 (.append false 1 24 (.t 41) (.t 43)), qm 7 44])))))
 (.region none [
 qB .add 45 24 1, qm 24 45])))))))
 (.seq (.region none [
 qm 46 7, qo 47 (.build [(.int .i64 0), (.int .i64 0)] []), qm 4 46, qs 2 5 47])
 .ret))))))
def af30 : AFun := ⟨.pure, 1, 30, body30, [.t 4, .cell 5 2 true]⟩

/-- umpirage/umpiragetop.treeOf -/
def body31 : ACode := (.seq (.region none [
 qo 6 (.lalloc (.agg [(.int .i64 0), .nilSlice])), qo 7 (.mov (.c .nilSlice))])
 (.seq (.seq (.region none [
 qm 11 0, qn 12 11, qB .eql 13 12 0])
 (.cond (.t 13)
 (.seq (.region none [
 qo 14 (.build [(.int .i64 0), .nilSlice] [(0, 1, (.c (.int .i64 1)))]), qm 15 0, qs 2 6 14, qm 7 15])
 .ret)
 .skip))
 (.seq (.region none [
 qm 16 0, qo 17 (.iaddr 1 (.t 16) (.c (.int .i64 0))), ql 1 18 17, qc 19 13 [(.t 18), (.c (.int .i64 5))], qm 8 19])
 (.seq (.region none [
 qm 20 0, qo 21 (.slice 1 (.t 20) (some (.c (.int .i64 1))) none), qm 0 21])
 (.seq (.seq (.region none [
 qm 22 8, qB .eql 23 22 0, qm 24 23, qg 24 false 25 (.mov (.t 1)), qg 24 false 26 (.bin .eql (.t 25) (.c (.int .i64 0))), qo 27 (.pick (.t 24) (.c (.bool true)) (.t 26))])
 (.cond (.t 27)
 (.seq (.region none [
 qo 28 (.build [(.int .i64 0), .nilSlice] [(0, 1, (.c (.int .i64 1)))]), qm 29 0, qs 2 6 28, qm 7 29])
 .ret)
 .skip))
 (.seq (.seq (.region none [
 qm 30 8, qB .eql 31 30 1, qm 32 31, qg 32 true 33 (.mov (.t 2)), qg 32 true 34 (.bin .gtr (.t 33) (.c (.int .i64 0))), qo 35 (.pick (.t 32) (.t 34) (.c (.bool false)))])
 (.cond (.t 35)
 (.seq (.region none [
 qm 36 0, qn 37 36, qm 38 2, qc 39 13 [(.t 37), (.t 38)], qo 40 (.bin .sub (.c (.int .i64 (-1))) (.t 39)), qo 41 (.build [(.int .i64 0), .nilSlice] [(0, 1, (.t 40))]), qm 42 0, qs 2 6 41, qm 7 42])
 .ret)
 .skip))
 (.seq (.region none [
 qm 44 0, qm 45 1, qB .sub 46 45 1, qm 47 2, qc 48 31 [(.t 44), (.t 46), (.t 47)], qm 43 48, qe 0 49 43, qe 1 50 43, qo 9 (.lalloc (.agg [(.int .i64 0), .nilSlice])), qs 2 9 49, qm 0 50])
 (.seq (.seq (.region none [
 qm 51 8, qB .lss 52 51 4])
 (.cond (.t 52)
 (.seq (.region none [
 qL 2 53 9, qo 54 (.bslice false 2 1 [(.int .i64 0), .nilSlice] [(0, 2, (.t 53))]), qo 55 (.build [(.int .i64 0), .nilSlice] [(0, 1, (.c (.int .i64 2))), (1, 1, (.t 54))]), qm 56 0, qs 2 6 55, qm 7 56])
 .ret)
 .skip))
 (.seq (.region none [
 qm 58 0, qm 59 1, qB .sub 60 59 1, qm 61 2, qc 62 31 [(.t 58), (.t 60), (.t 61)], qm 57 62, qe 0 63 57, qe 1 64 57, qo 10 (.lalloc (.agg [(.int .i64 0), .nilSlice])), qs 2 10 63, qm 0 64])
 (.seq (.region none [
 qL 2 65 9, qL 2 66 10, qo 67 (.bslice false 2 2 [(.int .i64 0), .nilSlice, (.int .i64 0), .nilSlice] [(0, 2, (.t 65)), (2, 2, (.t 66))]), qo 68 (.build [(.int .i64 0), .nilSlice] [(0, 1, (.c (.int .i64 3))), (1, 1, (.t 67))]), qm 69 0, qs 2 6 68, qm 7 69])
 .ret))))))))))
def af31 : AFun := ⟨.pure, 1, 31, body31, [.cell 6 2 true, .t 7]⟩

/-- umpirage/eltool.ClaimMost -/
def body32 : ACode := (.seq (.region none [
 qx 1 0, qk 2 0])
 (.seq (.region none [
 qk 3 0])
 (.seq (.seq (.region none [
 qf 0 6 1, ql 1 7 6, qn 8 7, qk 9 0])
 (.block 0
 (.loop (.seq (.region none [
 qb .lss 10 9 8])
 (.seq (.cond (.t 10)
 .skip
 (.exit 0))
 (.seq (.block 1
 (.seq (.region none [
 qi 5 11 7 9, qL 5 12 11, qo 5 (.lalloc (.agg [(.bool false), (.int .i64 0), .nilSlice, (.int .i64 0), .nilSlice])), qs 5 5 12])
 (.region (some [0, 0, 2, 6, 0, 16, 62, 127, 255]) [
 qm 13 3, qf 1 14 5, qL 2 15 14, qc 16 55 [(.t 15)], qf 3 17 5, qL 2 18 17, qc 19 55 [(.t 18)], qo 20 (.max (.t 13) (.t 16) [(.t 19)]), qm 3 20])))
 (.region none [
 qB .add 21 9 1, qm 9 21])))))))
 (.seq (.region none [
 qm 22 3, qm 2 22])
 .ret))))
def af32 : AFun := ⟨.pure, 1, 32, body32, [.t 2]⟩

/-- (*umpirage/find.finder).fine -/
def body33 : ACode := (.seq (.region none [
 qo 2 (.mov (.c (.bool false)))])
 (.seq (.seq (.region none [
 qm 8 0, qo 9 (.ncheck (.t 8)), qf 0 10 9, qf 1 11 10, ql 1 12 11, qn 13 12, qk 14 0])
 (.block 0
 (.loop (.seq (.region none [
 qb .lss 15 14 13])
 (.seq (.cond (.t 15)
 .skip
 (.exit 0))
 (.seq (.block 1
 (.seq (.region none [
 qi 1 16 12 14, qL 1 17 16, qo 4 (.lalloc (.agg [.nilSlice])), qs 1 4 17])
 (.seq (.region none [
 qL 1 18 4, qc 19 32 [(.t 18)], qm 5 19])
 (.seq (.region none [
 qm 20 5, qo 21 (.mkslice 1 8 (.int .i64 0) (.t 20) (.t 20)), qm 6 21])
 (.block 2
 (.loop (.block 3
 (.seq (.seq (.region none [
 qm 22 0, qL 1 23 4, qm 24 6, qc 25 56 [(.t 22), (.t 23), (.t 24)]])
 (.cond (.t 25)
 (.seq (.region none [
 qo 2 (.mov (.c (.bool false)))])
 .ret)
 .skip))
 (.seq (.region none [
 qm 26 5, qB .sub 27 26 1, qm 7 27])
 (.seq (.block 4
 (.loop (.seq (.seq (.region (some [0, 1, 3, 7, 7, 31, 63, 7, 135, 391, 903, 1927, 3975, 8191, 16383]) [
 qm 28 7, qB .geq 29 28 0, qm 30 29, qg 30 true 31 (.mov (.t 6)), qg 30 true 32 (.mov (.t 7)), qg 30 true 33 (.iaddr 1 (.t 31) (.t 32)), qg 30 true 34 (.load 1 false (.t 33)), qg 30 true 35 (.mov (.t 0)), qg 30 true 36 (.ncheck (.t 35)), qg 30 true 37 (.faddr 2 (.t 36)), qg 30 true 38 (.faddr 0 (.t 37)), qg 30 true 39 (.load 1 false (.t 38)), qg 30 true 40 (.bin .sub (.t 39) (.c (.int .i64 1))), qg 30 true 41 (.bin .eql (.t 34) (.t 40)), qo 42 (.pick (.t 30) (.t 41) (.c (.bool false)))])
 (.cond (.t 42)
 .skip
 (.exit 4)))
 (.block 5
 (.seq (.region none [
 qm 43 6, qm 44 7, qi 1 45 43 44, ⟨none, .store 1 (.t 45) (.c (.int .i64 0)), none, []⟩])
 (.region none [
 qm 46 7, qB .sub 47 46 1, qm 7 47]))))))
 (.seq (.seq (.region none [
 qm 48 7, qB .lss 49 48 0])
 (.cond (.t 49)
 (.exit 2)
 .skip))
 (.region none [
 qm 50 6, qm 51 7, qi 1 52 50 51, ql 1 53 52, qB .add 54 53 1, qi 1 55 50 51, qs 1 55 54]))))))))))))
 (.region none [
 qB .add 56 14 1, qm 14 56])))))))
 (.seq (.region none [
 qo 2 (.mov (.c (.bool true)))])
 .ret)))
def af33 : AFun := ⟨.pure, 1, 33, body33, [.t 2]⟩

/-- (*umpirage/find.finder).from -/
def body34 : ACode := (.seq (.region none [
 qk 6 0])
 (.seq (.seq (.region none [
 qm 9 1, qm 10 0, qo 11 (.ncheck (.t 10)), qf 2 12 11, qf 1 13 12, ql 1 14 13, qn 15 14, qb .eql 16 9 15])
 (.cond (.t 16)
 (.seq (.region none [
 qk 6 1])
 .ret)
 .skip))
 (.seq (.seq (.region none [
 qm 17 2, qm 18 0, qo 19 (.ncheck (.t 18)), qf 2 20 19, qf 1 21 20, ql 1 22 21, qm 23 1, qi 1 24 22 23, ql 1 25 24, qn 26 25, qb .eql 27 17 26])
 (.cond (.t 27)
 (.seq (.region none [
 qm 28 0, qm 29 1, qB .add 30 29 1, qc 31 34 [(.t 28), (.t 30), (.c (.int .i64 0))], qm 6 31])
 .ret)
 .skip))
 (.seq (.seq (.region none [
 qm 32 0, qo 33 (.ncheck (.t 32)), qf 2 34 33, qf 0 35 34, ql 1 36 35, qk 37 0])
 (.block 0
 (.loop (.seq (.region none [
 qb .lss 38 37 36])
 (.seq (.cond (.t 38)
 .skip
 (.exit 0))
 (.seq (.block 1
 (.seq (.region none [
 qm 39 37, qm 7 39])
 (.seq (.seq (.region none [
 qm 40 0, qo 41 (.ncheck (.t 40)), qf 4 42 41, ql 1 43 42, qB .eql 44 43 0])
 (.cond (.t 44)
 (.seq (.region none [
 qk 6 3])
 .ret)
 .skip))
 (.seq (.region none [
 qm 45 0, qo 46 (.ncheck (.t 45)), qf 4 47 46, ql 1 48 47, qB .sub 49 48 1, qo 50 (.ncheck (.t 45)), qf 4 51 50, qs 1 51 49])
 (.seq (.region none [
 qm 52 0, qo 53 (.ncheck (.t 52)), qf 2 54 53, qf 1 55 54, ql 1 56 55, qm 57 1, qi 1 58 56 57, ql 1 59 58, qm 60 2, qm 61 7, qi 1 62 59 60, qs 1 62 61])
 (.seq (.region none [
 qm 63 0, qc 64 33 [(.t 63)]])
 (.cond (.t 64)
 (.seq (.region none [
 qm 65 0, qm 66 1, qm 67 2, qB .add 68 67 1, qc 69 34 [(.t 65), (.t 66), (.t 68)], qm 8 69])
 (.seq (.region none [
 qm 70 8, qB .neq 71 70 2])
 (.cond (.t 71)
 (.seq (.region none [
 qm 72 8, qm 6 72])
 .ret)
 .skip)))
 .skip)))))))
 (.region none [
 qB .add 73 37 1, qm 37 73])))))))
 (.seq (.region none [
 qm 74 0, qo 75 (.ncheck (.t 74)), qf 2 76 75, qf 1 77 76, ql 1 78 77, qm 79 1, qi 1 80 78 79, ql 1 81 80, qm 82 2, qi 1 83 81 82, ⟨none, .store 1 (.t 83) (.c (.int .i64 (-1))), none, []⟩])
 (.seq (.region none [
 qk 6 2])
 .ret))))))
def af34 : AFun := ⟨.mut, 1, 34, body34, [.t 6]⟩

/-- umpirage/table.Check -/
def body35 : ACode := (.seq (.region none [
 qx 2 0, qx 3 1, qo 4 (.lalloc (.agg [(.int .i64 0), (.int .i64 0)]))])
 (.seq (.seq (.region none [
 qL 2 10 2, qc 11 16 [(.t 10)], qo 5 (.lalloc (.agg [(.int .i64 0), (.int .i64 0)])), qs 2 5 11])
 (.seq (.region none [
 qL 2 12 5, qo 13 (.build [(.int .i64 0), (.int .i64 0)] []), qo 14 (.eqs [0, 0] true (.t 12) (.t 13))])
 (.cond (.t 14)
 (.seq (.region none [
 qL 2 15 5, qs 2 4 15])
 .ret)
 .skip)))
 (.seq (.seq (.region none [
 qf 0 16 3, ql 1 17 16, qc 18 17 [(.t 17), (.c (.int .i64 1)), (.c (.int .i64 4))], qo 19 (.un .not (.t 18))])
 (.cond (.t 19)
 (.seq (.region none [
 qc 20 18 [(.c (.int .i64 3)), (.c (.int .i64 (-1)))], qs 2 4 20])
 .ret)
 .skip))
 (.seq (.seq (.region none [
 qf 1 21 3, ql 1 22 21, qn 23 22, qf 0 24 2, ql 1 25 24, qn 26 25, qb .neq 27 23 26])
 (.cond (.t 27)
 (.seq (.region none [
 qc 28 18 [(.c (.int .i64 9)), (.c (.int .i64 (-1)))], qs 2 4 28])
 .ret)
 .skip))
 (.seq (.seq (.region none [
 qf 1 29 3, ql 1 30 29, qn 31 30, qk 32 0])
 (.block 0
 (.loop (.seq (.region none [
 qb .lss 33 32 31])
 (.seq (.cond (.t 33)
 .skip
 (.exit 0))
 (.seq (.block 1
 (.seq (.region none [
 qm 34 32, qi 1 35 30 32, ql 1 36 35, qm 6 34, qm 7 36])
 (.seq (.seq (.region (some [0, 1, 0, 4, 0, 16, 0, 112, 240, 508, 1023]) [
 qm 37 7, qn 38 37, qf 0 39 3, ql 1 40 39, qf 0 41 2, ql 1 42 41, qm 43 6, qi 1 44 42 43, ql 1 45 44, qc 46 36 [(.t 40), (.t 45)], qb .neq 47 38 46])
 (.cond (.t 47)
 (.seq (.region none [
 qm 48 6, qc 49 18 [(.c (.int .i64 9)), (.t 48)], qs 2 4 49])
 .ret)
 .skip))
 (.seq (.region none [
 qm 50 7, qn 51 50, qk 52 0])
 (.block 2
 (.loop (.seq (.region none [
 qb .lss 53 52 51])
 (.seq (.cond (.t 53)
 .skip
 (.exit 2))
 (.seq (.block 3
 (.seq (.region none [
 qi 1 54 50 52, ql 1 55 54, qm 9 55])
 (.seq (.region none [
 qm 56 9, qf 0 57 3, ql 1 58 57, qB .sub 59 58 1, qc 60 17 [(.t 56), (.c (.int .i64 0)), (.t 59)], qo 61 (.un .not (.t 60))])
 (.cond (.t 61)
 (.seq (.region none [
 qm 62 6, qc 63 18 [(.c (.int .i64 3)), (.t 62)], qs 2 4 63])
 .ret)
 .skip))))
 (.region none [
 qB .add 64 52 1, qm 52 64]))))))))))
 (.region none [
 qB .add 65 32 1, qm 32 65])))))))
 (.seq (.region none [
 qo 66 (.build [(.int .i64 0), (.int .i64 0)] []), qs 2 4 66])
 .ret))))))
def af35 : AFun := ⟨.pure, 1, 35, body35, [.cell 4 2 true]⟩

/-- umpirage/table.power -/
def body36 : ACode := (.seq (.region none [
 qk 4 0])
 (.seq (.region none [
 qk 5 1])
 (.seq (.seq (.region none [
 qm 6 1, qk 7 0])
 (.block 0
 (.loop (.seq (.region none [
 qb .lss 8 7 6])
 (.seq (.cond (.t 8)
 .skip
 (.exit 0))
 (.seq (.block 1
 (.region none [
 qm 9 5, qm 10 0, qb .mul 11 9 10, qm 5 11]))
 (.region none [
 qB .add 12 7 1, qm 7 12])))))))
 (.seq (.region none [
 qm 13 5, qm 4 13])
 .ret))))
def af36 : AFun := ⟨.pure, 1, 36, body36, [.t 4]⟩

/-- umpirage/table.All -/
def body37 : ACode := (.seq (.region none [
 qx 2 0, qx 3 1, qo 4 (.mov (.c (.bool false)))])
 (.seq (.region none [
 qL 1 9 3, qc 10 32 [(.t 9)], qm 5 10])
 (.seq (.seq (.region none [
 qf 0 11 2, ql 1 12 11, qm 13 5, qc 14 36 [(.t 12), (.t 13)], qk 15 0])
 (.block 0
 (.loop (.seq (.region none [
 qb .lss 16 15 14])
 (.seq (.cond (.t 16)
 .skip
 (.exit 0))
 (.seq (.block 1
 (.seq (.region none [
 qm 17 15, qm 6 17])
 (.seq (.region none [
 qm 18 5, qo 19 (.mkslice 1 8 (.int .i64 0) (.t 18) (.t 18)), qm 7 19])
 (.seq (.seq (.region none [
 qm 20 5, qB .sub 21 20 1, qm 8 21])
 (.block 2
 (.loop (.seq (.seq (.region none [
 qm 22 8, qB .geq 23 22 0])
 (.cond (.t 23)
 .skip
 (.exit 2)))
 (.seq (.block 3
 (.seq (.region none [
 qm 26 7, qm 27 8, qm 28 6, qf 0 29 2, ql 1 30 29, qb .rem 31 28 30, qi 1 32 26 27, qs 1 32 31])
 (.region none [
 qm 33 6, qf 0 34 2, ql 1 35 34, qb .quo 36 33 35, qm 6 36])))
 (.region none [
 qm 24 8, qB .sub 25 24 1, qm 8 25]))))))
 (.seq (.region none [
 qL 2 37 2, qL 1 38 3, qm 39 7, qc 40 57 [(.t 37), (.t 38), (.t 39)], qo 41 (.un .not (.t 40))])
 (.cond (.t 41)
 (.seq (.region none [
 qo 4 (.mov (.c (.bool false)))])
 .ret)
 .skip))))))
 (.region none [
 qB .add 42 15 1, qm 15 42])))))))
 (.seq (.region none [
 qo 4 (.mov (.c (.bool true)))])
 .ret))))
def af37 : AFun := ⟨.pure, 1, 37, body37, [.t 4]⟩

/-- umpirage/tree.Check -/
def body38 : ACode := (.seq (.region none [
 qx 1 0, qo 2 (.lalloc (.agg [(.int .i64 0), (.int .i64 0)]))])
 (.seq (.block 0
 (.seq (.region none [
 qL 2 7 1, qc 8 48 [(.t 7)], qB .gtr 9 8 40, qm 6 9])
 (.cond (.t 6)
 (.seq (.region none [
 qc 10 18 [(.c (.int .i64 2)), (.c (.int .i64 0))], qs 2 2 10])
 .ret)
 (.seq (.region none [
 qL 2 12 1, qc 13 58 [(.t 12)], qB .gtr 14 13 12, qm 11 14])
 (.cond (.t 11)
 (.seq (.region none [
 qc 15 18 [(.c (.int .i64 10)), (.c (.int .i64 0))], qs 2 2 15])
 .ret)
 .skip)))))
 (.seq (.region none [
 qo 3 (.halloc (.int .i64 0)), ⟨none, .store 1 (.t 3) (.c (.int .i64 0)), none, []⟩])
 (.seq (.seq (.region none [
 qL 2 17 1, qc 18 59 [(.t 17), (.t 3)], qm 16 18, qe 0 19 16, qe 1 20 16, qm 4 19, qm 5 20])
 (.seq (.region none [
 qm 21 5, qo 22 (.un .not (.t 21))])
 (.cond (.t 22)
 (.seq (.region none [
 qm 23 4, ql 1 24 3, qc 25 18 [(.t 23), (.t 24)], qs 2 2 25])
 .ret)
 .skip)))
 (.seq (.region none [
 qo 26 (.build [(.int .i64 0), (.int .i64 0)] []), qs 2 2 26])
 .ret)))))
def af38 : AFun := ⟨.pure, 1, 38, body38, [.cell 2 2 true]⟩

/-- umpirage/claim.signs -/
def body39 : ACode := (.seq (.region none [
 qx 2 0, qk 4 0])
 (.seq (.seq (.region none [
 qf 0 8 2, ql 1 9 8, qB .gtr 10 9 0])
 (.cond (.t 10)
 (.seq (.seq (.region none [
 qf 0 11 2, ql 1 12 11, qm 13 1, qn 14 13, qb .gtr 15 12 14])
 (.cond (.t 15)
 (.seq (.region none [
 qk 4 12])
 .ret)
 .skip))
 (.seq (.region (some [0, 1, 3, 0, 0, 16, 48, 120, 248, 511]) [
 qf 1 16 2, ql 1 17 16, qn 18 17, qm 19 1, qf 0 20 2, ql 1 21 20, qB .sub 22 21 1, qi 1 23 19 22, ql 1 24 23, qb .neq 25 18 24])
 (.cond (.t 25)
 (.seq (.region none [
 qk 4 9])
 .ret)
 .skip)))
 .skip))
 (.seq (.seq (.region none [
 qf 1 26 2, ql 1 27 26, qn 28 27, qk 29 0])
 (.block 0
 (.loop (.seq (.region none [
 qb .lss 30 29 28])
 (.seq (.cond (.t 30)
 .skip
 (.exit 0))
 (.seq (.block 1
 (.seq (.region none [
 qi 2 31 27 29, qL 2 32 31, qo 6 (.lalloc (.agg [(.int .i64 0), .nilSlice])), qs 2 6 32])
 (.seq (.region none [
 qL 2 33 6, qm 34 1, qc 35 39 [(.t 33), (.t 34)], qm 7 35])
 (.seq (.region none [
 qm 36 7, qB .neq 37 36 0])
 (.cond (.t 37)
 (.seq (.region none [
 qm 38 7, qm 4 38])
 .ret)
 .skip)))))
 (.region none [
 qB .add 39 29 1, qm 29 39])))))))
 (.seq (.region none [
 qk 4 0])
 .ret))))
def af39 : AFun := ⟨.pure, 1, 39, body39, [.t 4]⟩

/-- umpirage/trace.Next -/
def body40 : ACode := (.seq (.region none [
 qx 3 0, qx 5 2, qo 6 (.lalloc (.agg [.nilSlice])), qk 7 0])
 (.seq (.region none [
 qm 15 1, qm 8 15])
 (.seq (.seq (.region none [
 qf 0 16 5, ql 1 17 16, qB .eql 18 17 1])
 (.cond (.t 18)
 (.region none [
 qf 1 19 3, ql 1 20 19, qm 8 20])
 .skip))
 (.seq (.block 0
 (.seq (.region none [
 qf 0 22 5, ql 1 23 22, qc 24 17 [(.t 23), (.c (.int .i64 1)), (.c (.int .i64 4))], qo 25 (.un .not (.t 24)), qm 21 25])
 (.cond (.t 21)
 (.seq (.region none [
 qo 26 (.build [.nilSlice] []), qs 1 6 26, qk 7 4])
 .ret)
 (.seq (.region none [
 qf 1 28 5, ql 1 29 28, qm 30 8, qn 31 30, qB .sub 32 31 1, qc 33 17 [(.t 29), (.c (.int .i64 0)), (.t 32)], qo 34 (.un .not (.t 33)), qm 35 34, qg 35 false 36 (.faddr 0 (.t 5)), qg 35 false 37 (.load 1 false (.t 36)), qg 35 false 38 (.bin .eql (.t 37) (.c (.int .i64 3))), qg 35 false 39 (.mov (.t 38)), qg 39 true 40 (.faddr 2 (.t 5)), qg 39 true 41 (.load 1 false (.t 40)), qg 39 true 42 (.mov (.t 8)), qg 39 true 43 (.len (.t 42)), qg 39 true 44 (.bin .sub (.t 43) (.c (.int .i64 1))), qg 39 true 45 (.call (.c (.clo 17 [])) [(.t 41), (.c (.int .i64 0)), (.t 44)]), qg 39 true 46 (.un .not (.t 45)), qg 35 false 47 (.pick (.t 39) (.t 46) (.c (.bool false))), qo 48 (.pick (.t 35) (.c (.bool true)) (.t 47)), qm 27 48])
 (.cond (.t 27)
 (.seq (.region none [
 qo 49 (.build [.nilSlice] []), qs 1 6 49, qk 7 3])
 .ret)
 .skip)))))
 (.seq (.region none [
 qm 50 8, qf 1 51 5, ql 1 52 51, qi 1 53 50 52, qL 1 54 53, qo 9 (.lalloc (.agg [.nilSlice])), qs 1 9 54])
 (.seq (.region none [
 qo 10 (.lalloc (.agg [.nilSlice]))])
 (.seq (.seq (.region none [
 qf 0 55 5, ql 1 56 55])
 (.block 1
 (.seq (.region none [
 qB .eql 58 56 1, qm 57 58])
 (.cond (.t 57)
 (.region none [
 qL 1 59 9, qs 1 10 59])
 (.seq (.region none [
 qB .eql 61 56 2, qm 60 61])
 (.cond (.t 60)
 (.seq (.seq (.region none [
 qf 7 62 5, ql 1 63 62, qc 64 60 [(.t 63)], qo 11 (.lalloc (.agg [(.int .i64 0), (.int .i64 0)])), qs 2 11 64])
 (.seq (.region none [
 qL 2 65 11, qo 66 (.build [(.int .i64 0), (.int .i64 0)] []), qo 67 (.eqs [0, 0] true (.t 65) (.t 66))])
 (.cond (.t 67)
 (.seq (.region (some [0, 0, 2, 1, 15]) [
 qo 68 (.build [.nilSlice] []), qf 0 69 11, ql 1 70 69, qs 1 6 68, qm 7 70])
 .ret)
 .skip)))
 (.region none [
 qL 1 71 9, qo 72 (.mkfn 62 [(.t 5)]), qc 73 61 [(.t 71), (.t 72)], qs 1 10 73]))
 (.seq (.region none [
 qB .eql 75 56 3, qm 74 75])
 (.cond (.t 74)
 (.seq (.region (some [0, 0, 0, 0, 8, 28, 60, 127, 255, 511, 511, 0, 3071, 8191]) [
 qL 8 77 5, qL 1 78 9, qm 79 8, qf 2 80 5, ql 1 81 80, qi 1 82 79 81, qL 1 83 82, qc 84 64 [(.t 77), (.t 78), (.t 83)], qm 76 84, qe 0 85 76, qe 1 86 76, qo 12 (.lalloc (.agg [.nilSlice])), qs 1 12 85, qm 13 86])
 (.seq (.seq (.region none [
 qm 87 13, qB .neq 88 87 0])
 (.cond (.t 88)
 (.seq (.region none [
 qo 89 (.build [.nilSlice] []), qm 90 13, qs 1 6 89, qm 7 90])
 .ret)
 .skip))
 (.region none [
 qL 1 91 12, qs 1 10 91])))
 (.seq (.region none [
 qB .eql 93 56 4, qm 92 93])
 (.cond (.t 92)
 (.region none [
 qL 1 94 9, qc 95 65 [(.t 94)], qs 1 10 95])
 .skip))))))))))
 (.seq (.region none [
 qf 0 96 3, ql 1 97 96, qL 1 98 10, qo 99 (.bslice false 1 1 [.nilSlice] [(0, 1, (.t 98))]), qo 100 (.build [.nilSlice, .nilSlice] [(0, 1, (.t 97)), (1, 1, (.t 99))]), qo 14 (.lalloc (.agg [.nilSlice, .nilSlice])), qs 2 14 100])
 (.seq (.seq (.region none [
 qL 2 101 14, qc 102 16 [(.t 101)], qo 103 (.build [(.int .i64 0), (.int .i64 0)] []), qo 104 (.eqs [0, 0] true (.t 102) (.t 103))])
 (.cond (.t 104)
 (.seq (.region none [
 qo 105 (.build [.nilSlice] []), qs 1 6 105, qk 7 10])
 .ret)
 .skip))
 (.seq (.region none [
 qL 1 106 10, qo 107 (.call (.c (.clo 61 [])) [(.t 106), (.c (.clo 66 []))]), qs 1 6 107, qk 7 0])
 .ret))))))))))
def af40 : AFun := ⟨.pure, 1, 40, body40, [.cell 6 1 true, .t 7]⟩

/-- umpirage/super.renaming -/
def body41 : ACode := (.seq (.region none [
 qx 1 0, qo 2 (.mov (.c .nilSlice))])
 (.seq (.region none [
 qL 1 8 1, qc 9 32 [(.t 8)], qo 10 (.mkslice 2 32 (.agg [(.int .i64 0), .nilSlice]) (.t 9) (.t 9)), qo 3 (.halloc .nilSlice), qs 1 3 10])
 (.seq (.region none [
 qo 4 (.halloc (.int .i64 0)), ⟨none, .store 1 (.t 4) (.c (.int .i64 0)), none, []⟩])
 (.seq (.region none [
 qo 5 (.halloc .nilFunc)])
 (.seq (.region none [
 qo 11 (.mkfn 67 [(.t 3), (.t 4), (.t 5)]), qs 1 5 11])
 (.seq (.seq (.region none [
 qf 0 12 1, ql 1 13 12, qn 14 13, qk 15 0])
 (.block 0
 (.loop (.seq (.region none [
 qb .lss 16 15 14])
 (.seq (.cond (.t 16)
 .skip
 (.exit 0))
 (.seq (.block 1
 (.seq (.region none [
 qi 5 17 13 15, qL 5 18 17, qo 7 (.lalloc (.agg [(.bool false), (.int .i64 0), .nilSlice, (.int .i64 0), .nilSlice])), qs 5 7 18])
 (.seq (.region none [
 ql 1 19 5, qf 1 20 7, qL 2 21 20, qo 22 (.call (.t 19) [(.t 21)])])
 (.region none [
 ql 1 23 5, qf 3 24 7, qL 2 25 24, qo 26 (.call (.t 23) [(.t 25)])]))))
 (.region none [
 qB .add 27 15 1, qm 15 27])))))))
 (.seq (.region none [
 ql 1 28 3, qm 2 28])
 .ret)))))))
def af41 : AFun := ⟨.pure, 1, 41, body41, [.t 2]⟩

/-- (*umpirage/super.search).less -/
def body42 : ACode := (.seq (.region none [
 qk 4 0, qo 5 (.mov (.c (.bool false)))])
 (.seq (.seq (.region none [
 qk 8 0])
 (.block 0
 (.loop (.seq (.region none [
 qB .lss 9 8 40])
 (.seq (.cond (.t 9)
 .skip
 (.exit 0))
 (.seq (.block 1
 (.seq (.region none [
 qm 11 0, qm 12 1, qc 13 49 [(.t 11), (.t 12)], qm 10 13, qe 0 14 10, qe 1 15 10, qm 6 14, qm 7 15])
 (.seq (.seq (.region none [
 qm 16 7, qo 17 (.un .not (.t 16))])
 (.cond (.t 17)
 (.exit 0)
 .skip))
 (.region none [
 qm 18 6, qm 1 18]))))
 (.region none [
 qB .add 19 8 1, qm 8 19])))))))
 (.seq (.region none [
 qm 20 0, qm 21 1, qc 22 68 [(.t 20), (.t 21)], qe 0 23 22, qe 1 24 22, qm 4 23, qm 5 24])
 .ret)))
def af42 : AFun := ⟨.mut, 1, 42, body42, [.t 4, .t 5]⟩

/-- umpirage/claim.Named -/
def body43 : ACode := (.seq (.region none [
 qx 1 0, qo 2 (.lalloc (.agg [.nilSlice]))])
 (.seq (.region none [
 qo 5 (.mkmap (some .i64)), qo 3 (.halloc .nilMap), qs 1 3 5])
 (.seq (.region none [
 qo 4 (.halloc .nilFunc)])
 (.seq (.region none [
 qo 6 (.mkfn 69 [(.t 3), (.t 4)]), qs 1 4 6])
 (.seq (.region none [
 qL 1 7 1, ql 1 8 4, qc 9 1061 [(.t 7), (.t 8)], qs 1 2 9])
 .ret)))))
def af43 : AFun := ⟨.pure, 1, 43, body43, [.cell 2 1 true]⟩

/-- umpirage/super.idle -/
def body44 : ACode := (.seq (.region none [
 qx 1 0, qo 2 (.mov (.c (.bool false)))])
 (.seq (.region none [
 qf 0 3 1, ql 1 4 3, qo 5 (.call (.c (.clo 70 [])) [(.t 4), (.c (.clo 71 []))]), qm 2 5])
 .ret))
def af44 : AFun := ⟨.pure, 1, 44, body44, [.t 2]⟩

/-- slices.Clone[[]int,int] -/
def body45 : ACode := (.seq (.region none [
 qo 2 (.mov (.c .nilSlice))])
 (.seq (.seq (.region none [
 qm 3 0, qo 4 (.eqnil false (.t 3))])
 (.cond (.t 4)
 (.seq (.region none [
 qo 2 (.mov (.c .nilSlice))])
 .ret)
 .skip))
 (.seq (.region none [
 qo 5 (.bslice true 1 0 [] []), qm 6 0, qo 7 (.append false 1 8 (.t 5) (.t 6)), qm 2 7])
 .ret)))
def af45 : AFun := ⟨.new, 1, 45, body45, [.t 2]⟩

/-- slices.EqualFunc[[]umpirage/api.Fact,[]umpirage/api.Fact,umpirage/api.Fact,umpirage/api.Fact] -/
def body46 : ACode := (.seq (.region none [
 qo 6 (.mov (.c (.bool false)))])
 (.seq (.seq (.region none [
 qm 10 0, qn 11 10, qm 12 1, qn 13 12, qb .neq 14 11 13])
 (.cond (.t 14)
 (.seq (.region none [
 qo 6 (.mov (.c (.bool false)))])
 .ret)
 .skip))
 (.seq (.seq (.region none [
 qm 15 0, qn 16 15, qk 17 0])
 (.block 0
 (.loop (.seq (.region none [
 qb .lss 18 17 16])
 (.seq (.cond (.t 18)
 .skip
 (.exit 0))
 (.seq (.block 1
 (.seq (.region none [
 qm 19 17, qi 5 20 15 17, qL 5 21 20, qo 8 (.lalloc (.agg [(.bool false), (.int .i64 0), .nilSlice, (.int .i64 0), .nilSlice])), qm 7 19, qs 5 8 21])
 (.seq (.region none [
 qm 22 1, qm 23 7, qi 5 24 22 23, qL 5 25 24, qo 9 (.lalloc (.agg [(.bool false), (.int .i64 0), .nilSlice, (.int .i64 0), .nilSlice])), qs 5 9 25])
 (.seq (.region none [
 qm 26 2, qL 5 27 8, qL 5 28 9, qo 29 (.call (.t 26) [(.t 27), (.t 28)]), qo 30 (.un .not (.t 29))])
 (.cond (.t 30)
 (.seq (.region none [
 qo 6 (.mov (.c (.bool false)))])
 .ret)
 .skip)))))
 (.region none [
 qB .add 31 17 1, qm 17 31])))))))
 (.seq (.region none [
 qo 6 (.mov (.c (.bool true)))])
 .ret))))
def af46 : AFun := ⟨.pure, 1, 46, body46, [.t 6]⟩

/-- umpirage/eltool.SameFact -/
def body47 : ACode := (.seq (.region none [
 qx 2 0, qx 3 1, qo 4 (.mov (.c (.bool false)))])
 (.seq (.region none [
 qf 0 5 2, ql 1 6 5, qf 0 7 3, ql 1 8 7, qo 9 (.eqb false (.t 6) (.t 8)), qm 10 9, qg 10 true 11 (.faddr 1 (.t 2)), qg 10 true 12 (.load 2 true (.t 11)), qg 10 true 13 (.faddr 1 (.t 3)), qg 10 true 14 (.load 2 true (.t 13)), qg 10 true 15 (.call (.c (.clo 72 [])) [(.t 12), (.t 14)]), qo 16 (.pick (.t 10) (.t 15) (.c (.bool false))), qm 17 16, qg 17 true 18 (.faddr 3 (.t 2)), qg 17 true 19 (.load 2 true (.t 18)), qg 17 true 20 (.faddr 3 (.t 3)), qg 17 true 21 (.load 2 true (.t 20)), qg 17 true 22 (.call (.c (.clo 72 [])) [(.t 19), (.t 21)]), qo 23 (.pick (.t 17) (.t 22) (.c (.bool false))), qm 4 23])
 .ret))
def af47 : AFun := ⟨.pure, 1, 47, body47, [.t 4]⟩

/-- umpirage/eltool.Size -/
def body48 : ACode := (.seq (.region none [
 qx 1 0, qk 2 0])
 (.seq (.region none [
 qk 3 1])
 (.seq (.seq (.region none [
 qf 1 6 1, ql 1 7 6, qn 8 7, qk 9 0])
 (.block 0
 (.loop (.seq (.region none [
 qb .lss 10 9 8])
 (.seq (.cond (.t 10)
 .skip
 (.exit 0))
 (.seq (.block 1
 (.seq (.region none [
 qi 2 11 7 9, qL 2 12 11, qo 5 (.lalloc (.agg [(.int .i64 0), .nilSlice])), qs 2 5 12])
 (.region none [
 qm 13 3, qL 2 14 5, qc 15 48 [(.t 14)], qb .add 16 13 15, qm 3 16])))
 (.region none [
 qB .add 17 9 1, qm 9 17])))))))
 (.seq (.region none [
 qm 18 3, qm 2 18])
 .ret))))
def af48 : AFun := ⟨.pure, 1, 48, body48, [.t 2]⟩

/-- (*umpirage/super.search).lower -/
def body49 : ACode := (.seq (.region none [
 qk 4 0, qo 5 (.mov (.c (.bool false)))])
 (.seq (.seq (.region none [
 qm 22 0, qo 23 (.ncheck (.t 22)), qf 5 24 23, ql 1 25 24, qn 26 25, qk 27 0])
 (.block 0
 (.loop (.seq (.region none [
 qb .lss 28 27 26])
 (.seq (.cond (.t 28)
 .skip
 (.exit 0))
 (.seq (.block 1
 (.seq (.region none [
 qi 1 29 25 27, ql 1 30 29, qm 7 30])
 (.seq (.region none [
 qm 31 0, qo 32 (.ncheck (.t 31)), qf 3 33 32, ql 1 34 33, qm 35 7, qi 1 36 34 35, qL 1 37 36, qo 8 (.lalloc (.agg [.nilSlice])), qs 1 8 37])
 (.seq (.seq (.region none [
 qf 0 38 8, ql 1 39 38, qn 40 39, qB .neq 41 40 1, qm 42 41, qg 42 false 43 (.faddr 0 (.t 8)), qg 42 false 44 (.load 1 false (.t 43)), qg 42 false 45 (.iaddr 5 (.t 44) (.c (.int .i64 0))), qg 42 false 46 (.faddr 0 (.t 45)), qg 42 false 47 (.load 1 false (.t 46)), qo 48 (.pick (.t 42) (.c (.bool true)) (.t 47)), qm 49 48, qg 49 false 50 (.mov (.t 7)), qg 49 false 51 (.mov (.t 1)), qg 49 false 52 (.bin .eql (.t 50) (.t 51)), qo 53 (.pick (.t 49) (.c (.bool true)) (.t 52))])
 (.cond (.t 53)
 (.exit 1)
 .skip))
 (.seq (.region none [
 qo 54 (.build [(.bool false), (.bool false)] [(0, 1, (.c (.bool false))), (1, 1, (.c (.bool true)))]), qk 55 0])
 (.block 2
 (.loop (.seq (.region none [
 qB .lss 56 55 2])
 (.seq (.cond (.t 56)
 .skip
 (.exit 2))
 (.seq (.block 3
 (.seq (.region none [
 qo 57 (.indexA 2 1 false (.t 54) (.t 55)), qm 10 57])
 (.seq (.region (some [0, 1, 3, 7, 15, 0, 32, 96, 224, 480, 0, 0, 3103, 8191]) [
 qf 0 58 8, ql 1 59 58, qo 60 (.iaddr 5 (.t 59) (.c (.int .i64 0))), qf 1 61 60, qL 2 62 61, qf 0 63 8, ql 1 64 63, qo 65 (.iaddr 5 (.t 64) (.c (.int .i64 0))), qf 3 66 65, qL 2 67 66, qo 11 (.lalloc (.agg [(.int .i64 0), .nilSlice])), qo 12 (.lalloc (.agg [(.int .i64 0), .nilSlice])), qs 2 11 62, qs 2 12 67])
 (.seq (.seq (.region none [
 qm 68 10])
 (.cond (.t 68)
 (.region none [
 qL 2 69 12, qL 2 70 11, qs 2 11 69, qs 2 12 70])
 .skip))
 (.seq (.seq (.region none [
 qL 2 71 11, qL 2 72 12, qc 73 73 [(.t 71), (.t 72)], qo 74 (.un .not (.t 73))])
 (.cond (.t 74)
 (.exit 3)
 .skip))
 (.seq (.region none [
 qm 75 0, qo 76 (.ncheck (.t 75)), qf 3 77 76, ql 1 78 77, qm 79 1, qi 1 80 78 79, qf 0 81 80, ql 1 82 81, qn 83 82, qk 84 0])
 (.block 4
 (.loop (.seq (.region none [
 qb .lss 85 84 83])
 (.seq (.cond (.t 85)
 .skip
 (.exit 4))
 (.seq (.block 5
 (.seq (.region none [
 qm 86 84, qi 5 87 82 84, qL 5 88 87, qo 14 (.lalloc (.agg [(.bool false), (.int .i64 0), .nilSlice, (.int .i64 0), .nilSlice])), qm 13 86, qs 5 14 88])
 (.seq (.region none [
 qf 1 89 14, qL 2 90 89, qf 3 91 14, qL 2 92 91, qo 93 (.build [(.int .i64 0), .nilSlice, (.int .i64 0), .nilSlice] [(0, 2, (.t 90)), (2, 2, (.t 92))]), qk 94 0])
 (.block 6
 (.loop (.seq (.region none [
 qB .lss 95 94 2])
 (.seq (.cond (.t 95)
 .skip
 (.exit 6))
 (.seq (.block 7
 (.seq (.region none [
 qm 96 94, qo 97 (.indexA 2 2 true (.t 93) (.t 94)), qo 16 (.lalloc (.agg [(.int .i64 0), .nilSlice])), qm 15 96, qs 2 16 97])
 (.seq (.region none [
 qL 2 98 16, qc 99 74 [(.t 98), (.c .nilSlice)], qn 100 99, qk 101 0])
 (.block 8
 (.loop (.seq (.region none [
 qb .lss 102 101 100])
 (.seq (.cond (.t 102)
 .skip
 (.exit 8))
 (.seq (.block 9
 (.seq (.region none [
 qi 1 103 99 101, ql 1 104 103, qm 18 104])
 (.seq (.region none [
 qL 2 105 11, qc 106 55 [(.t 105)], qo 107 (.mkslice 2 32 (.agg [(.int .i64 0), .nilSlice]) (.t 106) (.t 106)), qm 19 107])
 (.seq (.seq (.region (some [0, 0, 0, 6, 0, 31, 63]) [
 qL 2 108 11, qL 2 109 16, qm 110 18, qc 111 76 [(.t 109), (.t 110)], qm 112 19, qc 113 75 [(.t 108), (.t 111), (.t 112)], qo 114 (.un .not (.t 113))])
 (.cond (.t 114)
 (.exit 9)
 .skip))
 (.seq (.region none [
 qm 115 7, qm 20 115, qo 21 (.mov (.c (.bool true)))])
 (.seq (.seq (.region none [
 ⟨some 116, .mov (.t 19), none, [(false, 19)]⟩, qn 117 116, qB .gtr 118 117 0])
 (.cond (.t 118)
 (.region none [
 qm 120 0, qm 121 7, qm 122 19, qc 123 77 [(.t 120), (.t 121), (.t 122)], qm 119 123, qe 0 124 119, qe 1 125 119, qm 20 124, qm 21 125])
 .skip))
 (.seq (.seq (.region none [
 qm 126 21, qo 127 (.un .not (.t 126))])
 (.cond (.t 127)
 (.seq (.region none [
 qk 4 0, qo 5 (.mov (.c (.bool false)))])
 .ret)
 .skip))
 (.seq (.region none [
 qm 128 0, qm 129 20, qm 130 1, qm 131 13, qm 132 10, qm 133 15, qB .add 134 133 1, qo 135 (.bslice true 1 1 [(.int .i64 0)] [(0, 1, (.t 134))]), qm 136 18, qo 137 (.append true 1 8 (.t 135) (.t 136)), qo 138 (.build [(.int .i64 0), (.int .i64 0), (.int .i64 0), (.int .i64 0), (.int .i64 0), (.bool false), .nilSlice, .nilSlice] [(0, 1, (.c (.int .i64 3))), (1, 1, (.t 129)), (2, 1, (.t 130)), (4, 1, (.t 131)), (5, 1, (.t 132)), (6, 1, (.t 137))]), qc 139 19 [(.t 128), (.t 138)], qe 0 140 139, qe 1 141 139, qm 4 140, qm 5 141])
 .ret))))))))
 (.region none [
 qB .add 142 101 1, qm 101 142])))))))))
 (.region none [
 qB .add 143 94 1, qm 94 143])))))))))
 (.region none [
 qB .add 144 84 1, qm 84 144]))))))))))))
 (.region none [
 qB .add 145 55 1, qm 55 145])))))))))))
 (.region none [
 qB .add 146 27 1, qm 27 146])))))))
 (.seq (.region none [
 qk 4 0, qo 5 (.mov (.c (.bool false)))])
 .ret)))
def af49 : AFun := ⟨.mut, 1, 49, body49, [.t 4, .t 5]⟩

/-- (*umpirage/super.search).single -/
def body50 : ACode := (.seq (.region none [
 qo 2 (.hbox (.t 0)), qx 3 1, qo 4 (.mov (.c (.bool false)))])
 (.seq (.region (some [0, 1, 3, 7, 0, 31, 63, 0, 255]) [
 ql 1 12 2, qo 13 (.ncheck (.t 12)), qf 3 14 13, ql 1 15 14, ql 1 16 3, qi 1 17 15 16, qL 1 18 17, qo 5 (.lalloc (.agg [.nilSlice])), qs 1 5 18])
 (.seq (.region none [
 qL 1 19 5, qc 20 32 [(.t 19)], qo 6 (.halloc (.int .i64 0)), qs 1 6 20])
 (.seq (.region none [
 qo 21 (.mkfn 78 [(.t 6), (.t 2), (.t 3)]), qm 7 21])
 (.seq (.seq (.region none [
 qf 0 22 5, ql 1 23 22, qn 24 23, qk 25 0])
 (.block 0
 (.loop (.seq (.region none [
 qb .lss 26 25 24])
 (.seq (.cond (.t 26)
 .skip
 (.exit 0))
 (.seq (.block 1
 (.seq (.region none [
 qm 27 25, qi 5 28 23 25, qL 5 29 28, qo 9 (.lalloc (.agg [(.bool false), (.int .i64 0), .nilSlice, (.int .i64 0), .nilSlice])), qm 8 27, qs 5 9 29])
 (.seq (.seq (.region none [
 qf 0 30 9, ql 1 31 30, qm 32 31, qg 32 true 33 (.mov (.t 7)), qg 32 true 34 (.faddr 1 (.t 9)), qg 32 true 35 (.load 2 true (.t 34)), qg 32 true 36 (.faddr 3 (.t 9)), qg 32 true 37 (.load 2 true (.t 36)), qg 32 true 38 (.call (.t 33) [(.t 35), (.t 37)]), qo 39 (.pick (.t 32) (.t 38) (.c (.bool false)))])
 (.cond (.t 39)
 (.seq (.region none [
 qo 4 (.mov (.c (.bool true)))])
 .ret)
 .skip))
 (.seq (.region none [
 qf 0 40 5, ql 1 41 40, qm 42 8, qo 43 (.slice 5 (.t 41) none (some (.t 42))), qn 44 43, qk 45 0])
 (.block 2
 (.loop (.seq (.region none [
 qb .lss 46 45 44])
 (.seq (.cond (.t 46)
 .skip
 (.exit 2))
 (.seq (.block 3
 (.seq (.region none [
 qi 5 47 43 45, qL 5 48 47, qo 11 (.lalloc (.agg [(.bool false), (.int .i64 0), .nilSlice, (.int .i64 0), .nilSlice])), qs 5 11 48])
 (.seq (.region (some [0, 1, 0, 4, 15, 31, 63, 127, 63, 319, 1023, 2047, 4095, 4095, 12287, 4095, 36863, 131071, 262143, 524287, 1048575, 2097151, 1048575, 5242879, 16777215, 33554431, 67108863, 134217727, 134217727, 402653183, 134217727, 1207959551, 4160749567, 134217727, 8724152319, 134217727, 34493956095, 137304735743, 274877906943, 549755813887, 1099511627775, 2199023255551, 4398046511103, 4398046511103, 13194139533311, 4398046511103, 39582418599935, 136339441844223, 4398046511103, 285873023221759, 4398046511103, 1130297953353727, 4499201580859391, 9007199254740991, 18014398509481983, 36028797018963967]) [
 qf 0 49 9, ql 1 50 49, qf 0 51 11, ql 1 52 51, qo 53 (.eqb false (.t 50) (.t 52)), qm 54 53, qg 54 true 55 (.faddr 1 (.t 9)), qg 54 true 56 (.load 2 true (.t 55)), qg 54 true 57 (.faddr 1 (.t 11)), qg 54 true 58 (.load 2 true (.t 57)), qg 54 true 59 (.call (.c (.clo 72 [])) [(.t 56), (.t 58)]), qg 54 true 60 (.mov (.t 59)), qg 60 true 61 (.mov (.t 7)), qg 60 true 62 (.faddr 3 (.t 9)), qg 60 true 63 (.load 2 true (.t 62)), qg 60 true 64 (.faddr 3 (.t 11)), qg 60 true 65 (.load 2 true (.t 64)), qg 60 true 66 (.call (.t 61) [(.t 63), (.t 65)]), qg 54 true 67 (.pick (.t 60) (.t 66) (.c (.bool false))), qg 54 true 68 (.mov (.t 67)), qg 68 false 69 (.faddr 1 (.t 9)), qg 68 false 70 (.load 2 true (.t 69)), qg 68 false 71 (.faddr 1 (.t 11)), qg 68 false 72 (.load 2 true (.t 71)), qg 68 false 73 (.call (.c (.clo 72 [])) [(.t 70), (.t 72)]), qg 68 false 74 (.un .not (.t 73)), qg 68 false 75 (.mov (.t 74)), qg 75 true 76 (.mov (.t 7)), qg 75 true 77 (.faddr 1 (.t 9)), qg 75 true 78 (.load 2 true (.t 77)), qg 75 true 79 (.faddr 3 (.t 9)), qg 75 true 80 (.load 2 true (.t 79)), qg 75 true 81 (.call (.c (.clo 80 [])) [(.t 78), (.t 80)]), qg 75 true 82 (.faddr 1 (.t 11)), qg 75 true 83 (.load 2 true (.t 82)), qg 75 true 84 (.faddr 3 (.t 11)), qg 75 true 85 (.load 2 true (.t 84)), qg 75 true 86 (.call (.c (.clo 80 [])) [(.t 83), (.t 85)]), qg 75 true 87 (.call (.t 76) [(.t 81), (.t 86)]), qg 68 false 88 (.pick (.t 75) (.t 87) (.c (.bool false))), qg 54 true 89 (.pick (.t 68) (.c (.bool true)) (.t 88)), qg 54 true 90 (.mov (.t 89)), qg 90 false 91 (.mov (.t 7)), qg 90 false 92 (.faddr 1 (.t 9)), qg 90 false 93 (.load 2 true (.t 92)), qg 90 false 94 (.faddr 3 (.t 9)), qg 90 false 95 (.load 2 true (.t 94)), qg 90 false 96 (.call (.c (.clo 80 [])) [(.t 93), (.t 95)]), qg 90 false 97 (.faddr 3 (.t 11)), qg 90 false 98 (.load 2 true (.t 97)), qg 90 false 99 (.faddr 1 (.t 11)), qg 90 false 100 (.load 2 true (.t 99)), qg 90 false 101 (.call (.c (.clo 80 [])) [(.t 98), (.t 100)]), qg 90 false 102 (.call (.t 91) [(.t 96), (.t 101)]), qg 54 true 103 (.pick (.t 90) (.c (.bool true)) (.t 102)), qo 104 (.pick (.t 54) (.t 103) (.c (.bool false)))])
 (.cond (.t 104)
 (.seq (.region none [
 qo 4 (.mov (.c (.bool true)))])
 .ret)
 .skip))))
 (.region none [
 qB .add 105 45 1, qm 45 105]))))))))))
 (.region none [
 qB .add 106 25 1, qm 25 106])))))))
 (.seq (.region none [
 qo 4 (.mov (.c (.bool false)))])
 .ret))))))
def af50 : AFun := ⟨.mut, 1, 50, body50, [.t 4]⟩

/-- (*umpirage/super.search).into -/
def body51 : ACode := (.seq (.region none [
 qo 6 (.mov (.c (.bool false)))])
 (.seq (.region none [
 qm 27 0, qo 28 (.ncheck (.t 27)), qf 3 29 28, ql 1 30 29, qm 31 1, qi 1 32 30 31, qL 1 33 32, qc 34 32 [(.t 33)], qo 7 (.halloc (.int .i64 0)), qs 1 7 34])
 (.seq (.region none [
 qm 35 0, qo 36 (.ncheck (.t 35)), qf 3 37 36, ql 1 38 37, qm 39 2, qi 1 40 38 39, qL 1 41 40, qo 42 (.mkfn 81 [(.t 7)]), qc 43 61 [(.t 41), (.t 42)], qo 8 (.lalloc (.agg [.nilSlice])), qs 1 8 43])
 (.seq (.region (some [0, 0, 2, 7, 15]) [
 ql 1 44 7, qL 1 45 8, qc 46 32 [(.t 45)], qo 47 (.max (.t 44) (.t 46) []), qm 9 47])
 (.seq (.seq (.region none [
 qm 48 9, qB .gtr 49 48 8])
 (.cond (.t 49)
 (.seq (.region none [
 qm 50 0, qo 51 (.ncheck (.t 50)), qf 6 52 51, ⟨none, .store 1 (.t 52) (.c (.bool true)), none, []⟩])
 (.seq (.region none [
 qo 6 (.mov (.c (.bool false)))])
 .ret))
 .skip))
 (.seq (.region none [
 qm 53 0, qo 54 (.ncheck (.t 53)), qf 3 55 54, ql 1 56 55, qm 57 2, qi 1 58 56 57, qL 1 59 58, qc 60 32 [(.t 59)], qo 61 (.mkslice 2 32 (.agg [(.int .i64 0), .nilSlice]) (.t 60) (.t 60)), qm 10 61])
 (.seq (.seq (.region none [
 qm 62 10, qn 63 62, qk 64 0])
 (.block 0
 (.loop (.seq (.region none [
 qb .lss 65 64 63])
 (.seq (.cond (.t 65)
 .skip
 (.exit 0))
 (.seq (.block 1
 (.seq (.region none [
 qm 66 64, qm 11 66])
 (.region none [
 qm 67 10, qm 68 11, qm 69 11, qo 70 (.un .neg (.t 69)), qB .sub 71 70 1, ql 1 72 7, qb .sub 73 71 72, qo 74 (.build [(.int .i64 0), .nilSlice] [(0, 1, (.t 73))]), qi 2 75 67 68, qs 2 75 74])))
 (.region none [
 qB .add 76 64 1, qm 64 76])))))))
 (.seq (.seq (.region none [
 ⟨some 77, .mov (.t 0), none, [(false, 10)]⟩, qo 78 (.ncheck (.t 77)), qf 3 79 78, ql 1 80 79, qm 81 1, qi 1 82 80 81, qf 0 83 82, ql 1 84 83, qn 85 84, qk 86 0])
 (.block 2
 (.loop (.seq (.region none [
 qb .lss 87 86 85])
 (.seq (.cond (.t 87)
 .skip
 (.exit 2))
 (.seq (.block 3
 (.seq (.region none [
 qm 88 86, qi 5 89 84 86, qL 5 90 89, qo 13 (.lalloc (.agg [(.bool false), (.int .i64 0), .nilSlice, (.int .i64 0), .nilSlice])), qm 12 88, qs 5 13 90])
 (.seq (.seq (.region none [
 qf 0 91 13, ql 1 92 91])
 (.cond (.t 92)
 (.exit 3)
 .skip))
 (.seq (.region none [
 qo 93 (.build [(.bool false), (.bool false)] [(0, 1, (.c (.bool false))), (1, 1, (.c (.bool true)))]), qk 94 0])
 (.block 4
 (.loop (.seq (.region none [
 qB .lss 95 94 2])
 (.seq (.cond (.t 95)
 .skip
 (.exit 4))
 (.seq (.block 5
 (.seq (.region none [
 qo 96 (.indexA 2 1 false (.t 93) (.t 94)), qm 15 96])
 (.seq (.region (some [0, 1, 0, 4, 0, 0, 51, 127]) [
 qf 1 97 13, qL 2 98 97, qf 3 99 13, qL 2 100 99, qo 16 (.lalloc (.agg [(.int .i64 0), .nilSlice])), qo 17 (.lalloc (.agg [(.int .i64 0), .nilSlice])), qs 2 16 98, qs 2 17 100])
 (.seq (.seq (.region none [
 qm 101 15])
 (.cond (.t 101)
 (.region none [
 qL 2 102 17, qL 2 103 16, qs 2 16 102, qs 2 17 103])
 .skip))
 (.seq (.seq (.region none [
 qf 0 104 16, ql 1 105 104, qB .lss 106 105 0, qm 107 106, qg 107 false 108 (.load 2 true (.t 17)), qg 107 false 109 (.load 2 true (.t 16)), qg 107 false 110 (.call (.c (.clo 73 [])) [(.t 108), (.t 109)]), qo 111 (.pick (.t 107) (.c (.bool true)) (.t 110))])
 (.cond (.t 111)
 (.exit 5)
 .skip))
 (.seq (.region none [
 qf 0 112 8, ql 1 113 112, qn 114 113, qk 115 0])
 (.block 6
 (.loop (.seq (.region none [
 qb .lss 116 115 114])
 (.seq (.cond (.t 116)
 .skip
 (.exit 6))
 (.seq (.block 7
 (.seq (.region none [
 qm 117 115, qi 5 118 113 115, qL 5 119 118, qo 19 (.lalloc (.agg [(.bool false), (.int .i64 0), .nilSlice, (.int .i64 0), .nilSlice])), qm 18 117, qs 5 19 119])
 (.seq (.region none [
 qf 1 120 19, qL 2 121 120, qf 3 122 19, qL 2 123 122, qo 124 (.build [(.int .i64 0), .nilSlice, (.int .i64 0), .nilSlice] [(0, 2, (.t 121)), (2, 2, (.t 123))]), qk 125 0])
 (.block 8
 (.loop (.seq (.region none [
 qB .lss 126 125 2])
 (.seq (.cond (.t 126)
 .skip
 (.exit 8))
 (.seq (.block 9
 (.seq (.region none [
 qm 127 125, qo 128 (.indexA 2 2 true (.t 124) (.t 125)), qo 21 (.lalloc (.agg [(.int .i64 0), .nilSlice])), qm 20 127, qs 2 21 128])
 (.seq (.region none [
 qL 2 129 21, qc 130 74 [(.t 129), (.c .nilSlice)], qn 131 130, qk 132 0])
 (.block 10
 (.loop (.seq (.region none [
 qb .lss 133 132 131])
 (.seq (.cond (.t 133)
 .skip
 (.exit 10))
 (.seq (.block 11
 (.seq (.region none [
 qi 1 134 130 132, ql 1 135 134, qm 23 135])
 (.seq (.region (some [0, 0, 0, 6, 0, 31, 63, 127, 127, 127, 255, 1535, 4095]) [
 qL 2 137 16, qL 2 138 21, qm 139 23, qc 140 76 [(.t 138), (.t 139)], qm 141 9, qc 142 79 [(.t 137), (.t 140), (.t 141)], qm 136 142, qe 0 143 136, qe 1 144 136, qe 2 145 136, qm 24 143, qm 25 144, qm 26 145])
 (.seq (.seq (.region none [
 qm 146 26, qo 147 (.un .not (.t 146))])
 (.cond (.t 147)
 (.region none [
 qm 148 0, qo 149 (.ncheck (.t 148)), qf 6 150 149, ⟨none, .store 1 (.t 150) (.c (.bool true)), none, []⟩])
 .skip))
 (.seq (.seq (.region none [
 qm 151 25, qo 152 (.un .not (.t 151)), qm 153 152, qg 153 false 154 (.mov (.t 26)), qg 153 false 155 (.un .not (.t 154)), qo 156 (.pick (.t 153) (.c (.bool true)) (.t 155))])
 (.cond (.t 156)
 (.exit 11)
 .skip))
 (.seq (.region none [
 qm 157 0, qm 158 1, qm 159 2, qm 160 10, qm 161 24, qm 162 12, qm 163 18, qm 164 15, qm 165 20, qB .add 166 165 1, qo 167 (.bslice true 1 1 [(.int .i64 0)] [(0, 1, (.t 166))]), qm 168 23, qo 169 (.append true 1 8 (.t 167) (.t 168)), qo 170 (.build [(.int .i64 0), (.int .i64 0), (.int .i64 0), (.int .i64 0), (.int .i64 0), (.bool false), .nilSlice, .nilSlice] [(0, 1, (.c (.int .i64 3))), (3, 1, (.t 162)), (4, 1, (.t 163)), (5, 1, (.t 164)), (6, 1, (.t 169))]), qc 171 83 [(.t 157), (.t 158), (.t 159), (.t 160), (.t 161), (.t 170)]])
 (.cond (.t 171)
 (.seq (.region none [
 qo 6 (.mov (.c (.bool true)))])
 .ret)
 .skip)))))))
 (.region none [
 qB .add 172 132 1, qm 132 172])))))))))
 (.region none [
 qB .add 173 125 1, qm 125 173])))))))))
 (.region none [
 qB .add 174 115 1, qm 115 174]))))))))))))
 (.region none [
 qB .add 175 94 1, qm 94 175]))))))))))
 (.region none [
 qB .add 176 86 1, qm 86 176])))))))
 (.seq (.region none [
 qo 6 (.mov (.c (.bool false)))])
 .ret)))))))))
def af51 : AFun := ⟨.mut, 1, 51, body51, [.t 6]⟩

/-- umpirage/umpirageref7.Size -/
def body52 : ACode := (.seq (.region none [
 qx 1 0, qk 2 0])
 (.seq (.region none [
 qk 3 1])
 (.seq (.seq (.region none [
 qk 4 0])
 (.block 0
 (.loop (.seq (.seq (.region none [
 qm 5 4, qf 1 6 1, ql 1 7 6, qn 8 7, qb .lss 9 5 8])
 (.cond (.t 9)
 .skip
 (.exit 0)))
 (.seq (.block 1
 (.region none [
 qm 12 3, qf 1 13 1, ql 1 14 13, qm 15 4, qi 2 16 14 15, qL 2 17 16, qc 18 52 [(.t 17)], qb .add 19 12 18, qm 3 19]))
 (.region none [
 qm 10 4, qB .add 11 10 1, qm 4 11]))))))
 (.seq (.region none [
 qm 20 3, qm 2 20])
 .ret))))
def af52 : AFun := ⟨.pure, 1, 52, body52, [.t 2]⟩

/-- umpirage/umpirageref7.Tree -/
def body53 : ACode := (.seq (.region none [
 qx 1 0, qo 2 (.lalloc (.agg [(.int .i64 0), (.int .i64 0)]))])
 (.seq (.seq (.region none [
 qL 2 5 1, qc 6 52 [(.t 5)], qB .gtr 7 6 40])
 (.cond (.t 7)
 (.seq (.region none [
 qc 8 27 [(.c (.int .i64 2)), (.c (.int .i64 0))], qs 2 2 8])
 .ret)
 .skip))
 (.seq (.seq (.region none [
 qL 2 9 1, qc 10 84 [(.t 9)], qB .gtr 11 10 12])
 (.cond (.t 11)
 (.seq (.region none [
 qc 12 27 [(.c (.int .i64 10)), (.c (.int .i64 0))], qs 2 2 12])
 .ret)
 .skip))
 (.seq (.region none [
 qL 2 14 1, qc 15 85 [(.t 14), (.c (.int .i64 0))], qm 13 15, qe 0 16 13, qe 1 17 13, qo 3 (.lalloc (.agg [(.int .i64 0), (.int .i64 0)])), qs 2 3 16, qm 4 17])
 (.seq (.region none [
 qL 2 18 3, qs 2 2 18])
 .ret)))))
def af53 : AFun := ⟨.pure, 1, 53, body53, [.cell 2 2 true]⟩

/-- umpirage/umpirageref7.signs -/
def body54 : ACode := (.seq (.region none [
 qx 2 0, qk 4 0])
 (.seq (.seq (.region none [
 qf 0 7 2, ql 1 8 7, qm 9 1, qn 10 9, qb .gtr 11 8 10])
 (.cond (.t 11)
 (.seq (.region none [
 qk 4 12])
 .ret)
 .skip))
 (.seq (.seq (.region (some [0, 1, 3, 7, 15, 31, 63, 15, 15, 271, 783, 1935, 3983, 8191, 16383]) [
 qf 0 12 2, ql 1 13 12, qB .gtr 14 13 0, qm 15 14, qg 15 true 16 (.faddr 1 (.t 2)), qg 15 true 17 (.load 1 false (.t 16)), qg 15 true 18 (.len (.t 17)), qg 15 true 19 (.mov (.t 1)), qg 15 true 20 (.faddr 0 (.t 2)), qg 15 true 21 (.load 1 false (.t 20)), qg 15 true 22 (.bin .sub (.t 21) (.c (.int .i64 1))), qg 15 true 23 (.iaddr 1 (.t 19) (.t 22)), qg 15 true 24 (.load 1 false (.t 23)), qg 15 true 25 (.bin .neq (.t 18) (.t 24)), qo 26 (.pick (.t 15) (.t 25) (.c (.bool false)))])
 (.cond (.t 26)
 (.seq (.region none [
 qk 4 9])
 .ret)
 .skip))
 (.seq (.seq (.region none [
 qk 5 0])
 (.block 0
 (.loop (.seq (.seq (.region none [
 qm 27 5, qf 1 28 2, ql 1 29 28, qn 30 29, qb .lss 31 27 30])
 (.cond (.t 31)
 .skip
 (.exit 0)))
 (.seq (.block 1
 (.seq (.region none [
 qf 1 34 2, ql 1 35 34, qm 36 5, qi 2 37 35 36, qL 2 38 37, qm 39 1, qc 40 54 [(.t 38), (.t 39)], qm 6 40])
 (.seq (.region none [
 qm 41 6, qB .neq 42 41 0])
 (.cond (.t 42)
 (.seq (.region none [
 qm 43 6, qm 4 43])
 .ret)
 .skip))))
 (.region none [
 qm 32 5, qB .add 33 32 1, qm 5 33]))))))
 (.seq (.region none [
 qk 4 0])
 .ret)))))
def af54 : AFun := ⟨.pure, 1, 54, body54, [.t 4]⟩

/-- umpirage/eltool.Most -/
def body55 : ACode := (.seq (.region none [
 qx 1 0, qk 2 0])
 (.seq (.region none [
 qf 0 6 1, ql 1 7 6, qo 8 (.un .neg (.t 7)), qo 9 (.max (.c (.int .i64 0)) (.t 8) []), qm 3 9])
 (.seq (.seq (.region none [
 qf 1 10 1, ql 1 11 10, qn 12 11, qk 13 0])
 (.block 0
 (.loop (.seq (.region none [
 qb .lss 14 13 12])
 (.seq (.cond (.t 14)
 .skip
 (.exit 0))
 (.seq (.block 1
 (.seq (.region none [
 qi 2 15 11 13, qL 2 16 15, qo 5 (.lalloc (.agg [(.int .i64 0), .nilSlice])), qs 2 5 16])
 (.region none [
 qm 17 3, qL 2 18 5, qc 19 55 [(.t 18)], qo 20 (.max (.t 17) (.t 19) []), qm 3 20])))
 (.region none [
 qB .add 21 13 1, qm 13 21])))))))
 (.seq (.region none [
 qm 22 3, qm 2 22])
 .ret))))
def af55 : AFun := ⟨.pure, 1, 55, body55, [.t 2]⟩

/-- (*umpirage/find.finder).broken -/
def body56 : ACode := (.seq (.region none [
 qx 4 1, qo 6 (.mov (.c (.bool false)))])
 (.seq (.seq (.region none [
 qf 0 11 4, ql 1 12 11, qn 13 12, qk 14 0])
 (.block 0
 (.loop (.seq (.region none [
 qb .lss 15 14 13])
 (.seq (.cond (.t 15)
 .skip
 (.exit 0))
 (.seq (.block 1
 (.seq (.region none [
 qi 5 16 12 14, qL 5 17 16, qo 8 (.lalloc (.agg [(.bool false), (.int .i64 0), .nilSlice, (.int .i64 0), .nilSlice])), qs 5 8 17])
 (.seq (.region (some [0, 0, 2, 0, 15, 0, 0, 64, 0, 511, 1023, 2047]) [
 qm 18 0, qf 1 19 8, qL 2 20 19, qm 21 2, qc 22 86 [(.t 18), (.t 20), (.t 21)], qm 23 0, qf 3 24 8, qL 2 25 24, qm 26 2, qc 27 86 [(.t 23), (.t 25), (.t 26)], qm 9 22, qm 10 27])
 (.seq (.region none [
 qm 28 9, qB .lss 29 28 0, qm 30 29, qg 30 false 31 (.mov (.t 10)), qg 30 false 32 (.bin .lss (.t 31) (.c (.int .i64 0))), qo 33 (.pick (.t 30) (.c (.bool true)) (.t 32)), qm 34 33, qg 34 false 35 (.mov (.t 9)), qg 34 false 36 (.mov (.t 10)), qg 34 false 37 (.bin .eql (.t 35) (.t 36)), qg 34 false 38 (.faddr 0 (.t 8)), qg 34 false 39 (.load 1 false (.t 38)), qg 34 false 40 (.eqb true (.t 37) (.t 39)), qo 41 (.pick (.t 34) (.c (.bool true)) (.t 40))])
 (.cond (.t 41)
 (.seq (.region none [
 qo 6 (.mov (.c (.bool false)))])
 .ret)
 .skip)))))
 (.region none [
 qB .add 42 14 1, qm 14 42])))))))
 (.seq (.region none [
 qo 6 (.mov (.c (.bool true)))])
 .ret)))
def af56 : AFun := ⟨.pure, 1, 56, body56, [.t 6]⟩

/-- umpirage/table.True -/
def body57 : ACode := (.seq (.region none [
 qx 3 0, qx 4 1, qo 6 (.mov (.c (.bool false)))])
 (.seq (.seq (.region none [
 qf 0 9 4, ql 1 10 9, qn 11 10, qk 12 0])
 (.block 0
 (.loop (.seq (.region none [
 qb .lss 13 12 11])
 (.seq (.cond (.t 13)
 .skip
 (.exit 0))
 (.seq (.block 1
 (.seq (.region none [
 qi 5 14 10 12, qL 5 15 14, qo 8 (.lalloc (.agg [(.bool false), (.int .i64 0), .nilSlice, (.int .i64 0), .nilSlice])), qs 5 8 15])
 (.seq (.region (some [0, 0, 2, 0, 15, 0, 0, 64, 0, 511, 1023, 0, 2048, 8191]) [
 qL 2 16 3, qf 1 17 8, qL 2 18 17, qm 19 2, qc 20 87 [(.t 16), (.t 18), (.t 19)], qL 2 21 3, qf 3 22 8, qL 2 23 22, qm 24 2, qc 25 87 [(.t 21), (.t 23), (.t 24)], qb .eql 26 20 25, qf 0 27 8, ql 1 28 27, qo 29 (.eqb true (.t 26) (.t 28))])
 (.cond (.t 29)
 (.seq (.region none [
 qo 6 (.mov (.c (.bool true)))])
 .ret)
 .skip))))
 (.region none [
 qB .add 30 12 1, qm 12 30])))))))
 (.seq (.region none [
 qo 6 (.mov (.c (.bool false)))])
 .ret)))
def af57 : AFun := ⟨.pure, 1, 57, body57, [.t 6]⟩

/-- umpirage/eltool.Deep -/
def body58 : ACode := (.seq (.region none [
 qx 1 0, qk 2 0])
 (.seq (.region none [
 qk 3 0])
 (.seq (.seq (.region none [
 qf 1 6 1, ql 1 7 6, qn 8 7, qk 9 0])
 (.block 0
 (.loop (.seq (.region none [
 qb .lss 10 9 8])
 (.seq (.cond (.t 10)
 .skip
 (.exit 0))
 (.seq (.block 1
 (.seq (.region none [
 qi 2 11 7 9, qL 2 12 11, qo 5 (.lalloc (.agg [(.int .i64 0), .nilSlice])), qs 2 5 12])
 (.region none [
 qm 13 3, qL 2 14 5, qc 15 58 [(.t 14)], qo 16 (.max (.t 13) (.t 15) []), qm 3 16])))
 (.region none [
 qB .add 17 9 1, qm 9 17])))))))
 (.seq (.region none [
 qm 18 3, qB .add 19 18 1, qm 2 19])
 .ret))))
def af58 : AFun := ⟨.pure, 1, 58, body58, [.t 2]⟩

/-- umpirage/tree.node -/
def body59 : ACode := (.seq (.region none [
 qx 2 0, qk 4 0, qo 5 (.mov (.c (.bool false)))])
 (.seq (.block 0
 (.seq (.region none [
 qf 0 11 2, ql 1 12 11, qB .eql 13 12 0, qm 14 13, qg 14 false 15 (.faddr 0 (.t 2)), qg 14 false 16 (.load 1 false (.t 15)), qg 14 false 17 (.call (.c (.clo 17 [])) [(.t 16), (.c (.int .i64 (-8))), (.c (.int .i64 12))]), qg 14 false 18 (.un .not (.t 17)), qo 19 (.pick (.t 14) (.c (.bool true)) (.t 18)), qm 10 19])
 (.cond (.t 10)
 (.seq (.region none [
 qk 4 3, qo 5 (.mov (.c (.bool false)))])
 .ret)
 (.seq (.region none [
 qf 1 21 2, ql 1 22 21, qn 23 22, qB .gtr 24 23 3, qm 25 24, qg 25 false 26 (.faddr 0 (.t 2)), qg 25 false 27 (.load 1 false (.t 26)), qg 25 false 28 (.bin .lss (.t 27) (.c (.int .i64 0))), qg 25 false 29 (.mov (.t 28)), qg 29 true 30 (.faddr 1 (.t 2)), qg 29 true 31 (.load 1 false (.t 30)), qg 29 true 32 (.len (.t 31)), qg 29 true 33 (.bin .gtr (.t 32) (.c (.int .i64 0))), qg 25 false 34 (.pick (.t 29) (.t 33) (.c (.bool false))), qo 35 (.pick (.t 25) (.c (.bool true)) (.t 34)), qm 20 35])
 (.cond (.t 20)
 (.seq (.region none [
 qk 4 9, qo 5 (.mov (.c (.bool false)))])
 .ret)
 .skip)))))
 (.seq (.seq (.region none [
 qf 1 36 2, ql 1 37 36, qn 38 37, qk 39 0])
 (.block 1
 (.loop (.seq (.region none [
 qb .lss 40 39 38])
 (.seq (.cond (.t 40)
 .skip
 (.exit 1))
 (.seq (.block 2
 (.seq (.region none [
 qi 2 41 37 39, qL 2 42 41, qo 7 (.lalloc (.agg [(.int .i64 0), .nilSlice])), qs 2 7 42])
 (.seq (.region none [
 qm 43 1, qo 44 (.ncheck (.t 43)), ql 1 45 44, qB .add 46 45 1, qo 47 (.ncheck (.t 43)), qs 1 47 46])
 (.seq (.region none [
 qL 2 49 7, qm 50 1, qc 51 59 [(.t 49), (.t 50)], qm 48 51, qe 0 52 48, qe 1 53 48, qm 8 52, qm 9 53])
 (.seq (.region none [
 qm 54 9, qo 55 (.un .not (.t 54))])
 (.cond (.t 55)
 (.seq (.region none [
 qm 56 8, qm 4 56, qo 5 (.mov (.c (.bool false)))])
 .ret)
 .skip))))))
 (.region none [
 qB .add 57 39 1, qm 39 57])))))))
 (.seq (.region none [
 qk 4 0, qo 5 (.mov (.c (.bool true)))])
 .ret))))
def af59 : AFun := ⟨.mut, 1, 59, body59, [.t 4, .t 5]⟩

/-- umpirage/tree.Bind -/
def body60 : ACode := (.seq (.region none [
 qo 2 (.lalloc (.agg [(.int .i64 0), (.int .i64 0)]))])
 (.seq (.seq (.region none [
 qm 6 0, qn 7 6, qB .gtr 8 7 8])
 (.cond (.t 8)
 (.seq (.region none [
 qc 9 18 [(.c (.int .i64 2)), (.c (.int .i64 (-1)))], qs 2 2 9])
 .ret)
 .skip))
 (.seq (.seq (.region none [
 qm 10 0, qn 11 10, qk 12 0])
 (.block 0
 (.loop (.seq (.region none [
 qb .lss 13 12 11])
 (.seq (.cond (.t 13)
 .skip
 (.exit 0))
 (.seq (.block 1
 (.seq (.region none [
 qm 14 12, qi 2 15 10 12, qL 2 16 15, qo 4 (.lalloc (.agg [(.int .i64 0), .nilSlice])), qm 3 14, qs 2 4 16])
 (.seq (.seq (.region none [
 qf 0 17 4, ql 1 18 17, qB .eql 19 18 0])
 (.cond (.t 19)
 (.seq (.seq (.region none [
 qf 1 20 4, ql 1 21 20, qn 22 21, qB .gtr 23 22 0])
 (.cond (.t 23)
 (.seq (.region none [
 qm 24 3, qo 25 (.bin .sub (.c (.int .i64 (-1))) (.t 24)), qc 26 18 [(.c (.int .i64 5)), (.t 25)], qs 2 2 26])
 .ret)
 .skip))
 (.exit 1))
 .skip))
 (.seq (.region none [
 qL 2 27 4, qc 28 38 [(.t 27)], qo 5 (.lalloc (.agg [(.int .i64 0), (.int .i64 0)])), qs 2 5 28])
 (.seq (.region none [
 qL 2 29 5, qo 30 (.build [(.int .i64 0), (.int .i64 0)] []), qo 31 (.eqs [0, 0] true (.t 29) (.t 30))])
 (.cond (.t 31)
 (.seq (.region none [
 qf 0 32 5, ql 1 33 32, qm 34 3, qo 35 (.bin .sub (.c (.int .i64 (-1))) (.t 34)), qc 36 18 [(.t 33), (.t 35)], qs 2 2 36])
 .ret)
 .skip))))))
 (.region none [
 qB .add 37 12 1, qm 12 37])))))))
 (.seq (.region none [
 qo 38 (.build [(.int .i64 0), (.int .i64 0)] []), qs 2 2 38])
 .ret))))
def af60 : AFun := ⟨.pure, 1, 60, body60, [.cell 2 2 true]⟩

/-- umpirage/eltool.Claim -/
def body61 : ACode := (.seq (.region none [
 qx 2 0, qo 4 (.lalloc (.agg [.nilSlice]))])
 (.seq (.region none [
 qo 5 (.lalloc (.agg [.nilSlice]))])
 (.seq (.seq (.region none [
 qf 0 8 2, ql 1 9 8, qn 10 9, qk 11 0])
 (.block 0
 (.loop (.seq (.region none [
 qb .lss 12 11 10])
 (.seq (.cond (.t 12)
 .skip
 (.exit 0))
 (.seq (.block 1
 (.seq (.region none [
 qi 5 13 9 11, qL 5 14 13, qo 7 (.lalloc (.agg [(.bool false), (.int .i64 0), .nilSlice, (.int .i64 0), .nilSlice])), qs 5 7 14])
 (.region (some [0, 1, 0, 4, 0, 0, 32, 112, 0, 0, 512, 2032, 4092, 8188, 16383, 32767, 65535]) [
 qf 0 15 5, ql 1 16 15, qf 0 17 7, ql 1 18 17, qm 19 1, qf 1 20 7, qL 2 21 20, qo 22 (.call (.t 19) [(.t 21)]), qm 23 1, qf 3 24 7, qL 2 25 24, qo 26 (.call (.t 23) [(.t 25)]), qo 27 (.build [(.bool false), (.int .i64 0), .nilSlice, (.int .i64 0), .nilSlice] [(0, 1, (.t 18)), (1, 2, (.t 22)), (3, 2, (.t 26))]), qo 28 (.bslice false 5 1 [(.bool false), (.int .i64 0), .nilSlice, (.int .i64 0), .nilSlice] [(0, 5, (.t 27))]), qo 29 (.append false 5 72 (.t 16) (.t 28)), qf 0 30 5, qs 1 30 29])))
 (.region none [
 qB .add 31 11 1, qm 11 31])))))))
 (.seq (.region none [
 qL 1 32 5, qs 1 4 32])
 .ret))))
def af61 : AFun := ⟨.pure, 1, 61, body61, [.cell 4 1 true]⟩

/-- umpirage/eltool.Claim -/
def body1061 : ACode := (.seq (.region none [
 qx 2 0, qo 4 (.lalloc (.agg [.nilSlice]))])
 (.seq (.region none [
 qo 5 (.lalloc (.agg [.nilSlice]))])
 (.seq (.seq (.region none [
 qf 0 8 2, ql 1 9 8, qn 10 9, qk 11 0])
 (.block 0
 (.loop (.seq (.region none [
 qb .lss 12 11 10])
 (.seq (.cond (.t 12)
 .skip
 (.exit 0))
 (.seq (.block 1
 (.seq (.region none [
 qi 5 13 9 11, qL 5 14 13, qo 7 (.lalloc (.agg [(.bool false), (.int .i64 0), .nilSlice, (.int .i64 0), .nilSlice])), qs 5 7 14])
 (.region (some [0, 1, 0, 4, 0, 0, 32, 112, 0, 0, 512, 2032, 4092, 8188, 16383, 32767, 65535]) [
 qf 0 15 5, ql 1 16 15, qf 0 17 7, ql 1 18 17, qm 19 1, qf 1 20 7, qL 2 21 20, qo 22 (.call (.t 19) [(.t 21)]), qm 23 1, qf 3 24 7, qL 2 25 24, qo 26 (.call (.t 23) [(.t 25)]), qo 27 (.build [(.bool false), (.int .i64 0), .nilSlice, (.int .i64 0), .nilSlice] [(0, 1, (.t 18)), (1, 2, (.t 22)), (3, 2, (.t 26))]), qo 28 (.bslice false 5 1 [(.bool false), (.int .i64 0), .nilSlice, (.int .i64 0), .nilSlice] [(0, 5, (.t 27))]), qo 29 (.append false 5 72 (.t 16) (.t 28)), qf 0 30 5, qs 1 30 29])))
 (.region none [
 qB .add 31 11 1, qm 11 31])))))))
 (.seq (.region none [
 qL 1 32 5, qs 1 4 32])
 .ret))))
def af1061 : AFun := ⟨.mutf, 1, 61, body1061, [.cell 4 1 true]⟩

/-- umpirage/trace.Next$1 -/
def body62 : ACode := (.seq (.region none [
 qx 2 0, qo 3 (.lalloc (.agg [(.int .i64 0), .nilSlice]))])
 (.seq (.region none [
 qL 2 4 2, qf 7 5 1, ql 1 6 5, qc 7 63 [(.t 4), (.t 6)], qs 2 3 7])
 .ret))
def af62 : AFun := ⟨.pure, 1, 62, body62, [.cell 3 2 true]⟩

/-- umpirage/eltool.Bound -/
def body63 : ACode := (.seq (.region none [
 qx 2 0, qo 4 (.lalloc (.agg [(.int .i64 0), .nilSlice]))])
 (.seq (.seq (.region none [
 qf 0 9 2, ql 1 10 9, qB .lss 11 10 0])
 (.cond (.t 11)
 (.seq (.seq (.region none [
 qf 0 12 2, ql 1 13 12, qo 14 (.un .neg (.t 13)), qB .sub 15 14 1, qm 5 15])
 (.seq (.region none [
 qm 16 5, qm 17 1, qn 18 17, qb .lss 19 16 18, qm 20 19, qg 20 true 21 (.mov (.t 1)), qg 20 true 22 (.mov (.t 5)), qg 20 true 23 (.iaddr 2 (.t 21) (.t 22)), qg 20 true 24 (.faddr 0 (.t 23)), qg 20 true 25 (.load 1 false (.t 24)), qg 20 true 26 (.bin .neq (.t 25) (.c (.int .i64 0))), qo 27 (.pick (.t 20) (.t 26) (.c (.bool false)))])
 (.cond (.t 27)
 (.seq (.region none [
 qm 28 1, qm 29 5, qi 2 30 28 29, qL 2 31 30, qc 32 66 [(.t 31)], qs 2 4 32])
 .ret)
 .skip)))
 (.seq (.region none [
 qL 2 33 2, qs 2 4 33])
 .ret))
 .skip))
 (.seq (.region none [
 qf 0 34 2, ql 1 35 34, qo 36 (.build [(.int .i64 0), .nilSlice] [(0, 1, (.t 35))]), qo 6 (.lalloc (.agg [(.int .i64 0), .nilSlice])), qs 2 6 36])
 (.seq (.seq (.region none [
 qf 1 37 2, ql 1 38 37, qn 39 38, qk 40 0])
 (.block 0
 (.loop (.seq (.region none [
 qb .lss 41 40 39])
 (.seq (.cond (.t 41)
 .skip
 (.exit 0))
 (.seq (.block 1
 (.seq (.region none [
 qi 2 42 38 40, qL 2 43 42, qo 8 (.lalloc (.agg [(.int .i64 0), .nilSlice])), qs 2 8 43])
 (.region (some [0, 1, 0, 0, 12, 28, 63, 127, 255]) [
 qf 1 44 6, ql 1 45 44, qL 2 46 8, qm 47 1, qc 48 63 [(.t 46), (.t 47)], qo 49 (.bslice false 2 1 [(.int .i64 0), .nilSlice] [(0, 2, (.t 48))]), qo 50 (.append false 2 32 (.t 45) (.t 49)), qf 1 51 6, qs 1 51 50])))
 (.region none [
 qB .add 52 40 1, qm 40 52])))))))
 (.seq (.region none [
 qL 2 53 6, qs 2 4 53])
 .ret)))))
def af63 : AFun := ⟨.pure, 1, 63, body63, [.cell 4 2 true]⟩

/-- umpirage/trace.right -/
def body64 : ACode := (.seq (.region none [
 qx 3 0, qx 4 1, qx 5 2, qo 6 (.lalloc (.agg [.nilSlice])), qk 7 0])
 (.seq (.seq (.region none [
 qf 3 14 3, ql 1 15 14, qf 0 16 4, ql 1 17 16, qn 18 17, qB .sub 19 18 1, qc 20 17 [(.t 15), (.c (.int .i64 0)), (.t 19)], qo 21 (.un .not (.t 20)), qm 22 21, qg 22 false 23 (.faddr 4 (.t 3)), qg 22 false 24 (.load 1 false (.t 23)), qg 22 false 25 (.faddr 0 (.t 5)), qg 22 false 26 (.load 1 false (.t 25)), qg 22 false 27 (.len (.t 26)), qg 22 false 28 (.bin .sub (.t 27) (.c (.int .i64 1))), qg 22 false 29 (.call (.c (.clo 17 [])) [(.t 24), (.c (.int .i64 0)), (.t 28)]), qg 22 false 30 (.un .not (.t 29)), qo 31 (.pick (.t 22) (.c (.bool true)) (.t 30))])
 (.cond (.t 31)
 (.seq (.region none [
 qo 32 (.build [.nilSlice] []), qs 1 6 32, qk 7 3])
 .ret)
 .skip))
 (.seq (.region none [
 qf 0 33 4, ql 1 34 33, qf 3 35 3, ql 1 36 35, qi 5 37 34 36, qL 5 38 37, qo 8 (.lalloc (.agg [(.bool false), (.int .i64 0), .nilSlice, (.int .i64 0), .nilSlice])), qs 5 8 38])
 (.seq (.seq (.region none [
 qf 0 39 8, ql 1 40 39])
 (.cond (.t 40)
 (.seq (.region none [
 qo 41 (.build [.nilSlice] []), qs 1 6 41, qk 7 5])
 .ret)
 .skip))
 (.seq (.region (some [0, 1, 0, 4, 0, 0, 51, 127]) [
 qf 1 42 8, qL 2 43 42, qf 3 44 8, qL 2 45 44, qo 9 (.lalloc (.agg [(.int .i64 0), .nilSlice])), qo 10 (.lalloc (.agg [(.int .i64 0), .nilSlice])), qs 2 9 43, qs 2 10 45])
 (.seq (.seq (.region none [
 qf 5 46 3, ql 1 47 46])
 (.cond (.t 47)
 (.region none [
 qL 2 48 10, qL 2 49 9, qs 2 9 48, qs 2 10 49])
 .skip))
 (.seq (.region (some [0, 1, 0, 4, 15, 31, 0, 64, 255, 511, 1023, 1023, 0, 6143, 16383]) [
 qf 0 51 5, ql 1 52 51, qf 4 53 3, ql 1 54 53, qi 5 55 52 54, qL 5 56 55, qf 6 57 3, ql 1 58 57, qc 59 88 [(.t 56), (.t 58)], qm 50 59, qe 0 60 50, qe 1 61 50, qo 11 (.lalloc (.agg [(.int .i64 0), .nilSlice])), qs 2 11 60, qm 12 61])
 (.seq (.block 0
 (.seq (.region none [
 qm 63 12, qo 64 (.un .not (.t 63)), qm 62 64])
 (.cond (.t 62)
 (.seq (.region none [
 qo 65 (.build [.nilSlice] []), qs 1 6 65, qk 7 6])
 .ret)
 (.seq (.region none [
 qL 2 67 11, qL 2 68 9, qc 69 72 [(.t 67), (.t 68)], qo 70 (.un .not (.t 69)), qm 66 70])
 (.cond (.t 66)
 (.seq (.region none [
 qo 71 (.build [.nilSlice] []), qs 1 6 71, qk 7 11])
 .ret)
 .skip)))))
 (.seq (.region none [
 qo 72 (.build [.nilSlice] []), qo 13 (.lalloc (.agg [.nilSlice])), qs 1 13 72])
 (.seq (.region (some [0, 1, 0, 4, 0, 16, 60, 127, 0, 256, 0, 1024, 3072, 7936, 16383, 32767, 65535]) [
 qf 0 73 13, ql 1 74 73, qf 0 75 4, ql 1 76 75, qf 3 77 3, ql 1 78 77, qo 79 (.slice 5 (.t 76) none (some (.t 78))), qo 80 (.append false 5 72 (.t 74) (.t 79)), qf 0 81 4, ql 1 82 81, qf 3 83 3, ql 1 84 83, qB .add 85 84 1, qo 86 (.slice 5 (.t 82) (some (.t 85)) none), qo 87 (.append false 5 72 (.t 80) (.t 86)), qf 0 88 13, qs 1 88 87])
 (.seq (.region (some [0, 1, 0, 4, 0, 16, 60, 127, 0, 256, 0, 1024, 3072, 7936, 16383, 32767, 65535]) [
 qf 0 89 13, ql 1 90 89, qf 0 91 5, ql 1 92 91, qf 4 93 3, ql 1 94 93, qo 95 (.slice 5 (.t 92) none (some (.t 94))), qo 96 (.append false 5 72 (.t 90) (.t 95)), qf 0 97 5, ql 1 98 97, qf 4 99 3, ql 1 100 99, qB .add 101 100 1, qo 102 (.slice 5 (.t 98) (some (.t 101)) none), qo 103 (.append false 5 72 (.t 96) (.t 102)), qf 0 104 13, qs 1 104 103])
 (.seq (.region (some [0, 1, 0, 4, 0, 16, 60, 124, 0, 256, 0, 2044, 4092, 8191, 16383, 32767]) [
 qf 0 105 13, ql 1 106 105, qf 0 107 5, ql 1 108 107, qf 4 109 3, ql 1 110 109, qi 5 111 108 110, qL 5 112 111, qf 6 113 3, ql 1 114 113, qL 2 115 10, qc 116 89 [(.t 112), (.t 114), (.t 115)], qo 117 (.bslice false 5 1 [(.bool false), (.int .i64 0), .nilSlice, (.int .i64 0), .nilSlice] [(0, 5, (.t 116))]), qo 118 (.append false 5 72 (.t 106) (.t 117)), qf 0 119 13, qs 1 119 118])
 (.seq (.region none [
 qL 1 120 13, qs 1 6 120, qk 7 0])
 .ret)))))))))))))
def af64 : AFun := ⟨.pure, 1, 64, body64, [.cell 6 1 true, .t 7]⟩

/-- umpirage/trace.once -/
def body65 : ACode := (.seq (.region none [
 qx 1 0, qo 2 (.lalloc (.agg [.nilSlice]))])
 (.seq (.region none [
 qo 3 (.lalloc (.agg [.nilSlice]))])
 (.seq (.seq (.region none [
 qf 0 6 1, ql 1 7 6, qn 8 7, qk 9 0])
 (.block 0
 (.loop (.seq (.region none [
 qb .lss 10 9 8])
 (.seq (.cond (.t 10)
 .skip
 (.exit 0))
 (.seq (.block 1
 (.seq (.region none [
 qi 5 11 7 9, qL 5 12 11, qo 5 (.halloc (.agg [(.bool false), (.int .i64 0), .nilSlice, (.int .i64 0), .nilSlice])), qs 5 5 12])
 (.seq (.seq (.region none [
 qf 0 13 5, ql 1 14 13, qm 15 14, qg 15 true 16 (.faddr 1 (.t 5)), qg 15 true 17 (.load 2 true (.t 16)), qg 15 true 18 (.faddr 3 (.t 5)), qg 15 true 19 (.load 2 true (.t 18)), qg 15 true 20 (.call (.c (.clo 72 [])) [(.t 17), (.t 19)]), qo 21 (.pick (.t 15) (.t 20) (.c (.bool false))), qm 22 21, qg 22 false 23 (.faddr 0 (.t 3)), qg 22 false 24 (.load 1 false (.t 23)), qg 22 false 25 (.mkfn 90 [(.t 5)]), qg 22 false 26 (.call (.c (.clo 70 [])) [(.t 24), (.t 25)]), qo 27 (.pick (.t 22) (.c (.bool true)) (.t 26))])
 (.cond (.t 27)
 (.exit 1)
 .skip))
 (.region none [
 qf 0 28 3, ql 1 29 28, qL 5 30 5, qo 31 (.bslice false 5 1 [(.bool false), (.int .i64 0), .nilSlice, (.int .i64 0), .nilSlice] [(0, 5, (.t 30))]), qo 32 (.append false 5 72 (.t 29) (.t 31)), qf 0 33 3, qs 1 33 32]))))
 (.region none [
 qB .add 34 9 1, qm 9 34])))))))
 (.seq (.region none [
 qL 1 35 3, qs 1 2 35])
 .ret))))
def af65 : AFun := ⟨.pure, 1, 65, body65, [.cell 2 1 true]⟩

/-- umpirage/eltool.Copy -/
def body66 : ACode := (.seq (.region none [
 qx 1 0, qo 2 (.lalloc (.agg [(.int .i64 0), .nilSlice]))])
 (.seq (.region none [
 qf 0 6 1, ql 1 7 6, qo 8 (.build [(.int .i64 0), .nilSlice] [(0, 1, (.t 7))]), qo 3 (.lalloc (.agg [(.int .i64 0), .nilSlice])), qs 2 3 8])
 (.seq (.seq (.region none [
 qf 1 9 1, ql 1 10 9, qn 11 10, qk 12 0])
 (.block 0
 (.loop (.seq (.region none [
 qb .lss 13 12 11])
 (.seq (.cond (.t 13)
 .skip
 (.exit 0))
 (.seq (.block 1
 (.seq (.region none [
 qi 2 14 10 12, qL 2 15 14, qo 5 (.lalloc (.agg [(.int .i64 0), .nilSlice])), qs 2 5 15])
 (.region (some [0, 1, 0, 4, 12, 31, 63, 127]) [
 qf 1 16 3, ql 1 17 16, qL 2 18 5, qc 19 66 [(.t 18)], qo 20 (.bslice false 2 1 [(.int .i64 0), .nilSlice] [(0, 2, (.t 19))]), qo 21 (.append false 2 32 (.t 17) (.t 20)), qf 1 22 3, qs 1 22 21])))
 (.region none [
 qB .add 23 12 1, qm 12 23])))))))
 (.seq (.region none [
 qL 2 24 3, qs 2 2 24])
 .ret))))
def af66 : AFun := ⟨.pure, 1, 66, body66, [.cell 2 2 true]⟩

/-- umpirage/super.renaming$1 -/
def body67 : ACode := (.seq (.region none [
 qx 4 0])
 (.seq (.seq (.region none [
 qf 0 7 4, ql 1 8 7, qB .lss 9 8 0, qm 10 9, qg 10 true 11 (.load 1 false (.t 1)), qg 10 true 12 (.faddr 0 (.t 4)), qg 10 true 13 (.load 1 false (.t 12)), qg 10 true 14 (.un .neg (.t 13)), qg 10 true 15 (.bin .sub (.t 14) (.c (.int .i64 1))), qg 10 true 16 (.iaddr 2 (.t 11) (.t 15)), qg 10 true 17 (.faddr 0 (.t 16)), qg 10 true 18 (.load 1 false (.t 17)), qg 10 true 19 (.bin .eql (.t 18) (.c (.int .i64 0))), qo 20 (.pick (.t 10) (.t 19) (.c (.bool false)))])
 (.cond (.t 20)
 (.seq (.region none [
 ql 1 21 2, qB .add 22 21 1, qs 1 2 22])
 (.region none [
 ql 1 23 1, qf 0 24 4, ql 1 25 24, qo 26 (.un .neg (.t 25)), qB .sub 27 26 1, ql 1 28 2, qo 29 (.un .neg (.t 28)), qo 30 (.build [(.int .i64 0), .nilSlice] [(0, 1, (.t 29))]), qi 2 31 23 27, qs 2 31 30]))
 .skip))
 (.seq (.region none [
 qf 1 32 4, ql 1 33 32, qn 34 33, qk 35 0])
 (.block 0
 (.loop (.seq (.region none [
 qb .lss 36 35 34])
 (.seq (.cond (.t 36)
 .skip
 (.exit 0))
 (.seq (.block 1
 (.seq (.region none [
 qi 2 37 33 35, qL 2 38 37, qo 6 (.lalloc (.agg [(.int .i64 0), .nilSlice])), qs 2 6 38])
 (.region none [
 ql 1 39 3, qL 2 40 6, qo 41 (.call (.t 39) [(.t 40)])])))
 (.region none [
 qB .add 42 35 1, qm 35 42])))))))))
def af67 : AFun := ⟨.mut, 1, 67, body67, []⟩

/-- (*umpirage/super.search).once -/
def body68 : ACode := (.seq (.region none [
 qk 4 0, qo 5 (.mov (.c (.bool false)))])
 (.seq (.region none [
 qm 6 0, qm 7 1, qo 8 (.build [(.int .i64 0), (.int .i64 0), (.int .i64 0), (.int .i64 0), (.int .i64 0), (.bool false), .nilSlice, .nilSlice] [(0, 1, (.c (.int .i64 4))), (1, 1, (.t 7))]), qc 9 19 [(.t 6), (.t 8)], qe 0 10 9, qe 1 11 9, qm 4 10, qm 5 11])
 .ret))
def af68 : AFun := ⟨.mut, 1, 68, body68, [.t 4, .t 5]⟩

/-- umpirage/claim.Named$1 -/
def body69 : ACode := (.seq (.region none [
 qx 3 0, qo 4 (.lalloc (.agg [(.int .i64 0), .nilSlice]))])
 (.seq (.region none [
 qf 0 10 3, ql 1 11 10, qo 12 (.build [(.int .i64 0), .nilSlice] [(0, 1, (.t 11))]), qo 5 (.lalloc (.agg [(.int .i64 0), .nilSlice])), qs 2 5 12])
 (.seq (.seq (.region none [
 qf 0 13 3, ql 1 14 13, qB .lss 15 14 0])
 (.cond (.t 15)
 (.seq (.seq (.region none [
 ql 1 17 1, qf 0 18 3, ql 1 19 18, qo 20 (.lookup false (.int .i64 0) true (.t 17) (.t 19)), qm 16 20, qe 0 21 16, qe 1 22 16, qm 6 21, qm 7 22])
 (.seq (.region none [
 qm 23 7, qo 24 (.un .not (.t 23))])
 (.cond (.t 24)
 (.region none [
 ql 1 25 1, qf 0 26 3, ql 1 27 26, ql 1 28 1, qo 29 (.lenmap (.t 28)), qo 30 (.un .neg (.t 29)), qB .sub 31 30 1, ⟨none, .mapup false (.t 25) (.t 27) (.t 31), none, []⟩])
 .skip)))
 (.region none [
 ql 1 32 1, qf 0 33 3, ql 1 34 33, qo 35 (.lookup false (.int .i64 0) false (.t 32) (.t 34)), qf 0 36 5, qs 1 36 35]))
 .skip))
 (.seq (.seq (.region none [
 qf 1 37 3, ql 1 38 37, qn 39 38, qk 40 0])
 (.block 0
 (.loop (.seq (.region none [
 qb .lss 41 40 39])
 (.seq (.cond (.t 41)
 .skip
 (.exit 0))
 (.seq (.block 1
 (.seq (.region none [
 qi 2 42 38 40, qL 2 43 42, qo 9 (.lalloc (.agg [(.int .i64 0), .nilSlice])), qs 2 9 43])
 (.region (some [0, 1, 0, 0, 12, 28, 63, 127, 255]) [
 qf 1 44 5, ql 1 45 44, ql 1 46 2, qL 2 47 9, qo 48 (.call (.t 46) [(.t 47)]), qo 49 (.bslice false 2 1 [(.int .i64 0), .nilSlice] [(0, 2, (.t 48))]), qo 50 (.append false 2 32 (.t 45) (.t 49)), qf 1 51 5, qs 1 51 50])))
 (.region none [
 qB .add 52 40 1, qm 40 52])))))))
 (.seq (.region none [
 qL 2 53 5, qs 2 4 53])
 .ret)))))
def af69 : AFun := ⟨.mutf, 1, 69, body69, [.cell 4 2 true]⟩

/-- slices.ContainsFunc[[]umpirage/api.Fact,umpirage/api.Fact] -/
def body70 : ACode := (.seq (.region none [
 qo 4 (.mov (.c (.bool false)))])
 (.seq (.region none [
 qm 5 0, qm 6 1, qc 7 91 [(.t 5), (.t 6)], qB .geq 8 7 0, qm 4 8])
 .ret))
def af70 : AFun := ⟨.pure, 1, 70, body70, [.t 4]⟩

/-- umpirage/super.idle$1 -/
def body71 : ACode := (.seq (.region none [
 qx 1 0, qo 2 (.mov (.c (.bool false)))])
 (.seq (.region none [
 qf 0 3 1, ql 1 4 3, qo 5 (.un .not (.t 4)), qm 6 5, qg 6 true 7 (.faddr 1 (.t 1)), qg 6 true 8 (.load 2 true (.t 7)), qg 6 true 9 (.faddr 3 (.t 1)), qg 6 true 10 (.load 2 true (.t 9)), qg 6 true 11 (.call (.c (.clo 72 [])) [(.t 8), (.t 10)]), qo 12 (.pick (.t 6) (.t 11) (.c (.bool false))), qm 2 12])
 .ret))
def af71 : AFun := ⟨.pure, 1, 71, body71, [.t 2]⟩

/-- umpirage/eltool.Same -/
def body72 : ACode := (.seq (.region none [
 qx 2 0, qx 3 1, qo 4 (.mov (.c (.bool false)))])
 (.seq (.region none [
 qf 0 5 2, ql 1 6 5, qf 0 7 3, ql 1 8 7, qb .eql 9 6 8, qm 10 9, qg 10 true 11 (.faddr 1 (.t 2)), qg 10 true 12 (.load 1 false (.t 11)), qg 10 true 13 (.faddr 1 (.t 3)), qg 10 true 14 (.load 1 false (.t 13)), qg 10 true 15 (.call (.c (.clo 92 [])) [(.t 12), (.t 14), (.c (.clo 72 []))]), qo 16 (.pick (.t 10) (.t 15) (.c (.bool false))), qm 4 16])
 .ret))
def af72 : AFun := ⟨.pure, 1, 72, body72, [.t 4]⟩

/-- umpirage/above.Over -/
def body73 : ACode := (.seq (.region none [
 qx 2 0, qx 3 1, qo 4 (.mov (.c (.bool false)))])
 (.seq (.block 0
 (.seq (.region none [
 qf 0 7 2, ql 1 8 7, qB .lss 9 8 0, qm 6 9])
 (.cond (.t 6)
 (.seq (.region none [
 qo 4 (.mov (.c (.bool false)))])
 .ret)
 (.seq (.region none [
 qf 0 11 3, ql 1 12 11, qB .lss 13 12 0, qm 10 13])
 (.cond (.t 10)
 (.seq (.region none [
 qL 2 14 2, qf 0 15 3, ql 1 16 15, qc 17 93 [(.t 14), (.t 16)], qm 4 17])
 .ret)
 (.seq (.region none [
 qf 1 19 2, ql 1 20 19, qo 21 (.mkfn 95 [(.t 3)]), qc 22 94 [(.t 20), (.t 21)], qm 18 22])
 (.cond (.t 18)
 (.seq (.region none [
 qo 4 (.mov (.c (.bool true)))])
 .ret)
 (.seq (.region none [
 qf 1 24 3, ql 1 25 24, qo 26 (.mkfn 96 [(.t 2)]), qc 27 94 [(.t 25), (.t 26)], qm 23 27])
 (.cond (.t 23)
 (.seq (.region none [
 qo 4 (.mov (.c (.bool false)))])
 .ret)
 (.seq (.region none [
 qf 0 29 2, ql 1 30 29, qf 0 31 3, ql 1 32 31, qb .neq 33 30 32, qm 28 33])
 (.cond (.t 28)
 (.seq (.region none [
 qf 0 34 2, ql 1 35 34, qf 0 36 3, ql 1 37 36, qb .gtr 38 35 37, qm 4 38])
 .ret)
 (.seq (.region none [
 qf 1 40 2, ql 1 41 40, qn 42 41, qf 1 43 3, ql 1 44 43, qn 45 44, qb .neq 46 42 45, qm 39 46])
 (.cond (.t 39)
 (.seq (.region none [
 qf 1 47 2, ql 1 48 47, qn 49 48, qf 1 50 3, ql 1 51 50, qn 52 51, qb .gtr 53 49 52, qm 4 53])
 .ret)
 .skip)))))))))))))
 (.seq (.seq (.region none [
 qf 1 54 2, ql 1 55 54, qn 56 55, qk 57 0])
 (.block 1
 (.loop (.seq (.region none [
 qb .lss 58 57 56])
 (.seq (.cond (.t 58)
 .skip
 (.exit 1))
 (.seq (.block 2
 (.seq (.region none [
 qm 59 57, qm 5 59])
 (.seq (.region (some [0, 1, 0, 7, 15, 0, 32, 0, 224, 480, 1023, 2047]) [
 qf 1 60 2, ql 1 61 60, qm 62 5, qi 2 63 61 62, qL 2 64 63, qf 1 65 3, ql 1 66 65, qm 67 5, qi 2 68 66 67, qL 2 69 68, qc 70 72 [(.t 64), (.t 69)], qo 71 (.un .not (.t 70))])
 (.cond (.t 71)
 (.seq (.region (some [0, 1, 0, 7, 15, 0, 32, 0, 224, 480, 1023, 2047]) [
 qf 1 72 2, ql 1 73 72, qm 74 5, qi 2 75 73 74, qL 2 76 75, qf 1 77 3, ql 1 78 77, qm 79 5, qi 2 80 78 79, qL 2 81 80, qc 82 73 [(.t 76), (.t 81)], qm 4 82])
 .ret)
 .skip))))
 (.region none [
 qB .add 83 57 1, qm 57 83])))))))
 (.seq (.region none [
 qo 4 (.mov (.c (.bool false)))])
 .ret))))
def af73 : AFun := ⟨.pure, 1, 73, body73, [.t 4]⟩

/-- umpirage/super.places -/
def body74 : ACode := (.seq (.region none [
 qx 2 0, qo 4 (.mov (.c .nilSlice))])
 (.seq (.seq (.region none [
 qf 0 8 2, ql 1 9 8, qB .lss 10 9 0])
 (.cond (.t 10)
 (.seq (.region none [
 qo 4 (.mov (.c .nilSlice))])
 .ret)
 .skip))
 (.seq (.region none [
 qm 11 1, qo 12 (.bslice true 1 1 [.nilSlice] [(0, 1, (.t 11))]), qm 5 12])
 (.seq (.seq (.region none [
 qf 1 13 2, ql 1 14 13, qn 15 14, qk 16 0])
 (.block 0
 (.loop (.seq (.region none [
 qb .lss 17 16 15])
 (.seq (.cond (.t 17)
 .skip
 (.exit 0))
 (.seq (.block 1
 (.seq (.region none [
 qm 18 16, qi 2 19 14 16, qL 2 20 19, qo 7 (.lalloc (.agg [(.int .i64 0), .nilSlice])), qm 6 18, qs 2 7 20])
 (.region (some [0, 0, 0, 4, 0, 16, 48, 124, 254, 511, 1023]) [
 qm 21 5, qL 2 22 7, qm 23 1, qc 24 45 [(.t 23)], qm 25 6, qB .add 26 25 1, qo 27 (.bslice false 1 1 [(.int .i64 0)] [(0, 1, (.t 26))]), qo 28 (.append true 1 8 (.t 24) (.t 27)), qc 29 74 [(.t 22), (.t 28)], qo 30 (.append false 1 24 (.t 21) (.t 29)), qm 5 30])))
 (.region none [
 qB .add 31 16 1, qm 16 31])))))))
 (.seq (.region none [
 qm 32 5, qm 4 32])
 .ret)))))
def af74 : AFun := ⟨.pure, 1, 74, body74, [.t 4]⟩

/-- umpirage/fit.Onto -/
def body75 : ACode := (.seq (.region none [
 qx 3 0, qx 4 1, qo 6 (.mov (.c (.bool false)))])
 (.seq (.seq (.region none [
 qf 0 9 3, ql 1 10 9, qB .lss 11 10 0])
 (.cond (.t 11)
 (.seq (.region none [
 qf 0 12 3, ql 1 13 12, qo 14 (.un .neg (.t 13)), qB .sub 15 14 1, qm 7 15])
 (.seq (.seq (.region none [
 qm 16 2, qm 17 7, qi 2 18 16 17, qf 0 19 18, ql 1 20 19, qB .neq 21 20 0])
 (.cond (.t 21)
 (.seq (.region (some [0, 0, 3, 7, 0, 31, 63]) [
 qm 22 2, qm 23 7, qi 2 24 22 23, qL 2 25 24, qL 2 26 4, qc 27 72 [(.t 25), (.t 26)], qm 6 27])
 .ret)
 .skip))
 (.seq (.region none [
 qm 28 2, qm 29 7, qL 2 30 4, qc 31 66 [(.t 30)], qi 2 32 28 29, qs 2 32 31])
 (.seq (.region none [
 qo 6 (.mov (.c (.bool true)))])
 .ret))))
 .skip))
 (.seq (.seq (.region none [
 qf 0 33 3, ql 1 34 33, qf 0 35 4, ql 1 36 35, qb .neq 37 34 36, qm 38 37, qg 38 false 39 (.faddr 1 (.t 3)), qg 38 false 40 (.load 1 false (.t 39)), qg 38 false 41 (.len (.t 40)), qg 38 false 42 (.faddr 1 (.t 4)), qg 38 false 43 (.load 1 false (.t 42)), qg 38 false 44 (.len (.t 43)), qg 38 false 45 (.bin .neq (.t 41) (.t 44)), qo 46 (.pick (.t 38) (.c (.bool true)) (.t 45))])
 (.cond (.t 46)
 (.seq (.region none [
 qo 6 (.mov (.c (.bool false)))])
 .ret)
 .skip))
 (.seq (.seq (.region none [
 qf 1 47 3, ql 1 48 47, qn 49 48, qk 50 0])
 (.block 0
 (.loop (.seq (.region none [
 qb .lss 51 50 49])
 (.seq (.cond (.t 51)
 .skip
 (.exit 0))
 (.seq (.block 1
 (.seq (.region none [
 qm 52 50, qm 8 52])
 (.seq (.region (some [0, 1, 0, 7, 15, 0, 32, 0, 224, 480, 0, 2047, 4095]) [
 qf 1 53 3, ql 1 54 53, qm 55 8, qi 2 56 54 55, qL 2 57 56, qf 1 58 4, ql 1 59 58, qm 60 8, qi 2 61 59 60, qL 2 62 61, qm 63 2, qc 64 75 [(.t 57), (.t 62), (.t 63)], qo 65 (.un .not (.t 64))])
 (.cond (.t 65)
 (.seq (.region none [
 qo 6 (.mov (.c (.bool false)))])
 .ret)
 .skip))))
 (.region none [
 qB .add 66 50 1, qm 50 66])))))))
 (.seq (.region none [
 qo 6 (.mov (.c (.bool true)))])
 .ret)))))
def af75 : AFun := ⟨.mut, 1, 75, body75, [.t 6]⟩

/-- umpirage/super.at -/
def body76 : ACode := (.seq (.region none [
 qo 2 (.lbox (.t 0)), qo 4 (.lalloc (.agg [(.int .i64 0), .nilSlice]))])
 (.seq (.seq (.region none [
 qm 7 1, qn 8 7, qk 9 0])
 (.block 0
 (.loop (.seq (.region none [
 qb .lss 10 9 8])
 (.seq (.cond (.t 10)
 .skip
 (.exit 0))
 (.seq (.block 1
 (.seq (.region none [
 qi 1 11 7 9, ql 1 12 11, qm 6 12])
 (.region none [
 qf 1 13 2, ql 1 14 13, qm 15 6, qB .sub 16 15 1, qi 2 17 14 16, qL 2 18 17, qs 2 2 18])))
 (.region none [
 qB .add 19 9 1, qm 9 19])))))))
 (.seq (.region none [
 qL 2 20 2, qs 2 4 20])
 .ret)))
def af76 : AFun := ⟨.pure, 1, 76, body76, [.cell 4 2 true]⟩

/-- (*umpirage/super.search).bound -/
def body77 : ACode := (.seq (.region none [
 qk 6 0, qo 7 (.mov (.c (.bool false)))])
 (.seq (.region none [
 qm 8 0, qm 9 1, qm 10 2, qo 11 (.build [(.int .i64 0), (.int .i64 0), (.int .i64 0), (.int .i64 0), (.int .i64 0), (.bool false), .nilSlice, .nilSlice] [(0, 1, (.c (.int .i64 2))), (1, 1, (.t 9)), (7, 1, (.t 10))]), qc 12 19 [(.t 8), (.t 11)], qe 0 13 12, qe 1 14 12, qm 6 13, qm 7 14])
 .ret))
def af77 : AFun := ⟨.mut, 1, 77, body77, [.t 6, .t 7]⟩

/-- (*umpirage/super.search).single$1 -/
def body78 : ACode := (.seq (.region none [
 qx 5 0, qx 6 1, qo 7 (.mov (.c (.bool false)))])
 (.seq (.region none [
 qL 2 13 5, qL 2 14 6, ql 1 15 2, qc 16 79 [(.t 13), (.t 14), (.t 15)], qm 12 16, qe 0 17 12, qe 1 18 12, qe 2 19 12, qm 8 17, qm 9 18, qm 10 19])
 (.seq (.seq (.region none [
 qm 20 10, qo 21 (.un .not (.t 20))])
 (.cond (.t 21)
 (.region none [
 ql 1 22 3, qo 23 (.ncheck (.t 22)), qf 6 24 23, ⟨none, .store 1 (.t 24) (.c (.bool true)), none, []⟩])
 .skip))
 (.seq (.seq (.region none [
 qm 25 9, qo 26 (.un .not (.t 25)), qm 27 26, qg 27 false 28 (.mov (.t 10)), qg 27 false 29 (.un .not (.t 28)), qo 30 (.pick (.t 27) (.c (.bool true)) (.t 29))])
 (.cond (.t 30)
 (.seq (.region none [
 qo 7 (.mov (.c (.bool false)))])
 .ret)
 .skip))
 (.seq (.region none [
 ql 1 32 3, ql 1 33 4, qm 34 8, qc 35 77 [(.t 32), (.t 33), (.t 34)], qm 31 35, qe 0 36 31, qe 1 37 31, qm 11 36, qm 9 37])
 (.seq (.region none [
 qm 38 9, qm 39 38, qg 39 true 40 (.load 1 false (.t 3)), qg 39 true 41 (.mov (.t 11)), qg 39 true 42 (.call (.c (.clo 20 [])) [(.t 40), (.t 41)]), qo 43 (.pick (.t 39) (.t 42) (.c (.bool false))), qm 7 43])
 .ret))))))
def af78 : AFun := ⟨.mut, 1, 78, body78, [.t 7]⟩

/-- umpirage/unify.Mgu -/
def body79 : ACode := (.seq (.region none [
 qx 3 0, qx 4 1, qo 6 (.mov (.c .nilSlice)), qo 7 (.mov (.c (.bool false))), qo 8 (.mov (.c (.bool false)))])
 (.seq (.region none [
 qm 12 2, qo 13 (.mkslice 2 32 (.agg [(.int .i64 0), .nilSlice]) (.t 12) (.t 12)), qm 9 13])
 (.seq (.seq (.region none [
 qm 14 9, qL 2 15 3, qL 2 16 4, qc 17 97 [(.t 14), (.t 15), (.t 16)], qo 18 (.un .not (.t 17))])
 (.cond (.t 18)
 (.seq (.region none [
 qo 6 (.mov (.c .nilSlice)), qo 7 (.mov (.c (.bool false))), qo 8 (.mov (.c (.bool true)))])
 .ret)
 .skip))
 (.seq (.region none [
 qm 19 2, qo 20 (.mkslice 2 32 (.agg [(.int .i64 0), .nilSlice]) (.t 19) (.t 19)), qm 6 20])
 (.seq (.seq (.region none [
 qm 21 9, qn 22 21, qk 23 0])
 (.block 0
 (.loop (.seq (.region none [
 qb .lss 24 23 22])
 (.seq (.cond (.t 24)
 .skip
 (.exit 0))
 (.seq (.block 1
 (.seq (.region none [
 qm 25 23, qm 10 25])
 (.seq (.seq (.region none [
 qm 26 9, qm 27 10, qi 2 28 26 27, qf 0 29 28, ql 1 30 29, qB .eql 31 30 0])
 (.cond (.t 31)
 (.exit 1)
 .skip))
 (.seq (.region none [
 qo 11 (.halloc (.int .i64 0)), ⟨none, .store 1 (.t 11) (.c (.int .i64 40)), none, []⟩])
 (.seq (.region none [
 qm 32 6, qm 33 10, qm 34 9, qm 35 9, qm 36 10, qi 2 37 35 36, qL 2 38 37, qc 39 98 [(.t 34), (.t 38), (.t 11)], qi 2 40 32 33, qs 2 40 39])
 (.seq (.region none [
 ql 1 41 11, qB .lss 42 41 0, qm 43 42, qg 43 false 44 (.mov (.t 6)), qg 43 false 45 (.mov (.t 10)), qg 43 false 46 (.iaddr 2 (.t 44) (.t 45)), qg 43 false 47 (.load 2 true (.t 46)), qg 43 false 48 (.call (.c (.clo 58 [])) [(.t 47)]), qg 43 false 49 (.bin .gtr (.t 48) (.c (.int .i64 12))), qo 50 (.pick (.t 43) (.c (.bool true)) (.t 49))])
 (.cond (.t 50)
 (.seq (.region none [
 qo 6 (.mov (.c .nilSlice)), qo 7 (.mov (.c (.bool true))), qo 8 (.mov (.c (.bool false)))])
 .ret)
 .skip)))))))
 (.region none [
 qB .add 51 23 1, qm 23 51])))))))
 (.seq (.region none [
 qm 52 6, qm 6 52, qo 7 (.mov (.c (.bool true))), qo 8 (.mov (.c (.bool true)))])
 .ret))))))
def af79 : AFun := ⟨.pure, 1, 79, body79, [.t 6, .t 7, .t 8]⟩

/-- umpirage/super.pair -/
def body80 : ACode := (.seq (.region none [
 qx 2 0, qx 3 1, qo 4 (.lalloc (.agg [(.int .i64 0), .nilSlice]))])
 (.seq (.region none [
 qL 2 5 2, qL 2 6 3, qo 7 (.bslice false 2 2 [(.int .i64 0), .nilSlice, (.int .i64 0), .nilSlice] [(0, 2, (.t 5)), (2, 2, (.t 6))]), qo 8 (.build [(.int .i64 0), .nilSlice] [(0, 1, (.c (.int .i64 13))), (1, 1, (.t 7))]), qs 2 4 8])
 .ret))
def af80 : AFun := ⟨.pure, 1, 80, body80, [.cell 4 2 true]⟩

/-- (*umpirage/super.search).into$1 -/
def body81 : ACode := (.seq (.region none [
 qx 2 0, qo 3 (.lalloc (.agg [(.int .i64 0), .nilSlice]))])
 (.seq (.region none [
 qL 2 4 2, ql 1 5 1, qc 6 82 [(.t 4), (.t 5)], qs 2 3 6])
 .ret))
def af81 : AFun := ⟨.pure, 1, 81, body81, [.cell 3 2 true]⟩

/-- umpirage/eltool.Moved -/
def body82 : ACode := (.seq (.region none [
 qx 2 0, qo 4 (.lalloc (.agg [(.int .i64 0), .nilSlice]))])
 (.seq (.region none [
 qf 0 8 2, ql 1 9 8, qo 10 (.build [(.int .i64 0), .nilSlice] [(0, 1, (.t 9))]), qo 5 (.lalloc (.agg [(.int .i64 0), .nilSlice])), qs 2 5 10])
 (.seq (.seq (.region none [
 qf 0 11 2, ql 1 12 11, qB .lss 13 12 0])
 (.cond (.t 13)
 (.region none [
 qf 0 14 5, ql 1 15 14, qm 16 1, qb .sub 17 15 16, qf 0 18 5, qs 1 18 17])
 .skip))
 (.seq (.seq (.region none [
 qf 1 19 2, ql 1 20 19, qn 21 20, qk 22 0])
 (.block 0
 (.loop (.seq (.region none [
 qb .lss 23 22 21])
 (.seq (.cond (.t 23)
 .skip
 (.exit 0))
 (.seq (.block 1
 (.seq (.region none [
 qi 2 24 20 22, qL 2 25 24, qo 7 (.lalloc (.agg [(.int .i64 0), .nilSlice])), qs 2 7 25])
 (.region (some [0, 1, 0, 0, 12, 28, 63, 127, 255]) [
 qf 1 26 5, ql 1 27 26, qL 2 28 7, qm 29 1, qc 30 82 [(.t 28), (.t 29)], qo 31 (.bslice false 2 1 [(.int .i64 0), .nilSlice] [(0, 2, (.t 30))]), qo 32 (.append false 2 32 (.t 27) (.t 31)), qf 1 33 5, qs 1 33 32])))
 (.region none [
 qB .add 34 22 1, qm 22 34])))))))
 (.seq (.region none [
 qL 2 35 5, qs 2 4 35])
 .ret)))))
def af82 : AFun := ⟨.pure, 1, 82, body82, [.cell 4 2 true]⟩

/-- (*umpirage/super.search).put -/
def body83 : ACode := (.seq (.region none [
 qo 11 (.lbox (.t 5)), qo 12 (.mov (.c (.bool false)))])
 (.seq (.region none [
 qm 19 0, qm 20 1, qm 21 4, qc 22 77 [(.t 19), (.t 20), (.t 21)], qm 18 22, qe 0 23 18, qe 1 24 18, qm 13 23, qm 14 24])
 (.seq (.seq (.region none [
 qm 25 14, qo 26 (.un .not (.t 25))])
 (.cond (.t 26)
 (.seq (.region none [
 qo 12 (.mov (.c (.bool false)))])
 .ret)
 .skip))
 (.seq (.region none [
 qm 27 2, qm 15 27, qo 14 (.mov (.c (.bool true)))])
 (.seq (.seq (.region none [
 qm 28 3, qn 29 28, qB .gtr 30 29 0])
 (.cond (.t 30)
 (.region none [
 qm 32 0, qm 33 2, qm 34 3, qc 35 77 [(.t 32), (.t 33), (.t 34)], qm 31 35, qe 0 36 31, qe 1 37 31, qm 15 36, qm 14 37])
 .skip))
 (.seq (.seq (.region none [
 qm 38 14, qo 39 (.un .not (.t 38))])
 (.cond (.t 39)
 (.seq (.region none [
 qo 12 (.mov (.c (.bool false)))])
 .ret)
 .skip))
 (.seq (.region none [
 qm 41 0, qm 42 15, qm 43 4, qc 44 77 [(.t 41), (.t 42), (.t 43)], qm 40 44, qe 0 45 40, qe 1 46 40, qm 16 45, qm 14 46])
 (.seq (.seq (.region none [
 qm 47 14, qo 48 (.un .not (.t 47))])
 (.cond (.t 48)
 (.seq (.region none [
 qo 12 (.mov (.c (.bool false)))])
 .ret)
 .skip))
 (.seq (.region none [
 qm 49 13, qm 50 16, qf 1 51 11, qs 1 51 49, qf 2 52 11, qs 1 52 50])
 (.seq (.region none [
 qm 54 0, qL 8 55 11, qc 56 19 [(.t 54), (.t 55)], qm 53 56, qe 0 57 53, qe 1 58 53, qm 17 57, qm 14 58])
 (.seq (.region none [
 qm 59 14, qm 60 59, qg 60 true 61 (.mov (.t 0)), qg 60 true 62 (.mov (.t 17)), qg 60 true 63 (.call (.c (.clo 20 [])) [(.t 61), (.t 62)]), qo 64 (.pick (.t 60) (.t 63) (.c (.bool false))), qm 12 64])
 .ret)))))))))))
def af83 : AFun := ⟨.mut, 1, 83, body83, [.t 12]⟩

/-- umpirage/umpirageref7.Deep -/
def body84 : ACode := (.seq (.region none [
 qx 1 0, qk 2 0])
 (.seq (.region none [
 qk 3 0])
 (.seq (.seq (.region none [
 qk 4 0])
 (.block 0
 (.loop (.seq (.seq (.region none [
 qm 6 4, qf 1 7 1, ql 1 8 7, qn 9 8, qb .lss 10 6 9])
 (.cond (.t 10)
 .skip
 (.exit 0)))
 (.seq (.block 1
 (.seq (.region none [
 qf 1 13 1, ql 1 14 13, qm 15 4, qi 2 16 14 15, qL 2 17 16, qc 18 84 [(.t 17)], qm 5 18])
 (.seq (.region none [
 qm 19 5, qm 20 3, qb .gtr 21 19 20])
 (.cond (.t 21)
 (.region none [
 qm 22 5, qm 3 22])
 .skip))))
 (.region none [
 qm 11 4, qB .add 12 11 1, qm 4 12]))))))
 (.seq (.region none [
 qm 23 3, qB .add 24 23 1, qm 2 24])
 .ret))))
def af84 : AFun := ⟨.pure, 1, 84, body84, [.t 2]⟩

/-- umpirage/umpirageref7.nodes -/
def body85 : ACode := (.seq (.region none [
 qx 2 0, qo 4 (.lalloc (.agg [(.int .i64 0), (.int .i64 0)])), qk 5 0])
 (.seq (.seq (.region none [
 qf 0 9 2, ql 1 10 9, qB .eql 11 10 0, qm 12 11, qg 12 false 13 (.faddr 0 (.t 2)), qg 12 false 14 (.load 1 false (.t 13)), qg 12 false 15 (.bin .lss (.t 14) (.c (.int .i64 (-8)))), qo 16 (.pick (.t 12) (.c (.bool true)) (.t 15)), qm 17 16, qg 17 false 18 (.faddr 0 (.t 2)), qg 17 false 19 (.load 1 false (.t 18)), qg 17 false 20 (.bin .gtr (.t 19) (.c (.int .i64 12))), qo 21 (.pick (.t 17) (.c (.bool true)) (.t 20))])
 (.cond (.t 21)
 (.seq (.region none [
 qm 22 1, qc 23 27 [(.c (.int .i64 3)), (.t 22)], qm 24 1, qs 2 4 23, qm 5 24])
 .ret)
 .skip))
 (.seq (.seq (.region none [
 qf 1 25 2, ql 1 26 25, qn 27 26, qB .gtr 28 27 3, qm 29 28, qg 29 false 30 (.faddr 0 (.t 2)), qg 29 false 31 (.load 1 false (.t 30)), qg 29 false 32 (.bin .lss (.t 31) (.c (.int .i64 0))), qg 29 false 33 (.mov (.t 32)), qg 33 true 34 (.faddr 1 (.t 2)), qg 33 true 35 (.load 1 false (.t 34)), qg 33 true 36 (.len (.t 35)), qg 33 true 37 (.bin .gtr (.t 36) (.c (.int .i64 0))), qg 29 false 38 (.pick (.t 33) (.t 37) (.c (.bool false))), qo 39 (.pick (.t 29) (.c (.bool true)) (.t 38))])
 (.cond (.t 39)
 (.seq (.region none [
 qm 40 1, qc 41 27 [(.c (.int .i64 9)), (.t 40)], qm 42 1, qs 2 4 41, qm 5 42])
 .ret)
 .skip))
 (.seq (.region none [
 qm 43 1, qB .add 44 43 1, qm 1 44])
 (.seq (.seq (.region none [
 qk 6 0])
 (.block 0
 (.loop (.seq (.seq (.region none [
 qm 45 6, qf 1 46 2, ql 1 47 46, qn 48 47, qb .lss 49 45 48])
 (.cond (.t 49)
 .skip
 (.exit 0)))
 (.seq (.block 1
 (.seq (.region none [
 qf 1 53 2, ql 1 54 53, qm 55 6, qi 2 56 54 55, qL 2 57 56, qm 58 1, qc 59 85 [(.t 57), (.t 58)], qm 52 59, qe 0 60 52, qe 1 61 52, qo 7 (.lalloc (.agg [(.int .i64 0), (.int .i64 0)])), qs 2 7 60, qm 8 61])
 (.seq (.seq (.region none [
 qf 0 62 7, ql 1 63 62, qB .neq 64 63 0])
 (.cond (.t 64)
 (.seq (.region none [
 qL 2 65 7, qm 66 8, qs 2 4 65, qm 5 66])
 .ret)
 .skip))
 (.region none [
 qm 67 8, qm 1 67]))))
 (.region none [
 qm 50 6, qB .add 51 50 1, qm 6 51]))))))
 (.seq (.region none [
 qo 68 (.build [(.int .i64 0), (.int .i64 0)] []), qm 69 1, qs 2 4 68, qm 5 69])
 .ret))))))
def af85 : AFun := ⟨.pure, 1, 85, body85, [.cell 4 2 true, .t 5]⟩

/-- (*umpirage/find.finder).value -/
def body86 : ACode := (.seq (.region none [
 qx 4 1, qk 6 0])
 (.seq (.seq (.region none [
 qf 0 11 4, ql 1 12 11, qB .lss 13 12 0])
 (.cond (.t 13)
 (.seq (.region none [
 qm 14 2, qf 0 15 4, ql 1 16 15, qo 17 (.un .neg (.t 16)), qB .sub 18 17 1, qi 1 19 14 18, ql 1 20 19, qm 6 20])
 .ret)
 .skip))
 (.seq (.region none [
 qk 7 0])
 (.seq (.seq (.region none [
 qf 1 21 4, ql 1 22 21, qn 23 22, qk 24 0])
 (.block 0
 (.loop (.seq (.region none [
 qb .lss 25 24 23])
 (.seq (.cond (.t 25)
 .skip
 (.exit 0))
 (.seq (.block 1
 (.seq (.region none [
 qi 2 26 22 24, qL 2 27 26, qo 9 (.lalloc (.agg [(.int .i64 0), .nilSlice])), qs 2 9 27])
 (.seq (.region none [
 qm 28 0, qL 2 29 9, qm 30 2, qc 31 86 [(.t 28), (.t 29), (.t 30)], qm 10 31])
 (.seq (.seq (.region none [
 qm 32 10, qB .lss 33 32 0])
 (.cond (.t 33)
 (.seq (.region none [
 qk 6 (-1)])
 .ret)
 .skip))
 (.region none [
 qm 34 7, qm 35 0, qo 36 (.ncheck (.t 35)), qf 2 37 36, qf 0 38 37, ql 1 39 38, qb .mul 40 34 39, qm 41 10, qb .add 42 40 41, qm 7 42])))))
 (.region none [
 qB .add 43 24 1, qm 24 43])))))))
 (.seq (.region (some [0, 1, 3, 7, 15, 0, 32, 96, 255, 511, 0, 2047, 4095, 8191]) [
 qm 44 0, qo 45 (.ncheck (.t 44)), qf 2 46 45, qf 1 47 46, ql 1 48 47, qf 0 49 4, ql 1 50 49, qB .sub 51 50 1, qi 1 52 48 51, ql 1 53 52, qm 54 7, qi 1 55 53 54, ql 1 56 55, qm 6 56])
 .ret)))))
def af86 : AFun := ⟨.pure, 1, 86, body86, [.t 6]⟩

/-- umpirage/table.value -/
def body87 : ACode := (.seq (.region none [
 qx 3 0, qx 4 1, qk 6 0])
 (.seq (.seq (.region none [
 qf 0 11 4, ql 1 12 11, qB .lss 13 12 0])
 (.cond (.t 13)
 (.seq (.seq (.region none [
 qf 0 14 4, ql 1 15 14, qo 16 (.un .neg (.t 15)), qB .sub 17 16 1, qm 7 17])
 (.seq (.region none [
 qm 18 7, qm 19 2, qn 20 19, qb .lss 21 18 20])
 (.cond (.t 21)
 (.seq (.region none [
 qm 22 2, qm 23 7, qi 1 24 22 23, ql 1 25 24, qm 6 25])
 .ret)
 .skip)))
 (.seq (.region none [
 qk 6 0])
 .ret))
 .skip))
 (.seq (.region none [
 qk 8 0])
 (.seq (.seq (.region none [
 qf 1 26 4, ql 1 27 26, qn 28 27, qk 29 0])
 (.block 0
 (.loop (.seq (.region none [
 qb .lss 30 29 28])
 (.seq (.cond (.t 30)
 .skip
 (.exit 0))
 (.seq (.block 1
 (.seq (.region none [
 qi 2 31 27 29, qL 2 32 31, qo 10 (.lalloc (.agg [(.int .i64 0), .nilSlice])), qs 2 10 32])
 (.region (some [0, 0, 2, 7, 0, 0, 0, 112, 255, 511]) [
 qm 33 8, qf 0 34 3, ql 1 35 34, qb .mul 36 33 35, qL 2 37 3, qL 2 38 10, qm 39 2, qc 40 87 [(.t 37), (.t 38), (.t 39)], qb .add 41 36 40, qm 8 41])))
 (.region none [
 qB .add 42 29 1, qm 29 42])))))))
 (.seq (.region none [
 qf 1 43 3, ql 1 44 43, qf 0 45 4, ql 1 46 45, qB .sub 47 46 1, qi 1 48 44 47, ql 1 49 48, qm 50 8, qi 1 51 49 50, ql 1 52 51, qm 6 52])
 .ret)))))
def af87 : AFun := ⟨.pure, 1, 87, body87, [.t 6]⟩

/-- umpirage/trace.stands -/
def body88 : ACode := (.seq (.region none [
 qx 2 0, qo 4 (.lalloc (.agg [(.int .i64 0), .nilSlice])), qo 5 (.mov (.c (.bool false)))])
 (.seq (.seq (.region none [
 qm 9 1, qn 10 9, qB .eql 11 10 0, qm 12 11, qg 12 false 13 (.mov (.t 1)), qg 12 false 14 (.iaddr 1 (.t 13) (.c (.int .i64 0))), qg 12 false 15 (.load 1 false (.t 14)), qg 12 false 16 (.call (.c (.clo 17 [])) [(.t 15), (.c (.int .i64 1)), (.c (.int .i64 2))]), qg 12 false 17 (.un .not (.t 16)), qo 18 (.pick (.t 12) (.c (.bool true)) (.t 17))])
 (.cond (.t 18)
 (.seq (.region none [
 qo 19 (.build [(.int .i64 0), .nilSlice] []), qs 2 4 19, qo 5 (.mov (.c (.bool false)))])
 .ret)
 .skip))
 (.seq (.region (some [0, 1, 0, 4, 15, 0, 32, 96, 224, 511, 0, 2047]) [
 qf 1 20 2, qL 2 21 20, qf 3 22 2, qL 2 23 22, qo 24 (.build [(.int .i64 0), .nilSlice, (.int .i64 0), .nilSlice] [(0, 2, (.t 21)), (2, 2, (.t 23))]), qm 25 1, qo 26 (.iaddr 1 (.t 25) (.c (.int .i64 0))), ql 1 27 26, qB .sub 28 27 1, qo 29 (.indexA 2 2 true (.t 24) (.t 28)), qo 6 (.lalloc (.agg [(.int .i64 0), .nilSlice])), qs 2 6 29])
 (.seq (.seq (.region none [
 qm 30 1, qo 31 (.slice 1 (.t 30) (some (.c (.int .i64 1))) none), qn 32 31, qk 33 0])
 (.block 0
 (.loop (.seq (.region none [
 qb .lss 34 33 32])
 (.seq (.cond (.t 34)
 .skip
 (.exit 0))
 (.seq (.block 1
 (.seq (.region none [
 qi 1 35 31 33, ql 1 36 35, qm 8 36])
 (.seq (.seq (.region none [
 qm 37 8, qf 1 38 6, ql 1 39 38, qn 40 39, qc 41 17 [(.t 37), (.c (.int .i64 1)), (.t 40)], qo 42 (.un .not (.t 41))])
 (.cond (.t 42)
 (.seq (.region none [
 qo 43 (.build [(.int .i64 0), .nilSlice] []), qs 2 4 43, qo 5 (.mov (.c (.bool false)))])
 .ret)
 .skip))
 (.region none [
 qf 1 44 6, ql 1 45 44, qm 46 8, qB .sub 47 46 1, qi 2 48 45 47, qL 2 49 48, qs 2 6 49]))))
 (.region none [
 qB .add 50 33 1, qm 33 50])))))))
 (.seq (.region none [
 qL 2 51 6, qs 2 4 51, qo 5 (.mov (.c (.bool true)))])
 .ret)))))
def af88 : AFun := ⟨.pure, 1, 88, body88, [.cell 4 2 true, .t 5]⟩

/-- umpirage/trace.changed -/
def body89 : ACode := (.seq (.region none [
 qo 3 (.lbox (.t 0)), qx 5 2, qo 6 (.lalloc (.agg [(.bool false), (.int .i64 0), .nilSlice, (.int .i64 0), .nilSlice]))])
 (.seq (.seq (.region none [
 qm 7 1, qo 8 (.iaddr 1 (.t 7) (.c (.int .i64 0))), ql 1 9 8, qB .eql 10 9 1])
 (.cond (.t 10)
 (.region (some [0, 1, 0, 4, 0, 31, 63, 127]) [
 qf 1 11 3, qL 2 12 11, qm 13 1, qo 14 (.slice 1 (.t 13) (some (.c (.int .i64 1))) none), qL 2 15 5, qc 16 99 [(.t 12), (.t 14), (.t 15)], qf 1 17 3, qs 2 17 16])
 (.region (some [0, 1, 0, 4, 0, 31, 63, 127]) [
 qf 3 18 3, qL 2 19 18, qm 20 1, qo 21 (.slice 1 (.t 20) (some (.c (.int .i64 1))) none), qL 2 22 5, qc 23 99 [(.t 19), (.t 21), (.t 22)], qf 3 24 3, qs 2 24 23])))
 (.seq (.region none [
 qL 5 25 3, qs 5 6 25])
 .ret)))
def af89 : AFun := ⟨.pure, 1, 89, body89, [.cell 6 5 true]⟩

/-- umpirage/trace.once$1 -/
def body90 : ACode := (.seq (.region none [
 qx 2 0, qo 3 (.mov (.c (.bool false)))])
 (.seq (.region none [
 qL 5 4 1, qL 5 5 2, qc 6 47 [(.t 4), (.t 5)], qm 3 6])
 .ret))
def af90 : AFun := ⟨.pure, 1, 90, body90, [.t 3]⟩

/-- slices.IndexFunc[[]umpirage/api.Fact,umpirage/api.Fact] -/
def body91 : ACode := (.seq (.region none [
 qk 4 0])
 (.seq (.seq (.region none [
 qm 6 0, qn 7 6, qk 8 0])
 (.block 0
 (.loop (.seq (.region none [
 qb .lss 9 8 7])
 (.seq (.cond (.t 9)
 .skip
 (.exit 0))
 (.seq (.block 1
 (.seq (.region none [
 qm 10 8, qm 5 10])
 (.seq (.region none [
 qm 11 1, qm 12 0, qm 13 5, qi 5 14 12 13, qL 5 15 14, qo 16 (.call (.t 11) [(.t 15)])])
 (.cond (.t 16)
 (.seq (.region none [
 qm 17 5, qm 4 17])
 .ret)
 .skip))))
 (.region none [
 qB .add 18 8 1, qm 8 18])))))))
 (.seq (.region none [
 qk 4 (-1)])
 .ret)))
def af91 : AFun := ⟨.pure, 1, 91, body91, [.t 4]⟩

/-- slices.EqualFunc[[]umpirage/api.Tree,[]umpirage/api.Tree,umpirage/api.Tree,umpirage/api.Tree] -/
def body92 : ACode := (.seq (.region none [
 qo 6 (.mov (.c (.bool false)))])
 (.seq (.seq (.region none [
 qm 10 0, qn 11 10, qm 12 1, qn 13 12, qb .neq 14 11 13])
 (.cond (.t 14)
 (.seq (.region none [
 qo 6 (.mov (.c (.bool false)))])
 .ret)
 .skip))
 (.seq (.seq (.region none [
 qm 15 0, qn 16 15, qk 17 0])
 (.block 0
 (.loop (.seq (.region none [
 qb .lss 18 17 16])
 (.seq (.cond (.t 18)
 .skip
 (.exit 0))
 (.seq (.block 1
 (.seq (.region none [
 qm 19 17, qi 2 20 15 17, qL 2 21 20, qo 8 (.lalloc (.agg [(.int .i64 0), .nilSlice])), qm 7 19, qs 2 8 21])
 (.seq (.region none [
 qm 22 1, qm 23 7, qi 2 24 22 23, qL 2 25 24, qo 9 (.lalloc (.agg [(.int .i64 0), .nilSlice])), qs 2 9 25])
 (.seq (.region none [
 qm 26 2, qL 2 27 8, qL 2 28 9, qo 29 (.call (.t 26) [(.t 27), (.t 28)]), qo 30 (.un .not (.t 29))])
 (.cond (.t 30)
 (.seq (.region none [
 qo 6 (.mov (.c (.bool false)))])
 .ret)
 .skip)))))
 (.region none [
 qB .add 31 17 1, qm 17 31])))))))
 (.seq (.region none [
 qo 6 (.mov (.c (.bool true)))])
 .ret))))
def af92 : AFun := ⟨.pure, 1, 92, body92, [.t 6]⟩

/-- umpirage/above.holds -/
def body93 : ACode := (.seq (.region none [
 qx 2 0, qx 3 1, qo 4 (.mov (.c (.bool false)))])
 (.seq (.region none [
 qf 0 5 2, ql 1 6 5, ql 1 7 3, qb .eql 8 6 7, qm 9 8, qg 9 false 10 (.faddr 1 (.t 2)), qg 9 false 11 (.load 1 false (.t 10)), qg 9 false 12 (.mkfn 100 [(.t 3)]), qg 9 false 13 (.call (.c (.clo 94 [])) [(.t 11), (.t 12)]), qo 14 (.pick (.t 9) (.c (.bool true)) (.t 13)), qm 4 14])
 .ret))
def af93 : AFun := ⟨.pure, 1, 93, body93, [.t 4]⟩

/-- slices.ContainsFunc[[]umpirage/api.Tree,umpirage/api.Tree] -/
def body94 : ACode := (.seq (.region none [
 qo 4 (.mov (.c (.bool false)))])
 (.seq (.region none [
 qm 5 0, qm 6 1, qc 7 101 [(.t 5), (.t 6)], qB .geq 8 7 0, qm 4 8])
 .ret))
def af94 : AFun := ⟨.pure, 1, 94, body94, [.t 4]⟩

/-- umpirage/above.Over$1 -/
def body95 : ACode := (.seq (.region none [
 qx 2 0, qo 3 (.mov (.c (.bool false)))])
 (.seq (.region none [
 qL 2 4 2, qL 2 5 1, qc 6 72 [(.t 4), (.t 5)], qm 7 6, qg 7 false 8 (.load 2 true (.t 2)), qg 7 false 9 (.load 2 true (.t 1)), qg 7 false 10 (.call (.c (.clo 73 [])) [(.t 8), (.t 9)]), qo 11 (.pick (.t 7) (.c (.bool true)) (.t 10)), qm 3 11])
 .ret))
def af95 : AFun := ⟨.pure, 1, 95, body95, [.t 3]⟩

/-- umpirage/above.Over$2 -/
def body96 : ACode := (.seq (.region none [
 qx 2 0, qo 3 (.mov (.c (.bool false)))])
 (.seq (.region none [
 qL 2 4 1, qL 2 5 2, qc 6 73 [(.t 4), (.t 5)], qo 7 (.un .not (.t 6)), qm 3 7])
 .ret))
def af96 : AFun := ⟨.pure, 1, 96, body96, [.t 3]⟩

/-- (umpirage/unify.classes).join -/
def body97 : ACode := (.seq (.region none [
 qo 4 (.lbox (.t 1)), qo 5 (.lbox (.t 2)), qo 6 (.mov (.c (.bool false)))])
 (.seq (.region (some [0, 0, 3, 0, 0, 31, 63, 127]) [
 qm 8 0, qL 2 9 4, qc 10 102 [(.t 8), (.t 9)], qm 11 0, qL 2 12 5, qc 13 102 [(.t 11), (.t 12)], qs 2 4 10, qs 2 5 13])
 (.seq (.block 0
 (.seq (.region none [
 qf 0 15 4, ql 1 16 15, qB .lss 17 16 0, qm 18 17, qg 18 true 19 (.faddr 0 (.t 5)), qg 18 true 20 (.load 1 false (.t 19)), qg 18 true 21 (.bin .lss (.t 20) (.c (.int .i64 0))), qo 22 (.pick (.t 18) (.t 21) (.c (.bool false))), qm 14 22])
 (.cond (.t 14)
 (.seq (.seq (.region none [
 qf 0 23 4, ql 1 24 23, qf 0 25 5, ql 1 26 25, qb .lss 27 24 26])
 (.cond (.t 27)
 (.region none [
 qL 2 28 5, qL 2 29 4, qs 2 4 28, qs 2 5 29])
 .skip))
 (.seq (.seq (.region none [
 qf 0 30 4, ql 1 31 30, qf 0 32 5, ql 1 33 32, qb .neq 34 31 33])
 (.cond (.t 34)
 (.region none [
 qm 35 0, qf 0 36 5, ql 1 37 36, qo 38 (.un .neg (.t 37)), qB .sub 39 38 1, qL 2 40 4, qi 2 41 35 39, qs 2 41 40])
 .skip))
 (.seq (.region none [
 qo 6 (.mov (.c (.bool true)))])
 .ret)))
 (.seq (.region none [
 qf 0 43 4, ql 1 44 43, qB .lss 45 44 0, qm 42 45])
 (.cond (.t 42)
 (.seq (.region none [
 qm 46 0, qf 0 47 4, ql 1 48 47, qo 49 (.un .neg (.t 48)), qB .sub 50 49 1, qL 2 51 5, qc 52 103 [(.t 46), (.t 50), (.t 51)], qm 6 52])
 .ret)
 (.seq (.region none [
 qf 0 54 5, ql 1 55 54, qB .lss 56 55 0, qm 53 56])
 (.cond (.t 53)
 (.seq (.region none [
 qm 57 0, qf 0 58 5, ql 1 59 58, qo 60 (.un .neg (.t 59)), qB .sub 61 60 1, qL 2 62 4, qc 63 103 [(.t 57), (.t 61), (.t 62)], qm 6 63])
 .ret)
 (.seq (.region none [
 qf 0 65 4, ql 1 66 65, qf 0 67 5, ql 1 68 67, qb .neq 69 66 68, qm 70 69, qg 70 false 71 (.faddr 1 (.t 4)), qg 70 false 72 (.load 1 false (.t 71)), qg 70 false 73 (.len (.t 72)), qg 70 false 74 (.faddr 1 (.t 5)), qg 70 false 75 (.load 1 false (.t 74)), qg 70 false 76 (.len (.t 75)), qg 70 false 77 (.bin .neq (.t 73) (.t 76)), qo 78 (.pick (.t 70) (.c (.bool true)) (.t 77)), qm 64 78])
 (.cond (.t 64)
 (.seq (.region none [
 qo 6 (.mov (.c (.bool false)))])
 .ret)
 .skip)))))))))
 (.seq (.seq (.region none [
 qf 1 79 4, ql 1 80 79, qn 81 80, qk 82 0])
 (.block 1
 (.loop (.seq (.region none [
 qb .lss 83 82 81])
 (.seq (.cond (.t 83)
 .skip
 (.exit 1))
 (.seq (.block 2
 (.seq (.region none [
 qm 84 82, qm 7 84])
 (.seq (.region (some [0, 0, 2, 0, 14, 30, 0, 64, 0, 448, 960, 2047, 4095]) [
 qm 85 0, qf 1 86 4, ql 1 87 86, qm 88 7, qi 2 89 87 88, qL 2 90 89, qf 1 91 5, ql 1 92 91, qm 93 7, qi 2 94 92 93, qL 2 95 94, qc 96 97 [(.t 85), (.t 90), (.t 95)], qo 97 (.un .not (.t 96))])
 (.cond (.t 97)
 (.seq (.region none [
 qo 6 (.mov (.c (.bool false)))])
 .ret)
 .skip))))
 (.region none [
 qB .add 98 82 1, qm 82 98])))))))
 (.seq (.region none [
 qo 6 (.mov (.c (.bool true)))])
 .ret)))))
def af97 : AFun := ⟨.mut, 1, 97, body97, [.t 6]⟩

/-- (umpirage/unify.classes).full -/
def body98 : ACode := (.seq (.region none [
 qo 4 (.lbox (.t 1)), qo 6 (.lalloc (.agg [(.int .i64 0), .nilSlice]))])
 (.seq (.region none [
 qm 10 0, qL 2 11 4, qc 12 102 [(.t 10), (.t 11)], qs 2 4 12])
 (.seq (.region none [
 qm 13 2, qo 14 (.ncheck (.t 13)), ql 1 15 14, qB .sub 16 15 1, qo 17 (.ncheck (.t 13)), qs 1 17 16])
 (.seq (.region none [
 qf 0 18 4, ql 1 19 18, qo 20 (.build [(.int .i64 0), .nilSlice] [(0, 1, (.t 19))]), qo 7 (.lalloc (.agg [(.int .i64 0), .nilSlice])), qs 2 7 20])
 (.seq (.seq (.region none [
 qf 1 21 4, ql 1 22 21, qn 23 22, qk 24 0])
 (.block 0
 (.loop (.seq (.region none [
 qb .lss 25 24 23])
 (.seq (.cond (.t 25)
 .skip
 (.exit 0))
 (.seq (.block 1
 (.seq (.region none [
 qi 2 26 22 24, qL 2 27 26, qo 9 (.lalloc (.agg [(.int .i64 0), .nilSlice])), qs 2 9 27])
 (.seq (.seq (.region none [
 qm 28 2, qo 29 (.ncheck (.t 28)), ql 1 30 29, qB .lss 31 30 0])
 (.cond (.t 31)
 (.exit 0)
 .skip))
 (.region (some [0, 1, 0, 0, 0, 28, 60, 127, 255, 511]) [
 qf 1 32 7, ql 1 33 32, qm 34 0, qL 2 35 9, qm 36 2, qc 37 98 [(.t 34), (.t 35), (.t 36)], qo 38 (.bslice false 2 1 [(.int .i64 0), .nilSlice] [(0, 2, (.t 37))]), qo 39 (.append false 2 32 (.t 33) (.t 38)), qf 1 40 7, qs 1 40 39]))))
 (.region none [
 qB .add 41 24 1, qm 24 41])))))))
 (.seq (.region none [
 qL 2 42 7, qs 2 6 42])
 .ret))))))
def af98 : AFun := ⟨.mutf, 1, 98, body98, [.cell 6 2 true]⟩

/-- umpirage/trace.put -/
def body99 : ACode := (.seq (.region none [
 qx 3 0, qx 5 2, qo 6 (.lalloc (.agg [(.int .i64 0), .nilSlice]))])
 (.seq (.seq (.region none [
 qm 8 1, qn 9 8, qB .eql 10 9 0])
 (.cond (.t 10)
 (.seq (.region none [
 qL 2 11 5, qs 2 6 11])
 .ret)
 .skip))
 (.seq (.region (some [0, 1, 0, 4, 12, 31, 0, 127]) [
 qf 0 12 3, ql 1 13 12, qf 1 14 3, ql 1 15 14, qc 16 104 [(.t 15)], qo 17 (.build [(.int .i64 0), .nilSlice] [(0, 1, (.t 13)), (1, 1, (.t 16))]), qo 7 (.lalloc (.agg [(.int .i64 0), .nilSlice])), qs 2 7 17])
 (.seq (.region (some [0, 1, 0, 4, 12, 28, 0, 64, 0, 256, 768, 1792, 4032, 8128, 0, 16384, 0, 131008, 262143, 524287]) [
 qf 1 18 7, ql 1 19 18, qm 20 1, qo 21 (.iaddr 1 (.t 20) (.c (.int .i64 0))), ql 1 22 21, qB .sub 23 22 1, qf 1 24 3, ql 1 25 24, qm 26 1, qo 27 (.iaddr 1 (.t 26) (.c (.int .i64 0))), ql 1 28 27, qB .sub 29 28 1, qi 2 30 25 29, qL 2 31 30, qm 32 1, qo 33 (.slice 1 (.t 32) (some (.c (.int .i64 1))) none), qL 2 34 5, qc 35 99 [(.t 31), (.t 33), (.t 34)], qi 2 36 19 23, qs 2 36 35])
 (.seq (.region none [
 qL 2 37 7, qs 2 6 37])
 .ret)))))
def af99 : AFun := ⟨.pure, 1, 99, body99, [.cell 6 2 true]⟩

/-- umpirage/above.holds$1 -/
def body100 : ACode := (.seq (.region none [
 qx 2 0, qo 3 (.mov (.c (.bool false)))])
 (.seq (.region none [
 qL 2 4 2, ql 1 5 1, qc 6 93 [(.t 4), (.t 5)], qm 3 6])
 .ret))
def af100 : AFun := ⟨.pure, 1, 100, body100, [.t 3]⟩

/-- slices.IndexFunc[[]umpirage/api.Tree,umpirage/api.Tree] -/
def body101 : ACode := (.seq (.region none [
 qk 4 0])
 (.seq (.seq (.region none [
 qm 6 0, qn 7 6, qk 8 0])
 (.block 0
 (.loop (.seq (.region none [
 qb .lss 9 8 7])
 (.seq (.cond (.t 9)
 .skip
 (.exit 0))
 (.seq (.block 1
 (.seq (.region none [
 qm 10 8, qm 5 10])
 (.seq (.region none [
 qm 11 1, qm 12 0, qm 13 5, qi 2 14 12 13, qL 2 15 14, qo 16 (.call (.t 11) [(.t 15)])])
 (.cond (.t 16)
 (.seq (.region none [
 qm 17 5, qm 4 17])
 .ret)
 .skip))))
 (.region none [
 qB .add 18 8 1, qm 8 18])))))))
 (.seq (.region none [
 qk 4 (-1)])
 .ret)))
def af101 : AFun := ⟨.pure, 1, 101, body101, [.t 4]⟩

/-- (umpirage/unify.classes).look -/
def body102 : ACode := (.seq (.region none [
 qo 3 (.lbox (.t 1)), qo 4 (.lalloc (.agg [(.int .i64 0), .nilSlice]))])
 (.seq (.block 0
 (.loop (.seq (.seq (.region none [
 qf 0 5 3, ql 1 6 5, qB .lss 7 6 0, qm 8 7, qg 8 true 9 (.mov (.t 0)), qg 8 true 10 (.faddr 0 (.t 3)), qg 8 true 11 (.load 1 false (.t 10)), qg 8 true 12 (.un .neg (.t 11)), qg 8 true 13 (.bin .sub (.t 12) (.c (.int .i64 1))), qg 8 true 14 (.iaddr 2 (.t 9) (.t 13)), qg 8 true 15 (.faddr 0 (.t 14)), qg 8 true 16 (.load 1 false (.t 15)), qg 8 true 17 (.bin .neq (.t 16) (.c (.int .i64 0))), qo 18 (.pick (.t 8) (.t 17) (.c (.bool false)))])
 (.cond (.t 18)
 .skip
 (.exit 0)))
 (.block 1
 (.region none [
 qm 19 0, qf 0 20 3, ql 1 21 20, qo 22 (.un .neg (.t 21)), qB .sub 23 22 1, qi 2 24 19 23, qL 2 25 24, qs 2 3 25])))))
 (.seq (.region none [
 qL 2 26 3, qs 2 4 26])
 .ret)))
def af102 : AFun := ⟨.pure, 1, 102, body102, [.cell 4 2 true]⟩

/-- (umpirage/unify.classes).bind -/
def body103 : ACode := (.seq (.region none [
 qx 5 2, qo 6 (.mov (.c (.bool false)))])
 (.seq (.seq (.region (some [0, 0, 0, 0, 8, 24, 63]) [
 qm 7 0, qm 8 1, qL 2 9 5, qm 10 0, qn 11 10, qo 12 (.mkslice 1 1 (.bool false) (.t 11) (.t 11)), qc 13 105 [(.t 7), (.t 8), (.t 9), (.t 12)]])
 (.cond (.t 13)
 (.seq (.region none [
 qo 6 (.mov (.c (.bool false)))])
 .ret)
 .skip))
 (.seq (.region none [
 qm 14 0, qm 15 1, qL 2 16 5, qi 2 17 14 15, qs 2 17 16])
 (.seq (.region none [
 qo 6 (.mov (.c (.bool true)))])
 .ret))))
def af103 : AFun := ⟨.mut, 1, 103, body103, [.t 6]⟩

/-- slices.Clone[[]umpirage/api.Tree,umpirage/api.Tree] -/
def body104 : ACode := (.seq (.region none [
 qo 2 (.mov (.c .nilSlice))])
 (.seq (.seq (.region none [
 qm 3 0, qo 4 (.eqnil false (.t 3))])
 (.cond (.t 4)
 (.seq (.region none [
 qo 2 (.mov (.c .nilSlice))])
 .ret)
 .skip))
 (.seq (.region none [
 qo 5 (.bslice true 2 0 [] []), qm 6 0, qo 7 (.append false 2 32 (.t 5) (.t 6)), qm 2 7])
 .ret)))
def af104 : AFun := ⟨.new, 1, 104, body104, [.t 2]⟩

/-- (umpirage/unify.classes).within -/
def body105 : ACode := (.seq (.region none [
 qx 6 2, qo 8 (.mov (.c (.bool false)))])
 (.seq (.seq (.region none [
 qf 0 12 6, ql 1 13 12, qB .lss 14 13 0])
 (.cond (.t 14)
 (.seq (.region none [
 qf 0 15 6, ql 1 16 15, qo 17 (.un .neg (.t 16)), qB .sub 18 17 1, qm 9 18])
 (.seq (.seq (.region none [
 qm 19 9, qm 20 1, qb .eql 21 19 20, qm 22 21, qg 22 false 23 (.mov (.t 3)), qg 22 false 24 (.mov (.t 9)), qg 22 false 25 (.iaddr 1 (.t 23) (.t 24)), qg 22 false 26 (.load 1 false (.t 25)), qo 27 (.pick (.t 22) (.c (.bool true)) (.t 26)), qm 28 27, qg 28 false 29 (.mov (.t 0)), qg 28 false 30 (.mov (.t 9)), qg 28 false 31 (.iaddr 2 (.t 29) (.t 30)), qg 28 false 32 (.faddr 0 (.t 31)), qg 28 false 33 (.load 1 false (.t 32)), qg 28 false 34 (.bin .eql (.t 33) (.c (.int .i64 0))), qo 35 (.pick (.t 28) (.c (.bool true)) (.t 34))])
 (.cond (.t 35)
 (.seq (.region none [
 qm 36 9, qm 37 1, qb .eql 38 36 37, qm 8 38])
 .ret)
 .skip))
 (.seq (.region none [
 qm 39 3, qm 40 9, qi 1 41 39 40, ⟨none, .store 1 (.t 41) (.c (.bool true)), none, []⟩])
 (.seq (.region none [
 qm 42 0, qm 43 1, qm 44 0, qm 45 9, qi 2 46 44 45, qL 2 47 46, qm 48 3, qc 49 105 [(.t 42), (.t 43), (.t 47), (.t 48)], qm 8 49])
 .ret))))
 .skip))
 (.seq (.seq (.region none [
 qf 1 50 6, ql 1 51 50, qn 52 51, qk 53 0])
 (.block 0
 (.loop (.seq (.region none [
 qb .lss 54 53 52])
 (.seq (.cond (.t 54)
 .skip
 (.exit 0))
 (.seq (.block 1
 (.seq (.region none [
 qi 2 55 51 53, qL 2 56 55, qo 11 (.lalloc (.agg [(.int .i64 0), .nilSlice])), qs 2 11 56])
 (.seq (.region none [
 qm 57 0, qm 58 1, qL 2 59 11, qm 60 3, qc 61 105 [(.t 57), (.t 58), (.t 59), (.t 60)]])
 (.cond (.t 61)
 (.seq (.region none [
 qo 8 (.mov (.c (.bool true)))])
 .ret)
 .skip))))
 (.region none [
 qB .add 62 53 1, qm 53 62])))))))
 (.seq (.region none [
 qo 8 (.mov (.c (.bool false)))])
 .ret))))
def af105 : AFun := ⟨.mut, 1, 105, body105, [.t 8]⟩

def tabL : List (Nat × AFun) := [(3, af3), (4, af4), (5, af5), (6, af6), (7, af7), (8, af8), (9, af9), (10, af10), (11, af11), (12, af12), (13, af13), (14, af14), (15, af15), (16, af16), (17, af17), (18, af18), (19, af19), (20, af20), (21, af21), (22, af22), (23, af23), (24, af24), (25, af25), (26, af26), (27, af27), (28, af28), (29, af29), (30, af30), (31, af31), (32, af32), (33, af33), (34, af34), (35, af35), (36, af36), (37, af37), (38, af38), (39, af39), (40, af40), (41, af41), (42, af42), (43, af43), (44, af44), (45, af45), (46, af46), (47, af47), (48, af48), (49, af49), (50, af50), (51, af51), (52, af52), (53, af53), (54, af54), (55, af55), (56, af56), (57, af57), (58, af58), (59, af59), (60, af60), (61, af61), (1061, af1061), (62, af62), (63, af63), (64, af64), (65, af65), (66, af66), (67, af67), (68, af68), (69, af69), (70, af70), (71, af71), (72, af72), (73, af73), (74, af74), (75, af75), (76, af76), (77, af77), (78, af78), (79, af79), (80, af80), (81, af81), (82, af82), (83, af83), (84, af84), (85, af85), (86, af86), (87, af87), (88, af88), (89, af89), (90, af90), (91, af91), (92, af92), (93, af93), (94, af94), (95, af95), (96, af96), (97, af97), (98, af98), (99, af99), (100, af100), (101, af101), (102, af102), (103, af103), (104, af104), (105, af105)]
def look (f : Nat) : List (Nat × AFun) → Option AFun
 | [] => none
 | (g, a) :: l => if f == g then some a else look f l
def tab (f : Nat) : Option AFun := look f tabL
theorem tab_3 : tab 3 = some af3 := rfl
theorem tab_4 : tab 4 = some af4 := rfl
theorem tab_5 : tab 5 = some af5 := rfl
theorem tab_6 : tab 6 = some af6 := rfl
theorem tab_7 : tab 7 = some af7 := rfl
theorem tab_8 : tab 8 = some af8 := rfl
theorem tab_9 : tab 9 = some af9 := rfl
theorem tab_10 : tab 10 = some af10 := rfl
theorem tab_11 : tab 11 = some af11 := rfl
theorem tab_12 : tab 12 = some af12 := rfl
theorem tab_13 : tab 13 = some af13 := rfl
theorem tab_14 : tab 14 = some af14 := rfl
theorem tab_15 : tab 15 = some af15 := rfl
theorem tab_16 : tab 16 = some af16 := rfl
theorem tab_17 : tab 17 = some af17 := rfl
theorem tab_18 : tab 18 = some af18 := rfl
theorem tab_19 : tab 19 = some af19 := rfl
theorem tab_20 : tab 20 = some af20 := rfl
theorem tab_21 : tab 21 = some af21 := rfl
theorem tab_22 : tab 22 = some af22 := rfl
theorem tab_23 : tab 23 = some af23 := rfl
theorem tab_24 : tab 24 = some af24 := rfl
theorem tab_25 : tab 25 = some af25 := rfl
theorem tab_26 : tab 26 = some af26 := rfl
theorem tab_27 : tab 27 = some af27 := rfl
theorem tab_28 : tab 28 = some af28 := rfl
theorem tab_29 : tab 29 = some af29 := rfl
theorem tab_30 : tab 30 = some af30 := rfl
theorem tab_31 : tab 31 = some af31 := rfl
theorem tab_32 : tab 32 = some af32 := rfl
theorem tab_33 : tab 33 = some af33 := rfl
theorem tab_34 : tab 34 = some af34 := rfl
theorem tab_35 : tab 35 = some af35 := rfl
theorem tab_36 : tab 36 = some af36 := rfl
theorem tab_37 : tab 37 = some af37 := rfl
theorem tab_38 : tab 38 = some af38 := rfl
theorem tab_39 : tab 39 = some af39 := rfl
theorem tab_40 : tab 40 = some af40 := rfl
theorem tab_41 : tab 41 = some af41 := rfl
theorem tab_42 : tab 42 = some af42 := rfl
theorem tab_43 : tab 43 = some af43 := rfl
theorem tab_44 : tab 44 = some af44 := rfl
theorem tab_45 : tab 45 = some af45 := rfl
theorem tab_46 : tab 46 = some af46 := rfl
theorem tab_47 : tab 47 = some af47 := rfl
theorem tab_48 : tab 48 = some af48 := rfl
theorem tab_49 : tab 49 = some af49 := rfl
theorem tab_50 : tab 50 = some af50 := rfl
theorem tab_51 : tab 51 = some af51 := rfl
theorem tab_52 : tab 52 = some af52 := rfl
theorem tab_53 : tab 53 = some af53 := rfl
theorem tab_54 : tab 54 = some af54 := rfl
theorem tab_55 : tab 55 = some af55 := rfl
theorem tab_56 : tab 56 = some af56 := rfl
theorem tab_57 : tab 57 = some af57 := rfl
theorem tab_58 : tab 58 = some af58 := rfl
theorem tab_59 : tab 59 = some af59 := rfl
theorem tab_60 : tab 60 = some af60 := rfl
theorem tab_61 : tab 61 = some af61 := rfl
theorem tab_1061 : tab 1061 = some af1061 := rfl
theorem tab_62 : tab 62 = some af62 := rfl
theorem tab_63 : tab 63 = some af63 := rfl
theorem tab_64 : tab 64 = some af64 := rfl
theorem tab_65 : tab 65 = some af65 := rfl
theorem tab_66 : tab 66 = some af66 := rfl
theorem tab_67 : tab 67 = some af67 := rfl
theorem tab_68 : tab 68 = some af68 := rfl
theorem tab_69 : tab 69 = some af69 := rfl
theorem tab_70 : tab 70 = some af70 := rfl
theorem tab_71 : tab 71 = some af71 := rfl
theorem tab_72 : tab 72 = some af72 := rfl
theorem tab_73 : tab 73 = some af73 := rfl
theorem tab_74 : tab 74 = some af74 := rfl
theorem tab_75 : tab 75 = some af75 := rfl
theorem tab_76 : tab 76 = some af76 := rfl
theorem tab_77 : tab 77 = some af77 := rfl
theorem tab_78 : tab 78 = some af78 := rfl
theorem tab_79 : tab 79 = some af79 := rfl
theorem tab_80 : tab 80 = some af80 := rfl
theorem tab_81 : tab 81 = some af81 := rfl
theorem tab_82 : tab 82 = some af82 := rfl
theorem tab_83 : tab 83 = some af83 := rfl
theorem tab_84 : tab 84 = some af84 := rfl
theorem tab_85 : tab 85 = some af85 := rfl
theorem tab_86 : tab 86 = some af86 := rfl
theorem tab_87 : tab 87 = some af87 := rfl
theorem tab_88 : tab 88 = some af88 := rfl
theorem tab_89 : tab 89 = some af89 := rfl
theorem tab_90 : tab 90 = some af90 := rfl
theorem tab_91 : tab 91 = some af91 := rfl
theorem tab_92 : tab 92 = some af92 := rfl
theorem tab_93 : tab 93 = some af93 := rfl
theorem tab_94 : tab 94 = some af94 := rfl
theorem tab_95 : tab 95 = some af95 := rfl
theorem tab_96 : tab 96 = some af96 := rfl
theorem tab_97 : tab 97 = some af97 := rfl
theorem tab_98 : tab 98 = some af98 := rfl
theorem tab_99 : tab 99 = some af99 := rfl
theorem tab_100 : tab 100 = some af100 := rfl
theorem tab_101 : tab 101 = some af101 := rfl
theorem tab_102 : tab 102 = some af102 := rfl
theorem tab_103 : tab 103 = some af103 := rfl
theorem tab_104 : tab 104 = some af104 := rfl
theorem tab_105 : tab 105 = some af105 := rfl
end Go.Proofs.Ytmbdccekcfeomaa.Am
