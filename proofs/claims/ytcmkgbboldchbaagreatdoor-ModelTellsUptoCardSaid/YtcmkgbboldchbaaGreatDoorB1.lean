import Derived.Test.YtcmkgbboldchbaaGreatDoorA5
import Derived.Test.YtcmkgbboldchbaaGreatDoorProg
import Derived.KernelRfl
set_option linter.unusedSimpArgs false
set_option linter.unusedVariables false
namespace Go.Pi.M
open Go Go.Pi Go.Proofs
def pures : List Nat := [5,6,7,9,11,12,14,15,16,23,24,25,26,27,28,29,30,31,32,33,36,37,39,40,41,42,43,44,45,46,47,48,49,53,54,55,56,57,59,60,61,62,63,64,65,66,67,68,71,72,73,74,75,76,77,79,80,81,82,83,84,85,86,87,88,89,98,99,100,101,102,103,104,105,106,107,108,109,115,116,117,118,119,120,121,122,123,124,125,126,128,129,130,131,132,133,134,135]
-- 3
def z3 : List Nat := [1000003, 1000005, 1000007, 1000023, 1000028, 1000032, 1000036, 1000069, 1000108, 1000112, 1000131, 1000134, 1000161, 1000169]
def n3 : Nat := 176
def r3 : List RV := [.tmp 6]
def c3 : PCode :=
 (.seq (.reg false [⟨(some 3), none, [], .boxF (.t 0)⟩, ⟨(some 5), none, [], .boxF (.t 2)⟩, ⟨(some 6), none, [], .copy (.c (bo false))⟩])
 (.seq (.reg true [⟨(some 13), none, [], .loadE (.t 3) 7 true⟩, ⟨(some 14), none, [0], .call 4 [(.t 13)]⟩, ⟨(some 15), none, [], .loadE (.t 3) 7 true⟩, ⟨(some 16), none, [2, 1], .call 4 [(.t 15)]⟩, ⟨(some 17), none, [1, 3], .build [(.v (.pointer none)), (.v (.pointer none))] [(0, 1, (.t 14)), (1, 1, (.t 16))]⟩, ⟨(some 7), none, [], .allocF 2⟩, ⟨none, none, [5, 4, 3, 0, 1, 2, 3, 4, 5], .storeF 7 (.t 17) 2⟩])
 (.seq (.seq (.reg false [⟨(some 18), none, [], .loadE (.t 3) 7 true⟩, ⟨(some 19), none, [0], .pcall 5 [(.t 18)]⟩, ⟨(some 20), none, [1], .un .not (.t 19)⟩])
 (.cond (.t 20) (.seq (.reg false [⟨(some 21), none, [], .pcall 6 []⟩, ⟨(some 22), none, [0, 0], .copy (.t 21)⟩, ⟨(some 23), (some (22, true)), [1], .pidxA (.t 7) (.c (i 0)) 2 1⟩, ⟨(some 24), (some (22, true)), [2, 1], .loadE (.t 23) 1 false⟩, ⟨(some 25), (some (22, true)), [3, 1], .eqp false 0 (.t 24) (.c (.v (.pointer none)))⟩, ⟨(some 26), none, [1, 4], .pick (.t 22) (.t 25) (.c (bo false))⟩, ⟨(some 27), none, [5, 1], .copy (.t 26)⟩, ⟨(some 28), (some (27, true)), [6], .pidxA (.t 7) (.c (i 1)) 2 1⟩, ⟨(some 29), (some (27, true)), [7, 6], .loadE (.t 28) 1 false⟩, ⟨(some 30), (some (27, true)), [8, 6], .eqp false 0 (.t 29) (.c (.v (.pointer none)))⟩, ⟨(some 31), none, [6, 9], .pick (.t 27) (.t 30) (.c (bo false))⟩, ⟨(some 6), none, [10, 6, 0, 1, 2, 3, 4, 5, 6, 7, 8, 9, 10], .copy (.t 31)⟩])
 .ret) .skip))
 (.seq (.seq (.reg false [⟨(some 32), none, [], .pidxA (.t 7) (.c (i 0)) 2 1⟩, ⟨(some 33), none, [0], .loadE (.t 32) 1 false⟩, ⟨(some 34), none, [1], .eqp false 0 (.t 33) (.c (.v (.pointer none)))⟩, ⟨(some 35), none, [2], .copy (.t 34)⟩, ⟨(some 36), (some (35, false)), [3], .pidxA (.t 7) (.c (i 1)) 2 1⟩, ⟨(some 37), (some (35, false)), [4, 3], .loadE (.t 36) 1 false⟩, ⟨(some 38), (some (35, false)), [5, 3], .eqp false 0 (.t 37) (.c (.v (.pointer none)))⟩, ⟨(some 39), none, [3, 6], .pick (.t 35) (.c (bo true)) (.t 38)⟩])
 (.cond (.t 39) (.seq (.reg false [⟨(some 6), none, [], .copy (.c (bo false))⟩])
 .ret) .skip))
 (.seq (.reg false [⟨(some 40), none, [], .loadE (.t 3) 7 true⟩, ⟨(some 41), none, [0], .build [(i 0), (i 0), (i 0), (i 0), (i 0), (i 0), (i 0), (.slc true [])] [(0, 7, (.t 40))]⟩, ⟨(some 42), none, [], .loadE (.t 3) 7 true⟩, ⟨(some 43), none, [2], .build [(i 0), (i 0), (i 0), (i 0), (i 0), (i 0), (i 0), (.slc true [])] [(0, 7, (.t 42))]⟩, ⟨(some 44), none, [1, 3], .build [(i 0), (i 0), (i 0), (i 0), (i 0), (i 0), (i 0), (.slc true []), (i 0), (i 0), (i 0), (i 0), (i 0), (i 0), (i 0), (.slc true [])] [(0, 8, (.t 41)), (8, 8, (.t 43))]⟩, ⟨(some 8), none, [], .alloc [(i 0), (i 0), (i 0), (i 0), (i 0), (i 0), (i 0), (.slc true []), (i 0), (i 0), (i 0), (i 0), (i 0), (i 0), (i 0), (.slc true [])]⟩, ⟨none, none, [5, 4, 0, 1, 2, 3, 4, 5], .store (.t 8) (.t 44) 16⟩])
 (.seq (.seq (.reg false [⟨(some 9), none, [], .copy (.c (i 0))⟩])
 (.block 0 (.loop (.seq (.seq (.reg false [⟨(some 45), none, [], .copy (.t 9)⟩, ⟨(some 46), none, [], .copy (.t 1)⟩, ⟨(some 47), none, [1], .len (.t 46)⟩, ⟨(some 48), none, [0, 2], .bin .lss (.t 45) (.t 47)⟩, ⟨(some 49), none, [3], .copy (.t 48)⟩, ⟨(some 50), (some (49, true)), [4], .copy (.t 9)⟩, ⟨(some 51), (some (49, true)), [5, 4], .bin .lss (.t 50) (.c (i 24))⟩, ⟨(some 52), none, [4, 6], .pick (.t 49) (.t 51) (.c (bo false))⟩])
 (.cond (.t 52) .skip (.exit 0)))
 (.seq (.block 1 (.seq (.reg false [⟨(some 55), none, [], .copy (.t 1)⟩, ⟨(some 56), none, [], .copy (.t 9)⟩, ⟨(some 57), none, [0, 1], .pidxS (.t 55) (.t 56) 15⟩, ⟨(some 58), none, [2], .padd (.t 57) 1⟩, ⟨(some 59), none, [3], .load (.t 58) 1 false⟩, ⟨(some 60), none, [4], .pcall 7 [(.t 59)]⟩, ⟨(some 10), none, [5, 5, 0, 1, 2, 3, 4, 5], .copy (.t 60)⟩])
 (.seq (.reg false [⟨(some 11), none, [], .copy (.c (i 0))⟩, ⟨(some 12), none, [0, 0], .copy (.c (i 0))⟩])
 (.seq (.seq (.reg false [⟨(some 61), none, [], .copy (.t 1)⟩, ⟨(some 62), none, [], .copy (.t 9)⟩, ⟨(some 63), none, [0, 1], .pidxS (.t 61) (.t 62) 15⟩, ⟨(some 64), none, [2], .padd (.t 63) 0⟩, ⟨(some 65), none, [3], .load (.t 64) 1 false⟩])
 (.block 2 (.seq (.reg false [⟨(some 67), none, [], .bin .eql (.t 65) (.c (i 0))⟩, ⟨(some 66), none, [0], .copy (.t 67)⟩])
 (.cond (.t 66) (.seq (.reg true [⟨(some 68), none, [], .copy (.t 10)⟩, ⟨(some 69), none, [0], .pidxA (.t 7) (.t 68) 2 1⟩, ⟨(some 70), none, [1], .loadE (.t 69) 1 false⟩, ⟨(some 71), none, [], .copy (.t 1)⟩, ⟨(some 72), none, [], .copy (.t 9)⟩, ⟨(some 73), none, [3, 4], .pidxS (.t 71) (.t 72) 15⟩, ⟨(some 74), none, [5], .padd (.t 73) 2⟩, ⟨(some 75), none, [6], .padd (.t 74) 0⟩, ⟨(some 76), none, [7], .load (.t 75) 12 true⟩, ⟨(some 77), none, [], .copy (.t 1)⟩, ⟨(some 78), none, [], .copy (.t 9)⟩, ⟨(some 79), none, [9, 10], .pidxS (.t 77) (.t 78) 15⟩, ⟨(some 80), none, [11], .padd (.t 79) 2⟩, ⟨(some 81), none, [12], .padd (.t 80) 12⟩, ⟨(some 82), none, [13], .load (.t 81) 1 false⟩, ⟨(some 83), none, [2, 8, 14], .call 8 [(.t 70), (.t 76), (.t 82)]⟩, ⟨(some 11), none, [15, 15, 0, 1, 2, 3, 4, 5, 6, 7, 8, 9, 10, 11, 12, 13, 14, 15], .copy (.t 83)⟩])
 (.reg true [⟨(some 85), none, [], .copy (.t 10)⟩, ⟨(some 86), none, [], .copy (.t 10)⟩, ⟨(some 87), none, [1], .pidxA (.t 8) (.t 86) 2 8⟩, ⟨(some 88), none, [2], .load (.t 87) 8 true⟩, ⟨(some 89), none, [], .copy (.t 1)⟩, ⟨(some 90), none, [], .copy (.t 9)⟩, ⟨(some 91), none, [4, 5], .pidxS (.t 89) (.t 90) 15⟩, ⟨(some 92), none, [6], .padd (.t 91) 2⟩, ⟨(some 93), none, [7], .padd (.t 92) 0⟩, ⟨(some 94), none, [8], .load (.t 93) 12 true⟩, ⟨(some 95), none, [], .copy (.t 1)⟩, ⟨(some 96), none, [], .copy (.t 9)⟩, ⟨(some 97), none, [10, 11], .pidxS (.t 95) (.t 96) 15⟩, ⟨(some 98), none, [12], .padd (.t 97) 2⟩, ⟨(some 99), none, [13], .padd (.t 98) 12⟩, ⟨(some 100), none, [14], .load (.t 99) 1 false⟩, ⟨(some 101), none, [3, 9, 15], .pcall 9 [(.t 88), (.t 94), (.t 100)]⟩, ⟨(some 84), none, [16], .copy (.t 101)⟩, ⟨(some 102), none, [17], .ext (.t 84) 0⟩, ⟨(some 103), none, [17], .ext (.t 84) 1⟩, ⟨(some 104), none, [0, 0, 1, 2, 3, 4, 5, 6, 7, 8, 9, 10, 11, 12, 13, 14, 15, 16, 17, 18], .pidxA (.t 8) (.t 85) 2 8⟩, ⟨none, none, [20, 18, 16, 0, 1, 2, 3, 4, 5, 6, 7, 8, 9, 10, 11, 12, 13, 14, 15, 16, 17, 18], .store (.t 104) (.t 102) 8⟩, ⟨(some 12), none, [19, 21, 0, 1, 2, 3, 4, 5, 6, 7, 8, 9, 10, 11, 12, 13, 14, 15, 16, 17, 18, 19, 20, 21], .copy (.t 103)⟩])) (.seq (.reg false [⟨(some 106), none, [], .bin .eql (.t 65) (.c (i 1))⟩, ⟨(some 105), none, [0], .copy (.t 106)⟩])
 (.cond (.t 105) (.seq (.reg true [⟨(some 107), none, [], .copy (.t 10)⟩, ⟨(some 108), none, [0], .pidxA (.t 7) (.t 107) 2 1⟩, ⟨(some 109), none, [1], .loadE (.t 108) 1 false⟩, ⟨(some 110), none, [], .copy (.t 10)⟩, ⟨(some 111), none, [3], .bin .sub (.c (i 1)) (.t 110)⟩, ⟨(some 112), none, [4], .pidxA (.t 7) (.t 111) 2 1⟩, ⟨(some 113), none, [5], .loadE (.t 112) 1 false⟩, ⟨(some 114), none, [2, 6], .call 10 [(.t 109), (.t 113)]⟩, ⟨(some 11), none, [7, 7, 0, 1, 2, 3, 4, 5, 6, 7], .copy (.t 114)⟩])
 (.reg true [⟨(some 116), none, [], .copy (.t 10)⟩, ⟨(some 117), none, [], .copy (.t 10)⟩, ⟨(some 118), none, [1], .pidxA (.t 8) (.t 117) 2 8⟩, ⟨(some 119), none, [2], .load (.t 118) 8 true⟩, ⟨(some 120), none, [], .copy (.t 10)⟩, ⟨(some 121), none, [4], .bin .sub (.c (i 1)) (.t 120)⟩, ⟨(some 122), none, [5], .pidxA (.t 8) (.t 121) 2 8⟩, ⟨(some 123), none, [6], .load (.t 122) 8 true⟩, ⟨(some 124), none, [3, 7], .pcall 11 [(.t 119), (.t 123)]⟩, ⟨(some 115), none, [8], .copy (.t 124)⟩, ⟨(some 125), none, [9], .ext (.t 115) 0⟩, ⟨(some 126), none, [9], .ext (.t 115) 1⟩, ⟨(some 127), none, [0, 0, 1, 2, 3, 4, 5, 6, 7, 8, 9, 10], .pidxA (.t 8) (.t 116) 2 8⟩, ⟨none, none, [12, 10, 8, 0, 1, 2, 3, 4, 5, 6, 7, 8, 9, 10], .store (.t 127) (.t 125) 8⟩, ⟨(some 12), none, [11, 13, 0, 1, 2, 3, 4, 5, 6, 7, 8, 9, 10, 11, 12, 13], .copy (.t 126)⟩])) (.seq (.reg false [⟨(some 129), none, [], .bin .eql (.t 65) (.c (i 2))⟩, ⟨(some 128), none, [0], .copy (.t 129)⟩])
 (.cond (.t 128) (.seq (.reg true [⟨(some 130), none, [], .copy (.t 10)⟩, ⟨(some 131), none, [0], .pidxA (.t 7) (.t 130) 2 1⟩, ⟨(some 132), none, [1], .loadE (.t 131) 1 false⟩, ⟨(some 133), none, [], .copy (.t 10)⟩, ⟨(some 134), none, [3], .pidxA (.t 7) (.t 133) 2 1⟩, ⟨(some 135), none, [4], .loadE (.t 134) 1 false⟩, ⟨(some 136), none, [2, 5], .call 10 [(.t 132), (.t 135)]⟩, ⟨(some 11), none, [6, 6, 0, 1, 2, 3, 4, 5, 6], .copy (.t 136)⟩])
 (.reg true [⟨(some 138), none, [], .copy (.t 10)⟩, ⟨(some 139), none, [], .copy (.t 10)⟩, ⟨(some 140), none, [1], .pidxA (.t 8) (.t 139) 2 8⟩, ⟨(some 141), none, [2], .load (.t 140) 8 true⟩, ⟨(some 142), none, [], .copy (.t 10)⟩, ⟨(some 143), none, [4], .pidxA (.t 8) (.t 142) 2 8⟩, ⟨(some 144), none, [5], .load (.t 143) 8 true⟩, ⟨(some 145), none, [3, 6], .pcall 11 [(.t 141), (.t 144)]⟩, ⟨(some 137), none, [7], .copy (.t 145)⟩, ⟨(some 146), none, [8], .ext (.t 137) 0⟩, ⟨(some 147), none, [8], .ext (.t 137) 1⟩, ⟨(some 148), none, [0, 0, 1, 2, 3, 4, 5, 6, 7, 8, 9], .pidxA (.t 8) (.t 138) 2 8⟩, ⟨none, none, [11, 9, 7, 0, 1, 2, 3, 4, 5, 6, 7, 8, 9], .store (.t 148) (.t 146) 8⟩, ⟨(some 12), none, [10, 12, 0, 1, 2, 3, 4, 5, 6, 7, 8, 9, 10, 11, 12], .copy (.t 147)⟩])) .skip))))))))
 (.seq (.seq (.reg false [⟨(some 149), none, [], .copy (.t 11)⟩, ⟨(some 150), none, [], .copy (.t 12)⟩, ⟨(some 151), none, [0, 1], .bin .neq (.t 149) (.t 150)⟩])
 (.cond (.t 151) (.seq (.reg false [⟨(some 6), none, [], .copy (.c (bo false))⟩])
 .ret) .skip))
 (.reg false [⟨(some 152), none, [], .copy (.t 10)⟩, ⟨(some 153), none, [], .copy (.t 10)⟩, ⟨(some 154), none, [1], .pidxA (.t 8) (.t 153) 2 8⟩, ⟨(some 155), none, [2], .load (.t 154) 8 true⟩, ⟨(some 156), none, [3], .pcall 12 [(.t 155)]⟩, ⟨(some 157), none, [0, 0, 1, 2, 3, 4], .pidxA (.t 8) (.t 152) 2 8⟩, ⟨(some 158), none, [5, 0, 1, 2, 3, 4], .padd (.t 157) 7⟩, ⟨none, none, [6, 4, 4, 0, 1, 2, 3, 4], .storeT (.t 158) 156⟩]))))))
 (.reg false [⟨(some 53), none, [], .copy (.t 9)⟩, ⟨(some 54), none, [0], .bin .add (.t 53) (.c (i 1))⟩, ⟨(some 9), none, [1, 0, 1], .copy (.t 54)⟩]))))))
 (.seq (.reg false [⟨(some 159), none, [], .pcall 6 []⟩, ⟨(some 160), none, [0, 0], .copy (.t 159)⟩, ⟨(some 161), (some (160, true)), [1], .pidxA (.t 7) (.c (i 0)) 2 1⟩, ⟨(some 162), (some (160, true)), [2, 1], .loadE (.t 161) 1 false⟩, ⟨(some 163), (some (160, true)), [1], .pidxA (.t 8) (.c (i 0)) 2 8⟩, ⟨(some 164), (some (160, true)), [4, 1], .load (.t 163) 8 true⟩, ⟨(some 165), (some (160, true)), [1], .loadE (.t 5) 12 true⟩, ⟨(some 166), (some (160, true)), [3, 5, 6, 1, 1], .call 13 [(.t 162), (.t 164), (.t 165)]⟩, ⟨(some 167), none, [1, 7], .pick (.t 160) (.t 166) (.c (bo false))⟩, ⟨(some 168), none, [8, 7], .copy (.t 167)⟩, ⟨(some 169), (some (168, true)), [9], .pidxA (.t 7) (.c (i 1)) 2 1⟩, ⟨(some 170), (some (168, true)), [10, 9], .loadE (.t 169) 1 false⟩, ⟨(some 171), (some (168, true)), [9], .pidxA (.t 8) (.c (i 1)) 2 8⟩, ⟨(some 172), (some (168, true)), [12, 9], .load (.t 171) 8 true⟩, ⟨(some 173), (some (168, true)), [9], .loadE (.t 5) 12 true⟩, ⟨(some 174), (some (168, true)), [11, 13, 14, 9, 9], .call 13 [(.t 170), (.t 172), (.t 173)]⟩, ⟨(some 175), none, [9, 15], .pick (.t 168) (.t 174) (.c (bo false))⟩, ⟨(some 6), none, [16, 15, 0, 1, 2, 3, 4, 5, 6, 7, 8, 9, 10, 11, 12, 13, 14, 15, 16], .copy (.t 175)⟩])
 .ret)))))))
theorem is3 : FnIs Tryz.prog (z3 ++ pures) 3 n3 c3 r3 := ⟨⟨Tryz.f3, Tryz.f3.body.getD .skip, by kernel_rfl, by kernel_rfl, by kernel_rfl, by kernel_rfl, by kernel_rfl, by kernel_rfl⟩⟩
-- 4
def z4 : List Nat := [1000001]
def n4 : Nat := 10
def r4 : List RV := [.tmp 2]
def c4 : PCode :=
 (.seq (.reg false [⟨(some 1), none, [], .boxF (.t 0)⟩, ⟨(some 2), none, [], .copy (.c (.v (.pointer none)))⟩])
 (.seq (.seq (.reg false [⟨(some 3), none, [], .loadE (.t 1) 7 true⟩, ⟨(some 4), none, [0], .pcall 14 [(.t 3)]⟩, ⟨(some 5), none, [1], .un .not (.t 4)⟩])
 (.cond (.t 5) (.seq (.reg false [⟨(some 2), none, [], .copy (.c (.v (.pointer none)))⟩])
 .ret) .skip))
 (.seq (.reg false [⟨(some 6), none, [], .loadE (.t 1) 7 true⟩, ⟨(some 7), none, [], .mkmap⟩, ⟨(some 8), none, [0, 1], .build [(i 0), (i 0), (i 0), (i 0), (i 0), (i 0), (i 0), (u 0), (.v (.map none))] [(0, 7, (.t 6)), (8, 1, (.t 7))]⟩, ⟨(some 9), none, [2], .box (.t 8)⟩, ⟨(some 2), none, [3, 0, 1, 2, 3], .copy (.t 9)⟩])
 .ret)))
theorem is4 : FnIs Tryz.prog (z4 ++ pures) 4 n4 c4 r4 := ⟨⟨Tryz.f4, Tryz.f4.body.getD .skip, by kernel_rfl, by kernel_rfl, by kernel_rfl, by kernel_rfl, by kernel_rfl, by kernel_rfl⟩⟩
-- 5
def z5 : List Nat := [1000001, 1000003, 1000006, 1000011, 1000017, 1000021, 1000027, 1000007, 1000012, 1000022, 1000028]
def n5 : Nat := 32
def r5 : List RV := [.tmp 2]
def c5 : PCode :=
 (.seq (.reg false [⟨(some 1), none, [], .boxF (.t 0)⟩, ⟨(some 2), none, [], .copy (.c (bo false))⟩])
 (.seq (.seq (.reg false [⟨(some 3), none, [], .padd (.t 1) 0⟩, ⟨(some 4), none, [0], .loadE (.t 3) 1 false⟩, ⟨(some 5), none, [1], .bin .eql (.t 4) (.c (i 1))⟩])
 (.cond (.t 5) (.seq (.reg false [⟨(some 6), none, [], .padd (.t 1) 1⟩, ⟨(some 7), none, [0], .pidxA (.t 6) (.c (i 0)) 2 3⟩, ⟨(some 8), none, [1], .loadE (.t 7) 3 true⟩, ⟨(some 9), none, [2], .pcall 15 [(.t 8)]⟩, ⟨(some 10), none, [3, 3], .copy (.t 9)⟩, ⟨(some 11), (some (10, true)), [4], .padd (.t 1) 1⟩, ⟨(some 12), (some (10, true)), [5, 4], .pidxA (.t 11) (.c (i 1)) 2 3⟩, ⟨(some 13), (some (10, true)), [6, 4], .loadE (.t 12) 3 true⟩, ⟨(some 14), (some (10, true)), [4], .build [(i 0), (i 0), (i 0)] []⟩, ⟨(some 15), (some (10, true)), [7, 8, 4], .eqv false [1, 1, 1] (.t 13) (.t 14)⟩, ⟨(some 16), none, [4, 9], .pick (.t 10) (.t 15) (.c (bo false))⟩, ⟨(some 2), none, [10, 4, 0, 1, 2, 3, 4, 5, 6, 7, 8, 9, 10], .copy (.t 16)⟩])
 .ret) .skip))
 (.seq (.reg false [⟨(some 17), none, [], .padd (.t 1) 0⟩, ⟨(some 18), none, [0], .loadE (.t 17) 1 false⟩, ⟨(some 19), none, [1], .bin .eql (.t 18) (.c (i 2))⟩, ⟨(some 20), none, [2], .copy (.t 19)⟩, ⟨(some 21), (some (20, true)), [3], .padd (.t 1) 1⟩, ⟨(some 22), (some (20, true)), [4, 3], .pidxA (.t 21) (.c (i 0)) 2 3⟩, ⟨(some 23), (some (20, true)), [5, 3], .loadE (.t 22) 3 true⟩, ⟨(some 24), (some (20, true)), [6, 3, 3], .pcall 15 [(.t 23)]⟩, ⟨(some 25), none, [3, 7], .pick (.t 20) (.t 24) (.c (bo false))⟩, ⟨(some 26), none, [8, 7], .copy (.t 25)⟩, ⟨(some 27), (some (26, true)), [9], .padd (.t 1) 1⟩, ⟨(some 28), (some (26, true)), [10, 9], .pidxA (.t 27) (.c (i 1)) 2 3⟩, ⟨(some 29), (some (26, true)), [11, 9], .loadE (.t 28) 3 true⟩, ⟨(some 30), (some (26, true)), [12, 9, 9], .pcall 15 [(.t 29)]⟩, ⟨(some 31), none, [9, 13], .pick (.t 26) (.t 30) (.c (bo false))⟩, ⟨(some 2), none, [14, 13, 0, 1, 2, 3, 4, 5, 6, 7, 8, 9, 10, 11, 12, 13, 14], .copy (.t 31)⟩])
 .ret)))
theorem is5 : FnIs Tryz.prog (z5 ++ pures) 5 n5 c5 r5 := ⟨⟨Tryz.f5, Tryz.f5.body.getD .skip, by kernel_rfl, by kernel_rfl, by kernel_rfl, by kernel_rfl, by kernel_rfl, by kernel_rfl⟩⟩
-- 6
def z6 : List Nat := [1000001, 1000004]
def n6 : Nat := 112
def r6 : List RV := [.tmp 0]
def c6 : PCode :=
 (.seq (.reg false [⟨(some 0), none, [], .copy (.c (bo false))⟩])
 (.seq (.reg false [⟨(some 6), none, [], .build [(i 0), (i 0), (i 0)] [(0, 1, (.c (i 1))), (1, 1, (.c (i 1))), (2, 1, (.c (i 16)))]⟩, ⟨(some 7), none, [], .build [(i 0), (i 0), (i 0)] []⟩, ⟨(some 8), none, [0, 1], .build [(i 0), (i 0), (i 0), (i 0), (i 0), (i 0)] [(0, 3, (.t 6)), (3, 3, (.t 7))]⟩, ⟨(some 9), none, [2], .build [(i 0), (i 0), (i 0), (i 0), (i 0), (i 0), (i 0)] [(0, 1, (.c (i 1))), (1, 6, (.t 8))]⟩, ⟨(some 1), none, [], .allocF 7⟩, ⟨none, none, [4, 3, 0, 1, 2, 3, 4], .storeF 1 (.t 9) 7⟩])
 (.seq (.reg false [⟨(some 10), none, [], .loadE (.t 1) 7 true⟩, ⟨(some 11), none, [0], .call 4 [(.t 10)]⟩, ⟨(some 2), none, [1, 1, 0, 1], .copy (.t 11)⟩])
 (.seq (.reg false [⟨(some 3), none, [], .copy (.c (.v (.pointer none)))⟩])
 (.seq (.seq (.reg false [⟨(some 12), none, [], .copy (.t 2)⟩, ⟨(some 13), none, [0], .eqp false 0 (.t 12) (.c (.v (.pointer none)))⟩, ⟨(some 14), none, [1], .copy (.t 13)⟩, ⟨(some 15), (some (14, false)), [2], .copy (.t 2)⟩, ⟨(some 16), (some (14, false)), [2, 2], .pcall 16 [(.c (u 167772161))]⟩, ⟨(some 17), (some (14, false)), [3, 4, 4, 2], .call 8 [(.t 15), (.t 16), (.c (u 5))]⟩, ⟨(some 18), (some (14, false)), [5, 2], .bin .neq (.t 17) (.c (i 0))⟩, ⟨(some 19), none, [2, 6], .pick (.t 14) (.c (bo true)) (.t 18)⟩, ⟨(some 20), none, [7, 5], .copy (.t 19)⟩, ⟨(some 21), (some (20, false)), [8], .copy (.t 2)⟩, ⟨(some 22), (some (20, false)), [8, 8], .pcall 16 [(.c (u 167772162))]⟩, ⟨(some 23), (some (20, false)), [9, 10, 10, 8], .call 8 [(.t 21), (.t 22), (.c (u 3))]⟩, ⟨(some 24), (some (20, false)), [11, 8], .bin .neq (.t 23) (.c (i 0))⟩, ⟨(some 25), none, [8, 12], .pick (.t 20) (.c (bo true)) (.t 24)⟩, ⟨(some 26), none, [13, 11], .copy (.t 25)⟩, ⟨(some 27), (some (26, false)), [14], .copy (.t 2)⟩, ⟨(some 28), (some (26, false)), [14], .build [(i 0), (i 0), (i 0), (i 0), (u 0), (u 0), (tx []), (i 0), (i 0), (u 0), (u 0), (tx [])] []⟩, ⟨(some 29), (some (26, false)), [15, 16, 14, 14], .call 8 [(.t 27), (.t 28), (.c (u 1))]⟩, ⟨(some 30), (some (26, false)), [17, 14], .bin .neq (.t 29) (.c (i 1))⟩, ⟨(some 31), none, [14, 18], .pick (.t 26) (.c (bo true)) (.t 30)⟩, ⟨(some 32), none, [19, 17], .copy (.t 31)⟩, ⟨(some 33), (some (32, false)), [20], .copy (.t 2)⟩, ⟨(some 34), (some (32, false)), [20, 20], .pcall 16 [(.c (u 1))]⟩, ⟨(some 35), (some (32, false)), [21, 22, 22, 20], .call 8 [(.t 33), (.t 34), (.c (u 4611686018427387904))]⟩, ⟨(some 36), (some (32, false)), [23, 20], .bin .neq (.t 35) (.c (i 13))⟩, ⟨(some 37), none, [20, 24], .pick (.t 32) (.c (bo true)) (.t 36)⟩])
 (.cond (.t 37) (.seq (.reg false [⟨(some 0), none, [], .copy (.c (bo false))⟩])
 .ret) .skip))
 (.seq (.reg false [⟨(some 38), none, [], .build [(i 0), (i 0)] [(0, 1, (.c (i 1))), (1, 1, (.c (i 0)))]⟩, ⟨(some 39), none, [], .build [(i 0), (i 0), (u 0), (u 0), (tx [])] [(0, 1, (.c (i 1))), (1, 1, (.c (i 16))), (2, 1, (.c (u 720575940379279360)))]⟩, ⟨(some 40), none, [], .build [(i 0), (i 0), (u 0), (u 0), (tx [])] []⟩, ⟨(some 41), none, [1, 2], .build [(i 0), (i 0), (u 0), (u 0), (tx []), (i 0), (i 0), (u 0), (u 0), (tx [])] [(0, 5, (.t 39)), (5, 5, (.t 40))]⟩, ⟨(some 42), none, [0, 3], .build [(i 0), (i 0), (i 0), (i 0), (u 0), (u 0), (tx []), (i 0), (i 0), (u 0), (u 0), (tx [])] [(0, 2, (.t 38)), (2, 10, (.t 41))]⟩, ⟨(some 4), none, [], .allocF 12⟩, ⟨none, none, [5, 4, 0, 1, 2, 3, 4, 5], .storeF 4 (.t 42) 12⟩])
 (.seq (.reg false [⟨(some 43), none, [], .copy (.t 2)⟩, ⟨(some 44), none, [0], .call 17 [(.t 43)]⟩, ⟨(some 5), none, [1, 1, 0, 1], .take 44⟩])
 (.seq (.seq (.reg false [⟨(some 45), none, [], .copy (.t 5)⟩, ⟨(some 46), none, [0], .len (.t 45)⟩, ⟨(some 47), none, [1], .bin .neq (.t 46) (.c (i 2))⟩, ⟨(some 48), none, [2], .copy (.t 47)⟩, ⟨(some 49), (some (48, false)), [3], .copy (.t 2)⟩, ⟨(some 50), (some (48, false)), [4, 3, 3], .call 18 [(.t 49)]⟩, ⟨(some 51), (some (48, false)), [5, 3], .len (.t 50)⟩, ⟨(some 52), (some (48, false)), [6, 3], .bin .neq (.t 51) (.c (i 4))⟩, ⟨(some 53), none, [3, 7], .pick (.t 48) (.c (bo true)) (.t 52)⟩, ⟨(some 54), none, [8, 5], .copy (.t 53)⟩, ⟨(some 55), (some (54, false)), [9], .copy (.t 2)⟩, ⟨(some 56), (some (54, false)), [9], .loadE (.t 4) 12 true⟩, ⟨(some 57), (some (54, false)), [10, 11, 9, 9], .call 19 [(.t 55), (.t 56)]⟩, ⟨(some 58), (some (54, false)), [12, 9], .bin .neq (.t 57) (.c (u 8))⟩, ⟨(some 59), none, [9, 13], .pick (.t 54) (.c (bo true)) (.t 58)⟩, ⟨(some 60), none, [14, 12], .copy (.t 59)⟩, ⟨(some 61), (some (60, false)), [15], .copy (.t 2)⟩, ⟨(some 62), (some (60, false)), [15], .copy (.t 2)⟩, ⟨(some 63), (some (60, false)), [16, 17, 15, 15], .call 10 [(.t 61), (.t 62)]⟩, ⟨(some 64), (some (60, false)), [18, 15], .bin .neq (.t 63) (.c (i 0))⟩, ⟨(some 65), none, [15, 19], .pick (.t 60) (.c (bo true)) (.t 64)⟩])
 (.cond (.t 65) (.seq (.reg false [⟨(some 0), none, [], .copy (.c (bo false))⟩])
 .ret) .skip))
 (.seq (.reg true [⟨(some 66), none, [], .copy (.t 5)⟩, ⟨(some 67), none, [0], .pidxS (.t 66) (.c (i 0)) 13⟩, ⟨(some 68), none, [1], .load (.t 67) 13 true⟩, ⟨(some 69), none, [], .pcall 16 [(.c (u 167772161))]⟩, ⟨(some 70), none, [3], .build [(i 0), (i 0), (i 0), (i 0), (u 0), (u 0), (tx []), (i 0), (i 0), (u 0), (u 0), (tx []), (u 0)] [(0, 12, (.t 69)), (12, 1, (.c (u 5)))]⟩, ⟨(some 71), none, [2, 4], .eqv false [1, 1, 1, 1, 1, 1, 2, 1, 1, 1, 1, 2, 1] (.t 68) (.t 70)⟩, ⟨(some 72), none, [5, 3], .copy (.t 71)⟩, ⟨(some 73), (some (72, true)), [6], .copy (.t 2)⟩, ⟨(some 74), (some (72, true)), [7, 6, 6], .call 20 [(.t 73)]⟩, ⟨(some 75), (some (72, true)), [8, 6], .bin .eql (.t 74) (.c (u 16))⟩, ⟨(some 76), none, [6, 9], .pick (.t 72) (.t 75) (.c (bo false))⟩, ⟨(some 77), none, [10, 8], .copy (.t 76)⟩, ⟨(some 78), (some (77, true)), [11], .copy (.t 2)⟩, ⟨(some 79), (some (77, true)), [11], .loadE (.t 4) 12 true⟩, ⟨(some 80), (some (77, true)), [12, 13, 11, 11], .call 19 [(.t 78), (.t 79)]⟩, ⟨(some 81), (some (77, true)), [14, 11], .bin .eql (.t 80) (.c (u 16))⟩, ⟨(some 82), none, [11, 15], .pick (.t 77) (.t 81) (.c (bo false))⟩, ⟨(some 83), none, [16, 14], .copy (.t 82)⟩, ⟨(some 84), (some (83, true)), [17], .copy (.t 2)⟩, ⟨(some 85), (some (83, true)), [18, 17, 17], .call 21 [(.t 84)]⟩, ⟨(some 86), (some (83, true)), [17], .loadE (.t 1) 7 true⟩, ⟨(some 87), (some (83, true)), [19, 20, 17], .eqv false [1, 1, 1, 1, 1, 1, 1] (.t 85) (.t 86)⟩, ⟨(some 88), none, [17, 21], .pick (.t 83) (.t 87) (.c (bo false))⟩, ⟨(some 89), none, [22, 19], .copy (.t 88)⟩, ⟨(some 90), (some (89, true)), [23], .build [(i 0), (i 0), (i 0), (i 0), (i 0), (i 0), (i 0)] []⟩, ⟨(some 91), (some (89, true)), [24, 23, 23], .call 4 [(.t 90)]⟩, ⟨(some 92), (some (89, true)), [25, 23], .eqp false 0 (.t 91) (.c (.v (.pointer none)))⟩, ⟨(some 93), none, [23, 26], .pick (.t 89) (.t 92) (.c (bo false))⟩, ⟨(some 94), none, [27, 25], .copy (.t 93)⟩, ⟨(some 95), (some (94, true)), [28], .copy (.t 3)⟩, ⟨(some 96), (some (94, true)), [28], .loadE (.t 4) 12 true⟩, ⟨(some 97), (some (94, true)), [29, 30, 28, 28], .call 8 [(.t 95), (.t 96), (.c (u 1))]⟩, ⟨(some 98), (some (94, true)), [31, 28], .bin .eql (.t 97) (.c (i 6))⟩, ⟨(some 99), none, [28, 32], .pick (.t 94) (.t 98) (.c (bo false))⟩, ⟨(some 100), none, [33, 31], .copy (.t 99)⟩, ⟨(some 101), (some (100, true)), [34], .copy (.t 3)⟩, ⟨(some 102), (some (100, true)), [34], .copy (.t 2)⟩, ⟨(some 103), (some (100, true)), [35, 36, 34, 34], .call 10 [(.t 101), (.t 102)]⟩, ⟨(some 104), (some (100, true)), [37, 34], .bin .eql (.t 103) (.c (i 6))⟩, ⟨(some 105), none, [34, 38], .pick (.t 100) (.t 104) (.c (bo false))⟩, ⟨(some 106), none, [39, 37], .copy (.t 105)⟩, ⟨(some 107), (some (106, true)), [40], .copy (.t 3)⟩, ⟨(some 108), (some (106, true)), [40], .loadE (.t 4) 12 true⟩, ⟨(some 109), (some (106, true)), [41, 42, 40, 40], .call 19 [(.t 107), (.t 108)]⟩, ⟨(some 110), (some (106, true)), [43, 40], .bin .eql (.t 109) (.c (u 0))⟩, ⟨(some 111), none, [40, 44], .pick (.t 106) (.t 110) (.c (bo false))⟩, ⟨(some 0), none, [45, 43, 0, 1, 2, 3, 4, 5, 6, 7, 8, 9, 10, 11, 12, 13, 14, 15, 16, 17, 18, 19, 20, 21, 22, 23, 24, 25, 26, 27, 28, 29, 30, 31, 32, 33, 34, 35, 36, 37, 38, 39, 40, 41, 42, 43, 44, 45], .copy (.t 111)⟩])
 .ret)))))))))
theorem is6 : FnIs Tryz.prog (z6 ++ pures) 6 n6 c6 r6 := ⟨⟨Tryz.f6, Tryz.f6.body.getD .skip, by kernel_rfl, by kernel_rfl, by kernel_rfl, by kernel_rfl, by kernel_rfl, by kernel_rfl⟩⟩
-- 7
def z7 : List Nat := []
def n7 : Nat := 6
def r7 : List RV := [.tmp 2]
def c7 : PCode :=
 (.seq (.reg false [⟨(some 2), none, [], .copy (.c (i 0))⟩])
 (.seq (.seq (.reg false [⟨(some 3), none, [], .copy (.t 0)⟩, ⟨(some 4), none, [0], .bin .rem (.t 3) (.c (i 2))⟩, ⟨(some 5), none, [1], .bin .neq (.t 4) (.c (i 0))⟩])
 (.cond (.t 5) (.seq (.reg false [⟨(some 2), none, [], .copy (.c (i 1))⟩])
 .ret) .skip))
 (.seq (.reg false [⟨(some 2), none, [], .copy (.c (i 0))⟩])
 .ret)))
theorem is7 : FnIs Tryz.prog (z7 ++ pures) 7 n7 c7 r7 := ⟨⟨Tryz.f7, Tryz.f7.body.getD .skip, by kernel_rfl, by kernel_rfl, by kernel_rfl, by kernel_rfl, by kernel_rfl, by kernel_rfl⟩⟩
-- 8
def z8 : List Nat := [1000004]
def n8 : Nat := 54
def r8 : List RV := [.tmp 6]
def c8 : PCode :=
 (.seq (.reg false [⟨(some 4), none, [], .boxF (.t 1)⟩, ⟨(some 6), none, [], .copy (.c (i 0))⟩])
 (.seq (.block 0 (.seq (.reg false [⟨(some 8), none, [], .copy (.t 0)⟩, ⟨(some 9), none, [0], .call 22 [(.t 8)]⟩, ⟨(some 10), none, [1], .un .not (.t 9)⟩, ⟨(some 7), none, [2, 1], .copy (.t 10)⟩])
 (.cond (.t 7) (.seq (.reg false [⟨(some 6), none, [], .copy (.c (i 6))⟩])
 .ret) (.seq (.reg true [⟨(some 12), none, [], .copy (.t 0)⟩, ⟨(some 13), none, [0], .nilck (.t 12)⟩, ⟨(some 14), none, [1], .padd (.t 13) 0⟩, ⟨(some 15), none, [2], .load (.t 14) 7 true⟩, ⟨(some 16), none, [], .loadE (.t 4) 12 true⟩, ⟨(some 17), none, [3, 4], .pcall 23 [(.t 15), (.t 16)]⟩, ⟨(some 18), none, [5], .un .not (.t 17)⟩, ⟨(some 19), none, [6, 5], .copy (.t 18)⟩, ⟨(some 20), (some (19, false)), [7], .copy (.t 0)⟩, ⟨(some 21), (some (19, false)), [8, 7], .nilck (.t 20)⟩, ⟨(some 22), (some (19, false)), [9, 7], .padd (.t 21) 0⟩, ⟨(some 23), (some (19, false)), [10, 7], .load (.t 22) 7 true⟩, ⟨(some 24), (some (19, false)), [7], .loadE (.t 4) 12 true⟩, ⟨(some 25), (some (19, false)), [11, 12, 7, 7], .pcall 24 [(.t 23), (.t 24)]⟩, ⟨(some 26), (some (19, false)), [13, 7], .bin .gtr (.t 25) (.c (i 0))⟩, ⟨(some 27), none, [7, 14], .pick (.t 19) (.c (bo true)) (.t 26)⟩, ⟨(some 11), none, [15, 13], .copy (.t 27)⟩])
 (.cond (.t 11) (.seq (.reg false [⟨(some 6), none, [], .copy (.c (i 1))⟩])
 .ret) (.seq (.reg false [⟨(some 29), none, [], .copy (.t 2)⟩, ⟨(some 30), none, [], .copy (.t 0)⟩, ⟨(some 31), none, [1], .nilck (.t 30)⟩, ⟨(some 32), none, [2], .padd (.t 31) 7⟩, ⟨(some 33), none, [3], .load (.t 32) 1 false⟩, ⟨(some 34), none, [4], .bin .sub (.c (u 4611686018427387904)) (.t 33)⟩, ⟨(some 35), none, [0, 5], .bin .gtr (.t 29) (.t 34)⟩, ⟨(some 28), none, [6], .copy (.t 35)⟩])
 (.cond (.t 28) (.seq (.reg false [⟨(some 6), none, [], .copy (.c (i 13))⟩])
 .ret) .skip)))))))
 (.seq (.reg true [⟨(some 36), none, [], .copy (.t 0)⟩, ⟨(some 37), none, [0], .nilck (.t 36)⟩, ⟨(some 38), none, [1], .padd (.t 37) 8⟩, ⟨(some 39), none, [2], .load (.t 38) 1 false⟩, ⟨(some 40), none, [], .loadE (.t 4) 12 true⟩, ⟨(some 41), none, [3, 4], .lookup (true, [1, 1, 1, 1, 1, 1, 2, 1, 1, 1, 1, 2]) (u 0) false (.t 39) (.t 40)⟩, ⟨(some 42), none, [], .copy (.t 2)⟩, ⟨(some 43), none, [5, 6], .bin .add (.t 41) (.t 42)⟩, ⟨(some 44), none, [3, 4, 0, 1, 2, 3, 4, 6], .mentry (true, [1, 1, 1, 1, 1, 1, 2, 1, 1, 1, 1, 2]) (u 0) (.t 39) (.t 40)⟩, ⟨(some 45), none, [8], .ext (.t 44) 1⟩, ⟨none, none, [3, 9, 7, 8, 0, 1, 2, 3, 4, 5, 6, 7, 8, 9], .mstore (.t 39) (.t 45) (.t 43)⟩])
 (.seq (.reg false [⟨(some 46), none, [], .copy (.t 0)⟩, ⟨(some 47), none, [0], .nilck (.t 46)⟩, ⟨(some 48), none, [1], .padd (.t 47) 7⟩, ⟨(some 49), none, [2], .load (.t 48) 1 false⟩, ⟨(some 50), none, [], .copy (.t 2)⟩, ⟨(some 51), none, [3, 4], .bin .add (.t 49) (.t 50)⟩, ⟨(some 52), none, [0, 0, 1, 2, 3, 4, 5], .nilck (.t 46)⟩, ⟨(some 53), none, [6, 0, 1, 2, 3, 4, 5], .padd (.t 52) 7⟩, ⟨none, none, [7, 5, 0, 1, 2, 3, 4, 5], .store (.t 53) (.t 51) 1⟩])
 (.seq (.reg false [⟨(some 6), none, [], .copy (.c (i 0))⟩])
 .ret)))))
theorem is8 : FnIs Tryz.prog (z8 ++ pures) 8 n8 c8 r8 := ⟨⟨Tryz.f8, Tryz.f8.body.getD .skip, by kernel_rfl, by kernel_rfl, by kernel_rfl, by kernel_rfl, by kernel_rfl, by kernel_rfl⟩⟩
-- 9
def z9 : List Nat := [1000004, 1000014]
def n9 : Nat := 38
def r9 : List RV := [.cell 6 8 true, .tmp 7]
def c9 : PCode :=
 (.seq (.reg false [⟨(some 3), none, [], .box (.t 0)⟩, ⟨(some 4), none, [], .boxF (.t 1)⟩, ⟨(some 6), none, [], .alloc [(i 0), (i 0), (i 0), (i 0), (i 0), (i 0), (i 0), (.slc true [])]⟩, ⟨(some 7), none, [], .copy (.c (i 0))⟩])
 (.seq (.seq (.reg false [⟨(some 8), none, [], .padd (.t 3) 0⟩, ⟨(some 9), none, [0], .load (.t 8) 7 true⟩, ⟨(some 10), none, [], .loadE (.t 4) 12 true⟩, ⟨(some 11), none, [1, 2], .pcall 25 [(.t 9), (.t 10)]⟩, ⟨(some 12), none, [3], .un .not (.t 11)⟩, ⟨(some 13), none, [4, 3], .copy (.t 12)⟩, ⟨(some 14), (some (13, false)), [5], .padd (.t 4) 0⟩, ⟨(some 15), (some (13, false)), [6, 5], .loadE (.t 14) 2 true⟩, ⟨(some 16), (some (13, false)), [5], .build [(i 0), (i 0)] []⟩, ⟨(some 17), (some (13, false)), [7, 8, 5], .eqv true [1, 1] (.t 15) (.t 16)⟩, ⟨(some 18), none, [5, 9], .pick (.t 13) (.c (bo true)) (.t 17)⟩])
 (.cond (.t 18) (.seq (.reg false [⟨(some 19), none, [], .load (.t 3) 8 true⟩, ⟨none, none, [0, 0], .store (.t 6) (.t 19) 8⟩, ⟨(some 7), none, [1, 0, 1], .copy (.c (i 1))⟩])
 .ret) .skip))
 (.seq (.seq (.reg false [⟨(some 20), none, [], .copy (.t 2)⟩, ⟨(some 21), none, [], .padd (.t 3) 7⟩, ⟨(some 22), none, [1], .load (.t 21) 1 false⟩, ⟨(some 23), none, [2], .pcall 26 [(.t 22)]⟩, ⟨(some 24), none, [3], .bin .sub (.c (u 4611686018427387904)) (.t 23)⟩, ⟨(some 25), none, [0, 4], .bin .gtr (.t 20) (.t 24)⟩])
 (.cond (.t 25) (.seq (.reg false [⟨(some 26), none, [], .load (.t 3) 8 true⟩, ⟨none, none, [0, 0], .store (.t 6) (.t 26) 8⟩, ⟨(some 7), none, [1, 0, 1], .copy (.c (i 13))⟩])
 .ret) .skip))
 (.seq (.reg true [⟨(some 27), none, [], .nilsl⟩, ⟨(some 28), none, [], .padd (.t 3) 7⟩, ⟨(some 29), none, [1], .load (.t 28) 1 false⟩, ⟨(some 30), none, [0, 2], .append 27 (.t 29) 13 120⟩, ⟨(some 31), none, [], .loadE (.t 4) 12 true⟩, ⟨(some 32), none, [], .copy (.t 2)⟩, ⟨(some 33), none, [4, 5], .build [(i 0), (i 0), (i 0), (i 0), (u 0), (u 0), (tx []), (i 0), (i 0), (u 0), (u 0), (tx []), (u 0)] [(0, 12, (.t 31)), (12, 1, (.t 32))]⟩, ⟨(some 34), none, [6], .bslice 13 [(.t 33)]⟩, ⟨(some 35), none, [3, 7, 3], .append 30 (.t 34) 13 120⟩, ⟨(some 36), none, [0, 1, 2, 3, 4, 5, 6, 7, 8], .padd (.t 3) 7⟩, ⟨none, none, [9, 8, 8, 0, 1, 2, 3, 4, 5, 6, 7, 8], .storeT (.t 36) 35⟩])
 (.seq (.reg false [⟨(some 37), none, [], .load (.t 3) 8 true⟩, ⟨none, none, [0, 0], .store (.t 6) (.t 37) 8⟩, ⟨(some 7), none, [1, 0, 1], .copy (.c (i 0))⟩])
 .ret)))))
theorem is9 : FnIs Tryz.prog (z9 ++ pures) 9 n9 c9 r9 := ⟨⟨Tryz.f9, Tryz.f9.body.getD .skip, by kernel_rfl, by kernel_rfl, by kernel_rfl, by kernel_rfl, by kernel_rfl, by kernel_rfl⟩⟩
-- 10
def z10 : List Nat := [1000006, 1000045, 1000047]
def n10 : Nat := 51
def r10 : List RV := [.tmp 4]
def c10 : PCode :=
 (.seq (.reg false [⟨(some 4), none, [], .copy (.c (i 0))⟩])
 (.seq (.block 0 (.seq (.reg false [⟨(some 8), none, [], .copy (.t 0)⟩, ⟨(some 9), none, [0], .call 22 [(.t 8)]⟩, ⟨(some 10), none, [1], .un .not (.t 9)⟩, ⟨(some 11), none, [2, 1], .copy (.t 10)⟩, ⟨(some 12), (some (11, false)), [3], .copy (.t 1)⟩, ⟨(some 13), (some (11, false)), [4, 3, 3], .call 22 [(.t 12)]⟩, ⟨(some 14), (some (11, false)), [5, 3], .un .not (.t 13)⟩, ⟨(some 15), none, [3, 6], .pick (.t 11) (.c (bo true)) (.t 14)⟩, ⟨(some 7), none, [7, 5], .copy (.t 15)⟩])
 (.cond (.t 7) (.seq (.reg false [⟨(some 4), none, [], .copy (.c (i 6))⟩])
 .ret) (.seq (.reg true [⟨(some 17), none, [], .copy (.t 0)⟩, ⟨(some 18), none, [0], .nilck (.t 17)⟩, ⟨(some 19), none, [1], .padd (.t 18) 0⟩, ⟨(some 20), none, [2], .load (.t 19) 7 true⟩, ⟨(some 21), none, [], .copy (.t 1)⟩, ⟨(some 22), none, [4], .nilck (.t 21)⟩, ⟨(some 23), none, [5], .padd (.t 22) 0⟩, ⟨(some 24), none, [6], .load (.t 23) 7 true⟩, ⟨(some 25), none, [3, 7], .eqv true [1, 1, 1, 1, 1, 1, 1] (.t 20) (.t 24)⟩, ⟨(some 16), none, [8], .copy (.t 25)⟩])
 (.cond (.t 16) (.seq (.reg false [⟨(some 4), none, [], .copy (.c (i 14))⟩])
 .ret) (.seq (.reg true [⟨(some 27), none, [], .copy (.t 0)⟩, ⟨(some 28), none, [0], .nilck (.t 27)⟩, ⟨(some 29), none, [1], .padd (.t 28) 7⟩, ⟨(some 30), none, [2], .load (.t 29) 1 false⟩, ⟨(some 31), none, [], .copy (.t 1)⟩, ⟨(some 32), none, [4], .nilck (.t 31)⟩, ⟨(some 33), none, [5], .padd (.t 32) 7⟩, ⟨(some 34), none, [6], .load (.t 33) 1 false⟩, ⟨(some 35), none, [7], .bin .sub (.c (u 4611686018427387904)) (.t 34)⟩, ⟨(some 36), none, [3, 8], .bin .gtr (.t 30) (.t 35)⟩, ⟨(some 26), none, [9], .copy (.t 36)⟩])
 (.cond (.t 26) (.seq (.reg false [⟨(some 4), none, [], .copy (.c (i 13))⟩])
 .ret) .skip)))))))
 (.seq (.seq (.reg false [⟨(some 37), none, [], .copy (.t 1)⟩, ⟨(some 38), none, [0], .call 17 [(.t 37)]⟩, ⟨(some 39), none, [1], .len (.t 38)⟩, ⟨(some 40), none, [], .copy (.c (i 0))⟩])
 (.block 1 (.loop (.seq (.reg false [⟨(some 41), none, [], .bin .lss (.t 40) (.t 39)⟩])
 (.seq (.cond (.t 41) .skip (.exit 1))
 (.seq (.block 2 (.seq (.reg false [⟨(some 42), none, [], .pidxS (.t 38) (.t 40) 13⟩, ⟨(some 43), none, [0], .load (.t 42) 13 true⟩, ⟨(some 6), none, [], .allocF 13⟩, ⟨none, none, [2, 1, 0, 1, 2], .storeF 6 (.t 43) 13⟩])
 (.reg false [⟨(some 44), none, [], .copy (.t 0)⟩, ⟨(some 45), none, [], .padd (.t 6) 0⟩, ⟨(some 46), none, [1], .loadE (.t 45) 12 true⟩, ⟨(some 47), none, [], .padd (.t 6) 12⟩, ⟨(some 48), none, [3], .loadE (.t 47) 1 false⟩, ⟨(some 49), none, [0, 2, 4], .call 8 [(.t 44), (.t 46), (.t 48)]⟩])))
 (.reg false [⟨(some 50), none, [], .bin .add (.t 40) (.c (i 1))⟩, ⟨(some 40), none, [0], .copy (.t 50)⟩])))))))
 (.seq (.reg false [⟨(some 4), none, [], .copy (.c (i 0))⟩])
 .ret))))
theorem is10 : FnIs Tryz.prog (z10 ++ pures) 10 n10 c10 r10 := ⟨⟨Tryz.f10, Tryz.f10.body.getD .skip, by kernel_rfl, by kernel_rfl, by kernel_rfl, by kernel_rfl, by kernel_rfl, by kernel_rfl⟩⟩
-- 11
def z11 : List Nat := [1000003, 1000008, 1000015, 1000025]
def n11 : Nat := 30
def r11 : List RV := [.cell 4 8 true, .tmp 5]
def c11 : PCode :=
 (.seq (.reg false [⟨(some 2), none, [], .box (.t 0)⟩, ⟨(some 3), none, [], .boxF (.t 1)⟩, ⟨(some 4), none, [], .alloc [(i 0), (i 0), (i 0), (i 0), (i 0), (i 0), (i 0), (.slc true [])]⟩, ⟨(some 5), none, [], .copy (.c (i 0))⟩])
 (.seq (.seq (.reg false [⟨(some 6), none, [], .padd (.t 2) 0⟩, ⟨(some 7), none, [0], .load (.t 6) 7 true⟩, ⟨(some 8), none, [], .padd (.t 3) 0⟩, ⟨(some 9), none, [2], .loadE (.t 8) 7 true⟩, ⟨(some 10), none, [1, 3], .eqv true [1, 1, 1, 1, 1, 1, 1] (.t 7) (.t 9)⟩])
 (.cond (.t 10) (.seq (.reg false [⟨(some 11), none, [], .load (.t 2) 8 true⟩, ⟨none, none, [0, 0], .store (.t 4) (.t 11) 8⟩, ⟨(some 5), none, [1, 0, 1], .copy (.c (i 14))⟩])
 .ret) .skip))
 (.seq (.seq (.reg true [⟨(some 12), none, [], .padd (.t 2) 7⟩, ⟨(some 13), none, [0], .load (.t 12) 1 false⟩, ⟨(some 14), none, [1], .pcall 26 [(.t 13)]⟩, ⟨(some 15), none, [], .padd (.t 3) 7⟩, ⟨(some 16), none, [3], .loadE (.t 15) 1 false⟩, ⟨(some 17), none, [4, 2], .pcall 26 [(.t 16)]⟩, ⟨(some 18), none, [2, 5], .bin .add (.t 14) (.t 17)⟩, ⟨(some 19), none, [6], .bin .gtr (.t 18) (.c (u 4611686018427387904))⟩])
 (.cond (.t 19) (.seq (.reg false [⟨(some 20), none, [], .load (.t 2) 8 true⟩, ⟨none, none, [0, 0], .store (.t 4) (.t 20) 8⟩, ⟨(some 5), none, [1, 0, 1], .copy (.c (i 13))⟩])
 .ret) .skip))
 (.seq (.reg true [⟨(some 21), none, [], .nilsl⟩, ⟨(some 22), none, [], .padd (.t 2) 7⟩, ⟨(some 23), none, [1], .load (.t 22) 1 false⟩, ⟨(some 24), none, [0, 2], .append 21 (.t 23) 13 120⟩, ⟨(some 25), none, [], .padd (.t 3) 7⟩, ⟨(some 26), none, [4], .loadE (.t 25) 1 false⟩, ⟨(some 27), none, [3, 5, 3], .append 24 (.t 26) 13 120⟩, ⟨(some 28), none, [0, 1, 2, 3, 4, 5, 6], .padd (.t 2) 7⟩, ⟨none, none, [7, 6, 6, 0, 1, 2, 3, 4, 5, 6], .storeT (.t 28) 27⟩])
 (.seq (.reg false [⟨(some 29), none, [], .load (.t 2) 8 true⟩, ⟨none, none, [0, 0], .store (.t 4) (.t 29) 8⟩, ⟨(some 5), none, [1, 0, 1], .copy (.c (i 0))⟩])
 .ret)))))
theorem is11 : FnIs Tryz.prog (z11 ++ pures) 11 n11 c11 r11 := ⟨⟨Tryz.f11, Tryz.f11.body.getD .skip, by kernel_rfl, by kernel_rfl, by kernel_rfl, by kernel_rfl, by kernel_rfl, by kernel_rfl⟩⟩
-- 12
def z12 : List Nat := [1000001, 1000008, 1000014, 1000022, 1000028]
def n12 : Nat := 56
def r12 : List RV := [.tmp 2]
def c12 : PCode :=
 (.seq (.reg false [⟨(some 1), none, [], .boxF (.t 0)⟩, ⟨(some 2), none, [], .copy (.c (.slc true []))⟩])
 (.seq (.reg false [⟨(some 3), none, [], .copy (.c (.slc true []))⟩])
 (.seq (.seq (.reg false [⟨(some 4), none, [], .copy (.c (i 0))⟩])
 (.block 0 (.loop (.seq (.seq (.reg false [⟨(some 7), none, [], .copy (.t 4)⟩, ⟨(some 8), none, [], .padd (.t 1) 7⟩, ⟨(some 9), none, [1], .loadE (.t 8) 1 false⟩, ⟨(some 10), none, [2], .len (.t 9)⟩, ⟨(some 11), none, [0, 3], .bin .lss (.t 7) (.t 10)⟩])
 (.cond (.t 11) .skip (.exit 0)))
 (.seq (.block 1 (.seq (.reg false [⟨(some 14), none, [], .padd (.t 1) 7⟩, ⟨(some 15), none, [0], .loadE (.t 14) 1 false⟩, ⟨(some 16), none, [], .copy (.t 4)⟩, ⟨(some 17), none, [1, 2], .pidxS (.t 15) (.t 16) 13⟩, ⟨(some 18), none, [3], .padd (.t 17) 12⟩, ⟨(some 19), none, [4], .load (.t 18) 1 false⟩, ⟨(some 20), none, [5], .bin .gtr (.t 19) (.c (u 0))⟩])
 (.cond (.t 20) (.reg true [⟨(some 21), none, [], .copy (.t 3)⟩, ⟨(some 22), none, [], .padd (.t 1) 7⟩, ⟨(some 23), none, [1], .loadE (.t 22) 1 false⟩, ⟨(some 24), none, [], .copy (.t 4)⟩, ⟨(some 25), none, [2, 3], .pidxS (.t 23) (.t 24) 13⟩, ⟨(some 26), none, [4], .padd (.t 25) 0⟩, ⟨(some 27), none, [5], .load (.t 26) 12 true⟩, ⟨(some 28), none, [], .padd (.t 1) 7⟩, ⟨(some 29), none, [7], .loadE (.t 28) 1 false⟩, ⟨(some 30), none, [], .copy (.t 4)⟩, ⟨(some 31), none, [8, 9], .pidxS (.t 29) (.t 30) 13⟩, ⟨(some 32), none, [10], .padd (.t 31) 12⟩, ⟨(some 33), none, [11], .load (.t 32) 1 false⟩, ⟨(some 34), none, [0, 6, 12], .pcall 27 [(.t 21), (.t 27), (.t 33), (.c (u 0))]⟩, ⟨(some 3), none, [13, 13, 0, 1, 2, 3, 4, 5, 6, 7, 8, 9, 10, 11, 12, 13], .take 34⟩]) .skip)))
 (.reg false [⟨(some 12), none, [], .copy (.t 4)⟩, ⟨(some 13), none, [0], .bin .add (.t 12) (.c (i 1))⟩, ⟨(some 4), none, [1, 0, 1], .copy (.t 13)⟩]))))))
 (.seq (.reg false [⟨(some 5), none, [], .copy (.c (.slc true []))⟩])
 (.seq (.seq (.reg false [⟨(some 6), none, [], .copy (.c (i 0))⟩])
 (.block 2 (.loop (.seq (.seq (.reg false [⟨(some 35), none, [], .copy (.t 6)⟩, ⟨(some 36), none, [], .copy (.t 3)⟩, ⟨(some 37), none, [1], .len (.t 36)⟩, ⟨(some 38), none, [0, 2], .bin .lss (.t 35) (.t 37)⟩])
 (.cond (.t 38) .skip (.exit 2)))
 (.seq (.block 3 (.reg true [⟨(some 41), none, [], .take 5⟩, ⟨(some 42), none, [], .copy (.t 3)⟩, ⟨(some 43), none, [], .copy (.t 6)⟩, ⟨(some 44), none, [1, 2], .pidxS (.t 42) (.t 43) 14⟩, ⟨(some 45), none, [3], .padd (.t 44) 0⟩, ⟨(some 46), none, [4], .load (.t 45) 12 true⟩, ⟨(some 47), none, [], .copy (.t 3)⟩, ⟨(some 48), none, [], .copy (.t 6)⟩, ⟨(some 49), none, [6, 7], .pidxS (.t 47) (.t 48) 14⟩, ⟨(some 50), none, [8], .padd (.t 49) 12⟩, ⟨(some 51), none, [9], .load (.t 50) 1 false⟩, ⟨(some 52), none, [5, 10], .build [(i 0), (i 0), (i 0), (i 0), (u 0), (u 0), (tx []), (i 0), (i 0), (u 0), (u 0), (tx []), (u 0)] [(0, 12, (.t 46)), (12, 1, (.t 51))]⟩, ⟨(some 53), none, [11], .bslice 13 [(.t 52)]⟩, ⟨(some 54), none, [0, 12], .append 41 (.t 53) 13 120⟩, ⟨(some 5), none, [13, 13, 0, 1, 2, 3, 4, 5, 6, 7, 8, 9, 10, 11, 12, 13], .take 54⟩]))
 (.reg false [⟨(some 39), none, [], .copy (.t 6)⟩, ⟨(some 40), none, [0], .bin .add (.t 39) (.c (i 1))⟩, ⟨(some 6), none, [1, 0, 1], .copy (.t 40)⟩]))))))
 (.seq (.reg false [⟨(some 55), none, [], .copy (.t 5)⟩, ⟨(some 2), none, [0, 0], .take 55⟩])
 .ret))))))
theorem is12 : FnIs Tryz.prog (z12 ++ pures) 12 n12 c12 r12 := ⟨⟨Tryz.f12, Tryz.f12.body.getD .skip, by kernel_rfl, by kernel_rfl, by kernel_rfl, by kernel_rfl, by kernel_rfl, by kernel_rfl⟩⟩
-- 13
def z13 : List Nat := [1000004, 1000009, 1000015, 1000005]
def n13 : Nat := 43
def r13 : List RV := [.tmp 6]
def c13 : PCode :=
 (.seq (.reg false [⟨(some 4), none, [], .boxF (.t 1)⟩, ⟨(some 5), none, [], .boxF (.t 2)⟩, ⟨(some 6), none, [], .copy (.c (bo false))⟩])
 (.seq (.reg true [⟨(some 7), none, [], .copy (.t 0)⟩, ⟨(some 8), none, [0], .call 21 [(.t 7)]⟩, ⟨(some 9), none, [], .padd (.t 4) 0⟩, ⟨(some 10), none, [2], .loadE (.t 9) 7 true⟩, ⟨(some 11), none, [1, 3], .eqv false [1, 1, 1, 1, 1, 1, 1] (.t 8) (.t 10)⟩, ⟨(some 12), none, [4, 1], .copy (.t 11)⟩, ⟨(some 13), (some (12, true)), [5], .copy (.t 0)⟩, ⟨(some 14), (some (12, true)), [6, 5, 5], .call 20 [(.t 13)]⟩, ⟨(some 15), (some (12, true)), [5], .padd (.t 4) 7⟩, ⟨(some 16), (some (12, true)), [8, 5], .loadE (.t 15) 1 false⟩, ⟨(some 17), (some (12, true)), [9, 7, 5], .pcall 26 [(.t 16)]⟩, ⟨(some 18), (some (12, true)), [7, 10, 5], .bin .eql (.t 14) (.t 17)⟩, ⟨(some 19), none, [5, 11], .pick (.t 12) (.t 18) (.c (bo false))⟩, ⟨(some 20), none, [12, 10], .copy (.t 19)⟩, ⟨(some 21), (some (20, true)), [13], .copy (.t 0)⟩, ⟨(some 22), (some (20, true)), [13], .loadE (.t 5) 12 true⟩, ⟨(some 23), (some (20, true)), [14, 15, 13, 13], .call 19 [(.t 21), (.t 22)]⟩, ⟨(some 24), (some (20, true)), [13], .loadE (.t 4) 8 true⟩, ⟨(some 25), (some (20, true)), [13], .loadE (.t 5) 12 true⟩, ⟨(some 26), (some (20, true)), [17, 18, 16, 13], .pcall 28 [(.t 24), (.t 25)]⟩, ⟨(some 27), (some (20, true)), [16, 19, 13], .bin .eql (.t 23) (.t 26)⟩, ⟨(some 28), none, [13, 20], .pick (.t 20) (.t 27) (.c (bo false))⟩, ⟨(some 29), none, [21, 19], .copy (.t 28)⟩, ⟨(some 30), (some (29, true)), [22], .copy (.t 0)⟩, ⟨(some 31), (some (29, true)), [23, 22, 22], .call 17 [(.t 30)]⟩, ⟨(some 32), (some (29, true)), [22], .loadE (.t 4) 8 true⟩, ⟨(some 33), (some (29, true)), [25, 24, 22], .pcall 12 [(.t 32)]⟩, ⟨(some 34), (some (29, true)), [24, 26, 26, 22], .pcall 29 [(.t 31), (.t 33)]⟩, ⟨(some 35), none, [22, 27], .pick (.t 29) (.t 34) (.c (bo false))⟩, ⟨(some 36), none, [28, 27], .copy (.t 35)⟩, ⟨(some 37), (some (36, true)), [29], .copy (.t 0)⟩, ⟨(some 38), (some (36, true)), [30, 29, 29], .call 18 [(.t 37)]⟩, ⟨(some 39), (some (36, true)), [29], .loadE (.t 4) 8 true⟩, ⟨(some 40), (some (36, true)), [32, 31, 29], .pcall 31 [(.t 39)]⟩, ⟨(some 41), (some (36, true)), [31, 33, 33, 29], .pcall 30 [(.t 38), (.t 40)]⟩, ⟨(some 42), none, [29, 34], .pick (.t 36) (.t 41) (.c (bo false))⟩, ⟨(some 6), none, [35, 34, 0, 1, 2, 3, 4, 5, 6, 7, 8, 9, 10, 11, 12, 13, 14, 15, 16, 17, 18, 19, 20, 21, 22, 23, 24, 25, 26, 27, 28, 29, 30, 31, 32, 33, 34, 35], .copy (.t 42)⟩])
 .ret))
theorem is13 : FnIs Tryz.prog (z13 ++ pures) 13 n13 c13 r13 := ⟨⟨Tryz.f13, Tryz.f13.body.getD .skip, by kernel_rfl, by kernel_rfl, by kernel_rfl, by kernel_rfl, by kernel_rfl, by kernel_rfl⟩⟩
-- 14
def z14 : List Nat := [1000001, 1000003, 1000007, 1000012, 1000020, 1000025, 1000008, 1000013, 1000021, 1000026]
def n14 : Nat := 30
def r14 : List RV := [.tmp 2]
def c14 : PCode :=
 (.seq (.reg false [⟨(some 1), none, [], .boxF (.t 0)⟩, ⟨(some 2), none, [], .copy (.c (bo false))⟩])
 (.seq (.seq (.reg false [⟨(some 3), none, [], .padd (.t 1) 0⟩, ⟨(some 4), none, [0], .loadE (.t 3) 1 false⟩])
 (.block 0 (.seq (.reg false [⟨(some 6), none, [], .bin .eql (.t 4) (.c (i 1))⟩, ⟨(some 5), none, [0], .copy (.t 6)⟩])
 (.cond (.t 5) (.seq (.reg false [⟨(some 7), none, [], .padd (.t 1) 1⟩, ⟨(some 8), none, [0], .pidxA (.t 7) (.c (i 0)) 2 3⟩, ⟨(some 9), none, [1], .loadE (.t 8) 3 true⟩, ⟨(some 10), none, [2], .pcall 32 [(.t 9)]⟩, ⟨(some 11), none, [3, 3], .copy (.t 10)⟩, ⟨(some 12), (some (11, true)), [4], .padd (.t 1) 1⟩, ⟨(some 13), (some (11, true)), [5, 4], .pidxA (.t 12) (.c (i 1)) 2 3⟩, ⟨(some 14), (some (11, true)), [6, 4], .loadE (.t 13) 3 true⟩, ⟨(some 15), (some (11, true)), [4], .build [(i 0), (i 0), (i 0)] []⟩, ⟨(some 16), (some (11, true)), [7, 8, 4], .eqv false [1, 1, 1] (.t 14) (.t 15)⟩, ⟨(some 17), none, [4, 9], .pick (.t 11) (.t 16) (.c (bo false))⟩, ⟨(some 2), none, [10, 4, 0, 1, 2, 3, 4, 5, 6, 7, 8, 9, 10], .copy (.t 17)⟩])
 .ret) (.seq (.reg false [⟨(some 19), none, [], .bin .eql (.t 4) (.c (i 2))⟩, ⟨(some 18), none, [0], .copy (.t 19)⟩])
 (.cond (.t 18) (.seq (.reg false [⟨(some 20), none, [], .padd (.t 1) 1⟩, ⟨(some 21), none, [0], .pidxA (.t 20) (.c (i 0)) 2 3⟩, ⟨(some 22), none, [1], .loadE (.t 21) 3 true⟩, ⟨(some 23), none, [2], .pcall 32 [(.t 22)]⟩, ⟨(some 24), none, [3, 3], .copy (.t 23)⟩, ⟨(some 25), (some (24, true)), [4], .padd (.t 1) 1⟩, ⟨(some 26), (some (24, true)), [5, 4], .pidxA (.t 25) (.c (i 1)) 2 3⟩, ⟨(some 27), (some (24, true)), [6, 4], .loadE (.t 26) 3 true⟩, ⟨(some 28), (some (24, true)), [7, 4, 4], .pcall 32 [(.t 27)]⟩, ⟨(some 29), none, [4, 8], .pick (.t 24) (.t 28) (.c (bo false))⟩, ⟨(some 2), none, [9, 8, 0, 1, 2, 3, 4, 5, 6, 7, 8, 9], .copy (.t 29)⟩])
 .ret) .skip))))))
 (.seq (.reg false [⟨(some 2), none, [], .copy (.c (bo false))⟩])
 .ret)))
theorem is14 : FnIs Tryz.prog (z14 ++ pures) 14 n14 c14 r14 := ⟨⟨Tryz.f14, Tryz.f14.body.getD .skip, by kernel_rfl, by kernel_rfl, by kernel_rfl, by kernel_rfl, by kernel_rfl, by kernel_rfl⟩⟩
-- 15
def z15 : List Nat := [1000001]
def n15 : Nat := 7
def r15 : List RV := [.tmp 2]
def c15 : PCode :=
 (.seq (.reg false [⟨(some 1), none, [], .boxF (.t 0)⟩, ⟨(some 2), none, [], .copy (.c (bo false))⟩])
 (.seq (.reg false [⟨(some 3), none, [], .loadE (.t 1) 3 true⟩, ⟨(some 4), none, [0], .pcall 33 [(.t 3)]⟩, ⟨(some 5), none, [1], .len (.t 4)⟩, ⟨(some 6), none, [2], .bin .gtr (.t 5) (.c (i 0))⟩, ⟨(some 2), none, [3, 1, 0, 1, 2, 3], .copy (.t 6)⟩])
 .ret))
theorem is15 : FnIs Tryz.prog (z15 ++ pures) 15 n15 c15 r15 := ⟨⟨Tryz.f15, Tryz.f15.body.getD .skip, by kernel_rfl, by kernel_rfl, by kernel_rfl, by kernel_rfl, by kernel_rfl, by kernel_rfl⟩⟩
-- 16
def z16 : List Nat := []
def n16 : Nat := 9
def r16 : List RV := [.cell 2 12 true]
def c16 : PCode :=
 (.seq (.reg false [⟨(some 2), none, [], .alloc [(i 0), (i 0), (i 0), (i 0), (u 0), (u 0), (tx []), (i 0), (i 0), (u 0), (u 0), (tx [])]⟩])
 (.seq (.reg false [⟨(some 3), none, [], .copy (.t 0)⟩, ⟨(some 4), none, [0], .bin .shl (.t 3) (.c (u 32))⟩, ⟨(some 5), none, [1], .build [(i 0), (i 0), (u 0), (u 0), (tx [])] [(0, 1, (.c (i 1))), (1, 1, (.c (i 32))), (2, 1, (.t 4))]⟩, ⟨(some 6), none, [], .build [(i 0), (i 0), (u 0), (u 0), (tx [])] []⟩, ⟨(some 7), none, [2, 3], .build [(i 0), (i 0), (u 0), (u 0), (tx []), (i 0), (i 0), (u 0), (u 0), (tx [])] [(0, 5, (.t 5)), (5, 5, (.t 6))]⟩, ⟨(some 8), none, [4], .build [(i 0), (i 0), (i 0), (i 0), (u 0), (u 0), (tx []), (i 0), (i 0), (u 0), (u 0), (tx [])] [(2, 10, (.t 7))]⟩, ⟨none, none, [5, 0, 1, 2, 3, 4, 5], .store (.t 2) (.t 8) 12⟩])
 .ret))
theorem is16 : FnIs Tryz.prog (z16 ++ pures) 16 n16 c16 r16 := ⟨⟨Tryz.f16, Tryz.f16.body.getD .skip, by kernel_rfl, by kernel_rfl, by kernel_rfl, by kernel_rfl, by kernel_rfl, by kernel_rfl⟩⟩
-- 17
def z17 : List Nat := [1000005]
def n17 : Nat := 37
def r17 : List RV := [.tmp 2]
def c17 : PCode :=
 (.seq (.reg false [⟨(some 2), none, [], .copy (.c (.slc true []))⟩])
 (.seq (.seq (.reg false [⟨(some 7), none, [], .copy (.t 0)⟩, ⟨(some 8), none, [0], .call 22 [(.t 7)]⟩, ⟨(some 9), none, [1], .un .not (.t 8)⟩])
 (.cond (.t 9) (.seq (.reg false [⟨(some 2), none, [], .copy (.c (.slc true []))⟩])
 .ret) .skip))
 (.seq (.reg false [⟨(some 3), none, [], .copy (.c (.slc true []))⟩])
 (.seq (.seq (.reg false [⟨(some 10), none, [], .copy (.t 0)⟩, ⟨(some 11), none, [0], .nilck (.t 10)⟩, ⟨(some 12), none, [1], .padd (.t 11) 8⟩, ⟨(some 13), none, [2], .load (.t 12) 1 false⟩, ⟨(some 14), none, [3], .call 35 [(.t 13)]⟩, ⟨(some 15), none, [4, 4], .call 34 [(.t 14), (.c (.clo 36 []))]⟩, ⟨(some 16), none, [5], .len (.t 15)⟩, ⟨(some 17), none, [], .copy (.c (i 0))⟩])
 (.block 0 (.loop (.seq (.reg false [⟨(some 18), none, [], .bin .lss (.t 17) (.t 16)⟩])
 (.seq (.cond (.t 18) .skip (.exit 0))
 (.seq (.block 1 (.seq (.reg false [⟨(some 19), none, [], .pidxS (.t 15) (.t 17) 12⟩, ⟨(some 20), none, [0], .load (.t 19) 12 true⟩, ⟨(some 5), none, [], .allocF 12⟩, ⟨none, none, [2, 1, 0, 1, 2], .storeF 5 (.t 20) 12⟩])
 (.seq (.reg true [⟨(some 21), none, [], .copy (.t 0)⟩, ⟨(some 22), none, [0], .nilck (.t 21)⟩, ⟨(some 23), none, [1], .padd (.t 22) 8⟩, ⟨(some 24), none, [2], .load (.t 23) 1 false⟩, ⟨(some 25), none, [], .loadE (.t 5) 12 true⟩, ⟨(some 26), none, [3, 4], .lookup (true, [1, 1, 1, 1, 1, 1, 2, 1, 1, 1, 1, 2]) (u 0) false (.t 24) (.t 25)⟩, ⟨(some 6), none, [5, 0, 1, 2, 3, 4, 5], .copy (.t 26)⟩])
 (.seq (.reg false [⟨(some 27), none, [], .copy (.t 6)⟩, ⟨(some 28), none, [0], .bin .gtr (.t 27) (.c (u 0))⟩])
 (.cond (.t 28) (.reg false [⟨(some 29), none, [], .take 3⟩, ⟨(some 30), none, [], .loadE (.t 5) 12 true⟩, ⟨(some 31), none, [], .copy (.t 6)⟩, ⟨(some 32), none, [1, 2], .build [(i 0), (i 0), (i 0), (i 0), (u 0), (u 0), (tx []), (i 0), (i 0), (u 0), (u 0), (tx []), (u 0)] [(0, 12, (.t 30)), (12, 1, (.t 31))]⟩, ⟨(some 33), none, [3], .bslice 13 [(.t 32)]⟩, ⟨(some 34), none, [0, 4], .append 29 (.t 33) 13 120⟩, ⟨(some 3), none, [5, 5, 0, 1, 2, 3, 4, 5], .take 34⟩]) .skip)))))
 (.reg false [⟨(some 35), none, [], .bin .add (.t 17) (.c (i 1))⟩, ⟨(some 17), none, [0], .copy (.t 35)⟩])))))))
 (.seq (.reg false [⟨(some 36), none, [], .copy (.t 3)⟩, ⟨(some 2), none, [0, 0], .take 36⟩])
 .ret)))))
theorem is17 : FnIs Tryz.prog (z17 ++ pures) 17 n17 c17 r17 := ⟨⟨Tryz.f17, Tryz.f17.body.getD .skip, by kernel_rfl, by kernel_rfl, by kernel_rfl, by kernel_rfl, by kernel_rfl, by kernel_rfl⟩⟩
-- 18
def z18 : List Nat := [1000005, 1000023, 1000007]
def n18 : Nat := 42
def r18 : List RV := [.tmp 2]
def c18 : PCode :=
 (.seq (.reg false [⟨(some 2), none, [], .copy (.c (.slc true []))⟩])
 (.seq (.seq (.reg false [⟨(some 8), none, [], .copy (.t 0)⟩, ⟨(some 9), none, [0], .call 22 [(.t 8)]⟩, ⟨(some 10), none, [1], .un .not (.t 9)⟩])
 (.cond (.t 10) (.seq (.reg false [⟨(some 2), none, [], .copy (.c (.slc true []))⟩])
 .ret) .skip))
 (.seq (.reg false [⟨(some 11), none, [], .mkmap⟩, ⟨(some 3), none, [0, 0], .copy (.t 11)⟩])
 (.seq (.seq (.reg false [⟨(some 12), none, [], .copy (.t 0)⟩, ⟨(some 13), none, [0], .call 17 [(.t 12)]⟩, ⟨(some 14), none, [1], .len (.t 13)⟩, ⟨(some 15), none, [], .copy (.c (i 0))⟩])
 (.block 0 (.loop (.seq (.reg false [⟨(some 16), none, [], .bin .lss (.t 15) (.t 14)⟩])
 (.seq (.cond (.t 16) .skip (.exit 0))
 (.seq (.block 1 (.seq (.reg false [⟨(some 17), none, [], .pidxS (.t 13) (.t 15) 13⟩, ⟨(some 18), none, [0], .load (.t 17) 13 true⟩, ⟨(some 5), none, [], .allocF 13⟩, ⟨none, none, [2, 1, 0, 1, 2], .storeF 5 (.t 18) 13⟩])
 (.seq (.reg true [⟨(some 19), none, [], .copy (.t 0)⟩, ⟨(some 20), none, [0], .nilck (.t 19)⟩, ⟨(some 21), none, [1], .padd (.t 20) 0⟩, ⟨(some 22), none, [2], .load (.t 21) 7 true⟩, ⟨(some 23), none, [], .padd (.t 5) 0⟩, ⟨(some 24), none, [4], .loadE (.t 23) 12 true⟩, ⟨(some 25), none, [3, 5], .pcall 37 [(.t 22), (.t 24)]⟩, ⟨(some 26), none, [6], .len (.t 25)⟩, ⟨(some 27), none, [], .copy (.c (i 0))⟩])
 (.block 2 (.loop (.seq (.reg false [⟨(some 28), none, [], .bin .lss (.t 27) (.t 26)⟩])
 (.seq (.cond (.t 28) .skip (.exit 2))
 (.seq (.block 3 (.seq (.reg false [⟨(some 29), none, [], .pidxS (.t 25) (.t 27) 12⟩, ⟨(some 30), none, [0], .load (.t 29) 12 true⟩, ⟨(some 7), none, [], .allocF 12⟩, ⟨none, none, [2, 1, 0, 1, 2], .storeF 7 (.t 30) 12⟩])
 (.reg true [⟨(some 31), none, [], .copy (.t 3)⟩, ⟨(some 32), none, [], .loadE (.t 7) 12 true⟩, ⟨(some 33), none, [0, 1], .lookup (true, [1, 1, 1, 1, 1, 1, 2, 1, 1, 1, 1, 2]) (i 0) false (.t 31) (.t 32)⟩, ⟨(some 34), none, [2], .bin .add (.t 33) (.c (i 1))⟩, ⟨(some 35), none, [0, 1, 0, 1], .mentry (true, [1, 1, 1, 1, 1, 1, 2, 1, 1, 1, 1, 2]) (i 0) (.t 31) (.t 32)⟩, ⟨(some 36), none, [4], .ext (.t 35) 1⟩, ⟨none, none, [0, 5, 3, 4, 0, 1, 2, 3, 4, 5], .mstore (.t 31) (.t 36) (.t 34)⟩])))
 (.reg false [⟨(some 37), none, [], .bin .add (.t 27) (.c (i 1))⟩, ⟨(some 27), none, [0], .copy (.t 37)⟩])))))))))
 (.reg false [⟨(some 38), none, [], .bin .add (.t 15) (.c (i 1))⟩, ⟨(some 15), none, [0], .copy (.t 38)⟩])))))))
 (.seq (.reg false [⟨(some 39), none, [], .copy (.t 3)⟩, ⟨(some 40), none, [0], .call 38 [(.t 39)]⟩, ⟨(some 41), none, [1, 1], .call 34 [(.t 40), (.c (.clo 39 []))]⟩, ⟨(some 2), none, [2, 2, 0, 1, 2], .take 41⟩])
 .ret)))))
theorem is18 : FnIs Tryz.prog (z18 ++ pures) 18 n18 c18 r18 := ⟨⟨Tryz.f18, Tryz.f18.body.getD .skip, by kernel_rfl, by kernel_rfl, by kernel_rfl, by kernel_rfl, by kernel_rfl, by kernel_rfl⟩⟩
-- 19
def z19 : List Nat := [1000003, 1000006]
def n19 : Nat := 32
def r19 : List RV := [.tmp 4]
def c19 : PCode :=
 (.seq (.reg false [⟨(some 3), none, [], .boxF (.t 1)⟩, ⟨(some 4), none, [], .copy (.c (u 0))⟩])
 (.seq (.seq (.reg false [⟨(some 8), none, [], .copy (.t 0)⟩, ⟨(some 9), none, [0], .call 22 [(.t 8)]⟩, ⟨(some 10), none, [1], .un .not (.t 9)⟩])
 (.cond (.t 10) (.seq (.reg false [⟨(some 4), none, [], .copy (.c (u 0))⟩])
 .ret) .skip))
 (.seq (.reg false [⟨(some 5), none, [], .copy (.c (u 0))⟩])
 (.seq (.seq (.reg false [⟨(some 11), none, [], .copy (.t 0)⟩, ⟨(some 12), none, [0], .nilck (.t 11)⟩, ⟨(some 13), none, [1], .padd (.t 12) 8⟩, ⟨(some 14), none, [2], .load (.t 13) 1 false⟩, ⟨(some 15), none, [3], .mrange (.t 14)⟩])
 (.block 0 (.loop (.seq (.reg false [⟨(some 16), none, [], .mnext (.t 15)⟩, ⟨(some 17), none, [0], .ext (.t 16) 0⟩])
 (.seq (.cond (.t 17) .skip (.exit 0))
 (.block 1 (.seq (.reg false [⟨(some 18), none, [], .mcur (.t 15)⟩, ⟨(some 19), none, [0], .ext (.t 18) 0⟩, ⟨(some 20), none, [0], .ext (.t 18) 1⟩, ⟨(some 6), none, [], .allocF 12⟩, ⟨none, none, [3, 1, 0, 1, 3], .storeF 6 (.t 19) 12⟩, ⟨(some 7), none, [2, 4, 0, 1, 2, 3, 4], .copy (.t 20)⟩])
 (.seq (.reg true [⟨(some 21), none, [], .copy (.t 0)⟩, ⟨(some 22), none, [0], .nilck (.t 21)⟩, ⟨(some 23), none, [1], .padd (.t 22) 0⟩, ⟨(some 24), none, [2], .load (.t 23) 7 true⟩, ⟨(some 25), none, [], .loadE (.t 3) 12 true⟩, ⟨(some 26), none, [], .loadE (.t 6) 12 true⟩, ⟨(some 27), none, [3, 4, 5], .pcall 40 [(.t 24), (.t 25), (.t 26)]⟩])
 (.cond (.t 27) (.reg false [⟨(some 28), none, [], .copy (.t 5)⟩, ⟨(some 29), none, [], .copy (.t 7)⟩, ⟨(some 30), none, [0, 1], .bin .add (.t 28) (.t 29)⟩, ⟨(some 5), none, [2, 0, 1, 2], .copy (.t 30)⟩]) .skip)))))))))
 (.seq (.reg false [⟨(some 31), none, [], .copy (.t 5)⟩, ⟨(some 4), none, [0, 0], .copy (.t 31)⟩])
 .ret)))))
theorem is19 : FnIs Tryz.prog (z19 ++ pures) 19 n19 c19 r19 := ⟨⟨Tryz.f19, Tryz.f19.body.getD .skip, by kernel_rfl, by kernel_rfl, by kernel_rfl, by kernel_rfl, by kernel_rfl, by kernel_rfl⟩⟩
-- 20
def z20 : List Nat := []
def n20 : Nat := 10
def r20 : List RV := [.tmp 2]
def c20 : PCode :=
 (.seq (.reg false [⟨(some 2), none, [], .copy (.c (u 0))⟩])
 (.seq (.seq (.reg false [⟨(some 3), none, [], .copy (.t 0)⟩, ⟨(some 4), none, [0], .call 22 [(.t 3)]⟩, ⟨(some 5), none, [1], .un .not (.t 4)⟩])
 (.cond (.t 5) (.seq (.reg false [⟨(some 2), none, [], .copy (.c (u 0))⟩])
 .ret) .skip))
 (.seq (.reg false [⟨(some 6), none, [], .copy (.t 0)⟩, ⟨(some 7), none, [0], .nilck (.t 6)⟩, ⟨(some 8), none, [1], .padd (.t 7) 7⟩, ⟨(some 9), none, [2], .load (.t 8) 1 false⟩, ⟨(some 2), none, [3, 0, 1, 2, 3], .copy (.t 9)⟩])
 .ret)))
theorem is20 : FnIs Tryz.prog (z20 ++ pures) 20 n20 c20 r20 := ⟨⟨Tryz.f20, Tryz.f20.body.getD .skip, by kernel_rfl, by kernel_rfl, by kernel_rfl, by kernel_rfl, by kernel_rfl, by kernel_rfl⟩⟩
-- 21
def z21 : List Nat := []
def n21 : Nat := 11
def r21 : List RV := [.cell 2 7 true]
def c21 : PCode :=
 (.seq (.reg false [⟨(some 2), none, [], .alloc [(i 0), (i 0), (i 0), (i 0), (i 0), (i 0), (i 0)]⟩])
 (.seq (.seq (.reg false [⟨(some 3), none, [], .copy (.t 0)⟩, ⟨(some 4), none, [0], .call 22 [(.t 3)]⟩, ⟨(some 5), none, [1], .un .not (.t 4)⟩])
 (.cond (.t 5) (.seq (.reg false [⟨(some 6), none, [], .build [(i 0), (i 0), (i 0), (i 0), (i 0), (i 0), (i 0)] []⟩, ⟨none, none, [0, 0], .store (.t 2) (.t 6) 7⟩])
 .ret) .skip))
 (.seq (.reg false [⟨(some 7), none, [], .copy (.t 0)⟩, ⟨(some 8), none, [0], .nilck (.t 7)⟩, ⟨(some 9), none, [1], .padd (.t 8) 0⟩, ⟨(some 10), none, [2], .load (.t 9) 7 true⟩, ⟨none, none, [3, 0, 1, 2, 3], .store (.t 2) (.t 10) 7⟩])
 .ret)))
theorem is21 : FnIs Tryz.prog (z21 ++ pures) 21 n21 c21 r21 := ⟨⟨Tryz.f21, Tryz.f21.body.getD .skip, by kernel_rfl, by kernel_rfl, by kernel_rfl, by kernel_rfl, by kernel_rfl, by kernel_rfl⟩⟩
-- 22
def z22 : List Nat := []
def n22 : Nat := 12
def r22 : List RV := [.tmp 2]
def c22 : PCode :=
 (.seq (.reg false [⟨(some 2), none, [], .copy (.c (bo false))⟩])
 (.seq (.reg false [⟨(some 3), none, [], .copy (.t 0)⟩, ⟨(some 4), none, [0], .eqp true 0 (.t 3) (.c (.v (.pointer none)))⟩, ⟨(some 5), none, [1], .copy (.t 4)⟩, ⟨(some 6), (some (5, true)), [2], .copy (.t 0)⟩, ⟨(some 7), (some (5, true)), [3, 2], .nilck (.t 6)⟩, ⟨(some 8), (some (5, true)), [4, 2], .padd (.t 7) 8⟩, ⟨(some 9), (some (5, true)), [5, 2], .load (.t 8) 1 false⟩, ⟨(some 10), (some (5, true)), [6, 2], .eqp true 1 (.t 9) (.c (.v (.map none)))⟩, ⟨(some 11), none, [2, 7], .pick (.t 5) (.t 10) (.c (bo false))⟩, ⟨(some 2), none, [8, 2, 0, 1, 2, 3, 4, 5, 6, 7, 8], .copy (.t 11)⟩])
 .ret))
theorem is22 : FnIs Tryz.prog (z22 ++ pures) 22 n22 c22 r22 := ⟨⟨Tryz.f22, Tryz.f22.body.getD .skip, by kernel_rfl, by kernel_rfl, by kernel_rfl, by kernel_rfl, by kernel_rfl, by kernel_rfl⟩⟩
-- 23
def z23 : List Nat := [1000002, 1000010, 1000017, 1000003, 1000021, 1000027, 1000035, 1000039, 1000022, 1000028, 1000036, 1000040, 1000006]
def n23 : Nat := 45
def r23 : List RV := [.tmp 4]
def c23 : PCode :=
 (.seq (.reg false [⟨(some 2), none, [], .boxF (.t 0)⟩, ⟨(some 3), none, [], .boxF (.t 1)⟩, ⟨(some 4), none, [], .copy (.c (bo false))⟩])
 (.seq (.seq (.reg false [⟨(some 7), none, [], .loadE (.t 2) 7 true⟩, ⟨(some 8), none, [0], .pcall 14 [(.t 7)]⟩, ⟨(some 9), none, [1], .un .not (.t 8)⟩])
 (.cond (.t 9) (.seq (.reg false [⟨(some 4), none, [], .copy (.c (bo false))⟩])
 .ret) .skip))
 (.seq (.seq (.reg false [⟨(some 10), none, [], .padd (.t 2) 1⟩, ⟨(some 11), none, [0], .loadE (.t 10) 6 true⟩, ⟨(some 12), none, [], .copy (.c (i 0))⟩])
 (.block 0 (.loop (.seq (.reg false [⟨(some 13), none, [], .bin .lss (.t 12) (.c (i 2))⟩])
 (.seq (.cond (.t 13) .skip (.exit 0))
 (.seq (.block 1 (.seq (.reg false [⟨(some 14), none, [], .copy (.t 12)⟩, ⟨(some 15), none, [], .idx (.t 11) (.t 12) 2 3 true⟩, ⟨(some 6), none, [], .allocF 3⟩, ⟨(some 5), none, [0, 0, 1, 2], .copy (.t 14)⟩, ⟨none, none, [2, 1, 3, 0, 1, 2, 3], .storeF 6 (.t 15) 3⟩])
 (.seq (.seq (.reg false [⟨(some 16), none, [], .copy (.t 5)⟩, ⟨(some 17), none, [], .padd (.t 2) 0⟩, ⟨(some 18), none, [1], .loadE (.t 17) 1 false⟩, ⟨(some 19), none, [0, 2], .bin .geq (.t 16) (.t 18)⟩])
 (.cond (.t 19) (.seq (.reg false [⟨(some 20), none, [], .copy (.t 5)⟩, ⟨(some 21), none, [], .padd (.t 3) 0⟩, ⟨(some 22), none, [1, 0], .pidxA (.t 21) (.t 20) 2 1⟩, ⟨(some 23), none, [2], .loadE (.t 22) 1 false⟩, ⟨(some 24), none, [3], .bin .eql (.t 23) (.c (i 0))⟩, ⟨(some 25), none, [4], .copy (.t 24)⟩, ⟨(some 26), (some (25, true)), [5], .copy (.t 5)⟩, ⟨(some 27), (some (25, true)), [5], .padd (.t 3) 2⟩, ⟨(some 28), (some (25, true)), [7, 6, 5], .pidxA (.t 27) (.t 26) 2 5⟩, ⟨(some 29), (some (25, true)), [8, 5], .loadE (.t 28) 5 true⟩, ⟨(some 30), (some (25, true)), [5], .build [(i 0), (i 0), (u 0), (u 0), (tx [])] []⟩, ⟨(some 31), (some (25, true)), [9, 10, 5], .eqv false [1, 1, 1, 1, 2] (.t 29) (.t 30)⟩, ⟨(some 32), none, [5, 11], .pick (.t 25) (.t 31) (.c (bo false))⟩, ⟨(some 4), none, [12, 5, 0, 1, 2, 3, 4, 5, 6, 7, 8, 9, 10, 11, 12], .copy (.t 32)⟩])
 .ret) .skip))
 (.seq (.reg true [⟨(some 33), none, [], .loadE (.t 6) 3 true⟩, ⟨(some 34), none, [], .copy (.t 5)⟩, ⟨(some 35), none, [], .padd (.t 3) 0⟩, ⟨(some 36), none, [2, 1], .pidxA (.t 35) (.t 34) 2 1⟩, ⟨(some 37), none, [3], .loadE (.t 36) 1 false⟩, ⟨(some 38), none, [], .copy (.t 5)⟩, ⟨(some 39), none, [], .padd (.t 3) 2⟩, ⟨(some 40), none, [6, 5], .pidxA (.t 39) (.t 38) 2 5⟩, ⟨(some 41), none, [7], .loadE (.t 40) 5 true⟩, ⟨(some 42), none, [0, 4, 8], .pcall 41 [(.t 33), (.t 37), (.t 41)]⟩, ⟨(some 43), none, [9], .un .not (.t 42)⟩])
 (.cond (.t 43) (.seq (.reg false [⟨(some 4), none, [], .copy (.c (bo false))⟩])
 .ret) .skip)))))
 (.reg false [⟨(some 44), none, [], .bin .add (.t 12) (.c (i 1))⟩, ⟨(some 12), none, [0], .copy (.t 44)⟩])))))))
 (.seq (.reg false [⟨(some 4), none, [], .copy (.c (bo true))⟩])
 .ret))))
theorem is23 : FnIs Tryz.prog (z23 ++ pures) 23 n23 c23 r23 := ⟨⟨Tryz.f23, Tryz.f23.body.getD .skip, by kernel_rfl, by kernel_rfl, by kernel_rfl, by kernel_rfl, by kernel_rfl, by kernel_rfl⟩⟩
-- 24
def z24 : List Nat := [1000002, 1000003, 1000009, 1000012, 1000010, 1000013]
def n24 : Nat := 16
def r24 : List RV := [.tmp 4]
def c24 : PCode :=
 (.seq (.reg false [⟨(some 2), none, [], .boxF (.t 0)⟩, ⟨(some 3), none, [], .boxF (.t 1)⟩, ⟨(some 4), none, [], .copy (.c (i 0))⟩])
 (.seq (.seq (.reg false [⟨(some 5), none, [], .loadE (.t 2) 7 true⟩, ⟨(some 6), none, [], .loadE (.t 3) 12 true⟩, ⟨(some 7), none, [0, 1], .pcall 23 [(.t 5), (.t 6)]⟩, ⟨(some 8), none, [2], .un .not (.t 7)⟩])
 (.cond (.t 8) (.seq (.reg false [⟨(some 4), none, [], .copy (.c (i 0))⟩])
 .ret) .skip))
 (.seq (.reg false [⟨(some 9), none, [], .padd (.t 3) 0⟩, ⟨(some 10), none, [0], .pidxA (.t 9) (.c (i 0)) 2 1⟩, ⟨(some 11), none, [1], .loadE (.t 10) 1 false⟩, ⟨(some 12), none, [], .padd (.t 3) 0⟩, ⟨(some 13), none, [3], .pidxA (.t 12) (.c (i 1)) 2 1⟩, ⟨(some 14), none, [4], .loadE (.t 13) 1 false⟩, ⟨(some 15), none, [2, 5], .bin .add (.t 11) (.t 14)⟩, ⟨(some 4), none, [6, 0, 1, 2, 3, 4, 5, 6], .copy (.t 15)⟩])
 .ret)))
theorem is24 : FnIs Tryz.prog (z24 ++ pures) 24 n24 c24 r24 := ⟨⟨Tryz.f24, Tryz.f24.body.getD .skip, by kernel_rfl, by kernel_rfl, by kernel_rfl, by kernel_rfl, by kernel_rfl, by kernel_rfl⟩⟩
-- 25
def z25 : List Nat := [1000002, 1000009, 1000021, 1000035, 1000010, 1000036, 1000003, 1000012, 1000015, 1000024, 1000029, 1000038, 1000041, 1000013, 1000016, 1000025, 1000030, 1000039, 1000042]
def n25 : Nat := 45
def r25 : List RV := [.tmp 4]
def c25 : PCode :=
 (.seq (.reg false [⟨(some 2), none, [], .boxF (.t 0)⟩, ⟨(some 3), none, [], .boxF (.t 1)⟩, ⟨(some 4), none, [], .copy (.c (bo false))⟩])
 (.seq (.seq (.reg false [⟨(some 5), none, [], .loadE (.t 2) 7 true⟩, ⟨(some 6), none, [0], .pcall 5 [(.t 5)]⟩, ⟨(some 7), none, [1], .un .not (.t 6)⟩, ⟨(some 8), none, [2, 1], .copy (.t 7)⟩, ⟨(some 9), (some (8, false)), [3], .padd (.t 2) 1⟩, ⟨(some 10), (some (8, false)), [4, 3], .pidxA (.t 9) (.c (i 0)) 2 3⟩, ⟨(some 11), (some (8, false)), [5, 3], .loadE (.t 10) 3 true⟩, ⟨(some 12), (some (8, false)), [3], .padd (.t 3) 0⟩, ⟨(some 13), (some (8, false)), [7, 3], .pidxA (.t 12) (.c (i 0)) 2 1⟩, ⟨(some 14), (some (8, false)), [8, 3], .loadE (.t 13) 1 false⟩, ⟨(some 15), (some (8, false)), [3], .padd (.t 3) 2⟩, ⟨(some 16), (some (8, false)), [10, 3], .pidxA (.t 15) (.c (i 0)) 2 5⟩, ⟨(some 17), (some (8, false)), [11, 3], .loadE (.t 16) 5 true⟩, ⟨(some 18), (some (8, false)), [6, 9, 12, 3, 3], .pcall 42 [(.t 11), (.t 14), (.t 17)]⟩, ⟨(some 19), (some (8, false)), [13, 3], .un .not (.t 18)⟩, ⟨(some 20), none, [3, 14], .pick (.t 8) (.c (bo true)) (.t 19)⟩])
 (.cond (.t 20) (.seq (.reg false [⟨(some 4), none, [], .copy (.c (bo false))⟩])
 .ret) .skip))
 (.seq (.seq (.reg false [⟨(some 21), none, [], .padd (.t 2) 0⟩, ⟨(some 22), none, [0], .loadE (.t 21) 1 false⟩, ⟨(some 23), none, [1], .bin .eql (.t 22) (.c (i 1))⟩])
 (.cond (.t 23) (.seq (.reg false [⟨(some 24), none, [], .padd (.t 3) 0⟩, ⟨(some 25), none, [0], .pidxA (.t 24) (.c (i 1)) 2 1⟩, ⟨(some 26), none, [1], .loadE (.t 25) 1 false⟩, ⟨(some 27), none, [2], .bin .eql (.t 26) (.c (i 0))⟩, ⟨(some 28), none, [3], .copy (.t 27)⟩, ⟨(some 29), (some (28, true)), [4], .padd (.t 3) 2⟩, ⟨(some 30), (some (28, true)), [5, 4], .pidxA (.t 29) (.c (i 1)) 2 5⟩, ⟨(some 31), (some (28, true)), [6, 4], .loadE (.t 30) 5 true⟩, ⟨(some 32), (some (28, true)), [4], .build [(i 0), (i 0), (u 0), (u 0), (tx [])] []⟩, ⟨(some 33), (some (28, true)), [7, 8, 4], .eqv false [1, 1, 1, 1, 2] (.t 31) (.t 32)⟩, ⟨(some 34), none, [4, 9], .pick (.t 28) (.t 33) (.c (bo false))⟩, ⟨(some 4), none, [10, 4, 0, 1, 2, 3, 4, 5, 6, 7, 8, 9, 10], .copy (.t 34)⟩])
 .ret) .skip))
 (.seq (.reg false [⟨(some 35), none, [], .padd (.t 2) 1⟩, ⟨(some 36), none, [0], .pidxA (.t 35) (.c (i 1)) 2 3⟩, ⟨(some 37), none, [1], .loadE (.t 36) 3 true⟩, ⟨(some 38), none, [], .padd (.t 3) 0⟩, ⟨(some 39), none, [3], .pidxA (.t 38) (.c (i 1)) 2 1⟩, ⟨(some 40), none, [4], .loadE (.t 39) 1 false⟩, ⟨(some 41), none, [], .padd (.t 3) 2⟩, ⟨(some 42), none, [6], .pidxA (.t 41) (.c (i 1)) 2 5⟩, ⟨(some 43), none, [7], .loadE (.t 42) 5 true⟩, ⟨(some 44), none, [2, 5, 8], .pcall 42 [(.t 37), (.t 40), (.t 43)]⟩, ⟨(some 4), none, [9, 9, 0, 1, 2, 3, 4, 5, 6, 7, 8, 9], .copy (.t 44)⟩])
 .ret))))
theorem is25 : FnIs Tryz.prog (z25 ++ pures) 25 n25 c25 r25 := ⟨⟨Tryz.f25, Tryz.f25.body.getD .skip, by kernel_rfl, by kernel_rfl, by kernel_rfl, by kernel_rfl, by kernel_rfl, by kernel_rfl⟩⟩
-- 26
def z26 : List Nat := []
def n26 : Nat := 19
def r26 : List RV := [.tmp 2]
def c26 : PCode :=
 (.seq (.reg false [⟨(some 2), none, [], .copy (.c (u 0))⟩])
 (.seq (.reg false [⟨(some 3), none, [], .copy (.c (u 0))⟩])
 (.seq (.seq (.reg false [⟨(some 4), none, [], .copy (.c (i 0))⟩])
 (.block 0 (.loop (.seq (.seq (.reg false [⟨(some 5), none, [], .copy (.t 4)⟩, ⟨(some 6), none, [], .copy (.t 0)⟩, ⟨(some 7), none, [1], .len (.t 6)⟩, ⟨(some 8), none, [0, 2], .bin .lss (.t 5) (.t 7)⟩])
 (.cond (.t 8) .skip (.exit 0)))
 (.seq (.block 1 (.reg false [⟨(some 11), none, [], .copy (.t 3)⟩, ⟨(some 12), none, [], .copy (.t 0)⟩, ⟨(some 13), none, [], .copy (.t 4)⟩, ⟨(some 14), none, [1, 2], .pidxS (.t 12) (.t 13) 13⟩, ⟨(some 15), none, [3], .padd (.t 14) 12⟩, ⟨(some 16), none, [4], .load (.t 15) 1 false⟩, ⟨(some 17), none, [0, 5], .bin .add (.t 11) (.t 16)⟩, ⟨(some 3), none, [6, 0, 1, 2, 3, 4, 5, 6], .copy (.t 17)⟩]))
 (.reg false [⟨(some 9), none, [], .copy (.t 4)⟩, ⟨(some 10), none, [0], .bin .add (.t 9) (.c (i 1))⟩, ⟨(some 4), none, [1, 0, 1], .copy (.t 10)⟩]))))))
 (.seq (.reg false [⟨(some 18), none, [], .copy (.t 3)⟩, ⟨(some 2), none, [0, 0], .copy (.t 18)⟩])
 .ret))))
theorem is26 : FnIs Tryz.prog (z26 ++ pures) 26 n26 c26 r26 := ⟨⟨Tryz.f26, Tryz.f26.body.getD .skip, by kernel_rfl, by kernel_rfl, by kernel_rfl, by kernel_rfl, by kernel_rfl, by kernel_rfl⟩⟩
-- 27
def z27 : List Nat := [1000005]
def n27 : Nat := 36
def r27 : List RV := [.tmp 8]
def c27 : PCode :=
 (.seq (.reg false [⟨(some 5), none, [], .boxF (.t 1)⟩, ⟨(some 8), none, [], .copy (.c (.slc true []))⟩])
 (.seq (.reg false [⟨(some 11), none, [], .copy (.t 0)⟩, ⟨(some 12), none, [], .loadE (.t 5) 12 true⟩, ⟨(some 13), none, [0, 1], .pcall 43 [(.t 11), (.t 12)]⟩, ⟨(some 9), none, [2, 2, 0, 1, 2], .copy (.t 13)⟩])
 (.seq (.seq (.reg false [⟨(some 14), none, [], .copy (.t 9)⟩, ⟨(some 15), none, [0], .bin .lss (.t 14) (.c (i 0))⟩])
 (.cond (.t 15) (.seq (.reg false [⟨(some 16), none, [], .copy (.t 0)⟩, ⟨(some 17), none, [], .loadE (.t 5) 12 true⟩, ⟨(some 18), none, [], .copy (.t 2)⟩, ⟨(some 19), none, [], .copy (.t 3)⟩, ⟨(some 20), none, [1, 2, 3], .build [(i 0), (i 0), (i 0), (i 0), (u 0), (u 0), (tx []), (i 0), (i 0), (u 0), (u 0), (tx []), (u 0), (u 0)] [(0, 12, (.t 17)), (12, 1, (.t 18)), (13, 1, (.t 19))]⟩, ⟨(some 21), none, [0, 4], .pcall 44 [(.t 16), (.t 20)]⟩, ⟨(some 8), none, [5, 5, 0, 1, 2, 3, 4, 5], .take 21⟩])
 .ret) .skip))
 (.seq (.reg false [⟨(some 22), none, [], .copy (.t 0)⟩, ⟨(some 23), none, [], .copy (.t 9)⟩, ⟨(some 24), none, [0, 1], .pidxS (.t 22) (.t 23) 14⟩, ⟨(some 25), none, [2], .load (.t 24) 14 true⟩, ⟨(some 10), none, [], .alloc [(i 0), (i 0), (i 0), (i 0), (u 0), (u 0), (tx []), (i 0), (i 0), (u 0), (u 0), (tx []), (u 0), (u 0)]⟩, ⟨none, none, [4, 3, 0, 1, 2, 3, 4], .store (.t 10) (.t 25) 14⟩])
 (.seq (.reg false [⟨(some 26), none, [], .padd (.t 10) 12⟩, ⟨(some 27), none, [0], .load (.t 26) 1 false⟩, ⟨(some 28), none, [], .copy (.t 2)⟩, ⟨(some 29), none, [1, 2], .bin .add (.t 27) (.t 28)⟩, ⟨(some 30), none, [0, 1, 2, 3], .padd (.t 10) 12⟩, ⟨none, none, [4, 3, 0, 1, 2, 3], .store (.t 30) (.t 29) 1⟩])
 (.seq (.reg true [⟨(some 31), none, [], .copy (.t 0)⟩, ⟨(some 32), none, [], .copy (.t 9)⟩, ⟨(some 33), none, [0, 1], .pcall 45 [(.t 31), (.t 32)]⟩, ⟨(some 34), none, [], .load (.t 10) 14 true⟩, ⟨(some 35), none, [2, 3, 2], .pcall 44 [(.t 33), (.t 34)]⟩, ⟨(some 8), none, [4, 4, 0, 1, 2, 3, 4], .take 35⟩])
 .ret))))))
theorem is27 : FnIs Tryz.prog (z27 ++ pures) 27 n27 c27 r27 := ⟨⟨Tryz.f27, Tryz.f27.body.getD .skip, by kernel_rfl, by kernel_rfl, by kernel_rfl, by kernel_rfl, by kernel_rfl, by kernel_rfl⟩⟩
-- 28
def z28 : List Nat := [1000002, 1000005, 1000007, 1000003]
def n28 : Nat := 11
def r28 : List RV := [.tmp 4]
def c28 : PCode :=
 (.seq (.reg false [⟨(some 2), none, [], .boxF (.t 0)⟩, ⟨(some 3), none, [], .boxF (.t 1)⟩, ⟨(some 4), none, [], .copy (.c (u 0))⟩])
 (.seq (.reg false [⟨(some 5), none, [], .padd (.t 2) 0⟩, ⟨(some 6), none, [0], .loadE (.t 5) 7 true⟩, ⟨(some 7), none, [], .padd (.t 2) 7⟩, ⟨(some 8), none, [2], .loadE (.t 7) 1 false⟩, ⟨(some 9), none, [], .loadE (.t 3) 12 true⟩, ⟨(some 10), none, [1, 3, 4], .pcall 46 [(.t 6), (.t 8), (.t 9)]⟩, ⟨(some 4), none, [5, 5, 0, 1, 2, 3, 4, 5], .copy (.t 10)⟩])
 .ret))
theorem is28 : FnIs Tryz.prog (z28 ++ pures) 28 n28 c28 r28 := ⟨⟨Tryz.f28, Tryz.f28.body.getD .skip, by kernel_rfl, by kernel_rfl, by kernel_rfl, by kernel_rfl, by kernel_rfl, by kernel_rfl⟩⟩
-- 29
def z29 : List Nat := []
def n29 : Nat := 26
def r29 : List RV := [.tmp 4]
def c29 : PCode :=
 (.seq (.reg false [⟨(some 4), none, [], .copy (.c (bo false))⟩])
 (.seq (.seq (.reg false [⟨(some 6), none, [], .copy (.t 0)⟩, ⟨(some 7), none, [0], .len (.t 6)⟩, ⟨(some 8), none, [], .copy (.t 1)⟩, ⟨(some 9), none, [2], .len (.t 8)⟩, ⟨(some 10), none, [1, 3], .bin .neq (.t 7) (.t 9)⟩])
 (.cond (.t 10) (.seq (.reg false [⟨(some 4), none, [], .copy (.c (bo false))⟩])
 .ret) .skip))
 (.seq (.seq (.reg false [⟨(some 5), none, [], .copy (.c (i 0))⟩])
 (.block 0 (.loop (.seq (.seq (.reg false [⟨(some 11), none, [], .copy (.t 5)⟩, ⟨(some 12), none, [], .copy (.t 0)⟩, ⟨(some 13), none, [1], .len (.t 12)⟩, ⟨(some 14), none, [0, 2], .bin .lss (.t 11) (.t 13)⟩])
 (.cond (.t 14) .skip (.exit 0)))
 (.seq (.block 1 (.seq (.reg true [⟨(some 17), none, [], .copy (.t 0)⟩, ⟨(some 18), none, [], .copy (.t 5)⟩, ⟨(some 19), none, [0, 1], .pidxS (.t 17) (.t 18) 13⟩, ⟨(some 20), none, [2], .load (.t 19) 13 true⟩, ⟨(some 21), none, [], .copy (.t 1)⟩, ⟨(some 22), none, [], .copy (.t 5)⟩, ⟨(some 23), none, [4, 5], .pidxS (.t 21) (.t 22) 13⟩, ⟨(some 24), none, [6], .load (.t 23) 13 true⟩, ⟨(some 25), none, [3, 7], .eqv true [1, 1, 1, 1, 1, 1, 2, 1, 1, 1, 1, 2, 1] (.t 20) (.t 24)⟩])
 (.cond (.t 25) (.seq (.reg false [⟨(some 4), none, [], .copy (.c (bo false))⟩])
 .ret) .skip)))
 (.reg false [⟨(some 15), none, [], .copy (.t 5)⟩, ⟨(some 16), none, [0], .bin .add (.t 15) (.c (i 1))⟩, ⟨(some 5), none, [1, 0, 1], .copy (.t 16)⟩]))))))
 (.seq (.reg false [⟨(some 4), none, [], .copy (.c (bo true))⟩])
 .ret))))
theorem is29 : FnIs Tryz.prog (z29 ++ pures) 29 n29 c29 r29 := ⟨⟨Tryz.f29, Tryz.f29.body.getD .skip, by kernel_rfl, by kernel_rfl, by kernel_rfl, by kernel_rfl, by kernel_rfl, by kernel_rfl⟩⟩
-- 30
def z30 : List Nat := []
def n30 : Nat := 26
def r30 : List RV := [.tmp 4]
def c30 : PCode :=
 (.seq (.reg false [⟨(some 4), none, [], .copy (.c (bo false))⟩])
 (.seq (.seq (.reg false [⟨(some 6), none, [], .copy (.t 0)⟩, ⟨(some 7), none, [0], .len (.t 6)⟩, ⟨(some 8), none, [], .copy (.t 1)⟩, ⟨(some 9), none, [2], .len (.t 8)⟩, ⟨(some 10), none, [1, 3], .bin .neq (.t 7) (.t 9)⟩])
 (.cond (.t 10) (.seq (.reg false [⟨(some 4), none, [], .copy (.c (bo false))⟩])
 .ret) .skip))
 (.seq (.seq (.reg false [⟨(some 5), none, [], .copy (.c (i 0))⟩])
 (.block 0 (.loop (.seq (.seq (.reg false [⟨(some 11), none, [], .copy (.t 5)⟩, ⟨(some 12), none, [], .copy (.t 0)⟩, ⟨(some 13), none, [1], .len (.t 12)⟩, ⟨(some 14), none, [0, 2], .bin .lss (.t 11) (.t 13)⟩])
 (.cond (.t 14) .skip (.exit 0)))
 (.seq (.block 1 (.seq (.reg true [⟨(some 17), none, [], .copy (.t 0)⟩, ⟨(some 18), none, [], .copy (.t 5)⟩, ⟨(some 19), none, [0, 1], .pidxS (.t 17) (.t 18) 12⟩, ⟨(some 20), none, [2], .load (.t 19) 12 true⟩, ⟨(some 21), none, [], .copy (.t 1)⟩, ⟨(some 22), none, [], .copy (.t 5)⟩, ⟨(some 23), none, [4, 5], .pidxS (.t 21) (.t 22) 12⟩, ⟨(some 24), none, [6], .load (.t 23) 12 true⟩, ⟨(some 25), none, [3, 7], .eqv true [1, 1, 1, 1, 1, 1, 2, 1, 1, 1, 1, 2] (.t 20) (.t 24)⟩])
 (.cond (.t 25) (.seq (.reg false [⟨(some 4), none, [], .copy (.c (bo false))⟩])
 .ret) .skip)))
 (.reg false [⟨(some 15), none, [], .copy (.t 5)⟩, ⟨(some 16), none, [0], .bin .add (.t 15) (.c (i 1))⟩, ⟨(some 5), none, [1, 0, 1], .copy (.t 16)⟩]))))))
 (.seq (.reg false [⟨(some 4), none, [], .copy (.c (bo true))⟩])
 .ret))))
theorem is30 : FnIs Tryz.prog (z30 ++ pures) 30 n30 c30 r30 := ⟨⟨Tryz.f30, Tryz.f30.body.getD .skip, by kernel_rfl, by kernel_rfl, by kernel_rfl, by kernel_rfl, by kernel_rfl, by kernel_rfl⟩⟩
-- 31
def z31 : List Nat := [1000001, 1000003, 1000005]
def n31 : Nat := 8
def r31 : List RV := [.tmp 2]
def c31 : PCode :=
 (.seq (.reg false [⟨(some 1), none, [], .boxF (.t 0)⟩, ⟨(some 2), none, [], .copy (.c (.slc true []))⟩])
 (.seq (.reg false [⟨(some 3), none, [], .padd (.t 1) 0⟩, ⟨(some 4), none, [0], .loadE (.t 3) 7 true⟩, ⟨(some 5), none, [], .padd (.t 1) 7⟩, ⟨(some 6), none, [2], .loadE (.t 5) 1 false⟩, ⟨(some 7), none, [1, 3], .pcall 47 [(.t 4), (.t 6)]⟩, ⟨(some 2), none, [4, 4, 0, 1, 2, 3, 4], .take 7⟩])
 .ret))
theorem is31 : FnIs Tryz.prog (z31 ++ pures) 31 n31 c31 r31 := ⟨⟨Tryz.f31, Tryz.f31.body.getD .skip, by kernel_rfl, by kernel_rfl, by kernel_rfl, by kernel_rfl, by kernel_rfl, by kernel_rfl⟩⟩
-- 32
def z32 : List Nat := [1000001, 1000004, 1000008, 1000014, 1000019, 1000021]
def n32 : Nat := 26
def r32 : List RV := [.tmp 2]
def c32 : PCode :=
 (.seq (.reg false [⟨(some 1), none, [], .boxF (.t 0)⟩, ⟨(some 2), none, [], .copy (.c (bo false))⟩])
 (.seq (.reg false [⟨(some 4), none, [], .padd (.t 1) 1⟩, ⟨(some 5), none, [0], .loadE (.t 4) 1 false⟩, ⟨(some 6), none, [1], .bin .eql (.t 5) (.c (i 1))⟩, ⟨(some 7), none, [2], .copy (.t 6)⟩, ⟨(some 8), (some (7, false)), [3], .padd (.t 1) 1⟩, ⟨(some 9), (some (7, false)), [4, 3], .loadE (.t 8) 1 false⟩, ⟨(some 10), (some (7, false)), [5, 3], .bin .eql (.t 9) (.c (i 2))⟩, ⟨(some 11), none, [3, 6], .pick (.t 7) (.c (bo true)) (.t 10)⟩, ⟨(some 3), none, [7, 3, 0, 1, 2, 3, 4, 5, 6, 7], .copy (.t 11)⟩])
 (.seq (.reg true [⟨(some 12), none, [], .copy (.t 3)⟩, ⟨(some 13), none, [0], .copy (.t 12)⟩, ⟨(some 14), (some (13, true)), [1], .padd (.t 1) 2⟩, ⟨(some 15), (some (13, true)), [2, 1], .loadE (.t 14) 1 false⟩, ⟨(some 16), (some (13, true)), [3, 1], .bin .geq (.t 15) (.c (i 1))⟩, ⟨(some 17), none, [1, 4], .pick (.t 13) (.t 16) (.c (bo false))⟩, ⟨(some 18), none, [5, 1], .copy (.t 17)⟩, ⟨(some 19), (some (18, true)), [6], .padd (.t 1) 2⟩, ⟨(some 20), (some (18, true)), [7, 6], .loadE (.t 19) 1 false⟩, ⟨(some 21), (some (18, true)), [6], .padd (.t 1) 0⟩, ⟨(some 22), (some (18, true)), [9, 6], .loadE (.t 21) 1 false⟩, ⟨(some 23), (some (18, true)), [10, 6, 6], .pcall 48 [(.t 22)]⟩, ⟨(some 24), (some (18, true)), [8, 11, 6], .bin .leq (.t 20) (.t 23)⟩, ⟨(some 25), none, [6, 12], .pick (.t 18) (.t 24) (.c (bo false))⟩, ⟨(some 2), none, [13, 11, 0, 1, 2, 3, 4, 5, 6, 7, 8, 9, 10, 11, 12, 13], .copy (.t 25)⟩])
 .ret)))
theorem is32 : FnIs Tryz.prog (z32 ++ pures) 32 n32 c32 r32 := ⟨⟨Tryz.f32, Tryz.f32.body.getD .skip, by kernel_rfl, by kernel_rfl, by kernel_rfl, by kernel_rfl, by kernel_rfl, by kernel_rfl⟩⟩
-- 33
def z33 : List Nat := [1000001, 1000006, 1000012, 1000016, 1000022, 1000027, 1000047]
def n33 : Nat := 57
def r33 : List RV := [.tmp 2]
def c33 : PCode :=
 (.seq (.reg false [⟨(some 1), none, [], .boxF (.t 0)⟩, ⟨(some 2), none, [], .copy (.c (.slc true []))⟩])
 (.seq (.reg false [⟨(some 6), none, [], .padd (.t 1) 0⟩, ⟨(some 7), none, [0], .loadE (.t 6) 1 false⟩, ⟨(some 8), none, [1], .pcall 49 [(.t 7)]⟩, ⟨(some 3), none, [2, 2, 0, 1, 2], .copy (.t 8)⟩])
 (.seq (.seq (.reg false [⟨(some 9), none, [], .copy (.t 3)⟩, ⟨(some 10), none, [0], .bin .eql (.t 9) (.c (i 0))⟩, ⟨(some 11), none, [1], .copy (.t 10)⟩, ⟨(some 12), (some (11, false)), [2], .padd (.t 1) 1⟩, ⟨(some 13), (some (11, false)), [3, 2], .loadE (.t 12) 1 false⟩, ⟨(some 14), (some (11, false)), [4, 2], .bin .neq (.t 13) (.c (i 1))⟩, ⟨(some 15), (some (11, false)), [5, 2, 2], .copy (.t 14)⟩, ⟨(some 16), (some (15, true)), [6], .padd (.t 1) 1⟩, ⟨(some 17), (some (15, true)), [7, 6], .loadE (.t 16) 1 false⟩, ⟨(some 18), (some (15, true)), [8, 6], .bin .neq (.t 17) (.c (i 2))⟩, ⟨(some 19), (some (11, false)), [6, 9, 2], .pick (.t 15) (.t 18) (.c (bo false))⟩, ⟨(some 20), none, [2, 10], .pick (.t 11) (.c (bo true)) (.t 19)⟩, ⟨(some 21), none, [11, 6], .copy (.t 20)⟩, ⟨(some 22), (some (21, false)), [12], .padd (.t 1) 2⟩, ⟨(some 23), (some (21, false)), [13, 12], .loadE (.t 22) 1 false⟩, ⟨(some 24), (some (21, false)), [14, 12], .bin .lss (.t 23) (.c (i 1))⟩, ⟨(some 25), none, [12, 15], .pick (.t 21) (.c (bo true)) (.t 24)⟩, ⟨(some 26), none, [16, 12], .copy (.t 25)⟩, ⟨(some 27), (some (26, false)), [17], .padd (.t 1) 2⟩, ⟨(some 28), (some (26, false)), [18, 17], .loadE (.t 27) 1 false⟩, ⟨(some 29), (some (26, false)), [17], .copy (.t 3)⟩, ⟨(some 30), (some (26, false)), [19, 20, 17], .bin .gtr (.t 28) (.t 29)⟩, ⟨(some 31), none, [17, 21], .pick (.t 26) (.c (bo true)) (.t 30)⟩])
 (.cond (.t 31) (.seq (.reg false [⟨(some 2), none, [], .copy (.c (.slc true []))⟩])
 .ret) .skip))
 (.seq (.reg false [⟨(some 32), none, [], .copy (.t 3)⟩, ⟨(some 33), none, [0], .bslice 1 [(.t 32)]⟩, ⟨(some 4), none, [1, 0, 1], .take 33⟩])
 (.seq (.block 0 (.loop (.seq (.seq (.reg false [⟨(some 34), none, [], .copy (.t 4)⟩, ⟨(some 35), none, [], .copy (.t 4)⟩, ⟨(some 36), none, [1], .len (.t 35)⟩, ⟨(some 37), none, [2], .bin .sub (.t 36) (.c (i 1))⟩, ⟨(some 38), none, [0, 3], .pidxS (.t 34) (.t 37) 1⟩, ⟨(some 39), none, [4], .load (.t 38) 1 false⟩, ⟨(some 40), none, [5], .bin .gtr (.t 39) (.c (i 0))⟩])
 (.cond (.t 40) .skip (.exit 0)))
 (.block 1 (.seq (.reg true [⟨(some 41), none, [], .copy (.t 4)⟩, ⟨(some 42), none, [], .copy (.t 4)⟩, ⟨(some 43), none, [1], .len (.t 42)⟩, ⟨(some 44), none, [2], .bin .sub (.t 43) (.c (i 1))⟩, ⟨(some 45), none, [0, 3], .pidxS (.t 41) (.t 44) 1⟩, ⟨(some 46), none, [4], .load (.t 45) 1 false⟩, ⟨(some 47), none, [], .padd (.t 1) 2⟩, ⟨(some 48), none, [6], .loadE (.t 47) 1 false⟩, ⟨(some 49), none, [5, 7], .bin .sub (.t 46) (.t 48)⟩, ⟨(some 5), none, [8, 0, 1, 2, 3, 4, 5, 6, 7, 8], .copy (.t 49)⟩])
 (.seq (.seq (.reg false [⟨(some 50), none, [], .copy (.t 5)⟩, ⟨(some 51), none, [0], .bin .lss (.t 50) (.c (i 0))⟩])
 (.cond (.t 51) (.reg false [⟨(some 5), none, [], .copy (.c (i 0))⟩]) .skip))
 (.reg false [⟨(some 52), none, [], .take 4⟩, ⟨(some 53), none, [], .copy (.t 5)⟩, ⟨(some 54), none, [1], .bslice 1 [(.t 53)]⟩, ⟨(some 55), none, [0, 2], .append 52 (.t 54) 1 8⟩, ⟨(some 4), none, [3, 3, 0, 1, 2, 3], .take 55⟩])))))))
 (.seq (.reg false [⟨(some 56), none, [], .copy (.t 4)⟩, ⟨(some 2), none, [0, 0], .take 56⟩])
 .ret))))))
theorem is33 : FnIs Tryz.prog (z33 ++ pures) 33 n33 c33 r33 := ⟨⟨Tryz.f33, Tryz.f33.body.getD .skip, by kernel_rfl, by kernel_rfl, by kernel_rfl, by kernel_rfl, by kernel_rfl, by kernel_rfl⟩⟩
-- 34
def z34 : List Nat := []
def n34 : Nat := 12
def r34 : List RV := [.tmp 4]
def c34 : PCode :=
 (.seq (.reg false [⟨(some 4), none, [], .copy (.c (.slc true []))⟩])
 (.seq (.reg false [⟨(some 6), none, [], .copy (.t 0)⟩, ⟨(some 7), none, [0], .call 50 [(.t 6)]⟩, ⟨(some 5), none, [1, 1, 0, 1], .take 7⟩])
 (.seq (.reg false [⟨(some 8), none, [], .copy (.t 5)⟩, ⟨(some 9), none, [], .copy (.t 1)⟩, ⟨(some 10), none, [0, 1], .call 51 [(.t 8), (.t 9)]⟩])
 (.seq (.reg false [⟨(some 11), none, [], .copy (.t 5)⟩, ⟨(some 4), none, [0, 0], .take 11⟩])
 .ret))))
theorem is34 : FnIs Tryz.prog (z34 ++ pures) 34 n34 c34 r34 := ⟨⟨Tryz.f34, Tryz.f34.body.getD .skip, by kernel_rfl, by kernel_rfl, by kernel_rfl, by kernel_rfl, by kernel_rfl, by kernel_rfl⟩⟩
-- 35
def z35 : List Nat := [1000001]
def n35 : Nat := 4
def r35 : List RV := [.tmp 2]
def c35 : PCode :=
 (.seq (.reg false [⟨(some 1), none, [], .boxF (.t 0)⟩, ⟨(some 2), none, [], .copy (.c (.v (.nilFunc)))⟩])
 (.seq (.reg false [⟨(some 3), none, [], .mkclo 52 [(.t 1)]⟩, ⟨(some 2), none, [0, 0], .copy (.t 3)⟩])
 .ret))
theorem is35 : FnIs Tryz.prog (z35 ++ pures) 35 n35 c35 r35 := ⟨⟨Tryz.f35, Tryz.f35.body.getD .skip, by kernel_rfl, by kernel_rfl, by kernel_rfl, by kernel_rfl, by kernel_rfl, by kernel_rfl⟩⟩
-- 36
def z36 : List Nat := [1000002, 1000009, 1000016, 1000026, 1000033, 1000010, 1000017, 1000027, 1000034, 1000003, 1000012, 1000019, 1000029, 1000036, 1000013, 1000020, 1000030, 1000037]
def n36 : Nat := 42
def r36 : List RV := [.tmp 4]
def c36 : PCode :=
 (.seq (.reg false [⟨(some 2), none, [], .boxF (.t 0)⟩, ⟨(some 3), none, [], .boxF (.t 1)⟩, ⟨(some 4), none, [], .copy (.c (i 0))⟩])
 (.seq (.seq (.reg false [⟨(some 6), none, [], .loadE (.t 2) 12 true⟩, ⟨(some 7), none, [], .loadE (.t 3) 12 true⟩, ⟨(some 8), none, [0, 1], .eqv false [1, 1, 1, 1, 1, 1, 2, 1, 1, 1, 1, 2] (.t 6) (.t 7)⟩])
 (.cond (.t 8) (.seq (.reg false [⟨(some 4), none, [], .copy (.c (i 0))⟩])
 .ret) .skip))
 (.seq (.reg true [⟨(some 9), none, [], .padd (.t 2) 0⟩, ⟨(some 10), none, [0], .pidxA (.t 9) (.c (i 0)) 2 1⟩, ⟨(some 11), none, [1], .loadE (.t 10) 1 false⟩, ⟨(some 12), none, [], .padd (.t 3) 0⟩, ⟨(some 13), none, [3], .pidxA (.t 12) (.c (i 0)) 2 1⟩, ⟨(some 14), none, [4], .loadE (.t 13) 1 false⟩, ⟨(some 15), none, [2, 5], .pcall 54 [(.t 11), (.t 14)]⟩, ⟨(some 16), none, [], .padd (.t 2) 0⟩, ⟨(some 17), none, [7], .pidxA (.t 16) (.c (i 1)) 2 1⟩, ⟨(some 18), none, [8], .loadE (.t 17) 1 false⟩, ⟨(some 19), none, [], .padd (.t 3) 0⟩, ⟨(some 20), none, [10], .pidxA (.t 19) (.c (i 1)) 2 1⟩, ⟨(some 21), none, [11], .loadE (.t 20) 1 false⟩, ⟨(some 22), none, [9, 12, 6], .pcall 54 [(.t 18), (.t 21)]⟩, ⟨(some 23), none, [6, 13], .bslice 1 [(.t 15), (.t 22)]⟩, ⟨(some 24), none, [14, 13], .pcall 53 [(.t 23)]⟩, ⟨(some 5), none, [15, 15, 0, 1, 2, 3, 4, 5, 6, 7, 8, 9, 10, 11, 12, 13, 14, 15], .copy (.t 24)⟩])
 (.seq (.reg true [⟨(some 25), none, [], .copy (.t 5)⟩, ⟨(some 26), none, [], .padd (.t 2) 2⟩, ⟨(some 27), none, [1], .pidxA (.t 26) (.c (i 0)) 2 5⟩, ⟨(some 28), none, [2], .loadE (.t 27) 5 true⟩, ⟨(some 29), none, [], .padd (.t 3) 2⟩, ⟨(some 30), none, [4], .pidxA (.t 29) (.c (i 0)) 2 5⟩, ⟨(some 31), none, [5], .loadE (.t 30) 5 true⟩, ⟨(some 32), none, [3, 6], .pcall 55 [(.t 28), (.t 31)]⟩, ⟨(some 33), none, [], .padd (.t 2) 2⟩, ⟨(some 34), none, [8], .pidxA (.t 33) (.c (i 1)) 2 5⟩, ⟨(some 35), none, [9], .loadE (.t 34) 5 true⟩, ⟨(some 36), none, [], .padd (.t 3) 2⟩, ⟨(some 37), none, [11], .pidxA (.t 36) (.c (i 1)) 2 5⟩, ⟨(some 38), none, [12], .loadE (.t 37) 5 true⟩, ⟨(some 39), none, [10, 13, 7], .pcall 55 [(.t 35), (.t 38)]⟩, ⟨(some 40), none, [0, 7, 14], .bslice 1 [(.t 25), (.t 32), (.t 39)]⟩, ⟨(some 41), none, [15, 14], .pcall 53 [(.t 40)]⟩, ⟨(some 4), none, [16, 16, 0, 1, 2, 3, 4, 5, 6, 7, 8, 9, 10, 11, 12, 13, 14, 15, 16], .copy (.t 41)⟩])
 .ret))))
theorem is36 : FnIs Tryz.prog (z36 ++ pures) 36 n36 c36 r36 := ⟨⟨Tryz.f36, Tryz.f36.body.getD .skip, by kernel_rfl, by kernel_rfl, by kernel_rfl, by kernel_rfl, by kernel_rfl, by kernel_rfl⟩⟩
-- 37
def z37 : List Nat := [1000002, 1000003, 1000026, 1000033, 1000027, 1000034, 1000005, 1000040, 1000046, 1000008, 1000024, 1000031, 1000042, 1000048]
def n37 : Nat := 57
def r37 : List RV := [.tmp 4]
def c37 : PCode :=
 (.seq (.reg false [⟨(some 2), none, [], .boxF (.t 0)⟩, ⟨(some 3), none, [], .boxF (.t 1)⟩, ⟨(some 4), none, [], .copy (.c (.slc true []))⟩])
 (.seq (.seq (.reg false [⟨(some 9), none, [], .loadE (.t 2) 7 true⟩, ⟨(some 10), none, [], .loadE (.t 3) 12 true⟩, ⟨(some 11), none, [0, 1], .pcall 23 [(.t 9), (.t 10)]⟩, ⟨(some 12), none, [2], .un .not (.t 11)⟩])
 (.cond (.t 12) (.seq (.reg false [⟨(some 4), none, [], .copy (.c (.slc true []))⟩])
 .ret) .skip))
 (.seq (.reg true [⟨(some 13), none, [], .loadE (.t 2) 7 true⟩, ⟨(some 14), none, [], .loadE (.t 3) 12 true⟩, ⟨(some 15), none, [0, 1], .pcall 56 [(.t 13), (.t 14), (.c (i 0))]⟩, ⟨(some 16), none, [], .loadE (.t 2) 7 true⟩, ⟨(some 17), none, [], .loadE (.t 3) 12 true⟩, ⟨(some 18), none, [3, 4, 2], .pcall 56 [(.t 16), (.t 17), (.c (i 1))]⟩, ⟨(some 19), none, [2, 5], .build [(.slc true []), (.slc true [])] [(0, 1, (.t 15)), (1, 1, (.t 18))]⟩, ⟨(some 5), none, [], .allocF 2⟩, ⟨none, none, [7, 6, 5, 0, 1, 2, 3, 4, 5, 6, 7], .storeF 5 (.t 19) 2⟩])
 (.seq (.reg false [⟨(some 6), none, [], .alloc [(.slc true [])]⟩])
 (.seq (.seq (.reg false [⟨(some 20), none, [], .loadE (.t 2) 7 true⟩, ⟨(some 21), none, [0], .pcall 57 [(.t 20)]⟩])
 (.block 0 (.rangef (.t 21) [22, 23] (.reg false [⟨(some 8), none, [], .allocF 2⟩, ⟨none, none, [0, 0], .storeF 8 (.t 23) 2⟩])
 (.block 1 (.seq (.reg false [⟨(some 24), none, [], .pidxA (.t 8) (.c (i 0)) 2 1⟩, ⟨(some 25), none, [0], .loadE (.t 24) 1 false⟩, ⟨(some 26), none, [], .padd (.t 3) 0⟩, ⟨(some 27), none, [2], .pidxA (.t 26) (.c (i 0)) 2 1⟩, ⟨(some 28), none, [3], .loadE (.t 27) 1 false⟩, ⟨(some 29), none, [1, 4], .bin .geq (.t 25) (.t 28)⟩, ⟨(some 30), none, [5], .copy (.t 29)⟩, ⟨(some 31), (some (30, true)), [6], .pidxA (.t 8) (.c (i 1)) 2 1⟩, ⟨(some 32), (some (30, true)), [7, 6], .loadE (.t 31) 1 false⟩, ⟨(some 33), (some (30, true)), [6], .padd (.t 3) 0⟩, ⟨(some 34), (some (30, true)), [9, 6], .pidxA (.t 33) (.c (i 1)) 2 1⟩, ⟨(some 35), (some (30, true)), [10, 6], .loadE (.t 34) 1 false⟩, ⟨(some 36), (some (30, true)), [8, 11, 6], .bin .geq (.t 32) (.t 35)⟩, ⟨(some 37), none, [6, 12], .pick (.t 30) (.t 36) (.c (bo false))⟩])
 (.cond (.t 37) (.reg true [⟨(some 38), none, [], .loadT (.t 6)⟩, ⟨(some 39), none, [], .loadE (.t 8) 2 true⟩, ⟨(some 40), none, [], .pidxA (.t 5) (.c (i 0)) 2 1⟩, ⟨(some 41), none, [2], .loadE (.t 40) 1 false⟩, ⟨(some 42), none, [], .pidxA (.t 8) (.c (i 0)) 2 1⟩, ⟨(some 43), none, [4], .loadE (.t 42) 1 false⟩, ⟨(some 44), none, [3, 5], .pidxS (.t 41) (.t 43) 5⟩, ⟨(some 45), none, [6], .load (.t 44) 5 true⟩, ⟨(some 46), none, [], .pidxA (.t 5) (.c (i 1)) 2 1⟩, ⟨(some 47), none, [8], .loadE (.t 46) 1 false⟩, ⟨(some 48), none, [], .pidxA (.t 8) (.c (i 1)) 2 1⟩, ⟨(some 49), none, [10], .loadE (.t 48) 1 false⟩, ⟨(some 50), none, [9, 11], .pidxS (.t 47) (.t 49) 5⟩, ⟨(some 51), none, [12], .load (.t 50) 5 true⟩, ⟨(some 52), none, [7, 13], .build [(i 0), (i 0), (u 0), (u 0), (tx []), (i 0), (i 0), (u 0), (u 0), (tx [])] [(0, 5, (.t 45)), (5, 5, (.t 51))]⟩, ⟨(some 53), none, [1, 14], .build [(i 0), (i 0), (i 0), (i 0), (u 0), (u 0), (tx []), (i 0), (i 0), (u 0), (u 0), (tx [])] [(0, 2, (.t 39)), (2, 10, (.t 52))]⟩, ⟨(some 54), none, [15], .bslice 12 [(.t 53)]⟩, ⟨(some 55), none, [0, 16], .append 38 (.t 54) 12 112⟩, ⟨none, none, [17, 17, 0, 1, 2, 3, 4, 5, 6, 7, 8, 9, 10, 11, 12, 13, 14, 15, 16, 17], .storeT (.t 6) 55⟩]) .skip))))))
 (.seq (.reg false [⟨(some 56), none, [], .load (.t 6) 1 false⟩, ⟨(some 4), none, [0, 0], .take 56⟩])
 .ret))))))
theorem is37 : FnIs Tryz.prog (z37 ++ pures) 37 n37 c37 r37 := ⟨⟨Tryz.f37, Tryz.f37.body.getD .skip, by kernel_rfl, by kernel_rfl, by kernel_rfl, by kernel_rfl, by kernel_rfl, by kernel_rfl⟩⟩
-- 38
def z38 : List Nat := [1000001]
def n38 : Nat := 4
def r38 : List RV := [.tmp 2]
def c38 : PCode :=
 (.seq (.reg false [⟨(some 1), none, [], .boxF (.t 0)⟩, ⟨(some 2), none, [], .copy (.c (.v (.nilFunc)))⟩])
 (.seq (.reg false [⟨(some 3), none, [], .mkclo 58 [(.t 1)]⟩, ⟨(some 2), none, [0, 0], .copy (.t 3)⟩])
 .ret))
theorem is38 : FnIs Tryz.prog (z38 ++ pures) 38 n38 c38 r38 := ⟨⟨Tryz.f38, Tryz.f38.body.getD .skip, by kernel_rfl, by kernel_rfl, by kernel_rfl, by kernel_rfl, by kernel_rfl, by kernel_rfl⟩⟩
-- 39
def z39 : List Nat := [1000002, 1000005, 1000008, 1000006, 1000009, 1000003, 1000012, 1000015, 1000013, 1000016]
def n39 : Nat := 25
def r39 : List RV := [.tmp 4]
def c39 : PCode :=
 (.seq (.reg false [⟨(some 2), none, [], .boxF (.t 0)⟩, ⟨(some 3), none, [], .boxF (.t 1)⟩, ⟨(some 4), none, [], .copy (.c (i 0))⟩])
 (.seq (.reg true [⟨(some 5), none, [], .padd (.t 2) 0⟩, ⟨(some 6), none, [0], .pidxA (.t 5) (.c (i 0)) 2 1⟩, ⟨(some 7), none, [1], .loadE (.t 6) 1 false⟩, ⟨(some 8), none, [], .padd (.t 2) 0⟩, ⟨(some 9), none, [3], .pidxA (.t 8) (.c (i 1)) 2 1⟩, ⟨(some 10), none, [4], .loadE (.t 9) 1 false⟩, ⟨(some 11), none, [2, 5], .bin .add (.t 7) (.t 10)⟩, ⟨(some 12), none, [], .padd (.t 3) 0⟩, ⟨(some 13), none, [7], .pidxA (.t 12) (.c (i 0)) 2 1⟩, ⟨(some 14), none, [8], .loadE (.t 13) 1 false⟩, ⟨(some 15), none, [], .padd (.t 3) 0⟩, ⟨(some 16), none, [10], .pidxA (.t 15) (.c (i 1)) 2 1⟩, ⟨(some 17), none, [11], .loadE (.t 16) 1 false⟩, ⟨(some 18), none, [9, 12], .bin .add (.t 14) (.t 17)⟩, ⟨(some 19), none, [6, 13], .pcall 54 [(.t 11), (.t 18)]⟩, ⟨(some 20), none, [], .loadE (.t 2) 12 true⟩, ⟨(some 21), none, [], .loadE (.t 3) 12 true⟩, ⟨(some 22), none, [15, 16, 14], .pcall 36 [(.t 20), (.t 21)]⟩, ⟨(some 23), none, [14, 17], .bslice 1 [(.t 19), (.t 22)]⟩, ⟨(some 24), none, [18, 17], .pcall 53 [(.t 23)]⟩, ⟨(some 4), none, [19, 19, 0, 1, 2, 3, 4, 5, 6, 7, 8, 9, 10, 11, 12, 13, 14, 15, 16, 17, 18, 19], .copy (.t 24)⟩])
 .ret))
theorem is39 : FnIs Tryz.prog (z39 ++ pures) 39 n39 c39 r39 := ⟨⟨Tryz.f39, Tryz.f39.body.getD .skip, by kernel_rfl, by kernel_rfl, by kernel_rfl, by kernel_rfl, by kernel_rfl, by kernel_rfl⟩⟩
-- 40
def z40 : List Nat := [1000003, 1000004, 1000016, 1000025, 1000037, 1000017, 1000026, 1000005, 1000019, 1000028, 1000020, 1000029]
def n40 : Nat := 42
def r40 : List RV := [.tmp 6]
def c40 : PCode :=
 (.seq (.reg false [⟨(some 3), none, [], .boxF (.t 0)⟩, ⟨(some 4), none, [], .boxF (.t 1)⟩, ⟨(some 5), none, [], .boxF (.t 2)⟩, ⟨(some 6), none, [], .copy (.c (bo false))⟩])
 (.seq (.reg true [⟨(some 7), none, [], .loadE (.t 3) 7 true⟩, ⟨(some 8), none, [], .loadE (.t 4) 12 true⟩, ⟨(some 9), none, [0, 1], .pcall 23 [(.t 7), (.t 8)]⟩, ⟨(some 10), none, [2, 2], .copy (.t 9)⟩, ⟨(some 11), (some (10, true)), [3], .loadE (.t 3) 7 true⟩, ⟨(some 12), (some (10, true)), [3], .loadE (.t 5) 12 true⟩, ⟨(some 13), (some (10, true)), [4, 5, 3, 3], .pcall 23 [(.t 11), (.t 12)]⟩, ⟨(some 14), none, [3, 6], .pick (.t 10) (.t 13) (.c (bo false))⟩, ⟨(some 15), none, [7, 6], .copy (.t 14)⟩, ⟨(some 16), (some (15, true)), [8], .padd (.t 4) 0⟩, ⟨(some 17), (some (15, true)), [9, 8], .pidxA (.t 16) (.c (i 0)) 2 1⟩, ⟨(some 18), (some (15, true)), [10, 8], .loadE (.t 17) 1 false⟩, ⟨(some 19), (some (15, true)), [8], .padd (.t 5) 0⟩, ⟨(some 20), (some (15, true)), [12, 8], .pidxA (.t 19) (.c (i 0)) 2 1⟩, ⟨(some 21), (some (15, true)), [13, 8], .loadE (.t 20) 1 false⟩, ⟨(some 22), (some (15, true)), [11, 14, 8], .bin .geq (.t 18) (.t 21)⟩, ⟨(some 23), none, [8, 15], .pick (.t 15) (.t 22) (.c (bo false))⟩, ⟨(some 24), none, [16, 8], .copy (.t 23)⟩, ⟨(some 25), (some (24, true)), [17], .padd (.t 4) 0⟩, ⟨(some 26), (some (24, true)), [18, 17], .pidxA (.t 25) (.c (i 1)) 2 1⟩, ⟨(some 27), (some (24, true)), [19, 17], .loadE (.t 26) 1 false⟩, ⟨(some 28), (some (24, true)), [17], .padd (.t 5) 0⟩, ⟨(some 29), (some (24, true)), [21, 17], .pidxA (.t 28) (.c (i 1)) 2 1⟩, ⟨(some 30), (some (24, true)), [22, 17], .loadE (.t 29) 1 false⟩, ⟨(some 31), (some (24, true)), [20, 23, 17], .bin .geq (.t 27) (.t 30)⟩, ⟨(some 32), none, [17, 24], .pick (.t 24) (.t 31) (.c (bo false))⟩, ⟨(some 33), none, [25, 17], .copy (.t 32)⟩, ⟨(some 34), (some (33, true)), [26], .loadE (.t 4) 12 true⟩, ⟨(some 35), (some (33, true)), [26], .loadE (.t 3) 7 true⟩, ⟨(some 36), (some (33, true)), [26], .loadE (.t 5) 12 true⟩, ⟨(some 37), (some (33, true)), [26], .padd (.t 4) 0⟩, ⟨(some 38), (some (33, true)), [30, 26], .loadE (.t 37) 2 true⟩, ⟨(some 39), (some (33, true)), [28, 29, 31, 26, 26], .pcall 59 [(.t 35), (.t 36), (.t 38)]⟩, ⟨(some 40), (some (33, true)), [27, 32, 26], .eqv false [1, 1, 1, 1, 1, 1, 2, 1, 1, 1, 1, 2] (.t 34) (.t 39)⟩, ⟨(some 41), none, [26, 33], .pick (.t 33) (.t 40) (.c (bo false))⟩, ⟨(some 6), none, [34, 32, 0, 1, 2, 3, 4, 5, 6, 7, 8, 9, 10, 11, 12, 13, 14, 15, 16, 17, 18, 19, 20, 21, 22, 23, 24, 25, 26, 27, 28, 29, 30, 31, 32, 33, 34], .copy (.t 41)⟩])
 .ret))
theorem is40 : FnIs Tryz.prog (z40 ++ pures) 40 n40 c40 r40 := ⟨⟨Tryz.f40, Tryz.f40.body.getD .skip, by kernel_rfl, by kernel_rfl, by kernel_rfl, by kernel_rfl, by kernel_rfl, by kernel_rfl⟩⟩
-- 41
def z41 : List Nat := [1000003, 1000016, 1000005, 1000014, 1000025, 1000030, 1000034]
def n41 : Nat := 40
def r41 : List RV := [.tmp 6]
def c41 : PCode :=
 (.seq (.reg false [⟨(some 3), none, [], .boxF (.t 0)⟩, ⟨(some 5), none, [], .boxF (.t 2)⟩, ⟨(some 6), none, [], .copy (.c (bo false))⟩])
 (.seq (.reg false [⟨(some 8), none, [], .loadE (.t 3) 3 true⟩, ⟨(some 9), none, [], .copy (.t 1)⟩, ⟨(some 10), none, [0, 1], .pcall 60 [(.t 8), (.t 9)]⟩, ⟨(some 7), none, [2, 2, 0, 1, 2], .copy (.t 10)⟩])
 (.seq (.seq (.reg false [⟨(some 11), none, [], .copy (.t 7)⟩, ⟨(some 12), none, [0], .bin .lss (.t 11) (.c (i 0))⟩, ⟨(some 13), none, [1], .copy (.t 12)⟩, ⟨(some 14), (some (13, false)), [2], .padd (.t 5) 0⟩, ⟨(some 15), (some (13, false)), [3, 2], .loadE (.t 14) 1 false⟩, ⟨(some 16), (some (13, false)), [2], .padd (.t 3) 0⟩, ⟨(some 17), (some (13, false)), [5, 2], .loadE (.t 16) 1 false⟩, ⟨(some 18), (some (13, false)), [4, 6, 2], .bin .neq (.t 15) (.t 17)⟩, ⟨(some 19), none, [2, 7], .pick (.t 13) (.c (bo true)) (.t 18)⟩, ⟨(some 20), none, [8, 2], .copy (.t 19)⟩, ⟨(some 21), (some (20, false)), [9], .loadE (.t 5) 5 true⟩, ⟨(some 22), (some (20, false)), [10, 9, 9], .pcall 61 [(.t 21)]⟩, ⟨(some 23), (some (20, false)), [11, 9], .un .not (.t 22)⟩, ⟨(some 24), none, [9, 12], .pick (.t 20) (.c (bo true)) (.t 23)⟩])
 (.cond (.t 24) (.seq (.reg false [⟨(some 6), none, [], .copy (.c (bo false))⟩])
 .ret) .skip))
 (.seq (.reg false [⟨(some 25), none, [], .padd (.t 5) 1⟩, ⟨(some 26), none, [0], .loadE (.t 25) 1 false⟩, ⟨(some 27), none, [], .copy (.t 7)⟩, ⟨(some 28), none, [1, 2], .bin .eql (.t 26) (.t 27)⟩, ⟨(some 29), none, [3], .copy (.t 28)⟩, ⟨(some 30), (some (29, false)), [4], .padd (.t 5) 0⟩, ⟨(some 31), (some (29, false)), [5, 4], .loadE (.t 30) 1 false⟩, ⟨(some 32), (some (29, false)), [6, 4], .bin .eql (.t 31) (.c (i 3))⟩, ⟨(some 33), (some (29, false)), [7, 4, 4], .copy (.t 32)⟩, ⟨(some 34), (some (33, true)), [8], .padd (.t 5) 1⟩, ⟨(some 35), (some (33, true)), [9, 8], .loadE (.t 34) 1 false⟩, ⟨(some 36), (some (33, true)), [8], .copy (.t 7)⟩, ⟨(some 37), (some (33, true)), [10, 11, 8], .bin .lss (.t 35) (.t 36)⟩, ⟨(some 38), (some (29, false)), [8, 12, 4], .pick (.t 33) (.t 37) (.c (bo false))⟩, ⟨(some 39), none, [4, 13], .pick (.t 29) (.c (bo true)) (.t 38)⟩, ⟨(some 6), none, [14, 8, 0, 1, 2, 3, 4, 5, 6, 7, 8, 9, 10, 11, 12, 13, 14], .copy (.t 39)⟩])
 .ret))))
theorem is41 : FnIs Tryz.prog (z41 ++ pures) 41 n41 c41 r41 := ⟨⟨Tryz.f41, Tryz.f41.body.getD .skip, by kernel_rfl, by kernel_rfl, by kernel_rfl, by kernel_rfl, by kernel_rfl, by kernel_rfl⟩⟩
-- 42
def z42 : List Nat := [1000003, 1000021, 1000005, 1000019, 1000025, 1000028, 1000032]
def n42 : Nat := 36
def r42 : List RV := [.tmp 6]
def c42 : PCode :=
 (.seq (.reg false [⟨(some 3), none, [], .boxF (.t 0)⟩, ⟨(some 5), none, [], .boxF (.t 2)⟩, ⟨(some 6), none, [], .copy (.c (bo false))⟩])
 (.seq (.reg false [⟨(some 8), none, [], .loadE (.t 3) 3 true⟩, ⟨(some 9), none, [], .copy (.t 1)⟩, ⟨(some 10), none, [0, 1], .pcall 62 [(.t 8), (.t 9)]⟩, ⟨(some 7), none, [2, 2, 0, 1, 2], .copy (.t 10)⟩])
 (.seq (.seq (.reg false [⟨(some 11), none, [], .copy (.t 7)⟩, ⟨(some 12), none, [0], .bin .lss (.t 11) (.c (i 0))⟩, ⟨(some 13), none, [1], .copy (.t 12)⟩, ⟨(some 14), (some (13, false)), [2], .loadE (.t 5) 5 true⟩, ⟨(some 15), (some (13, false)), [3, 2, 2], .pcall 63 [(.t 14)]⟩, ⟨(some 16), (some (13, false)), [4, 2], .un .not (.t 15)⟩, ⟨(some 17), none, [2, 5], .pick (.t 13) (.c (bo true)) (.t 16)⟩, ⟨(some 18), none, [6, 4], .copy (.t 17)⟩, ⟨(some 19), (some (18, false)), [7], .padd (.t 5) 0⟩, ⟨(some 20), (some (18, false)), [8, 7], .loadE (.t 19) 1 false⟩, ⟨(some 21), (some (18, false)), [7], .padd (.t 3) 0⟩, ⟨(some 22), (some (18, false)), [10, 7], .loadE (.t 21) 1 false⟩, ⟨(some 23), (some (18, false)), [9, 11, 7], .bin .neq (.t 20) (.t 22)⟩, ⟨(some 24), none, [7, 12], .pick (.t 18) (.c (bo true)) (.t 23)⟩])
 (.cond (.t 24) (.seq (.reg false [⟨(some 6), none, [], .copy (.c (bo false))⟩])
 .ret) .skip))
 (.seq (.seq (.reg false [⟨(some 25), none, [], .padd (.t 5) 0⟩, ⟨(some 26), none, [0], .loadE (.t 25) 1 false⟩, ⟨(some 27), none, [1], .bin .eql (.t 26) (.c (i 3))⟩])
 (.cond (.t 27) (.seq (.reg false [⟨(some 28), none, [], .padd (.t 5) 1⟩, ⟨(some 29), none, [0], .loadE (.t 28) 1 false⟩, ⟨(some 30), none, [], .copy (.t 7)⟩, ⟨(some 31), none, [1, 2], .bin .leq (.t 29) (.t 30)⟩, ⟨(some 6), none, [3, 0, 1, 2, 3], .copy (.t 31)⟩])
 .ret) .skip))
 (.seq (.reg false [⟨(some 32), none, [], .padd (.t 5) 1⟩, ⟨(some 33), none, [0], .loadE (.t 32) 1 false⟩, ⟨(some 34), none, [], .copy (.t 7)⟩, ⟨(some 35), none, [1, 2], .bin .eql (.t 33) (.t 34)⟩, ⟨(some 6), none, [3, 0, 1, 2, 3], .copy (.t 35)⟩])
 .ret)))))
theorem is42 : FnIs Tryz.prog (z42 ++ pures) 42 n42 c42 r42 := ⟨⟨Tryz.f42, Tryz.f42.body.getD .skip, by kernel_rfl, by kernel_rfl, by kernel_rfl, by kernel_rfl, by kernel_rfl, by kernel_rfl⟩⟩
-- 43
def z43 : List Nat := [1000003]
def n43 : Nat := 20
def r43 : List RV := [.tmp 4]
def c43 : PCode :=
 (.seq (.reg false [⟨(some 3), none, [], .boxF (.t 1)⟩, ⟨(some 4), none, [], .copy (.c (i 0))⟩])
 (.seq (.seq (.reg false [⟨(some 5), none, [], .copy (.c (i 0))⟩])
 (.block 0 (.loop (.seq (.seq (.reg false [⟨(some 6), none, [], .copy (.t 5)⟩, ⟨(some 7), none, [], .copy (.t 0)⟩, ⟨(some 8), none, [1], .len (.t 7)⟩, ⟨(some 9), none, [0, 2], .bin .lss (.t 6) (.t 8)⟩])
 (.cond (.t 9) .skip (.exit 0)))
 (.seq (.block 1 (.seq (.reg true [⟨(some 12), none, [], .copy (.t 0)⟩, ⟨(some 13), none, [], .copy (.t 5)⟩, ⟨(some 14), none, [0, 1], .pidxS (.t 12) (.t 13) 14⟩, ⟨(some 15), none, [2], .padd (.t 14) 0⟩, ⟨(some 16), none, [3], .load (.t 15) 12 true⟩, ⟨(some 17), none, [], .loadE (.t 3) 12 true⟩, ⟨(some 18), none, [4, 5], .eqv false [1, 1, 1, 1, 1, 1, 2, 1, 1, 1, 1, 2] (.t 16) (.t 17)⟩])
 (.cond (.t 18) (.seq (.reg false [⟨(some 19), none, [], .copy (.t 5)⟩, ⟨(some 4), none, [0, 0], .copy (.t 19)⟩])
 .ret) .skip)))
 (.reg false [⟨(some 10), none, [], .copy (.t 5)⟩, ⟨(some 11), none, [0], .bin .add (.t 10) (.c (i 1))⟩, ⟨(some 5), none, [1, 0, 1], .copy (.t 11)⟩]))))))
 (.seq (.reg false [⟨(some 4), none, [], .copy (.c (i (-1)))⟩])
 .ret)))
theorem is43 : FnIs Tryz.prog (z43 ++ pures) 43 n43 c43 r43 := ⟨⟨Tryz.f43, Tryz.f43.body.getD .skip, by kernel_rfl, by kernel_rfl, by kernel_rfl, by kernel_rfl, by kernel_rfl, by kernel_rfl⟩⟩
-- 44
def z44 : List Nat := [1000003, 1000017]
def n44 : Nat := 40
def r44 : List RV := [.tmp 4]
def c44 : PCode :=
 (.seq (.reg false [⟨(some 3), none, [], .boxF (.t 1)⟩, ⟨(some 4), none, [], .copy (.c (.slc true []))⟩])
 (.seq (.reg false [⟨(some 5), none, [], .copy (.c (.slc true []))⟩])
 (.seq (.reg false [⟨(some 6), none, [], .copy (.c (i 0))⟩])
 (.seq (.block 0 (.loop (.seq (.seq (.reg true [⟨(some 7), none, [], .copy (.t 6)⟩, ⟨(some 8), none, [], .copy (.t 0)⟩, ⟨(some 9), none, [1], .len (.t 8)⟩, ⟨(some 10), none, [0, 2], .bin .lss (.t 7) (.t 9)⟩, ⟨(some 11), none, [3], .copy (.t 10)⟩, ⟨(some 12), (some (11, true)), [4], .copy (.t 0)⟩, ⟨(some 13), (some (11, true)), [4], .copy (.t 6)⟩, ⟨(some 14), (some (11, true)), [5, 6, 4], .pidxS (.t 12) (.t 13) 14⟩, ⟨(some 15), (some (11, true)), [7, 4], .padd (.t 14) 0⟩, ⟨(some 16), (some (11, true)), [8, 4], .load (.t 15) 12 true⟩, ⟨(some 17), (some (11, true)), [4], .padd (.t 3) 0⟩, ⟨(some 18), (some (11, true)), [10, 4], .loadE (.t 17) 12 true⟩, ⟨(some 19), (some (11, true)), [9, 11, 4, 4], .pcall 64 [(.t 16), (.t 18)]⟩, ⟨(some 20), (some (11, true)), [12, 4], .bin .lss (.t 19) (.c (i 0))⟩, ⟨(some 21), none, [4, 13], .pick (.t 11) (.t 20) (.c (bo false))⟩])
 (.cond (.t 21) .skip (.exit 0)))
 (.block 1 (.seq (.reg false [⟨(some 22), none, [], .take 5⟩, ⟨(some 23), none, [], .copy (.t 0)⟩, ⟨(some 24), none, [], .copy (.t 6)⟩, ⟨(some 25), none, [1, 2], .pidxS (.t 23) (.t 24) 14⟩, ⟨(some 26), none, [3], .load (.t 25) 14 true⟩, ⟨(some 27), none, [4], .bslice 14 [(.t 26)]⟩, ⟨(some 28), none, [0, 5], .append 22 (.t 27) 14 128⟩, ⟨(some 5), none, [6, 6, 0, 1, 2, 3, 4, 5, 6], .take 28⟩])
 (.reg false [⟨(some 29), none, [], .copy (.t 6)⟩, ⟨(some 30), none, [0], .bin .add (.t 29) (.c (i 1))⟩, ⟨(some 6), none, [1, 0, 1], .copy (.t 30)⟩]))))))
 (.seq (.reg false [⟨(some 31), none, [], .take 5⟩, ⟨(some 32), none, [], .loadE (.t 3) 14 true⟩, ⟨(some 33), none, [1], .bslice 14 [(.t 32)]⟩, ⟨(some 34), none, [0, 2], .append 31 (.t 33) 14 128⟩, ⟨(some 5), none, [3, 3, 0, 1, 2, 3], .take 34⟩])
 (.seq (.reg false [⟨(some 35), none, [], .take 5⟩, ⟨(some 36), none, [], .copy (.t 0)⟩, ⟨(some 37), none, [], .copy (.t 6)⟩, ⟨(some 38), none, [1, 2], .slice (.t 36) (some (.t 37)) none none 14⟩, ⟨(some 39), none, [0, 3], .append 35 (.t 38) 14 128⟩, ⟨(some 4), none, [4, 4, 0, 1, 2, 3, 4], .take 39⟩])
 .ret))))))
theorem is44 : FnIs Tryz.prog (z44 ++ pures) 44 n44 c44 r44 := ⟨⟨Tryz.f44, Tryz.f44.body.getD .skip, by kernel_rfl, by kernel_rfl, by kernel_rfl, by kernel_rfl, by kernel_rfl, by kernel_rfl⟩⟩
-- 45
def z45 : List Nat := []
def n45 : Nat := 24
def r45 : List RV := [.tmp 4]
def c45 : PCode :=
 (.seq (.reg false [⟨(some 4), none, [], .copy (.c (.slc true []))⟩])
 (.seq (.reg false [⟨(some 5), none, [], .copy (.c (.slc true []))⟩])
 (.seq (.seq (.reg false [⟨(some 6), none, [], .copy (.c (i 0))⟩])
 (.block 0 (.loop (.seq (.seq (.reg false [⟨(some 7), none, [], .copy (.t 6)⟩, ⟨(some 8), none, [], .copy (.t 0)⟩, ⟨(some 9), none, [1], .len (.t 8)⟩, ⟨(some 10), none, [0, 2], .bin .lss (.t 7) (.t 9)⟩])
 (.cond (.t 10) .skip (.exit 0)))
 (.seq (.block 1 (.seq (.reg false [⟨(some 13), none, [], .copy (.t 6)⟩, ⟨(some 14), none, [], .copy (.t 1)⟩, ⟨(some 15), none, [0, 1], .bin .neq (.t 13) (.t 14)⟩])
 (.cond (.t 15) (.reg false [⟨(some 16), none, [], .take 5⟩, ⟨(some 17), none, [], .copy (.t 0)⟩, ⟨(some 18), none, [], .copy (.t 6)⟩, ⟨(some 19), none, [1, 2], .pidxS (.t 17) (.t 18) 14⟩, ⟨(some 20), none, [3], .load (.t 19) 14 true⟩, ⟨(some 21), none, [4], .bslice 14 [(.t 20)]⟩, ⟨(some 22), none, [0, 5], .append 16 (.t 21) 14 128⟩, ⟨(some 5), none, [6, 6, 0, 1, 2, 3, 4, 5, 6], .take 22⟩]) .skip)))
 (.reg false [⟨(some 11), none, [], .copy (.t 6)⟩, ⟨(some 12), none, [0], .bin .add (.t 11) (.c (i 1))⟩, ⟨(some 6), none, [1, 0, 1], .copy (.t 12)⟩]))))))
 (.seq (.reg false [⟨(some 23), none, [], .copy (.t 5)⟩, ⟨(some 4), none, [0, 0], .take 23⟩])
 .ret))))
theorem is45 : FnIs Tryz.prog (z45 ++ pures) 45 n45 c45 r45 := ⟨⟨Tryz.f45, Tryz.f45.body.getD .skip, by kernel_rfl, by kernel_rfl, by kernel_rfl, by kernel_rfl, by kernel_rfl, by kernel_rfl⟩⟩
-- 46
def z46 : List Nat := [1000003, 1000005]
def n46 : Nat := 31
def r46 : List RV := [.tmp 6]
def c46 : PCode :=
 (.seq (.reg false [⟨(some 3), none, [], .boxF (.t 0)⟩, ⟨(some 5), none, [], .boxF (.t 2)⟩, ⟨(some 6), none, [], .copy (.c (u 0))⟩])
 (.seq (.reg false [⟨(some 7), none, [], .copy (.c (u 0))⟩])
 (.seq (.seq (.reg false [⟨(some 8), none, [], .copy (.c (i 0))⟩])
 (.block 0 (.loop (.seq (.seq (.reg false [⟨(some 9), none, [], .copy (.t 8)⟩, ⟨(some 10), none, [], .copy (.t 1)⟩, ⟨(some 11), none, [1], .len (.t 10)⟩, ⟨(some 12), none, [0, 2], .bin .lss (.t 9) (.t 11)⟩])
 (.cond (.t 12) .skip (.exit 0)))
 (.seq (.block 1 (.seq (.reg true [⟨(some 15), none, [], .loadE (.t 3) 7 true⟩, ⟨(some 16), none, [], .loadE (.t 5) 12 true⟩, ⟨(some 17), none, [], .copy (.t 1)⟩, ⟨(some 18), none, [], .copy (.t 8)⟩, ⟨(some 19), none, [2, 3], .pidxS (.t 17) (.t 18) 13⟩, ⟨(some 20), none, [4], .padd (.t 19) 0⟩, ⟨(some 21), none, [5], .load (.t 20) 12 true⟩, ⟨(some 22), none, [0, 1, 6], .pcall 65 [(.t 15), (.t 16), (.t 21)]⟩])
 (.cond (.t 22) (.reg false [⟨(some 23), none, [], .copy (.t 7)⟩, ⟨(some 24), none, [], .copy (.t 1)⟩, ⟨(some 25), none, [], .copy (.t 8)⟩, ⟨(some 26), none, [1, 2], .pidxS (.t 24) (.t 25) 13⟩, ⟨(some 27), none, [3], .padd (.t 26) 12⟩, ⟨(some 28), none, [4], .load (.t 27) 1 false⟩, ⟨(some 29), none, [0, 5], .bin .add (.t 23) (.t 28)⟩, ⟨(some 7), none, [6, 0, 1, 2, 3, 4, 5, 6], .copy (.t 29)⟩]) .skip)))
 (.reg false [⟨(some 13), none, [], .copy (.t 8)⟩, ⟨(some 14), none, [0], .bin .add (.t 13) (.c (i 1))⟩, ⟨(some 8), none, [1, 0, 1], .copy (.t 14)⟩]))))))
 (.seq (.reg false [⟨(some 30), none, [], .copy (.t 7)⟩, ⟨(some 6), none, [0, 0], .copy (.t 30)⟩])
 .ret))))
theorem is46 : FnIs Tryz.prog (z46 ++ pures) 46 n46 c46 r46 := ⟨⟨Tryz.f46, Tryz.f46.body.getD .skip, by kernel_rfl, by kernel_rfl, by kernel_rfl, by kernel_rfl, by kernel_rfl, by kernel_rfl⟩⟩
-- 47
def z47 : List Nat := [1000002, 1000010, 1000043]
def n47 : Nat := 63
def r47 : List RV := [.tmp 4]
def c47 : PCode :=
 (.seq (.reg false [⟨(some 2), none, [], .boxF (.t 0)⟩, ⟨(some 4), none, [], .copy (.c (.slc true []))⟩])
 (.seq (.reg false [⟨(some 5), none, [], .copy (.c (.slc true []))⟩])
 (.seq (.reg false [⟨(some 11), none, [], .loadE (.t 2) 7 true⟩, ⟨(some 12), none, [0], .pcall 66 [(.t 11)]⟩, ⟨(some 6), none, [1, 1, 0, 1], .take 12⟩])
 (.seq (.seq (.reg false [⟨(some 7), none, [], .copy (.c (i 0))⟩])
 (.block 0 (.loop (.seq (.seq (.reg false [⟨(some 13), none, [], .copy (.t 7)⟩, ⟨(some 14), none, [], .copy (.t 6)⟩, ⟨(some 15), none, [1], .len (.t 14)⟩, ⟨(some 16), none, [0, 2], .bin .lss (.t 13) (.t 15)⟩])
 (.cond (.t 16) .skip (.exit 0)))
 (.seq (.block 1 (.seq (.reg false [⟨(some 8), none, [], .copy (.c (.slc true []))⟩])
 (.seq (.seq (.reg false [⟨(some 9), none, [], .copy (.c (i 0))⟩])
 (.block 2 (.loop (.seq (.seq (.reg false [⟨(some 19), none, [], .copy (.t 9)⟩, ⟨(some 20), none, [], .copy (.t 1)⟩, ⟨(some 21), none, [1], .len (.t 20)⟩, ⟨(some 22), none, [0, 2], .bin .lss (.t 19) (.t 21)⟩])
 (.cond (.t 22) .skip (.exit 2)))
 (.seq (.block 3 (.seq (.reg true [⟨(some 25), none, [], .loadE (.t 2) 7 true⟩, ⟨(some 26), none, [], .copy (.t 1)⟩, ⟨(some 27), none, [], .copy (.t 9)⟩, ⟨(some 28), none, [1, 2], .pidxS (.t 26) (.t 27) 13⟩, ⟨(some 29), none, [3], .padd (.t 28) 0⟩, ⟨(some 30), none, [4], .load (.t 29) 12 true⟩, ⟨(some 31), none, [], .copy (.t 6)⟩, ⟨(some 32), none, [], .copy (.t 7)⟩, ⟨(some 33), none, [6, 7], .pidxS (.t 31) (.t 32) 2⟩, ⟨(some 34), none, [8], .load (.t 33) 2 true⟩, ⟨(some 35), none, [0, 5, 9], .pcall 67 [(.t 25), (.t 30), (.t 34)]⟩, ⟨(some 10), none, [], .allocF 12⟩, ⟨none, none, [11, 10, 10, 0, 1, 2, 3, 4, 5, 6, 7, 8, 9, 10, 11], .storeF 10 (.t 35) 12⟩])
 (.seq (.reg true [⟨(some 36), none, [], .copy (.t 1)⟩, ⟨(some 37), none, [], .copy (.t 9)⟩, ⟨(some 38), none, [0, 1], .pidxS (.t 36) (.t 37) 13⟩, ⟨(some 39), none, [2], .padd (.t 38) 12⟩, ⟨(some 40), none, [3], .load (.t 39) 1 false⟩, ⟨(some 41), none, [4], .bin .gtr (.t 40) (.c (u 0))⟩, ⟨(some 42), none, [5], .copy (.t 41)⟩, ⟨(some 43), (some (42, true)), [6], .padd (.t 10) 0⟩, ⟨(some 44), (some (42, true)), [7, 6], .loadE (.t 43) 2 true⟩, ⟨(some 45), (some (42, true)), [6], .copy (.t 6)⟩, ⟨(some 46), (some (42, true)), [6], .copy (.t 7)⟩, ⟨(some 47), (some (42, true)), [9, 10, 6], .pidxS (.t 45) (.t 46) 2⟩, ⟨(some 48), (some (42, true)), [11, 6], .load (.t 47) 2 true⟩, ⟨(some 49), (some (42, true)), [8, 12, 6], .eqv false [1, 1] (.t 44) (.t 48)⟩, ⟨(some 50), none, [6, 13], .pick (.t 42) (.t 49) (.c (bo false))⟩, ⟨(some 51), none, [14, 6], .copy (.t 50)⟩, ⟨(some 52), (some (51, true)), [15], .loadE (.t 2) 7 true⟩, ⟨(some 53), (some (51, true)), [15], .loadE (.t 10) 12 true⟩, ⟨(some 54), (some (51, true)), [16, 17, 15, 15], .pcall 25 [(.t 52), (.t 53)]⟩, ⟨(some 55), none, [15, 18], .pick (.t 51) (.t 54) (.c (bo false))⟩])
 (.cond (.t 55) (.reg false [⟨(some 56), none, [], .copy (.t 8)⟩, ⟨(some 57), none, [], .loadE (.t 10) 12 true⟩, ⟨(some 58), none, [0, 1], .pcall 68 [(.t 56), (.t 57)]⟩, ⟨(some 8), none, [2, 2, 0, 1, 2], .take 58⟩]) .skip))))
 (.reg false [⟨(some 23), none, [], .copy (.t 9)⟩, ⟨(some 24), none, [0], .bin .add (.t 23) (.c (i 1))⟩, ⟨(some 9), none, [1, 0, 1], .copy (.t 24)⟩]))))))
 (.reg false [⟨(some 59), none, [], .take 5⟩, ⟨(some 60), none, [], .copy (.t 8)⟩, ⟨(some 61), none, [0, 1], .append 59 (.t 60) 12 112⟩, ⟨(some 5), none, [2, 2, 0, 1, 2], .take 61⟩]))))
 (.reg false [⟨(some 17), none, [], .copy (.t 7)⟩, ⟨(some 18), none, [0], .bin .add (.t 17) (.c (i 1))⟩, ⟨(some 7), none, [1, 0, 1], .copy (.t 18)⟩]))))))
 (.seq (.reg false [⟨(some 62), none, [], .copy (.t 5)⟩, ⟨(some 4), none, [0, 0], .take 62⟩])
 .ret)))))
theorem is47 : FnIs Tryz.prog (z47 ++ pures) 47 n47 c47 r47 := ⟨⟨Tryz.f47, Tryz.f47.body.getD .skip, by kernel_rfl, by kernel_rfl, by kernel_rfl, by kernel_rfl, by kernel_rfl, by kernel_rfl⟩⟩
-- 48
def z48 : List Nat := []
def n48 : Nat := 10
def r48 : List RV := [.tmp 2]
def c48 : PCode :=
 (.seq (.reg false [⟨(some 2), none, [], .copy (.c (i 0))⟩])
 (.seq (.seq (.reg false [⟨(some 3), none, [], .copy (.t 0)⟩])
 (.block 0 (.seq (.reg false [⟨(some 5), none, [], .bin .eql (.t 3) (.c (i 1))⟩, ⟨(some 4), none, [0], .copy (.t 5)⟩])
 (.cond (.t 4) (.seq (.reg false [⟨(some 2), none, [], .copy (.c (i 32))⟩])
 .ret) (.seq (.reg false [⟨(some 7), none, [], .bin .eql (.t 3) (.c (i 2))⟩, ⟨(some 6), none, [0], .copy (.t 7)⟩])
 (.cond (.t 6) (.seq (.reg false [⟨(some 2), none, [], .copy (.c (i 128))⟩])
 .ret) (.seq (.reg false [⟨(some 9), none, [], .bin .eql (.t 3) (.c (i 3))⟩, ⟨(some 8), none, [0], .copy (.t 9)⟩])
 (.cond (.t 8) (.seq (.reg false [⟨(some 2), none, [], .copy (.c (i 8))⟩])
 .ret) .skip))))))))
 (.seq (.reg false [⟨(some 2), none, [], .copy (.c (i 0))⟩])
 .ret)))
theorem is48 : FnIs Tryz.prog (z48 ++ pures) 48 n48 c48 r48 := ⟨⟨Tryz.f48, Tryz.f48.body.getD .skip, by kernel_rfl, by kernel_rfl, by kernel_rfl, by kernel_rfl, by kernel_rfl, by kernel_rfl⟩⟩
-- 49
def z49 : List Nat := []
def n49 : Nat := 9
def r49 : List RV := [.tmp 2]
def c49 : PCode :=
 (.seq (.reg false [⟨(some 2), none, [], .copy (.c (i 0))⟩])
 (.seq (.seq (.reg false [⟨(some 3), none, [], .copy (.t 0)⟩, ⟨(some 4), none, [0], .bin .eql (.t 3) (.c (i 1))⟩])
 (.cond (.t 4) (.seq (.reg false [⟨(some 2), none, [], .copy (.c (i 32))⟩])
 .ret) .skip))
 (.seq (.seq (.reg false [⟨(some 5), none, [], .copy (.t 0)⟩, ⟨(some 6), none, [0], .bin .eql (.t 5) (.c (i 2))⟩])
 (.cond (.t 6) (.seq (.reg false [⟨(some 2), none, [], .copy (.c (i 128))⟩])
 .ret) .skip))
 (.seq (.seq (.reg false [⟨(some 7), none, [], .copy (.t 0)⟩, ⟨(some 8), none, [0], .bin .eql (.t 7) (.c (i 3))⟩])
 (.cond (.t 8) (.seq (.reg false [⟨(some 2), none, [], .copy (.c (i 8))⟩])
 .ret) .skip))
 (.seq (.reg false [⟨(some 2), none, [], .copy (.c (i 0))⟩])
 .ret)))))
theorem is49 : FnIs Tryz.prog (z49 ++ pures) 49 n49 c49 r49 := ⟨⟨Tryz.f49, Tryz.f49.body.getD .skip, by kernel_rfl, by kernel_rfl, by kernel_rfl, by kernel_rfl, by kernel_rfl, by kernel_rfl⟩⟩
-- 50
def z50 : List Nat := []
def n50 : Nat := 5
def r50 : List RV := [.tmp 2]
def c50 : PCode :=
 (.seq (.reg false [⟨(some 2), none, [], .copy (.c (.slc true []))⟩])
 (.seq (.reg false [⟨(some 3), none, [], .copy (.t 0)⟩, ⟨(some 4), none, [0], .call 69 [(.c (.slc true [])), (.t 3)]⟩, ⟨(some 2), none, [1, 1, 0, 1], .take 4⟩])
 .ret))
theorem is50 : FnIs Tryz.prog (z50 ++ pures) 50 n50 c50 r50 := ⟨⟨Tryz.f50, Tryz.f50.body.getD .skip, by kernel_rfl, by kernel_rfl, by kernel_rfl, by kernel_rfl, by kernel_rfl, by kernel_rfl⟩⟩
-- 52
def z52 : List Nat := [1000003, 1000001]
def n52 : Nat := 14
def r52 : List RV := []
def c52 : PCode :=
 (.seq (.reg false [⟨(some 4), none, [], .loadE (.t 1) 1 false⟩, ⟨(some 5), none, [0], .mrange (.t 4)⟩])
 (.block 0 (.loop (.seq (.reg false [⟨(some 6), none, [], .mnext (.t 5)⟩, ⟨(some 7), none, [0], .ext (.t 6) 0⟩])
 (.seq (.cond (.t 7) .skip (.exit 0))
 (.block 1 (.seq (.reg false [⟨(some 8), none, [], .mcur (.t 5)⟩, ⟨(some 9), none, [0], .ext (.t 8) 0⟩, ⟨(some 3), none, [], .allocF 12⟩, ⟨none, none, [2, 1, 0, 1, 2], .storeF 3 (.t 9) 12⟩])
 (.seq (.reg false [⟨(some 10), none, [], .copy (.t 0)⟩, ⟨(some 11), none, [], .loadE (.t 3) 12 true⟩, ⟨(some 12), none, [0, 1], .callv (.t 10) [(.t 11)]⟩, ⟨(some 13), none, [2], .un .not (.t 12)⟩])
 (.cond (.t 13) .ret .skip)))))))))
theorem is52 : FnIs Tryz.prog (z52 ++ pures) 52 n52 c52 r52 := ⟨⟨Tryz.f52, Tryz.f52.body.getD .skip, by kernel_rfl, by kernel_rfl, by kernel_rfl, by kernel_rfl, by kernel_rfl, by kernel_rfl⟩⟩
-- 53
def z53 : List Nat := []
def n53 : Nat := 18
def r53 : List RV := [.tmp 2]
def c53 : PCode :=
 (.seq (.reg false [⟨(some 2), none, [], .copy (.c (i 0))⟩])
 (.seq (.reg false [⟨(some 3), none, [], .copy (.c (i 0))⟩])
 (.seq (.seq (.reg false [⟨(some 6), none, [], .copy (.t 0)⟩, ⟨(some 7), none, [0], .len (.t 6)⟩, ⟨(some 8), none, [], .copy (.c (i 0))⟩])
 (.block 0 (.loop (.seq (.reg false [⟨(some 9), none, [], .bin .lss (.t 8) (.t 7)⟩])
 (.seq (.cond (.t 9) .skip (.exit 0))
 (.seq (.block 1 (.seq (.reg false [⟨(some 10), none, [], .pidxS (.t 6) (.t 8) 1⟩, ⟨(some 11), none, [0], .load (.t 10) 1 false⟩, ⟨(some 5), none, [1, 0, 1], .copy (.t 11)⟩])
 (.seq (.reg false [⟨(some 12), none, [], .copy (.t 5)⟩, ⟨(some 13), none, [], .copy (.t 3)⟩, ⟨(some 14), none, [0, 1], .bin .neq (.t 12) (.t 13)⟩])
 (.cond (.t 14) (.seq (.reg false [⟨(some 15), none, [], .copy (.t 5)⟩, ⟨(some 2), none, [0, 0], .copy (.t 15)⟩])
 .ret) .skip))))
 (.reg false [⟨(some 16), none, [], .bin .add (.t 8) (.c (i 1))⟩, ⟨(some 8), none, [0], .copy (.t 16)⟩])))))))
 (.seq (.reg false [⟨(some 17), none, [], .copy (.t 3)⟩, ⟨(some 2), none, [0, 0], .copy (.t 17)⟩])
 .ret))))
theorem is53 : FnIs Tryz.prog (z53 ++ pures) 53 n53 c53 r53 := ⟨⟨Tryz.f53, Tryz.f53.body.getD .skip, by kernel_rfl, by kernel_rfl, by kernel_rfl, by kernel_rfl, by kernel_rfl, by kernel_rfl⟩⟩
-- 54
def z54 : List Nat := []
def n54 : Nat := 20
def r54 : List RV := [.tmp 4]
def c54 : PCode :=
 (.seq (.reg false [⟨(some 4), none, [], .copy (.c (i 0))⟩])
 (.seq (.reg false [⟨(some 7), none, [], .copy (.t 0)⟩, ⟨(some 8), none, [0], .pcall 72 [(.t 7)]⟩, ⟨(some 5), none, [1, 1, 0, 1], .copy (.t 8)⟩])
 (.seq (.reg false [⟨(some 9), none, [], .copy (.t 1)⟩, ⟨(some 10), none, [0], .pcall 72 [(.t 9)]⟩, ⟨(some 6), none, [1, 1, 0, 1], .copy (.t 10)⟩])
 (.seq (.seq (.reg false [⟨(some 11), none, [], .copy (.t 5)⟩])
 (.cond (.t 11) (.seq (.seq (.reg false [⟨(some 12), none, [], .copy (.t 6)⟩])
 (.cond (.t 12) (.seq (.reg false [⟨(some 4), none, [], .copy (.c (i 0))⟩])
 .ret) .skip))
 (.seq (.reg false [⟨(some 4), none, [], .copy (.c (i (-1)))⟩])
 .ret)) .skip))
 (.seq (.seq (.reg false [⟨(some 13), none, [], .copy (.t 6)⟩])
 (.cond (.t 13) (.seq (.reg false [⟨(some 4), none, [], .copy (.c (i 1))⟩])
 .ret) .skip))
 (.seq (.seq (.reg false [⟨(some 14), none, [], .copy (.t 0)⟩, ⟨(some 15), none, [], .copy (.t 1)⟩, ⟨(some 16), none, [0, 1], .bin .lss (.t 14) (.t 15)⟩])
 (.cond (.t 16) (.seq (.reg false [⟨(some 4), none, [], .copy (.c (i (-1)))⟩])
 .ret) .skip))
 (.seq (.seq (.reg false [⟨(some 17), none, [], .copy (.t 0)⟩, ⟨(some 18), none, [], .copy (.t 1)⟩, ⟨(some 19), none, [0, 1], .bin .gtr (.t 17) (.t 18)⟩])
 (.cond (.t 19) (.seq (.reg false [⟨(some 4), none, [], .copy (.c (i 1))⟩])
 .ret) .skip))
 (.seq (.reg false [⟨(some 4), none, [], .copy (.c (i 0))⟩])
 .ret))))))))
theorem is54 : FnIs Tryz.prog (z54 ++ pures) 54 n54 c54 r54 := ⟨⟨Tryz.f54, Tryz.f54.body.getD .skip, by kernel_rfl, by kernel_rfl, by kernel_rfl, by kernel_rfl, by kernel_rfl, by kernel_rfl⟩⟩
-- 55
def z55 : List Nat := [1000002, 1000005, 1000015, 1000020, 1000003, 1000007, 1000017, 1000022]
def n55 : Nat := 27
def r55 : List RV := [.tmp 4]
def c55 : PCode :=
 (.seq (.reg false [⟨(some 2), none, [], .boxF (.t 0)⟩, ⟨(some 3), none, [], .boxF (.t 1)⟩, ⟨(some 4), none, [], .copy (.c (i 0))⟩])
 (.seq (.reg true [⟨(some 5), none, [], .padd (.t 2) 0⟩, ⟨(some 6), none, [0], .loadE (.t 5) 1 false⟩, ⟨(some 7), none, [], .padd (.t 3) 0⟩, ⟨(some 8), none, [2], .loadE (.t 7) 1 false⟩, ⟨(some 9), none, [1, 3], .pcall 54 [(.t 6), (.t 8)]⟩, ⟨(some 10), none, [], .loadE (.t 2) 5 true⟩, ⟨(some 11), none, [5, 4], .pcall 74 [(.t 10)]⟩, ⟨(some 12), none, [], .loadE (.t 3) 5 true⟩, ⟨(some 13), none, [7, 6], .pcall 74 [(.t 12)]⟩, ⟨(some 14), none, [6, 8, 8], .pcall 73 [(.t 11), (.t 13)]⟩, ⟨(some 15), none, [], .padd (.t 2) 4⟩, ⟨(some 16), none, [10], .loadE (.t 15) 1 false⟩, ⟨(some 17), none, [], .padd (.t 3) 4⟩, ⟨(some 18), none, [12], .loadE (.t 17) 1 false⟩, ⟨(some 19), none, [11, 13, 9], .pcall 75 [(.t 16), (.t 18)]⟩, ⟨(some 20), none, [], .padd (.t 2) 1⟩, ⟨(some 21), none, [15], .loadE (.t 20) 1 false⟩, ⟨(some 22), none, [], .padd (.t 3) 1⟩, ⟨(some 23), none, [17], .loadE (.t 22) 1 false⟩, ⟨(some 24), none, [16, 18, 14], .pcall 54 [(.t 21), (.t 23)]⟩, ⟨(some 25), none, [4, 9, 14, 19], .bslice 1 [(.t 9), (.t 14), (.t 19), (.t 24)]⟩, ⟨(some 26), none, [20, 19], .pcall 53 [(.t 25)]⟩, ⟨(some 4), none, [21, 21, 0, 1, 2, 3, 4, 5, 6, 7, 8, 9, 10, 11, 12, 13, 14, 15, 16, 17, 18, 19, 20, 21], .copy (.t 26)⟩])
 .ret))
theorem is55 : FnIs Tryz.prog (z55 ++ pures) 55 n55 c55 r55 := ⟨⟨Tryz.f55, Tryz.f55.body.getD .skip, by kernel_rfl, by kernel_rfl, by kernel_rfl, by kernel_rfl, by kernel_rfl, by kernel_rfl⟩⟩
-- 56
def z56 : List Nat := [1000003, 1000011, 1000012, 1000004, 1000028, 1000029, 1000007]
def n56 : Nat := 35
def r56 : List RV := [.tmp 6]
def c56 : PCode :=
 (.seq (.reg false [⟨(some 3), none, [], .boxF (.t 0)⟩, ⟨(some 4), none, [], .boxF (.t 1)⟩, ⟨(some 6), none, [], .copy (.c (.slc true []))⟩])
 (.seq (.reg false [⟨(some 10), none, [], .copy (.t 2)⟩, ⟨(some 11), none, [], .padd (.t 3) 1⟩, ⟨(some 12), none, [1, 0], .pidxA (.t 11) (.t 10) 2 3⟩, ⟨(some 13), none, [2], .loadE (.t 12) 3 true⟩, ⟨(some 7), none, [], .allocF 3⟩, ⟨none, none, [4, 3, 0, 1, 2, 3, 4], .storeF 7 (.t 13) 3⟩])
 (.seq (.reg false [⟨(some 14), none, [], .loadE (.t 7) 3 true⟩, ⟨(some 15), none, [0], .pcall 76 [(.t 14)]⟩, ⟨(some 16), none, [1], .bin .add (.t 15) (.c (i 1))⟩, ⟨(some 17), none, [2, 2], .mkslice [(i 0), (i 0), (u 0), (u 0), (tx [])] 48 (.t 16) (.t 16)⟩, ⟨(some 8), none, [3, 1, 0, 1, 2, 3], .take 17⟩])
 (.seq (.seq (.reg false [⟨(some 18), none, [], .copy (.t 8)⟩, ⟨(some 19), none, [0], .len (.t 18)⟩, ⟨(some 20), none, [], .copy (.c (i 0))⟩])
 (.block 0 (.loop (.seq (.reg false [⟨(some 21), none, [], .bin .lss (.t 20) (.t 19)⟩])
 (.seq (.cond (.t 21) .skip (.exit 0))
 (.seq (.block 1 (.seq (.reg false [⟨(some 22), none, [], .copy (.t 20)⟩, ⟨(some 9), none, [0, 0], .copy (.t 22)⟩])
 (.reg true [⟨(some 23), none, [], .copy (.t 8)⟩, ⟨(some 24), none, [], .copy (.t 9)⟩, ⟨(some 25), none, [], .loadE (.t 7) 3 true⟩, ⟨(some 26), none, [], .copy (.t 9)⟩, ⟨(some 27), none, [], .copy (.t 2)⟩, ⟨(some 28), none, [], .padd (.t 4) 2⟩, ⟨(some 29), none, [5, 4], .pidxA (.t 28) (.t 27) 2 5⟩, ⟨(some 30), none, [6], .loadE (.t 29) 5 true⟩, ⟨(some 31), none, [2, 3, 7], .pcall 77 [(.t 25), (.t 26), (.t 30)]⟩, ⟨(some 32), none, [0, 1, 0, 1, 2, 3, 4, 5, 6, 7, 8], .pidxS (.t 23) (.t 24) 5⟩, ⟨none, none, [9, 8, 8, 0, 1, 2, 3, 4, 5, 6, 7, 8], .store (.t 32) (.t 31) 5⟩])))
 (.reg false [⟨(some 33), none, [], .bin .add (.t 20) (.c (i 1))⟩, ⟨(some 20), none, [0], .copy (.t 33)⟩])))))))
 (.seq (.reg false [⟨(some 34), none, [], .copy (.t 8)⟩, ⟨(some 6), none, [0, 0], .take 34⟩])
 .ret)))))
theorem is56 : FnIs Tryz.prog (z56 ++ pures) 56 n56 c56 r56 := ⟨⟨Tryz.f56, Tryz.f56.body.getD .skip, by kernel_rfl, by kernel_rfl, by kernel_rfl, by kernel_rfl, by kernel_rfl, by kernel_rfl⟩⟩
-- 57
def z57 : List Nat := [1000001]
def n57 : Nat := 4
def r57 : List RV := [.tmp 2]
def c57 : PCode :=
 (.seq (.reg false [⟨(some 1), none, [], .boxF (.t 0)⟩, ⟨(some 2), none, [], .copy (.c (.v (.nilFunc)))⟩])
 (.seq (.reg false [⟨(some 3), none, [], .mkclo 78 [(.t 1)]⟩, ⟨(some 2), none, [0, 0], .copy (.t 3)⟩])
 .ret))
theorem is57 : FnIs Tryz.prog (z57 ++ pures) 57 n57 c57 r57 := ⟨⟨Tryz.f57, Tryz.f57.body.getD .skip, by kernel_rfl, by kernel_rfl, by kernel_rfl, by kernel_rfl, by kernel_rfl, by kernel_rfl⟩⟩
-- 58
def z58 : List Nat := [1000003, 1000001]
def n58 : Nat := 14
def r58 : List RV := []
def c58 : PCode :=
 (.seq (.reg false [⟨(some 4), none, [], .loadE (.t 1) 1 false⟩, ⟨(some 5), none, [0], .mrange (.t 4)⟩])
 (.block 0 (.loop (.seq (.reg false [⟨(some 6), none, [], .mnext (.t 5)⟩, ⟨(some 7), none, [0], .ext (.t 6) 0⟩])
 (.seq (.cond (.t 7) .skip (.exit 0))
 (.block 1 (.seq (.reg false [⟨(some 8), none, [], .mcur (.t 5)⟩, ⟨(some 9), none, [0], .ext (.t 8) 0⟩, ⟨(some 3), none, [], .allocF 12⟩, ⟨none, none, [2, 1, 0, 1, 2], .storeF 3 (.t 9) 12⟩])
 (.seq (.reg false [⟨(some 10), none, [], .copy (.t 0)⟩, ⟨(some 11), none, [], .loadE (.t 3) 12 true⟩, ⟨(some 12), none, [0, 1], .callv (.t 10) [(.t 11)]⟩, ⟨(some 13), none, [2], .un .not (.t 12)⟩])
 (.cond (.t 13) .ret .skip)))))))))
theorem is58 : FnIs Tryz.prog (z58 ++ pures) 58 n58 c58 r58 := ⟨⟨Tryz.f58, Tryz.f58.body.getD .skip, by kernel_rfl, by kernel_rfl, by kernel_rfl, by kernel_rfl, by kernel_rfl, by kernel_rfl⟩⟩
-- 59
def z59 : List Nat := [1000003, 1000033, 1000004, 1000017, 1000025, 1000045, 1000018, 1000026, 1000046, 1000005, 1000015, 1000023, 1000042, 1000009]
def n59 : Nat := 59
def r59 : List RV := [.cell 6 12 true]
def c59 : PCode :=
 (.seq (.reg false [⟨(some 3), none, [], .boxF (.t 0)⟩, ⟨(some 4), none, [], .boxF (.t 1)⟩, ⟨(some 5), none, [], .boxF (.t 2)⟩, ⟨(some 6), none, [], .alloc [(i 0), (i 0), (i 0), (i 0), (u 0), (u 0), (tx []), (i 0), (i 0), (u 0), (u 0), (tx [])]⟩])
 (.seq (.seq (.reg false [⟨(some 10), none, [], .loadE (.t 3) 7 true⟩, ⟨(some 11), none, [], .loadE (.t 4) 12 true⟩, ⟨(some 12), none, [0, 1], .pcall 23 [(.t 10), (.t 11)]⟩, ⟨(some 13), none, [2], .un .not (.t 12)⟩, ⟨(some 14), none, [3, 2], .copy (.t 13)⟩, ⟨(some 15), (some (14, false)), [4], .pidxA (.t 5) (.c (i 0)) 2 1⟩, ⟨(some 16), (some (14, false)), [5, 4], .loadE (.t 15) 1 false⟩, ⟨(some 17), (some (14, false)), [4], .padd (.t 4) 0⟩, ⟨(some 18), (some (14, false)), [7, 4], .pidxA (.t 17) (.c (i 0)) 2 1⟩, ⟨(some 19), (some (14, false)), [8, 4], .loadE (.t 18) 1 false⟩, ⟨(some 20), (some (14, false)), [6, 9, 4], .bin .lss (.t 16) (.t 19)⟩, ⟨(some 21), none, [4, 10], .pick (.t 14) (.c (bo true)) (.t 20)⟩, ⟨(some 22), none, [11, 4], .copy (.t 21)⟩, ⟨(some 23), (some (22, false)), [12], .pidxA (.t 5) (.c (i 1)) 2 1⟩, ⟨(some 24), (some (22, false)), [13, 12], .loadE (.t 23) 1 false⟩, ⟨(some 25), (some (22, false)), [12], .padd (.t 4) 0⟩, ⟨(some 26), (some (22, false)), [15, 12], .pidxA (.t 25) (.c (i 1)) 2 1⟩, ⟨(some 27), (some (22, false)), [16, 12], .loadE (.t 26) 1 false⟩, ⟨(some 28), (some (22, false)), [14, 17, 12], .bin .lss (.t 24) (.t 27)⟩, ⟨(some 29), none, [12, 18], .pick (.t 22) (.c (bo true)) (.t 28)⟩])
 (.cond (.t 29) (.seq (.reg false [⟨(some 30), none, [], .build [(i 0), (i 0), (i 0), (i 0), (u 0), (u 0), (tx []), (i 0), (i 0), (u 0), (u 0), (tx [])] []⟩, ⟨none, none, [0, 0], .store (.t 6) (.t 30) 12⟩])
 .ret) .skip))
 (.seq (.reg false [⟨(some 31), none, [], .loadE (.t 5) 2 true⟩, ⟨(some 32), none, [0], .build [(i 0), (i 0), (i 0), (i 0), (u 0), (u 0), (tx []), (i 0), (i 0), (u 0), (u 0), (tx [])] [(0, 2, (.t 31))]⟩, ⟨(some 7), none, [], .alloc [(i 0), (i 0), (i 0), (i 0), (u 0), (u 0), (tx []), (i 0), (i 0), (u 0), (u 0), (tx [])]⟩, ⟨none, none, [2, 1, 0, 1, 2], .store (.t 7) (.t 32) 12⟩])
 (.seq (.seq (.reg false [⟨(some 33), none, [], .padd (.t 3) 1⟩, ⟨(some 34), none, [0], .loadE (.t 33) 6 true⟩, ⟨(some 35), none, [], .copy (.c (i 0))⟩])
 (.block 0 (.loop (.seq (.reg false [⟨(some 36), none, [], .bin .lss (.t 35) (.c (i 2))⟩])
 (.seq (.cond (.t 36) .skip (.exit 0))
 (.seq (.block 1 (.seq (.reg false [⟨(some 37), none, [], .copy (.t 35)⟩, ⟨(some 38), none, [], .idx (.t 34) (.t 35) 2 3 true⟩, ⟨(some 9), none, [], .allocF 3⟩, ⟨(some 8), none, [0, 0, 1, 2], .copy (.t 37)⟩, ⟨none, none, [2, 1, 3, 0, 1, 2, 3], .storeF 9 (.t 38) 3⟩])
 (.reg true [⟨(some 39), none, [], .copy (.t 8)⟩, ⟨(some 40), none, [], .loadE (.t 9) 3 true⟩, ⟨(some 41), none, [], .copy (.t 8)⟩, ⟨(some 42), none, [2], .pidxA (.t 5) (.t 41) 2 1⟩, ⟨(some 43), none, [3], .loadE (.t 42) 1 false⟩, ⟨(some 44), none, [], .copy (.t 8)⟩, ⟨(some 45), none, [], .padd (.t 4) 2⟩, ⟨(some 46), none, [6, 5], .pidxA (.t 45) (.t 44) 2 5⟩, ⟨(some 47), none, [7], .loadE (.t 46) 5 true⟩, ⟨(some 48), none, [1, 4, 8], .pcall 77 [(.t 40), (.t 43), (.t 47)]⟩, ⟨(some 49), none, [], .padd (.t 7) 2⟩, ⟨(some 50), none, [10, 0, 0, 1, 2, 3, 4, 5, 6, 7, 8, 9], .pidxA (.t 49) (.t 39) 2 5⟩, ⟨none, none, [11, 9, 9, 0, 1, 2, 3, 4, 5, 6, 7, 8, 9], .store (.t 50) (.t 48) 5⟩])))
 (.reg false [⟨(some 51), none, [], .bin .add (.t 35) (.c (i 1))⟩, ⟨(some 35), none, [0], .copy (.t 51)⟩])))))))
 (.seq (.reg false [⟨(some 53), none, [], .loadE (.t 3) 7 true⟩, ⟨(some 54), none, [], .load (.t 7) 12 true⟩, ⟨(some 55), none, [0, 1], .pcall 81 [(.t 53), (.t 54)]⟩, ⟨(some 52), none, [2], .copy (.t 55)⟩, ⟨(some 56), none, [3], .ext (.t 52) 0⟩, ⟨(some 57), none, [3], .ext (.t 52) 1⟩, ⟨none, none, [4, 2, 0, 1, 2, 3, 4], .store (.t 7) (.t 56) 12⟩])
 (.seq (.reg false [⟨(some 58), none, [], .load (.t 7) 12 true⟩, ⟨none, none, [0, 0], .store (.t 6) (.t 58) 12⟩])
 .ret))))))
theorem is59 : FnIs Tryz.prog (z59 ++ pures) 59 n59 c59 r59 := ⟨⟨Tryz.f59, Tryz.f59.body.getD .skip, by kernel_rfl, by kernel_rfl, by kernel_rfl, by kernel_rfl, by kernel_rfl, by kernel_rfl⟩⟩
-- 60
def z60 : List Nat := [1000002, 1000018, 1000022]
def n60 : Nat := 27
def r60 : List RV := [.tmp 4]
def c60 : PCode :=
 (.seq (.reg false [⟨(some 2), none, [], .boxF (.t 0)⟩, ⟨(some 4), none, [], .copy (.c (i 0))⟩])
 (.seq (.seq (.reg false [⟨(some 5), none, [], .loadE (.t 2) 3 true⟩, ⟨(some 6), none, [0], .pcall 32 [(.t 5)]⟩, ⟨(some 7), none, [1], .un .not (.t 6)⟩, ⟨(some 8), none, [2, 1], .copy (.t 7)⟩, ⟨(some 9), (some (8, false)), [3], .copy (.t 1)⟩, ⟨(some 10), (some (8, false)), [4, 3], .bin .lss (.t 9) (.c (i 0))⟩, ⟨(some 11), none, [3, 5], .pick (.t 8) (.c (bo true)) (.t 10)⟩, ⟨(some 12), none, [6, 3], .copy (.t 11)⟩, ⟨(some 13), (some (12, false)), [7], .copy (.t 1)⟩, ⟨(some 14), (some (12, false)), [7], .loadE (.t 2) 3 true⟩, ⟨(some 15), (some (12, false)), [9, 7, 7], .pcall 76 [(.t 14)]⟩, ⟨(some 16), (some (12, false)), [8, 10, 7], .bin .gtr (.t 13) (.t 15)⟩, ⟨(some 17), none, [7, 11], .pick (.t 12) (.c (bo true)) (.t 16)⟩])
 (.cond (.t 17) (.seq (.reg false [⟨(some 4), none, [], .copy (.c (i (-1)))⟩])
 .ret) .skip))
 (.seq (.reg true [⟨(some 18), none, [], .padd (.t 2) 0⟩, ⟨(some 19), none, [0], .loadE (.t 18) 1 false⟩, ⟨(some 20), none, [1], .pcall 48 [(.t 19)]⟩, ⟨(some 21), none, [], .copy (.t 1)⟩, ⟨(some 22), none, [], .padd (.t 2) 2⟩, ⟨(some 23), none, [4], .loadE (.t 22) 1 false⟩, ⟨(some 24), none, [3, 5], .bin .mul (.t 21) (.t 23)⟩, ⟨(some 25), none, [2, 6], .bin .sub (.t 20) (.t 24)⟩, ⟨(some 26), none, [7], .mm true [(.c (i 0)), (.t 25)]⟩, ⟨(some 4), none, [8, 2, 0, 1, 2, 3, 4, 5, 6, 7, 8], .copy (.t 26)⟩])
 .ret)))
theorem is60 : FnIs Tryz.prog (z60 ++ pures) 60 n60 c60 r60 := ⟨⟨Tryz.f60, Tryz.f60.body.getD .skip, by kernel_rfl, by kernel_rfl, by kernel_rfl, by kernel_rfl, by kernel_rfl, by kernel_rfl⟩⟩
-- 61
def z61 : List Nat := [1000001, 1000003, 1000008, 1000012, 1000014, 1000021, 1000023, 1000032, 1000037]
def n61 : Nat := 42
def r61 : List RV := [.tmp 2]
def c61 : PCode :=
 (.seq (.reg false [⟨(some 1), none, [], .boxF (.t 0)⟩, ⟨(some 2), none, [], .copy (.c (bo false))⟩])
 (.seq (.seq (.reg false [⟨(some 3), none, [], .padd (.t 1) 0⟩, ⟨(some 4), none, [0], .loadE (.t 3) 1 false⟩])
 (.block 0 (.seq (.seq (.reg false [⟨(some 6), none, [], .bin .eql (.t 4) (.c (i 1))⟩, ⟨(some 5), none, [0], .copy (.t 6)⟩])
 (.cond (.t 5) .skip (.reg false [⟨(some 7), none, [], .bin .eql (.t 4) (.c (i 2))⟩, ⟨(some 5), none, [0], .copy (.t 7)⟩])))
 (.cond (.t 5) (.seq (.reg true [⟨(some 8), none, [], .padd (.t 1) 1⟩, ⟨(some 9), none, [0], .loadE (.t 8) 1 false⟩, ⟨(some 10), none, [1], .bin .geq (.t 9) (.c (i 0))⟩, ⟨(some 11), none, [2], .copy (.t 10)⟩, ⟨(some 12), (some (11, true)), [3], .padd (.t 1) 1⟩, ⟨(some 13), (some (11, true)), [4, 3], .loadE (.t 12) 1 false⟩, ⟨(some 14), (some (11, true)), [3], .padd (.t 1) 0⟩, ⟨(some 15), (some (11, true)), [6, 3], .loadE (.t 14) 1 false⟩, ⟨(some 16), (some (11, true)), [7, 3, 3], .pcall 48 [(.t 15)]⟩, ⟨(some 17), (some (11, true)), [5, 8, 3], .bin .leq (.t 13) (.t 16)⟩, ⟨(some 18), none, [3, 9], .pick (.t 11) (.t 17) (.c (bo false))⟩, ⟨(some 19), none, [10, 8], .copy (.t 18)⟩, ⟨(some 20), (some (19, true)), [11], .loadE (.t 1) 5 true⟩, ⟨(some 21), (some (19, true)), [11], .padd (.t 1) 0⟩, ⟨(some 22), (some (19, true)), [13, 11], .loadE (.t 21) 1 false⟩, ⟨(some 23), (some (19, true)), [11], .padd (.t 1) 1⟩, ⟨(some 24), (some (19, true)), [15, 11], .loadE (.t 23) 1 false⟩, ⟨(some 25), (some (19, true)), [11], .loadE (.t 1) 5 true⟩, ⟨(some 26), (some (19, true)), [17, 11, 11], .pcall 74 [(.t 25)]⟩, ⟨(some 27), (some (19, true)), [14, 16, 18, 18, 11], .pcall 82 [(.t 22), (.t 24), (.t 26)]⟩, ⟨(some 28), (some (19, true)), [12, 19, 11], .eqv false [1, 1, 1, 1, 2] (.t 20) (.t 27)⟩, ⟨(some 29), none, [11, 20], .pick (.t 19) (.t 28) (.c (bo false))⟩, ⟨(some 2), none, [21, 19, 0, 1, 2, 3, 4, 5, 6, 7, 8, 9, 10, 11, 12, 13, 14, 15, 16, 17, 18, 19, 20, 21], .copy (.t 29)⟩])
 .ret) (.seq (.reg false [⟨(some 31), none, [], .bin .eql (.t 4) (.c (i 3))⟩, ⟨(some 30), none, [0], .copy (.t 31)⟩])
 (.cond (.t 30) (.seq (.reg true [⟨(some 32), none, [], .padd (.t 1) 4⟩, ⟨(some 33), none, [0], .loadE (.t 32) 1 false⟩, ⟨(some 34), none, [1], .pcall 83 [(.t 33)]⟩, ⟨(some 35), none, [2, 2], .copy (.t 34)⟩, ⟨(some 36), (some (35, true)), [3], .loadE (.t 1) 5 true⟩, ⟨(some 37), (some (35, true)), [3], .padd (.t 1) 4⟩, ⟨(some 38), (some (35, true)), [5, 3], .loadE (.t 37) 1 false⟩, ⟨(some 39), (some (35, true)), [6, 3, 3], .pcall 84 [(.t 38)]⟩, ⟨(some 40), (some (35, true)), [4, 7, 3], .eqv false [1, 1, 1, 1, 2] (.t 36) (.t 39)⟩, ⟨(some 41), none, [3, 8], .pick (.t 35) (.t 40) (.c (bo false))⟩, ⟨(some 2), none, [9, 7, 0, 1, 2, 3, 4, 5, 6, 7, 8, 9], .copy (.t 41)⟩])
 .ret) .skip))))))
 (.seq (.reg false [⟨(some 2), none, [], .copy (.c (bo false))⟩])
 .ret)))
theorem is61 : FnIs Tryz.prog (z61 ++ pures) 61 n61 c61 r61 := ⟨⟨Tryz.f61, Tryz.f61.body.getD .skip, by kernel_rfl, by kernel_rfl, by kernel_rfl, by kernel_rfl, by kernel_rfl, by kernel_rfl⟩⟩
-- 62
def z62 : List Nat := [1000002]
def n62 : Nat := 20
def r62 : List RV := [.tmp 4]
def c62 : PCode :=
 (.seq (.reg false [⟨(some 2), none, [], .boxF (.t 0)⟩, ⟨(some 4), none, [], .copy (.c (i 0))⟩])
 (.seq (.reg false [⟨(some 6), none, [], .loadE (.t 2) 3 true⟩, ⟨(some 7), none, [0], .pcall 33 [(.t 6)]⟩, ⟨(some 5), none, [1, 1, 0, 1], .take 7⟩])
 (.seq (.seq (.reg false [⟨(some 8), none, [], .copy (.t 1)⟩, ⟨(some 9), none, [0], .bin .lss (.t 8) (.c (i 0))⟩, ⟨(some 10), none, [1], .copy (.t 9)⟩, ⟨(some 11), (some (10, false)), [2], .copy (.t 1)⟩, ⟨(some 12), (some (10, false)), [2], .copy (.t 5)⟩, ⟨(some 13), (some (10, false)), [4, 2], .len (.t 12)⟩, ⟨(some 14), (some (10, false)), [3, 5, 2], .bin .geq (.t 11) (.t 13)⟩, ⟨(some 15), none, [2, 6], .pick (.t 10) (.c (bo true)) (.t 14)⟩])
 (.cond (.t 15) (.seq (.reg false [⟨(some 4), none, [], .copy (.c (i (-1)))⟩])
 .ret) .skip))
 (.seq (.reg false [⟨(some 16), none, [], .copy (.t 5)⟩, ⟨(some 17), none, [], .copy (.t 1)⟩, ⟨(some 18), none, [0, 1], .pidxS (.t 16) (.t 17) 1⟩, ⟨(some 19), none, [2], .load (.t 18) 1 false⟩, ⟨(some 4), none, [3, 0, 1, 2, 3], .copy (.t 19)⟩])
 .ret))))
theorem is62 : FnIs Tryz.prog (z62 ++ pures) 62 n62 c62 r62 := ⟨⟨Tryz.f62, Tryz.f62.body.getD .skip, by kernel_rfl, by kernel_rfl, by kernel_rfl, by kernel_rfl, by kernel_rfl, by kernel_rfl⟩⟩
-- 63
def z63 : List Nat := [1000001]
def n63 : Nat := 11
def r63 : List RV := [.tmp 2]
def c63 : PCode :=
 (.seq (.reg false [⟨(some 1), none, [], .boxF (.t 0)⟩, ⟨(some 2), none, [], .copy (.c (bo false))⟩])
 (.seq (.reg false [⟨(some 6), none, [], .loadE (.t 1) 5 true⟩, ⟨(some 7), none, [0], .pcall 85 [(.t 6)]⟩, ⟨(some 5), none, [1], .copy (.t 7)⟩, ⟨(some 8), none, [2], .ext (.t 5) 0⟩, ⟨(some 9), none, [2], .ext (.t 5) 1⟩, ⟨(some 3), none, [3, 1, 0, 1, 2, 3], .take 8⟩, ⟨(some 4), none, [4, 5, 0, 1, 2, 3, 4, 5], .copy (.t 9)⟩])
 (.seq (.reg false [⟨(some 10), none, [], .copy (.t 4)⟩, ⟨(some 2), none, [0, 0], .copy (.t 10)⟩])
 .ret)))
theorem is63 : FnIs Tryz.prog (z63 ++ pures) 63 n63 c63 r63 := ⟨⟨Tryz.f63, Tryz.f63.body.getD .skip, by kernel_rfl, by kernel_rfl, by kernel_rfl, by kernel_rfl, by kernel_rfl, by kernel_rfl⟩⟩
-- 64
def z64 : List Nat := [1000002, 1000005, 1000012, 1000020, 1000027, 1000035, 1000042, 1000049, 1000006, 1000013, 1000021, 1000028, 1000036, 1000043, 1000050, 1000003, 1000008, 1000015, 1000023, 1000030, 1000038, 1000045, 1000052, 1000009, 1000016, 1000024, 1000031, 1000039, 1000046, 1000053]
def n64 : Nat := 56
def r64 : List RV := [.tmp 4]
def c64 : PCode :=
 (.seq (.reg false [⟨(some 2), none, [], .boxF (.t 0)⟩, ⟨(some 3), none, [], .boxF (.t 1)⟩, ⟨(some 4), none, [], .copy (.c (i 0))⟩])
 (.seq (.seq (.reg false [⟨(some 5), none, [], .padd (.t 2) 0⟩, ⟨(some 6), none, [0], .pidxA (.t 5) (.c (i 0)) 2 1⟩, ⟨(some 7), none, [1], .loadE (.t 6) 1 false⟩, ⟨(some 8), none, [], .padd (.t 3) 0⟩, ⟨(some 9), none, [3], .pidxA (.t 8) (.c (i 0)) 2 1⟩, ⟨(some 10), none, [4], .loadE (.t 9) 1 false⟩, ⟨(some 11), none, [2, 5], .bin .neq (.t 7) (.t 10)⟩])
 (.cond (.t 11) (.seq (.reg false [⟨(some 12), none, [], .padd (.t 2) 0⟩, ⟨(some 13), none, [0], .pidxA (.t 12) (.c (i 0)) 2 1⟩, ⟨(some 14), none, [1], .loadE (.t 13) 1 false⟩, ⟨(some 15), none, [], .padd (.t 3) 0⟩, ⟨(some 16), none, [3], .pidxA (.t 15) (.c (i 0)) 2 1⟩, ⟨(some 17), none, [4], .loadE (.t 16) 1 false⟩, ⟨(some 18), none, [2, 5], .bin .lss (.t 14) (.t 17)⟩, ⟨(some 19), none, [6], .pcall 86 [(.t 18)]⟩, ⟨(some 4), none, [7, 7, 0, 1, 2, 3, 4, 5, 6, 7], .copy (.t 19)⟩])
 .ret) .skip))
 (.seq (.seq (.reg false [⟨(some 20), none, [], .padd (.t 2) 0⟩, ⟨(some 21), none, [0], .pidxA (.t 20) (.c (i 1)) 2 1⟩, ⟨(some 22), none, [1], .loadE (.t 21) 1 false⟩, ⟨(some 23), none, [], .padd (.t 3) 0⟩, ⟨(some 24), none, [3], .pidxA (.t 23) (.c (i 1)) 2 1⟩, ⟨(some 25), none, [4], .loadE (.t 24) 1 false⟩, ⟨(some 26), none, [2, 5], .bin .neq (.t 22) (.t 25)⟩])
 (.cond (.t 26) (.seq (.reg false [⟨(some 27), none, [], .padd (.t 2) 0⟩, ⟨(some 28), none, [0], .pidxA (.t 27) (.c (i 1)) 2 1⟩, ⟨(some 29), none, [1], .loadE (.t 28) 1 false⟩, ⟨(some 30), none, [], .padd (.t 3) 0⟩, ⟨(some 31), none, [3], .pidxA (.t 30) (.c (i 1)) 2 1⟩, ⟨(some 32), none, [4], .loadE (.t 31) 1 false⟩, ⟨(some 33), none, [2, 5], .bin .lss (.t 29) (.t 32)⟩, ⟨(some 34), none, [6], .pcall 86 [(.t 33)]⟩, ⟨(some 4), none, [7, 7, 0, 1, 2, 3, 4, 5, 6, 7], .copy (.t 34)⟩])
 .ret) .skip))
 (.seq (.seq (.reg false [⟨(some 35), none, [], .padd (.t 2) 2⟩, ⟨(some 36), none, [0], .pidxA (.t 35) (.c (i 0)) 2 5⟩, ⟨(some 37), none, [1], .loadE (.t 36) 5 true⟩, ⟨(some 38), none, [], .padd (.t 3) 2⟩, ⟨(some 39), none, [3], .pidxA (.t 38) (.c (i 0)) 2 5⟩, ⟨(some 40), none, [4], .loadE (.t 39) 5 true⟩, ⟨(some 41), none, [2, 5], .eqv true [1, 1, 1, 1, 2] (.t 37) (.t 40)⟩])
 (.cond (.t 41) (.seq (.reg false [⟨(some 42), none, [], .padd (.t 2) 2⟩, ⟨(some 43), none, [0], .pidxA (.t 42) (.c (i 0)) 2 5⟩, ⟨(some 44), none, [1], .loadE (.t 43) 5 true⟩, ⟨(some 45), none, [], .padd (.t 3) 2⟩, ⟨(some 46), none, [3], .pidxA (.t 45) (.c (i 0)) 2 5⟩, ⟨(some 47), none, [4], .loadE (.t 46) 5 true⟩, ⟨(some 48), none, [2, 5], .pcall 87 [(.t 44), (.t 47)]⟩, ⟨(some 4), none, [6, 6, 0, 1, 2, 3, 4, 5, 6], .copy (.t 48)⟩])
 .ret) .skip))
 (.seq (.reg false [⟨(some 49), none, [], .padd (.t 2) 2⟩, ⟨(some 50), none, [0], .pidxA (.t 49) (.c (i 1)) 2 5⟩, ⟨(some 51), none, [1], .loadE (.t 50) 5 true⟩, ⟨(some 52), none, [], .padd (.t 3) 2⟩, ⟨(some 53), none, [3], .pidxA (.t 52) (.c (i 1)) 2 5⟩, ⟨(some 54), none, [4], .loadE (.t 53) 5 true⟩, ⟨(some 55), none, [2, 5], .pcall 87 [(.t 51), (.t 54)]⟩, ⟨(some 4), none, [6, 6, 0, 1, 2, 3, 4, 5, 6], .copy (.t 55)⟩])
 .ret)))))
theorem is64 : FnIs Tryz.prog (z64 ++ pures) 64 n64 c64 r64 := ⟨⟨Tryz.f64, Tryz.f64.body.getD .skip, by kernel_rfl, by kernel_rfl, by kernel_rfl, by kernel_rfl, by kernel_rfl, by kernel_rfl⟩⟩
-- 65
def z65 : List Nat := [1000003, 1000019, 1000039, 1000040, 1000004, 1000025, 1000035, 1000043, 1000026, 1000036, 1000044, 1000005, 1000029, 1000047, 1000030, 1000048]
def n65 : Nat := 53
def r65 : List RV := [.tmp 6]
def c65 : PCode :=
 (.seq (.reg false [⟨(some 3), none, [], .boxF (.t 0)⟩, ⟨(some 4), none, [], .boxF (.t 1)⟩, ⟨(some 5), none, [], .boxF (.t 2)⟩, ⟨(some 6), none, [], .copy (.c (bo false))⟩])
 (.seq (.seq (.reg false [⟨(some 8), none, [], .loadE (.t 3) 7 true⟩, ⟨(some 9), none, [], .loadE (.t 4) 12 true⟩, ⟨(some 10), none, [0, 1], .pcall 25 [(.t 8), (.t 9)]⟩, ⟨(some 11), none, [2], .un .not (.t 10)⟩, ⟨(some 12), none, [3, 2], .copy (.t 11)⟩, ⟨(some 13), (some (12, false)), [4], .loadE (.t 3) 7 true⟩, ⟨(some 14), (some (12, false)), [4], .loadE (.t 5) 12 true⟩, ⟨(some 15), (some (12, false)), [5, 6, 4, 4], .pcall 25 [(.t 13), (.t 14)]⟩, ⟨(some 16), (some (12, false)), [7, 4], .un .not (.t 15)⟩, ⟨(some 17), none, [4, 8], .pick (.t 12) (.c (bo true)) (.t 16)⟩])
 (.cond (.t 17) (.seq (.reg false [⟨(some 6), none, [], .copy (.c (bo false))⟩])
 .ret) .skip))
 (.seq (.seq (.reg false [⟨(some 7), none, [], .copy (.c (i 0))⟩])
 (.block 0 (.loop (.seq (.seq (.reg false [⟨(some 18), none, [], .copy (.t 7)⟩, ⟨(some 19), none, [], .padd (.t 3) 0⟩, ⟨(some 20), none, [1], .loadE (.t 19) 1 false⟩, ⟨(some 21), none, [0, 2], .bin .lss (.t 18) (.t 20)⟩])
 (.cond (.t 21) .skip (.exit 0)))
 (.seq (.block 1 (.seq (.reg true [⟨(some 24), none, [], .copy (.t 7)⟩, ⟨(some 25), none, [], .padd (.t 4) 0⟩, ⟨(some 26), none, [1, 0], .pidxA (.t 25) (.t 24) 2 1⟩, ⟨(some 27), none, [2], .loadE (.t 26) 1 false⟩, ⟨(some 28), none, [], .copy (.t 7)⟩, ⟨(some 29), none, [], .padd (.t 5) 0⟩, ⟨(some 30), none, [5, 4], .pidxA (.t 29) (.t 28) 2 1⟩, ⟨(some 31), none, [6], .loadE (.t 30) 1 false⟩, ⟨(some 32), none, [3, 7], .bin .lss (.t 27) (.t 31)⟩, ⟨(some 33), none, [8], .copy (.t 32)⟩, ⟨(some 34), (some (33, false)), [9], .copy (.t 7)⟩, ⟨(some 35), (some (33, false)), [9], .padd (.t 4) 2⟩, ⟨(some 36), (some (33, false)), [11, 10, 9], .pidxA (.t 35) (.t 34) 2 5⟩, ⟨(some 37), (some (33, false)), [12, 9], .loadE (.t 36) 5 true⟩, ⟨(some 38), (some (33, false)), [9], .copy (.t 7)⟩, ⟨(some 39), (some (33, false)), [9], .padd (.t 3) 1⟩, ⟨(some 40), (some (33, false)), [15, 14, 9], .pidxA (.t 39) (.t 38) 2 3⟩, ⟨(some 41), (some (33, false)), [16, 9], .loadE (.t 40) 3 true⟩, ⟨(some 42), (some (33, false)), [9], .copy (.t 7)⟩, ⟨(some 43), (some (33, false)), [9], .padd (.t 4) 0⟩, ⟨(some 44), (some (33, false)), [19, 18, 9], .pidxA (.t 43) (.t 42) 2 1⟩, ⟨(some 45), (some (33, false)), [20, 9], .loadE (.t 44) 1 false⟩, ⟨(some 46), (some (33, false)), [9], .copy (.t 7)⟩, ⟨(some 47), (some (33, false)), [9], .padd (.t 5) 2⟩, ⟨(some 48), (some (33, false)), [23, 22, 9], .pidxA (.t 47) (.t 46) 2 5⟩, ⟨(some 49), (some (33, false)), [24, 9], .loadE (.t 48) 5 true⟩, ⟨(some 50), (some (33, false)), [17, 21, 25, 9, 9], .pcall 88 [(.t 41), (.t 45), (.t 49)]⟩, ⟨(some 51), (some (33, false)), [13, 26, 9], .eqv true [1, 1, 1, 1, 2] (.t 37) (.t 50)⟩, ⟨(some 52), none, [9, 27], .pick (.t 33) (.c (bo true)) (.t 51)⟩])
 (.cond (.t 52) (.seq (.reg false [⟨(some 6), none, [], .copy (.c (bo false))⟩])
 .ret) .skip)))
 (.reg false [⟨(some 22), none, [], .copy (.t 7)⟩, ⟨(some 23), none, [0], .bin .add (.t 22) (.c (i 1))⟩, ⟨(some 7), none, [1, 0, 1], .copy (.t 23)⟩]))))))
 (.seq (.reg false [⟨(some 6), none, [], .copy (.c (bo true))⟩])
 .ret))))
theorem is65 : FnIs Tryz.prog (z65 ++ pures) 65 n65 c65 r65 := ⟨⟨Tryz.f65, Tryz.f65.body.getD .skip, by kernel_rfl, by kernel_rfl, by kernel_rfl, by kernel_rfl, by kernel_rfl, by kernel_rfl⟩⟩
-- 66
def z66 : List Nat := [1000001, 1000011, 1000015, 1000012, 1000016]
def n66 : Nat := 51
def r66 : List RV := [.tmp 2]
def c66 : PCode :=
 (.seq (.reg false [⟨(some 1), none, [], .boxF (.t 0)⟩, ⟨(some 2), none, [], .copy (.c (.slc true []))⟩])
 (.seq (.reg false [⟨(some 3), none, [], .copy (.c (.slc true []))⟩])
 (.seq (.seq (.reg false [⟨(some 8), none, [], .loadE (.t 1) 7 true⟩, ⟨(some 9), none, [0], .pcall 5 [(.t 8)]⟩, ⟨(some 10), none, [1], .un .not (.t 9)⟩])
 (.cond (.t 10) (.seq (.reg false [⟨(some 2), none, [], .copy (.c (.slc true []))⟩])
 .ret) .skip))
 (.seq (.reg false [⟨(some 11), none, [], .padd (.t 1) 1⟩, ⟨(some 12), none, [0], .pidxA (.t 11) (.c (i 0)) 2 3⟩, ⟨(some 13), none, [1], .loadE (.t 12) 3 true⟩, ⟨(some 14), none, [2], .pcall 89 [(.t 13)]⟩, ⟨(some 4), none, [3, 3, 0, 1, 2, 3], .copy (.t 14)⟩])
 (.seq (.reg false [⟨(some 15), none, [], .padd (.t 1) 1⟩, ⟨(some 16), none, [0], .pidxA (.t 15) (.c (i 1)) 2 3⟩, ⟨(some 17), none, [1], .loadE (.t 16) 3 true⟩, ⟨(some 18), none, [2], .pcall 89 [(.t 17)]⟩, ⟨(some 5), none, [3, 3, 0, 1, 2, 3], .copy (.t 18)⟩])
 (.seq (.seq (.reg false [⟨(some 6), none, [], .copy (.c (i 0))⟩])
 (.block 0 (.loop (.seq (.seq (.reg false [⟨(some 19), none, [], .copy (.t 6)⟩, ⟨(some 20), none, [], .copy (.t 4)⟩, ⟨(some 21), none, [], .copy (.t 5)⟩, ⟨(some 22), none, [1, 2], .bin .add (.t 20) (.t 21)⟩, ⟨(some 23), none, [0, 3], .bin .leq (.t 19) (.t 22)⟩])
 (.cond (.t 23) .skip (.exit 0)))
 (.seq (.block 1 (.seq (.reg false [⟨(some 7), none, [], .copy (.c (i 0))⟩])
 (.block 2 (.loop (.seq (.seq (.reg false [⟨(some 26), none, [], .copy (.t 7)⟩, ⟨(some 27), none, [], .copy (.t 4)⟩, ⟨(some 28), none, [0, 1], .bin .leq (.t 26) (.t 27)⟩])
 (.cond (.t 28) .skip (.exit 2)))
 (.seq (.block 3 (.seq (.reg false [⟨(some 31), none, [], .copy (.t 6)⟩, ⟨(some 32), none, [], .copy (.t 7)⟩, ⟨(some 33), none, [0, 1], .bin .sub (.t 31) (.t 32)⟩, ⟨(some 34), none, [2], .bin .geq (.t 33) (.c (i 0))⟩, ⟨(some 35), none, [3], .copy (.t 34)⟩, ⟨(some 36), (some (35, true)), [4], .copy (.t 6)⟩, ⟨(some 37), (some (35, true)), [4], .copy (.t 7)⟩, ⟨(some 38), (some (35, true)), [5, 6, 4], .bin .sub (.t 36) (.t 37)⟩, ⟨(some 39), (some (35, true)), [4], .copy (.t 5)⟩, ⟨(some 40), (some (35, true)), [7, 8, 4], .bin .leq (.t 38) (.t 39)⟩, ⟨(some 41), none, [4, 9], .pick (.t 35) (.t 40) (.c (bo false))⟩])
 (.cond (.t 41) (.reg false [⟨(some 42), none, [], .take 3⟩, ⟨(some 43), none, [], .copy (.t 7)⟩, ⟨(some 44), none, [], .copy (.t 6)⟩, ⟨(some 45), none, [], .copy (.t 7)⟩, ⟨(some 46), none, [2, 3], .bin .sub (.t 44) (.t 45)⟩, ⟨(some 47), none, [1, 4], .build [(i 0), (i 0)] [(0, 1, (.t 43)), (1, 1, (.t 46))]⟩, ⟨(some 48), none, [5], .bslice 2 [(.t 47)]⟩, ⟨(some 49), none, [0, 6], .append 42 (.t 48) 2 16⟩, ⟨(some 3), none, [7, 7, 0, 1, 2, 3, 4, 5, 6, 7], .take 49⟩]) .skip)))
 (.reg false [⟨(some 29), none, [], .copy (.t 7)⟩, ⟨(some 30), none, [0], .bin .add (.t 29) (.c (i 1))⟩, ⟨(some 7), none, [1, 0, 1], .copy (.t 30)⟩])))))))
 (.reg false [⟨(some 24), none, [], .copy (.t 6)⟩, ⟨(some 25), none, [0], .bin .add (.t 24) (.c (i 1))⟩, ⟨(some 6), none, [1, 0, 1], .copy (.t 25)⟩]))))))
 (.seq (.reg false [⟨(some 50), none, [], .copy (.t 3)⟩, ⟨(some 2), none, [0, 0], .take 50⟩])
 .ret)))))))
theorem is66 : FnIs Tryz.prog (z66 ++ pures) 66 n66 c66 r66 := ⟨⟨Tryz.f66, Tryz.f66.body.getD .skip, by kernel_rfl, by kernel_rfl, by kernel_rfl, by kernel_rfl, by kernel_rfl, by kernel_rfl⟩⟩
-- 67
def z67 : List Nat := [1000003, 1000017, 1000018, 1000004, 1000024, 1000025, 1000005, 1000021]
def n67 : Nat := 37
def r67 : List RV := [.cell 6 12 true]
def c67 : PCode :=
 (.seq (.reg false [⟨(some 3), none, [], .boxF (.t 0)⟩, ⟨(some 4), none, [], .boxF (.t 1)⟩, ⟨(some 5), none, [], .boxF (.t 2)⟩, ⟨(some 6), none, [], .alloc [(i 0), (i 0), (i 0), (i 0), (u 0), (u 0), (tx []), (i 0), (i 0), (u 0), (u 0), (tx [])]⟩])
 (.seq (.reg false [⟨(some 9), none, [], .loadE (.t 5) 2 true⟩, ⟨(some 10), none, [0], .build [(i 0), (i 0), (i 0), (i 0), (u 0), (u 0), (tx []), (i 0), (i 0), (u 0), (u 0), (tx [])] [(0, 2, (.t 9))]⟩, ⟨(some 7), none, [], .alloc [(i 0), (i 0), (i 0), (i 0), (u 0), (u 0), (tx []), (i 0), (i 0), (u 0), (u 0), (tx [])]⟩, ⟨none, none, [2, 1, 0, 1, 2], .store (.t 7) (.t 10) 12⟩])
 (.seq (.seq (.reg false [⟨(some 8), none, [], .copy (.c (i 0))⟩])
 (.block 0 (.loop (.seq (.seq (.reg false [⟨(some 11), none, [], .copy (.t 8)⟩, ⟨(some 12), none, [0], .bin .lss (.t 11) (.c (i 2))⟩])
 (.cond (.t 12) .skip (.exit 0)))
 (.seq (.block 1 (.reg true [⟨(some 15), none, [], .copy (.t 8)⟩, ⟨(some 16), none, [], .copy (.t 8)⟩, ⟨(some 17), none, [], .padd (.t 3) 1⟩, ⟨(some 18), none, [2, 1], .pidxA (.t 17) (.t 16) 2 3⟩, ⟨(some 19), none, [3], .loadE (.t 18) 3 true⟩, ⟨(some 20), none, [], .copy (.t 8)⟩, ⟨(some 21), none, [5], .pidxA (.t 5) (.t 20) 2 1⟩, ⟨(some 22), none, [6], .loadE (.t 21) 1 false⟩, ⟨(some 23), none, [], .copy (.t 8)⟩, ⟨(some 24), none, [], .padd (.t 4) 2⟩, ⟨(some 25), none, [9, 8], .pidxA (.t 24) (.t 23) 2 5⟩, ⟨(some 26), none, [10], .loadE (.t 25) 5 true⟩, ⟨(some 27), none, [4, 7, 11], .pcall 88 [(.t 19), (.t 22), (.t 26)]⟩, ⟨(some 28), none, [], .padd (.t 7) 2⟩, ⟨(some 29), none, [13, 0, 0, 1, 2, 3, 4, 5, 6, 7, 8, 9, 10, 11, 12], .pidxA (.t 28) (.t 15) 2 5⟩, ⟨none, none, [14, 12, 12, 0, 1, 2, 3, 4, 5, 6, 7, 8, 9, 10, 11, 12], .store (.t 29) (.t 27) 5⟩]))
 (.reg false [⟨(some 13), none, [], .copy (.t 8)⟩, ⟨(some 14), none, [0], .bin .add (.t 13) (.c (i 1))⟩, ⟨(some 8), none, [1, 0, 1], .copy (.t 14)⟩]))))))
 (.seq (.seq (.reg false [⟨(some 30), none, [], .loadE (.t 3) 7 true⟩, ⟨(some 31), none, [], .load (.t 7) 12 true⟩, ⟨(some 32), none, [], .loadE (.t 4) 12 true⟩, ⟨(some 33), none, [0, 1, 2], .pcall 65 [(.t 30), (.t 31), (.t 32)]⟩, ⟨(some 34), none, [3], .un .not (.t 33)⟩])
 (.cond (.t 34) (.seq (.reg false [⟨(some 35), none, [], .build [(i 0), (i 0), (i 0), (i 0), (u 0), (u 0), (tx []), (i 0), (i 0), (u 0), (u 0), (tx [])] []⟩, ⟨none, none, [0, 0], .store (.t 6) (.t 35) 12⟩])
 .ret) .skip))
 (.seq (.reg false [⟨(some 36), none, [], .load (.t 7) 12 true⟩, ⟨none, none, [0, 0], .store (.t 6) (.t 36) 12⟩])
 .ret)))))
theorem is67 : FnIs Tryz.prog (z67 ++ pures) 67 n67 c67 r67 := ⟨⟨Tryz.f67, Tryz.f67.body.getD .skip, by kernel_rfl, by kernel_rfl, by kernel_rfl, by kernel_rfl, by kernel_rfl, by kernel_rfl⟩⟩
-- 68
def z68 : List Nat := [1000003]
def n68 : Nat := 51
def r68 : List RV := [.tmp 4]
def c68 : PCode :=
 (.seq (.reg false [⟨(some 3), none, [], .boxF (.t 1)⟩, ⟨(some 4), none, [], .copy (.c (.slc true []))⟩])
 (.seq (.reg false [⟨(some 5), none, [], .copy (.c (.slc true []))⟩])
 (.seq (.reg false [⟨(some 6), none, [], .copy (.c (i 0))⟩])
 (.seq (.block 0 (.loop (.seq (.seq (.reg true [⟨(some 7), none, [], .copy (.t 6)⟩, ⟨(some 8), none, [], .copy (.t 0)⟩, ⟨(some 9), none, [1], .len (.t 8)⟩, ⟨(some 10), none, [0, 2], .bin .lss (.t 7) (.t 9)⟩, ⟨(some 11), none, [3], .copy (.t 10)⟩, ⟨(some 12), (some (11, true)), [4], .copy (.t 0)⟩, ⟨(some 13), (some (11, true)), [4], .copy (.t 6)⟩, ⟨(some 14), (some (11, true)), [5, 6, 4], .pidxS (.t 12) (.t 13) 12⟩, ⟨(some 15), (some (11, true)), [7, 4], .load (.t 14) 12 true⟩, ⟨(some 16), (some (11, true)), [4], .loadE (.t 3) 12 true⟩, ⟨(some 17), (some (11, true)), [8, 9, 4, 4], .pcall 64 [(.t 15), (.t 16)]⟩, ⟨(some 18), (some (11, true)), [10, 4], .bin .lss (.t 17) (.c (i 0))⟩, ⟨(some 19), none, [4, 11], .pick (.t 11) (.t 18) (.c (bo false))⟩])
 (.cond (.t 19) .skip (.exit 0)))
 (.block 1 (.seq (.reg false [⟨(some 20), none, [], .take 5⟩, ⟨(some 21), none, [], .copy (.t 0)⟩, ⟨(some 22), none, [], .copy (.t 6)⟩, ⟨(some 23), none, [1, 2], .pidxS (.t 21) (.t 22) 12⟩, ⟨(some 24), none, [3], .load (.t 23) 12 true⟩, ⟨(some 25), none, [4], .bslice 12 [(.t 24)]⟩, ⟨(some 26), none, [0, 5], .append 20 (.t 25) 12 112⟩, ⟨(some 5), none, [6, 6, 0, 1, 2, 3, 4, 5, 6], .take 26⟩])
 (.reg false [⟨(some 27), none, [], .copy (.t 6)⟩, ⟨(some 28), none, [0], .bin .add (.t 27) (.c (i 1))⟩, ⟨(some 6), none, [1, 0, 1], .copy (.t 28)⟩]))))))
 (.seq (.seq (.reg true [⟨(some 29), none, [], .copy (.t 6)⟩, ⟨(some 30), none, [], .copy (.t 0)⟩, ⟨(some 31), none, [1], .len (.t 30)⟩, ⟨(some 32), none, [0, 2], .bin .lss (.t 29) (.t 31)⟩, ⟨(some 33), none, [3], .copy (.t 32)⟩, ⟨(some 34), (some (33, true)), [4], .copy (.t 0)⟩, ⟨(some 35), (some (33, true)), [4], .copy (.t 6)⟩, ⟨(some 36), (some (33, true)), [5, 6, 4], .pidxS (.t 34) (.t 35) 12⟩, ⟨(some 37), (some (33, true)), [7, 4], .load (.t 36) 12 true⟩, ⟨(some 38), (some (33, true)), [4], .loadE (.t 3) 12 true⟩, ⟨(some 39), (some (33, true)), [8, 9, 4], .eqv false [1, 1, 1, 1, 1, 1, 2, 1, 1, 1, 1, 2] (.t 37) (.t 38)⟩, ⟨(some 40), none, [4, 10], .pick (.t 33) (.t 39) (.c (bo false))⟩])
 (.cond (.t 40) (.seq (.reg false [⟨(some 41), none, [], .copy (.t 0)⟩, ⟨(some 4), none, [0, 0], .take 41⟩])
 .ret) .skip))
 (.seq (.reg false [⟨(some 42), none, [], .take 5⟩, ⟨(some 43), none, [], .loadE (.t 3) 12 true⟩, ⟨(some 44), none, [1], .bslice 12 [(.t 43)]⟩, ⟨(some 45), none, [0, 2], .append 42 (.t 44) 12 112⟩, ⟨(some 5), none, [3, 3, 0, 1, 2, 3], .take 45⟩])
 (.seq (.reg false [⟨(some 46), none, [], .take 5⟩, ⟨(some 47), none, [], .copy (.t 0)⟩, ⟨(some 48), none, [], .copy (.t 6)⟩, ⟨(some 49), none, [1, 2], .slice (.t 47) (some (.t 48)) none none 12⟩, ⟨(some 50), none, [0, 3], .append 46 (.t 49) 12 112⟩, ⟨(some 4), none, [4, 4, 0, 1, 2, 3, 4], .take 50⟩])
 .ret)))))))
theorem is68 : FnIs Tryz.prog (z68 ++ pures) 68 n68 c68 r68 := ⟨⟨Tryz.f68, Tryz.f68.body.getD .skip, by kernel_rfl, by kernel_rfl, by kernel_rfl, by kernel_rfl, by kernel_rfl, by kernel_rfl⟩⟩
-- 69
def z69 : List Nat := [1000005]
def n69 : Nat := 13
def r69 : List RV := [.tmp 4]
def c69 : PCode :=
 (.seq (.reg false [⟨(some 2), none, [], .box (.t 0)⟩, ⟨(some 4), none, [], .copy (.c (.slc true []))⟩])
 (.seq (.seq (.reg false [⟨(some 6), none, [], .copy (.t 1)⟩])
 (.block 0 (.rangef (.t 6) [7] (.reg false [⟨(some 5), none, [], .allocF 12⟩, ⟨none, none, [0, 0], .storeF 5 (.t 7) 12⟩])
 (.block 1 (.reg false [⟨(some 8), none, [], .loadT (.t 2)⟩, ⟨(some 9), none, [], .loadE (.t 5) 12 true⟩, ⟨(some 10), none, [1], .bslice 12 [(.t 9)]⟩, ⟨(some 11), none, [0, 2], .append 8 (.t 10) 12 112⟩, ⟨none, none, [3, 3, 0, 1, 2, 3], .storeT (.t 2) 11⟩])))))
 (.seq (.reg false [⟨(some 12), none, [], .load (.t 2) 1 false⟩, ⟨(some 4), none, [0, 0], .take 12⟩])
 .ret)))
theorem is69 : FnIs Tryz.prog (z69 ++ pures) 69 n69 c69 r69 := ⟨⟨Tryz.f69, Tryz.f69.body.getD .skip, by kernel_rfl, by kernel_rfl, by kernel_rfl, by kernel_rfl, by kernel_rfl, by kernel_rfl⟩⟩
-- 72
def z72 : List Nat := []
def n72 : Nat := 6
def r72 : List RV := [.tmp 2]
def c72 : PCode :=
 (.seq (.reg false [⟨(some 2), none, [], .copy (.c (bo false))⟩])
 (.seq (.reg false [⟨(some 3), none, [], .copy (.t 0)⟩, ⟨(some 4), none, [], .copy (.t 0)⟩, ⟨(some 5), none, [0, 1], .bin .neq (.t 3) (.t 4)⟩, ⟨(some 2), none, [2, 0, 1, 2], .copy (.t 5)⟩])
 .ret))
theorem is72 : FnIs Tryz.prog (z72 ++ pures) 72 n72 c72 r72 := ⟨⟨Tryz.f72, Tryz.f72.body.getD .skip, by kernel_rfl, by kernel_rfl, by kernel_rfl, by kernel_rfl, by kernel_rfl, by kernel_rfl⟩⟩
-- 73
def z73 : List Nat := [1000002, 1000005, 1000010, 1000003, 1000007, 1000012]
def n73 : Nat := 17
def r73 : List RV := [.tmp 4]
def c73 : PCode :=
 (.seq (.reg false [⟨(some 2), none, [], .boxF (.t 0)⟩, ⟨(some 3), none, [], .boxF (.t 1)⟩, ⟨(some 4), none, [], .copy (.c (i 0))⟩])
 (.seq (.reg true [⟨(some 5), none, [], .padd (.t 2) 0⟩, ⟨(some 6), none, [0], .loadE (.t 5) 1 false⟩, ⟨(some 7), none, [], .padd (.t 3) 0⟩, ⟨(some 8), none, [2], .loadE (.t 7) 1 false⟩, ⟨(some 9), none, [1, 3], .pcall 100 [(.t 6), (.t 8)]⟩, ⟨(some 10), none, [], .padd (.t 2) 1⟩, ⟨(some 11), none, [5], .loadE (.t 10) 1 false⟩, ⟨(some 12), none, [], .padd (.t 3) 1⟩, ⟨(some 13), none, [7], .loadE (.t 12) 1 false⟩, ⟨(some 14), none, [6, 8, 4], .pcall 100 [(.t 11), (.t 13)]⟩, ⟨(some 15), none, [4, 9], .bslice 1 [(.t 9), (.t 14)]⟩, ⟨(some 16), none, [10, 9], .pcall 53 [(.t 15)]⟩, ⟨(some 4), none, [11, 11, 0, 1, 2, 3, 4, 5, 6, 7, 8, 9, 10, 11], .copy (.t 16)⟩])
 .ret))
theorem is73 : FnIs Tryz.prog (z73 ++ pures) 73 n73 c73 r73 := ⟨⟨Tryz.f73, Tryz.f73.body.getD .skip, by kernel_rfl, by kernel_rfl, by kernel_rfl, by kernel_rfl, by kernel_rfl, by kernel_rfl⟩⟩
-- 74
def z74 : List Nat := [1000001, 1000003, 1000005]
def n74 : Nat := 8
def r74 : List RV := [.cell 2 2 true]
def c74 : PCode :=
 (.seq (.reg false [⟨(some 1), none, [], .boxF (.t 0)⟩, ⟨(some 2), none, [], .alloc [(u 0), (u 0)]⟩])
 (.seq (.reg false [⟨(some 3), none, [], .padd (.t 1) 2⟩, ⟨(some 4), none, [0], .loadE (.t 3) 1 false⟩, ⟨(some 5), none, [], .padd (.t 1) 3⟩, ⟨(some 6), none, [2], .loadE (.t 5) 1 false⟩, ⟨(some 7), none, [1, 3], .build [(u 0), (u 0)] [(0, 1, (.t 4)), (1, 1, (.t 6))]⟩, ⟨none, none, [4, 0, 1, 2, 3, 4], .store (.t 2) (.t 7) 2⟩])
 .ret))
theorem is74 : FnIs Tryz.prog (z74 ++ pures) 74 n74 c74 r74 := ⟨⟨Tryz.f74, Tryz.f74.body.getD .skip, by kernel_rfl, by kernel_rfl, by kernel_rfl, by kernel_rfl, by kernel_rfl, by kernel_rfl⟩⟩
-- 75
def z75 : List Nat := []
def n75 : Nat := 8
def r75 : List RV := [.tmp 4]
def c75 : PCode :=
 (.seq (.reg false [⟨(some 4), none, [], .copy (.c (i 0))⟩])
 (.seq (.reg false [⟨(some 5), none, [], .copy (.t 0)⟩, ⟨(some 6), none, [], .copy (.t 1)⟩, ⟨(some 7), none, [0, 1], .pcall 101 [(.t 5), (.t 6)]⟩, ⟨(some 4), none, [2, 2, 0, 1, 2], .copy (.t 7)⟩])
 .ret))
theorem is75 : FnIs Tryz.prog (z75 ++ pures) 75 n75 c75 r75 := ⟨⟨Tryz.f75, Tryz.f75.body.getD .skip, by kernel_rfl, by kernel_rfl, by kernel_rfl, by kernel_rfl, by kernel_rfl, by kernel_rfl⟩⟩
-- 76
def z76 : List Nat := [1000001, 1000007, 1000011, 1000015]
def n76 : Nat := 18
def r76 : List RV := [.tmp 2]
def c76 : PCode :=
 (.seq (.reg false [⟨(some 1), none, [], .boxF (.t 0)⟩, ⟨(some 2), none, [], .copy (.c (i 0))⟩])
 (.seq (.seq (.reg false [⟨(some 4), none, [], .loadE (.t 1) 3 true⟩, ⟨(some 5), none, [0], .pcall 32 [(.t 4)]⟩, ⟨(some 6), none, [1], .un .not (.t 5)⟩])
 (.cond (.t 6) (.seq (.reg false [⟨(some 2), none, [], .copy (.c (i 0))⟩])
 .ret) .skip))
 (.seq (.reg false [⟨(some 7), none, [], .padd (.t 1) 0⟩, ⟨(some 8), none, [0], .loadE (.t 7) 1 false⟩, ⟨(some 9), none, [1], .pcall 48 [(.t 8)]⟩, ⟨(some 3), none, [2, 2, 0, 1, 2], .copy (.t 9)⟩])
 (.seq (.reg false [⟨(some 10), none, [], .copy (.t 3)⟩, ⟨(some 11), none, [], .padd (.t 1) 2⟩, ⟨(some 12), none, [1], .loadE (.t 11) 1 false⟩, ⟨(some 13), none, [0, 2], .bin .add (.t 10) (.t 12)⟩, ⟨(some 14), none, [3], .bin .sub (.t 13) (.c (i 1))⟩, ⟨(some 15), none, [], .padd (.t 1) 2⟩, ⟨(some 16), none, [5], .loadE (.t 15) 1 false⟩, ⟨(some 17), none, [4, 6], .bin .quo (.t 14) (.t 16)⟩, ⟨(some 2), none, [7, 0, 1, 2, 3, 4, 5, 6, 7], .copy (.t 17)⟩])
 .ret))))
theorem is76 : FnIs Tryz.prog (z76 ++ pures) 76 n76 c76 r76 := ⟨⟨Tryz.f76, Tryz.f76.body.getD .skip, by kernel_rfl, by kernel_rfl, by kernel_rfl, by kernel_rfl, by kernel_rfl, by kernel_rfl⟩⟩
-- 77
def z77 : List Nat := [1000003, 1000016, 1000005, 1000014]
def n77 : Nat := 24
def r77 : List RV := [.cell 6 5 true]
def c77 : PCode :=
 (.seq (.reg false [⟨(some 3), none, [], .boxF (.t 0)⟩, ⟨(some 5), none, [], .boxF (.t 2)⟩, ⟨(some 6), none, [], .alloc [(i 0), (i 0), (u 0), (u 0), (tx [])]⟩])
 (.seq (.reg false [⟨(some 8), none, [], .loadE (.t 3) 3 true⟩, ⟨(some 9), none, [], .copy (.t 1)⟩, ⟨(some 10), none, [0, 1], .pcall 60 [(.t 8), (.t 9)]⟩, ⟨(some 7), none, [2, 2, 0, 1, 2], .copy (.t 10)⟩])
 (.seq (.seq (.reg false [⟨(some 11), none, [], .copy (.t 7)⟩, ⟨(some 12), none, [0], .bin .lss (.t 11) (.c (i 0))⟩, ⟨(some 13), none, [1], .copy (.t 12)⟩, ⟨(some 14), (some (13, false)), [2], .padd (.t 5) 0⟩, ⟨(some 15), (some (13, false)), [3, 2], .loadE (.t 14) 1 false⟩, ⟨(some 16), (some (13, false)), [2], .padd (.t 3) 0⟩, ⟨(some 17), (some (13, false)), [5, 2], .loadE (.t 16) 1 false⟩, ⟨(some 18), (some (13, false)), [4, 6, 2], .bin .neq (.t 15) (.t 17)⟩, ⟨(some 19), none, [2, 7], .pick (.t 13) (.c (bo true)) (.t 18)⟩])
 (.cond (.t 19) (.seq (.reg false [⟨(some 20), none, [], .build [(i 0), (i 0), (u 0), (u 0), (tx [])] []⟩, ⟨none, none, [0, 0], .store (.t 6) (.t 20) 5⟩])
 .ret) .skip))
 (.seq (.reg false [⟨(some 21), none, [], .loadE (.t 5) 5 true⟩, ⟨(some 22), none, [], .copy (.t 7)⟩, ⟨(some 23), none, [0, 1], .pcall 102 [(.t 21), (.t 22)]⟩, ⟨none, none, [2, 2, 0, 1, 2], .store (.t 6) (.t 23) 5⟩])
 .ret))))
theorem is77 : FnIs Tryz.prog (z77 ++ pures) 77 n77 c77 r77 := ⟨⟨Tryz.f77, Tryz.f77.body.getD .skip, by kernel_rfl, by kernel_rfl, by kernel_rfl, by kernel_rfl, by kernel_rfl, by kernel_rfl⟩⟩
-- 78
def z78 : List Nat := [1000001]
def n78 : Nat := 41
def r78 : List RV := []
def c78 : PCode :=
 (.seq (.seq (.reg false [⟨(some 8), none, [], .loadE (.t 1) 7 true⟩, ⟨(some 9), none, [0], .pcall 14 [(.t 8)]⟩, ⟨(some 10), none, [1], .un .not (.t 9)⟩])
 (.cond (.t 10) .ret .skip))
 (.seq (.reg false [⟨(some 3), none, [], .copy (.c (i 0))⟩])
 (.seq (.reg false [⟨(some 11), none, [], .loadE (.t 1) 7 true⟩, ⟨(some 12), none, [0], .pcall 79 [(.t 11)]⟩, ⟨(some 13), none, [1], .bin .add (.t 12) (.c (i 1))⟩, ⟨(some 14), none, [], .copy (.c (i 0))⟩])
 (.block 0 (.loop (.seq (.reg false [⟨(some 15), none, [], .bin .lss (.t 14) (.t 13)⟩])
 (.seq (.cond (.t 15) .skip (.exit 0))
 (.seq (.block 1 (.seq (.reg false [⟨(some 16), none, [], .copy (.t 14)⟩, ⟨(some 4), none, [0, 0], .copy (.t 16)⟩])
 (.seq (.reg false [⟨(some 18), none, [], .loadE (.t 1) 7 true⟩, ⟨(some 19), none, [], .copy (.t 4)⟩, ⟨(some 20), none, [0, 1], .pcall 80 [(.t 18), (.t 19)]⟩, ⟨(some 17), none, [2], .copy (.t 20)⟩, ⟨(some 21), none, [3], .ext (.t 17) 0⟩, ⟨(some 22), none, [3], .ext (.t 17) 1⟩, ⟨(some 5), none, [4, 2, 0, 1, 2, 3, 4], .copy (.t 21)⟩, ⟨(some 6), none, [5, 6, 0, 1, 2, 3, 4, 5, 6], .copy (.t 22)⟩])
 (.seq (.reg false [⟨(some 23), none, [], .copy (.t 5)⟩, ⟨(some 7), none, [0, 0], .copy (.t 23)⟩])
 (.block 2 (.loop (.seq (.seq (.reg false [⟨(some 24), none, [], .copy (.t 7)⟩, ⟨(some 25), none, [], .copy (.t 6)⟩, ⟨(some 26), none, [0, 1], .bin .leq (.t 24) (.t 25)⟩])
 (.cond (.t 26) .skip (.exit 2)))
 (.seq (.block 3 (.seq (.seq (.reg false [⟨(some 29), none, [], .copy (.t 0)⟩, ⟨(some 30), none, [], .copy (.t 3)⟩, ⟨(some 31), none, [], .copy (.t 7)⟩, ⟨(some 32), none, [], .copy (.t 4)⟩, ⟨(some 33), none, [], .copy (.t 7)⟩, ⟨(some 34), none, [3, 4], .bin .sub (.t 32) (.t 33)⟩, ⟨(some 35), none, [2, 5], .build [(i 0), (i 0)] [(0, 1, (.t 31)), (1, 1, (.t 34))]⟩, ⟨(some 36), none, [0, 1, 6], .callv (.t 29) [(.t 30), (.t 35)]⟩, ⟨(some 37), none, [7], .un .not (.t 36)⟩])
 (.cond (.t 37) .ret .skip))
 (.reg false [⟨(some 38), none, [], .copy (.t 3)⟩, ⟨(some 39), none, [0], .bin .add (.t 38) (.c (i 1))⟩, ⟨(some 3), none, [1, 0, 1], .copy (.t 39)⟩])))
 (.reg false [⟨(some 27), none, [], .copy (.t 7)⟩, ⟨(some 28), none, [0], .bin .add (.t 27) (.c (i 1))⟩, ⟨(some 7), none, [1, 0, 1], .copy (.t 28)⟩])))))))))
 (.reg false [⟨(some 40), none, [], .bin .add (.t 14) (.c (i 1))⟩, ⟨(some 14), none, [0], .copy (.t 40)⟩])))))))))
theorem is78 : FnIs Tryz.prog (z78 ++ pures) 78 n78 c78 r78 := ⟨⟨Tryz.f78, Tryz.f78.body.getD .skip, by kernel_rfl, by kernel_rfl, by kernel_rfl, by kernel_rfl, by kernel_rfl, by kernel_rfl⟩⟩
-- 79
def z79 : List Nat := [1000001, 1000003, 1000006, 1000008]
def n79 : Nat := 11
def r79 : List RV := [.tmp 2]
def c79 : PCode :=
 (.seq (.reg false [⟨(some 1), none, [], .boxF (.t 0)⟩, ⟨(some 2), none, [], .copy (.c (i 0))⟩])
 (.seq (.reg false [⟨(some 4), none, [], .loadE (.t 1) 7 true⟩, ⟨(some 5), none, [0], .pcall 103 [(.t 4)]⟩, ⟨(some 3), none, [], .allocF 2⟩, ⟨none, none, [2, 1, 1, 0, 1, 2], .storeF 3 (.t 5) 2⟩])
 (.seq (.reg false [⟨(some 6), none, [], .pidxA (.t 3) (.c (i 0)) 2 1⟩, ⟨(some 7), none, [0], .loadE (.t 6) 1 false⟩, ⟨(some 8), none, [], .pidxA (.t 3) (.c (i 1)) 2 1⟩, ⟨(some 9), none, [2], .loadE (.t 8) 1 false⟩, ⟨(some 10), none, [1, 3], .bin .add (.t 7) (.t 9)⟩, ⟨(some 2), none, [4, 0, 1, 2, 3, 4], .copy (.t 10)⟩])
 .ret)))
theorem is79 : FnIs Tryz.prog (z79 ++ pures) 79 n79 c79 r79 := ⟨⟨Tryz.f79, Tryz.f79.body.getD .skip, by kernel_rfl, by kernel_rfl, by kernel_rfl, by kernel_rfl, by kernel_rfl, by kernel_rfl⟩⟩
-- 80
def z80 : List Nat := [1000002, 1000006, 1000010, 1000015]
def n80 : Nat := 18
def r80 : List RV := [.tmp 4, .tmp 5]
def c80 : PCode :=
 (.seq (.reg false [⟨(some 2), none, [], .boxF (.t 0)⟩, ⟨(some 4), none, [], .copy (.c (i 0))⟩, ⟨(some 5), none, [1], .copy (.c (i 0))⟩])
 (.seq (.reg false [⟨(some 7), none, [], .loadE (.t 2) 7 true⟩, ⟨(some 8), none, [0], .pcall 103 [(.t 7)]⟩, ⟨(some 6), none, [], .allocF 2⟩, ⟨none, none, [2, 1, 1, 0, 1, 2], .storeF 6 (.t 8) 2⟩])
 (.seq (.reg true [⟨(some 9), none, [], .copy (.t 1)⟩, ⟨(some 10), none, [], .pidxA (.t 6) (.c (i 1)) 2 1⟩, ⟨(some 11), none, [1], .loadE (.t 10) 1 false⟩, ⟨(some 12), none, [0, 2], .bin .sub (.t 9) (.t 11)⟩, ⟨(some 13), none, [3], .mm true [(.c (i 0)), (.t 12)]⟩, ⟨(some 14), none, [], .copy (.t 1)⟩, ⟨(some 15), none, [], .pidxA (.t 6) (.c (i 0)) 2 1⟩, ⟨(some 16), none, [6], .loadE (.t 15) 1 false⟩, ⟨(some 17), none, [5, 7], .mm false [(.t 14), (.t 16)]⟩, ⟨(some 4), none, [4, 0, 1, 2, 3, 4], .copy (.t 13)⟩, ⟨(some 5), none, [8, 9, 0, 1, 2, 3, 4, 5, 6, 7, 8, 9], .copy (.t 17)⟩])
 .ret)))
theorem is80 : FnIs Tryz.prog (z80 ++ pures) 80 n80 c80 r80 := ⟨⟨Tryz.f80, Tryz.f80.body.getD .skip, by kernel_rfl, by kernel_rfl, by kernel_rfl, by kernel_rfl, by kernel_rfl, by kernel_rfl⟩⟩
-- 81
def z81 : List Nat := [1000002, 1000003]
def n81 : Nat := 12
def r81 : List RV := [.cell 4 12 true, .tmp 5]
def c81 : PCode :=
 (.seq (.reg false [⟨(some 2), none, [], .boxF (.t 0)⟩, ⟨(some 3), none, [], .boxF (.t 1)⟩, ⟨(some 4), none, [], .alloc [(i 0), (i 0), (i 0), (i 0), (u 0), (u 0), (tx []), (i 0), (i 0), (u 0), (u 0), (tx [])]⟩, ⟨(some 5), none, [], .copy (.c (bo false))⟩])
 (.seq (.seq (.reg false [⟨(some 6), none, [], .loadE (.t 2) 7 true⟩, ⟨(some 7), none, [], .loadE (.t 3) 12 true⟩, ⟨(some 8), none, [0, 1], .pcall 23 [(.t 6), (.t 7)]⟩, ⟨(some 9), none, [2], .un .not (.t 8)⟩])
 (.cond (.t 9) (.seq (.reg false [⟨(some 10), none, [], .build [(i 0), (i 0), (i 0), (i 0), (u 0), (u 0), (tx []), (i 0), (i 0), (u 0), (u 0), (tx [])] []⟩, ⟨none, none, [0, 0], .store (.t 4) (.t 10) 12⟩, ⟨(some 5), none, [1, 0, 1], .copy (.c (bo false))⟩])
 .ret) .skip))
 (.seq (.reg false [⟨(some 11), none, [], .loadE (.t 3) 12 true⟩, ⟨none, none, [0, 0], .store (.t 4) (.t 11) 12⟩, ⟨(some 5), none, [1, 0, 1], .copy (.c (bo true))⟩])
 .ret)))
theorem is81 : FnIs Tryz.prog (z81 ++ pures) 81 n81 c81 r81 := ⟨⟨Tryz.f81, Tryz.f81.body.getD .skip, by kernel_rfl, by kernel_rfl, by kernel_rfl, by kernel_rfl, by kernel_rfl, by kernel_rfl⟩⟩
-- 82
def z82 : List Nat := [1000005, 1000007, 1000013, 1000015]
def n82 : Nat := 18
def r82 : List RV := [.cell 6 5 true]
def c82 : PCode :=
 (.seq (.reg false [⟨(some 5), none, [], .boxF (.t 2)⟩, ⟨(some 6), none, [], .alloc [(i 0), (i 0), (u 0), (u 0), (tx [])]⟩])
 (.seq (.reg false [⟨(some 8), none, [], .loadE (.t 5) 2 true⟩, ⟨(some 9), none, [], .copy (.t 1)⟩, ⟨(some 10), none, [0, 1], .pcall 104 [(.t 8), (.t 9)]⟩, ⟨(some 7), none, [], .allocF 2⟩, ⟨none, none, [3, 2, 2, 0, 1, 2, 3], .storeF 7 (.t 10) 2⟩])
 (.seq (.reg false [⟨(some 11), none, [], .copy (.t 0)⟩, ⟨(some 12), none, [], .copy (.t 1)⟩, ⟨(some 13), none, [], .padd (.t 7) 0⟩, ⟨(some 14), none, [2], .loadE (.t 13) 1 false⟩, ⟨(some 15), none, [], .padd (.t 7) 1⟩, ⟨(some 16), none, [4], .loadE (.t 15) 1 false⟩, ⟨(some 17), none, [0, 1, 3, 5], .build [(i 0), (i 0), (u 0), (u 0), (tx [])] [(0, 1, (.t 11)), (1, 1, (.t 12)), (2, 1, (.t 14)), (3, 1, (.t 16))]⟩, ⟨none, none, [6, 0, 1, 2, 3, 4, 5, 6], .store (.t 6) (.t 17) 5⟩])
 .ret)))
theorem is82 : FnIs Tryz.prog (z82 ++ pures) 82 n82 c82 r82 := ⟨⟨Tryz.f82, Tryz.f82.body.getD .skip, by kernel_rfl, by kernel_rfl, by kernel_rfl, by kernel_rfl, by kernel_rfl, by kernel_rfl⟩⟩
-- 83
def z83 : List Nat := []
def n83 : Nat := 11
def r83 : List RV := [.tmp 2]
def c83 : PCode :=
 (.seq (.reg false [⟨(some 2), none, [], .copy (.c (bo false))⟩])
 (.seq (.reg false [⟨(some 6), none, [], .copy (.t 0)⟩, ⟨(some 7), none, [0], .pcall 105 [(.t 6)]⟩, ⟨(some 5), none, [1], .copy (.t 7)⟩, ⟨(some 8), none, [2], .ext (.t 5) 0⟩, ⟨(some 9), none, [2], .ext (.t 5) 1⟩, ⟨(some 3), none, [3, 1, 0, 1, 2, 3], .take 8⟩, ⟨(some 4), none, [4, 5, 0, 1, 2, 3, 4, 5], .copy (.t 9)⟩])
 (.seq (.reg false [⟨(some 10), none, [], .copy (.t 4)⟩, ⟨(some 2), none, [0, 0], .copy (.t 10)⟩])
 .ret)))
theorem is83 : FnIs Tryz.prog (z83 ++ pures) 83 n83 c83 r83 := ⟨⟨Tryz.f83, Tryz.f83.body.getD .skip, by kernel_rfl, by kernel_rfl, by kernel_rfl, by kernel_rfl, by kernel_rfl, by kernel_rfl⟩⟩
-- 84
def z84 : List Nat := []
def n84 : Nat := 7
def r84 : List RV := [.cell 2 5 true]
def c84 : PCode :=
 (.seq (.reg false [⟨(some 2), none, [], .alloc [(i 0), (i 0), (u 0), (u 0), (tx [])]⟩])
 (.seq (.reg false [⟨(some 3), none, [], .copy (.t 0)⟩, ⟨(some 4), none, [0], .pcall 106 [(.t 3)]⟩, ⟨(some 5), none, [], .copy (.t 0)⟩, ⟨(some 6), none, [1, 2], .build [(i 0), (i 0), (u 0), (u 0), (tx [])] [(0, 1, (.c (i 3))), (1, 1, (.t 4)), (4, 1, (.t 5))]⟩, ⟨none, none, [3, 1, 0, 1, 2, 3], .store (.t 2) (.t 6) 5⟩])
 .ret))
theorem is84 : FnIs Tryz.prog (z84 ++ pures) 84 n84 c84 r84 := ⟨⟨Tryz.f84, Tryz.f84.body.getD .skip, by kernel_rfl, by kernel_rfl, by kernel_rfl, by kernel_rfl, by kernel_rfl, by kernel_rfl⟩⟩
-- 85
def z85 : List Nat := [1000001, 1000009, 1000013, 1000023, 1000028, 1000033, 1000038, 1000043, 1000048, 1000050, 1000056, 1000064, 1000066, 1000072, 1000079, 1000089]
def n85 : Nat := 100
def r85 : List RV := [.tmp 2, .tmp 3]
def c85 : PCode :=
 (.seq (.reg false [⟨(some 1), none, [], .boxF (.t 0)⟩, ⟨(some 2), none, [], .copy (.c (.slc true []))⟩, ⟨(some 3), none, [1], .copy (.c (bo false))⟩])
 (.seq (.seq (.reg false [⟨(some 9), none, [], .padd (.t 1) 0⟩, ⟨(some 10), none, [0], .loadE (.t 9) 1 false⟩, ⟨(some 11), none, [1], .bin .eql (.t 10) (.c (i 3))⟩])
 (.cond (.t 11) (.seq (.reg false [⟨(some 13), none, [], .padd (.t 1) 4⟩, ⟨(some 14), none, [0], .loadE (.t 13) 1 false⟩, ⟨(some 15), none, [1], .pcall 107 [(.t 14)]⟩, ⟨(some 12), none, [2], .copy (.t 15)⟩, ⟨(some 16), none, [3], .ext (.t 12) 0⟩, ⟨(some 17), none, [3], .ext (.t 12) 1⟩, ⟨(some 4), none, [4, 2, 0, 1, 2, 3, 4], .take 16⟩, ⟨(some 5), none, [5, 6, 0, 1, 2, 3, 4, 5, 6], .copy (.t 17)⟩])
 (.seq (.seq (.reg false [⟨(some 18), none, [], .copy (.t 5)⟩, ⟨(some 19), none, [0], .un .not (.t 18)⟩, ⟨(some 20), none, [1], .copy (.t 19)⟩, ⟨(some 21), (some (20, false)), [2], .copy (.t 4)⟩, ⟨(some 22), (some (20, false)), [3, 2], .len (.t 21)⟩, ⟨(some 23), (some (20, false)), [2], .padd (.t 1) 1⟩, ⟨(some 24), (some (20, false)), [5, 2], .loadE (.t 23) 1 false⟩, ⟨(some 25), (some (20, false)), [4, 6, 2], .bin .neq (.t 22) (.t 24)⟩, ⟨(some 26), none, [2, 7], .pick (.t 20) (.c (bo true)) (.t 25)⟩, ⟨(some 27), none, [8, 2], .copy (.t 26)⟩, ⟨(some 28), (some (27, false)), [9], .padd (.t 1) 2⟩, ⟨(some 29), (some (27, false)), [10, 9], .loadE (.t 28) 1 false⟩, ⟨(some 30), (some (27, false)), [11, 9], .bin .neq (.t 29) (.c (u 0))⟩, ⟨(some 31), none, [9, 12], .pick (.t 27) (.c (bo true)) (.t 30)⟩, ⟨(some 32), none, [13, 9], .copy (.t 31)⟩, ⟨(some 33), (some (32, false)), [14], .padd (.t 1) 3⟩, ⟨(some 34), (some (32, false)), [15, 14], .loadE (.t 33) 1 false⟩, ⟨(some 35), (some (32, false)), [16, 14], .bin .neq (.t 34) (.c (u 0))⟩, ⟨(some 36), none, [14, 17], .pick (.t 32) (.c (bo true)) (.t 35)⟩])
 (.cond (.t 36) (.seq (.reg false [⟨(some 2), none, [], .copy (.c (.slc true []))⟩, ⟨(some 3), none, [0, 0], .copy (.c (bo false))⟩])
 .ret) .skip))
 (.seq (.reg false [⟨(some 37), none, [], .copy (.t 4)⟩, ⟨(some 2), none, [0, 0], .take 37⟩, ⟨(some 3), none, [1, 0, 1], .copy (.c (bo true))⟩])
 .ret))) .skip))
 (.seq (.seq (.reg true [⟨(some 38), none, [], .padd (.t 1) 0⟩, ⟨(some 39), none, [0], .loadE (.t 38) 1 false⟩, ⟨(some 40), none, [1], .pcall 49 [(.t 39)]⟩, ⟨(some 41), none, [2], .bin .eql (.t 40) (.c (i 0))⟩, ⟨(some 42), none, [3, 2], .copy (.t 41)⟩, ⟨(some 43), (some (42, false)), [4], .padd (.t 1) 1⟩, ⟨(some 44), (some (42, false)), [5, 4], .loadE (.t 43) 1 false⟩, ⟨(some 45), (some (42, false)), [6, 4], .bin .lss (.t 44) (.c (i 0))⟩, ⟨(some 46), none, [4, 7], .pick (.t 42) (.c (bo true)) (.t 45)⟩, ⟨(some 47), none, [8, 4], .copy (.t 46)⟩, ⟨(some 48), (some (47, false)), [9], .padd (.t 1) 1⟩, ⟨(some 49), (some (47, false)), [10, 9], .loadE (.t 48) 1 false⟩, ⟨(some 50), (some (47, false)), [9], .padd (.t 1) 0⟩, ⟨(some 51), (some (47, false)), [12, 9], .loadE (.t 50) 1 false⟩, ⟨(some 52), (some (47, false)), [13, 9, 9], .pcall 49 [(.t 51)]⟩, ⟨(some 53), (some (47, false)), [11, 14, 9], .bin .gtr (.t 49) (.t 52)⟩, ⟨(some 54), none, [9, 15], .pick (.t 47) (.c (bo true)) (.t 53)⟩, ⟨(some 55), none, [16, 14], .copy (.t 54)⟩, ⟨(some 56), (some (55, false)), [17], .padd (.t 1) 4⟩, ⟨(some 57), (some (55, false)), [18, 17], .loadE (.t 56) 1 false⟩, ⟨(some 58), (some (55, false)), [19, 17], .bin .neq (.t 57) (.c (tx []))⟩, ⟨(some 59), none, [17, 20], .pick (.t 55) (.c (bo true)) (.t 58)⟩])
 (.cond (.t 59) (.seq (.reg false [⟨(some 2), none, [], .copy (.c (.slc true []))⟩, ⟨(some 3), none, [0, 0], .copy (.c (bo false))⟩])
 .ret) .skip))
 (.seq (.reg false [⟨(some 6), none, [], .copy (.c (.slc true []))⟩])
 (.seq (.seq (.reg false [⟨(some 7), none, [], .copy (.c (i 0))⟩])
 (.block 0 (.loop (.seq (.seq (.reg false [⟨(some 60), none, [], .copy (.t 7)⟩, ⟨(some 61), none, [0], .bin .lss (.t 60) (.c (i 128))⟩])
 (.cond (.t 61) .skip (.exit 0)))
 (.seq (.block 1 (.seq (.reg false [⟨(some 64), none, [], .padd (.t 1) 2⟩, ⟨(some 65), none, [0], .loadE (.t 64) 1 false⟩, ⟨(some 66), none, [], .padd (.t 1) 3⟩, ⟨(some 67), none, [2], .loadE (.t 66) 1 false⟩, ⟨(some 68), none, [], .copy (.t 7)⟩, ⟨(some 69), none, [1, 3, 4], .pcall 108 [(.t 65), (.t 67), (.t 68)]⟩, ⟨(some 70), none, [5], .bin .eql (.t 69) (.c (u 1))⟩, ⟨(some 8), none, [6, 5, 0, 1, 2, 3, 4, 5, 6], .copy (.t 70)⟩])
 (.seq (.seq (.reg false [⟨(some 71), none, [], .copy (.t 7)⟩, ⟨(some 72), none, [], .padd (.t 1) 1⟩, ⟨(some 73), none, [1], .loadE (.t 72) 1 false⟩, ⟨(some 74), none, [0, 2], .bin .geq (.t 71) (.t 73)⟩, ⟨(some 75), none, [3], .copy (.t 74)⟩, ⟨(some 76), (some (75, true)), [4], .copy (.t 8)⟩, ⟨(some 77), none, [4, 5], .pick (.t 75) (.t 76) (.c (bo false))⟩])
 (.cond (.t 77) (.seq (.reg false [⟨(some 2), none, [], .copy (.c (.slc true []))⟩, ⟨(some 3), none, [0, 0], .copy (.c (bo false))⟩])
 .ret) .skip))
 (.seq (.seq (.reg false [⟨(some 78), none, [], .copy (.t 7)⟩, ⟨(some 79), none, [], .padd (.t 1) 1⟩, ⟨(some 80), none, [1], .loadE (.t 79) 1 false⟩, ⟨(some 81), none, [0, 2], .bin .lss (.t 78) (.t 80)⟩, ⟨(some 82), none, [3], .copy (.t 81)⟩, ⟨(some 83), (some (82, true)), [4], .copy (.t 8)⟩, ⟨(some 84), none, [4, 5], .pick (.t 82) (.t 83) (.c (bo false))⟩])
 (.cond (.t 84) (.reg false [⟨(some 85), none, [], .take 6⟩, ⟨(some 86), none, [], .bslice 1 [(.c (tx [49]))]⟩, ⟨(some 87), none, [0, 1], .append 85 (.t 86) 1 16⟩, ⟨(some 6), none, [2, 2, 0, 1, 2], .take 87⟩]) .skip))
 (.seq (.reg false [⟨(some 88), none, [], .copy (.t 7)⟩, ⟨(some 89), none, [], .padd (.t 1) 1⟩, ⟨(some 90), none, [1], .loadE (.t 89) 1 false⟩, ⟨(some 91), none, [0, 2], .bin .lss (.t 88) (.t 90)⟩, ⟨(some 92), none, [3], .copy (.t 91)⟩, ⟨(some 93), (some (92, true)), [4], .copy (.t 8)⟩, ⟨(some 94), (some (92, true)), [5, 4], .un .not (.t 93)⟩, ⟨(some 95), none, [4, 6], .pick (.t 92) (.t 94) (.c (bo false))⟩])
 (.cond (.t 95) (.reg false [⟨(some 96), none, [], .take 6⟩, ⟨(some 97), none, [], .bslice 1 [(.c (tx [48]))]⟩, ⟨(some 98), none, [0, 1], .append 96 (.t 97) 1 16⟩, ⟨(some 6), none, [2, 2, 0, 1, 2], .take 98⟩]) .skip))))))
 (.reg false [⟨(some 62), none, [], .copy (.t 7)⟩, ⟨(some 63), none, [0], .bin .add (.t 62) (.c (i 1))⟩, ⟨(some 7), none, [1, 0, 1], .copy (.t 63)⟩]))))))
 (.seq (.reg false [⟨(some 99), none, [], .copy (.t 6)⟩, ⟨(some 2), none, [0, 0], .take 99⟩, ⟨(some 3), none, [1, 0, 1], .copy (.c (bo true))⟩])
 .ret))))))
theorem is85 : FnIs Tryz.prog (z85 ++ pures) 85 n85 c85 r85 := ⟨⟨Tryz.f85, Tryz.f85.body.getD .skip, by kernel_rfl, by kernel_rfl, by kernel_rfl, by kernel_rfl, by kernel_rfl, by kernel_rfl⟩⟩
-- 86
def z86 : List Nat := []
def n86 : Nat := 4
def r86 : List RV := [.tmp 2]
def c86 : PCode :=
 (.seq (.reg false [⟨(some 2), none, [], .copy (.c (i 0))⟩])
 (.seq (.seq (.reg false [⟨(some 3), none, [], .copy (.t 0)⟩])
 (.cond (.t 3) (.seq (.reg false [⟨(some 2), none, [], .copy (.c (i (-1)))⟩])
 .ret) .skip))
 (.seq (.reg false [⟨(some 2), none, [], .copy (.c (i 1))⟩])
 .ret)))
theorem is86 : FnIs Tryz.prog (z86 ++ pures) 86 n86 c86 r86 := ⟨⟨Tryz.f86, Tryz.f86.body.getD .skip, by kernel_rfl, by kernel_rfl, by kernel_rfl, by kernel_rfl, by kernel_rfl, by kernel_rfl⟩⟩
-- 87
def z87 : List Nat := [1000002, 1000008, 1000014, 1000020, 1000026, 1000032, 1000038, 1000044, 1000050, 1000056, 1000003, 1000010, 1000016, 1000022, 1000028, 1000034, 1000040, 1000046, 1000052, 1000058]
def n87 : Nat := 69
def r87 : List RV := [.tmp 4]
def c87 : PCode :=
 (.seq (.reg false [⟨(some 2), none, [], .boxF (.t 0)⟩, ⟨(some 3), none, [], .boxF (.t 1)⟩, ⟨(some 4), none, [], .copy (.c (i 0))⟩])
 (.seq (.seq (.reg false [⟨(some 5), none, [], .loadE (.t 2) 5 true⟩, ⟨(some 6), none, [], .loadE (.t 3) 5 true⟩, ⟨(some 7), none, [0, 1], .eqv false [1, 1, 1, 1, 2] (.t 5) (.t 6)⟩])
 (.cond (.t 7) (.seq (.reg false [⟨(some 4), none, [], .copy (.c (i 0))⟩])
 .ret) .skip))
 (.seq (.seq (.reg false [⟨(some 8), none, [], .padd (.t 2) 0⟩, ⟨(some 9), none, [0], .loadE (.t 8) 1 false⟩, ⟨(some 10), none, [], .padd (.t 3) 0⟩, ⟨(some 11), none, [2], .loadE (.t 10) 1 false⟩, ⟨(some 12), none, [1, 3], .bin .lss (.t 9) (.t 11)⟩, ⟨(some 13), none, [4], .copy (.t 12)⟩, ⟨(some 14), (some (13, false)), [5], .padd (.t 2) 0⟩, ⟨(some 15), (some (13, false)), [6, 5], .loadE (.t 14) 1 false⟩, ⟨(some 16), (some (13, false)), [5], .padd (.t 3) 0⟩, ⟨(some 17), (some (13, false)), [8, 5], .loadE (.t 16) 1 false⟩, ⟨(some 18), (some (13, false)), [7, 9, 5], .bin .eql (.t 15) (.t 17)⟩, ⟨(some 19), (some (13, false)), [10, 5, 5], .copy (.t 18)⟩, ⟨(some 20), (some (19, true)), [11], .padd (.t 2) 2⟩, ⟨(some 21), (some (19, true)), [12, 11], .loadE (.t 20) 1 false⟩, ⟨(some 22), (some (19, true)), [11], .padd (.t 3) 2⟩, ⟨(some 23), (some (19, true)), [14, 11], .loadE (.t 22) 1 false⟩, ⟨(some 24), (some (19, true)), [13, 15, 11], .bin .lss (.t 21) (.t 23)⟩, ⟨(some 25), (some (19, true)), [16, 11, 11], .copy (.t 24)⟩, ⟨(some 26), (some (25, false)), [17], .padd (.t 2) 2⟩, ⟨(some 27), (some (25, false)), [18, 17], .loadE (.t 26) 1 false⟩, ⟨(some 28), (some (25, false)), [17], .padd (.t 3) 2⟩, ⟨(some 29), (some (25, false)), [20, 17], .loadE (.t 28) 1 false⟩, ⟨(some 30), (some (25, false)), [19, 21, 17], .bin .eql (.t 27) (.t 29)⟩, ⟨(some 31), (some (25, false)), [22, 17, 17], .copy (.t 30)⟩, ⟨(some 32), (some (31, true)), [23], .padd (.t 2) 3⟩, ⟨(some 33), (some (31, true)), [24, 23], .loadE (.t 32) 1 false⟩, ⟨(some 34), (some (31, true)), [23], .padd (.t 3) 3⟩, ⟨(some 35), (some (31, true)), [26, 23], .loadE (.t 34) 1 false⟩, ⟨(some 36), (some (31, true)), [25, 27, 23], .bin .lss (.t 33) (.t 35)⟩, ⟨(some 37), (some (31, true)), [28, 23, 23], .copy (.t 36)⟩, ⟨(some 38), (some (37, false)), [29], .padd (.t 2) 3⟩, ⟨(some 39), (some (37, false)), [30, 29], .loadE (.t 38) 1 false⟩, ⟨(some 40), (some (37, false)), [29], .padd (.t 3) 3⟩, ⟨(some 41), (some (37, false)), [32, 29], .loadE (.t 40) 1 false⟩, ⟨(some 42), (some (37, false)), [31, 33, 29], .bin .eql (.t 39) (.t 41)⟩, ⟨(some 43), (some (37, false)), [34, 29, 29], .copy (.t 42)⟩, ⟨(some 44), (some (43, true)), [35], .padd (.t 2) 4⟩, ⟨(some 45), (some (43, true)), [36, 35], .loadE (.t 44) 1 false⟩, ⟨(some 46), (some (43, true)), [35], .padd (.t 3) 4⟩, ⟨(some 47), (some (43, true)), [38, 35], .loadE (.t 46) 1 false⟩, ⟨(some 48), (some (43, true)), [37, 39, 35], .bin .lss (.t 45) (.t 47)⟩, ⟨(some 49), (some (43, true)), [40, 35, 35], .copy (.t 48)⟩, ⟨(some 50), (some (49, false)), [41], .padd (.t 2) 4⟩, ⟨(some 51), (some (49, false)), [42, 41], .loadE (.t 50) 1 false⟩, ⟨(some 52), (some (49, false)), [41], .padd (.t 3) 4⟩, ⟨(some 53), (some (49, false)), [44, 41], .loadE (.t 52) 1 false⟩, ⟨(some 54), (some (49, false)), [43, 45, 41], .bin .eql (.t 51) (.t 53)⟩, ⟨(some 55), (some (49, false)), [46, 41, 41], .copy (.t 54)⟩, ⟨(some 56), (some (55, true)), [47], .padd (.t 2) 1⟩, ⟨(some 57), (some (55, true)), [48, 47], .loadE (.t 56) 1 false⟩, ⟨(some 58), (some (55, true)), [47], .padd (.t 3) 1⟩, ⟨(some 59), (some (55, true)), [50, 47], .loadE (.t 58) 1 false⟩, ⟨(some 60), (some (55, true)), [49, 51, 47], .bin .lss (.t 57) (.t 59)⟩, ⟨(some 61), (some (49, false)), [47, 52, 41], .pick (.t 55) (.t 60) (.c (bo false))⟩, ⟨(some 62), (some (43, true)), [41, 53, 35], .pick (.t 49) (.c (bo true)) (.t 61)⟩, ⟨(some 63), (some (37, false)), [35, 54, 29], .pick (.t 43) (.t 62) (.c (bo false))⟩, ⟨(some 64), (some (31, true)), [29, 55, 23], .pick (.t 37) (.c (bo true)) (.t 63)⟩, ⟨(some 65), (some (25, false)), [23, 56, 17], .pick (.t 31) (.t 64) (.c (bo false))⟩, ⟨(some 66), (some (19, true)), [17, 57, 11], .pick (.t 25) (.c (bo true)) (.t 65)⟩, ⟨(some 67), (some (13, false)), [11, 58, 5], .pick (.t 19) (.t 66) (.c (bo false))⟩, ⟨(some 68), none, [5, 59], .pick (.t 13) (.c (bo true)) (.t 67)⟩])
 (.cond (.t 68) (.seq (.reg false [⟨(some 4), none, [], .copy (.c (i (-1)))⟩])
 .ret) .skip))
 (.seq (.reg false [⟨(some 4), none, [], .copy (.c (i 1))⟩])
 .ret))))
theorem is87 : FnIs Tryz.prog (z87 ++ pures) 87 n87 c87 r87 := ⟨⟨Tryz.f87, Tryz.f87.body.getD .skip, by kernel_rfl, by kernel_rfl, by kernel_rfl, by kernel_rfl, by kernel_rfl, by kernel_rfl⟩⟩
-- 88
def z88 : List Nat := [1000003, 1000021, 1000005, 1000019]
def n88 : Nat := 29
def r88 : List RV := [.cell 6 5 true]
def c88 : PCode :=
 (.seq (.reg false [⟨(some 3), none, [], .boxF (.t 0)⟩, ⟨(some 5), none, [], .boxF (.t 2)⟩, ⟨(some 6), none, [], .alloc [(i 0), (i 0), (u 0), (u 0), (tx [])]⟩])
 (.seq (.reg false [⟨(some 8), none, [], .loadE (.t 3) 3 true⟩, ⟨(some 9), none, [], .copy (.t 1)⟩, ⟨(some 10), none, [0, 1], .pcall 62 [(.t 8), (.t 9)]⟩, ⟨(some 7), none, [2, 2, 0, 1, 2], .copy (.t 10)⟩])
 (.seq (.seq (.reg false [⟨(some 11), none, [], .copy (.t 7)⟩, ⟨(some 12), none, [0], .bin .lss (.t 11) (.c (i 0))⟩, ⟨(some 13), none, [1], .copy (.t 12)⟩, ⟨(some 14), (some (13, false)), [2], .loadE (.t 5) 5 true⟩, ⟨(some 15), (some (13, false)), [3, 2, 2], .pcall 63 [(.t 14)]⟩, ⟨(some 16), (some (13, false)), [4, 2], .un .not (.t 15)⟩, ⟨(some 17), none, [2, 5], .pick (.t 13) (.c (bo true)) (.t 16)⟩, ⟨(some 18), none, [6, 4], .copy (.t 17)⟩, ⟨(some 19), (some (18, false)), [7], .padd (.t 5) 0⟩, ⟨(some 20), (some (18, false)), [8, 7], .loadE (.t 19) 1 false⟩, ⟨(some 21), (some (18, false)), [7], .padd (.t 3) 0⟩, ⟨(some 22), (some (18, false)), [10, 7], .loadE (.t 21) 1 false⟩, ⟨(some 23), (some (18, false)), [9, 11, 7], .bin .neq (.t 20) (.t 22)⟩, ⟨(some 24), none, [7, 12], .pick (.t 18) (.c (bo true)) (.t 23)⟩])
 (.cond (.t 24) (.seq (.reg false [⟨(some 25), none, [], .build [(i 0), (i 0), (u 0), (u 0), (tx [])] []⟩, ⟨none, none, [0, 0], .store (.t 6) (.t 25) 5⟩])
 .ret) .skip))
 (.seq (.reg false [⟨(some 26), none, [], .loadE (.t 5) 5 true⟩, ⟨(some 27), none, [], .copy (.t 7)⟩, ⟨(some 28), none, [0, 1], .pcall 109 [(.t 26), (.t 27)]⟩, ⟨none, none, [2, 2, 0, 1, 2], .store (.t 6) (.t 28) 5⟩])
 .ret))))
theorem is88 : FnIs Tryz.prog (z88 ++ pures) 88 n88 c88 r88 := ⟨⟨Tryz.f88, Tryz.f88.body.getD .skip, by kernel_rfl, by kernel_rfl, by kernel_rfl, by kernel_rfl, by kernel_rfl, by kernel_rfl⟩⟩
-- 89
def z89 : List Nat := [1000001]
def n89 : Nat := 12
def r89 : List RV := [.tmp 2]
def c89 : PCode :=
 (.seq (.reg false [⟨(some 1), none, [], .boxF (.t 0)⟩, ⟨(some 2), none, [], .copy (.c (i 0))⟩])
 (.seq (.reg false [⟨(some 4), none, [], .loadE (.t 1) 3 true⟩, ⟨(some 5), none, [0], .pcall 33 [(.t 4)]⟩, ⟨(some 3), none, [1, 1, 0, 1], .take 5⟩])
 (.seq (.seq (.reg false [⟨(some 6), none, [], .copy (.t 3)⟩, ⟨(some 7), none, [0], .len (.t 6)⟩, ⟨(some 8), none, [1], .bin .eql (.t 7) (.c (i 0))⟩])
 (.cond (.t 8) (.seq (.reg false [⟨(some 2), none, [], .copy (.c (i 0))⟩])
 .ret) .skip))
 (.seq (.reg false [⟨(some 9), none, [], .copy (.t 3)⟩, ⟨(some 10), none, [0], .len (.t 9)⟩, ⟨(some 11), none, [1], .bin .sub (.t 10) (.c (i 1))⟩, ⟨(some 2), none, [2, 0, 1, 2], .copy (.t 11)⟩])
 .ret))))
theorem is89 : FnIs Tryz.prog (z89 ++ pures) 89 n89 c89 r89 := ⟨⟨Tryz.f89, Tryz.f89.body.getD .skip, by kernel_rfl, by kernel_rfl, by kernel_rfl, by kernel_rfl, by kernel_rfl, by kernel_rfl⟩⟩
-- 100
def z100 : List Nat := []
def n100 : Nat := 20
def r100 : List RV := [.tmp 4]
def c100 : PCode :=
 (.seq (.reg false [⟨(some 4), none, [], .copy (.c (i 0))⟩])
 (.seq (.reg false [⟨(some 7), none, [], .copy (.t 0)⟩, ⟨(some 8), none, [0], .pcall 115 [(.t 7)]⟩, ⟨(some 5), none, [1, 1, 0, 1], .copy (.t 8)⟩])
 (.seq (.reg false [⟨(some 9), none, [], .copy (.t 1)⟩, ⟨(some 10), none, [0], .pcall 115 [(.t 9)]⟩, ⟨(some 6), none, [1, 1, 0, 1], .copy (.t 10)⟩])
 (.seq (.seq (.reg false [⟨(some 11), none, [], .copy (.t 5)⟩])
 (.cond (.t 11) (.seq (.seq (.reg false [⟨(some 12), none, [], .copy (.t 6)⟩])
 (.cond (.t 12) (.seq (.reg false [⟨(some 4), none, [], .copy (.c (i 0))⟩])
 .ret) .skip))
 (.seq (.reg false [⟨(some 4), none, [], .copy (.c (i (-1)))⟩])
 .ret)) .skip))
 (.seq (.seq (.reg false [⟨(some 13), none, [], .copy (.t 6)⟩])
 (.cond (.t 13) (.seq (.reg false [⟨(some 4), none, [], .copy (.c (i 1))⟩])
 .ret) .skip))
 (.seq (.seq (.reg false [⟨(some 14), none, [], .copy (.t 0)⟩, ⟨(some 15), none, [], .copy (.t 1)⟩, ⟨(some 16), none, [0, 1], .bin .lss (.t 14) (.t 15)⟩])
 (.cond (.t 16) (.seq (.reg false [⟨(some 4), none, [], .copy (.c (i (-1)))⟩])
 .ret) .skip))
 (.seq (.seq (.reg false [⟨(some 17), none, [], .copy (.t 0)⟩, ⟨(some 18), none, [], .copy (.t 1)⟩, ⟨(some 19), none, [0, 1], .bin .gtr (.t 17) (.t 18)⟩])
 (.cond (.t 19) (.seq (.reg false [⟨(some 4), none, [], .copy (.c (i 1))⟩])
 .ret) .skip))
 (.seq (.reg false [⟨(some 4), none, [], .copy (.c (i 0))⟩])
 .ret))))))))
theorem is100 : FnIs Tryz.prog (z100 ++ pures) 100 n100 c100 r100 := ⟨⟨Tryz.f100, Tryz.f100.body.getD .skip, by kernel_rfl, by kernel_rfl, by kernel_rfl, by kernel_rfl, by kernel_rfl, by kernel_rfl⟩⟩
-- 101
def z101 : List Nat := []
def n101 : Nat := 8
def r101 : List RV := [.tmp 4]
def c101 : PCode :=
 (.seq (.reg false [⟨(some 4), none, [], .copy (.c (i 0))⟩])
 (.seq (.reg false [⟨(some 5), none, [], .copy (.t 0)⟩, ⟨(some 6), none, [], .copy (.t 1)⟩, ⟨(some 7), none, [0, 1], .pcall 116 [(.t 5), (.t 6)]⟩, ⟨(some 4), none, [2, 2, 0, 1, 2], .copy (.t 7)⟩])
 .ret))
theorem is101 : FnIs Tryz.prog (z101 ++ pures) 101 n101 c101 r101 := ⟨⟨Tryz.f101, Tryz.f101.body.getD .skip, by kernel_rfl, by kernel_rfl, by kernel_rfl, by kernel_rfl, by kernel_rfl, by kernel_rfl⟩⟩
-- 102
def z102 : List Nat := [1000002]
def n102 : Nat := 12
def r102 : List RV := [.cell 4 5 true]
def c102 : PCode :=
 (.seq (.reg false [⟨(some 2), none, [], .boxF (.t 0)⟩, ⟨(some 4), none, [], .alloc [(i 0), (i 0), (u 0), (u 0), (tx [])]⟩])
 (.seq (.seq (.reg false [⟨(some 5), none, [], .loadE (.t 2) 5 true⟩, ⟨(some 6), none, [0], .pcall 61 [(.t 5)]⟩, ⟨(some 7), none, [1], .un .not (.t 6)⟩])
 (.cond (.t 7) (.seq (.reg false [⟨(some 8), none, [], .build [(i 0), (i 0), (u 0), (u 0), (tx [])] []⟩, ⟨none, none, [0, 0], .store (.t 4) (.t 8) 5⟩])
 .ret) .skip))
 (.seq (.reg false [⟨(some 9), none, [], .loadE (.t 2) 5 true⟩, ⟨(some 10), none, [], .copy (.t 1)⟩, ⟨(some 11), none, [0, 1], .pcall 117 [(.t 9), (.t 10)]⟩, ⟨none, none, [2, 2, 0, 1, 2], .store (.t 4) (.t 11) 5⟩])
 .ret)))
theorem is102 : FnIs Tryz.prog (z102 ++ pures) 102 n102 c102 r102 := ⟨⟨Tryz.f102, Tryz.f102.body.getD .skip, by kernel_rfl, by kernel_rfl, by kernel_rfl, by kernel_rfl, by kernel_rfl, by kernel_rfl⟩⟩
-- 103
def z103 : List Nat := [1000001]
def n103 : Nat := 6
def r103 : List RV := [.cell 2 2 true]
def c103 : PCode :=
 (.seq (.reg false [⟨(some 1), none, [], .boxF (.t 0)⟩, ⟨(some 2), none, [], .alloc [(i 0), (i 0)]⟩])
 (.seq (.reg false [⟨(some 3), none, [], .loadE (.t 1) 7 true⟩, ⟨(some 4), none, [0], .pcall 118 [(.t 3)]⟩, ⟨(some 5), none, [1], .fld (.t 4) 0 2 true⟩, ⟨none, none, [2, 1, 0, 1, 2], .store (.t 2) (.t 5) 2⟩])
 .ret))
theorem is103 : FnIs Tryz.prog (z103 ++ pures) 103 n103 c103 r103 := ⟨⟨Tryz.f103, Tryz.f103.body.getD .skip, by kernel_rfl, by kernel_rfl, by kernel_rfl, by kernel_rfl, by kernel_rfl, by kernel_rfl⟩⟩
-- 104
def z104 : List Nat := [1000002]
def n104 : Nat := 9
def r104 : List RV := [.cell 4 2 true]
def c104 : PCode :=
 (.seq (.reg false [⟨(some 2), none, [], .boxF (.t 0)⟩, ⟨(some 4), none, [], .alloc [(u 0), (u 0)]⟩])
 (.seq (.reg true [⟨(some 5), none, [], .loadE (.t 2) 2 true⟩, ⟨(some 6), none, [], .copy (.t 1)⟩, ⟨(some 7), none, [1], .pcall 120 [(.t 6)]⟩, ⟨(some 8), none, [0, 2, 2], .pcall 119 [(.t 5), (.t 7)]⟩, ⟨none, none, [3, 3, 0, 1, 2, 3], .store (.t 4) (.t 8) 2⟩])
 .ret))
theorem is104 : FnIs Tryz.prog (z104 ++ pures) 104 n104 c104 r104 := ⟨⟨Tryz.f104, Tryz.f104.body.getD .skip, by kernel_rfl, by kernel_rfl, by kernel_rfl, by kernel_rfl, by kernel_rfl, by kernel_rfl⟩⟩
-- 105
def z105 : List Nat := []
def n105 : Nat := 19
def r105 : List RV := [.tmp 2, .tmp 3]
def c105 : PCode :=
 (.seq (.reg false [⟨(some 2), none, [], .copy (.c (.slc true []))⟩, ⟨(some 3), none, [0], .copy (.c (bo false))⟩])
 (.seq (.seq (.reg false [⟨(some 6), none, [], .copy (.t 0)⟩, ⟨(some 7), none, [0], .bin .eql (.t 6) (.c (tx []))⟩])
 (.cond (.t 7) (.seq (.reg false [⟨(some 2), none, [], .copy (.c (.slc true []))⟩, ⟨(some 3), none, [0, 0], .copy (.c (bo true))⟩])
 .ret) .skip))
 (.seq (.reg false [⟨(some 8), none, [], .copy (.t 0)⟩, ⟨(some 9), none, [0], .pcall 121 [(.t 8), (.c (tx [46]))]⟩, ⟨(some 4), none, [1, 1, 0, 1], .take 9⟩])
 (.seq (.reg false [⟨(some 5), none, [], .copy (.c (.clo 122 []))⟩])
 (.seq (.seq (.reg false [⟨(some 10), none, [], .copy (.t 4)⟩, ⟨(some 11), none, [0], .len (.t 10)⟩, ⟨(some 12), none, [1], .bin .gtr (.t 11) (.c (i 8))⟩, ⟨(some 13), none, [2], .copy (.t 12)⟩, ⟨(some 14), (some (13, false)), [3], .copy (.t 4)⟩, ⟨(some 15), (some (13, false)), [3], .copy (.t 5)⟩, ⟨(some 16), (some (13, false)), [4, 5, 3, 3], .pcall 124 [(.t 14), (.t 15)]⟩, ⟨(some 17), none, [3, 6], .pick (.t 13) (.c (bo true)) (.t 16)⟩])
 (.cond (.t 17) (.seq (.reg false [⟨(some 2), none, [], .copy (.c (.slc true []))⟩, ⟨(some 3), none, [0, 0], .copy (.c (bo false))⟩])
 .ret) .skip))
 (.seq (.reg false [⟨(some 18), none, [], .copy (.t 4)⟩, ⟨(some 2), none, [0, 0], .take 18⟩, ⟨(some 3), none, [1, 0, 1], .copy (.c (bo true))⟩])
 .ret))))))
theorem is105 : FnIs Tryz.prog (z105 ++ pures) 105 n105 c105 r105 := ⟨⟨Tryz.f105, Tryz.f105.body.getD .skip, by kernel_rfl, by kernel_rfl, by kernel_rfl, by kernel_rfl, by kernel_rfl, by kernel_rfl⟩⟩
-- 106
def z106 : List Nat := []
def n106 : Nat := 12
def r106 : List RV := [.tmp 2]
def c106 : PCode :=
 (.seq (.reg false [⟨(some 2), none, [], .copy (.c (i 0))⟩])
 (.seq (.reg false [⟨(some 6), none, [], .copy (.t 0)⟩, ⟨(some 7), none, [0], .pcall 105 [(.t 6)]⟩, ⟨(some 5), none, [1], .copy (.t 7)⟩, ⟨(some 8), none, [2], .ext (.t 5) 0⟩, ⟨(some 9), none, [2], .ext (.t 5) 1⟩, ⟨(some 3), none, [3, 1, 0, 1, 2, 3], .take 8⟩, ⟨(some 4), none, [4, 5, 0, 1, 2, 3, 4, 5], .copy (.t 9)⟩])
 (.seq (.reg false [⟨(some 10), none, [], .copy (.t 3)⟩, ⟨(some 11), none, [0], .len (.t 10)⟩, ⟨(some 2), none, [1, 0, 1], .copy (.t 11)⟩])
 .ret)))
theorem is106 : FnIs Tryz.prog (z106 ++ pures) 106 n106 c106 r106 := ⟨⟨Tryz.f106, Tryz.f106.body.getD .skip, by kernel_rfl, by kernel_rfl, by kernel_rfl, by kernel_rfl, by kernel_rfl, by kernel_rfl⟩⟩
-- 107
def z107 : List Nat := []
def n107 : Nat := 49
def r107 : List RV := [.tmp 2, .tmp 3]
def c107 : PCode :=
 (.seq (.reg false [⟨(some 2), none, [], .copy (.c (.slc true []))⟩, ⟨(some 3), none, [0], .copy (.c (bo false))⟩])
 (.seq (.reg false [⟨(some 4), none, [], .copy (.c (.slc true []))⟩])
 (.seq (.reg false [⟨(some 5), none, [], .copy (.c (i 0))⟩])
 (.seq (.seq (.reg false [⟨(some 6), none, [], .copy (.c (i 0))⟩])
 (.block 0 (.loop (.seq (.seq (.reg false [⟨(some 7), none, [], .copy (.t 6)⟩, ⟨(some 8), none, [], .copy (.t 0)⟩, ⟨(some 9), none, [1], .slen (.t 8)⟩, ⟨(some 10), none, [0, 2], .bin .leq (.t 7) (.t 9)⟩, ⟨(some 11), none, [3], .copy (.t 10)⟩, ⟨(some 12), (some (11, true)), [4], .copy (.t 0)⟩, ⟨(some 13), (some (11, true)), [5, 4], .slen (.t 12)⟩, ⟨(some 14), (some (11, true)), [6, 4], .bin .gtr (.t 13) (.c (i 0))⟩, ⟨(some 15), none, [4, 7], .pick (.t 11) (.t 14) (.c (bo false))⟩])
 (.cond (.t 15) .skip (.exit 0)))
 (.seq (.block 1 (.seq (.seq (.reg false [⟨(some 18), none, [], .copy (.t 6)⟩, ⟨(some 19), none, [], .copy (.t 0)⟩, ⟨(some 20), none, [1], .slen (.t 19)⟩, ⟨(some 21), none, [0, 2], .bin .lss (.t 18) (.t 20)⟩, ⟨(some 22), none, [3], .copy (.t 21)⟩, ⟨(some 23), (some (22, true)), [4], .copy (.t 0)⟩, ⟨(some 24), (some (22, true)), [4], .copy (.t 6)⟩, ⟨(some 25), (some (22, true)), [5, 6, 4], .byteAt (.t 23) (.t 24)⟩, ⟨(some 26), (some (22, true)), [7, 4], .bin .neq (.t 25) (.c (y 46))⟩, ⟨(some 27), none, [4, 8], .pick (.t 22) (.t 26) (.c (bo false))⟩])
 (.cond (.t 27) (.exit 1) .skip))
 (.seq (.seq (.reg false [⟨(some 28), none, [], .copy (.t 0)⟩, ⟨(some 29), none, [], .copy (.t 5)⟩, ⟨(some 30), none, [], .copy (.t 6)⟩, ⟨(some 31), none, [0, 1, 2], .sslice (.t 28) (some (.t 29)) (some (.t 30))⟩, ⟨(some 32), none, [3], .pcall 125 [(.t 31)]⟩, ⟨(some 33), none, [4], .un .not (.t 32)⟩, ⟨(some 34), none, [5, 4], .copy (.t 33)⟩, ⟨(some 35), (some (34, false)), [6], .copy (.t 4)⟩, ⟨(some 36), (some (34, false)), [7, 6], .len (.t 35)⟩, ⟨(some 37), (some (34, false)), [8, 6], .bin .geq (.t 36) (.c (i 8))⟩, ⟨(some 38), none, [6, 9], .pick (.t 34) (.c (bo true)) (.t 37)⟩])
 (.cond (.t 38) (.seq (.reg false [⟨(some 2), none, [], .copy (.c (.slc true []))⟩, ⟨(some 3), none, [0, 0], .copy (.c (bo false))⟩])
 .ret) .skip))
 (.seq (.reg false [⟨(some 39), none, [], .take 4⟩, ⟨(some 40), none, [], .copy (.t 0)⟩, ⟨(some 41), none, [], .copy (.t 5)⟩, ⟨(some 42), none, [], .copy (.t 6)⟩, ⟨(some 43), none, [1, 2, 3], .sslice (.t 40) (some (.t 41)) (some (.t 42))⟩, ⟨(some 44), none, [4], .bslice 1 [(.t 43)]⟩, ⟨(some 45), none, [0, 5], .append 39 (.t 44) 1 16⟩, ⟨(some 4), none, [6, 6, 0, 1, 2, 3, 4, 5, 6], .take 45⟩])
 (.reg false [⟨(some 46), none, [], .copy (.t 6)⟩, ⟨(some 47), none, [0], .bin .add (.t 46) (.c (i 1))⟩, ⟨(some 5), none, [1, 0, 1], .copy (.t 47)⟩])))))
 (.reg false [⟨(some 16), none, [], .copy (.t 6)⟩, ⟨(some 17), none, [0], .bin .add (.t 16) (.c (i 1))⟩, ⟨(some 6), none, [1, 0, 1], .copy (.t 17)⟩]))))))
 (.seq (.reg false [⟨(some 48), none, [], .copy (.t 4)⟩, ⟨(some 2), none, [0, 0], .take 48⟩, ⟨(some 3), none, [1, 0, 1], .copy (.c (bo true))⟩])
 .ret)))))
theorem is107 : FnIs Tryz.prog (z107 ++ pures) 107 n107 c107 r107 := ⟨⟨Tryz.f107, Tryz.f107.body.getD .skip, by kernel_rfl, by kernel_rfl, by kernel_rfl, by kernel_rfl, by kernel_rfl, by kernel_rfl⟩⟩
-- 108
def z108 : List Nat := []
def n108 : Nat := 21
def r108 : List RV := [.tmp 6]
def c108 : PCode :=
 (.seq (.reg false [⟨(some 6), none, [], .copy (.c (u 0))⟩])
 (.seq (.seq (.reg false [⟨(some 7), none, [], .copy (.t 2)⟩, ⟨(some 8), none, [0], .bin .lss (.t 7) (.c (i 64))⟩])
 (.cond (.t 8) (.seq (.reg false [⟨(some 9), none, [], .copy (.t 0)⟩, ⟨(some 10), none, [], .copy (.t 2)⟩, ⟨(some 11), none, [1], .bin .sub (.c (i 63)) (.t 10)⟩, ⟨(some 12), none, [2], .conv .u64 (.t 11)⟩, ⟨(some 13), none, [0, 3], .bin .shr (.t 9) (.t 12)⟩, ⟨(some 14), none, [4], .bin .rem (.t 13) (.c (u 2))⟩, ⟨(some 6), none, [5, 0, 1, 2, 3, 4, 5], .copy (.t 14)⟩])
 .ret) .skip))
 (.seq (.reg false [⟨(some 15), none, [], .copy (.t 1)⟩, ⟨(some 16), none, [], .copy (.t 2)⟩, ⟨(some 17), none, [1], .bin .sub (.c (i 127)) (.t 16)⟩, ⟨(some 18), none, [2], .conv .u64 (.t 17)⟩, ⟨(some 19), none, [0, 3], .bin .shr (.t 15) (.t 18)⟩, ⟨(some 20), none, [4], .bin .rem (.t 19) (.c (u 2))⟩, ⟨(some 6), none, [5, 0, 1, 2, 3, 4, 5], .copy (.t 20)⟩])
 .ret)))
theorem is108 : FnIs Tryz.prog (z108 ++ pures) 108 n108 c108 r108 := ⟨⟨Tryz.f108, Tryz.f108.body.getD .skip, by kernel_rfl, by kernel_rfl, by kernel_rfl, by kernel_rfl, by kernel_rfl, by kernel_rfl⟩⟩
-- 109
def z109 : List Nat := [1000002, 1000023]
def n109 : Nat := 29
def r109 : List RV := [.cell 4 5 true]
def c109 : PCode :=
 (.seq (.reg false [⟨(some 2), none, [], .boxF (.t 0)⟩, ⟨(some 4), none, [], .alloc [(i 0), (i 0), (u 0), (u 0), (tx [])]⟩])
 (.seq (.reg false [⟨(some 8), none, [], .loadE (.t 2) 5 true⟩, ⟨(some 9), none, [0], .pcall 85 [(.t 8)]⟩, ⟨(some 7), none, [1], .copy (.t 9)⟩, ⟨(some 10), none, [2], .ext (.t 7) 0⟩, ⟨(some 11), none, [2], .ext (.t 7) 1⟩, ⟨(some 5), none, [3, 1, 0, 1, 2, 3], .take 10⟩, ⟨(some 6), none, [4, 5, 0, 1, 2, 3, 4, 5], .copy (.t 11)⟩])
 (.seq (.seq (.reg false [⟨(some 12), none, [], .copy (.t 6)⟩, ⟨(some 13), none, [0], .un .not (.t 12)⟩])
 (.cond (.t 13) (.seq (.reg false [⟨(some 14), none, [], .build [(i 0), (i 0), (u 0), (u 0), (tx [])] []⟩, ⟨none, none, [0, 0], .store (.t 4) (.t 14) 5⟩])
 .ret) .skip))
 (.seq (.seq (.reg false [⟨(some 15), none, [], .copy (.t 1)⟩, ⟨(some 16), none, [0], .bin .lss (.t 15) (.c (i 0))⟩])
 (.cond (.t 16) (.reg false [⟨(some 1), none, [], .copy (.c (i 0))⟩]) .skip))
 (.seq (.seq (.reg false [⟨(some 17), none, [], .copy (.t 1)⟩, ⟨(some 18), none, [], .copy (.t 5)⟩, ⟨(some 19), none, [1], .len (.t 18)⟩, ⟨(some 20), none, [0, 2], .bin .gtr (.t 17) (.t 19)⟩])
 (.cond (.t 20) (.reg false [⟨(some 21), none, [], .copy (.t 5)⟩, ⟨(some 22), none, [0], .len (.t 21)⟩, ⟨(some 1), none, [1, 0, 1], .copy (.t 22)⟩]) .skip))
 (.seq (.reg true [⟨(some 23), none, [], .padd (.t 2) 0⟩, ⟨(some 24), none, [0], .loadE (.t 23) 1 false⟩, ⟨(some 25), none, [], .copy (.t 5)⟩, ⟨(some 26), none, [], .copy (.t 1)⟩, ⟨(some 27), none, [2, 3], .slice (.t 25) none (some (.t 26)) none 1⟩, ⟨(some 28), none, [1, 4], .pcall 126 [(.t 24), (.t 27)]⟩, ⟨none, none, [5, 5, 0, 1, 2, 3, 4, 5], .store (.t 4) (.t 28) 5⟩])
 .ret))))))
theorem is109 : FnIs Tryz.prog (z109 ++ pures) 109 n109 c109 r109 := ⟨⟨Tryz.f109, Tryz.f109.body.getD .skip, by kernel_rfl, by kernel_rfl, by kernel_rfl, by kernel_rfl, by kernel_rfl, by kernel_rfl⟩⟩
-- 115
def z115 : List Nat := []
def n115 : Nat := 6
def r115 : List RV := [.tmp 2]
def c115 : PCode :=
 (.seq (.reg false [⟨(some 2), none, [], .copy (.c (bo false))⟩])
 (.seq (.reg false [⟨(some 3), none, [], .copy (.t 0)⟩, ⟨(some 4), none, [], .copy (.t 0)⟩, ⟨(some 5), none, [0, 1], .bin .neq (.t 3) (.t 4)⟩, ⟨(some 2), none, [2, 0, 1, 2], .copy (.t 5)⟩])
 .ret))
theorem is115 : FnIs Tryz.prog (z115 ++ pures) 115 n115 c115 r115 := ⟨⟨Tryz.f115, Tryz.f115.body.getD .skip, by kernel_rfl, by kernel_rfl, by kernel_rfl, by kernel_rfl, by kernel_rfl, by kernel_rfl⟩⟩
-- 117
def z117 : List Nat := [1000002, 1000007, 1000010, 1000013, 1000018]
def n117 : Nat := 24
def r117 : List RV := [.cell 4 5 true]
def c117 : PCode :=
 (.seq (.reg false [⟨(some 2), none, [], .boxF (.t 0)⟩, ⟨(some 4), none, [], .alloc [(i 0), (i 0), (u 0), (u 0), (tx [])]⟩])
 (.seq (.reg false [⟨(some 5), none, [], .copy (.t 1)⟩, ⟨(some 6), none, [0], .mm true [(.t 5), (.c (i 0))]⟩, ⟨(some 7), none, [], .padd (.t 2) 1⟩, ⟨(some 8), none, [2], .loadE (.t 7) 1 false⟩, ⟨(some 9), none, [1, 3], .mm false [(.t 6), (.t 8)]⟩, ⟨(some 1), none, [4, 0, 1, 2, 3, 4], .copy (.t 9)⟩])
 (.seq (.seq (.reg false [⟨(some 10), none, [], .padd (.t 2) 0⟩, ⟨(some 11), none, [0], .loadE (.t 10) 1 false⟩, ⟨(some 12), none, [1], .bin .eql (.t 11) (.c (i 3))⟩])
 (.cond (.t 12) (.seq (.reg false [⟨(some 13), none, [], .padd (.t 2) 4⟩, ⟨(some 14), none, [0], .loadE (.t 13) 1 false⟩, ⟨(some 15), none, [], .copy (.t 1)⟩, ⟨(some 16), none, [1, 2], .pcall 128 [(.t 14), (.t 15)]⟩, ⟨(some 17), none, [3, 3], .pcall 84 [(.t 16)]⟩, ⟨none, none, [4, 4, 0, 1, 2, 3, 4], .store (.t 4) (.t 17) 5⟩])
 .ret) .skip))
 (.seq (.reg true [⟨(some 18), none, [], .padd (.t 2) 0⟩, ⟨(some 19), none, [0], .loadE (.t 18) 1 false⟩, ⟨(some 20), none, [], .copy (.t 1)⟩, ⟨(some 21), none, [], .loadE (.t 2) 5 true⟩, ⟨(some 22), none, [3], .pcall 74 [(.t 21)]⟩, ⟨(some 23), none, [1, 2, 4, 4], .pcall 82 [(.t 19), (.t 20), (.t 22)]⟩, ⟨none, none, [5, 5, 0, 1, 2, 3, 4, 5], .store (.t 4) (.t 23) 5⟩])
 .ret))))
theorem is117 : FnIs Tryz.prog (z117 ++ pures) 117 n117 c117 r117 := ⟨⟨Tryz.f117, Tryz.f117.body.getD .skip, by kernel_rfl, by kernel_rfl, by kernel_rfl, by kernel_rfl, by kernel_rfl, by kernel_rfl⟩⟩
-- 118
def z118 : List Nat := [1000001, 1000010, 1000005, 1000022]
def n118 : Nat := 29
def r118 : List RV := [.cell 2 12 true]
def c118 : PCode :=
 (.seq (.reg false [⟨(some 1), none, [], .boxF (.t 0)⟩, ⟨(some 2), none, [], .alloc [(i 0), (i 0), (i 0), (i 0), (u 0), (u 0), (tx []), (i 0), (i 0), (u 0), (u 0), (tx [])]⟩])
 (.seq (.reg false [⟨(some 3), none, [], .alloc [(i 0), (i 0), (i 0), (i 0), (u 0), (u 0), (tx []), (i 0), (i 0), (u 0), (u 0), (tx [])]⟩])
 (.seq (.seq (.reg false [⟨(some 6), none, [], .loadE (.t 1) 7 true⟩, ⟨(some 7), none, [0], .pcall 14 [(.t 6)]⟩, ⟨(some 8), none, [1], .un .not (.t 7)⟩])
 (.cond (.t 8) (.seq (.reg false [⟨(some 9), none, [], .load (.t 3) 12 true⟩, ⟨none, none, [0, 0], .store (.t 2) (.t 9) 12⟩])
 .ret) .skip))
 (.seq (.seq (.reg false [⟨(some 10), none, [], .padd (.t 1) 1⟩, ⟨(some 11), none, [0], .loadE (.t 10) 6 true⟩, ⟨(some 12), none, [], .copy (.c (i 0))⟩])
 (.block 0 (.loop (.seq (.reg false [⟨(some 13), none, [], .bin .lss (.t 12) (.c (i 2))⟩])
 (.seq (.cond (.t 13) .skip (.exit 0))
 (.seq (.block 1 (.seq (.reg false [⟨(some 14), none, [], .copy (.t 12)⟩, ⟨(some 15), none, [], .idx (.t 11) (.t 12) 2 3 true⟩, ⟨(some 5), none, [], .allocF 3⟩, ⟨(some 4), none, [0, 0, 1, 2], .copy (.t 14)⟩, ⟨none, none, [2, 1, 3, 0, 1, 2, 3], .storeF 5 (.t 15) 3⟩])
 (.seq (.reg false [⟨(some 16), none, [], .copy (.t 4)⟩, ⟨(some 17), none, [], .loadE (.t 5) 3 true⟩, ⟨(some 18), none, [1], .pcall 76 [(.t 17)]⟩, ⟨(some 19), none, [], .padd (.t 3) 0⟩, ⟨(some 20), none, [3, 0, 0, 1, 2], .pidxA (.t 19) (.t 16) 2 1⟩, ⟨none, none, [4, 2, 2, 0, 1, 2], .store (.t 20) (.t 18) 1⟩])
 (.reg false [⟨(some 21), none, [], .copy (.t 4)⟩, ⟨(some 22), none, [], .padd (.t 5) 0⟩, ⟨(some 23), none, [1], .loadE (.t 22) 1 false⟩, ⟨(some 24), none, [2], .pcall 129 [(.t 23)]⟩, ⟨(some 25), none, [], .padd (.t 3) 2⟩, ⟨(some 26), none, [4, 0, 0, 1, 2, 3], .pidxA (.t 25) (.t 21) 2 5⟩, ⟨none, none, [5, 3, 3, 0, 1, 2, 3], .store (.t 26) (.t 24) 5⟩]))))
 (.reg false [⟨(some 27), none, [], .bin .add (.t 12) (.c (i 1))⟩, ⟨(some 12), none, [0], .copy (.t 27)⟩])))))))
 (.seq (.reg false [⟨(some 28), none, [], .load (.t 3) 12 true⟩, ⟨none, none, [0, 0], .store (.t 2) (.t 28) 12⟩])
 .ret)))))
theorem is118 : FnIs Tryz.prog (z118 ++ pures) 118 n118 c118 r118 := ⟨⟨Tryz.f118, Tryz.f118.body.getD .skip, by kernel_rfl, by kernel_rfl, by kernel_rfl, by kernel_rfl, by kernel_rfl, by kernel_rfl⟩⟩
-- 119
def z119 : List Nat := [1000002, 1000005, 1000010, 1000003, 1000007, 1000012]
def n119 : Nat := 16
def r119 : List RV := [.cell 4 2 true]
def c119 : PCode :=
 (.seq (.reg false [⟨(some 2), none, [], .boxF (.t 0)⟩, ⟨(some 3), none, [], .boxF (.t 1)⟩, ⟨(some 4), none, [], .alloc [(u 0), (u 0)]⟩])
 (.seq (.reg false [⟨(some 5), none, [], .padd (.t 2) 0⟩, ⟨(some 6), none, [0], .loadE (.t 5) 1 false⟩, ⟨(some 7), none, [], .padd (.t 3) 0⟩, ⟨(some 8), none, [2], .loadE (.t 7) 1 false⟩, ⟨(some 9), none, [1, 3], .bin .and (.t 6) (.t 8)⟩, ⟨(some 10), none, [], .padd (.t 2) 1⟩, ⟨(some 11), none, [5], .loadE (.t 10) 1 false⟩, ⟨(some 12), none, [], .padd (.t 3) 1⟩, ⟨(some 13), none, [7], .loadE (.t 12) 1 false⟩, ⟨(some 14), none, [6, 8], .bin .and (.t 11) (.t 13)⟩, ⟨(some 15), none, [4, 9], .build [(u 0), (u 0)] [(0, 1, (.t 9)), (1, 1, (.t 14))]⟩, ⟨none, none, [10, 0, 1, 2, 3, 4, 5, 6, 7, 8, 9, 10], .store (.t 4) (.t 15) 2⟩])
 .ret))
theorem is119 : FnIs Tryz.prog (z119 ++ pures) 119 n119 c119 r119 := ⟨⟨Tryz.f119, Tryz.f119.body.getD .skip, by kernel_rfl, by kernel_rfl, by kernel_rfl, by kernel_rfl, by kernel_rfl, by kernel_rfl⟩⟩
-- 120
def z120 : List Nat := [1000003]
def n120 : Nat := 13
def r120 : List RV := [.cell 2 2 true]
def c120 : PCode :=
 (.seq (.reg false [⟨(some 2), none, [], .alloc [(u 0), (u 0)]⟩])
 (.seq (.reg false [⟨(some 4), none, [], .build [(u 0), (u 0)] [(0, 1, (.c (u 18446744073709551615))), (1, 1, (.c (u 18446744073709551615)))]⟩, ⟨(some 3), none, [], .allocF 2⟩, ⟨none, none, [1, 0, 0, 1], .storeF 3 (.t 4) 2⟩])
 (.seq (.seq (.reg false [⟨(some 5), none, [], .copy (.t 0)⟩, ⟨(some 6), none, [0], .bin .leq (.t 5) (.c (i 0))⟩])
 (.cond (.t 6) (.seq (.reg false [⟨(some 7), none, [], .build [(u 0), (u 0)] []⟩, ⟨none, none, [0, 0], .store (.t 2) (.t 7) 2⟩])
 .ret) .skip))
 (.seq (.reg false [⟨(some 8), none, [], .loadE (.t 3) 2 true⟩, ⟨(some 9), none, [], .copy (.t 0)⟩, ⟨(some 10), none, [1], .mm false [(.t 9), (.c (i 128))]⟩, ⟨(some 11), none, [2], .bin .sub (.c (i 128)) (.t 10)⟩, ⟨(some 12), none, [0, 3], .pcall 130 [(.t 8), (.t 11)]⟩, ⟨none, none, [4, 4, 0, 1, 2, 3, 4], .store (.t 2) (.t 12) 2⟩])
 .ret))))
theorem is120 : FnIs Tryz.prog (z120 ++ pures) 120 n120 c120 r120 := ⟨⟨Tryz.f120, Tryz.f120.body.getD .skip, by kernel_rfl, by kernel_rfl, by kernel_rfl, by kernel_rfl, by kernel_rfl, by kernel_rfl⟩⟩
-- 121
def z121 : List Nat := []
def n121 : Nat := 8
def r121 : List RV := [.tmp 4]
def c121 : PCode :=
 (.seq (.reg false [⟨(some 4), none, [], .copy (.c (.slc true []))⟩])
 (.seq (.reg false [⟨(some 5), none, [], .copy (.t 0)⟩, ⟨(some 6), none, [], .copy (.t 1)⟩, ⟨(some 7), none, [0, 1], .pcall 131 [(.t 5), (.t 6), (.c (i 0)), (.c (i (-1)))]⟩, ⟨(some 4), none, [2, 2, 0, 1, 2], .take 7⟩])
 .ret))
theorem is121 : FnIs Tryz.prog (z121 ++ pures) 121 n121 c121 r121 := ⟨⟨Tryz.f121, Tryz.f121.body.getD .skip, by kernel_rfl, by kernel_rfl, by kernel_rfl, by kernel_rfl, by kernel_rfl, by kernel_rfl⟩⟩
-- 122
def z122 : List Nat := []
def n122 : Nat := 6
def r122 : List RV := [.tmp 2]
def c122 : PCode :=
 (.seq (.reg false [⟨(some 2), none, [], .copy (.c (bo false))⟩])
 (.seq (.reg false [⟨(some 3), none, [], .copy (.t 0)⟩, ⟨(some 4), none, [0], .pcall 123 [(.t 3)]⟩, ⟨(some 5), none, [1], .un .not (.t 4)⟩, ⟨(some 2), none, [2, 1, 0, 1, 2], .copy (.t 5)⟩])
 .ret))
theorem is122 : FnIs Tryz.prog (z122 ++ pures) 122 n122 c122 r122 := ⟨⟨Tryz.f122, Tryz.f122.body.getD .skip, by kernel_rfl, by kernel_rfl, by kernel_rfl, by kernel_rfl, by kernel_rfl, by kernel_rfl⟩⟩
-- 123
def z123 : List Nat := []
def n123 : Nat := 24
def r123 : List RV := [.tmp 2]
def c123 : PCode :=
 (.seq (.reg false [⟨(some 2), none, [], .copy (.c (bo false))⟩])
 (.seq (.seq (.reg false [⟨(some 5), none, [], .copy (.t 0)⟩, ⟨(some 6), none, [0], .tobytes (.t 5)⟩, ⟨(some 7), none, [1], .len (.t 6)⟩, ⟨(some 8), none, [], .copy (.c (i 0))⟩])
 (.block 0 (.loop (.seq (.reg false [⟨(some 9), none, [], .bin .lss (.t 8) (.t 7)⟩])
 (.seq (.cond (.t 9) .skip (.exit 0))
 (.seq (.block 1 (.seq (.reg false [⟨(some 10), none, [], .pidxS (.t 6) (.t 8) 1⟩, ⟨(some 11), none, [0], .load (.t 10) 1 false⟩, ⟨(some 4), none, [1, 0, 1], .copy (.t 11)⟩])
 (.seq (.reg false [⟨(some 12), none, [], .copy (.t 4)⟩, ⟨(some 13), none, [0], .pcall 132 [(.t 12)]⟩, ⟨(some 14), none, [1], .un .not (.t 13)⟩])
 (.cond (.t 14) (.seq (.reg false [⟨(some 2), none, [], .copy (.c (bo false))⟩])
 .ret) .skip))))
 (.reg false [⟨(some 15), none, [], .bin .add (.t 8) (.c (i 1))⟩, ⟨(some 8), none, [0], .copy (.t 15)⟩])))))))
 (.seq (.reg false [⟨(some 16), none, [], .copy (.t 0)⟩, ⟨(some 17), none, [0], .slen (.t 16)⟩, ⟨(some 18), none, [1], .bin .geq (.t 17) (.c (i 1))⟩, ⟨(some 19), none, [2], .copy (.t 18)⟩, ⟨(some 20), (some (19, true)), [3], .copy (.t 0)⟩, ⟨(some 21), (some (19, true)), [4, 3], .slen (.t 20)⟩, ⟨(some 22), (some (19, true)), [5, 3], .bin .leq (.t 21) (.c (i 16))⟩, ⟨(some 23), none, [3, 6], .pick (.t 19) (.t 22) (.c (bo false))⟩, ⟨(some 2), none, [7, 3, 0, 1, 2, 3, 4, 5, 6, 7], .copy (.t 23)⟩])
 .ret)))
theorem is123 : FnIs Tryz.prog (z123 ++ pures) 123 n123 c123 r123 := ⟨⟨Tryz.f123, Tryz.f123.body.getD .skip, by kernel_rfl, by kernel_rfl, by kernel_rfl, by kernel_rfl, by kernel_rfl, by kernel_rfl⟩⟩
-- 124
def z124 : List Nat := []
def n124 : Nat := 9
def r124 : List RV := [.tmp 4]
def c124 : PCode :=
 (.seq (.reg false [⟨(some 4), none, [], .copy (.c (bo false))⟩])
 (.seq (.reg false [⟨(some 5), none, [], .copy (.t 0)⟩, ⟨(some 6), none, [], .copy (.t 1)⟩, ⟨(some 7), none, [0, 1], .pcall 133 [(.t 5), (.t 6)]⟩, ⟨(some 8), none, [2], .bin .geq (.t 7) (.c (i 0))⟩, ⟨(some 4), none, [3, 2, 0, 1, 2, 3], .copy (.t 8)⟩])
 .ret))
theorem is124 : FnIs Tryz.prog (z124 ++ pures) 124 n124 c124 r124 := ⟨⟨Tryz.f124, Tryz.f124.body.getD .skip, by kernel_rfl, by kernel_rfl, by kernel_rfl, by kernel_rfl, by kernel_rfl, by kernel_rfl⟩⟩
-- 125
def z125 : List Nat := []
def n125 : Nat := 41
def r125 : List RV := [.tmp 2]
def c125 : PCode :=
 (.seq (.reg false [⟨(some 2), none, [], .copy (.c (bo false))⟩])
 (.seq (.seq (.reg false [⟨(some 3), none, [], .copy (.c (i 0))⟩])
 (.block 0 (.loop (.seq (.seq (.reg false [⟨(some 5), none, [], .copy (.t 3)⟩, ⟨(some 6), none, [], .copy (.t 0)⟩, ⟨(some 7), none, [1], .slen (.t 6)⟩, ⟨(some 8), none, [0, 2], .bin .lss (.t 5) (.t 7)⟩])
 (.cond (.t 8) .skip (.exit 0)))
 (.seq (.block 1 (.seq (.reg false [⟨(some 11), none, [], .copy (.t 0)⟩, ⟨(some 12), none, [], .copy (.t 3)⟩, ⟨(some 13), none, [0, 1], .byteAt (.t 11) (.t 12)⟩, ⟨(some 4), none, [2, 0, 1, 2], .copy (.t 13)⟩])
 (.seq (.reg false [⟨(some 14), none, [], .copy (.t 4)⟩, ⟨(some 15), none, [0], .bin .geq (.t 14) (.c (y 97))⟩, ⟨(some 16), none, [1], .copy (.t 15)⟩, ⟨(some 17), (some (16, true)), [2], .copy (.t 4)⟩, ⟨(some 18), (some (16, true)), [3, 2], .bin .leq (.t 17) (.c (y 122))⟩, ⟨(some 19), none, [2, 4], .pick (.t 16) (.t 18) (.c (bo false))⟩, ⟨(some 20), none, [5, 2], .copy (.t 19)⟩, ⟨(some 21), (some (20, false)), [6], .copy (.t 4)⟩, ⟨(some 22), (some (20, false)), [7, 6], .bin .geq (.t 21) (.c (y 48))⟩, ⟨(some 23), (some (20, false)), [8, 6, 6], .copy (.t 22)⟩, ⟨(some 24), (some (23, true)), [9], .copy (.t 4)⟩, ⟨(some 25), (some (23, true)), [10, 9], .bin .leq (.t 24) (.c (y 57))⟩, ⟨(some 26), (some (20, false)), [9, 11, 6], .pick (.t 23) (.t 25) (.c (bo false))⟩, ⟨(some 27), none, [6, 12], .pick (.t 20) (.c (bo true)) (.t 26)⟩, ⟨(some 28), none, [13, 9], .copy (.t 27)⟩, ⟨(some 29), (some (28, false)), [14], .copy (.t 4)⟩, ⟨(some 30), (some (28, false)), [15, 14], .bin .eql (.t 29) (.c (y 95))⟩, ⟨(some 31), none, [14, 16], .pick (.t 28) (.c (bo true)) (.t 30)⟩, ⟨(some 32), none, [17], .un .not (.t 31)⟩])
 (.cond (.t 32) (.seq (.reg false [⟨(some 2), none, [], .copy (.c (bo false))⟩])
 .ret) .skip))))
 (.reg false [⟨(some 9), none, [], .copy (.t 3)⟩, ⟨(some 10), none, [0], .bin .add (.t 9) (.c (i 1))⟩, ⟨(some 3), none, [1, 0, 1], .copy (.t 10)⟩]))))))
 (.seq (.reg false [⟨(some 33), none, [], .copy (.t 0)⟩, ⟨(some 34), none, [0], .slen (.t 33)⟩, ⟨(some 35), none, [1], .bin .gtr (.t 34) (.c (i 0))⟩, ⟨(some 36), none, [2], .copy (.t 35)⟩, ⟨(some 37), (some (36, true)), [3], .copy (.t 0)⟩, ⟨(some 38), (some (36, true)), [4, 3], .slen (.t 37)⟩, ⟨(some 39), (some (36, true)), [5, 3], .bin .lss (.t 38) (.c (i 17))⟩, ⟨(some 40), none, [3, 6], .pick (.t 36) (.t 39) (.c (bo false))⟩, ⟨(some 2), none, [7, 3, 0, 1, 2, 3, 4, 5, 6, 7], .copy (.t 40)⟩])
 .ret)))
theorem is125 : FnIs Tryz.prog (z125 ++ pures) 125 n125 c125 r125 := ⟨⟨Tryz.f125, Tryz.f125.body.getD .skip, by kernel_rfl, by kernel_rfl, by kernel_rfl, by kernel_rfl, by kernel_rfl, by kernel_rfl⟩⟩
-- 126
def z126 : List Nat := []
def n126 : Nat := 58
def r126 : List RV := [.cell 4 5 true]
def c126 : PCode :=
 (.seq (.reg false [⟨(some 4), none, [], .alloc [(i 0), (i 0), (u 0), (u 0), (tx [])]⟩])
 (.seq (.reg false [⟨(some 7), none, [], .copy (.t 0)⟩, ⟨(some 8), none, [], .copy (.t 1)⟩, ⟨(some 9), none, [1], .len (.t 8)⟩, ⟨(some 10), none, [0, 2], .build [(i 0), (i 0), (u 0), (u 0), (tx [])] [(0, 1, (.t 7)), (1, 1, (.t 9))]⟩, ⟨(some 5), none, [], .alloc [(i 0), (i 0), (u 0), (u 0), (tx [])]⟩, ⟨none, none, [4, 3, 0, 1, 2, 3, 4], .store (.t 5) (.t 10) 5⟩])
 (.seq (.seq (.reg false [⟨(some 11), none, [], .copy (.t 0)⟩, ⟨(some 12), none, [0], .bin .eql (.t 11) (.c (i 3))⟩])
 (.cond (.t 12) (.seq (.reg false [⟨(some 13), none, [], .copy (.t 1)⟩, ⟨(some 14), none, [0], .pcall 134 [(.t 13)]⟩, ⟨(some 15), none, [0, 1], .padd (.t 5) 4⟩, ⟨none, none, [2, 1, 1, 0, 1], .store (.t 15) (.t 14) 1⟩])
 (.seq (.reg false [⟨(some 16), none, [], .load (.t 5) 5 true⟩, ⟨none, none, [0, 0], .store (.t 4) (.t 16) 5⟩])
 .ret)) .skip))
 (.seq (.seq (.reg false [⟨(some 6), none, [], .copy (.c (i 0))⟩])
 (.block 0 (.loop (.seq (.seq (.reg false [⟨(some 17), none, [], .copy (.t 6)⟩, ⟨(some 18), none, [], .copy (.t 1)⟩, ⟨(some 19), none, [1], .len (.t 18)⟩, ⟨(some 20), none, [0, 2], .bin .lss (.t 17) (.t 19)⟩])
 (.cond (.t 20) .skip (.exit 0)))
 (.seq (.block 1 (.seq (.seq (.reg false [⟨(some 23), none, [], .copy (.t 1)⟩, ⟨(some 24), none, [], .copy (.t 6)⟩, ⟨(some 25), none, [0, 1], .pidxS (.t 23) (.t 24) 1⟩, ⟨(some 26), none, [2], .load (.t 25) 1 false⟩, ⟨(some 27), none, [3], .bin .eql (.t 26) (.c (tx [49]))⟩, ⟨(some 28), none, [4], .copy (.t 27)⟩, ⟨(some 29), (some (28, true)), [5], .copy (.t 6)⟩, ⟨(some 30), (some (28, true)), [6, 5], .bin .lss (.t 29) (.c (i 64))⟩, ⟨(some 31), none, [5, 7], .pick (.t 28) (.t 30) (.c (bo false))⟩])
 (.cond (.t 31) (.reg false [⟨(some 32), none, [], .padd (.t 5) 2⟩, ⟨(some 33), none, [0], .load (.t 32) 1 false⟩, ⟨(some 34), none, [], .copy (.t 6)⟩, ⟨(some 35), none, [2], .bin .sub (.c (i 63)) (.t 34)⟩, ⟨(some 36), none, [3], .conv .u64 (.t 35)⟩, ⟨(some 37), none, [4], .bin .shl (.c (u 1)) (.t 36)⟩, ⟨(some 38), none, [1, 5], .bin .add (.t 33) (.t 37)⟩, ⟨(some 39), none, [0, 1, 2, 3, 4, 5, 6], .padd (.t 5) 2⟩, ⟨none, none, [7, 6, 0, 1, 2, 3, 4, 5, 6], .store (.t 39) (.t 38) 1⟩]) .skip))
 (.seq (.reg false [⟨(some 40), none, [], .copy (.t 1)⟩, ⟨(some 41), none, [], .copy (.t 6)⟩, ⟨(some 42), none, [0, 1], .pidxS (.t 40) (.t 41) 1⟩, ⟨(some 43), none, [2], .load (.t 42) 1 false⟩, ⟨(some 44), none, [3], .bin .eql (.t 43) (.c (tx [49]))⟩, ⟨(some 45), none, [4], .copy (.t 44)⟩, ⟨(some 46), (some (45, true)), [5], .copy (.t 6)⟩, ⟨(some 47), (some (45, true)), [6, 5], .bin .geq (.t 46) (.c (i 64))⟩, ⟨(some 48), none, [5, 7], .pick (.t 45) (.t 47) (.c (bo false))⟩])
 (.cond (.t 48) (.reg false [⟨(some 49), none, [], .padd (.t 5) 3⟩, ⟨(some 50), none, [0], .load (.t 49) 1 false⟩, ⟨(some 51), none, [], .copy (.t 6)⟩, ⟨(some 52), none, [2], .bin .sub (.c (i 127)) (.t 51)⟩, ⟨(some 53), none, [3], .conv .u64 (.t 52)⟩, ⟨(some 54), none, [4], .bin .shl (.c (u 1)) (.t 53)⟩, ⟨(some 55), none, [1, 5], .bin .add (.t 50) (.t 54)⟩, ⟨(some 56), none, [0, 1, 2, 3, 4, 5, 6], .padd (.t 5) 3⟩, ⟨none, none, [7, 6, 0, 1, 2, 3, 4, 5, 6], .store (.t 56) (.t 55) 1⟩]) .skip))))
 (.reg false [⟨(some 21), none, [], .copy (.t 6)⟩, ⟨(some 22), none, [0], .bin .add (.t 21) (.c (i 1))⟩, ⟨(some 6), none, [1, 0, 1], .copy (.t 22)⟩]))))))
 (.seq (.reg false [⟨(some 57), none, [], .load (.t 5) 5 true⟩, ⟨none, none, [0, 0], .store (.t 4) (.t 57) 5⟩])
 .ret)))))
theorem is126 : FnIs Tryz.prog (z126 ++ pures) 126 n126 c126 r126 := ⟨⟨Tryz.f126, Tryz.f126.body.getD .skip, by kernel_rfl, by kernel_rfl, by kernel_rfl, by kernel_rfl, by kernel_rfl, by kernel_rfl⟩⟩
-- 128
def z128 : List Nat := []
def n128 : Nat := 20
def r128 : List RV := [.tmp 4]
def c128 : PCode :=
 (.seq (.reg false [⟨(some 4), none, [], .copy (.c (tx []))⟩])
 (.seq (.reg false [⟨(some 8), none, [], .copy (.t 0)⟩, ⟨(some 9), none, [0], .pcall 105 [(.t 8)]⟩, ⟨(some 7), none, [1], .copy (.t 9)⟩, ⟨(some 10), none, [2], .ext (.t 7) 0⟩, ⟨(some 11), none, [2], .ext (.t 7) 1⟩, ⟨(some 5), none, [3, 1, 0, 1, 2, 3], .take 10⟩, ⟨(some 6), none, [4, 5, 0, 1, 2, 3, 4, 5], .copy (.t 11)⟩])
 (.seq (.reg false [⟨(some 12), none, [], .copy (.t 5)⟩, ⟨(some 13), none, [], .copy (.t 1)⟩, ⟨(some 14), none, [1], .mm true [(.t 13), (.c (i 0))]⟩, ⟨(some 15), none, [], .copy (.t 5)⟩, ⟨(some 16), none, [3], .len (.t 15)⟩, ⟨(some 17), none, [2, 4], .mm false [(.t 14), (.t 16)]⟩, ⟨(some 18), none, [0, 5], .slice (.t 12) none (some (.t 17)) none 1⟩, ⟨(some 19), none, [6], .pcall 135 [(.t 18), (.c (tx [46]))]⟩, ⟨(some 4), none, [7, 7, 0, 1, 2, 3, 4, 5, 6, 7], .copy (.t 19)⟩])
 .ret)))
theorem is128 : FnIs Tryz.prog (z128 ++ pures) 128 n128 c128 r128 := ⟨⟨Tryz.f128, Tryz.f128.body.getD .skip, by kernel_rfl, by kernel_rfl, by kernel_rfl, by kernel_rfl, by kernel_rfl, by kernel_rfl⟩⟩
-- 129
def z129 : List Nat := []
def n129 : Nat := 9
def r129 : List RV := [.cell 2 5 true]
def c129 : PCode :=
 (.seq (.reg false [⟨(some 2), none, [], .alloc [(i 0), (i 0), (u 0), (u 0), (tx [])]⟩])
 (.seq (.seq (.reg false [⟨(some 3), none, [], .copy (.t 0)⟩, ⟨(some 4), none, [0], .pcall 48 [(.t 3)]⟩, ⟨(some 5), none, [1], .bin .eql (.t 4) (.c (i 0))⟩])
 (.cond (.t 5) (.seq (.reg false [⟨(some 6), none, [], .build [(i 0), (i 0), (u 0), (u 0), (tx [])] []⟩, ⟨none, none, [0, 0], .store (.t 2) (.t 6) 5⟩])
 .ret) .skip))
 (.seq (.reg false [⟨(some 7), none, [], .copy (.t 0)⟩, ⟨(some 8), none, [0], .build [(i 0), (i 0), (u 0), (u 0), (tx [])] [(0, 1, (.t 7))]⟩, ⟨none, none, [1, 0, 1], .store (.t 2) (.t 8) 5⟩])
 .ret)))
theorem is129 : FnIs Tryz.prog (z129 ++ pures) 129 n129 c129 r129 := ⟨⟨Tryz.f129, Tryz.f129.body.getD .skip, by kernel_rfl, by kernel_rfl, by kernel_rfl, by kernel_rfl, by kernel_rfl, by kernel_rfl⟩⟩
-- 130
def z130 : List Nat := [1000002, 1000016, 1000022, 1000026, 1000032]
def n130 : Nat := 37
def r130 : List RV := [.cell 4 2 true]
def c130 : PCode :=
 (.seq (.reg false [⟨(some 2), none, [], .boxF (.t 0)⟩, ⟨(some 4), none, [], .alloc [(u 0), (u 0)]⟩])
 (.seq (.block 0 (.seq (.reg false [⟨(some 6), none, [], .copy (.t 1)⟩, ⟨(some 7), none, [0], .bin .lss (.t 6) (.c (i 1))⟩, ⟨(some 5), none, [1], .copy (.t 7)⟩])
 (.cond (.t 5) (.seq (.reg false [⟨(some 8), none, [], .loadE (.t 2) 2 true⟩, ⟨none, none, [0, 0], .store (.t 4) (.t 8) 2⟩])
 .ret) (.seq (.reg false [⟨(some 10), none, [], .copy (.t 1)⟩, ⟨(some 11), none, [0], .bin .geq (.t 10) (.c (i 128))⟩, ⟨(some 9), none, [1], .copy (.t 11)⟩])
 (.cond (.t 9) (.seq (.reg false [⟨(some 12), none, [], .build [(u 0), (u 0)] []⟩, ⟨none, none, [0, 0], .store (.t 4) (.t 12) 2⟩])
 .ret) (.seq (.reg false [⟨(some 14), none, [], .copy (.t 1)⟩, ⟨(some 15), none, [0], .bin .geq (.t 14) (.c (i 64))⟩, ⟨(some 13), none, [1], .copy (.t 15)⟩])
 (.cond (.t 13) (.seq (.reg false [⟨(some 16), none, [], .padd (.t 2) 1⟩, ⟨(some 17), none, [0], .loadE (.t 16) 1 false⟩, ⟨(some 18), none, [], .copy (.t 1)⟩, ⟨(some 19), none, [2], .bin .sub (.t 18) (.c (i 64))⟩, ⟨(some 20), none, [1, 3], .bin .shl (.t 17) (.t 19)⟩, ⟨(some 21), none, [4], .build [(u 0), (u 0)] [(0, 1, (.t 20))]⟩, ⟨none, none, [5, 0, 1, 2, 3, 4, 5], .store (.t 4) (.t 21) 2⟩])
 .ret) .skip)))))))
 (.seq (.reg true [⟨(some 22), none, [], .padd (.t 2) 0⟩, ⟨(some 23), none, [0], .loadE (.t 22) 1 false⟩, ⟨(some 24), none, [], .copy (.t 1)⟩, ⟨(some 25), none, [1, 2], .bin .shl (.t 23) (.t 24)⟩, ⟨(some 26), none, [], .padd (.t 2) 1⟩, ⟨(some 27), none, [4], .loadE (.t 26) 1 false⟩, ⟨(some 28), none, [], .copy (.t 1)⟩, ⟨(some 29), none, [6], .bin .sub (.c (i 64)) (.t 28)⟩, ⟨(some 30), none, [5, 7], .bin .shr (.t 27) (.t 29)⟩, ⟨(some 31), none, [3, 8], .bin .or (.t 25) (.t 30)⟩, ⟨(some 32), none, [], .padd (.t 2) 1⟩, ⟨(some 33), none, [10], .loadE (.t 32) 1 false⟩, ⟨(some 34), none, [], .copy (.t 1)⟩, ⟨(some 35), none, [11, 12], .bin .shl (.t 33) (.t 34)⟩, ⟨(some 36), none, [9, 13], .build [(u 0), (u 0)] [(0, 1, (.t 31)), (1, 1, (.t 35))]⟩, ⟨none, none, [14, 0, 1, 2, 3, 4, 5, 6, 7, 8, 9, 10, 11, 12, 13, 14], .store (.t 4) (.t 36) 2⟩])
 .ret)))
theorem is130 : FnIs Tryz.prog (z130 ++ pures) 130 n130 c130 r130 := ⟨⟨Tryz.f130, Tryz.f130.body.getD .skip, by kernel_rfl, by kernel_rfl, by kernel_rfl, by kernel_rfl, by kernel_rfl, by kernel_rfl⟩⟩
-- 132
def z132 : List Nat := []
def n132 : Nat := 21
def r132 : List RV := [.tmp 2]
def c132 : PCode :=
 (.seq (.reg false [⟨(some 2), none, [], .copy (.c (bo false))⟩])
 (.seq (.reg false [⟨(some 3), none, [], .copy (.t 0)⟩, ⟨(some 4), none, [0], .bin .geq (.t 3) (.c (y 97))⟩, ⟨(some 5), none, [1], .copy (.t 4)⟩, ⟨(some 6), (some (5, true)), [2], .copy (.t 0)⟩, ⟨(some 7), (some (5, true)), [3, 2], .bin .leq (.t 6) (.c (y 122))⟩, ⟨(some 8), none, [2, 4], .pick (.t 5) (.t 7) (.c (bo false))⟩, ⟨(some 9), none, [5, 2], .copy (.t 8)⟩, ⟨(some 10), (some (9, false)), [6], .copy (.t 0)⟩, ⟨(some 11), (some (9, false)), [7, 6], .bin .geq (.t 10) (.c (y 48))⟩, ⟨(some 12), (some (9, false)), [8, 6, 6], .copy (.t 11)⟩, ⟨(some 13), (some (12, true)), [9], .copy (.t 0)⟩, ⟨(some 14), (some (12, true)), [10, 9], .bin .leq (.t 13) (.c (y 57))⟩, ⟨(some 15), (some (9, false)), [9, 11, 6], .pick (.t 12) (.t 14) (.c (bo false))⟩, ⟨(some 16), none, [6, 12], .pick (.t 9) (.c (bo true)) (.t 15)⟩, ⟨(some 17), none, [13, 9], .copy (.t 16)⟩, ⟨(some 18), (some (17, false)), [14], .copy (.t 0)⟩, ⟨(some 19), (some (17, false)), [15, 14], .bin .eql (.t 18) (.c (y 95))⟩, ⟨(some 20), none, [14, 16], .pick (.t 17) (.c (bo true)) (.t 19)⟩, ⟨(some 2), none, [17, 14, 0, 1, 2, 3, 4, 5, 6, 7, 8, 9, 10, 11, 12, 13, 14, 15, 16, 17], .copy (.t 20)⟩])
 .ret))
theorem is132 : FnIs Tryz.prog (z132 ++ pures) 132 n132 c132 r132 := ⟨⟨Tryz.f132, Tryz.f132.body.getD .skip, by kernel_rfl, by kernel_rfl, by kernel_rfl, by kernel_rfl, by kernel_rfl, by kernel_rfl⟩⟩
-- 133
def z133 : List Nat := []
def n133 : Nat := 19
def r133 : List RV := [.tmp 4]
def c133 : PCode :=
 (.seq (.reg false [⟨(some 4), none, [], .copy (.c (i 0))⟩])
 (.seq (.seq (.reg false [⟨(some 6), none, [], .copy (.t 0)⟩, ⟨(some 7), none, [0], .len (.t 6)⟩, ⟨(some 8), none, [], .copy (.c (i 0))⟩])
 (.block 0 (.loop (.seq (.reg false [⟨(some 9), none, [], .bin .lss (.t 8) (.t 7)⟩])
 (.seq (.cond (.t 9) .skip (.exit 0))
 (.seq (.block 1 (.seq (.reg false [⟨(some 10), none, [], .copy (.t 8)⟩, ⟨(some 5), none, [0, 0], .copy (.t 10)⟩])
 (.seq (.reg false [⟨(some 11), none, [], .copy (.t 1)⟩, ⟨(some 12), none, [], .copy (.t 0)⟩, ⟨(some 13), none, [], .copy (.t 5)⟩, ⟨(some 14), none, [1, 2], .pidxS (.t 12) (.t 13) 1⟩, ⟨(some 15), none, [3], .load (.t 14) 1 false⟩, ⟨(some 16), none, [0, 4], .callv (.t 11) [(.t 15)]⟩])
 (.cond (.t 16) (.seq (.reg false [⟨(some 17), none, [], .copy (.t 5)⟩, ⟨(some 4), none, [0, 0], .copy (.t 17)⟩])
 .ret) .skip))))
 (.reg false [⟨(some 18), none, [], .bin .add (.t 8) (.c (i 1))⟩, ⟨(some 8), none, [0], .copy (.t 18)⟩])))))))
 (.seq (.reg false [⟨(some 4), none, [], .copy (.c (i (-1)))⟩])
 .ret)))
theorem is133 : FnIs Tryz.prog (z133 ++ pures) 133 n133 c133 r133 := ⟨⟨Tryz.f133, Tryz.f133.body.getD .skip, by kernel_rfl, by kernel_rfl, by kernel_rfl, by kernel_rfl, by kernel_rfl, by kernel_rfl⟩⟩
-- 134
def z134 : List Nat := []
def n134 : Nat := 22
def r134 : List RV := [.tmp 2]
def c134 : PCode :=
 (.seq (.reg false [⟨(some 2), none, [], .copy (.c (tx []))⟩])
 (.seq (.reg false [⟨(some 3), none, [], .copy (.c (tx []))⟩])
 (.seq (.seq (.reg false [⟨(some 4), none, [], .copy (.c (i 0))⟩])
 (.block 0 (.loop (.seq (.seq (.reg false [⟨(some 5), none, [], .copy (.t 4)⟩, ⟨(some 6), none, [], .copy (.t 0)⟩, ⟨(some 7), none, [1], .len (.t 6)⟩, ⟨(some 8), none, [0, 2], .bin .lss (.t 5) (.t 7)⟩])
 (.cond (.t 8) .skip (.exit 0)))
 (.seq (.block 1 (.seq (.seq (.reg false [⟨(some 11), none, [], .copy (.t 4)⟩, ⟨(some 12), none, [0], .bin .gtr (.t 11) (.c (i 0))⟩])
 (.cond (.t 12) (.reg false [⟨(some 13), none, [], .copy (.t 3)⟩, ⟨(some 14), none, [0], .bin .add (.t 13) (.c (tx [46]))⟩, ⟨(some 3), none, [1, 0, 1], .copy (.t 14)⟩]) .skip))
 (.reg false [⟨(some 15), none, [], .copy (.t 3)⟩, ⟨(some 16), none, [], .copy (.t 0)⟩, ⟨(some 17), none, [], .copy (.t 4)⟩, ⟨(some 18), none, [1, 2], .pidxS (.t 16) (.t 17) 1⟩, ⟨(some 19), none, [3], .load (.t 18) 1 false⟩, ⟨(some 20), none, [0, 4], .bin .add (.t 15) (.t 19)⟩, ⟨(some 3), none, [5, 0, 1, 2, 3, 4, 5], .copy (.t 20)⟩])))
 (.reg false [⟨(some 9), none, [], .copy (.t 4)⟩, ⟨(some 10), none, [0], .bin .add (.t 9) (.c (i 1))⟩, ⟨(some 4), none, [1, 0, 1], .copy (.t 10)⟩]))))))
 (.seq (.reg false [⟨(some 21), none, [], .copy (.t 3)⟩, ⟨(some 2), none, [0, 0], .copy (.t 21)⟩])
 .ret))))
theorem is134 : FnIs Tryz.prog (z134 ++ pures) 134 n134 c134 r134 := ⟨⟨Tryz.f134, Tryz.f134.body.getD .skip, by kernel_rfl, by kernel_rfl, by kernel_rfl, by kernel_rfl, by kernel_rfl, by kernel_rfl⟩⟩
theorem mixed : Tryz.prog.follows .mixedOrders = true := by kernel_rfl
end Go.Pi.M
