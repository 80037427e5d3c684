/- The small form of each function, as the machine reckons it. -/
import Derived.Test.YtpmbebdcbejlkaaMoiV
import Derived.Test.YtpmbebdcbejlkaaChecked
set_option linter.unusedVariables false
set_option maxRecDepth 100000
namespace Go.Proofs.Ytpmbebdcbejlkaa.Moi
open Go Go.RowKit

def n3 : NCode :=
  .seq (.ops [
    ⟨(some 6), none, .op (.move (.k (bo false))), []⟩])
  (.seq (.seq (.ops [
    ⟨(some 18), none, .op (.move (.r 1)), []⟩,
    ⟨(some 19), none, .op (.lenL (.r 18)), []⟩,
    ⟨(some 20), none, .op (.bin .gtr .other (.r 19) (.k (i64 60))), []⟩,
    ⟨(some 21), none, .op (.move (.r 20)), []⟩,
    ⟨(some 22), (some (21, false)), .op (.move (.r 2)), []⟩,
    ⟨(some 23), (some (21, false)), .op (.bin .lss .other (.r 22) (.k (i64 0))), []⟩,
    ⟨(some 24), none, .op (.pick (.r 21) (.k (bo true)) (.r 23)), []⟩,
    ⟨(some 25), none, .op (.move (.r 24)), []⟩,
    ⟨(some 26), (some (25, false)), .op (.move (.r 2)), []⟩,
    ⟨(some 27), (some (25, false)), .op (.move (.r 1)), []⟩,
    ⟨(some 28), (some (25, false)), .op (.lenL (.r 27)), []⟩,
    ⟨(some 29), (some (25, false)), .op (.bin .gtr .other (.r 26) (.r 28)), []⟩,
    ⟨(some 30), none, .op (.pick (.r 25) (.k (bo true)) (.r 29)), []⟩,
    ⟨(some 31), none, .op (.move (.r 30)), []⟩,
    ⟨(some 32), (some (31, false)), .op (.move (.r 2)), []⟩,
    ⟨(some 33), (some (31, false)), .op (.bin .gtr .other (.r 32) (.k (i64 12))), []⟩,
    ⟨(some 34), none, .op (.pick (.r 31) (.k (bo true)) (.r 33)), []⟩])
  (.cond (.r 34)
  (.seq (.ops [
    ⟨(some 35), none, .call (.k (.clos 7 [])) [], []⟩,
    ⟨(some 6), none, .op (.move (.r 35)), []⟩])
  (.ret))
  (.skip)))
  (.seq (.ops [
    ⟨(some 36), none, .op (.move (.r 0)), []⟩,
    ⟨(some 37), none, .call (.k (.clos 8 [])) [(.r 36)], []⟩,
    ⟨(some 7), none, .op (.move (.r 37)), []⟩])
  (.seq (.ops [
    ⟨(some 38), none, .op (.move (.r 0)), []⟩,
    ⟨(some 39), none, .op (.buildSlice none [(i64 0)] 1 [(0, (.r 38))]), []⟩,
    ⟨(some 8), none, .op (.move (.r 39)), []⟩])
  (.seq (.seq (.ops [
    ⟨(some 9), none, .op (.move (.k (i64 0))), []⟩])
  (.block 0 (.loop (.seq (.seq (.ops [
    ⟨(some 40), none, .op (.move (.r 9)), []⟩,
    ⟨(some 41), none, .op (.move (.r 1)), []⟩,
    ⟨(some 42), none, .op (.lenL (.r 41)), []⟩,
    ⟨(some 43), none, .op (.bin .lss .other (.r 40) (.r 42)), []⟩])
  (.cond (.r 43)
  (.skip)
  (.exit 0)))
  (.seq (.block 1 (.seq (.ops [
    ⟨(some 46), none, .op (.move (.r 7)), []⟩,
    ⟨(some 47), none, .op (.move (.r 1)), []⟩,
    ⟨(some 48), none, .op (.move (.r 9)), []⟩,
    ⟨(some 49), none, .op (.idxAddr 1 (.r 47) (.r 48)), []⟩,
    ⟨(some 50), none, .op (.load none (.r 49)), []⟩,
    ⟨(some 51), none, .call (.k (.clos 9 [])) [(.r 46), (.r 50)], []⟩])
  (.ops [
    ⟨(some 52), none, .op (.move (.r 8)), []⟩,
    ⟨(some 53), none, .op (.move (.r 1)), []⟩,
    ⟨(some 54), none, .op (.move (.r 9)), []⟩,
    ⟨(some 55), none, .op (.idxAddr 1 (.r 53) (.r 54)), []⟩,
    ⟨(some 56), none, .op (.load none (.r 55)), []⟩,
    ⟨(some 57), none, .op (.buildSlice none [(i64 0)] 1 [(0, (.r 56))]), []⟩,
    ⟨(some 58), none, .op (.append false none 8 [(i64 0)] (.r 52) (.r 57)), []⟩,
    ⟨(some 8), none, .op (.move (.r 58)), []⟩])))
  (.ops [
    ⟨(some 44), none, .op (.move (.r 9)), []⟩,
    ⟨(some 45), none, .op (.bin .add .other (.r 44) (.k (i64 1))), []⟩,
    ⟨(some 9), none, .op (.move (.r 45)), []⟩]))))))
  (.seq (.seq (.ops [
    ⟨(some 10), none, .op (.move (.k (i64 1))), []⟩])
  (.block 2 (.loop (.seq (.seq (.ops [
    ⟨(some 59), none, .op (.move (.r 10)), []⟩,
    ⟨(some 60), none, .op (.move (.r 2)), []⟩,
    ⟨(some 61), none, .op (.bin .leq .other (.r 59) (.r 60)), []⟩])
  (.cond (.r 61)
  (.skip)
  (.exit 2)))
  (.seq (.block 3 (.seq (.ops [
    ⟨(some 65), none, .op (.move (.r 7)), []⟩,
    ⟨(some 66), none, .call (.k (.clos 10 [])) [(.r 65)], []⟩,
    ⟨(some 64), none, .op (.move (.r 66)), []⟩,
    ⟨(some 67), none, .op (.extract 0 (.r 64)), []⟩,
    ⟨(some 68), none, .op (.extract 1 (.r 64)), []⟩,
    ⟨(some 11), none, .op (.move (.r 67)), []⟩,
    ⟨(some 12), none, .op (.move (.r 68)), []⟩])
  (.seq (.ops [
    ⟨(some 69), none, .op (.move (.r 11)), []⟩,
    ⟨(some 70), none, .op (.move (.r 8)), []⟩,
    ⟨(some 71), none, .op (.move (.r 8)), []⟩,
    ⟨(some 72), none, .op (.lenL (.r 71)), []⟩,
    ⟨(some 73), none, .op (.bin .sub .other (.r 72) (.k (i64 1))), []⟩,
    ⟨(some 74), none, .op (.move (.r 10)), []⟩,
    ⟨(some 75), none, .op (.bin .sub .other (.r 73) (.r 74)), []⟩,
    ⟨(some 76), none, .op (.idxAddr 1 (.r 70) (.r 75)), []⟩,
    ⟨(some 77), none, .op (.load none (.r 76)), []⟩,
    ⟨(some 78), none, .op (.bin .neq .other (.r 69) (.r 77)), []⟩,
    ⟨(some 79), none, .op (.move (.r 78)), []⟩,
    ⟨(some 80), (some (79, false)), .op (.move (.r 12)), []⟩,
    ⟨(some 81), (some (79, false)), .op (.bin .neq .other (.r 80) (.k (i64 0))), []⟩,
    ⟨(some 82), none, .op (.pick (.r 79) (.k (bo true)) (.r 81)), []⟩,
    ⟨(some 83), none, .op (.move (.r 82)), []⟩,
    ⟨(some 84), (some (83, false)), .op (.move (.r 7)), []⟩,
    ⟨(some 85), (some (83, false)), .call (.k (.clos 11 [])) [(.r 84)], []⟩,
    ⟨(some 86), (some (83, false)), .op (.move (.r 11)), []⟩,
    ⟨(some 87), (some (83, false)), .op (.bin .neq .other (.r 85) (.r 86)), []⟩,
    ⟨(some 88), none, .op (.pick (.r 83) (.k (bo true)) (.r 87)), []⟩])
  (.cond (.r 88)
  (.seq (.ops [
    ⟨(some 6), none, .op (.move (.k (bo false))), []⟩])
  (.ret))
  (.skip)))))
  (.ops [
    ⟨(some 62), none, .op (.move (.r 10)), []⟩,
    ⟨(some 63), none, .op (.bin .add .other (.r 62) (.k (i64 1))), []⟩,
    ⟨(some 10), none, .op (.move (.r 63)), []⟩]))))))
  (.seq (.seq (.ops [
    ⟨(some 89), none, .op (.move (.r 2)), []⟩,
    ⟨(some 90), none, .op (.bin .sub .other (.r 89) (.k (i64 1))), []⟩,
    ⟨(some 13), none, .op (.move (.r 90)), []⟩])
  (.block 4 (.loop (.seq (.seq (.ops [
    ⟨(some 91), none, .op (.move (.r 13)), []⟩,
    ⟨(some 92), none, .op (.bin .geq .other (.r 91) (.k (i64 0))), []⟩])
  (.cond (.r 92)
  (.skip)
  (.exit 4)))
  (.seq (.block 5 (.seq (.ops [
    ⟨(some 96), none, .op (.move (.r 7)), []⟩,
    ⟨(some 97), none, .call (.k (.clos 12 [])) [(.r 96)], []⟩,
    ⟨(some 95), none, .op (.move (.r 97)), []⟩,
    ⟨(some 98), none, .op (.extract 0 (.r 95)), []⟩,
    ⟨(some 99), none, .op (.extract 1 (.r 95)), []⟩,
    ⟨(some 14), none, .op (.move (.r 98)), []⟩,
    ⟨(some 15), none, .op (.move (.r 99)), []⟩])
  (.seq (.ops [
    ⟨(some 100), none, .op (.move (.r 14)), []⟩,
    ⟨(some 101), none, .op (.move (.r 8)), []⟩,
    ⟨(some 102), none, .op (.move (.r 8)), []⟩,
    ⟨(some 103), none, .op (.lenL (.r 102)), []⟩,
    ⟨(some 104), none, .op (.bin .sub .other (.r 103) (.k (i64 1))), []⟩,
    ⟨(some 105), none, .op (.move (.r 13)), []⟩,
    ⟨(some 106), none, .op (.bin .sub .other (.r 104) (.r 105)), []⟩,
    ⟨(some 107), none, .op (.idxAddr 1 (.r 101) (.r 106)), []⟩,
    ⟨(some 108), none, .op (.load none (.r 107)), []⟩,
    ⟨(some 109), none, .op (.bin .neq .other (.r 100) (.r 108)), []⟩,
    ⟨(some 110), none, .op (.move (.r 109)), []⟩,
    ⟨(some 111), (some (110, false)), .op (.move (.r 15)), []⟩,
    ⟨(some 112), (some (110, false)), .op (.bin .neq .other (.r 111) (.k (i64 0))), []⟩,
    ⟨(some 113), none, .op (.pick (.r 110) (.k (bo true)) (.r 112)), []⟩])
  (.cond (.r 113)
  (.seq (.ops [
    ⟨(some 6), none, .op (.move (.k (bo false))), []⟩])
  (.ret))
  (.skip)))))
  (.ops [
    ⟨(some 93), none, .op (.move (.r 13)), []⟩,
    ⟨(some 94), none, .op (.bin .sub .other (.r 93) (.k (i64 1))), []⟩,
    ⟨(some 13), none, .op (.move (.r 94)), []⟩]))))))
  (.seq (.ops [
    ⟨(some 115), none, .op (.move (.r 7)), []⟩,
    ⟨(some 116), none, .call (.k (.clos 12 [])) [(.r 115)], []⟩,
    ⟨(some 114), none, .op (.move (.r 116)), []⟩,
    ⟨(some 117), none, .op (.extract 0 (.r 114)), []⟩,
    ⟨(some 118), none, .op (.extract 1 (.r 114)), []⟩,
    ⟨(some 16), none, .op (.move (.r 117)), []⟩,
    ⟨(some 17), none, .op (.move (.r 118)), []⟩])
  (.seq (.ops [
    ⟨(some 119), none, .op (.move (.r 17)), []⟩,
    ⟨(some 120), none, .op (.bin .eql .other (.r 119) (.k (i64 19))), []⟩,
    ⟨(some 121), none, .op (.move (.r 120)), []⟩,
    ⟨(some 122), (some (121, true)), .op (.move (.r 7)), []⟩,
    ⟨(some 124), (some (121, true)), .op (.move (.r 8)), []⟩,
    ⟨(some 125), (some (121, true)), .op (.move (.r 8)), []⟩,
    ⟨(some 126), (some (121, true)), .op (.lenL (.r 125)), []⟩,
    ⟨(some 127), (some (121, true)), .op (.bin .sub .other (.r 126) (.k (i64 1))), []⟩,
    ⟨(some 128), (some (121, true)), .op (.idxAddr 1 (.r 124) (.r 127)), []⟩,
    ⟨(some 129), (some (121, true)), .op (.load none (.r 128)), []⟩,
    ⟨(some 123), (some (121, true)), .call (.k (.clos 11 [])) [(.r 122)], [⟨129, (some (121, true)), .load none (.r 128)⟩]⟩,
    ⟨(some 130), (some (121, true)), .op (.bin .eql .other (.r 123) (.r 129)), []⟩,
    ⟨(some 131), none, .op (.pick (.r 121) (.r 130) (.k (bo false))), []⟩,
    ⟨(some 132), none, .op (.move (.r 131)), []⟩,
    ⟨(some 133), (some (132, true)), .call (.k (.clos 7 [])) [], []⟩,
    ⟨(some 134), none, .op (.pick (.r 132) (.r 133) (.k (bo false))), []⟩,
    ⟨(some 6), none, .op (.move (.r 134)), []⟩])
  (.ret)))))))))
theorem e3 : Try.f3.body.map (normCode Try.prog false Try.f3.ntmps) = some n3 := by kernel_rfl
theorem r3 : resOf Try.f3 = some [6] := by kernel_rfl

def n4 : NCode :=
  .seq (.ops [
    ⟨(some 4), none, .op (.move (.k (bo false))), []⟩])
  (.seq (.ops [
    ⟨(some 16), none, .op (.move (.r 0)), []⟩,
    ⟨(some 17), none, .call (.k (.clos 8 [])) [(.r 16)], []⟩,
    ⟨(some 5), none, .op (.move (.r 17)), []⟩])
  (.seq (.ops [
    ⟨(some 18), none, .op (.move (.r 0)), []⟩,
    ⟨(some 19), none, .call (.k (.clos 13 [])) [(.r 18)], []⟩,
    ⟨(some 6), none, .op (.move (.r 19)), []⟩])
  (.seq (.seq (.ops [
    ⟨(some 20), none, .op (.move (.r 5)), []⟩,
    ⟨(some 21), none, .op (.bin .eql .pointer (.r 20) (.k (.sc (.pointer none)))), []⟩,
    ⟨(some 22), none, .op (.move (.r 21)), []⟩,
    ⟨(some 23), (some (22, false)), .op (.move (.r 5)), []⟩,
    ⟨(some 24), (some (22, false)), .op (.move (.r 6)), []⟩,
    ⟨(some 25), (some (22, false)), .call (.k (.clos 14 [])) [(.r 23), (.r 24)], []⟩,
    ⟨(some 26), (some (22, false)), .op (.un .not (.r 25)), []⟩,
    ⟨(some 27), none, .op (.pick (.r 22) (.k (bo true)) (.r 26)), []⟩])
  (.cond (.r 27)
  (.seq (.ops [
    ⟨(some 4), none, .op (.move (.k (bo false))), []⟩])
  (.ret))
  (.skip)))
  (.seq (.seq (.ops [
    ⟨(some 7), none, .op (.move (.k (i64 0))), []⟩])
  (.block 0 (.loop (.seq (.seq (.ops [
    ⟨(some 28), none, .op (.move (.r 7)), []⟩,
    ⟨(some 29), none, .op (.move (.r 1)), []⟩,
    ⟨(some 30), none, .op (.lenL (.r 29)), []⟩,
    ⟨(some 31), none, .op (.bin .lss .other (.r 28) (.r 30)), []⟩,
    ⟨(some 32), none, .op (.move (.r 31)), []⟩,
    ⟨(some 33), (some (32, true)), .op (.move (.r 7)), []⟩,
    ⟨(some 34), (some (32, true)), .op (.bin .lss .other (.r 33) (.k (i64 100))), []⟩,
    ⟨(some 35), none, .op (.pick (.r 32) (.r 34) (.k (bo false))), []⟩])
  (.cond (.r 35)
  (.skip)
  (.exit 0)))
  (.seq (.block 1 (.seq (.seq (.ops [
    ⟨(some 38), none, .op (.move (.r 1)), []⟩,
    ⟨(some 39), none, .op (.move (.r 7)), []⟩,
    ⟨(some 40), none, .op (.idxAddr 2 (.r 38) (.r 39)), []⟩,
    ⟨(some 41), none, .op (.fieldAddr 0 (.r 40)), []⟩,
    ⟨(some 42), none, .op (.load none (.r 41)), []⟩,
    ⟨(some 43), none, .op (.bin .rem .other (.r 42) (.k (i64 3))), []⟩])
  (.block 2 (.seq (.ops [
    ⟨(some 63), none, .op (.bin .eql .other (.r 43) (.k (i64 0))), []⟩,
    ⟨(some 62), none, .op (.move (.r 63)), []⟩])
  (.cond (.r 62)
  (.seq (.ops [
    ⟨(some 64), none, .op (.move (.r 5)), []⟩,
    ⟨(some 65), none, .op (.move (.r 1)), []⟩,
    ⟨(some 66), none, .op (.move (.r 7)), []⟩,
    ⟨(some 67), none, .op (.idxAddr 2 (.r 65) (.r 66)), []⟩,
    ⟨(some 68), none, .op (.fieldAddr 1 (.r 67)), []⟩,
    ⟨(some 69), none, .op (.load none (.r 68)), []⟩,
    ⟨(some 71), none, .op (.move (.r 6)), []⟩,
    ⟨(some 72), none, .op (.move (.r 1)), []⟩,
    ⟨(some 73), none, .op (.move (.r 7)), []⟩,
    ⟨(some 74), none, .op (.idxAddr 2 (.r 72) (.r 73)), []⟩,
    ⟨(some 75), none, .op (.fieldAddr 1 (.r 74)), []⟩,
    ⟨(some 76), none, .op (.load none (.r 75)), []⟩,
    ⟨(some 70), none, .call (.k (.clos 9 [])) [(.r 64), (.r 69)], [⟨76, none, .load none (.r 75)⟩]⟩,
    ⟨(some 77), none, .call (.k (.clos 16 [])) [(.r 71), (.r 76)], []⟩,
    ⟨(some 78), none, .call (.k (.clos 15 [])) [(.r 70), (.r 77)], []⟩,
    ⟨(some 79), none, .op (.un .not (.r 78)), []⟩])
  (.cond (.r 79)
  (.seq (.ops [
    ⟨(some 4), none, .op (.move (.k (bo false))), []⟩])
  (.ret))
  (.skip)))
  (.seq (.ops [
    ⟨(some 81), none, .op (.bin .eql .other (.r 43) (.k (i64 1))), []⟩,
    ⟨(some 80), none, .op (.move (.r 81)), []⟩])
  (.cond (.r 80)
  (.seq (.ops [
    ⟨(some 83), none, .op (.move (.r 5)), []⟩,
    ⟨(some 84), none, .call (.k (.clos 10 [])) [(.r 83)], []⟩,
    ⟨(some 82), none, .op (.move (.r 84)), []⟩,
    ⟨(some 85), none, .op (.extract 0 (.r 82)), []⟩,
    ⟨(some 86), none, .op (.extract 1 (.r 82)), []⟩,
    ⟨(some 8), none, .op (.move (.r 85)), []⟩,
    ⟨(some 9), none, .op (.move (.r 86)), []⟩])
  (.seq (.ops [
    ⟨(some 88), none, .op (.move (.r 6)), []⟩,
    ⟨(some 89), none, .call (.k (.clos 17 [])) [(.r 88)], []⟩,
    ⟨(some 87), none, .op (.move (.r 89)), []⟩,
    ⟨(some 90), none, .op (.extract 0 (.r 87)), []⟩,
    ⟨(some 91), none, .op (.extract 1 (.r 87)), []⟩,
    ⟨(some 10), none, .op (.move (.r 90)), []⟩,
    ⟨(some 11), none, .op (.move (.r 91)), []⟩])
  (.seq (.ops [
    ⟨(some 92), none, .op (.move (.r 8)), []⟩,
    ⟨(some 93), none, .op (.move (.r 10)), []⟩,
    ⟨(some 94), none, .op (.bin .neq .other (.r 92) (.r 93)), []⟩,
    ⟨(some 95), none, .op (.move (.r 94)), []⟩,
    ⟨(some 96), (some (95, false)), .op (.move (.r 9)), []⟩,
    ⟨(some 97), (some (95, false)), .op (.move (.r 11)), []⟩,
    ⟨(some 98), (some (95, false)), .op (.bin .neq .other (.r 96) (.r 97)), []⟩,
    ⟨(some 99), none, .op (.pick (.r 95) (.k (bo true)) (.r 98)), []⟩])
  (.cond (.r 99)
  (.seq (.ops [
    ⟨(some 4), none, .op (.move (.k (bo false))), []⟩])
  (.ret))
  (.skip)))))
  (.seq (.ops [
    ⟨(some 45), none, .op (.move (.r 5)), []⟩,
    ⟨(some 46), none, .call (.k (.clos 12 [])) [(.r 45)], []⟩,
    ⟨(some 44), none, .op (.move (.r 46)), []⟩,
    ⟨(some 47), none, .op (.extract 0 (.r 44)), []⟩,
    ⟨(some 48), none, .op (.extract 1 (.r 44)), []⟩,
    ⟨(some 12), none, .op (.move (.r 47)), []⟩,
    ⟨(some 13), none, .op (.move (.r 48)), []⟩])
  (.seq (.ops [
    ⟨(some 50), none, .op (.move (.r 6)), []⟩,
    ⟨(some 51), none, .call (.k (.clos 18 [])) [(.r 50)], []⟩,
    ⟨(some 49), none, .op (.move (.r 51)), []⟩,
    ⟨(some 52), none, .op (.extract 0 (.r 49)), []⟩,
    ⟨(some 53), none, .op (.extract 1 (.r 49)), []⟩,
    ⟨(some 14), none, .op (.move (.r 52)), []⟩,
    ⟨(some 15), none, .op (.move (.r 53)), []⟩])
  (.seq (.ops [
    ⟨(some 54), none, .op (.move (.r 12)), []⟩,
    ⟨(some 55), none, .op (.move (.r 14)), []⟩,
    ⟨(some 56), none, .op (.bin .neq .other (.r 54) (.r 55)), []⟩,
    ⟨(some 57), none, .op (.move (.r 56)), []⟩,
    ⟨(some 58), (some (57, false)), .op (.move (.r 13)), []⟩,
    ⟨(some 59), (some (57, false)), .op (.move (.r 15)), []⟩,
    ⟨(some 60), (some (57, false)), .op (.bin .neq .other (.r 58) (.r 59)), []⟩,
    ⟨(some 61), none, .op (.pick (.r 57) (.k (bo true)) (.r 60)), []⟩])
  (.cond (.r 61)
  (.seq (.ops [
    ⟨(some 4), none, .op (.move (.k (bo false))), []⟩])
  (.ret))
  (.skip)))))))))))
  (.seq (.ops [
    ⟨(some 100), none, .op (.move (.r 5)), []⟩,
    ⟨(some 101), none, .op (.move (.r 6)), []⟩,
    ⟨(some 102), none, .call (.k (.clos 14 [])) [(.r 100), (.r 101)], []⟩,
    ⟨(some 103), none, .op (.un .not (.r 102)), []⟩])
  (.cond (.r 103)
  (.seq (.ops [
    ⟨(some 4), none, .op (.move (.k (bo false))), []⟩])
  (.ret))
  (.skip)))))
  (.ops [
    ⟨(some 36), none, .op (.move (.r 7)), []⟩,
    ⟨(some 37), none, .op (.bin .add .other (.r 36) (.k (i64 1))), []⟩,
    ⟨(some 7), none, .op (.move (.r 37)), []⟩]))))))
  (.seq (.ops [
    ⟨(some 104), none, .call (.k (.clos 7 [])) [], []⟩,
    ⟨(some 4), none, .op (.move (.r 104)), []⟩])
  (.ret))))))
theorem e4 : Try.f4.body.map (normCode Try.prog false Try.f4.ntmps) = some n4 := by kernel_rfl
theorem r4 : resOf Try.f4 = some [4] := by kernel_rfl

def n5 : NCode :=
  .seq (.ops [
    ⟨(some 2), none, .op (.move (.k (bo false))), []⟩])
  (.seq (.ops [
    ⟨(some 3), none, .op (.move (.k (.sc (.pointer none)))), []⟩])
  (.seq (.ops [
    ⟨(some 9), none, .op (.move (.r 3)), []⟩,
    ⟨(some 10), none, .call (.k (.clos 10 [])) [(.r 9)], []⟩,
    ⟨(some 8), none, .op (.move (.r 10)), []⟩,
    ⟨(some 11), none, .op (.extract 0 (.r 8)), []⟩,
    ⟨(some 12), none, .op (.extract 1 (.r 8)), []⟩,
    ⟨(some 4), none, .op (.move (.r 11)), []⟩,
    ⟨(some 5), none, .op (.move (.r 12)), []⟩])
  (.seq (.ops [
    ⟨(some 14), none, .op (.move (.r 3)), []⟩,
    ⟨(some 15), none, .call (.k (.clos 12 [])) [(.r 14)], []⟩,
    ⟨(some 13), none, .op (.move (.r 15)), []⟩,
    ⟨(some 16), none, .op (.extract 0 (.r 13)), []⟩,
    ⟨(some 17), none, .op (.extract 1 (.r 13)), []⟩,
    ⟨(some 6), none, .op (.move (.r 16)), []⟩,
    ⟨(some 7), none, .op (.move (.r 17)), []⟩])
  (.seq (.ops [
    ⟨(some 18), none, .op (.move (.r 3)), []⟩,
    ⟨(some 19), none, .call (.k (.clos 11 [])) [(.r 18)], []⟩,
    ⟨(some 20), none, .op (.bin .eql .other (.r 19) (.k (i64 0))), []⟩,
    ⟨(some 21), none, .op (.move (.r 20)), []⟩,
    ⟨(some 22), (some (21, true)), .op (.move (.r 3)), []⟩,
    ⟨(some 23), (some (21, true)), .op (.move (.r 0)), []⟩,
    ⟨(some 24), (some (21, true)), .call (.k (.clos 9 [])) [(.r 22), (.r 23)], []⟩,
    ⟨(some 25), (some (21, true)), .op (.lenL (.r 24)), []⟩,
    ⟨(some 26), (some (21, true)), .op (.bin .eql .other (.r 25) (.k (i64 0))), []⟩,
    ⟨(some 27), none, .op (.pick (.r 21) (.r 26) (.k (bo false))), []⟩,
    ⟨(some 28), none, .op (.move (.r 27)), []⟩,
    ⟨(some 29), (some (28, true)), .op (.move (.r 5)), []⟩,
    ⟨(some 30), (some (28, true)), .op (.bin .eql .other (.r 29) (.k (i64 1))), []⟩,
    ⟨(some 31), none, .op (.pick (.r 28) (.r 30) (.k (bo false))), []⟩,
    ⟨(some 32), none, .op (.move (.r 31)), []⟩,
    ⟨(some 33), (some (32, true)), .op (.move (.r 7)), []⟩,
    ⟨(some 34), (some (32, true)), .op (.bin .eql .other (.r 33) (.k (i64 1))), []⟩,
    ⟨(some 35), none, .op (.pick (.r 32) (.r 34) (.k (bo false))), []⟩,
    ⟨(some 36), none, .op (.move (.r 35)), []⟩,
    ⟨(some 37), (some (36, true)), .op (.move (.r 3)), []⟩,
    ⟨(some 38), (some (36, true)), .call (.k (.clos 19 [])) [(.r 37)], []⟩,
    ⟨(some 39), (some (36, true)), .op (.bin .eql .other (.r 38) (.k (i64 0))), []⟩,
    ⟨(some 40), none, .op (.pick (.r 36) (.r 39) (.k (bo false))), []⟩,
    ⟨(some 41), none, .op (.move (.r 40)), []⟩,
    ⟨(some 42), (some (41, true)), .op (.move (.r 3)), []⟩,
    ⟨(some 43), (some (41, true)), .call (.k (.clos 20 [])) [(.r 42)], []⟩,
    ⟨(some 44), (some (41, true)), .op (.bin .eql .other (.r 43) (.k (i64 0))), []⟩,
    ⟨(some 45), none, .op (.pick (.r 41) (.r 44) (.k (bo false))), []⟩,
    ⟨(some 46), none, .op (.move (.r 45)), []⟩,
    ⟨(some 47), (some (46, true)), .op (.move (.r 3)), []⟩,
    ⟨(some 48), (some (46, true)), .call (.k (.clos 21 [])) [(.r 47)], []⟩,
    ⟨(some 49), (some (46, true)), .op (.lenL (.r 48)), []⟩,
    ⟨(some 50), (some (46, true)), .op (.bin .eql .other (.r 49) (.k (i64 0))), []⟩,
    ⟨(some 51), none, .op (.pick (.r 46) (.r 50) (.k (bo false))), []⟩,
    ⟨(some 52), none, .op (.move (.r 51)), []⟩,
    ⟨(some 53), (some (52, true)), .op (.move (.r 3)), []⟩,
    ⟨(some 54), (some (52, true)), .call (.k (.clos 22 [])) [(.r 53)], []⟩,
    ⟨(some 55), (some (52, true)), .op (.lenL (.r 54)), []⟩,
    ⟨(some 56), (some (52, true)), .op (.bin .eql .other (.r 55) (.k (i64 0))), []⟩,
    ⟨(some 57), none, .op (.pick (.r 52) (.r 56) (.k (bo false))), []⟩,
    ⟨(some 58), none, .op (.move (.r 57)), []⟩,
    ⟨(some 59), (some (58, true)), .call (.k (.clos 7 [])) [], []⟩,
    ⟨(some 60), none, .op (.pick (.r 58) (.r 59) (.k (bo false))), []⟩,
    ⟨(some 2), none, .op (.move (.r 60)), []⟩])
  (.ret)))))
theorem e5 : Try.f5.body.map (normCode Try.prog false Try.f5.ntmps) = some n5 := by kernel_rfl
theorem r5 : resOf Try.f5 = some [2] := by kernel_rfl

def n6 : NCode :=
  .seq (.ops [
    ⟨(some 8), none, .op (.move (.k (bo false))), []⟩])
  (.seq (.ops [
    ⟨(some 14), none, .op (.move (.r 0)), []⟩,
    ⟨(some 15), none, .op (.move (.r 1)), []⟩,
    ⟨(some 16), none, .op (.move (.r 2)), []⟩,
    ⟨(some 17), none, .call (.k (.clos 23 [])) [(.r 14), (.r 15), (.r 16)], []⟩,
    ⟨(some 13), none, .op (.move (.r 17)), []⟩,
    ⟨(some 18), none, .op (.extract 0 (.r 13)), []⟩,
    ⟨(some 19), none, .op (.extract 1 (.r 13)), []⟩,
    ⟨(some 9), none, .op (.move (.r 18)), []⟩,
    ⟨(some 10), none, .op (.move (.r 19)), []⟩])
  (.seq (.seq (.ops [
    ⟨(some 20), none, .op (.move (.r 0)), []⟩,
    ⟨(some 21), none, .op (.lenL (.r 20)), []⟩,
    ⟨(some 22), none, .op (.bin .gtr .other (.r 21) (.k (i64 12))), []⟩,
    ⟨(some 23), none, .op (.move (.r 22)), []⟩,
    ⟨(some 24), (some (23, false)), .op (.move (.r 2)), []⟩,
    ⟨(some 25), (some (23, false)), .op (.lenL (.r 24)), []⟩,
    ⟨(some 26), (some (23, false)), .op (.bin .gtr .other (.r 25) (.k (i64 12))), []⟩,
    ⟨(some 27), none, .op (.pick (.r 23) (.k (bo true)) (.r 26)), []⟩,
    ⟨(some 28), none, .op (.move (.r 27)), []⟩,
    ⟨(some 29), (some (28, false)), .op (.move (.r 0)), []⟩,
    ⟨(some 30), (some (28, false)), .op (.lenL (.r 29)), []⟩,
    ⟨(some 31), (some (28, false)), .op (.move (.r 2)), []⟩,
    ⟨(some 32), (some (28, false)), .op (.lenL (.r 31)), []⟩,
    ⟨(some 33), (some (28, false)), .op (.bin .add .other (.r 30) (.r 32)), []⟩,
    ⟨(some 34), (some (28, false)), .op (.bin .gtr .other (.r 33) (.k (i64 12))), []⟩,
    ⟨(some 35), none, .op (.pick (.r 28) (.k (bo true)) (.r 34)), []⟩])
  (.cond (.r 35)
  (.seq (.ops [
    ⟨(some 36), none, .op (.move (.r 10)), []⟩,
    ⟨(some 37), none, .op (.bin .eql .other (.r 36) (.k (i64 5))), []⟩,
    ⟨(some 38), none, .op (.move (.r 37)), []⟩,
    ⟨(some 39), (some (38, true)), .op (.move (.r 9)), []⟩,
    ⟨(some 40), (some (38, true)), .op (.bin .eql .pointer (.r 39) (.k (.sc (.pointer none)))), []⟩,
    ⟨(some 41), none, .op (.pick (.r 38) (.r 40) (.k (bo false))), []⟩,
    ⟨(some 42), none, .op (.move (.r 41)), []⟩,
    ⟨(some 43), (some (42, true)), .call (.k (.clos 7 [])) [], []⟩,
    ⟨(some 44), none, .op (.pick (.r 42) (.r 43) (.k (bo false))), []⟩,
    ⟨(some 8), none, .op (.move (.r 44)), []⟩])
  (.ret))
  (.skip)))
  (.seq (.seq (.ops [
    ⟨(some 45), none, .op (.move (.r 10)), []⟩,
    ⟨(some 46), none, .op (.bin .neq .other (.r 45) (.k (i64 0))), []⟩,
    ⟨(some 47), none, .op (.move (.r 46)), []⟩,
    ⟨(some 48), (some (47, false)), .op (.move (.r 9)), []⟩,
    ⟨(some 49), (some (47, false)), .op (.bin .eql .pointer (.r 48) (.k (.sc (.pointer none)))), []⟩,
    ⟨(some 50), none, .op (.pick (.r 47) (.k (bo true)) (.r 49)), []⟩])
  (.cond (.r 50)
  (.seq (.ops [
    ⟨(some 8), none, .op (.move (.k (bo false))), []⟩])
  (.ret))
  (.skip)))
  (.seq (.ops [
    ⟨(some 51), none, .op (.move (.r 0)), []⟩,
    ⟨(some 52), none, .op (.lenL (.r 51)), []⟩,
    ⟨(some 53), none, .op (.build [(.lst [] .nil), (i64 0)] [(1, 1, (.r 52))]), []⟩,
    ⟨(some 54), none, .op (.box (.r 53)), []⟩,
    ⟨(some 11), none, .op (.move (.r 54)), []⟩])
  (.seq (.ops [
    ⟨(some 55), none, .op (.move (.r 11)), []⟩,
    ⟨(some 56), none, .op (.move (.r 11)), []⟩,
    ⟨(some 57), none, .op (.nilCheck (.r 56)), []⟩,
    ⟨(some 58), none, .op (.fieldAddr 0 (.r 57)), []⟩,
    ⟨(some 59), none, .op (.load none (.r 58)), []⟩,
    ⟨(some 60), none, .op (.move (.r 0)), []⟩,
    ⟨(some 61), none, .op (.append false none 8 [(i64 0)] (.r 59) (.r 60)), []⟩,
    ⟨(some 62), none, .op (.nilCheck (.r 55)), []⟩,
    ⟨(some 63), none, .op (.fieldAddr 0 (.r 62)), []⟩,
    ⟨none, none, .op (.store 1 (.r 63) (.r 61)), []⟩])
  (.seq (.ops [
    ⟨(some 64), none, .op (.move (.r 11)), []⟩,
    ⟨(some 65), none, .op (.move (.r 11)), []⟩,
    ⟨(some 66), none, .op (.nilCheck (.r 65)), []⟩,
    ⟨(some 67), none, .op (.fieldAddr 0 (.r 66)), []⟩,
    ⟨(some 68), none, .op (.load none (.r 67)), []⟩,
    ⟨(some 69), none, .op (.move (.r 1)), []⟩,
    ⟨(some 70), none, .op (.buildSlice none [(i64 0)] 1 [(0, (.r 69))]), []⟩,
    ⟨(some 71), none, .op (.append false none 8 [(i64 0)] (.r 68) (.r 70)), []⟩,
    ⟨(some 72), none, .op (.nilCheck (.r 64)), []⟩,
    ⟨(some 73), none, .op (.fieldAddr 0 (.r 72)), []⟩,
    ⟨none, none, .op (.store 1 (.r 73) (.r 71)), []⟩])
  (.seq (.ops [
    ⟨(some 74), none, .op (.move (.r 11)), []⟩,
    ⟨(some 75), none, .op (.move (.r 11)), []⟩,
    ⟨(some 76), none, .op (.nilCheck (.r 75)), []⟩,
    ⟨(some 77), none, .op (.fieldAddr 0 (.r 76)), []⟩,
    ⟨(some 78), none, .op (.load none (.r 77)), []⟩,
    ⟨(some 79), none, .op (.move (.r 2)), []⟩,
    ⟨(some 80), none, .op (.append false none 8 [(i64 0)] (.r 78) (.r 79)), []⟩,
    ⟨(some 81), none, .op (.nilCheck (.r 74)), []⟩,
    ⟨(some 82), none, .op (.fieldAddr 0 (.r 81)), []⟩,
    ⟨none, none, .op (.store 1 (.r 82) (.r 80)), []⟩])
  (.seq (.seq (.ops [
    ⟨(some 83), none, .op (.move (.r 9)), []⟩,
    ⟨(some 84), none, .op (.move (.r 11)), []⟩,
    ⟨(some 85), none, .call (.k (.clos 14 [])) [(.r 83), (.r 84)], []⟩,
    ⟨(some 86), none, .op (.un .not (.r 85)), []⟩])
  (.cond (.r 86)
  (.seq (.ops [
    ⟨(some 8), none, .op (.move (.k (bo false))), []⟩])
  (.ret))
  (.skip)))
  (.seq (.seq (.ops [
    ⟨(some 12), none, .op (.move (.k (i64 0))), []⟩])
  (.block 0 (.loop (.seq (.seq (.ops [
    ⟨(some 87), none, .op (.move (.r 12)), []⟩,
    ⟨(some 88), none, .op (.move (.r 3)), []⟩,
    ⟨(some 89), none, .op (.lenL (.r 88)), []⟩,
    ⟨(some 90), none, .op (.bin .lss .other (.r 87) (.r 89)), []⟩,
    ⟨(some 91), none, .op (.move (.r 90)), []⟩,
    ⟨(some 92), (some (91, true)), .op (.move (.r 12)), []⟩,
    ⟨(some 93), (some (91, true)), .op (.bin .lss .other (.r 92) (.k (i64 50))), []⟩,
    ⟨(some 94), none, .op (.pick (.r 91) (.r 93) (.k (bo false))), []⟩])
  (.cond (.r 94)
  (.skip)
  (.exit 0)))
  (.seq (.block 1 (.seq (.seq (.ops [
    ⟨(some 97), none, .op (.move (.r 3)), []⟩,
    ⟨(some 98), none, .op (.move (.r 12)), []⟩,
    ⟨(some 99), none, .op (.idxAddr 2 (.r 97) (.r 98)), []⟩,
    ⟨(some 100), none, .op (.fieldAddr 0 (.r 99)), []⟩,
    ⟨(some 101), none, .op (.load none (.r 100)), []⟩,
    ⟨(some 102), none, .op (.bin .rem .other (.r 101) (.k (i64 3))), []⟩])
  (.block 2 (.seq (.ops [
    ⟨(some 108), none, .op (.bin .eql .other (.r 102) (.k (i64 0))), []⟩,
    ⟨(some 107), none, .op (.move (.r 108)), []⟩])
  (.cond (.r 107)
  (.seq (.ops [
    ⟨(some 109), none, .op (.move (.r 9)), []⟩,
    ⟨(some 110), none, .op (.move (.r 3)), []⟩,
    ⟨(some 111), none, .op (.move (.r 12)), []⟩,
    ⟨(some 112), none, .op (.idxAddr 2 (.r 110) (.r 111)), []⟩,
    ⟨(some 113), none, .op (.fieldAddr 1 (.r 112)), []⟩,
    ⟨(some 114), none, .op (.load none (.r 113)), []⟩,
    ⟨(some 116), none, .op (.move (.r 11)), []⟩,
    ⟨(some 117), none, .op (.move (.r 3)), []⟩,
    ⟨(some 118), none, .op (.move (.r 12)), []⟩,
    ⟨(some 119), none, .op (.idxAddr 2 (.r 117) (.r 118)), []⟩,
    ⟨(some 120), none, .op (.fieldAddr 1 (.r 119)), []⟩,
    ⟨(some 121), none, .op (.load none (.r 120)), []⟩,
    ⟨(some 115), none, .call (.k (.clos 9 [])) [(.r 109), (.r 114)], [⟨121, none, .load none (.r 120)⟩]⟩,
    ⟨(some 122), none, .call (.k (.clos 16 [])) [(.r 116), (.r 121)], []⟩,
    ⟨(some 123), none, .call (.k (.clos 15 [])) [(.r 115), (.r 122)], []⟩,
    ⟨(some 124), none, .op (.un .not (.r 123)), []⟩])
  (.cond (.r 124)
  (.seq (.ops [
    ⟨(some 8), none, .op (.move (.k (bo false))), []⟩])
  (.ret))
  (.skip)))
  (.seq (.ops [
    ⟨(some 126), none, .op (.bin .eql .other (.r 102) (.k (i64 1))), []⟩,
    ⟨(some 125), none, .op (.move (.r 126)), []⟩])
  (.cond (.r 125)
  (.seq (.ops [
    ⟨(some 127), none, .op (.move (.r 9)), []⟩,
    ⟨(some 128), none, .call (.k (.clos 10 [])) [(.r 127)], []⟩])
  (.ops [
    ⟨(some 129), none, .op (.move (.r 11)), []⟩,
    ⟨(some 130), none, .call (.k (.clos 17 [])) [(.r 129)], []⟩]))
  (.seq (.ops [
    ⟨(some 103), none, .op (.move (.r 9)), []⟩,
    ⟨(some 104), none, .call (.k (.clos 12 [])) [(.r 103)], []⟩])
  (.ops [
    ⟨(some 105), none, .op (.move (.r 11)), []⟩,
    ⟨(some 106), none, .call (.k (.clos 18 [])) [(.r 105)], []⟩]))))))))
  (.seq (.ops [
    ⟨(some 131), none, .op (.move (.r 9)), []⟩,
    ⟨(some 132), none, .op (.move (.r 11)), []⟩,
    ⟨(some 133), none, .call (.k (.clos 14 [])) [(.r 131), (.r 132)], []⟩,
    ⟨(some 134), none, .op (.un .not (.r 133)), []⟩])
  (.cond (.r 134)
  (.seq (.ops [
    ⟨(some 8), none, .op (.move (.k (bo false))), []⟩])
  (.ret))
  (.skip)))))
  (.ops [
    ⟨(some 95), none, .op (.move (.r 12)), []⟩,
    ⟨(some 96), none, .op (.bin .add .other (.r 95) (.k (i64 1))), []⟩,
    ⟨(some 12), none, .op (.move (.r 96)), []⟩]))))))
  (.seq (.ops [
    ⟨(some 135), none, .call (.k (.clos 7 [])) [], []⟩,
    ⟨(some 8), none, .op (.move (.r 135)), []⟩])
  (.ret)))))))))))
theorem e6 : Try.f6.body.map (normCode Try.prog false Try.f6.ntmps) = some n6 := by kernel_rfl
theorem r6 : resOf Try.f6 = some [8] := by kernel_rfl

def n7 : NCode :=
  .seq (.ops [
    ⟨(some 0), none, .op (.move (.k (bo false))), []⟩])
  (.seq (.ops [
    ⟨(some 8), none, .call (.k (.clos 8 [])) [(.k (i64 1))], []⟩,
    ⟨(some 1), none, .op (.move (.r 8)), []⟩])
  (.seq (.ops [
    ⟨(some 9), none, .op (.move (.r 1)), []⟩,
    ⟨(some 10), none, .call (.k (.clos 9 [])) [(.r 9), (.k (i64 2))], []⟩])
  (.seq (.ops [
    ⟨(some 11), none, .op (.move (.r 1)), []⟩,
    ⟨(some 12), none, .call (.k (.clos 9 [])) [(.r 11), (.k (i64 3))], []⟩])
  (.seq (.ops [
    ⟨(some 14), none, .op (.move (.r 1)), []⟩,
    ⟨(some 15), none, .call (.k (.clos 10 [])) [(.r 14)], []⟩,
    ⟨(some 13), none, .op (.move (.r 15)), []⟩,
    ⟨(some 16), none, .op (.extract 0 (.r 13)), []⟩,
    ⟨(some 17), none, .op (.extract 1 (.r 13)), []⟩,
    ⟨(some 2), none, .op (.move (.r 16)), []⟩,
    ⟨(some 3), none, .op (.move (.r 17)), []⟩])
  (.seq (.ops [
    ⟨(some 19), none, .op (.move (.r 1)), []⟩,
    ⟨(some 20), none, .call (.k (.clos 10 [])) [(.r 19)], []⟩,
    ⟨(some 18), none, .op (.move (.r 20)), []⟩,
    ⟨(some 21), none, .op (.extract 0 (.r 18)), []⟩,
    ⟨(some 22), none, .op (.extract 1 (.r 18)), []⟩,
    ⟨(some 4), none, .op (.move (.r 21)), []⟩,
    ⟨(some 5), none, .op (.move (.r 22)), []⟩])
  (.seq (.ops [
    ⟨(some 24), none, .op (.move (.r 1)), []⟩,
    ⟨(some 25), none, .call (.k (.clos 12 [])) [(.r 24)], []⟩,
    ⟨(some 23), none, .op (.move (.r 25)), []⟩,
    ⟨(some 26), none, .op (.extract 0 (.r 23)), []⟩,
    ⟨(some 27), none, .op (.extract 1 (.r 23)), []⟩,
    ⟨(some 6), none, .op (.move (.r 26)), []⟩,
    ⟨(some 7), none, .op (.move (.r 27)), []⟩])
  (.seq (.ops [
    ⟨(some 28), none, .op (.move (.r 2)), []⟩,
    ⟨(some 29), none, .op (.bin .eql .other (.r 28) (.k (i64 2))), []⟩,
    ⟨(some 30), none, .op (.move (.r 29)), []⟩,
    ⟨(some 31), (some (30, true)), .op (.move (.r 3)), []⟩,
    ⟨(some 32), (some (30, true)), .op (.bin .eql .other (.r 31) (.k (i64 0))), []⟩,
    ⟨(some 33), none, .op (.pick (.r 30) (.r 32) (.k (bo false))), []⟩,
    ⟨(some 34), none, .op (.move (.r 33)), []⟩,
    ⟨(some 35), (some (34, true)), .op (.move (.r 4)), []⟩,
    ⟨(some 36), (some (34, true)), .op (.bin .eql .other (.r 35) (.k (i64 1))), []⟩,
    ⟨(some 37), none, .op (.pick (.r 34) (.r 36) (.k (bo false))), []⟩,
    ⟨(some 38), none, .op (.move (.r 37)), []⟩,
    ⟨(some 39), (some (38, true)), .op (.move (.r 5)), []⟩,
    ⟨(some 40), (some (38, true)), .op (.bin .eql .other (.r 39) (.k (i64 0))), []⟩,
    ⟨(some 41), none, .op (.pick (.r 38) (.r 40) (.k (bo false))), []⟩,
    ⟨(some 42), none, .op (.move (.r 41)), []⟩,
    ⟨(some 43), (some (42, true)), .op (.move (.r 6)), []⟩,
    ⟨(some 44), (some (42, true)), .op (.bin .eql .other (.r 43) (.k (i64 2))), []⟩,
    ⟨(some 45), none, .op (.pick (.r 42) (.r 44) (.k (bo false))), []⟩,
    ⟨(some 46), none, .op (.move (.r 45)), []⟩,
    ⟨(some 47), (some (46, true)), .op (.move (.r 7)), []⟩,
    ⟨(some 48), (some (46, true)), .op (.bin .eql .other (.r 47) (.k (i64 0))), []⟩,
    ⟨(some 49), none, .op (.pick (.r 46) (.r 48) (.k (bo false))), []⟩,
    ⟨(some 50), none, .op (.move (.r 49)), []⟩,
    ⟨(some 51), (some (50, true)), .op (.move (.r 1)), []⟩,
    ⟨(some 52), (some (50, true)), .call (.k (.clos 9 [])) [(.r 51), (.k (i64 9))], []⟩,
    ⟨(some 53), (some (50, true)), .op (.buildSlice none [(i64 0)] 1 [(0, (.k (i64 3)))]), []⟩,
    ⟨(some 54), (some (50, true)), .call (.k (.clos 15 [])) [(.r 52), (.r 53)], []⟩,
    ⟨(some 55), none, .op (.pick (.r 50) (.r 54) (.k (bo false))), []⟩,
    ⟨(some 0), none, .op (.move (.r 55)), []⟩])
  (.ret))))))))
theorem e7 : Try.f7.body.map (normCode Try.prog false Try.f7.ntmps) = some n7 := by kernel_rfl
theorem r7 : resOf Try.f7 = some [0] := by kernel_rfl

def n8 : NCode :=
  .seq (.ops [
    ⟨(some 2), none, .op (.move (.k (.sc (.pointer none)))), []⟩])
  (.seq (.ops [
    ⟨(some 3), none, .op (.move (.r 0)), []⟩,
    ⟨(some 4), none, .op (.build [(.lst [] .nil), (i64 0), (.lst [] .nil)] [(1, 1, (.r 3))]), []⟩,
    ⟨(some 5), none, .op (.box (.r 4)), []⟩,
    ⟨(some 2), none, .op (.move (.r 5)), []⟩])
  (.ret))
theorem e8 : Try.f8.body.map (normCode Try.prog false Try.f8.ntmps) = some n8 := by kernel_rfl
theorem r8 : resOf Try.f8 = some [2] := by kernel_rfl

def n9 : NCode :=
  .seq (.ops [
    ⟨(some 4), none, .op (.move (.k (.lst [] .nil))), []⟩])
  (.seq (.seq (.ops [
    ⟨(some 7), none, .op (.move (.r 0)), []⟩,
    ⟨(some 8), none, .op (.bin .eql .pointer (.r 7) (.k (.sc (.pointer none)))), []⟩])
  (.cond (.r 8)
  (.seq (.ops [
    ⟨(some 4), none, .op (.move (.k (.lst [] .nil))), []⟩])
  (.ret))
  (.skip)))
  (.seq (.ops [
    ⟨(some 9), none, .op (.move (.r 0)), []⟩,
    ⟨(some 10), none, .call (.k (.clos 22 [])) [(.r 9)], []⟩,
    ⟨(some 5), none, .op (.move (.r 10)), []⟩])
  (.seq (.ops [
    ⟨(some 11), none, .op (.move (.r 0)), []⟩,
    ⟨(some 12), none, .op (.move (.r 0)), []⟩,
    ⟨(some 13), none, .op (.nilCheck (.r 12)), []⟩,
    ⟨(some 14), none, .op (.fieldAddr 0 (.r 13)), []⟩,
    ⟨(some 15), none, .op (.load none (.r 14)), []⟩,
    ⟨(some 16), none, .op (.move (.r 0)), []⟩,
    ⟨(some 17), none, .op (.nilCheck (.r 16)), []⟩,
    ⟨(some 18), none, .op (.fieldAddr 1 (.r 17)), []⟩,
    ⟨(some 19), none, .op (.load none (.r 18)), []⟩,
    ⟨(some 20), none, .op (.buildSlice none [(i64 0)] 1 [(0, (.r 19))]), []⟩,
    ⟨(some 21), none, .op (.append false none 8 [(i64 0)] (.r 15) (.r 20)), []⟩,
    ⟨(some 22), none, .op (.nilCheck (.r 11)), []⟩,
    ⟨(some 23), none, .op (.fieldAddr 0 (.r 22)), []⟩,
    ⟨none, none, .op (.store 1 (.r 23) (.r 21)), []⟩])
  (.seq (.ops [
    ⟨(some 24), none, .op (.move (.r 0)), []⟩,
    ⟨(some 25), none, .op (.move (.r 0)), []⟩,
    ⟨(some 26), none, .op (.move (.r 1)), []⟩,
    ⟨(some 27), none, .op (.nilCheck (.r 24)), []⟩,
    ⟨(some 28), none, .op (.fieldAddr 1 (.r 27)), []⟩,
    ⟨none, none, .op (.store 1 (.r 28) (.r 26)), []⟩,
    ⟨(some 29), none, .op (.nilCheck (.r 25)), []⟩,
    ⟨(some 30), none, .op (.fieldAddr 2 (.r 29)), []⟩,
    ⟨none, none, .op (.store 1 (.r 30) (.k (.lst [] .nil))), []⟩])
  (.seq (.seq (.ops [
    ⟨(some 31), none, .op (.move (.r 0)), []⟩,
    ⟨(some 32), none, .op (.nilCheck (.r 31)), []⟩,
    ⟨(some 33), none, .op (.fieldAddr 0 (.r 32)), []⟩,
    ⟨(some 34), none, .op (.load none (.r 33)), []⟩,
    ⟨(some 35), none, .op (.lenL (.r 34)), []⟩,
    ⟨(some 6), none, .op (.move (.r 35)), []⟩])
  (.seq (.ops [
    ⟨(some 36), none, .op (.move (.r 6)), []⟩,
    ⟨(some 37), none, .op (.bin .gtr .other (.r 36) (.k (i64 12))), []⟩])
  (.cond (.r 37)
  (.seq (.ops [
    ⟨(some 38), none, .op (.move (.r 5)), []⟩,
    ⟨(some 39), none, .op (.move (.r 0)), []⟩,
    ⟨(some 40), none, .op (.nilCheck (.r 39)), []⟩,
    ⟨(some 41), none, .op (.fieldAddr 0 (.r 40)), []⟩,
    ⟨(some 42), none, .op (.load none (.r 41)), []⟩,
    ⟨(some 43), none, .op (.idxAddr 1 (.r 42) (.k (i64 0))), []⟩,
    ⟨(some 44), none, .op (.load none (.r 43)), []⟩,
    ⟨(some 45), none, .op (.buildSlice none [(i64 0)] 1 [(0, (.r 44))]), []⟩,
    ⟨(some 46), none, .op (.append false none 8 [(i64 0)] (.r 38) (.r 45)), []⟩,
    ⟨(some 5), none, .op (.move (.r 46)), []⟩])
  (.ops [
    ⟨(some 47), none, .op (.move (.r 0)), []⟩,
    ⟨(some 48), none, .op (.move (.r 0)), []⟩,
    ⟨(some 49), none, .op (.nilCheck (.r 48)), []⟩,
    ⟨(some 50), none, .op (.fieldAddr 0 (.r 49)), []⟩,
    ⟨(some 51), none, .op (.load none (.r 50)), []⟩,
    ⟨(some 52), none, .op (.move (.r 6)), []⟩,
    ⟨(some 53), none, .op (.move (.r 6)), []⟩,
    ⟨(some 54), none, .op (.sliceL 1 (.r 51) (some (.k (i64 1))) (some (.r 52)) (some (.r 53))), []⟩,
    ⟨(some 55), none, .op (.nilCheck (.r 47)), []⟩,
    ⟨(some 56), none, .op (.fieldAddr 0 (.r 55)), []⟩,
    ⟨none, none, .op (.store 1 (.r 56) (.r 54)), []⟩]))
  (.skip))))
  (.seq (.ops [
    ⟨(some 57), none, .op (.move (.r 5)), []⟩,
    ⟨(some 4), none, .op (.move (.r 57)), []⟩])
  (.ret)))))))
theorem e9 : Try.f9.body.map (normCode Try.prog false Try.f9.ntmps) = some n9 := by kernel_rfl
theorem r9 : resOf Try.f9 = some [4] := by kernel_rfl

def n10 : NCode :=
  .seq (.ops [
    ⟨(some 2), none, .op (.move (.k (i64 0))), []⟩,
    ⟨(some 3), none, .op (.move (.k (i64 0))), []⟩])
  (.seq (.ops [
    ⟨(some 4), none, .op (.move (.k (i64 0))), []⟩])
  (.seq (.block 0 (.seq (.ops [
    ⟨(some 6), none, .op (.move (.r 0)), []⟩,
    ⟨(some 7), none, .op (.bin .eql .pointer (.r 6) (.k (.sc (.pointer none)))), []⟩,
    ⟨(some 5), none, .op (.move (.r 7)), []⟩])
  (.cond (.r 5)
  (.seq (.ops [
    ⟨(some 8), none, .op (.move (.r 4)), []⟩,
    ⟨(some 2), none, .op (.move (.r 8)), []⟩,
    ⟨(some 3), none, .op (.move (.k (i64 1))), []⟩])
  (.ret))
  (.seq (.ops [
    ⟨(some 10), none, .op (.move (.r 0)), []⟩,
    ⟨(some 11), none, .op (.nilCheck (.r 10)), []⟩,
    ⟨(some 12), none, .op (.fieldAddr 0 (.r 11)), []⟩,
    ⟨(some 13), none, .op (.load none (.r 12)), []⟩,
    ⟨(some 14), none, .op (.lenL (.r 13)), []⟩,
    ⟨(some 15), none, .op (.bin .eql .other (.r 14) (.k (i64 0))), []⟩,
    ⟨(some 9), none, .op (.move (.r 15)), []⟩])
  (.cond (.r 9)
  (.seq (.ops [
    ⟨(some 16), none, .op (.move (.r 4)), []⟩,
    ⟨(some 2), none, .op (.move (.r 16)), []⟩,
    ⟨(some 3), none, .op (.move (.k (i64 19))), []⟩])
  (.ret))
  (.skip))))))
  (.seq (.ops [
    ⟨(some 17), none, .op (.move (.r 0)), []⟩,
    ⟨(some 18), none, .op (.move (.r 0)), []⟩,
    ⟨(some 19), none, .op (.nilCheck (.r 18)), []⟩,
    ⟨(some 20), none, .op (.fieldAddr 2 (.r 19)), []⟩,
    ⟨(some 21), none, .op (.load none (.r 20)), []⟩,
    ⟨(some 22), none, .op (.move (.r 0)), []⟩,
    ⟨(some 23), none, .op (.nilCheck (.r 22)), []⟩,
    ⟨(some 24), none, .op (.fieldAddr 1 (.r 23)), []⟩,
    ⟨(some 25), none, .op (.load none (.r 24)), []⟩,
    ⟨(some 26), none, .op (.buildSlice none [(i64 0)] 1 [(0, (.r 25))]), []⟩,
    ⟨(some 27), none, .op (.append false none 8 [(i64 0)] (.r 21) (.r 26)), []⟩,
    ⟨(some 28), none, .op (.nilCheck (.r 17)), []⟩,
    ⟨(some 29), none, .op (.fieldAddr 2 (.r 28)), []⟩,
    ⟨none, none, .op (.store 1 (.r 29) (.r 27)), []⟩])
  (.seq (.ops [
    ⟨(some 31), none, .op (.move (.r 0)), []⟩,
    ⟨(some 32), none, .op (.move (.r 0)), []⟩,
    ⟨(some 33), none, .op (.move (.r 0)), []⟩,
    ⟨(some 34), none, .op (.nilCheck (.r 33)), []⟩,
    ⟨(some 35), none, .op (.fieldAddr 0 (.r 34)), []⟩,
    ⟨(some 36), none, .op (.load none (.r 35)), []⟩,
    ⟨(some 37), none, .call (.k (.clos 24 [])) [(.r 36)], []⟩,
    ⟨(some 30), none, .op (.move (.r 37)), []⟩,
    ⟨(some 38), none, .op (.extract 0 (.r 30)), []⟩,
    ⟨(some 39), none, .op (.extract 1 (.r 30)), []⟩,
    ⟨(some 40), none, .op (.nilCheck (.r 31)), []⟩,
    ⟨(some 41), none, .op (.fieldAddr 0 (.r 40)), []⟩,
    ⟨none, none, .op (.store 1 (.r 41) (.r 38)), []⟩,
    ⟨(some 42), none, .op (.nilCheck (.r 32)), []⟩,
    ⟨(some 43), none, .op (.fieldAddr 1 (.r 42)), []⟩,
    ⟨none, none, .op (.store 1 (.r 43) (.r 39)), []⟩])
  (.seq (.ops [
    ⟨(some 44), none, .op (.move (.r 0)), []⟩,
    ⟨(some 45), none, .op (.nilCheck (.r 44)), []⟩,
    ⟨(some 46), none, .op (.fieldAddr 1 (.r 45)), []⟩,
    ⟨(some 47), none, .op (.load none (.r 46)), []⟩,
    ⟨(some 2), none, .op (.move (.r 47)), []⟩,
    ⟨(some 3), none, .op (.move (.k (i64 0))), []⟩])
  (.ret))))))
theorem e10 : Try.f10.body.map (normCode Try.prog false Try.f10.ntmps) = some n10 := by kernel_rfl
theorem r10 : resOf Try.f10 = some [2, 3] := by kernel_rfl

def n11 : NCode :=
  .seq (.ops [
    ⟨(some 2), none, .op (.move (.k (i64 0))), []⟩])
  (.seq (.seq (.ops [
    ⟨(some 4), none, .op (.move (.r 0)), []⟩,
    ⟨(some 5), none, .op (.bin .eql .pointer (.r 4) (.k (.sc (.pointer none)))), []⟩])
  (.cond (.r 5)
  (.seq (.ops [
    ⟨(some 3), none, .op (.move (.k (i64 0))), []⟩])
  (.seq (.ops [
    ⟨(some 6), none, .op (.move (.r 3)), []⟩,
    ⟨(some 2), none, .op (.move (.r 6)), []⟩])
  (.ret)))
  (.skip)))
  (.seq (.ops [
    ⟨(some 7), none, .op (.move (.r 0)), []⟩,
    ⟨(some 8), none, .op (.nilCheck (.r 7)), []⟩,
    ⟨(some 9), none, .op (.fieldAddr 1 (.r 8)), []⟩,
    ⟨(some 10), none, .op (.load none (.r 9)), []⟩,
    ⟨(some 2), none, .op (.move (.r 10)), []⟩])
  (.ret)))
theorem e11 : Try.f11.body.map (normCode Try.prog false Try.f11.ntmps) = some n11 := by kernel_rfl
theorem r11 : resOf Try.f11 = some [2] := by kernel_rfl

def n12 : NCode :=
  .seq (.ops [
    ⟨(some 2), none, .op (.move (.k (i64 0))), []⟩,
    ⟨(some 3), none, .op (.move (.k (i64 0))), []⟩])
  (.seq (.ops [
    ⟨(some 4), none, .op (.move (.k (i64 0))), []⟩])
  (.seq (.block 0 (.seq (.ops [
    ⟨(some 6), none, .op (.move (.r 0)), []⟩,
    ⟨(some 7), none, .op (.bin .eql .pointer (.r 6) (.k (.sc (.pointer none)))), []⟩,
    ⟨(some 5), none, .op (.move (.r 7)), []⟩])
  (.cond (.r 5)
  (.seq (.ops [
    ⟨(some 8), none, .op (.move (.r 4)), []⟩,
    ⟨(some 2), none, .op (.move (.r 8)), []⟩,
    ⟨(some 3), none, .op (.move (.k (i64 1))), []⟩])
  (.ret))
  (.seq (.ops [
    ⟨(some 10), none, .op (.move (.r 0)), []⟩,
    ⟨(some 11), none, .op (.nilCheck (.r 10)), []⟩,
    ⟨(some 12), none, .op (.fieldAddr 2 (.r 11)), []⟩,
    ⟨(some 13), none, .op (.load none (.r 12)), []⟩,
    ⟨(some 14), none, .op (.lenL (.r 13)), []⟩,
    ⟨(some 15), none, .op (.bin .eql .other (.r 14) (.k (i64 0))), []⟩,
    ⟨(some 9), none, .op (.move (.r 15)), []⟩])
  (.cond (.r 9)
  (.seq (.ops [
    ⟨(some 16), none, .op (.move (.r 4)), []⟩,
    ⟨(some 2), none, .op (.move (.r 16)), []⟩,
    ⟨(some 3), none, .op (.move (.k (i64 19))), []⟩])
  (.ret))
  (.skip))))))
  (.seq (.ops [
    ⟨(some 17), none, .op (.move (.r 0)), []⟩,
    ⟨(some 18), none, .op (.move (.r 0)), []⟩,
    ⟨(some 19), none, .op (.nilCheck (.r 18)), []⟩,
    ⟨(some 20), none, .op (.fieldAddr 0 (.r 19)), []⟩,
    ⟨(some 21), none, .op (.load none (.r 20)), []⟩,
    ⟨(some 22), none, .op (.move (.r 0)), []⟩,
    ⟨(some 23), none, .op (.nilCheck (.r 22)), []⟩,
    ⟨(some 24), none, .op (.fieldAddr 1 (.r 23)), []⟩,
    ⟨(some 25), none, .op (.load none (.r 24)), []⟩,
    ⟨(some 26), none, .op (.buildSlice none [(i64 0)] 1 [(0, (.r 25))]), []⟩,
    ⟨(some 27), none, .op (.append false none 8 [(i64 0)] (.r 21) (.r 26)), []⟩,
    ⟨(some 28), none, .op (.nilCheck (.r 17)), []⟩,
    ⟨(some 29), none, .op (.fieldAddr 0 (.r 28)), []⟩,
    ⟨none, none, .op (.store 1 (.r 29) (.r 27)), []⟩])
  (.seq (.ops [
    ⟨(some 31), none, .op (.move (.r 0)), []⟩,
    ⟨(some 32), none, .op (.move (.r 0)), []⟩,
    ⟨(some 33), none, .op (.move (.r 0)), []⟩,
    ⟨(some 34), none, .op (.nilCheck (.r 33)), []⟩,
    ⟨(some 35), none, .op (.fieldAddr 2 (.r 34)), []⟩,
    ⟨(some 36), none, .op (.load none (.r 35)), []⟩,
    ⟨(some 37), none, .call (.k (.clos 24 [])) [(.r 36)], []⟩,
    ⟨(some 30), none, .op (.move (.r 37)), []⟩,
    ⟨(some 38), none, .op (.extract 0 (.r 30)), []⟩,
    ⟨(some 39), none, .op (.extract 1 (.r 30)), []⟩,
    ⟨(some 40), none, .op (.nilCheck (.r 31)), []⟩,
    ⟨(some 41), none, .op (.fieldAddr 2 (.r 40)), []⟩,
    ⟨none, none, .op (.store 1 (.r 41) (.r 38)), []⟩,
    ⟨(some 42), none, .op (.nilCheck (.r 32)), []⟩,
    ⟨(some 43), none, .op (.fieldAddr 1 (.r 42)), []⟩,
    ⟨none, none, .op (.store 1 (.r 43) (.r 39)), []⟩])
  (.seq (.ops [
    ⟨(some 44), none, .op (.move (.r 0)), []⟩,
    ⟨(some 45), none, .op (.nilCheck (.r 44)), []⟩,
    ⟨(some 46), none, .op (.fieldAddr 1 (.r 45)), []⟩,
    ⟨(some 47), none, .op (.load none (.r 46)), []⟩,
    ⟨(some 2), none, .op (.move (.r 47)), []⟩,
    ⟨(some 3), none, .op (.move (.k (i64 0))), []⟩])
  (.ret))))))
theorem e12 : Try.f12.body.map (normCode Try.prog false Try.f12.ntmps) = some n12 := by kernel_rfl
theorem r12 : resOf Try.f12 = some [2, 3] := by kernel_rfl

def n13 : NCode :=
  .seq (.ops [
    ⟨(some 2), none, .op (.move (.k (.sc (.pointer none)))), []⟩])
  (.seq (.ops [
    ⟨(some 3), none, .op (.move (.r 0)), []⟩,
    ⟨(some 4), none, .op (.buildSlice none [(i64 0)] 1 [(0, (.r 3))]), []⟩,
    ⟨(some 5), none, .op (.build [(.lst [] .nil), (i64 0)] [(0, 1, (.r 4))]), []⟩,
    ⟨(some 6), none, .op (.box (.r 5)), []⟩,
    ⟨(some 2), none, .op (.move (.r 6)), []⟩])
  (.ret))
theorem e13 : Try.f13.body.map (normCode Try.prog false Try.f13.ntmps) = some n13 := by kernel_rfl
theorem r13 : resOf Try.f13 = some [2] := by kernel_rfl

def n14 : NCode :=
  .seq (.ops [
    ⟨(some 4), none, .op (.move (.k (bo false))), []⟩])
  (.seq (.ops [
    ⟨(some 5), none, .op (.move (.r 0)), []⟩,
    ⟨(some 7), none, .op (.move (.r 1)), []⟩,
    ⟨(some 8), none, .op (.nilCheck (.r 7)), []⟩,
    ⟨(some 9), none, .op (.fieldAddr 0 (.r 8)), []⟩,
    ⟨(some 10), none, .op (.load none (.r 9)), []⟩,
    ⟨(some 11), none, .op (.move (.r 1)), []⟩,
    ⟨(some 12), none, .op (.nilCheck (.r 11)), []⟩,
    ⟨(some 13), none, .op (.fieldAddr 1 (.r 12)), []⟩,
    ⟨(some 14), none, .op (.load none (.r 13)), []⟩,
    ⟨(some 15), none, .op (.idxAddr 1 (.r 10) (.r 14)), []⟩,
    ⟨(some 16), none, .op (.load none (.r 15)), []⟩,
    ⟨(some 6), none, .call (.k (.clos 11 [])) [(.r 5)], [⟨10, none, .load none (.r 9)⟩, ⟨14, none, .load none (.r 13)⟩, ⟨16, none, .load none (.r 15)⟩]⟩,
    ⟨(some 17), none, .op (.bin .eql .other (.r 6) (.r 16)), []⟩,
    ⟨(some 18), none, .op (.move (.r 17)), []⟩,
    ⟨(some 19), (some (18, true)), .op (.move (.r 0)), []⟩,
    ⟨(some 21), (some (18, true)), .op (.move (.r 1)), []⟩,
    ⟨(some 20), (some (18, true)), .call (.k (.clos 21 [])) [(.r 19)], []⟩,
    ⟨(some 22), (some (18, true)), .call (.k (.clos 25 [])) [(.r 21)], []⟩,
    ⟨(some 23), (some (18, true)), .call (.k (.clos 15 [])) [(.r 20), (.r 22)], []⟩,
    ⟨(some 24), none, .op (.pick (.r 18) (.r 23) (.k (bo false))), []⟩,
    ⟨(some 25), none, .op (.move (.r 24)), []⟩,
    ⟨(some 26), (some (25, true)), .op (.move (.r 0)), []⟩,
    ⟨(some 28), (some (25, true)), .op (.move (.r 1)), []⟩,
    ⟨(some 27), (some (25, true)), .call (.k (.clos 22 [])) [(.r 26)], []⟩,
    ⟨(some 29), (some (25, true)), .call (.k (.clos 26 [])) [(.r 28)], []⟩,
    ⟨(some 30), (some (25, true)), .call (.k (.clos 15 [])) [(.r 27), (.r 29)], []⟩,
    ⟨(some 31), none, .op (.pick (.r 25) (.r 30) (.k (bo false))), []⟩,
    ⟨(some 32), none, .op (.move (.r 31)), []⟩,
    ⟨(some 33), (some (32, true)), .op (.move (.r 0)), []⟩,
    ⟨(some 35), (some (32, true)), .op (.move (.r 1)), []⟩,
    ⟨(some 36), (some (32, true)), .op (.nilCheck (.r 35)), []⟩,
    ⟨(some 37), (some (32, true)), .op (.fieldAddr 1 (.r 36)), []⟩,
    ⟨(some 38), (some (32, true)), .op (.load none (.r 37)), []⟩,
    ⟨(some 34), (some (32, true)), .call (.k (.clos 19 [])) [(.r 33)], [⟨38, (some (32, true)), .load none (.r 37)⟩]⟩,
    ⟨(some 39), (some (32, true)), .op (.bin .eql .other (.r 34) (.r 38)), []⟩,
    ⟨(some 40), none, .op (.pick (.r 32) (.r 39) (.k (bo false))), []⟩,
    ⟨(some 41), none, .op (.move (.r 40)), []⟩,
    ⟨(some 42), (some (41, true)), .op (.move (.r 0)), []⟩,
    ⟨(some 44), (some (41, true)), .op (.move (.r 1)), []⟩,
    ⟨(some 45), (some (41, true)), .op (.nilCheck (.r 44)), []⟩,
    ⟨(some 46), (some (41, true)), .op (.fieldAddr 0 (.r 45)), []⟩,
    ⟨(some 47), (some (41, true)), .op (.load none (.r 46)), []⟩,
    ⟨(some 48), (some (41, true)), .op (.lenL (.r 47)), []⟩,
    ⟨(some 49), (some (41, true)), .op (.bin .sub .other (.r 48) (.k (i64 1))), []⟩,
    ⟨(some 50), (some (41, true)), .op (.move (.r 1)), []⟩,
    ⟨(some 51), (some (41, true)), .op (.nilCheck (.r 50)), []⟩,
    ⟨(some 52), (some (41, true)), .op (.fieldAddr 1 (.r 51)), []⟩,
    ⟨(some 53), (some (41, true)), .op (.load none (.r 52)), []⟩,
    ⟨(some 54), (some (41, true)), .op (.bin .sub .other (.r 49) (.r 53)), []⟩,
    ⟨(some 43), (some (41, true)), .call (.k (.clos 20 [])) [(.r 42)], [⟨47, (some (41, true)), .load none (.r 46)⟩, ⟨53, (some (41, true)), .load none (.r 52)⟩]⟩,
    ⟨(some 55), (some (41, true)), .op (.bin .eql .other (.r 43) (.r 54)), []⟩,
    ⟨(some 56), none, .op (.pick (.r 41) (.r 55) (.k (bo false))), []⟩,
    ⟨(some 4), none, .op (.move (.r 56)), []⟩])
  (.ret))
theorem e14 : Try.f14.body.map (normCode Try.prog false Try.f14.ntmps) = some n14 := by kernel_rfl
theorem r14 : resOf Try.f14 = some [4] := by kernel_rfl

def n15 : NCode :=
  .seq (.ops [
    ⟨(some 4), none, .op (.move (.k (bo false))), []⟩])
  (.seq (.seq (.ops [
    ⟨(some 6), none, .op (.move (.r 0)), []⟩,
    ⟨(some 7), none, .op (.lenL (.r 6)), []⟩,
    ⟨(some 8), none, .op (.move (.r 1)), []⟩,
    ⟨(some 9), none, .op (.lenL (.r 8)), []⟩,
    ⟨(some 10), none, .op (.bin .neq .other (.r 7) (.r 9)), []⟩])
  (.cond (.r 10)
  (.seq (.ops [
    ⟨(some 4), none, .op (.move (.k (bo false))), []⟩])
  (.ret))
  (.skip)))
  (.seq (.seq (.ops [
    ⟨(some 5), none, .op (.move (.k (i64 0))), []⟩])
  (.block 0 (.loop (.seq (.seq (.ops [
    ⟨(some 11), none, .op (.move (.r 5)), []⟩,
    ⟨(some 12), none, .op (.move (.r 0)), []⟩,
    ⟨(some 13), none, .op (.lenL (.r 12)), []⟩,
    ⟨(some 14), none, .op (.bin .lss .other (.r 11) (.r 13)), []⟩])
  (.cond (.r 14)
  (.skip)
  (.exit 0)))
  (.seq (.block 1 (.seq (.ops [
    ⟨(some 17), none, .op (.move (.r 0)), []⟩,
    ⟨(some 18), none, .op (.move (.r 5)), []⟩,
    ⟨(some 19), none, .op (.idxAddr 1 (.r 17) (.r 18)), []⟩,
    ⟨(some 20), none, .op (.load none (.r 19)), []⟩,
    ⟨(some 21), none, .op (.move (.r 1)), []⟩,
    ⟨(some 22), none, .op (.move (.r 5)), []⟩,
    ⟨(some 23), none, .op (.idxAddr 1 (.r 21) (.r 22)), []⟩,
    ⟨(some 24), none, .op (.load none (.r 23)), []⟩,
    ⟨(some 25), none, .op (.bin .neq .other (.r 20) (.r 24)), []⟩])
  (.cond (.r 25)
  (.seq (.ops [
    ⟨(some 4), none, .op (.move (.k (bo false))), []⟩])
  (.ret))
  (.skip))))
  (.ops [
    ⟨(some 15), none, .op (.move (.r 5)), []⟩,
    ⟨(some 16), none, .op (.bin .add .other (.r 15) (.k (i64 1))), []⟩,
    ⟨(some 5), none, .op (.move (.r 16)), []⟩]))))))
  (.seq (.ops [
    ⟨(some 4), none, .op (.move (.k (bo true))), []⟩])
  (.ret))))
theorem e15 : Try.f15.body.map (normCode Try.prog false Try.f15.ntmps) = some n15 := by kernel_rfl
theorem r15 : resOf Try.f15 = some [4] := by kernel_rfl

def n16 : NCode :=
  .seq (.ops [
    ⟨(some 4), none, .op (.move (.k (.lst [] .nil))), []⟩])
  (.seq (.ops [
    ⟨(some 5), none, .op (.move (.k (.lst [] .nil))), []⟩])
  (.seq (.seq (.ops [
    ⟨(some 9), none, .op (.move (.r 0)), []⟩,
    ⟨(some 10), none, .op (.nilCheck (.r 9)), []⟩,
    ⟨(some 11), none, .op (.fieldAddr 1 (.r 10)), []⟩,
    ⟨(some 12), none, .op (.load none (.r 11)), []⟩,
    ⟨(some 13), none, .op (.bin .add .other (.r 12) (.k (i64 1))), []⟩,
    ⟨(some 6), none, .op (.move (.r 13)), []⟩])
  (.block 0 (.loop (.seq (.seq (.ops [
    ⟨(some 14), none, .op (.move (.r 6)), []⟩,
    ⟨(some 15), none, .op (.move (.r 0)), []⟩,
    ⟨(some 16), none, .op (.nilCheck (.r 15)), []⟩,
    ⟨(some 17), none, .op (.fieldAddr 0 (.r 16)), []⟩,
    ⟨(some 18), none, .op (.load none (.r 17)), []⟩,
    ⟨(some 19), none, .op (.lenL (.r 18)), []⟩,
    ⟨(some 20), none, .op (.bin .lss .other (.r 14) (.r 19)), []⟩])
  (.cond (.r 20)
  (.skip)
  (.exit 0)))
  (.seq (.block 1 (.ops [
    ⟨(some 23), none, .op (.move (.r 5)), []⟩,
    ⟨(some 24), none, .op (.move (.r 0)), []⟩,
    ⟨(some 25), none, .op (.nilCheck (.r 24)), []⟩,
    ⟨(some 26), none, .op (.fieldAddr 0 (.r 25)), []⟩,
    ⟨(some 27), none, .op (.load none (.r 26)), []⟩,
    ⟨(some 28), none, .op (.move (.r 6)), []⟩,
    ⟨(some 29), none, .op (.idxAddr 1 (.r 27) (.r 28)), []⟩,
    ⟨(some 30), none, .op (.load none (.r 29)), []⟩,
    ⟨(some 31), none, .op (.buildSlice none [(i64 0)] 1 [(0, (.r 30))]), []⟩,
    ⟨(some 32), none, .op (.append false none 8 [(i64 0)] (.r 23) (.r 31)), []⟩,
    ⟨(some 5), none, .op (.move (.r 32)), []⟩]))
  (.ops [
    ⟨(some 21), none, .op (.move (.r 6)), []⟩,
    ⟨(some 22), none, .op (.bin .add .other (.r 21) (.k (i64 1))), []⟩,
    ⟨(some 6), none, .op (.move (.r 22)), []⟩]))))))
  (.seq (.ops [
    ⟨(some 7), none, .op (.move (.k (.lst [] .nil))), []⟩])
  (.seq (.seq (.ops [
    ⟨(some 8), none, .op (.move (.k (i64 0))), []⟩])
  (.block 2 (.loop (.seq (.seq (.ops [
    ⟨(some 33), none, .op (.move (.r 8)), []⟩,
    ⟨(some 34), none, .op (.move (.r 0)), []⟩,
    ⟨(some 35), none, .op (.nilCheck (.r 34)), []⟩,
    ⟨(some 36), none, .op (.fieldAddr 1 (.r 35)), []⟩,
    ⟨(some 37), none, .op (.load none (.r 36)), []⟩,
    ⟨(some 38), none, .op (.bin .leq .other (.r 33) (.r 37)), []⟩,
    ⟨(some 39), none, .op (.move (.r 38)), []⟩,
    ⟨(some 40), (some (39, true)), .op (.move (.r 8)), []⟩,
    ⟨(some 41), (some (39, true)), .op (.move (.r 0)), []⟩,
    ⟨(some 42), (some (39, true)), .op (.nilCheck (.r 41)), []⟩,
    ⟨(some 43), (some (39, true)), .op (.fieldAddr 0 (.r 42)), []⟩,
    ⟨(some 44), (some (39, true)), .op (.load none (.r 43)), []⟩,
    ⟨(some 45), (some (39, true)), .op (.lenL (.r 44)), []⟩,
    ⟨(some 46), (some (39, true)), .op (.bin .lss .other (.r 40) (.r 45)), []⟩,
    ⟨(some 47), none, .op (.pick (.r 39) (.r 46) (.k (bo false))), []⟩])
  (.cond (.r 47)
  (.skip)
  (.exit 2)))
  (.seq (.block 3 (.ops [
    ⟨(some 50), none, .op (.move (.r 7)), []⟩,
    ⟨(some 51), none, .op (.move (.r 0)), []⟩,
    ⟨(some 52), none, .op (.nilCheck (.r 51)), []⟩,
    ⟨(some 53), none, .op (.fieldAddr 0 (.r 52)), []⟩,
    ⟨(some 54), none, .op (.load none (.r 53)), []⟩,
    ⟨(some 55), none, .op (.move (.r 8)), []⟩,
    ⟨(some 56), none, .op (.idxAddr 1 (.r 54) (.r 55)), []⟩,
    ⟨(some 57), none, .op (.load none (.r 56)), []⟩,
    ⟨(some 58), none, .op (.buildSlice none [(i64 0)] 1 [(0, (.r 57))]), []⟩,
    ⟨(some 59), none, .op (.append false none 8 [(i64 0)] (.r 50) (.r 58)), []⟩,
    ⟨(some 7), none, .op (.move (.r 59)), []⟩]))
  (.ops [
    ⟨(some 48), none, .op (.move (.r 8)), []⟩,
    ⟨(some 49), none, .op (.bin .add .other (.r 48) (.k (i64 1))), []⟩,
    ⟨(some 8), none, .op (.move (.r 49)), []⟩]))))))
  (.seq (.ops [
    ⟨(some 60), none, .op (.move (.r 7)), []⟩,
    ⟨(some 61), none, .op (.move (.r 1)), []⟩,
    ⟨(some 62), none, .op (.buildSlice none [(i64 0)] 1 [(0, (.r 61))]), []⟩,
    ⟨(some 63), none, .op (.append false none 8 [(i64 0)] (.r 60) (.r 62)), []⟩,
    ⟨(some 7), none, .op (.move (.r 63)), []⟩])
  (.seq (.seq (.ops [
    ⟨(some 64), none, .op (.move (.r 7)), []⟩,
    ⟨(some 65), none, .op (.lenL (.r 64)), []⟩,
    ⟨(some 66), none, .op (.bin .sub .other (.r 65) (.k (i64 1))), []⟩,
    ⟨(some 67), none, .op (.bin .gtr .other (.r 66) (.k (i64 12))), []⟩])
  (.cond (.r 67)
  (.seq (.ops [
    ⟨(some 68), none, .op (.move (.r 5)), []⟩,
    ⟨(some 69), none, .op (.move (.r 7)), []⟩,
    ⟨(some 70), none, .op (.idxAddr 1 (.r 69) (.k (i64 0))), []⟩,
    ⟨(some 71), none, .op (.load none (.r 70)), []⟩,
    ⟨(some 72), none, .op (.buildSlice none [(i64 0)] 1 [(0, (.r 71))]), []⟩,
    ⟨(some 73), none, .op (.append false none 8 [(i64 0)] (.r 68) (.r 72)), []⟩,
    ⟨(some 5), none, .op (.move (.r 73)), []⟩])
  (.ops [
    ⟨(some 74), none, .op (.move (.r 7)), []⟩,
    ⟨(some 75), none, .op (.sliceL 1 (.r 74) (some (.k (i64 1))) none none), []⟩,
    ⟨(some 7), none, .op (.move (.r 75)), []⟩]))
  (.skip)))
  (.seq (.ops [
    ⟨(some 76), none, .op (.move (.r 0)), []⟩,
    ⟨(some 77), none, .op (.move (.r 7)), []⟩,
    ⟨(some 78), none, .op (.nilCheck (.r 76)), []⟩,
    ⟨(some 79), none, .op (.fieldAddr 0 (.r 78)), []⟩,
    ⟨none, none, .op (.store 1 (.r 79) (.r 77)), []⟩])
  (.seq (.ops [
    ⟨(some 80), none, .op (.move (.r 0)), []⟩,
    ⟨(some 81), none, .op (.move (.r 7)), []⟩,
    ⟨(some 82), none, .op (.lenL (.r 81)), []⟩,
    ⟨(some 83), none, .op (.bin .sub .other (.r 82) (.k (i64 1))), []⟩,
    ⟨(some 84), none, .op (.nilCheck (.r 80)), []⟩,
    ⟨(some 85), none, .op (.fieldAddr 1 (.r 84)), []⟩,
    ⟨none, none, .op (.store 1 (.r 85) (.r 83)), []⟩])
  (.seq (.ops [
    ⟨(some 86), none, .op (.move (.r 5)), []⟩,
    ⟨(some 4), none, .op (.move (.r 86)), []⟩])
  (.ret))))))))))
theorem e16 : Try.f16.body.map (normCode Try.prog false Try.f16.ntmps) = some n16 := by kernel_rfl
theorem r16 : resOf Try.f16 = some [4] := by kernel_rfl

def n17 : NCode :=
  .seq (.ops [
    ⟨(some 2), none, .op (.move (.k (i64 0))), []⟩,
    ⟨(some 3), none, .op (.move (.k (i64 0))), []⟩])
  (.seq (.seq (.ops [
    ⟨(some 4), none, .op (.move (.r 0)), []⟩,
    ⟨(some 5), none, .op (.nilCheck (.r 4)), []⟩,
    ⟨(some 6), none, .op (.fieldAddr 1 (.r 5)), []⟩,
    ⟨(some 7), none, .op (.load none (.r 6)), []⟩,
    ⟨(some 8), none, .op (.bin .eql .other (.r 7) (.k (i64 0))), []⟩])
  (.cond (.r 8)
  (.seq (.ops [
    ⟨(some 2), none, .op (.move (.k (i64 0))), []⟩,
    ⟨(some 3), none, .op (.move (.k (i64 19))), []⟩])
  (.ret))
  (.skip)))
  (.seq (.ops [
    ⟨(some 9), none, .op (.move (.r 0)), []⟩,
    ⟨(some 10), none, .op (.move (.r 0)), []⟩,
    ⟨(some 11), none, .op (.nilCheck (.r 10)), []⟩,
    ⟨(some 12), none, .op (.fieldAddr 1 (.r 11)), []⟩,
    ⟨(some 13), none, .op (.load none (.r 12)), []⟩,
    ⟨(some 14), none, .op (.bin .sub .other (.r 13) (.k (i64 1))), []⟩,
    ⟨(some 15), none, .op (.nilCheck (.r 9)), []⟩,
    ⟨(some 16), none, .op (.fieldAddr 1 (.r 15)), []⟩,
    ⟨none, none, .op (.store 1 (.r 16) (.r 14)), []⟩])
  (.seq (.ops [
    ⟨(some 17), none, .op (.move (.r 0)), []⟩,
    ⟨(some 18), none, .op (.nilCheck (.r 17)), []⟩,
    ⟨(some 19), none, .op (.fieldAddr 0 (.r 18)), []⟩,
    ⟨(some 20), none, .op (.load none (.r 19)), []⟩,
    ⟨(some 21), none, .op (.move (.r 0)), []⟩,
    ⟨(some 22), none, .op (.nilCheck (.r 21)), []⟩,
    ⟨(some 23), none, .op (.fieldAddr 1 (.r 22)), []⟩,
    ⟨(some 24), none, .op (.load none (.r 23)), []⟩,
    ⟨(some 25), none, .op (.idxAddr 1 (.r 20) (.r 24)), []⟩,
    ⟨(some 26), none, .op (.load none (.r 25)), []⟩,
    ⟨(some 2), none, .op (.move (.r 26)), []⟩,
    ⟨(some 3), none, .op (.move (.k (i64 0))), []⟩])
  (.ret))))
theorem e17 : Try.f17.body.map (normCode Try.prog false Try.f17.ntmps) = some n17 := by kernel_rfl
theorem r17 : resOf Try.f17 = some [2, 3] := by kernel_rfl

def n18 : NCode :=
  .seq (.ops [
    ⟨(some 2), none, .op (.move (.k (i64 0))), []⟩,
    ⟨(some 3), none, .op (.move (.k (i64 0))), []⟩])
  (.seq (.seq (.ops [
    ⟨(some 4), none, .op (.move (.r 0)), []⟩,
    ⟨(some 5), none, .op (.nilCheck (.r 4)), []⟩,
    ⟨(some 6), none, .op (.fieldAddr 1 (.r 5)), []⟩,
    ⟨(some 7), none, .op (.load none (.r 6)), []⟩,
    ⟨(some 8), none, .op (.bin .add .other (.r 7) (.k (i64 1))), []⟩,
    ⟨(some 9), none, .op (.move (.r 0)), []⟩,
    ⟨(some 10), none, .op (.nilCheck (.r 9)), []⟩,
    ⟨(some 11), none, .op (.fieldAddr 0 (.r 10)), []⟩,
    ⟨(some 12), none, .op (.load none (.r 11)), []⟩,
    ⟨(some 13), none, .op (.lenL (.r 12)), []⟩,
    ⟨(some 14), none, .op (.bin .geq .other (.r 8) (.r 13)), []⟩])
  (.cond (.r 14)
  (.seq (.ops [
    ⟨(some 2), none, .op (.move (.k (i64 0))), []⟩,
    ⟨(some 3), none, .op (.move (.k (i64 19))), []⟩])
  (.ret))
  (.skip)))
  (.seq (.ops [
    ⟨(some 15), none, .op (.move (.r 0)), []⟩,
    ⟨(some 16), none, .op (.move (.r 0)), []⟩,
    ⟨(some 17), none, .op (.nilCheck (.r 16)), []⟩,
    ⟨(some 18), none, .op (.fieldAddr 1 (.r 17)), []⟩,
    ⟨(some 19), none, .op (.load none (.r 18)), []⟩,
    ⟨(some 20), none, .op (.bin .add .other (.r 19) (.k (i64 1))), []⟩,
    ⟨(some 21), none, .op (.nilCheck (.r 15)), []⟩,
    ⟨(some 22), none, .op (.fieldAddr 1 (.r 21)), []⟩,
    ⟨none, none, .op (.store 1 (.r 22) (.r 20)), []⟩])
  (.seq (.ops [
    ⟨(some 23), none, .op (.move (.r 0)), []⟩,
    ⟨(some 24), none, .op (.nilCheck (.r 23)), []⟩,
    ⟨(some 25), none, .op (.fieldAddr 0 (.r 24)), []⟩,
    ⟨(some 26), none, .op (.load none (.r 25)), []⟩,
    ⟨(some 27), none, .op (.move (.r 0)), []⟩,
    ⟨(some 28), none, .op (.nilCheck (.r 27)), []⟩,
    ⟨(some 29), none, .op (.fieldAddr 1 (.r 28)), []⟩,
    ⟨(some 30), none, .op (.load none (.r 29)), []⟩,
    ⟨(some 31), none, .op (.idxAddr 1 (.r 26) (.r 30)), []⟩,
    ⟨(some 32), none, .op (.load none (.r 31)), []⟩,
    ⟨(some 2), none, .op (.move (.r 32)), []⟩,
    ⟨(some 3), none, .op (.move (.k (i64 0))), []⟩])
  (.ret))))
theorem e18 : Try.f18.body.map (normCode Try.prog false Try.f18.ntmps) = some n18 := by kernel_rfl
theorem r18 : resOf Try.f18 = some [2, 3] := by kernel_rfl

def n19 : NCode :=
  .seq (.ops [
    ⟨(some 2), none, .op (.move (.k (i64 0))), []⟩])
  (.seq (.ops [
    ⟨(some 3), none, .op (.move (.r 0)), []⟩,
    ⟨(some 4), none, .call (.k (.clos 21 [])) [(.r 3)], []⟩,
    ⟨(some 5), none, .op (.lenL (.r 4)), []⟩,
    ⟨(some 2), none, .op (.move (.r 5)), []⟩])
  (.ret))
theorem e19 : Try.f19.body.map (normCode Try.prog false Try.f19.ntmps) = some n19 := by kernel_rfl
theorem r19 : resOf Try.f19 = some [2] := by kernel_rfl

def n20 : NCode :=
  .seq (.ops [
    ⟨(some 2), none, .op (.move (.k (i64 0))), []⟩])
  (.seq (.ops [
    ⟨(some 3), none, .op (.move (.r 0)), []⟩,
    ⟨(some 4), none, .call (.k (.clos 22 [])) [(.r 3)], []⟩,
    ⟨(some 5), none, .op (.lenL (.r 4)), []⟩,
    ⟨(some 2), none, .op (.move (.r 5)), []⟩])
  (.ret))
theorem e20 : Try.f20.body.map (normCode Try.prog false Try.f20.ntmps) = some n20 := by kernel_rfl
theorem r20 : resOf Try.f20 = some [2] := by kernel_rfl

def n21 : NCode :=
  .seq (.ops [
    ⟨(some 2), none, .op (.move (.k (.lst [] .nil))), []⟩])
  (.seq (.seq (.ops [
    ⟨(some 3), none, .op (.move (.r 0)), []⟩,
    ⟨(some 4), none, .op (.bin .eql .pointer (.r 3) (.k (.sc (.pointer none)))), []⟩])
  (.cond (.r 4)
  (.seq (.ops [
    ⟨(some 2), none, .op (.move (.k (.lst [] .nil))), []⟩])
  (.ret))
  (.skip)))
  (.seq (.ops [
    ⟨(some 5), none, .op (.move (.r 0)), []⟩,
    ⟨(some 6), none, .op (.nilCheck (.r 5)), []⟩,
    ⟨(some 7), none, .op (.fieldAddr 0 (.r 6)), []⟩,
    ⟨(some 8), none, .op (.load none (.r 7)), []⟩,
    ⟨(some 9), none, .call (.k (.clos 27 [])) [(.r 8)], []⟩,
    ⟨(some 2), none, .op (.move (.r 9)), []⟩])
  (.ret)))
theorem e21 : Try.f21.body.map (normCode Try.prog false Try.f21.ntmps) = some n21 := by kernel_rfl
theorem r21 : resOf Try.f21 = some [2] := by kernel_rfl

def n22 : NCode :=
  .seq (.ops [
    ⟨(some 2), none, .op (.move (.k (.lst [] .nil))), []⟩])
  (.seq (.seq (.ops [
    ⟨(some 3), none, .op (.move (.r 0)), []⟩,
    ⟨(some 4), none, .op (.bin .eql .pointer (.r 3) (.k (.sc (.pointer none)))), []⟩])
  (.cond (.r 4)
  (.seq (.ops [
    ⟨(some 2), none, .op (.move (.k (.lst [] .nil))), []⟩])
  (.ret))
  (.skip)))
  (.seq (.ops [
    ⟨(some 5), none, .op (.move (.r 0)), []⟩,
    ⟨(some 6), none, .op (.nilCheck (.r 5)), []⟩,
    ⟨(some 7), none, .op (.fieldAddr 2 (.r 6)), []⟩,
    ⟨(some 8), none, .op (.load none (.r 7)), []⟩,
    ⟨(some 9), none, .call (.k (.clos 28 [])) [(.r 8)], []⟩,
    ⟨(some 2), none, .op (.move (.r 9)), []⟩])
  (.ret)))
theorem e22 : Try.f22.body.map (normCode Try.prog false Try.f22.ntmps) = some n22 := by kernel_rfl
theorem r22 : resOf Try.f22 = some [2] := by kernel_rfl

def n23 : NCode :=
  .seq (.ops [
    ⟨(some 6), none, .op (.move (.k (.sc (.pointer none)))), []⟩,
    ⟨(some 7), none, .op (.move (.k (i64 0))), []⟩])
  (.seq (.seq (.ops [
    ⟨(some 8), none, .op (.move (.r 0)), []⟩,
    ⟨(some 9), none, .op (.lenL (.r 8)), []⟩,
    ⟨(some 10), none, .op (.move (.r 2)), []⟩,
    ⟨(some 11), none, .op (.lenL (.r 10)), []⟩,
    ⟨(some 12), none, .op (.bin .add .other (.r 9) (.r 11)), []⟩,
    ⟨(some 13), none, .op (.bin .gtr .other (.r 12) (.k (i64 12))), []⟩])
  (.cond (.r 13)
  (.seq (.ops [
    ⟨(some 6), none, .op (.move (.k (.sc (.pointer none)))), []⟩,
    ⟨(some 7), none, .op (.move (.k (i64 5))), []⟩])
  (.ret))
  (.skip)))
  (.seq (.ops [
    ⟨(some 14), none, .op (.move (.r 0)), []⟩,
    ⟨(some 15), none, .call (.k (.clos 27 [])) [(.r 14)], []⟩,
    ⟨(some 16), none, .op (.move (.r 1)), []⟩,
    ⟨(some 17), none, .op (.move (.r 2)), []⟩,
    ⟨(some 18), none, .call (.k (.clos 28 [])) [(.r 17)], []⟩,
    ⟨(some 19), none, .op (.build [(.lst [] .nil), (i64 0), (.lst [] .nil)] [(0, 1, (.r 15)), (1, 1, (.r 16)), (2, 1, (.r 18))]), []⟩,
    ⟨(some 20), none, .op (.box (.r 19)), []⟩,
    ⟨(some 6), none, .op (.move (.r 20)), []⟩,
    ⟨(some 7), none, .op (.move (.k (i64 0))), []⟩])
  (.ret)))
theorem e23 : Try.f23.body.map (normCode Try.prog false Try.f23.ntmps) = some n23 := by kernel_rfl
theorem r23 : resOf Try.f23 = some [6, 7] := by kernel_rfl

def n24 : NCode :=
  .seq (.ops [
    ⟨(some 2), none, .op (.move (.k (.lst [] .nil))), []⟩,
    ⟨(some 3), none, .op (.move (.k (i64 0))), []⟩])
  (.seq (.ops [
    ⟨(some 5), none, .op (.move (.r 0)), []⟩,
    ⟨(some 6), none, .op (.lenL (.r 5)), []⟩,
    ⟨(some 7), none, .op (.bin .sub .other (.r 6) (.k (i64 1))), []⟩,
    ⟨(some 4), none, .op (.move (.r 7)), []⟩])
  (.seq (.ops [
    ⟨(some 8), none, .op (.move (.r 0)), []⟩,
    ⟨(some 9), none, .op (.move (.r 4)), []⟩,
    ⟨(some 10), none, .op (.move (.r 4)), []⟩,
    ⟨(some 11), none, .op (.sliceL 1 (.r 8) none (some (.r 9)) (some (.r 10))), []⟩,
    ⟨(some 12), none, .op (.move (.r 0)), []⟩,
    ⟨(some 13), none, .op (.move (.r 4)), []⟩,
    ⟨(some 14), none, .op (.idxAddr 1 (.r 12) (.r 13)), []⟩,
    ⟨(some 15), none, .op (.load none (.r 14)), []⟩,
    ⟨(some 2), none, .op (.move (.r 11)), []⟩,
    ⟨(some 3), none, .op (.move (.r 15)), []⟩])
  (.ret)))
theorem e24 : Try.f24.body.map (normCode Try.prog false Try.f24.ntmps) = some n24 := by kernel_rfl
theorem r24 : resOf Try.f24 = some [2, 3] := by kernel_rfl

def n25 : NCode :=
  .seq (.ops [
    ⟨(some 2), none, .op (.move (.k (.lst [] .nil))), []⟩])
  (.seq (.ops [
    ⟨(some 3), none, .op (.move (.r 0)), []⟩,
    ⟨(some 4), none, .op (.nilCheck (.r 3)), []⟩,
    ⟨(some 5), none, .op (.fieldAddr 0 (.r 4)), []⟩,
    ⟨(some 6), none, .op (.load none (.r 5)), []⟩,
    ⟨(some 7), none, .op (.move (.r 0)), []⟩,
    ⟨(some 8), none, .op (.nilCheck (.r 7)), []⟩,
    ⟨(some 9), none, .op (.fieldAddr 1 (.r 8)), []⟩,
    ⟨(some 10), none, .op (.load none (.r 9)), []⟩,
    ⟨(some 11), none, .op (.sliceL 1 (.r 6) none (some (.r 10)) none), []⟩,
    ⟨(some 2), none, .op (.move (.r 11)), []⟩])
  (.ret))
theorem e25 : Try.f25.body.map (normCode Try.prog false Try.f25.ntmps) = some n25 := by kernel_rfl
theorem r25 : resOf Try.f25 = some [2] := by kernel_rfl

def n26 : NCode :=
  .seq (.ops [
    ⟨(some 2), none, .op (.move (.k (.lst [] .nil))), []⟩])
  (.seq (.ops [
    ⟨(some 3), none, .op (.move (.r 0)), []⟩,
    ⟨(some 4), none, .op (.nilCheck (.r 3)), []⟩,
    ⟨(some 5), none, .op (.fieldAddr 0 (.r 4)), []⟩,
    ⟨(some 6), none, .op (.load none (.r 5)), []⟩,
    ⟨(some 7), none, .op (.move (.r 0)), []⟩,
    ⟨(some 8), none, .op (.nilCheck (.r 7)), []⟩,
    ⟨(some 9), none, .op (.fieldAddr 1 (.r 8)), []⟩,
    ⟨(some 10), none, .op (.load none (.r 9)), []⟩,
    ⟨(some 11), none, .op (.bin .add .other (.r 10) (.k (i64 1))), []⟩,
    ⟨(some 12), none, .op (.sliceL 1 (.r 6) (some (.r 11)) none none), []⟩,
    ⟨(some 2), none, .op (.move (.r 12)), []⟩])
  (.ret))
theorem e26 : Try.f26.body.map (normCode Try.prog false Try.f26.ntmps) = some n26 := by kernel_rfl
theorem r26 : resOf Try.f26 = some [2] := by kernel_rfl

def n27 : NCode :=
  .seq (.ops [
    ⟨(some 2), none, .op (.move (.k (.lst [] .nil))), []⟩])
  (.seq (.seq (.ops [
    ⟨(some 3), none, .op (.move (.r 0)), []⟩,
    ⟨(some 4), none, .op (.bin .eql .slice (.r 3) (.k (.lst [] .nil))), []⟩])
  (.cond (.r 4)
  (.seq (.ops [
    ⟨(some 2), none, .op (.move (.k (.lst [] .nil))), []⟩])
  (.ret))
  (.skip)))
  (.seq (.ops [
    ⟨(some 5), none, .op (.buildSlice none [(i64 0)] 0 []), []⟩,
    ⟨(some 6), none, .op (.move (.r 0)), []⟩,
    ⟨(some 7), none, .op (.append false none 8 [(i64 0)] (.r 5) (.r 6)), []⟩,
    ⟨(some 2), none, .op (.move (.r 7)), []⟩])
  (.ret)))
theorem e27 : Try.f27.body.map (normCode Try.prog false Try.f27.ntmps) = some n27 := by kernel_rfl
theorem r27 : resOf Try.f27 = some [2] := by kernel_rfl

def n28 : NCode :=
  .seq (.ops [
    ⟨(some 2), none, .op (.move (.k (.lst [] .nil))), []⟩])
  (.seq (.ops [
    ⟨(some 4), none, .op (.move (.r 0)), []⟩,
    ⟨(some 5), none, .call (.k (.clos 27 [])) [(.r 4)], []⟩,
    ⟨(some 3), none, .op (.move (.r 5)), []⟩])
  (.seq (.ops [
    ⟨(some 6), none, .op (.move (.r 3)), []⟩,
    ⟨(some 7), none, .call (.k (.clos 29 [])) [(.r 6)], []⟩])
  (.seq (.ops [
    ⟨(some 8), none, .op (.move (.r 3)), []⟩,
    ⟨(some 2), none, .op (.move (.r 8)), []⟩])
  (.ret))))
theorem e28 : Try.f28.body.map (normCode Try.prog false Try.f28.ntmps) = some n28 := by kernel_rfl
theorem r28 : resOf Try.f28 = some [2] := by kernel_rfl

def n29 : NCode :=
  .seq (.ops [
    ⟨(some 4), none, .op (.move (.r 0)), []⟩,
    ⟨(some 5), none, .op (.lenL (.r 4)), []⟩,
    ⟨(some 6), none, .op (.bin .sub .other (.r 5) (.k (i64 1))), []⟩,
    ⟨(some 2), none, .op (.move (.k (i64 0))), []⟩,
    ⟨(some 3), none, .op (.move (.r 6)), []⟩])
  (.block 0 (.loop (.seq (.seq (.ops [
    ⟨(some 7), none, .op (.move (.r 2)), []⟩,
    ⟨(some 8), none, .op (.move (.r 3)), []⟩,
    ⟨(some 9), none, .op (.bin .lss .other (.r 7) (.r 8)), []⟩])
  (.cond (.r 9)
  (.skip)
  (.exit 0)))
  (.seq (.block 1 (.ops [
    ⟨(some 14), none, .op (.move (.r 0)), []⟩,
    ⟨(some 15), none, .op (.move (.r 2)), []⟩,
    ⟨(some 16), none, .op (.move (.r 0)), []⟩,
    ⟨(some 17), none, .op (.move (.r 3)), []⟩,
    ⟨(some 18), none, .op (.move (.r 0)), []⟩,
    ⟨(some 19), none, .op (.move (.r 3)), []⟩,
    ⟨(some 20), none, .op (.idxAddr 1 (.r 18) (.r 19)), []⟩,
    ⟨(some 21), none, .op (.load none (.r 20)), []⟩,
    ⟨(some 22), none, .op (.move (.r 0)), []⟩,
    ⟨(some 23), none, .op (.move (.r 2)), []⟩,
    ⟨(some 24), none, .op (.idxAddr 1 (.r 22) (.r 23)), []⟩,
    ⟨(some 25), none, .op (.load none (.r 24)), []⟩,
    ⟨(some 26), none, .op (.idxAddr 1 (.r 14) (.r 15)), []⟩,
    ⟨none, none, .op (.store 1 (.r 26) (.r 21)), []⟩,
    ⟨(some 27), none, .op (.idxAddr 1 (.r 16) (.r 17)), []⟩,
    ⟨none, none, .op (.store 1 (.r 27) (.r 25)), []⟩]))
  (.ops [
    ⟨(some 10), none, .op (.move (.r 2)), []⟩,
    ⟨(some 11), none, .op (.bin .add .other (.r 10) (.k (i64 1))), []⟩,
    ⟨(some 12), none, .op (.move (.r 3)), []⟩,
    ⟨(some 13), none, .op (.bin .sub .other (.r 12) (.k (i64 1))), []⟩,
    ⟨(some 2), none, .op (.move (.r 11)), []⟩,
    ⟨(some 3), none, .op (.move (.r 13)), []⟩])))))
theorem e29 : Try.f29.body.map (normCode Try.prog false Try.f29.ntmps) = some n29 := by kernel_rfl
theorem r29 : resOf Try.f29 = some [] := by kernel_rfl

def n27m : NCode :=
  .seq (.ops [
    ⟨(some 2), none, .op (.move (.k (.lst [] .nil))), []⟩])
  (.seq (.seq (.ops [
    ⟨(some 3), none, .op (.move (.r 0)), []⟩,
    ⟨(some 4), none, .op (.bin .eql .slice (.r 3) (.k (.lst [] .nil))), []⟩])
  (.cond (.r 4)
  (.seq (.ops [
    ⟨(some 2), none, .op (.move (.k (.lst [] .nil))), []⟩])
  (.ret))
  (.skip)))
  (.seq (.ops [
    ⟨(some 5), none, .op (.buildSlice none [(i64 0)] 0 []), []⟩,
    ⟨(some 6), none, .op (.move (.r 0)), []⟩,
    ⟨(some 7), none, .op (.append true none 8 [(i64 0)] (.r 5) (.r 6)), []⟩,
    ⟨(some 2), none, .op (.move (.r 7)), []⟩])
  (.ret)))
theorem e27m : Try.f27.body.map (normCode Try.prog true Try.f27.ntmps) = some n27m := by kernel_rfl
theorem r27m : resOf Try.f27 = some [2] := by kernel_rfl

end Go.Proofs.Ytpmbebdcbejlkaa.Moi
