/- The small form of each function, as the machine reckons it. -/
import Derived.Test.YtceahampebofbaaMoiY
import Derived.Test.YtceahampebofbaaChecked
set_option linter.unusedVariables false
set_option maxRecDepth 100000
namespace Go.Proofs.Ytceahampebofbaa.Moi
open Go Go.RowKit
theorem mixed : Try.prog.follows .mixedOrders = true := Try.checked.mixed
abbrev iv (n : Int) : AV := .sc (.int .i64 n)
abbrev bl (l : List Int) : List AV := kl .u8 l
theorem bl_app {a b : List Int} : bl (a ++ b) = bl a ++ bl b := List.map_append
theorem bl_len {a : List Int} : (bl a).length = a.length := List.length_map ..
theorem bl_take {a : List Int} {n : Nat} : bl (a.take n) = (bl a).take n := List.map_take
theorem bl_drop {a : List Int} {n : Nat} : bl (a.drop n) = (bl a).drop n := List.map_drop

def n3 : NCode :=
  .seq (.ops [
    ⟨(some 4), none, .op (.move (.k (bo false))), []⟩])
  (.seq (.seq (.ops [
    ⟨(some 12), none, .op (.move (.r 0)), []⟩,
    ⟨(some 13), none, .op (.lenL (.r 12)), []⟩,
    ⟨(some 14), none, .op (.bin .gtr .other (.r 13) (.k (i64 60))), []⟩])
  (.cond (.r 14)
  (.seq (.ops [
    ⟨(some 15), none, .call (.k (.clos 7 [])) [], []⟩,
    ⟨(some 4), none, .op (.move (.r 15)), []⟩])
  (.ret))
  (.skip)))
  (.seq (.ops [
    ⟨(some 17), none, .op (.move (.r 0)), []⟩,
    ⟨(some 18), none, .call (.k (.clos 8 [])) [(.r 17)], []⟩,
    ⟨(some 16), none, .op (.move (.r 18)), []⟩,
    ⟨(some 19), none, .op (.extract 0 (.r 16)), []⟩,
    ⟨(some 20), none, .op (.extract 1 (.r 16)), []⟩,
    ⟨(some 21), none, .op (.extract 2 (.r 16)), []⟩,
    ⟨(some 5), none, .op (.move (.r 19)), []⟩,
    ⟨(some 6), none, .op (.move (.r 20)), []⟩,
    ⟨(some 7), none, .op (.move (.r 21)), []⟩])
  (.seq (.ops [
    ⟨(some 23), none, .op (.move (.r 0)), []⟩,
    ⟨(some 24), none, .call (.k (.clos 9 [])) [(.r 23)], []⟩,
    ⟨(some 22), none, .op (.move (.r 24)), []⟩,
    ⟨(some 25), none, .op (.extract 0 (.r 22)), []⟩,
    ⟨(some 26), none, .op (.extract 1 (.r 22)), []⟩,
    ⟨(some 27), none, .op (.extract 2 (.r 22)), []⟩,
    ⟨(some 8), none, .op (.move (.r 25)), []⟩,
    ⟨(some 9), none, .op (.move (.r 26)), []⟩,
    ⟨(some 10), none, .op (.move (.r 27)), []⟩])
  (.seq (.seq (.ops [
    ⟨(some 28), none, .op (.move (.r 6)), []⟩,
    ⟨(some 29), none, .op (.move (.r 9)), []⟩,
    ⟨(some 30), none, .op (.bin .neq .other (.r 28) (.r 29)), []⟩,
    ⟨(some 31), none, .op (.move (.r 30)), []⟩,
    ⟨(some 32), (some (31, false)), .op (.move (.r 7)), []⟩,
    ⟨(some 33), (some (31, false)), .op (.move (.r 10)), []⟩,
    ⟨(some 34), (some (31, false)), .op (.bin .neq .other (.r 32) (.r 33)), []⟩,
    ⟨(some 35), none, .op (.pick (.r 31) (.k (bo true)) (.r 34)), []⟩,
    ⟨(some 36), none, .op (.move (.r 35)), []⟩,
    ⟨(some 37), (some (36, false)), .op (.move (.r 5)), []⟩,
    ⟨(some 38), (some (36, false)), .op (.bin .eql .pointer (.r 37) (.k (.sc (.pointer none)))), []⟩,
    ⟨(some 39), (some (36, false)), .op (.move (.r 8)), []⟩,
    ⟨(some 40), (some (36, false)), .op (.bin .eql .pointer (.r 39) (.k (.sc (.pointer none)))), []⟩,
    ⟨(some 41), (some (36, false)), .op (.bin .neq .bool (.r 38) (.r 40)), []⟩,
    ⟨(some 42), none, .op (.pick (.r 36) (.k (bo true)) (.r 41)), []⟩])
  (.cond (.r 42)
  (.seq (.ops [
    ⟨(some 4), none, .op (.move (.k (bo false))), []⟩])
  (.ret))
  (.skip)))
  (.seq (.seq (.ops [
    ⟨(some 43), none, .op (.move (.r 8)), []⟩,
    ⟨(some 44), none, .op (.bin .eql .pointer (.r 43) (.k (.sc (.pointer none)))), []⟩])
  (.cond (.r 44)
  (.seq (.ops [
    ⟨(some 45), none, .call (.k (.clos 7 [])) [], []⟩,
    ⟨(some 4), none, .op (.move (.r 45)), []⟩])
  (.ret))
  (.skip)))
  (.seq (.seq (.ops [
    ⟨(some 46), none, .op (.move (.r 5)), []⟩,
    ⟨(some 47), none, .call (.k (.clos 10 [])) [(.r 46)], []⟩,
    ⟨(some 48), none, .op (.move (.r 0)), []⟩,
    ⟨(some 49), none, .op (.lenL (.r 48)), []⟩,
    ⟨(some 50), none, .op (.bin .neq .other (.r 47) (.r 49)), []⟩,
    ⟨(some 51), none, .op (.move (.r 50)), []⟩,
    ⟨(some 52), (some (51, false)), .op (.move (.r 5)), []⟩,
    ⟨(some 53), (some (51, false)), .op (.move (.r 1)), []⟩,
    ⟨(some 54), (some (51, false)), .call (.k (.clos 11 [])) [(.r 52), (.r 53)], []⟩,
    ⟨(some 55), (some (51, false)), .op (.move (.r 8)), []⟩,
    ⟨(some 56), (some (51, false)), .op (.move (.r 1)), []⟩,
    ⟨(some 57), (some (51, false)), .call (.k (.clos 12 [])) [(.r 55), (.r 56)], []⟩,
    ⟨(some 58), (some (51, false)), .op (.bin .neq .other (.r 54) (.r 57)), []⟩,
    ⟨(some 59), none, .op (.pick (.r 51) (.k (bo true)) (.r 58)), []⟩])
  (.cond (.r 59)
  (.seq (.ops [
    ⟨(some 4), none, .op (.move (.k (bo false))), []⟩])
  (.ret))
  (.skip)))
  (.seq (.seq (.ops [
    ⟨(some 11), none, .op (.move (.k (i64 0))), []⟩])
  (.block 0 (.loop (.seq (.seq (.ops [
    ⟨(some 60), none, .op (.move (.r 11)), []⟩,
    ⟨(some 61), none, .op (.move (.r 0)), []⟩,
    ⟨(some 62), none, .op (.lenL (.r 61)), []⟩,
    ⟨(some 63), none, .op (.bin .lss .other (.r 60) (.r 62)), []⟩])
  (.cond (.r 63)
  (.skip)
  (.exit 0)))
  (.seq (.block 1 (.seq (.ops [
    ⟨(some 66), none, .op (.move (.r 5)), []⟩,
    ⟨(some 67), none, .op (.move (.r 11)), []⟩,
    ⟨(some 69), none, .op (.move (.r 0)), []⟩,
    ⟨(some 70), none, .op (.move (.r 11)), []⟩,
    ⟨(some 71), none, .op (.idxAddr 2 (.r 69) (.r 70)), []⟩,
    ⟨(some 72), none, .op (.fieldAddr 0 (.r 71)), []⟩,
    ⟨(some 73), none, .op (.load none (.r 72)), []⟩,
    ⟨(some 68), none, .call (.k (.clos 13 [])) [(.r 66), (.r 67)], [⟨73, none, .load none (.r 72)⟩]⟩,
    ⟨(some 74), none, .op (.bin .neq .other (.r 68) (.r 73)), []⟩,
    ⟨(some 75), none, .op (.move (.r 74)), []⟩,
    ⟨(some 76), (some (75, false)), .op (.move (.r 5)), []⟩,
    ⟨(some 77), (some (75, false)), .op (.move (.r 11)), []⟩,
    ⟨(some 79), (some (75, false)), .op (.move (.r 0)), []⟩,
    ⟨(some 80), (some (75, false)), .op (.move (.r 11)), []⟩,
    ⟨(some 81), (some (75, false)), .op (.idxAddr 2 (.r 79) (.r 80)), []⟩,
    ⟨(some 82), (some (75, false)), .op (.fieldAddr 1 (.r 81)), []⟩,
    ⟨(some 83), (some (75, false)), .op (.load none (.r 82)), []⟩,
    ⟨(some 78), (some (75, false)), .call (.k (.clos 14 [])) [(.r 76), (.r 77)], [⟨83, (some (75, false)), .load none (.r 82)⟩]⟩,
    ⟨(some 84), (some (75, false)), .op (.bin .neq .other (.r 78) (.r 83)), []⟩,
    ⟨(some 85), none, .op (.pick (.r 75) (.k (bo true)) (.r 84)), []⟩,
    ⟨(some 86), none, .op (.move (.r 85)), []⟩,
    ⟨(some 87), (some (86, false)), .op (.move (.r 5)), []⟩,
    ⟨(some 88), (some (86, false)), .op (.move (.r 0)), []⟩,
    ⟨(some 89), (some (86, false)), .op (.move (.r 11)), []⟩,
    ⟨(some 90), (some (86, false)), .op (.idxAddr 2 (.r 88) (.r 89)), []⟩,
    ⟨(some 91), (some (86, false)), .op (.fieldAddr 0 (.r 90)), []⟩,
    ⟨(some 92), (some (86, false)), .op (.load none (.r 91)), []⟩,
    ⟨(some 94), (some (86, false)), .op (.move (.r 11)), []⟩,
    ⟨(some 93), (some (86, false)), .call (.k (.clos 11 [])) [(.r 87), (.r 92)], []⟩,
    ⟨(some 95), (some (86, false)), .op (.bin .neq .other (.r 93) (.r 94)), []⟩,
    ⟨(some 96), none, .op (.pick (.r 86) (.k (bo true)) (.r 95)), []⟩,
    ⟨(some 97), none, .op (.move (.r 96)), []⟩,
    ⟨(some 98), (some (97, false)), .op (.move (.r 5)), []⟩,
    ⟨(some 99), (some (97, false)), .op (.move (.r 11)), []⟩,
    ⟨(some 101), (some (97, false)), .op (.move (.r 8)), []⟩,
    ⟨(some 102), (some (97, false)), .op (.move (.r 11)), []⟩,
    ⟨(some 100), (some (97, false)), .call (.k (.clos 15 [])) [(.r 98), (.r 99)], []⟩,
    ⟨(some 103), (some (97, false)), .call (.k (.clos 16 [])) [(.r 101), (.r 102)], []⟩,
    ⟨(some 104), (some (97, false)), .op (.bin .neq .other (.r 100) (.r 103)), []⟩,
    ⟨(some 105), none, .op (.pick (.r 97) (.k (bo true)) (.r 104)), []⟩])
  (.cond (.r 105)
  (.seq (.ops [
    ⟨(some 4), none, .op (.move (.k (bo false))), []⟩])
  (.ret))
  (.skip))))
  (.ops [
    ⟨(some 64), none, .op (.move (.r 11)), []⟩,
    ⟨(some 65), none, .op (.bin .add .other (.r 64) (.k (i64 1))), []⟩,
    ⟨(some 11), none, .op (.move (.r 65)), []⟩]))))))
  (.seq (.ops [
    ⟨(some 106), none, .call (.k (.clos 7 [])) [], []⟩,
    ⟨(some 4), none, .op (.move (.r 106)), []⟩])
  (.ret)))))))))
theorem e3 : Try.f3.body.map (normCode Try.prog true Try.f3.ntmps) = some n3 := by kernel_rfl
theorem r3 : resOf Try.f3 = some [4] := by kernel_rfl

def n4 : NCode :=
  .seq (.ops [
    ⟨(some 2), none, .op (.move (.k (bo false))), []⟩])
  (.seq (.seq (.ops [
    ⟨(some 14), none, .op (.move (.r 0)), []⟩,
    ⟨(some 15), none, .op (.lenL (.r 14)), []⟩,
    ⟨(some 16), none, .op (.bin .gtr .other (.r 15) (.k (i64 60))), []⟩])
  (.cond (.r 16)
  (.seq (.ops [
    ⟨(some 17), none, .call (.k (.clos 7 [])) [], []⟩,
    ⟨(some 2), none, .op (.move (.r 17)), []⟩])
  (.ret))
  (.skip)))
  (.seq (.ops [
    ⟨(some 19), none, .op (.move (.r 0)), []⟩,
    ⟨(some 20), none, .call (.k (.clos 8 [])) [(.r 19)], []⟩,
    ⟨(some 18), none, .op (.move (.r 20)), []⟩,
    ⟨(some 21), none, .op (.extract 0 (.r 18)), []⟩,
    ⟨(some 22), none, .op (.extract 1 (.r 18)), []⟩,
    ⟨(some 23), none, .op (.extract 2 (.r 18)), []⟩,
    ⟨(some 3), none, .op (.move (.r 21)), []⟩,
    ⟨(some 4), none, .op (.move (.r 22)), []⟩,
    ⟨(some 5), none, .op (.move (.r 23)), []⟩])
  (.seq (.seq (.ops [
    ⟨(some 24), none, .op (.move (.r 5)), []⟩,
    ⟨(some 25), none, .op (.bin .neq .other (.r 24) (.k (i64 0))), []⟩])
  (.cond (.r 25)
  (.seq (.ops [
    ⟨(some 26), none, .call (.k (.clos 7 [])) [], []⟩,
    ⟨(some 2), none, .op (.move (.r 26)), []⟩])
  (.ret))
  (.skip)))
  (.seq (.ops [
    ⟨(some 27), none, .op (.move (.r 3)), []⟩,
    ⟨(some 28), none, .call (.k (.clos 17 [])) [(.r 27)], []⟩,
    ⟨(some 6), none, .op (.move (.r 28)), []⟩])
  (.seq (.seq (.ops [
    ⟨(some 7), none, .op (.move (.k (i64 0))), []⟩])
  (.block 0 (.loop (.seq (.seq (.ops [
    ⟨(some 29), none, .op (.move (.r 7)), []⟩,
    ⟨(some 30), none, .op (.move (.r 3)), []⟩,
    ⟨(some 31), none, .call (.k (.clos 10 [])) [(.r 30)], []⟩,
    ⟨(some 32), none, .op (.bin .lss .other (.r 29) (.r 31)), []⟩])
  (.cond (.r 32)
  (.skip)
  (.exit 0)))
  (.seq (.block 1 (.seq (.ops [
    ⟨(some 36), none, .op (.move (.r 3)), []⟩,
    ⟨(some 37), none, .op (.move (.r 7)), []⟩,
    ⟨(some 38), none, .call (.k (.clos 18 [])) [(.r 36), (.r 37)], []⟩,
    ⟨(some 35), none, .op (.move (.r 38)), []⟩,
    ⟨(some 39), none, .op (.extract 0 (.r 35)), []⟩,
    ⟨(some 40), none, .op (.extract 1 (.r 35)), []⟩,
    ⟨(some 8), none, .op (.move (.r 39)), []⟩,
    ⟨(some 9), none, .op (.move (.r 40)), []⟩])
  (.seq (.seq (.ops [
    ⟨(some 41), none, .op (.move (.r 8)), []⟩,
    ⟨(some 42), none, .op (.move (.r 9)), []⟩,
    ⟨(some 43), none, .op (.bin .geq .other (.r 41) (.r 42)), []⟩,
    ⟨(some 44), none, .op (.move (.r 43)), []⟩,
    ⟨(some 45), (some (44, false)), .op (.move (.r 9)), []⟩,
    ⟨(some 46), (some (44, false)), .op (.move (.r 6)), []⟩,
    ⟨(some 47), (some (44, false)), .op (.lenL (.r 46)), []⟩,
    ⟨(some 48), (some (44, false)), .op (.bin .gtr .other (.r 45) (.r 47)), []⟩,
    ⟨(some 49), none, .op (.pick (.r 44) (.k (bo true)) (.r 48)), []⟩])
  (.cond (.r 49)
  (.seq (.ops [
    ⟨(some 2), none, .op (.move (.k (bo false))), []⟩])
  (.ret))
  (.skip)))
  (.seq (.seq (.ops [
    ⟨(some 10), none, .op (.move (.k (i64 0))), []⟩])
  (.block 2 (.loop (.seq (.seq (.ops [
    ⟨(some 50), none, .op (.move (.r 10)), []⟩,
    ⟨(some 51), none, .op (.move (.r 3)), []⟩,
    ⟨(some 52), none, .call (.k (.clos 10 [])) [(.r 51)], []⟩,
    ⟨(some 53), none, .op (.bin .lss .other (.r 50) (.r 52)), []⟩])
  (.cond (.r 53)
  (.skip)
  (.exit 2)))
  (.seq (.block 3 (.seq (.ops [
    ⟨(some 57), none, .op (.move (.r 3)), []⟩,
    ⟨(some 58), none, .op (.move (.r 10)), []⟩,
    ⟨(some 59), none, .call (.k (.clos 18 [])) [(.r 57), (.r 58)], []⟩,
    ⟨(some 56), none, .op (.move (.r 59)), []⟩,
    ⟨(some 60), none, .op (.extract 0 (.r 56)), []⟩,
    ⟨(some 61), none, .op (.extract 1 (.r 56)), []⟩,
    ⟨(some 11), none, .op (.move (.r 60)), []⟩,
    ⟨(some 12), none, .op (.move (.r 61)), []⟩])
  (.seq (.ops [
    ⟨(some 62), none, .op (.move (.r 8)), []⟩,
    ⟨(some 63), none, .op (.move (.r 11)), []⟩,
    ⟨(some 64), none, .op (.bin .geq .other (.r 62) (.r 63)), []⟩,
    ⟨(some 65), none, .op (.move (.r 64)), []⟩,
    ⟨(some 66), (some (65, true)), .op (.move (.r 9)), []⟩,
    ⟨(some 67), (some (65, true)), .op (.move (.r 12)), []⟩,
    ⟨(some 68), (some (65, true)), .op (.bin .leq .other (.r 66) (.r 67)), []⟩,
    ⟨(some 69), none, .op (.pick (.r 65) (.r 68) (.k (bo false))), []⟩,
    ⟨(some 70), none, .op (.move (.r 69)), []⟩,
    ⟨(some 71), (some (70, false)), .op (.move (.r 11)), []⟩,
    ⟨(some 72), (some (70, false)), .op (.move (.r 8)), []⟩,
    ⟨(some 73), (some (70, false)), .op (.bin .geq .other (.r 71) (.r 72)), []⟩,
    ⟨(some 74), (some (70, false)), .op (.move (.r 73)), []⟩,
    ⟨(some 75), (some (74, true)), .op (.move (.r 12)), []⟩,
    ⟨(some 76), (some (74, true)), .op (.move (.r 9)), []⟩,
    ⟨(some 77), (some (74, true)), .op (.bin .leq .other (.r 75) (.r 76)), []⟩,
    ⟨(some 78), (some (70, false)), .op (.pick (.r 74) (.r 77) (.k (bo false))), []⟩,
    ⟨(some 79), none, .op (.pick (.r 70) (.k (bo true)) (.r 78)), []⟩,
    ⟨(some 80), none, .op (.move (.r 79)), []⟩,
    ⟨(some 81), (some (80, false)), .op (.move (.r 9)), []⟩,
    ⟨(some 82), (some (80, false)), .op (.move (.r 11)), []⟩,
    ⟨(some 83), (some (80, false)), .op (.bin .leq .other (.r 81) (.r 82)), []⟩,
    ⟨(some 84), none, .op (.pick (.r 80) (.k (bo true)) (.r 83)), []⟩,
    ⟨(some 85), none, .op (.move (.r 84)), []⟩,
    ⟨(some 86), (some (85, false)), .op (.move (.r 12)), []⟩,
    ⟨(some 87), (some (85, false)), .op (.move (.r 8)), []⟩,
    ⟨(some 88), (some (85, false)), .op (.bin .leq .other (.r 86) (.r 87)), []⟩,
    ⟨(some 89), none, .op (.pick (.r 85) (.k (bo true)) (.r 88)), []⟩,
    ⟨(some 90), none, .op (.un .not (.r 89)), []⟩])
  (.cond (.r 90)
  (.seq (.ops [
    ⟨(some 2), none, .op (.move (.k (bo false))), []⟩])
  (.ret))
  (.skip)))))
  (.ops [
    ⟨(some 54), none, .op (.move (.r 10)), []⟩,
    ⟨(some 55), none, .op (.bin .add .other (.r 54) (.k (i64 1))), []⟩,
    ⟨(some 10), none, .op (.move (.r 55)), []⟩]))))))
  (.seq (.ops [
    ⟨(some 13), none, .op (.move (.k (i64 0))), []⟩])
  (.block 4 (.loop (.seq (.seq (.ops [
    ⟨(some 91), none, .op (.move (.r 13)), []⟩,
    ⟨(some 92), none, .op (.move (.r 6)), []⟩,
    ⟨(some 93), none, .op (.lenL (.r 92)), []⟩,
    ⟨(some 94), none, .op (.bin .lss .other (.r 91) (.r 93)), []⟩])
  (.cond (.r 94)
  (.skip)
  (.exit 4)))
  (.seq (.block 5 (.seq (.ops [
    ⟨(some 97), none, .op (.move (.r 13)), []⟩,
    ⟨(some 98), none, .op (.move (.r 8)), []⟩,
    ⟨(some 99), none, .op (.bin .geq .other (.r 97) (.r 98)), []⟩,
    ⟨(some 100), none, .op (.move (.r 99)), []⟩,
    ⟨(some 101), (some (100, true)), .op (.move (.r 13)), []⟩,
    ⟨(some 102), (some (100, true)), .op (.move (.r 9)), []⟩,
    ⟨(some 103), (some (100, true)), .op (.bin .lss .other (.r 101) (.r 102)), []⟩,
    ⟨(some 104), none, .op (.pick (.r 100) (.r 103) (.k (bo false))), []⟩,
    ⟨(some 105), none, .op (.move (.r 3)), []⟩,
    ⟨(some 106), none, .op (.move (.r 6)), []⟩,
    ⟨(some 107), none, .op (.move (.r 13)), []⟩,
    ⟨(some 108), none, .op (.idxAddr 1 (.r 106) (.r 107)), []⟩,
    ⟨(some 109), none, .op (.load none (.r 108)), []⟩,
    ⟨(some 110), none, .op (.move (.r 7)), []⟩,
    ⟨(some 111), none, .call (.k (.clos 19 [])) [(.r 105), (.r 109), (.r 110)], []⟩,
    ⟨(some 112), none, .op (.bin .neq .bool (.r 104) (.r 111)), []⟩])
  (.cond (.r 112)
  (.seq (.ops [
    ⟨(some 2), none, .op (.move (.k (bo false))), []⟩])
  (.ret))
  (.skip))))
  (.ops [
    ⟨(some 95), none, .op (.move (.r 13)), []⟩,
    ⟨(some 96), none, .op (.bin .add .other (.r 95) (.k (i64 1))), []⟩,
    ⟨(some 13), none, .op (.move (.r 96)), []⟩]))))))))))
  (.ops [
    ⟨(some 33), none, .op (.move (.r 7)), []⟩,
    ⟨(some 34), none, .op (.bin .add .other (.r 33) (.k (i64 1))), []⟩,
    ⟨(some 7), none, .op (.move (.r 34)), []⟩]))))))
  (.seq (.ops [
    ⟨(some 113), none, .call (.k (.clos 7 [])) [], []⟩,
    ⟨(some 2), none, .op (.move (.r 113)), []⟩])
  (.ret)))))))
theorem e4 : Try.f4.body.map (normCode Try.prog true Try.f4.ntmps) = some n4 := by kernel_rfl
theorem r4 : resOf Try.f4 = some [2] := by kernel_rfl

def n5 : NCode :=
  .seq (.ops [
    ⟨(some 6), none, .op (.move (.k (bo false))), []⟩])
  (.seq (.seq (.ops [
    ⟨(some 17), none, .op (.move (.r 0)), []⟩,
    ⟨(some 18), none, .op (.lenL (.r 17)), []⟩,
    ⟨(some 19), none, .op (.bin .gtr .other (.r 18) (.k (i64 60))), []⟩])
  (.cond (.r 19)
  (.seq (.ops [
    ⟨(some 20), none, .call (.k (.clos 7 [])) [], []⟩,
    ⟨(some 6), none, .op (.move (.r 20)), []⟩])
  (.ret))
  (.skip)))
  (.seq (.ops [
    ⟨(some 22), none, .op (.move (.r 0)), []⟩,
    ⟨(some 23), none, .call (.k (.clos 8 [])) [(.r 22)], []⟩,
    ⟨(some 21), none, .op (.move (.r 23)), []⟩,
    ⟨(some 24), none, .op (.extract 0 (.r 21)), []⟩,
    ⟨(some 25), none, .op (.extract 1 (.r 21)), []⟩,
    ⟨(some 26), none, .op (.extract 2 (.r 21)), []⟩,
    ⟨(some 7), none, .op (.move (.r 24)), []⟩,
    ⟨(some 8), none, .op (.move (.r 25)), []⟩,
    ⟨(some 9), none, .op (.move (.r 26)), []⟩])
  (.seq (.ops [
    ⟨(some 28), none, .op (.move (.r 0)), []⟩,
    ⟨(some 29), none, .call (.k (.clos 9 [])) [(.r 28)], []⟩,
    ⟨(some 27), none, .op (.move (.r 29)), []⟩,
    ⟨(some 30), none, .op (.extract 0 (.r 27)), []⟩,
    ⟨(some 31), none, .op (.extract 1 (.r 27)), []⟩,
    ⟨(some 32), none, .op (.extract 2 (.r 27)), []⟩,
    ⟨(some 10), none, .op (.move (.r 30)), []⟩,
    ⟨(some 11), none, .op (.move (.r 31)), []⟩,
    ⟨(some 12), none, .op (.move (.r 32)), []⟩])
  (.seq (.seq (.ops [
    ⟨(some 33), none, .op (.move (.r 9)), []⟩,
    ⟨(some 34), none, .op (.move (.r 12)), []⟩,
    ⟨(some 35), none, .op (.bin .neq .other (.r 33) (.r 34)), []⟩])
  (.cond (.r 35)
  (.seq (.ops [
    ⟨(some 6), none, .op (.move (.k (bo false))), []⟩])
  (.ret))
  (.skip)))
  (.seq (.seq (.ops [
    ⟨(some 36), none, .op (.move (.r 12)), []⟩,
    ⟨(some 37), none, .op (.bin .neq .other (.r 36) (.k (i64 0))), []⟩])
  (.cond (.r 37)
  (.seq (.ops [
    ⟨(some 38), none, .call (.k (.clos 7 [])) [], []⟩,
    ⟨(some 6), none, .op (.move (.r 38)), []⟩])
  (.ret))
  (.skip)))
  (.seq (.ops [
    ⟨(some 40), none, .op (.move (.r 7)), []⟩,
    ⟨(some 41), none, .op (.move (.r 1)), []⟩,
    ⟨(some 42), none, .call (.k (.clos 18 [])) [(.r 40), (.r 41)], []⟩,
    ⟨(some 39), none, .op (.move (.r 42)), []⟩,
    ⟨(some 43), none, .op (.extract 0 (.r 39)), []⟩,
    ⟨(some 44), none, .op (.extract 1 (.r 39)), []⟩,
    ⟨(some 13), none, .op (.move (.r 43)), []⟩,
    ⟨(some 14), none, .op (.move (.r 44)), []⟩])
  (.seq (.ops [
    ⟨(some 46), none, .op (.move (.r 10)), []⟩,
    ⟨(some 47), none, .op (.move (.r 1)), []⟩,
    ⟨(some 48), none, .call (.k (.clos 20 [])) [(.r 46), (.r 47)], []⟩,
    ⟨(some 45), none, .op (.move (.r 48)), []⟩,
    ⟨(some 49), none, .op (.extract 0 (.r 45)), []⟩,
    ⟨(some 50), none, .op (.extract 1 (.r 45)), []⟩,
    ⟨(some 15), none, .op (.move (.r 49)), []⟩,
    ⟨(some 16), none, .op (.move (.r 50)), []⟩])
  (.seq (.ops [
    ⟨(some 51), none, .op (.move (.r 7)), []⟩,
    ⟨(some 52), none, .call (.k (.clos 22 [])) [(.r 51)], []⟩,
    ⟨(some 53), none, .op (.move (.r 10)), []⟩,
    ⟨(some 54), none, .call (.k (.clos 23 [])) [(.r 53)], []⟩,
    ⟨(some 55), none, .call (.k (.clos 21 [])) [(.r 52), (.r 54)], []⟩,
    ⟨(some 56), none, .op (.move (.r 55)), []⟩,
    ⟨(some 57), (some (56, true)), .op (.move (.r 7)), []⟩,
    ⟨(some 58), (some (56, true)), .call (.k (.clos 17 [])) [(.r 57)], []⟩,
    ⟨(some 59), (some (56, true)), .op (.move (.r 10)), []⟩,
    ⟨(some 60), (some (56, true)), .call (.k (.clos 24 [])) [(.r 59)], []⟩,
    ⟨(some 61), (some (56, true)), .call (.k (.clos 21 [])) [(.r 58), (.r 60)], []⟩,
    ⟨(some 62), none, .op (.pick (.r 56) (.r 61) (.k (bo false))), []⟩,
    ⟨(some 63), none, .op (.move (.r 62)), []⟩,
    ⟨(some 64), (some (63, true)), .op (.move (.r 7)), []⟩,
    ⟨(some 65), (some (63, true)), .op (.move (.r 1)), []⟩,
    ⟨(some 66), (some (63, true)), .call (.k (.clos 25 [])) [(.r 64), (.r 65)], []⟩,
    ⟨(some 67), (some (63, true)), .op (.move (.r 10)), []⟩,
    ⟨(some 68), (some (63, true)), .op (.move (.r 1)), []⟩,
    ⟨(some 69), (some (63, true)), .call (.k (.clos 26 [])) [(.r 67), (.r 68)], []⟩,
    ⟨(some 70), (some (63, true)), .call (.k (.clos 21 [])) [(.r 66), (.r 69)], []⟩,
    ⟨(some 71), none, .op (.pick (.r 63) (.r 70) (.k (bo false))), []⟩,
    ⟨(some 72), none, .op (.move (.r 71)), []⟩,
    ⟨(some 73), (some (72, true)), .op (.move (.r 7)), []⟩,
    ⟨(some 74), (some (72, true)), .op (.move (.r 1)), []⟩,
    ⟨(some 75), (some (72, true)), .call (.k (.clos 27 [])) [(.r 73), (.r 74)], []⟩,
    ⟨(some 76), (some (72, true)), .op (.move (.r 10)), []⟩,
    ⟨(some 77), (some (72, true)), .op (.move (.r 1)), []⟩,
    ⟨(some 78), (some (72, true)), .call (.k (.clos 28 [])) [(.r 76), (.r 77)], []⟩,
    ⟨(some 79), (some (72, true)), .call (.k (.clos 21 [])) [(.r 75), (.r 78)], []⟩,
    ⟨(some 80), none, .op (.pick (.r 72) (.r 79) (.k (bo false))), []⟩,
    ⟨(some 81), none, .op (.move (.r 80)), []⟩,
    ⟨(some 82), (some (81, true)), .op (.move (.r 7)), []⟩,
    ⟨(some 83), (some (81, true)), .op (.move (.r 1)), []⟩,
    ⟨(some 84), (some (81, true)), .op (.move (.r 2)), []⟩,
    ⟨(some 85), (some (81, true)), .call (.k (.clos 19 [])) [(.r 82), (.r 83), (.r 84)], []⟩,
    ⟨(some 86), (some (81, true)), .op (.move (.r 10)), []⟩,
    ⟨(some 87), (some (81, true)), .op (.move (.r 1)), []⟩,
    ⟨(some 88), (some (81, true)), .op (.move (.r 2)), []⟩,
    ⟨(some 89), (some (81, true)), .call (.k (.clos 29 [])) [(.r 86), (.r 87), (.r 88)], []⟩,
    ⟨(some 90), (some (81, true)), .op (.bin .eql .bool (.r 85) (.r 89)), []⟩,
    ⟨(some 91), none, .op (.pick (.r 81) (.r 90) (.k (bo false))), []⟩,
    ⟨(some 92), none, .op (.move (.r 91)), []⟩,
    ⟨(some 93), (some (92, true)), .op (.move (.r 7)), []⟩,
    ⟨(some 94), (some (92, true)), .op (.move (.r 1)), []⟩,
    ⟨(some 95), (some (92, true)), .call (.k (.clos 30 [])) [(.r 93), (.r 94)], []⟩,
    ⟨(some 96), (some (92, true)), .op (.move (.r 10)), []⟩,
    ⟨(some 97), (some (92, true)), .op (.move (.r 1)), []⟩,
    ⟨(some 98), (some (92, true)), .call (.k (.clos 31 [])) [(.r 96), (.r 97)], []⟩,
    ⟨(some 99), (some (92, true)), .op (.bin .eql .bool (.r 95) (.r 98)), []⟩,
    ⟨(some 100), none, .op (.pick (.r 92) (.r 99) (.k (bo false))), []⟩,
    ⟨(some 101), none, .op (.move (.r 100)), []⟩,
    ⟨(some 102), (some (101, true)), .op (.move (.r 7)), []⟩,
    ⟨(some 103), (some (101, true)), .op (.move (.r 1)), []⟩,
    ⟨(some 104), (some (101, true)), .call (.k (.clos 32 [])) [(.r 102), (.r 103)], []⟩,
    ⟨(some 105), (some (101, true)), .op (.move (.r 10)), []⟩,
    ⟨(some 106), (some (101, true)), .op (.move (.r 1)), []⟩,
    ⟨(some 107), (some (101, true)), .call (.k (.clos 33 [])) [(.r 105), (.r 106)], []⟩,
    ⟨(some 108), (some (101, true)), .op (.bin .eql .other (.r 104) (.r 107)), []⟩,
    ⟨(some 109), none, .op (.pick (.r 101) (.r 108) (.k (bo false))), []⟩,
    ⟨(some 110), none, .op (.move (.r 109)), []⟩,
    ⟨(some 111), (some (110, true)), .op (.move (.r 13)), []⟩,
    ⟨(some 112), (some (110, true)), .op (.move (.r 15)), []⟩,
    ⟨(some 113), (some (110, true)), .op (.bin .eql .other (.r 111) (.r 112)), []⟩,
    ⟨(some 114), none, .op (.pick (.r 110) (.r 113) (.k (bo false))), []⟩,
    ⟨(some 115), none, .op (.move (.r 114)), []⟩,
    ⟨(some 116), (some (115, true)), .op (.move (.r 14)), []⟩,
    ⟨(some 117), (some (115, true)), .op (.move (.r 16)), []⟩,
    ⟨(some 118), (some (115, true)), .op (.bin .eql .other (.r 116) (.r 117)), []⟩,
    ⟨(some 119), none, .op (.pick (.r 115) (.r 118) (.k (bo false))), []⟩,
    ⟨(some 120), none, .op (.move (.r 119)), []⟩,
    ⟨(some 121), (some (120, true)), .op (.move (.r 7)), []⟩,
    ⟨(some 122), (some (120, true)), .op (.move (.r 1)), []⟩,
    ⟨(some 123), (some (120, true)), .call (.k (.clos 14 [])) [(.r 121), (.r 122)], []⟩,
    ⟨(some 124), (some (120, true)), .op (.move (.r 10)), []⟩,
    ⟨(some 125), (some (120, true)), .op (.move (.r 1)), []⟩,
    ⟨(some 126), (some (120, true)), .call (.k (.clos 34 [])) [(.r 124), (.r 125)], []⟩,
    ⟨(some 127), (some (120, true)), .op (.bin .eql .other (.r 123) (.r 126)), []⟩,
    ⟨(some 128), none, .op (.pick (.r 120) (.r 127) (.k (bo false))), []⟩,
    ⟨(some 129), none, .op (.move (.r 128)), []⟩,
    ⟨(some 130), (some (129, true)), .op (.move (.r 7)), []⟩,
    ⟨(some 131), (some (129, true)), .op (.move (.r 1)), []⟩,
    ⟨(some 132), (some (129, true)), .call (.k (.clos 13 [])) [(.r 130), (.r 131)], []⟩,
    ⟨(some 133), (some (129, true)), .op (.move (.r 10)), []⟩,
    ⟨(some 134), (some (129, true)), .op (.move (.r 1)), []⟩,
    ⟨(some 135), (some (129, true)), .call (.k (.clos 35 [])) [(.r 133), (.r 134)], []⟩,
    ⟨(some 136), (some (129, true)), .op (.bin .eql .other (.r 132) (.r 135)), []⟩,
    ⟨(some 137), none, .op (.pick (.r 129) (.r 136) (.k (bo false))), []⟩,
    ⟨(some 138), none, .op (.move (.r 137)), []⟩,
    ⟨(some 139), (some (138, true)), .op (.move (.r 7)), []⟩,
    ⟨(some 140), (some (138, true)), .op (.move (.r 1)), []⟩,
    ⟨(some 141), (some (138, true)), .call (.k (.clos 15 [])) [(.r 139), (.r 140)], []⟩,
    ⟨(some 142), (some (138, true)), .op (.move (.r 10)), []⟩,
    ⟨(some 143), (some (138, true)), .op (.move (.r 1)), []⟩,
    ⟨(some 144), (some (138, true)), .call (.k (.clos 16 [])) [(.r 142), (.r 143)], []⟩,
    ⟨(some 145), (some (138, true)), .op (.bin .eql .other (.r 141) (.r 144)), []⟩,
    ⟨(some 146), none, .op (.pick (.r 138) (.r 145) (.k (bo false))), []⟩,
    ⟨(some 147), none, .op (.move (.r 146)), []⟩,
    ⟨(some 148), (some (147, true)), .call (.k (.clos 7 [])) [], []⟩,
    ⟨(some 149), none, .op (.pick (.r 147) (.r 148) (.k (bo false))), []⟩,
    ⟨(some 6), none, .op (.move (.r 149)), []⟩])
  (.ret)))))))))
theorem e5 : Try.f5.body.map (normCode Try.prog true Try.f5.ntmps) = some n5 := by kernel_rfl
theorem r5 : resOf Try.f5 = some [6] := by kernel_rfl

def n6 : NCode :=
  .seq (.ops [
    ⟨(some 4), none, .op (.move (.k (bo false))), []⟩])
  (.seq (.ops [
    ⟨(some 5), none, .op (.move (.k (.sc (.pointer none)))), []⟩])
  (.seq (.ops [
    ⟨(some 9), none, .op (.move (.r 5)), []⟩,
    ⟨(some 10), none, .op (.move (.r 0)), []⟩,
    ⟨(some 11), none, .call (.k (.clos 18 [])) [(.r 9), (.r 10)], []⟩,
    ⟨(some 8), none, .op (.move (.r 11)), []⟩,
    ⟨(some 12), none, .op (.extract 0 (.r 8)), []⟩,
    ⟨(some 13), none, .op (.extract 1 (.r 8)), []⟩,
    ⟨(some 6), none, .op (.move (.r 12)), []⟩,
    ⟨(some 7), none, .op (.move (.r 13)), []⟩])
  (.seq (.ops [
    ⟨(some 14), none, .op (.move (.r 5)), []⟩,
    ⟨(some 15), none, .call (.k (.clos 10 [])) [(.r 14)], []⟩,
    ⟨(some 16), none, .op (.bin .eql .other (.r 15) (.k (i64 0))), []⟩,
    ⟨(some 17), none, .op (.move (.r 16)), []⟩,
    ⟨(some 18), (some (17, true)), .op (.move (.r 5)), []⟩,
    ⟨(some 19), (some (17, true)), .op (.move (.r 0)), []⟩,
    ⟨(some 20), (some (17, true)), .call (.k (.clos 13 [])) [(.r 18), (.r 19)], []⟩,
    ⟨(some 21), (some (17, true)), .op (.bin .eql .other (.r 20) (.k (.sc (.string ⟨#[]⟩)))), []⟩,
    ⟨(some 22), none, .op (.pick (.r 17) (.r 21) (.k (bo false))), []⟩,
    ⟨(some 23), none, .op (.move (.r 22)), []⟩,
    ⟨(some 24), (some (23, true)), .op (.move (.r 5)), []⟩,
    ⟨(some 25), (some (23, true)), .op (.move (.r 0)), []⟩,
    ⟨(some 26), (some (23, true)), .call (.k (.clos 14 [])) [(.r 24), (.r 25)], []⟩,
    ⟨(some 27), (some (23, true)), .op (.bin .eql .other (.r 26) (.k (i64 (-1)))), []⟩,
    ⟨(some 28), none, .op (.pick (.r 23) (.r 27) (.k (bo false))), []⟩,
    ⟨(some 29), none, .op (.move (.r 28)), []⟩,
    ⟨(some 30), (some (29, true)), .op (.move (.r 5)), []⟩,
    ⟨(some 31), (some (29, true)), .op (.move (.r 1)), []⟩,
    ⟨(some 32), (some (29, true)), .call (.k (.clos 11 [])) [(.r 30), (.r 31)], []⟩,
    ⟨(some 33), (some (29, true)), .op (.bin .eql .other (.r 32) (.k (i64 (-1)))), []⟩,
    ⟨(some 34), none, .op (.pick (.r 29) (.r 33) (.k (bo false))), []⟩,
    ⟨(some 35), none, .op (.move (.r 34)), []⟩,
    ⟨(some 36), (some (35, true)), .op (.move (.r 5)), []⟩,
    ⟨(some 37), (some (35, true)), .op (.move (.r 0)), []⟩,
    ⟨(some 38), (some (35, true)), .call (.k (.clos 25 [])) [(.r 36), (.r 37)], []⟩,
    ⟨(some 39), (some (35, true)), .op (.lenL (.r 38)), []⟩,
    ⟨(some 40), (some (35, true)), .op (.bin .eql .other (.r 39) (.k (i64 0))), []⟩,
    ⟨(some 41), none, .op (.pick (.r 35) (.r 40) (.k (bo false))), []⟩,
    ⟨(some 42), none, .op (.move (.r 41)), []⟩,
    ⟨(some 43), (some (42, true)), .op (.move (.r 5)), []⟩,
    ⟨(some 44), (some (42, true)), .op (.move (.r 0)), []⟩,
    ⟨(some 45), (some (42, true)), .call (.k (.clos 30 [])) [(.r 43), (.r 44)], []⟩,
    ⟨(some 46), (some (42, true)), .op (.un .not (.r 45)), []⟩,
    ⟨(some 47), none, .op (.pick (.r 42) (.r 46) (.k (bo false))), []⟩,
    ⟨(some 48), none, .op (.move (.r 47)), []⟩,
    ⟨(some 49), (some (48, true)), .op (.move (.r 5)), []⟩,
    ⟨(some 50), (some (48, true)), .call (.k (.clos 17 [])) [(.r 49)], []⟩,
    ⟨(some 51), (some (48, true)), .op (.lenL (.r 50)), []⟩,
    ⟨(some 52), (some (48, true)), .op (.bin .eql .other (.r 51) (.k (i64 0))), []⟩,
    ⟨(some 53), none, .op (.pick (.r 48) (.r 52) (.k (bo false))), []⟩,
    ⟨(some 54), none, .op (.move (.r 53)), []⟩,
    ⟨(some 55), (some (54, true)), .op (.move (.r 5)), []⟩,
    ⟨(some 56), (some (54, true)), .op (.move (.r 0)), []⟩,
    ⟨(some 57), (some (54, true)), .call (.k (.clos 32 [])) [(.r 55), (.r 56)], []⟩,
    ⟨(some 58), (some (54, true)), .op (.bin .eql .other (.r 57) (.k (i64 (-1)))), []⟩,
    ⟨(some 59), none, .op (.pick (.r 54) (.r 58) (.k (bo false))), []⟩,
    ⟨(some 60), none, .op (.move (.r 59)), []⟩,
    ⟨(some 61), (some (60, true)), .op (.move (.r 6)), []⟩,
    ⟨(some 62), (some (60, true)), .op (.bin .eql .other (.r 61) (.k (i64 0))), []⟩,
    ⟨(some 63), none, .op (.pick (.r 60) (.r 62) (.k (bo false))), []⟩,
    ⟨(some 64), none, .op (.move (.r 63)), []⟩,
    ⟨(some 65), (some (64, true)), .op (.move (.r 7)), []⟩,
    ⟨(some 66), (some (64, true)), .op (.bin .eql .other (.r 65) (.k (i64 0))), []⟩,
    ⟨(some 67), none, .op (.pick (.r 64) (.r 66) (.k (bo false))), []⟩,
    ⟨(some 68), none, .op (.move (.r 67)), []⟩,
    ⟨(some 69), (some (68, true)), .op (.move (.r 5)), []⟩,
    ⟨(some 70), (some (68, true)), .op (.move (.r 0)), []⟩,
    ⟨(some 71), (some (68, true)), .call (.k (.clos 27 [])) [(.r 69), (.r 70)], []⟩,
    ⟨(some 72), (some (68, true)), .op (.lenL (.r 71)), []⟩,
    ⟨(some 73), (some (68, true)), .op (.bin .eql .other (.r 72) (.k (i64 0))), []⟩,
    ⟨(some 74), none, .op (.pick (.r 68) (.r 73) (.k (bo false))), []⟩,
    ⟨(some 75), none, .op (.move (.r 74)), []⟩,
    ⟨(some 76), (some (75, true)), .op (.move (.r 5)), []⟩,
    ⟨(some 77), (some (75, true)), .op (.move (.r 0)), []⟩,
    ⟨(some 78), (some (75, true)), .op (.move (.r 0)), []⟩,
    ⟨(some 79), (some (75, true)), .call (.k (.clos 19 [])) [(.r 76), (.r 77), (.r 78)], []⟩,
    ⟨(some 80), (some (75, true)), .op (.un .not (.r 79)), []⟩,
    ⟨(some 81), none, .op (.pick (.r 75) (.r 80) (.k (bo false))), []⟩,
    ⟨(some 82), none, .op (.move (.r 81)), []⟩,
    ⟨(some 83), (some (82, true)), .op (.move (.r 5)), []⟩,
    ⟨(some 84), (some (82, true)), .op (.move (.r 0)), []⟩,
    ⟨(some 85), (some (82, true)), .call (.k (.clos 15 [])) [(.r 83), (.r 84)], []⟩,
    ⟨(some 86), (some (82, true)), .op (.bin .eql .other (.r 85) (.k (i64 0))), []⟩,
    ⟨(some 87), none, .op (.pick (.r 82) (.r 86) (.k (bo false))), []⟩,
    ⟨(some 88), none, .op (.move (.r 87)), []⟩,
    ⟨(some 89), (some (88, true)), .op (.move (.r 5)), []⟩,
    ⟨(some 90), (some (88, true)), .call (.k (.clos 22 [])) [(.r 89)], []⟩,
    ⟨(some 91), (some (88, true)), .op (.lenL (.r 90)), []⟩,
    ⟨(some 92), (some (88, true)), .op (.bin .eql .other (.r 91) (.k (i64 0))), []⟩,
    ⟨(some 93), none, .op (.pick (.r 88) (.r 92) (.k (bo false))), []⟩,
    ⟨(some 94), none, .op (.move (.r 93)), []⟩,
    ⟨(some 95), (some (94, true)), .call (.k (.clos 7 [])) [], []⟩,
    ⟨(some 96), none, .op (.pick (.r 94) (.r 95) (.k (bo false))), []⟩,
    ⟨(some 4), none, .op (.move (.r 96)), []⟩])
  (.ret))))
theorem e6 : Try.f6.body.map (normCode Try.prog true Try.f6.ntmps) = some n6 := by kernel_rfl
theorem r6 : resOf Try.f6 = some [4] := by kernel_rfl

def n7 : NCode :=
  .seq (.ops [
    ⟨(some 0), none, .op (.move (.k (bo false))), []⟩])
  (.seq (.ops [
    ⟨(some 7), none, .op (.build [(.sc (.string ⟨#[]⟩)), (i64 0)] [(0, 1, (.k (.sc (.string ⟨#[97, 108, 108]⟩)))), (1, 1, (.k (i64 (-1))))]), []⟩,
    ⟨(some 8), none, .op (.build [(.sc (.string ⟨#[]⟩)), (i64 0)] [(0, 1, (.k (.sc (.string ⟨#[97]⟩)))), (1, 1, (.k (i64 0)))]), []⟩,
    ⟨(some 9), none, .op (.build [(.sc (.string ⟨#[]⟩)), (i64 0)] [(0, 1, (.k (.sc (.string ⟨#[98]⟩)))), (1, 1, (.k (i64 0)))]), []⟩,
    ⟨(some 10), none, .op (.build [(.sc (.string ⟨#[]⟩)), (i64 0)] [(0, 1, (.k (.sc (.string ⟨#[99]⟩)))), (1, 1, (.k (i64 1)))]), []⟩,
    ⟨(some 11), none, .op (.buildSlice (some 2) [(.sc (.string ⟨#[]⟩)), (i64 0)] 4 [(0, (.r 7)), (1, (.r 8)), (2, (.r 9)), (3, (.r 10))]), []⟩,
    ⟨(some 12), none, .call (.k (.clos 8 [])) [(.r 11)], []⟩,
    ⟨(some 6), none, .op (.move (.r 12)), []⟩,
    ⟨(some 13), none, .op (.extract 0 (.r 6)), []⟩,
    ⟨(some 14), none, .op (.extract 1 (.r 6)), []⟩,
    ⟨(some 15), none, .op (.extract 2 (.r 6)), []⟩,
    ⟨(some 1), none, .op (.move (.r 13)), []⟩,
    ⟨(some 2), none, .op (.move (.r 14)), []⟩,
    ⟨(some 3), none, .op (.move (.r 15)), []⟩])
  (.seq (.seq (.ops [
    ⟨(some 16), none, .op (.move (.r 3)), []⟩,
    ⟨(some 17), none, .op (.bin .neq .other (.r 16) (.k (i64 0))), []⟩,
    ⟨(some 18), none, .op (.move (.r 17)), []⟩,
    ⟨(some 19), (some (18, false)), .op (.move (.r 1)), []⟩,
    ⟨(some 20), (some (18, false)), .op (.bin .eql .pointer (.r 19) (.k (.sc (.pointer none)))), []⟩,
    ⟨(some 21), none, .op (.pick (.r 18) (.k (bo true)) (.r 20)), []⟩])
  (.cond (.r 21)
  (.seq (.ops [
    ⟨(some 0), none, .op (.move (.k (bo false))), []⟩])
  (.ret))
  (.skip)))
  (.seq (.ops [
    ⟨(some 23), none, .op (.move (.r 1)), []⟩,
    ⟨(some 24), none, .call (.k (.clos 18 [])) [(.r 23), (.k (i64 1))], []⟩,
    ⟨(some 22), none, .op (.move (.r 24)), []⟩,
    ⟨(some 25), none, .op (.extract 0 (.r 22)), []⟩,
    ⟨(some 26), none, .op (.extract 1 (.r 22)), []⟩,
    ⟨(some 4), none, .op (.move (.r 25)), []⟩,
    ⟨(some 5), none, .op (.move (.r 26)), []⟩])
  (.seq (.ops [
    ⟨(some 27), none, .op (.move (.r 1)), []⟩,
    ⟨(some 28), none, .call (.k (.clos 22 [])) [(.r 27)], []⟩,
    ⟨(some 29), none, .op (.buildSlice none [(i64 0)] 4 [(0, (.k (i64 0))), (1, (.k (i64 1))), (2, (.k (i64 3))), (3, (.k (i64 2)))]), []⟩,
    ⟨(some 30), none, .call (.k (.clos 21 [])) [(.r 28), (.r 29)], []⟩,
    ⟨(some 31), none, .op (.move (.r 30)), []⟩,
    ⟨(some 32), (some (31, true)), .op (.move (.r 1)), []⟩,
    ⟨(some 33), (some (31, true)), .call (.k (.clos 17 [])) [(.r 32)], []⟩,
    ⟨(some 34), (some (31, true)), .op (.buildSlice none [(i64 0)] 2 [(0, (.k (i64 3))), (1, (.k (i64 2)))]), []⟩,
    ⟨(some 35), (some (31, true)), .call (.k (.clos 21 [])) [(.r 33), (.r 34)], []⟩,
    ⟨(some 36), none, .op (.pick (.r 31) (.r 35) (.k (bo false))), []⟩,
    ⟨(some 37), none, .op (.move (.r 36)), []⟩,
    ⟨(some 38), (some (37, true)), .op (.move (.r 4)), []⟩,
    ⟨(some 39), (some (37, true)), .op (.bin .eql .other (.r 38) (.k (i64 0))), []⟩,
    ⟨(some 40), none, .op (.pick (.r 37) (.r 39) (.k (bo false))), []⟩,
    ⟨(some 41), none, .op (.move (.r 40)), []⟩,
    ⟨(some 42), (some (41, true)), .op (.move (.r 5)), []⟩,
    ⟨(some 43), (some (41, true)), .op (.bin .eql .other (.r 42) (.k (i64 1))), []⟩,
    ⟨(some 44), none, .op (.pick (.r 41) (.r 43) (.k (bo false))), []⟩,
    ⟨(some 45), none, .op (.move (.r 44)), []⟩,
    ⟨(some 46), (some (45, true)), .op (.move (.r 1)), []⟩,
    ⟨(some 47), (some (45, true)), .call (.k (.clos 11 [])) [(.r 46), (.k (.sc (.string ⟨#[99]⟩)))], []⟩,
    ⟨(some 48), (some (45, true)), .op (.bin .eql .other (.r 47) (.k (i64 3))), []⟩,
    ⟨(some 49), none, .op (.pick (.r 45) (.r 48) (.k (bo false))), []⟩,
    ⟨(some 0), none, .op (.move (.r 49)), []⟩])
  (.ret)))))
theorem e7 : Try.f7.body.map (normCode Try.prog true Try.f7.ntmps) = some n7 := by kernel_rfl
theorem r7 : resOf Try.f7 = some [0] := by kernel_rfl

def n8 : NCode :=
  .seq (.ops [
    ⟨(some 2), none, .op (.move (.k (.sc (.pointer none)))), []⟩,
    ⟨(some 3), none, .op (.move (.k (i64 0))), []⟩,
    ⟨(some 4), none, .op (.move (.k (i64 0))), []⟩])
  (.seq (.seq (.ops [
    ⟨(some 11), none, .op (.move (.r 0)), []⟩,
    ⟨(some 12), none, .op (.lenL (.r 11)), []⟩,
    ⟨(some 13), none, .op (.bin .eql .other (.r 12) (.k (i64 0))), []⟩,
    ⟨(some 14), none, .op (.move (.r 13)), []⟩,
    ⟨(some 15), (some (14, false)), .op (.move (.r 0)), []⟩,
    ⟨(some 16), (some (14, false)), .op (.lenL (.r 15)), []⟩,
    ⟨(some 17), (some (14, false)), .op (.bin .gtr .other (.r 16) (.k (i64 32))), []⟩,
    ⟨(some 18), none, .op (.pick (.r 14) (.k (bo true)) (.r 17)), []⟩])
  (.cond (.r 18)
  (.seq (.ops [
    ⟨(some 2), none, .op (.move (.k (.sc (.pointer none)))), []⟩,
    ⟨(some 3), none, .op (.move (.k (i64 0))), []⟩,
    ⟨(some 4), none, .op (.move (.k (i64 5))), []⟩])
  (.ret))
  (.skip)))
  (.seq (.tree (.one ⟨(some 19), none, .op (.move (.r 0)), []⟩
    (.one ⟨(some 22), none, .op (.move (.r 0)), []⟩
    (.one ⟨(some 23), none, .op (.lenL (.r 22)), []⟩
    (.one ⟨(some 25), none, .op (.move (.r 0)), []⟩
    (.one ⟨(some 26), none, .op (.lenL (.r 25)), []⟩
    (.both
    (.one ⟨(some 20), none, .call (.k (.clos 36 [])) [(.r 19)], []⟩
    (.both
    (.one ⟨(some 21), none, .op (.mkMap), []⟩
    (.both
    (.one ⟨(some 24), none, .op (.mkSlice 1 24 [(.lst [] .nil)] (.r 23) (.r 23)), []⟩
    (.one ⟨(some 27), none, .op (.mkSlice 2 16 [(i64 0), (i64 0)] (.r 26) (.r 26)), []⟩
    (.one ⟨(some 28), none, .op (.build [(.lst [] .nil), (.sc (.map none)), (.lst [] .nil), (.lst [] .nil), (.lst [] .nil), (.lst [] .nil)] [(0, 1, (.r 20)), (1, 1, (.r 21)), (2, 1, (.r 24)), (5, 1, (.r 27))]), []⟩
    (.one ⟨(some 29), none, .op (.box (.r 28)), []⟩
    (.one ⟨(some 5), none, .op (.move (.r 29)), []⟩
    (.nil))))))
    (.one ⟨(some 27), none, .op (.mkSlice 2 16 [(i64 0), (i64 0)] (.r 26) (.r 26)), []⟩
    (.one ⟨(some 24), none, .op (.mkSlice 1 24 [(.lst [] .nil)] (.r 23) (.r 23)), []⟩
    (.one ⟨(some 28), none, .op (.build [(.lst [] .nil), (.sc (.map none)), (.lst [] .nil), (.lst [] .nil), (.lst [] .nil), (.lst [] .nil)] [(0, 1, (.r 20)), (1, 1, (.r 21)), (2, 1, (.r 24)), (5, 1, (.r 27))]), []⟩
    (.one ⟨(some 29), none, .op (.box (.r 28)), []⟩
    (.one ⟨(some 5), none, .op (.move (.r 29)), []⟩
    (.nil))))))))
    (.both
    (.one ⟨(some 24), none, .op (.mkSlice 1 24 [(.lst [] .nil)] (.r 23) (.r 23)), []⟩
    (.both
    (.one ⟨(some 21), none, .op (.mkMap), []⟩
    (.one ⟨(some 27), none, .op (.mkSlice 2 16 [(i64 0), (i64 0)] (.r 26) (.r 26)), []⟩
    (.one ⟨(some 28), none, .op (.build [(.lst [] .nil), (.sc (.map none)), (.lst [] .nil), (.lst [] .nil), (.lst [] .nil), (.lst [] .nil)] [(0, 1, (.r 20)), (1, 1, (.r 21)), (2, 1, (.r 24)), (5, 1, (.r 27))]), []⟩
    (.one ⟨(some 29), none, .op (.box (.r 28)), []⟩
    (.one ⟨(some 5), none, .op (.move (.r 29)), []⟩
    (.nil))))))
    (.one ⟨(some 27), none, .op (.mkSlice 2 16 [(i64 0), (i64 0)] (.r 26) (.r 26)), []⟩
    (.one ⟨(some 21), none, .op (.mkMap), []⟩
    (.one ⟨(some 28), none, .op (.build [(.lst [] .nil), (.sc (.map none)), (.lst [] .nil), (.lst [] .nil), (.lst [] .nil), (.lst [] .nil)] [(0, 1, (.r 20)), (1, 1, (.r 21)), (2, 1, (.r 24)), (5, 1, (.r 27))]), []⟩
    (.one ⟨(some 29), none, .op (.box (.r 28)), []⟩
    (.one ⟨(some 5), none, .op (.move (.r 29)), []⟩
    (.nil))))))))
    (.one ⟨(some 27), none, .op (.mkSlice 2 16 [(i64 0), (i64 0)] (.r 26) (.r 26)), []⟩
    (.both
    (.one ⟨(some 21), none, .op (.mkMap), []⟩
    (.one ⟨(some 24), none, .op (.mkSlice 1 24 [(.lst [] .nil)] (.r 23) (.r 23)), []⟩
    (.one ⟨(some 28), none, .op (.build [(.lst [] .nil), (.sc (.map none)), (.lst [] .nil), (.lst [] .nil), (.lst [] .nil), (.lst [] .nil)] [(0, 1, (.r 20)), (1, 1, (.r 21)), (2, 1, (.r 24)), (5, 1, (.r 27))]), []⟩
    (.one ⟨(some 29), none, .op (.box (.r 28)), []⟩
    (.one ⟨(some 5), none, .op (.move (.r 29)), []⟩
    (.nil))))))
    (.one ⟨(some 24), none, .op (.mkSlice 1 24 [(.lst [] .nil)] (.r 23) (.r 23)), []⟩
    (.one ⟨(some 21), none, .op (.mkMap), []⟩
    (.one ⟨(some 28), none, .op (.build [(.lst [] .nil), (.sc (.map none)), (.lst [] .nil), (.lst [] .nil), (.lst [] .nil), (.lst [] .nil)] [(0, 1, (.r 20)), (1, 1, (.r 21)), (2, 1, (.r 24)), (5, 1, (.r 27))]), []⟩
    (.one ⟨(some 29), none, .op (.box (.r 28)), []⟩
    (.one ⟨(some 5), none, .op (.move (.r 29)), []⟩
    (.nil)))))))))))
    (.both
    (.one ⟨(some 21), none, .op (.mkMap), []⟩
    (.both
    (.one ⟨(some 20), none, .call (.k (.clos 36 [])) [(.r 19)], []⟩
    (.both
    (.one ⟨(some 24), none, .op (.mkSlice 1 24 [(.lst [] .nil)] (.r 23) (.r 23)), []⟩
    (.one ⟨(some 27), none, .op (.mkSlice 2 16 [(i64 0), (i64 0)] (.r 26) (.r 26)), []⟩
    (.one ⟨(some 28), none, .op (.build [(.lst [] .nil), (.sc (.map none)), (.lst [] .nil), (.lst [] .nil), (.lst [] .nil), (.lst [] .nil)] [(0, 1, (.r 20)), (1, 1, (.r 21)), (2, 1, (.r 24)), (5, 1, (.r 27))]), []⟩
    (.one ⟨(some 29), none, .op (.box (.r 28)), []⟩
    (.one ⟨(some 5), none, .op (.move (.r 29)), []⟩
    (.nil))))))
    (.one ⟨(some 27), none, .op (.mkSlice 2 16 [(i64 0), (i64 0)] (.r 26) (.r 26)), []⟩
    (.one ⟨(some 24), none, .op (.mkSlice 1 24 [(.lst [] .nil)] (.r 23) (.r 23)), []⟩
    (.one ⟨(some 28), none, .op (.build [(.lst [] .nil), (.sc (.map none)), (.lst [] .nil), (.lst [] .nil), (.lst [] .nil), (.lst [] .nil)] [(0, 1, (.r 20)), (1, 1, (.r 21)), (2, 1, (.r 24)), (5, 1, (.r 27))]), []⟩
    (.one ⟨(some 29), none, .op (.box (.r 28)), []⟩
    (.one ⟨(some 5), none, .op (.move (.r 29)), []⟩
    (.nil))))))))
    (.both
    (.one ⟨(some 24), none, .op (.mkSlice 1 24 [(.lst [] .nil)] (.r 23) (.r 23)), []⟩
    (.both
    (.one ⟨(some 20), none, .call (.k (.clos 36 [])) [(.r 19)], []⟩
    (.one ⟨(some 27), none, .op (.mkSlice 2 16 [(i64 0), (i64 0)] (.r 26) (.r 26)), []⟩
    (.one ⟨(some 28), none, .op (.build [(.lst [] .nil), (.sc (.map none)), (.lst [] .nil), (.lst [] .nil), (.lst [] .nil), (.lst [] .nil)] [(0, 1, (.r 20)), (1, 1, (.r 21)), (2, 1, (.r 24)), (5, 1, (.r 27))]), []⟩
    (.one ⟨(some 29), none, .op (.box (.r 28)), []⟩
    (.one ⟨(some 5), none, .op (.move (.r 29)), []⟩
    (.nil))))))
    (.one ⟨(some 27), none, .op (.mkSlice 2 16 [(i64 0), (i64 0)] (.r 26) (.r 26)), []⟩
    (.one ⟨(some 20), none, .call (.k (.clos 36 [])) [(.r 19)], []⟩
    (.one ⟨(some 28), none, .op (.build [(.lst [] .nil), (.sc (.map none)), (.lst [] .nil), (.lst [] .nil), (.lst [] .nil), (.lst [] .nil)] [(0, 1, (.r 20)), (1, 1, (.r 21)), (2, 1, (.r 24)), (5, 1, (.r 27))]), []⟩
    (.one ⟨(some 29), none, .op (.box (.r 28)), []⟩
    (.one ⟨(some 5), none, .op (.move (.r 29)), []⟩
    (.nil))))))))
    (.one ⟨(some 27), none, .op (.mkSlice 2 16 [(i64 0), (i64 0)] (.r 26) (.r 26)), []⟩
    (.both
    (.one ⟨(some 20), none, .call (.k (.clos 36 [])) [(.r 19)], []⟩
    (.one ⟨(some 24), none, .op (.mkSlice 1 24 [(.lst [] .nil)] (.r 23) (.r 23)), []⟩
    (.one ⟨(some 28), none, .op (.build [(.lst [] .nil), (.sc (.map none)), (.lst [] .nil), (.lst [] .nil), (.lst [] .nil), (.lst [] .nil)] [(0, 1, (.r 20)), (1, 1, (.r 21)), (2, 1, (.r 24)), (5, 1, (.r 27))]), []⟩
    (.one ⟨(some 29), none, .op (.box (.r 28)), []⟩
    (.one ⟨(some 5), none, .op (.move (.r 29)), []⟩
    (.nil))))))
    (.one ⟨(some 24), none, .op (.mkSlice 1 24 [(.lst [] .nil)] (.r 23) (.r 23)), []⟩
    (.one ⟨(some 20), none, .call (.k (.clos 36 [])) [(.r 19)], []⟩
    (.one ⟨(some 28), none, .op (.build [(.lst [] .nil), (.sc (.map none)), (.lst [] .nil), (.lst [] .nil), (.lst [] .nil), (.lst [] .nil)] [(0, 1, (.r 20)), (1, 1, (.r 21)), (2, 1, (.r 24)), (5, 1, (.r 27))]), []⟩
    (.one ⟨(some 29), none, .op (.box (.r 28)), []⟩
    (.one ⟨(some 5), none, .op (.move (.r 29)), []⟩
    (.nil)))))))))))
    (.both
    (.one ⟨(some 24), none, .op (.mkSlice 1 24 [(.lst [] .nil)] (.r 23) (.r 23)), []⟩
    (.both
    (.one ⟨(some 20), none, .call (.k (.clos 36 [])) [(.r 19)], []⟩
    (.both
    (.one ⟨(some 21), none, .op (.mkMap), []⟩
    (.one ⟨(some 27), none, .op (.mkSlice 2 16 [(i64 0), (i64 0)] (.r 26) (.r 26)), []⟩
    (.one ⟨(some 28), none, .op (.build [(.lst [] .nil), (.sc (.map none)), (.lst [] .nil), (.lst [] .nil), (.lst [] .nil), (.lst [] .nil)] [(0, 1, (.r 20)), (1, 1, (.r 21)), (2, 1, (.r 24)), (5, 1, (.r 27))]), []⟩
    (.one ⟨(some 29), none, .op (.box (.r 28)), []⟩
    (.one ⟨(some 5), none, .op (.move (.r 29)), []⟩
    (.nil))))))
    (.one ⟨(some 27), none, .op (.mkSlice 2 16 [(i64 0), (i64 0)] (.r 26) (.r 26)), []⟩
    (.one ⟨(some 21), none, .op (.mkMap), []⟩
    (.one ⟨(some 28), none, .op (.build [(.lst [] .nil), (.sc (.map none)), (.lst [] .nil), (.lst [] .nil), (.lst [] .nil), (.lst [] .nil)] [(0, 1, (.r 20)), (1, 1, (.r 21)), (2, 1, (.r 24)), (5, 1, (.r 27))]), []⟩
    (.one ⟨(some 29), none, .op (.box (.r 28)), []⟩
    (.one ⟨(some 5), none, .op (.move (.r 29)), []⟩
    (.nil))))))))
    (.both
    (.one ⟨(some 21), none, .op (.mkMap), []⟩
    (.both
    (.one ⟨(some 20), none, .call (.k (.clos 36 [])) [(.r 19)], []⟩
    (.one ⟨(some 27), none, .op (.mkSlice 2 16 [(i64 0), (i64 0)] (.r 26) (.r 26)), []⟩
    (.one ⟨(some 28), none, .op (.build [(.lst [] .nil), (.sc (.map none)), (.lst [] .nil), (.lst [] .nil), (.lst [] .nil), (.lst [] .nil)] [(0, 1, (.r 20)), (1, 1, (.r 21)), (2, 1, (.r 24)), (5, 1, (.r 27))]), []⟩
    (.one ⟨(some 29), none, .op (.box (.r 28)), []⟩
    (.one ⟨(some 5), none, .op (.move (.r 29)), []⟩
    (.nil))))))
    (.one ⟨(some 27), none, .op (.mkSlice 2 16 [(i64 0), (i64 0)] (.r 26) (.r 26)), []⟩
    (.one ⟨(some 20), none, .call (.k (.clos 36 [])) [(.r 19)], []⟩
    (.one ⟨(some 28), none, .op (.build [(.lst [] .nil), (.sc (.map none)), (.lst [] .nil), (.lst [] .nil), (.lst [] .nil), (.lst [] .nil)] [(0, 1, (.r 20)), (1, 1, (.r 21)), (2, 1, (.r 24)), (5, 1, (.r 27))]), []⟩
    (.one ⟨(some 29), none, .op (.box (.r 28)), []⟩
    (.one ⟨(some 5), none, .op (.move (.r 29)), []⟩
    (.nil))))))))
    (.one ⟨(some 27), none, .op (.mkSlice 2 16 [(i64 0), (i64 0)] (.r 26) (.r 26)), []⟩
    (.both
    (.one ⟨(some 20), none, .call (.k (.clos 36 [])) [(.r 19)], []⟩
    (.one ⟨(some 21), none, .op (.mkMap), []⟩
    (.one ⟨(some 28), none, .op (.build [(.lst [] .nil), (.sc (.map none)), (.lst [] .nil), (.lst [] .nil), (.lst [] .nil), (.lst [] .nil)] [(0, 1, (.r 20)), (1, 1, (.r 21)), (2, 1, (.r 24)), (5, 1, (.r 27))]), []⟩
    (.one ⟨(some 29), none, .op (.box (.r 28)), []⟩
    (.one ⟨(some 5), none, .op (.move (.r 29)), []⟩
    (.nil))))))
    (.one ⟨(some 21), none, .op (.mkMap), []⟩
    (.one ⟨(some 20), none, .call (.k (.clos 36 [])) [(.r 19)], []⟩
    (.one ⟨(some 28), none, .op (.build [(.lst [] .nil), (.sc (.map none)), (.lst [] .nil), (.lst [] .nil), (.lst [] .nil), (.lst [] .nil)] [(0, 1, (.r 20)), (1, 1, (.r 21)), (2, 1, (.r 24)), (5, 1, (.r 27))]), []⟩
    (.one ⟨(some 29), none, .op (.box (.r 28)), []⟩
    (.one ⟨(some 5), none, .op (.move (.r 29)), []⟩
    (.nil)))))))))))
    (.one ⟨(some 27), none, .op (.mkSlice 2 16 [(i64 0), (i64 0)] (.r 26) (.r 26)), []⟩
    (.both
    (.one ⟨(some 20), none, .call (.k (.clos 36 [])) [(.r 19)], []⟩
    (.both
    (.one ⟨(some 21), none, .op (.mkMap), []⟩
    (.one ⟨(some 24), none, .op (.mkSlice 1 24 [(.lst [] .nil)] (.r 23) (.r 23)), []⟩
    (.one ⟨(some 28), none, .op (.build [(.lst [] .nil), (.sc (.map none)), (.lst [] .nil), (.lst [] .nil), (.lst [] .nil), (.lst [] .nil)] [(0, 1, (.r 20)), (1, 1, (.r 21)), (2, 1, (.r 24)), (5, 1, (.r 27))]), []⟩
    (.one ⟨(some 29), none, .op (.box (.r 28)), []⟩
    (.one ⟨(some 5), none, .op (.move (.r 29)), []⟩
    (.nil))))))
    (.one ⟨(some 24), none, .op (.mkSlice 1 24 [(.lst [] .nil)] (.r 23) (.r 23)), []⟩
    (.one ⟨(some 21), none, .op (.mkMap), []⟩
    (.one ⟨(some 28), none, .op (.build [(.lst [] .nil), (.sc (.map none)), (.lst [] .nil), (.lst [] .nil), (.lst [] .nil), (.lst [] .nil)] [(0, 1, (.r 20)), (1, 1, (.r 21)), (2, 1, (.r 24)), (5, 1, (.r 27))]), []⟩
    (.one ⟨(some 29), none, .op (.box (.r 28)), []⟩
    (.one ⟨(some 5), none, .op (.move (.r 29)), []⟩
    (.nil))))))))
    (.both
    (.one ⟨(some 21), none, .op (.mkMap), []⟩
    (.both
    (.one ⟨(some 20), none, .call (.k (.clos 36 [])) [(.r 19)], []⟩
    (.one ⟨(some 24), none, .op (.mkSlice 1 24 [(.lst [] .nil)] (.r 23) (.r 23)), []⟩
    (.one ⟨(some 28), none, .op (.build [(.lst [] .nil), (.sc (.map none)), (.lst [] .nil), (.lst [] .nil), (.lst [] .nil), (.lst [] .nil)] [(0, 1, (.r 20)), (1, 1, (.r 21)), (2, 1, (.r 24)), (5, 1, (.r 27))]), []⟩
    (.one ⟨(some 29), none, .op (.box (.r 28)), []⟩
    (.one ⟨(some 5), none, .op (.move (.r 29)), []⟩
    (.nil))))))
    (.one ⟨(some 24), none, .op (.mkSlice 1 24 [(.lst [] .nil)] (.r 23) (.r 23)), []⟩
    (.one ⟨(some 20), none, .call (.k (.clos 36 [])) [(.r 19)], []⟩
    (.one ⟨(some 28), none, .op (.build [(.lst [] .nil), (.sc (.map none)), (.lst [] .nil), (.lst [] .nil), (.lst [] .nil), (.lst [] .nil)] [(0, 1, (.r 20)), (1, 1, (.r 21)), (2, 1, (.r 24)), (5, 1, (.r 27))]), []⟩
    (.one ⟨(some 29), none, .op (.box (.r 28)), []⟩
    (.one ⟨(some 5), none, .op (.move (.r 29)), []⟩
    (.nil))))))))
    (.one ⟨(some 24), none, .op (.mkSlice 1 24 [(.lst [] .nil)] (.r 23) (.r 23)), []⟩
    (.both
    (.one ⟨(some 20), none, .call (.k (.clos 36 [])) [(.r 19)], []⟩
    (.one ⟨(some 21), none, .op (.mkMap), []⟩
    (.one ⟨(some 28), none, .op (.build [(.lst [] .nil), (.sc (.map none)), (.lst [] .nil), (.lst [] .nil), (.lst [] .nil), (.lst [] .nil)] [(0, 1, (.r 20)), (1, 1, (.r 21)), (2, 1, (.r 24)), (5, 1, (.r 27))]), []⟩
    (.one ⟨(some 29), none, .op (.box (.r 28)), []⟩
    (.one ⟨(some 5), none, .op (.move (.r 29)), []⟩
    (.nil))))))
    (.one ⟨(some 21), none, .op (.mkMap), []⟩
    (.one ⟨(some 20), none, .call (.k (.clos 36 [])) [(.r 19)], []⟩
    (.one ⟨(some 28), none, .op (.build [(.lst [] .nil), (.sc (.map none)), (.lst [] .nil), (.lst [] .nil), (.lst [] .nil), (.lst [] .nil)] [(0, 1, (.r 20)), (1, 1, (.r 21)), (2, 1, (.r 24)), (5, 1, (.r 27))]), []⟩
    (.one ⟨(some 29), none, .op (.box (.r 28)), []⟩
    (.one ⟨(some 5), none, .op (.move (.r 29)), []⟩
    (.nil))))))))))))))))))))
  (.seq (.seq (.ops [
    ⟨(some 30), none, .op (.move (.k (i64 0))), []⟩])
  (.block 0 (.loop (.seq (.ops [
    ⟨(some 31), none, .op (.bin .lss .other (.r 30) (.k (i64 5))), []⟩])
  (.seq (.cond (.r 31)
  (.skip)
  (.exit 0))
  (.seq (.block 1 (.seq (.ops [
    ⟨(some 32), none, .op (.move (.r 30)), []⟩,
    ⟨(some 6), none, .op (.move (.r 32)), []⟩])
  (.seq (.ops [
    ⟨(some 33), none, .op (.move (.r 0)), []⟩,
    ⟨(some 34), none, .op (.lenL (.r 33)), []⟩,
    ⟨(some 35), none, .op (.move (.k (i64 0))), []⟩])
  (.block 2 (.loop (.seq (.ops [
    ⟨(some 36), none, .op (.bin .lss .other (.r 35) (.r 34)), []⟩])
  (.seq (.cond (.r 36)
  (.skip)
  (.exit 2))
  (.seq (.block 3 (.seq (.ops [
    ⟨(some 37), none, .op (.move (.r 35)), []⟩,
    ⟨(some 7), none, .op (.move (.r 37)), []⟩])
  (.seq (.ops [
    ⟨(some 38), none, .op (.move (.r 5)), []⟩,
    ⟨(some 39), none, .op (.move (.r 6)), []⟩,
    ⟨(some 40), none, .op (.move (.r 7)), []⟩,
    ⟨(some 41), none, .call (.k (.clos 37 [])) [(.r 38), (.r 39), (.r 40)], []⟩,
    ⟨(some 8), none, .op (.move (.r 41)), []⟩])
  (.seq (.ops [
    ⟨(some 42), none, .op (.move (.r 8)), []⟩,
    ⟨(some 43), none, .op (.bin .neq .other (.r 42) (.k (i64 0))), []⟩])
  (.cond (.r 43)
  (.seq (.ops [
    ⟨(some 44), none, .op (.move (.r 7)), []⟩,
    ⟨(some 45), none, .op (.move (.r 8)), []⟩,
    ⟨(some 2), none, .op (.move (.k (.sc (.pointer none)))), []⟩,
    ⟨(some 3), none, .op (.move (.r 44)), []⟩,
    ⟨(some 4), none, .op (.move (.r 45)), []⟩])
  (.ret))
  (.skip))))))
  (.ops [
    ⟨(some 46), none, .op (.bin .add .other (.r 35) (.k (i64 1))), []⟩,
    ⟨(some 35), none, .op (.move (.r 46)), []⟩])))))))))
  (.ops [
    ⟨(some 47), none, .op (.bin .add .other (.r 30) (.k (i64 1))), []⟩,
    ⟨(some 30), none, .op (.move (.r 47)), []⟩])))))))
  (.seq (.seq (.ops [
    ⟨(some 48), none, .op (.move (.r 0)), []⟩,
    ⟨(some 49), none, .op (.lenL (.r 48)), []⟩,
    ⟨(some 50), none, .op (.move (.k (i64 0))), []⟩])
  (.block 4 (.loop (.seq (.ops [
    ⟨(some 51), none, .op (.bin .lss .other (.r 50) (.r 49)), []⟩])
  (.seq (.cond (.r 51)
  (.skip)
  (.exit 4))
  (.seq (.block 5 (.seq (.ops [
    ⟨(some 52), none, .op (.move (.r 50)), []⟩,
    ⟨(some 53), none, .op (.idxAddr 2 (.r 48) (.r 50)), []⟩,
    ⟨(some 54), none, .op (.load (some 2) (.r 53)), []⟩,
    ⟨(some 10), none, .op (.alloc [(.sc (.string ⟨#[]⟩)), (i64 0)]), []⟩,
    ⟨(some 9), none, .op (.move (.r 52)), []⟩,
    ⟨none, none, .op (.store 2 (.r 10) (.r 54)), []⟩])
  (.seq (.ops [
    ⟨(some 55), none, .op (.fieldAddr 1 (.r 10)), []⟩,
    ⟨(some 56), none, .op (.load none (.r 55)), []⟩,
    ⟨(some 57), none, .op (.bin .geq .other (.r 56) (.k (i64 0))), []⟩])
  (.cond (.r 57)
  (.ops [
    ⟨(some 58), none, .op (.move (.r 5)), []⟩,
    ⟨(some 59), none, .op (.nilCheck (.r 58)), []⟩,
    ⟨(some 60), none, .op (.fieldAddr 2 (.r 59)), []⟩,
    ⟨(some 61), none, .op (.load none (.r 60)), []⟩,
    ⟨(some 62), none, .op (.fieldAddr 1 (.r 10)), []⟩,
    ⟨(some 63), none, .op (.load none (.r 62)), []⟩,
    ⟨(some 64), none, .op (.move (.r 5)), []⟩,
    ⟨(some 65), none, .op (.nilCheck (.r 64)), []⟩,
    ⟨(some 66), none, .op (.fieldAddr 2 (.r 65)), []⟩,
    ⟨(some 67), none, .op (.load none (.r 66)), []⟩,
    ⟨(some 68), none, .op (.fieldAddr 1 (.r 10)), []⟩,
    ⟨(some 69), none, .op (.load none (.r 68)), []⟩,
    ⟨(some 70), none, .op (.idxAddr 1 (.r 67) (.r 69)), []⟩,
    ⟨(some 71), none, .op (.load none (.r 70)), []⟩,
    ⟨(some 72), none, .op (.move (.r 9)), []⟩,
    ⟨(some 73), none, .op (.buildSlice none [(i64 0)] 1 [(0, (.r 72))]), []⟩,
    ⟨(some 74), none, .op (.append true none 8 [(i64 0)] (.r 71) (.r 73)), [⟨61, none, .load none (.r 60)⟩, ⟨63, none, .load none (.r 62)⟩]⟩,
    ⟨(some 75), none, .op (.idxAddr 1 (.r 61) (.r 63)), []⟩,
    ⟨none, none, .op (.store 1 (.r 75) (.r 74)), []⟩])
  (.skip)))))
  (.ops [
    ⟨(some 76), none, .op (.bin .add .other (.r 50) (.k (i64 1))), []⟩,
    ⟨(some 50), none, .op (.move (.r 76)), []⟩])))))))
  (.seq (.ops [
    ⟨(some 77), none, .op (.move (.r 5)), []⟩,
    ⟨(some 78), none, .call (.k (.clos 38 [])) [(.r 77)], []⟩])
  (.seq (.ops [
    ⟨(some 79), none, .op (.move (.r 5)), []⟩,
    ⟨(some 2), none, .op (.move (.r 79)), []⟩,
    ⟨(some 3), none, .op (.move (.k (i64 0))), []⟩,
    ⟨(some 4), none, .op (.move (.k (i64 0))), []⟩])
  (.ret)))))))
theorem e8 : Try.f8.body.map (normCode Try.prog true Try.f8.ntmps) = some n8 := by kernel_rfl
theorem r8 : resOf Try.f8 = some [2, 3, 4] := by kernel_rfl

def n9 : NCode :=
  .seq (.ops [
    ⟨(some 2), none, .op (.move (.k (.sc (.pointer none)))), []⟩,
    ⟨(some 3), none, .op (.move (.k (i64 0))), []⟩,
    ⟨(some 4), none, .op (.move (.k (i64 0))), []⟩])
  (.seq (.seq (.ops [
    ⟨(some 13), none, .op (.move (.r 0)), []⟩,
    ⟨(some 14), none, .op (.lenL (.r 13)), []⟩,
    ⟨(some 15), none, .op (.bin .eql .other (.r 14) (.k (i64 0))), []⟩,
    ⟨(some 16), none, .op (.move (.r 15)), []⟩,
    ⟨(some 17), (some (16, false)), .op (.move (.r 0)), []⟩,
    ⟨(some 18), (some (16, false)), .op (.lenL (.r 17)), []⟩,
    ⟨(some 19), (some (16, false)), .op (.bin .gtr .other (.r 18) (.k (i64 32))), []⟩,
    ⟨(some 20), none, .op (.pick (.r 16) (.k (bo true)) (.r 19)), []⟩])
  (.cond (.r 20)
  (.seq (.ops [
    ⟨(some 2), none, .op (.move (.k (.sc (.pointer none)))), []⟩,
    ⟨(some 3), none, .op (.move (.k (i64 0))), []⟩,
    ⟨(some 4), none, .op (.move (.k (i64 5))), []⟩])
  (.ret))
  (.skip)))
  (.seq (.ops [
    ⟨(some 21), none, .op (.build [(.lst [] .nil)] []), []⟩,
    ⟨(some 22), none, .op (.box (.r 21)), []⟩,
    ⟨(some 5), none, .op (.move (.r 22)), []⟩])
  (.seq (.ops [
    ⟨(some 23), none, .op (.move (.r 5)), []⟩,
    ⟨(some 24), none, .op (.move (.r 5)), []⟩,
    ⟨(some 25), none, .op (.nilCheck (.r 24)), []⟩,
    ⟨(some 26), none, .op (.fieldAddr 0 (.r 25)), []⟩,
    ⟨(some 27), none, .op (.load none (.r 26)), []⟩,
    ⟨(some 28), none, .op (.move (.r 0)), []⟩,
    ⟨(some 29), none, .op (.append true (some 2) 24 [(.sc (.string ⟨#[]⟩)), (i64 0)] (.r 27) (.r 28)), []⟩,
    ⟨(some 30), none, .op (.nilCheck (.r 23)), []⟩,
    ⟨(some 31), none, .op (.fieldAddr 0 (.r 30)), []⟩,
    ⟨none, none, .op (.store 1 (.r 31) (.r 29)), []⟩])
  (.seq (.seq (.ops [
    ⟨(some 6), none, .op (.move (.k (i64 0))), []⟩])
  (.block 0 (.loop (.seq (.seq (.ops [
    ⟨(some 32), none, .op (.move (.r 6)), []⟩,
    ⟨(some 33), none, .op (.move (.r 0)), []⟩,
    ⟨(some 34), none, .op (.lenL (.r 33)), []⟩,
    ⟨(some 35), none, .op (.bin .lss .other (.r 32) (.r 34)), []⟩])
  (.cond (.r 35)
  (.skip)
  (.exit 0)))
  (.seq (.block 1 (.seq (.ops [
    ⟨(some 38), none, .op (.move (.r 0)), []⟩,
    ⟨(some 39), none, .op (.move (.r 6)), []⟩,
    ⟨(some 40), none, .op (.idxAddr 2 (.r 38) (.r 39)), []⟩,
    ⟨(some 41), none, .op (.fieldAddr 0 (.r 40)), []⟩,
    ⟨(some 42), none, .op (.load none (.r 41)), []⟩,
    ⟨(some 43), none, .call (.k (.clos 39 [])) [(.r 42)], []⟩,
    ⟨(some 44), none, .op (.un .not (.r 43)), []⟩])
  (.cond (.r 44)
  (.seq (.ops [
    ⟨(some 45), none, .op (.move (.r 6)), []⟩,
    ⟨(some 2), none, .op (.move (.k (.sc (.pointer none)))), []⟩,
    ⟨(some 3), none, .op (.move (.r 45)), []⟩,
    ⟨(some 4), none, .op (.move (.k (i64 3))), []⟩])
  (.ret))
  (.skip))))
  (.ops [
    ⟨(some 36), none, .op (.move (.r 6)), []⟩,
    ⟨(some 37), none, .op (.bin .add .other (.r 36) (.k (i64 1))), []⟩,
    ⟨(some 6), none, .op (.move (.r 37)), []⟩]))))))
  (.seq (.seq (.ops [
    ⟨(some 7), none, .op (.move (.k (i64 0))), []⟩])
  (.block 2 (.loop (.seq (.seq (.ops [
    ⟨(some 46), none, .op (.move (.r 7)), []⟩,
    ⟨(some 47), none, .op (.move (.r 0)), []⟩,
    ⟨(some 48), none, .op (.lenL (.r 47)), []⟩,
    ⟨(some 49), none, .op (.bin .lss .other (.r 46) (.r 48)), []⟩])
  (.cond (.r 49)
  (.skip)
  (.exit 2)))
  (.seq (.block 3 (.seq (.ops [
    ⟨(some 52), none, .op (.move (.r 5)), []⟩,
    ⟨(some 53), none, .op (.move (.r 0)), []⟩,
    ⟨(some 54), none, .op (.move (.r 7)), []⟩,
    ⟨(some 55), none, .op (.idxAddr 2 (.r 53) (.r 54)), []⟩,
    ⟨(some 56), none, .op (.fieldAddr 0 (.r 55)), []⟩,
    ⟨(some 57), none, .op (.load none (.r 56)), []⟩,
    ⟨(some 58), none, .call (.k (.clos 12 [])) [(.r 52), (.r 57)], []⟩,
    ⟨(some 59), none, .op (.move (.r 7)), []⟩,
    ⟨(some 60), none, .op (.bin .lss .other (.r 58) (.r 59)), []⟩])
  (.cond (.r 60)
  (.seq (.ops [
    ⟨(some 61), none, .op (.move (.r 7)), []⟩,
    ⟨(some 2), none, .op (.move (.k (.sc (.pointer none)))), []⟩,
    ⟨(some 3), none, .op (.move (.r 61)), []⟩,
    ⟨(some 4), none, .op (.move (.k (i64 4))), []⟩])
  (.ret))
  (.skip))))
  (.ops [
    ⟨(some 50), none, .op (.move (.r 7)), []⟩,
    ⟨(some 51), none, .op (.bin .add .other (.r 50) (.k (i64 1))), []⟩,
    ⟨(some 7), none, .op (.move (.r 51)), []⟩]))))))
  (.seq (.seq (.ops [
    ⟨(some 8), none, .op (.move (.k (i64 0))), []⟩])
  (.block 4 (.loop (.seq (.seq (.ops [
    ⟨(some 62), none, .op (.move (.r 8)), []⟩,
    ⟨(some 63), none, .op (.move (.r 0)), []⟩,
    ⟨(some 64), none, .op (.lenL (.r 63)), []⟩,
    ⟨(some 65), none, .op (.bin .lss .other (.r 62) (.r 64)), []⟩])
  (.cond (.r 65)
  (.skip)
  (.exit 4)))
  (.seq (.block 5 (.seq (.ops [
    ⟨(some 68), none, .op (.move (.r 0)), []⟩,
    ⟨(some 69), none, .op (.move (.r 8)), []⟩,
    ⟨(some 70), none, .op (.idxAddr 2 (.r 68) (.r 69)), []⟩,
    ⟨(some 71), none, .op (.fieldAddr 1 (.r 70)), []⟩,
    ⟨(some 72), none, .op (.load none (.r 71)), []⟩,
    ⟨(some 73), none, .op (.bin .lss .other (.r 72) (.k (i64 (-1)))), []⟩,
    ⟨(some 74), none, .op (.move (.r 73)), []⟩,
    ⟨(some 75), (some (74, false)), .op (.move (.r 0)), []⟩,
    ⟨(some 76), (some (74, false)), .op (.move (.r 8)), []⟩,
    ⟨(some 77), (some (74, false)), .op (.idxAddr 2 (.r 75) (.r 76)), []⟩,
    ⟨(some 78), (some (74, false)), .op (.fieldAddr 1 (.r 77)), []⟩,
    ⟨(some 79), (some (74, false)), .op (.load none (.r 78)), []⟩,
    ⟨(some 80), (some (74, false)), .op (.move (.r 0)), []⟩,
    ⟨(some 81), (some (74, false)), .op (.lenL (.r 80)), []⟩,
    ⟨(some 82), (some (74, false)), .op (.bin .geq .other (.r 79) (.r 81)), []⟩,
    ⟨(some 83), none, .op (.pick (.r 74) (.k (bo true)) (.r 82)), []⟩])
  (.cond (.r 83)
  (.seq (.ops [
    ⟨(some 84), none, .op (.move (.r 8)), []⟩,
    ⟨(some 2), none, .op (.move (.k (.sc (.pointer none)))), []⟩,
    ⟨(some 3), none, .op (.move (.r 84)), []⟩,
    ⟨(some 4), none, .op (.move (.k (i64 17))), []⟩])
  (.ret))
  (.skip))))
  (.ops [
    ⟨(some 66), none, .op (.move (.r 8)), []⟩,
    ⟨(some 67), none, .op (.bin .add .other (.r 66) (.k (i64 1))), []⟩,
    ⟨(some 8), none, .op (.move (.r 67)), []⟩]))))))
  (.seq (.seq (.ops [
    ⟨(some 9), none, .op (.move (.k (i64 0))), []⟩])
  (.block 6 (.loop (.seq (.seq (.ops [
    ⟨(some 85), none, .op (.move (.r 9)), []⟩,
    ⟨(some 86), none, .op (.move (.r 0)), []⟩,
    ⟨(some 87), none, .op (.lenL (.r 86)), []⟩,
    ⟨(some 88), none, .op (.bin .lss .other (.r 85) (.r 87)), []⟩])
  (.cond (.r 88)
  (.skip)
  (.exit 6)))
  (.seq (.block 7 (.seq (.ops [
    ⟨(some 91), none, .op (.move (.r 0)), []⟩,
    ⟨(some 92), none, .op (.move (.r 9)), []⟩,
    ⟨(some 93), none, .op (.idxAddr 2 (.r 91) (.r 92)), []⟩,
    ⟨(some 94), none, .op (.fieldAddr 1 (.r 93)), []⟩,
    ⟨(some 95), none, .op (.load none (.r 94)), []⟩,
    ⟨(some 10), none, .op (.move (.r 95)), []⟩])
  (.seq (.ops [
    ⟨(some 11), none, .op (.move (.k (i64 0))), []⟩])
  (.block 8 (.loop (.seq (.seq (.ops [
    ⟨(some 96), none, .op (.move (.r 11)), []⟩,
    ⟨(some 97), none, .op (.move (.r 0)), []⟩,
    ⟨(some 98), none, .op (.lenL (.r 97)), []⟩,
    ⟨(some 99), none, .op (.bin .lss .other (.r 96) (.r 98)), []⟩,
    ⟨(some 100), none, .op (.move (.r 99)), []⟩,
    ⟨(some 101), (some (100, true)), .op (.move (.r 10)), []⟩,
    ⟨(some 102), (some (100, true)), .op (.bin .geq .other (.r 101) (.k (i64 0))), []⟩,
    ⟨(some 103), none, .op (.pick (.r 100) (.r 102) (.k (bo false))), []⟩])
  (.cond (.r 103)
  (.skip)
  (.exit 8)))
  (.seq (.block 9 (.seq (.seq (.ops [
    ⟨(some 106), none, .op (.move (.r 10)), []⟩,
    ⟨(some 107), none, .op (.move (.r 9)), []⟩,
    ⟨(some 108), none, .op (.bin .eql .other (.r 106) (.r 107)), []⟩])
  (.cond (.r 108)
  (.seq (.ops [
    ⟨(some 109), none, .op (.move (.r 9)), []⟩,
    ⟨(some 2), none, .op (.move (.k (.sc (.pointer none)))), []⟩,
    ⟨(some 3), none, .op (.move (.r 109)), []⟩,
    ⟨(some 4), none, .op (.move (.k (i64 15))), []⟩])
  (.ret))
  (.skip)))
  (.ops [
    ⟨(some 110), none, .op (.move (.r 0)), []⟩,
    ⟨(some 111), none, .op (.move (.r 10)), []⟩,
    ⟨(some 112), none, .op (.idxAddr 2 (.r 110) (.r 111)), []⟩,
    ⟨(some 113), none, .op (.fieldAddr 1 (.r 112)), []⟩,
    ⟨(some 114), none, .op (.load none (.r 113)), []⟩,
    ⟨(some 10), none, .op (.move (.r 114)), []⟩])))
  (.ops [
    ⟨(some 104), none, .op (.move (.r 11)), []⟩,
    ⟨(some 105), none, .op (.bin .add .other (.r 104) (.k (i64 1))), []⟩,
    ⟨(some 11), none, .op (.move (.r 105)), []⟩]))))))))
  (.ops [
    ⟨(some 89), none, .op (.move (.r 9)), []⟩,
    ⟨(some 90), none, .op (.bin .add .other (.r 89) (.k (i64 1))), []⟩,
    ⟨(some 9), none, .op (.move (.r 90)), []⟩]))))))
  (.seq (.seq (.ops [
    ⟨(some 12), none, .op (.move (.k (i64 0))), []⟩])
  (.block 10 (.loop (.seq (.seq (.ops [
    ⟨(some 115), none, .op (.move (.r 12)), []⟩,
    ⟨(some 116), none, .op (.move (.r 0)), []⟩,
    ⟨(some 117), none, .op (.lenL (.r 116)), []⟩,
    ⟨(some 118), none, .op (.bin .lss .other (.r 115) (.r 117)), []⟩])
  (.cond (.r 118)
  (.skip)
  (.exit 10)))
  (.seq (.block 11 (.seq (.ops [
    ⟨(some 121), none, .op (.move (.r 5)), []⟩,
    ⟨(some 122), none, .op (.move (.r 12)), []⟩,
    ⟨(some 123), none, .call (.k (.clos 16 [])) [(.r 121), (.r 122)], []⟩,
    ⟨(some 124), none, .op (.bin .geq .other (.r 123) (.k (i64 6))), []⟩])
  (.cond (.r 124)
  (.seq (.ops [
    ⟨(some 125), none, .op (.move (.r 12)), []⟩,
    ⟨(some 2), none, .op (.move (.k (.sc (.pointer none)))), []⟩,
    ⟨(some 3), none, .op (.move (.r 125)), []⟩,
    ⟨(some 4), none, .op (.move (.k (i64 16))), []⟩])
  (.ret))
  (.skip))))
  (.ops [
    ⟨(some 119), none, .op (.move (.r 12)), []⟩,
    ⟨(some 120), none, .op (.bin .add .other (.r 119) (.k (i64 1))), []⟩,
    ⟨(some 12), none, .op (.move (.r 120)), []⟩]))))))
  (.seq (.ops [
    ⟨(some 126), none, .op (.move (.r 5)), []⟩,
    ⟨(some 2), none, .op (.move (.r 126)), []⟩,
    ⟨(some 3), none, .op (.move (.k (i64 0))), []⟩,
    ⟨(some 4), none, .op (.move (.k (i64 0))), []⟩])
  (.ret))))))))))
theorem e9 : Try.f9.body.map (normCode Try.prog true Try.f9.ntmps) = some n9 := by kernel_rfl
theorem r9 : resOf Try.f9 = some [2, 3, 4] := by kernel_rfl

def n10 : NCode :=
  .seq (.ops [
    ⟨(some 2), none, .op (.move (.k (i64 0))), []⟩])
  (.seq (.seq (.ops [
    ⟨(some 3), none, .op (.move (.r 0)), []⟩,
    ⟨(some 4), none, .op (.bin .eql .pointer (.r 3) (.k (.sc (.pointer none)))), []⟩])
  (.cond (.r 4)
  (.seq (.ops [
    ⟨(some 2), none, .op (.move (.k (i64 0))), []⟩])
  (.ret))
  (.skip)))
  (.seq (.ops [
    ⟨(some 5), none, .op (.move (.r 0)), []⟩,
    ⟨(some 6), none, .op (.nilCheck (.r 5)), []⟩,
    ⟨(some 7), none, .op (.fieldAddr 0 (.r 6)), []⟩,
    ⟨(some 8), none, .op (.load none (.r 7)), []⟩,
    ⟨(some 9), none, .op (.lenL (.r 8)), []⟩,
    ⟨(some 2), none, .op (.move (.r 9)), []⟩])
  (.ret)))
theorem e10 : Try.f10.body.map (normCode Try.prog true Try.f10.ntmps) = some n10 := by kernel_rfl
theorem r10 : resOf Try.f10 = some [2] := by kernel_rfl

def n11 : NCode :=
  .seq (.ops [
    ⟨(some 4), none, .op (.move (.k (i64 0))), []⟩])
  (.seq (.seq (.ops [
    ⟨(some 7), none, .op (.move (.r 0)), []⟩,
    ⟨(some 8), none, .op (.bin .eql .pointer (.r 7) (.k (.sc (.pointer none)))), []⟩])
  (.cond (.r 8)
  (.seq (.ops [
    ⟨(some 4), none, .op (.move (.k (i64 (-1)))), []⟩])
  (.ret))
  (.skip)))
  (.seq (.ops [
    ⟨(some 10), none, .op (.move (.r 0)), []⟩,
    ⟨(some 11), none, .op (.nilCheck (.r 10)), []⟩,
    ⟨(some 12), none, .op (.fieldAddr 1 (.r 11)), []⟩,
    ⟨(some 13), none, .op (.load none (.r 12)), []⟩,
    ⟨(some 14), none, .op (.move (.r 1)), []⟩,
    ⟨(some 15), none, .op (.lookup none true (i64 0) (.r 13) (.r 14)), []⟩,
    ⟨(some 9), none, .op (.move (.r 15)), []⟩,
    ⟨(some 16), none, .op (.extract 0 (.r 9)), []⟩,
    ⟨(some 17), none, .op (.extract 1 (.r 9)), []⟩,
    ⟨(some 5), none, .op (.move (.r 16)), []⟩,
    ⟨(some 6), none, .op (.move (.r 17)), []⟩])
  (.seq (.seq (.ops [
    ⟨(some 18), none, .op (.move (.r 6)), []⟩,
    ⟨(some 19), none, .op (.un .not (.r 18)), []⟩])
  (.cond (.r 19)
  (.seq (.ops [
    ⟨(some 4), none, .op (.move (.k (i64 (-1)))), []⟩])
  (.ret))
  (.skip)))
  (.seq (.ops [
    ⟨(some 20), none, .op (.move (.r 5)), []⟩,
    ⟨(some 4), none, .op (.move (.r 20)), []⟩])
  (.ret)))))
theorem e11 : Try.f11.body.map (normCode Try.prog true Try.f11.ntmps) = some n11 := by kernel_rfl
theorem r11 : resOf Try.f11 = some [4] := by kernel_rfl

def n12 : NCode :=
  .seq (.ops [
    ⟨(some 4), none, .op (.move (.k (i64 0))), []⟩])
  (.seq (.seq (.ops [
    ⟨(some 5), none, .op (.move (.k (i64 0))), []⟩])
  (.block 0 (.loop (.seq (.seq (.ops [
    ⟨(some 6), none, .op (.move (.r 5)), []⟩,
    ⟨(some 7), none, .op (.move (.r 0)), []⟩,
    ⟨(some 8), none, .op (.nilCheck (.r 7)), []⟩,
    ⟨(some 9), none, .op (.fieldAddr 0 (.r 8)), []⟩,
    ⟨(some 10), none, .op (.load none (.r 9)), []⟩,
    ⟨(some 11), none, .op (.lenL (.r 10)), []⟩,
    ⟨(some 12), none, .op (.bin .lss .other (.r 6) (.r 11)), []⟩])
  (.cond (.r 12)
  (.skip)
  (.exit 0)))
  (.seq (.block 1 (.seq (.ops [
    ⟨(some 15), none, .op (.move (.r 0)), []⟩,
    ⟨(some 16), none, .op (.nilCheck (.r 15)), []⟩,
    ⟨(some 17), none, .op (.fieldAddr 0 (.r 16)), []⟩,
    ⟨(some 18), none, .op (.load none (.r 17)), []⟩,
    ⟨(some 19), none, .op (.move (.r 5)), []⟩,
    ⟨(some 20), none, .op (.idxAddr 2 (.r 18) (.r 19)), []⟩,
    ⟨(some 21), none, .op (.fieldAddr 0 (.r 20)), []⟩,
    ⟨(some 22), none, .op (.load none (.r 21)), []⟩,
    ⟨(some 23), none, .op (.move (.r 1)), []⟩,
    ⟨(some 24), none, .op (.bin .eql .other (.r 22) (.r 23)), []⟩])
  (.cond (.r 24)
  (.seq (.ops [
    ⟨(some 25), none, .op (.move (.r 5)), []⟩,
    ⟨(some 4), none, .op (.move (.r 25)), []⟩])
  (.ret))
  (.skip))))
  (.ops [
    ⟨(some 13), none, .op (.move (.r 5)), []⟩,
    ⟨(some 14), none, .op (.bin .add .other (.r 13) (.k (i64 1))), []⟩,
    ⟨(some 5), none, .op (.move (.r 14)), []⟩]))))))
  (.seq (.ops [
    ⟨(some 4), none, .op (.move (.k (i64 (-1)))), []⟩])
  (.ret)))
theorem e12 : Try.f12.body.map (normCode Try.prog true Try.f12.ntmps) = some n12 := by kernel_rfl
theorem r12 : resOf Try.f12 = some [4] := by kernel_rfl

def n13 : NCode :=
  .seq (.ops [
    ⟨(some 4), none, .op (.move (.k (.sc (.string ⟨#[]⟩)))), []⟩])
  (.seq (.seq (.ops [
    ⟨(some 5), none, .op (.move (.r 0)), []⟩,
    ⟨(some 6), none, .op (.move (.r 1)), []⟩,
    ⟨(some 7), none, .call (.k (.clos 40 [])) [(.r 5), (.r 6)], []⟩,
    ⟨(some 8), none, .op (.un .not (.r 7)), []⟩])
  (.cond (.r 8)
  (.seq (.ops [
    ⟨(some 4), none, .op (.move (.k (.sc (.string ⟨#[]⟩)))), []⟩])
  (.ret))
  (.skip)))
  (.seq (.ops [
    ⟨(some 9), none, .op (.move (.r 0)), []⟩,
    ⟨(some 10), none, .op (.nilCheck (.r 9)), []⟩,
    ⟨(some 11), none, .op (.fieldAddr 0 (.r 10)), []⟩,
    ⟨(some 12), none, .op (.load none (.r 11)), []⟩,
    ⟨(some 13), none, .op (.move (.r 1)), []⟩,
    ⟨(some 14), none, .op (.idxAddr 2 (.r 12) (.r 13)), []⟩,
    ⟨(some 15), none, .op (.fieldAddr 0 (.r 14)), []⟩,
    ⟨(some 16), none, .op (.load none (.r 15)), []⟩,
    ⟨(some 4), none, .op (.move (.r 16)), []⟩])
  (.ret)))
theorem e13 : Try.f13.body.map (normCode Try.prog true Try.f13.ntmps) = some n13 := by kernel_rfl
theorem r13 : resOf Try.f13 = some [4] := by kernel_rfl

def n14 : NCode :=
  .seq (.ops [
    ⟨(some 4), none, .op (.move (.k (i64 0))), []⟩])
  (.seq (.seq (.ops [
    ⟨(some 5), none, .op (.move (.r 0)), []⟩,
    ⟨(some 6), none, .op (.move (.r 1)), []⟩,
    ⟨(some 7), none, .call (.k (.clos 40 [])) [(.r 5), (.r 6)], []⟩,
    ⟨(some 8), none, .op (.un .not (.r 7)), []⟩])
  (.cond (.r 8)
  (.seq (.ops [
    ⟨(some 4), none, .op (.move (.k (i64 (-1)))), []⟩])
  (.ret))
  (.skip)))
  (.seq (.ops [
    ⟨(some 9), none, .op (.move (.r 0)), []⟩,
    ⟨(some 10), none, .op (.nilCheck (.r 9)), []⟩,
    ⟨(some 11), none, .op (.fieldAddr 0 (.r 10)), []⟩,
    ⟨(some 12), none, .op (.load none (.r 11)), []⟩,
    ⟨(some 13), none, .op (.move (.r 1)), []⟩,
    ⟨(some 14), none, .op (.idxAddr 2 (.r 12) (.r 13)), []⟩,
    ⟨(some 15), none, .op (.fieldAddr 1 (.r 14)), []⟩,
    ⟨(some 16), none, .op (.load none (.r 15)), []⟩,
    ⟨(some 4), none, .op (.move (.r 16)), []⟩])
  (.ret)))
theorem e14 : Try.f14.body.map (normCode Try.prog true Try.f14.ntmps) = some n14 := by kernel_rfl
theorem r14 : resOf Try.f14 = some [4] := by kernel_rfl

def n15 : NCode :=
  .seq (.ops [
    ⟨(some 4), none, .op (.move (.k (i64 0))), []⟩])
  (.seq (.ops [
    ⟨(some 5), none, .op (.move (.r 0)), []⟩,
    ⟨(some 6), none, .op (.move (.r 1)), []⟩,
    ⟨(some 7), none, .call (.k (.clos 27 [])) [(.r 5), (.r 6)], []⟩,
    ⟨(some 8), none, .op (.lenL (.r 7)), []⟩,
    ⟨(some 9), none, .op (.bin .sub .other (.r 8) (.k (i64 1))), []⟩,
    ⟨(some 10), none, .op (.mx (.k (i64 0)) (.r 9)), []⟩,
    ⟨(some 4), none, .op (.move (.r 10)), []⟩])
  (.ret))
theorem e15 : Try.f15.body.map (normCode Try.prog true Try.f15.ntmps) = some n15 := by kernel_rfl
theorem r15 : resOf Try.f15 = some [4] := by kernel_rfl

def n16 : NCode :=
  .seq (.ops [
    ⟨(some 4), none, .op (.move (.k (i64 0))), []⟩])
  (.seq (.ops [
    ⟨(some 6), none, .op (.move (.r 0)), []⟩,
    ⟨(some 7), none, .op (.move (.r 1)), []⟩,
    ⟨(some 8), none, .call (.k (.clos 28 [])) [(.r 6), (.r 7)], []⟩,
    ⟨(some 5), none, .op (.move (.r 8)), []⟩])
  (.seq (.seq (.ops [
    ⟨(some 9), none, .op (.move (.r 5)), []⟩,
    ⟨(some 10), none, .op (.lenL (.r 9)), []⟩,
    ⟨(some 11), none, .op (.bin .eql .other (.r 10) (.k (i64 0))), []⟩])
  (.cond (.r 11)
  (.seq (.ops [
    ⟨(some 4), none, .op (.move (.k (i64 0))), []⟩])
  (.ret))
  (.skip)))
  (.seq (.ops [
    ⟨(some 12), none, .op (.move (.r 5)), []⟩,
    ⟨(some 13), none, .op (.lenL (.r 12)), []⟩,
    ⟨(some 14), none, .op (.bin .sub .other (.r 13) (.k (i64 1))), []⟩,
    ⟨(some 4), none, .op (.move (.r 14)), []⟩])
  (.ret))))
theorem e16 : Try.f16.body.map (normCode Try.prog true Try.f16.ntmps) = some n16 := by kernel_rfl
theorem r16 : resOf Try.f16 = some [4] := by kernel_rfl

def n17 : NCode :=
  .seq (.ops [
    ⟨(some 2), none, .op (.move (.k (.lst [] .nil))), []⟩])
  (.seq (.seq (.ops [
    ⟨(some 3), none, .op (.move (.r 0)), []⟩,
    ⟨(some 4), none, .op (.bin .eql .pointer (.r 3) (.k (.sc (.pointer none)))), []⟩])
  (.cond (.r 4)
  (.seq (.ops [
    ⟨(some 2), none, .op (.move (.k (.lst [] .nil))), []⟩])
  (.ret))
  (.skip)))
  (.seq (.ops [
    ⟨(some 5), none, .op (.move (.r 0)), []⟩,
    ⟨(some 6), none, .op (.nilCheck (.r 5)), []⟩,
    ⟨(some 7), none, .op (.fieldAddr 4 (.r 6)), []⟩,
    ⟨(some 8), none, .op (.load none (.r 7)), []⟩,
    ⟨(some 9), none, .call (.k (.clos 41 [])) [(.r 8)], []⟩,
    ⟨(some 2), none, .op (.move (.r 9)), []⟩])
  (.ret)))
theorem e17 : Try.f17.body.map (normCode Try.prog true Try.f17.ntmps) = some n17 := by kernel_rfl
theorem r17 : resOf Try.f17 = some [2] := by kernel_rfl

def n18 : NCode :=
  .seq (.ops [
    ⟨(some 4), none, .op (.move (.k (i64 0))), []⟩,
    ⟨(some 5), none, .op (.move (.k (i64 0))), []⟩])
  (.seq (.seq (.ops [
    ⟨(some 6), none, .op (.move (.r 0)), []⟩,
    ⟨(some 7), none, .op (.move (.r 1)), []⟩,
    ⟨(some 8), none, .call (.k (.clos 40 [])) [(.r 6), (.r 7)], []⟩,
    ⟨(some 9), none, .op (.un .not (.r 8)), []⟩])
  (.cond (.r 9)
  (.seq (.ops [
    ⟨(some 4), none, .op (.move (.k (i64 0))), []⟩,
    ⟨(some 5), none, .op (.move (.k (i64 0))), []⟩])
  (.ret))
  (.skip)))
  (.seq (.ops [
    ⟨(some 10), none, .op (.move (.r 0)), []⟩,
    ⟨(some 11), none, .op (.nilCheck (.r 10)), []⟩,
    ⟨(some 12), none, .op (.fieldAddr 5 (.r 11)), []⟩,
    ⟨(some 13), none, .op (.load none (.r 12)), []⟩,
    ⟨(some 14), none, .op (.move (.r 1)), []⟩,
    ⟨(some 15), none, .op (.idxAddr 2 (.r 13) (.r 14)), []⟩,
    ⟨(some 16), none, .op (.fieldAddr 0 (.r 15)), []⟩,
    ⟨(some 17), none, .op (.load none (.r 16)), []⟩,
    ⟨(some 18), none, .op (.move (.r 0)), []⟩,
    ⟨(some 19), none, .op (.nilCheck (.r 18)), []⟩,
    ⟨(some 20), none, .op (.fieldAddr 5 (.r 19)), []⟩,
    ⟨(some 21), none, .op (.load none (.r 20)), []⟩,
    ⟨(some 22), none, .op (.move (.r 1)), []⟩,
    ⟨(some 23), none, .op (.idxAddr 2 (.r 21) (.r 22)), []⟩,
    ⟨(some 24), none, .op (.fieldAddr 1 (.r 23)), []⟩,
    ⟨(some 25), none, .op (.load none (.r 24)), []⟩,
    ⟨(some 4), none, .op (.move (.r 17)), []⟩,
    ⟨(some 5), none, .op (.move (.r 25)), []⟩])
  (.ret)))
theorem e18 : Try.f18.body.map (normCode Try.prog true Try.f18.ntmps) = some n18 := by kernel_rfl
theorem r18 : resOf Try.f18 = some [4, 5] := by kernel_rfl

def n19 : NCode :=
  .seq (.ops [
    ⟨(some 6), none, .op (.move (.k (bo false))), []⟩])
  (.seq (.ops [
    ⟨(some 7), none, .op (.move (.r 0)), []⟩,
    ⟨(some 8), none, .op (.move (.r 1)), []⟩,
    ⟨(some 9), none, .call (.k (.clos 27 [])) [(.r 7), (.r 8)], []⟩,
    ⟨(some 10), none, .op (.move (.r 2)), []⟩,
    ⟨(some 11), none, .call (.k (.clos 42 [])) [(.r 9), (.r 10)], []⟩,
    ⟨(some 6), none, .op (.move (.r 11)), []⟩])
  (.ret))
theorem e19 : Try.f19.body.map (normCode Try.prog true Try.f19.ntmps) = some n19 := by kernel_rfl
theorem r19 : resOf Try.f19 = some [6] := by kernel_rfl

def n20 : NCode :=
  .seq (.ops [
    ⟨(some 4), none, .op (.move (.k (i64 0))), []⟩,
    ⟨(some 5), none, .op (.move (.k (i64 0))), []⟩])
  (.seq (.seq (.ops [
    ⟨(some 9), none, .op (.move (.r 0)), []⟩,
    ⟨(some 10), none, .op (.move (.r 1)), []⟩,
    ⟨(some 11), none, .call (.k (.clos 43 [])) [(.r 9), (.r 10)], []⟩,
    ⟨(some 12), none, .op (.un .not (.r 11)), []⟩])
  (.cond (.r 12)
  (.seq (.ops [
    ⟨(some 4), none, .op (.move (.k (i64 0))), []⟩,
    ⟨(some 5), none, .op (.move (.k (i64 0))), []⟩])
  (.ret))
  (.skip)))
  (.seq (.ops [
    ⟨(some 13), none, .op (.move (.r 0)), []⟩,
    ⟨(some 14), none, .call (.k (.clos 24 [])) [(.r 13)], []⟩,
    ⟨(some 6), none, .op (.move (.r 14)), []⟩])
  (.seq (.ops [
    ⟨(some 7), none, .op (.move (.k (i64 0))), []⟩])
  (.seq (.block 0 (.loop (.seq (.seq (.ops [
    ⟨(some 15), none, .op (.move (.r 7)), []⟩,
    ⟨(some 16), none, .op (.move (.r 6)), []⟩,
    ⟨(some 17), none, .op (.lenL (.r 16)), []⟩,
    ⟨(some 18), none, .op (.bin .lss .other (.r 15) (.r 17)), []⟩,
    ⟨(some 19), none, .op (.move (.r 18)), []⟩,
    ⟨(some 20), (some (19, true)), .op (.move (.r 0)), []⟩,
    ⟨(some 21), (some (19, true)), .op (.move (.r 6)), []⟩,
    ⟨(some 22), (some (19, true)), .op (.move (.r 7)), []⟩,
    ⟨(some 23), (some (19, true)), .op (.idxAddr 1 (.r 21) (.r 22)), []⟩,
    ⟨(some 24), (some (19, true)), .op (.load none (.r 23)), []⟩,
    ⟨(some 25), (some (19, true)), .op (.move (.r 1)), []⟩,
    ⟨(some 26), (some (19, true)), .call (.k (.clos 29 [])) [(.r 20), (.r 24), (.r 25)], []⟩,
    ⟨(some 27), (some (19, true)), .op (.un .not (.r 26)), []⟩,
    ⟨(some 28), none, .op (.pick (.r 19) (.r 27) (.k (bo false))), []⟩])
  (.cond (.r 28)
  (.skip)
  (.exit 0)))
  (.block 1 (.ops [
    ⟨(some 29), none, .op (.move (.r 7)), []⟩,
    ⟨(some 30), none, .op (.bin .add .other (.r 29) (.k (i64 1))), []⟩,
    ⟨(some 7), none, .op (.move (.r 30)), []⟩])))))
  (.seq (.ops [
    ⟨(some 31), none, .op (.move (.r 7)), []⟩,
    ⟨(some 8), none, .op (.move (.r 31)), []⟩])
  (.seq (.block 2 (.loop (.seq (.seq (.ops [
    ⟨(some 32), none, .op (.move (.r 8)), []⟩,
    ⟨(some 33), none, .op (.move (.r 6)), []⟩,
    ⟨(some 34), none, .op (.lenL (.r 33)), []⟩,
    ⟨(some 35), none, .op (.bin .lss .other (.r 32) (.r 34)), []⟩,
    ⟨(some 36), none, .op (.move (.r 35)), []⟩,
    ⟨(some 37), (some (36, true)), .op (.move (.r 0)), []⟩,
    ⟨(some 38), (some (36, true)), .op (.move (.r 6)), []⟩,
    ⟨(some 39), (some (36, true)), .op (.move (.r 8)), []⟩,
    ⟨(some 40), (some (36, true)), .op (.idxAddr 1 (.r 38) (.r 39)), []⟩,
    ⟨(some 41), (some (36, true)), .op (.load none (.r 40)), []⟩,
    ⟨(some 42), (some (36, true)), .op (.move (.r 1)), []⟩,
    ⟨(some 43), (some (36, true)), .call (.k (.clos 29 [])) [(.r 37), (.r 41), (.r 42)], []⟩,
    ⟨(some 44), none, .op (.pick (.r 36) (.r 43) (.k (bo false))), []⟩])
  (.cond (.r 44)
  (.skip)
  (.exit 2)))
  (.block 3 (.ops [
    ⟨(some 45), none, .op (.move (.r 8)), []⟩,
    ⟨(some 46), none, .op (.bin .add .other (.r 45) (.k (i64 1))), []⟩,
    ⟨(some 8), none, .op (.move (.r 46)), []⟩])))))
  (.seq (.ops [
    ⟨(some 47), none, .op (.move (.r 7)), []⟩,
    ⟨(some 48), none, .op (.move (.r 8)), []⟩,
    ⟨(some 4), none, .op (.move (.r 47)), []⟩,
    ⟨(some 5), none, .op (.move (.r 48)), []⟩])
  (.ret))))))))
theorem e20 : Try.f20.body.map (normCode Try.prog true Try.f20.ntmps) = some n20 := by kernel_rfl
theorem r20 : resOf Try.f20 = some [4, 5] := by kernel_rfl

def n21 : NCode :=
  .seq (.ops [
    ⟨(some 4), none, .op (.move (.k (bo false))), []⟩])
  (.seq (.seq (.ops [
    ⟨(some 6), none, .op (.move (.r 0)), []⟩,
    ⟨(some 7), none, .op (.lenL (.r 6)), []⟩,
    ⟨(some 8), none, .op (.move (.r 1)), []⟩,
    ⟨(some 9), none, .op (.lenL (.r 8)), []⟩,
    ⟨(some 10), none, .op (.bin .neq .other (.r 7) (.r 9)), []⟩])
  (.cond (.r 10)
  (.seq (.ops [
    ⟨(some 4), none, .op (.move (.k (bo false))), []⟩])
  (.ret))
  (.skip)))
  (.seq (.seq (.ops [
    ⟨(some 5), none, .op (.move (.k (i64 0))), []⟩])
  (.block 0 (.loop (.seq (.seq (.ops [
    ⟨(some 11), none, .op (.move (.r 5)), []⟩,
    ⟨(some 12), none, .op (.move (.r 0)), []⟩,
    ⟨(some 13), none, .op (.lenL (.r 12)), []⟩,
    ⟨(some 14), none, .op (.bin .lss .other (.r 11) (.r 13)), []⟩])
  (.cond (.r 14)
  (.skip)
  (.exit 0)))
  (.seq (.block 1 (.seq (.ops [
    ⟨(some 17), none, .op (.move (.r 0)), []⟩,
    ⟨(some 18), none, .op (.move (.r 5)), []⟩,
    ⟨(some 19), none, .op (.idxAddr 1 (.r 17) (.r 18)), []⟩,
    ⟨(some 20), none, .op (.load none (.r 19)), []⟩,
    ⟨(some 21), none, .op (.move (.r 1)), []⟩,
    ⟨(some 22), none, .op (.move (.r 5)), []⟩,
    ⟨(some 23), none, .op (.idxAddr 1 (.r 21) (.r 22)), []⟩,
    ⟨(some 24), none, .op (.load none (.r 23)), []⟩,
    ⟨(some 25), none, .op (.bin .neq .other (.r 20) (.r 24)), []⟩])
  (.cond (.r 25)
  (.seq (.ops [
    ⟨(some 4), none, .op (.move (.k (bo false))), []⟩])
  (.ret))
  (.skip))))
  (.ops [
    ⟨(some 15), none, .op (.move (.r 5)), []⟩,
    ⟨(some 16), none, .op (.bin .add .other (.r 15) (.k (i64 1))), []⟩,
    ⟨(some 5), none, .op (.move (.r 16)), []⟩]))))))
  (.seq (.ops [
    ⟨(some 4), none, .op (.move (.k (bo true))), []⟩])
  (.ret))))
theorem e21 : Try.f21.body.map (normCode Try.prog true Try.f21.ntmps) = some n21 := by kernel_rfl
theorem r21 : resOf Try.f21 = some [4] := by kernel_rfl

def n22 : NCode :=
  .seq (.ops [
    ⟨(some 2), none, .op (.move (.k (.lst [] .nil))), []⟩])
  (.seq (.seq (.ops [
    ⟨(some 3), none, .op (.move (.r 0)), []⟩,
    ⟨(some 4), none, .op (.bin .eql .pointer (.r 3) (.k (.sc (.pointer none)))), []⟩])
  (.cond (.r 4)
  (.seq (.ops [
    ⟨(some 2), none, .op (.move (.k (.lst [] .nil))), []⟩])
  (.ret))
  (.skip)))
  (.seq (.ops [
    ⟨(some 5), none, .op (.move (.r 0)), []⟩,
    ⟨(some 6), none, .op (.nilCheck (.r 5)), []⟩,
    ⟨(some 7), none, .op (.fieldAddr 3 (.r 6)), []⟩,
    ⟨(some 8), none, .op (.load none (.r 7)), []⟩,
    ⟨(some 9), none, .call (.k (.clos 41 [])) [(.r 8)], []⟩,
    ⟨(some 2), none, .op (.move (.r 9)), []⟩])
  (.ret)))
theorem e22 : Try.f22.body.map (normCode Try.prog true Try.f22.ntmps) = some n22 := by kernel_rfl
theorem r22 : resOf Try.f22 = some [2] := by kernel_rfl

def n23 : NCode :=
  .seq (.ops [
    ⟨(some 2), none, .op (.move (.k (.lst [] .nil))), []⟩])
  (.seq (.ops [
    ⟨(some 3), none, .op (.move (.k (.lst [] .nil))), []⟩])
  (.seq (.seq (.ops [
    ⟨(some 4), none, .op (.move (.k (i64 0))), []⟩])
  (.block 0 (.loop (.seq (.seq (.ops [
    ⟨(some 5), none, .op (.move (.r 4)), []⟩,
    ⟨(some 6), none, .op (.move (.r 0)), []⟩,
    ⟨(some 7), none, .op (.nilCheck (.r 6)), []⟩,
    ⟨(some 8), none, .op (.fieldAddr 0 (.r 7)), []⟩,
    ⟨(some 9), none, .op (.load none (.r 8)), []⟩,
    ⟨(some 10), none, .op (.lenL (.r 9)), []⟩,
    ⟨(some 11), none, .op (.bin .lss .other (.r 5) (.r 10)), []⟩])
  (.cond (.r 11)
  (.skip)
  (.exit 0)))
  (.seq (.block 1 (.seq (.ops [
    ⟨(some 14), none, .op (.move (.r 0)), []⟩,
    ⟨(some 15), none, .op (.nilCheck (.r 14)), []⟩,
    ⟨(some 16), none, .op (.fieldAddr 0 (.r 15)), []⟩,
    ⟨(some 17), none, .op (.load none (.r 16)), []⟩,
    ⟨(some 18), none, .op (.move (.r 4)), []⟩,
    ⟨(some 19), none, .op (.idxAddr 2 (.r 17) (.r 18)), []⟩,
    ⟨(some 20), none, .op (.fieldAddr 1 (.r 19)), []⟩,
    ⟨(some 21), none, .op (.load none (.r 20)), []⟩,
    ⟨(some 22), none, .op (.bin .lss .other (.r 21) (.k (i64 0))), []⟩])
  (.cond (.r 22)
  (.ops [
    ⟨(some 23), none, .op (.move (.r 3)), []⟩,
    ⟨(some 24), none, .op (.move (.r 0)), []⟩,
    ⟨(some 25), none, .op (.move (.r 4)), []⟩,
    ⟨(some 26), none, .call (.k (.clos 44 [])) [(.r 24), (.r 25), (.k (i64 0))], []⟩,
    ⟨(some 27), none, .op (.append true none 8 [(i64 0)] (.r 23) (.r 26)), []⟩,
    ⟨(some 3), none, .op (.move (.r 27)), []⟩])
  (.skip))))
  (.ops [
    ⟨(some 12), none, .op (.move (.r 4)), []⟩,
    ⟨(some 13), none, .op (.bin .add .other (.r 12) (.k (i64 1))), []⟩,
    ⟨(some 4), none, .op (.move (.r 13)), []⟩]))))))
  (.seq (.ops [
    ⟨(some 28), none, .op (.move (.r 3)), []⟩,
    ⟨(some 2), none, .op (.move (.r 28)), []⟩])
  (.ret))))
theorem e23 : Try.f23.body.map (normCode Try.prog true Try.f23.ntmps) = some n23 := by kernel_rfl
theorem r23 : resOf Try.f23 = some [2] := by kernel_rfl

def n24 : NCode :=
  .seq (.ops [
    ⟨(some 2), none, .op (.move (.k (.lst [] .nil))), []⟩])
  (.seq (.ops [
    ⟨(some 3), none, .op (.move (.k (.lst [] .nil))), []⟩])
  (.seq (.ops [
    ⟨(some 6), none, .op (.move (.r 0)), []⟩,
    ⟨(some 7), none, .call (.k (.clos 23 [])) [(.r 6)], []⟩,
    ⟨(some 4), none, .op (.move (.r 7)), []⟩])
  (.seq (.seq (.ops [
    ⟨(some 5), none, .op (.move (.k (i64 0))), []⟩])
  (.block 0 (.loop (.seq (.seq (.ops [
    ⟨(some 8), none, .op (.move (.r 5)), []⟩,
    ⟨(some 9), none, .op (.move (.r 4)), []⟩,
    ⟨(some 10), none, .op (.lenL (.r 9)), []⟩,
    ⟨(some 11), none, .op (.bin .lss .other (.r 8) (.r 10)), []⟩])
  (.cond (.r 11)
  (.skip)
  (.exit 0)))
  (.seq (.block 1 (.seq (.ops [
    ⟨(some 14), none, .op (.move (.r 0)), []⟩,
    ⟨(some 15), none, .op (.move (.r 4)), []⟩,
    ⟨(some 16), none, .op (.move (.r 5)), []⟩,
    ⟨(some 17), none, .op (.idxAddr 1 (.r 15) (.r 16)), []⟩,
    ⟨(some 18), none, .op (.load none (.r 17)), []⟩,
    ⟨(some 19), none, .call (.k (.clos 31 [])) [(.r 14), (.r 18)], []⟩])
  (.cond (.r 19)
  (.ops [
    ⟨(some 20), none, .op (.move (.r 3)), []⟩,
    ⟨(some 21), none, .op (.move (.r 4)), []⟩,
    ⟨(some 22), none, .op (.move (.r 5)), []⟩,
    ⟨(some 23), none, .op (.idxAddr 1 (.r 21) (.r 22)), []⟩,
    ⟨(some 24), none, .op (.load none (.r 23)), []⟩,
    ⟨(some 25), none, .op (.buildSlice none [(i64 0)] 1 [(0, (.r 24))]), []⟩,
    ⟨(some 26), none, .op (.append true none 8 [(i64 0)] (.r 20) (.r 25)), []⟩,
    ⟨(some 3), none, .op (.move (.r 26)), []⟩])
  (.skip))))
  (.ops [
    ⟨(some 12), none, .op (.move (.r 5)), []⟩,
    ⟨(some 13), none, .op (.bin .add .other (.r 12) (.k (i64 1))), []⟩,
    ⟨(some 5), none, .op (.move (.r 13)), []⟩]))))))
  (.seq (.ops [
    ⟨(some 27), none, .op (.move (.r 3)), []⟩,
    ⟨(some 2), none, .op (.move (.r 27)), []⟩])
  (.ret)))))
theorem e24 : Try.f24.body.map (normCode Try.prog true Try.f24.ntmps) = some n24 := by kernel_rfl
theorem r24 : resOf Try.f24 = some [2] := by kernel_rfl

def n25 : NCode :=
  .seq (.ops [
    ⟨(some 4), none, .op (.move (.k (.lst [] .nil))), []⟩])
  (.seq (.seq (.ops [
    ⟨(some 5), none, .op (.move (.r 0)), []⟩,
    ⟨(some 6), none, .op (.move (.r 1)), []⟩,
    ⟨(some 7), none, .call (.k (.clos 40 [])) [(.r 5), (.r 6)], []⟩,
    ⟨(some 8), none, .op (.un .not (.r 7)), []⟩])
  (.cond (.r 8)
  (.seq (.ops [
    ⟨(some 4), none, .op (.move (.k (.lst [] .nil))), []⟩])
  (.ret))
  (.skip)))
  (.seq (.ops [
    ⟨(some 9), none, .op (.move (.r 0)), []⟩,
    ⟨(some 10), none, .op (.nilCheck (.r 9)), []⟩,
    ⟨(some 11), none, .op (.fieldAddr 2 (.r 10)), []⟩,
    ⟨(some 12), none, .op (.load none (.r 11)), []⟩,
    ⟨(some 13), none, .op (.move (.r 1)), []⟩,
    ⟨(some 14), none, .op (.idxAddr 1 (.r 12) (.r 13)), []⟩,
    ⟨(some 15), none, .op (.load none (.r 14)), []⟩,
    ⟨(some 16), none, .call (.k (.clos 41 [])) [(.r 15)], []⟩,
    ⟨(some 4), none, .op (.move (.r 16)), []⟩])
  (.ret)))
theorem e25 : Try.f25.body.map (normCode Try.prog true Try.f25.ntmps) = some n25 := by kernel_rfl
theorem r25 : resOf Try.f25 = some [4] := by kernel_rfl

def n26 : NCode :=
  .seq (.ops [
    ⟨(some 4), none, .op (.move (.k (.lst [] .nil))), []⟩])
  (.seq (.ops [
    ⟨(some 5), none, .op (.move (.k (.lst [] .nil))), []⟩])
  (.seq (.seq (.ops [
    ⟨(some 6), none, .op (.move (.k (i64 0))), []⟩])
  (.block 0 (.loop (.seq (.seq (.ops [
    ⟨(some 7), none, .op (.move (.r 6)), []⟩,
    ⟨(some 8), none, .op (.move (.r 0)), []⟩,
    ⟨(some 9), none, .op (.nilCheck (.r 8)), []⟩,
    ⟨(some 10), none, .op (.fieldAddr 0 (.r 9)), []⟩,
    ⟨(some 11), none, .op (.load none (.r 10)), []⟩,
    ⟨(some 12), none, .op (.lenL (.r 11)), []⟩,
    ⟨(some 13), none, .op (.bin .lss .other (.r 7) (.r 12)), []⟩,
    ⟨(some 14), none, .op (.move (.r 13)), []⟩,
    ⟨(some 15), (some (14, true)), .op (.move (.r 0)), []⟩,
    ⟨(some 16), (some (14, true)), .op (.move (.r 1)), []⟩,
    ⟨(some 17), (some (14, true)), .call (.k (.clos 43 [])) [(.r 15), (.r 16)], []⟩,
    ⟨(some 18), none, .op (.pick (.r 14) (.r 17) (.k (bo false))), []⟩])
  (.cond (.r 18)
  (.skip)
  (.exit 0)))
  (.seq (.block 1 (.seq (.ops [
    ⟨(some 21), none, .op (.move (.r 0)), []⟩,
    ⟨(some 22), none, .op (.nilCheck (.r 21)), []⟩,
    ⟨(some 23), none, .op (.fieldAddr 0 (.r 22)), []⟩,
    ⟨(some 24), none, .op (.load none (.r 23)), []⟩,
    ⟨(some 25), none, .op (.move (.r 6)), []⟩,
    ⟨(some 26), none, .op (.idxAddr 2 (.r 24) (.r 25)), []⟩,
    ⟨(some 27), none, .op (.fieldAddr 1 (.r 26)), []⟩,
    ⟨(some 28), none, .op (.load none (.r 27)), []⟩,
    ⟨(some 29), none, .op (.move (.r 1)), []⟩,
    ⟨(some 30), none, .op (.bin .eql .other (.r 28) (.r 29)), []⟩])
  (.cond (.r 30)
  (.ops [
    ⟨(some 31), none, .op (.move (.r 5)), []⟩,
    ⟨(some 32), none, .op (.move (.r 6)), []⟩,
    ⟨(some 33), none, .op (.buildSlice none [(i64 0)] 1 [(0, (.r 32))]), []⟩,
    ⟨(some 34), none, .op (.append true none 8 [(i64 0)] (.r 31) (.r 33)), []⟩,
    ⟨(some 5), none, .op (.move (.r 34)), []⟩])
  (.skip))))
  (.ops [
    ⟨(some 19), none, .op (.move (.r 6)), []⟩,
    ⟨(some 20), none, .op (.bin .add .other (.r 19) (.k (i64 1))), []⟩,
    ⟨(some 6), none, .op (.move (.r 20)), []⟩]))))))
  (.seq (.ops [
    ⟨(some 35), none, .op (.move (.r 5)), []⟩,
    ⟨(some 4), none, .op (.move (.r 35)), []⟩])
  (.ret))))
theorem e26 : Try.f26.body.map (normCode Try.prog true Try.f26.ntmps) = some n26 := by kernel_rfl
theorem r26 : resOf Try.f26 = some [4] := by kernel_rfl

def n27 : NCode :=
  .seq (.ops [
    ⟨(some 4), none, .op (.move (.k (.lst [] .nil))), []⟩])
  (.seq (.ops [
    ⟨(some 5), none, .op (.move (.k (.lst [] .nil))), []⟩])
  (.seq (.block 0 (.loop (.seq (.seq (.ops [
    ⟨(some 6), none, .op (.move (.r 0)), []⟩,
    ⟨(some 7), none, .op (.move (.r 1)), []⟩,
    ⟨(some 8), none, .call (.k (.clos 40 [])) [(.r 6), (.r 7)], []⟩])
  (.cond (.r 8)
  (.skip)
  (.exit 0)))
  (.seq (.block 1 (.ops [
    ⟨(some 17), none, .op (.move (.r 5)), []⟩,
    ⟨(some 18), none, .op (.move (.r 1)), []⟩,
    ⟨(some 19), none, .op (.buildSlice none [(i64 0)] 1 [(0, (.r 18))]), []⟩,
    ⟨(some 20), none, .op (.append true none 8 [(i64 0)] (.r 17) (.r 19)), []⟩,
    ⟨(some 5), none, .op (.move (.r 20)), []⟩]))
  (.ops [
    ⟨(some 9), none, .op (.move (.r 0)), []⟩,
    ⟨(some 10), none, .op (.nilCheck (.r 9)), []⟩,
    ⟨(some 11), none, .op (.fieldAddr 0 (.r 10)), []⟩,
    ⟨(some 12), none, .op (.load none (.r 11)), []⟩,
    ⟨(some 13), none, .op (.move (.r 1)), []⟩,
    ⟨(some 14), none, .op (.idxAddr 2 (.r 12) (.r 13)), []⟩,
    ⟨(some 15), none, .op (.fieldAddr 1 (.r 14)), []⟩,
    ⟨(some 16), none, .op (.load none (.r 15)), []⟩,
    ⟨(some 1), none, .op (.move (.r 16)), []⟩])))))
  (.seq (.ops [
    ⟨(some 21), none, .op (.move (.r 5)), []⟩,
    ⟨(some 4), none, .op (.move (.r 21)), []⟩])
  (.ret))))
theorem e27 : Try.f27.body.map (normCode Try.prog true Try.f27.ntmps) = some n27 := by kernel_rfl
theorem r27 : resOf Try.f27 = some [4] := by kernel_rfl

def n28 : NCode :=
  .seq (.ops [
    ⟨(some 4), none, .op (.move (.k (.lst [] .nil))), []⟩])
  (.seq (.ops [
    ⟨(some 5), none, .op (.move (.k (.lst [] .nil))), []⟩])
  (.seq (.block 0 (.loop (.seq (.seq (.ops [
    ⟨(some 6), none, .op (.move (.r 0)), []⟩,
    ⟨(some 7), none, .op (.move (.r 1)), []⟩,
    ⟨(some 8), none, .call (.k (.clos 43 [])) [(.r 6), (.r 7)], []⟩,
    ⟨(some 9), none, .op (.move (.r 8)), []⟩,
    ⟨(some 10), (some (9, true)), .op (.move (.r 5)), []⟩,
    ⟨(some 11), (some (9, true)), .op (.lenL (.r 10)), []⟩,
    ⟨(some 12), (some (9, true)), .op (.move (.r 0)), []⟩,
    ⟨(some 13), (some (9, true)), .op (.nilCheck (.r 12)), []⟩,
    ⟨(some 14), (some (9, true)), .op (.fieldAddr 0 (.r 13)), []⟩,
    ⟨(some 15), (some (9, true)), .op (.load none (.r 14)), []⟩,
    ⟨(some 16), (some (9, true)), .op (.lenL (.r 15)), []⟩,
    ⟨(some 17), (some (9, true)), .op (.bin .leq .other (.r 11) (.r 16)), []⟩,
    ⟨(some 18), none, .op (.pick (.r 9) (.r 17) (.k (bo false))), []⟩])
  (.cond (.r 18)
  (.skip)
  (.exit 0)))
  (.block 1 (.seq (.ops [
    ⟨(some 19), none, .op (.move (.r 5)), []⟩,
    ⟨(some 20), none, .op (.move (.r 1)), []⟩,
    ⟨(some 21), none, .op (.buildSlice none [(i64 0)] 1 [(0, (.r 20))]), []⟩,
    ⟨(some 22), none, .op (.append true none 8 [(i64 0)] (.r 19) (.r 21)), []⟩,
    ⟨(some 5), none, .op (.move (.r 22)), []⟩])
  (.ops [
    ⟨(some 23), none, .op (.move (.r 0)), []⟩,
    ⟨(some 24), none, .op (.nilCheck (.r 23)), []⟩,
    ⟨(some 25), none, .op (.fieldAddr 0 (.r 24)), []⟩,
    ⟨(some 26), none, .op (.load none (.r 25)), []⟩,
    ⟨(some 27), none, .op (.move (.r 1)), []⟩,
    ⟨(some 28), none, .op (.idxAddr 2 (.r 26) (.r 27)), []⟩,
    ⟨(some 29), none, .op (.fieldAddr 1 (.r 28)), []⟩,
    ⟨(some 30), none, .op (.load none (.r 29)), []⟩,
    ⟨(some 1), none, .op (.move (.r 30)), []⟩]))))))
  (.seq (.ops [
    ⟨(some 31), none, .op (.move (.r 5)), []⟩,
    ⟨(some 4), none, .op (.move (.r 31)), []⟩])
  (.ret))))
theorem e28 : Try.f28.body.map (normCode Try.prog true Try.f28.ntmps) = some n28 := by kernel_rfl
theorem r28 : resOf Try.f28 = some [4] := by kernel_rfl

def n29 : NCode :=
  .seq (.ops [
    ⟨(some 6), none, .op (.move (.k (bo false))), []⟩])
  (.seq (.ops [
    ⟨(some 9), none, .op (.move (.r 0)), []⟩,
    ⟨(some 10), none, .op (.move (.r 1)), []⟩,
    ⟨(some 11), none, .call (.k (.clos 28 [])) [(.r 9), (.r 10)], []⟩,
    ⟨(some 7), none, .op (.move (.r 11)), []⟩])
  (.seq (.seq (.ops [
    ⟨(some 8), none, .op (.move (.k (i64 0))), []⟩])
  (.block 0 (.loop (.seq (.seq (.ops [
    ⟨(some 12), none, .op (.move (.r 8)), []⟩,
    ⟨(some 13), none, .op (.move (.r 7)), []⟩,
    ⟨(some 14), none, .op (.lenL (.r 13)), []⟩,
    ⟨(some 15), none, .op (.bin .lss .other (.r 12) (.r 14)), []⟩])
  (.cond (.r 15)
  (.skip)
  (.exit 0)))
  (.seq (.block 1 (.seq (.ops [
    ⟨(some 18), none, .op (.move (.r 7)), []⟩,
    ⟨(some 19), none, .op (.move (.r 8)), []⟩,
    ⟨(some 20), none, .op (.idxAddr 1 (.r 18) (.r 19)), []⟩,
    ⟨(some 21), none, .op (.load none (.r 20)), []⟩,
    ⟨(some 22), none, .op (.move (.r 2)), []⟩,
    ⟨(some 23), none, .op (.bin .eql .other (.r 21) (.r 22)), []⟩])
  (.cond (.r 23)
  (.seq (.ops [
    ⟨(some 6), none, .op (.move (.k (bo true))), []⟩])
  (.ret))
  (.skip))))
  (.ops [
    ⟨(some 16), none, .op (.move (.r 8)), []⟩,
    ⟨(some 17), none, .op (.bin .add .other (.r 16) (.k (i64 1))), []⟩,
    ⟨(some 8), none, .op (.move (.r 17)), []⟩]))))))
  (.seq (.ops [
    ⟨(some 6), none, .op (.move (.k (bo false))), []⟩])
  (.ret))))
theorem e29 : Try.f29.body.map (normCode Try.prog true Try.f29.ntmps) = some n29 := by kernel_rfl
theorem r29 : resOf Try.f29 = some [6] := by kernel_rfl

def n30 : NCode :=
  .seq (.ops [
    ⟨(some 4), none, .op (.move (.k (bo false))), []⟩])
  (.seq (.ops [
    ⟨(some 5), none, .op (.move (.r 0)), []⟩,
    ⟨(some 6), none, .op (.move (.r 1)), []⟩,
    ⟨(some 7), none, .call (.k (.clos 40 [])) [(.r 5), (.r 6)], []⟩,
    ⟨(some 8), none, .op (.move (.r 7)), []⟩,
    ⟨(some 9), (some (8, true)), .op (.move (.r 0)), []⟩,
    ⟨(some 10), (some (8, true)), .op (.nilCheck (.r 9)), []⟩,
    ⟨(some 11), (some (8, true)), .op (.fieldAddr 2 (.r 10)), []⟩,
    ⟨(some 12), (some (8, true)), .op (.load none (.r 11)), []⟩,
    ⟨(some 13), (some (8, true)), .op (.move (.r 1)), []⟩,
    ⟨(some 14), (some (8, true)), .op (.idxAddr 1 (.r 12) (.r 13)), []⟩,
    ⟨(some 15), (some (8, true)), .op (.load none (.r 14)), []⟩,
    ⟨(some 16), (some (8, true)), .op (.lenL (.r 15)), []⟩,
    ⟨(some 17), (some (8, true)), .op (.bin .eql .other (.r 16) (.k (i64 0))), []⟩,
    ⟨(some 18), none, .op (.pick (.r 8) (.r 17) (.k (bo false))), []⟩,
    ⟨(some 4), none, .op (.move (.r 18)), []⟩])
  (.ret))
theorem e30 : Try.f30.body.map (normCode Try.prog true Try.f30.ntmps) = some n30 := by kernel_rfl
theorem r30 : resOf Try.f30 = some [4] := by kernel_rfl

def n31 : NCode :=
  .seq (.ops [
    ⟨(some 4), none, .op (.move (.k (bo false))), []⟩])
  (.seq (.ops [
    ⟨(some 5), none, .op (.move (.r 0)), []⟩,
    ⟨(some 6), none, .op (.move (.r 1)), []⟩,
    ⟨(some 7), none, .call (.k (.clos 43 [])) [(.r 5), (.r 6)], []⟩,
    ⟨(some 8), none, .op (.move (.r 7)), []⟩,
    ⟨(some 9), (some (8, true)), .op (.move (.r 0)), []⟩,
    ⟨(some 10), (some (8, true)), .op (.move (.r 1)), []⟩,
    ⟨(some 11), (some (8, true)), .call (.k (.clos 26 [])) [(.r 9), (.r 10)], []⟩,
    ⟨(some 12), (some (8, true)), .op (.lenL (.r 11)), []⟩,
    ⟨(some 13), (some (8, true)), .op (.bin .eql .other (.r 12) (.k (i64 0))), []⟩,
    ⟨(some 14), none, .op (.pick (.r 8) (.r 13) (.k (bo false))), []⟩,
    ⟨(some 4), none, .op (.move (.r 14)), []⟩])
  (.ret))
theorem e31 : Try.f31.body.map (normCode Try.prog true Try.f31.ntmps) = some n31 := by kernel_rfl
theorem r31 : resOf Try.f31 = some [4] := by kernel_rfl

def n32 : NCode :=
  .seq (.ops [
    ⟨(some 4), none, .op (.move (.k (i64 0))), []⟩])
  (.seq (.seq (.ops [
    ⟨(some 5), none, .op (.move (.r 0)), []⟩,
    ⟨(some 6), none, .op (.move (.r 1)), []⟩,
    ⟨(some 7), none, .call (.k (.clos 30 [])) [(.r 5), (.r 6)], []⟩,
    ⟨(some 8), none, .op (.un .not (.r 7)), []⟩])
  (.cond (.r 8)
  (.seq (.ops [
    ⟨(some 4), none, .op (.move (.k (i64 (-1)))), []⟩])
  (.ret))
  (.skip)))
  (.seq (.ops [
    ⟨(some 9), none, .op (.move (.r 0)), []⟩,
    ⟨(some 10), none, .op (.nilCheck (.r 9)), []⟩,
    ⟨(some 11), none, .op (.fieldAddr 5 (.r 10)), []⟩,
    ⟨(some 12), none, .op (.load none (.r 11)), []⟩,
    ⟨(some 13), none, .op (.move (.r 1)), []⟩,
    ⟨(some 14), none, .op (.idxAddr 2 (.r 12) (.r 13)), []⟩,
    ⟨(some 15), none, .op (.fieldAddr 0 (.r 14)), []⟩,
    ⟨(some 16), none, .op (.load none (.r 15)), []⟩,
    ⟨(some 4), none, .op (.move (.r 16)), []⟩])
  (.ret)))
theorem e32 : Try.f32.body.map (normCode Try.prog true Try.f32.ntmps) = some n32 := by kernel_rfl
theorem r32 : resOf Try.f32 = some [4] := by kernel_rfl

def n33 : NCode :=
  .seq (.ops [
    ⟨(some 4), none, .op (.move (.k (i64 0))), []⟩])
  (.seq (.ops [
    ⟨(some 7), none, .op (.move (.r 0)), []⟩,
    ⟨(some 8), none, .call (.k (.clos 24 [])) [(.r 7)], []⟩,
    ⟨(some 5), none, .op (.move (.r 8)), []⟩])
  (.seq (.seq (.ops [
    ⟨(some 6), none, .op (.move (.k (i64 0))), []⟩])
  (.block 0 (.loop (.seq (.seq (.ops [
    ⟨(some 9), none, .op (.move (.r 6)), []⟩,
    ⟨(some 10), none, .op (.move (.r 5)), []⟩,
    ⟨(some 11), none, .op (.lenL (.r 10)), []⟩,
    ⟨(some 12), none, .op (.bin .lss .other (.r 9) (.r 11)), []⟩])
  (.cond (.r 12)
  (.skip)
  (.exit 0)))
  (.seq (.block 1 (.seq (.ops [
    ⟨(some 15), none, .op (.move (.r 5)), []⟩,
    ⟨(some 16), none, .op (.move (.r 6)), []⟩,
    ⟨(some 17), none, .op (.idxAddr 1 (.r 15) (.r 16)), []⟩,
    ⟨(some 18), none, .op (.load none (.r 17)), []⟩,
    ⟨(some 19), none, .op (.move (.r 1)), []⟩,
    ⟨(some 20), none, .op (.bin .eql .other (.r 18) (.r 19)), []⟩])
  (.cond (.r 20)
  (.seq (.ops [
    ⟨(some 21), none, .op (.move (.r 6)), []⟩,
    ⟨(some 4), none, .op (.move (.r 21)), []⟩])
  (.ret))
  (.skip))))
  (.ops [
    ⟨(some 13), none, .op (.move (.r 6)), []⟩,
    ⟨(some 14), none, .op (.bin .add .other (.r 13) (.k (i64 1))), []⟩,
    ⟨(some 6), none, .op (.move (.r 14)), []⟩]))))))
  (.seq (.ops [
    ⟨(some 4), none, .op (.move (.k (i64 (-1)))), []⟩])
  (.ret))))
theorem e33 : Try.f33.body.map (normCode Try.prog true Try.f33.ntmps) = some n33 := by kernel_rfl
theorem r33 : resOf Try.f33 = some [4] := by kernel_rfl

def n34 : NCode :=
  .seq (.ops [
    ⟨(some 4), none, .op (.move (.k (i64 0))), []⟩])
  (.seq (.seq (.ops [
    ⟨(some 5), none, .op (.move (.r 0)), []⟩,
    ⟨(some 6), none, .op (.move (.r 1)), []⟩,
    ⟨(some 7), none, .call (.k (.clos 43 [])) [(.r 5), (.r 6)], []⟩,
    ⟨(some 8), none, .op (.un .not (.r 7)), []⟩])
  (.cond (.r 8)
  (.seq (.ops [
    ⟨(some 4), none, .op (.move (.k (i64 (-1)))), []⟩])
  (.ret))
  (.skip)))
  (.seq (.ops [
    ⟨(some 9), none, .op (.move (.r 0)), []⟩,
    ⟨(some 10), none, .op (.nilCheck (.r 9)), []⟩,
    ⟨(some 11), none, .op (.fieldAddr 0 (.r 10)), []⟩,
    ⟨(some 12), none, .op (.load none (.r 11)), []⟩,
    ⟨(some 13), none, .op (.move (.r 1)), []⟩,
    ⟨(some 14), none, .op (.idxAddr 2 (.r 12) (.r 13)), []⟩,
    ⟨(some 15), none, .op (.fieldAddr 1 (.r 14)), []⟩,
    ⟨(some 16), none, .op (.load none (.r 15)), []⟩,
    ⟨(some 4), none, .op (.move (.r 16)), []⟩])
  (.ret)))
theorem e34 : Try.f34.body.map (normCode Try.prog true Try.f34.ntmps) = some n34 := by kernel_rfl
theorem r34 : resOf Try.f34 = some [4] := by kernel_rfl

def n35 : NCode :=
  .seq (.ops [
    ⟨(some 4), none, .op (.move (.k (.sc (.string ⟨#[]⟩)))), []⟩])
  (.seq (.seq (.ops [
    ⟨(some 5), none, .op (.move (.r 0)), []⟩,
    ⟨(some 6), none, .op (.move (.r 1)), []⟩,
    ⟨(some 7), none, .call (.k (.clos 43 [])) [(.r 5), (.r 6)], []⟩,
    ⟨(some 8), none, .op (.un .not (.r 7)), []⟩])
  (.cond (.r 8)
  (.seq (.ops [
    ⟨(some 4), none, .op (.move (.k (.sc (.string ⟨#[]⟩)))), []⟩])
  (.ret))
  (.skip)))
  (.seq (.ops [
    ⟨(some 9), none, .op (.move (.r 0)), []⟩,
    ⟨(some 10), none, .op (.nilCheck (.r 9)), []⟩,
    ⟨(some 11), none, .op (.fieldAddr 0 (.r 10)), []⟩,
    ⟨(some 12), none, .op (.load none (.r 11)), []⟩,
    ⟨(some 13), none, .op (.move (.r 1)), []⟩,
    ⟨(some 14), none, .op (.idxAddr 2 (.r 12) (.r 13)), []⟩,
    ⟨(some 15), none, .op (.fieldAddr 0 (.r 14)), []⟩,
    ⟨(some 16), none, .op (.load none (.r 15)), []⟩,
    ⟨(some 4), none, .op (.move (.r 16)), []⟩])
  (.ret)))
theorem e35 : Try.f35.body.map (normCode Try.prog true Try.f35.ntmps) = some n35 := by kernel_rfl
theorem r35 : resOf Try.f35 = some [4] := by kernel_rfl

def n36 : NCode :=
  .seq (.ops [
    ⟨(some 2), none, .op (.move (.k (.lst [] .nil))), []⟩])
  (.seq (.seq (.ops [
    ⟨(some 3), none, .op (.move (.r 0)), []⟩,
    ⟨(some 4), none, .op (.bin .eql .slice (.r 3) (.k (.lst [] .nil))), []⟩])
  (.cond (.r 4)
  (.seq (.ops [
    ⟨(some 2), none, .op (.move (.k (.lst [] .nil))), []⟩])
  (.ret))
  (.skip)))
  (.seq (.ops [
    ⟨(some 5), none, .op (.buildSlice (some 2) [(.sc (.string ⟨#[]⟩)), (i64 0)] 0 []), []⟩,
    ⟨(some 6), none, .op (.move (.r 0)), []⟩,
    ⟨(some 7), none, .op (.append true (some 2) 24 [(.sc (.string ⟨#[]⟩)), (i64 0)] (.r 5) (.r 6)), []⟩,
    ⟨(some 2), none, .op (.move (.r 7)), []⟩])
  (.ret)))
theorem e36 : Try.f36.body.map (normCode Try.prog true Try.f36.ntmps) = some n36 := by kernel_rfl
theorem r36 : resOf Try.f36 = some [2] := by kernel_rfl

def n37 : NCode :=
  .seq (.ops [
    ⟨(some 6), none, .op (.move (.k (i64 0))), []⟩])
  (.seq (.seq (.ops [
    ⟨(some 7), none, .op (.move (.r 1)), []⟩])
  (.block 0 (.seq (.ops [
    ⟨(some 9), none, .op (.bin .eql .other (.r 7) (.k (i64 0))), []⟩,
    ⟨(some 8), none, .op (.move (.r 9)), []⟩])
  (.cond (.r 8)
  (.seq (.ops [
    ⟨(some 10), none, .op (.move (.r 0)), []⟩,
    ⟨(some 11), none, .op (.move (.r 2)), []⟩,
    ⟨(some 12), none, .call (.k (.clos 45 [])) [(.r 10), (.r 11)], []⟩,
    ⟨(some 6), none, .op (.move (.r 12)), []⟩])
  (.ret))
  (.seq (.ops [
    ⟨(some 14), none, .op (.bin .eql .other (.r 7) (.k (i64 1))), []⟩,
    ⟨(some 13), none, .op (.move (.r 14)), []⟩])
  (.cond (.r 13)
  (.seq (.ops [
    ⟨(some 15), none, .op (.move (.r 0)), []⟩,
    ⟨(some 16), none, .op (.move (.r 2)), []⟩,
    ⟨(some 17), none, .call (.k (.clos 46 [])) [(.r 15), (.r 16)], []⟩,
    ⟨(some 6), none, .op (.move (.r 17)), []⟩])
  (.ret))
  (.seq (.ops [
    ⟨(some 19), none, .op (.bin .eql .other (.r 7) (.k (i64 2))), []⟩,
    ⟨(some 18), none, .op (.move (.r 19)), []⟩])
  (.cond (.r 18)
  (.seq (.ops [
    ⟨(some 20), none, .op (.move (.r 0)), []⟩,
    ⟨(some 21), none, .op (.move (.r 2)), []⟩,
    ⟨(some 22), none, .call (.k (.clos 47 [])) [(.r 20), (.r 21)], []⟩,
    ⟨(some 6), none, .op (.move (.r 22)), []⟩])
  (.ret))
  (.seq (.ops [
    ⟨(some 24), none, .op (.bin .eql .other (.r 7) (.k (i64 3))), []⟩,
    ⟨(some 23), none, .op (.move (.r 24)), []⟩])
  (.cond (.r 23)
  (.seq (.ops [
    ⟨(some 25), none, .op (.move (.r 0)), []⟩,
    ⟨(some 26), none, .op (.move (.r 2)), []⟩,
    ⟨(some 27), none, .call (.k (.clos 48 [])) [(.r 25), (.r 26)], []⟩,
    ⟨(some 6), none, .op (.move (.r 27)), []⟩])
  (.ret))
  (.skip)))))))))))
  (.seq (.ops [
    ⟨(some 28), none, .op (.move (.r 0)), []⟩,
    ⟨(some 29), none, .op (.move (.r 2)), []⟩,
    ⟨(some 30), none, .call (.k (.clos 49 [])) [(.r 28), (.r 29)], []⟩,
    ⟨(some 6), none, .op (.move (.r 30)), []⟩])
  (.ret)))
theorem e37 : Try.f37.body.map (normCode Try.prog true Try.f37.ntmps) = some n37 := by kernel_rfl
theorem r37 : resOf Try.f37 = some [6] := by kernel_rfl

def n38 : NCode :=
  .seq (.ops [
    ⟨(some 1), none, .op (.box (.r 0)), []⟩])
  (.seq (.ops [
    ⟨(some 2), none, .op (.alloc [(.sc .nilFunc)]), []⟩])
  (.seq (.ops [
    ⟨(some 5), none, .op (.mkFunc 50 [(.r 1), (.r 2)]), []⟩,
    ⟨none, none, .op (.store 1 (.r 2) (.r 5)), []⟩])
  (.seq (.ops [
    ⟨(some 6), none, .op (.load none (.r 1)), []⟩,
    ⟨(some 7), none, .op (.nilCheck (.r 6)), []⟩,
    ⟨(some 8), none, .op (.fieldAddr 0 (.r 7)), []⟩,
    ⟨(some 9), none, .op (.load none (.r 8)), []⟩,
    ⟨(some 10), none, .op (.lenL (.r 9)), []⟩,
    ⟨(some 11), none, .op (.move (.k (i64 0))), []⟩])
  (.block 0 (.loop (.seq (.ops [
    ⟨(some 12), none, .op (.bin .lss .other (.r 11) (.r 10)), []⟩])
  (.seq (.cond (.r 12)
  (.skip)
  (.exit 0))
  (.seq (.block 1 (.seq (.ops [
    ⟨(some 13), none, .op (.move (.r 11)), []⟩,
    ⟨(some 14), none, .op (.idxAddr 2 (.r 9) (.r 11)), []⟩,
    ⟨(some 15), none, .op (.load (some 2) (.r 14)), []⟩,
    ⟨(some 4), none, .op (.alloc [(.sc (.string ⟨#[]⟩)), (i64 0)]), []⟩,
    ⟨(some 3), none, .op (.move (.r 13)), []⟩,
    ⟨none, none, .op (.store 2 (.r 4) (.r 15)), []⟩])
  (.seq (.ops [
    ⟨(some 16), none, .op (.fieldAddr 1 (.r 4)), []⟩,
    ⟨(some 17), none, .op (.load none (.r 16)), []⟩,
    ⟨(some 18), none, .op (.bin .lss .other (.r 17) (.k (i64 0))), []⟩])
  (.cond (.r 18)
  (.ops [
    ⟨(some 19), none, .op (.load none (.r 2)), []⟩,
    ⟨(some 20), none, .op (.move (.r 3)), []⟩,
    ⟨(some 21), none, .call (.r 19) [(.r 20)], []⟩])
  (.skip)))))
  (.ops [
    ⟨(some 22), none, .op (.bin .add .other (.r 11) (.k (i64 1))), []⟩,
    ⟨(some 11), none, .op (.move (.r 22)), []⟩])))))))))
theorem e38 : Try.f38.body.map (normCode Try.prog true Try.f38.ntmps) = some n38 := by kernel_rfl
theorem r38 : resOf Try.f38 = some [] := by kernel_rfl

def n39 : NCode :=
  .seq (.ops [
    ⟨(some 2), none, .op (.move (.k (bo false))), []⟩])
  (.seq (.seq (.ops [
    ⟨(some 4), none, .op (.move (.r 0)), []⟩,
    ⟨(some 5), none, .op (.lenS (.r 4)), []⟩,
    ⟨(some 6), none, .op (.bin .lss .other (.r 5) (.k (i64 1))), []⟩,
    ⟨(some 7), none, .op (.move (.r 6)), []⟩,
    ⟨(some 8), (some (7, false)), .op (.move (.r 0)), []⟩,
    ⟨(some 9), (some (7, false)), .op (.lenS (.r 8)), []⟩,
    ⟨(some 10), (some (7, false)), .op (.bin .gtr .other (.r 9) (.k (i64 12))), []⟩,
    ⟨(some 11), none, .op (.pick (.r 7) (.k (bo true)) (.r 10)), []⟩,
    ⟨(some 12), none, .op (.move (.r 11)), []⟩,
    ⟨(some 13), (some (12, false)), .op (.move (.r 0)), []⟩,
    ⟨(some 14), (some (12, false)), .op (.idxStr (.r 13) (.k (i64 0))), []⟩,
    ⟨(some 15), (some (12, false)), .call (.k (.clos 51 [])) [(.r 14)], []⟩,
    ⟨(some 16), (some (12, false)), .op (.un .not (.r 15)), []⟩,
    ⟨(some 17), none, .op (.pick (.r 12) (.k (bo true)) (.r 16)), []⟩])
  (.cond (.r 17)
  (.seq (.ops [
    ⟨(some 2), none, .op (.move (.k (bo false))), []⟩])
  (.ret))
  (.skip)))
  (.seq (.seq (.ops [
    ⟨(some 3), none, .op (.move (.k (i64 1))), []⟩])
  (.block 0 (.loop (.seq (.seq (.ops [
    ⟨(some 18), none, .op (.move (.r 3)), []⟩,
    ⟨(some 19), none, .op (.move (.r 0)), []⟩,
    ⟨(some 20), none, .op (.lenS (.r 19)), []⟩,
    ⟨(some 21), none, .op (.bin .lss .other (.r 18) (.r 20)), []⟩])
  (.cond (.r 21)
  (.skip)
  (.exit 0)))
  (.seq (.block 1 (.seq (.ops [
    ⟨(some 24), none, .op (.move (.r 0)), []⟩,
    ⟨(some 25), none, .op (.move (.r 3)), []⟩,
    ⟨(some 26), none, .op (.idxStr (.r 24) (.r 25)), []⟩,
    ⟨(some 27), none, .call (.k (.clos 51 [])) [(.r 26)], []⟩,
    ⟨(some 28), none, .op (.un .not (.r 27)), []⟩,
    ⟨(some 29), none, .op (.move (.r 28)), []⟩,
    ⟨(some 30), (some (29, true)), .op (.move (.r 0)), []⟩,
    ⟨(some 31), (some (29, true)), .op (.move (.r 3)), []⟩,
    ⟨(some 32), (some (29, true)), .op (.idxStr (.r 30) (.r 31)), []⟩,
    ⟨(some 33), (some (29, true)), .call (.k (.clos 52 [])) [(.r 32)], []⟩,
    ⟨(some 34), (some (29, true)), .op (.un .not (.r 33)), []⟩,
    ⟨(some 35), none, .op (.pick (.r 29) (.r 34) (.k (bo false))), []⟩,
    ⟨(some 36), none, .op (.move (.r 35)), []⟩,
    ⟨(some 37), (some (36, true)), .op (.move (.r 0)), []⟩,
    ⟨(some 38), (some (36, true)), .op (.move (.r 3)), []⟩,
    ⟨(some 39), (some (36, true)), .op (.idxStr (.r 37) (.r 38)), []⟩,
    ⟨(some 40), (some (36, true)), .op (.bin .neq .other (.r 39) (.k (.sc (.int .u8 95)))), []⟩,
    ⟨(some 41), none, .op (.pick (.r 36) (.r 40) (.k (bo false))), []⟩])
  (.cond (.r 41)
  (.seq (.ops [
    ⟨(some 2), none, .op (.move (.k (bo false))), []⟩])
  (.ret))
  (.skip))))
  (.ops [
    ⟨(some 22), none, .op (.move (.r 3)), []⟩,
    ⟨(some 23), none, .op (.bin .add .other (.r 22) (.k (i64 1))), []⟩,
    ⟨(some 3), none, .op (.move (.r 23)), []⟩]))))))
  (.seq (.ops [
    ⟨(some 2), none, .op (.move (.k (bo true))), []⟩])
  (.ret))))
theorem e39 : Try.f39.body.map (normCode Try.prog true Try.f39.ntmps) = some n39 := by kernel_rfl
theorem r39 : resOf Try.f39 = some [2] := by kernel_rfl

def n40 : NCode :=
  .seq (.ops [
    ⟨(some 4), none, .op (.move (.k (bo false))), []⟩])
  (.seq (.ops [
    ⟨(some 5), none, .op (.move (.r 0)), []⟩,
    ⟨(some 6), none, .op (.bin .neq .pointer (.r 5) (.k (.sc (.pointer none)))), []⟩,
    ⟨(some 7), none, .op (.move (.r 6)), []⟩,
    ⟨(some 8), (some (7, true)), .op (.move (.r 1)), []⟩,
    ⟨(some 9), (some (7, true)), .op (.bin .geq .other (.r 8) (.k (i64 0))), []⟩,
    ⟨(some 10), none, .op (.pick (.r 7) (.r 9) (.k (bo false))), []⟩,
    ⟨(some 11), none, .op (.move (.r 10)), []⟩,
    ⟨(some 12), (some (11, true)), .op (.move (.r 1)), []⟩,
    ⟨(some 13), (some (11, true)), .op (.move (.r 0)), []⟩,
    ⟨(some 14), (some (11, true)), .op (.nilCheck (.r 13)), []⟩,
    ⟨(some 15), (some (11, true)), .op (.fieldAddr 0 (.r 14)), []⟩,
    ⟨(some 16), (some (11, true)), .op (.load none (.r 15)), []⟩,
    ⟨(some 17), (some (11, true)), .op (.lenL (.r 16)), []⟩,
    ⟨(some 18), (some (11, true)), .op (.bin .lss .other (.r 12) (.r 17)), []⟩,
    ⟨(some 19), none, .op (.pick (.r 11) (.r 18) (.k (bo false))), []⟩,
    ⟨(some 4), none, .op (.move (.r 19)), []⟩])
  (.ret))
theorem e40 : Try.f40.body.map (normCode Try.prog true Try.f40.ntmps) = some n40 := by kernel_rfl
theorem r40 : resOf Try.f40 = some [4] := by kernel_rfl

def n41 : NCode :=
  .seq (.ops [
    ⟨(some 2), none, .op (.move (.k (.lst [] .nil))), []⟩])
  (.seq (.seq (.ops [
    ⟨(some 3), none, .op (.move (.r 0)), []⟩,
    ⟨(some 4), none, .op (.bin .eql .slice (.r 3) (.k (.lst [] .nil))), []⟩])
  (.cond (.r 4)
  (.seq (.ops [
    ⟨(some 2), none, .op (.move (.k (.lst [] .nil))), []⟩])
  (.ret))
  (.skip)))
  (.seq (.ops [
    ⟨(some 5), none, .op (.buildSlice none [(i64 0)] 0 []), []⟩,
    ⟨(some 6), none, .op (.move (.r 0)), []⟩,
    ⟨(some 7), none, .op (.append true none 8 [(i64 0)] (.r 5) (.r 6)), []⟩,
    ⟨(some 2), none, .op (.move (.r 7)), []⟩])
  (.ret)))
theorem e41 : Try.f41.body.map (normCode Try.prog true Try.f41.ntmps) = some n41 := by kernel_rfl
theorem r41 : resOf Try.f41 = some [2] := by kernel_rfl

def n42 : NCode :=
  .seq (.ops [
    ⟨(some 4), none, .op (.move (.k (bo false))), []⟩])
  (.seq (.ops [
    ⟨(some 5), none, .op (.move (.r 0)), []⟩,
    ⟨(some 6), none, .op (.move (.r 1)), []⟩,
    ⟨(some 7), none, .call (.k (.clos 53 [])) [(.r 5), (.r 6)], []⟩,
    ⟨(some 8), none, .op (.bin .geq .other (.r 7) (.k (i64 0))), []⟩,
    ⟨(some 4), none, .op (.move (.r 8)), []⟩])
  (.ret))
theorem e42 : Try.f42.body.map (normCode Try.prog true Try.f42.ntmps) = some n42 := by kernel_rfl
theorem r42 : resOf Try.f42 = some [4] := by kernel_rfl

def n43 : NCode :=
  .seq (.ops [
    ⟨(some 4), none, .op (.move (.k (bo false))), []⟩])
  (.seq (.ops [
    ⟨(some 5), none, .op (.move (.r 1)), []⟩,
    ⟨(some 6), none, .op (.bin .geq .other (.r 5) (.k (i64 0))), []⟩,
    ⟨(some 7), none, .op (.move (.r 6)), []⟩,
    ⟨(some 8), (some (7, true)), .op (.move (.r 1)), []⟩,
    ⟨(some 9), (some (7, true)), .op (.move (.r 0)), []⟩,
    ⟨(some 10), (some (7, true)), .op (.nilCheck (.r 9)), []⟩,
    ⟨(some 11), (some (7, true)), .op (.fieldAddr 0 (.r 10)), []⟩,
    ⟨(some 12), (some (7, true)), .op (.load none (.r 11)), []⟩,
    ⟨(some 13), (some (7, true)), .op (.lenL (.r 12)), []⟩,
    ⟨(some 14), (some (7, true)), .op (.bin .lss .other (.r 8) (.r 13)), []⟩,
    ⟨(some 15), none, .op (.pick (.r 7) (.r 14) (.k (bo false))), []⟩,
    ⟨(some 4), none, .op (.move (.r 15)), []⟩])
  (.ret))
theorem e43 : Try.f43.body.map (normCode Try.prog true Try.f43.ntmps) = some n43 := by kernel_rfl
theorem r43 : resOf Try.f43 = some [4] := by kernel_rfl

def n44 : NCode :=
  .seq (.ops [
    ⟨(some 6), none, .op (.move (.k (.lst [] .nil))), []⟩])
  (.seq (.ops [
    ⟨(some 10), none, .op (.move (.r 1)), []⟩,
    ⟨(some 11), none, .op (.buildSlice none [(i64 0)] 1 [(0, (.r 10))]), []⟩,
    ⟨(some 7), none, .op (.move (.r 11)), []⟩])
  (.seq (.ops [
    ⟨(some 12), none, .op (.move (.r 0)), []⟩,
    ⟨(some 13), none, .op (.move (.r 1)), []⟩,
    ⟨(some 14), none, .call (.k (.clos 26 [])) [(.r 12), (.r 13)], []⟩,
    ⟨(some 8), none, .op (.move (.r 14)), []⟩])
  (.seq (.seq (.ops [
    ⟨(some 9), none, .op (.move (.k (i64 0))), []⟩])
  (.block 0 (.loop (.seq (.seq (.ops [
    ⟨(some 15), none, .op (.move (.r 9)), []⟩,
    ⟨(some 16), none, .op (.move (.r 8)), []⟩,
    ⟨(some 17), none, .op (.lenL (.r 16)), []⟩,
    ⟨(some 18), none, .op (.bin .lss .other (.r 15) (.r 17)), []⟩,
    ⟨(some 19), none, .op (.move (.r 18)), []⟩,
    ⟨(some 20), (some (19, true)), .op (.move (.r 2)), []⟩,
    ⟨(some 21), (some (19, true)), .op (.bin .lss .other (.r 20) (.k (i64 40))), []⟩,
    ⟨(some 22), none, .op (.pick (.r 19) (.r 21) (.k (bo false))), []⟩])
  (.cond (.r 22)
  (.skip)
  (.exit 0)))
  (.seq (.block 1 (.ops [
    ⟨(some 25), none, .op (.move (.r 7)), []⟩,
    ⟨(some 26), none, .op (.move (.r 0)), []⟩,
    ⟨(some 27), none, .op (.move (.r 8)), []⟩,
    ⟨(some 28), none, .op (.move (.r 9)), []⟩,
    ⟨(some 29), none, .op (.idxAddr 1 (.r 27) (.r 28)), []⟩,
    ⟨(some 30), none, .op (.load none (.r 29)), []⟩,
    ⟨(some 31), none, .op (.move (.r 2)), []⟩,
    ⟨(some 32), none, .op (.bin .add .other (.r 31) (.k (i64 1))), []⟩,
    ⟨(some 33), none, .call (.k (.clos 44 [])) [(.r 26), (.r 30), (.r 32)], []⟩,
    ⟨(some 34), none, .op (.append true none 8 [(i64 0)] (.r 25) (.r 33)), []⟩,
    ⟨(some 7), none, .op (.move (.r 34)), []⟩]))
  (.ops [
    ⟨(some 23), none, .op (.move (.r 9)), []⟩,
    ⟨(some 24), none, .op (.bin .add .other (.r 23) (.k (i64 1))), []⟩,
    ⟨(some 9), none, .op (.move (.r 24)), []⟩]))))))
  (.seq (.ops [
    ⟨(some 35), none, .op (.move (.r 7)), []⟩,
    ⟨(some 6), none, .op (.move (.r 35)), []⟩])
  (.ret)))))
theorem e44 : Try.f44.body.map (normCode Try.prog true Try.f44.ntmps) = some n44 := by kernel_rfl
theorem r44 : resOf Try.f44 = some [6] := by kernel_rfl

def n45 : NCode :=
  .seq (.ops [
    ⟨(some 4), none, .op (.move (.k (i64 0))), []⟩])
  (.seq (.seq (.ops [
    ⟨(some 5), none, .op (.move (.r 0)), []⟩,
    ⟨(some 6), none, .op (.nilCheck (.r 5)), []⟩,
    ⟨(some 7), none, .op (.fieldAddr 0 (.r 6)), []⟩,
    ⟨(some 8), none, .op (.load none (.r 7)), []⟩,
    ⟨(some 9), none, .op (.move (.r 1)), []⟩,
    ⟨(some 10), none, .op (.idxAddr 2 (.r 8) (.r 9)), []⟩,
    ⟨(some 11), none, .op (.fieldAddr 0 (.r 10)), []⟩,
    ⟨(some 12), none, .op (.load none (.r 11)), []⟩,
    ⟨(some 13), none, .call (.k (.clos 54 [])) [(.r 12)], []⟩,
    ⟨(some 14), none, .op (.un .not (.r 13)), []⟩])
  (.cond (.r 14)
  (.seq (.ops [
    ⟨(some 4), none, .op (.move (.k (i64 3))), []⟩])
  (.ret))
  (.skip)))
  (.seq (.ops [
    ⟨(some 4), none, .op (.move (.k (i64 0))), []⟩])
  (.ret)))
theorem e45 : Try.f45.body.map (normCode Try.prog true Try.f45.ntmps) = some n45 := by kernel_rfl
theorem r45 : resOf Try.f45 = some [4] := by kernel_rfl

def n46 : NCode :=
  .seq (.ops [
    ⟨(some 4), none, .op (.move (.k (i64 0))), []⟩])
  (.seq (.seq (.ops [
    ⟨(some 8), none, .op (.move (.r 0)), []⟩,
    ⟨(some 9), none, .op (.nilCheck (.r 8)), []⟩,
    ⟨(some 10), none, .op (.fieldAddr 1 (.r 9)), []⟩,
    ⟨(some 11), none, .op (.load none (.r 10)), []⟩,
    ⟨(some 12), none, .op (.move (.r 0)), []⟩,
    ⟨(some 13), none, .op (.nilCheck (.r 12)), []⟩,
    ⟨(some 14), none, .op (.fieldAddr 0 (.r 13)), []⟩,
    ⟨(some 15), none, .op (.load none (.r 14)), []⟩,
    ⟨(some 16), none, .op (.move (.r 1)), []⟩,
    ⟨(some 17), none, .op (.idxAddr 2 (.r 15) (.r 16)), []⟩,
    ⟨(some 18), none, .op (.fieldAddr 0 (.r 17)), []⟩,
    ⟨(some 19), none, .op (.load none (.r 18)), []⟩,
    ⟨(some 20), none, .op (.lookup none true (i64 0) (.r 11) (.r 19)), []⟩,
    ⟨(some 7), none, .op (.move (.r 20)), []⟩,
    ⟨(some 21), none, .op (.extract 0 (.r 7)), []⟩,
    ⟨(some 22), none, .op (.extract 1 (.r 7)), []⟩,
    ⟨(some 5), none, .op (.move (.r 21)), []⟩,
    ⟨(some 6), none, .op (.move (.r 22)), []⟩])
  (.seq (.ops [
    ⟨(some 23), none, .op (.move (.r 6)), []⟩])
  (.cond (.r 23)
  (.seq (.ops [
    ⟨(some 4), none, .op (.move (.k (i64 4))), []⟩])
  (.ret))
  (.skip))))
  (.seq (.ops [
    ⟨(some 24), none, .op (.move (.r 0)), []⟩,
    ⟨(some 25), none, .op (.nilCheck (.r 24)), []⟩,
    ⟨(some 26), none, .op (.fieldAddr 1 (.r 25)), []⟩,
    ⟨(some 27), none, .op (.load none (.r 26)), []⟩,
    ⟨(some 28), none, .op (.move (.r 0)), []⟩,
    ⟨(some 29), none, .op (.nilCheck (.r 28)), []⟩,
    ⟨(some 30), none, .op (.fieldAddr 0 (.r 29)), []⟩,
    ⟨(some 31), none, .op (.load none (.r 30)), []⟩,
    ⟨(some 32), none, .op (.move (.r 1)), []⟩,
    ⟨(some 33), none, .op (.idxAddr 2 (.r 31) (.r 32)), []⟩,
    ⟨(some 34), none, .op (.fieldAddr 0 (.r 33)), []⟩,
    ⟨(some 35), none, .op (.load none (.r 34)), []⟩,
    ⟨(some 36), none, .op (.move (.r 1)), []⟩,
    ⟨none, none, .op (.mapUpd none (.r 27) (.r 35) (.r 36)), []⟩])
  (.seq (.ops [
    ⟨(some 4), none, .op (.move (.k (i64 0))), []⟩])
  (.ret))))
theorem e46 : Try.f46.body.map (normCode Try.prog true Try.f46.ntmps) = some n46 := by kernel_rfl
theorem r46 : resOf Try.f46 = some [4] := by kernel_rfl

def n47 : NCode :=
  .seq (.ops [
    ⟨(some 4), none, .op (.move (.k (i64 0))), []⟩])
  (.seq (.seq (.ops [
    ⟨(some 6), none, .op (.move (.r 0)), []⟩,
    ⟨(some 7), none, .op (.nilCheck (.r 6)), []⟩,
    ⟨(some 8), none, .op (.fieldAddr 0 (.r 7)), []⟩,
    ⟨(some 9), none, .op (.load none (.r 8)), []⟩,
    ⟨(some 10), none, .op (.move (.r 1)), []⟩,
    ⟨(some 11), none, .op (.idxAddr 2 (.r 9) (.r 10)), []⟩,
    ⟨(some 12), none, .op (.fieldAddr 1 (.r 11)), []⟩,
    ⟨(some 13), none, .op (.load none (.r 12)), []⟩,
    ⟨(some 5), none, .op (.move (.r 13)), []⟩])
  (.seq (.ops [
    ⟨(some 14), none, .op (.move (.r 5)), []⟩,
    ⟨(some 15), none, .op (.bin .lss .other (.r 14) (.k (i64 (-1)))), []⟩,
    ⟨(some 16), none, .op (.move (.r 15)), []⟩,
    ⟨(some 17), (some (16, false)), .op (.move (.r 5)), []⟩,
    ⟨(some 18), (some (16, false)), .op (.move (.r 0)), []⟩,
    ⟨(some 19), (some (16, false)), .op (.nilCheck (.r 18)), []⟩,
    ⟨(some 20), (some (16, false)), .op (.fieldAddr 0 (.r 19)), []⟩,
    ⟨(some 21), (some (16, false)), .op (.load none (.r 20)), []⟩,
    ⟨(some 22), (some (16, false)), .op (.lenL (.r 21)), []⟩,
    ⟨(some 23), (some (16, false)), .op (.bin .geq .other (.r 17) (.r 22)), []⟩,
    ⟨(some 24), none, .op (.pick (.r 16) (.k (bo true)) (.r 23)), []⟩])
  (.cond (.r 24)
  (.seq (.ops [
    ⟨(some 4), none, .op (.move (.k (i64 17))), []⟩])
  (.ret))
  (.skip))))
  (.seq (.ops [
    ⟨(some 4), none, .op (.move (.k (i64 0))), []⟩])
  (.ret)))
theorem e47 : Try.f47.body.map (normCode Try.prog true Try.f47.ntmps) = some n47 := by kernel_rfl
theorem r47 : resOf Try.f47 = some [4] := by kernel_rfl

def n48 : NCode :=
  .seq (.ops [
    ⟨(some 4), none, .op (.move (.k (i64 0))), []⟩])
  (.seq (.ops [
    ⟨(some 6), none, .op (.move (.r 0)), []⟩,
    ⟨(some 7), none, .op (.nilCheck (.r 6)), []⟩,
    ⟨(some 8), none, .op (.fieldAddr 0 (.r 7)), []⟩,
    ⟨(some 9), none, .op (.load none (.r 8)), []⟩,
    ⟨(some 10), none, .op (.move (.r 1)), []⟩,
    ⟨(some 11), none, .op (.idxAddr 2 (.r 9) (.r 10)), []⟩,
    ⟨(some 12), none, .op (.fieldAddr 1 (.r 11)), []⟩,
    ⟨(some 13), none, .op (.load none (.r 12)), []⟩,
    ⟨(some 5), none, .op (.move (.r 13)), []⟩])
  (.seq (.seq (.ops [
    ⟨(some 14), none, .op (.move (.r 0)), []⟩,
    ⟨(some 15), none, .op (.nilCheck (.r 14)), []⟩,
    ⟨(some 16), none, .op (.fieldAddr 0 (.r 15)), []⟩,
    ⟨(some 17), none, .op (.load none (.r 16)), []⟩,
    ⟨(some 18), none, .op (.lenL (.r 17)), []⟩,
    ⟨(some 19), none, .op (.move (.k (i64 0))), []⟩])
  (.block 0 (.loop (.seq (.ops [
    ⟨(some 20), none, .op (.bin .lss .other (.r 19) (.r 18)), []⟩])
  (.seq (.cond (.r 20)
  (.skip)
  (.exit 0))
  (.seq (.block 1 (.seq (.seq (.ops [
    ⟨(some 21), none, .op (.move (.r 5)), []⟩,
    ⟨(some 22), none, .op (.bin .lss .other (.r 21) (.k (i64 0))), []⟩])
  (.cond (.r 22)
  (.exit 0)
  (.skip)))
  (.seq (.seq (.ops [
    ⟨(some 23), none, .op (.move (.r 5)), []⟩,
    ⟨(some 24), none, .op (.move (.r 1)), []⟩,
    ⟨(some 25), none, .op (.bin .eql .other (.r 23) (.r 24)), []⟩])
  (.cond (.r 25)
  (.seq (.ops [
    ⟨(some 4), none, .op (.move (.k (i64 15))), []⟩])
  (.ret))
  (.skip)))
  (.ops [
    ⟨(some 26), none, .op (.move (.r 0)), []⟩,
    ⟨(some 27), none, .op (.nilCheck (.r 26)), []⟩,
    ⟨(some 28), none, .op (.fieldAddr 0 (.r 27)), []⟩,
    ⟨(some 29), none, .op (.load none (.r 28)), []⟩,
    ⟨(some 30), none, .op (.move (.r 5)), []⟩,
    ⟨(some 31), none, .op (.idxAddr 2 (.r 29) (.r 30)), []⟩,
    ⟨(some 32), none, .op (.fieldAddr 1 (.r 31)), []⟩,
    ⟨(some 33), none, .op (.load none (.r 32)), []⟩,
    ⟨(some 5), none, .op (.move (.r 33)), []⟩]))))
  (.ops [
    ⟨(some 34), none, .op (.bin .add .other (.r 19) (.k (i64 1))), []⟩,
    ⟨(some 19), none, .op (.move (.r 34)), []⟩])))))))
  (.seq (.ops [
    ⟨(some 4), none, .op (.move (.k (i64 0))), []⟩])
  (.ret))))
theorem e48 : Try.f48.body.map (normCode Try.prog true Try.f48.ntmps) = some n48 := by kernel_rfl
theorem r48 : resOf Try.f48 = some [4] := by kernel_rfl

def n49 : NCode :=
  .seq (.ops [
    ⟨(some 4), none, .op (.move (.k (i64 0))), []⟩])
  (.seq (.seq (.ops [
    ⟨(some 5), none, .op (.move (.r 0)), []⟩,
    ⟨(some 6), none, .op (.move (.r 1)), []⟩,
    ⟨(some 7), none, .call (.k (.clos 15 [])) [(.r 5), (.r 6)], []⟩,
    ⟨(some 8), none, .op (.bin .geq .other (.r 7) (.k (i64 6))), []⟩])
  (.cond (.r 8)
  (.seq (.ops [
    ⟨(some 4), none, .op (.move (.k (i64 16))), []⟩])
  (.ret))
  (.skip)))
  (.seq (.ops [
    ⟨(some 4), none, .op (.move (.k (i64 0))), []⟩])
  (.ret)))
theorem e49 : Try.f49.body.map (normCode Try.prog true Try.f49.ntmps) = some n49 := by kernel_rfl
theorem r49 : resOf Try.f49 = some [4] := by kernel_rfl

def n50 : NCode :=
  .seq (.ops [
    ⟨(some 6), none, .op (.load none (.r 1)), []⟩,
    ⟨(some 7), none, .op (.load none (.r 1)), []⟩,
    ⟨(some 8), none, .op (.nilCheck (.r 7)), []⟩,
    ⟨(some 9), none, .op (.fieldAddr 3 (.r 8)), []⟩,
    ⟨(some 10), none, .op (.load none (.r 9)), []⟩,
    ⟨(some 11), none, .op (.move (.r 0)), []⟩,
    ⟨(some 12), none, .op (.buildSlice none [(i64 0)] 1 [(0, (.r 11))]), []⟩,
    ⟨(some 13), none, .op (.append true none 8 [(i64 0)] (.r 10) (.r 12)), [⟨6, none, .load none (.r 1)⟩]⟩,
    ⟨(some 14), none, .op (.nilCheck (.r 6)), []⟩,
    ⟨(some 15), none, .op (.fieldAddr 3 (.r 14)), []⟩,
    ⟨none, none, .op (.store 1 (.r 15) (.r 13)), []⟩])
  (.seq (.ops [
    ⟨(some 16), none, .op (.load none (.r 1)), []⟩,
    ⟨(some 17), none, .op (.nilCheck (.r 16)), []⟩,
    ⟨(some 18), none, .op (.fieldAddr 5 (.r 17)), []⟩,
    ⟨(some 19), none, .op (.load none (.r 18)), []⟩,
    ⟨(some 20), none, .op (.move (.r 0)), []⟩,
    ⟨(some 21), none, .op (.load none (.r 1)), []⟩,
    ⟨(some 22), none, .op (.nilCheck (.r 21)), []⟩,
    ⟨(some 23), none, .op (.fieldAddr 4 (.r 22)), []⟩,
    ⟨(some 24), none, .op (.load none (.r 23)), []⟩,
    ⟨(some 25), none, .op (.lenL (.r 24)), []⟩,
    ⟨(some 26), none, .op (.idxAddr 2 (.r 19) (.r 20)), []⟩,
    ⟨(some 27), none, .op (.fieldAddr 0 (.r 26)), []⟩,
    ⟨none, none, .op (.store 1 (.r 27) (.r 25)), []⟩])
  (.seq (.seq (.ops [
    ⟨(some 28), none, .op (.load none (.r 1)), []⟩,
    ⟨(some 29), none, .op (.nilCheck (.r 28)), []⟩,
    ⟨(some 30), none, .op (.fieldAddr 2 (.r 29)), []⟩,
    ⟨(some 31), none, .op (.load none (.r 30)), []⟩,
    ⟨(some 32), none, .op (.move (.r 0)), []⟩,
    ⟨(some 33), none, .op (.idxAddr 1 (.r 31) (.r 32)), []⟩,
    ⟨(some 34), none, .op (.load none (.r 33)), []⟩,
    ⟨(some 35), none, .op (.lenL (.r 34)), []⟩,
    ⟨(some 36), none, .op (.bin .eql .other (.r 35) (.k (i64 0))), []⟩])
  (.cond (.r 36)
  (.ops [
    ⟨(some 37), none, .op (.load none (.r 1)), []⟩,
    ⟨(some 38), none, .op (.load none (.r 1)), []⟩,
    ⟨(some 39), none, .op (.nilCheck (.r 38)), []⟩,
    ⟨(some 40), none, .op (.fieldAddr 4 (.r 39)), []⟩,
    ⟨(some 41), none, .op (.load none (.r 40)), []⟩,
    ⟨(some 42), none, .op (.move (.r 0)), []⟩,
    ⟨(some 43), none, .op (.buildSlice none [(i64 0)] 1 [(0, (.r 42))]), []⟩,
    ⟨(some 44), none, .op (.append true none 8 [(i64 0)] (.r 41) (.r 43)), [⟨37, none, .load none (.r 1)⟩]⟩,
    ⟨(some 45), none, .op (.nilCheck (.r 37)), []⟩,
    ⟨(some 46), none, .op (.fieldAddr 4 (.r 45)), []⟩,
    ⟨none, none, .op (.store 1 (.r 46) (.r 44)), []⟩])
  (.skip)))
  (.seq (.seq (.ops [
    ⟨(some 47), none, .op (.load none (.r 1)), []⟩,
    ⟨(some 48), none, .op (.nilCheck (.r 47)), []⟩,
    ⟨(some 49), none, .op (.fieldAddr 2 (.r 48)), []⟩,
    ⟨(some 50), none, .op (.load none (.r 49)), []⟩,
    ⟨(some 51), none, .op (.move (.r 0)), []⟩,
    ⟨(some 52), none, .op (.idxAddr 1 (.r 50) (.r 51)), []⟩,
    ⟨(some 53), none, .op (.load none (.r 52)), []⟩,
    ⟨(some 54), none, .op (.lenL (.r 53)), []⟩,
    ⟨(some 55), none, .op (.move (.k (i64 0))), []⟩])
  (.block 0 (.loop (.seq (.ops [
    ⟨(some 56), none, .op (.bin .lss .other (.r 55) (.r 54)), []⟩])
  (.seq (.cond (.r 56)
  (.skip)
  (.exit 0))
  (.seq (.block 1 (.seq (.ops [
    ⟨(some 57), none, .op (.idxAddr 1 (.r 53) (.r 55)), []⟩,
    ⟨(some 58), none, .op (.load none (.r 57)), []⟩,
    ⟨(some 5), none, .op (.move (.r 58)), []⟩])
  (.ops [
    ⟨(some 59), none, .op (.load none (.r 2)), []⟩,
    ⟨(some 60), none, .op (.move (.r 5)), []⟩,
    ⟨(some 61), none, .call (.r 59) [(.r 60)], []⟩])))
  (.ops [
    ⟨(some 62), none, .op (.bin .add .other (.r 55) (.k (i64 1))), []⟩,
    ⟨(some 55), none, .op (.move (.r 62)), []⟩])))))))
  (.ops [
    ⟨(some 63), none, .op (.load none (.r 1)), []⟩,
    ⟨(some 64), none, .op (.nilCheck (.r 63)), []⟩,
    ⟨(some 65), none, .op (.fieldAddr 5 (.r 64)), []⟩,
    ⟨(some 66), none, .op (.load none (.r 65)), []⟩,
    ⟨(some 67), none, .op (.move (.r 0)), []⟩,
    ⟨(some 68), none, .op (.load none (.r 1)), []⟩,
    ⟨(some 69), none, .op (.nilCheck (.r 68)), []⟩,
    ⟨(some 70), none, .op (.fieldAddr 4 (.r 69)), []⟩,
    ⟨(some 71), none, .op (.load none (.r 70)), []⟩,
    ⟨(some 72), none, .op (.lenL (.r 71)), []⟩,
    ⟨(some 73), none, .op (.idxAddr 2 (.r 66) (.r 67)), []⟩,
    ⟨(some 74), none, .op (.fieldAddr 1 (.r 73)), []⟩,
    ⟨none, none, .op (.store 1 (.r 74) (.r 72)), []⟩]))))
theorem e50 : Try.f50.body.map (normCode Try.prog true Try.f50.ntmps) = some n50 := by kernel_rfl
theorem r50 : resOf Try.f50 = some [] := by kernel_rfl

def n51 : NCode :=
  .seq (.ops [
    ⟨(some 2), none, .op (.move (.k (bo false))), []⟩])
  (.seq (.ops [
    ⟨(some 3), none, .op (.move (.r 0)), []⟩,
    ⟨(some 4), none, .op (.bin .geq .other (.r 3) (.k (.sc (.int .u8 97)))), []⟩,
    ⟨(some 5), none, .op (.move (.r 4)), []⟩,
    ⟨(some 6), (some (5, true)), .op (.move (.r 0)), []⟩,
    ⟨(some 7), (some (5, true)), .op (.bin .leq .other (.r 6) (.k (.sc (.int .u8 122)))), []⟩,
    ⟨(some 8), none, .op (.pick (.r 5) (.r 7) (.k (bo false))), []⟩,
    ⟨(some 9), none, .op (.move (.r 8)), []⟩,
    ⟨(some 10), (some (9, false)), .op (.move (.r 0)), []⟩,
    ⟨(some 11), (some (9, false)), .op (.bin .geq .other (.r 10) (.k (.sc (.int .u8 65)))), []⟩,
    ⟨(some 12), (some (9, false)), .op (.move (.r 11)), []⟩,
    ⟨(some 13), (some (12, true)), .op (.move (.r 0)), []⟩,
    ⟨(some 14), (some (12, true)), .op (.bin .leq .other (.r 13) (.k (.sc (.int .u8 90)))), []⟩,
    ⟨(some 15), (some (9, false)), .op (.pick (.r 12) (.r 14) (.k (bo false))), []⟩,
    ⟨(some 16), none, .op (.pick (.r 9) (.k (bo true)) (.r 15)), []⟩,
    ⟨(some 2), none, .op (.move (.r 16)), []⟩])
  (.ret))
theorem e51 : Try.f51.body.map (normCode Try.prog true Try.f51.ntmps) = some n51 := by kernel_rfl
theorem r51 : resOf Try.f51 = some [2] := by kernel_rfl

def n52 : NCode :=
  .seq (.ops [
    ⟨(some 2), none, .op (.move (.k (bo false))), []⟩])
  (.seq (.ops [
    ⟨(some 3), none, .op (.move (.r 0)), []⟩,
    ⟨(some 4), none, .op (.bin .geq .other (.r 3) (.k (.sc (.int .u8 48)))), []⟩,
    ⟨(some 5), none, .op (.move (.r 4)), []⟩,
    ⟨(some 6), (some (5, true)), .op (.move (.r 0)), []⟩,
    ⟨(some 7), (some (5, true)), .op (.bin .leq .other (.r 6) (.k (.sc (.int .u8 57)))), []⟩,
    ⟨(some 8), none, .op (.pick (.r 5) (.r 7) (.k (bo false))), []⟩,
    ⟨(some 2), none, .op (.move (.r 8)), []⟩])
  (.ret))
theorem e52 : Try.f52.body.map (normCode Try.prog true Try.f52.ntmps) = some n52 := by kernel_rfl
theorem r52 : resOf Try.f52 = some [2] := by kernel_rfl

def n53 : NCode :=
  .seq (.ops [
    ⟨(some 4), none, .op (.move (.k (i64 0))), []⟩])
  (.seq (.seq (.ops [
    ⟨(some 6), none, .op (.move (.r 0)), []⟩,
    ⟨(some 7), none, .op (.lenL (.r 6)), []⟩,
    ⟨(some 8), none, .op (.move (.k (i64 0))), []⟩])
  (.block 0 (.loop (.seq (.ops [
    ⟨(some 9), none, .op (.bin .lss .other (.r 8) (.r 7)), []⟩])
  (.seq (.cond (.r 9)
  (.skip)
  (.exit 0))
  (.seq (.block 1 (.seq (.ops [
    ⟨(some 10), none, .op (.move (.r 8)), []⟩,
    ⟨(some 5), none, .op (.move (.r 10)), []⟩])
  (.seq (.ops [
    ⟨(some 11), none, .op (.move (.r 1)), []⟩,
    ⟨(some 12), none, .op (.move (.r 0)), []⟩,
    ⟨(some 13), none, .op (.move (.r 5)), []⟩,
    ⟨(some 14), none, .op (.idxAddr 1 (.r 12) (.r 13)), []⟩,
    ⟨(some 15), none, .op (.load none (.r 14)), []⟩,
    ⟨(some 16), none, .op (.bin .eql .other (.r 11) (.r 15)), []⟩])
  (.cond (.r 16)
  (.seq (.ops [
    ⟨(some 17), none, .op (.move (.r 5)), []⟩,
    ⟨(some 4), none, .op (.move (.r 17)), []⟩])
  (.ret))
  (.skip)))))
  (.ops [
    ⟨(some 18), none, .op (.bin .add .other (.r 8) (.k (i64 1))), []⟩,
    ⟨(some 8), none, .op (.move (.r 18)), []⟩])))))))
  (.seq (.ops [
    ⟨(some 4), none, .op (.move (.k (i64 (-1)))), []⟩])
  (.ret)))
theorem e53 : Try.f53.body.map (normCode Try.prog true Try.f53.ntmps) = some n53 := by kernel_rfl
theorem r53 : resOf Try.f53 = some [4] := by kernel_rfl

def n54 : NCode :=
  .seq (.ops [
    ⟨(some 2), none, .op (.move (.k (bo false))), []⟩])
  (.seq (.seq (.ops [
    ⟨(some 5), none, .op (.move (.r 0)), []⟩,
    ⟨(some 6), none, .op (.bin .eql .other (.r 5) (.k (.sc (.string ⟨#[]⟩)))), []⟩,
    ⟨(some 7), none, .op (.move (.r 6)), []⟩,
    ⟨(some 8), (some (7, false)), .op (.move (.r 0)), []⟩,
    ⟨(some 9), (some (7, false)), .op (.lenS (.r 8)), []⟩,
    ⟨(some 10), (some (7, false)), .op (.bin .gtr .other (.r 9) (.k (i64 12))), []⟩,
    ⟨(some 11), none, .op (.pick (.r 7) (.k (bo true)) (.r 10)), []⟩,
    ⟨(some 12), none, .op (.move (.r 11)), []⟩,
    ⟨(some 13), (some (12, false)), .op (.move (.r 0)), []⟩,
    ⟨(some 14), (some (12, false)), .op (.idxStr (.r 13) (.k (i64 0))), []⟩,
    ⟨(some 15), (some (12, false)), .call (.k (.clos 55 [])) [(.r 14)], []⟩,
    ⟨(some 16), (some (12, false)), .op (.un .not (.r 15)), []⟩,
    ⟨(some 17), none, .op (.pick (.r 12) (.k (bo true)) (.r 16)), []⟩])
  (.cond (.r 17)
  (.seq (.ops [
    ⟨(some 2), none, .op (.move (.k (bo false))), []⟩])
  (.ret))
  (.skip)))
  (.seq (.seq (.ops [
    ⟨(some 18), none, .op (.move (.r 0)), []⟩,
    ⟨(some 19), none, .op (.lenS (.r 18)), []⟩,
    ⟨(some 20), none, .op (.move (.k (i64 0))), []⟩])
  (.block 0 (.loop (.seq (.ops [
    ⟨(some 21), none, .op (.bin .lss .other (.r 20) (.r 19)), []⟩])
  (.seq (.cond (.r 21)
  (.skip)
  (.exit 0))
  (.seq (.block 1 (.seq (.ops [
    ⟨(some 22), none, .op (.move (.r 20)), []⟩,
    ⟨(some 3), none, .op (.move (.r 22)), []⟩])
  (.seq (.ops [
    ⟨(some 23), none, .op (.move (.r 0)), []⟩,
    ⟨(some 24), none, .op (.move (.r 3)), []⟩,
    ⟨(some 25), none, .op (.idxStr (.r 23) (.r 24)), []⟩,
    ⟨(some 4), none, .op (.move (.r 25)), []⟩])
  (.seq (.ops [
    ⟨(some 26), none, .op (.move (.r 4)), []⟩,
    ⟨(some 27), none, .call (.k (.clos 55 [])) [(.r 26)], []⟩,
    ⟨(some 28), none, .op (.un .not (.r 27)), []⟩,
    ⟨(some 29), none, .op (.move (.r 28)), []⟩,
    ⟨(some 30), (some (29, true)), .op (.move (.r 4)), []⟩,
    ⟨(some 31), (some (29, true)), .op (.bin .neq .other (.r 30) (.k (.sc (.int .u8 95)))), []⟩,
    ⟨(some 32), none, .op (.pick (.r 29) (.r 31) (.k (bo false))), []⟩,
    ⟨(some 33), none, .op (.move (.r 32)), []⟩,
    ⟨(some 34), (some (33, true)), .op (.move (.r 4)), []⟩,
    ⟨(some 35), (some (33, true)), .op (.bin .lss .other (.r 34) (.k (.sc (.int .u8 48)))), []⟩,
    ⟨(some 36), (some (33, true)), .op (.move (.r 35)), []⟩,
    ⟨(some 37), (some (36, false)), .op (.move (.r 4)), []⟩,
    ⟨(some 38), (some (36, false)), .op (.bin .gtr .other (.r 37) (.k (.sc (.int .u8 57)))), []⟩,
    ⟨(some 39), (some (33, true)), .op (.pick (.r 36) (.k (bo true)) (.r 38)), []⟩,
    ⟨(some 40), none, .op (.pick (.r 33) (.r 39) (.k (bo false))), []⟩])
  (.cond (.r 40)
  (.seq (.ops [
    ⟨(some 2), none, .op (.move (.k (bo false))), []⟩])
  (.ret))
  (.skip))))))
  (.ops [
    ⟨(some 41), none, .op (.bin .add .other (.r 20) (.k (i64 1))), []⟩,
    ⟨(some 20), none, .op (.move (.r 41)), []⟩])))))))
  (.seq (.ops [
    ⟨(some 2), none, .op (.move (.k (bo true))), []⟩])
  (.ret))))
theorem e54 : Try.f54.body.map (normCode Try.prog true Try.f54.ntmps) = some n54 := by kernel_rfl
theorem r54 : resOf Try.f54 = some [2] := by kernel_rfl

def n55 : NCode :=
  .seq (.ops [
    ⟨(some 2), none, .op (.move (.k (bo false))), []⟩])
  (.seq (.ops [
    ⟨(some 3), none, .op (.move (.r 0)), []⟩,
    ⟨(some 4), none, .op (.bin .or .other (.r 3) (.k (.sc (.int .u8 32)))), []⟩,
    ⟨(some 0), none, .op (.move (.r 4)), []⟩])
  (.seq (.ops [
    ⟨(some 5), none, .op (.move (.r 0)), []⟩,
    ⟨(some 6), none, .op (.bin .geq .other (.r 5) (.k (.sc (.int .u8 97)))), []⟩,
    ⟨(some 7), none, .op (.move (.r 6)), []⟩,
    ⟨(some 8), (some (7, true)), .op (.move (.r 0)), []⟩,
    ⟨(some 9), (some (7, true)), .op (.bin .leq .other (.r 8) (.k (.sc (.int .u8 122)))), []⟩,
    ⟨(some 10), none, .op (.pick (.r 7) (.r 9) (.k (bo false))), []⟩,
    ⟨(some 2), none, .op (.move (.r 10)), []⟩])
  (.ret)))
theorem e55 : Try.f55.body.map (normCode Try.prog true Try.f55.ntmps) = some n55 := by kernel_rfl
theorem r55 : resOf Try.f55 = some [2] := by kernel_rfl

end Go.Proofs.Ytceahampebofbaa.Moi
