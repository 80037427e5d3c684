/- The small form of each function, as the machine reckons it. -/
import Derived.Test.YtpmbebdcbejlkabMoiX
import Derived.Test.YtpmbebdcbejlkabChecked
set_option linter.unusedVariables false
set_option maxRecDepth 100000
namespace Go.Proofs.Ytpmbebdcbejlkab.Moi
open Go Go.RowKit

def n3 : NCode :=
  .seq (.ops [
    ⟨(some 4), none, .op (.move (.k (bo false))), []⟩])
  (.seq (.ops [
    ⟨(some 9), none, .op (.move (.r 0)), []⟩,
    ⟨(some 10), none, .call (.k (.clos 7 [])) [(.k (.lst [] .nil)), (.r 9)], []⟩,
    ⟨(some 5), none, .op (.move (.r 10)), []⟩])
  (.seq (.ops [
    ⟨(some 11), none, .op (.move (.r 1)), []⟩,
    ⟨(some 12), none, .call (.k (.clos 8 [])) [(.k (.lst [] .nil)), (.r 11)], []⟩,
    ⟨(some 6), none, .op (.move (.r 12)), []⟩])
  (.seq (.seq (.ops [
    ⟨(some 13), none, .op (.move (.r 5)), []⟩,
    ⟨(some 14), none, .op (.lenL (.r 13)), []⟩,
    ⟨(some 15), none, .op (.bin .lss .other (.r 14) (.k (i64 1))), []⟩,
    ⟨(some 16), none, .op (.move (.r 15)), []⟩,
    ⟨(some 17), (some (16, false)), .op (.move (.r 6)), []⟩,
    ⟨(some 18), (some (16, false)), .op (.lenL (.r 17)), []⟩,
    ⟨(some 19), (some (16, false)), .op (.bin .lss .other (.r 18) (.k (i64 1))), []⟩,
    ⟨(some 20), none, .op (.pick (.r 16) (.k (bo true)) (.r 19)), []⟩,
    ⟨(some 21), none, .op (.move (.r 20)), []⟩,
    ⟨(some 22), (some (21, false)), .op (.move (.r 1)), []⟩,
    ⟨(some 23), (some (21, false)), .op (.lenS (.r 22)), []⟩,
    ⟨(some 24), (some (21, false)), .op (.bin .gtr .other (.r 23) (.k (i64 8000))), []⟩,
    ⟨(some 25), none, .op (.pick (.r 21) (.k (bo true)) (.r 24)), []⟩])
  (.cond (.r 25)
  (.seq (.ops [
    ⟨(some 26), none, .op (.move (.r 1)), []⟩,
    ⟨(some 27), none, .op (.lenS (.r 26)), []⟩,
    ⟨(some 28), none, .op (.bin .gtr .other (.r 27) (.k (i64 8000))), []⟩,
    ⟨(some 29), none, .op (.move (.r 28)), []⟩,
    ⟨(some 30), (some (29, true)), .call (.k (.clos 9 [])) [], []⟩,
    ⟨(some 31), none, .op (.pick (.r 29) (.r 30) (.k (bo false))), []⟩,
    ⟨(some 4), none, .op (.move (.r 31)), []⟩])
  (.ret))
  (.skip)))
  (.seq (.ops [
    ⟨(some 32), none, .op (.move (.r 5)), []⟩,
    ⟨(some 33), none, .op (.move (.r 5)), []⟩,
    ⟨(some 34), none, .op (.lenL (.r 33)), []⟩,
    ⟨(some 35), none, .op (.bin .sub .other (.r 34) (.k (i64 1))), []⟩,
    ⟨(some 36), none, .op (.sliceL 1 (.r 32) none (some (.r 35)) none), []⟩,
    ⟨(some 37), none, .call (.k (.clos 10 [])) [(.r 36)], []⟩,
    ⟨(some 7), none, .op (.move (.r 37)), []⟩])
  (.seq (.ops [
    ⟨(some 38), none, .op (.move (.r 6)), []⟩,
    ⟨(some 39), none, .op (.move (.r 6)), []⟩,
    ⟨(some 40), none, .op (.lenL (.r 39)), []⟩,
    ⟨(some 41), none, .op (.bin .sub .other (.r 40) (.k (i64 1))), []⟩,
    ⟨(some 42), none, .op (.sliceL 1 (.r 38) none (some (.r 41)) none), []⟩,
    ⟨(some 43), none, .call (.k (.clos 10 [])) [(.r 42)], []⟩,
    ⟨(some 8), none, .op (.move (.r 43)), []⟩])
  (.seq (.ops [
    ⟨(some 44), none, .op (.move (.r 7)), []⟩,
    ⟨(some 45), none, .call (.k (.clos 11 [])) [(.r 44)], []⟩,
    ⟨(some 46), none, .op (.bin .eql .other (.r 45) (.k (i64 0))), []⟩,
    ⟨(some 47), none, .op (.move (.r 46)), []⟩,
    ⟨(some 48), (some (47, true)), .op (.move (.r 7)), []⟩,
    ⟨(some 49), (some (47, true)), .call (.k (.clos 12 [])) [(.r 48)], []⟩,
    ⟨(some 50), (some (47, true)), .op (.bin .eql .other (.r 49) (.k (i64 7))), []⟩,
    ⟨(some 51), none, .op (.pick (.r 47) (.r 50) (.k (bo false))), []⟩,
    ⟨(some 52), none, .op (.move (.r 51)), []⟩,
    ⟨(some 53), (some (52, true)), .op (.move (.r 8)), []⟩,
    ⟨(some 54), (some (52, true)), .call (.k (.clos 13 [])) [(.r 53)], []⟩,
    ⟨(some 55), (some (52, true)), .op (.bin .eql .other (.r 54) (.k (.sc (.string ⟨#[]⟩)))), []⟩,
    ⟨(some 56), none, .op (.pick (.r 52) (.r 55) (.k (bo false))), []⟩,
    ⟨(some 57), none, .op (.move (.r 56)), []⟩,
    ⟨(some 58), (some (57, true)), .op (.move (.r 8)), []⟩,
    ⟨(some 59), (some (57, true)), .call (.k (.clos 12 [])) [(.r 58)], []⟩,
    ⟨(some 60), (some (57, true)), .op (.bin .eql .other (.r 59) (.k (i64 7))), []⟩,
    ⟨(some 61), none, .op (.pick (.r 57) (.r 60) (.k (bo false))), []⟩,
    ⟨(some 62), none, .op (.move (.r 61)), []⟩,
    ⟨(some 63), (some (62, true)), .call (.k (.clos 9 [])) [], []⟩,
    ⟨(some 64), none, .op (.pick (.r 62) (.r 63) (.k (bo false))), []⟩,
    ⟨(some 4), none, .op (.move (.r 64)), []⟩])
  (.ret)))))))
theorem e3 : Try.f3.body.map (normCode Try.prog true Try.f3.ntmps) = some n3 := by kernel_rfl
theorem r3 : resOf Try.f3 = some [4] := by kernel_rfl

def n4 : NCode :=
  .seq (.ops [
    ⟨(some 8), none, .op (.move (.k (bo false))), []⟩])
  (.seq (.seq (.ops [
    ⟨(some 12), none, .op (.move (.r 0)), []⟩,
    ⟨(some 13), none, .op (.lenL (.r 12)), []⟩,
    ⟨(some 14), none, .op (.bin .gtr .other (.r 13) (.k (i64 5000))), []⟩,
    ⟨(some 15), none, .op (.move (.r 14)), []⟩,
    ⟨(some 16), (some (15, false)), .op (.move (.r 2)), []⟩,
    ⟨(some 17), (some (15, false)), .op (.lenS (.r 16)), []⟩,
    ⟨(some 18), (some (15, false)), .op (.bin .gtr .other (.r 17) (.k (i64 9000))), []⟩,
    ⟨(some 19), none, .op (.pick (.r 15) (.k (bo true)) (.r 18)), []⟩,
    ⟨(some 20), none, .op (.move (.r 19)), []⟩,
    ⟨(some 21), (some (20, false)), .op (.move (.r 3)), []⟩,
    ⟨(some 22), (some (20, false)), .op (.lenL (.r 21)), []⟩,
    ⟨(some 23), (some (20, false)), .op (.bin .gtr .other (.r 22) (.k (i64 1000))), []⟩,
    ⟨(some 24), none, .op (.pick (.r 20) (.k (bo true)) (.r 23)), []⟩])
  (.cond (.r 24)
  (.seq (.ops [
    ⟨(some 25), none, .call (.k (.clos 9 [])) [], []⟩,
    ⟨(some 8), none, .op (.move (.r 25)), []⟩])
  (.ret))
  (.skip)))
  (.seq (.ops [
    ⟨(some 26), none, .op (.move (.r 0)), []⟩,
    ⟨(some 27), none, .call (.k (.clos 14 [])) [(.r 26)], []⟩,
    ⟨(some 9), none, .op (.move (.r 27)), []⟩])
  (.seq (.ops [
    ⟨(some 28), none, .op (.move (.r 9)), []⟩,
    ⟨(some 29), none, .op (.move (.r 1)), []⟩,
    ⟨(some 30), none, .call (.k (.clos 7 [])) [(.r 28), (.r 29)], []⟩,
    ⟨(some 10), none, .op (.move (.r 30)), []⟩])
  (.seq (.ops [
    ⟨(some 31), none, .op (.move (.r 9)), []⟩,
    ⟨(some 32), none, .op (.move (.r 2)), []⟩,
    ⟨(some 33), none, .call (.k (.clos 8 [])) [(.r 31), (.r 32)], []⟩,
    ⟨(some 11), none, .op (.move (.r 33)), []⟩])
  (.seq (.seq (.ops [
    ⟨(some 34), none, .op (.move (.r 10)), []⟩,
    ⟨(some 35), none, .op (.move (.r 0)), []⟩,
    ⟨(some 36), none, .op (.move (.r 1)), []⟩,
    ⟨(some 37), none, .call (.k (.clos 16 [])) [(.r 35), (.r 36)], []⟩,
    ⟨(some 38), none, .call (.k (.clos 15 [])) [(.r 34), (.r 37)], []⟩,
    ⟨(some 39), none, .op (.un .not (.r 38)), []⟩,
    ⟨(some 40), none, .op (.move (.r 39)), []⟩,
    ⟨(some 41), (some (40, false)), .op (.move (.r 11)), []⟩,
    ⟨(some 42), (some (40, false)), .op (.move (.r 0)), []⟩,
    ⟨(some 43), (some (40, false)), .op (.move (.r 2)), []⟩,
    ⟨(some 44), (some (40, false)), .call (.k (.clos 17 [])) [(.r 42), (.r 43)], []⟩,
    ⟨(some 45), (some (40, false)), .call (.k (.clos 15 [])) [(.r 41), (.r 44)], []⟩,
    ⟨(some 46), (some (40, false)), .op (.un .not (.r 45)), []⟩,
    ⟨(some 47), none, .op (.pick (.r 40) (.k (bo true)) (.r 46)), []⟩,
    ⟨(some 48), none, .op (.move (.r 47)), []⟩,
    ⟨(some 49), (some (48, false)), .op (.move (.r 3)), []⟩,
    ⟨(some 50), (some (48, false)), .call (.k (.clos 18 [])) [(.r 49)], []⟩,
    ⟨(some 51), (some (48, false)), .op (.move (.r 3)), []⟩,
    ⟨(some 52), (some (48, false)), .call (.k (.clos 19 [])) [(.r 51)], []⟩,
    ⟨(some 53), (some (48, false)), .call (.k (.clos 15 [])) [(.r 50), (.r 52)], []⟩,
    ⟨(some 54), (some (48, false)), .op (.un .not (.r 53)), []⟩,
    ⟨(some 55), none, .op (.pick (.r 48) (.k (bo true)) (.r 54)), []⟩])
  (.cond (.r 55)
  (.seq (.ops [
    ⟨(some 8), none, .op (.move (.k (bo false))), []⟩])
  (.ret))
  (.skip)))
  (.seq (.ops [
    ⟨(some 56), none, .op (.move (.r 10)), []⟩,
    ⟨(some 57), none, .call (.k (.clos 20 [])) [(.r 56)], []⟩])
  (.seq (.ops [
    ⟨(some 58), none, .op (.move (.r 11)), []⟩,
    ⟨(some 59), none, .call (.k (.clos 20 [])) [(.r 58)], []⟩])
  (.seq (.ops [
    ⟨(some 60), none, .op (.move (.r 9)), []⟩,
    ⟨(some 61), none, .op (.move (.r 0)), []⟩,
    ⟨(some 62), none, .call (.k (.clos 21 [])) [(.r 60), (.r 61)], []⟩,
    ⟨(some 63), none, .op (.move (.r 62)), []⟩,
    ⟨(some 64), (some (63, true)), .call (.k (.clos 9 [])) [], []⟩,
    ⟨(some 65), none, .op (.pick (.r 63) (.r 64) (.k (bo false))), []⟩,
    ⟨(some 8), none, .op (.move (.r 65)), []⟩])
  (.ret)))))))))
theorem e4 : Try.f4.body.map (normCode Try.prog true Try.f4.ntmps) = some n4 := by kernel_rfl
theorem r4 : resOf Try.f4 = some [8] := by kernel_rfl

def n5 : NCode :=
  .seq (.ops [
    ⟨(some 6), none, .op (.move (.k (bo false))), []⟩])
  (.seq (.seq (.ops [
    ⟨(some 12), none, .op (.move (.r 0)), []⟩,
    ⟨(some 13), none, .op (.lenL (.r 12)), []⟩,
    ⟨(some 14), none, .op (.bin .gtr .other (.r 13) (.k (i64 500))), []⟩,
    ⟨(some 15), none, .op (.move (.r 14)), []⟩,
    ⟨(some 16), (some (15, false)), .op (.move (.r 1)), []⟩,
    ⟨(some 17), (some (15, false)), .op (.lenL (.r 16)), []⟩,
    ⟨(some 18), (some (15, false)), .op (.bin .gtr .other (.r 17) (.k (i64 50))), []⟩,
    ⟨(some 19), none, .op (.pick (.r 15) (.k (bo true)) (.r 18)), []⟩])
  (.cond (.r 19)
  (.seq (.ops [
    ⟨(some 20), none, .call (.k (.clos 9 [])) [], []⟩,
    ⟨(some 6), none, .op (.move (.r 20)), []⟩])
  (.ret))
  (.skip)))
  (.seq (.ops [
    ⟨(some 21), none, .op (.move (.r 0)), []⟩,
    ⟨(some 22), none, .call (.k (.clos 18 [])) [(.r 21)], []⟩,
    ⟨(some 7), none, .op (.move (.r 22)), []⟩])
  (.seq (.seq (.ops [
    ⟨(some 8), none, .op (.move (.k (i64 0))), []⟩])
  (.block 0 (.loop (.seq (.seq (.ops [
    ⟨(some 23), none, .op (.move (.r 8)), []⟩,
    ⟨(some 24), none, .op (.move (.r 1)), []⟩,
    ⟨(some 25), none, .op (.lenL (.r 24)), []⟩,
    ⟨(some 26), none, .op (.bin .lss .other (.r 23) (.r 25)), []⟩])
  (.cond (.r 26)
  (.skip)
  (.exit 0)))
  (.seq (.block 1 (.seq (.seq (.ops [
    ⟨(some 29), none, .op (.move (.r 1)), []⟩,
    ⟨(some 30), none, .op (.move (.r 8)), []⟩,
    ⟨(some 31), none, .op (.idxAddr 1 (.r 29) (.r 30)), []⟩,
    ⟨(some 32), none, .op (.load none (.r 31)), []⟩,
    ⟨(some 33), none, .op (.lenS (.r 32)), []⟩,
    ⟨(some 34), none, .op (.bin .gtr .other (.r 33) (.k (i64 8000))), []⟩])
  (.cond (.r 34)
  (.seq (.ops [
    ⟨(some 35), none, .call (.k (.clos 9 [])) [], []⟩,
    ⟨(some 6), none, .op (.move (.r 35)), []⟩])
  (.ret))
  (.skip)))
  (.ops [
    ⟨(some 36), none, .op (.move (.r 7)), []⟩,
    ⟨(some 37), none, .op (.move (.r 1)), []⟩,
    ⟨(some 38), none, .op (.move (.r 8)), []⟩,
    ⟨(some 39), none, .op (.idxAddr 1 (.r 37) (.r 38)), []⟩,
    ⟨(some 40), none, .op (.load none (.r 39)), []⟩,
    ⟨(some 41), none, .call (.k (.clos 8 [])) [(.r 36), (.r 40)], []⟩,
    ⟨(some 7), none, .op (.move (.r 41)), []⟩])))
  (.ops [
    ⟨(some 27), none, .op (.move (.r 8)), []⟩,
    ⟨(some 28), none, .op (.bin .add .other (.r 27) (.k (i64 1))), []⟩,
    ⟨(some 8), none, .op (.move (.r 28)), []⟩]))))))
  (.seq (.ops [
    ⟨(some 42), none, .op (.move (.r 7)), []⟩,
    ⟨(some 43), none, .op (.move (.r 2)), []⟩,
    ⟨(some 44), none, .op (.append true none 1 [(.sc (.int .u8 0))] (.r 42) (.r 43)), []⟩,
    ⟨(some 45), none, .call (.k (.clos 10 [])) [(.r 44)], []⟩,
    ⟨(some 9), none, .op (.move (.r 45)), []⟩])
  (.seq (.seq (.ops [
    ⟨(some 10), none, .op (.move (.k (i64 0))), []⟩])
  (.block 2 (.loop (.seq (.seq (.ops [
    ⟨(some 46), none, .op (.move (.r 10)), []⟩,
    ⟨(some 47), none, .op (.move (.r 0)), []⟩,
    ⟨(some 48), none, .op (.lenL (.r 47)), []⟩,
    ⟨(some 49), none, .op (.bin .lss .other (.r 46) (.r 48)), []⟩])
  (.cond (.r 49)
  (.skip)
  (.exit 2)))
  (.seq (.block 3 (.seq (.ops [
    ⟨(some 52), none, .op (.move (.r 9)), []⟩,
    ⟨(some 54), none, .op (.move (.r 0)), []⟩,
    ⟨(some 55), none, .op (.move (.r 10)), []⟩,
    ⟨(some 56), none, .op (.idxAddr 1 (.r 54) (.r 55)), []⟩,
    ⟨(some 57), none, .op (.load none (.r 56)), []⟩,
    ⟨(some 53), none, .call (.k (.clos 11 [])) [(.r 52)], [⟨57, none, .load none (.r 56)⟩]⟩,
    ⟨(some 58), none, .op (.bin .neq .other (.r 53) (.r 57)), []⟩])
  (.cond (.r 58)
  (.seq (.ops [
    ⟨(some 6), none, .op (.move (.k (bo false))), []⟩])
  (.ret))
  (.skip))))
  (.ops [
    ⟨(some 50), none, .op (.move (.r 10)), []⟩,
    ⟨(some 51), none, .op (.bin .add .other (.r 50) (.k (i64 1))), []⟩,
    ⟨(some 10), none, .op (.move (.r 51)), []⟩]))))))
  (.seq (.seq (.ops [
    ⟨(some 11), none, .op (.move (.k (i64 0))), []⟩])
  (.block 4 (.loop (.seq (.seq (.ops [
    ⟨(some 59), none, .op (.move (.r 11)), []⟩,
    ⟨(some 60), none, .op (.move (.r 1)), []⟩,
    ⟨(some 61), none, .op (.lenL (.r 60)), []⟩,
    ⟨(some 62), none, .op (.bin .lss .other (.r 59) (.r 61)), []⟩])
  (.cond (.r 62)
  (.skip)
  (.exit 4)))
  (.seq (.block 5 (.seq (.ops [
    ⟨(some 65), none, .op (.move (.r 9)), []⟩,
    ⟨(some 67), none, .op (.move (.r 1)), []⟩,
    ⟨(some 68), none, .op (.move (.r 11)), []⟩,
    ⟨(some 69), none, .op (.idxAddr 1 (.r 67) (.r 68)), []⟩,
    ⟨(some 70), none, .op (.load none (.r 69)), []⟩,
    ⟨(some 66), none, .call (.k (.clos 13 [])) [(.r 65)], [⟨70, none, .load none (.r 69)⟩]⟩,
    ⟨(some 71), none, .op (.bin .neq .other (.r 66) (.r 70)), []⟩])
  (.cond (.r 71)
  (.seq (.ops [
    ⟨(some 6), none, .op (.move (.k (bo false))), []⟩])
  (.ret))
  (.skip))))
  (.ops [
    ⟨(some 63), none, .op (.move (.r 11)), []⟩,
    ⟨(some 64), none, .op (.bin .add .other (.r 63) (.k (i64 1))), []⟩,
    ⟨(some 11), none, .op (.move (.r 64)), []⟩]))))))
  (.seq (.ops [
    ⟨(some 72), none, .op (.move (.r 9)), []⟩,
    ⟨(some 73), none, .call (.k (.clos 12 [])) [(.r 72)], []⟩,
    ⟨(some 74), none, .op (.bin .eql .other (.r 73) (.k (i64 0))), []⟩,
    ⟨(some 75), none, .op (.move (.r 74)), []⟩,
    ⟨(some 76), (some (75, true)), .op (.move (.r 9)), []⟩,
    ⟨(some 77), (some (75, true)), .call (.k (.clos 22 [])) [(.r 76)], []⟩,
    ⟨(some 78), (some (75, true)), .op (.move (.r 2)), []⟩,
    ⟨(some 79), (some (75, true)), .op (.lenL (.r 78)), []⟩,
    ⟨(some 80), (some (75, true)), .op (.bin .eql .other (.r 77) (.r 79)), []⟩,
    ⟨(some 81), none, .op (.pick (.r 75) (.r 80) (.k (bo false))), []⟩,
    ⟨(some 82), none, .op (.move (.r 81)), []⟩,
    ⟨(some 83), (some (82, true)), .call (.k (.clos 9 [])) [], []⟩,
    ⟨(some 84), none, .op (.pick (.r 82) (.r 83) (.k (bo false))), []⟩,
    ⟨(some 6), none, .op (.move (.r 84)), []⟩])
  (.ret))))))))
theorem e5 : Try.f5.body.map (normCode Try.prog true Try.f5.ntmps) = some n5 := by kernel_rfl
theorem r5 : resOf Try.f5 = some [6] := by kernel_rfl

def n6 : NCode :=
  .seq (.ops [
    ⟨(some 2), none, .op (.move (.k (bo false))), []⟩])
  (.seq (.ops [
    ⟨(some 3), none, .op (.move (.k (.sc (.pointer none)))), []⟩])
  (.seq (.ops [
    ⟨(some 4), none, .op (.move (.r 3)), []⟩,
    ⟨(some 5), none, .call (.k (.clos 23 [])) [(.r 4), (.k (i64 4))], []⟩])
  (.seq (.ops [
    ⟨(some 6), none, .op (.move (.r 3)), []⟩,
    ⟨(some 7), none, .call (.k (.clos 11 [])) [(.r 6)], []⟩,
    ⟨(some 8), none, .op (.bin .eql .other (.r 7) (.k (i64 0))), []⟩,
    ⟨(some 9), none, .op (.move (.r 8)), []⟩,
    ⟨(some 10), (some (9, true)), .op (.move (.r 3)), []⟩,
    ⟨(some 11), (some (9, true)), .call (.k (.clos 13 [])) [(.r 10)], []⟩,
    ⟨(some 12), (some (9, true)), .op (.bin .eql .other (.r 11) (.k (.sc (.string ⟨#[]⟩)))), []⟩,
    ⟨(some 13), none, .op (.pick (.r 9) (.r 12) (.k (bo false))), []⟩,
    ⟨(some 14), none, .op (.move (.r 13)), []⟩,
    ⟨(some 15), (some (14, true)), .op (.move (.r 3)), []⟩,
    ⟨(some 16), (some (14, true)), .op (.move (.r 0)), []⟩,
    ⟨(some 17), (some (14, true)), .call (.k (.clos 24 [])) [(.r 15), (.r 16)], []⟩,
    ⟨(some 18), (some (14, true)), .op (.bin .eql .other (.r 17) (.k (i64 0))), []⟩,
    ⟨(some 19), none, .op (.pick (.r 14) (.r 18) (.k (bo false))), []⟩,
    ⟨(some 20), none, .op (.move (.r 19)), []⟩,
    ⟨(some 21), (some (20, true)), .op (.move (.r 3)), []⟩,
    ⟨(some 22), (some (20, true)), .call (.k (.clos 22 [])) [(.r 21)], []⟩,
    ⟨(some 23), (some (20, true)), .op (.bin .eql .other (.r 22) (.k (i64 0))), []⟩,
    ⟨(some 24), none, .op (.pick (.r 20) (.r 23) (.k (bo false))), []⟩,
    ⟨(some 25), none, .op (.move (.r 24)), []⟩,
    ⟨(some 26), (some (25, true)), .op (.move (.r 3)), []⟩,
    ⟨(some 27), (some (25, true)), .call (.k (.clos 12 [])) [(.r 26)], []⟩,
    ⟨(some 28), (some (25, true)), .op (.bin .eql .other (.r 27) (.k (i64 1))), []⟩,
    ⟨(some 29), none, .op (.pick (.r 25) (.r 28) (.k (bo false))), []⟩,
    ⟨(some 30), none, .op (.move (.r 29)), []⟩,
    ⟨(some 31), (some (30, true)), .call (.k (.clos 9 [])) [], []⟩,
    ⟨(some 32), none, .op (.pick (.r 30) (.r 31) (.k (bo false))), []⟩,
    ⟨(some 2), none, .op (.move (.r 32)), []⟩])
  (.ret))))
theorem e6 : Try.f6.body.map (normCode Try.prog true Try.f6.ntmps) = some n6 := by kernel_rfl
theorem r6 : resOf Try.f6 = some [2] := by kernel_rfl

def n7 : NCode :=
  .seq (.ops [
    ⟨(some 4), none, .op (.move (.k (.lst [] .nil))), []⟩])
  (.seq (.ops [
    ⟨(some 5), none, .op (.move (.r 0)), []⟩,
    ⟨(some 6), none, .call (.k (.clos 26 [])) [(.r 5)], []⟩,
    ⟨(some 7), none, .op (.move (.r 1)), []⟩,
    ⟨(some 8), none, .call (.k (.clos 25 [])) [(.r 6), (.r 7)], []⟩,
    ⟨(some 4), none, .op (.move (.r 8)), []⟩])
  (.ret))
theorem e7 : Try.f7.body.map (normCode Try.prog true Try.f7.ntmps) = some n7 := by kernel_rfl
theorem r7 : resOf Try.f7 = some [4] := by kernel_rfl

def n8 : NCode :=
  .seq (.ops [
    ⟨(some 4), none, .op (.move (.k (.lst [] .nil))), []⟩])
  (.seq (.ops [
    ⟨(some 5), none, .op (.move (.r 0)), []⟩,
    ⟨(some 6), none, .op (.move (.r 1)), []⟩,
    ⟨(some 7), none, .op (.lenS (.r 6)), []⟩,
    ⟨(some 8), none, .call (.k (.clos 7 [])) [(.r 5), (.r 7)], []⟩,
    ⟨(some 9), none, .op (.move (.r 1)), []⟩,
    ⟨(some 10), none, .op (.append true none 1 [(.sc (.int .u8 0))] (.r 8) (.r 9)), []⟩,
    ⟨(some 4), none, .op (.move (.r 10)), []⟩])
  (.ret))
theorem e8 : Try.f8.body.map (normCode Try.prog true Try.f8.ntmps) = some n8 := by kernel_rfl
theorem r8 : resOf Try.f8 = some [4] := by kernel_rfl

def n9 : NCode :=
  .seq (.ops [
    ⟨(some 0), none, .op (.move (.k (bo false))), []⟩])
  (.seq (.ops [
    ⟨(some 5), none, .op (.buildSlice none [(.sc (.int .u8 0))] 6 [(0, (.k (.sc (.int .u8 216)))), (1, (.k (.sc (.int .u8 4)))), (2, (.k (.sc (.int .u8 1)))), (3, (.k (.sc (.int .u8 4)))), (4, (.k (.sc (.int .u8 104)))), (5, (.k (.sc (.int .u8 105))))]), []⟩,
    ⟨(some 6), none, .call (.k (.clos 10 [])) [(.r 5)], []⟩,
    ⟨(some 1), none, .op (.move (.r 6)), []⟩])
  (.seq (.ops [
    ⟨(some 7), none, .op (.move (.r 1)), []⟩,
    ⟨(some 8), none, .call (.k (.clos 11 [])) [(.r 7)], []⟩,
    ⟨(some 2), none, .op (.move (.r 8)), []⟩])
  (.seq (.ops [
    ⟨(some 9), none, .op (.move (.r 1)), []⟩,
    ⟨(some 10), none, .call (.k (.clos 11 [])) [(.r 9)], []⟩,
    ⟨(some 3), none, .op (.move (.r 10)), []⟩])
  (.seq (.ops [
    ⟨(some 11), none, .op (.move (.r 1)), []⟩,
    ⟨(some 12), none, .call (.k (.clos 13 [])) [(.r 11)], []⟩,
    ⟨(some 4), none, .op (.move (.r 12)), []⟩])
  (.seq (.ops [
    ⟨(some 13), none, .call (.k (.clos 7 [])) [(.k (.lst [] .nil)), (.k (i64 300))], []⟩,
    ⟨(some 14), none, .op (.b2s (.r 13)), []⟩,
    ⟨(some 15), none, .op (.bin .eql .other (.r 14) (.k (.sc (.string ⟨#[216, 4]⟩)))), []⟩,
    ⟨(some 16), none, .op (.move (.r 15)), []⟩,
    ⟨(some 17), (some (16, true)), .op (.move (.r 2)), []⟩,
    ⟨(some 18), (some (16, true)), .op (.bin .eql .other (.r 17) (.k (i64 300))), []⟩,
    ⟨(some 19), none, .op (.pick (.r 16) (.r 18) (.k (bo false))), []⟩,
    ⟨(some 20), none, .op (.move (.r 19)), []⟩,
    ⟨(some 21), (some (20, true)), .op (.move (.r 3)), []⟩,
    ⟨(some 22), (some (20, true)), .op (.bin .eql .other (.r 21) (.k (i64 (-1)))), []⟩,
    ⟨(some 23), none, .op (.pick (.r 20) (.r 22) (.k (bo false))), []⟩,
    ⟨(some 24), none, .op (.move (.r 23)), []⟩,
    ⟨(some 25), (some (24, true)), .op (.move (.r 4)), []⟩,
    ⟨(some 26), (some (24, true)), .op (.bin .eql .other (.r 25) (.k (.sc (.string ⟨#[104, 105]⟩)))), []⟩,
    ⟨(some 27), none, .op (.pick (.r 24) (.r 26) (.k (bo false))), []⟩,
    ⟨(some 28), none, .op (.move (.r 27)), []⟩,
    ⟨(some 29), (some (28, true)), .op (.move (.r 1)), []⟩,
    ⟨(some 30), (some (28, true)), .call (.k (.clos 12 [])) [(.r 29)], []⟩,
    ⟨(some 31), (some (28, true)), .op (.bin .eql .other (.r 30) (.k (i64 0))), []⟩,
    ⟨(some 32), none, .op (.pick (.r 28) (.r 31) (.k (bo false))), []⟩,
    ⟨(some 33), none, .op (.move (.r 32)), []⟩,
    ⟨(some 34), (some (33, true)), .op (.move (.r 1)), []⟩,
    ⟨(some 35), (some (33, true)), .call (.k (.clos 22 [])) [(.r 34)], []⟩,
    ⟨(some 36), (some (33, true)), .op (.bin .eql .other (.r 35) (.k (i64 0))), []⟩,
    ⟨(some 37), none, .op (.pick (.r 33) (.r 36) (.k (bo false))), []⟩,
    ⟨(some 0), none, .op (.move (.r 37)), []⟩])
  (.ret))))))
theorem e9 : Try.f9.body.map (normCode Try.prog true Try.f9.ntmps) = some n9 := by kernel_rfl
theorem r9 : resOf Try.f9 = some [0] := by kernel_rfl

def n10 : NCode :=
  .seq (.ops [
    ⟨(some 2), none, .op (.move (.k (.sc (.pointer none)))), []⟩])
  (.seq (.ops [
    ⟨(some 3), none, .op (.move (.r 0)), []⟩,
    ⟨(some 4), none, .call (.k (.clos 26 [])) [(.r 3)], []⟩,
    ⟨(some 5), none, .op (.build [(.lst [] .nil), (i64 0)] [(0, 1, (.r 4))]), []⟩,
    ⟨(some 6), none, .op (.box (.r 5)), []⟩,
    ⟨(some 2), none, .op (.move (.r 6)), []⟩])
  (.ret))
theorem e10 : Try.f10.body.map (normCode Try.prog true Try.f10.ntmps) = some n10 := by kernel_rfl
theorem r10 : resOf Try.f10 = some [2] := by kernel_rfl

def n11 : NCode :=
  .seq (.ops [
    ⟨(some 2), none, .op (.move (.k (i64 0))), []⟩])
  (.seq (.seq (.ops [
    ⟨(some 5), none, .op (.move (.r 0)), []⟩,
    ⟨(some 6), none, .call (.k (.clos 12 [])) [(.r 5)], []⟩,
    ⟨(some 7), none, .op (.bin .neq .other (.r 6) (.k (i64 0))), []⟩])
  (.cond (.r 7)
  (.seq (.ops [
    ⟨(some 2), none, .op (.move (.k (i64 0))), []⟩])
  (.ret))
  (.skip)))
  (.seq (.ops [
    ⟨(some 9), none, .op (.move (.r 0)), []⟩,
    ⟨(some 10), none, .call (.k (.clos 27 [])) [(.r 9)], []⟩,
    ⟨(some 8), none, .op (.move (.r 10)), []⟩,
    ⟨(some 11), none, .op (.extract 0 (.r 8)), []⟩,
    ⟨(some 12), none, .op (.extract 1 (.r 8)), []⟩,
    ⟨(some 3), none, .op (.move (.r 11)), []⟩,
    ⟨(some 4), none, .op (.move (.r 12)), []⟩])
  (.seq (.ops [
    ⟨(some 13), none, .op (.move (.r 0)), []⟩,
    ⟨(some 14), none, .op (.move (.r 4)), []⟩,
    ⟨(some 15), none, .call (.k (.clos 28 [])) [(.r 13), (.r 14)], []⟩])
  (.seq (.ops [
    ⟨(some 16), none, .op (.move (.r 3)), []⟩,
    ⟨(some 2), none, .op (.move (.r 16)), []⟩])
  (.ret)))))
theorem e11 : Try.f11.body.map (normCode Try.prog true Try.f11.ntmps) = some n11 := by kernel_rfl
theorem r11 : resOf Try.f11 = some [2] := by kernel_rfl

def n12 : NCode :=
  .seq (.ops [
    ⟨(some 2), none, .op (.move (.k (i64 0))), []⟩])
  (.seq (.seq (.ops [
    ⟨(some 3), none, .op (.move (.r 0)), []⟩,
    ⟨(some 4), none, .op (.bin .eql .pointer (.r 3) (.k (.sc (.pointer none)))), []⟩])
  (.cond (.r 4)
  (.seq (.ops [
    ⟨(some 2), none, .op (.move (.k (i64 1))), []⟩])
  (.ret))
  (.skip)))
  (.seq (.ops [
    ⟨(some 5), none, .op (.move (.r 0)), []⟩,
    ⟨(some 6), none, .op (.nilCheck (.r 5)), []⟩,
    ⟨(some 7), none, .op (.fieldAddr 1 (.r 6)), []⟩,
    ⟨(some 8), none, .op (.load none (.r 7)), []⟩,
    ⟨(some 2), none, .op (.move (.r 8)), []⟩])
  (.ret)))
theorem e12 : Try.f12.body.map (normCode Try.prog true Try.f12.ntmps) = some n12 := by kernel_rfl
theorem r12 : resOf Try.f12 = some [2] := by kernel_rfl

def n13 : NCode :=
  .seq (.ops [
    ⟨(some 2), none, .op (.move (.k (.sc (.string ⟨#[]⟩)))), []⟩])
  (.seq (.ops [
    ⟨(some 8), none, .op (.move (.r 0)), []⟩,
    ⟨(some 9), none, .call (.k (.clos 29 [])) [(.r 8), (.k (i64 8000))], []⟩,
    ⟨(some 7), none, .op (.move (.r 9)), []⟩,
    ⟨(some 10), none, .op (.extract 0 (.r 7)), []⟩,
    ⟨(some 11), none, .op (.extract 1 (.r 7)), []⟩,
    ⟨(some 12), none, .op (.extract 2 (.r 7)), []⟩,
    ⟨(some 3), none, .op (.move (.r 10)), []⟩,
    ⟨(some 4), none, .op (.move (.r 11)), []⟩,
    ⟨(some 5), none, .op (.move (.r 12)), []⟩])
  (.seq (.block 0 (.seq (.ops [
    ⟨(some 14), none, .op (.move (.r 5)), []⟩,
    ⟨(some 15), none, .op (.un .not (.r 14)), []⟩,
    ⟨(some 13), none, .op (.move (.r 15)), []⟩])
  (.cond (.r 13)
  (.seq (.ops [
    ⟨(some 2), none, .op (.move (.k (.sc (.string ⟨#[]⟩)))), []⟩])
  (.ret))
  (.seq (.ops [
    ⟨(some 17), none, .op (.move (.r 3)), []⟩,
    ⟨(some 18), none, .op (.move (.r 0)), []⟩,
    ⟨(some 19), none, .op (.nilCheck (.r 18)), []⟩,
    ⟨(some 20), none, .op (.fieldAddr 0 (.r 19)), []⟩,
    ⟨(some 21), none, .op (.load none (.r 20)), []⟩,
    ⟨(some 22), none, .op (.lenL (.r 21)), []⟩,
    ⟨(some 23), none, .op (.move (.r 4)), []⟩,
    ⟨(some 24), none, .op (.bin .sub .other (.r 22) (.r 23)), []⟩,
    ⟨(some 25), none, .op (.bin .gtr .other (.r 17) (.r 24)), []⟩,
    ⟨(some 16), none, .op (.move (.r 25)), []⟩])
  (.cond (.r 16)
  (.seq (.ops [
    ⟨(some 26), none, .op (.move (.r 0)), []⟩,
    ⟨(some 27), none, .call (.k (.clos 23 [])) [(.r 26), (.k (i64 7))], []⟩])
  (.seq (.ops [
    ⟨(some 2), none, .op (.move (.k (.sc (.string ⟨#[]⟩)))), []⟩])
  (.ret)))
  (.skip))))))
  (.seq (.ops [
    ⟨(some 28), none, .op (.move (.r 0)), []⟩,
    ⟨(some 29), none, .op (.nilCheck (.r 28)), []⟩,
    ⟨(some 30), none, .op (.fieldAddr 0 (.r 29)), []⟩,
    ⟨(some 31), none, .op (.load none (.r 30)), []⟩,
    ⟨(some 32), none, .op (.move (.r 4)), []⟩,
    ⟨(some 33), none, .op (.move (.r 4)), []⟩,
    ⟨(some 34), none, .op (.move (.r 3)), []⟩,
    ⟨(some 35), none, .op (.bin .add .other (.r 33) (.r 34)), []⟩,
    ⟨(some 36), none, .op (.sliceL 1 (.r 31) (some (.r 32)) (some (.r 35)) none), []⟩,
    ⟨(some 37), none, .op (.b2s (.r 36)), []⟩,
    ⟨(some 6), none, .op (.move (.r 37)), []⟩])
  (.seq (.ops [
    ⟨(some 38), none, .op (.move (.r 0)), []⟩,
    ⟨(some 39), none, .op (.move (.r 4)), []⟩,
    ⟨(some 40), none, .op (.move (.r 3)), []⟩,
    ⟨(some 41), none, .op (.bin .add .other (.r 39) (.r 40)), []⟩,
    ⟨(some 42), none, .call (.k (.clos 28 [])) [(.r 38), (.r 41)], []⟩])
  (.seq (.ops [
    ⟨(some 43), none, .op (.move (.r 6)), []⟩,
    ⟨(some 2), none, .op (.move (.r 43)), []⟩])
  (.ret))))))
theorem e13 : Try.f13.body.map (normCode Try.prog true Try.f13.ntmps) = some n13 := by kernel_rfl
theorem r13 : resOf Try.f13 = some [2] := by kernel_rfl

def n14 : NCode :=
  .seq (.ops [
    ⟨(some 2), none, .op (.move (.k (.lst [] .nil))), []⟩])
  (.seq (.ops [
    ⟨(some 3), none, .op (.move (.k (.lst [] .nil))), []⟩])
  (.seq (.ops [
    ⟨(some 4), none, .op (.move (.r 3)), []⟩,
    ⟨(some 5), none, .op (.move (.r 0)), []⟩,
    ⟨(some 6), none, .op (.append true none 1 [(.sc (.int .u8 0))] (.r 4) (.r 5)), []⟩,
    ⟨(some 3), none, .op (.move (.r 6)), []⟩])
  (.seq (.ops [
    ⟨(some 7), none, .op (.move (.r 3)), []⟩,
    ⟨(some 8), none, .op (.buildSlice none [(.sc (.int .u8 0))] 12 [(0, (.k (.sc (.int .u8 1)))), (1, (.k (.sc (.int .u8 2)))), (2, (.k (.sc (.int .u8 3)))), (3, (.k (.sc (.int .u8 4)))), (4, (.k (.sc (.int .u8 5)))), (5, (.k (.sc (.int .u8 6)))), (6, (.k (.sc (.int .u8 7)))), (7, (.k (.sc (.int .u8 8)))), (8, (.k (.sc (.int .u8 9)))), (9, (.k (.sc (.int .u8 10)))), (10, (.k (.sc (.int .u8 11)))), (11, (.k (.sc (.int .u8 12))))]), []⟩,
    ⟨(some 9), none, .op (.append true none 1 [(.sc (.int .u8 0))] (.r 7) (.r 8)), []⟩,
    ⟨(some 3), none, .op (.move (.r 9)), []⟩])
  (.seq (.ops [
    ⟨(some 10), none, .op (.move (.r 3)), []⟩,
    ⟨(some 11), none, .op (.move (.r 0)), []⟩,
    ⟨(some 12), none, .op (.lenL (.r 11)), []⟩,
    ⟨(some 13), none, .op (.sliceL 1 (.r 10) none (some (.r 12)) none), []⟩,
    ⟨(some 2), none, .op (.move (.r 13)), []⟩])
  (.ret)))))
theorem e14 : Try.f14.body.map (normCode Try.prog true Try.f14.ntmps) = some n14 := by kernel_rfl
theorem r14 : resOf Try.f14 = some [2] := by kernel_rfl

def n15 : NCode :=
  .seq (.ops [
    ⟨(some 4), none, .op (.move (.k (bo false))), []⟩])
  (.seq (.ops [
    ⟨(some 5), none, .op (.move (.r 0)), []⟩,
    ⟨(some 6), none, .op (.b2s (.r 5)), []⟩,
    ⟨(some 7), none, .op (.move (.r 1)), []⟩,
    ⟨(some 8), none, .op (.b2s (.r 7)), []⟩,
    ⟨(some 9), none, .op (.bin .eql .other (.r 6) (.r 8)), []⟩,
    ⟨(some 4), none, .op (.move (.r 9)), []⟩])
  (.ret))
theorem e15 : Try.f15.body.map (normCode Try.prog true Try.f15.ntmps) = some n15 := by kernel_rfl
theorem r15 : resOf Try.f15 = some [4] := by kernel_rfl

def n16 : NCode :=
  .seq (.ops [
    ⟨(some 4), none, .op (.move (.k (.lst [] .nil))), []⟩])
  (.seq (.ops [
    ⟨(some 5), none, .op (.move (.k (.lst [] .nil))), []⟩])
  (.seq (.ops [
    ⟨(some 7), none, .op (.move (.r 5)), []⟩,
    ⟨(some 8), none, .op (.move (.r 0)), []⟩,
    ⟨(some 9), none, .op (.append true none 1 [(.sc (.int .u8 0))] (.r 7) (.r 8)), []⟩,
    ⟨(some 5), none, .op (.move (.r 9)), []⟩])
  (.seq (.ops [
    ⟨(some 10), none, .op (.move (.r 1)), []⟩,
    ⟨(some 11), none, .op (.conv .u64 (.r 10)), []⟩,
    ⟨(some 12), none, .op (.bin .shl .other (.r 11) (.k (.sc (.int .u64 1)))), []⟩,
    ⟨(some 6), none, .op (.move (.r 12)), []⟩])
  (.seq (.seq (.ops [
    ⟨(some 13), none, .op (.move (.r 1)), []⟩,
    ⟨(some 14), none, .op (.bin .lss .other (.r 13) (.k (i64 0))), []⟩])
  (.cond (.r 14)
  (.ops [
    ⟨(some 15), none, .op (.move (.r 6)), []⟩,
    ⟨(some 16), none, .op (.un .xor (.r 15)), []⟩,
    ⟨(some 6), none, .op (.move (.r 16)), []⟩])
  (.skip)))
  (.seq (.block 0 (.loop (.seq (.seq (.ops [
    ⟨(some 17), none, .op (.move (.r 6)), []⟩,
    ⟨(some 18), none, .op (.bin .geq .other (.r 17) (.k (.sc (.int .u64 128)))), []⟩])
  (.cond (.r 18)
  (.skip)
  (.exit 0)))
  (.block 1 (.seq (.ops [
    ⟨(some 19), none, .op (.move (.r 5)), []⟩,
    ⟨(some 20), none, .op (.move (.r 6)), []⟩,
    ⟨(some 21), none, .op (.bin .rem .other (.r 20) (.k (.sc (.int .u64 128)))), []⟩,
    ⟨(some 22), none, .op (.conv .u8 (.r 21)), []⟩,
    ⟨(some 23), none, .op (.bin .add .other (.r 22) (.k (.sc (.int .u8 128)))), []⟩,
    ⟨(some 24), none, .op (.buildSlice none [(.sc (.int .u8 0))] 1 [(0, (.r 23))]), []⟩,
    ⟨(some 25), none, .op (.append true none 1 [(.sc (.int .u8 0))] (.r 19) (.r 24)), []⟩,
    ⟨(some 5), none, .op (.move (.r 25)), []⟩])
  (.ops [
    ⟨(some 26), none, .op (.move (.r 6)), []⟩,
    ⟨(some 27), none, .op (.bin .quo .other (.r 26) (.k (.sc (.int .u64 128)))), []⟩,
    ⟨(some 6), none, .op (.move (.r 27)), []⟩]))))))
  (.seq (.ops [
    ⟨(some 28), none, .op (.move (.r 5)), []⟩,
    ⟨(some 29), none, .op (.move (.r 6)), []⟩,
    ⟨(some 30), none, .op (.conv .u8 (.r 29)), []⟩,
    ⟨(some 31), none, .op (.buildSlice none [(.sc (.int .u8 0))] 1 [(0, (.r 30))]), []⟩,
    ⟨(some 32), none, .op (.append true none 1 [(.sc (.int .u8 0))] (.r 28) (.r 31)), []⟩,
    ⟨(some 4), none, .op (.move (.r 32)), []⟩])
  (.ret)))))))
theorem e16 : Try.f16.body.map (normCode Try.prog true Try.f16.ntmps) = some n16 := by kernel_rfl
theorem r16 : resOf Try.f16 = some [4] := by kernel_rfl

def n17 : NCode :=
  .seq (.ops [
    ⟨(some 4), none, .op (.move (.k (.lst [] .nil))), []⟩])
  (.seq (.ops [
    ⟨(some 5), none, .op (.move (.r 0)), []⟩,
    ⟨(some 6), none, .op (.move (.r 1)), []⟩,
    ⟨(some 7), none, .op (.lenS (.r 6)), []⟩,
    ⟨(some 8), none, .call (.k (.clos 16 [])) [(.r 5), (.r 7)], []⟩,
    ⟨(some 9), none, .op (.move (.r 1)), []⟩,
    ⟨(some 10), none, .op (.append true none 1 [(.sc (.int .u8 0))] (.r 8) (.r 9)), []⟩,
    ⟨(some 4), none, .op (.move (.r 10)), []⟩])
  (.ret))
theorem e17 : Try.f17.body.map (normCode Try.prog true Try.f17.ntmps) = some n17 := by kernel_rfl
theorem r17 : resOf Try.f17 = some [4] := by kernel_rfl

def n18 : NCode :=
  .seq (.ops [
    ⟨(some 2), none, .op (.move (.k (.lst [] .nil))), []⟩])
  (.seq (.ops [
    ⟨(some 3), none, .op (.move (.k (.lst [] .nil))), []⟩])
  (.seq (.seq (.ops [
    ⟨(some 6), none, .op (.move (.r 0)), []⟩,
    ⟨(some 7), none, .op (.lenL (.r 6)), []⟩,
    ⟨(some 8), none, .op (.move (.k (i64 0))), []⟩])
  (.block 0 (.loop (.seq (.ops [
    ⟨(some 9), none, .op (.bin .lss .other (.r 8) (.r 7)), []⟩])
  (.seq (.cond (.r 9)
  (.skip)
  (.exit 0))
  (.seq (.block 1 (.seq (.ops [
    ⟨(some 10), none, .op (.idxAddr 1 (.r 6) (.r 8)), []⟩,
    ⟨(some 11), none, .op (.load none (.r 10)), []⟩,
    ⟨(some 5), none, .op (.move (.r 11)), []⟩])
  (.ops [
    ⟨(some 12), none, .op (.move (.r 3)), []⟩,
    ⟨(some 13), none, .op (.move (.r 5)), []⟩,
    ⟨(some 14), none, .call (.k (.clos 25 [])) [(.r 12), (.r 13)], []⟩,
    ⟨(some 3), none, .op (.move (.r 14)), []⟩])))
  (.ops [
    ⟨(some 15), none, .op (.bin .add .other (.r 8) (.k (i64 1))), []⟩,
    ⟨(some 8), none, .op (.move (.r 15)), []⟩])))))))
  (.seq (.ops [
    ⟨(some 16), none, .op (.move (.r 3)), []⟩,
    ⟨(some 2), none, .op (.move (.r 16)), []⟩])
  (.ret))))
theorem e18 : Try.f18.body.map (normCode Try.prog true Try.f18.ntmps) = some n18 := by kernel_rfl
theorem r18 : resOf Try.f18 = some [2] := by kernel_rfl

def n19 : NCode :=
  .seq (.ops [
    ⟨(some 2), none, .op (.move (.k (.lst [] .nil))), []⟩])
  (.seq (.ops [
    ⟨(some 3), none, .op (.move (.k (.lst [] .nil))), []⟩])
  (.seq (.seq (.ops [
    ⟨(some 4), none, .op (.move (.k (i64 0))), []⟩])
  (.block 0 (.loop (.seq (.seq (.ops [
    ⟨(some 5), none, .op (.move (.r 4)), []⟩,
    ⟨(some 6), none, .op (.move (.r 0)), []⟩,
    ⟨(some 7), none, .op (.lenL (.r 6)), []⟩,
    ⟨(some 8), none, .op (.bin .lss .other (.r 5) (.r 7)), []⟩])
  (.cond (.r 8)
  (.skip)
  (.exit 0)))
  (.seq (.block 1 (.ops [
    ⟨(some 11), none, .op (.move (.r 3)), []⟩,
    ⟨(some 12), none, .op (.move (.r 0)), []⟩,
    ⟨(some 13), none, .op (.move (.r 4)), []⟩,
    ⟨(some 14), none, .op (.idxAddr 1 (.r 12) (.r 13)), []⟩,
    ⟨(some 15), none, .op (.load none (.r 14)), []⟩,
    ⟨(some 16), none, .call (.k (.clos 16 [])) [(.r 11), (.r 15)], []⟩,
    ⟨(some 3), none, .op (.move (.r 16)), []⟩]))
  (.ops [
    ⟨(some 9), none, .op (.move (.r 4)), []⟩,
    ⟨(some 10), none, .op (.bin .add .other (.r 9) (.k (i64 1))), []⟩,
    ⟨(some 4), none, .op (.move (.r 10)), []⟩]))))))
  (.seq (.ops [
    ⟨(some 17), none, .op (.move (.r 3)), []⟩,
    ⟨(some 2), none, .op (.move (.r 17)), []⟩])
  (.ret))))
theorem e19 : Try.f19.body.map (normCode Try.prog true Try.f19.ntmps) = some n19 := by kernel_rfl
theorem r19 : resOf Try.f19 = some [2] := by kernel_rfl

def n20 : NCode :=
  .seq (.ops [
    ⟨(some 2), none, .op (.move (.k (i64 0))), []⟩])
  (.block 0 (.loop (.seq (.seq (.ops [
    ⟨(some 3), none, .op (.move (.r 2)), []⟩,
    ⟨(some 4), none, .op (.move (.r 0)), []⟩,
    ⟨(some 5), none, .op (.lenL (.r 4)), []⟩,
    ⟨(some 6), none, .op (.bin .lss .other (.r 3) (.r 5)), []⟩])
  (.cond (.r 6)
  (.skip)
  (.exit 0)))
  (.seq (.block 1 (.ops [
    ⟨(some 9), none, .op (.move (.r 0)), []⟩,
    ⟨(some 10), none, .op (.move (.r 2)), []⟩,
    ⟨(some 11), none, .op (.move (.r 0)), []⟩,
    ⟨(some 12), none, .op (.move (.r 2)), []⟩,
    ⟨(some 13), none, .op (.idxAddr 1 (.r 11) (.r 12)), []⟩,
    ⟨(some 14), none, .op (.load none (.r 13)), []⟩,
    ⟨(some 15), none, .op (.bin .xor .other (.r 14) (.k (.sc (.int .u8 255)))), []⟩,
    ⟨(some 16), none, .op (.idxAddr 1 (.r 9) (.r 10)), []⟩,
    ⟨none, none, .op (.store 1 (.r 16) (.r 15)), []⟩]))
  (.ops [
    ⟨(some 7), none, .op (.move (.r 2)), []⟩,
    ⟨(some 8), none, .op (.bin .add .other (.r 7) (.k (i64 1))), []⟩,
    ⟨(some 2), none, .op (.move (.r 8)), []⟩])))))
theorem e20 : Try.f20.body.map (normCode Try.prog true Try.f20.ntmps) = some n20 := by kernel_rfl
theorem r20 : resOf Try.f20 = some [] := by kernel_rfl

def n21 : NCode :=
  .seq (.ops [
    ⟨(some 4), none, .op (.move (.k (bo false))), []⟩])
  (.seq (.seq (.ops [
    ⟨(some 7), none, .op (.move (.r 0)), []⟩,
    ⟨(some 8), none, .op (.lenL (.r 7)), []⟩,
    ⟨(some 9), none, .op (.move (.r 1)), []⟩,
    ⟨(some 10), none, .op (.lenL (.r 9)), []⟩,
    ⟨(some 11), none, .op (.bin .neq .other (.r 8) (.r 10)), []⟩,
    ⟨(some 12), none, .op (.move (.r 11)), []⟩,
    ⟨(some 13), (some (12, false)), .op (.move (.r 0)), []⟩,
    ⟨(some 14), (some (12, false)), .op (.cap (.r 13)), []⟩,
    ⟨(some 15), (some (12, false)), .op (.move (.r 1)), []⟩,
    ⟨(some 16), (some (12, false)), .op (.lenL (.r 15)), []⟩,
    ⟨(some 17), (some (12, false)), .op (.bin .add .other (.r 16) (.k (i64 12))), []⟩,
    ⟨(some 18), (some (12, false)), .op (.bin .lss .other (.r 14) (.r 17)), []⟩,
    ⟨(some 19), none, .op (.pick (.r 12) (.k (bo true)) (.r 18)), []⟩])
  (.cond (.r 19)
  (.seq (.ops [
    ⟨(some 4), none, .op (.move (.k (bo false))), []⟩])
  (.ret))
  (.skip)))
  (.seq (.ops [
    ⟨(some 20), none, .op (.move (.r 0)), []⟩,
    ⟨(some 21), none, .op (.move (.r 1)), []⟩,
    ⟨(some 22), none, .op (.lenL (.r 21)), []⟩,
    ⟨(some 23), none, .op (.bin .add .other (.r 22) (.k (i64 12))), []⟩,
    ⟨(some 24), none, .op (.sliceL 1 (.r 20) none (some (.r 23)) none), []⟩,
    ⟨(some 5), none, .op (.move (.r 24)), []⟩])
  (.seq (.seq (.ops [
    ⟨(some 6), none, .op (.move (.k (i64 0))), []⟩])
  (.block 0 (.loop (.seq (.seq (.ops [
    ⟨(some 25), none, .op (.move (.r 6)), []⟩,
    ⟨(some 26), none, .op (.bin .lss .other (.r 25) (.k (i64 12))), []⟩])
  (.cond (.r 26)
  (.skip)
  (.exit 0)))
  (.seq (.block 1 (.seq (.ops [
    ⟨(some 29), none, .op (.move (.r 5)), []⟩,
    ⟨(some 30), none, .op (.move (.r 1)), []⟩,
    ⟨(some 31), none, .op (.lenL (.r 30)), []⟩,
    ⟨(some 32), none, .op (.move (.r 6)), []⟩,
    ⟨(some 33), none, .op (.bin .add .other (.r 31) (.r 32)), []⟩,
    ⟨(some 34), none, .op (.idxAddr 1 (.r 29) (.r 33)), []⟩,
    ⟨(some 35), none, .op (.load none (.r 34)), []⟩,
    ⟨(some 36), none, .op (.move (.r 6)), []⟩,
    ⟨(some 37), none, .op (.bin .add .other (.r 36) (.k (i64 1))), []⟩,
    ⟨(some 38), none, .op (.conv .u8 (.r 37)), []⟩,
    ⟨(some 39), none, .op (.bin .neq .other (.r 35) (.r 38)), []⟩])
  (.cond (.r 39)
  (.seq (.ops [
    ⟨(some 4), none, .op (.move (.k (bo false))), []⟩])
  (.ret))
  (.skip))))
  (.ops [
    ⟨(some 27), none, .op (.move (.r 6)), []⟩,
    ⟨(some 28), none, .op (.bin .add .other (.r 27) (.k (i64 1))), []⟩,
    ⟨(some 6), none, .op (.move (.r 28)), []⟩]))))))
  (.seq (.ops [
    ⟨(some 40), none, .op (.move (.r 0)), []⟩,
    ⟨(some 41), none, .op (.b2s (.r 40)), []⟩,
    ⟨(some 42), none, .op (.move (.r 1)), []⟩,
    ⟨(some 43), none, .op (.b2s (.r 42)), []⟩,
    ⟨(some 44), none, .op (.bin .eql .other (.r 41) (.r 43)), []⟩,
    ⟨(some 4), none, .op (.move (.r 44)), []⟩])
  (.ret)))))
theorem e21 : Try.f21.body.map (normCode Try.prog true Try.f21.ntmps) = some n21 := by kernel_rfl
theorem r21 : resOf Try.f21 = some [4] := by kernel_rfl

def n22 : NCode :=
  .seq (.ops [
    ⟨(some 2), none, .op (.move (.k (i64 0))), []⟩])
  (.seq (.seq (.ops [
    ⟨(some 3), none, .op (.move (.r 0)), []⟩,
    ⟨(some 4), none, .op (.bin .eql .pointer (.r 3) (.k (.sc (.pointer none)))), []⟩])
  (.cond (.r 4)
  (.seq (.ops [
    ⟨(some 2), none, .op (.move (.k (i64 0))), []⟩])
  (.ret))
  (.skip)))
  (.seq (.ops [
    ⟨(some 5), none, .op (.move (.r 0)), []⟩,
    ⟨(some 6), none, .op (.nilCheck (.r 5)), []⟩,
    ⟨(some 7), none, .op (.fieldAddr 0 (.r 6)), []⟩,
    ⟨(some 8), none, .op (.load none (.r 7)), []⟩,
    ⟨(some 9), none, .op (.lenL (.r 8)), []⟩,
    ⟨(some 2), none, .op (.move (.r 9)), []⟩])
  (.ret)))
theorem e22 : Try.f22.body.map (normCode Try.prog true Try.f22.ntmps) = some n22 := by kernel_rfl
theorem r22 : resOf Try.f22 = some [2] := by kernel_rfl

def n23 : NCode :=
  .seq (.ops [
    ⟨(some 4), none, .op (.move (.r 0)), []⟩,
    ⟨(some 5), none, .call (.k (.clos 12 [])) [(.r 4)], []⟩,
    ⟨(some 6), none, .op (.bin .eql .other (.r 5) (.k (i64 0))), []⟩])
  (.cond (.r 6)
  (.ops [
    ⟨(some 7), none, .op (.move (.r 0)), []⟩,
    ⟨(some 8), none, .op (.move (.r 1)), []⟩,
    ⟨(some 9), none, .op (.nilCheck (.r 7)), []⟩,
    ⟨(some 10), none, .op (.fieldAddr 1 (.r 9)), []⟩,
    ⟨none, none, .op (.store 1 (.r 10) (.r 8)), []⟩])
  (.skip))
theorem e23 : Try.f23.body.map (normCode Try.prog true Try.f23.ntmps) = some n23 := by kernel_rfl
theorem r23 : resOf Try.f23 = some [] := by kernel_rfl

def n24 : NCode :=
  .seq (.ops [
    ⟨(some 4), none, .op (.move (.k (i64 0))), []⟩])
  (.seq (.ops [
    ⟨(some 9), none, .op (.move (.r 0)), []⟩,
    ⟨(some 10), none, .op (.move (.r 1)), []⟩,
    ⟨(some 11), none, .call (.k (.clos 29 [])) [(.r 9), (.r 10)], []⟩,
    ⟨(some 8), none, .op (.move (.r 11)), []⟩,
    ⟨(some 12), none, .op (.extract 0 (.r 8)), []⟩,
    ⟨(some 13), none, .op (.extract 1 (.r 8)), []⟩,
    ⟨(some 14), none, .op (.extract 2 (.r 8)), []⟩,
    ⟨(some 5), none, .op (.move (.r 12)), []⟩,
    ⟨(some 6), none, .op (.move (.r 13)), []⟩,
    ⟨(some 7), none, .op (.move (.r 14)), []⟩])
  (.seq (.seq (.ops [
    ⟨(some 15), none, .op (.move (.r 7)), []⟩,
    ⟨(some 16), none, .op (.un .not (.r 15)), []⟩])
  (.cond (.r 16)
  (.seq (.ops [
    ⟨(some 4), none, .op (.move (.k (i64 0))), []⟩])
  (.ret))
  (.skip)))
  (.seq (.ops [
    ⟨(some 17), none, .op (.move (.r 0)), []⟩,
    ⟨(some 18), none, .op (.move (.r 6)), []⟩,
    ⟨(some 19), none, .call (.k (.clos 28 [])) [(.r 17), (.r 18)], []⟩])
  (.seq (.ops [
    ⟨(some 20), none, .op (.move (.r 5)), []⟩,
    ⟨(some 4), none, .op (.move (.r 20)), []⟩])
  (.ret)))))
theorem e24 : Try.f24.body.map (normCode Try.prog true Try.f24.ntmps) = some n24 := by kernel_rfl
theorem r24 : resOf Try.f24 = some [4] := by kernel_rfl

def n25 : NCode :=
  .seq (.ops [
    ⟨(some 4), none, .op (.move (.k (.lst [] .nil))), []⟩])
  (.seq (.ops [
    ⟨(some 6), none, .op (.move (.r 1)), []⟩,
    ⟨(some 7), none, .op (.bin .shl .other (.r 6) (.k (.sc (.int .u64 1)))), []⟩,
    ⟨(some 8), none, .op (.conv .u64 (.r 7)), []⟩,
    ⟨(some 9), none, .op (.move (.r 1)), []⟩,
    ⟨(some 10), none, .op (.bin .shr .other (.r 9) (.k (.sc (.int .u64 63)))), []⟩,
    ⟨(some 11), none, .op (.conv .u64 (.r 10)), []⟩,
    ⟨(some 12), none, .op (.bin .xor .other (.r 8) (.r 11)), []⟩,
    ⟨(some 5), none, .op (.move (.r 12)), []⟩])
  (.seq (.block 0 (.loop (.seq (.seq (.ops [
    ⟨(some 13), none, .op (.move (.r 5)), []⟩,
    ⟨(some 14), none, .op (.bin .geq .other (.r 13) (.k (.sc (.int .u64 128)))), []⟩])
  (.cond (.r 14)
  (.skip)
  (.exit 0)))
  (.seq (.block 1 (.ops [
    ⟨(some 17), none, .op (.move (.r 0)), []⟩,
    ⟨(some 18), none, .op (.move (.r 5)), []⟩,
    ⟨(some 19), none, .op (.conv .u8 (.r 18)), []⟩,
    ⟨(some 20), none, .op (.bin .or .other (.r 19) (.k (.sc (.int .u8 128)))), []⟩,
    ⟨(some 21), none, .op (.buildSlice none [(.sc (.int .u8 0))] 1 [(0, (.r 20))]), []⟩,
    ⟨(some 22), none, .op (.append true none 1 [(.sc (.int .u8 0))] (.r 17) (.r 21)), []⟩,
    ⟨(some 0), none, .op (.move (.r 22)), []⟩]))
  (.ops [
    ⟨(some 15), none, .op (.move (.r 5)), []⟩,
    ⟨(some 16), none, .op (.bin .shr .other (.r 15) (.k (.sc (.int .u64 7)))), []⟩,
    ⟨(some 5), none, .op (.move (.r 16)), []⟩])))))
  (.seq (.ops [
    ⟨(some 23), none, .op (.move (.r 0)), []⟩,
    ⟨(some 24), none, .op (.move (.r 5)), []⟩,
    ⟨(some 25), none, .op (.conv .u8 (.r 24)), []⟩,
    ⟨(some 26), none, .op (.buildSlice none [(.sc (.int .u8 0))] 1 [(0, (.r 25))]), []⟩,
    ⟨(some 27), none, .op (.append true none 1 [(.sc (.int .u8 0))] (.r 23) (.r 26)), []⟩,
    ⟨(some 4), none, .op (.move (.r 27)), []⟩])
  (.ret))))
theorem e25 : Try.f25.body.map (normCode Try.prog true Try.f25.ntmps) = some n25 := by kernel_rfl
theorem r25 : resOf Try.f25 = some [4] := by kernel_rfl

def n26 : NCode :=
  .seq (.ops [
    ⟨(some 2), none, .op (.move (.k (.lst [] .nil))), []⟩])
  (.seq (.seq (.ops [
    ⟨(some 3), none, .op (.move (.r 0)), []⟩,
    ⟨(some 4), none, .op (.bin .eql .slice (.r 3) (.k (.lst [] .nil))), []⟩])
  (.cond (.r 4)
  (.seq (.ops [
    ⟨(some 2), none, .op (.move (.k (.lst [] .nil))), []⟩])
  (.ret))
  (.skip)))
  (.seq (.ops [
    ⟨(some 5), none, .op (.buildSlice none [(.sc (.int .u8 0))] 0 []), []⟩,
    ⟨(some 6), none, .op (.move (.r 0)), []⟩,
    ⟨(some 7), none, .op (.append true none 1 [(.sc (.int .u8 0))] (.r 5) (.r 6)), []⟩,
    ⟨(some 2), none, .op (.move (.r 7)), []⟩])
  (.ret)))
theorem e26 : Try.f26.body.map (normCode Try.prog true Try.f26.ntmps) = some n26 := by kernel_rfl
theorem r26 : resOf Try.f26 = some [2] := by kernel_rfl

def n27 : NCode :=
  .seq (.ops [
    ⟨(some 2), none, .op (.move (.k (i64 0))), []⟩,
    ⟨(some 3), none, .op (.move (.k (i64 0))), []⟩])
  (.seq (.ops [
    ⟨(some 4), none, .op (.move (.k (.sc (.int .u64 0)))), []⟩])
  (.seq (.seq (.ops [
    ⟨(some 7), none, .op (.move (.r 0)), []⟩,
    ⟨(some 8), none, .op (.nilCheck (.r 7)), []⟩,
    ⟨(some 9), none, .op (.fieldAddr 0 (.r 8)), []⟩,
    ⟨(some 10), none, .op (.load none (.r 9)), []⟩,
    ⟨(some 11), none, .op (.lenL (.r 10)), []⟩,
    ⟨(some 12), none, .op (.move (.k (i64 0))), []⟩])
  (.block 0 (.loop (.seq (.ops [
    ⟨(some 13), none, .op (.bin .lss .other (.r 12) (.r 11)), []⟩])
  (.seq (.cond (.r 13)
  (.skip)
  (.exit 0))
  (.seq (.block 1 (.seq (.ops [
    ⟨(some 14), none, .op (.move (.r 12)), []⟩,
    ⟨(some 15), none, .op (.idxAddr 1 (.r 10) (.r 12)), []⟩,
    ⟨(some 16), none, .op (.load none (.r 15)), []⟩,
    ⟨(some 5), none, .op (.move (.r 14)), []⟩,
    ⟨(some 6), none, .op (.move (.r 16)), []⟩])
  (.seq (.seq (.ops [
    ⟨(some 17), none, .op (.move (.r 5)), []⟩,
    ⟨(some 18), none, .op (.bin .gtr .other (.r 17) (.k (i64 9))), []⟩,
    ⟨(some 19), none, .op (.move (.r 18)), []⟩,
    ⟨(some 20), (some (19, false)), .op (.move (.r 5)), []⟩,
    ⟨(some 21), (some (19, false)), .op (.bin .eql .other (.r 20) (.k (i64 9))), []⟩,
    ⟨(some 22), (some (19, false)), .op (.move (.r 21)), []⟩,
    ⟨(some 23), (some (22, true)), .op (.move (.r 6)), []⟩,
    ⟨(some 24), (some (22, true)), .op (.bin .gtr .other (.r 23) (.k (.sc (.int .u8 1)))), []⟩,
    ⟨(some 25), (some (19, false)), .op (.pick (.r 22) (.r 24) (.k (bo false))), []⟩,
    ⟨(some 26), none, .op (.pick (.r 19) (.k (bo true)) (.r 25)), []⟩,
    ⟨(some 27), none, .op (.move (.r 26)), []⟩,
    ⟨(some 28), (some (27, false)), .op (.move (.r 5)), []⟩,
    ⟨(some 29), (some (27, false)), .op (.bin .gtr .other (.r 28) (.k (i64 0))), []⟩,
    ⟨(some 30), (some (27, false)), .op (.move (.r 29)), []⟩,
    ⟨(some 31), (some (30, true)), .op (.move (.r 6)), []⟩,
    ⟨(some 32), (some (30, true)), .op (.bin .eql .other (.r 31) (.k (.sc (.int .u8 0)))), []⟩,
    ⟨(some 33), (some (27, false)), .op (.pick (.r 30) (.r 32) (.k (bo false))), []⟩,
    ⟨(some 34), none, .op (.pick (.r 27) (.k (bo true)) (.r 33)), []⟩])
  (.cond (.r 34)
  (.seq (.ops [
    ⟨(some 35), none, .op (.move (.r 0)), []⟩,
    ⟨(some 36), none, .call (.k (.clos 23 [])) [(.r 35), (.k (i64 6))], []⟩])
  (.seq (.ops [
    ⟨(some 2), none, .op (.move (.k (i64 0))), []⟩,
    ⟨(some 3), none, .op (.move (.k (i64 0))), []⟩])
  (.ret)))
  (.skip)))
  (.seq (.ops [
    ⟨(some 37), none, .op (.move (.r 4)), []⟩,
    ⟨(some 38), none, .op (.move (.r 6)), []⟩,
    ⟨(some 39), none, .op (.bin .andNot .other (.r 38) (.k (.sc (.int .u8 128)))), []⟩,
    ⟨(some 40), none, .op (.conv .u64 (.r 39)), []⟩,
    ⟨(some 41), none, .op (.move (.r 5)), []⟩,
    ⟨(some 42), none, .op (.bin .mul .other (.r 41) (.k (i64 7))), []⟩,
    ⟨(some 43), none, .op (.bin .shl .other (.r 40) (.r 42)), []⟩,
    ⟨(some 44), none, .op (.bin .or .other (.r 37) (.r 43)), []⟩,
    ⟨(some 4), none, .op (.move (.r 44)), []⟩])
  (.seq (.ops [
    ⟨(some 45), none, .op (.move (.r 6)), []⟩,
    ⟨(some 46), none, .op (.bin .lss .other (.r 45) (.k (.sc (.int .u8 128)))), []⟩])
  (.cond (.r 46)
  (.seq (.ops [
    ⟨(some 47), none, .op (.move (.r 4)), []⟩,
    ⟨(some 48), none, .op (.bin .shr .other (.r 47) (.k (.sc (.int .u64 1)))), []⟩,
    ⟨(some 49), none, .op (.conv .i64 (.r 48)), []⟩,
    ⟨(some 50), none, .op (.move (.r 4)), []⟩,
    ⟨(some 51), none, .op (.bin .and .other (.r 50) (.k (.sc (.int .u64 1)))), []⟩,
    ⟨(some 52), none, .op (.conv .i64 (.r 51)), []⟩,
    ⟨(some 53), none, .op (.un .neg (.r 52)), []⟩,
    ⟨(some 54), none, .op (.bin .xor .other (.r 49) (.r 53)), []⟩,
    ⟨(some 55), none, .op (.move (.r 5)), []⟩,
    ⟨(some 56), none, .op (.bin .add .other (.r 55) (.k (i64 1))), []⟩,
    ⟨(some 2), none, .op (.move (.r 54)), []⟩,
    ⟨(some 3), none, .op (.move (.r 56)), []⟩])
  (.ret))
  (.skip)))))))
  (.ops [
    ⟨(some 57), none, .op (.bin .add .other (.r 12) (.k (i64 1))), []⟩,
    ⟨(some 12), none, .op (.move (.r 57)), []⟩])))))))
  (.seq (.ops [
    ⟨(some 58), none, .op (.move (.r 0)), []⟩,
    ⟨(some 59), none, .call (.k (.clos 23 [])) [(.r 58), (.k (i64 7))], []⟩])
  (.seq (.ops [
    ⟨(some 2), none, .op (.move (.k (i64 0))), []⟩,
    ⟨(some 3), none, .op (.move (.k (i64 0))), []⟩])
  (.ret)))))
theorem e27 : Try.f27.body.map (normCode Try.prog true Try.f27.ntmps) = some n27 := by kernel_rfl
theorem r27 : resOf Try.f27 = some [2, 3] := by kernel_rfl

def n28 : NCode :=
  .ops [
    ⟨(some 4), none, .op (.move (.r 0)), []⟩,
    ⟨(some 5), none, .op (.move (.r 0)), []⟩,
    ⟨(some 6), none, .op (.nilCheck (.r 5)), []⟩,
    ⟨(some 7), none, .op (.fieldAddr 0 (.r 6)), []⟩,
    ⟨(some 8), none, .op (.load none (.r 7)), []⟩,
    ⟨(some 9), none, .op (.move (.r 1)), []⟩,
    ⟨(some 10), none, .op (.move (.r 0)), []⟩,
    ⟨(some 11), none, .op (.nilCheck (.r 10)), []⟩,
    ⟨(some 12), none, .op (.fieldAddr 0 (.r 11)), []⟩,
    ⟨(some 13), none, .op (.load none (.r 12)), []⟩,
    ⟨(some 14), none, .op (.lenL (.r 13)), []⟩,
    ⟨(some 15), none, .op (.move (.r 0)), []⟩,
    ⟨(some 16), none, .op (.nilCheck (.r 15)), []⟩,
    ⟨(some 17), none, .op (.fieldAddr 0 (.r 16)), []⟩,
    ⟨(some 18), none, .op (.load none (.r 17)), []⟩,
    ⟨(some 19), none, .op (.lenL (.r 18)), []⟩,
    ⟨(some 20), none, .op (.sliceL 1 (.r 8) (some (.r 9)) (some (.r 14)) (some (.r 19))), []⟩,
    ⟨(some 21), none, .op (.nilCheck (.r 4)), []⟩,
    ⟨(some 22), none, .op (.fieldAddr 0 (.r 21)), []⟩,
    ⟨none, none, .op (.store 1 (.r 22) (.r 20)), []⟩]
theorem e28 : Try.f28.body.map (normCode Try.prog true Try.f28.ntmps) = some n28 := by kernel_rfl
theorem r28 : resOf Try.f28 = some [] := by kernel_rfl

def n29 : NCode :=
  .seq (.ops [
    ⟨(some 4), none, .op (.move (.k (i64 0))), []⟩,
    ⟨(some 5), none, .op (.move (.k (i64 0))), []⟩,
    ⟨(some 6), none, .op (.move (.k (bo false))), []⟩])
  (.seq (.seq (.ops [
    ⟨(some 9), none, .op (.move (.r 0)), []⟩,
    ⟨(some 10), none, .call (.k (.clos 12 [])) [(.r 9)], []⟩,
    ⟨(some 11), none, .op (.bin .neq .other (.r 10) (.k (i64 0))), []⟩])
  (.cond (.r 11)
  (.seq (.ops [
    ⟨(some 4), none, .op (.move (.k (i64 0))), []⟩,
    ⟨(some 5), none, .op (.move (.k (i64 0))), []⟩,
    ⟨(some 6), none, .op (.move (.k (bo false))), []⟩])
  (.ret))
  (.skip)))
  (.seq (.ops [
    ⟨(some 13), none, .op (.move (.r 0)), []⟩,
    ⟨(some 14), none, .call (.k (.clos 27 [])) [(.r 13)], []⟩,
    ⟨(some 12), none, .op (.move (.r 14)), []⟩,
    ⟨(some 15), none, .op (.extract 0 (.r 12)), []⟩,
    ⟨(some 16), none, .op (.extract 1 (.r 12)), []⟩,
    ⟨(some 7), none, .op (.move (.r 15)), []⟩,
    ⟨(some 8), none, .op (.move (.r 16)), []⟩])
  (.seq (.seq (.ops [
    ⟨(some 17), none, .op (.move (.r 0)), []⟩,
    ⟨(some 18), none, .op (.nilCheck (.r 17)), []⟩,
    ⟨(some 19), none, .op (.fieldAddr 1 (.r 18)), []⟩,
    ⟨(some 20), none, .op (.load none (.r 19)), []⟩,
    ⟨(some 21), none, .op (.bin .eql .other (.r 20) (.k (i64 0))), []⟩,
    ⟨(some 22), none, .op (.move (.r 21)), []⟩,
    ⟨(some 23), (some (22, true)), .op (.move (.r 7)), []⟩,
    ⟨(some 24), (some (22, true)), .op (.bin .lss .other (.r 23) (.k (i64 0))), []⟩,
    ⟨(some 25), (some (22, true)), .op (.move (.r 24)), []⟩,
    ⟨(some 26), (some (25, false)), .op (.move (.r 7)), []⟩,
    ⟨(some 27), (some (25, false)), .op (.move (.r 1)), []⟩,
    ⟨(some 28), (some (25, false)), .op (.bin .gtr .other (.r 26) (.r 27)), []⟩,
    ⟨(some 29), (some (22, true)), .op (.pick (.r 25) (.k (bo true)) (.r 28)), []⟩,
    ⟨(some 30), none, .op (.pick (.r 22) (.r 29) (.k (bo false))), []⟩])
  (.cond (.r 30)
  (.ops [
    ⟨(some 31), none, .op (.move (.r 0)), []⟩,
    ⟨(some 32), none, .call (.k (.clos 23 [])) [(.r 31), (.k (i64 5))], []⟩])
  (.skip)))
  (.seq (.ops [
    ⟨(some 33), none, .op (.move (.r 7)), []⟩,
    ⟨(some 34), none, .op (.move (.r 8)), []⟩,
    ⟨(some 35), none, .op (.move (.r 0)), []⟩,
    ⟨(some 36), none, .op (.nilCheck (.r 35)), []⟩,
    ⟨(some 37), none, .op (.fieldAddr 1 (.r 36)), []⟩,
    ⟨(some 38), none, .op (.load none (.r 37)), []⟩,
    ⟨(some 39), none, .op (.bin .eql .other (.r 38) (.k (i64 0))), []⟩,
    ⟨(some 4), none, .op (.move (.r 33)), []⟩,
    ⟨(some 5), none, .op (.move (.r 34)), []⟩,
    ⟨(some 6), none, .op (.move (.r 39)), []⟩])
  (.ret)))))
theorem e29 : Try.f29.body.map (normCode Try.prog true Try.f29.ntmps) = some n29 := by kernel_rfl
theorem r29 : resOf Try.f29 = some [4, 5, 6] := by kernel_rfl

def n26f : NCode :=
  .seq (.ops [
    ⟨(some 2), none, .op (.move (.k (.lst [] .nil))), []⟩])
  (.seq (.seq (.ops [
    ⟨(some 3), none, .op (.move (.r 0)), []⟩,
    ⟨(some 4), none, .op (.bin .eql .slice (.r 3) (.k (.lst [] .nil))), []⟩])
  (.cond (.r 4)
  (.seq (.ops [
    ⟨(some 2), none, .op (.move (.k (.lst [] .nil))), []⟩])
  (.ret))
  (.skip)))
  (.seq (.ops [
    ⟨(some 5), none, .op (.buildSlice none [(.sc (.int .u8 0))] 0 []), []⟩,
    ⟨(some 6), none, .op (.move (.r 0)), []⟩,
    ⟨(some 7), none, .op (.append false none 1 [(.sc (.int .u8 0))] (.r 5) (.r 6)), []⟩,
    ⟨(some 2), none, .op (.move (.r 7)), []⟩])
  (.ret)))
theorem e26f : Try.f26.body.map (normCode Try.prog false Try.f26.ntmps) = some n26f := by kernel_rfl
theorem r26f : resOf Try.f26 = some [2] := by kernel_rfl

end Go.Proofs.Ytpmbebdcbejlkab.Moi
