/- The small form of each function, as the machine reckons it. -/
import Derived.Test.YtjegieklpeipaaaMoiY
import Derived.Test.YtjegieklpeipaaaChecked
set_option linter.unusedVariables false
set_option maxRecDepth 100000
namespace Go.Proofs.Ytjegieklpeipaaa.Moi
open Go Go.RowKit
theorem mixed : Try.prog.follows .mixedOrders = true := Try.checked.mixed
abbrev iv (n : Int) : AV := .sc (.int .i64 n)
abbrev bl (l : List Int) : List AV := kl .u8 l
theorem bl_app {a b : List Int} : bl (a ++ b) = bl a ++ bl b := List.map_append
theorem bl_len {a : List Int} : (bl a).length = a.length := List.length_map ..
theorem bl_take {a : List Int} {n : Nat} : bl (a.take n) = (bl a).take n := List.map_take
theorem bl_drop {a : List Int} {n : Nat} : bl (a.drop n) = (bl a).drop n := List.map_drop

def n3 : NCode :=
  .seq (.ops [
    ⟨(some 4), none, .op (.move (.k (bo false))), []⟩])
  (.seq (.seq (.ops [
    ⟨(some 9), none, .op (.move (.r 1)), []⟩,
    ⟨(some 10), none, .op (.lenL (.r 9)), []⟩,
    ⟨(some 11), none, .op (.bin .gtr .other (.r 10) (.k (i64 1100))), []⟩])
  (.cond (.r 11)
  (.seq (.ops [
    ⟨(some 12), none, .call (.k (.clos 9 [])) [], []⟩,
    ⟨(some 4), none, .op (.move (.r 12)), []⟩])
  (.ret))
  (.skip)))
  (.seq (.ops [
    ⟨(some 14), none, .op (.move (.r 0)), []⟩,
    ⟨(some 15), none, .op (.move (.r 1)), []⟩,
    ⟨(some 16), none, .call (.k (.clos 10 [])) [(.r 14), (.r 15)], []⟩,
    ⟨(some 13), none, .op (.move (.r 16)), []⟩,
    ⟨(some 17), none, .op (.extract 0 (.r 13)), []⟩,
    ⟨(some 18), none, .op (.extract 1 (.r 13)), []⟩,
    ⟨(some 5), none, .op (.move (.r 17)), []⟩,
    ⟨(some 6), none, .op (.move (.r 18)), []⟩])
  (.seq (.ops [
    ⟨(some 20), none, .op (.move (.r 0)), []⟩,
    ⟨(some 21), none, .op (.move (.r 1)), []⟩,
    ⟨(some 22), none, .call (.k (.clos 11 [])) [(.r 20), (.r 21)], []⟩,
    ⟨(some 19), none, .op (.move (.r 22)), []⟩,
    ⟨(some 23), none, .op (.extract 0 (.r 19)), []⟩,
    ⟨(some 24), none, .op (.extract 1 (.r 19)), []⟩,
    ⟨(some 7), none, .op (.move (.r 23)), []⟩,
    ⟨(some 8), none, .op (.move (.r 24)), []⟩])
  (.seq (.ops [
    ⟨(some 25), none, .op (.move (.r 5)), []⟩,
    ⟨(some 26), none, .op (.move (.r 7)), []⟩,
    ⟨(some 27), none, .call (.k (.clos 12 [])) [(.r 25), (.r 26)], []⟩,
    ⟨(some 28), none, .op (.move (.r 27)), []⟩,
    ⟨(some 29), (some (28, true)), .op (.move (.r 6)), []⟩,
    ⟨(some 30), (some (28, true)), .op (.move (.r 8)), []⟩,
    ⟨(some 31), (some (28, true)), .op (.bin .eql .other (.r 29) (.r 30)), []⟩,
    ⟨(some 32), none, .op (.pick (.r 28) (.r 31) (.k (bo false))), []⟩,
    ⟨(some 33), none, .op (.move (.r 32)), []⟩,
    ⟨(some 34), (some (33, true)), .call (.k (.clos 9 [])) [], []⟩,
    ⟨(some 35), none, .op (.pick (.r 33) (.r 34) (.k (bo false))), []⟩,
    ⟨(some 4), none, .op (.move (.r 35)), []⟩])
  (.ret)))))
theorem e3 : Try.f3.body.map (normCode Try.prog true Try.f3.ntmps) = some n3 := by kernel_rfl
theorem r3 : resOf Try.f3 = some [4] := by kernel_rfl

def n4 : NCode :=
  .seq (.ops [
    ⟨(some 4), none, .op (.move (.k (bo false))), []⟩])
  (.seq (.seq (.ops [
    ⟨(some 9), none, .op (.move (.r 1)), []⟩,
    ⟨(some 10), none, .op (.lenL (.r 9)), []⟩,
    ⟨(some 11), none, .op (.bin .gtr .other (.r 10) (.k (i64 1100))), []⟩])
  (.cond (.r 11)
  (.seq (.ops [
    ⟨(some 12), none, .call (.k (.clos 9 [])) [], []⟩,
    ⟨(some 4), none, .op (.move (.r 12)), []⟩])
  (.ret))
  (.skip)))
  (.seq (.ops [
    ⟨(some 14), none, .op (.move (.r 0)), []⟩,
    ⟨(some 15), none, .op (.move (.r 1)), []⟩,
    ⟨(some 16), none, .call (.k (.clos 10 [])) [(.r 14), (.r 15)], []⟩,
    ⟨(some 13), none, .op (.move (.r 16)), []⟩,
    ⟨(some 17), none, .op (.extract 0 (.r 13)), []⟩,
    ⟨(some 18), none, .op (.extract 1 (.r 13)), []⟩,
    ⟨(some 5), none, .op (.move (.r 17)), []⟩,
    ⟨(some 6), none, .op (.move (.r 18)), []⟩])
  (.seq (.seq (.ops [
    ⟨(some 19), none, .op (.move (.r 6)), []⟩,
    ⟨(some 20), none, .op (.bin .neq .other (.r 19) (.k (i64 0))), []⟩])
  (.cond (.r 20)
  (.seq (.ops [
    ⟨(some 21), none, .op (.move (.r 5)), []⟩,
    ⟨(some 22), none, .op (.lenL (.r 21)), []⟩,
    ⟨(some 23), none, .op (.bin .eql .other (.r 22) (.k (i64 0))), []⟩,
    ⟨(some 24), none, .op (.move (.r 23)), []⟩,
    ⟨(some 25), (some (24, true)), .call (.k (.clos 9 [])) [], []⟩,
    ⟨(some 26), none, .op (.pick (.r 24) (.r 25) (.k (bo false))), []⟩,
    ⟨(some 4), none, .op (.move (.r 26)), []⟩])
  (.ret))
  (.skip)))
  (.seq (.seq (.ops [
    ⟨(some 27), none, .op (.move (.r 5)), []⟩,
    ⟨(some 28), none, .op (.lenL (.r 27)), []⟩,
    ⟨(some 29), none, .op (.move (.r 1)), []⟩,
    ⟨(some 30), none, .op (.lenL (.r 29)), []⟩,
    ⟨(some 31), none, .op (.bin .neq .other (.r 28) (.r 30)), []⟩])
  (.cond (.r 31)
  (.seq (.ops [
    ⟨(some 4), none, .op (.move (.k (bo false))), []⟩])
  (.ret))
  (.skip)))
  (.seq (.ops [
    ⟨(some 7), none, .op (.move (.k (.sc (.int .u64 0)))), []⟩])
  (.seq (.seq (.ops [
    ⟨(some 8), none, .op (.move (.k (i64 0))), []⟩])
  (.block 0 (.loop (.seq (.seq (.ops [
    ⟨(some 32), none, .op (.move (.r 8)), []⟩,
    ⟨(some 33), none, .op (.move (.r 5)), []⟩,
    ⟨(some 34), none, .op (.lenL (.r 33)), []⟩,
    ⟨(some 35), none, .op (.bin .lss .other (.r 32) (.r 34)), []⟩])
  (.cond (.r 35)
  (.skip)
  (.exit 0)))
  (.seq (.block 1 (.seq (.seq (.ops [
    ⟨(some 38), none, .op (.move (.r 7)), []⟩,
    ⟨(some 39), none, .op (.move (.r 5)), []⟩,
    ⟨(some 40), none, .op (.move (.r 8)), []⟩,
    ⟨(some 41), none, .op (.idxAddr 1 (.r 39) (.r 40)), []⟩,
    ⟨(some 42), none, .op (.load none (.r 41)), []⟩,
    ⟨(some 43), none, .op (.bin .add .other (.r 38) (.r 42)), []⟩,
    ⟨(some 44), none, .op (.move (.r 7)), []⟩,
    ⟨(some 45), none, .op (.bin .lss .other (.r 43) (.r 44)), []⟩,
    ⟨(some 46), none, .op (.move (.r 45)), []⟩,
    ⟨(some 47), (some (46, false)), .op (.move (.r 1)), []⟩,
    ⟨(some 48), (some (46, false)), .op (.move (.r 8)), []⟩,
    ⟨(some 49), (some (46, false)), .op (.idxAddr 1 (.r 47) (.r 48)), []⟩,
    ⟨(some 50), (some (46, false)), .op (.load none (.r 49)), []⟩,
    ⟨(some 51), (some (46, false)), .op (.bin .eql .other (.r 50) (.k (.sc (.int .u64 0)))), []⟩,
    ⟨(some 52), (some (46, false)), .op (.move (.r 51)), []⟩,
    ⟨(some 53), (some (52, true)), .op (.move (.r 5)), []⟩,
    ⟨(some 54), (some (52, true)), .op (.move (.r 8)), []⟩,
    ⟨(some 55), (some (52, true)), .op (.idxAddr 1 (.r 53) (.r 54)), []⟩,
    ⟨(some 56), (some (52, true)), .op (.load none (.r 55)), []⟩,
    ⟨(some 57), (some (52, true)), .op (.bin .neq .other (.r 56) (.k (.sc (.int .u64 0)))), []⟩,
    ⟨(some 58), (some (46, false)), .op (.pick (.r 52) (.r 57) (.k (bo false))), []⟩,
    ⟨(some 59), none, .op (.pick (.r 46) (.k (bo true)) (.r 58)), []⟩])
  (.cond (.r 59)
  (.seq (.ops [
    ⟨(some 4), none, .op (.move (.k (bo false))), []⟩])
  (.ret))
  (.skip)))
  (.ops [
    ⟨(some 60), none, .op (.move (.r 7)), []⟩,
    ⟨(some 61), none, .op (.move (.r 5)), []⟩,
    ⟨(some 62), none, .op (.move (.r 8)), []⟩,
    ⟨(some 63), none, .op (.idxAddr 1 (.r 61) (.r 62)), []⟩,
    ⟨(some 64), none, .op (.load none (.r 63)), []⟩,
    ⟨(some 65), none, .op (.bin .add .other (.r 60) (.r 64)), []⟩,
    ⟨(some 7), none, .op (.move (.r 65)), []⟩])))
  (.ops [
    ⟨(some 36), none, .op (.move (.r 8)), []⟩,
    ⟨(some 37), none, .op (.bin .add .other (.r 36) (.k (i64 1))), []⟩,
    ⟨(some 8), none, .op (.move (.r 37)), []⟩]))))))
  (.seq (.ops [
    ⟨(some 66), none, .op (.move (.r 7)), []⟩,
    ⟨(some 67), none, .op (.move (.r 0)), []⟩,
    ⟨(some 68), none, .op (.bin .eql .other (.r 66) (.r 67)), []⟩,
    ⟨(some 69), none, .op (.move (.r 68)), []⟩,
    ⟨(some 70), (some (69, true)), .call (.k (.clos 9 [])) [], []⟩,
    ⟨(some 71), none, .op (.pick (.r 69) (.r 70) (.k (bo false))), []⟩,
    ⟨(some 4), none, .op (.move (.r 71)), []⟩])
  (.ret))))))))
theorem e4 : Try.f4.body.map (normCode Try.prog true Try.f4.ntmps) = some n4 := by kernel_rfl
theorem r4 : resOf Try.f4 = some [4] := by kernel_rfl

def n5 : NCode :=
  .seq (.ops [
    ⟨(some 4), none, .op (.move (.k (bo false))), []⟩])
  (.seq (.seq (.ops [
    ⟨(some 16), none, .op (.move (.r 1)), []⟩,
    ⟨(some 17), none, .op (.lenL (.r 16)), []⟩,
    ⟨(some 18), none, .op (.bin .gtr .other (.r 17) (.k (i64 1100))), []⟩])
  (.cond (.r 18)
  (.seq (.ops [
    ⟨(some 19), none, .call (.k (.clos 9 [])) [], []⟩,
    ⟨(some 4), none, .op (.move (.r 19)), []⟩])
  (.ret))
  (.skip)))
  (.seq (.ops [
    ⟨(some 21), none, .op (.move (.r 0)), []⟩,
    ⟨(some 22), none, .op (.move (.r 1)), []⟩,
    ⟨(some 23), none, .call (.k (.clos 10 [])) [(.r 21), (.r 22)], []⟩,
    ⟨(some 20), none, .op (.move (.r 23)), []⟩,
    ⟨(some 24), none, .op (.extract 0 (.r 20)), []⟩,
    ⟨(some 25), none, .op (.extract 1 (.r 20)), []⟩,
    ⟨(some 5), none, .op (.move (.r 24)), []⟩,
    ⟨(some 6), none, .op (.move (.r 25)), []⟩])
  (.seq (.seq (.ops [
    ⟨(some 26), none, .op (.move (.r 6)), []⟩,
    ⟨(some 27), none, .op (.bin .neq .other (.r 26) (.k (i64 0))), []⟩])
  (.cond (.r 27)
  (.seq (.ops [
    ⟨(some 28), none, .call (.k (.clos 9 [])) [], []⟩,
    ⟨(some 4), none, .op (.move (.r 28)), []⟩])
  (.ret))
  (.skip)))
  (.seq (.seq (.ops [
    ⟨(some 29), none, .op (.move (.r 5)), []⟩,
    ⟨(some 30), none, .op (.lenL (.r 29)), []⟩,
    ⟨(some 31), none, .op (.move (.r 1)), []⟩,
    ⟨(some 32), none, .op (.lenL (.r 31)), []⟩,
    ⟨(some 33), none, .op (.bin .neq .other (.r 30) (.r 32)), []⟩])
  (.cond (.r 33)
  (.seq (.ops [
    ⟨(some 4), none, .op (.move (.k (bo false))), []⟩])
  (.ret))
  (.skip)))
  (.seq (.ops [
    ⟨(some 7), none, .op (.move (.k (.sc (.int .u64 0)))), []⟩])
  (.seq (.seq (.ops [
    ⟨(some 8), none, .op (.move (.k (i64 0))), []⟩])
  (.block 0 (.loop (.seq (.seq (.ops [
    ⟨(some 34), none, .op (.move (.r 8)), []⟩,
    ⟨(some 35), none, .op (.move (.r 1)), []⟩,
    ⟨(some 36), none, .op (.lenL (.r 35)), []⟩,
    ⟨(some 37), none, .op (.bin .lss .other (.r 34) (.r 36)), []⟩])
  (.cond (.r 37)
  (.skip)
  (.exit 0)))
  (.seq (.block 1 (.ops [
    ⟨(some 40), none, .op (.move (.r 7)), []⟩,
    ⟨(some 41), none, .op (.move (.r 1)), []⟩,
    ⟨(some 42), none, .op (.move (.r 8)), []⟩,
    ⟨(some 43), none, .op (.idxAddr 1 (.r 41) (.r 42)), []⟩,
    ⟨(some 44), none, .op (.load none (.r 43)), []⟩,
    ⟨(some 45), none, .op (.bin .add .other (.r 40) (.r 44)), []⟩,
    ⟨(some 7), none, .op (.move (.r 45)), []⟩]))
  (.ops [
    ⟨(some 38), none, .op (.move (.r 8)), []⟩,
    ⟨(some 39), none, .op (.bin .add .other (.r 38) (.k (i64 1))), []⟩,
    ⟨(some 8), none, .op (.move (.r 39)), []⟩]))))))
  (.seq (.seq (.ops [
    ⟨(some 9), none, .op (.move (.k (i64 0))), []⟩])
  (.block 2 (.loop (.seq (.seq (.ops [
    ⟨(some 46), none, .op (.move (.r 9)), []⟩,
    ⟨(some 47), none, .op (.move (.r 5)), []⟩,
    ⟨(some 48), none, .op (.lenL (.r 47)), []⟩,
    ⟨(some 49), none, .op (.bin .lss .other (.r 46) (.r 48)), []⟩])
  (.cond (.r 49)
  (.skip)
  (.exit 2)))
  (.seq (.block 3 (.seq (.ops [
    ⟨(some 53), none, .op (.move (.r 5)), []⟩,
    ⟨(some 54), none, .op (.move (.r 9)), []⟩,
    ⟨(some 55), none, .op (.idxAddr 1 (.r 53) (.r 54)), []⟩,
    ⟨(some 56), none, .op (.load none (.r 55)), []⟩,
    ⟨(some 57), none, .op (.move (.r 7)), []⟩,
    ⟨(some 58), none, .call (.k (.clos 13 [])) [(.r 56), (.r 57)], []⟩,
    ⟨(some 52), none, .op (.move (.r 58)), []⟩,
    ⟨(some 59), none, .op (.extract 0 (.r 52)), []⟩,
    ⟨(some 60), none, .op (.extract 1 (.r 52)), []⟩,
    ⟨(some 10), none, .op (.move (.r 59)), []⟩,
    ⟨(some 11), none, .op (.move (.r 60)), []⟩])
  (.seq (.ops [
    ⟨(some 62), none, .op (.move (.r 0)), []⟩,
    ⟨(some 63), none, .op (.move (.r 1)), []⟩,
    ⟨(some 64), none, .op (.move (.r 9)), []⟩,
    ⟨(some 65), none, .op (.idxAddr 1 (.r 63) (.r 64)), []⟩,
    ⟨(some 66), none, .op (.load none (.r 65)), []⟩,
    ⟨(some 67), none, .call (.k (.clos 13 [])) [(.r 62), (.r 66)], []⟩,
    ⟨(some 61), none, .op (.move (.r 67)), []⟩,
    ⟨(some 68), none, .op (.extract 0 (.r 61)), []⟩,
    ⟨(some 69), none, .op (.extract 1 (.r 61)), []⟩,
    ⟨(some 12), none, .op (.move (.r 68)), []⟩,
    ⟨(some 13), none, .op (.move (.r 69)), []⟩])
  (.seq (.seq (.ops [
    ⟨(some 70), none, .op (.move (.r 10)), []⟩,
    ⟨(some 71), none, .op (.move (.r 12)), []⟩,
    ⟨(some 72), none, .op (.bin .lss .other (.r 70) (.r 71)), []⟩,
    ⟨(some 73), none, .op (.move (.r 72)), []⟩,
    ⟨(some 74), (some (73, false)), .op (.move (.r 10)), []⟩,
    ⟨(some 75), (some (73, false)), .op (.move (.r 12)), []⟩,
    ⟨(some 76), (some (73, false)), .op (.bin .eql .other (.r 74) (.r 75)), []⟩,
    ⟨(some 77), (some (73, false)), .op (.move (.r 76)), []⟩,
    ⟨(some 78), (some (77, true)), .op (.move (.r 11)), []⟩,
    ⟨(some 79), (some (77, true)), .op (.move (.r 13)), []⟩,
    ⟨(some 80), (some (77, true)), .op (.bin .lss .other (.r 78) (.r 79)), []⟩,
    ⟨(some 81), (some (73, false)), .op (.pick (.r 77) (.r 80) (.k (bo false))), []⟩,
    ⟨(some 82), none, .op (.pick (.r 73) (.k (bo true)) (.r 81)), []⟩])
  (.cond (.r 82)
  (.ops [
    ⟨(some 83), none, .op (.move (.r 12)), []⟩,
    ⟨(some 84), none, .op (.move (.r 13)), []⟩,
    ⟨(some 85), none, .op (.move (.r 10)), []⟩,
    ⟨(some 86), none, .op (.move (.r 11)), []⟩,
    ⟨(some 10), none, .op (.move (.r 83)), []⟩,
    ⟨(some 11), none, .op (.move (.r 84)), []⟩,
    ⟨(some 12), none, .op (.move (.r 85)), []⟩,
    ⟨(some 13), none, .op (.move (.r 86)), []⟩])
  (.skip)))
  (.seq (.ops [
    ⟨(some 87), none, .op (.move (.r 10)), []⟩,
    ⟨(some 88), none, .op (.move (.r 12)), []⟩,
    ⟨(some 89), none, .op (.bin .sub .other (.r 87) (.r 88)), []⟩,
    ⟨(some 14), none, .op (.move (.r 89)), []⟩])
  (.seq (.ops [
    ⟨(some 90), none, .op (.move (.r 11)), []⟩,
    ⟨(some 91), none, .op (.move (.r 13)), []⟩,
    ⟨(some 92), none, .op (.bin .sub .other (.r 90) (.r 91)), []⟩,
    ⟨(some 15), none, .op (.move (.r 92)), []⟩])
  (.seq (.seq (.ops [
    ⟨(some 93), none, .op (.move (.r 15)), []⟩,
    ⟨(some 94), none, .op (.move (.r 11)), []⟩,
    ⟨(some 95), none, .op (.bin .gtr .other (.r 93) (.r 94)), []⟩])
  (.cond (.r 95)
  (.ops [
    ⟨(some 96), none, .op (.move (.r 14)), []⟩,
    ⟨(some 97), none, .op (.bin .sub .other (.r 96) (.k (.sc (.int .u64 1)))), []⟩,
    ⟨(some 14), none, .op (.move (.r 97)), []⟩])
  (.skip)))
  (.seq (.ops [
    ⟨(some 98), none, .op (.move (.r 14)), []⟩,
    ⟨(some 99), none, .op (.bin .neq .other (.r 98) (.k (.sc (.int .u64 0)))), []⟩,
    ⟨(some 100), none, .op (.move (.r 99)), []⟩,
    ⟨(some 101), (some (100, false)), .op (.move (.r 15)), []⟩,
    ⟨(some 102), (some (100, false)), .op (.move (.r 7)), []⟩,
    ⟨(some 103), (some (100, false)), .op (.bin .geq .other (.r 101) (.r 102)), []⟩,
    ⟨(some 104), none, .op (.pick (.r 100) (.k (bo true)) (.r 103)), []⟩])
  (.cond (.r 104)
  (.seq (.ops [
    ⟨(some 4), none, .op (.move (.k (bo false))), []⟩])
  (.ret))
  (.skip))))))))))
  (.ops [
    ⟨(some 50), none, .op (.move (.r 9)), []⟩,
    ⟨(some 51), none, .op (.bin .add .other (.r 50) (.k (i64 1))), []⟩,
    ⟨(some 9), none, .op (.move (.r 51)), []⟩]))))))
  (.seq (.ops [
    ⟨(some 105), none, .call (.k (.clos 9 [])) [], []⟩,
    ⟨(some 4), none, .op (.move (.r 105)), []⟩])
  (.ret)))))))))
theorem e5 : Try.f5.body.map (normCode Try.prog true Try.f5.ntmps) = some n5 := by kernel_rfl
theorem r5 : resOf Try.f5 = some [4] := by kernel_rfl

def n6 : NCode :=
  .seq (.ops [
    ⟨(some 8), none, .op (.move (.k (bo false))), []⟩])
  (.seq (.seq (.ops [
    ⟨(some 11), none, .op (.move (.r 1)), []⟩,
    ⟨(some 12), none, .op (.lenL (.r 11)), []⟩,
    ⟨(some 13), none, .op (.bin .gtr .other (.r 12) (.k (i64 1100))), []⟩,
    ⟨(some 14), none, .op (.move (.r 13)), []⟩,
    ⟨(some 15), (some (14, false)), .op (.move (.r 2)), []⟩,
    ⟨(some 16), (some (14, false)), .op (.bin .lss .other (.r 15) (.k (i64 0))), []⟩,
    ⟨(some 17), none, .op (.pick (.r 14) (.k (bo true)) (.r 16)), []⟩,
    ⟨(some 18), none, .op (.move (.r 17)), []⟩,
    ⟨(some 19), (some (18, false)), .op (.move (.r 2)), []⟩,
    ⟨(some 20), (some (18, false)), .op (.move (.r 3)), []⟩,
    ⟨(some 21), (some (18, false)), .op (.bin .geq .other (.r 19) (.r 20)), []⟩,
    ⟨(some 22), none, .op (.pick (.r 18) (.k (bo true)) (.r 21)), []⟩,
    ⟨(some 23), none, .op (.move (.r 22)), []⟩,
    ⟨(some 24), (some (23, false)), .op (.move (.r 3)), []⟩,
    ⟨(some 25), (some (23, false)), .op (.move (.r 1)), []⟩,
    ⟨(some 26), (some (23, false)), .op (.lenL (.r 25)), []⟩,
    ⟨(some 27), (some (23, false)), .op (.bin .geq .other (.r 24) (.r 26)), []⟩,
    ⟨(some 28), none, .op (.pick (.r 23) (.k (bo true)) (.r 27)), []⟩,
    ⟨(some 29), none, .op (.move (.r 28)), []⟩,
    ⟨(some 30), (some (29, false)), .op (.move (.r 1)), []⟩,
    ⟨(some 31), (some (29, false)), .op (.move (.r 2)), []⟩,
    ⟨(some 32), (some (29, false)), .op (.idxAddr 1 (.r 30) (.r 31)), []⟩,
    ⟨(some 33), (some (29, false)), .op (.load none (.r 32)), []⟩,
    ⟨(some 34), (some (29, false)), .op (.move (.r 1)), []⟩,
    ⟨(some 35), (some (29, false)), .op (.move (.r 3)), []⟩,
    ⟨(some 36), (some (29, false)), .op (.idxAddr 1 (.r 34) (.r 35)), []⟩,
    ⟨(some 37), (some (29, false)), .op (.load none (.r 36)), []⟩,
    ⟨(some 38), (some (29, false)), .op (.bin .neq .other (.r 33) (.r 37)), []⟩,
    ⟨(some 39), none, .op (.pick (.r 29) (.k (bo true)) (.r 38)), []⟩])
  (.cond (.r 39)
  (.seq (.ops [
    ⟨(some 40), none, .call (.k (.clos 9 [])) [], []⟩,
    ⟨(some 8), none, .op (.move (.r 40)), []⟩])
  (.ret))
  (.skip)))
  (.seq (.ops [
    ⟨(some 42), none, .op (.move (.r 0)), []⟩,
    ⟨(some 43), none, .op (.move (.r 1)), []⟩,
    ⟨(some 44), none, .call (.k (.clos 10 [])) [(.r 42), (.r 43)], []⟩,
    ⟨(some 41), none, .op (.move (.r 44)), []⟩,
    ⟨(some 45), none, .op (.extract 0 (.r 41)), []⟩,
    ⟨(some 46), none, .op (.extract 1 (.r 41)), []⟩,
    ⟨(some 9), none, .op (.move (.r 45)), []⟩,
    ⟨(some 10), none, .op (.move (.r 46)), []⟩])
  (.seq (.seq (.ops [
    ⟨(some 47), none, .op (.move (.r 10)), []⟩,
    ⟨(some 48), none, .op (.bin .neq .other (.r 47) (.k (i64 0))), []⟩])
  (.cond (.r 48)
  (.seq (.ops [
    ⟨(some 49), none, .call (.k (.clos 9 [])) [], []⟩,
    ⟨(some 8), none, .op (.move (.r 49)), []⟩])
  (.ret))
  (.skip)))
  (.seq (.ops [
    ⟨(some 50), none, .op (.move (.r 9)), []⟩,
    ⟨(some 51), none, .op (.lenL (.r 50)), []⟩,
    ⟨(some 52), none, .op (.move (.r 1)), []⟩,
    ⟨(some 53), none, .op (.lenL (.r 52)), []⟩,
    ⟨(some 54), none, .op (.bin .eql .other (.r 51) (.r 53)), []⟩,
    ⟨(some 55), none, .op (.move (.r 54)), []⟩,
    ⟨(some 56), (some (55, true)), .op (.move (.r 9)), []⟩,
    ⟨(some 57), (some (55, true)), .op (.move (.r 2)), []⟩,
    ⟨(some 58), (some (55, true)), .op (.idxAddr 1 (.r 56) (.r 57)), []⟩,
    ⟨(some 59), (some (55, true)), .op (.load none (.r 58)), []⟩,
    ⟨(some 60), (some (55, true)), .op (.move (.r 9)), []⟩,
    ⟨(some 61), (some (55, true)), .op (.move (.r 3)), []⟩,
    ⟨(some 62), (some (55, true)), .op (.idxAddr 1 (.r 60) (.r 61)), []⟩,
    ⟨(some 63), (some (55, true)), .op (.load none (.r 62)), []⟩,
    ⟨(some 64), (some (55, true)), .op (.bin .geq .other (.r 59) (.r 63)), []⟩,
    ⟨(some 65), none, .op (.pick (.r 55) (.r 64) (.k (bo false))), []⟩,
    ⟨(some 66), none, .op (.move (.r 65)), []⟩,
    ⟨(some 67), (some (66, true)), .op (.move (.r 9)), []⟩,
    ⟨(some 68), (some (66, true)), .op (.move (.r 2)), []⟩,
    ⟨(some 69), (some (66, true)), .op (.idxAddr 1 (.r 67) (.r 68)), []⟩,
    ⟨(some 70), (some (66, true)), .op (.load none (.r 69)), []⟩,
    ⟨(some 71), (some (66, true)), .op (.move (.r 9)), []⟩,
    ⟨(some 72), (some (66, true)), .op (.move (.r 3)), []⟩,
    ⟨(some 73), (some (66, true)), .op (.idxAddr 1 (.r 71) (.r 72)), []⟩,
    ⟨(some 74), (some (66, true)), .op (.load none (.r 73)), []⟩,
    ⟨(some 75), (some (66, true)), .op (.bin .sub .other (.r 70) (.r 74)), []⟩,
    ⟨(some 76), (some (66, true)), .op (.bin .leq .other (.r 75) (.k (.sc (.int .u64 1)))), []⟩,
    ⟨(some 77), none, .op (.pick (.r 66) (.r 76) (.k (bo false))), []⟩,
    ⟨(some 78), none, .op (.move (.r 77)), []⟩,
    ⟨(some 79), (some (78, true)), .call (.k (.clos 9 [])) [], []⟩,
    ⟨(some 80), none, .op (.pick (.r 78) (.r 79) (.k (bo false))), []⟩,
    ⟨(some 8), none, .op (.move (.r 80)), []⟩])
  (.ret)))))
theorem e6 : Try.f6.body.map (normCode Try.prog true Try.f6.ntmps) = some n6 := by kernel_rfl
theorem r6 : resOf Try.f6 = some [8] := by kernel_rfl

def n7 : NCode :=
  .seq (.ops [
    ⟨(some 4), none, .op (.move (.k (bo false))), []⟩])
  (.seq (.seq (.ops [
    ⟨(some 11), none, .op (.move (.r 1)), []⟩,
    ⟨(some 12), none, .op (.lenL (.r 11)), []⟩,
    ⟨(some 13), none, .op (.bin .gtr .other (.r 12) (.k (i64 1100))), []⟩])
  (.cond (.r 13)
  (.seq (.ops [
    ⟨(some 14), none, .call (.k (.clos 9 [])) [], []⟩,
    ⟨(some 4), none, .op (.move (.r 14)), []⟩])
  (.ret))
  (.skip)))
  (.seq (.ops [
    ⟨(some 5), none, .op (.move (.k (.lst [] .nil))), []⟩])
  (.seq (.seq (.ops [
    ⟨(some 6), none, .op (.move (.k (i64 0))), []⟩])
  (.block 0 (.loop (.seq (.seq (.ops [
    ⟨(some 15), none, .op (.move (.r 6)), []⟩,
    ⟨(some 16), none, .op (.move (.r 1)), []⟩,
    ⟨(some 17), none, .op (.lenL (.r 16)), []⟩,
    ⟨(some 18), none, .op (.bin .lss .other (.r 15) (.r 17)), []⟩])
  (.cond (.r 18)
  (.skip)
  (.exit 0)))
  (.seq (.block 1 (.seq (.seq (.ops [
    ⟨(some 21), none, .op (.move (.r 1)), []⟩,
    ⟨(some 22), none, .op (.move (.r 6)), []⟩,
    ⟨(some 23), none, .op (.idxAddr 1 (.r 21) (.r 22)), []⟩,
    ⟨(some 24), none, .op (.load none (.r 23)), []⟩,
    ⟨(some 25), none, .op (.bin .geq .other (.r 24) (.k (.sc (.int .u64 9007199254740992)))), []⟩])
  (.cond (.r 25)
  (.seq (.ops [
    ⟨(some 26), none, .call (.k (.clos 9 [])) [], []⟩,
    ⟨(some 4), none, .op (.move (.r 26)), []⟩])
  (.ret))
  (.skip)))
  (.ops [
    ⟨(some 27), none, .op (.move (.r 5)), []⟩,
    ⟨(some 28), none, .op (.move (.r 1)), []⟩,
    ⟨(some 29), none, .op (.move (.r 6)), []⟩,
    ⟨(some 30), none, .op (.idxAddr 1 (.r 28) (.r 29)), []⟩,
    ⟨(some 31), none, .op (.load none (.r 30)), []⟩,
    ⟨(some 32), none, .op (.bin .mul .other (.k (.sc (.int .u64 2))) (.r 31)), []⟩,
    ⟨(some 33), none, .op (.buildSlice none [(.sc (.int .u64 0))] 1 [(0, (.r 32))]), []⟩,
    ⟨(some 34), none, .op (.append true none 8 [(.sc (.int .u64 0))] (.r 27) (.r 33)), []⟩,
    ⟨(some 5), none, .op (.move (.r 34)), []⟩])))
  (.ops [
    ⟨(some 19), none, .op (.move (.r 6)), []⟩,
    ⟨(some 20), none, .op (.bin .add .other (.r 19) (.k (i64 1))), []⟩,
    ⟨(some 6), none, .op (.move (.r 20)), []⟩]))))))
  (.seq (.ops [
    ⟨(some 36), none, .op (.move (.r 0)), []⟩,
    ⟨(some 37), none, .op (.move (.r 1)), []⟩,
    ⟨(some 38), none, .call (.k (.clos 10 [])) [(.r 36), (.r 37)], []⟩,
    ⟨(some 35), none, .op (.move (.r 38)), []⟩,
    ⟨(some 39), none, .op (.extract 0 (.r 35)), []⟩,
    ⟨(some 40), none, .op (.extract 1 (.r 35)), []⟩,
    ⟨(some 7), none, .op (.move (.r 39)), []⟩,
    ⟨(some 8), none, .op (.move (.r 40)), []⟩])
  (.seq (.ops [
    ⟨(some 42), none, .op (.move (.r 0)), []⟩,
    ⟨(some 43), none, .op (.move (.r 5)), []⟩,
    ⟨(some 44), none, .call (.k (.clos 10 [])) [(.r 42), (.r 43)], []⟩,
    ⟨(some 41), none, .op (.move (.r 44)), []⟩,
    ⟨(some 45), none, .op (.extract 0 (.r 41)), []⟩,
    ⟨(some 46), none, .op (.extract 1 (.r 41)), []⟩,
    ⟨(some 9), none, .op (.move (.r 45)), []⟩,
    ⟨(some 10), none, .op (.move (.r 46)), []⟩])
  (.seq (.ops [
    ⟨(some 47), none, .op (.move (.r 8)), []⟩,
    ⟨(some 48), none, .op (.move (.r 10)), []⟩,
    ⟨(some 49), none, .op (.bin .eql .other (.r 47) (.r 48)), []⟩,
    ⟨(some 50), none, .op (.move (.r 49)), []⟩,
    ⟨(some 51), (some (50, true)), .op (.move (.r 7)), []⟩,
    ⟨(some 52), (some (50, true)), .op (.move (.r 9)), []⟩,
    ⟨(some 53), (some (50, true)), .call (.k (.clos 12 [])) [(.r 51), (.r 52)], []⟩,
    ⟨(some 54), none, .op (.pick (.r 50) (.r 53) (.k (bo false))), []⟩,
    ⟨(some 55), none, .op (.move (.r 54)), []⟩,
    ⟨(some 56), (some (55, true)), .call (.k (.clos 9 [])) [], []⟩,
    ⟨(some 57), none, .op (.pick (.r 55) (.r 56) (.k (bo false))), []⟩,
    ⟨(some 4), none, .op (.move (.r 57)), []⟩])
  (.ret)))))))
theorem e7 : Try.f7.body.map (normCode Try.prog true Try.f7.ntmps) = some n7 := by kernel_rfl
theorem r7 : resOf Try.f7 = some [4] := by kernel_rfl

def n8 : NCode :=
  .seq (.ops [
    ⟨(some 8), none, .op (.move (.k (bo false))), []⟩])
  (.seq (.seq (.ops [
    ⟨(some 15), none, .op (.move (.r 2)), []⟩,
    ⟨(some 16), none, .op (.lenL (.r 15)), []⟩,
    ⟨(some 17), none, .op (.bin .gtr .other (.r 16) (.k (i64 300))), []⟩,
    ⟨(some 18), none, .op (.move (.r 17)), []⟩,
    ⟨(some 19), (some (18, false)), .op (.move (.r 3)), []⟩,
    ⟨(some 20), (some (18, false)), .op (.lenL (.r 19)), []⟩,
    ⟨(some 21), (some (18, false)), .op (.bin .gtr .other (.r 20) (.k (i64 300))), []⟩,
    ⟨(some 22), none, .op (.pick (.r 18) (.k (bo true)) (.r 21)), []⟩])
  (.cond (.r 22)
  (.seq (.ops [
    ⟨(some 23), none, .call (.k (.clos 9 [])) [], []⟩,
    ⟨(some 8), none, .op (.move (.r 23)), []⟩])
  (.ret))
  (.skip)))
  (.seq (.ops [
    ⟨(some 25), none, .op (.move (.r 0)), []⟩,
    ⟨(some 26), none, .op (.move (.r 1)), []⟩,
    ⟨(some 27), none, .call (.k (.clos 14 [])) [(.r 25), (.r 26)], []⟩,
    ⟨(some 24), none, .op (.move (.r 27)), []⟩,
    ⟨(some 28), none, .op (.extract 0 (.r 24)), []⟩,
    ⟨(some 29), none, .op (.extract 1 (.r 24)), []⟩,
    ⟨(some 9), none, .op (.move (.r 28)), []⟩,
    ⟨(some 10), none, .op (.move (.r 29)), []⟩])
  (.seq (.ops [
    ⟨(some 31), none, .op (.move (.r 0)), []⟩,
    ⟨(some 32), none, .op (.move (.r 1)), []⟩,
    ⟨(some 33), none, .call (.k (.clos 15 [])) [(.r 31), (.r 32)], []⟩,
    ⟨(some 30), none, .op (.move (.r 33)), []⟩,
    ⟨(some 34), none, .op (.extract 0 (.r 30)), []⟩,
    ⟨(some 35), none, .op (.extract 1 (.r 30)), []⟩,
    ⟨(some 11), none, .op (.move (.r 34)), []⟩,
    ⟨(some 12), none, .op (.move (.r 35)), []⟩])
  (.seq (.ops [
    ⟨(some 37), none, .op (.move (.r 0)), []⟩,
    ⟨(some 38), none, .op (.move (.r 2)), []⟩,
    ⟨(some 39), none, .call (.k (.clos 11 [])) [(.r 37), (.r 38)], []⟩,
    ⟨(some 36), none, .op (.move (.r 39)), []⟩,
    ⟨(some 40), none, .op (.extract 0 (.r 36)), []⟩,
    ⟨(some 41), none, .op (.extract 1 (.r 36)), []⟩,
    ⟨(some 13), none, .op (.move (.r 40)), []⟩,
    ⟨(some 14), none, .op (.move (.r 41)), []⟩])
  (.seq (.ops [
    ⟨(some 42), none, .op (.move (.r 9)), []⟩,
    ⟨(some 43), none, .op (.move (.r 11)), []⟩,
    ⟨(some 44), none, .call (.k (.clos 12 [])) [(.r 42), (.r 43)], []⟩,
    ⟨(some 45), none, .op (.move (.r 44)), []⟩,
    ⟨(some 46), (some (45, true)), .op (.move (.r 10)), []⟩,
    ⟨(some 47), (some (45, true)), .op (.move (.r 12)), []⟩,
    ⟨(some 48), (some (45, true)), .op (.bin .eql .other (.r 46) (.r 47)), []⟩,
    ⟨(some 49), none, .op (.pick (.r 45) (.r 48) (.k (bo false))), []⟩,
    ⟨(some 50), none, .op (.move (.r 49)), []⟩,
    ⟨(some 51), (some (50, true)), .op (.move (.r 0)), []⟩,
    ⟨(some 52), (some (50, true)), .op (.move (.r 2)), []⟩,
    ⟨(some 53), (some (50, true)), .op (.move (.r 3)), []⟩,
    ⟨(some 54), (some (50, true)), .call (.k (.clos 16 [])) [(.r 51), (.r 52), (.r 53)], []⟩,
    ⟨(some 55), (some (50, true)), .op (.move (.r 14)), []⟩,
    ⟨(some 56), (some (50, true)), .op (.bin .eql .other (.r 55) (.k (i64 0))), []⟩,
    ⟨(some 57), (some (50, true)), .op (.move (.r 56)), []⟩,
    ⟨(some 58), (some (57, true)), .op (.move (.r 13)), []⟩,
    ⟨(some 59), (some (57, true)), .op (.move (.r 3)), []⟩,
    ⟨(some 60), (some (57, true)), .call (.k (.clos 12 [])) [(.r 58), (.r 59)], []⟩,
    ⟨(some 61), (some (50, true)), .op (.pick (.r 57) (.r 60) (.k (bo false))), []⟩,
    ⟨(some 62), (some (50, true)), .op (.bin .eql .bool (.r 54) (.r 61)), []⟩,
    ⟨(some 63), none, .op (.pick (.r 50) (.r 62) (.k (bo false))), []⟩,
    ⟨(some 64), none, .op (.move (.r 63)), []⟩,
    ⟨(some 65), (some (64, true)), .op (.move (.r 14)), []⟩,
    ⟨(some 66), (some (64, true)), .op (.bin .neq .other (.r 65) (.k (i64 0))), []⟩,
    ⟨(some 67), (some (64, true)), .op (.move (.r 66)), []⟩,
    ⟨(some 68), (some (67, false)), .op (.move (.r 0)), []⟩,
    ⟨(some 69), (some (67, false)), .op (.move (.r 2)), []⟩,
    ⟨(some 70), (some (67, false)), .op (.move (.r 13)), []⟩,
    ⟨(some 71), (some (67, false)), .call (.k (.clos 16 [])) [(.r 68), (.r 69), (.r 70)], []⟩,
    ⟨(some 72), (some (64, true)), .op (.pick (.r 67) (.k (bo true)) (.r 71)), []⟩,
    ⟨(some 73), none, .op (.pick (.r 64) (.r 72) (.k (bo false))), []⟩,
    ⟨(some 74), none, .op (.move (.r 73)), []⟩,
    ⟨(some 75), (some (74, true)), .call (.k (.clos 9 [])) [], []⟩,
    ⟨(some 76), none, .op (.pick (.r 74) (.r 75) (.k (bo false))), []⟩,
    ⟨(some 8), none, .op (.move (.r 76)), []⟩])
  (.ret))))))
theorem e8 : Try.f8.body.map (normCode Try.prog true Try.f8.ntmps) = some n8 := by kernel_rfl
theorem r8 : resOf Try.f8 = some [8] := by kernel_rfl

def n9 : NCode :=
  .seq (.ops [
    ⟨(some 0), none, .op (.move (.k (bo false))), []⟩])
  (.seq (.ops [
    ⟨(some 6), none, .op (.buildSlice none [(.sc (.int .u64 0))] 3 [(0, (.k (.sc (.int .u64 1)))), (1, (.k (.sc (.int .u64 1)))), (2, (.k (.sc (.int .u64 1))))]), []⟩,
    ⟨(some 7), none, .call (.k (.clos 10 [])) [(.k (.sc (.int .u64 10))), (.r 6)], []⟩,
    ⟨(some 5), none, .op (.move (.r 7)), []⟩,
    ⟨(some 8), none, .op (.extract 0 (.r 5)), []⟩,
    ⟨(some 9), none, .op (.extract 1 (.r 5)), []⟩,
    ⟨(some 1), none, .op (.move (.r 8)), []⟩,
    ⟨(some 2), none, .op (.move (.r 9)), []⟩])
  (.seq (.ops [
    ⟨(some 11), none, .op (.buildSlice none [(.sc (.int .u64 0))] 3 [(0, (.k (.sc (.int .u64 2)))), (1, (.k (.sc (.int .u64 3)))), (2, (.k (.sc (.int .u64 2))))]), []⟩,
    ⟨(some 12), none, .call (.k (.clos 10 [])) [(.k (.sc (.int .u64 5))), (.r 11)], []⟩,
    ⟨(some 10), none, .op (.move (.r 12)), []⟩,
    ⟨(some 13), none, .op (.extract 0 (.r 10)), []⟩,
    ⟨(some 14), none, .op (.extract 1 (.r 10)), []⟩,
    ⟨(some 3), none, .op (.move (.r 13)), []⟩,
    ⟨(some 4), none, .op (.move (.r 14)), []⟩])
  (.seq (.ops [
    ⟨(some 15), none, .op (.move (.r 1)), []⟩,
    ⟨(some 16), none, .op (.buildSlice none [(.sc (.int .u64 0))] 3 [(0, (.k (.sc (.int .u64 4)))), (1, (.k (.sc (.int .u64 3)))), (2, (.k (.sc (.int .u64 3))))]), []⟩,
    ⟨(some 17), none, .call (.k (.clos 12 [])) [(.r 15), (.r 16)], []⟩,
    ⟨(some 18), none, .op (.move (.r 17)), []⟩,
    ⟨(some 19), (some (18, true)), .op (.move (.r 2)), []⟩,
    ⟨(some 20), (some (18, true)), .op (.bin .eql .other (.r 19) (.k (i64 0))), []⟩,
    ⟨(some 21), none, .op (.pick (.r 18) (.r 20) (.k (bo false))), []⟩,
    ⟨(some 22), none, .op (.move (.r 21)), []⟩,
    ⟨(some 23), (some (22, true)), .op (.move (.r 3)), []⟩,
    ⟨(some 24), (some (22, true)), .op (.buildSlice none [(.sc (.int .u64 0))] 3 [(0, (.k (.sc (.int .u64 2)))), (1, (.k (.sc (.int .u64 2)))), (2, (.k (.sc (.int .u64 1))))]), []⟩,
    ⟨(some 25), (some (22, true)), .call (.k (.clos 12 [])) [(.r 23), (.r 24)], []⟩,
    ⟨(some 26), none, .op (.pick (.r 22) (.r 25) (.k (bo false))), []⟩,
    ⟨(some 27), none, .op (.move (.r 26)), []⟩,
    ⟨(some 28), (some (27, true)), .op (.move (.r 4)), []⟩,
    ⟨(some 29), (some (27, true)), .op (.bin .eql .other (.r 28) (.k (i64 0))), []⟩,
    ⟨(some 30), none, .op (.pick (.r 27) (.r 29) (.k (bo false))), []⟩,
    ⟨(some 0), none, .op (.move (.r 30)), []⟩])
  (.ret))))
theorem e9 : Try.f9.body.map (normCode Try.prog true Try.f9.ntmps) = some n9 := by kernel_rfl
theorem r9 : resOf Try.f9 = some [0] := by kernel_rfl

def n10 : NCode :=
  .seq (.ops [
    ⟨(some 4), none, .op (.move (.k (.lst [] .nil))), []⟩,
    ⟨(some 5), none, .op (.move (.k (i64 0))), []⟩])
  (.seq (.block 0 (.seq (.ops [
    ⟨(some 19), none, .op (.move (.r 1)), []⟩,
    ⟨(some 20), none, .op (.lenL (.r 19)), []⟩,
    ⟨(some 21), none, .op (.bin .eql .other (.r 20) (.k (i64 0))), []⟩,
    ⟨(some 18), none, .op (.move (.r 21)), []⟩])
  (.cond (.r 18)
  (.seq (.ops [
    ⟨(some 4), none, .op (.move (.k (.lst [] .nil))), []⟩,
    ⟨(some 5), none, .op (.move (.k (i64 13))), []⟩])
  (.ret))
  (.seq (.ops [
    ⟨(some 23), none, .op (.move (.r 1)), []⟩,
    ⟨(some 24), none, .op (.lenL (.r 23)), []⟩,
    ⟨(some 25), none, .op (.bin .gtr .other (.r 24) (.k (i64 1024))), []⟩,
    ⟨(some 22), none, .op (.move (.r 25)), []⟩])
  (.cond (.r 22)
  (.seq (.ops [
    ⟨(some 4), none, .op (.move (.k (.lst [] .nil))), []⟩,
    ⟨(some 5), none, .op (.move (.k (i64 5))), []⟩])
  (.ret))
  (.skip))))))
  (.seq (.ops [
    ⟨(some 6), none, .op (.move (.k (.sc (.int .u64 0)))), []⟩])
  (.seq (.seq (.ops [
    ⟨(some 26), none, .op (.move (.r 1)), []⟩,
    ⟨(some 27), none, .op (.lenL (.r 26)), []⟩,
    ⟨(some 28), none, .op (.move (.k (i64 0))), []⟩])
  (.block 1 (.loop (.seq (.ops [
    ⟨(some 29), none, .op (.bin .lss .other (.r 28) (.r 27)), []⟩])
  (.seq (.cond (.r 29)
  (.skip)
  (.exit 1))
  (.seq (.block 2 (.seq (.ops [
    ⟨(some 30), none, .op (.idxAddr 1 (.r 26) (.r 28)), []⟩,
    ⟨(some 31), none, .op (.load none (.r 30)), []⟩,
    ⟨(some 8), none, .op (.move (.r 31)), []⟩])
  (.seq (.ops [
    ⟨(some 32), none, .op (.move (.r 6)), []⟩,
    ⟨(some 33), none, .op (.move (.r 8)), []⟩,
    ⟨(some 34), none, .op (.bin .add .other (.r 32) (.r 33)), []⟩,
    ⟨(some 6), none, .op (.move (.r 34)), []⟩])
  (.seq (.ops [
    ⟨(some 35), none, .op (.move (.r 6)), []⟩,
    ⟨(some 36), none, .op (.move (.r 8)), []⟩,
    ⟨(some 37), none, .op (.bin .lss .other (.r 35) (.r 36)), []⟩])
  (.cond (.r 37)
  (.seq (.ops [
    ⟨(some 4), none, .op (.move (.k (.lst [] .nil))), []⟩,
    ⟨(some 5), none, .op (.move (.k (i64 8))), []⟩])
  (.ret))
  (.skip))))))
  (.ops [
    ⟨(some 38), none, .op (.bin .add .other (.r 28) (.k (i64 1))), []⟩,
    ⟨(some 28), none, .op (.move (.r 38)), []⟩])))))))
  (.seq (.ops [
    ⟨(some 39), none, .op (.move (.r 1)), []⟩,
    ⟨(some 40), none, .op (.lenL (.r 39)), []⟩,
    ⟨(some 41), none, .op (.mkSlice 1 8 [(.sc (.int .u64 0))] (.r 40) (.r 40)), []⟩,
    ⟨(some 9), none, .op (.move (.r 41)), []⟩])
  (.seq (.ops [
    ⟨(some 42), none, .op (.move (.r 1)), []⟩,
    ⟨(some 43), none, .op (.lenL (.r 42)), []⟩,
    ⟨(some 44), none, .op (.mkSlice 2 16 [(i64 0), (.sc (.int .u64 0))] (.r 43) (.r 43)), []⟩,
    ⟨(some 10), none, .op (.move (.r 44)), []⟩])
  (.seq (.ops [
    ⟨(some 45), none, .op (.move (.r 0)), []⟩,
    ⟨(some 11), none, .op (.move (.r 45)), []⟩])
  (.seq (.seq (.ops [
    ⟨(some 46), none, .op (.move (.r 1)), []⟩,
    ⟨(some 47), none, .op (.lenL (.r 46)), []⟩,
    ⟨(some 48), none, .op (.move (.k (i64 0))), []⟩])
  (.block 3 (.loop (.seq (.ops [
    ⟨(some 49), none, .op (.bin .lss .other (.r 48) (.r 47)), []⟩])
  (.seq (.cond (.r 49)
  (.skip)
  (.exit 3))
  (.seq (.block 4 (.seq (.ops [
    ⟨(some 50), none, .op (.move (.r 48)), []⟩,
    ⟨(some 51), none, .op (.idxAddr 1 (.r 46) (.r 48)), []⟩,
    ⟨(some 52), none, .op (.load none (.r 51)), []⟩,
    ⟨(some 12), none, .op (.move (.r 50)), []⟩,
    ⟨(some 13), none, .op (.move (.r 52)), []⟩])
  (.seq (.ops [
    ⟨(some 54), none, .op (.move (.r 0)), []⟩,
    ⟨(some 55), none, .op (.move (.r 13)), []⟩,
    ⟨(some 56), none, .op (.move (.r 6)), []⟩,
    ⟨(some 57), none, .call (.k (.clos 17 [])) [(.r 54), (.r 55), (.r 56)], []⟩,
    ⟨(some 53), none, .op (.move (.r 57)), []⟩,
    ⟨(some 58), none, .op (.extract 0 (.r 53)), []⟩,
    ⟨(some 59), none, .op (.extract 1 (.r 53)), []⟩,
    ⟨(some 60), none, .op (.extract 2 (.r 53)), []⟩,
    ⟨(some 14), none, .op (.move (.r 58)), []⟩,
    ⟨(some 15), none, .op (.move (.r 59)), []⟩,
    ⟨(some 16), none, .op (.move (.r 60)), []⟩])
  (.seq (.seq (.ops [
    ⟨(some 61), none, .op (.move (.r 16)), []⟩,
    ⟨(some 62), none, .op (.bin .neq .other (.r 61) (.k (i64 0))), []⟩])
  (.cond (.r 62)
  (.seq (.ops [
    ⟨(some 63), none, .op (.move (.r 16)), []⟩,
    ⟨(some 4), none, .op (.move (.k (.lst [] .nil))), []⟩,
    ⟨(some 5), none, .op (.move (.r 63)), []⟩])
  (.ret))
  (.skip)))
  (.seq (.ops [
    ⟨(some 64), none, .op (.move (.r 9)), []⟩,
    ⟨(some 65), none, .op (.move (.r 12)), []⟩,
    ⟨(some 66), none, .op (.move (.r 10)), []⟩,
    ⟨(some 67), none, .op (.move (.r 12)), []⟩,
    ⟨(some 68), none, .op (.move (.r 14)), []⟩,
    ⟨(some 69), none, .op (.move (.r 12)), []⟩,
    ⟨(some 70), none, .op (.move (.r 15)), []⟩,
    ⟨(some 71), none, .op (.build [(i64 0), (.sc (.int .u64 0))] [(0, 1, (.r 69)), (1, 1, (.r 70))]), []⟩,
    ⟨(some 72), none, .op (.idxAddr 1 (.r 64) (.r 65)), []⟩,
    ⟨none, none, .op (.store 1 (.r 72) (.r 68)), []⟩,
    ⟨(some 73), none, .op (.idxAddr 2 (.r 66) (.r 67)), []⟩,
    ⟨none, none, .op (.store 2 (.r 73) (.r 71)), []⟩])
  (.ops [
    ⟨(some 74), none, .op (.move (.r 11)), []⟩,
    ⟨(some 75), none, .op (.move (.r 14)), []⟩,
    ⟨(some 76), none, .op (.bin .sub .other (.r 74) (.r 75)), []⟩,
    ⟨(some 11), none, .op (.move (.r 76)), []⟩]))))))
  (.ops [
    ⟨(some 77), none, .op (.bin .add .other (.r 48) (.k (i64 1))), []⟩,
    ⟨(some 48), none, .op (.move (.r 77)), []⟩])))))))
  (.seq (.ops [
    ⟨(some 78), none, .op (.move (.r 10)), []⟩,
    ⟨(some 79), none, .call (.k (.clos 18 [])) [(.r 78), (.k (.clos 19 []))], []⟩])
  (.seq (.seq (.ops [
    ⟨(some 17), none, .op (.move (.k (i64 0))), []⟩])
  (.block 5 (.loop (.seq (.seq (.ops [
    ⟨(some 80), none, .op (.move (.r 11)), []⟩,
    ⟨(some 81), none, .op (.bin .gtr .other (.r 80) (.k (.sc (.int .u64 0)))), []⟩,
    ⟨(some 82), none, .op (.move (.r 81)), []⟩,
    ⟨(some 83), (some (82, true)), .op (.move (.r 17)), []⟩,
    ⟨(some 84), (some (82, true)), .op (.move (.r 10)), []⟩,
    ⟨(some 85), (some (82, true)), .op (.lenL (.r 84)), []⟩,
    ⟨(some 86), (some (82, true)), .op (.bin .lss .other (.r 83) (.r 85)), []⟩,
    ⟨(some 87), none, .op (.pick (.r 82) (.r 86) (.k (bo false))), []⟩])
  (.cond (.r 87)
  (.skip)
  (.exit 5)))
  (.seq (.block 6 (.seq (.ops [
    ⟨(some 90), none, .op (.move (.r 9)), []⟩,
    ⟨(some 91), none, .op (.move (.r 10)), []⟩,
    ⟨(some 92), none, .op (.move (.r 17)), []⟩,
    ⟨(some 93), none, .op (.idxAddr 2 (.r 91) (.r 92)), []⟩,
    ⟨(some 94), none, .op (.fieldAddr 0 (.r 93)), []⟩,
    ⟨(some 95), none, .op (.load none (.r 94)), []⟩,
    ⟨(some 96), none, .op (.idxAddr 1 (.r 90) (.r 95)), []⟩,
    ⟨(some 97), none, .op (.load none (.r 96)), []⟩,
    ⟨(some 98), none, .op (.bin .add .other (.r 97) (.k (.sc (.int .u64 1)))), []⟩,
    ⟨(some 99), none, .op (.idxAddr 1 (.r 90) (.r 95)), []⟩,
    ⟨none, none, .op (.store 1 (.r 99) (.r 98)), []⟩])
  (.ops [
    ⟨(some 100), none, .op (.move (.r 11)), []⟩,
    ⟨(some 101), none, .op (.bin .sub .other (.r 100) (.k (.sc (.int .u64 1)))), []⟩,
    ⟨(some 11), none, .op (.move (.r 101)), []⟩])))
  (.ops [
    ⟨(some 88), none, .op (.move (.r 17)), []⟩,
    ⟨(some 89), none, .op (.bin .add .other (.r 88) (.k (i64 1))), []⟩,
    ⟨(some 17), none, .op (.move (.r 89)), []⟩]))))))
  (.seq (.ops [
    ⟨(some 102), none, .op (.move (.r 9)), []⟩,
    ⟨(some 4), none, .op (.move (.r 102)), []⟩,
    ⟨(some 5), none, .op (.move (.k (i64 0))), []⟩])
  (.ret)))))))))))
theorem e10 : Try.f10.body.map (normCode Try.prog true Try.f10.ntmps) = some n10 := by kernel_rfl
theorem r10 : resOf Try.f10 = some [4, 5] := by kernel_rfl

def n11 : NCode :=
  .seq (.ops [
    ⟨(some 4), none, .op (.move (.k (.lst [] .nil))), []⟩,
    ⟨(some 5), none, .op (.move (.k (i64 0))), []⟩])
  (.seq (.seq (.ops [
    ⟨(some 18), none, .op (.move (.r 1)), []⟩,
    ⟨(some 19), none, .op (.lenL (.r 18)), []⟩,
    ⟨(some 20), none, .op (.bin .eql .other (.r 19) (.k (i64 0))), []⟩])
  (.cond (.r 20)
  (.seq (.ops [
    ⟨(some 4), none, .op (.move (.k (.lst [] .nil))), []⟩,
    ⟨(some 5), none, .op (.move (.k (i64 13))), []⟩])
  (.ret))
  (.skip)))
  (.seq (.seq (.ops [
    ⟨(some 21), none, .op (.move (.r 1)), []⟩,
    ⟨(some 22), none, .op (.lenL (.r 21)), []⟩,
    ⟨(some 23), none, .op (.bin .gtr .other (.r 22) (.k (i64 1024))), []⟩])
  (.cond (.r 23)
  (.seq (.ops [
    ⟨(some 4), none, .op (.move (.k (.lst [] .nil))), []⟩,
    ⟨(some 5), none, .op (.move (.k (i64 5))), []⟩])
  (.ret))
  (.skip)))
  (.seq (.ops [
    ⟨(some 6), none, .op (.move (.k (.sc (.int .u64 0)))), []⟩])
  (.seq (.seq (.ops [
    ⟨(some 7), none, .op (.move (.k (i64 0))), []⟩])
  (.block 0 (.loop (.seq (.seq (.ops [
    ⟨(some 24), none, .op (.move (.r 7)), []⟩,
    ⟨(some 25), none, .op (.move (.r 1)), []⟩,
    ⟨(some 26), none, .op (.lenL (.r 25)), []⟩,
    ⟨(some 27), none, .op (.bin .lss .other (.r 24) (.r 26)), []⟩])
  (.cond (.r 27)
  (.skip)
  (.exit 0)))
  (.seq (.block 1 (.seq (.seq (.ops [
    ⟨(some 30), none, .op (.move (.r 6)), []⟩,
    ⟨(some 31), none, .op (.move (.r 1)), []⟩,
    ⟨(some 32), none, .op (.move (.r 7)), []⟩,
    ⟨(some 33), none, .op (.idxAddr 1 (.r 31) (.r 32)), []⟩,
    ⟨(some 34), none, .op (.load none (.r 33)), []⟩,
    ⟨(some 35), none, .op (.bin .add .other (.r 30) (.r 34)), []⟩,
    ⟨(some 36), none, .op (.move (.r 6)), []⟩,
    ⟨(some 37), none, .op (.bin .lss .other (.r 35) (.r 36)), []⟩])
  (.cond (.r 37)
  (.seq (.ops [
    ⟨(some 4), none, .op (.move (.k (.lst [] .nil))), []⟩,
    ⟨(some 5), none, .op (.move (.k (i64 8))), []⟩])
  (.ret))
  (.skip)))
  (.ops [
    ⟨(some 38), none, .op (.move (.r 6)), []⟩,
    ⟨(some 39), none, .op (.move (.r 1)), []⟩,
    ⟨(some 40), none, .op (.move (.r 7)), []⟩,
    ⟨(some 41), none, .op (.idxAddr 1 (.r 39) (.r 40)), []⟩,
    ⟨(some 42), none, .op (.load none (.r 41)), []⟩,
    ⟨(some 43), none, .op (.bin .add .other (.r 38) (.r 42)), []⟩,
    ⟨(some 6), none, .op (.move (.r 43)), []⟩])))
  (.ops [
    ⟨(some 28), none, .op (.move (.r 7)), []⟩,
    ⟨(some 29), none, .op (.bin .add .other (.r 28) (.k (i64 1))), []⟩,
    ⟨(some 7), none, .op (.move (.r 29)), []⟩]))))))
  (.seq (.seq (.ops [
    ⟨(some 44), none, .op (.move (.r 6)), []⟩,
    ⟨(some 45), none, .op (.bin .eql .other (.r 44) (.k (.sc (.int .u64 0)))), []⟩])
  (.cond (.r 45)
  (.seq (.ops [
    ⟨(some 4), none, .op (.move (.k (.lst [] .nil))), []⟩,
    ⟨(some 5), none, .op (.move (.k (i64 9))), []⟩])
  (.ret))
  (.skip)))
  (.seq (.ops [
    ⟨(some 8), none, .op (.move (.k (.lst [] .nil))), []⟩])
  (.seq (.ops [
    ⟨(some 9), none, .op (.move (.k (.lst [] .nil))), []⟩])
  (.seq (.ops [
    ⟨(some 46), none, .op (.move (.r 0)), []⟩,
    ⟨(some 10), none, .op (.move (.r 46)), []⟩])
  (.seq (.seq (.ops [
    ⟨(some 11), none, .op (.move (.k (i64 0))), []⟩])
  (.block 2 (.loop (.seq (.seq (.ops [
    ⟨(some 47), none, .op (.move (.r 11)), []⟩,
    ⟨(some 48), none, .op (.move (.r 1)), []⟩,
    ⟨(some 49), none, .op (.lenL (.r 48)), []⟩,
    ⟨(some 50), none, .op (.bin .lss .other (.r 47) (.r 49)), []⟩])
  (.cond (.r 50)
  (.skip)
  (.exit 2)))
  (.seq (.block 3 (.seq (.ops [
    ⟨(some 54), none, .op (.move (.r 0)), []⟩,
    ⟨(some 55), none, .op (.move (.r 1)), []⟩,
    ⟨(some 56), none, .op (.move (.r 11)), []⟩,
    ⟨(some 57), none, .op (.idxAddr 1 (.r 55) (.r 56)), []⟩,
    ⟨(some 58), none, .op (.load none (.r 57)), []⟩,
    ⟨(some 59), none, .op (.move (.r 6)), []⟩,
    ⟨(some 60), none, .call (.k (.clos 20 [])) [(.r 54), (.r 58), (.r 59)], []⟩,
    ⟨(some 53), none, .op (.move (.r 60)), []⟩,
    ⟨(some 61), none, .op (.extract 0 (.r 53)), []⟩,
    ⟨(some 62), none, .op (.extract 1 (.r 53)), []⟩,
    ⟨(some 63), none, .op (.extract 2 (.r 53)), []⟩,
    ⟨(some 12), none, .op (.move (.r 61)), []⟩,
    ⟨(some 13), none, .op (.move (.r 62)), []⟩,
    ⟨(some 14), none, .op (.move (.r 63)), []⟩])
  (.seq (.ops [
    ⟨(some 64), none, .op (.move (.r 8)), []⟩,
    ⟨(some 65), none, .op (.move (.r 12)), []⟩,
    ⟨(some 66), none, .op (.buildSlice none [(.sc (.int .u64 0))] 1 [(0, (.r 65))]), []⟩,
    ⟨(some 67), none, .op (.append true none 8 [(.sc (.int .u64 0))] (.r 64) (.r 66)), []⟩,
    ⟨(some 8), none, .op (.move (.r 67)), []⟩])
  (.seq (.ops [
    ⟨(some 68), none, .op (.move (.r 9)), []⟩,
    ⟨(some 69), none, .op (.move (.r 13)), []⟩,
    ⟨(some 70), none, .op (.buildSlice none [(.sc (.int .u64 0))] 1 [(0, (.r 69))]), []⟩,
    ⟨(some 71), none, .op (.append true none 8 [(.sc (.int .u64 0))] (.r 68) (.r 70)), []⟩,
    ⟨(some 9), none, .op (.move (.r 71)), []⟩])
  (.ops [
    ⟨(some 72), none, .op (.move (.r 10)), []⟩,
    ⟨(some 73), none, .op (.move (.r 12)), []⟩,
    ⟨(some 74), none, .op (.bin .sub .other (.r 72) (.r 73)), []⟩,
    ⟨(some 10), none, .op (.move (.r 74)), []⟩])))))
  (.ops [
    ⟨(some 51), none, .op (.move (.r 11)), []⟩,
    ⟨(some 52), none, .op (.bin .add .other (.r 51) (.k (i64 1))), []⟩,
    ⟨(some 11), none, .op (.move (.r 52)), []⟩]))))))
  (.seq (.seq (.ops [
    ⟨(some 15), none, .op (.move (.k (i64 0))), []⟩])
  (.block 4 (.loop (.seq (.seq (.ops [
    ⟨(some 75), none, .op (.move (.r 15)), []⟩,
    ⟨(some 76), none, .op (.move (.r 1)), []⟩,
    ⟨(some 77), none, .op (.lenL (.r 76)), []⟩,
    ⟨(some 78), none, .op (.bin .lss .other (.r 75) (.r 77)), []⟩,
    ⟨(some 79), none, .op (.move (.r 78)), []⟩,
    ⟨(some 80), (some (79, true)), .op (.move (.r 10)), []⟩,
    ⟨(some 81), (some (79, true)), .op (.bin .gtr .other (.r 80) (.k (.sc (.int .u64 0)))), []⟩,
    ⟨(some 82), none, .op (.pick (.r 79) (.r 81) (.k (bo false))), []⟩])
  (.cond (.r 82)
  (.skip)
  (.exit 4)))
  (.seq (.block 5 (.seq (.ops [
    ⟨(some 16), none, .op (.move (.k (i64 0))), []⟩])
  (.seq (.seq (.ops [
    ⟨(some 17), none, .op (.move (.k (i64 1))), []⟩])
  (.block 6 (.loop (.seq (.seq (.ops [
    ⟨(some 85), none, .op (.move (.r 17)), []⟩,
    ⟨(some 86), none, .op (.move (.r 9)), []⟩,
    ⟨(some 87), none, .op (.lenL (.r 86)), []⟩,
    ⟨(some 88), none, .op (.bin .lss .other (.r 85) (.r 87)), []⟩])
  (.cond (.r 88)
  (.skip)
  (.exit 6)))
  (.seq (.block 7 (.seq (.ops [
    ⟨(some 91), none, .op (.move (.r 9)), []⟩,
    ⟨(some 92), none, .op (.move (.r 17)), []⟩,
    ⟨(some 93), none, .op (.idxAddr 1 (.r 91) (.r 92)), []⟩,
    ⟨(some 94), none, .op (.load none (.r 93)), []⟩,
    ⟨(some 95), none, .op (.move (.r 9)), []⟩,
    ⟨(some 96), none, .op (.move (.r 16)), []⟩,
    ⟨(some 97), none, .op (.idxAddr 1 (.r 95) (.r 96)), []⟩,
    ⟨(some 98), none, .op (.load none (.r 97)), []⟩,
    ⟨(some 99), none, .op (.bin .gtr .other (.r 94) (.r 98)), []⟩])
  (.cond (.r 99)
  (.ops [
    ⟨(some 100), none, .op (.move (.r 17)), []⟩,
    ⟨(some 16), none, .op (.move (.r 100)), []⟩])
  (.skip))))
  (.ops [
    ⟨(some 89), none, .op (.move (.r 17)), []⟩,
    ⟨(some 90), none, .op (.bin .add .other (.r 89) (.k (i64 1))), []⟩,
    ⟨(some 17), none, .op (.move (.r 90)), []⟩]))))))
  (.seq (.ops [
    ⟨(some 101), none, .op (.move (.r 8)), []⟩,
    ⟨(some 102), none, .op (.move (.r 16)), []⟩,
    ⟨(some 103), none, .op (.move (.r 8)), []⟩,
    ⟨(some 104), none, .op (.move (.r 16)), []⟩,
    ⟨(some 105), none, .op (.idxAddr 1 (.r 103) (.r 104)), []⟩,
    ⟨(some 106), none, .op (.load none (.r 105)), []⟩,
    ⟨(some 107), none, .op (.bin .add .other (.r 106) (.k (.sc (.int .u64 1)))), []⟩,
    ⟨(some 108), none, .op (.idxAddr 1 (.r 101) (.r 102)), []⟩,
    ⟨none, none, .op (.store 1 (.r 108) (.r 107)), []⟩])
  (.seq (.ops [
    ⟨(some 109), none, .op (.move (.r 9)), []⟩,
    ⟨(some 110), none, .op (.move (.r 16)), []⟩,
    ⟨(some 111), none, .op (.idxAddr 1 (.r 109) (.r 110)), []⟩,
    ⟨none, none, .op (.store 1 (.r 111) (.k (.sc (.int .u64 0)))), []⟩])
  (.ops [
    ⟨(some 112), none, .op (.move (.r 10)), []⟩,
    ⟨(some 113), none, .op (.bin .sub .other (.r 112) (.k (.sc (.int .u64 1)))), []⟩,
    ⟨(some 10), none, .op (.move (.r 113)), []⟩]))))))
  (.ops [
    ⟨(some 83), none, .op (.move (.r 15)), []⟩,
    ⟨(some 84), none, .op (.bin .add .other (.r 83) (.k (i64 1))), []⟩,
    ⟨(some 15), none, .op (.move (.r 84)), []⟩]))))))
  (.seq (.ops [
    ⟨(some 114), none, .op (.move (.r 8)), []⟩,
    ⟨(some 4), none, .op (.move (.r 114)), []⟩,
    ⟨(some 5), none, .op (.move (.k (i64 0))), []⟩])
  (.ret))))))))))))
theorem e11 : Try.f11.body.map (normCode Try.prog true Try.f11.ntmps) = some n11 := by kernel_rfl
theorem r11 : resOf Try.f11 = some [4, 5] := by kernel_rfl

def n12 : NCode :=
  .seq (.ops [
    ⟨(some 4), none, .op (.move (.k (bo false))), []⟩])
  (.seq (.seq (.ops [
    ⟨(some 6), none, .op (.move (.r 0)), []⟩,
    ⟨(some 7), none, .op (.lenL (.r 6)), []⟩,
    ⟨(some 8), none, .op (.move (.r 1)), []⟩,
    ⟨(some 9), none, .op (.lenL (.r 8)), []⟩,
    ⟨(some 10), none, .op (.bin .neq .other (.r 7) (.r 9)), []⟩])
  (.cond (.r 10)
  (.seq (.ops [
    ⟨(some 4), none, .op (.move (.k (bo false))), []⟩])
  (.ret))
  (.skip)))
  (.seq (.seq (.ops [
    ⟨(some 5), none, .op (.move (.k (i64 0))), []⟩])
  (.block 0 (.loop (.seq (.seq (.ops [
    ⟨(some 11), none, .op (.move (.r 5)), []⟩,
    ⟨(some 12), none, .op (.move (.r 0)), []⟩,
    ⟨(some 13), none, .op (.lenL (.r 12)), []⟩,
    ⟨(some 14), none, .op (.bin .lss .other (.r 11) (.r 13)), []⟩])
  (.cond (.r 14)
  (.skip)
  (.exit 0)))
  (.seq (.block 1 (.seq (.ops [
    ⟨(some 17), none, .op (.move (.r 0)), []⟩,
    ⟨(some 18), none, .op (.move (.r 5)), []⟩,
    ⟨(some 19), none, .op (.idxAddr 1 (.r 17) (.r 18)), []⟩,
    ⟨(some 20), none, .op (.load none (.r 19)), []⟩,
    ⟨(some 21), none, .op (.move (.r 1)), []⟩,
    ⟨(some 22), none, .op (.move (.r 5)), []⟩,
    ⟨(some 23), none, .op (.idxAddr 1 (.r 21) (.r 22)), []⟩,
    ⟨(some 24), none, .op (.load none (.r 23)), []⟩,
    ⟨(some 25), none, .op (.bin .neq .other (.r 20) (.r 24)), []⟩])
  (.cond (.r 25)
  (.seq (.ops [
    ⟨(some 4), none, .op (.move (.k (bo false))), []⟩])
  (.ret))
  (.skip))))
  (.ops [
    ⟨(some 15), none, .op (.move (.r 5)), []⟩,
    ⟨(some 16), none, .op (.bin .add .other (.r 15) (.k (i64 1))), []⟩,
    ⟨(some 5), none, .op (.move (.r 16)), []⟩]))))))
  (.seq (.ops [
    ⟨(some 4), none, .op (.move (.k (bo true))), []⟩])
  (.ret))))
theorem e12 : Try.f12.body.map (normCode Try.prog true Try.f12.ntmps) = some n12 := by kernel_rfl
theorem r12 : resOf Try.f12 = some [4] := by kernel_rfl

def n13 : NCode :=
  .seq (.ops [
    ⟨(some 4), none, .op (.move (.k (.sc (.int .u64 0)))), []⟩,
    ⟨(some 5), none, .op (.move (.k (.sc (.int .u64 0)))), []⟩])
  (.seq (.ops [
    ⟨(some 6), none, .op (.move (.k (.sc (.int .u64 0)))), []⟩])
  (.seq (.ops [
    ⟨(some 7), none, .op (.move (.k (.sc (.int .u64 0)))), []⟩])
  (.seq (.seq (.ops [
    ⟨(some 8), none, .op (.move (.k (i64 63))), []⟩])
  (.block 0 (.loop (.seq (.seq (.ops [
    ⟨(some 10), none, .op (.move (.r 8)), []⟩,
    ⟨(some 11), none, .op (.bin .geq .other (.r 10) (.k (i64 0))), []⟩])
  (.cond (.r 11)
  (.skip)
  (.exit 0)))
  (.seq (.block 1 (.seq (.ops [
    ⟨(some 14), none, .op (.move (.r 6)), []⟩,
    ⟨(some 15), none, .op (.bin .shl .other (.r 14) (.k (.sc (.int .u64 1)))), []⟩,
    ⟨(some 16), none, .op (.move (.r 7)), []⟩,
    ⟨(some 17), none, .op (.bin .shr .other (.r 16) (.k (.sc (.int .u64 63)))), []⟩,
    ⟨(some 18), none, .op (.bin .or .other (.r 15) (.r 17)), []⟩,
    ⟨(some 6), none, .op (.move (.r 18)), []⟩])
  (.seq (.ops [
    ⟨(some 19), none, .op (.move (.r 7)), []⟩,
    ⟨(some 20), none, .op (.bin .shl .other (.r 19) (.k (.sc (.int .u64 1)))), []⟩,
    ⟨(some 7), none, .op (.move (.r 20)), []⟩])
  (.seq (.ops [
    ⟨(some 21), none, .op (.move (.r 1)), []⟩,
    ⟨(some 22), none, .op (.move (.r 8)), []⟩,
    ⟨(some 23), none, .op (.conv .u64 (.r 22)), []⟩,
    ⟨(some 24), none, .op (.bin .shr .other (.r 21) (.r 23)), []⟩,
    ⟨(some 25), none, .op (.bin .and .other (.r 24) (.k (.sc (.int .u64 1)))), []⟩,
    ⟨(some 26), none, .op (.bin .eql .other (.r 25) (.k (.sc (.int .u64 1)))), []⟩])
  (.cond (.r 26)
  (.seq (.ops [
    ⟨(some 27), none, .op (.move (.r 7)), []⟩,
    ⟨(some 28), none, .op (.move (.r 0)), []⟩,
    ⟨(some 29), none, .op (.bin .add .other (.r 27) (.r 28)), []⟩,
    ⟨(some 9), none, .op (.move (.r 29)), []⟩])
  (.seq (.seq (.ops [
    ⟨(some 30), none, .op (.move (.r 9)), []⟩,
    ⟨(some 31), none, .op (.move (.r 7)), []⟩,
    ⟨(some 32), none, .op (.bin .lss .other (.r 30) (.r 31)), []⟩])
  (.cond (.r 32)
  (.ops [
    ⟨(some 33), none, .op (.move (.r 6)), []⟩,
    ⟨(some 34), none, .op (.bin .add .other (.r 33) (.k (.sc (.int .u64 1)))), []⟩,
    ⟨(some 6), none, .op (.move (.r 34)), []⟩])
  (.skip)))
  (.ops [
    ⟨(some 35), none, .op (.move (.r 9)), []⟩,
    ⟨(some 7), none, .op (.move (.r 35)), []⟩])))
  (.skip))))))
  (.ops [
    ⟨(some 12), none, .op (.move (.r 8)), []⟩,
    ⟨(some 13), none, .op (.bin .sub .other (.r 12) (.k (i64 1))), []⟩,
    ⟨(some 8), none, .op (.move (.r 13)), []⟩]))))))
  (.seq (.ops [
    ⟨(some 36), none, .op (.move (.r 6)), []⟩,
    ⟨(some 37), none, .op (.move (.r 7)), []⟩,
    ⟨(some 4), none, .op (.move (.r 36)), []⟩,
    ⟨(some 5), none, .op (.move (.r 37)), []⟩])
  (.ret)))))
theorem e13 : Try.f13.body.map (normCode Try.prog true Try.f13.ntmps) = some n13 := by kernel_rfl
theorem r13 : resOf Try.f13 = some [4, 5] := by kernel_rfl

def n14 : NCode :=
  .seq (.ops [
    ⟨(some 4), none, .op (.move (.k (.lst [] .nil))), []⟩,
    ⟨(some 5), none, .op (.move (.k (i64 0))), []⟩])
  (.seq (.block 0 (.seq (.ops [
    ⟨(some 9), none, .op (.move (.r 1)), []⟩,
    ⟨(some 10), none, .op (.bin .lss .other (.r 9) (.k (i64 1))), []⟩,
    ⟨(some 8), none, .op (.move (.r 10)), []⟩])
  (.cond (.r 8)
  (.seq (.ops [
    ⟨(some 4), none, .op (.move (.k (.lst [] .nil))), []⟩,
    ⟨(some 5), none, .op (.move (.k (i64 13))), []⟩])
  (.ret))
  (.seq (.ops [
    ⟨(some 12), none, .op (.move (.r 1)), []⟩,
    ⟨(some 13), none, .op (.bin .gtr .other (.r 12) (.k (i64 1024))), []⟩,
    ⟨(some 11), none, .op (.move (.r 13)), []⟩])
  (.cond (.r 11)
  (.seq (.ops [
    ⟨(some 4), none, .op (.move (.k (.lst [] .nil))), []⟩,
    ⟨(some 5), none, .op (.move (.k (i64 5))), []⟩])
  (.ret))
  (.skip))))))
  (.seq (.ops [
    ⟨(some 14), none, .op (.move (.r 1)), []⟩,
    ⟨(some 15), none, .op (.mkSlice 1 8 [(.sc (.int .u64 0))] (.r 14) (.r 14)), []⟩,
    ⟨(some 6), none, .op (.move (.r 15)), []⟩])
  (.seq (.seq (.ops [
    ⟨(some 16), none, .op (.move (.r 6)), []⟩,
    ⟨(some 17), none, .op (.lenL (.r 16)), []⟩,
    ⟨(some 18), none, .op (.move (.k (i64 0))), []⟩])
  (.block 1 (.loop (.seq (.ops [
    ⟨(some 19), none, .op (.bin .lss .other (.r 18) (.r 17)), []⟩])
  (.seq (.cond (.r 19)
  (.skip)
  (.exit 1))
  (.seq (.block 2 (.seq (.ops [
    ⟨(some 20), none, .op (.move (.r 18)), []⟩,
    ⟨(some 7), none, .op (.move (.r 20)), []⟩])
  (.ops [
    ⟨(some 21), none, .op (.move (.r 6)), []⟩,
    ⟨(some 22), none, .op (.move (.r 7)), []⟩,
    ⟨(some 23), none, .op (.idxAddr 1 (.r 21) (.r 22)), []⟩,
    ⟨none, none, .op (.store 1 (.r 23) (.k (.sc (.int .u64 1)))), []⟩])))
  (.ops [
    ⟨(some 24), none, .op (.bin .add .other (.r 18) (.k (i64 1))), []⟩,
    ⟨(some 18), none, .op (.move (.r 24)), []⟩])))))))
  (.seq (.ops [
    ⟨(some 25), none, .op (.move (.r 0)), []⟩,
    ⟨(some 26), none, .op (.move (.r 6)), []⟩,
    ⟨(some 27), none, .call (.k (.clos 10 [])) [(.r 25), (.r 26)], []⟩,
    ⟨(some 28), none, .op (.extract 0 (.r 27)), []⟩,
    ⟨(some 29), none, .op (.extract 1 (.r 27)), []⟩,
    ⟨(some 4), none, .op (.move (.r 28)), []⟩,
    ⟨(some 5), none, .op (.move (.r 29)), []⟩])
  (.ret)))))
theorem e14 : Try.f14.body.map (normCode Try.prog true Try.f14.ntmps) = some n14 := by kernel_rfl
theorem r14 : resOf Try.f14 = some [4, 5] := by kernel_rfl

def n15 : NCode :=
  .seq (.ops [
    ⟨(some 4), none, .op (.move (.k (.lst [] .nil))), []⟩,
    ⟨(some 5), none, .op (.move (.k (i64 0))), []⟩])
  (.seq (.seq (.ops [
    ⟨(some 8), none, .op (.move (.r 1)), []⟩,
    ⟨(some 9), none, .op (.bin .lss .other (.r 8) (.k (i64 1))), []⟩])
  (.cond (.r 9)
  (.seq (.ops [
    ⟨(some 4), none, .op (.move (.k (.lst [] .nil))), []⟩,
    ⟨(some 5), none, .op (.move (.k (i64 13))), []⟩])
  (.ret))
  (.skip)))
  (.seq (.seq (.ops [
    ⟨(some 10), none, .op (.move (.r 1)), []⟩,
    ⟨(some 11), none, .op (.bin .gtr .other (.r 10) (.k (i64 1024))), []⟩])
  (.cond (.r 11)
  (.seq (.ops [
    ⟨(some 4), none, .op (.move (.k (.lst [] .nil))), []⟩,
    ⟨(some 5), none, .op (.move (.k (i64 5))), []⟩])
  (.ret))
  (.skip)))
  (.seq (.ops [
    ⟨(some 6), none, .op (.move (.k (.lst [] .nil))), []⟩])
  (.seq (.seq (.ops [
    ⟨(some 7), none, .op (.move (.k (i64 0))), []⟩])
  (.block 0 (.loop (.seq (.seq (.ops [
    ⟨(some 12), none, .op (.move (.r 7)), []⟩,
    ⟨(some 13), none, .op (.move (.r 1)), []⟩,
    ⟨(some 14), none, .op (.bin .lss .other (.r 12) (.r 13)), []⟩])
  (.cond (.r 14)
  (.skip)
  (.exit 0)))
  (.seq (.block 1 (.ops [
    ⟨(some 17), none, .op (.move (.r 6)), []⟩,
    ⟨(some 18), none, .op (.buildSlice none [(.sc (.int .u64 0))] 1 [(0, (.k (.sc (.int .u64 1))))]), []⟩,
    ⟨(some 19), none, .op (.append true none 8 [(.sc (.int .u64 0))] (.r 17) (.r 18)), []⟩,
    ⟨(some 6), none, .op (.move (.r 19)), []⟩]))
  (.ops [
    ⟨(some 15), none, .op (.move (.r 7)), []⟩,
    ⟨(some 16), none, .op (.bin .add .other (.r 15) (.k (i64 1))), []⟩,
    ⟨(some 7), none, .op (.move (.r 16)), []⟩]))))))
  (.seq (.ops [
    ⟨(some 20), none, .op (.move (.r 0)), []⟩,
    ⟨(some 21), none, .op (.move (.r 6)), []⟩,
    ⟨(some 22), none, .call (.k (.clos 11 [])) [(.r 20), (.r 21)], []⟩,
    ⟨(some 23), none, .op (.extract 0 (.r 22)), []⟩,
    ⟨(some 24), none, .op (.extract 1 (.r 22)), []⟩,
    ⟨(some 4), none, .op (.move (.r 23)), []⟩,
    ⟨(some 5), none, .op (.move (.r 24)), []⟩])
  (.ret))))))
theorem e15 : Try.f15.body.map (normCode Try.prog true Try.f15.ntmps) = some n15 := by kernel_rfl
theorem r15 : resOf Try.f15 = some [4, 5] := by kernel_rfl

def n16 : NCode :=
  .seq (.ops [
    ⟨(some 6), none, .op (.move (.k (bo false))), []⟩])
  (.seq (.ops [
    ⟨(some 10), none, .op (.move (.r 0)), []⟩,
    ⟨(some 11), none, .op (.move (.r 1)), []⟩,
    ⟨(some 12), none, .call (.k (.clos 10 [])) [(.r 10), (.r 11)], []⟩,
    ⟨(some 9), none, .op (.move (.r 12)), []⟩,
    ⟨(some 13), none, .op (.extract 0 (.r 9)), []⟩,
    ⟨(some 14), none, .op (.extract 1 (.r 9)), []⟩,
    ⟨(some 7), none, .op (.move (.r 13)), []⟩,
    ⟨(some 8), none, .op (.move (.r 14)), []⟩])
  (.seq (.ops [
    ⟨(some 15), none, .op (.move (.r 8)), []⟩,
    ⟨(some 16), none, .op (.bin .eql .other (.r 15) (.k (i64 0))), []⟩,
    ⟨(some 17), none, .op (.move (.r 16)), []⟩,
    ⟨(some 18), (some (17, true)), .op (.move (.r 7)), []⟩,
    ⟨(some 19), (some (17, true)), .op (.move (.r 2)), []⟩,
    ⟨(some 20), (some (17, true)), .call (.k (.clos 21 [])) [(.r 18), (.r 19)], []⟩,
    ⟨(some 21), none, .op (.pick (.r 17) (.r 20) (.k (bo false))), []⟩,
    ⟨(some 6), none, .op (.move (.r 21)), []⟩])
  (.ret)))
theorem e16 : Try.f16.body.map (normCode Try.prog true Try.f16.ntmps) = some n16 := by kernel_rfl
theorem r16 : resOf Try.f16 = some [6] := by kernel_rfl

def n17 : NCode :=
  .seq (.ops [
    ⟨(some 6), none, .op (.move (.k (.sc (.int .u64 0)))), []⟩,
    ⟨(some 7), none, .op (.move (.k (.sc (.int .u64 0)))), []⟩,
    ⟨(some 8), none, .op (.move (.k (i64 0))), []⟩])
  (.seq (.ops [
    ⟨(some 14), none, .op (.move (.r 0)), []⟩,
    ⟨(some 15), none, .op (.move (.r 1)), []⟩,
    ⟨(some 16), none, .call (.k (.clos 22 [])) [(.r 14), (.r 15)], []⟩,
    ⟨(some 13), none, .op (.move (.r 16)), []⟩,
    ⟨(some 17), none, .op (.extract 0 (.r 13)), []⟩,
    ⟨(some 18), none, .op (.extract 1 (.r 13)), []⟩,
    ⟨(some 9), none, .op (.move (.r 17)), []⟩,
    ⟨(some 10), none, .op (.move (.r 18)), []⟩])
  (.seq (.block 0 (.seq (.ops [
    ⟨(some 20), none, .op (.move (.r 2)), []⟩,
    ⟨(some 21), none, .op (.bin .eql .other (.r 20) (.k (.sc (.int .u64 0)))), []⟩,
    ⟨(some 19), none, .op (.move (.r 21)), []⟩])
  (.cond (.r 19)
  (.seq (.ops [
    ⟨(some 6), none, .op (.move (.k (.sc (.int .u64 0)))), []⟩,
    ⟨(some 7), none, .op (.move (.k (.sc (.int .u64 0)))), []⟩,
    ⟨(some 8), none, .op (.move (.k (i64 9))), []⟩])
  (.ret))
  (.seq (.ops [
    ⟨(some 23), none, .op (.move (.r 9)), []⟩,
    ⟨(some 24), none, .op (.move (.r 2)), []⟩,
    ⟨(some 25), none, .op (.bin .geq .other (.r 23) (.r 24)), []⟩,
    ⟨(some 22), none, .op (.move (.r 25)), []⟩])
  (.cond (.r 22)
  (.seq (.ops [
    ⟨(some 6), none, .op (.move (.k (.sc (.int .u64 0)))), []⟩,
    ⟨(some 7), none, .op (.move (.k (.sc (.int .u64 0)))), []⟩,
    ⟨(some 8), none, .op (.move (.k (i64 8))), []⟩])
  (.ret))
  (.skip))))))
  (.seq (.ops [
    ⟨(some 27), none, .op (.move (.r 9)), []⟩,
    ⟨(some 28), none, .op (.move (.r 10)), []⟩,
    ⟨(some 29), none, .op (.move (.r 2)), []⟩,
    ⟨(some 30), none, .call (.k (.clos 23 [])) [(.r 27), (.r 28), (.r 29)], []⟩,
    ⟨(some 26), none, .op (.move (.r 30)), []⟩,
    ⟨(some 31), none, .op (.extract 0 (.r 26)), []⟩,
    ⟨(some 32), none, .op (.extract 1 (.r 26)), []⟩,
    ⟨(some 11), none, .op (.move (.r 31)), []⟩,
    ⟨(some 12), none, .op (.move (.r 32)), []⟩])
  (.seq (.ops [
    ⟨(some 33), none, .op (.move (.r 11)), []⟩,
    ⟨(some 34), none, .op (.move (.r 12)), []⟩,
    ⟨(some 6), none, .op (.move (.r 33)), []⟩,
    ⟨(some 7), none, .op (.move (.r 34)), []⟩,
    ⟨(some 8), none, .op (.move (.k (i64 0))), []⟩])
  (.ret)))))
theorem e17 : Try.f17.body.map (normCode Try.prog true Try.f17.ntmps) = some n17 := by kernel_rfl
theorem r17 : resOf Try.f17 = some [6, 7, 8] := by kernel_rfl

def n18 : NCode :=
  .ops [
    ⟨(some 4), none, .op (.move (.r 0)), []⟩,
    ⟨(some 5), none, .op (.move (.r 0)), []⟩,
    ⟨(some 6), none, .op (.lenL (.r 5)), []⟩,
    ⟨(some 7), none, .op (.move (.r 1)), []⟩,
    ⟨(some 8), none, .call (.k (.clos 24 [])) [(.r 4), (.r 6), (.r 7)], []⟩]
theorem e18 : Try.f18.body.map (normCode Try.prog true Try.f18.ntmps) = some n18 := by kernel_rfl
theorem r18 : resOf Try.f18 = some [] := by kernel_rfl

def n19 : NCode :=
  .seq (.ops [
    ⟨(some 2), none, .op (.box (.r 0)), []⟩,
    ⟨(some 3), none, .op (.box (.r 1)), []⟩,
    ⟨(some 4), none, .op (.move (.k (i64 0))), []⟩])
  (.seq (.block 0 (.seq (.ops [
    ⟨(some 6), none, .op (.fieldAddr 1 (.r 2)), []⟩,
    ⟨(some 7), none, .op (.load none (.r 6)), []⟩,
    ⟨(some 8), none, .op (.fieldAddr 1 (.r 3)), []⟩,
    ⟨(some 9), none, .op (.load none (.r 8)), []⟩,
    ⟨(some 10), none, .op (.bin .gtr .other (.r 7) (.r 9)), []⟩,
    ⟨(some 5), none, .op (.move (.r 10)), []⟩])
  (.cond (.r 5)
  (.seq (.ops [
    ⟨(some 4), none, .op (.move (.k (i64 (-1)))), []⟩])
  (.ret))
  (.seq (.ops [
    ⟨(some 12), none, .op (.fieldAddr 1 (.r 2)), []⟩,
    ⟨(some 13), none, .op (.load none (.r 12)), []⟩,
    ⟨(some 14), none, .op (.fieldAddr 1 (.r 3)), []⟩,
    ⟨(some 15), none, .op (.load none (.r 14)), []⟩,
    ⟨(some 16), none, .op (.bin .lss .other (.r 13) (.r 15)), []⟩,
    ⟨(some 11), none, .op (.move (.r 16)), []⟩])
  (.cond (.r 11)
  (.seq (.ops [
    ⟨(some 4), none, .op (.move (.k (i64 1))), []⟩])
  (.ret))
  (.skip))))))
  (.seq (.ops [
    ⟨(some 4), none, .op (.move (.k (i64 0))), []⟩])
  (.ret)))
theorem e19 : Try.f19.body.map (normCode Try.prog true Try.f19.ntmps) = some n19 := by kernel_rfl
theorem r19 : resOf Try.f19 = some [4] := by kernel_rfl

def n20 : NCode :=
  .seq (.ops [
    ⟨(some 6), none, .op (.move (.k (.sc (.int .u64 0)))), []⟩,
    ⟨(some 7), none, .op (.move (.k (.sc (.int .u64 0)))), []⟩,
    ⟨(some 8), none, .op (.move (.k (i64 0))), []⟩])
  (.seq (.seq (.ops [
    ⟨(some 15), none, .op (.move (.r 2)), []⟩,
    ⟨(some 16), none, .op (.bin .eql .other (.r 15) (.k (.sc (.int .u64 0)))), []⟩])
  (.cond (.r 16)
  (.seq (.ops [
    ⟨(some 6), none, .op (.move (.k (.sc (.int .u64 0)))), []⟩,
    ⟨(some 7), none, .op (.move (.k (.sc (.int .u64 0)))), []⟩,
    ⟨(some 8), none, .op (.move (.k (i64 9))), []⟩])
  (.ret))
  (.skip)))
  (.seq (.ops [
    ⟨(some 18), none, .op (.move (.r 0)), []⟩,
    ⟨(some 19), none, .op (.move (.r 1)), []⟩,
    ⟨(some 20), none, .call (.k (.clos 13 [])) [(.r 18), (.r 19)], []⟩,
    ⟨(some 17), none, .op (.move (.r 20)), []⟩,
    ⟨(some 21), none, .op (.extract 0 (.r 17)), []⟩,
    ⟨(some 22), none, .op (.extract 1 (.r 17)), []⟩,
    ⟨(some 9), none, .op (.move (.r 21)), []⟩,
    ⟨(some 10), none, .op (.move (.r 22)), []⟩])
  (.seq (.seq (.ops [
    ⟨(some 23), none, .op (.move (.r 9)), []⟩,
    ⟨(some 24), none, .op (.move (.r 2)), []⟩,
    ⟨(some 25), none, .op (.bin .geq .other (.r 23) (.r 24)), []⟩])
  (.cond (.r 25)
  (.seq (.ops [
    ⟨(some 6), none, .op (.move (.k (.sc (.int .u64 0)))), []⟩,
    ⟨(some 7), none, .op (.move (.k (.sc (.int .u64 0)))), []⟩,
    ⟨(some 8), none, .op (.move (.k (i64 8))), []⟩])
  (.ret))
  (.skip)))
  (.seq (.ops [
    ⟨(some 11), none, .op (.move (.k (.sc (.int .u64 0)))), []⟩])
  (.seq (.ops [
    ⟨(some 26), none, .op (.move (.r 9)), []⟩,
    ⟨(some 12), none, .op (.move (.r 26)), []⟩])
  (.seq (.seq (.ops [
    ⟨(some 13), none, .op (.move (.k (i64 63))), []⟩])
  (.block 0 (.loop (.seq (.seq (.ops [
    ⟨(some 27), none, .op (.move (.r 13)), []⟩,
    ⟨(some 28), none, .op (.bin .geq .other (.r 27) (.k (i64 0))), []⟩])
  (.cond (.r 28)
  (.skip)
  (.exit 0)))
  (.seq (.block 1 (.seq (.ops [
    ⟨(some 31), none, .op (.move (.r 12)), []⟩,
    ⟨(some 32), none, .op (.bin .shr .other (.r 31) (.k (.sc (.int .u64 63)))), []⟩,
    ⟨(some 14), none, .op (.move (.r 32)), []⟩])
  (.seq (.ops [
    ⟨(some 33), none, .op (.move (.r 12)), []⟩,
    ⟨(some 34), none, .op (.bin .shl .other (.r 33) (.k (.sc (.int .u64 1)))), []⟩,
    ⟨(some 35), none, .op (.move (.r 10)), []⟩,
    ⟨(some 36), none, .op (.move (.r 13)), []⟩,
    ⟨(some 37), none, .op (.conv .u64 (.r 36)), []⟩,
    ⟨(some 38), none, .op (.bin .shr .other (.r 35) (.r 37)), []⟩,
    ⟨(some 39), none, .op (.bin .and .other (.r 38) (.k (.sc (.int .u64 1)))), []⟩,
    ⟨(some 40), none, .op (.bin .or .other (.r 34) (.r 39)), []⟩,
    ⟨(some 12), none, .op (.move (.r 40)), []⟩])
  (.seq (.ops [
    ⟨(some 41), none, .op (.move (.r 11)), []⟩,
    ⟨(some 42), none, .op (.bin .shl .other (.r 41) (.k (.sc (.int .u64 1)))), []⟩,
    ⟨(some 11), none, .op (.move (.r 42)), []⟩])
  (.seq (.ops [
    ⟨(some 43), none, .op (.move (.r 14)), []⟩,
    ⟨(some 44), none, .op (.bin .eql .other (.r 43) (.k (.sc (.int .u64 1)))), []⟩,
    ⟨(some 45), none, .op (.move (.r 44)), []⟩,
    ⟨(some 46), (some (45, false)), .op (.move (.r 12)), []⟩,
    ⟨(some 47), (some (45, false)), .op (.move (.r 2)), []⟩,
    ⟨(some 48), (some (45, false)), .op (.bin .geq .other (.r 46) (.r 47)), []⟩,
    ⟨(some 49), none, .op (.pick (.r 45) (.k (bo true)) (.r 48)), []⟩])
  (.cond (.r 49)
  (.seq (.ops [
    ⟨(some 50), none, .op (.move (.r 12)), []⟩,
    ⟨(some 51), none, .op (.move (.r 2)), []⟩,
    ⟨(some 52), none, .op (.bin .sub .other (.r 50) (.r 51)), []⟩,
    ⟨(some 12), none, .op (.move (.r 52)), []⟩])
  (.ops [
    ⟨(some 53), none, .op (.move (.r 11)), []⟩,
    ⟨(some 54), none, .op (.bin .or .other (.r 53) (.k (.sc (.int .u64 1)))), []⟩,
    ⟨(some 11), none, .op (.move (.r 54)), []⟩]))
  (.skip)))))))
  (.ops [
    ⟨(some 29), none, .op (.move (.r 13)), []⟩,
    ⟨(some 30), none, .op (.bin .sub .other (.r 29) (.k (i64 1))), []⟩,
    ⟨(some 13), none, .op (.move (.r 30)), []⟩]))))))
  (.seq (.ops [
    ⟨(some 55), none, .op (.move (.r 11)), []⟩,
    ⟨(some 56), none, .op (.move (.r 12)), []⟩,
    ⟨(some 6), none, .op (.move (.r 55)), []⟩,
    ⟨(some 7), none, .op (.move (.r 56)), []⟩,
    ⟨(some 8), none, .op (.move (.k (i64 0))), []⟩])
  (.ret))))))))
theorem e20 : Try.f20.body.map (normCode Try.prog true Try.f20.ntmps) = some n20 := by kernel_rfl
theorem r20 : resOf Try.f20 = some [6, 7, 8] := by kernel_rfl

def n21 : NCode :=
  .seq (.ops [
    ⟨(some 4), none, .op (.move (.k (bo false))), []⟩])
  (.seq (.seq (.ops [
    ⟨(some 6), none, .op (.move (.r 0)), []⟩,
    ⟨(some 7), none, .op (.lenL (.r 6)), []⟩,
    ⟨(some 8), none, .op (.move (.r 1)), []⟩,
    ⟨(some 9), none, .op (.lenL (.r 8)), []⟩,
    ⟨(some 10), none, .op (.bin .neq .other (.r 7) (.r 9)), []⟩])
  (.cond (.r 10)
  (.seq (.ops [
    ⟨(some 4), none, .op (.move (.k (bo false))), []⟩])
  (.ret))
  (.skip)))
  (.seq (.seq (.ops [
    ⟨(some 11), none, .op (.move (.r 0)), []⟩,
    ⟨(some 12), none, .op (.lenL (.r 11)), []⟩,
    ⟨(some 13), none, .op (.move (.k (i64 0))), []⟩])
  (.block 0 (.loop (.seq (.ops [
    ⟨(some 14), none, .op (.bin .lss .other (.r 13) (.r 12)), []⟩])
  (.seq (.cond (.r 14)
  (.skip)
  (.exit 0))
  (.seq (.block 1 (.seq (.ops [
    ⟨(some 15), none, .op (.move (.r 13)), []⟩,
    ⟨(some 5), none, .op (.move (.r 15)), []⟩])
  (.seq (.ops [
    ⟨(some 16), none, .op (.move (.r 0)), []⟩,
    ⟨(some 17), none, .op (.move (.r 5)), []⟩,
    ⟨(some 18), none, .op (.idxAddr 1 (.r 16) (.r 17)), []⟩,
    ⟨(some 19), none, .op (.load none (.r 18)), []⟩,
    ⟨(some 20), none, .op (.move (.r 1)), []⟩,
    ⟨(some 21), none, .op (.move (.r 5)), []⟩,
    ⟨(some 22), none, .op (.idxAddr 1 (.r 20) (.r 21)), []⟩,
    ⟨(some 23), none, .op (.load none (.r 22)), []⟩,
    ⟨(some 24), none, .op (.bin .neq .other (.r 19) (.r 23)), []⟩])
  (.cond (.r 24)
  (.seq (.ops [
    ⟨(some 4), none, .op (.move (.k (bo false))), []⟩])
  (.ret))
  (.skip)))))
  (.ops [
    ⟨(some 25), none, .op (.bin .add .other (.r 13) (.k (i64 1))), []⟩,
    ⟨(some 13), none, .op (.move (.r 25)), []⟩])))))))
  (.seq (.ops [
    ⟨(some 4), none, .op (.move (.k (bo true))), []⟩])
  (.ret))))
theorem e21 : Try.f21.body.map (normCode Try.prog true Try.f21.ntmps) = some n21 := by kernel_rfl
theorem r21 : resOf Try.f21 = some [4] := by kernel_rfl

def n22 : NCode :=
  .seq (.ops [
    ⟨(some 4), none, .op (.move (.k (.sc (.int .u64 0)))), []⟩,
    ⟨(some 5), none, .op (.move (.k (.sc (.int .u64 0)))), []⟩])
  (.seq (.ops [
    ⟨(some 14), none, .op (.move (.r 0)), []⟩,
    ⟨(some 15), none, .op (.bin .and .other (.r 14) (.k (.sc (.int .u64 4294967295)))), []⟩,
    ⟨(some 6), none, .op (.move (.r 15)), []⟩])
  (.seq (.ops [
    ⟨(some 16), none, .op (.move (.r 0)), []⟩,
    ⟨(some 17), none, .op (.bin .shr .other (.r 16) (.k (.sc (.int .u64 32)))), []⟩,
    ⟨(some 7), none, .op (.move (.r 17)), []⟩])
  (.seq (.ops [
    ⟨(some 18), none, .op (.move (.r 1)), []⟩,
    ⟨(some 19), none, .op (.bin .and .other (.r 18) (.k (.sc (.int .u64 4294967295)))), []⟩,
    ⟨(some 8), none, .op (.move (.r 19)), []⟩])
  (.seq (.ops [
    ⟨(some 20), none, .op (.move (.r 1)), []⟩,
    ⟨(some 21), none, .op (.bin .shr .other (.r 20) (.k (.sc (.int .u64 32)))), []⟩,
    ⟨(some 9), none, .op (.move (.r 21)), []⟩])
  (.seq (.ops [
    ⟨(some 22), none, .op (.move (.r 6)), []⟩,
    ⟨(some 23), none, .op (.move (.r 8)), []⟩,
    ⟨(some 24), none, .op (.bin .mul .other (.r 22) (.r 23)), []⟩,
    ⟨(some 10), none, .op (.move (.r 24)), []⟩])
  (.seq (.ops [
    ⟨(some 25), none, .op (.move (.r 7)), []⟩,
    ⟨(some 26), none, .op (.move (.r 8)), []⟩,
    ⟨(some 27), none, .op (.bin .mul .other (.r 25) (.r 26)), []⟩,
    ⟨(some 28), none, .op (.move (.r 10)), []⟩,
    ⟨(some 29), none, .op (.bin .shr .other (.r 28) (.k (.sc (.int .u64 32)))), []⟩,
    ⟨(some 30), none, .op (.bin .add .other (.r 27) (.r 29)), []⟩,
    ⟨(some 11), none, .op (.move (.r 30)), []⟩])
  (.seq (.ops [
    ⟨(some 31), none, .op (.move (.r 11)), []⟩,
    ⟨(some 32), none, .op (.bin .and .other (.r 31) (.k (.sc (.int .u64 4294967295)))), []⟩,
    ⟨(some 12), none, .op (.move (.r 32)), []⟩])
  (.seq (.ops [
    ⟨(some 33), none, .op (.move (.r 11)), []⟩,
    ⟨(some 34), none, .op (.bin .shr .other (.r 33) (.k (.sc (.int .u64 32)))), []⟩,
    ⟨(some 13), none, .op (.move (.r 34)), []⟩])
  (.seq (.ops [
    ⟨(some 35), none, .op (.move (.r 12)), []⟩,
    ⟨(some 36), none, .op (.move (.r 6)), []⟩,
    ⟨(some 37), none, .op (.move (.r 9)), []⟩,
    ⟨(some 38), none, .op (.bin .mul .other (.r 36) (.r 37)), []⟩,
    ⟨(some 39), none, .op (.bin .add .other (.r 35) (.r 38)), []⟩,
    ⟨(some 12), none, .op (.move (.r 39)), []⟩])
  (.seq (.ops [
    ⟨(some 40), none, .op (.move (.r 7)), []⟩,
    ⟨(some 41), none, .op (.move (.r 9)), []⟩,
    ⟨(some 42), none, .op (.bin .mul .other (.r 40) (.r 41)), []⟩,
    ⟨(some 43), none, .op (.move (.r 13)), []⟩,
    ⟨(some 44), none, .op (.bin .add .other (.r 42) (.r 43)), []⟩,
    ⟨(some 45), none, .op (.move (.r 12)), []⟩,
    ⟨(some 46), none, .op (.bin .shr .other (.r 45) (.k (.sc (.int .u64 32)))), []⟩,
    ⟨(some 47), none, .op (.bin .add .other (.r 44) (.r 46)), []⟩,
    ⟨(some 4), none, .op (.move (.r 47)), []⟩])
  (.seq (.ops [
    ⟨(some 48), none, .op (.move (.r 0)), []⟩,
    ⟨(some 49), none, .op (.move (.r 1)), []⟩,
    ⟨(some 50), none, .op (.bin .mul .other (.r 48) (.r 49)), []⟩,
    ⟨(some 5), none, .op (.move (.r 50)), []⟩])
  (.ret))))))))))))
theorem e22 : Try.f22.body.map (normCode Try.prog true Try.f22.ntmps) = some n22 := by kernel_rfl
theorem r22 : resOf Try.f22 = some [4, 5] := by kernel_rfl

def n23 : NCode :=
  .seq (.ops [
    ⟨(some 6), none, .op (.move (.k (.sc (.int .u64 0)))), []⟩,
    ⟨(some 7), none, .op (.move (.k (.sc (.int .u64 0)))), []⟩])
  (.seq (.seq (.ops [
    ⟨(some 19), none, .op (.move (.r 2)), []⟩,
    ⟨(some 20), none, .op (.bin .eql .other (.r 19) (.k (.sc (.int .u64 0)))), []⟩])
  (.cond (.r 20)
  (.ops [
    ⟨(some 21), none, .op (.load none .no), []⟩,
    ⟨none, none, .panic (.r 21), []⟩])
  (.skip)))
  (.seq (.seq (.ops [
    ⟨(some 22), none, .op (.move (.r 2)), []⟩,
    ⟨(some 23), none, .op (.move (.r 0)), []⟩,
    ⟨(some 24), none, .op (.bin .leq .other (.r 22) (.r 23)), []⟩])
  (.cond (.r 24)
  (.ops [
    ⟨(some 25), none, .op (.load none .no), []⟩,
    ⟨none, none, .panic (.r 25), []⟩])
  (.skip)))
  (.seq (.seq (.ops [
    ⟨(some 26), none, .op (.move (.r 0)), []⟩,
    ⟨(some 27), none, .op (.bin .eql .other (.r 26) (.k (.sc (.int .u64 0)))), []⟩])
  (.cond (.r 27)
  (.seq (.ops [
    ⟨(some 28), none, .op (.move (.r 1)), []⟩,
    ⟨(some 29), none, .op (.move (.r 2)), []⟩,
    ⟨(some 30), none, .op (.bin .quo .other (.r 28) (.r 29)), []⟩,
    ⟨(some 31), none, .op (.move (.r 1)), []⟩,
    ⟨(some 32), none, .op (.move (.r 2)), []⟩,
    ⟨(some 33), none, .op (.bin .rem .other (.r 31) (.r 32)), []⟩,
    ⟨(some 6), none, .op (.move (.r 30)), []⟩,
    ⟨(some 7), none, .op (.move (.r 33)), []⟩])
  (.ret))
  (.skip)))
  (.seq (.ops [
    ⟨(some 34), none, .op (.move (.r 2)), []⟩,
    ⟨(some 35), none, .call (.k (.clos 25 [])) [(.r 34)], []⟩,
    ⟨(some 36), none, .op (.conv .u64 (.r 35)), []⟩,
    ⟨(some 8), none, .op (.move (.r 36)), []⟩])
  (.seq (.ops [
    ⟨(some 37), none, .op (.move (.r 2)), []⟩,
    ⟨(some 38), none, .op (.move (.r 8)), []⟩,
    ⟨(some 39), none, .op (.bin .shl .other (.r 37) (.r 38)), []⟩,
    ⟨(some 2), none, .op (.move (.r 39)), []⟩])
  (.seq (.ops [
    ⟨(some 40), none, .op (.move (.r 2)), []⟩,
    ⟨(some 41), none, .op (.bin .shr .other (.r 40) (.k (.sc (.int .u64 32)))), []⟩,
    ⟨(some 9), none, .op (.move (.r 41)), []⟩])
  (.seq (.ops [
    ⟨(some 42), none, .op (.move (.r 2)), []⟩,
    ⟨(some 43), none, .op (.bin .and .other (.r 42) (.k (.sc (.int .u64 4294967295)))), []⟩,
    ⟨(some 10), none, .op (.move (.r 43)), []⟩])
  (.seq (.ops [
    ⟨(some 44), none, .op (.move (.r 0)), []⟩,
    ⟨(some 45), none, .op (.move (.r 8)), []⟩,
    ⟨(some 46), none, .op (.bin .shl .other (.r 44) (.r 45)), []⟩,
    ⟨(some 47), none, .op (.move (.r 1)), []⟩,
    ⟨(some 48), none, .op (.move (.r 8)), []⟩,
    ⟨(some 49), none, .op (.bin .sub .other (.k (.sc (.int .u64 64))) (.r 48)), []⟩,
    ⟨(some 50), none, .op (.bin .shr .other (.r 47) (.r 49)), []⟩,
    ⟨(some 51), none, .op (.bin .or .other (.r 46) (.r 50)), []⟩,
    ⟨(some 11), none, .op (.move (.r 51)), []⟩])
  (.seq (.ops [
    ⟨(some 52), none, .op (.move (.r 1)), []⟩,
    ⟨(some 53), none, .op (.move (.r 8)), []⟩,
    ⟨(some 54), none, .op (.bin .shl .other (.r 52) (.r 53)), []⟩,
    ⟨(some 12), none, .op (.move (.r 54)), []⟩])
  (.seq (.ops [
    ⟨(some 55), none, .op (.move (.r 12)), []⟩,
    ⟨(some 56), none, .op (.bin .shr .other (.r 55) (.k (.sc (.int .u64 32)))), []⟩,
    ⟨(some 13), none, .op (.move (.r 56)), []⟩])
  (.seq (.ops [
    ⟨(some 57), none, .op (.move (.r 12)), []⟩,
    ⟨(some 58), none, .op (.bin .and .other (.r 57) (.k (.sc (.int .u64 4294967295)))), []⟩,
    ⟨(some 14), none, .op (.move (.r 58)), []⟩])
  (.seq (.ops [
    ⟨(some 59), none, .op (.move (.r 11)), []⟩,
    ⟨(some 60), none, .op (.move (.r 9)), []⟩,
    ⟨(some 61), none, .op (.bin .quo .other (.r 59) (.r 60)), []⟩,
    ⟨(some 15), none, .op (.move (.r 61)), []⟩])
  (.seq (.ops [
    ⟨(some 62), none, .op (.move (.r 11)), []⟩,
    ⟨(some 63), none, .op (.move (.r 15)), []⟩,
    ⟨(some 64), none, .op (.move (.r 9)), []⟩,
    ⟨(some 65), none, .op (.bin .mul .other (.r 63) (.r 64)), []⟩,
    ⟨(some 66), none, .op (.bin .sub .other (.r 62) (.r 65)), []⟩,
    ⟨(some 16), none, .op (.move (.r 66)), []⟩])
  (.seq (.block 0 (.loop (.seq (.seq (.ops [
    ⟨(some 67), none, .op (.move (.r 15)), []⟩,
    ⟨(some 68), none, .op (.bin .geq .other (.r 67) (.k (.sc (.int .u64 4294967296)))), []⟩,
    ⟨(some 69), none, .op (.move (.r 68)), []⟩,
    ⟨(some 70), (some (69, false)), .op (.move (.r 15)), []⟩,
    ⟨(some 71), (some (69, false)), .op (.move (.r 10)), []⟩,
    ⟨(some 72), (some (69, false)), .op (.bin .mul .other (.r 70) (.r 71)), []⟩,
    ⟨(some 73), (some (69, false)), .op (.move (.r 16)), []⟩,
    ⟨(some 74), (some (69, false)), .op (.bin .mul .other (.k (.sc (.int .u64 4294967296))) (.r 73)), []⟩,
    ⟨(some 75), (some (69, false)), .op (.move (.r 13)), []⟩,
    ⟨(some 76), (some (69, false)), .op (.bin .add .other (.r 74) (.r 75)), []⟩,
    ⟨(some 77), (some (69, false)), .op (.bin .gtr .other (.r 72) (.r 76)), []⟩,
    ⟨(some 78), none, .op (.pick (.r 69) (.k (bo true)) (.r 77)), []⟩])
  (.cond (.r 78)
  (.skip)
  (.exit 0)))
  (.block 1 (.seq (.ops [
    ⟨(some 79), none, .op (.move (.r 15)), []⟩,
    ⟨(some 80), none, .op (.bin .sub .other (.r 79) (.k (.sc (.int .u64 1)))), []⟩,
    ⟨(some 15), none, .op (.move (.r 80)), []⟩])
  (.seq (.ops [
    ⟨(some 81), none, .op (.move (.r 16)), []⟩,
    ⟨(some 82), none, .op (.move (.r 9)), []⟩,
    ⟨(some 83), none, .op (.bin .add .other (.r 81) (.r 82)), []⟩,
    ⟨(some 16), none, .op (.move (.r 83)), []⟩])
  (.seq (.ops [
    ⟨(some 84), none, .op (.move (.r 16)), []⟩,
    ⟨(some 85), none, .op (.bin .geq .other (.r 84) (.k (.sc (.int .u64 4294967296)))), []⟩])
  (.cond (.r 85)
  (.exit 0)
  (.skip)))))))))
  (.seq (.ops [
    ⟨(some 86), none, .op (.move (.r 11)), []⟩,
    ⟨(some 87), none, .op (.bin .mul .other (.r 86) (.k (.sc (.int .u64 4294967296)))), []⟩,
    ⟨(some 88), none, .op (.move (.r 13)), []⟩,
    ⟨(some 89), none, .op (.bin .add .other (.r 87) (.r 88)), []⟩,
    ⟨(some 90), none, .op (.move (.r 15)), []⟩,
    ⟨(some 91), none, .op (.move (.r 2)), []⟩,
    ⟨(some 92), none, .op (.bin .mul .other (.r 90) (.r 91)), []⟩,
    ⟨(some 93), none, .op (.bin .sub .other (.r 89) (.r 92)), []⟩,
    ⟨(some 17), none, .op (.move (.r 93)), []⟩])
  (.seq (.ops [
    ⟨(some 94), none, .op (.move (.r 17)), []⟩,
    ⟨(some 95), none, .op (.move (.r 9)), []⟩,
    ⟨(some 96), none, .op (.bin .quo .other (.r 94) (.r 95)), []⟩,
    ⟨(some 18), none, .op (.move (.r 96)), []⟩])
  (.seq (.ops [
    ⟨(some 97), none, .op (.move (.r 17)), []⟩,
    ⟨(some 98), none, .op (.move (.r 18)), []⟩,
    ⟨(some 99), none, .op (.move (.r 9)), []⟩,
    ⟨(some 100), none, .op (.bin .mul .other (.r 98) (.r 99)), []⟩,
    ⟨(some 101), none, .op (.bin .sub .other (.r 97) (.r 100)), []⟩,
    ⟨(some 16), none, .op (.move (.r 101)), []⟩])
  (.seq (.block 2 (.loop (.seq (.seq (.ops [
    ⟨(some 102), none, .op (.move (.r 18)), []⟩,
    ⟨(some 103), none, .op (.bin .geq .other (.r 102) (.k (.sc (.int .u64 4294967296)))), []⟩,
    ⟨(some 104), none, .op (.move (.r 103)), []⟩,
    ⟨(some 105), (some (104, false)), .op (.move (.r 18)), []⟩,
    ⟨(some 106), (some (104, false)), .op (.move (.r 10)), []⟩,
    ⟨(some 107), (some (104, false)), .op (.bin .mul .other (.r 105) (.r 106)), []⟩,
    ⟨(some 108), (some (104, false)), .op (.move (.r 16)), []⟩,
    ⟨(some 109), (some (104, false)), .op (.bin .mul .other (.k (.sc (.int .u64 4294967296))) (.r 108)), []⟩,
    ⟨(some 110), (some (104, false)), .op (.move (.r 14)), []⟩,
    ⟨(some 111), (some (104, false)), .op (.bin .add .other (.r 109) (.r 110)), []⟩,
    ⟨(some 112), (some (104, false)), .op (.bin .gtr .other (.r 107) (.r 111)), []⟩,
    ⟨(some 113), none, .op (.pick (.r 104) (.k (bo true)) (.r 112)), []⟩])
  (.cond (.r 113)
  (.skip)
  (.exit 2)))
  (.block 3 (.seq (.ops [
    ⟨(some 114), none, .op (.move (.r 18)), []⟩,
    ⟨(some 115), none, .op (.bin .sub .other (.r 114) (.k (.sc (.int .u64 1)))), []⟩,
    ⟨(some 18), none, .op (.move (.r 115)), []⟩])
  (.seq (.ops [
    ⟨(some 116), none, .op (.move (.r 16)), []⟩,
    ⟨(some 117), none, .op (.move (.r 9)), []⟩,
    ⟨(some 118), none, .op (.bin .add .other (.r 116) (.r 117)), []⟩,
    ⟨(some 16), none, .op (.move (.r 118)), []⟩])
  (.seq (.ops [
    ⟨(some 119), none, .op (.move (.r 16)), []⟩,
    ⟨(some 120), none, .op (.bin .geq .other (.r 119) (.k (.sc (.int .u64 4294967296)))), []⟩])
  (.cond (.r 120)
  (.exit 2)
  (.skip)))))))))
  (.seq (.ops [
    ⟨(some 121), none, .op (.move (.r 15)), []⟩,
    ⟨(some 122), none, .op (.bin .mul .other (.r 121) (.k (.sc (.int .u64 4294967296)))), []⟩,
    ⟨(some 123), none, .op (.move (.r 18)), []⟩,
    ⟨(some 124), none, .op (.bin .add .other (.r 122) (.r 123)), []⟩,
    ⟨(some 125), none, .op (.move (.r 17)), []⟩,
    ⟨(some 126), none, .op (.bin .mul .other (.r 125) (.k (.sc (.int .u64 4294967296)))), []⟩,
    ⟨(some 127), none, .op (.move (.r 14)), []⟩,
    ⟨(some 128), none, .op (.bin .add .other (.r 126) (.r 127)), []⟩,
    ⟨(some 129), none, .op (.move (.r 18)), []⟩,
    ⟨(some 130), none, .op (.move (.r 2)), []⟩,
    ⟨(some 131), none, .op (.bin .mul .other (.r 129) (.r 130)), []⟩,
    ⟨(some 132), none, .op (.bin .sub .other (.r 128) (.r 131)), []⟩,
    ⟨(some 133), none, .op (.move (.r 8)), []⟩,
    ⟨(some 134), none, .op (.bin .shr .other (.r 132) (.r 133)), []⟩,
    ⟨(some 6), none, .op (.move (.r 124)), []⟩,
    ⟨(some 7), none, .op (.move (.r 134)), []⟩])
  (.ret))))))))))))))))))))
theorem e23 : Try.f23.body.map (normCode Try.prog true Try.f23.ntmps) = some n23 := by kernel_rfl
theorem r23 : resOf Try.f23 = some [6, 7] := by kernel_rfl

def n24 : NCode :=
  .seq (.ops [
    ⟨(some 6), none, .op (.move (.k (i64 20))), []⟩])
  (.seq (.ops [
    ⟨(some 10), none, .op (.move (.r 6)), []⟩,
    ⟨(some 7), none, .op (.move (.k (i64 0))), []⟩,
    ⟨(some 8), none, .op (.move (.r 10)), []⟩])
  (.seq (.block 0 (.loop (.seq (.seq (.ops [
    ⟨(some 11), none, .op (.move (.r 8)), []⟩,
    ⟨(some 12), none, .op (.move (.r 1)), []⟩,
    ⟨(some 13), none, .op (.bin .leq .other (.r 11) (.r 12)), []⟩])
  (.cond (.r 13)
  (.skip)
  (.exit 0)))
  (.block 1 (.seq (.ops [
    ⟨(some 14), none, .op (.move (.r 0)), []⟩,
    ⟨(some 15), none, .op (.move (.r 7)), []⟩,
    ⟨(some 16), none, .op (.move (.r 8)), []⟩,
    ⟨(some 17), none, .op (.move (.r 2)), []⟩,
    ⟨(some 18), none, .call (.k (.clos 26 [])) [(.r 14), (.r 15), (.r 16), (.r 17)], []⟩])
  (.seq (.ops [
    ⟨(some 19), none, .op (.move (.r 8)), []⟩,
    ⟨(some 7), none, .op (.move (.r 19)), []⟩])
  (.ops [
    ⟨(some 20), none, .op (.move (.r 8)), []⟩,
    ⟨(some 21), none, .op (.move (.r 6)), []⟩,
    ⟨(some 22), none, .op (.bin .add .other (.r 20) (.r 21)), []⟩,
    ⟨(some 8), none, .op (.move (.r 22)), []⟩])))))))
  (.seq (.ops [
    ⟨(some 23), none, .op (.move (.r 0)), []⟩,
    ⟨(some 24), none, .op (.move (.r 7)), []⟩,
    ⟨(some 25), none, .op (.move (.r 1)), []⟩,
    ⟨(some 26), none, .op (.move (.r 2)), []⟩,
    ⟨(some 27), none, .call (.k (.clos 26 [])) [(.r 23), (.r 24), (.r 25), (.r 26)], []⟩])
  (.block 2 (.loop (.seq (.seq (.ops [
    ⟨(some 28), none, .op (.move (.r 6)), []⟩,
    ⟨(some 29), none, .op (.move (.r 1)), []⟩,
    ⟨(some 30), none, .op (.bin .lss .other (.r 28) (.r 29)), []⟩])
  (.cond (.r 30)
  (.skip)
  (.exit 2)))
  (.block 3 (.seq (.ops [
    ⟨(some 31), none, .op (.move (.r 6)), []⟩,
    ⟨(some 32), none, .op (.bin .mul .other (.k (i64 2)) (.r 31)), []⟩,
    ⟨(some 7), none, .op (.move (.k (i64 0))), []⟩,
    ⟨(some 8), none, .op (.move (.r 32)), []⟩])
  (.seq (.block 4 (.loop (.seq (.seq (.ops [
    ⟨(some 33), none, .op (.move (.r 8)), []⟩,
    ⟨(some 34), none, .op (.move (.r 1)), []⟩,
    ⟨(some 35), none, .op (.bin .leq .other (.r 33) (.r 34)), []⟩])
  (.cond (.r 35)
  (.skip)
  (.exit 4)))
  (.block 5 (.seq (.ops [
    ⟨(some 36), none, .op (.move (.r 0)), []⟩,
    ⟨(some 37), none, .op (.move (.r 7)), []⟩,
    ⟨(some 38), none, .op (.move (.r 7)), []⟩,
    ⟨(some 39), none, .op (.move (.r 6)), []⟩,
    ⟨(some 40), none, .op (.bin .add .other (.r 38) (.r 39)), []⟩,
    ⟨(some 41), none, .op (.move (.r 8)), []⟩,
    ⟨(some 42), none, .op (.move (.r 2)), []⟩,
    ⟨(some 43), none, .call (.k (.clos 27 [])) [(.r 36), (.r 37), (.r 40), (.r 41), (.r 42)], []⟩])
  (.seq (.ops [
    ⟨(some 44), none, .op (.move (.r 8)), []⟩,
    ⟨(some 7), none, .op (.move (.r 44)), []⟩])
  (.ops [
    ⟨(some 45), none, .op (.move (.r 8)), []⟩,
    ⟨(some 46), none, .op (.move (.r 6)), []⟩,
    ⟨(some 47), none, .op (.bin .mul .other (.k (i64 2)) (.r 46)), []⟩,
    ⟨(some 48), none, .op (.bin .add .other (.r 45) (.r 47)), []⟩,
    ⟨(some 8), none, .op (.move (.r 48)), []⟩])))))))
  (.seq (.seq (.ops [
    ⟨(some 49), none, .op (.move (.r 7)), []⟩,
    ⟨(some 50), none, .op (.move (.r 6)), []⟩,
    ⟨(some 51), none, .op (.bin .add .other (.r 49) (.r 50)), []⟩,
    ⟨(some 9), none, .op (.move (.r 51)), []⟩])
  (.seq (.ops [
    ⟨(some 52), none, .op (.move (.r 9)), []⟩,
    ⟨(some 53), none, .op (.move (.r 1)), []⟩,
    ⟨(some 54), none, .op (.bin .lss .other (.r 52) (.r 53)), []⟩])
  (.cond (.r 54)
  (.ops [
    ⟨(some 55), none, .op (.move (.r 0)), []⟩,
    ⟨(some 56), none, .op (.move (.r 7)), []⟩,
    ⟨(some 57), none, .op (.move (.r 9)), []⟩,
    ⟨(some 58), none, .op (.move (.r 1)), []⟩,
    ⟨(some 59), none, .op (.move (.r 2)), []⟩,
    ⟨(some 60), none, .call (.k (.clos 27 [])) [(.r 55), (.r 56), (.r 57), (.r 58), (.r 59)], []⟩])
  (.skip))))
  (.ops [
    ⟨(some 61), none, .op (.move (.r 6)), []⟩,
    ⟨(some 62), none, .op (.bin .mul .other (.r 61) (.k (i64 2))), []⟩,
    ⟨(some 6), none, .op (.move (.r 62)), []⟩])))))))))))
theorem e24 : Try.f24.body.map (normCode Try.prog true Try.f24.ntmps) = some n24 := by kernel_rfl
theorem r24 : resOf Try.f24 = some [] := by kernel_rfl

def n25 : NCode :=
  .seq (.ops [
    ⟨(some 2), none, .op (.move (.k (i64 0))), []⟩])
  (.seq (.ops [
    ⟨(some 3), none, .op (.move (.r 0)), []⟩,
    ⟨(some 4), none, .call (.k (.clos 28 [])) [(.r 3)], []⟩,
    ⟨(some 5), none, .op (.bin .sub .other (.k (i64 64)) (.r 4)), []⟩,
    ⟨(some 2), none, .op (.move (.r 5)), []⟩])
  (.ret))
theorem e25 : Try.f25.body.map (normCode Try.prog true Try.f25.ntmps) = some n25 := by kernel_rfl
theorem r25 : resOf Try.f25 = some [2] := by kernel_rfl

def n26 : NCode :=
  .seq (.ops [
    ⟨(some 10), none, .op (.move (.r 1)), []⟩,
    ⟨(some 11), none, .op (.bin .add .other (.r 10) (.k (i64 1))), []⟩,
    ⟨(some 8), none, .op (.move (.r 11)), []⟩])
  (.block 0 (.loop (.seq (.seq (.ops [
    ⟨(some 12), none, .op (.move (.r 8)), []⟩,
    ⟨(some 13), none, .op (.move (.r 2)), []⟩,
    ⟨(some 14), none, .op (.bin .lss .other (.r 12) (.r 13)), []⟩])
  (.cond (.r 14)
  (.skip)
  (.exit 0)))
  (.seq (.block 1 (.seq (.ops [
    ⟨(some 17), none, .op (.move (.r 8)), []⟩,
    ⟨(some 9), none, .op (.move (.r 17)), []⟩])
  (.block 2 (.loop (.seq (.seq (.ops [
    ⟨(some 18), none, .op (.move (.r 9)), []⟩,
    ⟨(some 19), none, .op (.move (.r 1)), []⟩,
    ⟨(some 20), none, .op (.bin .gtr .other (.r 18) (.r 19)), []⟩,
    ⟨(some 21), none, .op (.move (.r 20)), []⟩,
    ⟨(some 22), (some (21, true)), .op (.move (.r 3)), []⟩,
    ⟨(some 23), (some (21, true)), .op (.move (.r 0)), []⟩,
    ⟨(some 24), (some (21, true)), .op (.move (.r 9)), []⟩,
    ⟨(some 25), (some (21, true)), .op (.idxAddr 2 (.r 23) (.r 24)), []⟩,
    ⟨(some 26), (some (21, true)), .op (.load (some 2) (.r 25)), []⟩,
    ⟨(some 27), (some (21, true)), .op (.move (.r 0)), []⟩,
    ⟨(some 28), (some (21, true)), .op (.move (.r 9)), []⟩,
    ⟨(some 29), (some (21, true)), .op (.bin .sub .other (.r 28) (.k (i64 1))), []⟩,
    ⟨(some 30), (some (21, true)), .op (.idxAddr 2 (.r 27) (.r 29)), []⟩,
    ⟨(some 31), (some (21, true)), .op (.load (some 2) (.r 30)), []⟩,
    ⟨(some 32), (some (21, true)), .call (.r 22) [(.r 26), (.r 31)], []⟩,
    ⟨(some 33), (some (21, true)), .op (.bin .lss .other (.r 32) (.k (i64 0))), []⟩,
    ⟨(some 34), none, .op (.pick (.r 21) (.r 33) (.k (bo false))), []⟩])
  (.cond (.r 34)
  (.skip)
  (.exit 2)))
  (.seq (.block 3 (.ops [
    ⟨(some 37), none, .op (.move (.r 0)), []⟩,
    ⟨(some 38), none, .op (.move (.r 9)), []⟩,
    ⟨(some 39), none, .op (.move (.r 0)), []⟩,
    ⟨(some 40), none, .op (.move (.r 9)), []⟩,
    ⟨(some 41), none, .op (.bin .sub .other (.r 40) (.k (i64 1))), []⟩,
    ⟨(some 42), none, .op (.move (.r 0)), []⟩,
    ⟨(some 43), none, .op (.move (.r 9)), []⟩,
    ⟨(some 44), none, .op (.bin .sub .other (.r 43) (.k (i64 1))), []⟩,
    ⟨(some 45), none, .op (.idxAddr 2 (.r 42) (.r 44)), []⟩,
    ⟨(some 46), none, .op (.load (some 2) (.r 45)), []⟩,
    ⟨(some 47), none, .op (.move (.r 0)), []⟩,
    ⟨(some 48), none, .op (.move (.r 9)), []⟩,
    ⟨(some 49), none, .op (.idxAddr 2 (.r 47) (.r 48)), []⟩,
    ⟨(some 50), none, .op (.load (some 2) (.r 49)), []⟩,
    ⟨(some 51), none, .op (.idxAddr 2 (.r 37) (.r 38)), []⟩,
    ⟨none, none, .op (.store 2 (.r 51) (.r 46)), []⟩,
    ⟨(some 52), none, .op (.idxAddr 2 (.r 39) (.r 41)), []⟩,
    ⟨none, none, .op (.store 2 (.r 52) (.r 50)), []⟩]))
  (.ops [
    ⟨(some 35), none, .op (.move (.r 9)), []⟩,
    ⟨(some 36), none, .op (.bin .sub .other (.r 35) (.k (i64 1))), []⟩,
    ⟨(some 9), none, .op (.move (.r 36)), []⟩])))))))
  (.ops [
    ⟨(some 15), none, .op (.move (.r 8)), []⟩,
    ⟨(some 16), none, .op (.bin .add .other (.r 15) (.k (i64 1))), []⟩,
    ⟨(some 8), none, .op (.move (.r 16)), []⟩])))))
theorem e26 : Try.f26.body.map (normCode Try.prog true Try.f26.ntmps) = some n26 := by kernel_rfl
theorem r26 : resOf Try.f26 = some [] := by kernel_rfl

def n27 : NCode :=
  .seq (.seq (.ops [
    ⟨(some 25), none, .op (.move (.r 2)), []⟩,
    ⟨(some 26), none, .op (.move (.r 1)), []⟩,
    ⟨(some 27), none, .op (.bin .sub .other (.r 25) (.r 26)), []⟩,
    ⟨(some 28), none, .op (.bin .eql .other (.r 27) (.k (i64 1))), []⟩])
  (.cond (.r 28)
  (.seq (.ops [
    ⟨(some 29), none, .op (.move (.r 2)), []⟩,
    ⟨(some 10), none, .op (.move (.r 29)), []⟩])
  (.seq (.ops [
    ⟨(some 30), none, .op (.move (.r 3)), []⟩,
    ⟨(some 11), none, .op (.move (.r 30)), []⟩])
  (.seq (.block 0 (.loop (.seq (.seq (.ops [
    ⟨(some 31), none, .op (.move (.r 10)), []⟩,
    ⟨(some 32), none, .op (.move (.r 11)), []⟩,
    ⟨(some 33), none, .op (.bin .lss .other (.r 31) (.r 32)), []⟩])
  (.cond (.r 33)
  (.skip)
  (.exit 0)))
  (.block 1 (.seq (.ops [
    ⟨(some 34), none, .op (.move (.r 10)), []⟩,
    ⟨(some 35), none, .op (.move (.r 11)), []⟩,
    ⟨(some 36), none, .op (.bin .add .other (.r 34) (.r 35)), []⟩,
    ⟨(some 37), none, .op (.conv .u64 (.r 36)), []⟩,
    ⟨(some 38), none, .op (.bin .shr .other (.r 37) (.k (.sc (.int .u64 1)))), []⟩,
    ⟨(some 39), none, .op (.conv .i64 (.r 38)), []⟩,
    ⟨(some 12), none, .op (.move (.r 39)), []⟩])
  (.seq (.ops [
    ⟨(some 40), none, .op (.move (.r 4)), []⟩,
    ⟨(some 41), none, .op (.move (.r 0)), []⟩,
    ⟨(some 42), none, .op (.move (.r 12)), []⟩,
    ⟨(some 43), none, .op (.idxAddr 2 (.r 41) (.r 42)), []⟩,
    ⟨(some 44), none, .op (.load (some 2) (.r 43)), []⟩,
    ⟨(some 45), none, .op (.move (.r 0)), []⟩,
    ⟨(some 46), none, .op (.move (.r 1)), []⟩,
    ⟨(some 47), none, .op (.idxAddr 2 (.r 45) (.r 46)), []⟩,
    ⟨(some 48), none, .op (.load (some 2) (.r 47)), []⟩,
    ⟨(some 49), none, .call (.r 40) [(.r 44), (.r 48)], []⟩,
    ⟨(some 50), none, .op (.bin .lss .other (.r 49) (.k (i64 0))), []⟩])
  (.cond (.r 50)
  (.ops [
    ⟨(some 51), none, .op (.move (.r 12)), []⟩,
    ⟨(some 52), none, .op (.bin .add .other (.r 51) (.k (i64 1))), []⟩,
    ⟨(some 10), none, .op (.move (.r 52)), []⟩])
  (.ops [
    ⟨(some 53), none, .op (.move (.r 12)), []⟩,
    ⟨(some 11), none, .op (.move (.r 53)), []⟩]))))))))
  (.seq (.seq (.ops [
    ⟨(some 54), none, .op (.move (.r 1)), []⟩,
    ⟨(some 13), none, .op (.move (.r 54)), []⟩])
  (.block 2 (.loop (.seq (.seq (.ops [
    ⟨(some 55), none, .op (.move (.r 13)), []⟩,
    ⟨(some 56), none, .op (.move (.r 10)), []⟩,
    ⟨(some 57), none, .op (.bin .sub .other (.r 56) (.k (i64 1))), []⟩,
    ⟨(some 58), none, .op (.bin .lss .other (.r 55) (.r 57)), []⟩])
  (.cond (.r 58)
  (.skip)
  (.exit 2)))
  (.seq (.block 3 (.ops [
    ⟨(some 61), none, .op (.move (.r 0)), []⟩,
    ⟨(some 62), none, .op (.move (.r 13)), []⟩,
    ⟨(some 63), none, .op (.move (.r 0)), []⟩,
    ⟨(some 64), none, .op (.move (.r 13)), []⟩,
    ⟨(some 65), none, .op (.bin .add .other (.r 64) (.k (i64 1))), []⟩,
    ⟨(some 66), none, .op (.move (.r 0)), []⟩,
    ⟨(some 67), none, .op (.move (.r 13)), []⟩,
    ⟨(some 68), none, .op (.bin .add .other (.r 67) (.k (i64 1))), []⟩,
    ⟨(some 69), none, .op (.idxAddr 2 (.r 66) (.r 68)), []⟩,
    ⟨(some 70), none, .op (.load (some 2) (.r 69)), []⟩,
    ⟨(some 71), none, .op (.move (.r 0)), []⟩,
    ⟨(some 72), none, .op (.move (.r 13)), []⟩,
    ⟨(some 73), none, .op (.idxAddr 2 (.r 71) (.r 72)), []⟩,
    ⟨(some 74), none, .op (.load (some 2) (.r 73)), []⟩,
    ⟨(some 75), none, .op (.idxAddr 2 (.r 61) (.r 62)), []⟩,
    ⟨none, none, .op (.store 2 (.r 75) (.r 70)), []⟩,
    ⟨(some 76), none, .op (.idxAddr 2 (.r 63) (.r 65)), []⟩,
    ⟨none, none, .op (.store 2 (.r 76) (.r 74)), []⟩]))
  (.ops [
    ⟨(some 59), none, .op (.move (.r 13)), []⟩,
    ⟨(some 60), none, .op (.bin .add .other (.r 59) (.k (i64 1))), []⟩,
    ⟨(some 13), none, .op (.move (.r 60)), []⟩]))))))
  (.ret)))))
  (.skip)))
  (.seq (.seq (.ops [
    ⟨(some 77), none, .op (.move (.r 3)), []⟩,
    ⟨(some 78), none, .op (.move (.r 2)), []⟩,
    ⟨(some 79), none, .op (.bin .sub .other (.r 77) (.r 78)), []⟩,
    ⟨(some 80), none, .op (.bin .eql .other (.r 79) (.k (i64 1))), []⟩])
  (.cond (.r 80)
  (.seq (.ops [
    ⟨(some 81), none, .op (.move (.r 1)), []⟩,
    ⟨(some 14), none, .op (.move (.r 81)), []⟩])
  (.seq (.ops [
    ⟨(some 82), none, .op (.move (.r 2)), []⟩,
    ⟨(some 15), none, .op (.move (.r 82)), []⟩])
  (.seq (.block 4 (.loop (.seq (.seq (.ops [
    ⟨(some 83), none, .op (.move (.r 14)), []⟩,
    ⟨(some 84), none, .op (.move (.r 15)), []⟩,
    ⟨(some 85), none, .op (.bin .lss .other (.r 83) (.r 84)), []⟩])
  (.cond (.r 85)
  (.skip)
  (.exit 4)))
  (.block 5 (.seq (.ops [
    ⟨(some 86), none, .op (.move (.r 14)), []⟩,
    ⟨(some 87), none, .op (.move (.r 15)), []⟩,
    ⟨(some 88), none, .op (.bin .add .other (.r 86) (.r 87)), []⟩,
    ⟨(some 89), none, .op (.conv .u64 (.r 88)), []⟩,
    ⟨(some 90), none, .op (.bin .shr .other (.r 89) (.k (.sc (.int .u64 1)))), []⟩,
    ⟨(some 91), none, .op (.conv .i64 (.r 90)), []⟩,
    ⟨(some 16), none, .op (.move (.r 91)), []⟩])
  (.seq (.ops [
    ⟨(some 92), none, .op (.move (.r 4)), []⟩,
    ⟨(some 93), none, .op (.move (.r 0)), []⟩,
    ⟨(some 94), none, .op (.move (.r 2)), []⟩,
    ⟨(some 95), none, .op (.idxAddr 2 (.r 93) (.r 94)), []⟩,
    ⟨(some 96), none, .op (.load (some 2) (.r 95)), []⟩,
    ⟨(some 97), none, .op (.move (.r 0)), []⟩,
    ⟨(some 98), none, .op (.move (.r 16)), []⟩,
    ⟨(some 99), none, .op (.idxAddr 2 (.r 97) (.r 98)), []⟩,
    ⟨(some 100), none, .op (.load (some 2) (.r 99)), []⟩,
    ⟨(some 101), none, .call (.r 92) [(.r 96), (.r 100)], []⟩,
    ⟨(some 102), none, .op (.bin .lss .other (.r 101) (.k (i64 0))), []⟩,
    ⟨(some 103), none, .op (.un .not (.r 102)), []⟩])
  (.cond (.r 103)
  (.ops [
    ⟨(some 104), none, .op (.move (.r 16)), []⟩,
    ⟨(some 105), none, .op (.bin .add .other (.r 104) (.k (i64 1))), []⟩,
    ⟨(some 14), none, .op (.move (.r 105)), []⟩])
  (.ops [
    ⟨(some 106), none, .op (.move (.r 16)), []⟩,
    ⟨(some 15), none, .op (.move (.r 106)), []⟩]))))))))
  (.seq (.seq (.ops [
    ⟨(some 107), none, .op (.move (.r 2)), []⟩,
    ⟨(some 17), none, .op (.move (.r 107)), []⟩])
  (.block 6 (.loop (.seq (.seq (.ops [
    ⟨(some 108), none, .op (.move (.r 17)), []⟩,
    ⟨(some 109), none, .op (.move (.r 14)), []⟩,
    ⟨(some 110), none, .op (.bin .gtr .other (.r 108) (.r 109)), []⟩])
  (.cond (.r 110)
  (.skip)
  (.exit 6)))
  (.seq (.block 7 (.ops [
    ⟨(some 113), none, .op (.move (.r 0)), []⟩,
    ⟨(some 114), none, .op (.move (.r 17)), []⟩,
    ⟨(some 115), none, .op (.move (.r 0)), []⟩,
    ⟨(some 116), none, .op (.move (.r 17)), []⟩,
    ⟨(some 117), none, .op (.bin .sub .other (.r 116) (.k (i64 1))), []⟩,
    ⟨(some 118), none, .op (.move (.r 0)), []⟩,
    ⟨(some 119), none, .op (.move (.r 17)), []⟩,
    ⟨(some 120), none, .op (.bin .sub .other (.r 119) (.k (i64 1))), []⟩,
    ⟨(some 121), none, .op (.idxAddr 2 (.r 118) (.r 120)), []⟩,
    ⟨(some 122), none, .op (.load (some 2) (.r 121)), []⟩,
    ⟨(some 123), none, .op (.move (.r 0)), []⟩,
    ⟨(some 124), none, .op (.move (.r 17)), []⟩,
    ⟨(some 125), none, .op (.idxAddr 2 (.r 123) (.r 124)), []⟩,
    ⟨(some 126), none, .op (.load (some 2) (.r 125)), []⟩,
    ⟨(some 127), none, .op (.idxAddr 2 (.r 113) (.r 114)), []⟩,
    ⟨none, none, .op (.store 2 (.r 127) (.r 122)), []⟩,
    ⟨(some 128), none, .op (.idxAddr 2 (.r 115) (.r 117)), []⟩,
    ⟨none, none, .op (.store 2 (.r 128) (.r 126)), []⟩]))
  (.ops [
    ⟨(some 111), none, .op (.move (.r 17)), []⟩,
    ⟨(some 112), none, .op (.bin .sub .other (.r 111) (.k (i64 1))), []⟩,
    ⟨(some 17), none, .op (.move (.r 112)), []⟩]))))))
  (.ret)))))
  (.skip)))
  (.seq (.ops [
    ⟨(some 129), none, .op (.move (.r 1)), []⟩,
    ⟨(some 130), none, .op (.move (.r 3)), []⟩,
    ⟨(some 131), none, .op (.bin .add .other (.r 129) (.r 130)), []⟩,
    ⟨(some 132), none, .op (.conv .u64 (.r 131)), []⟩,
    ⟨(some 133), none, .op (.bin .shr .other (.r 132) (.k (.sc (.int .u64 1)))), []⟩,
    ⟨(some 134), none, .op (.conv .i64 (.r 133)), []⟩,
    ⟨(some 18), none, .op (.move (.r 134)), []⟩])
  (.seq (.ops [
    ⟨(some 135), none, .op (.move (.r 18)), []⟩,
    ⟨(some 136), none, .op (.move (.r 2)), []⟩,
    ⟨(some 137), none, .op (.bin .add .other (.r 135) (.r 136)), []⟩,
    ⟨(some 19), none, .op (.move (.r 137)), []⟩])
  (.seq (.ops [
    ⟨(some 20), none, .op (.move (.k (i64 0))), []⟩,
    ⟨(some 21), none, .op (.move (.k (i64 0))), []⟩])
  (.seq (.seq (.ops [
    ⟨(some 138), none, .op (.move (.r 2)), []⟩,
    ⟨(some 139), none, .op (.move (.r 18)), []⟩,
    ⟨(some 140), none, .op (.bin .gtr .other (.r 138) (.r 139)), []⟩])
  (.cond (.r 140)
  (.seq (.ops [
    ⟨(some 141), none, .op (.move (.r 19)), []⟩,
    ⟨(some 142), none, .op (.move (.r 3)), []⟩,
    ⟨(some 143), none, .op (.bin .sub .other (.r 141) (.r 142)), []⟩,
    ⟨(some 20), none, .op (.move (.r 143)), []⟩])
  (.ops [
    ⟨(some 144), none, .op (.move (.r 18)), []⟩,
    ⟨(some 21), none, .op (.move (.r 144)), []⟩]))
  (.seq (.ops [
    ⟨(some 145), none, .op (.move (.r 1)), []⟩,
    ⟨(some 20), none, .op (.move (.r 145)), []⟩])
  (.ops [
    ⟨(some 146), none, .op (.move (.r 2)), []⟩,
    ⟨(some 21), none, .op (.move (.r 146)), []⟩]))))
  (.seq (.ops [
    ⟨(some 147), none, .op (.move (.r 19)), []⟩,
    ⟨(some 148), none, .op (.bin .sub .other (.r 147) (.k (i64 1))), []⟩,
    ⟨(some 22), none, .op (.move (.r 148)), []⟩])
  (.seq (.block 8 (.loop (.seq (.seq (.ops [
    ⟨(some 149), none, .op (.move (.r 20)), []⟩,
    ⟨(some 150), none, .op (.move (.r 21)), []⟩,
    ⟨(some 151), none, .op (.bin .lss .other (.r 149) (.r 150)), []⟩])
  (.cond (.r 151)
  (.skip)
  (.exit 8)))
  (.block 9 (.seq (.ops [
    ⟨(some 152), none, .op (.move (.r 20)), []⟩,
    ⟨(some 153), none, .op (.move (.r 21)), []⟩,
    ⟨(some 154), none, .op (.bin .add .other (.r 152) (.r 153)), []⟩,
    ⟨(some 155), none, .op (.conv .u64 (.r 154)), []⟩,
    ⟨(some 156), none, .op (.bin .shr .other (.r 155) (.k (.sc (.int .u64 1)))), []⟩,
    ⟨(some 157), none, .op (.conv .i64 (.r 156)), []⟩,
    ⟨(some 23), none, .op (.move (.r 157)), []⟩])
  (.seq (.ops [
    ⟨(some 158), none, .op (.move (.r 4)), []⟩,
    ⟨(some 159), none, .op (.move (.r 0)), []⟩,
    ⟨(some 160), none, .op (.move (.r 22)), []⟩,
    ⟨(some 161), none, .op (.move (.r 23)), []⟩,
    ⟨(some 162), none, .op (.bin .sub .other (.r 160) (.r 161)), []⟩,
    ⟨(some 163), none, .op (.idxAddr 2 (.r 159) (.r 162)), []⟩,
    ⟨(some 164), none, .op (.load (some 2) (.r 163)), []⟩,
    ⟨(some 165), none, .op (.move (.r 0)), []⟩,
    ⟨(some 166), none, .op (.move (.r 23)), []⟩,
    ⟨(some 167), none, .op (.idxAddr 2 (.r 165) (.r 166)), []⟩,
    ⟨(some 168), none, .op (.load (some 2) (.r 167)), []⟩,
    ⟨(some 169), none, .call (.r 158) [(.r 164), (.r 168)], []⟩,
    ⟨(some 170), none, .op (.bin .lss .other (.r 169) (.k (i64 0))), []⟩,
    ⟨(some 171), none, .op (.un .not (.r 170)), []⟩])
  (.cond (.r 171)
  (.ops [
    ⟨(some 172), none, .op (.move (.r 23)), []⟩,
    ⟨(some 173), none, .op (.bin .add .other (.r 172) (.k (i64 1))), []⟩,
    ⟨(some 20), none, .op (.move (.r 173)), []⟩])
  (.ops [
    ⟨(some 174), none, .op (.move (.r 23)), []⟩,
    ⟨(some 21), none, .op (.move (.r 174)), []⟩]))))))))
  (.seq (.ops [
    ⟨(some 175), none, .op (.move (.r 19)), []⟩,
    ⟨(some 176), none, .op (.move (.r 20)), []⟩,
    ⟨(some 177), none, .op (.bin .sub .other (.r 175) (.r 176)), []⟩,
    ⟨(some 24), none, .op (.move (.r 177)), []⟩])
  (.seq (.seq (.ops [
    ⟨(some 178), none, .op (.move (.r 20)), []⟩,
    ⟨(some 179), none, .op (.move (.r 2)), []⟩,
    ⟨(some 180), none, .op (.bin .lss .other (.r 178) (.r 179)), []⟩,
    ⟨(some 181), none, .op (.move (.r 180)), []⟩,
    ⟨(some 182), (some (181, true)), .op (.move (.r 2)), []⟩,
    ⟨(some 183), (some (181, true)), .op (.move (.r 24)), []⟩,
    ⟨(some 184), (some (181, true)), .op (.bin .lss .other (.r 182) (.r 183)), []⟩,
    ⟨(some 185), none, .op (.pick (.r 181) (.r 184) (.k (bo false))), []⟩])
  (.cond (.r 185)
  (.ops [
    ⟨(some 186), none, .op (.move (.r 0)), []⟩,
    ⟨(some 187), none, .op (.move (.r 20)), []⟩,
    ⟨(some 188), none, .op (.move (.r 2)), []⟩,
    ⟨(some 189), none, .op (.move (.r 24)), []⟩,
    ⟨(some 190), none, .op (.move (.r 4)), []⟩,
    ⟨(some 191), none, .call (.k (.clos 29 [])) [(.r 186), (.r 187), (.r 188), (.r 189), (.r 190)], []⟩])
  (.skip)))
  (.seq (.seq (.ops [
    ⟨(some 192), none, .op (.move (.r 1)), []⟩,
    ⟨(some 193), none, .op (.move (.r 20)), []⟩,
    ⟨(some 194), none, .op (.bin .lss .other (.r 192) (.r 193)), []⟩,
    ⟨(some 195), none, .op (.move (.r 194)), []⟩,
    ⟨(some 196), (some (195, true)), .op (.move (.r 20)), []⟩,
    ⟨(some 197), (some (195, true)), .op (.move (.r 18)), []⟩,
    ⟨(some 198), (some (195, true)), .op (.bin .lss .other (.r 196) (.r 197)), []⟩,
    ⟨(some 199), none, .op (.pick (.r 195) (.r 198) (.k (bo false))), []⟩])
  (.cond (.r 199)
  (.ops [
    ⟨(some 200), none, .op (.move (.r 0)), []⟩,
    ⟨(some 201), none, .op (.move (.r 1)), []⟩,
    ⟨(some 202), none, .op (.move (.r 20)), []⟩,
    ⟨(some 203), none, .op (.move (.r 18)), []⟩,
    ⟨(some 204), none, .op (.move (.r 4)), []⟩,
    ⟨(some 205), none, .call (.k (.clos 27 [])) [(.r 200), (.r 201), (.r 202), (.r 203), (.r 204)], []⟩])
  (.skip)))
  (.seq (.ops [
    ⟨(some 206), none, .op (.move (.r 18)), []⟩,
    ⟨(some 207), none, .op (.move (.r 24)), []⟩,
    ⟨(some 208), none, .op (.bin .lss .other (.r 206) (.r 207)), []⟩,
    ⟨(some 209), none, .op (.move (.r 208)), []⟩,
    ⟨(some 210), (some (209, true)), .op (.move (.r 24)), []⟩,
    ⟨(some 211), (some (209, true)), .op (.move (.r 3)), []⟩,
    ⟨(some 212), (some (209, true)), .op (.bin .lss .other (.r 210) (.r 211)), []⟩,
    ⟨(some 213), none, .op (.pick (.r 209) (.r 212) (.k (bo false))), []⟩])
  (.cond (.r 213)
  (.ops [
    ⟨(some 214), none, .op (.move (.r 0)), []⟩,
    ⟨(some 215), none, .op (.move (.r 18)), []⟩,
    ⟨(some 216), none, .op (.move (.r 24)), []⟩,
    ⟨(some 217), none, .op (.move (.r 3)), []⟩,
    ⟨(some 218), none, .op (.move (.r 4)), []⟩,
    ⟨(some 219), none, .call (.k (.clos 27 [])) [(.r 214), (.r 215), (.r 216), (.r 217), (.r 218)], []⟩])
  (.skip)))))))))))))
theorem e27 : Try.f27.body.map (normCode Try.prog true Try.f27.ntmps) = some n27 := by kernel_rfl
theorem r27 : resOf Try.f27 = some [] := by kernel_rfl

def n28 : NCode :=
  .seq (.ops [
    ⟨(some 2), none, .op (.move (.k (i64 0))), []⟩])
  (.seq (.seq (.ops [
    ⟨(some 3), none, .op (.move (.r 0)), []⟩,
    ⟨(some 4), none, .op (.bin .geq .other (.r 3) (.k (.sc (.int .u64 4294967296)))), []⟩])
  (.cond (.r 4)
  (.seq (.ops [
    ⟨(some 5), none, .op (.move (.r 0)), []⟩,
    ⟨(some 6), none, .op (.bin .shr .other (.r 5) (.k (.sc (.int .u64 32)))), []⟩,
    ⟨(some 0), none, .op (.move (.r 6)), []⟩])
  (.ops [
    ⟨(some 2), none, .op (.move (.k (i64 32))), []⟩]))
  (.skip)))
  (.seq (.seq (.ops [
    ⟨(some 7), none, .op (.move (.r 0)), []⟩,
    ⟨(some 8), none, .op (.bin .geq .other (.r 7) (.k (.sc (.int .u64 65536)))), []⟩])
  (.cond (.r 8)
  (.seq (.ops [
    ⟨(some 9), none, .op (.move (.r 0)), []⟩,
    ⟨(some 10), none, .op (.bin .shr .other (.r 9) (.k (.sc (.int .u64 16)))), []⟩,
    ⟨(some 0), none, .op (.move (.r 10)), []⟩])
  (.ops [
    ⟨(some 11), none, .op (.move (.r 2)), []⟩,
    ⟨(some 12), none, .op (.bin .add .other (.r 11) (.k (i64 16))), []⟩,
    ⟨(some 2), none, .op (.move (.r 12)), []⟩]))
  (.skip)))
  (.seq (.seq (.ops [
    ⟨(some 13), none, .op (.move (.r 0)), []⟩,
    ⟨(some 14), none, .op (.bin .geq .other (.r 13) (.k (.sc (.int .u64 256)))), []⟩])
  (.cond (.r 14)
  (.seq (.ops [
    ⟨(some 15), none, .op (.move (.r 0)), []⟩,
    ⟨(some 16), none, .op (.bin .shr .other (.r 15) (.k (.sc (.int .u64 8)))), []⟩,
    ⟨(some 0), none, .op (.move (.r 16)), []⟩])
  (.ops [
    ⟨(some 17), none, .op (.move (.r 2)), []⟩,
    ⟨(some 18), none, .op (.bin .add .other (.r 17) (.k (i64 8))), []⟩,
    ⟨(some 2), none, .op (.move (.r 18)), []⟩]))
  (.skip)))
  (.seq (.ops [
    ⟨(some 19), none, .op (.move (.r 2)), []⟩,
    ⟨(some 20), none, .op (.move (.r 0)), []⟩,
    ⟨(some 21), none, .op (.conv .u8 (.r 20)), []⟩,
    ⟨(some 22), none, .op (.idxStr (.k (.sc (.string ⟨#[0, 1, 2, 2, 3, 3, 3, 3, 4, 4, 4, 4, 4, 4, 4, 4, 5, 5, 5, 5, 5, 5, 5, 5, 5, 5, 5, 5, 5, 5, 5, 5, 6, 6, 6, 6, 6, 6, 6, 6, 6, 6, 6, 6, 6, 6, 6, 6, 6, 6, 6, 6, 6, 6, 6, 6, 6, 6, 6, 6, 6, 6, 6, 6, 7, 7, 7, 7, 7, 7, 7, 7, 7, 7, 7, 7, 7, 7, 7, 7, 7, 7, 7, 7, 7, 7, 7, 7, 7, 7, 7, 7, 7, 7, 7, 7, 7, 7, 7, 7, 7, 7, 7, 7, 7, 7, 7, 7, 7, 7, 7, 7, 7, 7, 7, 7, 7, 7, 7, 7, 7, 7, 7, 7, 7, 7, 7, 7, 8, 8, 8, 8, 8, 8, 8, 8, 8, 8, 8, 8, 8, 8, 8, 8, 8, 8, 8, 8, 8, 8, 8, 8, 8, 8, 8, 8, 8, 8, 8, 8, 8, 8, 8, 8, 8, 8, 8, 8, 8, 8, 8, 8, 8, 8, 8, 8, 8, 8, 8, 8, 8, 8, 8, 8, 8, 8, 8, 8, 8, 8, 8, 8, 8, 8, 8, 8, 8, 8, 8, 8, 8, 8, 8, 8, 8, 8, 8, 8, 8, 8, 8, 8, 8, 8, 8, 8, 8, 8, 8, 8, 8, 8, 8, 8, 8, 8, 8, 8, 8, 8, 8, 8, 8, 8, 8, 8, 8, 8, 8, 8, 8, 8, 8, 8, 8, 8, 8, 8, 8, 8, 8, 8, 8, 8, 8, 8]⟩))) (.r 21)), []⟩,
    ⟨(some 23), none, .op (.conv .i64 (.r 22)), []⟩,
    ⟨(some 24), none, .op (.bin .add .other (.r 19) (.r 23)), []⟩,
    ⟨(some 2), none, .op (.move (.r 24)), []⟩])
  (.ret)))))
theorem e28 : Try.f28.body.map (normCode Try.prog true Try.f28.ntmps) = some n28 := by kernel_rfl
theorem r28 : resOf Try.f28 = some [2] := by kernel_rfl

def n29 : NCode :=
  .seq (.ops [
    ⟨(some 12), none, .op (.move (.r 2)), []⟩,
    ⟨(some 13), none, .op (.move (.r 1)), []⟩,
    ⟨(some 14), none, .op (.bin .sub .other (.r 12) (.r 13)), []⟩,
    ⟨(some 10), none, .op (.move (.r 14)), []⟩])
  (.seq (.ops [
    ⟨(some 15), none, .op (.move (.r 3)), []⟩,
    ⟨(some 16), none, .op (.move (.r 2)), []⟩,
    ⟨(some 17), none, .op (.bin .sub .other (.r 15) (.r 16)), []⟩,
    ⟨(some 11), none, .op (.move (.r 17)), []⟩])
  (.seq (.block 0 (.loop (.seq (.seq (.ops [
    ⟨(some 18), none, .op (.move (.r 10)), []⟩,
    ⟨(some 19), none, .op (.move (.r 11)), []⟩,
    ⟨(some 20), none, .op (.bin .neq .other (.r 18) (.r 19)), []⟩])
  (.cond (.r 20)
  (.skip)
  (.exit 0)))
  (.block 1 (.seq (.ops [
    ⟨(some 21), none, .op (.move (.r 10)), []⟩,
    ⟨(some 22), none, .op (.move (.r 11)), []⟩,
    ⟨(some 23), none, .op (.bin .gtr .other (.r 21) (.r 22)), []⟩])
  (.cond (.r 23)
  (.seq (.ops [
    ⟨(some 24), none, .op (.move (.r 0)), []⟩,
    ⟨(some 25), none, .op (.move (.r 2)), []⟩,
    ⟨(some 26), none, .op (.move (.r 10)), []⟩,
    ⟨(some 27), none, .op (.bin .sub .other (.r 25) (.r 26)), []⟩,
    ⟨(some 28), none, .op (.move (.r 2)), []⟩,
    ⟨(some 29), none, .op (.move (.r 11)), []⟩,
    ⟨(some 30), none, .op (.move (.r 4)), []⟩,
    ⟨(some 31), none, .call (.k (.clos 30 [])) [(.r 24), (.r 27), (.r 28), (.r 29), (.r 30)], []⟩])
  (.ops [
    ⟨(some 32), none, .op (.move (.r 10)), []⟩,
    ⟨(some 33), none, .op (.move (.r 11)), []⟩,
    ⟨(some 34), none, .op (.bin .sub .other (.r 32) (.r 33)), []⟩,
    ⟨(some 10), none, .op (.move (.r 34)), []⟩]))
  (.seq (.ops [
    ⟨(some 35), none, .op (.move (.r 0)), []⟩,
    ⟨(some 36), none, .op (.move (.r 2)), []⟩,
    ⟨(some 37), none, .op (.move (.r 10)), []⟩,
    ⟨(some 38), none, .op (.bin .sub .other (.r 36) (.r 37)), []⟩,
    ⟨(some 39), none, .op (.move (.r 2)), []⟩,
    ⟨(some 40), none, .op (.move (.r 11)), []⟩,
    ⟨(some 41), none, .op (.bin .add .other (.r 39) (.r 40)), []⟩,
    ⟨(some 42), none, .op (.move (.r 10)), []⟩,
    ⟨(some 43), none, .op (.bin .sub .other (.r 41) (.r 42)), []⟩,
    ⟨(some 44), none, .op (.move (.r 10)), []⟩,
    ⟨(some 45), none, .op (.move (.r 4)), []⟩,
    ⟨(some 46), none, .call (.k (.clos 30 [])) [(.r 35), (.r 38), (.r 43), (.r 44), (.r 45)], []⟩])
  (.ops [
    ⟨(some 47), none, .op (.move (.r 11)), []⟩,
    ⟨(some 48), none, .op (.move (.r 10)), []⟩,
    ⟨(some 49), none, .op (.bin .sub .other (.r 47) (.r 48)), []⟩,
    ⟨(some 11), none, .op (.move (.r 49)), []⟩]))))))))
  (.ops [
    ⟨(some 50), none, .op (.move (.r 0)), []⟩,
    ⟨(some 51), none, .op (.move (.r 2)), []⟩,
    ⟨(some 52), none, .op (.move (.r 10)), []⟩,
    ⟨(some 53), none, .op (.bin .sub .other (.r 51) (.r 52)), []⟩,
    ⟨(some 54), none, .op (.move (.r 2)), []⟩,
    ⟨(some 55), none, .op (.move (.r 10)), []⟩,
    ⟨(some 56), none, .op (.move (.r 4)), []⟩,
    ⟨(some 57), none, .call (.k (.clos 30 [])) [(.r 50), (.r 53), (.r 54), (.r 55), (.r 56)], []⟩])))
theorem e29 : Try.f29.body.map (normCode Try.prog true Try.f29.ntmps) = some n29 := by kernel_rfl
theorem r29 : resOf Try.f29 = some [] := by kernel_rfl

def n30 : NCode :=
  .seq (.ops [
    ⟨(some 10), none, .op (.move (.k (i64 0))), []⟩])
  (.block 0 (.loop (.seq (.seq (.ops [
    ⟨(some 11), none, .op (.move (.r 10)), []⟩,
    ⟨(some 12), none, .op (.move (.r 3)), []⟩,
    ⟨(some 13), none, .op (.bin .lss .other (.r 11) (.r 12)), []⟩])
  (.cond (.r 13)
  (.skip)
  (.exit 0)))
  (.seq (.block 1 (.ops [
    ⟨(some 16), none, .op (.move (.r 0)), []⟩,
    ⟨(some 17), none, .op (.move (.r 1)), []⟩,
    ⟨(some 18), none, .op (.move (.r 10)), []⟩,
    ⟨(some 19), none, .op (.bin .add .other (.r 17) (.r 18)), []⟩,
    ⟨(some 20), none, .op (.move (.r 0)), []⟩,
    ⟨(some 21), none, .op (.move (.r 2)), []⟩,
    ⟨(some 22), none, .op (.move (.r 10)), []⟩,
    ⟨(some 23), none, .op (.bin .add .other (.r 21) (.r 22)), []⟩,
    ⟨(some 24), none, .op (.move (.r 0)), []⟩,
    ⟨(some 25), none, .op (.move (.r 2)), []⟩,
    ⟨(some 26), none, .op (.move (.r 10)), []⟩,
    ⟨(some 27), none, .op (.bin .add .other (.r 25) (.r 26)), []⟩,
    ⟨(some 28), none, .op (.idxAddr 2 (.r 24) (.r 27)), []⟩,
    ⟨(some 29), none, .op (.load (some 2) (.r 28)), []⟩,
    ⟨(some 30), none, .op (.move (.r 0)), []⟩,
    ⟨(some 31), none, .op (.move (.r 1)), []⟩,
    ⟨(some 32), none, .op (.move (.r 10)), []⟩,
    ⟨(some 33), none, .op (.bin .add .other (.r 31) (.r 32)), []⟩,
    ⟨(some 34), none, .op (.idxAddr 2 (.r 30) (.r 33)), []⟩,
    ⟨(some 35), none, .op (.load (some 2) (.r 34)), []⟩,
    ⟨(some 36), none, .op (.idxAddr 2 (.r 16) (.r 19)), []⟩,
    ⟨none, none, .op (.store 2 (.r 36) (.r 29)), []⟩,
    ⟨(some 37), none, .op (.idxAddr 2 (.r 20) (.r 23)), []⟩,
    ⟨none, none, .op (.store 2 (.r 37) (.r 35)), []⟩]))
  (.ops [
    ⟨(some 14), none, .op (.move (.r 10)), []⟩,
    ⟨(some 15), none, .op (.bin .add .other (.r 14) (.k (i64 1))), []⟩,
    ⟨(some 10), none, .op (.move (.r 15)), []⟩])))))
theorem e30 : Try.f30.body.map (normCode Try.prog true Try.f30.ntmps) = some n30 := by kernel_rfl
theorem r30 : resOf Try.f30 = some [] := by kernel_rfl

end Go.Proofs.Ytjegieklpeipaaa.Moi
