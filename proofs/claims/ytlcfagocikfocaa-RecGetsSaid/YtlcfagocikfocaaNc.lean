/- The small form of each function, as the machine reckons it. -/
import Derived.Test.YtlcfagocikfocaaMoiX
import Derived.Test.YtlcfagocikfocaaChecked
set_option linter.unusedVariables false
set_option maxRecDepth 100000
namespace Go.Proofs.Ytlcfagocikfocaa.Moi
open Go Go.RowKit
theorem mixed : Try.prog.follows .mixedOrders = true := Try.checked.mixed
abbrev iv (n : Int) : AV := .sc (.int .i64 n)
abbrev bl (l : List Int) : List AV := kl .u8 l
theorem bl_app {a b : List Int} : bl (a ++ b) = bl a ++ bl b := List.map_append
theorem bl_len {a : List Int} : (bl a).length = a.length := List.length_map ..
theorem bl_take {a : List Int} {n : Nat} : bl (a.take n) = (bl a).take n := List.map_take
theorem bl_drop {a : List Int} {n : Nat} : bl (a.drop n) = (bl a).drop n := List.map_drop

def n3 : NCode :=
  .seq (.ops [
    ⟨(some 2), none, .op (.move (.k (bo false))), []⟩])
  (.seq (.seq (.ops [
    ⟨(some 8), none, .op (.move (.r 0)), []⟩,
    ⟨(some 9), none, .op (.lenL (.r 8)), []⟩,
    ⟨(some 10), none, .op (.bin .gtr .other (.r 9) (.k (i64 1000))), []⟩])
  (.cond (.r 10)
  (.seq (.ops [
    ⟨(some 11), none, .call (.k (.clos 7 [])) [], []⟩,
    ⟨(some 2), none, .op (.move (.r 11)), []⟩])
  (.ret))
  (.skip)))
  (.seq (.ops [
    ⟨(some 12), none, .op (.move (.r 0)), []⟩,
    ⟨(some 13), none, .call (.k (.clos 8 [])) [(.r 12)], []⟩,
    ⟨(some 3), none, .op (.move (.r 13)), []⟩])
  (.seq (.ops [
    ⟨(some 15), none, .op (.move (.r 3)), []⟩,
    ⟨(some 16), none, .call (.k (.clos 9 [])) [(.r 15)], []⟩,
    ⟨(some 14), none, .op (.move (.r 16)), []⟩,
    ⟨(some 17), none, .op (.extract 0 (.r 14)), []⟩,
    ⟨(some 18), none, .op (.extract 1 (.r 14)), []⟩,
    ⟨(some 4), none, .op (.move (.r 17)), []⟩,
    ⟨(some 5), none, .op (.move (.r 18)), []⟩])
  (.seq (.ops [
    ⟨(some 20), none, .op (.move (.r 0)), []⟩,
    ⟨(some 21), none, .call (.k (.clos 10 [])) [(.r 20)], []⟩,
    ⟨(some 19), none, .op (.move (.r 21)), []⟩,
    ⟨(some 22), none, .op (.extract 0 (.r 19)), []⟩,
    ⟨(some 23), none, .op (.extract 1 (.r 19)), []⟩,
    ⟨(some 6), none, .op (.move (.r 22)), []⟩,
    ⟨(some 7), none, .op (.move (.r 23)), []⟩])
  (.seq (.seq (.ops [
    ⟨(some 24), none, .op (.move (.r 3)), []⟩,
    ⟨(some 25), none, .call (.k (.clos 11 [])) [(.r 24)], []⟩,
    ⟨(some 26), none, .op (.move (.r 0)), []⟩,
    ⟨(some 27), none, .call (.k (.clos 12 [])) [(.r 26)], []⟩,
    ⟨(some 28), none, .op (.bin .neq .other (.r 25) (.r 27)), []⟩,
    ⟨(some 29), none, .op (.move (.r 28)), []⟩,
    ⟨(some 30), (some (29, false)), .op (.move (.r 4)), []⟩,
    ⟨(some 31), (some (29, false)), .op (.b2s (.r 30)), []⟩,
    ⟨(some 32), (some (29, false)), .op (.move (.r 6)), []⟩,
    ⟨(some 33), (some (29, false)), .op (.b2s (.r 32)), []⟩,
    ⟨(some 34), (some (29, false)), .op (.bin .neq .other (.r 31) (.r 33)), []⟩,
    ⟨(some 35), none, .op (.pick (.r 29) (.k (bo true)) (.r 34)), []⟩,
    ⟨(some 36), none, .op (.move (.r 35)), []⟩,
    ⟨(some 37), (some (36, false)), .op (.move (.r 5)), []⟩,
    ⟨(some 38), (some (36, false)), .op (.move (.r 7)), []⟩,
    ⟨(some 39), (some (36, false)), .op (.bin .neq .other (.r 37) (.r 38)), []⟩,
    ⟨(some 40), none, .op (.pick (.r 36) (.k (bo true)) (.r 39)), []⟩])
  (.cond (.r 40)
  (.seq (.ops [
    ⟨(some 2), none, .op (.move (.k (bo false))), []⟩])
  (.ret))
  (.skip)))
  (.seq (.ops [
    ⟨(some 41), none, .op (.move (.r 4)), []⟩,
    ⟨(some 42), none, .call (.k (.clos 13 [])) [(.r 41)], []⟩])
  (.seq (.ops [
    ⟨(some 43), none, .op (.move (.r 3)), []⟩,
    ⟨(some 44), none, .op (.move (.r 0)), []⟩,
    ⟨(some 45), none, .call (.k (.clos 14 [])) [(.r 43), (.r 44)], []⟩,
    ⟨(some 46), none, .op (.move (.r 45)), []⟩,
    ⟨(some 47), (some (46, true)), .call (.k (.clos 7 [])) [], []⟩,
    ⟨(some 48), none, .op (.pick (.r 46) (.r 47) (.k (bo false))), []⟩,
    ⟨(some 2), none, .op (.move (.r 48)), []⟩])
  (.ret))))))))
theorem e3 : Try.f3.body.map (normCode Try.prog true Try.f3.ntmps) = some n3 := by kernel_rfl
theorem r3 : resOf Try.f3 = some [2] := by kernel_rfl

def n4 : NCode :=
  .seq (.ops [
    ⟨(some 4), none, .op (.move (.k (bo false))), []⟩])
  (.seq (.seq (.ops [
    ⟨(some 10), none, .op (.move (.r 1)), []⟩,
    ⟨(some 11), none, .op (.lenL (.r 10)), []⟩,
    ⟨(some 12), none, .op (.bin .gtr .other (.r 11) (.k (i64 1000))), []⟩])
  (.cond (.r 12)
  (.seq (.ops [
    ⟨(some 13), none, .call (.k (.clos 7 [])) [], []⟩,
    ⟨(some 4), none, .op (.move (.r 13)), []⟩])
  (.ret))
  (.skip)))
  (.seq (.ops [
    ⟨(some 15), none, .op (.move (.r 0)), []⟩,
    ⟨(some 16), none, .call (.k (.clos 9 [])) [(.r 15)], []⟩,
    ⟨(some 14), none, .op (.move (.r 16)), []⟩,
    ⟨(some 17), none, .op (.extract 0 (.r 14)), []⟩,
    ⟨(some 18), none, .op (.extract 1 (.r 14)), []⟩,
    ⟨(some 5), none, .op (.move (.r 17)), []⟩,
    ⟨(some 6), none, .op (.move (.r 18)), []⟩])
  (.seq (.seq (.ops [
    ⟨(some 19), none, .op (.move (.r 6)), []⟩,
    ⟨(some 20), none, .op (.bin .neq .other (.r 19) (.k (i64 0))), []⟩])
  (.cond (.r 20)
  (.seq (.ops [
    ⟨(some 21), none, .op (.move (.r 0)), []⟩,
    ⟨(some 22), none, .op (.lenL (.r 21)), []⟩,
    ⟨(some 23), none, .op (.bin .eql .other (.r 22) (.k (i64 0))), []⟩,
    ⟨(some 24), none, .op (.move (.r 23)), []⟩,
    ⟨(some 25), (some (24, false)), .op (.move (.r 0)), []⟩,
    ⟨(some 26), (some (24, false)), .op (.lenL (.r 25)), []⟩,
    ⟨(some 27), (some (24, false)), .op (.bin .gtr .other (.r 26) (.k (i64 250))), []⟩,
    ⟨(some 28), none, .op (.pick (.r 24) (.k (bo true)) (.r 27)), []⟩,
    ⟨(some 29), none, .op (.move (.r 28)), []⟩,
    ⟨(some 30), (some (29, true)), .call (.k (.clos 7 [])) [], []⟩,
    ⟨(some 31), none, .op (.pick (.r 29) (.r 30) (.k (bo false))), []⟩,
    ⟨(some 4), none, .op (.move (.r 31)), []⟩])
  (.ret))
  (.skip)))
  (.seq (.ops [
    ⟨(some 33), none, .op (.move (.r 5)), []⟩,
    ⟨(some 34), none, .call (.k (.clos 8 [])) [(.r 33)], []⟩,
    ⟨(some 35), none, .op (.move (.r 1)), []⟩,
    ⟨(some 36), none, .op (.append true none 1 [(.sc (.int .u8 0))] (.r 34) (.r 35)), []⟩,
    ⟨(some 37), none, .call (.k (.clos 15 [])) [(.r 36)], []⟩,
    ⟨(some 32), none, .op (.move (.r 37)), []⟩,
    ⟨(some 38), none, .op (.extract 0 (.r 32)), []⟩,
    ⟨(some 39), none, .op (.extract 1 (.r 32)), []⟩,
    ⟨(some 40), none, .op (.extract 2 (.r 32)), []⟩,
    ⟨(some 7), none, .op (.move (.r 38)), []⟩,
    ⟨(some 8), none, .op (.move (.r 39)), []⟩,
    ⟨(some 9), none, .op (.move (.r 40)), []⟩])
  (.seq (.ops [
    ⟨(some 41), none, .op (.move (.r 7)), []⟩,
    ⟨(some 42), none, .op (.b2s (.r 41)), []⟩,
    ⟨(some 43), none, .op (.move (.r 0)), []⟩,
    ⟨(some 44), none, .op (.b2s (.r 43)), []⟩,
    ⟨(some 45), none, .op (.bin .eql .other (.r 42) (.r 44)), []⟩,
    ⟨(some 46), none, .op (.move (.r 45)), []⟩,
    ⟨(some 47), (some (46, true)), .op (.move (.r 8)), []⟩,
    ⟨(some 48), (some (46, true)), .op (.move (.r 5)), []⟩,
    ⟨(some 49), (some (46, true)), .op (.lenL (.r 48)), []⟩,
    ⟨(some 50), (some (46, true)), .op (.bin .eql .other (.r 47) (.r 49)), []⟩,
    ⟨(some 51), none, .op (.pick (.r 46) (.r 50) (.k (bo false))), []⟩,
    ⟨(some 52), none, .op (.move (.r 51)), []⟩,
    ⟨(some 53), (some (52, true)), .op (.move (.r 9)), []⟩,
    ⟨(some 54), (some (52, true)), .op (.bin .eql .other (.r 53) (.k (i64 0))), []⟩,
    ⟨(some 55), none, .op (.pick (.r 52) (.r 54) (.k (bo false))), []⟩,
    ⟨(some 56), none, .op (.move (.r 55)), []⟩,
    ⟨(some 57), (some (56, true)), .call (.k (.clos 7 [])) [], []⟩,
    ⟨(some 58), none, .op (.pick (.r 56) (.r 57) (.k (bo false))), []⟩,
    ⟨(some 4), none, .op (.move (.r 58)), []⟩])
  (.ret))))))
theorem e4 : Try.f4.body.map (normCode Try.prog true Try.f4.ntmps) = some n4 := by kernel_rfl
theorem r4 : resOf Try.f4 = some [4] := by kernel_rfl

def n5 : NCode :=
  .seq (.ops [
    ⟨(some 2), none, .op (.move (.k (bo false))), []⟩])
  (.seq (.seq (.ops [
    ⟨(some 14), none, .op (.move (.r 0)), []⟩,
    ⟨(some 15), none, .op (.lenL (.r 14)), []⟩,
    ⟨(some 16), none, .op (.bin .gtr .other (.r 15) (.k (i64 3000))), []⟩])
  (.cond (.r 16)
  (.seq (.ops [
    ⟨(some 17), none, .call (.k (.clos 7 [])) [], []⟩,
    ⟨(some 2), none, .op (.move (.r 17)), []⟩])
  (.ret))
  (.skip)))
  (.seq (.ops [
    ⟨(some 18), none, .op (.move (.r 0)), []⟩,
    ⟨(some 19), none, .call (.k (.clos 8 [])) [(.r 18)], []⟩,
    ⟨(some 3), none, .op (.move (.r 19)), []⟩])
  (.seq (.ops [
    ⟨(some 21), none, .op (.move (.r 3)), []⟩,
    ⟨(some 22), none, .call (.k (.clos 15 [])) [(.r 21)], []⟩,
    ⟨(some 20), none, .op (.move (.r 22)), []⟩,
    ⟨(some 23), none, .op (.extract 0 (.r 20)), []⟩,
    ⟨(some 24), none, .op (.extract 1 (.r 20)), []⟩,
    ⟨(some 25), none, .op (.extract 2 (.r 20)), []⟩,
    ⟨(some 4), none, .op (.move (.r 23)), []⟩,
    ⟨(some 5), none, .op (.move (.r 24)), []⟩,
    ⟨(some 6), none, .op (.move (.r 25)), []⟩])
  (.seq (.ops [
    ⟨(some 27), none, .op (.move (.r 0)), []⟩,
    ⟨(some 28), none, .call (.k (.clos 16 [])) [(.r 27)], []⟩,
    ⟨(some 26), none, .op (.move (.r 28)), []⟩,
    ⟨(some 29), none, .op (.extract 0 (.r 26)), []⟩,
    ⟨(some 30), none, .op (.extract 1 (.r 26)), []⟩,
    ⟨(some 31), none, .op (.extract 2 (.r 26)), []⟩,
    ⟨(some 7), none, .op (.move (.r 29)), []⟩,
    ⟨(some 8), none, .op (.move (.r 30)), []⟩,
    ⟨(some 9), none, .op (.move (.r 31)), []⟩])
  (.seq (.ops [
    ⟨(some 33), none, .op (.move (.r 3)), []⟩,
    ⟨(some 34), none, .call (.k (.clos 17 [])) [(.r 33)], []⟩,
    ⟨(some 32), none, .op (.move (.r 34)), []⟩,
    ⟨(some 35), none, .op (.extract 0 (.r 32)), []⟩,
    ⟨(some 36), none, .op (.extract 1 (.r 32)), []⟩,
    ⟨(some 10), none, .op (.move (.r 35)), []⟩,
    ⟨(some 11), none, .op (.move (.r 36)), []⟩])
  (.seq (.ops [
    ⟨(some 38), none, .op (.move (.r 0)), []⟩,
    ⟨(some 39), none, .call (.k (.clos 18 [])) [(.r 38)], []⟩,
    ⟨(some 37), none, .op (.move (.r 39)), []⟩,
    ⟨(some 40), none, .op (.extract 0 (.r 37)), []⟩,
    ⟨(some 41), none, .op (.extract 1 (.r 37)), []⟩,
    ⟨(some 12), none, .op (.move (.r 40)), []⟩,
    ⟨(some 13), none, .op (.move (.r 41)), []⟩])
  (.seq (.ops [
    ⟨(some 42), none, .op (.move (.r 4)), []⟩,
    ⟨(some 43), none, .op (.b2s (.r 42)), []⟩,
    ⟨(some 44), none, .op (.move (.r 7)), []⟩,
    ⟨(some 45), none, .op (.b2s (.r 44)), []⟩,
    ⟨(some 46), none, .op (.bin .eql .other (.r 43) (.r 45)), []⟩,
    ⟨(some 47), none, .op (.move (.r 46)), []⟩,
    ⟨(some 48), (some (47, true)), .op (.move (.r 5)), []⟩,
    ⟨(some 49), (some (47, true)), .op (.move (.r 8)), []⟩,
    ⟨(some 50), (some (47, true)), .op (.bin .eql .other (.r 48) (.r 49)), []⟩,
    ⟨(some 51), none, .op (.pick (.r 47) (.r 50) (.k (bo false))), []⟩,
    ⟨(some 52), none, .op (.move (.r 51)), []⟩,
    ⟨(some 53), (some (52, true)), .op (.move (.r 6)), []⟩,
    ⟨(some 54), (some (52, true)), .op (.move (.r 9)), []⟩,
    ⟨(some 55), (some (52, true)), .op (.bin .eql .other (.r 53) (.r 54)), []⟩,
    ⟨(some 56), none, .op (.pick (.r 52) (.r 55) (.k (bo false))), []⟩,
    ⟨(some 57), none, .op (.move (.r 56)), []⟩,
    ⟨(some 58), (some (57, true)), .op (.move (.r 10)), []⟩,
    ⟨(some 59), (some (57, true)), .op (.move (.r 12)), []⟩,
    ⟨(some 60), (some (57, true)), .call (.k (.clos 19 [])) [(.r 58), (.r 59)], []⟩,
    ⟨(some 61), none, .op (.pick (.r 57) (.r 60) (.k (bo false))), []⟩,
    ⟨(some 62), none, .op (.move (.r 61)), []⟩,
    ⟨(some 63), (some (62, true)), .op (.move (.r 11)), []⟩,
    ⟨(some 64), (some (62, true)), .op (.move (.r 13)), []⟩,
    ⟨(some 65), (some (62, true)), .op (.bin .eql .other (.r 63) (.r 64)), []⟩,
    ⟨(some 66), none, .op (.pick (.r 62) (.r 65) (.k (bo false))), []⟩,
    ⟨(some 67), none, .op (.move (.r 66)), []⟩,
    ⟨(some 68), (some (67, true)), .op (.move (.r 3)), []⟩,
    ⟨(some 69), (some (67, true)), .op (.move (.r 0)), []⟩,
    ⟨(some 70), (some (67, true)), .call (.k (.clos 14 [])) [(.r 68), (.r 69)], []⟩,
    ⟨(some 71), none, .op (.pick (.r 67) (.r 70) (.k (bo false))), []⟩,
    ⟨(some 72), none, .op (.move (.r 71)), []⟩,
    ⟨(some 73), (some (72, true)), .call (.k (.clos 7 [])) [], []⟩,
    ⟨(some 74), none, .op (.pick (.r 72) (.r 73) (.k (bo false))), []⟩,
    ⟨(some 2), none, .op (.move (.r 74)), []⟩])
  (.ret))))))))
theorem e5 : Try.f5.body.map (normCode Try.prog true Try.f5.ntmps) = some n5 := by kernel_rfl
theorem r5 : resOf Try.f5 = some [2] := by kernel_rfl

def n6 : NCode :=
  .seq (.ops [
    ⟨(some 6), none, .op (.move (.k (bo false))), []⟩])
  (.seq (.ops [
    ⟨(some 17), none, .op (.move (.r 0)), []⟩,
    ⟨(some 18), none, .call (.k (.clos 9 [])) [(.r 17)], []⟩,
    ⟨(some 16), none, .op (.move (.r 18)), []⟩,
    ⟨(some 19), none, .op (.extract 0 (.r 16)), []⟩,
    ⟨(some 20), none, .op (.extract 1 (.r 16)), []⟩,
    ⟨(some 7), none, .op (.move (.r 19)), []⟩,
    ⟨(some 8), none, .op (.move (.r 20)), []⟩])
  (.seq (.seq (.ops [
    ⟨(some 21), none, .op (.move (.r 8)), []⟩,
    ⟨(some 22), none, .op (.bin .neq .other (.r 21) (.k (i64 0))), []⟩,
    ⟨(some 23), none, .op (.move (.r 22)), []⟩,
    ⟨(some 24), (some (23, false)), .op (.move (.r 1)), []⟩,
    ⟨(some 25), (some (23, false)), .op (.bin .lss .other (.r 24) (.k (i64 0))), []⟩,
    ⟨(some 26), none, .op (.pick (.r 23) (.k (bo true)) (.r 25)), []⟩,
    ⟨(some 27), none, .op (.move (.r 26)), []⟩,
    ⟨(some 28), (some (27, false)), .op (.move (.r 1)), []⟩,
    ⟨(some 29), (some (27, false)), .op (.move (.r 7)), []⟩,
    ⟨(some 30), (some (27, false)), .op (.lenL (.r 29)), []⟩,
    ⟨(some 31), (some (27, false)), .op (.bin .geq .other (.r 28) (.r 30)), []⟩,
    ⟨(some 32), none, .op (.pick (.r 27) (.k (bo true)) (.r 31)), []⟩,
    ⟨(some 33), none, .op (.move (.r 32)), []⟩,
    ⟨(some 34), (some (33, false)), .op (.move (.r 2)), []⟩,
    ⟨(some 35), (some (33, false)), .op (.bin .lss .other (.r 34) (.k (i64 0))), []⟩,
    ⟨(some 36), none, .op (.pick (.r 33) (.k (bo true)) (.r 35)), []⟩,
    ⟨(some 37), none, .op (.move (.r 36)), []⟩,
    ⟨(some 38), (some (37, false)), .op (.move (.r 2)), []⟩,
    ⟨(some 39), (some (37, false)), .op (.bin .gtr .other (.r 38) (.k (i64 400))), []⟩,
    ⟨(some 40), none, .op (.pick (.r 37) (.k (bo true)) (.r 39)), []⟩])
  (.cond (.r 40)
  (.seq (.ops [
    ⟨(some 41), none, .call (.k (.clos 7 [])) [], []⟩,
    ⟨(some 6), none, .op (.move (.r 41)), []⟩])
  (.ret))
  (.skip)))
  (.seq (.ops [
    ⟨(some 42), none, .op (.move (.r 7)), []⟩,
    ⟨(some 43), none, .op (.move (.r 1)), []⟩,
    ⟨(some 44), none, .op (.sliceL 1 (.r 42) none (some (.r 43)) none), []⟩,
    ⟨(some 45), none, .call (.k (.clos 8 [])) [(.r 44)], []⟩,
    ⟨(some 9), none, .op (.move (.r 45)), []⟩])
  (.seq (.seq (.ops [
    ⟨(some 10), none, .op (.move (.k (i64 0))), []⟩])
  (.block 0 (.loop (.seq (.seq (.ops [
    ⟨(some 46), none, .op (.move (.r 10)), []⟩,
    ⟨(some 47), none, .op (.move (.r 2)), []⟩,
    ⟨(some 48), none, .op (.bin .lss .other (.r 46) (.r 47)), []⟩])
  (.cond (.r 48)
  (.skip)
  (.exit 0)))
  (.seq (.block 1 (.ops [
    ⟨(some 51), none, .op (.move (.r 9)), []⟩,
    ⟨(some 52), none, .op (.buildSlice none [(.sc (.int .u8 0))] 1 [(0, (.k (.sc (.int .u8 0))))]), []⟩,
    ⟨(some 53), none, .op (.append true none 1 [(.sc (.int .u8 0))] (.r 51) (.r 52)), []⟩,
    ⟨(some 9), none, .op (.move (.r 53)), []⟩]))
  (.ops [
    ⟨(some 49), none, .op (.move (.r 10)), []⟩,
    ⟨(some 50), none, .op (.bin .add .other (.r 49) (.k (i64 1))), []⟩,
    ⟨(some 10), none, .op (.move (.r 50)), []⟩]))))))
  (.seq (.ops [
    ⟨(some 55), none, .op (.move (.r 9)), []⟩,
    ⟨(some 56), none, .call (.k (.clos 15 [])) [(.r 55)], []⟩,
    ⟨(some 54), none, .op (.move (.r 56)), []⟩,
    ⟨(some 57), none, .op (.extract 0 (.r 54)), []⟩,
    ⟨(some 58), none, .op (.extract 1 (.r 54)), []⟩,
    ⟨(some 59), none, .op (.extract 2 (.r 54)), []⟩,
    ⟨(some 11), none, .op (.move (.r 57)), []⟩,
    ⟨(some 12), none, .op (.move (.r 58)), []⟩,
    ⟨(some 13), none, .op (.move (.r 59)), []⟩])
  (.seq (.ops [
    ⟨(some 61), none, .op (.move (.r 9)), []⟩,
    ⟨(some 62), none, .call (.k (.clos 17 [])) [(.r 61)], []⟩,
    ⟨(some 60), none, .op (.move (.r 62)), []⟩,
    ⟨(some 63), none, .op (.extract 0 (.r 60)), []⟩,
    ⟨(some 64), none, .op (.extract 1 (.r 60)), []⟩,
    ⟨(some 14), none, .op (.move (.r 63)), []⟩,
    ⟨(some 15), none, .op (.move (.r 64)), []⟩])
  (.seq (.ops [
    ⟨(some 65), none, .op (.move (.r 13)), []⟩,
    ⟨(some 66), none, .op (.bin .neq .other (.r 65) (.k (i64 0))), []⟩,
    ⟨(some 67), none, .op (.move (.r 66)), []⟩,
    ⟨(some 68), (some (67, true)), .op (.move (.r 11)), []⟩,
    ⟨(some 69), (some (67, true)), .op (.lenL (.r 68)), []⟩,
    ⟨(some 70), (some (67, true)), .op (.bin .eql .other (.r 69) (.k (i64 0))), []⟩,
    ⟨(some 71), none, .op (.pick (.r 67) (.r 70) (.k (bo false))), []⟩,
    ⟨(some 72), none, .op (.move (.r 71)), []⟩,
    ⟨(some 73), (some (72, true)), .op (.move (.r 12)), []⟩,
    ⟨(some 74), (some (72, true)), .op (.bin .eql .other (.r 73) (.k (i64 0))), []⟩,
    ⟨(some 75), none, .op (.pick (.r 72) (.r 74) (.k (bo false))), []⟩,
    ⟨(some 76), none, .op (.move (.r 75)), []⟩,
    ⟨(some 77), (some (76, true)), .op (.move (.r 14)), []⟩,
    ⟨(some 78), (some (76, true)), .op (.lenL (.r 77)), []⟩,
    ⟨(some 79), (some (76, true)), .op (.bin .eql .other (.r 78) (.k (i64 0))), []⟩,
    ⟨(some 80), none, .op (.pick (.r 76) (.r 79) (.k (bo false))), []⟩,
    ⟨(some 81), none, .op (.move (.r 80)), []⟩,
    ⟨(some 82), (some (81, true)), .op (.move (.r 15)), []⟩,
    ⟨(some 83), (some (81, true)), .op (.bin .eql .other (.r 82) (.k (i64 0))), []⟩,
    ⟨(some 84), none, .op (.pick (.r 81) (.r 83) (.k (bo false))), []⟩,
    ⟨(some 85), none, .op (.move (.r 84)), []⟩,
    ⟨(some 86), (some (85, true)), .call (.k (.clos 7 [])) [], []⟩,
    ⟨(some 87), none, .op (.pick (.r 85) (.r 86) (.k (bo false))), []⟩,
    ⟨(some 6), none, .op (.move (.r 87)), []⟩])
  (.ret))))))))
theorem e6 : Try.f6.body.map (normCode Try.prog true Try.f6.ntmps) = some n6 := by kernel_rfl
theorem r6 : resOf Try.f6 = some [6] := by kernel_rfl

def n7 : NCode :=
  .seq (.ops [
    ⟨(some 0), none, .op (.move (.k (bo false))), []⟩])
  (.seq (.ops [
    ⟨(some 7), none, .op (.buildSlice none [(.sc (.int .u8 0))] 1 [(0, (.k (.sc (.int .u8 97))))]), []⟩,
    ⟨(some 8), none, .op (.twin (.r 7)), []⟩,
    ⟨(some 9), none, .call (.k (.clos 9 [])) [(.r 8)], []⟩,
    ⟨(some 6), none, .op (.move (.r 9)), []⟩,
    ⟨(some 10), none, .op (.extract 0 (.r 6)), []⟩,
    ⟨(some 11), none, .op (.extract 1 (.r 6)), []⟩,
    ⟨(some 1), none, .op (.move (.r 10)), []⟩,
    ⟨(some 2), none, .op (.move (.r 11)), []⟩])
  (.seq (.ops [
    ⟨(some 13), none, .op (.move (.r 1)), []⟩,
    ⟨(some 14), none, .call (.k (.clos 15 [])) [(.r 13)], []⟩,
    ⟨(some 12), none, .op (.move (.r 14)), []⟩,
    ⟨(some 15), none, .op (.extract 0 (.r 12)), []⟩,
    ⟨(some 16), none, .op (.extract 1 (.r 12)), []⟩,
    ⟨(some 17), none, .op (.extract 2 (.r 12)), []⟩,
    ⟨(some 3), none, .op (.move (.r 15)), []⟩,
    ⟨(some 4), none, .op (.move (.r 16)), []⟩,
    ⟨(some 5), none, .op (.move (.r 17)), []⟩])
  (.seq (.ops [
    ⟨(some 18), none, .op (.buildSlice none [(.sc (.int .u8 0))] 9 [(0, (.k (.sc (.int .u8 49)))), (1, (.k (.sc (.int .u8 50)))), (2, (.k (.sc (.int .u8 51)))), (3, (.k (.sc (.int .u8 52)))), (4, (.k (.sc (.int .u8 53)))), (5, (.k (.sc (.int .u8 54)))), (6, (.k (.sc (.int .u8 55)))), (7, (.k (.sc (.int .u8 56)))), (8, (.k (.sc (.int .u8 57))))]), []⟩,
    ⟨(some 19), none, .op (.twin (.r 18)), []⟩,
    ⟨(some 20), none, .call (.k (.clos 11 [])) [(.r 19)], []⟩,
    ⟨(some 21), none, .op (.bin .eql .other (.r 20) (.k (.sc (.int .u32 3421780262)))), []⟩,
    ⟨(some 22), none, .op (.move (.r 21)), []⟩,
    ⟨(some 23), (some (22, true)), .op (.move (.r 1)), []⟩,
    ⟨(some 24), (some (22, true)), .op (.b2s (.r 23)), []⟩,
    ⟨(some 25), (some (22, true)), .op (.bin .eql .other (.r 24) (.k (.sc (.string ⟨#[4, 97, 67, 190, 183, 232, 165]⟩)))), []⟩,
    ⟨(some 26), none, .op (.pick (.r 22) (.r 25) (.k (bo false))), []⟩,
    ⟨(some 27), none, .op (.move (.r 26)), []⟩,
    ⟨(some 28), (some (27, true)), .op (.move (.r 2)), []⟩,
    ⟨(some 29), (some (27, true)), .op (.bin .eql .other (.r 28) (.k (i64 0))), []⟩,
    ⟨(some 30), none, .op (.pick (.r 27) (.r 29) (.k (bo false))), []⟩,
    ⟨(some 31), none, .op (.move (.r 30)), []⟩,
    ⟨(some 32), (some (31, true)), .op (.move (.r 3)), []⟩,
    ⟨(some 33), (some (31, true)), .op (.b2s (.r 32)), []⟩,
    ⟨(some 34), (some (31, true)), .op (.bin .eql .other (.r 33) (.k (.sc (.string ⟨#[97]⟩)))), []⟩,
    ⟨(some 35), none, .op (.pick (.r 31) (.r 34) (.k (bo false))), []⟩,
    ⟨(some 36), none, .op (.move (.r 35)), []⟩,
    ⟨(some 37), (some (36, true)), .op (.move (.r 4)), []⟩,
    ⟨(some 38), (some (36, true)), .op (.bin .eql .other (.r 37) (.k (i64 7))), []⟩,
    ⟨(some 39), none, .op (.pick (.r 36) (.r 38) (.k (bo false))), []⟩,
    ⟨(some 40), none, .op (.move (.r 39)), []⟩,
    ⟨(some 41), (some (40, true)), .op (.move (.r 5)), []⟩,
    ⟨(some 42), (some (40, true)), .op (.bin .eql .other (.r 41) (.k (i64 0))), []⟩,
    ⟨(some 43), none, .op (.pick (.r 40) (.r 42) (.k (bo false))), []⟩,
    ⟨(some 44), none, .op (.move (.r 43)), []⟩,
    ⟨(some 45), none, .op (.pick (.r 44) (.k (bo true)) (.k (bo false))), []⟩,
    ⟨(some 0), none, .op (.move (.r 45)), []⟩])
  (.ret))))
theorem e7 : Try.f7.body.map (normCode Try.prog true Try.f7.ntmps) = some n7 := by kernel_rfl
theorem r7 : resOf Try.f7 = some [0] := by kernel_rfl

def n8 : NCode :=
  .seq (.ops [
    ⟨(some 2), none, .op (.move (.k (.lst [] .nil))), []⟩])
  (.seq (.ops [
    ⟨(some 3), none, .op (.move (.k (.lst [] .nil))), []⟩])
  (.seq (.ops [
    ⟨(some 4), none, .op (.move (.r 3)), []⟩,
    ⟨(some 5), none, .op (.move (.r 0)), []⟩,
    ⟨(some 6), none, .op (.append true none 1 [(.sc (.int .u8 0))] (.r 4) (.r 5)), []⟩,
    ⟨(some 3), none, .op (.move (.r 6)), []⟩])
  (.seq (.ops [
    ⟨(some 7), none, .op (.move (.r 3)), []⟩,
    ⟨(some 8), none, .op (.buildSlice none [(.sc (.int .u8 0))] 12 [(0, (.k (.sc (.int .u8 1)))), (1, (.k (.sc (.int .u8 2)))), (2, (.k (.sc (.int .u8 3)))), (3, (.k (.sc (.int .u8 4)))), (4, (.k (.sc (.int .u8 5)))), (5, (.k (.sc (.int .u8 6)))), (6, (.k (.sc (.int .u8 7)))), (7, (.k (.sc (.int .u8 8)))), (8, (.k (.sc (.int .u8 9)))), (9, (.k (.sc (.int .u8 10)))), (10, (.k (.sc (.int .u8 11)))), (11, (.k (.sc (.int .u8 12))))]), []⟩,
    ⟨(some 9), none, .op (.append true none 1 [(.sc (.int .u8 0))] (.r 7) (.r 8)), []⟩,
    ⟨(some 3), none, .op (.move (.r 9)), []⟩])
  (.seq (.ops [
    ⟨(some 10), none, .op (.move (.r 3)), []⟩,
    ⟨(some 11), none, .op (.move (.r 0)), []⟩,
    ⟨(some 12), none, .op (.lenL (.r 11)), []⟩,
    ⟨(some 13), none, .op (.sliceL 1 (.r 10) none (some (.r 12)) none), []⟩,
    ⟨(some 2), none, .op (.move (.r 13)), []⟩])
  (.ret)))))
theorem e8 : Try.f8.body.map (normCode Try.prog true Try.f8.ntmps) = some n8 := by kernel_rfl
theorem r8 : resOf Try.f8 = some [2] := by kernel_rfl

def n9 : NCode :=
  .seq (.ops [
    ⟨(some 2), none, .op (.move (.k (.lst [] .nil))), []⟩,
    ⟨(some 3), none, .op (.move (.k (i64 0))), []⟩])
  (.seq (.seq (.ops [
    ⟨(some 5), none, .op (.move (.r 0)), []⟩,
    ⟨(some 6), none, .op (.lenL (.r 5)), []⟩,
    ⟨(some 7), none, .op (.bin .eql .other (.r 6) (.k (i64 0))), []⟩,
    ⟨(some 8), none, .op (.move (.r 7)), []⟩,
    ⟨(some 9), (some (8, false)), .op (.move (.r 0)), []⟩,
    ⟨(some 10), (some (8, false)), .op (.lenL (.r 9)), []⟩,
    ⟨(some 11), (some (8, false)), .op (.bin .gtr .other (.r 10) (.k (i64 250))), []⟩,
    ⟨(some 12), none, .op (.pick (.r 8) (.k (bo true)) (.r 11)), []⟩])
  (.cond (.r 12)
  (.seq (.ops [
    ⟨(some 2), none, .op (.move (.k (.lst [] .nil))), []⟩,
    ⟨(some 3), none, .op (.move (.k (i64 5))), []⟩])
  (.ret))
  (.skip)))
  (.seq (.ops [
    ⟨(some 13), none, .op (.move (.r 0)), []⟩,
    ⟨(some 14), none, .op (.lenL (.r 13)), []⟩,
    ⟨(some 15), none, .op (.bin .add .other (.r 14) (.k (i64 1))), []⟩,
    ⟨(some 16), none, .op (.buildSlice none [(i64 0)] 1 [(0, (.r 15))]), []⟩,
    ⟨(some 17), none, .call (.k (.clos 20 [])) [(.r 16)], []⟩,
    ⟨(some 18), none, .op (.move (.r 0)), []⟩,
    ⟨(some 19), none, .op (.append true none 1 [(.sc (.int .u8 0))] (.r 17) (.r 18)), []⟩,
    ⟨(some 4), none, .op (.move (.r 19)), []⟩])
  (.seq (.ops [
    ⟨(some 20), none, .op (.move (.r 4)), []⟩,
    ⟨(some 21), none, .op (.move (.r 0)), []⟩,
    ⟨(some 22), none, .call (.k (.clos 21 [])) [(.r 21)], []⟩,
    ⟨(some 23), none, .op (.append true none 1 [(.sc (.int .u8 0))] (.r 20) (.r 22)), []⟩,
    ⟨(some 24), none, .op (.buildSlice none [(.sc (.int .u8 0))] 1 [(0, (.k (.sc (.int .u8 165))))]), []⟩,
    ⟨(some 25), none, .op (.append true none 1 [(.sc (.int .u8 0))] (.r 23) (.r 24)), []⟩,
    ⟨(some 2), none, .op (.move (.r 25)), []⟩,
    ⟨(some 3), none, .op (.move (.k (i64 0))), []⟩])
  (.ret))))
theorem e9 : Try.f9.body.map (normCode Try.prog true Try.f9.ntmps) = some n9 := by kernel_rfl
theorem r9 : resOf Try.f9 = some [2, 3] := by kernel_rfl

def n10 : NCode :=
  .seq (.ops [
    ⟨(some 2), none, .op (.move (.k (.lst [] .nil))), []⟩,
    ⟨(some 3), none, .op (.move (.k (i64 0))), []⟩])
  (.seq (.seq (.ops [
    ⟨(some 6), none, .op (.move (.r 0)), []⟩,
    ⟨(some 7), none, .op (.lenL (.r 6)), []⟩,
    ⟨(some 8), none, .op (.bin .lss .other (.r 7) (.k (i64 1))), []⟩,
    ⟨(some 9), none, .op (.move (.r 8)), []⟩,
    ⟨(some 10), (some (9, false)), .op (.move (.r 0)), []⟩,
    ⟨(some 11), (some (9, false)), .op (.lenL (.r 10)), []⟩,
    ⟨(some 12), (some (9, false)), .op (.bin .gtr .other (.r 11) (.k (i64 250))), []⟩,
    ⟨(some 13), none, .op (.pick (.r 9) (.k (bo true)) (.r 12)), []⟩])
  (.cond (.r 13)
  (.seq (.ops [
    ⟨(some 2), none, .op (.move (.k (.lst [] .nil))), []⟩,
    ⟨(some 3), none, .op (.move (.k (i64 5))), []⟩])
  (.ret))
  (.skip)))
  (.seq (.ops [
    ⟨(some 14), none, .op (.move (.r 0)), []⟩,
    ⟨(some 15), none, .op (.lenL (.r 14)), []⟩,
    ⟨(some 16), none, .op (.bin .add .other (.r 15) (.k (i64 1))), []⟩,
    ⟨(some 17), none, .call (.k (.clos 22 [])) [(.k (.lst [] .nil)), (.r 16)], []⟩,
    ⟨(some 4), none, .op (.move (.r 17)), []⟩])
  (.seq (.ops [
    ⟨(some 18), none, .op (.move (.r 4)), []⟩,
    ⟨(some 19), none, .op (.move (.r 0)), []⟩,
    ⟨(some 20), none, .op (.append true none 1 [(.sc (.int .u8 0))] (.r 18) (.r 19)), []⟩,
    ⟨(some 4), none, .op (.move (.r 20)), []⟩])
  (.seq (.ops [
    ⟨(some 21), none, .op (.move (.r 0)), []⟩,
    ⟨(some 22), none, .call (.k (.clos 12 [])) [(.r 21)], []⟩,
    ⟨(some 5), none, .op (.move (.r 22)), []⟩])
  (.seq (.ops [
    ⟨(some 23), none, .op (.move (.r 4)), []⟩,
    ⟨(some 24), none, .op (.move (.r 5)), []⟩,
    ⟨(some 25), none, .op (.conv .u8 (.r 24)), []⟩,
    ⟨(some 26), none, .op (.move (.r 5)), []⟩,
    ⟨(some 27), none, .op (.bin .shr .other (.r 26) (.k (.sc (.int .u64 8)))), []⟩,
    ⟨(some 28), none, .op (.conv .u8 (.r 27)), []⟩,
    ⟨(some 29), none, .op (.move (.r 5)), []⟩,
    ⟨(some 30), none, .op (.bin .shr .other (.r 29) (.k (.sc (.int .u64 16)))), []⟩,
    ⟨(some 31), none, .op (.conv .u8 (.r 30)), []⟩,
    ⟨(some 32), none, .op (.move (.r 5)), []⟩,
    ⟨(some 33), none, .op (.bin .shr .other (.r 32) (.k (.sc (.int .u64 24)))), []⟩,
    ⟨(some 34), none, .op (.conv .u8 (.r 33)), []⟩,
    ⟨(some 35), none, .op (.buildSlice none [(.sc (.int .u8 0))] 5 [(0, (.r 25)), (1, (.r 28)), (2, (.r 31)), (3, (.r 34)), (4, (.k (.sc (.int .u8 165))))]), []⟩,
    ⟨(some 36), none, .op (.append true none 1 [(.sc (.int .u8 0))] (.r 23) (.r 35)), []⟩,
    ⟨(some 2), none, .op (.move (.r 36)), []⟩,
    ⟨(some 3), none, .op (.move (.k (i64 0))), []⟩])
  (.ret))))))
theorem e10 : Try.f10.body.map (normCode Try.prog true Try.f10.ntmps) = some n10 := by kernel_rfl
theorem r10 : resOf Try.f10 = some [2, 3] := by kernel_rfl

def n11 : NCode :=
  .seq (.ops [
    ⟨(some 2), none, .op (.move (.k (.sc (.int .u32 0)))), []⟩])
  (.seq (.ops [
    ⟨(some 3), none, .op (.move (.k (.sc (.int .u32 4294967295)))), []⟩])
  (.seq (.seq (.ops [
    ⟨(some 6), none, .op (.move (.r 0)), []⟩,
    ⟨(some 7), none, .op (.lenL (.r 6)), []⟩,
    ⟨(some 8), none, .op (.move (.k (i64 0))), []⟩])
  (.block 0 (.loop (.seq (.ops [
    ⟨(some 9), none, .op (.bin .lss .other (.r 8) (.r 7)), []⟩])
  (.seq (.cond (.r 9)
  (.skip)
  (.exit 0))
  (.seq (.block 1 (.seq (.ops [
    ⟨(some 10), none, .op (.idxAddr 1 (.r 6) (.r 8)), []⟩,
    ⟨(some 11), none, .op (.load none (.r 10)), []⟩,
    ⟨(some 5), none, .op (.move (.r 11)), []⟩])
  (.seq (.ops [
    ⟨(some 12), none, .op (.move (.r 3)), []⟩,
    ⟨(some 13), none, .op (.move (.r 5)), []⟩,
    ⟨(some 14), none, .op (.conv .u32 (.r 13)), []⟩,
    ⟨(some 15), none, .op (.bin .xor .other (.r 12) (.r 14)), []⟩,
    ⟨(some 3), none, .op (.move (.r 15)), []⟩])
  (.seq (.ops [
    ⟨(some 16), none, .op (.move (.k (i64 0))), []⟩])
  (.block 2 (.loop (.seq (.ops [
    ⟨(some 17), none, .op (.bin .lss .other (.r 16) (.k (i64 8))), []⟩])
  (.seq (.cond (.r 17)
  (.skip)
  (.exit 2))
  (.seq (.block 3 (.ops [
    ⟨(some 18), none, .op (.move (.r 3)), []⟩,
    ⟨(some 19), none, .op (.bin .shr .other (.r 18) (.k (.sc (.int .u64 1)))), []⟩,
    ⟨(some 20), none, .op (.move (.r 3)), []⟩,
    ⟨(some 21), none, .op (.bin .and .other (.r 20) (.k (.sc (.int .u32 1)))), []⟩,
    ⟨(some 22), none, .op (.un .neg (.r 21)), []⟩,
    ⟨(some 23), none, .op (.bin .and .other (.k (.sc (.int .u32 3988292384))) (.r 22)), []⟩,
    ⟨(some 24), none, .op (.bin .xor .other (.r 19) (.r 23)), []⟩,
    ⟨(some 3), none, .op (.move (.r 24)), []⟩]))
  (.ops [
    ⟨(some 25), none, .op (.bin .add .other (.r 16) (.k (i64 1))), []⟩,
    ⟨(some 16), none, .op (.move (.r 25)), []⟩]))))))))))
  (.ops [
    ⟨(some 26), none, .op (.bin .add .other (.r 8) (.k (i64 1))), []⟩,
    ⟨(some 8), none, .op (.move (.r 26)), []⟩])))))))
  (.seq (.ops [
    ⟨(some 27), none, .op (.move (.r 3)), []⟩,
    ⟨(some 28), none, .op (.un .xor (.r 27)), []⟩,
    ⟨(some 2), none, .op (.move (.r 28)), []⟩])
  (.ret))))
theorem e11 : Try.f11.body.map (normCode Try.prog true Try.f11.ntmps) = some n11 := by kernel_rfl
theorem r11 : resOf Try.f11 = some [2] := by kernel_rfl

def n12 : NCode :=
  .seq (.ops [
    ⟨(some 2), none, .op (.move (.k (.sc (.int .u32 0)))), []⟩])
  (.seq (.ops [
    ⟨(some 3), none, .op (.move (.k (.sc (.int .u32 4294967295)))), []⟩])
  (.seq (.seq (.ops [
    ⟨(some 4), none, .op (.move (.k (i64 0))), []⟩])
  (.block 0 (.loop (.seq (.seq (.ops [
    ⟨(some 7), none, .op (.move (.r 4)), []⟩,
    ⟨(some 8), none, .op (.move (.r 0)), []⟩,
    ⟨(some 9), none, .op (.lenL (.r 8)), []⟩,
    ⟨(some 10), none, .op (.bin .lss .other (.r 7) (.r 9)), []⟩])
  (.cond (.r 10)
  (.skip)
  (.exit 0)))
  (.seq (.block 1 (.seq (.ops [
    ⟨(some 13), none, .op (.move (.r 3)), []⟩,
    ⟨(some 14), none, .op (.move (.r 0)), []⟩,
    ⟨(some 15), none, .op (.move (.r 4)), []⟩,
    ⟨(some 16), none, .op (.idxAddr 1 (.r 14) (.r 15)), []⟩,
    ⟨(some 17), none, .op (.load none (.r 16)), []⟩,
    ⟨(some 18), none, .op (.conv .u32 (.r 17)), []⟩,
    ⟨(some 19), none, .op (.bin .xor .other (.r 13) (.r 18)), []⟩,
    ⟨(some 3), none, .op (.move (.r 19)), []⟩])
  (.seq (.ops [
    ⟨(some 5), none, .op (.move (.k (i64 0))), []⟩])
  (.block 2 (.loop (.seq (.seq (.ops [
    ⟨(some 20), none, .op (.move (.r 5)), []⟩,
    ⟨(some 21), none, .op (.bin .lss .other (.r 20) (.k (i64 8))), []⟩])
  (.cond (.r 21)
  (.skip)
  (.exit 2)))
  (.seq (.block 3 (.seq (.ops [
    ⟨(some 24), none, .op (.move (.r 3)), []⟩,
    ⟨(some 25), none, .op (.bin .and .other (.r 24) (.k (.sc (.int .u32 1)))), []⟩,
    ⟨(some 6), none, .op (.move (.r 25)), []⟩])
  (.seq (.ops [
    ⟨(some 26), none, .op (.move (.r 3)), []⟩,
    ⟨(some 27), none, .op (.bin .shr .other (.r 26) (.k (.sc (.int .u64 1)))), []⟩,
    ⟨(some 3), none, .op (.move (.r 27)), []⟩])
  (.seq (.ops [
    ⟨(some 28), none, .op (.move (.r 6)), []⟩,
    ⟨(some 29), none, .op (.bin .eql .other (.r 28) (.k (.sc (.int .u32 1)))), []⟩])
  (.cond (.r 29)
  (.ops [
    ⟨(some 30), none, .op (.move (.r 3)), []⟩,
    ⟨(some 31), none, .op (.bin .xor .other (.r 30) (.k (.sc (.int .u32 3988292384)))), []⟩,
    ⟨(some 3), none, .op (.move (.r 31)), []⟩])
  (.skip))))))
  (.ops [
    ⟨(some 22), none, .op (.move (.r 5)), []⟩,
    ⟨(some 23), none, .op (.bin .add .other (.r 22) (.k (i64 1))), []⟩,
    ⟨(some 5), none, .op (.move (.r 23)), []⟩]))))))))
  (.ops [
    ⟨(some 11), none, .op (.move (.r 4)), []⟩,
    ⟨(some 12), none, .op (.bin .add .other (.r 11) (.k (i64 1))), []⟩,
    ⟨(some 4), none, .op (.move (.r 12)), []⟩]))))))
  (.seq (.ops [
    ⟨(some 32), none, .op (.move (.r 3)), []⟩,
    ⟨(some 33), none, .op (.un .xor (.r 32)), []⟩,
    ⟨(some 2), none, .op (.move (.r 33)), []⟩])
  (.ret))))
theorem e12 : Try.f12.body.map (normCode Try.prog true Try.f12.ntmps) = some n12 := by kernel_rfl
theorem r12 : resOf Try.f12 = some [2] := by kernel_rfl

def n13 : NCode :=
  .seq (.ops [
    ⟨(some 2), none, .op (.move (.k (i64 0))), []⟩])
  (.block 0 (.loop (.seq (.seq (.ops [
    ⟨(some 3), none, .op (.move (.r 2)), []⟩,
    ⟨(some 4), none, .op (.move (.r 0)), []⟩,
    ⟨(some 5), none, .op (.lenL (.r 4)), []⟩,
    ⟨(some 6), none, .op (.bin .lss .other (.r 3) (.r 5)), []⟩])
  (.cond (.r 6)
  (.skip)
  (.exit 0)))
  (.seq (.block 1 (.ops [
    ⟨(some 9), none, .op (.move (.r 0)), []⟩,
    ⟨(some 10), none, .op (.move (.r 2)), []⟩,
    ⟨(some 11), none, .op (.move (.r 0)), []⟩,
    ⟨(some 12), none, .op (.move (.r 2)), []⟩,
    ⟨(some 13), none, .op (.idxAddr 1 (.r 11) (.r 12)), []⟩,
    ⟨(some 14), none, .op (.load none (.r 13)), []⟩,
    ⟨(some 15), none, .op (.bin .xor .other (.r 14) (.k (.sc (.int .u8 255)))), []⟩,
    ⟨(some 16), none, .op (.idxAddr 1 (.r 9) (.r 10)), []⟩,
    ⟨none, none, .op (.store 1 (.r 16) (.r 15)), []⟩]))
  (.ops [
    ⟨(some 7), none, .op (.move (.r 2)), []⟩,
    ⟨(some 8), none, .op (.bin .add .other (.r 7) (.k (i64 1))), []⟩,
    ⟨(some 2), none, .op (.move (.r 8)), []⟩])))))
theorem e13 : Try.f13.body.map (normCode Try.prog true Try.f13.ntmps) = some n13 := by kernel_rfl
theorem r13 : resOf Try.f13 = some [] := by kernel_rfl

def n14 : NCode :=
  .seq (.ops [
    ⟨(some 4), none, .op (.move (.k (bo false))), []⟩])
  (.seq (.seq (.ops [
    ⟨(some 7), none, .op (.move (.r 0)), []⟩,
    ⟨(some 8), none, .op (.lenL (.r 7)), []⟩,
    ⟨(some 9), none, .op (.move (.r 1)), []⟩,
    ⟨(some 10), none, .op (.lenL (.r 9)), []⟩,
    ⟨(some 11), none, .op (.bin .neq .other (.r 8) (.r 10)), []⟩,
    ⟨(some 12), none, .op (.move (.r 11)), []⟩,
    ⟨(some 13), (some (12, false)), .op (.move (.r 0)), []⟩,
    ⟨(some 14), (some (12, false)), .op (.cap (.r 13)), []⟩,
    ⟨(some 15), (some (12, false)), .op (.move (.r 1)), []⟩,
    ⟨(some 16), (some (12, false)), .op (.lenL (.r 15)), []⟩,
    ⟨(some 17), (some (12, false)), .op (.bin .add .other (.r 16) (.k (i64 12))), []⟩,
    ⟨(some 18), (some (12, false)), .op (.bin .lss .other (.r 14) (.r 17)), []⟩,
    ⟨(some 19), none, .op (.pick (.r 12) (.k (bo true)) (.r 18)), []⟩])
  (.cond (.r 19)
  (.seq (.ops [
    ⟨(some 4), none, .op (.move (.k (bo false))), []⟩])
  (.ret))
  (.skip)))
  (.seq (.ops [
    ⟨(some 20), none, .op (.move (.r 0)), []⟩,
    ⟨(some 21), none, .op (.move (.r 1)), []⟩,
    ⟨(some 22), none, .op (.lenL (.r 21)), []⟩,
    ⟨(some 23), none, .op (.bin .add .other (.r 22) (.k (i64 12))), []⟩,
    ⟨(some 24), none, .op (.sliceL 1 (.r 20) none (some (.r 23)) none), []⟩,
    ⟨(some 5), none, .op (.move (.r 24)), []⟩])
  (.seq (.seq (.ops [
    ⟨(some 6), none, .op (.move (.k (i64 0))), []⟩])
  (.block 0 (.loop (.seq (.seq (.ops [
    ⟨(some 25), none, .op (.move (.r 6)), []⟩,
    ⟨(some 26), none, .op (.bin .lss .other (.r 25) (.k (i64 12))), []⟩])
  (.cond (.r 26)
  (.skip)
  (.exit 0)))
  (.seq (.block 1 (.seq (.ops [
    ⟨(some 29), none, .op (.move (.r 5)), []⟩,
    ⟨(some 30), none, .op (.move (.r 1)), []⟩,
    ⟨(some 31), none, .op (.lenL (.r 30)), []⟩,
    ⟨(some 32), none, .op (.move (.r 6)), []⟩,
    ⟨(some 33), none, .op (.bin .add .other (.r 31) (.r 32)), []⟩,
    ⟨(some 34), none, .op (.idxAddr 1 (.r 29) (.r 33)), []⟩,
    ⟨(some 35), none, .op (.load none (.r 34)), []⟩,
    ⟨(some 36), none, .op (.move (.r 6)), []⟩,
    ⟨(some 37), none, .op (.bin .add .other (.r 36) (.k (i64 1))), []⟩,
    ⟨(some 38), none, .op (.conv .u8 (.r 37)), []⟩,
    ⟨(some 39), none, .op (.bin .neq .other (.r 35) (.r 38)), []⟩])
  (.cond (.r 39)
  (.seq (.ops [
    ⟨(some 4), none, .op (.move (.k (bo false))), []⟩])
  (.ret))
  (.skip))))
  (.ops [
    ⟨(some 27), none, .op (.move (.r 6)), []⟩,
    ⟨(some 28), none, .op (.bin .add .other (.r 27) (.k (i64 1))), []⟩,
    ⟨(some 6), none, .op (.move (.r 28)), []⟩]))))))
  (.seq (.ops [
    ⟨(some 40), none, .op (.move (.r 0)), []⟩,
    ⟨(some 41), none, .op (.b2s (.r 40)), []⟩,
    ⟨(some 42), none, .op (.move (.r 1)), []⟩,
    ⟨(some 43), none, .op (.b2s (.r 42)), []⟩,
    ⟨(some 44), none, .op (.bin .eql .other (.r 41) (.r 43)), []⟩,
    ⟨(some 4), none, .op (.move (.r 44)), []⟩])
  (.ret)))))
theorem e14 : Try.f14.body.map (normCode Try.prog true Try.f14.ntmps) = some n14 := by kernel_rfl
theorem r14 : resOf Try.f14 = some [4] := by kernel_rfl

def n15 : NCode :=
  .seq (.ops [
    ⟨(some 2), none, .op (.move (.k (.lst [] .nil))), []⟩,
    ⟨(some 3), none, .op (.move (.k (i64 0))), []⟩,
    ⟨(some 4), none, .op (.move (.k (i64 0))), []⟩])
  (.seq (.seq (.ops [
    ⟨(some 11), none, .op (.move (.r 0)), []⟩,
    ⟨(some 12), none, .op (.lenL (.r 11)), []⟩,
    ⟨(some 13), none, .op (.bin .eql .other (.r 12) (.k (i64 0))), []⟩,
    ⟨(some 14), none, .op (.move (.r 13)), []⟩,
    ⟨(some 15), (some (14, false)), .op (.move (.r 0)), []⟩,
    ⟨(some 16), (some (14, false)), .op (.idxAddr 1 (.r 15) (.k (i64 0))), []⟩,
    ⟨(some 17), (some (14, false)), .op (.load none (.r 16)), []⟩,
    ⟨(some 18), (some (14, false)), .op (.bin .eql .other (.r 17) (.k (.sc (.int .u8 0)))), []⟩,
    ⟨(some 19), none, .op (.pick (.r 14) (.k (bo true)) (.r 18)), []⟩])
  (.cond (.r 19)
  (.seq (.ops [
    ⟨(some 2), none, .op (.move (.k (.lst [] .nil))), []⟩,
    ⟨(some 3), none, .op (.move (.k (i64 0))), []⟩,
    ⟨(some 4), none, .op (.move (.k (i64 10))), []⟩])
  (.ret))
  (.skip)))
  (.seq (.ops [
    ⟨(some 20), none, .op (.move (.r 0)), []⟩,
    ⟨(some 21), none, .op (.move (.r 0)), []⟩,
    ⟨(some 22), none, .op (.lenL (.r 21)), []⟩,
    ⟨(some 23), none, .op (.mn (.r 22) (.k (i64 32))), []⟩,
    ⟨(some 24), none, .op (.sliceL 1 (.r 20) none (some (.r 23)) none), []⟩,
    ⟨(some 25), none, .call (.k (.clos 23 [])) [(.r 24)], []⟩,
    ⟨(some 5), none, .op (.move (.r 25)), []⟩])
  (.seq (.ops [
    ⟨(some 26), none, .op (.move (.r 5)), []⟩,
    ⟨(some 27), none, .call (.k (.clos 24 [])) [(.r 26)], []⟩,
    ⟨(some 6), none, .op (.move (.r 27)), []⟩])
  (.seq (.ops [
    ⟨(some 28), none, .op (.move (.r 5)), []⟩,
    ⟨(some 29), none, .call (.k (.clos 25 [])) [(.r 28)], []⟩,
    ⟨(some 7), none, .op (.move (.r 29)), []⟩])
  (.seq (.seq (.ops [
    ⟨(some 30), none, .op (.move (.r 5)), []⟩,
    ⟨(some 31), none, .call (.k (.clos 26 [])) [(.r 30)], []⟩,
    ⟨(some 8), none, .op (.move (.r 31)), []⟩])
  (.seq (.ops [
    ⟨(some 32), none, .op (.move (.r 8)), []⟩,
    ⟨(some 33), none, .op (.bin .neq .other (.r 32) (.k (i64 0))), []⟩])
  (.cond (.r 33)
  (.seq (.ops [
    ⟨(some 34), none, .op (.move (.r 8)), []⟩,
    ⟨(some 2), none, .op (.move (.k (.lst [] .nil))), []⟩,
    ⟨(some 3), none, .op (.move (.k (i64 0))), []⟩,
    ⟨(some 4), none, .op (.move (.r 34)), []⟩])
  (.ret))
  (.skip))))
  (.seq (.ops [
    ⟨(some 35), none, .op (.move (.r 6)), []⟩,
    ⟨(some 36), none, .op (.move (.r 5)), []⟩,
    ⟨(some 37), none, .call (.k (.clos 24 [])) [(.r 36)], []⟩,
    ⟨(some 38), none, .op (.bin .sub .other (.r 35) (.r 37)), []⟩,
    ⟨(some 9), none, .op (.move (.r 38)), []⟩])
  (.seq (.seq (.ops [
    ⟨(some 39), none, .op (.move (.r 7)), []⟩,
    ⟨(some 40), none, .op (.bin .lss .other (.r 39) (.k (i64 2))), []⟩,
    ⟨(some 41), none, .op (.move (.r 40)), []⟩,
    ⟨(some 42), (some (41, false)), .op (.move (.r 7)), []⟩,
    ⟨(some 43), (some (41, false)), .op (.bin .gtr .other (.r 42) (.k (i64 251))), []⟩,
    ⟨(some 44), none, .op (.pick (.r 41) (.k (bo true)) (.r 43)), []⟩])
  (.cond (.r 44)
  (.seq (.ops [
    ⟨(some 2), none, .op (.move (.k (.lst [] .nil))), []⟩,
    ⟨(some 3), none, .op (.move (.k (i64 0))), []⟩,
    ⟨(some 4), none, .op (.move (.k (i64 6))), []⟩])
  (.ret))
  (.skip)))
  (.seq (.ops [
    ⟨(some 45), none, .op (.move (.r 9)), []⟩,
    ⟨(some 46), none, .op (.move (.r 7)), []⟩,
    ⟨(some 47), none, .op (.bin .add .other (.r 45) (.r 46)), []⟩,
    ⟨(some 48), none, .op (.bin .sub .other (.r 47) (.k (i64 1))), []⟩,
    ⟨(some 10), none, .op (.move (.r 48)), []⟩])
  (.seq (.block 0 (.seq (.ops [
    ⟨(some 50), none, .op (.move (.r 0)), []⟩,
    ⟨(some 51), none, .op (.lenL (.r 50)), []⟩,
    ⟨(some 52), none, .op (.move (.r 10)), []⟩,
    ⟨(some 53), none, .op (.bin .add .other (.r 52) (.k (i64 5))), []⟩,
    ⟨(some 54), none, .op (.bin .lss .other (.r 51) (.r 53)), []⟩,
    ⟨(some 55), none, .op (.move (.r 54)), []⟩,
    ⟨(some 56), (some (55, false)), .op (.move (.r 0)), []⟩,
    ⟨(some 57), (some (55, false)), .op (.move (.r 10)), []⟩,
    ⟨(some 58), (some (55, false)), .op (.bin .add .other (.r 57) (.k (i64 5))), []⟩,
    ⟨(some 59), (some (55, false)), .op (.bin .sub .other (.r 58) (.k (i64 1))), []⟩,
    ⟨(some 60), (some (55, false)), .op (.idxAddr 1 (.r 56) (.r 59)), []⟩,
    ⟨(some 61), (some (55, false)), .op (.load none (.r 60)), []⟩,
    ⟨(some 62), (some (55, false)), .op (.bin .eql .other (.r 61) (.k (.sc (.int .u8 0)))), []⟩,
    ⟨(some 63), none, .op (.pick (.r 55) (.k (bo true)) (.r 62)), []⟩,
    ⟨(some 49), none, .op (.move (.r 63)), []⟩])
  (.cond (.r 49)
  (.seq (.ops [
    ⟨(some 2), none, .op (.move (.k (.lst [] .nil))), []⟩,
    ⟨(some 3), none, .op (.move (.k (i64 0))), []⟩,
    ⟨(some 4), none, .op (.move (.k (i64 7))), []⟩])
  (.ret))
  (.seq (.ops [
    ⟨(some 65), none, .op (.move (.r 0)), []⟩,
    ⟨(some 66), none, .op (.move (.r 10)), []⟩,
    ⟨(some 67), none, .op (.bin .add .other (.r 66) (.k (i64 5))), []⟩,
    ⟨(some 68), none, .op (.bin .sub .other (.r 67) (.k (i64 1))), []⟩,
    ⟨(some 69), none, .op (.idxAddr 1 (.r 65) (.r 68)), []⟩,
    ⟨(some 70), none, .op (.load none (.r 69)), []⟩,
    ⟨(some 71), none, .op (.bin .neq .other (.r 70) (.k (.sc (.int .u8 165)))), []⟩,
    ⟨(some 72), none, .op (.move (.r 71)), []⟩,
    ⟨(some 73), (some (72, false)), .op (.move (.r 0)), []⟩,
    ⟨(some 74), (some (72, false)), .op (.move (.r 10)), []⟩,
    ⟨(some 75), (some (72, false)), .op (.move (.r 10)), []⟩,
    ⟨(some 76), (some (72, false)), .op (.bin .add .other (.r 75) (.k (i64 5))), []⟩,
    ⟨(some 77), (some (72, false)), .op (.bin .sub .other (.r 76) (.k (i64 1))), []⟩,
    ⟨(some 78), (some (72, false)), .op (.sliceL 1 (.r 73) (some (.r 74)) (some (.r 77)) none), []⟩,
    ⟨(some 79), (some (72, false)), .op (.move (.r 0)), []⟩,
    ⟨(some 80), (some (72, false)), .op (.move (.r 9)), []⟩,
    ⟨(some 81), (some (72, false)), .op (.move (.r 10)), []⟩,
    ⟨(some 82), (some (72, false)), .op (.sliceL 1 (.r 79) (some (.r 80)) (some (.r 81)) none), []⟩,
    ⟨(some 83), (some (72, false)), .call (.k (.clos 21 [])) [(.r 82)], []⟩,
    ⟨(some 84), (some (72, false)), .call (.k (.clos 27 [])) [(.r 78), (.r 83)], []⟩,
    ⟨(some 85), (some (72, false)), .op (.un .not (.r 84)), []⟩,
    ⟨(some 86), none, .op (.pick (.r 72) (.k (bo true)) (.r 85)), []⟩,
    ⟨(some 64), none, .op (.move (.r 86)), []⟩])
  (.cond (.r 64)
  (.seq (.ops [
    ⟨(some 2), none, .op (.move (.k (.lst [] .nil))), []⟩,
    ⟨(some 3), none, .op (.move (.k (i64 0))), []⟩,
    ⟨(some 4), none, .op (.move (.k (i64 6))), []⟩])
  (.ret))
  (.skip))))))
  (.seq (.ops [
    ⟨(some 87), none, .op (.move (.r 0)), []⟩,
    ⟨(some 88), none, .op (.move (.r 9)), []⟩,
    ⟨(some 89), none, .op (.move (.r 10)), []⟩,
    ⟨(some 90), none, .op (.sliceL 1 (.r 87) (some (.r 88)) (some (.r 89)) none), []⟩,
    ⟨(some 91), none, .call (.k (.clos 28 [])) [(.r 90)], []⟩,
    ⟨(some 92), none, .op (.move (.r 10)), []⟩,
    ⟨(some 93), none, .op (.bin .add .other (.r 92) (.k (i64 5))), []⟩,
    ⟨(some 2), none, .op (.move (.r 91)), []⟩,
    ⟨(some 3), none, .op (.move (.r 93)), []⟩,
    ⟨(some 4), none, .op (.move (.k (i64 0))), []⟩])
  (.ret)))))))))))
theorem e15 : Try.f15.body.map (normCode Try.prog true Try.f15.ntmps) = some n15 := by kernel_rfl
theorem r15 : resOf Try.f15 = some [2, 3, 4] := by kernel_rfl

def n16 : NCode :=
  .seq (.ops [
    ⟨(some 2), none, .op (.move (.k (.lst [] .nil))), []⟩,
    ⟨(some 3), none, .op (.move (.k (i64 0))), []⟩,
    ⟨(some 4), none, .op (.move (.k (i64 0))), []⟩])
  (.seq (.seq (.ops [
    ⟨(some 11), none, .op (.move (.r 0)), []⟩,
    ⟨(some 12), none, .op (.lenL (.r 11)), []⟩,
    ⟨(some 13), none, .op (.bin .eql .other (.r 12) (.k (i64 0))), []⟩,
    ⟨(some 14), none, .op (.move (.r 13)), []⟩,
    ⟨(some 15), (some (14, false)), .op (.move (.r 0)), []⟩,
    ⟨(some 16), (some (14, false)), .op (.idxAddr 1 (.r 15) (.k (i64 0))), []⟩,
    ⟨(some 17), (some (14, false)), .op (.load none (.r 16)), []⟩,
    ⟨(some 18), (some (14, false)), .op (.bin .eql .other (.r 17) (.k (.sc (.int .u8 0)))), []⟩,
    ⟨(some 19), none, .op (.pick (.r 14) (.k (bo true)) (.r 18)), []⟩])
  (.cond (.r 19)
  (.seq (.ops [
    ⟨(some 2), none, .op (.move (.k (.lst [] .nil))), []⟩,
    ⟨(some 3), none, .op (.move (.k (i64 0))), []⟩,
    ⟨(some 4), none, .op (.move (.k (i64 10))), []⟩])
  (.ret))
  (.skip)))
  (.seq (.ops [
    ⟨(some 20), none, .op (.move (.r 0)), []⟩,
    ⟨(some 21), none, .op (.build [(.lst [] .nil), (i64 0)] [(0, 1, (.r 20))]), []⟩,
    ⟨(some 22), none, .op (.box (.r 21)), []⟩,
    ⟨(some 5), none, .op (.move (.r 22)), []⟩])
  (.seq (.ops [
    ⟨(some 23), none, .op (.move (.r 5)), []⟩,
    ⟨(some 24), none, .call (.k (.clos 29 [])) [(.r 23)], []⟩,
    ⟨(some 6), none, .op (.move (.r 24)), []⟩])
  (.seq (.seq (.ops [
    ⟨(some 25), none, .op (.move (.r 5)), []⟩,
    ⟨(some 26), none, .op (.nilCheck (.r 25)), []⟩,
    ⟨(some 27), none, .op (.fieldAddr 1 (.r 26)), []⟩,
    ⟨(some 28), none, .op (.load none (.r 27)), []⟩,
    ⟨(some 29), none, .op (.bin .neq .other (.r 28) (.k (i64 0))), []⟩])
  (.cond (.r 29)
  (.seq (.ops [
    ⟨(some 30), none, .op (.move (.r 5)), []⟩,
    ⟨(some 31), none, .op (.nilCheck (.r 30)), []⟩,
    ⟨(some 32), none, .op (.fieldAddr 1 (.r 31)), []⟩,
    ⟨(some 33), none, .op (.load none (.r 32)), []⟩,
    ⟨(some 2), none, .op (.move (.k (.lst [] .nil))), []⟩,
    ⟨(some 3), none, .op (.move (.k (i64 0))), []⟩,
    ⟨(some 4), none, .op (.move (.r 33)), []⟩])
  (.ret))
  (.skip)))
  (.seq (.seq (.ops [
    ⟨(some 34), none, .op (.move (.r 6)), []⟩,
    ⟨(some 35), none, .op (.bin .lss .other (.r 34) (.k (i64 2))), []⟩,
    ⟨(some 36), none, .op (.move (.r 35)), []⟩,
    ⟨(some 37), (some (36, false)), .op (.move (.r 6)), []⟩,
    ⟨(some 38), (some (36, false)), .op (.bin .gtr .other (.r 37) (.k (i64 251))), []⟩,
    ⟨(some 39), none, .op (.pick (.r 36) (.k (bo true)) (.r 38)), []⟩])
  (.cond (.r 39)
  (.seq (.ops [
    ⟨(some 2), none, .op (.move (.k (.lst [] .nil))), []⟩,
    ⟨(some 3), none, .op (.move (.k (i64 0))), []⟩,
    ⟨(some 4), none, .op (.move (.k (i64 6))), []⟩])
  (.ret))
  (.skip)))
  (.seq (.ops [
    ⟨(some 40), none, .op (.move (.r 6)), []⟩,
    ⟨(some 41), none, .op (.bin .sub .other (.r 40) (.k (i64 1))), []⟩,
    ⟨(some 7), none, .op (.move (.r 41)), []⟩])
  (.seq (.seq (.ops [
    ⟨(some 42), none, .op (.move (.r 5)), []⟩,
    ⟨(some 43), none, .op (.nilCheck (.r 42)), []⟩,
    ⟨(some 44), none, .op (.fieldAddr 0 (.r 43)), []⟩,
    ⟨(some 45), none, .op (.load none (.r 44)), []⟩,
    ⟨(some 46), none, .op (.lenL (.r 45)), []⟩,
    ⟨(some 47), none, .op (.move (.r 7)), []⟩,
    ⟨(some 48), none, .op (.bin .add .other (.r 47) (.k (i64 5))), []⟩,
    ⟨(some 49), none, .op (.bin .lss .other (.r 46) (.r 48)), []⟩])
  (.cond (.r 49)
  (.seq (.ops [
    ⟨(some 2), none, .op (.move (.k (.lst [] .nil))), []⟩,
    ⟨(some 3), none, .op (.move (.k (i64 0))), []⟩,
    ⟨(some 4), none, .op (.move (.k (i64 7))), []⟩])
  (.ret))
  (.skip)))
  (.seq (.seq (.ops [
    ⟨(some 50), none, .op (.move (.r 5)), []⟩,
    ⟨(some 51), none, .op (.nilCheck (.r 50)), []⟩,
    ⟨(some 52), none, .op (.fieldAddr 0 (.r 51)), []⟩,
    ⟨(some 53), none, .op (.load none (.r 52)), []⟩,
    ⟨(some 54), none, .op (.move (.r 7)), []⟩,
    ⟨(some 55), none, .op (.bin .add .other (.r 54) (.k (i64 4))), []⟩,
    ⟨(some 56), none, .op (.idxAddr 1 (.r 53) (.r 55)), []⟩,
    ⟨(some 57), none, .op (.load none (.r 56)), []⟩,
    ⟨(some 58), none, .op (.bin .eql .other (.r 57) (.k (.sc (.int .u8 0)))), []⟩])
  (.cond (.r 58)
  (.seq (.ops [
    ⟨(some 2), none, .op (.move (.k (.lst [] .nil))), []⟩,
    ⟨(some 3), none, .op (.move (.k (i64 0))), []⟩,
    ⟨(some 4), none, .op (.move (.k (i64 7))), []⟩])
  (.ret))
  (.skip)))
  (.seq (.ops [
    ⟨(some 8), none, .op (.move (.k (.lst [] .nil))), []⟩])
  (.seq (.ops [
    ⟨(some 59), none, .op (.move (.r 8)), []⟩,
    ⟨(some 60), none, .op (.move (.r 5)), []⟩,
    ⟨(some 61), none, .op (.nilCheck (.r 60)), []⟩,
    ⟨(some 62), none, .op (.fieldAddr 0 (.r 61)), []⟩,
    ⟨(some 63), none, .op (.load none (.r 62)), []⟩,
    ⟨(some 64), none, .op (.move (.r 7)), []⟩,
    ⟨(some 65), none, .op (.sliceL 1 (.r 63) none (some (.r 64)) none), []⟩,
    ⟨(some 66), none, .op (.append true none 1 [(.sc (.int .u8 0))] (.r 59) (.r 65)), []⟩,
    ⟨(some 8), none, .op (.move (.r 66)), []⟩])
  (.seq (.ops [
    ⟨(some 68), none, .op (.move (.r 8)), []⟩,
    ⟨(some 69), none, .call (.k (.clos 10 [])) [(.r 68)], []⟩,
    ⟨(some 67), none, .op (.move (.r 69)), []⟩,
    ⟨(some 70), none, .op (.extract 0 (.r 67)), []⟩,
    ⟨(some 71), none, .op (.extract 1 (.r 67)), []⟩,
    ⟨(some 9), none, .op (.move (.r 70)), []⟩,
    ⟨(some 10), none, .op (.move (.r 71)), []⟩])
  (.seq (.seq (.ops [
    ⟨(some 72), none, .op (.move (.r 9)), []⟩,
    ⟨(some 73), none, .op (.b2s (.r 72)), []⟩,
    ⟨(some 74), none, .op (.move (.r 0)), []⟩,
    ⟨(some 75), none, .op (.move (.r 0)), []⟩,
    ⟨(some 76), none, .op (.lenL (.r 75)), []⟩,
    ⟨(some 77), none, .op (.move (.r 5)), []⟩,
    ⟨(some 78), none, .op (.nilCheck (.r 77)), []⟩,
    ⟨(some 79), none, .op (.fieldAddr 0 (.r 78)), []⟩,
    ⟨(some 80), none, .op (.load none (.r 79)), []⟩,
    ⟨(some 81), none, .op (.lenL (.r 80)), []⟩,
    ⟨(some 82), none, .op (.bin .sub .other (.r 76) (.r 81)), []⟩,
    ⟨(some 83), none, .op (.move (.r 7)), []⟩,
    ⟨(some 84), none, .op (.bin .add .other (.r 82) (.r 83)), []⟩,
    ⟨(some 85), none, .op (.bin .add .other (.r 84) (.k (i64 5))), []⟩,
    ⟨(some 86), none, .op (.sliceL 1 (.r 74) none (some (.r 85)) none), []⟩,
    ⟨(some 87), none, .op (.b2s (.r 86)), []⟩,
    ⟨(some 88), none, .op (.bin .neq .other (.r 73) (.r 87)), []⟩])
  (.cond (.r 88)
  (.seq (.ops [
    ⟨(some 2), none, .op (.move (.k (.lst [] .nil))), []⟩,
    ⟨(some 3), none, .op (.move (.k (i64 0))), []⟩,
    ⟨(some 4), none, .op (.move (.k (i64 6))), []⟩])
  (.ret))
  (.skip)))
  (.seq (.ops [
    ⟨(some 89), none, .op (.move (.r 8)), []⟩,
    ⟨(some 90), none, .op (.move (.r 9)), []⟩,
    ⟨(some 91), none, .op (.lenL (.r 90)), []⟩,
    ⟨(some 2), none, .op (.move (.r 89)), []⟩,
    ⟨(some 3), none, .op (.move (.r 91)), []⟩,
    ⟨(some 4), none, .op (.move (.k (i64 0))), []⟩])
  (.ret))))))))))))))
theorem e16 : Try.f16.body.map (normCode Try.prog true Try.f16.ntmps) = some n16 := by kernel_rfl
theorem r16 : resOf Try.f16 = some [2, 3, 4] := by kernel_rfl

def n17 : NCode :=
  .seq (.ops [
    ⟨(some 2), none, .op (.move (.k (.lst [] .nil))), []⟩,
    ⟨(some 3), none, .op (.move (.k (i64 0))), []⟩])
  (.seq (.ops [
    ⟨(some 4), none, .op (.move (.k (.lst [] .nil))), []⟩])
  (.seq (.ops [
    ⟨(some 5), none, .op (.move (.k (i64 0))), []⟩])
  (.block 0 (.loop (.block 1 (.seq (.ops [
    ⟨(some 10), none, .op (.move (.r 0)), []⟩,
    ⟨(some 11), none, .op (.move (.r 5)), []⟩,
    ⟨(some 12), none, .op (.sliceL 1 (.r 10) (some (.r 11)) none none), []⟩,
    ⟨(some 13), none, .call (.k (.clos 15 [])) [(.r 12)], []⟩,
    ⟨(some 9), none, .op (.move (.r 13)), []⟩,
    ⟨(some 14), none, .op (.extract 0 (.r 9)), []⟩,
    ⟨(some 15), none, .op (.extract 1 (.r 9)), []⟩,
    ⟨(some 16), none, .op (.extract 2 (.r 9)), []⟩,
    ⟨(some 6), none, .op (.move (.r 14)), []⟩,
    ⟨(some 7), none, .op (.move (.r 15)), []⟩,
    ⟨(some 8), none, .op (.move (.r 16)), []⟩])
  (.seq (.seq (.ops [
    ⟨(some 17), none, .op (.move (.r 8)), []⟩,
    ⟨(some 18), none, .op (.bin .neq .other (.r 17) (.k (i64 0))), []⟩])
  (.cond (.r 18)
  (.seq (.ops [
    ⟨(some 19), none, .op (.move (.r 4)), []⟩,
    ⟨(some 20), none, .op (.move (.r 5)), []⟩,
    ⟨(some 2), none, .op (.move (.r 19)), []⟩,
    ⟨(some 3), none, .op (.move (.r 20)), []⟩])
  (.ret))
  (.skip)))
  (.ops [
    ⟨(some 21), none, .op (.move (.r 4)), []⟩,
    ⟨(some 22), none, .op (.move (.r 6)), []⟩,
    ⟨(some 23), none, .op (.buildSlice none [(.lst [] .nil)] 1 [(0, (.r 22))]), []⟩,
    ⟨(some 24), none, .op (.append true none 24 [(.lst [] .nil)] (.r 21) (.r 23)), []⟩,
    ⟨(some 25), none, .op (.move (.r 5)), []⟩,
    ⟨(some 26), none, .op (.move (.r 7)), []⟩,
    ⟨(some 27), none, .op (.bin .add .other (.r 25) (.r 26)), []⟩,
    ⟨(some 4), none, .op (.move (.r 24)), []⟩,
    ⟨(some 5), none, .op (.move (.r 27)), []⟩]))))))))
theorem e17 : Try.f17.body.map (normCode Try.prog true Try.f17.ntmps) = some n17 := by kernel_rfl
theorem r17 : resOf Try.f17 = some [2, 3] := by kernel_rfl

def n18 : NCode :=
  .seq (.ops [
    ⟨(some 2), none, .op (.move (.k (.lst [] .nil))), []⟩,
    ⟨(some 3), none, .op (.move (.k (i64 0))), []⟩])
  (.seq (.ops [
    ⟨(some 4), none, .op (.move (.k (.lst [] .nil))), []⟩])
  (.seq (.ops [
    ⟨(some 5), none, .op (.move (.k (i64 0))), []⟩])
  (.seq (.block 0 (.loop (.seq (.seq (.ops [
    ⟨(some 9), none, .op (.move (.r 5)), []⟩,
    ⟨(some 10), none, .op (.move (.r 0)), []⟩,
    ⟨(some 11), none, .op (.lenL (.r 10)), []⟩,
    ⟨(some 12), none, .op (.bin .lss .other (.r 9) (.r 11)), []⟩])
  (.cond (.r 12)
  (.skip)
  (.exit 0)))
  (.block 1 (.seq (.ops [
    ⟨(some 14), none, .op (.move (.r 0)), []⟩,
    ⟨(some 15), none, .op (.move (.r 5)), []⟩,
    ⟨(some 16), none, .op (.sliceL 1 (.r 14) (some (.r 15)) none none), []⟩,
    ⟨(some 17), none, .call (.k (.clos 16 [])) [(.r 16)], []⟩,
    ⟨(some 13), none, .op (.move (.r 17)), []⟩,
    ⟨(some 18), none, .op (.extract 0 (.r 13)), []⟩,
    ⟨(some 19), none, .op (.extract 1 (.r 13)), []⟩,
    ⟨(some 20), none, .op (.extract 2 (.r 13)), []⟩,
    ⟨(some 6), none, .op (.move (.r 18)), []⟩,
    ⟨(some 7), none, .op (.move (.r 19)), []⟩,
    ⟨(some 8), none, .op (.move (.r 20)), []⟩])
  (.seq (.seq (.ops [
    ⟨(some 21), none, .op (.move (.r 8)), []⟩,
    ⟨(some 22), none, .op (.bin .neq .other (.r 21) (.k (i64 0))), []⟩])
  (.cond (.r 22)
  (.seq (.ops [
    ⟨(some 23), none, .op (.move (.r 4)), []⟩,
    ⟨(some 24), none, .op (.move (.r 5)), []⟩,
    ⟨(some 2), none, .op (.move (.r 23)), []⟩,
    ⟨(some 3), none, .op (.move (.r 24)), []⟩])
  (.ret))
  (.skip)))
  (.seq (.ops [
    ⟨(some 25), none, .op (.move (.r 4)), []⟩,
    ⟨(some 26), none, .op (.move (.r 6)), []⟩,
    ⟨(some 27), none, .op (.buildSlice none [(.lst [] .nil)] 1 [(0, (.r 26))]), []⟩,
    ⟨(some 28), none, .op (.append true none 24 [(.lst [] .nil)] (.r 25) (.r 27)), []⟩,
    ⟨(some 4), none, .op (.move (.r 28)), []⟩])
  (.ops [
    ⟨(some 29), none, .op (.move (.r 5)), []⟩,
    ⟨(some 30), none, .op (.move (.r 7)), []⟩,
    ⟨(some 31), none, .op (.bin .add .other (.r 29) (.r 30)), []⟩,
    ⟨(some 5), none, .op (.move (.r 31)), []⟩]))))))))
  (.seq (.ops [
    ⟨(some 32), none, .op (.move (.r 4)), []⟩,
    ⟨(some 33), none, .op (.move (.r 5)), []⟩,
    ⟨(some 2), none, .op (.move (.r 32)), []⟩,
    ⟨(some 3), none, .op (.move (.r 33)), []⟩])
  (.ret)))))
theorem e18 : Try.f18.body.map (normCode Try.prog true Try.f18.ntmps) = some n18 := by kernel_rfl
theorem r18 : resOf Try.f18 = some [2, 3] := by kernel_rfl

def n19 : NCode :=
  .seq (.ops [
    ⟨(some 4), none, .op (.move (.k (bo false))), []⟩])
  (.seq (.seq (.ops [
    ⟨(some 6), none, .op (.move (.r 0)), []⟩,
    ⟨(some 7), none, .op (.lenL (.r 6)), []⟩,
    ⟨(some 8), none, .op (.move (.r 1)), []⟩,
    ⟨(some 9), none, .op (.lenL (.r 8)), []⟩,
    ⟨(some 10), none, .op (.bin .neq .other (.r 7) (.r 9)), []⟩])
  (.cond (.r 10)
  (.seq (.ops [
    ⟨(some 4), none, .op (.move (.k (bo false))), []⟩])
  (.ret))
  (.skip)))
  (.seq (.seq (.ops [
    ⟨(some 5), none, .op (.move (.k (i64 0))), []⟩])
  (.block 0 (.loop (.seq (.seq (.ops [
    ⟨(some 11), none, .op (.move (.r 5)), []⟩,
    ⟨(some 12), none, .op (.move (.r 0)), []⟩,
    ⟨(some 13), none, .op (.lenL (.r 12)), []⟩,
    ⟨(some 14), none, .op (.bin .lss .other (.r 11) (.r 13)), []⟩])
  (.cond (.r 14)
  (.skip)
  (.exit 0)))
  (.seq (.block 1 (.seq (.ops [
    ⟨(some 17), none, .op (.move (.r 0)), []⟩,
    ⟨(some 18), none, .op (.move (.r 5)), []⟩,
    ⟨(some 19), none, .op (.idxAddr 1 (.r 17) (.r 18)), []⟩,
    ⟨(some 20), none, .op (.load none (.r 19)), []⟩,
    ⟨(some 21), none, .op (.b2s (.r 20)), []⟩,
    ⟨(some 22), none, .op (.move (.r 1)), []⟩,
    ⟨(some 23), none, .op (.move (.r 5)), []⟩,
    ⟨(some 24), none, .op (.idxAddr 1 (.r 22) (.r 23)), []⟩,
    ⟨(some 25), none, .op (.load none (.r 24)), []⟩,
    ⟨(some 26), none, .op (.b2s (.r 25)), []⟩,
    ⟨(some 27), none, .op (.bin .neq .other (.r 21) (.r 26)), []⟩])
  (.cond (.r 27)
  (.seq (.ops [
    ⟨(some 4), none, .op (.move (.k (bo false))), []⟩])
  (.ret))
  (.skip))))
  (.ops [
    ⟨(some 15), none, .op (.move (.r 5)), []⟩,
    ⟨(some 16), none, .op (.bin .add .other (.r 15) (.k (i64 1))), []⟩,
    ⟨(some 5), none, .op (.move (.r 16)), []⟩]))))))
  (.seq (.ops [
    ⟨(some 4), none, .op (.move (.k (bo true))), []⟩])
  (.ret))))
theorem e19 : Try.f19.body.map (normCode Try.prog true Try.f19.ntmps) = some n19 := by kernel_rfl
theorem r19 : resOf Try.f19 = some [4] := by kernel_rfl

def n20 : NCode :=
  .seq (.ops [
    ⟨(some 2), none, .op (.move (.k (.lst [] .nil))), []⟩])
  (.seq (.ops [
    ⟨(some 3), none, .op (.move (.k (.lst [] .nil))), []⟩])
  (.seq (.seq (.ops [
    ⟨(some 6), none, .op (.move (.r 0)), []⟩,
    ⟨(some 7), none, .op (.lenL (.r 6)), []⟩,
    ⟨(some 8), none, .op (.move (.k (i64 0))), []⟩])
  (.block 0 (.loop (.seq (.ops [
    ⟨(some 9), none, .op (.bin .lss .other (.r 8) (.r 7)), []⟩])
  (.seq (.cond (.r 9)
  (.skip)
  (.exit 0))
  (.seq (.block 1 (.seq (.ops [
    ⟨(some 10), none, .op (.idxAddr 1 (.r 6) (.r 8)), []⟩,
    ⟨(some 11), none, .op (.load none (.r 10)), []⟩,
    ⟨(some 5), none, .op (.move (.r 11)), []⟩])
  (.ops [
    ⟨(some 12), none, .op (.move (.r 3)), []⟩,
    ⟨(some 13), none, .op (.move (.r 5)), []⟩,
    ⟨(some 14), none, .call (.k (.clos 30 [])) [(.r 12), (.r 13)], []⟩,
    ⟨(some 3), none, .op (.move (.r 14)), []⟩])))
  (.ops [
    ⟨(some 15), none, .op (.bin .add .other (.r 8) (.k (i64 1))), []⟩,
    ⟨(some 8), none, .op (.move (.r 15)), []⟩])))))))
  (.seq (.ops [
    ⟨(some 16), none, .op (.move (.r 3)), []⟩,
    ⟨(some 2), none, .op (.move (.r 16)), []⟩])
  (.ret))))
theorem e20 : Try.f20.body.map (normCode Try.prog true Try.f20.ntmps) = some n20 := by kernel_rfl
theorem r20 : resOf Try.f20 = some [2] := by kernel_rfl

def n21 : NCode :=
  .seq (.ops [
    ⟨(some 2), none, .op (.move (.k (.lst [] .nil))), []⟩])
  (.seq (.ops [
    ⟨(some 4), none, .op (.move (.r 0)), []⟩,
    ⟨(some 5), none, .call (.k (.clos 11 [])) [(.r 4)], []⟩,
    ⟨(some 3), none, .op (.move (.r 5)), []⟩])
  (.seq (.ops [
    ⟨(some 6), none, .op (.move (.r 3)), []⟩,
    ⟨(some 7), none, .op (.conv .u8 (.r 6)), []⟩,
    ⟨(some 8), none, .op (.move (.r 3)), []⟩,
    ⟨(some 9), none, .op (.bin .shr .other (.r 8) (.k (.sc (.int .u64 8)))), []⟩,
    ⟨(some 10), none, .op (.conv .u8 (.r 9)), []⟩,
    ⟨(some 11), none, .op (.move (.r 3)), []⟩,
    ⟨(some 12), none, .op (.bin .shr .other (.r 11) (.k (.sc (.int .u64 16)))), []⟩,
    ⟨(some 13), none, .op (.conv .u8 (.r 12)), []⟩,
    ⟨(some 14), none, .op (.move (.r 3)), []⟩,
    ⟨(some 15), none, .op (.bin .shr .other (.r 14) (.k (.sc (.int .u64 24)))), []⟩,
    ⟨(some 16), none, .op (.conv .u8 (.r 15)), []⟩,
    ⟨(some 17), none, .op (.buildSlice none [(.sc (.int .u8 0))] 4 [(0, (.r 7)), (1, (.r 10)), (2, (.r 13)), (3, (.r 16))]), []⟩,
    ⟨(some 2), none, .op (.move (.r 17)), []⟩])
  (.ret)))
theorem e21 : Try.f21.body.map (normCode Try.prog true Try.f21.ntmps) = some n21 := by kernel_rfl
theorem r21 : resOf Try.f21 = some [2] := by kernel_rfl

def n22 : NCode :=
  .seq (.ops [
    ⟨(some 4), none, .op (.move (.k (.lst [] .nil))), []⟩])
  (.seq (.ops [
    ⟨(some 5), none, .op (.move (.k (.lst [] .nil))), []⟩])
  (.seq (.ops [
    ⟨(some 7), none, .op (.move (.r 5)), []⟩,
    ⟨(some 8), none, .op (.move (.r 0)), []⟩,
    ⟨(some 9), none, .op (.append true none 1 [(.sc (.int .u8 0))] (.r 7) (.r 8)), []⟩,
    ⟨(some 5), none, .op (.move (.r 9)), []⟩])
  (.seq (.ops [
    ⟨(some 10), none, .op (.move (.r 1)), []⟩,
    ⟨(some 11), none, .op (.conv .u64 (.r 10)), []⟩,
    ⟨(some 12), none, .op (.bin .shl .other (.r 11) (.k (.sc (.int .u64 1)))), []⟩,
    ⟨(some 6), none, .op (.move (.r 12)), []⟩])
  (.seq (.seq (.ops [
    ⟨(some 13), none, .op (.move (.r 1)), []⟩,
    ⟨(some 14), none, .op (.bin .lss .other (.r 13) (.k (i64 0))), []⟩])
  (.cond (.r 14)
  (.ops [
    ⟨(some 15), none, .op (.move (.r 6)), []⟩,
    ⟨(some 16), none, .op (.un .xor (.r 15)), []⟩,
    ⟨(some 6), none, .op (.move (.r 16)), []⟩])
  (.skip)))
  (.seq (.block 0 (.loop (.seq (.seq (.ops [
    ⟨(some 17), none, .op (.move (.r 6)), []⟩,
    ⟨(some 18), none, .op (.bin .geq .other (.r 17) (.k (.sc (.int .u64 128)))), []⟩])
  (.cond (.r 18)
  (.skip)
  (.exit 0)))
  (.block 1 (.seq (.ops [
    ⟨(some 19), none, .op (.move (.r 5)), []⟩,
    ⟨(some 20), none, .op (.move (.r 6)), []⟩,
    ⟨(some 21), none, .op (.bin .rem .other (.r 20) (.k (.sc (.int .u64 128)))), []⟩,
    ⟨(some 22), none, .op (.conv .u8 (.r 21)), []⟩,
    ⟨(some 23), none, .op (.bin .add .other (.r 22) (.k (.sc (.int .u8 128)))), []⟩,
    ⟨(some 24), none, .op (.buildSlice none [(.sc (.int .u8 0))] 1 [(0, (.r 23))]), []⟩,
    ⟨(some 25), none, .op (.append true none 1 [(.sc (.int .u8 0))] (.r 19) (.r 24)), []⟩,
    ⟨(some 5), none, .op (.move (.r 25)), []⟩])
  (.ops [
    ⟨(some 26), none, .op (.move (.r 6)), []⟩,
    ⟨(some 27), none, .op (.bin .quo .other (.r 26) (.k (.sc (.int .u64 128)))), []⟩,
    ⟨(some 6), none, .op (.move (.r 27)), []⟩]))))))
  (.seq (.ops [
    ⟨(some 28), none, .op (.move (.r 5)), []⟩,
    ⟨(some 29), none, .op (.move (.r 6)), []⟩,
    ⟨(some 30), none, .op (.conv .u8 (.r 29)), []⟩,
    ⟨(some 31), none, .op (.buildSlice none [(.sc (.int .u8 0))] 1 [(0, (.r 30))]), []⟩,
    ⟨(some 32), none, .op (.append true none 1 [(.sc (.int .u8 0))] (.r 28) (.r 31)), []⟩,
    ⟨(some 4), none, .op (.move (.r 32)), []⟩])
  (.ret)))))))
theorem e22 : Try.f22.body.map (normCode Try.prog true Try.f22.ntmps) = some n22 := by kernel_rfl
theorem r22 : resOf Try.f22 = some [4] := by kernel_rfl

def n23 : NCode :=
  .seq (.ops [
    ⟨(some 2), none, .op (.move (.k (.sc (.pointer none)))), []⟩])
  (.seq (.ops [
    ⟨(some 3), none, .op (.move (.r 0)), []⟩,
    ⟨(some 4), none, .call (.k (.clos 28 [])) [(.r 3)], []⟩,
    ⟨(some 5), none, .op (.build [(.lst [] .nil), (i64 0)] [(0, 1, (.r 4))]), []⟩,
    ⟨(some 6), none, .op (.box (.r 5)), []⟩,
    ⟨(some 2), none, .op (.move (.r 6)), []⟩])
  (.ret))
theorem e23 : Try.f23.body.map (normCode Try.prog true Try.f23.ntmps) = some n23 := by kernel_rfl
theorem r23 : resOf Try.f23 = some [2] := by kernel_rfl

def n24 : NCode :=
  .seq (.ops [
    ⟨(some 2), none, .op (.move (.k (i64 0))), []⟩])
  (.seq (.seq (.ops [
    ⟨(some 3), none, .op (.move (.r 0)), []⟩,
    ⟨(some 4), none, .op (.bin .eql .pointer (.r 3) (.k (.sc (.pointer none)))), []⟩])
  (.cond (.r 4)
  (.seq (.ops [
    ⟨(some 2), none, .op (.move (.k (i64 0))), []⟩])
  (.ret))
  (.skip)))
  (.seq (.ops [
    ⟨(some 5), none, .op (.move (.r 0)), []⟩,
    ⟨(some 6), none, .op (.nilCheck (.r 5)), []⟩,
    ⟨(some 7), none, .op (.fieldAddr 0 (.r 6)), []⟩,
    ⟨(some 8), none, .op (.load none (.r 7)), []⟩,
    ⟨(some 9), none, .op (.lenL (.r 8)), []⟩,
    ⟨(some 2), none, .op (.move (.r 9)), []⟩])
  (.ret)))
theorem e24 : Try.f24.body.map (normCode Try.prog true Try.f24.ntmps) = some n24 := by kernel_rfl
theorem r24 : resOf Try.f24 = some [2] := by kernel_rfl

def n25 : NCode :=
  .seq (.ops [
    ⟨(some 2), none, .op (.move (.k (i64 0))), []⟩])
  (.seq (.seq (.ops [
    ⟨(some 5), none, .op (.move (.r 0)), []⟩,
    ⟨(some 6), none, .call (.k (.clos 26 [])) [(.r 5)], []⟩,
    ⟨(some 7), none, .op (.bin .neq .other (.r 6) (.k (i64 0))), []⟩])
  (.cond (.r 7)
  (.seq (.ops [
    ⟨(some 2), none, .op (.move (.k (i64 0))), []⟩])
  (.ret))
  (.skip)))
  (.seq (.ops [
    ⟨(some 9), none, .op (.move (.r 0)), []⟩,
    ⟨(some 10), none, .call (.k (.clos 31 [])) [(.r 9)], []⟩,
    ⟨(some 8), none, .op (.move (.r 10)), []⟩,
    ⟨(some 11), none, .op (.extract 0 (.r 8)), []⟩,
    ⟨(some 12), none, .op (.extract 1 (.r 8)), []⟩,
    ⟨(some 3), none, .op (.move (.r 11)), []⟩,
    ⟨(some 4), none, .op (.move (.r 12)), []⟩])
  (.seq (.ops [
    ⟨(some 13), none, .op (.move (.r 0)), []⟩,
    ⟨(some 14), none, .op (.move (.r 4)), []⟩,
    ⟨(some 15), none, .call (.k (.clos 32 [])) [(.r 13), (.r 14)], []⟩])
  (.seq (.ops [
    ⟨(some 16), none, .op (.move (.r 3)), []⟩,
    ⟨(some 2), none, .op (.move (.r 16)), []⟩])
  (.ret)))))
theorem e25 : Try.f25.body.map (normCode Try.prog true Try.f25.ntmps) = some n25 := by kernel_rfl
theorem r25 : resOf Try.f25 = some [2] := by kernel_rfl

def n26 : NCode :=
  .seq (.ops [
    ⟨(some 2), none, .op (.move (.k (i64 0))), []⟩])
  (.seq (.seq (.ops [
    ⟨(some 3), none, .op (.move (.r 0)), []⟩,
    ⟨(some 4), none, .op (.bin .eql .pointer (.r 3) (.k (.sc (.pointer none)))), []⟩])
  (.cond (.r 4)
  (.seq (.ops [
    ⟨(some 2), none, .op (.move (.k (i64 1))), []⟩])
  (.ret))
  (.skip)))
  (.seq (.ops [
    ⟨(some 5), none, .op (.move (.r 0)), []⟩,
    ⟨(some 6), none, .op (.nilCheck (.r 5)), []⟩,
    ⟨(some 7), none, .op (.fieldAddr 1 (.r 6)), []⟩,
    ⟨(some 8), none, .op (.load none (.r 7)), []⟩,
    ⟨(some 2), none, .op (.move (.r 8)), []⟩])
  (.ret)))
theorem e26 : Try.f26.body.map (normCode Try.prog true Try.f26.ntmps) = some n26 := by kernel_rfl
theorem r26 : resOf Try.f26 = some [2] := by kernel_rfl

def n27 : NCode :=
  .seq (.ops [
    ⟨(some 4), none, .op (.move (.k (bo false))), []⟩])
  (.seq (.seq (.ops [
    ⟨(some 6), none, .op (.move (.r 0)), []⟩,
    ⟨(some 7), none, .op (.lenL (.r 6)), []⟩,
    ⟨(some 8), none, .op (.move (.r 1)), []⟩,
    ⟨(some 9), none, .op (.lenL (.r 8)), []⟩,
    ⟨(some 10), none, .op (.bin .neq .other (.r 7) (.r 9)), []⟩])
  (.cond (.r 10)
  (.seq (.ops [
    ⟨(some 4), none, .op (.move (.k (bo false))), []⟩])
  (.ret))
  (.skip)))
  (.seq (.seq (.ops [
    ⟨(some 11), none, .op (.move (.r 0)), []⟩,
    ⟨(some 12), none, .op (.lenL (.r 11)), []⟩,
    ⟨(some 13), none, .op (.move (.k (i64 0))), []⟩])
  (.block 0 (.loop (.seq (.ops [
    ⟨(some 14), none, .op (.bin .lss .other (.r 13) (.r 12)), []⟩])
  (.seq (.cond (.r 14)
  (.skip)
  (.exit 0))
  (.seq (.block 1 (.seq (.ops [
    ⟨(some 15), none, .op (.move (.r 13)), []⟩,
    ⟨(some 5), none, .op (.move (.r 15)), []⟩])
  (.seq (.ops [
    ⟨(some 16), none, .op (.move (.r 0)), []⟩,
    ⟨(some 17), none, .op (.move (.r 5)), []⟩,
    ⟨(some 18), none, .op (.idxAddr 1 (.r 16) (.r 17)), []⟩,
    ⟨(some 19), none, .op (.load none (.r 18)), []⟩,
    ⟨(some 20), none, .op (.move (.r 1)), []⟩,
    ⟨(some 21), none, .op (.move (.r 5)), []⟩,
    ⟨(some 22), none, .op (.idxAddr 1 (.r 20) (.r 21)), []⟩,
    ⟨(some 23), none, .op (.load none (.r 22)), []⟩,
    ⟨(some 24), none, .op (.bin .neq .other (.r 19) (.r 23)), []⟩])
  (.cond (.r 24)
  (.seq (.ops [
    ⟨(some 4), none, .op (.move (.k (bo false))), []⟩])
  (.ret))
  (.skip)))))
  (.ops [
    ⟨(some 25), none, .op (.bin .add .other (.r 13) (.k (i64 1))), []⟩,
    ⟨(some 13), none, .op (.move (.r 25)), []⟩])))))))
  (.seq (.ops [
    ⟨(some 4), none, .op (.move (.k (bo true))), []⟩])
  (.ret))))
theorem e27 : Try.f27.body.map (normCode Try.prog true Try.f27.ntmps) = some n27 := by kernel_rfl
theorem r27 : resOf Try.f27 = some [4] := by kernel_rfl

def n28 : NCode :=
  .seq (.ops [
    ⟨(some 2), none, .op (.move (.k (.lst [] .nil))), []⟩])
  (.seq (.seq (.ops [
    ⟨(some 3), none, .op (.move (.r 0)), []⟩,
    ⟨(some 4), none, .op (.bin .eql .slice (.r 3) (.k (.lst [] .nil))), []⟩])
  (.cond (.r 4)
  (.seq (.ops [
    ⟨(some 2), none, .op (.move (.k (.lst [] .nil))), []⟩])
  (.ret))
  (.skip)))
  (.seq (.ops [
    ⟨(some 5), none, .op (.buildSlice none [(.sc (.int .u8 0))] 0 []), []⟩,
    ⟨(some 6), none, .op (.move (.r 0)), []⟩,
    ⟨(some 7), none, .op (.append true none 1 [(.sc (.int .u8 0))] (.r 5) (.r 6)), []⟩,
    ⟨(some 2), none, .op (.move (.r 7)), []⟩])
  (.ret)))
theorem e28 : Try.f28.body.map (normCode Try.prog true Try.f28.ntmps) = some n28 := by kernel_rfl
theorem r28 : resOf Try.f28 = some [2] := by kernel_rfl

def n29 : NCode :=
  .seq (.ops [
    ⟨(some 2), none, .op (.move (.k (i64 0))), []⟩])
  (.seq (.seq (.ops [
    ⟨(some 6), none, .op (.move (.r 0)), []⟩,
    ⟨(some 7), none, .op (.nilCheck (.r 6)), []⟩,
    ⟨(some 8), none, .op (.fieldAddr 1 (.r 7)), []⟩,
    ⟨(some 9), none, .op (.load none (.r 8)), []⟩,
    ⟨(some 10), none, .op (.bin .neq .other (.r 9) (.k (i64 0))), []⟩])
  (.cond (.r 10)
  (.seq (.ops [
    ⟨(some 2), none, .op (.move (.k (i64 0))), []⟩])
  (.ret))
  (.skip)))
  (.seq (.ops [
    ⟨(some 3), none, .op (.move (.k (.sc (.int .u64 0)))), []⟩])
  (.seq (.seq (.ops [
    ⟨(some 4), none, .op (.move (.k (i64 0))), []⟩])
  (.block 0 (.loop (.seq (.seq (.ops [
    ⟨(some 11), none, .op (.move (.r 4)), []⟩,
    ⟨(some 12), none, .op (.move (.r 0)), []⟩,
    ⟨(some 13), none, .op (.nilCheck (.r 12)), []⟩,
    ⟨(some 14), none, .op (.fieldAddr 0 (.r 13)), []⟩,
    ⟨(some 15), none, .op (.load none (.r 14)), []⟩,
    ⟨(some 16), none, .op (.lenL (.r 15)), []⟩,
    ⟨(some 17), none, .op (.bin .lss .other (.r 11) (.r 16)), []⟩])
  (.cond (.r 17)
  (.skip)
  (.exit 0)))
  (.seq (.block 1 (.seq (.ops [
    ⟨(some 20), none, .op (.move (.r 0)), []⟩,
    ⟨(some 21), none, .op (.nilCheck (.r 20)), []⟩,
    ⟨(some 22), none, .op (.fieldAddr 0 (.r 21)), []⟩,
    ⟨(some 23), none, .op (.load none (.r 22)), []⟩,
    ⟨(some 24), none, .op (.move (.r 4)), []⟩,
    ⟨(some 25), none, .op (.idxAddr 1 (.r 23) (.r 24)), []⟩,
    ⟨(some 26), none, .op (.load none (.r 25)), []⟩,
    ⟨(some 27), none, .op (.conv .u64 (.r 26)), []⟩,
    ⟨(some 5), none, .op (.move (.r 27)), []⟩])
  (.seq (.seq (.ops [
    ⟨(some 28), none, .op (.move (.r 4)), []⟩,
    ⟨(some 29), none, .op (.bin .gtr .other (.r 28) (.k (i64 9))), []⟩,
    ⟨(some 30), none, .op (.move (.r 29)), []⟩,
    ⟨(some 31), (some (30, false)), .op (.move (.r 4)), []⟩,
    ⟨(some 32), (some (30, false)), .op (.bin .eql .other (.r 31) (.k (i64 9))), []⟩,
    ⟨(some 33), (some (30, false)), .op (.move (.r 32)), []⟩,
    ⟨(some 34), (some (33, true)), .op (.move (.r 5)), []⟩,
    ⟨(some 35), (some (33, true)), .op (.bin .gtr .other (.r 34) (.k (.sc (.int .u64 1)))), []⟩,
    ⟨(some 36), (some (30, false)), .op (.pick (.r 33) (.r 35) (.k (bo false))), []⟩,
    ⟨(some 37), none, .op (.pick (.r 30) (.k (bo true)) (.r 36)), []⟩,
    ⟨(some 38), none, .op (.move (.r 37)), []⟩,
    ⟨(some 39), (some (38, false)), .op (.move (.r 4)), []⟩,
    ⟨(some 40), (some (38, false)), .op (.bin .gtr .other (.r 39) (.k (i64 0))), []⟩,
    ⟨(some 41), (some (38, false)), .op (.move (.r 40)), []⟩,
    ⟨(some 42), (some (41, true)), .op (.move (.r 5)), []⟩,
    ⟨(some 43), (some (41, true)), .op (.bin .eql .other (.r 42) (.k (.sc (.int .u64 0)))), []⟩,
    ⟨(some 44), (some (38, false)), .op (.pick (.r 41) (.r 43) (.k (bo false))), []⟩,
    ⟨(some 45), none, .op (.pick (.r 38) (.k (bo true)) (.r 44)), []⟩])
  (.cond (.r 45)
  (.seq (.ops [
    ⟨(some 46), none, .op (.move (.r 0)), []⟩,
    ⟨(some 47), none, .op (.nilCheck (.r 46)), []⟩,
    ⟨(some 48), none, .op (.fieldAddr 1 (.r 47)), []⟩,
    ⟨none, none, .op (.store 1 (.r 48) (.k (i64 6))), []⟩])
  (.seq (.ops [
    ⟨(some 2), none, .op (.move (.k (i64 0))), []⟩])
  (.ret)))
  (.skip)))
  (.seq (.ops [
    ⟨(some 49), none, .op (.move (.r 3)), []⟩,
    ⟨(some 50), none, .op (.move (.r 5)), []⟩,
    ⟨(some 51), none, .op (.bin .rem .other (.r 50) (.k (.sc (.int .u64 128)))), []⟩,
    ⟨(some 52), none, .op (.move (.r 4)), []⟩,
    ⟨(some 53), none, .op (.bin .mul .other (.k (i64 7)) (.r 52)), []⟩,
    ⟨(some 54), none, .op (.conv .u64 (.r 53)), []⟩,
    ⟨(some 55), none, .op (.bin .shl .other (.r 51) (.r 54)), []⟩,
    ⟨(some 56), none, .op (.bin .or .other (.r 49) (.r 55)), []⟩,
    ⟨(some 3), none, .op (.move (.r 56)), []⟩])
  (.seq (.ops [
    ⟨(some 57), none, .op (.move (.r 5)), []⟩,
    ⟨(some 58), none, .op (.bin .lss .other (.r 57) (.k (.sc (.int .u64 128)))), []⟩])
  (.cond (.r 58)
  (.seq (.ops [
    ⟨(some 59), none, .op (.move (.r 0)), []⟩,
    ⟨(some 60), none, .op (.move (.r 0)), []⟩,
    ⟨(some 61), none, .op (.nilCheck (.r 60)), []⟩,
    ⟨(some 62), none, .op (.fieldAddr 0 (.r 61)), []⟩,
    ⟨(some 63), none, .op (.load none (.r 62)), []⟩,
    ⟨(some 64), none, .op (.move (.r 4)), []⟩,
    ⟨(some 65), none, .op (.bin .add .other (.r 64) (.k (i64 1))), []⟩,
    ⟨(some 66), none, .op (.sliceL 1 (.r 63) (some (.r 65)) none none), []⟩,
    ⟨(some 67), none, .op (.nilCheck (.r 59)), []⟩,
    ⟨(some 68), none, .op (.fieldAddr 0 (.r 67)), []⟩,
    ⟨none, none, .op (.store 1 (.r 68) (.r 66)), []⟩])
  (.seq (.seq (.ops [
    ⟨(some 69), none, .op (.move (.r 3)), []⟩,
    ⟨(some 70), none, .op (.bin .rem .other (.r 69) (.k (.sc (.int .u64 2)))), []⟩,
    ⟨(some 71), none, .op (.bin .eql .other (.r 70) (.k (.sc (.int .u64 1)))), []⟩])
  (.cond (.r 71)
  (.seq (.ops [
    ⟨(some 72), none, .op (.move (.r 3)), []⟩,
    ⟨(some 73), none, .op (.bin .shr .other (.r 72) (.k (.sc (.int .u64 1)))), []⟩,
    ⟨(some 74), none, .op (.un .xor (.r 73)), []⟩,
    ⟨(some 75), none, .op (.conv .i64 (.r 74)), []⟩,
    ⟨(some 2), none, .op (.move (.r 75)), []⟩])
  (.ret))
  (.skip)))
  (.seq (.ops [
    ⟨(some 76), none, .op (.move (.r 3)), []⟩,
    ⟨(some 77), none, .op (.bin .shr .other (.r 76) (.k (.sc (.int .u64 1)))), []⟩,
    ⟨(some 78), none, .op (.conv .i64 (.r 77)), []⟩,
    ⟨(some 2), none, .op (.move (.r 78)), []⟩])
  (.ret))))
  (.skip)))))))
  (.ops [
    ⟨(some 18), none, .op (.move (.r 4)), []⟩,
    ⟨(some 19), none, .op (.bin .add .other (.r 18) (.k (i64 1))), []⟩,
    ⟨(some 4), none, .op (.move (.r 19)), []⟩]))))))
  (.seq (.ops [
    ⟨(some 79), none, .op (.move (.r 0)), []⟩,
    ⟨(some 80), none, .op (.nilCheck (.r 79)), []⟩,
    ⟨(some 81), none, .op (.fieldAddr 1 (.r 80)), []⟩,
    ⟨none, none, .op (.store 1 (.r 81) (.k (i64 7))), []⟩])
  (.seq (.ops [
    ⟨(some 2), none, .op (.move (.k (i64 0))), []⟩])
  (.ret))))))
theorem e29 : Try.f29.body.map (normCode Try.prog true Try.f29.ntmps) = some n29 := by kernel_rfl
theorem r29 : resOf Try.f29 = some [2] := by kernel_rfl

def n30 : NCode :=
  .seq (.ops [
    ⟨(some 4), none, .op (.move (.k (.lst [] .nil))), []⟩])
  (.seq (.ops [
    ⟨(some 6), none, .op (.move (.r 1)), []⟩,
    ⟨(some 7), none, .op (.bin .shl .other (.r 6) (.k (.sc (.int .u64 1)))), []⟩,
    ⟨(some 8), none, .op (.conv .u64 (.r 7)), []⟩,
    ⟨(some 9), none, .op (.move (.r 1)), []⟩,
    ⟨(some 10), none, .op (.bin .shr .other (.r 9) (.k (.sc (.int .u64 63)))), []⟩,
    ⟨(some 11), none, .op (.conv .u64 (.r 10)), []⟩,
    ⟨(some 12), none, .op (.bin .xor .other (.r 8) (.r 11)), []⟩,
    ⟨(some 5), none, .op (.move (.r 12)), []⟩])
  (.seq (.block 0 (.loop (.seq (.seq (.ops [
    ⟨(some 13), none, .op (.move (.r 5)), []⟩,
    ⟨(some 14), none, .op (.bin .geq .other (.r 13) (.k (.sc (.int .u64 128)))), []⟩])
  (.cond (.r 14)
  (.skip)
  (.exit 0)))
  (.seq (.block 1 (.ops [
    ⟨(some 17), none, .op (.move (.r 0)), []⟩,
    ⟨(some 18), none, .op (.move (.r 5)), []⟩,
    ⟨(some 19), none, .op (.conv .u8 (.r 18)), []⟩,
    ⟨(some 20), none, .op (.bin .or .other (.r 19) (.k (.sc (.int .u8 128)))), []⟩,
    ⟨(some 21), none, .op (.buildSlice none [(.sc (.int .u8 0))] 1 [(0, (.r 20))]), []⟩,
    ⟨(some 22), none, .op (.append true none 1 [(.sc (.int .u8 0))] (.r 17) (.r 21)), []⟩,
    ⟨(some 0), none, .op (.move (.r 22)), []⟩]))
  (.ops [
    ⟨(some 15), none, .op (.move (.r 5)), []⟩,
    ⟨(some 16), none, .op (.bin .shr .other (.r 15) (.k (.sc (.int .u64 7)))), []⟩,
    ⟨(some 5), none, .op (.move (.r 16)), []⟩])))))
  (.seq (.ops [
    ⟨(some 23), none, .op (.move (.r 0)), []⟩,
    ⟨(some 24), none, .op (.move (.r 5)), []⟩,
    ⟨(some 25), none, .op (.conv .u8 (.r 24)), []⟩,
    ⟨(some 26), none, .op (.buildSlice none [(.sc (.int .u8 0))] 1 [(0, (.r 25))]), []⟩,
    ⟨(some 27), none, .op (.append true none 1 [(.sc (.int .u8 0))] (.r 23) (.r 26)), []⟩,
    ⟨(some 4), none, .op (.move (.r 27)), []⟩])
  (.ret))))
theorem e30 : Try.f30.body.map (normCode Try.prog true Try.f30.ntmps) = some n30 := by kernel_rfl
theorem r30 : resOf Try.f30 = some [4] := by kernel_rfl

def n31 : NCode :=
  .seq (.ops [
    ⟨(some 2), none, .op (.move (.k (i64 0))), []⟩,
    ⟨(some 3), none, .op (.move (.k (i64 0))), []⟩])
  (.seq (.ops [
    ⟨(some 4), none, .op (.move (.k (.sc (.int .u64 0)))), []⟩])
  (.seq (.seq (.ops [
    ⟨(some 7), none, .op (.move (.r 0)), []⟩,
    ⟨(some 8), none, .op (.nilCheck (.r 7)), []⟩,
    ⟨(some 9), none, .op (.fieldAddr 0 (.r 8)), []⟩,
    ⟨(some 10), none, .op (.load none (.r 9)), []⟩,
    ⟨(some 11), none, .op (.lenL (.r 10)), []⟩,
    ⟨(some 12), none, .op (.move (.k (i64 0))), []⟩])
  (.block 0 (.loop (.seq (.ops [
    ⟨(some 13), none, .op (.bin .lss .other (.r 12) (.r 11)), []⟩])
  (.seq (.cond (.r 13)
  (.skip)
  (.exit 0))
  (.seq (.block 1 (.seq (.ops [
    ⟨(some 14), none, .op (.move (.r 12)), []⟩,
    ⟨(some 15), none, .op (.idxAddr 1 (.r 10) (.r 12)), []⟩,
    ⟨(some 16), none, .op (.load none (.r 15)), []⟩,
    ⟨(some 5), none, .op (.move (.r 14)), []⟩,
    ⟨(some 6), none, .op (.move (.r 16)), []⟩])
  (.seq (.seq (.ops [
    ⟨(some 17), none, .op (.move (.r 5)), []⟩,
    ⟨(some 18), none, .op (.bin .gtr .other (.r 17) (.k (i64 9))), []⟩,
    ⟨(some 19), none, .op (.move (.r 18)), []⟩,
    ⟨(some 20), (some (19, false)), .op (.move (.r 5)), []⟩,
    ⟨(some 21), (some (19, false)), .op (.bin .eql .other (.r 20) (.k (i64 9))), []⟩,
    ⟨(some 22), (some (19, false)), .op (.move (.r 21)), []⟩,
    ⟨(some 23), (some (22, true)), .op (.move (.r 6)), []⟩,
    ⟨(some 24), (some (22, true)), .op (.bin .gtr .other (.r 23) (.k (.sc (.int .u8 1)))), []⟩,
    ⟨(some 25), (some (19, false)), .op (.pick (.r 22) (.r 24) (.k (bo false))), []⟩,
    ⟨(some 26), none, .op (.pick (.r 19) (.k (bo true)) (.r 25)), []⟩,
    ⟨(some 27), none, .op (.move (.r 26)), []⟩,
    ⟨(some 28), (some (27, false)), .op (.move (.r 5)), []⟩,
    ⟨(some 29), (some (27, false)), .op (.bin .gtr .other (.r 28) (.k (i64 0))), []⟩,
    ⟨(some 30), (some (27, false)), .op (.move (.r 29)), []⟩,
    ⟨(some 31), (some (30, true)), .op (.move (.r 6)), []⟩,
    ⟨(some 32), (some (30, true)), .op (.bin .eql .other (.r 31) (.k (.sc (.int .u8 0)))), []⟩,
    ⟨(some 33), (some (27, false)), .op (.pick (.r 30) (.r 32) (.k (bo false))), []⟩,
    ⟨(some 34), none, .op (.pick (.r 27) (.k (bo true)) (.r 33)), []⟩])
  (.cond (.r 34)
  (.seq (.ops [
    ⟨(some 35), none, .op (.move (.r 0)), []⟩,
    ⟨(some 36), none, .call (.k (.clos 33 [])) [(.r 35), (.k (i64 6))], []⟩])
  (.seq (.ops [
    ⟨(some 2), none, .op (.move (.k (i64 0))), []⟩,
    ⟨(some 3), none, .op (.move (.k (i64 0))), []⟩])
  (.ret)))
  (.skip)))
  (.seq (.ops [
    ⟨(some 37), none, .op (.move (.r 4)), []⟩,
    ⟨(some 38), none, .op (.move (.r 6)), []⟩,
    ⟨(some 39), none, .op (.bin .andNot .other (.r 38) (.k (.sc (.int .u8 128)))), []⟩,
    ⟨(some 40), none, .op (.conv .u64 (.r 39)), []⟩,
    ⟨(some 41), none, .op (.move (.r 5)), []⟩,
    ⟨(some 42), none, .op (.bin .mul .other (.r 41) (.k (i64 7))), []⟩,
    ⟨(some 43), none, .op (.bin .shl .other (.r 40) (.r 42)), []⟩,
    ⟨(some 44), none, .op (.bin .or .other (.r 37) (.r 43)), []⟩,
    ⟨(some 4), none, .op (.move (.r 44)), []⟩])
  (.seq (.ops [
    ⟨(some 45), none, .op (.move (.r 6)), []⟩,
    ⟨(some 46), none, .op (.bin .lss .other (.r 45) (.k (.sc (.int .u8 128)))), []⟩])
  (.cond (.r 46)
  (.seq (.ops [
    ⟨(some 47), none, .op (.move (.r 4)), []⟩,
    ⟨(some 48), none, .op (.bin .shr .other (.r 47) (.k (.sc (.int .u64 1)))), []⟩,
    ⟨(some 49), none, .op (.conv .i64 (.r 48)), []⟩,
    ⟨(some 50), none, .op (.move (.r 4)), []⟩,
    ⟨(some 51), none, .op (.bin .and .other (.r 50) (.k (.sc (.int .u64 1)))), []⟩,
    ⟨(some 52), none, .op (.conv .i64 (.r 51)), []⟩,
    ⟨(some 53), none, .op (.un .neg (.r 52)), []⟩,
    ⟨(some 54), none, .op (.bin .xor .other (.r 49) (.r 53)), []⟩,
    ⟨(some 55), none, .op (.move (.r 5)), []⟩,
    ⟨(some 56), none, .op (.bin .add .other (.r 55) (.k (i64 1))), []⟩,
    ⟨(some 2), none, .op (.move (.r 54)), []⟩,
    ⟨(some 3), none, .op (.move (.r 56)), []⟩])
  (.ret))
  (.skip)))))))
  (.ops [
    ⟨(some 57), none, .op (.bin .add .other (.r 12) (.k (i64 1))), []⟩,
    ⟨(some 12), none, .op (.move (.r 57)), []⟩])))))))
  (.seq (.ops [
    ⟨(some 58), none, .op (.move (.r 0)), []⟩,
    ⟨(some 59), none, .call (.k (.clos 33 [])) [(.r 58), (.k (i64 7))], []⟩])
  (.seq (.ops [
    ⟨(some 2), none, .op (.move (.k (i64 0))), []⟩,
    ⟨(some 3), none, .op (.move (.k (i64 0))), []⟩])
  (.ret)))))
theorem e31 : Try.f31.body.map (normCode Try.prog true Try.f31.ntmps) = some n31 := by kernel_rfl
theorem r31 : resOf Try.f31 = some [2, 3] := by kernel_rfl

def n32 : NCode :=
  .ops [
    ⟨(some 4), none, .op (.move (.r 0)), []⟩,
    ⟨(some 5), none, .op (.move (.r 0)), []⟩,
    ⟨(some 6), none, .op (.nilCheck (.r 5)), []⟩,
    ⟨(some 7), none, .op (.fieldAddr 0 (.r 6)), []⟩,
    ⟨(some 8), none, .op (.load none (.r 7)), []⟩,
    ⟨(some 9), none, .op (.move (.r 1)), []⟩,
    ⟨(some 10), none, .op (.move (.r 0)), []⟩,
    ⟨(some 11), none, .op (.nilCheck (.r 10)), []⟩,
    ⟨(some 12), none, .op (.fieldAddr 0 (.r 11)), []⟩,
    ⟨(some 13), none, .op (.load none (.r 12)), []⟩,
    ⟨(some 14), none, .op (.lenL (.r 13)), []⟩,
    ⟨(some 15), none, .op (.move (.r 0)), []⟩,
    ⟨(some 16), none, .op (.nilCheck (.r 15)), []⟩,
    ⟨(some 17), none, .op (.fieldAddr 0 (.r 16)), []⟩,
    ⟨(some 18), none, .op (.load none (.r 17)), []⟩,
    ⟨(some 19), none, .op (.lenL (.r 18)), []⟩,
    ⟨(some 20), none, .op (.sliceL 1 (.r 8) (some (.r 9)) (some (.r 14)) (some (.r 19))), []⟩,
    ⟨(some 21), none, .op (.nilCheck (.r 4)), []⟩,
    ⟨(some 22), none, .op (.fieldAddr 0 (.r 21)), []⟩,
    ⟨none, none, .op (.store 1 (.r 22) (.r 20)), []⟩]
theorem e32 : Try.f32.body.map (normCode Try.prog true Try.f32.ntmps) = some n32 := by kernel_rfl
theorem r32 : resOf Try.f32 = some [] := by kernel_rfl

def n33 : NCode :=
  .seq (.ops [
    ⟨(some 4), none, .op (.move (.r 0)), []⟩,
    ⟨(some 5), none, .call (.k (.clos 26 [])) [(.r 4)], []⟩,
    ⟨(some 6), none, .op (.bin .eql .other (.r 5) (.k (i64 0))), []⟩])
  (.cond (.r 6)
  (.ops [
    ⟨(some 7), none, .op (.move (.r 0)), []⟩,
    ⟨(some 8), none, .op (.move (.r 1)), []⟩,
    ⟨(some 9), none, .op (.nilCheck (.r 7)), []⟩,
    ⟨(some 10), none, .op (.fieldAddr 1 (.r 9)), []⟩,
    ⟨none, none, .op (.store 1 (.r 10) (.r 8)), []⟩])
  (.skip))
theorem e33 : Try.f33.body.map (normCode Try.prog true Try.f33.ntmps) = some n33 := by kernel_rfl
theorem r33 : resOf Try.f33 = some [] := by kernel_rfl

def n28f : NCode :=
  .seq (.ops [
    ⟨(some 2), none, .op (.move (.k (.lst [] .nil))), []⟩])
  (.seq (.seq (.ops [
    ⟨(some 3), none, .op (.move (.r 0)), []⟩,
    ⟨(some 4), none, .op (.bin .eql .slice (.r 3) (.k (.lst [] .nil))), []⟩])
  (.cond (.r 4)
  (.seq (.ops [
    ⟨(some 2), none, .op (.move (.k (.lst [] .nil))), []⟩])
  (.ret))
  (.skip)))
  (.seq (.ops [
    ⟨(some 5), none, .op (.buildSlice none [(.sc (.int .u8 0))] 0 []), []⟩,
    ⟨(some 6), none, .op (.move (.r 0)), []⟩,
    ⟨(some 7), none, .op (.append false none 1 [(.sc (.int .u8 0))] (.r 5) (.r 6)), []⟩,
    ⟨(some 2), none, .op (.move (.r 7)), []⟩])
  (.ret)))
theorem e28f : Try.f28.body.map (normCode Try.prog false Try.f28.ntmps) = some n28f := by kernel_rfl
theorem r28f : resOf Try.f28 = some [2] := by kernel_rfl

end Go.Proofs.Ytlcfagocikfocaa.Moi
