/- The small form of each function, as the machine reckons it. -/
import Derived.Test.YtpmbebdcbejlkacMoiX
import Derived.Test.YtpmbebdcbejlkacChecked
set_option linter.unusedVariables false
set_option maxRecDepth 100000
namespace Go.Proofs.Ytpmbebdcbejlkac.Moi
open Go Go.RowKit
theorem mixed : Try.prog.follows .mixedOrders = true := Try.checked.mixed
abbrev iv (n : Int) : AV := .sc (.int .i64 n)
abbrev bl (l : List Int) : List AV := kl .u8 l
theorem bl_app {a b : List Int} : bl (a ++ b) = bl a ++ bl b := List.map_append
theorem bl_len {a : List Int} : (bl a).length = a.length := List.length_map ..
theorem bl_take {a : List Int} {n : Nat} : bl (a.take n) = (bl a).take n := List.map_take
theorem bl_drop {a : List Int} {n : Nat} : bl (a.drop n) = (bl a).drop n := List.map_drop

def n3 : NCode :=
  .seq (.ops [
    ⟨(some 4), none, .op (.move (.k (bo false))), []⟩])
  (.seq (.ops [
    ⟨(some 13), none, .call (.k (.clos 7 [])) [(.k (i64 6))], []⟩,
    ⟨(some 12), none, .op (.move (.r 13)), []⟩,
    ⟨(some 14), none, .op (.extract 0 (.r 12)), []⟩,
    ⟨(some 15), none, .op (.extract 1 (.r 12)), []⟩,
    ⟨(some 5), none, .op (.move (.r 14)), []⟩,
    ⟨(some 6), none, .op (.move (.r 15)), []⟩])
  (.seq (.seq (.ops [
    ⟨(some 16), none, .op (.move (.r 6)), []⟩,
    ⟨(some 17), none, .op (.bin .neq .other (.r 16) (.k (i64 0))), []⟩,
    ⟨(some 18), none, .op (.move (.r 17)), []⟩,
    ⟨(some 19), (some (18, false)), .op (.move (.r 1)), []⟩,
    ⟨(some 20), (some (18, false)), .op (.bin .lss .other (.r 19) (.k (i64 0))), []⟩,
    ⟨(some 21), none, .op (.pick (.r 18) (.k (bo true)) (.r 20)), []⟩,
    ⟨(some 22), none, .op (.move (.r 21)), []⟩,
    ⟨(some 23), (some (22, false)), .op (.move (.r 1)), []⟩,
    ⟨(some 24), (some (22, false)), .op (.bin .gtr .other (.r 23) (.k (i64 5))), []⟩,
    ⟨(some 25), none, .op (.pick (.r 22) (.k (bo true)) (.r 24)), []⟩])
  (.cond (.r 25)
  (.seq (.ops [
    ⟨(some 26), none, .op (.move (.r 6)), []⟩,
    ⟨(some 27), none, .op (.bin .eql .other (.r 26) (.k (i64 0))), []⟩,
    ⟨(some 28), none, .op (.move (.r 27)), []⟩,
    ⟨(some 29), (some (28, true)), .call (.k (.clos 8 [])) [], []⟩,
    ⟨(some 30), none, .op (.pick (.r 28) (.r 29) (.k (bo false))), []⟩,
    ⟨(some 4), none, .op (.move (.r 30)), []⟩])
  (.ret))
  (.skip)))
  (.seq (.ops [
    ⟨(some 31), none, .op (.move (.r 5)), []⟩,
    ⟨(some 32), none, .op (.move (.r 1)), []⟩,
    ⟨(some 33), none, .op (.buildSlice none [(.sc (.int .u8 0))] 3 [(0, (.k (.sc (.int .u8 111)))), (1, (.k (.sc (.int .u8 119)))), (2, (.k (.sc (.int .u8 110))))]), []⟩,
    ⟨(some 34), none, .op (.twin (.r 33)), []⟩,
    ⟨(some 35), none, .call (.k (.clos 9 [])) [(.r 31), (.r 32), (.r 34)], []⟩])
  (.seq (.ops [
    ⟨(some 37), none, .op (.move (.r 5)), []⟩,
    ⟨(some 38), none, .op (.move (.r 1)), []⟩,
    ⟨(some 39), none, .call (.k (.clos 10 [])) [(.r 37), (.r 38)], []⟩,
    ⟨(some 36), none, .op (.move (.r 39)), []⟩,
    ⟨(some 40), none, .op (.extract 0 (.r 36)), []⟩,
    ⟨(some 41), none, .op (.extract 1 (.r 36)), []⟩,
    ⟨(some 7), none, .op (.move (.r 40)), []⟩,
    ⟨(some 8), none, .op (.move (.r 41)), []⟩])
  (.seq (.seq (.ops [
    ⟨(some 42), none, .op (.move (.r 8)), []⟩,
    ⟨(some 43), none, .op (.bin .neq .other (.r 42) (.k (i64 0))), []⟩])
  (.cond (.r 43)
  (.seq (.ops [
    ⟨(some 4), none, .op (.move (.k (bo false))), []⟩])
  (.ret))
  (.skip)))
  (.seq (.seq (.ops [
    ⟨(some 9), none, .op (.move (.k (i64 0))), []⟩])
  (.block 0 (.loop (.seq (.seq (.ops [
    ⟨(some 44), none, .op (.move (.r 9)), []⟩,
    ⟨(some 45), none, .op (.move (.r 0)), []⟩,
    ⟨(some 46), none, .op (.lenL (.r 45)), []⟩,
    ⟨(some 47), none, .op (.bin .lss .other (.r 44) (.r 46)), []⟩,
    ⟨(some 48), none, .op (.move (.r 47)), []⟩,
    ⟨(some 49), (some (48, true)), .op (.move (.r 9)), []⟩,
    ⟨(some 50), (some (48, true)), .op (.bin .lss .other (.r 49) (.k (i64 40))), []⟩,
    ⟨(some 51), none, .op (.pick (.r 48) (.r 50) (.k (bo false))), []⟩])
  (.cond (.r 51)
  (.skip)
  (.exit 0)))
  (.seq (.block 1 (.seq (.ops [
    ⟨(some 54), none, .op (.move (.r 0)), []⟩,
    ⟨(some 55), none, .op (.move (.r 9)), []⟩,
    ⟨(some 56), none, .op (.idxAddr 4 (.r 54) (.r 55)), []⟩,
    ⟨(some 57), none, .op (.fieldAddr 0 (.r 56)), []⟩,
    ⟨(some 58), none, .op (.load none (.r 57)), []⟩,
    ⟨(some 59), none, .op (.bin .rem .other (.r 58) (.k (i64 3))), []⟩])
  (.block 2 (.seq (.ops [
    ⟨(some 63), none, .op (.bin .eql .other (.r 59) (.k (i64 0))), []⟩,
    ⟨(some 62), none, .op (.move (.r 63)), []⟩])
  (.cond (.r 62)
  (.seq (.ops [
    ⟨(some 64), none, .op (.move (.r 0)), []⟩,
    ⟨(some 65), none, .op (.move (.r 9)), []⟩,
    ⟨(some 66), none, .op (.idxAddr 4 (.r 64) (.r 65)), []⟩,
    ⟨(some 67), none, .op (.fieldAddr 1 (.r 66)), []⟩,
    ⟨(some 68), none, .op (.load none (.r 67)), []⟩,
    ⟨(some 69), none, .op (.move (.r 1)), []⟩,
    ⟨(some 70), none, .op (.bin .neq .other (.r 68) (.r 69)), []⟩])
  (.cond (.r 70)
  (.ops [
    ⟨(some 71), none, .op (.move (.r 5)), []⟩,
    ⟨(some 72), none, .op (.move (.r 0)), []⟩,
    ⟨(some 73), none, .op (.move (.r 9)), []⟩,
    ⟨(some 74), none, .op (.idxAddr 4 (.r 72) (.r 73)), []⟩,
    ⟨(some 75), none, .op (.fieldAddr 1 (.r 74)), []⟩,
    ⟨(some 76), none, .op (.load none (.r 75)), []⟩,
    ⟨(some 77), none, .op (.move (.r 0)), []⟩,
    ⟨(some 78), none, .op (.move (.r 9)), []⟩,
    ⟨(some 79), none, .op (.idxAddr 4 (.r 77) (.r 78)), []⟩,
    ⟨(some 80), none, .op (.fieldAddr 3 (.r 79)), []⟩,
    ⟨(some 81), none, .op (.load none (.r 80)), []⟩,
    ⟨(some 82), none, .call (.k (.clos 9 [])) [(.r 71), (.r 76), (.r 81)], []⟩])
  (.skip)))
  (.seq (.ops [
    ⟨(some 84), none, .op (.bin .eql .other (.r 59) (.k (i64 1))), []⟩,
    ⟨(some 83), none, .op (.move (.r 84)), []⟩])
  (.cond (.r 83)
  (.ops [
    ⟨(some 85), none, .op (.move (.r 5)), []⟩,
    ⟨(some 86), none, .op (.move (.r 0)), []⟩,
    ⟨(some 87), none, .op (.move (.r 9)), []⟩,
    ⟨(some 88), none, .op (.idxAddr 4 (.r 86) (.r 87)), []⟩,
    ⟨(some 89), none, .op (.fieldAddr 1 (.r 88)), []⟩,
    ⟨(some 90), none, .op (.load none (.r 89)), []⟩,
    ⟨(some 91), none, .op (.move (.r 0)), []⟩,
    ⟨(some 92), none, .op (.move (.r 9)), []⟩,
    ⟨(some 93), none, .op (.idxAddr 4 (.r 91) (.r 92)), []⟩,
    ⟨(some 94), none, .op (.fieldAddr 2 (.r 93)), []⟩,
    ⟨(some 95), none, .op (.load none (.r 94)), []⟩,
    ⟨(some 96), none, .call (.k (.clos 11 [])) [(.r 85), (.r 90), (.r 95)], []⟩])
  (.ops [
    ⟨(some 60), none, .op (.move (.r 5)), []⟩,
    ⟨(some 61), none, .call (.k (.clos 12 [])) [(.r 60)], []⟩]))))))))
  (.ops [
    ⟨(some 52), none, .op (.move (.r 9)), []⟩,
    ⟨(some 53), none, .op (.bin .add .other (.r 52) (.k (i64 1))), []⟩,
    ⟨(some 9), none, .op (.move (.r 53)), []⟩]))))))
  (.seq (.ops [
    ⟨(some 97), none, .op (.move (.r 5)), []⟩,
    ⟨(some 98), none, .call (.k (.clos 12 [])) [(.r 97)], []⟩])
  (.seq (.ops [
    ⟨(some 100), none, .op (.move (.r 5)), []⟩,
    ⟨(some 101), none, .op (.move (.r 1)), []⟩,
    ⟨(some 102), none, .call (.k (.clos 10 [])) [(.r 100), (.r 101)], []⟩,
    ⟨(some 99), none, .op (.move (.r 102)), []⟩,
    ⟨(some 103), none, .op (.extract 0 (.r 99)), []⟩,
    ⟨(some 104), none, .op (.extract 1 (.r 99)), []⟩,
    ⟨(some 10), none, .op (.move (.r 103)), []⟩,
    ⟨(some 11), none, .op (.move (.r 104)), []⟩])
  (.seq (.ops [
    ⟨(some 105), none, .op (.move (.r 10)), []⟩,
    ⟨(some 106), none, .op (.b2s (.r 105)), []⟩,
    ⟨(some 107), none, .op (.move (.r 7)), []⟩,
    ⟨(some 108), none, .op (.b2s (.r 107)), []⟩,
    ⟨(some 109), none, .op (.bin .eql .other (.r 106) (.r 108)), []⟩,
    ⟨(some 110), none, .op (.move (.r 109)), []⟩,
    ⟨(some 111), (some (110, true)), .op (.move (.r 11)), []⟩,
    ⟨(some 112), (some (110, true)), .op (.bin .eql .other (.r 111) (.k (i64 0))), []⟩,
    ⟨(some 113), none, .op (.pick (.r 110) (.r 112) (.k (bo false))), []⟩,
    ⟨(some 114), none, .op (.move (.r 113)), []⟩,
    ⟨(some 115), (some (114, true)), .call (.k (.clos 8 [])) [], []⟩,
    ⟨(some 116), none, .op (.pick (.r 114) (.r 115) (.k (bo false))), []⟩,
    ⟨(some 4), none, .op (.move (.r 116)), []⟩])
  (.ret))))))))))
theorem e3 : Try.f3.body.map (normCode Try.prog true Try.f3.ntmps) = some n3 := by kernel_rfl
theorem r3 : resOf Try.f3 = some [4] := by kernel_rfl

def n4 : NCode :=
  .seq (.ops [
    ⟨(some 4), none, .op (.move (.k (bo false))), []⟩])
  (.seq (.ops [
    ⟨(some 19), none, .op (.move (.r 0)), []⟩,
    ⟨(some 20), none, .call (.k (.clos 7 [])) [(.r 19)], []⟩,
    ⟨(some 18), none, .op (.move (.r 20)), []⟩,
    ⟨(some 21), none, .op (.extract 0 (.r 18)), []⟩,
    ⟨(some 22), none, .op (.extract 1 (.r 18)), []⟩,
    ⟨(some 5), none, .op (.move (.r 21)), []⟩,
    ⟨(some 6), none, .op (.move (.r 22)), []⟩])
  (.seq (.seq (.ops [
    ⟨(some 23), none, .op (.move (.r 0)), []⟩,
    ⟨(some 24), none, .op (.bin .lss .other (.r 23) (.k (i64 1))), []⟩,
    ⟨(some 25), none, .op (.move (.r 24)), []⟩,
    ⟨(some 26), (some (25, false)), .op (.move (.r 0)), []⟩,
    ⟨(some 27), (some (25, false)), .op (.bin .gtr .other (.r 26) (.k (i64 4096))), []⟩,
    ⟨(some 28), none, .op (.pick (.r 25) (.k (bo true)) (.r 27)), []⟩])
  (.cond (.r 28)
  (.seq (.ops [
    ⟨(some 29), none, .op (.move (.r 6)), []⟩,
    ⟨(some 30), none, .op (.bin .eql .other (.r 29) (.k (i64 2))), []⟩,
    ⟨(some 31), none, .op (.move (.r 30)), []⟩,
    ⟨(some 32), (some (31, true)), .op (.move (.r 5)), []⟩,
    ⟨(some 33), (some (31, true)), .op (.bin .eql .pointer (.r 32) (.k (.sc (.pointer none)))), []⟩,
    ⟨(some 34), none, .op (.pick (.r 31) (.r 33) (.k (bo false))), []⟩,
    ⟨(some 35), none, .op (.move (.r 34)), []⟩,
    ⟨(some 36), (some (35, true)), .call (.k (.clos 8 [])) [], []⟩,
    ⟨(some 37), none, .op (.pick (.r 35) (.r 36) (.k (bo false))), []⟩,
    ⟨(some 4), none, .op (.move (.r 37)), []⟩])
  (.ret))
  (.skip)))
  (.seq (.seq (.ops [
    ⟨(some 38), none, .op (.move (.r 0)), []⟩,
    ⟨(some 39), none, .op (.bin .gtr .other (.r 38) (.k (i64 12))), []⟩])
  (.cond (.r 39)
  (.seq (.ops [
    ⟨(some 40), none, .op (.move (.r 6)), []⟩,
    ⟨(some 41), none, .op (.bin .eql .other (.r 40) (.k (i64 0))), []⟩,
    ⟨(some 42), none, .op (.move (.r 41)), []⟩,
    ⟨(some 43), (some (42, true)), .op (.move (.r 5)), []⟩,
    ⟨(some 44), (some (42, true)), .call (.k (.clos 13 [])) [(.r 43)], []⟩,
    ⟨(some 45), (some (42, true)), .op (.move (.r 0)), []⟩,
    ⟨(some 46), (some (42, true)), .op (.bin .eql .other (.r 44) (.r 45)), []⟩,
    ⟨(some 47), none, .op (.pick (.r 42) (.r 46) (.k (bo false))), []⟩,
    ⟨(some 48), none, .op (.move (.r 47)), []⟩,
    ⟨(some 49), (some (48, true)), .call (.k (.clos 8 [])) [], []⟩,
    ⟨(some 50), none, .op (.pick (.r 48) (.r 49) (.k (bo false))), []⟩,
    ⟨(some 4), none, .op (.move (.r 50)), []⟩])
  (.ret))
  (.skip)))
  (.seq (.ops [
    ⟨(some 52), none, .op (.move (.r 0)), []⟩,
    ⟨(some 53), none, .call (.k (.clos 14 [])) [(.r 52)], []⟩,
    ⟨(some 51), none, .op (.move (.r 53)), []⟩,
    ⟨(some 54), none, .op (.extract 0 (.r 51)), []⟩,
    ⟨(some 55), none, .op (.extract 1 (.r 51)), []⟩,
    ⟨(some 7), none, .op (.move (.r 54)), []⟩,
    ⟨(some 8), none, .op (.move (.r 55)), []⟩])
  (.seq (.seq (.ops [
    ⟨(some 9), none, .op (.move (.k (i64 0))), []⟩])
  (.block 0 (.loop (.seq (.seq (.ops [
    ⟨(some 56), none, .op (.move (.r 9)), []⟩,
    ⟨(some 57), none, .op (.move (.r 1)), []⟩,
    ⟨(some 58), none, .op (.lenL (.r 57)), []⟩,
    ⟨(some 59), none, .op (.bin .lss .other (.r 56) (.r 58)), []⟩,
    ⟨(some 60), none, .op (.move (.r 59)), []⟩,
    ⟨(some 61), (some (60, true)), .op (.move (.r 9)), []⟩,
    ⟨(some 62), (some (60, true)), .op (.bin .lss .other (.r 61) (.k (i64 60))), []⟩,
    ⟨(some 63), none, .op (.pick (.r 60) (.r 62) (.k (bo false))), []⟩])
  (.cond (.r 63)
  (.skip)
  (.exit 0)))
  (.seq (.block 1 (.seq (.ops [
    ⟨(some 66), none, .op (.move (.r 1)), []⟩,
    ⟨(some 67), none, .op (.move (.r 9)), []⟩,
    ⟨(some 68), none, .op (.idxAddr 4 (.r 66) (.r 67)), []⟩,
    ⟨(some 69), none, .op (.load (some 4) (.r 68)), []⟩,
    ⟨(some 10), none, .op (.alloc [(i64 0), (i64 0), (i64 0), (.lst [] .nil)]), []⟩,
    ⟨none, none, .op (.store 4 (.r 10) (.r 69)), []⟩])
  (.seq (.seq (.ops [
    ⟨(some 70), none, .op (.fieldAddr 0 (.r 10)), []⟩,
    ⟨(some 71), none, .op (.load none (.r 70)), []⟩,
    ⟨(some 72), none, .op (.bin .rem .other (.r 71) (.k (i64 5))), []⟩])
  (.block 2 (.seq (.ops [
    ⟨(some 86), none, .op (.bin .eql .other (.r 72) (.k (i64 0))), []⟩,
    ⟨(some 85), none, .op (.move (.r 86)), []⟩])
  (.cond (.r 85)
  (.seq (.ops [
    ⟨(some 87), none, .op (.move (.r 5)), []⟩,
    ⟨(some 88), none, .op (.fieldAddr 1 (.r 10)), []⟩,
    ⟨(some 89), none, .op (.load none (.r 88)), []⟩,
    ⟨(some 90), none, .op (.fieldAddr 3 (.r 10)), []⟩,
    ⟨(some 91), none, .op (.load none (.r 90)), []⟩,
    ⟨(some 93), none, .op (.move (.r 7)), []⟩,
    ⟨(some 94), none, .op (.fieldAddr 1 (.r 10)), []⟩,
    ⟨(some 95), none, .op (.load none (.r 94)), []⟩,
    ⟨(some 96), none, .op (.fieldAddr 3 (.r 10)), []⟩,
    ⟨(some 97), none, .op (.load none (.r 96)), []⟩,
    ⟨(some 92), none, .call (.k (.clos 9 [])) [(.r 87), (.r 89), (.r 91)], [⟨95, none, .load none (.r 94)⟩, ⟨97, none, .load none (.r 96)⟩]⟩,
    ⟨(some 98), none, .call (.k (.clos 15 [])) [(.r 93), (.r 95), (.r 97)], []⟩,
    ⟨(some 99), none, .op (.bin .neq .other (.r 92) (.r 98)), []⟩])
  (.cond (.r 99)
  (.seq (.ops [
    ⟨(some 4), none, .op (.move (.k (bo false))), []⟩])
  (.ret))
  (.skip)))
  (.seq (.ops [
    ⟨(some 101), none, .op (.bin .eql .other (.r 72) (.k (i64 1))), []⟩,
    ⟨(some 100), none, .op (.move (.r 101)), []⟩])
  (.cond (.r 100)
  (.seq (.ops [
    ⟨(some 103), none, .op (.move (.r 5)), []⟩,
    ⟨(some 104), none, .op (.fieldAddr 1 (.r 10)), []⟩,
    ⟨(some 105), none, .op (.load none (.r 104)), []⟩,
    ⟨(some 106), none, .call (.k (.clos 10 [])) [(.r 103), (.r 105)], []⟩,
    ⟨(some 102), none, .op (.move (.r 106)), []⟩,
    ⟨(some 107), none, .op (.extract 0 (.r 102)), []⟩,
    ⟨(some 108), none, .op (.extract 1 (.r 102)), []⟩,
    ⟨(some 11), none, .op (.move (.r 107)), []⟩,
    ⟨(some 12), none, .op (.move (.r 108)), []⟩])
  (.seq (.ops [
    ⟨(some 110), none, .op (.move (.r 7)), []⟩,
    ⟨(some 111), none, .op (.fieldAddr 1 (.r 10)), []⟩,
    ⟨(some 112), none, .op (.load none (.r 111)), []⟩,
    ⟨(some 113), none, .call (.k (.clos 16 [])) [(.r 110), (.r 112)], []⟩,
    ⟨(some 109), none, .op (.move (.r 113)), []⟩,
    ⟨(some 114), none, .op (.extract 0 (.r 109)), []⟩,
    ⟨(some 115), none, .op (.extract 1 (.r 109)), []⟩,
    ⟨(some 13), none, .op (.move (.r 114)), []⟩,
    ⟨(some 14), none, .op (.move (.r 115)), []⟩])
  (.seq (.seq (.ops [
    ⟨(some 116), none, .op (.move (.r 11)), []⟩,
    ⟨(some 117), none, .op (.b2s (.r 116)), []⟩,
    ⟨(some 118), none, .op (.move (.r 13)), []⟩,
    ⟨(some 119), none, .op (.b2s (.r 118)), []⟩,
    ⟨(some 120), none, .op (.bin .neq .other (.r 117) (.r 119)), []⟩,
    ⟨(some 121), none, .op (.move (.r 120)), []⟩,
    ⟨(some 122), (some (121, false)), .op (.move (.r 12)), []⟩,
    ⟨(some 123), (some (121, false)), .op (.move (.r 14)), []⟩,
    ⟨(some 124), (some (121, false)), .op (.bin .neq .other (.r 122) (.r 123)), []⟩,
    ⟨(some 125), none, .op (.pick (.r 121) (.k (bo true)) (.r 124)), []⟩])
  (.cond (.r 125)
  (.seq (.ops [
    ⟨(some 4), none, .op (.move (.k (bo false))), []⟩])
  (.ret))
  (.skip)))
  (.seq (.ops [
    ⟨(some 15), none, .op (.move (.k (i64 0))), []⟩])
  (.block 3 (.loop (.seq (.seq (.ops [
    ⟨(some 126), none, .op (.move (.r 15)), []⟩,
    ⟨(some 127), none, .op (.move (.r 11)), []⟩,
    ⟨(some 128), none, .op (.lenL (.r 127)), []⟩,
    ⟨(some 129), none, .op (.bin .lss .other (.r 126) (.r 128)), []⟩])
  (.cond (.r 129)
  (.skip)
  (.exit 3)))
  (.seq (.block 4 (.ops [
    ⟨(some 132), none, .op (.move (.r 11)), []⟩,
    ⟨(some 133), none, .op (.move (.r 15)), []⟩,
    ⟨(some 134), none, .op (.idxAddr 1 (.r 132) (.r 133)), []⟩,
    ⟨none, none, .op (.store 1 (.r 134) (.k (.sc (.int .u8 255)))), []⟩]))
  (.ops [
    ⟨(some 130), none, .op (.move (.r 15)), []⟩,
    ⟨(some 131), none, .op (.bin .add .other (.r 130) (.k (i64 1))), []⟩,
    ⟨(some 15), none, .op (.move (.r 131)), []⟩])))))))))
  (.seq (.ops [
    ⟨(some 136), none, .op (.bin .eql .other (.r 72) (.k (i64 2))), []⟩,
    ⟨(some 135), none, .op (.move (.r 136)), []⟩])
  (.cond (.r 135)
  (.seq (.ops [
    ⟨(some 137), none, .op (.move (.r 5)), []⟩,
    ⟨(some 138), none, .op (.fieldAddr 1 (.r 10)), []⟩,
    ⟨(some 139), none, .op (.load none (.r 138)), []⟩,
    ⟨(some 140), none, .op (.fieldAddr 2 (.r 10)), []⟩,
    ⟨(some 141), none, .op (.load none (.r 140)), []⟩,
    ⟨(some 143), none, .op (.move (.r 7)), []⟩,
    ⟨(some 144), none, .op (.fieldAddr 1 (.r 10)), []⟩,
    ⟨(some 145), none, .op (.load none (.r 144)), []⟩,
    ⟨(some 146), none, .op (.fieldAddr 2 (.r 10)), []⟩,
    ⟨(some 147), none, .op (.load none (.r 146)), []⟩,
    ⟨(some 142), none, .call (.k (.clos 11 [])) [(.r 137), (.r 139), (.r 141)], [⟨145, none, .load none (.r 144)⟩, ⟨147, none, .load none (.r 146)⟩]⟩,
    ⟨(some 148), none, .call (.k (.clos 17 [])) [(.r 143), (.r 145), (.r 147)], []⟩,
    ⟨(some 149), none, .op (.bin .neq .other (.r 142) (.r 148)), []⟩])
  (.cond (.r 149)
  (.seq (.ops [
    ⟨(some 4), none, .op (.move (.k (bo false))), []⟩])
  (.ret))
  (.skip)))
  (.seq (.ops [
    ⟨(some 151), none, .op (.bin .eql .other (.r 72) (.k (i64 3))), []⟩,
    ⟨(some 150), none, .op (.move (.r 151)), []⟩])
  (.cond (.r 150)
  (.seq (.ops [
    ⟨(some 152), none, .op (.move (.r 7)), []⟩,
    ⟨(some 153), none, .call (.k (.clos 18 [])) [(.r 152)], []⟩])
  (.seq (.ops [
    ⟨(some 154), none, .op (.move (.r 5)), []⟩,
    ⟨(some 155), none, .call (.k (.clos 12 [])) [(.r 154)], []⟩,
    ⟨(some 156), none, .op (.bin .neq .other (.r 155) (.k (i64 0))), []⟩])
  (.cond (.r 156)
  (.seq (.ops [
    ⟨(some 4), none, .op (.move (.k (bo false))), []⟩])
  (.ret))
  (.skip))))
  (.seq (.ops [
    ⟨(some 73), none, .op (.move (.r 5)), []⟩,
    ⟨(some 74), none, .call (.k (.clos 19 [])) [(.r 73)], []⟩,
    ⟨(some 16), none, .op (.move (.r 74)), []⟩])
  (.seq (.ops [
    ⟨(some 75), none, .op (.move (.r 7)), []⟩,
    ⟨(some 76), none, .call (.k (.clos 20 [])) [(.r 75)], []⟩,
    ⟨(some 17), none, .op (.move (.r 76)), []⟩])
  (.seq (.ops [
    ⟨(some 77), none, .op (.move (.r 5)), []⟩,
    ⟨(some 78), none, .call (.k (.clos 12 [])) [(.r 77)], []⟩])
  (.seq (.ops [
    ⟨(some 79), none, .op (.move (.r 5)), []⟩,
    ⟨(some 80), none, .op (.buildSlice none [(.sc (.int .u8 0))] 5 [(0, (.k (.sc (.int .u8 111)))), (1, (.k (.sc (.int .u8 116)))), (2, (.k (.sc (.int .u8 104)))), (3, (.k (.sc (.int .u8 101)))), (4, (.k (.sc (.int .u8 114))))]), []⟩,
    ⟨(some 81), none, .op (.twin (.r 80)), []⟩,
    ⟨(some 82), none, .call (.k (.clos 9 [])) [(.r 79), (.k (i64 0)), (.r 81)], []⟩])
  (.seq (.ops [
    ⟨(some 83), none, .op (.move (.r 16)), []⟩,
    ⟨(some 5), none, .op (.move (.r 83)), []⟩])
  (.ops [
    ⟨(some 84), none, .op (.move (.r 17)), []⟩,
    ⟨(some 7), none, .op (.move (.r 84)), []⟩]))))))))))))))))
  (.seq (.ops [
    ⟨(some 157), none, .op (.move (.r 5)), []⟩,
    ⟨(some 158), none, .op (.move (.r 7)), []⟩,
    ⟨(some 159), none, .call (.k (.clos 21 [])) [(.r 157), (.r 158)], []⟩,
    ⟨(some 160), none, .op (.un .not (.r 159)), []⟩])
  (.cond (.r 160)
  (.seq (.ops [
    ⟨(some 4), none, .op (.move (.k (bo false))), []⟩])
  (.ret))
  (.skip))))))
  (.ops [
    ⟨(some 64), none, .op (.move (.r 9)), []⟩,
    ⟨(some 65), none, .op (.bin .add .other (.r 64) (.k (i64 1))), []⟩,
    ⟨(some 9), none, .op (.move (.r 65)), []⟩]))))))
  (.seq (.ops [
    ⟨(some 161), none, .call (.k (.clos 8 [])) [], []⟩,
    ⟨(some 4), none, .op (.move (.r 161)), []⟩])
  (.ret)))))))
theorem e4 : Try.f4.body.map (normCode Try.prog true Try.f4.ntmps) = some n4 := by kernel_rfl
theorem r4 : resOf Try.f4 = some [4] := by kernel_rfl

def n5 : NCode :=
  .seq (.ops [
    ⟨(some 4), none, .op (.move (.k (bo false))), []⟩])
  (.seq (.ops [
    ⟨(some 18), none, .call (.k (.clos 7 [])) [(.k (i64 4))], []⟩,
    ⟨(some 17), none, .op (.move (.r 18)), []⟩,
    ⟨(some 19), none, .op (.extract 0 (.r 17)), []⟩,
    ⟨(some 20), none, .op (.extract 1 (.r 17)), []⟩,
    ⟨(some 5), none, .op (.move (.r 19)), []⟩,
    ⟨(some 6), none, .op (.move (.r 20)), []⟩])
  (.seq (.ops [
    ⟨(some 22), none, .call (.k (.clos 14 [])) [(.k (i64 4))], []⟩,
    ⟨(some 21), none, .op (.move (.r 22)), []⟩,
    ⟨(some 23), none, .op (.extract 0 (.r 21)), []⟩,
    ⟨(some 24), none, .op (.extract 1 (.r 21)), []⟩,
    ⟨(some 7), none, .op (.move (.r 23)), []⟩,
    ⟨(some 8), none, .op (.move (.r 24)), []⟩])
  (.seq (.seq (.ops [
    ⟨(some 25), none, .op (.move (.r 6)), []⟩,
    ⟨(some 26), none, .op (.bin .neq .other (.r 25) (.k (i64 0))), []⟩])
  (.cond (.r 26)
  (.seq (.ops [
    ⟨(some 4), none, .op (.move (.k (bo false))), []⟩])
  (.ret))
  (.skip)))
  (.seq (.seq (.ops [
    ⟨(some 9), none, .op (.move (.k (i64 0))), []⟩])
  (.block 0 (.loop (.seq (.seq (.ops [
    ⟨(some 27), none, .op (.move (.r 9)), []⟩,
    ⟨(some 28), none, .op (.move (.r 0)), []⟩,
    ⟨(some 29), none, .op (.lenL (.r 28)), []⟩,
    ⟨(some 30), none, .op (.bin .lss .other (.r 27) (.r 29)), []⟩,
    ⟨(some 31), none, .op (.move (.r 30)), []⟩,
    ⟨(some 32), (some (31, true)), .op (.move (.r 9)), []⟩,
    ⟨(some 33), (some (31, true)), .op (.bin .lss .other (.r 32) (.k (i64 20))), []⟩,
    ⟨(some 34), none, .op (.pick (.r 31) (.r 33) (.k (bo false))), []⟩])
  (.cond (.r 34)
  (.skip)
  (.exit 0)))
  (.seq (.block 1 (.seq (.ops [
    ⟨(some 37), none, .op (.move (.r 5)), []⟩,
    ⟨(some 38), none, .op (.move (.r 0)), []⟩,
    ⟨(some 39), none, .op (.move (.r 9)), []⟩,
    ⟨(some 40), none, .op (.idxAddr 4 (.r 38) (.r 39)), []⟩,
    ⟨(some 41), none, .op (.fieldAddr 1 (.r 40)), []⟩,
    ⟨(some 42), none, .op (.load none (.r 41)), []⟩,
    ⟨(some 43), none, .op (.move (.r 0)), []⟩,
    ⟨(some 44), none, .op (.move (.r 9)), []⟩,
    ⟨(some 45), none, .op (.idxAddr 4 (.r 43) (.r 44)), []⟩,
    ⟨(some 46), none, .op (.fieldAddr 3 (.r 45)), []⟩,
    ⟨(some 47), none, .op (.load none (.r 46)), []⟩,
    ⟨(some 48), none, .call (.k (.clos 9 [])) [(.r 37), (.r 42), (.r 47)], []⟩])
  (.ops [
    ⟨(some 49), none, .op (.move (.r 7)), []⟩,
    ⟨(some 50), none, .op (.move (.r 0)), []⟩,
    ⟨(some 51), none, .op (.move (.r 9)), []⟩,
    ⟨(some 52), none, .op (.idxAddr 4 (.r 50) (.r 51)), []⟩,
    ⟨(some 53), none, .op (.fieldAddr 1 (.r 52)), []⟩,
    ⟨(some 54), none, .op (.load none (.r 53)), []⟩,
    ⟨(some 55), none, .op (.move (.r 0)), []⟩,
    ⟨(some 56), none, .op (.move (.r 9)), []⟩,
    ⟨(some 57), none, .op (.idxAddr 4 (.r 55) (.r 56)), []⟩,
    ⟨(some 58), none, .op (.fieldAddr 3 (.r 57)), []⟩,
    ⟨(some 59), none, .op (.load none (.r 58)), []⟩,
    ⟨(some 60), none, .call (.k (.clos 15 [])) [(.r 49), (.r 54), (.r 59)], []⟩])))
  (.ops [
    ⟨(some 35), none, .op (.move (.r 9)), []⟩,
    ⟨(some 36), none, .op (.bin .add .other (.r 35) (.k (i64 1))), []⟩,
    ⟨(some 9), none, .op (.move (.r 36)), []⟩]))))))
  (.seq (.ops [
    ⟨(some 61), none, .op (.move (.r 5)), []⟩,
    ⟨(some 62), none, .call (.k (.clos 19 [])) [(.r 61)], []⟩,
    ⟨(some 10), none, .op (.move (.r 62)), []⟩])
  (.seq (.ops [
    ⟨(some 63), none, .op (.move (.r 7)), []⟩,
    ⟨(some 64), none, .call (.k (.clos 20 [])) [(.r 63)], []⟩,
    ⟨(some 11), none, .op (.move (.r 64)), []⟩])
  (.seq (.seq (.ops [
    ⟨(some 12), none, .op (.move (.k (i64 0))), []⟩])
  (.block 2 (.loop (.seq (.seq (.ops [
    ⟨(some 65), none, .op (.move (.r 12)), []⟩,
    ⟨(some 66), none, .op (.move (.r 1)), []⟩,
    ⟨(some 67), none, .op (.lenL (.r 66)), []⟩,
    ⟨(some 68), none, .op (.bin .lss .other (.r 65) (.r 67)), []⟩,
    ⟨(some 69), none, .op (.move (.r 68)), []⟩,
    ⟨(some 70), (some (69, true)), .op (.move (.r 12)), []⟩,
    ⟨(some 71), (some (69, true)), .op (.bin .lss .other (.r 70) (.k (i64 20))), []⟩,
    ⟨(some 72), none, .op (.pick (.r 69) (.r 71) (.k (bo false))), []⟩])
  (.cond (.r 72)
  (.skip)
  (.exit 2)))
  (.seq (.block 3 (.seq (.ops [
    ⟨(some 75), none, .op (.move (.r 10)), []⟩,
    ⟨(some 76), none, .op (.move (.r 1)), []⟩,
    ⟨(some 77), none, .op (.move (.r 12)), []⟩,
    ⟨(some 78), none, .op (.idxAddr 4 (.r 76) (.r 77)), []⟩,
    ⟨(some 79), none, .op (.fieldAddr 1 (.r 78)), []⟩,
    ⟨(some 80), none, .op (.load none (.r 79)), []⟩,
    ⟨(some 81), none, .op (.move (.r 1)), []⟩,
    ⟨(some 82), none, .op (.move (.r 12)), []⟩,
    ⟨(some 83), none, .op (.idxAddr 4 (.r 81) (.r 82)), []⟩,
    ⟨(some 84), none, .op (.fieldAddr 3 (.r 83)), []⟩,
    ⟨(some 85), none, .op (.load none (.r 84)), []⟩,
    ⟨(some 86), none, .call (.k (.clos 9 [])) [(.r 75), (.r 80), (.r 85)], []⟩])
  (.ops [
    ⟨(some 87), none, .op (.move (.r 11)), []⟩,
    ⟨(some 88), none, .op (.move (.r 1)), []⟩,
    ⟨(some 89), none, .op (.move (.r 12)), []⟩,
    ⟨(some 90), none, .op (.idxAddr 4 (.r 88) (.r 89)), []⟩,
    ⟨(some 91), none, .op (.fieldAddr 1 (.r 90)), []⟩,
    ⟨(some 92), none, .op (.load none (.r 91)), []⟩,
    ⟨(some 93), none, .op (.move (.r 1)), []⟩,
    ⟨(some 94), none, .op (.move (.r 12)), []⟩,
    ⟨(some 95), none, .op (.idxAddr 4 (.r 93) (.r 94)), []⟩,
    ⟨(some 96), none, .op (.fieldAddr 3 (.r 95)), []⟩,
    ⟨(some 97), none, .op (.load none (.r 96)), []⟩,
    ⟨(some 98), none, .call (.k (.clos 15 [])) [(.r 87), (.r 92), (.r 97)], []⟩])))
  (.ops [
    ⟨(some 73), none, .op (.move (.r 12)), []⟩,
    ⟨(some 74), none, .op (.bin .add .other (.r 73) (.k (i64 1))), []⟩,
    ⟨(some 12), none, .op (.move (.r 74)), []⟩]))))))
  (.seq (.ops [
    ⟨(some 13), none, .op (.move (.k (bo true))), []⟩])
  (.seq (.seq (.ops [
    ⟨(some 14), none, .op (.move (.k (i64 0))), []⟩])
  (.block 4 (.loop (.seq (.seq (.ops [
    ⟨(some 99), none, .op (.move (.r 14)), []⟩,
    ⟨(some 100), none, .op (.move (.r 7)), []⟩,
    ⟨(some 101), none, .op (.nilCheck (.r 100)), []⟩,
    ⟨(some 102), none, .op (.fieldAddr 0 (.r 101)), []⟩,
    ⟨(some 103), none, .op (.load none (.r 102)), []⟩,
    ⟨(some 104), none, .op (.lenL (.r 103)), []⟩,
    ⟨(some 105), none, .op (.bin .lss .other (.r 99) (.r 104)), []⟩])
  (.cond (.r 105)
  (.skip)
  (.exit 4)))
  (.seq (.block 5 (.ops [
    ⟨(some 108), none, .op (.move (.r 13)), []⟩,
    ⟨(some 109), none, .op (.move (.r 108)), []⟩,
    ⟨(some 110), (some (109, true)), .op (.move (.r 7)), []⟩,
    ⟨(some 111), (some (109, true)), .op (.nilCheck (.r 110)), []⟩,
    ⟨(some 112), (some (109, true)), .op (.fieldAddr 0 (.r 111)), []⟩,
    ⟨(some 113), (some (109, true)), .op (.load none (.r 112)), []⟩,
    ⟨(some 114), (some (109, true)), .op (.move (.r 14)), []⟩,
    ⟨(some 115), (some (109, true)), .op (.idxAddr 1 (.r 113) (.r 114)), []⟩,
    ⟨(some 116), (some (109, true)), .op (.load none (.r 115)), []⟩,
    ⟨(some 117), (some (109, true)), .op (.b2s (.r 116)), []⟩,
    ⟨(some 118), (some (109, true)), .op (.move (.r 11)), []⟩,
    ⟨(some 119), (some (109, true)), .op (.nilCheck (.r 118)), []⟩,
    ⟨(some 120), (some (109, true)), .op (.fieldAddr 0 (.r 119)), []⟩,
    ⟨(some 121), (some (109, true)), .op (.load none (.r 120)), []⟩,
    ⟨(some 122), (some (109, true)), .op (.move (.r 14)), []⟩,
    ⟨(some 123), (some (109, true)), .op (.idxAddr 1 (.r 121) (.r 122)), []⟩,
    ⟨(some 124), (some (109, true)), .op (.load none (.r 123)), []⟩,
    ⟨(some 125), (some (109, true)), .op (.b2s (.r 124)), []⟩,
    ⟨(some 126), (some (109, true)), .op (.bin .eql .other (.r 117) (.r 125)), []⟩,
    ⟨(some 127), none, .op (.pick (.r 109) (.r 126) (.k (bo false))), []⟩,
    ⟨(some 13), none, .op (.set (.r 127)), []⟩]))
  (.ops [
    ⟨(some 106), none, .op (.move (.r 14)), []⟩,
    ⟨(some 107), none, .op (.bin .add .other (.r 106) (.k (i64 1))), []⟩,
    ⟨(some 14), none, .op (.move (.r 107)), []⟩]))))))
  (.seq (.ops [
    ⟨(some 129), none, .call (.k (.clos 7 [])) [(.k (i64 3))], []⟩,
    ⟨(some 128), none, .op (.move (.r 129)), []⟩,
    ⟨(some 130), none, .op (.extract 0 (.r 128)), []⟩,
    ⟨(some 131), none, .op (.extract 1 (.r 128)), []⟩,
    ⟨(some 15), none, .op (.move (.r 130)), []⟩,
    ⟨(some 16), none, .op (.move (.r 131)), []⟩])
  (.seq (.ops [
    ⟨(some 132), none, .op (.move (.r 5)), []⟩,
    ⟨(some 133), none, .op (.move (.r 10)), []⟩,
    ⟨(some 134), none, .call (.k (.clos 22 [])) [(.r 132), (.r 133)], []⟩,
    ⟨(some 135), none, .op (.move (.r 13)), []⟩,
    ⟨(some 136), none, .op (.bin .eql .bool (.r 134) (.r 135)), []⟩,
    ⟨(some 137), none, .op (.move (.r 136)), []⟩,
    ⟨(some 138), (some (137, true)), .op (.move (.r 10)), []⟩,
    ⟨(some 139), (some (137, true)), .op (.move (.r 5)), []⟩,
    ⟨(some 140), (some (137, true)), .call (.k (.clos 22 [])) [(.r 138), (.r 139)], []⟩,
    ⟨(some 141), (some (137, true)), .op (.move (.r 13)), []⟩,
    ⟨(some 142), (some (137, true)), .op (.bin .eql .bool (.r 140) (.r 141)), []⟩,
    ⟨(some 143), none, .op (.pick (.r 137) (.r 142) (.k (bo false))), []⟩,
    ⟨(some 144), none, .op (.move (.r 143)), []⟩,
    ⟨(some 145), (some (144, true)), .op (.move (.r 5)), []⟩,
    ⟨(some 146), (some (144, true)), .op (.move (.r 5)), []⟩,
    ⟨(some 147), (some (144, true)), .call (.k (.clos 22 [])) [(.r 145), (.r 146)], []⟩,
    ⟨(some 148), none, .op (.pick (.r 144) (.r 147) (.k (bo false))), []⟩,
    ⟨(some 149), none, .op (.move (.r 148)), []⟩,
    ⟨(some 150), (some (149, true)), .op (.move (.r 5)), []⟩,
    ⟨(some 151), (some (149, true)), .op (.move (.r 15)), []⟩,
    ⟨(some 152), (some (149, true)), .call (.k (.clos 22 [])) [(.r 150), (.r 151)], []⟩,
    ⟨(some 153), (some (149, true)), .op (.un .not (.r 152)), []⟩,
    ⟨(some 154), none, .op (.pick (.r 149) (.r 153) (.k (bo false))), []⟩,
    ⟨(some 155), none, .op (.move (.r 154)), []⟩,
    ⟨(some 156), (some (155, true)), .op (.move (.r 5)), []⟩,
    ⟨(some 157), (some (155, true)), .op (.move (.r 7)), []⟩,
    ⟨(some 158), (some (155, true)), .call (.k (.clos 21 [])) [(.r 156), (.r 157)], []⟩,
    ⟨(some 159), none, .op (.pick (.r 155) (.r 158) (.k (bo false))), []⟩,
    ⟨(some 160), none, .op (.move (.r 159)), []⟩,
    ⟨(some 161), (some (160, true)), .op (.move (.r 10)), []⟩,
    ⟨(some 162), (some (160, true)), .op (.move (.r 11)), []⟩,
    ⟨(some 163), (some (160, true)), .call (.k (.clos 21 [])) [(.r 161), (.r 162)], []⟩,
    ⟨(some 164), none, .op (.pick (.r 160) (.r 163) (.k (bo false))), []⟩,
    ⟨(some 165), none, .op (.move (.r 164)), []⟩,
    ⟨(some 166), (some (165, true)), .call (.k (.clos 8 [])) [], []⟩,
    ⟨(some 167), none, .op (.pick (.r 165) (.r 166) (.k (bo false))), []⟩,
    ⟨(some 4), none, .op (.move (.r 167)), []⟩])
  (.ret))))))))))))
theorem e5 : Try.f5.body.map (normCode Try.prog true Try.f5.ntmps) = some n5 := by kernel_rfl
theorem r5 : resOf Try.f5 = some [4] := by kernel_rfl

def n6 : NCode :=
  .seq (.ops [
    ⟨(some 2), none, .op (.move (.k (bo false))), []⟩])
  (.seq (.ops [
    ⟨(some 3), none, .op (.move (.k (.sc (.pointer none)))), []⟩])
  (.seq (.ops [
    ⟨(some 7), none, .op (.move (.r 3)), []⟩,
    ⟨(some 8), none, .op (.move (.r 0)), []⟩,
    ⟨(some 9), none, .call (.k (.clos 10 [])) [(.r 7), (.r 8)], []⟩,
    ⟨(some 6), none, .op (.move (.r 9)), []⟩,
    ⟨(some 10), none, .op (.extract 0 (.r 6)), []⟩,
    ⟨(some 11), none, .op (.extract 1 (.r 6)), []⟩,
    ⟨(some 4), none, .op (.move (.r 10)), []⟩,
    ⟨(some 5), none, .op (.move (.r 11)), []⟩])
  (.seq (.ops [
    ⟨(some 12), none, .op (.move (.r 3)), []⟩,
    ⟨(some 13), none, .call (.k (.clos 13 [])) [(.r 12)], []⟩,
    ⟨(some 14), none, .op (.bin .eql .other (.r 13) (.k (i64 0))), []⟩,
    ⟨(some 15), none, .op (.move (.r 14)), []⟩,
    ⟨(some 16), (some (15, true)), .op (.move (.r 5)), []⟩,
    ⟨(some 17), (some (15, true)), .op (.bin .eql .other (.r 16) (.k (i64 1))), []⟩,
    ⟨(some 18), none, .op (.pick (.r 15) (.r 17) (.k (bo false))), []⟩,
    ⟨(some 19), none, .op (.move (.r 18)), []⟩,
    ⟨(some 20), (some (19, true)), .op (.move (.r 3)), []⟩,
    ⟨(some 21), (some (19, true)), .op (.move (.r 0)), []⟩,
    ⟨(some 22), (some (19, true)), .call (.k (.clos 9 [])) [(.r 20), (.r 21), (.k (.lst [] .nil))], []⟩,
    ⟨(some 23), (some (19, true)), .op (.bin .eql .other (.r 22) (.k (i64 1))), []⟩,
    ⟨(some 24), none, .op (.pick (.r 19) (.r 23) (.k (bo false))), []⟩,
    ⟨(some 25), none, .op (.move (.r 24)), []⟩,
    ⟨(some 26), (some (25, true)), .op (.move (.r 3)), []⟩,
    ⟨(some 27), (some (25, true)), .op (.move (.r 0)), []⟩,
    ⟨(some 28), (some (25, true)), .op (.move (.r 0)), []⟩,
    ⟨(some 29), (some (25, true)), .call (.k (.clos 11 [])) [(.r 26), (.r 27), (.r 28)], []⟩,
    ⟨(some 30), (some (25, true)), .op (.bin .eql .other (.r 29) (.k (i64 1))), []⟩,
    ⟨(some 31), none, .op (.pick (.r 25) (.r 30) (.k (bo false))), []⟩,
    ⟨(some 32), none, .op (.move (.r 31)), []⟩,
    ⟨(some 33), (some (32, true)), .op (.move (.r 3)), []⟩,
    ⟨(some 34), (some (32, true)), .call (.k (.clos 23 [])) [(.r 33)], []⟩,
    ⟨(some 35), (some (32, true)), .op (.un .not (.r 34)), []⟩,
    ⟨(some 36), none, .op (.pick (.r 32) (.r 35) (.k (bo false))), []⟩,
    ⟨(some 37), none, .op (.move (.r 36)), []⟩,
    ⟨(some 38), (some (37, true)), .op (.move (.r 3)), []⟩,
    ⟨(some 39), (some (37, true)), .call (.k (.clos 12 [])) [(.r 38)], []⟩,
    ⟨(some 40), (some (37, true)), .op (.bin .eql .other (.r 39) (.k (i64 1))), []⟩,
    ⟨(some 41), none, .op (.pick (.r 37) (.r 40) (.k (bo false))), []⟩,
    ⟨(some 42), none, .op (.move (.r 41)), []⟩,
    ⟨(some 43), (some (42, true)), .op (.move (.r 3)), []⟩,
    ⟨(some 44), (some (42, true)), .call (.k (.clos 24 [])) [(.r 43)], []⟩,
    ⟨(some 45), (some (42, true)), .op (.bin .eql .other (.r 44) (.k (i64 0))), []⟩,
    ⟨(some 46), none, .op (.pick (.r 42) (.r 45) (.k (bo false))), []⟩,
    ⟨(some 47), none, .op (.move (.r 46)), []⟩,
    ⟨(some 48), (some (47, true)), .op (.move (.r 3)), []⟩,
    ⟨(some 49), (some (47, true)), .call (.k (.clos 19 [])) [(.r 48)], []⟩,
    ⟨(some 50), (some (47, true)), .op (.bin .eql .pointer (.r 49) (.k (.sc (.pointer none)))), []⟩,
    ⟨(some 51), none, .op (.pick (.r 47) (.r 50) (.k (bo false))), []⟩,
    ⟨(some 52), none, .op (.move (.r 51)), []⟩,
    ⟨(some 53), (some (52, true)), .op (.move (.r 3)), []⟩,
    ⟨(some 54), (some (52, true)), .op (.move (.r 3)), []⟩,
    ⟨(some 55), (some (52, true)), .call (.k (.clos 22 [])) [(.r 53), (.r 54)], []⟩,
    ⟨(some 56), (some (52, true)), .op (.un .not (.r 55)), []⟩,
    ⟨(some 57), none, .op (.pick (.r 52) (.r 56) (.k (bo false))), []⟩,
    ⟨(some 58), none, .op (.move (.r 57)), []⟩,
    ⟨(some 59), (some (58, true)), .call (.k (.clos 8 [])) [], []⟩,
    ⟨(some 60), none, .op (.pick (.r 58) (.r 59) (.k (bo false))), []⟩,
    ⟨(some 2), none, .op (.move (.r 60)), []⟩])
  (.ret))))
theorem e6 : Try.f6.body.map (normCode Try.prog true Try.f6.ntmps) = some n6 := by kernel_rfl
theorem r6 : resOf Try.f6 = some [2] := by kernel_rfl

def n7 : NCode :=
  .seq (.ops [
    ⟨(some 2), none, .op (.move (.k (.sc (.pointer none)))), []⟩,
    ⟨(some 3), none, .op (.move (.k (i64 0))), []⟩])
  (.seq (.seq (.ops [
    ⟨(some 4), none, .op (.move (.r 0)), []⟩,
    ⟨(some 5), none, .op (.bin .lss .other (.r 4) (.k (i64 1))), []⟩,
    ⟨(some 6), none, .op (.move (.r 5)), []⟩,
    ⟨(some 7), (some (6, false)), .op (.move (.r 0)), []⟩,
    ⟨(some 8), (some (6, false)), .op (.bin .gtr .other (.r 7) (.k (i64 4096))), []⟩,
    ⟨(some 9), none, .op (.pick (.r 6) (.k (bo true)) (.r 8)), []⟩])
  (.cond (.r 9)
  (.seq (.ops [
    ⟨(some 2), none, .op (.move (.k (.sc (.pointer none)))), []⟩,
    ⟨(some 3), none, .op (.move (.k (i64 2))), []⟩])
  (.ret))
  (.skip)))
  (.seq (.ops [
    ⟨(some 10), none, .op (.move (.r 0)), []⟩,
    ⟨(some 11), none, .op (.mkSlice 32 32 [(.sc (.int .u8 0)), (.sc (.int .u8 0)), (.sc (.int .u8 0)), (.sc (.int .u8 0)), (.sc (.int .u8 0)), (.sc (.int .u8 0)), (.sc (.int .u8 0)), (.sc (.int .u8 0)), (.sc (.int .u8 0)), (.sc (.int .u8 0)), (.sc (.int .u8 0)), (.sc (.int .u8 0)), (.sc (.int .u8 0)), (.sc (.int .u8 0)), (.sc (.int .u8 0)), (.sc (.int .u8 0)), (.sc (.int .u8 0)), (.sc (.int .u8 0)), (.sc (.int .u8 0)), (.sc (.int .u8 0)), (.sc (.int .u8 0)), (.sc (.int .u8 0)), (.sc (.int .u8 0)), (.sc (.int .u8 0)), (.sc (.int .u8 0)), (.sc (.int .u8 0)), (.sc (.int .u8 0)), (.sc (.int .u8 0)), (.sc (.int .u8 0)), (.sc (.int .u8 0)), (.sc (.int .u8 0)), (.sc (.int .u8 0))] (.r 10) (.r 10)), []⟩,
    ⟨(some 12), none, .op (.build [(.lst [] .nil), (bo false), (i64 0), (i64 0), (i64 0)] [(0, 1, (.r 11)), (2, 1, (.k (i64 (-1))))]), []⟩,
    ⟨(some 13), none, .op (.box (.r 12)), []⟩,
    ⟨(some 2), none, .op (.move (.r 13)), []⟩,
    ⟨(some 3), none, .op (.move (.k (i64 0))), []⟩])
  (.ret)))
theorem e7 : Try.f7.body.map (normCode Try.prog true Try.f7.ntmps) = some n7 := by kernel_rfl
theorem r7 : resOf Try.f7 = some [2, 3] := by kernel_rfl

def n8 : NCode :=
  .seq (.ops [
    ⟨(some 0), none, .op (.move (.k (bo false))), []⟩])
  (.seq (.ops [
    ⟨(some 11), none, .call (.k (.clos 7 [])) [(.k (i64 2))], []⟩,
    ⟨(some 10), none, .op (.move (.r 11)), []⟩,
    ⟨(some 12), none, .op (.extract 0 (.r 10)), []⟩,
    ⟨(some 13), none, .op (.extract 1 (.r 10)), []⟩,
    ⟨(some 1), none, .op (.move (.r 12)), []⟩,
    ⟨(some 2), none, .op (.move (.r 13)), []⟩])
  (.seq (.seq (.ops [
    ⟨(some 14), none, .op (.move (.r 2)), []⟩,
    ⟨(some 15), none, .op (.bin .neq .other (.r 14) (.k (i64 0))), []⟩,
    ⟨(some 16), none, .op (.move (.r 15)), []⟩,
    ⟨(some 17), (some (16, false)), .op (.move (.r 1)), []⟩,
    ⟨(some 18), (some (16, false)), .op (.bin .eql .pointer (.r 17) (.k (.sc (.pointer none)))), []⟩,
    ⟨(some 19), none, .op (.pick (.r 16) (.k (bo true)) (.r 18)), []⟩])
  (.cond (.r 19)
  (.seq (.ops [
    ⟨(some 0), none, .op (.move (.k (bo false))), []⟩])
  (.ret))
  (.skip)))
  (.seq (.ops [
    ⟨(some 20), none, .op (.move (.r 1)), []⟩,
    ⟨(some 21), none, .op (.buildSlice none [(.sc (.int .u8 0))] 3 [(0, (.k (.sc (.int .u8 97)))), (1, (.k (.sc (.int .u8 98)))), (2, (.k (.sc (.int .u8 99))))]), []⟩,
    ⟨(some 22), none, .op (.twin (.r 21)), []⟩,
    ⟨(some 23), none, .call (.k (.clos 9 [])) [(.r 20), (.k (i64 0)), (.r 22)], []⟩,
    ⟨(some 3), none, .op (.move (.r 23)), []⟩])
  (.seq (.ops [
    ⟨(some 24), none, .op (.move (.r 1)), []⟩,
    ⟨(some 25), none, .call (.k (.clos 11 [])) [(.r 24), (.k (i64 0)), (.k (i64 1))], []⟩,
    ⟨(some 4), none, .op (.move (.r 25)), []⟩])
  (.seq (.ops [
    ⟨(some 26), none, .op (.move (.r 1)), []⟩,
    ⟨(some 27), none, .op (.buildSlice none [(.sc (.int .u8 0))] 3 [(0, (.k (.sc (.int .u8 120)))), (1, (.k (.sc (.int .u8 121)))), (2, (.k (.sc (.int .u8 122))))]), []⟩,
    ⟨(some 28), none, .op (.twin (.r 27)), []⟩,
    ⟨(some 29), none, .call (.k (.clos 9 [])) [(.r 26), (.k (i64 0)), (.r 28)], []⟩,
    ⟨(some 5), none, .op (.move (.r 29)), []⟩])
  (.seq (.ops [
    ⟨(some 30), none, .op (.move (.r 1)), []⟩,
    ⟨(some 31), none, .call (.k (.clos 23 [])) [(.r 30)], []⟩,
    ⟨(some 6), none, .op (.move (.r 31)), []⟩])
  (.seq (.ops [
    ⟨(some 32), none, .op (.move (.r 1)), []⟩,
    ⟨(some 33), none, .call (.k (.clos 12 [])) [(.r 32)], []⟩,
    ⟨(some 7), none, .op (.move (.r 33)), []⟩])
  (.seq (.ops [
    ⟨(some 35), none, .op (.move (.r 1)), []⟩,
    ⟨(some 36), none, .call (.k (.clos 10 [])) [(.r 35), (.k (i64 0))], []⟩,
    ⟨(some 34), none, .op (.move (.r 36)), []⟩,
    ⟨(some 37), none, .op (.extract 0 (.r 34)), []⟩,
    ⟨(some 38), none, .op (.extract 1 (.r 34)), []⟩,
    ⟨(some 8), none, .op (.move (.r 37)), []⟩,
    ⟨(some 9), none, .op (.move (.r 38)), []⟩])
  (.seq (.ops [
    ⟨(some 39), none, .op (.move (.r 3)), []⟩,
    ⟨(some 40), none, .op (.bin .eql .other (.r 39) (.k (i64 0))), []⟩,
    ⟨(some 41), none, .op (.move (.r 40)), []⟩,
    ⟨(some 42), (some (41, true)), .op (.move (.r 4)), []⟩,
    ⟨(some 43), (some (41, true)), .op (.bin .eql .other (.r 42) (.k (i64 0))), []⟩,
    ⟨(some 44), none, .op (.pick (.r 41) (.r 43) (.k (bo false))), []⟩,
    ⟨(some 45), none, .op (.move (.r 44)), []⟩,
    ⟨(some 46), (some (45, true)), .op (.move (.r 5)), []⟩,
    ⟨(some 47), (some (45, true)), .op (.bin .eql .other (.r 46) (.k (i64 21))), []⟩,
    ⟨(some 48), none, .op (.pick (.r 45) (.r 47) (.k (bo false))), []⟩,
    ⟨(some 49), none, .op (.move (.r 48)), []⟩,
    ⟨(some 50), (some (49, true)), .op (.move (.r 6)), []⟩,
    ⟨(some 51), none, .op (.pick (.r 49) (.r 50) (.k (bo false))), []⟩,
    ⟨(some 52), none, .op (.move (.r 51)), []⟩,
    ⟨(some 53), (some (52, true)), .op (.move (.r 7)), []⟩,
    ⟨(some 54), (some (52, true)), .op (.bin .eql .other (.r 53) (.k (i64 0))), []⟩,
    ⟨(some 55), none, .op (.pick (.r 52) (.r 54) (.k (bo false))), []⟩,
    ⟨(some 56), none, .op (.move (.r 55)), []⟩,
    ⟨(some 57), (some (56, true)), .op (.move (.r 9)), []⟩,
    ⟨(some 58), (some (56, true)), .op (.bin .eql .other (.r 57) (.k (i64 0))), []⟩,
    ⟨(some 59), none, .op (.pick (.r 56) (.r 58) (.k (bo false))), []⟩,
    ⟨(some 60), none, .op (.move (.r 59)), []⟩,
    ⟨(some 61), (some (60, true)), .op (.move (.r 8)), []⟩,
    ⟨(some 62), (some (60, true)), .op (.lenL (.r 61)), []⟩,
    ⟨(some 63), (some (60, true)), .op (.bin .eql .other (.r 62) (.k (i64 32))), []⟩,
    ⟨(some 64), none, .op (.pick (.r 60) (.r 63) (.k (bo false))), []⟩,
    ⟨(some 65), none, .op (.move (.r 64)), []⟩,
    ⟨(some 66), (some (65, true)), .op (.move (.r 8)), []⟩,
    ⟨(some 67), (some (65, true)), .op (.sliceL 1 (.r 66) none (some (.k (i64 4))) none), []⟩,
    ⟨(some 68), (some (65, true)), .op (.b2s (.r 67)), []⟩,
    ⟨(some 69), (some (65, true)), .op (.bin .eql .other (.r 68) (.k (.sc (.string ⟨#[120, 98, 99, 0]⟩)))), []⟩,
    ⟨(some 70), none, .op (.pick (.r 65) (.r 69) (.k (bo false))), []⟩,
    ⟨(some 71), none, .op (.move (.r 70)), []⟩,
    ⟨(some 72), (some (71, true)), .op (.move (.r 1)), []⟩,
    ⟨(some 73), (some (71, true)), .call (.k (.clos 24 [])) [(.r 72)], []⟩,
    ⟨(some 74), (some (71, true)), .op (.bin .eql .other (.r 73) (.k (i64 2))), []⟩,
    ⟨(some 75), none, .op (.pick (.r 71) (.r 74) (.k (bo false))), []⟩,
    ⟨(some 0), none, .op (.move (.r 75)), []⟩])
  (.ret))))))))))
theorem e8 : Try.f8.body.map (normCode Try.prog true Try.f8.ntmps) = some n8 := by kernel_rfl
theorem r8 : resOf Try.f8 = some [0] := by kernel_rfl

def n9 : NCode :=
  .seq (.ops [
    ⟨(some 6), none, .op (.move (.k (i64 0))), []⟩])
  (.seq (.seq (.ops [
    ⟨(some 9), none, .op (.move (.r 0)), []⟩,
    ⟨(some 10), none, .op (.move (.r 1)), []⟩,
    ⟨(some 11), none, .call (.k (.clos 25 [])) [(.r 9), (.r 10)], []⟩,
    ⟨(some 7), none, .op (.move (.r 11)), []⟩])
  (.seq (.ops [
    ⟨(some 12), none, .op (.move (.r 7)), []⟩,
    ⟨(some 13), none, .op (.bin .neq .other (.r 12) (.k (i64 0))), []⟩])
  (.cond (.r 13)
  (.seq (.ops [
    ⟨(some 14), none, .op (.move (.r 7)), []⟩,
    ⟨(some 6), none, .op (.move (.r 14)), []⟩])
  (.ret))
  (.skip))))
  (.seq (.seq (.ops [
    ⟨(some 15), none, .op (.move (.r 2)), []⟩,
    ⟨(some 16), none, .op (.lenL (.r 15)), []⟩,
    ⟨(some 17), none, .op (.bin .gtr .other (.r 16) (.k (i64 32))), []⟩])
  (.cond (.r 17)
  (.seq (.ops [
    ⟨(some 6), none, .op (.move (.k (i64 5))), []⟩])
  (.ret))
  (.skip)))
  (.seq (.ops [
    ⟨(some 18), none, .op (.move (.r 0)), []⟩,
    ⟨(some 19), none, .op (.nilCheck (.r 18)), []⟩,
    ⟨(some 20), none, .op (.fieldAddr 4 (.r 19)), []⟩,
    ⟨(some 21), none, .op (.load none (.r 20)), []⟩,
    ⟨(some 22), none, .op (.bin .add .other (.r 21) (.k (i64 1))), []⟩,
    ⟨(some 23), none, .op (.nilCheck (.r 18)), []⟩,
    ⟨(some 24), none, .op (.fieldAddr 4 (.r 23)), []⟩,
    ⟨none, none, .op (.store 1 (.r 24) (.r 22)), []⟩])
  (.seq (.ops [
    ⟨(some 8), none, .op (.alloc [(.sc (.int .u8 0)), (.sc (.int .u8 0)), (.sc (.int .u8 0)), (.sc (.int .u8 0)), (.sc (.int .u8 0)), (.sc (.int .u8 0)), (.sc (.int .u8 0)), (.sc (.int .u8 0)), (.sc (.int .u8 0)), (.sc (.int .u8 0)), (.sc (.int .u8 0)), (.sc (.int .u8 0)), (.sc (.int .u8 0)), (.sc (.int .u8 0)), (.sc (.int .u8 0)), (.sc (.int .u8 0)), (.sc (.int .u8 0)), (.sc (.int .u8 0)), (.sc (.int .u8 0)), (.sc (.int .u8 0)), (.sc (.int .u8 0)), (.sc (.int .u8 0)), (.sc (.int .u8 0)), (.sc (.int .u8 0)), (.sc (.int .u8 0)), (.sc (.int .u8 0)), (.sc (.int .u8 0)), (.sc (.int .u8 0)), (.sc (.int .u8 0)), (.sc (.int .u8 0)), (.sc (.int .u8 0)), (.sc (.int .u8 0))]), []⟩])
  (.seq (.ops [
    ⟨(some 25), none, .op (.sliceA 32 1 (.r 8) none none), []⟩,
    ⟨(some 26), none, .op (.move (.r 2)), []⟩,
    ⟨(some 27), none, .op (.copy none (.r 25) (.r 26)), []⟩])
  (.seq (.seq (.ops [
    ⟨(some 28), none, .op (.move (.r 0)), []⟩,
    ⟨(some 29), none, .op (.nilCheck (.r 28)), []⟩,
    ⟨(some 30), none, .op (.fieldAddr 2 (.r 29)), []⟩,
    ⟨(some 31), none, .op (.load none (.r 30)), []⟩,
    ⟨(some 32), none, .op (.bin .eql .other (.r 31) (.k (i64 0))), []⟩])
  (.cond (.r 32)
  (.seq (.ops [
    ⟨(some 33), none, .op (.move (.r 0)), []⟩,
    ⟨(some 34), none, .op (.nilCheck (.r 33)), []⟩,
    ⟨(some 35), none, .op (.fieldAddr 0 (.r 34)), []⟩,
    ⟨(some 36), none, .op (.load none (.r 35)), []⟩,
    ⟨(some 37), none, .op (.move (.r 1)), []⟩,
    ⟨(some 38), none, .op (.idxAddr 32 (.r 36) (.r 37)), []⟩,
    ⟨(some 39), none, .op (.move (.r 0)), []⟩,
    ⟨(some 40), none, .op (.nilCheck (.r 39)), []⟩,
    ⟨(some 41), none, .op (.fieldAddr 3 (.r 40)), []⟩,
    ⟨(some 42), none, .op (.load none (.r 41)), []⟩,
    ⟨(some 43), none, .op (.sliceA 32 1 (.r 38) none (some (.r 42))), []⟩,
    ⟨(some 44), none, .op (.sliceA 32 1 (.r 8) none none), []⟩,
    ⟨(some 45), none, .op (.copy none (.r 43) (.r 44)), []⟩])
  (.seq (.ops [
    ⟨(some 46), none, .op (.move (.r 0)), []⟩,
    ⟨(some 47), none, .op (.move (.r 0)), []⟩,
    ⟨(some 48), none, .op (.nilCheck (.r 46)), []⟩,
    ⟨(some 49), none, .op (.fieldAddr 1 (.r 48)), []⟩,
    ⟨none, none, .op (.store 1 (.r 49) (.k (bo true))), []⟩,
    ⟨(some 50), none, .op (.nilCheck (.r 47)), []⟩,
    ⟨(some 51), none, .op (.fieldAddr 2 (.r 50)), []⟩,
    ⟨none, none, .op (.store 1 (.r 51) (.k (i64 (-1)))), []⟩])
  (.seq (.ops [
    ⟨(some 6), none, .op (.move (.k (i64 21))), []⟩])
  (.ret))))
  (.skip)))
  (.seq (.seq (.ops [
    ⟨(some 52), none, .op (.move (.r 0)), []⟩,
    ⟨(some 53), none, .op (.nilCheck (.r 52)), []⟩,
    ⟨(some 54), none, .op (.fieldAddr 2 (.r 53)), []⟩,
    ⟨(some 55), none, .op (.load none (.r 54)), []⟩,
    ⟨(some 56), none, .op (.bin .gtr .other (.r 55) (.k (i64 0))), []⟩])
  (.cond (.r 56)
  (.ops [
    ⟨(some 57), none, .op (.move (.r 0)), []⟩,
    ⟨(some 58), none, .op (.nilCheck (.r 57)), []⟩,
    ⟨(some 59), none, .op (.fieldAddr 2 (.r 58)), []⟩,
    ⟨(some 60), none, .op (.load none (.r 59)), []⟩,
    ⟨(some 61), none, .op (.bin .sub .other (.r 60) (.k (i64 1))), []⟩,
    ⟨(some 62), none, .op (.nilCheck (.r 57)), []⟩,
    ⟨(some 63), none, .op (.fieldAddr 2 (.r 62)), []⟩,
    ⟨none, none, .op (.store 1 (.r 63) (.r 61)), []⟩])
  (.skip)))
  (.seq (.ops [
    ⟨(some 64), none, .op (.move (.r 0)), []⟩,
    ⟨(some 65), none, .op (.nilCheck (.r 64)), []⟩,
    ⟨(some 66), none, .op (.fieldAddr 0 (.r 65)), []⟩,
    ⟨(some 67), none, .op (.load none (.r 66)), []⟩,
    ⟨(some 68), none, .op (.move (.r 1)), []⟩,
    ⟨(some 69), none, .op (.load (some 32) (.r 8)), []⟩,
    ⟨(some 70), none, .op (.idxAddr 32 (.r 67) (.r 68)), []⟩,
    ⟨none, none, .op (.store 32 (.r 70) (.r 69)), []⟩])
  (.seq (.ops [
    ⟨(some 6), none, .op (.move (.k (i64 0))), []⟩])
  (.ret))))))))))
theorem e9 : Try.f9.body.map (normCode Try.prog true Try.f9.ntmps) = some n9 := by kernel_rfl
theorem r9 : resOf Try.f9 = some [6] := by kernel_rfl

def n10 : NCode :=
  .seq (.ops [
    ⟨(some 4), none, .op (.move (.k (.lst [] .nil))), []⟩,
    ⟨(some 5), none, .op (.move (.k (i64 0))), []⟩])
  (.seq (.seq (.ops [
    ⟨(some 7), none, .op (.move (.r 0)), []⟩,
    ⟨(some 8), none, .op (.move (.r 1)), []⟩,
    ⟨(some 9), none, .call (.k (.clos 25 [])) [(.r 7), (.r 8)], []⟩,
    ⟨(some 6), none, .op (.move (.r 9)), []⟩])
  (.seq (.ops [
    ⟨(some 10), none, .op (.move (.r 6)), []⟩,
    ⟨(some 11), none, .op (.bin .neq .other (.r 10) (.k (i64 0))), []⟩])
  (.cond (.r 11)
  (.seq (.ops [
    ⟨(some 12), none, .op (.move (.r 6)), []⟩,
    ⟨(some 4), none, .op (.move (.k (.lst [] .nil))), []⟩,
    ⟨(some 5), none, .op (.move (.r 12)), []⟩])
  (.ret))
  (.skip))))
  (.seq (.ops [
    ⟨(some 13), none, .op (.move (.r 0)), []⟩,
    ⟨(some 14), none, .op (.nilCheck (.r 13)), []⟩,
    ⟨(some 15), none, .op (.fieldAddr 0 (.r 14)), []⟩,
    ⟨(some 16), none, .op (.load none (.r 15)), []⟩,
    ⟨(some 17), none, .op (.move (.r 1)), []⟩,
    ⟨(some 18), none, .op (.idxAddr 32 (.r 16) (.r 17)), []⟩,
    ⟨(some 19), none, .op (.sliceA 32 1 (.r 18) none none), []⟩,
    ⟨(some 20), none, .call (.k (.clos 26 [])) [(.r 19)], []⟩,
    ⟨(some 4), none, .op (.move (.r 20)), []⟩,
    ⟨(some 5), none, .op (.move (.k (i64 0))), []⟩])
  (.ret)))
theorem e10 : Try.f10.body.map (normCode Try.prog true Try.f10.ntmps) = some n10 := by kernel_rfl
theorem r10 : resOf Try.f10 = some [4, 5] := by kernel_rfl

def n11 : NCode :=
  .seq (.ops [
    ⟨(some 6), none, .op (.move (.k (i64 0))), []⟩])
  (.seq (.block 0 (.seq (.ops [
    ⟨(some 8), none, .op (.move (.r 0)), []⟩,
    ⟨(some 9), none, .op (.bin .eql .pointer (.r 8) (.k (.sc (.pointer none)))), []⟩,
    ⟨(some 7), none, .op (.move (.r 9)), []⟩])
  (.cond (.r 7)
  (.seq (.ops [
    ⟨(some 6), none, .op (.move (.k (i64 1))), []⟩])
  (.ret))
  (.seq (.ops [
    ⟨(some 11), none, .op (.move (.r 1)), []⟩,
    ⟨(some 12), none, .op (.bin .lss .other (.r 11) (.k (i64 0))), []⟩,
    ⟨(some 13), none, .op (.move (.r 12)), []⟩,
    ⟨(some 14), (some (13, false)), .op (.move (.r 2)), []⟩,
    ⟨(some 15), (some (13, false)), .op (.bin .lss .other (.r 14) (.k (i64 0))), []⟩,
    ⟨(some 16), none, .op (.pick (.r 13) (.k (bo true)) (.r 15)), []⟩,
    ⟨(some 17), none, .op (.move (.r 16)), []⟩,
    ⟨(some 18), (some (17, false)), .op (.move (.r 2)), []⟩,
    ⟨(some 19), (some (17, false)), .op (.bin .gtr .other (.r 18) (.k (i64 32))), []⟩,
    ⟨(some 20), none, .op (.pick (.r 17) (.k (bo true)) (.r 19)), []⟩,
    ⟨(some 10), none, .op (.move (.r 20)), []⟩])
  (.cond (.r 10)
  (.seq (.ops [
    ⟨(some 6), none, .op (.move (.k (i64 2))), []⟩])
  (.ret))
  (.seq (.ops [
    ⟨(some 22), none, .op (.move (.r 0)), []⟩,
    ⟨(some 23), none, .op (.nilCheck (.r 22)), []⟩,
    ⟨(some 24), none, .op (.fieldAddr 1 (.r 23)), []⟩,
    ⟨(some 25), none, .op (.load none (.r 24)), []⟩,
    ⟨(some 21), none, .op (.move (.r 25)), []⟩])
  (.cond (.r 21)
  (.seq (.ops [
    ⟨(some 6), none, .op (.move (.k (i64 21))), []⟩])
  (.ret))
  (.skip))))))))
  (.seq (.ops [
    ⟨(some 26), none, .op (.move (.r 0)), []⟩,
    ⟨(some 27), none, .op (.move (.r 0)), []⟩,
    ⟨(some 28), none, .op (.move (.r 1)), []⟩,
    ⟨(some 29), none, .op (.move (.r 2)), []⟩,
    ⟨(some 30), none, .op (.nilCheck (.r 26)), []⟩,
    ⟨(some 31), none, .op (.fieldAddr 2 (.r 30)), []⟩,
    ⟨none, none, .op (.store 1 (.r 31) (.r 28)), []⟩,
    ⟨(some 32), none, .op (.nilCheck (.r 27)), []⟩,
    ⟨(some 33), none, .op (.fieldAddr 3 (.r 32)), []⟩,
    ⟨none, none, .op (.store 1 (.r 33) (.r 29)), []⟩])
  (.seq (.ops [
    ⟨(some 6), none, .op (.move (.k (i64 0))), []⟩])
  (.ret))))
theorem e11 : Try.f11.body.map (normCode Try.prog true Try.f11.ntmps) = some n11 := by kernel_rfl
theorem r11 : resOf Try.f11 = some [6] := by kernel_rfl

def n12 : NCode :=
  .seq (.ops [
    ⟨(some 2), none, .op (.move (.k (i64 0))), []⟩])
  (.seq (.seq (.ops [
    ⟨(some 3), none, .op (.move (.r 0)), []⟩,
    ⟨(some 4), none, .op (.bin .eql .pointer (.r 3) (.k (.sc (.pointer none)))), []⟩])
  (.cond (.r 4)
  (.seq (.ops [
    ⟨(some 2), none, .op (.move (.k (i64 1))), []⟩])
  (.ret))
  (.skip)))
  (.seq (.ops [
    ⟨(some 5), none, .op (.move (.r 0)), []⟩,
    ⟨(some 6), none, .op (.move (.r 0)), []⟩,
    ⟨(some 7), none, .op (.nilCheck (.r 5)), []⟩,
    ⟨(some 8), none, .op (.fieldAddr 1 (.r 7)), []⟩,
    ⟨none, none, .op (.store 1 (.r 8) (.k (bo false))), []⟩,
    ⟨(some 9), none, .op (.nilCheck (.r 6)), []⟩,
    ⟨(some 10), none, .op (.fieldAddr 2 (.r 9)), []⟩,
    ⟨none, none, .op (.store 1 (.r 10) (.k (i64 (-1)))), []⟩])
  (.seq (.ops [
    ⟨(some 2), none, .op (.move (.k (i64 0))), []⟩])
  (.ret))))
theorem e12 : Try.f12.body.map (normCode Try.prog true Try.f12.ntmps) = some n12 := by kernel_rfl
theorem r12 : resOf Try.f12 = some [2] := by kernel_rfl

def n13 : NCode :=
  .seq (.ops [
    ⟨(some 2), none, .op (.move (.k (i64 0))), []⟩])
  (.seq (.seq (.ops [
    ⟨(some 3), none, .op (.move (.r 0)), []⟩,
    ⟨(some 4), none, .op (.bin .eql .pointer (.r 3) (.k (.sc (.pointer none)))), []⟩])
  (.cond (.r 4)
  (.seq (.ops [
    ⟨(some 2), none, .op (.move (.k (i64 0))), []⟩])
  (.ret))
  (.skip)))
  (.seq (.ops [
    ⟨(some 5), none, .op (.move (.r 0)), []⟩,
    ⟨(some 6), none, .op (.nilCheck (.r 5)), []⟩,
    ⟨(some 7), none, .op (.fieldAddr 0 (.r 6)), []⟩,
    ⟨(some 8), none, .op (.load none (.r 7)), []⟩,
    ⟨(some 9), none, .op (.lenL (.r 8)), []⟩,
    ⟨(some 2), none, .op (.move (.r 9)), []⟩])
  (.ret)))
theorem e13 : Try.f13.body.map (normCode Try.prog true Try.f13.ntmps) = some n13 := by kernel_rfl
theorem r13 : resOf Try.f13 = some [2] := by kernel_rfl

def n14 : NCode :=
  .seq (.ops [
    ⟨(some 2), none, .op (.move (.k (.sc (.pointer none)))), []⟩,
    ⟨(some 3), none, .op (.move (.k (i64 0))), []⟩])
  (.seq (.seq (.ops [
    ⟨(some 6), none, .op (.move (.r 0)), []⟩,
    ⟨(some 7), none, .op (.bin .lss .other (.r 6) (.k (i64 1))), []⟩,
    ⟨(some 8), none, .op (.move (.r 7)), []⟩,
    ⟨(some 9), (some (8, false)), .op (.move (.r 0)), []⟩,
    ⟨(some 10), (some (8, false)), .op (.bin .gtr .other (.r 9) (.k (i64 4096))), []⟩,
    ⟨(some 11), none, .op (.pick (.r 8) (.k (bo true)) (.r 10)), []⟩])
  (.cond (.r 11)
  (.seq (.ops [
    ⟨(some 2), none, .op (.move (.k (.sc (.pointer none)))), []⟩,
    ⟨(some 3), none, .op (.move (.k (i64 2))), []⟩])
  (.ret))
  (.skip)))
  (.seq (.ops [
    ⟨(some 12), none, .op (.build [(.lst [] .nil), (bo false), (i64 0), (i64 0), (i64 0)] [(2, 1, (.k (i64 (-1))))]), []⟩,
    ⟨(some 13), none, .op (.box (.r 12)), []⟩,
    ⟨(some 4), none, .op (.move (.r 13)), []⟩])
  (.seq (.seq (.ops [
    ⟨(some 5), none, .op (.move (.k (i64 0))), []⟩])
  (.block 0 (.loop (.seq (.seq (.ops [
    ⟨(some 14), none, .op (.move (.r 5)), []⟩,
    ⟨(some 15), none, .op (.move (.r 0)), []⟩,
    ⟨(some 16), none, .op (.bin .lss .other (.r 14) (.r 15)), []⟩])
  (.cond (.r 16)
  (.skip)
  (.exit 0)))
  (.seq (.block 1 (.ops [
    ⟨(some 19), none, .op (.move (.r 4)), []⟩,
    ⟨(some 20), none, .op (.move (.r 4)), []⟩,
    ⟨(some 21), none, .op (.nilCheck (.r 20)), []⟩,
    ⟨(some 22), none, .op (.fieldAddr 0 (.r 21)), []⟩,
    ⟨(some 23), none, .op (.load none (.r 22)), []⟩,
    ⟨(some 24), none, .op (.mkSlice 1 1 [(.sc (.int .u8 0))] (.k (i64 32)) (.k (i64 32))), [⟨23, none, .load none (.r 22)⟩]⟩,
    ⟨(some 25), none, .op (.buildSlice none [(.lst [] .nil)] 1 [(0, (.r 24))]), []⟩,
    ⟨(some 26), none, .op (.append true none 24 [(.lst [] .nil)] (.r 23) (.r 25)), []⟩,
    ⟨(some 27), none, .op (.nilCheck (.r 19)), []⟩,
    ⟨(some 28), none, .op (.fieldAddr 0 (.r 27)), []⟩,
    ⟨none, none, .op (.store 1 (.r 28) (.r 26)), []⟩]))
  (.ops [
    ⟨(some 17), none, .op (.move (.r 5)), []⟩,
    ⟨(some 18), none, .op (.bin .add .other (.r 17) (.k (i64 1))), []⟩,
    ⟨(some 5), none, .op (.move (.r 18)), []⟩]))))))
  (.seq (.ops [
    ⟨(some 29), none, .op (.move (.r 4)), []⟩,
    ⟨(some 2), none, .op (.move (.r 29)), []⟩,
    ⟨(some 3), none, .op (.move (.k (i64 0))), []⟩])
  (.ret)))))
theorem e14 : Try.f14.body.map (normCode Try.prog true Try.f14.ntmps) = some n14 := by kernel_rfl
theorem r14 : resOf Try.f14 = some [2, 3] := by kernel_rfl

def n15 : NCode :=
  .seq (.ops [
    ⟨(some 6), none, .op (.move (.k (i64 0))), []⟩])
  (.seq (.seq (.ops [
    ⟨(some 9), none, .op (.move (.r 0)), []⟩,
    ⟨(some 10), none, .op (.nilCheck (.r 9)), []⟩,
    ⟨(some 11), none, .op (.fieldAddr 1 (.r 10)), []⟩,
    ⟨(some 12), none, .op (.load none (.r 11)), []⟩])
  (.cond (.r 12)
  (.seq (.ops [
    ⟨(some 6), none, .op (.move (.k (i64 21))), []⟩])
  (.ret))
  (.skip)))
  (.seq (.seq (.ops [
    ⟨(some 13), none, .op (.move (.r 1)), []⟩,
    ⟨(some 14), none, .op (.bin .lss .other (.r 13) (.k (i64 0))), []⟩,
    ⟨(some 15), none, .op (.move (.r 14)), []⟩,
    ⟨(some 16), (some (15, false)), .op (.move (.r 1)), []⟩,
    ⟨(some 17), (some (15, false)), .op (.move (.r 0)), []⟩,
    ⟨(some 18), (some (15, false)), .op (.nilCheck (.r 17)), []⟩,
    ⟨(some 19), (some (15, false)), .op (.fieldAddr 0 (.r 18)), []⟩,
    ⟨(some 20), (some (15, false)), .op (.load none (.r 19)), []⟩,
    ⟨(some 21), (some (15, false)), .op (.lenL (.r 20)), []⟩,
    ⟨(some 22), (some (15, false)), .op (.bin .geq .other (.r 16) (.r 21)), []⟩,
    ⟨(some 23), none, .op (.pick (.r 15) (.k (bo true)) (.r 22)), []⟩])
  (.cond (.r 23)
  (.seq (.ops [
    ⟨(some 6), none, .op (.move (.k (i64 17))), []⟩])
  (.ret))
  (.skip)))
  (.seq (.seq (.ops [
    ⟨(some 24), none, .op (.move (.r 2)), []⟩,
    ⟨(some 25), none, .op (.lenL (.r 24)), []⟩,
    ⟨(some 26), none, .op (.bin .gtr .other (.r 25) (.k (i64 32))), []⟩])
  (.cond (.r 26)
  (.seq (.ops [
    ⟨(some 6), none, .op (.move (.k (i64 5))), []⟩])
  (.ret))
  (.skip)))
  (.seq (.ops [
    ⟨(some 27), none, .op (.move (.r 0)), []⟩,
    ⟨(some 28), none, .op (.move (.r 0)), []⟩,
    ⟨(some 29), none, .op (.nilCheck (.r 28)), []⟩,
    ⟨(some 30), none, .op (.fieldAddr 4 (.r 29)), []⟩,
    ⟨(some 31), none, .op (.load none (.r 30)), []⟩,
    ⟨(some 32), none, .op (.bin .add .other (.r 31) (.k (i64 1))), []⟩,
    ⟨(some 33), none, .op (.nilCheck (.r 27)), []⟩,
    ⟨(some 34), none, .op (.fieldAddr 4 (.r 33)), []⟩,
    ⟨none, none, .op (.store 1 (.r 34) (.r 32)), []⟩])
  (.seq (.ops [
    ⟨(some 7), none, .op (.move (.k (i64 32))), []⟩])
  (.seq (.seq (.ops [
    ⟨(some 35), none, .op (.move (.r 0)), []⟩,
    ⟨(some 36), none, .op (.nilCheck (.r 35)), []⟩,
    ⟨(some 37), none, .op (.fieldAddr 2 (.r 36)), []⟩,
    ⟨(some 38), none, .op (.load none (.r 37)), []⟩,
    ⟨(some 39), none, .op (.bin .eql .other (.r 38) (.k (i64 0))), []⟩])
  (.cond (.r 39)
  (.seq (.ops [
    ⟨(some 40), none, .op (.move (.r 0)), []⟩,
    ⟨(some 41), none, .op (.nilCheck (.r 40)), []⟩,
    ⟨(some 42), none, .op (.fieldAddr 3 (.r 41)), []⟩,
    ⟨(some 43), none, .op (.load none (.r 42)), []⟩,
    ⟨(some 7), none, .op (.move (.r 43)), []⟩])
  (.ops [
    ⟨(some 44), none, .op (.move (.r 0)), []⟩,
    ⟨(some 45), none, .op (.nilCheck (.r 44)), []⟩,
    ⟨(some 46), none, .op (.fieldAddr 1 (.r 45)), []⟩,
    ⟨none, none, .op (.store 1 (.r 46) (.k (bo true))), []⟩]))
  (.skip)))
  (.seq (.seq (.ops [
    ⟨(some 47), none, .op (.move (.r 0)), []⟩,
    ⟨(some 48), none, .op (.nilCheck (.r 47)), []⟩,
    ⟨(some 49), none, .op (.fieldAddr 2 (.r 48)), []⟩,
    ⟨(some 50), none, .op (.load none (.r 49)), []⟩,
    ⟨(some 51), none, .op (.bin .geq .other (.r 50) (.k (i64 0))), []⟩])
  (.cond (.r 51)
  (.ops [
    ⟨(some 52), none, .op (.move (.r 0)), []⟩,
    ⟨(some 53), none, .op (.move (.r 0)), []⟩,
    ⟨(some 54), none, .op (.nilCheck (.r 53)), []⟩,
    ⟨(some 55), none, .op (.fieldAddr 2 (.r 54)), []⟩,
    ⟨(some 56), none, .op (.load none (.r 55)), []⟩,
    ⟨(some 57), none, .op (.bin .sub .other (.r 56) (.k (i64 1))), []⟩,
    ⟨(some 58), none, .op (.nilCheck (.r 52)), []⟩,
    ⟨(some 59), none, .op (.fieldAddr 2 (.r 58)), []⟩,
    ⟨none, none, .op (.store 1 (.r 59) (.r 57)), []⟩])
  (.skip)))
  (.seq (.seq (.ops [
    ⟨(some 8), none, .op (.move (.k (i64 0))), []⟩])
  (.block 0 (.loop (.seq (.seq (.ops [
    ⟨(some 60), none, .op (.move (.r 8)), []⟩,
    ⟨(some 61), none, .op (.move (.r 7)), []⟩,
    ⟨(some 62), none, .op (.bin .lss .other (.r 60) (.r 61)), []⟩])
  (.cond (.r 62)
  (.skip)
  (.exit 0)))
  (.seq (.block 1 (.seq (.ops [
    ⟨(some 65), none, .op (.move (.r 0)), []⟩,
    ⟨(some 66), none, .op (.nilCheck (.r 65)), []⟩,
    ⟨(some 67), none, .op (.fieldAddr 0 (.r 66)), []⟩,
    ⟨(some 68), none, .op (.load none (.r 67)), []⟩,
    ⟨(some 69), none, .op (.move (.r 1)), []⟩,
    ⟨(some 70), none, .op (.idxAddr 1 (.r 68) (.r 69)), []⟩,
    ⟨(some 71), none, .op (.load none (.r 70)), []⟩,
    ⟨(some 72), none, .op (.move (.r 8)), []⟩,
    ⟨(some 73), none, .op (.idxAddr 1 (.r 71) (.r 72)), []⟩,
    ⟨none, none, .op (.store 1 (.r 73) (.k (.sc (.int .u8 0)))), []⟩])
  (.seq (.ops [
    ⟨(some 74), none, .op (.move (.r 8)), []⟩,
    ⟨(some 75), none, .op (.move (.r 2)), []⟩,
    ⟨(some 76), none, .op (.lenL (.r 75)), []⟩,
    ⟨(some 77), none, .op (.bin .lss .other (.r 74) (.r 76)), []⟩])
  (.cond (.r 77)
  (.ops [
    ⟨(some 78), none, .op (.move (.r 0)), []⟩,
    ⟨(some 79), none, .op (.nilCheck (.r 78)), []⟩,
    ⟨(some 80), none, .op (.fieldAddr 0 (.r 79)), []⟩,
    ⟨(some 81), none, .op (.load none (.r 80)), []⟩,
    ⟨(some 82), none, .op (.move (.r 1)), []⟩,
    ⟨(some 83), none, .op (.idxAddr 1 (.r 81) (.r 82)), []⟩,
    ⟨(some 84), none, .op (.load none (.r 83)), []⟩,
    ⟨(some 85), none, .op (.move (.r 8)), []⟩,
    ⟨(some 86), none, .op (.move (.r 2)), []⟩,
    ⟨(some 87), none, .op (.move (.r 8)), []⟩,
    ⟨(some 88), none, .op (.idxAddr 1 (.r 86) (.r 87)), []⟩,
    ⟨(some 89), none, .op (.load none (.r 88)), []⟩,
    ⟨(some 90), none, .op (.idxAddr 1 (.r 84) (.r 85)), []⟩,
    ⟨none, none, .op (.store 1 (.r 90) (.r 89)), []⟩])
  (.skip)))))
  (.ops [
    ⟨(some 63), none, .op (.move (.r 8)), []⟩,
    ⟨(some 64), none, .op (.bin .add .other (.r 63) (.k (i64 1))), []⟩,
    ⟨(some 8), none, .op (.move (.r 64)), []⟩]))))))
  (.seq (.seq (.ops [
    ⟨(some 91), none, .op (.move (.r 0)), []⟩,
    ⟨(some 92), none, .op (.nilCheck (.r 91)), []⟩,
    ⟨(some 93), none, .op (.fieldAddr 1 (.r 92)), []⟩,
    ⟨(some 94), none, .op (.load none (.r 93)), []⟩])
  (.cond (.r 94)
  (.seq (.ops [
    ⟨(some 6), none, .op (.move (.k (i64 21))), []⟩])
  (.ret))
  (.skip)))
  (.seq (.ops [
    ⟨(some 6), none, .op (.move (.k (i64 0))), []⟩])
  (.ret)))))))))))
theorem e15 : Try.f15.body.map (normCode Try.prog true Try.f15.ntmps) = some n15 := by kernel_rfl
theorem r15 : resOf Try.f15 = some [6] := by kernel_rfl

def n16 : NCode :=
  .seq (.ops [
    ⟨(some 4), none, .op (.move (.k (.lst [] .nil))), []⟩,
    ⟨(some 5), none, .op (.move (.k (i64 0))), []⟩])
  (.seq (.seq (.ops [
    ⟨(some 7), none, .op (.move (.r 0)), []⟩,
    ⟨(some 8), none, .op (.nilCheck (.r 7)), []⟩,
    ⟨(some 9), none, .op (.fieldAddr 1 (.r 8)), []⟩,
    ⟨(some 10), none, .op (.load none (.r 9)), []⟩])
  (.cond (.r 10)
  (.seq (.ops [
    ⟨(some 4), none, .op (.move (.k (.lst [] .nil))), []⟩,
    ⟨(some 5), none, .op (.move (.k (i64 21))), []⟩])
  (.ret))
  (.skip)))
  (.seq (.seq (.ops [
    ⟨(some 11), none, .op (.move (.r 1)), []⟩,
    ⟨(some 12), none, .op (.bin .lss .other (.r 11) (.k (i64 0))), []⟩,
    ⟨(some 13), none, .op (.move (.r 12)), []⟩,
    ⟨(some 14), (some (13, false)), .op (.move (.r 1)), []⟩,
    ⟨(some 15), (some (13, false)), .op (.move (.r 0)), []⟩,
    ⟨(some 16), (some (13, false)), .op (.nilCheck (.r 15)), []⟩,
    ⟨(some 17), (some (13, false)), .op (.fieldAddr 0 (.r 16)), []⟩,
    ⟨(some 18), (some (13, false)), .op (.load none (.r 17)), []⟩,
    ⟨(some 19), (some (13, false)), .op (.lenL (.r 18)), []⟩,
    ⟨(some 20), (some (13, false)), .op (.bin .geq .other (.r 14) (.r 19)), []⟩,
    ⟨(some 21), none, .op (.pick (.r 13) (.k (bo true)) (.r 20)), []⟩])
  (.cond (.r 21)
  (.seq (.ops [
    ⟨(some 4), none, .op (.move (.k (.lst [] .nil))), []⟩,
    ⟨(some 5), none, .op (.move (.k (i64 17))), []⟩])
  (.ret))
  (.skip)))
  (.seq (.ops [
    ⟨(some 6), none, .op (.move (.k (.lst [] .nil))), []⟩])
  (.seq (.ops [
    ⟨(some 22), none, .op (.move (.r 6)), []⟩,
    ⟨(some 23), none, .op (.move (.r 0)), []⟩,
    ⟨(some 24), none, .op (.nilCheck (.r 23)), []⟩,
    ⟨(some 25), none, .op (.fieldAddr 0 (.r 24)), []⟩,
    ⟨(some 26), none, .op (.load none (.r 25)), []⟩,
    ⟨(some 27), none, .op (.move (.r 1)), []⟩,
    ⟨(some 28), none, .op (.idxAddr 1 (.r 26) (.r 27)), []⟩,
    ⟨(some 29), none, .op (.load none (.r 28)), []⟩,
    ⟨(some 30), none, .op (.append true none 1 [(.sc (.int .u8 0))] (.r 22) (.r 29)), []⟩,
    ⟨(some 4), none, .op (.move (.r 30)), []⟩,
    ⟨(some 5), none, .op (.move (.k (i64 0))), []⟩])
  (.ret)))))
theorem e16 : Try.f16.body.map (normCode Try.prog true Try.f16.ntmps) = some n16 := by kernel_rfl
theorem r16 : resOf Try.f16 = some [4, 5] := by kernel_rfl

def n17 : NCode :=
  .seq (.ops [
    ⟨(some 6), none, .op (.move (.k (i64 0))), []⟩])
  (.seq (.seq (.ops [
    ⟨(some 7), none, .op (.move (.r 1)), []⟩,
    ⟨(some 8), none, .op (.bin .lss .other (.r 7) (.k (i64 0))), []⟩,
    ⟨(some 9), none, .op (.move (.r 8)), []⟩,
    ⟨(some 10), (some (9, false)), .op (.move (.r 2)), []⟩,
    ⟨(some 11), (some (9, false)), .op (.bin .lss .other (.r 10) (.k (i64 0))), []⟩,
    ⟨(some 12), none, .op (.pick (.r 9) (.k (bo true)) (.r 11)), []⟩,
    ⟨(some 13), none, .op (.move (.r 12)), []⟩,
    ⟨(some 14), (some (13, false)), .op (.move (.r 2)), []⟩,
    ⟨(some 15), (some (13, false)), .op (.bin .gtr .other (.r 14) (.k (i64 32))), []⟩,
    ⟨(some 16), none, .op (.pick (.r 13) (.k (bo true)) (.r 15)), []⟩])
  (.cond (.r 16)
  (.seq (.ops [
    ⟨(some 6), none, .op (.move (.k (i64 2))), []⟩])
  (.ret))
  (.skip)))
  (.seq (.seq (.ops [
    ⟨(some 17), none, .op (.move (.r 0)), []⟩,
    ⟨(some 18), none, .op (.nilCheck (.r 17)), []⟩,
    ⟨(some 19), none, .op (.fieldAddr 1 (.r 18)), []⟩,
    ⟨(some 20), none, .op (.load none (.r 19)), []⟩])
  (.cond (.r 20)
  (.seq (.ops [
    ⟨(some 6), none, .op (.move (.k (i64 21))), []⟩])
  (.ret))
  (.skip)))
  (.seq (.ops [
    ⟨(some 21), none, .op (.move (.r 0)), []⟩,
    ⟨(some 22), none, .op (.move (.r 1)), []⟩,
    ⟨(some 23), none, .op (.nilCheck (.r 21)), []⟩,
    ⟨(some 24), none, .op (.fieldAddr 2 (.r 23)), []⟩,
    ⟨none, none, .op (.store 1 (.r 24) (.r 22)), []⟩])
  (.seq (.ops [
    ⟨(some 25), none, .op (.move (.r 0)), []⟩,
    ⟨(some 26), none, .op (.move (.r 2)), []⟩,
    ⟨(some 27), none, .op (.nilCheck (.r 25)), []⟩,
    ⟨(some 28), none, .op (.fieldAddr 3 (.r 27)), []⟩,
    ⟨none, none, .op (.store 1 (.r 28) (.r 26)), []⟩])
  (.seq (.ops [
    ⟨(some 6), none, .op (.move (.k (i64 0))), []⟩])
  (.ret))))))
theorem e17 : Try.f17.body.map (normCode Try.prog true Try.f17.ntmps) = some n17 := by kernel_rfl
theorem r17 : resOf Try.f17 = some [6] := by kernel_rfl

def n18 : NCode :=
  .seq (.ops [
    ⟨(some 2), none, .op (.move (.r 0)), []⟩,
    ⟨(some 3), none, .op (.nilCheck (.r 2)), []⟩,
    ⟨(some 4), none, .op (.fieldAddr 1 (.r 3)), []⟩,
    ⟨none, none, .op (.store 1 (.r 4) (.k (bo false))), []⟩])
  (.ops [
    ⟨(some 5), none, .op (.move (.r 0)), []⟩,
    ⟨(some 6), none, .op (.nilCheck (.r 5)), []⟩,
    ⟨(some 7), none, .op (.fieldAddr 2 (.r 6)), []⟩,
    ⟨none, none, .op (.store 1 (.r 7) (.k (i64 (-1)))), []⟩])
theorem e18 : Try.f18.body.map (normCode Try.prog true Try.f18.ntmps) = some n18 := by kernel_rfl
theorem r18 : resOf Try.f18 = some [] := by kernel_rfl

def n19 : NCode :=
  .seq (.ops [
    ⟨(some 2), none, .op (.move (.k (.sc (.pointer none)))), []⟩])
  (.seq (.seq (.ops [
    ⟨(some 4), none, .op (.move (.r 0)), []⟩,
    ⟨(some 5), none, .op (.bin .eql .pointer (.r 4) (.k (.sc (.pointer none)))), []⟩])
  (.cond (.r 5)
  (.seq (.ops [
    ⟨(some 2), none, .op (.move (.k (.sc (.pointer none)))), []⟩])
  (.ret))
  (.skip)))
  (.seq (.ops [
    ⟨(some 6), none, .op (.move (.r 0)), []⟩,
    ⟨(some 7), none, .op (.nilCheck (.r 6)), []⟩,
    ⟨(some 8), none, .op (.load (some 5) (.r 7)), []⟩,
    ⟨(some 3), none, .op (.alloc [(.lst [] .nil), (bo false), (i64 0), (i64 0), (i64 0)]), []⟩,
    ⟨none, none, .op (.store 5 (.r 3) (.r 8)), []⟩])
  (.seq (.ops [
    ⟨(some 9), none, .op (.move (.r 0)), []⟩,
    ⟨(some 10), none, .op (.nilCheck (.r 9)), []⟩,
    ⟨(some 11), none, .op (.fieldAddr 0 (.r 10)), []⟩,
    ⟨(some 12), none, .op (.load none (.r 11)), []⟩,
    ⟨(some 13), none, .call (.k (.clos 27 [])) [(.r 12)], []⟩,
    ⟨(some 14), none, .op (.fieldAddr 0 (.r 3)), []⟩,
    ⟨none, none, .op (.store 1 (.r 14) (.r 13)), []⟩])
  (.seq (.ops [
    ⟨(some 2), none, .op (.move (.r 3)), []⟩])
  (.ret)))))
theorem e19 : Try.f19.body.map (normCode Try.prog true Try.f19.ntmps) = some n19 := by kernel_rfl
theorem r19 : resOf Try.f19 = some [2] := by kernel_rfl

def n20 : NCode :=
  .seq (.ops [
    ⟨(some 2), none, .op (.move (.k (.sc (.pointer none)))), []⟩])
  (.seq (.ops [
    ⟨(some 6), none, .op (.move (.r 0)), []⟩,
    ⟨(some 7), none, .op (.nilCheck (.r 6)), []⟩,
    ⟨(some 8), none, .op (.fieldAddr 1 (.r 7)), []⟩,
    ⟨(some 9), none, .op (.load none (.r 8)), []⟩,
    ⟨(some 10), none, .op (.move (.r 0)), []⟩,
    ⟨(some 11), none, .op (.nilCheck (.r 10)), []⟩,
    ⟨(some 12), none, .op (.fieldAddr 2 (.r 11)), []⟩,
    ⟨(some 13), none, .op (.load none (.r 12)), []⟩,
    ⟨(some 14), none, .op (.move (.r 0)), []⟩,
    ⟨(some 15), none, .op (.nilCheck (.r 14)), []⟩,
    ⟨(some 16), none, .op (.fieldAddr 3 (.r 15)), []⟩,
    ⟨(some 17), none, .op (.load none (.r 16)), []⟩,
    ⟨(some 18), none, .op (.move (.r 0)), []⟩,
    ⟨(some 19), none, .op (.nilCheck (.r 18)), []⟩,
    ⟨(some 20), none, .op (.fieldAddr 4 (.r 19)), []⟩,
    ⟨(some 21), none, .op (.load none (.r 20)), []⟩,
    ⟨(some 22), none, .op (.build [(.lst [] .nil), (bo false), (i64 0), (i64 0), (i64 0)] [(1, 1, (.r 9)), (2, 1, (.r 13)), (3, 1, (.r 17)), (4, 1, (.r 21))]), []⟩,
    ⟨(some 23), none, .op (.box (.r 22)), []⟩,
    ⟨(some 3), none, .op (.move (.r 23)), []⟩])
  (.seq (.seq (.ops [
    ⟨(some 4), none, .op (.move (.k (i64 0))), []⟩])
  (.block 0 (.loop (.seq (.seq (.ops [
    ⟨(some 24), none, .op (.move (.r 4)), []⟩,
    ⟨(some 25), none, .op (.move (.r 0)), []⟩,
    ⟨(some 26), none, .op (.nilCheck (.r 25)), []⟩,
    ⟨(some 27), none, .op (.fieldAddr 0 (.r 26)), []⟩,
    ⟨(some 28), none, .op (.load none (.r 27)), []⟩,
    ⟨(some 29), none, .op (.lenL (.r 28)), []⟩,
    ⟨(some 30), none, .op (.bin .lss .other (.r 24) (.r 29)), []⟩])
  (.cond (.r 30)
  (.skip)
  (.exit 0)))
  (.seq (.block 1 (.seq (.ops [
    ⟨(some 5), none, .op (.move (.k (.lst [] .nil))), []⟩])
  (.ops [
    ⟨(some 33), none, .op (.move (.r 3)), []⟩,
    ⟨(some 34), none, .op (.move (.r 3)), []⟩,
    ⟨(some 35), none, .op (.nilCheck (.r 34)), []⟩,
    ⟨(some 36), none, .op (.fieldAddr 0 (.r 35)), []⟩,
    ⟨(some 37), none, .op (.load none (.r 36)), []⟩,
    ⟨(some 38), none, .op (.move (.r 5)), []⟩,
    ⟨(some 39), none, .op (.move (.r 0)), []⟩,
    ⟨(some 40), none, .op (.nilCheck (.r 39)), []⟩,
    ⟨(some 41), none, .op (.fieldAddr 0 (.r 40)), []⟩,
    ⟨(some 42), none, .op (.load none (.r 41)), []⟩,
    ⟨(some 43), none, .op (.move (.r 4)), []⟩,
    ⟨(some 44), none, .op (.idxAddr 1 (.r 42) (.r 43)), []⟩,
    ⟨(some 45), none, .op (.load none (.r 44)), []⟩,
    ⟨(some 46), none, .op (.append true none 1 [(.sc (.int .u8 0))] (.r 38) (.r 45)), [⟨37, none, .load none (.r 36)⟩]⟩,
    ⟨(some 47), none, .op (.buildSlice none [(.lst [] .nil)] 1 [(0, (.r 46))]), []⟩,
    ⟨(some 48), none, .op (.append true none 24 [(.lst [] .nil)] (.r 37) (.r 47)), []⟩,
    ⟨(some 49), none, .op (.nilCheck (.r 33)), []⟩,
    ⟨(some 50), none, .op (.fieldAddr 0 (.r 49)), []⟩,
    ⟨none, none, .op (.store 1 (.r 50) (.r 48)), []⟩])))
  (.ops [
    ⟨(some 31), none, .op (.move (.r 4)), []⟩,
    ⟨(some 32), none, .op (.bin .add .other (.r 31) (.k (i64 1))), []⟩,
    ⟨(some 4), none, .op (.move (.r 32)), []⟩]))))))
  (.seq (.ops [
    ⟨(some 51), none, .op (.move (.r 3)), []⟩,
    ⟨(some 2), none, .op (.move (.r 51)), []⟩])
  (.ret))))
theorem e20 : Try.f20.body.map (normCode Try.prog true Try.f20.ntmps) = some n20 := by kernel_rfl
theorem r20 : resOf Try.f20 = some [2] := by kernel_rfl

def n21 : NCode :=
  .seq (.ops [
    ⟨(some 4), none, .op (.move (.k (bo false))), []⟩])
  (.seq (.seq (.ops [
    ⟨(some 8), none, .op (.move (.r 0)), []⟩,
    ⟨(some 10), none, .op (.move (.r 1)), []⟩,
    ⟨(some 11), none, .op (.nilCheck (.r 10)), []⟩,
    ⟨(some 12), none, .op (.fieldAddr 0 (.r 11)), []⟩,
    ⟨(some 13), none, .op (.load none (.r 12)), []⟩,
    ⟨(some 14), none, .op (.lenL (.r 13)), []⟩,
    ⟨(some 9), none, .call (.k (.clos 13 [])) [(.r 8)], [⟨13, none, .load none (.r 12)⟩]⟩,
    ⟨(some 15), none, .op (.bin .neq .other (.r 9) (.r 14)), []⟩,
    ⟨(some 16), none, .op (.move (.r 15)), []⟩,
    ⟨(some 17), (some (16, false)), .op (.move (.r 0)), []⟩,
    ⟨(some 19), (some (16, false)), .op (.move (.r 1)), []⟩,
    ⟨(some 20), (some (16, false)), .op (.nilCheck (.r 19)), []⟩,
    ⟨(some 21), (some (16, false)), .op (.fieldAddr 1 (.r 20)), []⟩,
    ⟨(some 22), (some (16, false)), .op (.load none (.r 21)), []⟩,
    ⟨(some 18), (some (16, false)), .call (.k (.clos 23 [])) [(.r 17)], [⟨22, (some (16, false)), .load none (.r 21)⟩]⟩,
    ⟨(some 23), (some (16, false)), .op (.bin .neq .bool (.r 18) (.r 22)), []⟩,
    ⟨(some 24), none, .op (.pick (.r 16) (.k (bo true)) (.r 23)), []⟩,
    ⟨(some 25), none, .op (.move (.r 24)), []⟩,
    ⟨(some 26), (some (25, false)), .op (.move (.r 0)), []⟩,
    ⟨(some 28), (some (25, false)), .op (.move (.r 1)), []⟩,
    ⟨(some 29), (some (25, false)), .op (.nilCheck (.r 28)), []⟩,
    ⟨(some 30), (some (25, false)), .op (.fieldAddr 4 (.r 29)), []⟩,
    ⟨(some 31), (some (25, false)), .op (.load none (.r 30)), []⟩,
    ⟨(some 27), (some (25, false)), .call (.k (.clos 24 [])) [(.r 26)], [⟨31, (some (25, false)), .load none (.r 30)⟩]⟩,
    ⟨(some 32), (some (25, false)), .op (.bin .neq .other (.r 27) (.r 31)), []⟩,
    ⟨(some 33), none, .op (.pick (.r 25) (.k (bo true)) (.r 32)), []⟩])
  (.cond (.r 33)
  (.seq (.ops [
    ⟨(some 4), none, .op (.move (.k (bo false))), []⟩])
  (.ret))
  (.skip)))
  (.seq (.seq (.ops [
    ⟨(some 34), none, .op (.move (.r 1)), []⟩,
    ⟨(some 35), none, .op (.nilCheck (.r 34)), []⟩,
    ⟨(some 36), none, .op (.fieldAddr 1 (.r 35)), []⟩,
    ⟨(some 37), none, .op (.load none (.r 36)), []⟩])
  (.cond (.r 37)
  (.seq (.ops [
    ⟨(some 4), none, .op (.move (.k (bo true))), []⟩])
  (.ret))
  (.skip)))
  (.seq (.seq (.ops [
    ⟨(some 5), none, .op (.move (.k (i64 0))), []⟩])
  (.block 0 (.loop (.seq (.seq (.ops [
    ⟨(some 38), none, .op (.move (.r 5)), []⟩,
    ⟨(some 39), none, .op (.move (.r 1)), []⟩,
    ⟨(some 40), none, .op (.nilCheck (.r 39)), []⟩,
    ⟨(some 41), none, .op (.fieldAddr 0 (.r 40)), []⟩,
    ⟨(some 42), none, .op (.load none (.r 41)), []⟩,
    ⟨(some 43), none, .op (.lenL (.r 42)), []⟩,
    ⟨(some 44), none, .op (.bin .lss .other (.r 38) (.r 43)), []⟩])
  (.cond (.r 44)
  (.skip)
  (.exit 0)))
  (.seq (.block 1 (.seq (.ops [
    ⟨(some 48), none, .op (.move (.r 0)), []⟩,
    ⟨(some 49), none, .op (.move (.r 5)), []⟩,
    ⟨(some 50), none, .call (.k (.clos 10 [])) [(.r 48), (.r 49)], []⟩,
    ⟨(some 47), none, .op (.move (.r 50)), []⟩,
    ⟨(some 51), none, .op (.extract 0 (.r 47)), []⟩,
    ⟨(some 52), none, .op (.extract 1 (.r 47)), []⟩,
    ⟨(some 6), none, .op (.move (.r 51)), []⟩,
    ⟨(some 7), none, .op (.move (.r 52)), []⟩])
  (.seq (.ops [
    ⟨(some 53), none, .op (.move (.r 6)), []⟩,
    ⟨(some 54), none, .op (.b2s (.r 53)), []⟩,
    ⟨(some 55), none, .op (.move (.r 1)), []⟩,
    ⟨(some 56), none, .op (.nilCheck (.r 55)), []⟩,
    ⟨(some 57), none, .op (.fieldAddr 0 (.r 56)), []⟩,
    ⟨(some 58), none, .op (.load none (.r 57)), []⟩,
    ⟨(some 59), none, .op (.move (.r 5)), []⟩,
    ⟨(some 60), none, .op (.idxAddr 1 (.r 58) (.r 59)), []⟩,
    ⟨(some 61), none, .op (.load none (.r 60)), []⟩,
    ⟨(some 62), none, .op (.b2s (.r 61)), []⟩,
    ⟨(some 63), none, .op (.bin .neq .other (.r 54) (.r 62)), []⟩,
    ⟨(some 64), none, .op (.move (.r 63)), []⟩,
    ⟨(some 65), (some (64, false)), .op (.move (.r 7)), []⟩,
    ⟨(some 66), (some (64, false)), .op (.bin .neq .other (.r 65) (.k (i64 0))), []⟩,
    ⟨(some 67), none, .op (.pick (.r 64) (.k (bo true)) (.r 66)), []⟩])
  (.cond (.r 67)
  (.seq (.ops [
    ⟨(some 4), none, .op (.move (.k (bo false))), []⟩])
  (.ret))
  (.skip)))))
  (.ops [
    ⟨(some 45), none, .op (.move (.r 5)), []⟩,
    ⟨(some 46), none, .op (.bin .add .other (.r 45) (.k (i64 1))), []⟩,
    ⟨(some 5), none, .op (.move (.r 46)), []⟩]))))))
  (.seq (.ops [
    ⟨(some 4), none, .op (.move (.k (bo true))), []⟩])
  (.ret)))))
theorem e21 : Try.f21.body.map (normCode Try.prog true Try.f21.ntmps) = some n21 := by kernel_rfl
theorem r21 : resOf Try.f21 = some [4] := by kernel_rfl

def n22 : NCode :=
  .seq (.ops [
    ⟨(some 4), none, .op (.move (.k (bo false))), []⟩])
  (.seq (.ops [
    ⟨(some 5), none, .op (.move (.r 0)), []⟩,
    ⟨(some 6), none, .op (.bin .neq .pointer (.r 5) (.k (.sc (.pointer none)))), []⟩,
    ⟨(some 7), none, .op (.move (.r 6)), []⟩,
    ⟨(some 8), (some (7, true)), .op (.move (.r 1)), []⟩,
    ⟨(some 9), (some (7, true)), .op (.bin .neq .pointer (.r 8) (.k (.sc (.pointer none)))), []⟩,
    ⟨(some 10), none, .op (.pick (.r 7) (.r 9) (.k (bo false))), []⟩,
    ⟨(some 11), none, .op (.move (.r 10)), []⟩,
    ⟨(some 12), (some (11, true)), .op (.move (.r 0)), []⟩,
    ⟨(some 13), (some (11, true)), .op (.nilCheck (.r 12)), []⟩,
    ⟨(some 14), (some (11, true)), .op (.fieldAddr 0 (.r 13)), []⟩,
    ⟨(some 15), (some (11, true)), .op (.load none (.r 14)), []⟩,
    ⟨(some 16), (some (11, true)), .op (.move (.r 1)), []⟩,
    ⟨(some 17), (some (11, true)), .op (.nilCheck (.r 16)), []⟩,
    ⟨(some 18), (some (11, true)), .op (.fieldAddr 0 (.r 17)), []⟩,
    ⟨(some 19), (some (11, true)), .op (.load none (.r 18)), []⟩,
    ⟨(some 20), (some (11, true)), .call (.k (.clos 28 [])) [(.r 15), (.r 19)], []⟩,
    ⟨(some 21), none, .op (.pick (.r 11) (.r 20) (.k (bo false))), []⟩,
    ⟨(some 4), none, .op (.move (.r 21)), []⟩])
  (.ret))
theorem e22 : Try.f22.body.map (normCode Try.prog true Try.f22.ntmps) = some n22 := by kernel_rfl
theorem r22 : resOf Try.f22 = some [4] := by kernel_rfl

def n23 : NCode :=
  .seq (.ops [
    ⟨(some 2), none, .op (.move (.k (bo false))), []⟩])
  (.seq (.ops [
    ⟨(some 3), none, .op (.move (.r 0)), []⟩,
    ⟨(some 4), none, .op (.bin .neq .pointer (.r 3) (.k (.sc (.pointer none)))), []⟩,
    ⟨(some 5), none, .op (.move (.r 4)), []⟩,
    ⟨(some 6), (some (5, true)), .op (.move (.r 0)), []⟩,
    ⟨(some 7), (some (5, true)), .op (.nilCheck (.r 6)), []⟩,
    ⟨(some 8), (some (5, true)), .op (.fieldAddr 1 (.r 7)), []⟩,
    ⟨(some 9), (some (5, true)), .op (.load none (.r 8)), []⟩,
    ⟨(some 10), none, .op (.pick (.r 5) (.r 9) (.k (bo false))), []⟩,
    ⟨(some 2), none, .op (.move (.r 10)), []⟩])
  (.ret))
theorem e23 : Try.f23.body.map (normCode Try.prog true Try.f23.ntmps) = some n23 := by kernel_rfl
theorem r23 : resOf Try.f23 = some [2] := by kernel_rfl

def n24 : NCode :=
  .seq (.ops [
    ⟨(some 2), none, .op (.move (.k (i64 0))), []⟩])
  (.seq (.seq (.ops [
    ⟨(some 3), none, .op (.move (.r 0)), []⟩,
    ⟨(some 4), none, .op (.bin .eql .pointer (.r 3) (.k (.sc (.pointer none)))), []⟩])
  (.cond (.r 4)
  (.seq (.ops [
    ⟨(some 2), none, .op (.move (.k (i64 0))), []⟩])
  (.ret))
  (.skip)))
  (.seq (.ops [
    ⟨(some 5), none, .op (.move (.r 0)), []⟩,
    ⟨(some 6), none, .op (.nilCheck (.r 5)), []⟩,
    ⟨(some 7), none, .op (.fieldAddr 4 (.r 6)), []⟩,
    ⟨(some 8), none, .op (.load none (.r 7)), []⟩,
    ⟨(some 2), none, .op (.move (.r 8)), []⟩])
  (.ret)))
theorem e24 : Try.f24.body.map (normCode Try.prog true Try.f24.ntmps) = some n24 := by kernel_rfl
theorem r24 : resOf Try.f24 = some [2] := by kernel_rfl

def n25 : NCode :=
  .seq (.ops [
    ⟨(some 4), none, .op (.move (.k (i64 0))), []⟩])
  (.seq (.seq (.ops [
    ⟨(some 6), none, .op (.move (.r 0)), []⟩,
    ⟨(some 7), none, .call (.k (.clos 29 [])) [(.r 6)], []⟩,
    ⟨(some 5), none, .op (.move (.r 7)), []⟩])
  (.seq (.ops [
    ⟨(some 8), none, .op (.move (.r 5)), []⟩,
    ⟨(some 9), none, .op (.bin .neq .other (.r 8) (.k (i64 0))), []⟩])
  (.cond (.r 9)
  (.seq (.ops [
    ⟨(some 10), none, .op (.move (.r 5)), []⟩,
    ⟨(some 4), none, .op (.move (.r 10)), []⟩])
  (.ret))
  (.skip))))
  (.seq (.seq (.ops [
    ⟨(some 11), none, .op (.move (.r 1)), []⟩,
    ⟨(some 12), none, .op (.bin .lss .other (.r 11) (.k (i64 0))), []⟩,
    ⟨(some 13), none, .op (.move (.r 12)), []⟩,
    ⟨(some 14), (some (13, false)), .op (.move (.r 1)), []⟩,
    ⟨(some 15), (some (13, false)), .op (.move (.r 0)), []⟩,
    ⟨(some 16), (some (13, false)), .op (.nilCheck (.r 15)), []⟩,
    ⟨(some 17), (some (13, false)), .op (.fieldAddr 0 (.r 16)), []⟩,
    ⟨(some 18), (some (13, false)), .op (.load none (.r 17)), []⟩,
    ⟨(some 19), (some (13, false)), .op (.lenL (.r 18)), []⟩,
    ⟨(some 20), (some (13, false)), .op (.bin .geq .other (.r 14) (.r 19)), []⟩,
    ⟨(some 21), none, .op (.pick (.r 13) (.k (bo true)) (.r 20)), []⟩])
  (.cond (.r 21)
  (.seq (.ops [
    ⟨(some 4), none, .op (.move (.k (i64 17))), []⟩])
  (.ret))
  (.skip)))
  (.seq (.ops [
    ⟨(some 4), none, .op (.move (.k (i64 0))), []⟩])
  (.ret))))
theorem e25 : Try.f25.body.map (normCode Try.prog true Try.f25.ntmps) = some n25 := by kernel_rfl
theorem r25 : resOf Try.f25 = some [4] := by kernel_rfl

def n26 : NCode :=
  .seq (.ops [
    ⟨(some 2), none, .op (.move (.k (.lst [] .nil))), []⟩])
  (.seq (.seq (.ops [
    ⟨(some 3), none, .op (.move (.r 0)), []⟩,
    ⟨(some 4), none, .op (.bin .eql .slice (.r 3) (.k (.lst [] .nil))), []⟩])
  (.cond (.r 4)
  (.seq (.ops [
    ⟨(some 2), none, .op (.move (.k (.lst [] .nil))), []⟩])
  (.ret))
  (.skip)))
  (.seq (.ops [
    ⟨(some 5), none, .op (.buildSlice none [(.sc (.int .u8 0))] 0 []), []⟩,
    ⟨(some 6), none, .op (.move (.r 0)), []⟩,
    ⟨(some 7), none, .op (.append true none 1 [(.sc (.int .u8 0))] (.r 5) (.r 6)), []⟩,
    ⟨(some 2), none, .op (.move (.r 7)), []⟩])
  (.ret)))
theorem e26 : Try.f26.body.map (normCode Try.prog true Try.f26.ntmps) = some n26 := by kernel_rfl
theorem r26 : resOf Try.f26 = some [2] := by kernel_rfl

def n27 : NCode :=
  .seq (.ops [
    ⟨(some 2), none, .op (.move (.k (.lst [] .nil))), []⟩])
  (.seq (.seq (.ops [
    ⟨(some 3), none, .op (.move (.r 0)), []⟩,
    ⟨(some 4), none, .op (.bin .eql .slice (.r 3) (.k (.lst [] .nil))), []⟩])
  (.cond (.r 4)
  (.seq (.ops [
    ⟨(some 2), none, .op (.move (.k (.lst [] .nil))), []⟩])
  (.ret))
  (.skip)))
  (.seq (.ops [
    ⟨(some 5), none, .op (.buildSlice (some 32) [(.sc (.int .u8 0)), (.sc (.int .u8 0)), (.sc (.int .u8 0)), (.sc (.int .u8 0)), (.sc (.int .u8 0)), (.sc (.int .u8 0)), (.sc (.int .u8 0)), (.sc (.int .u8 0)), (.sc (.int .u8 0)), (.sc (.int .u8 0)), (.sc (.int .u8 0)), (.sc (.int .u8 0)), (.sc (.int .u8 0)), (.sc (.int .u8 0)), (.sc (.int .u8 0)), (.sc (.int .u8 0)), (.sc (.int .u8 0)), (.sc (.int .u8 0)), (.sc (.int .u8 0)), (.sc (.int .u8 0)), (.sc (.int .u8 0)), (.sc (.int .u8 0)), (.sc (.int .u8 0)), (.sc (.int .u8 0)), (.sc (.int .u8 0)), (.sc (.int .u8 0)), (.sc (.int .u8 0)), (.sc (.int .u8 0)), (.sc (.int .u8 0)), (.sc (.int .u8 0)), (.sc (.int .u8 0)), (.sc (.int .u8 0))] 0 []), []⟩,
    ⟨(some 6), none, .op (.move (.r 0)), []⟩,
    ⟨(some 7), none, .op (.append true (some 32) 32 [(.sc (.int .u8 0)), (.sc (.int .u8 0)), (.sc (.int .u8 0)), (.sc (.int .u8 0)), (.sc (.int .u8 0)), (.sc (.int .u8 0)), (.sc (.int .u8 0)), (.sc (.int .u8 0)), (.sc (.int .u8 0)), (.sc (.int .u8 0)), (.sc (.int .u8 0)), (.sc (.int .u8 0)), (.sc (.int .u8 0)), (.sc (.int .u8 0)), (.sc (.int .u8 0)), (.sc (.int .u8 0)), (.sc (.int .u8 0)), (.sc (.int .u8 0)), (.sc (.int .u8 0)), (.sc (.int .u8 0)), (.sc (.int .u8 0)), (.sc (.int .u8 0)), (.sc (.int .u8 0)), (.sc (.int .u8 0)), (.sc (.int .u8 0)), (.sc (.int .u8 0)), (.sc (.int .u8 0)), (.sc (.int .u8 0)), (.sc (.int .u8 0)), (.sc (.int .u8 0)), (.sc (.int .u8 0)), (.sc (.int .u8 0))] (.r 5) (.r 6)), []⟩,
    ⟨(some 2), none, .op (.move (.r 7)), []⟩])
  (.ret)))
theorem e27 : Try.f27.body.map (normCode Try.prog true Try.f27.ntmps) = some n27 := by kernel_rfl
theorem r27 : resOf Try.f27 = some [2] := by kernel_rfl

def n28 : NCode :=
  .seq (.ops [
    ⟨(some 4), none, .op (.move (.k (bo false))), []⟩])
  (.seq (.seq (.ops [
    ⟨(some 6), none, .op (.move (.r 0)), []⟩,
    ⟨(some 7), none, .op (.lenL (.r 6)), []⟩,
    ⟨(some 8), none, .op (.move (.r 1)), []⟩,
    ⟨(some 9), none, .op (.lenL (.r 8)), []⟩,
    ⟨(some 10), none, .op (.bin .neq .other (.r 7) (.r 9)), []⟩])
  (.cond (.r 10)
  (.seq (.ops [
    ⟨(some 4), none, .op (.move (.k (bo false))), []⟩])
  (.ret))
  (.skip)))
  (.seq (.seq (.ops [
    ⟨(some 11), none, .op (.move (.r 0)), []⟩,
    ⟨(some 12), none, .op (.lenL (.r 11)), []⟩,
    ⟨(some 13), none, .op (.move (.k (i64 0))), []⟩])
  (.block 0 (.loop (.seq (.ops [
    ⟨(some 14), none, .op (.bin .lss .other (.r 13) (.r 12)), []⟩])
  (.seq (.cond (.r 14)
  (.skip)
  (.exit 0))
  (.seq (.block 1 (.seq (.ops [
    ⟨(some 15), none, .op (.move (.r 13)), []⟩,
    ⟨(some 5), none, .op (.move (.r 15)), []⟩])
  (.seq (.ops [
    ⟨(some 16), none, .op (.move (.r 0)), []⟩,
    ⟨(some 17), none, .op (.move (.r 5)), []⟩,
    ⟨(some 18), none, .op (.idxAddr 32 (.r 16) (.r 17)), []⟩,
    ⟨(some 19), none, .op (.load (some 32) (.r 18)), []⟩,
    ⟨(some 20), none, .op (.move (.r 1)), []⟩,
    ⟨(some 21), none, .op (.move (.r 5)), []⟩,
    ⟨(some 22), none, .op (.idxAddr 32 (.r 20) (.r 21)), []⟩,
    ⟨(some 23), none, .op (.load (some 32) (.r 22)), []⟩,
    ⟨(some 24), none, .op (.bin .neq (.plain [.i, .i, .i, .i, .i, .i, .i, .i, .i, .i, .i, .i, .i, .i, .i, .i, .i, .i, .i, .i, .i, .i, .i, .i, .i, .i, .i, .i, .i, .i, .i, .i]) (.r 19) (.r 23)), []⟩])
  (.cond (.r 24)
  (.seq (.ops [
    ⟨(some 4), none, .op (.move (.k (bo false))), []⟩])
  (.ret))
  (.skip)))))
  (.ops [
    ⟨(some 25), none, .op (.bin .add .other (.r 13) (.k (i64 1))), []⟩,
    ⟨(some 13), none, .op (.move (.r 25)), []⟩])))))))
  (.seq (.ops [
    ⟨(some 4), none, .op (.move (.k (bo true))), []⟩])
  (.ret))))
theorem e28 : Try.f28.body.map (normCode Try.prog true Try.f28.ntmps) = some n28 := by kernel_rfl
theorem r28 : resOf Try.f28 = some [4] := by kernel_rfl

def n29 : NCode :=
  .seq (.ops [
    ⟨(some 2), none, .op (.move (.k (i64 0))), []⟩])
  (.seq (.block 0 (.seq (.ops [
    ⟨(some 4), none, .op (.move (.r 0)), []⟩,
    ⟨(some 5), none, .op (.bin .eql .pointer (.r 4) (.k (.sc (.pointer none)))), []⟩,
    ⟨(some 3), none, .op (.move (.r 5)), []⟩])
  (.cond (.r 3)
  (.seq (.ops [
    ⟨(some 2), none, .op (.move (.k (i64 1))), []⟩])
  (.ret))
  (.seq (.ops [
    ⟨(some 7), none, .op (.move (.r 0)), []⟩,
    ⟨(some 8), none, .op (.nilCheck (.r 7)), []⟩,
    ⟨(some 9), none, .op (.fieldAddr 1 (.r 8)), []⟩,
    ⟨(some 10), none, .op (.load none (.r 9)), []⟩,
    ⟨(some 6), none, .op (.move (.r 10)), []⟩])
  (.cond (.r 6)
  (.seq (.ops [
    ⟨(some 2), none, .op (.move (.k (i64 21))), []⟩])
  (.ret))
  (.skip))))))
  (.seq (.ops [
    ⟨(some 2), none, .op (.move (.k (i64 0))), []⟩])
  (.ret)))
theorem e29 : Try.f29.body.map (normCode Try.prog true Try.f29.ntmps) = some n29 := by kernel_rfl
theorem r29 : resOf Try.f29 = some [2] := by kernel_rfl

end Go.Proofs.Ytpmbebdcbejlkac.Moi
